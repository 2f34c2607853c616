/-
  No cell of these rows narrows 'for every input' (looked for: loops, veiled, ifaces, maps, wideKeys, modest, calm, conditions, laid).
  DERIVED. THE GIVEN ROWS OF THIS SEAT. 7 by the template 'for every input the law returns true; each argument reads behind the call as it read before'; 0 by the template 'total and deterministic' (their statements: YtjfjbkocopaehaaTotals.lean).
  GIVEN WITH THE SEED: the statements are not yours to turn. If you find one false, say at which input.
  Laid BY PROGRAM, IN A SANDBOX (cutbox-rows.mjs): the forced cells as the released guide's own fill.sh prints them over the translation 3f7c132f6bf559c9… (all of the seat's roots in one cut). By AI agents, Wed Nov 11 2026. No macro, syntax, notation, axiom, sorry.
-/
import Derived.Test.YtjfjbkocopaehaaChecked
import GoSem.Claim
import GoSem.ClaimJoined
import GoSem.ClaimMapViews
import Derived.JoinedTies
import Derived.KernelRfl
namespace Go.Proofs.Ytjfjbkocopaehaa
/- THE CELL 'sum', in the pinned program and in every row, IS THE sha256 OF THE DUMP (.gsa) THAT YtjfjbkocopaehaaProg.lean LOADS. Nothing in Lean hashes anything: it is a label: what it is worth is what the hold of that sum in a sandbox is worth. -/
noncomputable def Try.pinned : Pinned := { name := "ytjfjbkocopaehaa", sum := "3f7c132f6bf559c959e7be7773c24a2ec362f4993d2189ac6e26f1ee591b0454", checked := Try.checked }
namespace Rows
def none {H : Type} : Left H := { results := [], args := [] }

/-- 'obscuralaw13.KeysTurned': WHATEVER THE INPUT: true; the input reads as it did. -/
def keysTurnedSpec : ChangeSpec := { name := "keysTurned", fn := fun _ => fun
  | [d1, d2, d3] => { results := [.lit (.bool true)], args := [d1, d2, d3] }
  | _ => none }
def keysTurnedRow : OpenClaim := { program := "ytjfjbkocopaehaa", sum := "3f7c132f6bf559c959e7be7773c24a2ec362f4993d2189ac6e26f1ee591b0454", func := "obscura/obscuralaw13.KeysTurned", spec := "keysTurned", unfollowed := true, recurses := true, apart := false }
def KeysTurnedSaid : Prop := keysTurnedRow.holds Try.pinned (OpenSpec.ofChange keysTurnedSpec)

/-- ITS FALSE NEIGHBOUR: 'it returns false'. Refute it at one input. -/
def keysTurnedWrong : ChangeSpec := { name := "keysTurned", fn := fun _ => fun
  | [d1, d2, d3] => { results := [.lit (.bool false)], args := [d1, d2, d3] }
  | _ => none }
def KeysTurnedWrongFalsely : Prop := keysTurnedRow.holds Try.pinned (OpenSpec.ofChange keysTurnedWrong)

/-- 'obscuralaw13.KeysGroup': WHATEVER THE INPUT: true; the input reads as it did. -/
def keysGroupSpec : ChangeSpec := { name := "keysGroup", fn := fun _ => fun
  | [d1, d2, d3] => { results := [.lit (.bool true)], args := [d1, d2, d3] }
  | _ => none }
def keysGroupRow : OpenClaim := { program := "ytjfjbkocopaehaa", sum := "3f7c132f6bf559c959e7be7773c24a2ec362f4993d2189ac6e26f1ee591b0454", func := "obscura/obscuralaw13.KeysGroup", spec := "keysGroup", unfollowed := true, recurses := true, apart := false }
def KeysGroupSaid : Prop := keysGroupRow.holds Try.pinned (OpenSpec.ofChange keysGroupSpec)

/-- ITS FALSE NEIGHBOUR: 'it returns false'. Refute it at one input. -/
def keysGroupWrong : ChangeSpec := { name := "keysGroup", fn := fun _ => fun
  | [d1, d2, d3] => { results := [.lit (.bool false)], args := [d1, d2, d3] }
  | _ => none }
def KeysGroupWrongFalsely : Prop := keysGroupRow.holds Try.pinned (OpenSpec.ofChange keysGroupWrong)

/-- 'obscuralaw12.ParamsDefaults': WHATEVER THE INPUT: true; the input reads as it did. -/
def paramsDefaultsSpec : ChangeSpec := { name := "paramsDefaults", fn := fun _ => fun
  | [d1, d2, d3] => { results := [.lit (.bool true)], args := [d1, d2, d3] }
  | _ => none }
def paramsDefaultsRow : OpenClaim := { program := "ytjfjbkocopaehaa", sum := "3f7c132f6bf559c959e7be7773c24a2ec362f4993d2189ac6e26f1ee591b0454", func := "obscura/obscuralaw12.ParamsDefaults", spec := "paramsDefaults", unfollowed := true, recurses := true, apart := false }
def ParamsDefaultsSaid : Prop := paramsDefaultsRow.holds Try.pinned (OpenSpec.ofChange paramsDefaultsSpec)

/-- ITS FALSE NEIGHBOUR: 'it returns false'. Refute it at one input. -/
def paramsDefaultsWrong : ChangeSpec := { name := "paramsDefaults", fn := fun _ => fun
  | [d1, d2, d3] => { results := [.lit (.bool false)], args := [d1, d2, d3] }
  | _ => none }
def ParamsDefaultsWrongFalsely : Prop := paramsDefaultsRow.holds Try.pinned (OpenSpec.ofChange paramsDefaultsWrong)

/-- 'obscuralaw13.KeysForms': WHATEVER THE INPUT: true; the input reads as it did. -/
def keysFormsSpec : ChangeSpec := { name := "keysForms", fn := fun _ => fun
  | [d1, d2] => { results := [.lit (.bool true)], args := [d1, d2] }
  | _ => none }
def keysFormsRow : OpenClaim := { program := "ytjfjbkocopaehaa", sum := "3f7c132f6bf559c959e7be7773c24a2ec362f4993d2189ac6e26f1ee591b0454", func := "obscura/obscuralaw13.KeysForms", spec := "keysForms", unfollowed := true, recurses := true, apart := false }
def KeysFormsSaid : Prop := keysFormsRow.holds Try.pinned (OpenSpec.ofChange keysFormsSpec)

/-- ITS FALSE NEIGHBOUR: 'it returns false'. Refute it at one input. -/
def keysFormsWrong : ChangeSpec := { name := "keysForms", fn := fun _ => fun
  | [d1, d2] => { results := [.lit (.bool false)], args := [d1, d2] }
  | _ => none }
def KeysFormsWrongFalsely : Prop := keysFormsRow.holds Try.pinned (OpenSpec.ofChange keysFormsWrong)

/-- 'obscuralaw13.KeysSecrets': WHATEVER THE INPUT: true; the input reads as it did. -/
def keysSecretsSpec : ChangeSpec := { name := "keysSecrets", fn := fun _ => fun
  | [d1, d2, d3] => { results := [.lit (.bool true)], args := [d1, d2, d3] }
  | _ => none }
def keysSecretsRow : OpenClaim := { program := "ytjfjbkocopaehaa", sum := "3f7c132f6bf559c959e7be7773c24a2ec362f4993d2189ac6e26f1ee591b0454", func := "obscura/obscuralaw13.KeysSecrets", spec := "keysSecrets", unfollowed := true, recurses := true, apart := false }
def KeysSecretsSaid : Prop := keysSecretsRow.holds Try.pinned (OpenSpec.ofChange keysSecretsSpec)

/-- ITS FALSE NEIGHBOUR: 'it returns false'. Refute it at one input. -/
def keysSecretsWrong : ChangeSpec := { name := "keysSecrets", fn := fun _ => fun
  | [d1, d2, d3] => { results := [.lit (.bool false)], args := [d1, d2, d3] }
  | _ => none }
def KeysSecretsWrongFalsely : Prop := keysSecretsRow.holds Try.pinned (OpenSpec.ofChange keysSecretsWrong)

/-- 'obscuralaw12.ParamsChecks': WHATEVER THE INPUT: true; the input reads as it did. -/
def paramsChecksSpec : ChangeSpec := { name := "paramsChecks", fn := fun _ => fun
  | [d1, d2, d3] => { results := [.lit (.bool true)], args := [d1, d2, d3] }
  | _ => none }
def paramsChecksRow : OpenClaim := { program := "ytjfjbkocopaehaa", sum := "3f7c132f6bf559c959e7be7773c24a2ec362f4993d2189ac6e26f1ee591b0454", func := "obscura/obscuralaw12.ParamsChecks", spec := "paramsChecks", unfollowed := true, recurses := true, apart := false }
def ParamsChecksSaid : Prop := paramsChecksRow.holds Try.pinned (OpenSpec.ofChange paramsChecksSpec)

/-- ITS FALSE NEIGHBOUR: 'it returns false'. Refute it at one input. -/
def paramsChecksWrong : ChangeSpec := { name := "paramsChecks", fn := fun _ => fun
  | [d1, d2, d3] => { results := [.lit (.bool false)], args := [d1, d2, d3] }
  | _ => none }
def ParamsChecksWrongFalsely : Prop := paramsChecksRow.holds Try.pinned (OpenSpec.ofChange paramsChecksWrong)

/-- 'obscuralaw12.ParamsValid': WHATEVER THE INPUT: true; the input reads as it did. -/
def paramsValidSpec : ChangeSpec := { name := "paramsValid", fn := fun _ => fun
  | [d1, d2, d3] => { results := [.lit (.bool true)], args := [d1, d2, d3] }
  | _ => none }
def paramsValidRow : OpenClaim := { program := "ytjfjbkocopaehaa", sum := "3f7c132f6bf559c959e7be7773c24a2ec362f4993d2189ac6e26f1ee591b0454", func := "obscura/obscuralaw12.ParamsValid", spec := "paramsValid", unfollowed := true, recurses := true, apart := false }
def ParamsValidSaid : Prop := paramsValidRow.holds Try.pinned (OpenSpec.ofChange paramsValidSpec)

/-- ITS FALSE NEIGHBOUR: 'it returns false'. Refute it at one input. -/
def paramsValidWrong : ChangeSpec := { name := "paramsValid", fn := fun _ => fun
  | [d1, d2, d3] => { results := [.lit (.bool false)], args := [d1, d2, d3] }
  | _ => none }
def ParamsValidWrongFalsely : Prop := paramsValidRow.holds Try.pinned (OpenSpec.ofChange paramsValidWrong)

/- THE SECOND FORM. 'bulk': how many values and letters a reading holds, each counted each time it is reached (what is shared counts as often as it is met; a slice's spare places count too). A statement '..UptoSaid' is the law's where the arguments, and the package variables that the reading takes, are together of bulk at most 1048576: NARROWER than '..Said'. Prove '..Said' where nothing that the law and all that it calls make is longer than what came in: it says more and counts as full. Else prove '..UptoSaid'. A law counts once. -/
mutual
def uptoBulk {H : Type} : DataW H → Nat
  | .lit (.string bytes) => bytes.length + 1
  | .lit _ => 1
  | .nil => 1
  | .ptr d => uptoBulk d + 1
  | .slice elems spare => uptoBulkAll elems + uptoBulkAll spare + 1
  | .agg parts => uptoBulkAll parts + 1
  | .iface _ d => uptoBulk d + 1
  | .map entries => uptoBulkEntries entries + 1
  | .held _ => 1
def uptoBulkAll {H : Type} : List (DataW H) → Nat
  | [] => 0
  | d :: r => uptoBulk d + uptoBulkAll r
def uptoBulkEntries {H : Type} : List (Lit × DataW H) → Nat
  | [] => 0
  | x :: r => uptoBulkEntry x + uptoBulkEntries r
def uptoBulkEntry {H : Type} : Lit × DataW H → Nat
  | (.string bytes, d) => bytes.length + uptoBulk d + 1
  | (_, d) => uptoBulk d + 1
 end
def uptoSmall : (H : Type) → List (DataW H) → Bool := fun _ ds => decide (uptoBulkAll ds ≤ 1048576)
def OpenSpec.upto (s : _root_.Go.ChangeSpec) : _root_.Go.OpenSpec := { _root_.Go.OpenSpec.ofChange s with cond := some uptoSmall }

/-- 'obscuralaw13.KeysTurned', WHERE WHAT IT READS IS OF BULK AT MOST 1048576: true; the input reads as it did. -/
def keysTurnedUptoRow : OpenClaim := { program := "ytjfjbkocopaehaa", sum := "3f7c132f6bf559c959e7be7773c24a2ec362f4993d2189ac6e26f1ee591b0454", func := "obscura/obscuralaw13.KeysTurned", spec := "keysTurned", unfollowed := true, recurses := true, apart := false, narrowed := true }
def KeysTurnedUptoSaid : Prop := keysTurnedUptoRow.holds Try.pinned (OpenSpec.upto keysTurnedSpec)

/-- 'obscuralaw13.KeysGroup', WHERE WHAT IT READS IS OF BULK AT MOST 1048576: true; the input reads as it did. -/
def keysGroupUptoRow : OpenClaim := { program := "ytjfjbkocopaehaa", sum := "3f7c132f6bf559c959e7be7773c24a2ec362f4993d2189ac6e26f1ee591b0454", func := "obscura/obscuralaw13.KeysGroup", spec := "keysGroup", unfollowed := true, recurses := true, apart := false, narrowed := true }
def KeysGroupUptoSaid : Prop := keysGroupUptoRow.holds Try.pinned (OpenSpec.upto keysGroupSpec)

/-- 'obscuralaw12.ParamsDefaults', WHERE WHAT IT READS IS OF BULK AT MOST 1048576: true; the input reads as it did. -/
def paramsDefaultsUptoRow : OpenClaim := { program := "ytjfjbkocopaehaa", sum := "3f7c132f6bf559c959e7be7773c24a2ec362f4993d2189ac6e26f1ee591b0454", func := "obscura/obscuralaw12.ParamsDefaults", spec := "paramsDefaults", unfollowed := true, recurses := true, apart := false, narrowed := true }
def ParamsDefaultsUptoSaid : Prop := paramsDefaultsUptoRow.holds Try.pinned (OpenSpec.upto paramsDefaultsSpec)

/-- 'obscuralaw13.KeysForms', WHERE WHAT IT READS IS OF BULK AT MOST 1048576: true; the input reads as it did. -/
def keysFormsUptoRow : OpenClaim := { program := "ytjfjbkocopaehaa", sum := "3f7c132f6bf559c959e7be7773c24a2ec362f4993d2189ac6e26f1ee591b0454", func := "obscura/obscuralaw13.KeysForms", spec := "keysForms", unfollowed := true, recurses := true, apart := false, narrowed := true }
def KeysFormsUptoSaid : Prop := keysFormsUptoRow.holds Try.pinned (OpenSpec.upto keysFormsSpec)

/-- 'obscuralaw13.KeysSecrets', WHERE WHAT IT READS IS OF BULK AT MOST 1048576: true; the input reads as it did. -/
def keysSecretsUptoRow : OpenClaim := { program := "ytjfjbkocopaehaa", sum := "3f7c132f6bf559c959e7be7773c24a2ec362f4993d2189ac6e26f1ee591b0454", func := "obscura/obscuralaw13.KeysSecrets", spec := "keysSecrets", unfollowed := true, recurses := true, apart := false, narrowed := true }
def KeysSecretsUptoSaid : Prop := keysSecretsUptoRow.holds Try.pinned (OpenSpec.upto keysSecretsSpec)

/-- 'obscuralaw12.ParamsChecks', WHERE WHAT IT READS IS OF BULK AT MOST 1048576: true; the input reads as it did. -/
def paramsChecksUptoRow : OpenClaim := { program := "ytjfjbkocopaehaa", sum := "3f7c132f6bf559c959e7be7773c24a2ec362f4993d2189ac6e26f1ee591b0454", func := "obscura/obscuralaw12.ParamsChecks", spec := "paramsChecks", unfollowed := true, recurses := true, apart := false, narrowed := true }
def ParamsChecksUptoSaid : Prop := paramsChecksUptoRow.holds Try.pinned (OpenSpec.upto paramsChecksSpec)

/-- 'obscuralaw12.ParamsValid', WHERE WHAT IT READS IS OF BULK AT MOST 1048576: true; the input reads as it did. -/
def paramsValidUptoRow : OpenClaim := { program := "ytjfjbkocopaehaa", sum := "3f7c132f6bf559c959e7be7773c24a2ec362f4993d2189ac6e26f1ee591b0454", func := "obscura/obscuralaw12.ParamsValid", spec := "paramsValid", unfollowed := true, recurses := true, apart := false, narrowed := true }
def ParamsValidUptoSaid : Prop := paramsValidUptoRow.holds Try.pinned (OpenSpec.upto paramsValidSpec)

end Rows
end Go.Proofs.Ytjfjbkocopaehaa
