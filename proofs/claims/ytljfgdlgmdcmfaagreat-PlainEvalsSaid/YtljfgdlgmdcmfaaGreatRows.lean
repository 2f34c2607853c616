/-
  NARROWER THAN 'FOR EVERY INPUT', by the rows' own cells (each row's printed sentence says how): TypingTypes: loops · TypingNames: loops · TypingFields: loops · PlainEvals: loops · PlainSlots: loops · PlainTurns: loops · AuditExpects: loops · AuditTrue: loops · AuditClosure: loops.
  DERIVED. THE GIVEN ROWS OF THIS SEAT. 12 by the template 'for every input the law returns true; each argument reads behind the call as it read before'; 0 by the template 'total and deterministic' (their statements: YtljfgdlgmdcmfaaGreatTotals.lean).
  GIVEN WITH THE SEED: the statements are not yours to turn. If you find one false, say at which input.
  Laid BY PROGRAM, IN A SANDBOX (cutbox-rows.mjs): the forced cells as the released guide's own fill.sh prints them over the translation 922e6eac08804ca5… (all of the seat's roots in one cut). By AI agents, Wed Nov 11 2026. No macro, syntax, notation, axiom, sorry.
-/
import Derived.Test.YtljfgdlgmdcmfaaGreatChecked
import GoSem.Claim
import GoSem.ClaimJoined
import GoSem.ClaimMapViews
import Derived.JoinedTies
import Derived.KernelRfl
namespace Go.Proofs.YtljfgdlgmdcmfaaGreat
/- THE CELL 'sum', in the pinned program and in every row, IS THE sha256 OF THE DUMP (.gsa) THAT YtljfgdlgmdcmfaaGreatProg.lean LOADS. Nothing in Lean hashes anything: it is a label: what it is worth is what the hold of that sum in a sandbox is worth. -/
noncomputable def Tryz.pinned : Pinned := { name := "ytljfgdlgmdcmfaagreat", sum := "922e6eac08804ca5cdd0208be01dd7b968990f4eea63848ffb0a6c848e682758", checked := Tryz.checked }
namespace Rows
def none {H : Type} : Left H := { results := [], args := [] }

/-- 'obscuralaw23.TypingTypes': WHATEVER THE INPUT: true; the input reads as it did. -/
def typingTypesSpec : ChangeSpec := { name := "typingTypes", fn := fun _ => fun
  | [d1, d2] => { results := [.lit (.bool true)], args := [d1, d2] }
  | _ => none }
def typingTypesRow : OpenClaim := { program := "ytljfgdlgmdcmfaagreat", sum := "922e6eac08804ca5cdd0208be01dd7b968990f4eea63848ffb0a6c848e682758", func := "obscura/obscuralaw23.TypingTypes", spec := "typingTypes", unfollowed := true, recurses := true, loops := true, plainKeys := false, apart := false }
def TypingTypesSaid : Prop := typingTypesRow.holds Tryz.pinned (OpenSpec.ofChange typingTypesSpec)

/-- ITS FALSE NEIGHBOUR: 'it returns false'. Refute it at one input. -/
def typingTypesWrong : ChangeSpec := { name := "typingTypes", fn := fun _ => fun
  | [d1, d2] => { results := [.lit (.bool false)], args := [d1, d2] }
  | _ => none }
def TypingTypesWrongFalsely : Prop := typingTypesRow.holds Tryz.pinned (OpenSpec.ofChange typingTypesWrong)

/-- 'obscuralaw23.TypingNames': WHATEVER THE INPUT: true; the input reads as it did. -/
def typingNamesSpec : ChangeSpec := { name := "typingNames", fn := fun _ => fun
  | [d1, d2, d3] => { results := [.lit (.bool true)], args := [d1, d2, d3] }
  | _ => none }
def typingNamesRow : OpenClaim := { program := "ytljfgdlgmdcmfaagreat", sum := "922e6eac08804ca5cdd0208be01dd7b968990f4eea63848ffb0a6c848e682758", func := "obscura/obscuralaw23.TypingNames", spec := "typingNames", unfollowed := true, recurses := true, loops := true, plainKeys := false, apart := false }
def TypingNamesSaid : Prop := typingNamesRow.holds Tryz.pinned (OpenSpec.ofChange typingNamesSpec)

/-- ITS FALSE NEIGHBOUR: 'it returns false'. Refute it at one input. -/
def typingNamesWrong : ChangeSpec := { name := "typingNames", fn := fun _ => fun
  | [d1, d2, d3] => { results := [.lit (.bool false)], args := [d1, d2, d3] }
  | _ => none }
def TypingNamesWrongFalsely : Prop := typingNamesRow.holds Tryz.pinned (OpenSpec.ofChange typingNamesWrong)

/-- 'obscuralaw23.TypingPowers': WHATEVER THE INPUT: true; the input reads as it did. -/
def typingPowersSpec : ChangeSpec := { name := "typingPowers", fn := fun _ => fun
  | [d1, d2] => { results := [.lit (.bool true)], args := [d1, d2] }
  | _ => none }
def typingPowersRow : OpenClaim := { program := "ytljfgdlgmdcmfaagreat", sum := "922e6eac08804ca5cdd0208be01dd7b968990f4eea63848ffb0a6c848e682758", func := "obscura/obscuralaw23.TypingPowers", spec := "typingPowers", unfollowed := true, recurses := true, plainKeys := false, apart := false }
def TypingPowersSaid : Prop := typingPowersRow.holds Tryz.pinned (OpenSpec.ofChange typingPowersSpec)

/-- ITS FALSE NEIGHBOUR: 'it returns false'. Refute it at one input. -/
def typingPowersWrong : ChangeSpec := { name := "typingPowers", fn := fun _ => fun
  | [d1, d2] => { results := [.lit (.bool false)], args := [d1, d2] }
  | _ => none }
def TypingPowersWrongFalsely : Prop := typingPowersRow.holds Tryz.pinned (OpenSpec.ofChange typingPowersWrong)

/-- 'obscuralaw23.TypingFields': WHATEVER THE INPUT: true; the input reads as it did. -/
def typingFieldsSpec : ChangeSpec := { name := "typingFields", fn := fun _ => fun
  | [d] => { results := [.lit (.bool true)], args := [d] }
  | _ => none }
def typingFieldsRow : OpenClaim := { program := "ytljfgdlgmdcmfaagreat", sum := "922e6eac08804ca5cdd0208be01dd7b968990f4eea63848ffb0a6c848e682758", func := "obscura/obscuralaw23.TypingFields", spec := "typingFields", unfollowed := true, recurses := true, loops := true, plainKeys := false, apart := false }
def TypingFieldsSaid : Prop := typingFieldsRow.holds Tryz.pinned (OpenSpec.ofChange typingFieldsSpec)

/-- ITS FALSE NEIGHBOUR: 'it returns false'. Refute it at one input. -/
def typingFieldsWrong : ChangeSpec := { name := "typingFields", fn := fun _ => fun
  | [d] => { results := [.lit (.bool false)], args := [d] }
  | _ => none }
def TypingFieldsWrongFalsely : Prop := typingFieldsRow.holds Tryz.pinned (OpenSpec.ofChange typingFieldsWrong)

/-- 'obscuralaw24.PlainEvals': WHATEVER THE INPUT: true; the input reads as it did. -/
def plainEvalsSpec : ChangeSpec := { name := "plainEvals", fn := fun _ => fun
  | [d1, d2, d3] => { results := [.lit (.bool true)], args := [d1, d2, d3] }
  | _ => none }
def plainEvalsRow : OpenClaim := { program := "ytljfgdlgmdcmfaagreat", sum := "922e6eac08804ca5cdd0208be01dd7b968990f4eea63848ffb0a6c848e682758", func := "obscura/obscuralaw24.PlainEvals", spec := "plainEvals", unfollowed := true, recurses := true, loops := true, plainKeys := false, apart := false }
def PlainEvalsSaid : Prop := plainEvalsRow.holds Tryz.pinned (OpenSpec.ofChange plainEvalsSpec)

/-- ITS FALSE NEIGHBOUR: 'it returns false'. Refute it at one input. -/
def plainEvalsWrong : ChangeSpec := { name := "plainEvals", fn := fun _ => fun
  | [d1, d2, d3] => { results := [.lit (.bool false)], args := [d1, d2, d3] }
  | _ => none }
def PlainEvalsWrongFalsely : Prop := plainEvalsRow.holds Tryz.pinned (OpenSpec.ofChange plainEvalsWrong)

/-- 'obscuralaw24.PlainSlots': WHATEVER THE INPUT: true; the input reads as it did. -/
def plainSlotsSpec : ChangeSpec := { name := "plainSlots", fn := fun _ => fun
  | [d1, d2, d3] => { results := [.lit (.bool true)], args := [d1, d2, d3] }
  | _ => none }
def plainSlotsRow : OpenClaim := { program := "ytljfgdlgmdcmfaagreat", sum := "922e6eac08804ca5cdd0208be01dd7b968990f4eea63848ffb0a6c848e682758", func := "obscura/obscuralaw24.PlainSlots", spec := "plainSlots", unfollowed := true, recurses := true, loops := true, plainKeys := false, apart := false }
def PlainSlotsSaid : Prop := plainSlotsRow.holds Tryz.pinned (OpenSpec.ofChange plainSlotsSpec)

/-- ITS FALSE NEIGHBOUR: 'it returns false'. Refute it at one input. -/
def plainSlotsWrong : ChangeSpec := { name := "plainSlots", fn := fun _ => fun
  | [d1, d2, d3] => { results := [.lit (.bool false)], args := [d1, d2, d3] }
  | _ => none }
def PlainSlotsWrongFalsely : Prop := plainSlotsRow.holds Tryz.pinned (OpenSpec.ofChange plainSlotsWrong)

/-- 'obscuralaw24.PlainTurns': WHATEVER THE INPUT: true; the input reads as it did. -/
def plainTurnsSpec : ChangeSpec := { name := "plainTurns", fn := fun _ => fun
  | [d1, d2, d3] => { results := [.lit (.bool true)], args := [d1, d2, d3] }
  | _ => none }
def plainTurnsRow : OpenClaim := { program := "ytljfgdlgmdcmfaagreat", sum := "922e6eac08804ca5cdd0208be01dd7b968990f4eea63848ffb0a6c848e682758", func := "obscura/obscuralaw24.PlainTurns", spec := "plainTurns", unfollowed := true, recurses := true, loops := true, plainKeys := false, apart := false }
def PlainTurnsSaid : Prop := plainTurnsRow.holds Tryz.pinned (OpenSpec.ofChange plainTurnsSpec)

/-- ITS FALSE NEIGHBOUR: 'it returns false'. Refute it at one input. -/
def plainTurnsWrong : ChangeSpec := { name := "plainTurns", fn := fun _ => fun
  | [d1, d2, d3] => { results := [.lit (.bool false)], args := [d1, d2, d3] }
  | _ => none }
def PlainTurnsWrongFalsely : Prop := plainTurnsRow.holds Tryz.pinned (OpenSpec.ofChange plainTurnsWrong)

/-- 'obscuralaw24.PlainLaws': WHATEVER THE INPUT: true; the input reads as it did. -/
def plainLawsSpec : ChangeSpec := { name := "plainLaws", fn := fun _ => fun
  | [d1, d2, d3] => { results := [.lit (.bool true)], args := [d1, d2, d3] }
  | _ => none }
def plainLawsRow : OpenClaim := { program := "ytljfgdlgmdcmfaagreat", sum := "922e6eac08804ca5cdd0208be01dd7b968990f4eea63848ffb0a6c848e682758", func := "obscura/obscuralaw24.PlainLaws", spec := "plainLaws", unfollowed := true, recurses := true, plainKeys := false, apart := false }
def PlainLawsSaid : Prop := plainLawsRow.holds Tryz.pinned (OpenSpec.ofChange plainLawsSpec)

/-- ITS FALSE NEIGHBOUR: 'it returns false'. Refute it at one input. -/
def plainLawsWrong : ChangeSpec := { name := "plainLaws", fn := fun _ => fun
  | [d1, d2, d3] => { results := [.lit (.bool false)], args := [d1, d2, d3] }
  | _ => none }
def PlainLawsWrongFalsely : Prop := plainLawsRow.holds Tryz.pinned (OpenSpec.ofChange plainLawsWrong)

/-- 'obscuralaw38.AuditExpects': WHATEVER THE INPUT: true; the input reads as it did. -/
def auditExpectsSpec : ChangeSpec := { name := "auditExpects", fn := fun _ => fun
  | [d1, d2, d3] => { results := [.lit (.bool true)], args := [d1, d2, d3] }
  | _ => none }
def auditExpectsRow : OpenClaim := { program := "ytljfgdlgmdcmfaagreat", sum := "922e6eac08804ca5cdd0208be01dd7b968990f4eea63848ffb0a6c848e682758", func := "obscura/obscuralaw38.AuditExpects", spec := "auditExpects", unfollowed := true, recurses := true, loops := true, plainKeys := false, apart := false }
def AuditExpectsSaid : Prop := auditExpectsRow.holds Tryz.pinned (OpenSpec.ofChange auditExpectsSpec)

/-- ITS FALSE NEIGHBOUR: 'it returns false'. Refute it at one input. -/
def auditExpectsWrong : ChangeSpec := { name := "auditExpects", fn := fun _ => fun
  | [d1, d2, d3] => { results := [.lit (.bool false)], args := [d1, d2, d3] }
  | _ => none }
def AuditExpectsWrongFalsely : Prop := auditExpectsRow.holds Tryz.pinned (OpenSpec.ofChange auditExpectsWrong)

/-- 'obscuralaw38.AuditJudges': WHATEVER THE INPUT: true; the input reads as it did. -/
def auditJudgesSpec : ChangeSpec := { name := "auditJudges", fn := fun _ => fun
  | [d1, d2, d3] => { results := [.lit (.bool true)], args := [d1, d2, d3] }
  | _ => none }
def auditJudgesRow : OpenClaim := { program := "ytljfgdlgmdcmfaagreat", sum := "922e6eac08804ca5cdd0208be01dd7b968990f4eea63848ffb0a6c848e682758", func := "obscura/obscuralaw38.AuditJudges", spec := "auditJudges", unfollowed := true, recurses := true, plainKeys := false, apart := false }
def AuditJudgesSaid : Prop := auditJudgesRow.holds Tryz.pinned (OpenSpec.ofChange auditJudgesSpec)

/-- ITS FALSE NEIGHBOUR: 'it returns false'. Refute it at one input. -/
def auditJudgesWrong : ChangeSpec := { name := "auditJudges", fn := fun _ => fun
  | [d1, d2, d3] => { results := [.lit (.bool false)], args := [d1, d2, d3] }
  | _ => none }
def AuditJudgesWrongFalsely : Prop := auditJudgesRow.holds Tryz.pinned (OpenSpec.ofChange auditJudgesWrong)

/-- 'obscuralaw38.AuditTrue': WHATEVER THE INPUT: true; the input reads as it did. -/
def auditTrueSpec : ChangeSpec := { name := "auditTrue", fn := fun _ => fun
  | [d1, d2, d3] => { results := [.lit (.bool true)], args := [d1, d2, d3] }
  | _ => none }
def auditTrueRow : OpenClaim := { program := "ytljfgdlgmdcmfaagreat", sum := "922e6eac08804ca5cdd0208be01dd7b968990f4eea63848ffb0a6c848e682758", func := "obscura/obscuralaw38.AuditTrue", spec := "auditTrue", unfollowed := true, recurses := true, loops := true, plainKeys := false, apart := false }
def AuditTrueSaid : Prop := auditTrueRow.holds Tryz.pinned (OpenSpec.ofChange auditTrueSpec)

/-- ITS FALSE NEIGHBOUR: 'it returns false'. Refute it at one input. -/
def auditTrueWrong : ChangeSpec := { name := "auditTrue", fn := fun _ => fun
  | [d1, d2, d3] => { results := [.lit (.bool false)], args := [d1, d2, d3] }
  | _ => none }
def AuditTrueWrongFalsely : Prop := auditTrueRow.holds Tryz.pinned (OpenSpec.ofChange auditTrueWrong)

/-- 'obscuralaw38.AuditClosure': WHATEVER THE INPUT: true; the input reads as it did. -/
def auditClosureSpec : ChangeSpec := { name := "auditClosure", fn := fun _ => fun
  | [d1, d2, d3] => { results := [.lit (.bool true)], args := [d1, d2, d3] }
  | _ => none }
def auditClosureRow : OpenClaim := { program := "ytljfgdlgmdcmfaagreat", sum := "922e6eac08804ca5cdd0208be01dd7b968990f4eea63848ffb0a6c848e682758", func := "obscura/obscuralaw38.AuditClosure", spec := "auditClosure", unfollowed := true, recurses := true, loops := true, plainKeys := false, apart := false }
def AuditClosureSaid : Prop := auditClosureRow.holds Tryz.pinned (OpenSpec.ofChange auditClosureSpec)

/-- ITS FALSE NEIGHBOUR: 'it returns false'. Refute it at one input. -/
def auditClosureWrong : ChangeSpec := { name := "auditClosure", fn := fun _ => fun
  | [d1, d2, d3] => { results := [.lit (.bool false)], args := [d1, d2, d3] }
  | _ => none }
def AuditClosureWrongFalsely : Prop := auditClosureRow.holds Tryz.pinned (OpenSpec.ofChange auditClosureWrong)

/- THE SECOND FORM. 'bulk': how many values and letters a reading holds, each counted each time it is reached (what is shared counts as often as it is met; a slice's spare places count too). A statement '..UptoSaid' is the law's where the arguments, and the package variables that the reading takes, are together of bulk at most 1048576: NARROWER than '..Said'. Prove '..Said' where nothing that the law and all that it calls make is longer than what came in: it says more and counts as full. Else prove '..UptoSaid'. A law counts once. -/
mutual
def uptoBulk {H : Type} : DataW H → Nat
  | .lit (.string bytes) => bytes.length + 1
  | .lit _ => 1
  | .nil => 1
  | .ptr d => uptoBulk d + 1
  | .slice elems spare => uptoBulkAll elems + uptoBulkAll spare + 1
  | .agg parts => uptoBulkAll parts + 1
  | .iface _ d => uptoBulk d + 1
  | .map entries => uptoBulkEntries entries + 1
  | .held _ => 1
def uptoBulkAll {H : Type} : List (DataW H) → Nat
  | [] => 0
  | d :: r => uptoBulk d + uptoBulkAll r
def uptoBulkEntries {H : Type} : List (Lit × DataW H) → Nat
  | [] => 0
  | x :: r => uptoBulkEntry x + uptoBulkEntries r
def uptoBulkEntry {H : Type} : Lit × DataW H → Nat
  | (.string bytes, d) => bytes.length + uptoBulk d + 1
  | (_, d) => uptoBulk d + 1
 end
def uptoSmall : (H : Type) → List (DataW H) → Bool := fun _ ds => decide (uptoBulkAll ds ≤ 1048576)
def OpenSpec.upto (s : _root_.Go.ChangeSpec) : _root_.Go.OpenSpec := { _root_.Go.OpenSpec.ofChange s with cond := some uptoSmall }

/-- 'obscuralaw23.TypingTypes', WHERE WHAT IT READS IS OF BULK AT MOST 1048576: true; the input reads as it did. -/
def typingTypesUptoRow : OpenClaim := { program := "ytljfgdlgmdcmfaagreat", sum := "922e6eac08804ca5cdd0208be01dd7b968990f4eea63848ffb0a6c848e682758", func := "obscura/obscuralaw23.TypingTypes", spec := "typingTypes", unfollowed := true, recurses := true, loops := true, plainKeys := false, apart := false, narrowed := true }
def TypingTypesUptoSaid : Prop := typingTypesUptoRow.holds Tryz.pinned (OpenSpec.upto typingTypesSpec)

/-- 'obscuralaw23.TypingNames', WHERE WHAT IT READS IS OF BULK AT MOST 1048576: true; the input reads as it did. -/
def typingNamesUptoRow : OpenClaim := { program := "ytljfgdlgmdcmfaagreat", sum := "922e6eac08804ca5cdd0208be01dd7b968990f4eea63848ffb0a6c848e682758", func := "obscura/obscuralaw23.TypingNames", spec := "typingNames", unfollowed := true, recurses := true, loops := true, plainKeys := false, apart := false, narrowed := true }
def TypingNamesUptoSaid : Prop := typingNamesUptoRow.holds Tryz.pinned (OpenSpec.upto typingNamesSpec)

/-- 'obscuralaw23.TypingPowers', WHERE WHAT IT READS IS OF BULK AT MOST 1048576: true; the input reads as it did. -/
def typingPowersUptoRow : OpenClaim := { program := "ytljfgdlgmdcmfaagreat", sum := "922e6eac08804ca5cdd0208be01dd7b968990f4eea63848ffb0a6c848e682758", func := "obscura/obscuralaw23.TypingPowers", spec := "typingPowers", unfollowed := true, recurses := true, plainKeys := false, apart := false, narrowed := true }
def TypingPowersUptoSaid : Prop := typingPowersUptoRow.holds Tryz.pinned (OpenSpec.upto typingPowersSpec)

/-- 'obscuralaw23.TypingFields', WHERE WHAT IT READS IS OF BULK AT MOST 1048576: true; the input reads as it did. -/
def typingFieldsUptoRow : OpenClaim := { program := "ytljfgdlgmdcmfaagreat", sum := "922e6eac08804ca5cdd0208be01dd7b968990f4eea63848ffb0a6c848e682758", func := "obscura/obscuralaw23.TypingFields", spec := "typingFields", unfollowed := true, recurses := true, loops := true, plainKeys := false, apart := false, narrowed := true }
def TypingFieldsUptoSaid : Prop := typingFieldsUptoRow.holds Tryz.pinned (OpenSpec.upto typingFieldsSpec)

/-- 'obscuralaw24.PlainEvals', WHERE WHAT IT READS IS OF BULK AT MOST 1048576: true; the input reads as it did. -/
def plainEvalsUptoRow : OpenClaim := { program := "ytljfgdlgmdcmfaagreat", sum := "922e6eac08804ca5cdd0208be01dd7b968990f4eea63848ffb0a6c848e682758", func := "obscura/obscuralaw24.PlainEvals", spec := "plainEvals", unfollowed := true, recurses := true, loops := true, plainKeys := false, apart := false, narrowed := true }
def PlainEvalsUptoSaid : Prop := plainEvalsUptoRow.holds Tryz.pinned (OpenSpec.upto plainEvalsSpec)

/-- 'obscuralaw24.PlainSlots', WHERE WHAT IT READS IS OF BULK AT MOST 1048576: true; the input reads as it did. -/
def plainSlotsUptoRow : OpenClaim := { program := "ytljfgdlgmdcmfaagreat", sum := "922e6eac08804ca5cdd0208be01dd7b968990f4eea63848ffb0a6c848e682758", func := "obscura/obscuralaw24.PlainSlots", spec := "plainSlots", unfollowed := true, recurses := true, loops := true, plainKeys := false, apart := false, narrowed := true }
def PlainSlotsUptoSaid : Prop := plainSlotsUptoRow.holds Tryz.pinned (OpenSpec.upto plainSlotsSpec)

/-- 'obscuralaw24.PlainTurns', WHERE WHAT IT READS IS OF BULK AT MOST 1048576: true; the input reads as it did. -/
def plainTurnsUptoRow : OpenClaim := { program := "ytljfgdlgmdcmfaagreat", sum := "922e6eac08804ca5cdd0208be01dd7b968990f4eea63848ffb0a6c848e682758", func := "obscura/obscuralaw24.PlainTurns", spec := "plainTurns", unfollowed := true, recurses := true, loops := true, plainKeys := false, apart := false, narrowed := true }
def PlainTurnsUptoSaid : Prop := plainTurnsUptoRow.holds Tryz.pinned (OpenSpec.upto plainTurnsSpec)

/-- 'obscuralaw24.PlainLaws', WHERE WHAT IT READS IS OF BULK AT MOST 1048576: true; the input reads as it did. -/
def plainLawsUptoRow : OpenClaim := { program := "ytljfgdlgmdcmfaagreat", sum := "922e6eac08804ca5cdd0208be01dd7b968990f4eea63848ffb0a6c848e682758", func := "obscura/obscuralaw24.PlainLaws", spec := "plainLaws", unfollowed := true, recurses := true, plainKeys := false, apart := false, narrowed := true }
def PlainLawsUptoSaid : Prop := plainLawsUptoRow.holds Tryz.pinned (OpenSpec.upto plainLawsSpec)

/-- 'obscuralaw38.AuditExpects', WHERE WHAT IT READS IS OF BULK AT MOST 1048576: true; the input reads as it did. -/
def auditExpectsUptoRow : OpenClaim := { program := "ytljfgdlgmdcmfaagreat", sum := "922e6eac08804ca5cdd0208be01dd7b968990f4eea63848ffb0a6c848e682758", func := "obscura/obscuralaw38.AuditExpects", spec := "auditExpects", unfollowed := true, recurses := true, loops := true, plainKeys := false, apart := false, narrowed := true }
def AuditExpectsUptoSaid : Prop := auditExpectsUptoRow.holds Tryz.pinned (OpenSpec.upto auditExpectsSpec)

/-- 'obscuralaw38.AuditJudges', WHERE WHAT IT READS IS OF BULK AT MOST 1048576: true; the input reads as it did. -/
def auditJudgesUptoRow : OpenClaim := { program := "ytljfgdlgmdcmfaagreat", sum := "922e6eac08804ca5cdd0208be01dd7b968990f4eea63848ffb0a6c848e682758", func := "obscura/obscuralaw38.AuditJudges", spec := "auditJudges", unfollowed := true, recurses := true, plainKeys := false, apart := false, narrowed := true }
def AuditJudgesUptoSaid : Prop := auditJudgesUptoRow.holds Tryz.pinned (OpenSpec.upto auditJudgesSpec)

/-- 'obscuralaw38.AuditTrue', WHERE WHAT IT READS IS OF BULK AT MOST 1048576: true; the input reads as it did. -/
def auditTrueUptoRow : OpenClaim := { program := "ytljfgdlgmdcmfaagreat", sum := "922e6eac08804ca5cdd0208be01dd7b968990f4eea63848ffb0a6c848e682758", func := "obscura/obscuralaw38.AuditTrue", spec := "auditTrue", unfollowed := true, recurses := true, loops := true, plainKeys := false, apart := false, narrowed := true }
def AuditTrueUptoSaid : Prop := auditTrueUptoRow.holds Tryz.pinned (OpenSpec.upto auditTrueSpec)

/-- 'obscuralaw38.AuditClosure', WHERE WHAT IT READS IS OF BULK AT MOST 1048576: true; the input reads as it did. -/
def auditClosureUptoRow : OpenClaim := { program := "ytljfgdlgmdcmfaagreat", sum := "922e6eac08804ca5cdd0208be01dd7b968990f4eea63848ffb0a6c848e682758", func := "obscura/obscuralaw38.AuditClosure", spec := "auditClosure", unfollowed := true, recurses := true, loops := true, plainKeys := false, apart := false, narrowed := true }
def AuditClosureUptoSaid : Prop := auditClosureUptoRow.holds Tryz.pinned (OpenSpec.upto auditClosureSpec)

end Rows
end Go.Proofs.YtljfgdlgmdcmfaaGreat
