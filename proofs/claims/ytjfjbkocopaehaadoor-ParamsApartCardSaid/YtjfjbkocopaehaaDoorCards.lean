/-
  DERIVED. GIVEN WITH THE SEED: THE CARDS: each row of YtjfjbkocopaehaaDoorRows.lean that lists a variable, with what it lists TIED to the program's text (the seventh form; the later family's looks); each row that meets fmt, with fmt's text TOLD by the authors' own Lean function (tested against real Go, not proved from fmt's source: count such statements apart). THE CARD IS WHAT COUNTS. Prove the row's statement (the work); the ties are given (YtjfjbkocopaehaaDoorTie.lean); close each card by the builder's one call (the guide's Derived/Test/ToyasCard.lean, 'card_holds'). Laid BY PROGRAM, IN A SANDBOX (cutbox-door.mjs). By AI agents, Wed Nov 11 2026. No macro, syntax, notation, axiom, sorry.
-/
import Derived.Test.YtjfjbkocopaehaaDoorRows
import GoSem.ClaimSeven
namespace Go.Proofs.YtjfjbkocopaehaaDoor
namespace Rows

/-- THE TIED CARD OF 'obscuralaw12.ParamsDigests'. -/
def paramsDigestsCard : Claim7 := { stood := { row := paramsDigestsRow, standIns := [], harness := (true, "5d9f0fa76e850abc2b0971da84ef975937fb3061ded74a611b3c53ea97c6e80b"), looks := false }, kinds := [], alts := [], laidByText := true, laidKinds := [.data, .data, .data], laidTests := true, laidLooks := .later }
def ParamsDigestsCardSaid : Prop := Claim7.holds Tryd.pinned (.plain (OpenSpec.ofChange paramsDigestsSpec)) paramsDigestsCard

/-- THE TIED CARD OF 'obscuralaw12.ParamsApart'. -/
def paramsApartCard : Claim7 := { stood := { row := paramsApartRow, standIns := [], harness := (true, "5d9f0fa76e850abc2b0971da84ef975937fb3061ded74a611b3c53ea97c6e80b"), looks := false }, kinds := [], alts := [], laidByText := true, laidKinds := [.data, .data, .data], laidTests := true, laidLooks := .later }
def ParamsApartCardSaid : Prop := Claim7.holds Tryd.pinned (.plain (OpenSpec.ofChange paramsApartSpec)) paramsApartCard

/-- THE SECOND FORM's CARD OF 'obscuralaw12.ParamsDigests'. -/
def paramsDigestsUptoCard : Claim7 := { stood := { row := paramsDigestsUptoRow, standIns := [], harness := (true, "5d9f0fa76e850abc2b0971da84ef975937fb3061ded74a611b3c53ea97c6e80b"), looks := false }, kinds := [], alts := [], laidByText := true, laidKinds := [.data, .data, .data], laidTests := true, laidLooks := .later }
def ParamsDigestsUptoCardSaid : Prop := Claim7.holds Tryd.pinned (.plain (OpenSpec.upto paramsDigestsSpec)) paramsDigestsUptoCard

/-- THE SECOND FORM's CARD OF 'obscuralaw12.ParamsApart'. -/
def paramsApartUptoCard : Claim7 := { stood := { row := paramsApartUptoRow, standIns := [], harness := (true, "5d9f0fa76e850abc2b0971da84ef975937fb3061ded74a611b3c53ea97c6e80b"), looks := false }, kinds := [], alts := [], laidByText := true, laidKinds := [.data, .data, .data], laidTests := true, laidLooks := .later }
def ParamsApartUptoCardSaid : Prop := Claim7.holds Tryd.pinned (.plain (OpenSpec.upto paramsApartSpec)) paramsApartUptoCard
end Rows
end Go.Proofs.YtjfjbkocopaehaaDoor
