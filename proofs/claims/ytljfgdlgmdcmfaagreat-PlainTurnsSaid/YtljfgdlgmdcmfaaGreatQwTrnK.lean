/- Parts of a proof. -/
import Derived.Test.YtljfgdlgmdcmfaaGreatQwTrnI
import Derived.Test.YtljfgdlgmdcmfaaGreatQwTrnJ
set_option linter.unusedVariables false
namespace Go.Proofs.YtljfgdlgmdcmfaaGreat
section
open Go.ChangeShapes Go.WideShapes Go.ChangeAt Go.RowKit
theorem zY:Rows.plainTurnsRow.holds Tryz.pinned (OpenSpec.ofChange Rows.plainTurnsSpec):=
 OpenClaim.holds_of_wide 9 Tryz.f9 rfl rfl rfl rfl rfl rfl rfl ⟨rfl,rfl,rfl,rfl,rfl⟩ rfl rfl rfl rfl rfl (by kernel_rfl) Tryz.func9 vV
  (of_decide_eq_true (by kernel_rfl)) (by unfold Func.isWrapper;first | (rw [if_pos (by decide+kernel)];kernel_rfl) | (rw [if_neg (by decide+kernel)];exact ⟨rfl,rfl⟩))
  (fun os started H enc _=>vU os started H enc)
theorem plainTurns_holds:Rows.PlainTurnsSaid:=zY
#print axioms plainTurns_holds
end
end Go.Proofs.YtljfgdlgmdcmfaaGreat
