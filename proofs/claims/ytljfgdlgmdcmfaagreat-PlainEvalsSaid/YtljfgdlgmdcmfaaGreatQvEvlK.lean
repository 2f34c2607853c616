/- Parts of a proof. -/
import Derived.Test.YtljfgdlgmdcmfaaGreatQvEvlI
import Derived.Test.YtljfgdlgmdcmfaaGreatQvEvlJ
set_option linter.unusedVariables false
namespace Go.Proofs.YtljfgdlgmdcmfaaGreat
section
open Go.ChangeShapes Go.WideShapes Go.ChangeAt Go.RowKit
theorem zY:Rows.plainEvalsRow.holds Tryz.pinned (OpenSpec.ofChange Rows.plainEvalsSpec):=
 OpenClaim.holds_of_wide 7 Tryz.f7 rfl rfl rfl rfl rfl rfl rfl ⟨rfl,rfl,rfl,rfl,rfl⟩ rfl rfl rfl rfl rfl (by kernel_rfl) Tryz.func7 vM
  (of_decide_eq_true (by kernel_rfl)) (by unfold Func.isWrapper;first | (rw [if_pos (by decide+kernel)];kernel_rfl) | (rw [if_neg (by decide+kernel)];exact ⟨rfl,rfl⟩))
  (fun os started H enc _=>vK os started H enc)
theorem plainEvals_holds:Rows.PlainEvalsSaid:=zY
#print axioms plainEvals_holds
end
end Go.Proofs.YtljfgdlgmdcmfaaGreat
