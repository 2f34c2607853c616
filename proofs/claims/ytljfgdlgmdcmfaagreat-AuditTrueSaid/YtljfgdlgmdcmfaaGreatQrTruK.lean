/- Parts of a proof. -/
import Derived.Test.YtljfgdlgmdcmfaaGreatQrTruI
import Derived.Test.YtljfgdlgmdcmfaaGreatQrTruJ
set_option linter.unusedVariables false
namespace Go.Proofs.YtljfgdlgmdcmfaaGreat
section
open Go.ChangeShapes Go.WideShapes Go.ChangeAt Go.RowKit
theorem zu:Rows.auditTrueRow.holds Tryz.pinned (OpenSpec.ofChange Rows.auditTrueSpec):=
 OpenClaim.holds_of_wide 13 Tryz.f13 rfl rfl rfl rfl rfl rfl rfl ⟨rfl,rfl,rfl,rfl,rfl⟩ rfl rfl rfl rfl rfl (by kernel_rfl) Tryz.func13 vY
  (of_decide_eq_true (by kernel_rfl)) (by unfold Func.isWrapper;first | (rw [if_pos (by decide+kernel)];kernel_rfl) | (rw [if_neg (by decide+kernel)];exact ⟨rfl,rfl⟩))
  (fun os started H enc _=>vX os started H enc)
theorem auditTrue_holds:Rows.AuditTrueSaid:=zu
#print axioms auditTrue_holds
end
end Go.Proofs.YtljfgdlgmdcmfaaGreat
