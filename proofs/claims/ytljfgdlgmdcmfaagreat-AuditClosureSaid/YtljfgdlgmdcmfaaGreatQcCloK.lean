/- For every input AuditClosure returns true and leaves its arguments as they are. No conditions. -/
import Derived.Test.YtljfgdlgmdcmfaaGreatQcCloI
import Derived.Test.YtljfgdlgmdcmfaaGreatQcCloJ
set_option linter.unusedVariables false
namespace Go.Proofs.YtljfgdlgmdcmfaaGreat
section
open Go.ChangeShapes Go.WideShapes Go.ChangeAt Go.RowKit
theorem auditClosure_over:Rows.auditClosureRow.holds Tryz.pinned (OpenSpec.ofChange Rows.auditClosureSpec):=
 OpenClaim.holds_of_wide 14 Tryz.f14 rfl rfl rfl rfl rfl rfl rfl ⟨rfl,rfl,rfl,rfl,rfl⟩ rfl rfl rfl rfl rfl (by kernel_rfl) Tryz.func14 auditClosure_closed
  (of_decide_eq_true (by kernel_rfl)) (by unfold Func.isWrapper;first | (rw [if_pos (by decide+kernel)];kernel_rfl) | (rw [if_neg (by decide+kernel)];exact ⟨rfl,rfl⟩))
  (fun os started H enc _=>auditClosure_lifted os started H enc)
theorem auditClosure_holds:Rows.AuditClosureSaid:=auditClosure_over
#print axioms auditClosure_holds
end
end Go.Proofs.YtljfgdlgmdcmfaaGreat
