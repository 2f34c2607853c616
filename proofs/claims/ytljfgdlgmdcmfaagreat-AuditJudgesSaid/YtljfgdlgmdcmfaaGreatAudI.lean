/- For every input AuditJudges returns true and leaves its arguments as they are. No conditions. -/
import Derived.Test.YtljfgdlgmdcmfaaGreatAudE
import Derived.Test.YtljfgdlgmdcmfaaGreatAudJ
namespace Go.Proofs.YtljfgdlgmdcmfaaGreat
open Go.ChangeShapes Go.WideShapes Go.ChangeAt Go.RowKit
set_option linter.unusedVariables false

theorem auditJudges_over : Rows.auditJudgesRow.holds Tryz.pinned (OpenSpec.ofChange Rows.auditJudgesSpec) :=
  OpenClaim.holds_of_wide 12 Tryz.f12 rfl rfl rfl rfl rfl rfl rfl ⟨rfl, rfl, rfl, rfl, rfl⟩ rfl rfl rfl rfl rfl (by kernel_rfl) Tryz.func12 auditJudges_closed
    (of_decide_eq_true (by kernel_rfl)) (by unfold Func.isWrapper; first | (rw [if_pos (by decide +kernel)]; kernel_rfl) | (rw [if_neg (by decide +kernel)]; exact ⟨rfl, rfl⟩))
    (fun os started H enc _ => auditJudges_lifted os started H enc)

/-- The statement. -/
theorem auditJudges_holds : Rows.AuditJudgesSaid := auditJudges_over
#print axioms auditJudges_holds
end Go.Proofs.YtljfgdlgmdcmfaaGreat
