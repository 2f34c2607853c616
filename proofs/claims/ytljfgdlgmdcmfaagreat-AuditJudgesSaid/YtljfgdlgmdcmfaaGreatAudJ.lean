/- AuditJudges: facts of the row. -/
import Derived.Test.YtljfgdlgmdcmfaaGreatRows
import Derived.Test.YtljfgdlgmdcmfaaGreatChecked
import Derived.JoinedOf
namespace Go.Proofs.YtljfgdlgmdcmfaaGreat
open Go
set_option linter.unusedVariables false

theorem auditJudges_f1 : (Rows.auditJudgesRow.inPlace == Tryz.pinned.checked.prog.inPlace 12) = true := by kernel_rfl
theorem auditJudges_f2 : (Rows.auditJudgesRow.unfollowed == Tryz.pinned.checked.prog.unfollowed 12) = true := by kernel_rfl
theorem auditJudges_f3 : (Rows.auditJudgesRow.recurses == Tryz.pinned.checked.prog.recurses 12) = true := by kernel_rfl
theorem auditJudges_f4 : (Rows.auditJudgesRow.named == Tryz.pinned.checked.prog.varsNamed 12) = true := by kernel_rfl
theorem auditJudges_closed : joinedFacts Tryz.pinned.checked.prog 12 Tryz.f12 Rows.auditJudgesSpec Rows.auditJudgesRow = true := by
  unfold joinedFacts
  rw [auditJudges_f1, auditJudges_f2, auditJudges_f3, auditJudges_f4]
  kernel_rfl
end Go.Proofs.YtljfgdlgmdcmfaaGreat
