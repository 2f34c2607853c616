/- Parts of a proof. -/
import Derived.Test.YthlhibpfagekfaaGreatQpPltI
import Derived.Test.YthlhibpfagekfaaGreatQpPltJ
set_option linter.unusedVariables false
namespace Go.Proofs.YthlhibpfagekfaaGreat
section
open Go.ChangeShapes Go.WideShapes Go.ChangeAt Go.RowKit
theorem alX:Rows.auditPlantsRow.holds Tryz.pinned (OpenSpec.ofChange Rows.auditPlantsSpec):=
 OpenClaim.holds_of_wide 3 Tryz.f3 rfl rfl rfl rfl rfl rfl rfl ⟨rfl,rfl,rfl,rfl,rfl⟩ rfl rfl rfl rfl rfl (by kernel_rfl) Tryz.func3 alP
  (of_decide_eq_true (by kernel_rfl)) (by unfold Func.isWrapper;first | (rw [if_pos (by decide+kernel)];kernel_rfl) | (rw [if_neg (by decide+kernel)];exact ⟨rfl,rfl⟩))
  (fun os started H enc _=>alO os started H enc)
theorem auditPlants_holds:Rows.AuditPlantsSaid:=alX
#print axioms auditPlants_holds
end
end Go.Proofs.YthlhibpfagekfaaGreat
