/- Parts of a proof. -/
import Derived.Test.YthlhibpfagekfaaGreatRows
import Derived.Test.YthlhibpfagekfaaGreatChecked
import Derived.JoinedOf
set_option linter.unusedVariables false
namespace Go.Proofs.YthlhibpfagekfaaGreat
section
open Go
theorem al5:(Rows.auditPlantsRow.inPlace==Tryz.pinned.checked.prog.inPlace 3)=true:=by kernel_rfl
theorem al6:(Rows.auditPlantsRow.unfollowed==Tryz.pinned.checked.prog.unfollowed 3)=true:=by kernel_rfl
theorem al7:(Rows.auditPlantsRow.recurses==Tryz.pinned.checked.prog.recurses 3)=true:=by kernel_rfl
theorem al8:(Rows.auditPlantsRow.named==Tryz.pinned.checked.prog.varsNamed 3)=true:=by kernel_rfl
theorem alP:joinedFacts Tryz.pinned.checked.prog 3 Tryz.f3 Rows.auditPlantsSpec Rows.auditPlantsRow=true:=by
 unfold joinedFacts;rw [al5,al6,al7,al8];kernel_rfl
end
end Go.Proofs.YthlhibpfagekfaaGreat
