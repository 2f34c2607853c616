/- Parts of a proof. -/
import Derived.Test.YtljfgdlgmdcmfaaGreatRows
import Derived.Test.YtljfgdlgmdcmfaaGreatChecked
import Derived.JoinedOf
set_option linter.unusedVariables false
namespace Go.Proofs.YtljfgdlgmdcmfaaGreat
section
open Go
theorem EK:(Rows.auditTrueRow.inPlace==Tryz.pinned.checked.prog.inPlace 13)=true:=by kernel_rfl
theorem EL:(Rows.auditTrueRow.unfollowed==Tryz.pinned.checked.prog.unfollowed 13)=true:=by kernel_rfl
theorem EM:(Rows.auditTrueRow.recurses==Tryz.pinned.checked.prog.recurses 13)=true:=by kernel_rfl
theorem EN:(Rows.auditTrueRow.named==Tryz.pinned.checked.prog.varsNamed 13)=true:=by kernel_rfl
theorem vY:joinedFacts Tryz.pinned.checked.prog 13 Tryz.f13 Rows.auditTrueSpec Rows.auditTrueRow=true:=by
 unfold joinedFacts;rw [EK,EL,EM,EN];kernel_rfl
end
end Go.Proofs.YtljfgdlgmdcmfaaGreat
