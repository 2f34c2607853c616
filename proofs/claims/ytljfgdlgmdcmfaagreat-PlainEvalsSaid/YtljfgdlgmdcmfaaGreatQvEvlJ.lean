/- Parts of a proof. -/
import Derived.Test.YtljfgdlgmdcmfaaGreatRows
import Derived.Test.YtljfgdlgmdcmfaaGreatChecked
import Derived.JoinedOf
set_option linter.unusedVariables false
namespace Go.Proofs.YtljfgdlgmdcmfaaGreat
section
open Go
theorem Ey:(Rows.plainEvalsRow.inPlace==Tryz.pinned.checked.prog.inPlace 7)=true:=by kernel_rfl
theorem Ez:(Rows.plainEvalsRow.unfollowed==Tryz.pinned.checked.prog.unfollowed 7)=true:=by kernel_rfl
theorem EC:(Rows.plainEvalsRow.recurses==Tryz.pinned.checked.prog.recurses 7)=true:=by kernel_rfl
theorem ED:(Rows.plainEvalsRow.named==Tryz.pinned.checked.prog.varsNamed 7)=true:=by kernel_rfl
theorem vM:joinedFacts Tryz.pinned.checked.prog 7 Tryz.f7 Rows.plainEvalsSpec Rows.plainEvalsRow=true:=by
 unfold joinedFacts;rw [Ey,Ez,EC,ED];kernel_rfl
end
end Go.Proofs.YtljfgdlgmdcmfaaGreat
