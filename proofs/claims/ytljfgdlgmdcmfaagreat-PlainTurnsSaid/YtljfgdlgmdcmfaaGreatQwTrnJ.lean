/- Parts of a proof. -/
import Derived.Test.YtljfgdlgmdcmfaaGreatRows
import Derived.Test.YtljfgdlgmdcmfaaGreatChecked
import Derived.JoinedOf
set_option linter.unusedVariables false
namespace Go.Proofs.YtljfgdlgmdcmfaaGreat
section
open Go
theorem EH:(Rows.plainTurnsRow.inPlace==Tryz.pinned.checked.prog.inPlace 9)=true:=by kernel_rfl
theorem EI:(Rows.plainTurnsRow.unfollowed==Tryz.pinned.checked.prog.unfollowed 9)=true:=by kernel_rfl
theorem EJ:(Rows.plainTurnsRow.recurses==Tryz.pinned.checked.prog.recurses 9)=true:=by kernel_rfl
theorem EK:(Rows.plainTurnsRow.named==Tryz.pinned.checked.prog.varsNamed 9)=true:=by kernel_rfl
theorem vV:joinedFacts Tryz.pinned.checked.prog 9 Tryz.f9 Rows.plainTurnsSpec Rows.plainTurnsRow=true:=by
 unfold joinedFacts;rw [EH,EI,EJ,EK];kernel_rfl
end
end Go.Proofs.YtljfgdlgmdcmfaaGreat
