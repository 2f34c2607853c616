/- Parts of a proof. -/
import Derived.Test.YtljfgdlgmdcmfaaGreatRows
import Derived.Test.YtljfgdlgmdcmfaaGreatChecked
import Derived.JoinedOf
set_option linter.unusedVariables false
namespace Go.Proofs.YtljfgdlgmdcmfaaGreat
section
open Go
theorem D8:(Rows.plainSlotsRow.inPlace==Tryz.pinned.checked.prog.inPlace 8)=true:=by kernel_rfl
theorem D9:(Rows.plainSlotsRow.unfollowed==Tryz.pinned.checked.prog.unfollowed 8)=true:=by kernel_rfl
theorem Ea:(Rows.plainSlotsRow.recurses==Tryz.pinned.checked.prog.recurses 8)=true:=by kernel_rfl
theorem Eb:(Rows.plainSlotsRow.named==Tryz.pinned.checked.prog.varsNamed 8)=true:=by kernel_rfl
theorem uS:joinedFacts Tryz.pinned.checked.prog 8 Tryz.f8 Rows.plainSlotsSpec Rows.plainSlotsRow=true:=by
 unfold joinedFacts;rw [D8,D9,Ea,Eb];kernel_rfl
end
end Go.Proofs.YtljfgdlgmdcmfaaGreat
