/- TypingTypes: facts of the row. -/
import Derived.Test.YtljfgdlgmdcmfaaGreatRows
import Derived.Test.YtljfgdlgmdcmfaaGreatChecked
import Derived.JoinedOf
set_option linter.unusedVariables false
namespace Go.Proofs.YtljfgdlgmdcmfaaGreat
section
open Go
theorem Aa:(Rows.typingTypesRow.inPlace==Tryz.pinned.checked.prog.inPlace 3)=true:=by kernel_rfl
theorem Ac:(Rows.typingTypesRow.unfollowed==Tryz.pinned.checked.prog.unfollowed 3)=true:=by kernel_rfl
theorem Ad:(Rows.typingTypesRow.recurses==Tryz.pinned.checked.prog.recurses 3)=true:=by kernel_rfl
theorem Ae:(Rows.typingTypesRow.named==Tryz.pinned.checked.prog.varsNamed 3)=true:=by kernel_rfl
theorem typingTypes_closed:joinedFacts Tryz.pinned.checked.prog 3 Tryz.f3 Rows.typingTypesSpec Rows.typingTypesRow=true:=by
 unfold joinedFacts
 rw [Aa,Ac,Ad,Ae]
 kernel_rfl
end
end Go.Proofs.YtljfgdlgmdcmfaaGreat
