/- TypingNames: facts of the row. -/
import Derived.Test.YtljfgdlgmdcmfaaGreatRows
import Derived.Test.YtljfgdlgmdcmfaaGreatChecked
import Derived.JoinedOf
namespace Go.Proofs.YtljfgdlgmdcmfaaGreat
open Go
set_option linter.unusedVariables false
theorem typingNames_f1:(Rows.typingNamesRow.inPlace==Tryz.pinned.checked.prog.inPlace 4)=true:=by kernel_rfl
theorem typingNames_f2:(Rows.typingNamesRow.unfollowed==Tryz.pinned.checked.prog.unfollowed 4)=true:=by kernel_rfl
theorem typingNames_f3:(Rows.typingNamesRow.recurses==Tryz.pinned.checked.prog.recurses 4)=true:=by kernel_rfl
theorem typingNames_f4:(Rows.typingNamesRow.named==Tryz.pinned.checked.prog.varsNamed 4)=true:=by kernel_rfl
theorem typingNames_closed:joinedFacts Tryz.pinned.checked.prog 4 Tryz.f4 Rows.typingNamesSpec Rows.typingNamesRow=true:=by
 unfold joinedFacts
 rw [typingNames_f1,typingNames_f2,typingNames_f3,typingNames_f4]
 kernel_rfl
end Go.Proofs.YtljfgdlgmdcmfaaGreat
