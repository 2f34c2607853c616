/- For every input TypingNames returns true and leaves its arguments as they are. No conditions. -/
import Derived.Test.YtljfgdlgmdcmfaaGreatQnNamH
import Derived.Test.YtljfgdlgmdcmfaaGreatQnNamJ
namespace Go.Proofs.YtljfgdlgmdcmfaaGreat
open Go.ChangeShapes Go.WideShapes Go.ChangeAt Go.RowKit
set_option linter.unusedVariables false
theorem typingNames_over:Rows.typingNamesRow.holds Tryz.pinned (OpenSpec.ofChange Rows.typingNamesSpec):=
 OpenClaim.holds_of_wide 4 Tryz.f4 rfl rfl rfl rfl rfl rfl rfl ⟨rfl,rfl,rfl,rfl,rfl⟩ rfl rfl rfl rfl rfl (by kernel_rfl) Tryz.func4 typingNames_closed
  (of_decide_eq_true (by kernel_rfl)) (by unfold Func.isWrapper;first | (rw [if_pos (by decide+kernel)];kernel_rfl) | (rw [if_neg (by decide+kernel)];exact ⟨rfl,rfl⟩))
  (fun os started H enc _=>typingNames_lifted os started H enc)
theorem typingNames_holds:Rows.TypingNamesSaid:=typingNames_over
#print axioms typingNames_holds
end Go.Proofs.YtljfgdlgmdcmfaaGreat
