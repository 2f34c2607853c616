/- For every input TypingTypes returns true and leaves its arguments as they are. No conditions. -/
import Derived.Test.YtljfgdlgmdcmfaaGreatQtTysH
import Derived.Test.YtljfgdlgmdcmfaaGreatQtTysJ
set_option linter.unusedVariables false
namespace Go.Proofs.YtljfgdlgmdcmfaaGreat
section
open Go.ChangeShapes Go.WideShapes Go.ChangeAt Go.RowKit
theorem typingTypes_over:Rows.typingTypesRow.holds Tryz.pinned (OpenSpec.ofChange Rows.typingTypesSpec):=
 OpenClaim.holds_of_wide 3 Tryz.f3 rfl rfl rfl rfl rfl rfl rfl ⟨rfl,rfl,rfl,rfl,rfl⟩ rfl rfl rfl rfl rfl (by kernel_rfl) Tryz.func3 typingTypes_closed
  (of_decide_eq_true (by kernel_rfl)) (by unfold Func.isWrapper;first | (rw [if_pos (by decide+kernel)];kernel_rfl) | (rw [if_neg (by decide+kernel)];exact ⟨rfl,rfl⟩))
  (fun os started H enc _=>tu os started H enc)
theorem typingTypes_holds:Rows.TypingTypesSaid:=typingTypes_over
#print axioms typingTypes_holds
end
end Go.Proofs.YtljfgdlgmdcmfaaGreat
