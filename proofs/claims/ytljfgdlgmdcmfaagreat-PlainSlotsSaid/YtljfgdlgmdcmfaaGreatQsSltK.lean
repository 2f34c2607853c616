/- Parts of a proof. -/
import Derived.Test.YtljfgdlgmdcmfaaGreatQsSltI
import Derived.Test.YtljfgdlgmdcmfaaGreatQsSltJ
set_option linter.unusedVariables false
namespace Go.Proofs.YtljfgdlgmdcmfaaGreat
section
open Go.ChangeShapes Go.WideShapes Go.ChangeAt Go.RowKit
theorem zo:Rows.plainSlotsRow.holds Tryz.pinned (OpenSpec.ofChange Rows.plainSlotsSpec):=
 OpenClaim.holds_of_wide 8 Tryz.f8 rfl rfl rfl rfl rfl rfl rfl ⟨rfl,rfl,rfl,rfl,rfl⟩ rfl rfl rfl rfl rfl (by kernel_rfl) Tryz.func8 uS
  (of_decide_eq_true (by kernel_rfl)) (by unfold Func.isWrapper;first | (rw [if_pos (by decide+kernel)];kernel_rfl) | (rw [if_neg (by decide+kernel)];exact ⟨rfl,rfl⟩))
  (fun os started H enc _=>uQ os started H enc)
theorem plainSlots_holds:Rows.PlainSlotsSaid:=zo
#print axioms plainSlots_holds
end
end Go.Proofs.YtljfgdlgmdcmfaaGreat
