/- obscuralaw13.awake. -/
import Derived.Test.YtjfjbkocopaehaaKeyO
namespace Go.Proofs.Ytjfjbkocopaehaa
open Go.RowKit

theorem smallP_ok : ParOk smallP := by constructor <;> decide
theorem okB_small : okB mPrime smallP = true := by
  have ht : smallP.t rPrime = 17 := powv_small
  have h1 : rPrime 2147483249 = true := by rw [rPrimeK_eq _ (by decide)]; decide +kernel
  have h2 : rPrime 2147481209 = true := by rw [rPrimeK_eq _ (by decide)]; decide +kernel
  have g1 : goodS rPrime 136 2147483249 = true := by unfold goodS; rw [h1]; decide
  have g2 : goodS rPrime 136 2147481209 = true := by unfold goodS; rw [h2]; decide
  have hs : stepOf rPrime smallP = 136 := by unfold stepOf; rw [ht]; rfl
  rw [okB_eq]; unfold okB
  rw [ht, hs, show smallP.sp = 2147483249 from rfl, show smallP.ch = [2147481209] from rfl, g1]
  simp only [List.any_cons, List.any_nil, badB, g2]
  decide
theorem turn_small : turnList mPrime smallP [1, 1, -1, 1] 3 = [1, 1, 1, 1] ∧ turnErr mPrime smallP [1, 1, -1, 1] 3 = 0 := by
  have h : turnOk mPrime smallP [1, 1, -1, 1] 3 = true := by unfold turnOk; rw [okB_small]; decide
  unfold turnList turnErr
  rw [h]; decide
theorem pow_small : powList mPrime smallP [1, 1, -1, 1] 2 = [-2, 4, -2, 0] ∧ powErr mPrime smallP [1, 1, -1, 1] 2 = 0 := by
  have h : powOk mPrime smallP [1, 1, -1, 1] 2 = true := by unfold powOk; rw [okB_small]; decide
  unfold powList powErr
  rw [h]; decide
theorem csec_small : csec mPrime smallP [1, 1, 1, 1] = 0 := by unfold csec; rw [okB_small]; decide
end Go.Proofs.Ytjfjbkocopaehaa
