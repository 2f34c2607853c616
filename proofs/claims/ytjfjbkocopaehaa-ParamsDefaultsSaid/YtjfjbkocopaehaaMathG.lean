/- Plain numbers: the two Checks of parameters agree. -/
import Derived.Test.YtjfjbkocopaehaaMathF
namespace Go.Proofs.Ytjfjbkocopaehaa

theorem powv_eq (n : Int) (p : Nat) (e : Int) : powv mPrime n p e = powv rPrime n p e := by
  by_cases h : p < 65536
  · unfold powv; rw [prime_eq (show p < 2147483648 by omega)]
  · rw [powv_no (by omega), powv_no (by omega)]

theorem goodS_eq (s q : Nat) : goodS mPrime s q = goodS rPrime s q := by
  unfold goodS
  by_cases h : q ≤ 2147483647
  · rw [prime_eq (by omega)]
  · rw [decide_eq_false h]; rfl

theorem t_eq (x : Par) : x.t mPrime = x.t rPrime := powv_eq _ _ _
theorem badB_eq (s sp q : Nat) : badB mPrime s sp q = badB rPrime s sp q := by unfold badB; rw [goodS_eq]

theorem okB_eq (x : Par) : okB mPrime x = okB rPrime x := by
  unfold okB stepOf
  rw [t_eq, goodS_eq]
  congr 7
  congr 1
  exact funext fun q => badB_eq _ _ q

theorem chk_eq (x : Par) : chk mPrime x = chk rPrime x := by unfold chk; rw [okB_eq]
end Go.Proofs.Ytjfjbkocopaehaa
