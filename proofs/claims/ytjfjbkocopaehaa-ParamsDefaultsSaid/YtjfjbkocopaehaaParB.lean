/- Walks of the parts of params.Check: the closures, slices.IndexFunc and ContainsFunc at uint32; the reference's good. -/
import Derived.Test.YtjfjbkocopaehaaParA
namespace Go.Proofs.Ytjfjbkocopaehaa
open Go.RowKit

set_option maxHeartbeats 1000000 in
theorem pgood_any (q s : Nat) (a : Addr) (w : World) (hq : q < 4294967296) (hs0 : 0 < s) (hs1 : s ≤ 137438953408) (ha : w.cell? a = some (.int .i64 s)) :
    Calls Try.prog 63 #[.int .u32 q, .pointer (some a)] w fun r w' => r = .returned (.bool (goodS mPrime s q)) ∧ Below w.heap.size w w' := by
  by_cases c1 : 1073741824 < q
  case neg =>
    have d1 : decide ((1073741824 : Int) < q) = false := decide_eq_false (by omega)
    have hR : Hid (goodS mPrime s q = false) := by show _ = _; unfold goodS; rw [decide_eq_false c1]; rfl
    go_enter Try.func63, Try.ntmps63
    go_wp2_with fail
    go_ret
    exact ⟨ret_bool (by rw [hR.out]), Below.refl _ _⟩
  have d1 : decide ((1073741824 : Int) < q) = true := decide_eq_true (by omega)
  by_cases c2 : q ≤ 2147483647
  case neg =>
    have d2 : decide ((q : Int) ≤ 2147483647) = false := decide_eq_false (by omega)
    have hR : Hid (goodS mPrime s q = false) := by show _ = _; unfold goodS; rw [decide_eq_true c1, decide_eq_false c2]; rfl
    go_enter Try.func63, Try.ntmps63
    go_wp2_with fail
    go_ret
    exact ⟨ret_bool (by rw [hR.out]), Below.refl _ _⟩
  have d2 : decide ((q : Int) ≤ 2147483647) = true := decide_eq_true (by omega)
  by_cases c3 : q % s = 1
  case neg =>
    have d3 : ((q : Int) % (s : Int) == 1) = false := by
      apply beq_eq_false_iff_ne.2; intro hc; apply c3
      have : ((q % s : Nat) : Int) = 1 := by rw [Int.natCast_emod]; exact hc
      omega
    have hR : Hid (goodS mPrime s q = false) := by show _ = _; unfold goodS; rw [decide_eq_false c3]; simp
    clear c3
    go_enter Try.func63, Try.ntmps63
    go_wp2_with (fail)
    go_ret
    exact ⟨ret_bool (by rw [hR.out]), Below.refl _ _⟩
  have d3 : ((q : Int) % (s : Int) == 1) = true := by
    apply beq_iff_eq.2
    rw [← Int.natCast_emod, c3]; rfl
  have H3 := Lib.hid c3
  clear c3
  cases c4 : mPrime q with
  | false =>
    have hR : Hid (goodS mPrime s q = false) := by show _ = _; unfold goodS; rw [c4]; simp
    go_enter Try.func63, Try.ntmps63
    go_wp2_with (go_at_call 64; refine (mPrime_any _ _ (by omega)).mono ?_; rintro e w1 ⟨rfl, hb1⟩)
    go_ret
    exact ⟨ret_bool (by rw [hR.out]), hb1⟩
  | true =>
    have hR : Hid (goodS mPrime s q = true) := by show _ = _; unfold goodS; rw [c4, decide_eq_true c1, decide_eq_true c2, decide_eq_true H3.out]; rfl
    go_enter Try.func63, Try.ntmps63
    go_wp2_with (go_at_call 64; refine (mPrime_any _ _ (by omega)).mono ?_; rintro e w1 ⟨rfl, hb1⟩)
    go_ret
    exact ⟨ret_bool (by rw [hR.out]), hb1⟩

set_option maxHeartbeats 1000000 in
theorem rgood_any (n : Int) (t q : Nat) (w : World) (hn4 : 4 ≤ n) (hn : n ≤ 32) (ht0 : 0 < t) (ht : t ≤ 2147483647) (hq : q < 4294967296) :
    Calls Try.prog 46 #[.int .i64 n, .int .i64 t, .int .u32 q] w fun r w' => r = .returned (.bool (goodS rPrime ((2 * n).toNat * t) q)) ∧ w = w' := by
  obtain ⟨m, rfl⟩ := Int.eq_ofNat_of_zero_le (show 0 ≤ n by omega)
  have hS0 : (2 * (m : Int)).toNat = 2 * m := by omega
  have hm0 : (0 : Int) < 2 * (m : Int) * (t : Int) := Int.mul_pos (by omega) (by omega)
  have hm1 : 2 * (m : Int) * (t : Int) ≤ 64 * 2147483647 := Int.mul_le_mul (by omega) (by omega) (by omega) (by omega)
  have hS : Hid (((2 * (m : Int)).toNat * t : Nat) = 2 * (m : Int) * (t : Int)) := by show _ = _; rw [hS0]; simp
  clear hS0
  by_cases c1 : 1073741824 < q
  case neg =>
    have d1 : decide ((1073741824 : Int) < q) = false := decide_eq_false (by omega)
    have hR : Hid (goodS rPrime ((2 * (m : Int)).toNat * t) q = false) := by show _ = _; unfold goodS; rw [decide_eq_false c1]; rfl
    go_enter Try.func46, Try.ntmps46
    go_wp2_with fail
    go_ret
    exact ⟨ret_bool (by rw [hR.out]), rfl⟩
  have d1 : decide ((1073741824 : Int) < q) = true := decide_eq_true (by omega)
  by_cases c2 : q ≤ 2147483647
  case neg =>
    have d2 : decide ((q : Int) ≤ 2147483647) = false := decide_eq_false (by omega)
    have hR : Hid (goodS rPrime ((2 * (m : Int)).toNat * t) q = false) := by show _ = _; unfold goodS; rw [decide_eq_true c1, decide_eq_false c2]; rfl
    go_enter Try.func46, Try.ntmps46
    go_wp2_with fail
    go_ret
    exact ⟨ret_bool (by rw [hR.out]), rfl⟩
  have d2 : decide ((q : Int) ≤ 2147483647) = true := decide_eq_true (by omega)
  cases c4 : rPrime q with
  | false =>
    have hR : Hid (goodS rPrime ((2 * (m : Int)).toNat * t) q = false) := by show _ = _; unfold goodS; rw [c4]; simp
    go_enter Try.func46, Try.ntmps46
    go_wp2_with (go_at_call 76; refine (rPrime_any _ _ (by omega)).mono ?_; rintro e w1 ⟨rfl, rfl⟩)
    go_ret
    exact ⟨ret_bool (by rw [hR.out]), rfl⟩
  | true =>
  by_cases c3 : q % ((2 * (m : Int)).toNat * t) = 1
  case neg =>
    have d3 : ((q : Int) % (2 * (m : Int) * (t : Int)) == 1) = false := by
      apply beq_eq_false_iff_ne.2; intro hc; apply c3
      have : ((q % ((2 * (m : Int)).toNat * t) : Nat) : Int) = 1 := by rw [Int.natCast_emod, hS.out]; exact hc
      omega
    have hR : Hid (goodS rPrime ((2 * (m : Int)).toNat * t) q = false) := by show _ = _; unfold goodS; rw [decide_eq_false c3]; simp
    clear c3
    go_enter Try.func46, Try.ntmps46
    go_wp2_with (go_at_call 76; refine (rPrime_any _ _ (by omega)).mono ?_; rintro e w1 ⟨rfl, rfl⟩)
    go_ret
    exact ⟨ret_bool (by rw [hR.out]), rfl⟩
  have d3 : ((q : Int) % (2 * (m : Int) * (t : Int)) == 1) = true := by
    apply beq_iff_eq.2
    rw [← hS.out, ← Int.natCast_emod, c3]; rfl
  have hR : Hid (goodS rPrime ((2 * (m : Int)).toNat * t) q = true) := by show _ = _; unfold goodS; rw [c4, decide_eq_true c1, decide_eq_true c2, decide_eq_true c3]; rfl
  clear c3
  go_enter Try.func46, Try.ntmps46
  go_wp2_with (go_at_call 76; refine (rPrime_any _ _ (by omega)).mono ?_; rintro e w1 ⟨rfl, rfl⟩)
  go_ret
  exact ⟨ret_bool (by rw [hR.out]), rfl⟩

end Go.Proofs.Ytjfjbkocopaehaa
