/- Walks of the parameters' small functions: dimension, power; the reference's dimension, plain, good. Walks of the parts of params.Check: the closures, slices.IndexFunc and ContainsFunc at uint32; the reference's good. Walks of the closures of params.Check, but for the last one. -/
import Derived.Test.YtjpcljnojipdnaaGreatModX
import Derived.Test.YtjpcljnojipdnaaGreatMthA
/-! Walks of the parameters' small functions: dimension, power; the reference's dimension, plain, good. -/
namespace Go.Proofs.YtjpcljnojipdnaaGreat
open Go.RowKit

theorem dim_bits : ∀ k : Nat, k < 29 → (bits BinOp.and IntKind.i64 ((k : Int) + 4) ((k : Int) + 3) == 0) = isDim ((k : Int) + 4) := by decide

set_option maxHeartbeats 400000 in
theorem pdim_any (n : Int) (w : World) (_h0 : -9223372036854775808 ≤ n) (_h1 : n ≤ 9223372036854775807) :
    Calls Tryz.prog 111 #[.int .i64 n] w fun r w' => r = .returned (.bool (isDim n)) ∧ w = w' := by
  by_cases h4 : 4 ≤ n
  · by_cases h32 : n ≤ 32
    · have hk := dim_bits (n - 4).toNat (by omega)
      have e1 : (((n - 4).toNat : Nat) : Int) = n - 4 := by omega
      rw [e1, show n - 4 + 4 = n by omega, show n - 4 + 3 = n - 1 by omega] at hk
      have d4 : decide (4 ≤ n) = true := decide_eq_true h4
      have d32 : decide (n ≤ 32) = true := decide_eq_true h32
      go_enter Tryz.func111, Tryz.ntmps111
      go_wp2_with fail
      go_ret
      exact ⟨ret_bool (by first | rfl | exact hk), rfl⟩
    · have hR : Hid (isDim n = false) := by
        show _ = _
        unfold isDim
        simp only [Bool.or_eq_false_iff, beq_eq_false_iff_ne]; omega
      have d4 : decide (4 ≤ n) = true := decide_eq_true h4
      have d32 : decide (n ≤ 32) = false := decide_eq_false h32
      go_enter Tryz.func111, Tryz.ntmps111
      go_wp2_with fail
      go_ret
      exact ⟨ret_bool (by rw [hR.out]), rfl⟩
  · have hR : Hid (isDim n = false) := by
      show _ = _
      unfold isDim
      simp only [Bool.or_eq_false_iff, beq_eq_false_iff_ne]; omega
    have d4 : decide (4 ≤ n) = false := decide_eq_false h4
    go_enter Tryz.func111, Tryz.ntmps111
    go_wp2_with fail
    go_ret
    exact ⟨ret_bool (by rw [hR.out]), rfl⟩

set_option maxHeartbeats 400000 in
theorem rdim_any (n : Int) (w : World) :
    Calls Tryz.prog 68 #[.int .i64 n] w fun r w' => r = .returned (.bool (isDim n)) ∧ w = w' := by
  have hR : Hid (isDim n = (n == 4 || (n == 8 || (n == 16 || n == 32)))) := by show _ = _; unfold isDim; simp only [Bool.or_assoc]
  cases h4 : (n == 4) with
  | true =>
    go_enter Tryz.func68, Tryz.ntmps68
    go_wp2_with fail
    go_ret
    exact ⟨ret_bool (by rw [hR.out, h4]; rfl), rfl⟩
  | false =>
    cases h8 : (n == 8) with
    | true =>
      go_enter Tryz.func68, Tryz.ntmps68
      go_wp2_with fail
      go_ret
      exact ⟨ret_bool (by rw [hR.out, h4, h8]; rfl), rfl⟩
    | false =>
      cases h16 : (n == 16) with
      | true =>
        go_enter Tryz.func68, Tryz.ntmps68
        go_wp2_with fail
        go_ret
        exact ⟨ret_bool (by rw [hR.out, h4, h8, h16]; rfl), rfl⟩
      | false =>
        cases h32 : (n == 32) with
        | true =>
          go_enter Tryz.func68, Tryz.ntmps68
          go_wp2_with fail
          go_ret
          exact ⟨ret_bool (by rw [hR.out, h4, h8, h16, h32]; rfl), rfl⟩
        | false =>
          go_enter Tryz.func68, Tryz.ntmps68
          go_wp2_with fail
          go_ret
          exact ⟨ret_bool (by rw [hR.out, h4, h8, h16, h32]; rfl), rfl⟩

set_option maxHeartbeats 1000000 in
theorem ppower_any (n : Int) (p : Nat) (e : Int) (w : World) (hn4 : 4 ≤ n) (hn : n ≤ 32) (hp : p < 4294967296) (he0 : -9223372036854775808 ≤ e) (he1 : e ≤ 9223372036854775807) :
    Calls Tryz.prog 81 #[.int .i64 n, .int .u32 p, .int .i64 e] w fun r w' => r = .returned (.int .i64 (powv mPrime n p e : Nat)) ∧ Below w.heap.size w w' := by
  by_cases c1 : p < 3
  case pos =>
    have d1 : decide ((p : Int) < 3) = true := decide_eq_true (by omega)
    have hR : Hid (powv mPrime n p e = 0) := powv_no (by omega)
    go_enter Tryz.func81, Tryz.ntmps81
    go_wp2_with fail
    go_ret
    exact ⟨ret_int (by rw [hR.out]; rfl), Below.refl _ _⟩
  have d1 : decide ((p : Int) < 3) = false := decide_eq_false (by omega)
  by_cases c2 : p < 65536
  case neg =>
    have d2 : decide ((65536 : Int) ≤ p) = true := decide_eq_true (by omega)
    have hR : Hid (powv mPrime n p e = 0) := powv_no (by omega)
    go_enter Tryz.func81, Tryz.ntmps81
    go_wp2_with fail
    go_ret
    exact ⟨ret_int (by rw [hR.out]; rfl), Below.refl _ _⟩
  have d2 : decide ((65536 : Int) ≤ p) = false := decide_eq_false (by omega)
  cases c3 : mPrime p with
  | false =>
    have hR : Hid (powv mPrime n p e = 0) := powv_no (by rw [c3]; simp)
    go_enter Tryz.func81, Tryz.ntmps81
    go_wp2_with (go_at_call 113; refine (mPrime_any _ _ (by omega)).mono ?_; rintro e w1 ⟨rfl, hb1⟩)
    go_ret
    exact ⟨ret_int (by rw [hR.out]; rfl), hb1⟩
  | true =>
  by_cases c4 : (p : Int) % (2 * n) = 1
  case neg =>
    have d4 : ((p : Int) % (2 * n) != 1) = true := by simpa using c4
    have hR : Hid (powv mPrime n p e = 0) := powv_no (by
      intro hc; apply c4; have h := hc.2.2.2.1
      have : ((p % (2 * n).toNat : Nat) : Int) = 1 := by rw [h]; rfl
      rw [Int.natCast_emod, Int.toNat_of_nonneg (by omega)] at this; exact this)
    clear c4
    go_enter Tryz.func81, Tryz.ntmps81
    go_wp2_with (go_at_call 113; refine (mPrime_any _ _ (by omega)).mono ?_; rintro e w1 ⟨rfl, hb1⟩)
    go_ret
    exact ⟨ret_int (by rw [hR.out]; rfl), hb1⟩
  have d4 : ((p : Int) % (2 * n) != 1) = false := by simpa using c4
  have c4' : p % (2 * n).toNat = 1 := by
    have : ((p % (2 * n).toNat : Nat) : Int) = 1 := by rw [Int.natCast_emod, Int.toNat_of_nonneg (by omega)]; exact c4
    omega
  by_cases c5 : 1 ≤ e
  case neg =>
    have d5 : decide (e < 1) = true := decide_eq_true (by omega)
    have hR : Hid (powv mPrime n p e = 0) := powv_no (by omega)
    clear c4 c4'
    go_enter Tryz.func81, Tryz.ntmps81
    go_wp2_with (go_at_call 113; refine (mPrime_any _ _ (by omega)).mono ?_; rintro e w1 ⟨rfl, hb1⟩)
    go_ret
    exact ⟨ret_int (by rw [hR.out]; rfl), hb1⟩
  have d5 : decide (e < 1) = false := decide_eq_false (by omega)
  have hall := Lib.hid (show 3 ≤ p ∧ p < 65536 ∧ mPrime p = true ∧ p % (2 * n).toNat = 1 ∧ 1 ≤ e from ⟨by omega, c2, c3, c4', c5⟩)
  clear c4 c4'
  go_enter Tryz.func81, Tryz.ntmps81
  go_wp2_with (go_at_call 113; refine (mPrime_any _ _ (by omega)).mono ?_; rintro e w1 ⟨rfl, hb1⟩)
  go_loop [7, 32] (fun vt vk => ∃ k t : Nat, vt = .int .i64 t ∧ vk = .int .i64 k ∧ (k : Int) ≤ e ∧ t ≤ 2147483647 ∧ Hid (p ^ k = t)) (fun _ vk => (e - intOf vk).toNat)
  case atStart => exact ⟨0, 1, rfl, rfl, by omega, by omega, rfl⟩
  case round =>
    obtain ⟨k, t, rfl, rfl, hk, ht, hI⟩ := hrel
    have hm0 : (0 : Int) ≤ (t : Int) * (p : Int) := Int.mul_nonneg (by omega) (by omega)
    have hm1 : (t : Int) * (p : Int) ≤ 2147483647 * 65536 := Int.mul_le_mul (by omega) (by omega) (by omega) (by omega)
    have hstep := Lib.hid (show p ^ (k + 1) = t * p by rw [Nat.pow_succ, hI.out])
    by_cases hlt : (k : Int) < e
    · by_cases hbig : 2147483647 < t * p
      · have hb : (2147483647 : Int) < (t : Int) * (p : Int) := by have := Int.ofNat_lt.2 hbig; rw [Int.natCast_mul] at this; exact this
        have hR : Hid (powv mPrime n p e = 0) := powv_big (k := k + 1) (by omega) (by omega) (by rw [hstep.out]; exact hbig)
        clear hbig
        go_wp2_with fail
        go_ret
        exact ⟨ret_int (by rw [hR.out]; rfl), hb1⟩
      · have hb : ¬ (2147483647 : Int) < (t : Int) * (p : Int) := by intro hc; apply hbig; rw [← Int.natCast_mul] at hc; exact Int.ofNat_lt.1 hc
        have hbig' := Lib.hid hbig
        clear hbig
        go_wp2_with fail
        go_round
        case rel => exact ⟨k + 1, t * p, by rw [Int.natCast_mul], by go_num, by omega, by have := hbig'.out; omega, hstep.out⟩
        case measure => simp [intOf]; omega
    · have hR : Hid (powv mPrime n p e = t) := by
        show _ = _; rw [powv_yes hall.out (k := k) (by omega) (by rw [hI.out]; exact ht), hI.out]
      go_wp2_with fail
      go_ret
      exact ⟨ret_int (by rw [hR.out]), hb1⟩

set_option maxHeartbeats 1000000 in
theorem rplain_any (n : Int) (p : Nat) (e : Int) (w : World) (hn4 : 4 ≤ n) (hn : n ≤ 32) (hp : p < 4294967296) (he0 : -9223372036854775808 ≤ e) (he1 : e ≤ 9223372036854775807) :
    Calls Tryz.prog 69 #[.int .i64 n, .int .u32 p, .int .i64 e] w fun r w' => r = .returned (.int .i64 (powv rPrime n p e : Nat)) ∧ w = w' := by
  by_cases c1 : p < 3
  case pos =>
    have d1 : decide ((p : Int) < 3) = true := decide_eq_true (by omega)
    have hR : Hid (powv rPrime n p e = 0) := powv_no (by omega)
    go_enter Tryz.func69, Tryz.ntmps69
    go_wp2_with fail
    go_ret
    exact ⟨ret_int (by rw [hR.out]; rfl), rfl⟩
  have d1 : decide ((p : Int) < 3) = false := decide_eq_false (by omega)
  by_cases c2 : p < 65536
  case neg =>
    have d2 : decide ((65536 : Int) ≤ p) = true := decide_eq_true (by omega)
    have hR : Hid (powv rPrime n p e = 0) := powv_no (by omega)
    go_enter Tryz.func69, Tryz.ntmps69
    go_wp2_with fail
    go_ret
    exact ⟨ret_int (by rw [hR.out]; rfl), rfl⟩
  have d2 : decide ((65536 : Int) ≤ p) = false := decide_eq_false (by omega)
  cases c3 : rPrime p with
  | false =>
    have hR : Hid (powv rPrime n p e = 0) := powv_no (by rw [c3]; simp)
    go_enter Tryz.func69, Tryz.ntmps69
    go_wp2_with (go_at_call 96; refine (rPrime_any _ _ (by omega)).mono ?_; rintro e w1 ⟨rfl, rfl⟩)
    go_ret
    exact ⟨ret_int (by rw [hR.out]; rfl), rfl⟩
  | true =>
  by_cases c4 : (p : Int) % (2 * n) = 1
  case neg =>
    have d4 : ((p : Int) % (2 * n) != 1) = true := by simpa using c4
    have hR : Hid (powv rPrime n p e = 0) := powv_no (by
      intro hc; apply c4; have h := hc.2.2.2.1
      have : ((p % (2 * n).toNat : Nat) : Int) = 1 := by rw [h]; rfl
      rw [Int.natCast_emod, Int.toNat_of_nonneg (by omega)] at this; exact this)
    clear c4
    go_enter Tryz.func69, Tryz.ntmps69
    go_wp2_with (go_at_call 96; refine (rPrime_any _ _ (by omega)).mono ?_; rintro e w1 ⟨rfl, rfl⟩)
    go_ret
    exact ⟨ret_int (by rw [hR.out]; rfl), rfl⟩
  have d4 : ((p : Int) % (2 * n) != 1) = false := by simpa using c4
  have c4' : p % (2 * n).toNat = 1 := by
    have : ((p % (2 * n).toNat : Nat) : Int) = 1 := by rw [Int.natCast_emod, Int.toNat_of_nonneg (by omega)]; exact c4
    omega
  by_cases c5 : 1 ≤ e
  case neg =>
    have d5 : decide (e < 1) = true := decide_eq_true (by omega)
    have hR : Hid (powv rPrime n p e = 0) := powv_no (by omega)
    clear c4 c4'
    go_enter Tryz.func69, Tryz.ntmps69
    go_wp2_with (go_at_call 96; refine (rPrime_any _ _ (by omega)).mono ?_; rintro e w1 ⟨rfl, rfl⟩)
    go_ret
    exact ⟨ret_int (by rw [hR.out]; rfl), rfl⟩
  have d5 : decide (e < 1) = false := decide_eq_false (by omega)
  have hall := Lib.hid (show 3 ≤ p ∧ p < 65536 ∧ rPrime p = true ∧ p % (2 * n).toNat = 1 ∧ 1 ≤ e from ⟨by omega, c2, c3, c4', c5⟩)
  clear c4 c4'
  go_enter Tryz.func69, Tryz.ntmps69
  go_wp2_with (go_at_call 96; refine (rPrime_any _ _ (by omega)).mono ?_; rintro e w1 ⟨rfl, rfl⟩)
  go_loop [7, 8] (fun vt vk => ∃ k t : Nat, vt = .int .i64 t ∧ vk = .int .i64 k ∧ (k : Int) ≤ e ∧ t ≤ 2147483647 ∧ Hid (p ^ k = t)) (fun _ vk => (e - intOf vk).toNat)
  case atStart => exact ⟨0, 1, rfl, rfl, by omega, by omega, rfl⟩
  case round =>
    obtain ⟨k, t, rfl, rfl, hk, ht, hI⟩ := hrel
    have hm0 : (0 : Int) ≤ (t : Int) * (p : Int) := Int.mul_nonneg (by omega) (by omega)
    have hm1 : (t : Int) * (p : Int) ≤ 2147483647 * 65536 := Int.mul_le_mul (by omega) (by omega) (by omega) (by omega)
    have hstep := Lib.hid (show p ^ (k + 1) = t * p by rw [Nat.pow_succ, hI.out])
    by_cases hlt : (k : Int) < e
    · by_cases hbig : 2147483647 < t * p
      · have hb : (2147483647 : Int) < (t : Int) * (p : Int) := by have := Int.ofNat_lt.2 hbig; rw [Int.natCast_mul] at this; exact this
        have hR : Hid (powv rPrime n p e = 0) := powv_big (k := k + 1) (by omega) (by omega) (by rw [hstep.out]; exact hbig)
        clear hbig
        go_wp2_with fail
        go_ret
        exact ⟨ret_int (by rw [hR.out]; rfl), rfl⟩
      · have hb : ¬ (2147483647 : Int) < (t : Int) * (p : Int) := by intro hc; apply hbig; rw [← Int.natCast_mul] at hc; exact Int.ofNat_lt.1 hc
        have hbig' := Lib.hid hbig
        clear hbig
        go_wp2_with fail
        go_round
        case rel => exact ⟨k + 1, t * p, by rw [Int.natCast_mul], by go_num, by omega, by have := hbig'.out; omega, hstep.out⟩
        case measure => simp [intOf]; omega
    · have hR : Hid (powv rPrime n p e = t) := by
        show _ = _; rw [powv_yes hall.out (k := k) (by omega) (by rw [hI.out]; exact ht), hI.out]
      go_wp2_with fail
      go_ret
      exact ⟨ret_int (by rw [hR.out]), rfl⟩
end Go.Proofs.YtjpcljnojipdnaaGreat

/-! Walks of the parts of params.Check: the closures, slices.IndexFunc and ContainsFunc at uint32; the reference's good. -/
namespace Go.Proofs.YtjpcljnojipdnaaGreat
open Go.RowKit

set_option maxHeartbeats 1000000 in
theorem pgood_any (q s : Nat) (a : Addr) (w : World) (hq : q < 4294967296) (hs0 : 0 < s) (hs1 : s ≤ 137438953408) (ha : w.cell? a = some (.int .i64 s)) :
    Calls Tryz.prog 112 #[.int .u32 q, .pointer (some a)] w fun r w' => r = .returned (.bool (goodS mPrime s q)) ∧ Below w.heap.size w w' := by
  by_cases c1 : 1073741824 < q
  case neg =>
    have d1 : decide ((1073741824 : Int) < q) = false := decide_eq_false (by omega)
    have hR : Hid (goodS mPrime s q = false) := by show _ = _; unfold goodS; rw [decide_eq_false c1]; rfl
    go_enter Tryz.func112, Tryz.ntmps112
    go_wp2_with fail
    go_ret
    exact ⟨ret_bool (by rw [hR.out]), Below.refl _ _⟩
  have d1 : decide ((1073741824 : Int) < q) = true := decide_eq_true (by omega)
  by_cases c2 : q ≤ 2147483647
  case neg =>
    have d2 : decide ((q : Int) ≤ 2147483647) = false := decide_eq_false (by omega)
    have hR : Hid (goodS mPrime s q = false) := by show _ = _; unfold goodS; rw [decide_eq_true c1, decide_eq_false c2]; rfl
    go_enter Tryz.func112, Tryz.ntmps112
    go_wp2_with fail
    go_ret
    exact ⟨ret_bool (by rw [hR.out]), Below.refl _ _⟩
  have d2 : decide ((q : Int) ≤ 2147483647) = true := decide_eq_true (by omega)
  by_cases c3 : q % s = 1
  case neg =>
    have d3 : ((q : Int) % (s : Int) == 1) = false := by
      apply beq_eq_false_iff_ne.2; intro hc; apply c3
      have : ((q % s : Nat) : Int) = 1 := by rw [Int.natCast_emod]; exact hc
      omega
    have hR : Hid (goodS mPrime s q = false) := by show _ = _; unfold goodS; rw [decide_eq_false c3]; simp
    clear c3
    go_enter Tryz.func112, Tryz.ntmps112
    go_wp2_with (fail)
    go_ret
    exact ⟨ret_bool (by rw [hR.out]), Below.refl _ _⟩
  have d3 : ((q : Int) % (s : Int) == 1) = true := by
    apply beq_iff_eq.2
    rw [← Int.natCast_emod, c3]; rfl
  have H3 := Lib.hid c3
  clear c3
  cases c4 : mPrime q with
  | false =>
    have hR : Hid (goodS mPrime s q = false) := by show _ = _; unfold goodS; rw [c4]; simp
    go_enter Tryz.func112, Tryz.ntmps112
    go_wp2_with (go_at_call 113; refine (mPrime_any _ _ (by omega)).mono ?_; rintro e w1 ⟨rfl, hb1⟩)
    go_ret
    exact ⟨ret_bool (by rw [hR.out]), hb1⟩
  | true =>
    have hR : Hid (goodS mPrime s q = true) := by show _ = _; unfold goodS; rw [c4, decide_eq_true c1, decide_eq_true c2, decide_eq_true H3.out]; rfl
    go_enter Tryz.func112, Tryz.ntmps112
    go_wp2_with (go_at_call 113; refine (mPrime_any _ _ (by omega)).mono ?_; rintro e w1 ⟨rfl, hb1⟩)
    go_ret
    exact ⟨ret_bool (by rw [hR.out]), hb1⟩

set_option maxHeartbeats 1000000 in
theorem rgood_any (n : Int) (t q : Nat) (w : World) (hn4 : 4 ≤ n) (hn : n ≤ 32) (ht0 : 0 < t) (ht : t ≤ 2147483647) (hq : q < 4294967296) :
    Calls Tryz.prog 70 #[.int .i64 n, .int .i64 t, .int .u32 q] w fun r w' => r = .returned (.bool (goodS rPrime ((2 * n).toNat * t) q)) ∧ w = w' := by
  obtain ⟨m, rfl⟩ := Int.eq_ofNat_of_zero_le (show 0 ≤ n by omega)
  have hS0 : (2 * (m : Int)).toNat = 2 * m := by omega
  have hm0 : (0 : Int) < 2 * (m : Int) * (t : Int) := Int.mul_pos (by omega) (by omega)
  have hm1 : 2 * (m : Int) * (t : Int) ≤ 64 * 2147483647 := Int.mul_le_mul (by omega) (by omega) (by omega) (by omega)
  have hS : Hid (((2 * (m : Int)).toNat * t : Nat) = 2 * (m : Int) * (t : Int)) := by show _ = _; rw [hS0]; simp
  clear hS0
  by_cases c1 : 1073741824 < q
  case neg =>
    have d1 : decide ((1073741824 : Int) < q) = false := decide_eq_false (by omega)
    have hR : Hid (goodS rPrime ((2 * (m : Int)).toNat * t) q = false) := by show _ = _; unfold goodS; rw [decide_eq_false c1]; rfl
    go_enter Tryz.func70, Tryz.ntmps70
    go_wp2_with fail
    go_ret
    exact ⟨ret_bool (by rw [hR.out]), rfl⟩
  have d1 : decide ((1073741824 : Int) < q) = true := decide_eq_true (by omega)
  by_cases c2 : q ≤ 2147483647
  case neg =>
    have d2 : decide ((q : Int) ≤ 2147483647) = false := decide_eq_false (by omega)
    have hR : Hid (goodS rPrime ((2 * (m : Int)).toNat * t) q = false) := by show _ = _; unfold goodS; rw [decide_eq_true c1, decide_eq_false c2]; rfl
    go_enter Tryz.func70, Tryz.ntmps70
    go_wp2_with fail
    go_ret
    exact ⟨ret_bool (by rw [hR.out]), rfl⟩
  have d2 : decide ((q : Int) ≤ 2147483647) = true := decide_eq_true (by omega)
  cases c4 : rPrime q with
  | false =>
    have hR : Hid (goodS rPrime ((2 * (m : Int)).toNat * t) q = false) := by show _ = _; unfold goodS; rw [c4]; simp
    go_enter Tryz.func70, Tryz.ntmps70
    go_wp2_with (go_at_call 96; refine (rPrime_any _ _ (by omega)).mono ?_; rintro e w1 ⟨rfl, rfl⟩)
    go_ret
    exact ⟨ret_bool (by rw [hR.out]), rfl⟩
  | true =>
  by_cases c3 : q % ((2 * (m : Int)).toNat * t) = 1
  case neg =>
    have d3 : ((q : Int) % (2 * (m : Int) * (t : Int)) == 1) = false := by
      apply beq_eq_false_iff_ne.2; intro hc; apply c3
      have : ((q % ((2 * (m : Int)).toNat * t) : Nat) : Int) = 1 := by rw [Int.natCast_emod, hS.out]; exact hc
      omega
    have hR : Hid (goodS rPrime ((2 * (m : Int)).toNat * t) q = false) := by show _ = _; unfold goodS; rw [decide_eq_false c3]; simp
    clear c3
    go_enter Tryz.func70, Tryz.ntmps70
    go_wp2_with (go_at_call 96; refine (rPrime_any _ _ (by omega)).mono ?_; rintro e w1 ⟨rfl, rfl⟩)
    go_ret
    exact ⟨ret_bool (by rw [hR.out]), rfl⟩
  have d3 : ((q : Int) % (2 * (m : Int) * (t : Int)) == 1) = true := by
    apply beq_iff_eq.2
    rw [← hS.out, ← Int.natCast_emod, c3]; rfl
  have hR : Hid (goodS rPrime ((2 * (m : Int)).toNat * t) q = true) := by show _ = _; unfold goodS; rw [c4, decide_eq_true c1, decide_eq_true c2, decide_eq_true c3]; rfl
  clear c3
  go_enter Tryz.func70, Tryz.ntmps70
  go_wp2_with (go_at_call 96; refine (rPrime_any _ _ (by omega)).mono ?_; rintro e w1 ⟨rfl, rfl⟩)
  go_ret
  exact ⟨ret_bool (by rw [hR.out]), rfl⟩

end Go.Proofs.YtjpcljnojipdnaaGreat

/-! Walks of the closures of params.Check, but for the last one. -/
namespace Go.Proofs.YtjpcljnojipdnaaGreat
open Go.RowKit

/-- The parameters lie in block a. -/
structure BoxP (w : World) (a : Nat) (x : Par) (cv : Value) : Prop where
  n : w.cell? ⟨a, 0, none⟩ = some (.int .i64 x.n)
  p : w.cell? ⟨a, 1, none⟩ = some (.int .u32 x.p)
  r : w.cell? ⟨a, 2, none⟩ = some (.int .i64 x.r)
  ch : w.cell? ⟨a, 3, none⟩ = some cv
  sp : w.cell? ⟨a, 4, none⟩ = some (.int .u32 x.sp)
  wt : w.cell? ⟨a, 5, none⟩ = some (.int .i64 x.wt)
  er : w.cell? ⟨a, 6, none⟩ = some (.int .u32 x.er)

theorem BoxP.below {w w' : World} {a B : Nat} {x : Par} {cv : Value} (h : BoxP w a x cv) (hb : Below B w w') (ha : a < B) : BoxP w' a x cv := by
  refine ⟨?_, ?_, ?_, ?_, ?_, ?_, ?_⟩ <;> rw [hb.cell (p := ⟨a, _, none⟩) ha]
  · exact h.n
  · exact h.p
  · exact h.r
  · exact h.ch
  · exact h.sp
  · exact h.wt
  · exact h.er

/-- The numbers of a slice. -/
structure RowAt (w : World) (b off : Nat) (l : List Nat) : Prop where
  blk : b < w.heap.size
  cell : ∀ i (h : i < l.length), w.cell? ⟨b, off + i, none⟩ = some (.int .u32 (l[i] : Nat))
  rng : ∀ q, q ∈ l → q < 4294967296

theorem RowAt.below {w w' : World} {b off B : Nat} {l : List Nat} (h : RowAt w b off l) (hb : Below B w w') (ha : b < B) : RowAt w' b off l :=
  ⟨Nat.lt_of_lt_of_le h.blk hb.size, fun i hi => by rw [hb.cell (p := ⟨b, _, none⟩) ha]; exact h.cell i hi, h.rng⟩

set_option maxHeartbeats 400000 in
theorem pc2_any (t : Nat) (a : Addr) (w : World) (ha : w.cell? a = some (.int .i64 t)) :
    Calls Tryz.prog 114 #[.pointer (some a)] w fun r w' => r = .returned (.bool (decide (0 < t))) ∧ w = w' := by
  have hR : Hid (decide (0 < t) = decide ((0 : Int) < t)) := by show _ = _; by_cases h : 0 < t <;> simp [h]
  go_enter Tryz.func114, Tryz.ntmps114
  go_wp2_with fail
  go_ret
  exact ⟨ret_bool (by rw [hR.out]), rfl⟩

set_option maxHeartbeats 400000 in
theorem pc3_any (a : Nat) (p : Option Addr) (n cap : Nat) (w : World) (ha : w.cell? ⟨a, 3, none⟩ = some (.slice p n cap)) :
    Calls Tryz.prog 115 #[.pointer (some ⟨a, 0, none⟩)] w fun r w' => r = .returned (.bool (lenB n)) ∧ w = w' := by
  by_cases h1 : 1 ≤ n
  · have d1 : decide (1 ≤ (n : Int)) = true := decide_eq_true (by omega)
    by_cases h2 : n ≤ 24
    · have d2 : decide ((n : Int) ≤ 24) = true := decide_eq_true (by omega)
      go_enter Tryz.func115, Tryz.ntmps115
      go_wp2_with fail
      go_ret
      exact ⟨ret_bool (by unfold lenB; rw [decide_eq_true (show 1 ≤ n ∧ n ≤ 24 from ⟨h1, h2⟩)]), rfl⟩
    · have d2 : decide ((n : Int) ≤ 24) = false := decide_eq_false (by omega)
      go_enter Tryz.func115, Tryz.ntmps115
      go_wp2_with fail
      go_ret
      exact ⟨ret_bool (by unfold lenB; rw [decide_eq_false (show ¬ (1 ≤ n ∧ n ≤ 24) by omega)]), rfl⟩
  · have d1 : decide (1 ≤ (n : Int)) = false := decide_eq_false (by omega)
    go_enter Tryz.func115, Tryz.ntmps115
    go_wp2_with fail
    go_ret
    exact ⟨ret_bool (by unfold lenB; rw [decide_eq_false (show ¬ (1 ≤ n ∧ n ≤ 24) by omega)]), rfl⟩

set_option maxHeartbeats 400000 in
theorem pc4_any (a : Nat) (x : Par) (cv : Value) (w : World) (hB : BoxP w a x cv) :
    Calls Tryz.prog 116 #[.pointer (some ⟨a, 0, none⟩)] w fun r w' => r = .returned (.bool (wtB x)) ∧ w = w' := by
  have l5 := hB.wt
  have l0 := hB.n
  have l6 := hB.er
  clear hB
  by_cases h1 : 1 ≤ x.wt
  · have d1 : decide (1 ≤ x.wt) = true := decide_eq_true h1
    by_cases h2 : x.wt ≤ x.n
    · have d2 : decide (x.wt ≤ x.n) = true := decide_eq_true h2
      by_cases h3 : x.er ≤ 64
      · have d3 : decide ((x.er : Int) ≤ 64) = true := decide_eq_true (by omega)
        have hR : Hid (wtB x = true) := decide_eq_true ⟨h1, h2, h3⟩
        go_enter Tryz.func116, Tryz.ntmps116
        go_wp2_with fail
        go_ret
        exact ⟨ret_bool (by rw [hR.out]), rfl⟩
      · have d3 : decide ((x.er : Int) ≤ 64) = false := decide_eq_false (by omega)
        have hR : Hid (wtB x = false) := decide_eq_false (fun h => h3 h.2.2)
        go_enter Tryz.func116, Tryz.ntmps116
        go_wp2_with fail
        go_ret
        exact ⟨ret_bool (by rw [hR.out]), rfl⟩
    · have d2 : decide (x.wt ≤ x.n) = false := decide_eq_false h2
      have hR : Hid (wtB x = false) := decide_eq_false (fun h => h2 h.2.1)
      go_enter Tryz.func116, Tryz.ntmps116
      go_wp2_with fail
      go_ret
      exact ⟨ret_bool (by rw [hR.out]), rfl⟩
  · have d1 : decide (1 ≤ x.wt) = false := decide_eq_false h1
    have hR : Hid (wtB x = false) := decide_eq_false (fun h => h1 h.1)
    go_enter Tryz.func116, Tryz.ntmps116
    go_wp2_with fail
    go_ret
    exact ⟨ret_bool (by rw [hR.out]), rfl⟩

set_option maxHeartbeats 400000 in
theorem pc5_any (a f c : Nat) (s : Nat) (x : Par) (cv : Value) (w : World) (hB : BoxP w a x cv) (hx : x.sp < 4294967296) (hs0 : 0 < s) (hs1 : s ≤ 137438953408)
    (hf : w.cell? ⟨f, 0, none⟩ = some (.func (.func 112) #[] #[.pointer (some ⟨c, 0, none⟩)])) (hc : w.cell? ⟨c, 0, none⟩ = some (.int .i64 s)) :
    Calls Tryz.prog 117 #[.pointer (some ⟨f, 0, none⟩), .pointer (some ⟨a, 0, none⟩)] w fun r w' => r = .returned (.bool (goodS mPrime s x.sp)) ∧ Below w.heap.size w w' := by
  have l4 := hB.sp
  clear hB
  go_enter Tryz.func117, Tryz.ntmps117
  go_wp2_with (go_at_call 112; refine (pgood_any _ _ _ _ hx hs0 hs1 hc).mono ?_; rintro e w1 ⟨rfl, hb1⟩)
  go_ret
  exact ⟨rfl, hb1⟩

set_option maxHeartbeats 400000 in
theorem pc61_any (q a f c : Nat) (s : Nat) (x : Par) (cv : Value) (w : World) (hB : BoxP w a x cv) (hq : q < 4294967296) (hs0 : 0 < s) (hs1 : s ≤ 137438953408)
    (hf : w.cell? ⟨f, 0, none⟩ = some (.func (.func 112) #[] #[.pointer (some ⟨c, 0, none⟩)])) (hc : w.cell? ⟨c, 0, none⟩ = some (.int .i64 s)) :
    Calls Tryz.prog 120 #[.int .u32 q, .pointer (some ⟨a, 0, none⟩), .pointer (some ⟨f, 0, none⟩)] w fun r w' => r = .returned (.bool (badB mPrime s x.sp q)) ∧ Below w.heap.size w w' := by
  have l4 := hB.sp
  clear hB
  by_cases h1 : q < x.sp
  · have d1 : decide (x.sp ≤ q) = false := decide_eq_false (by omega)
    have hR : Hid (badB mPrime s x.sp q = !(goodS mPrime s q)) := by show _ = _; unfold badB; rw [decide_eq_true h1]; rfl
    go_enter Tryz.func120, Tryz.ntmps120
    go_wp2_with (go_at_call 112; refine (pgood_any _ _ _ _ hq hs0 hs1 hc).mono ?_; rintro e w1 ⟨rfl, hb1⟩)
    go_ret
    exact ⟨ret_bool (by rw [hR.out]), hb1⟩
  · have d1 : decide (x.sp ≤ q) = true := decide_eq_true (by omega)
    have hR : Hid (badB mPrime s x.sp q = true) := by show _ = _; unfold badB; rw [decide_eq_false h1]; rfl
    go_enter Tryz.func120, Tryz.ntmps120
    go_wp2_with fail
    go_ret
    exact ⟨ret_bool (by rw [hR.out]), Below.refl _ _⟩

/-- The first index, or -1. -/
def idxOf (p : Nat → Bool) (l : List Nat) : Int := if l.any p then (l.findIdx p : Int) else -1

theorem idxOf_hit {p : Nat → Bool} {l : List Nat} {k : Nat} (hk : k < l.length) (h0 : ∀ j (hj : j < k), p (l[j]'(by omega)) = false) (h1 : p l[k] = true) : idxOf p l = k := by
  have e : l.findIdx p = k := (List.findIdx_eq hk).2 ⟨h1, h0⟩
  unfold idxOf
  rw [if_pos (List.any_eq_true.2 ⟨l[k], List.getElem_mem hk, h1⟩), e]

theorem idxOf_miss {p : Nat → Bool} {l : List Nat} (h0 : ∀ j (hj : j < l.length), p l[j] = false) : idxOf p l = -1 := by
  unfold idxOf
  rw [if_neg]
  intro h
  obtain ⟨x, hx, hpx⟩ := List.any_eq_true.1 h
  obtain ⟨j, hj, rfl⟩ := List.mem_iff_getElem.1 hx
  rw [h0 j hj] at hpx; exact absurd hpx (by simp)

theorem idxOf_nonneg (p : Nat → Bool) (l : List Nat) : decide (0 ≤ idxOf p l) = l.any p := by
  unfold idxOf
  cases h : l.any p with
  | true => simp
  | false => simp

set_option maxHeartbeats 1000000 in
theorem pidx_any (b off cap a f c : Nat) (l : List Nat) (s : Nat) (x : Par) (cv : Value) (w : World) (hl : RowAt w b off l) (hlen : l.length ≤ 140737488351232) (hB : BoxP w a x cv) (ha : a < w.heap.size) (hs0 : 0 < s) (hs1 : s ≤ 137438953408)
    (hf : w.cell? ⟨f, 0, none⟩ = some (.func (.func 112) #[] #[.pointer (some ⟨c, 0, none⟩)])) (hfw : f < w.heap.size) (hc : w.cell? ⟨c, 0, none⟩ = some (.int .i64 s)) (hcw : c < w.heap.size) :
    Calls Tryz.prog 142 #[.slice (some ⟨b, off, none⟩) l.length cap, .func (.func 120) #[] #[.pointer (some ⟨a, 0, none⟩), .pointer (some ⟨f, 0, none⟩)]] w fun r w' =>
      r = .returned (.int .i64 (idxOf (badB mPrime s x.sp) l)) ∧ Below w.heap.size w w' := by
  go_enter Tryz.func142, Tryz.ntmps142
  go_wp2_with fail
  go_loopw [5, 8] (fun _ vk wr => ∃ k : Nat, vk = .int .i64 k ∧ k ≤ l.length ∧ Hid (∀ j (hj : j < k) (hj2 : j < l.length), badB mPrime s x.sp l[j] = false) ∧ Below w.heap.size w wr) (fun _ vk _ => l.length - (intOf vk).toNat)
  case atStart => exact ⟨0, rfl, by omega, by intro j hj; omega, Below.refl _ _⟩
  case round =>
    obtain ⟨k, rfl, hk, hno, hbel⟩ := hrel
    have hsz := hbel.size
    by_cases hlt : k < l.length
    · have hq := hl.rng l[k] (List.getElem_mem hlt)
      have hcell : wr.cell? ⟨b, off + k, none⟩ = some (.int .u32 (l[k] : Nat)) := by rw [hbel.cell (p := ⟨b, _, none⟩) hl.blk]; exact hl.cell k hlt
      have hB' := Lib.hid (hB.below hbel ha)
      have hf' : Hid (wr.cell? ⟨f, 0, none⟩ = some (.func (.func 112) #[] #[.pointer (some ⟨c, 0, none⟩)])) := by show _ = _; rw [hbel.cell (p := ⟨f, 0, none⟩) hfw]; exact hf
      have hc' : Hid (wr.cell? ⟨c, 0, none⟩ = some (.int .i64 s)) := by show _ = _; rw [hbel.cell (p := ⟨c, 0, none⟩) hcw]; exact hc
      cases hv : badB mPrime s x.sp l[k] with
      | true =>
        have hR : Hid (idxOf (badB mPrime s x.sp) l = k) := idxOf_hit hlt (fun j hj => hno.out j hj (by omega)) hv
        generalize l[k] = q at *
        have hv' := Lib.hid hv
        clear hv
        go_wp2_with (go_at_call 120; refine (pc61_any _ _ _ _ _ _ _ _ hB'.out hq hs0 hs1 hf'.out hc'.out).mono ?_; rintro e w1 ⟨rfl, hb1⟩; rw [hv'.out])
        go_ret
        exact ⟨ret_int (by rw [hR.out]), hbel.trans (hb1.mono hsz)⟩
      | false =>
        have hno' : Hid (∀ j (hj : j < k + 1) (hj2 : j < l.length), badB mPrime s x.sp l[j] = false) := by
          intro j hj hj2
          by_cases e : j = k
          · subst e; exact hv
          · exact hno.out j (by omega) hj2
        generalize l[k] = q at *
        have hv' := Lib.hid hv
        clear hv
        go_wp2_with (go_at_call 120; refine (pc61_any _ _ _ _ _ _ _ _ hB'.out hq hs0 hs1 hf'.out hc'.out).mono ?_; rintro e w1 ⟨rfl, hb1⟩; rw [hv'.out])
        go_roundw
        case rel => exact ⟨k + 1, by go_num, by omega, hno', hbel.trans (hb1.mono hsz)⟩
        case measure => simp [intOf]; omega
    · have hR : Hid (idxOf (badB mPrime s x.sp) l = -1) := idxOf_miss (fun j hj => hno.out j (by omega) hj)
      go_wp2_with fail
      go_ret
      exact ⟨ret_int (by rw [hR.out]), hbel⟩
end Go.Proofs.YtjpcljnojipdnaaGreat
