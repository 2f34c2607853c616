/- Walks of the parameters' small functions: dimension, power; the reference's dimension, plain, good. -/
import Derived.Test.YtjfjbkocopaehaaModC
import Derived.Test.YtjfjbkocopaehaaMathB
namespace Go.Proofs.Ytjfjbkocopaehaa
open Go.RowKit

theorem dim_bits : ∀ k : Nat, k < 29 → (bits BinOp.and IntKind.i64 ((k : Int) + 4) ((k : Int) + 3) == 0) = isDim ((k : Int) + 4) := by decide

set_option maxHeartbeats 400000 in
theorem pdim_any (n : Int) (w : World) (_h0 : -9223372036854775808 ≤ n) (_h1 : n ≤ 9223372036854775807) :
    Calls Try.prog 49 #[.int .i64 n] w fun r w' => r = .returned (.bool (isDim n)) ∧ w = w' := by
  by_cases h4 : 4 ≤ n
  · by_cases h32 : n ≤ 32
    · have hk := dim_bits (n - 4).toNat (by omega)
      have e1 : (((n - 4).toNat : Nat) : Int) = n - 4 := by omega
      rw [e1, show n - 4 + 4 = n by omega, show n - 4 + 3 = n - 1 by omega] at hk
      have d4 : decide (4 ≤ n) = true := decide_eq_true h4
      have d32 : decide (n ≤ 32) = true := decide_eq_true h32
      go_enter Try.func49, Try.ntmps49
      go_wp2_with fail
      go_ret
      exact ⟨ret_bool (by first | rfl | exact hk), rfl⟩
    · have hR : Hid (isDim n = false) := by
        show _ = _
        unfold isDim
        simp only [Bool.or_eq_false_iff, beq_eq_false_iff_ne]; omega
      have d4 : decide (4 ≤ n) = true := decide_eq_true h4
      have d32 : decide (n ≤ 32) = false := decide_eq_false h32
      go_enter Try.func49, Try.ntmps49
      go_wp2_with fail
      go_ret
      exact ⟨ret_bool (by rw [hR.out]), rfl⟩
  · have hR : Hid (isDim n = false) := by
      show _ = _
      unfold isDim
      simp only [Bool.or_eq_false_iff, beq_eq_false_iff_ne]; omega
    have d4 : decide (4 ≤ n) = false := decide_eq_false h4
    go_enter Try.func49, Try.ntmps49
    go_wp2_with fail
    go_ret
    exact ⟨ret_bool (by rw [hR.out]), rfl⟩

set_option maxHeartbeats 400000 in
theorem rdim_any (n : Int) (w : World) :
    Calls Try.prog 44 #[.int .i64 n] w fun r w' => r = .returned (.bool (isDim n)) ∧ w = w' := by
  have hR : Hid (isDim n = (n == 4 || (n == 8 || (n == 16 || n == 32)))) := by show _ = _; unfold isDim; simp only [Bool.or_assoc]
  cases h4 : (n == 4) with
  | true =>
    go_enter Try.func44, Try.ntmps44
    go_wp2_with fail
    go_ret
    exact ⟨ret_bool (by rw [hR.out, h4]; rfl), rfl⟩
  | false =>
    cases h8 : (n == 8) with
    | true =>
      go_enter Try.func44, Try.ntmps44
      go_wp2_with fail
      go_ret
      exact ⟨ret_bool (by rw [hR.out, h4, h8]; rfl), rfl⟩
    | false =>
      cases h16 : (n == 16) with
      | true =>
        go_enter Try.func44, Try.ntmps44
        go_wp2_with fail
        go_ret
        exact ⟨ret_bool (by rw [hR.out, h4, h8, h16]; rfl), rfl⟩
      | false =>
        cases h32 : (n == 32) with
        | true =>
          go_enter Try.func44, Try.ntmps44
          go_wp2_with fail
          go_ret
          exact ⟨ret_bool (by rw [hR.out, h4, h8, h16, h32]; rfl), rfl⟩
        | false =>
          go_enter Try.func44, Try.ntmps44
          go_wp2_with fail
          go_ret
          exact ⟨ret_bool (by rw [hR.out, h4, h8, h16, h32]; rfl), rfl⟩

set_option maxHeartbeats 1000000 in
theorem ppower_any (n : Int) (p : Nat) (e : Int) (w : World) (hn4 : 4 ≤ n) (hn : n ≤ 32) (hp : p < 4294967296) (he0 : -9223372036854775808 ≤ e) (he1 : e ≤ 9223372036854775807) :
    Calls Try.prog 50 #[.int .i64 n, .int .u32 p, .int .i64 e] w fun r w' => r = .returned (.int .i64 (powv mPrime n p e : Nat)) ∧ Below w.heap.size w w' := by
  by_cases c1 : p < 3
  case pos =>
    have d1 : decide ((p : Int) < 3) = true := decide_eq_true (by omega)
    have hR : Hid (powv mPrime n p e = 0) := powv_no (by omega)
    go_enter Try.func50, Try.ntmps50
    go_wp2_with fail
    go_ret
    exact ⟨ret_int (by rw [hR.out]; rfl), Below.refl _ _⟩
  have d1 : decide ((p : Int) < 3) = false := decide_eq_false (by omega)
  by_cases c2 : p < 65536
  case neg =>
    have d2 : decide ((65536 : Int) ≤ p) = true := decide_eq_true (by omega)
    have hR : Hid (powv mPrime n p e = 0) := powv_no (by omega)
    go_enter Try.func50, Try.ntmps50
    go_wp2_with fail
    go_ret
    exact ⟨ret_int (by rw [hR.out]; rfl), Below.refl _ _⟩
  have d2 : decide ((65536 : Int) ≤ p) = false := decide_eq_false (by omega)
  cases c3 : mPrime p with
  | false =>
    have hR : Hid (powv mPrime n p e = 0) := powv_no (by rw [c3]; simp)
    go_enter Try.func50, Try.ntmps50
    go_wp2_with (go_at_call 64; refine (mPrime_any _ _ (by omega)).mono ?_; rintro e w1 ⟨rfl, hb1⟩)
    go_ret
    exact ⟨ret_int (by rw [hR.out]; rfl), hb1⟩
  | true =>
  by_cases c4 : (p : Int) % (2 * n) = 1
  case neg =>
    have d4 : ((p : Int) % (2 * n) != 1) = true := by simpa using c4
    have hR : Hid (powv mPrime n p e = 0) := powv_no (by
      intro hc; apply c4; have h := hc.2.2.2.1
      have : ((p % (2 * n).toNat : Nat) : Int) = 1 := by rw [h]; rfl
      rw [Int.natCast_emod, Int.toNat_of_nonneg (by omega)] at this; exact this)
    clear c4
    go_enter Try.func50, Try.ntmps50
    go_wp2_with (go_at_call 64; refine (mPrime_any _ _ (by omega)).mono ?_; rintro e w1 ⟨rfl, hb1⟩)
    go_ret
    exact ⟨ret_int (by rw [hR.out]; rfl), hb1⟩
  have d4 : ((p : Int) % (2 * n) != 1) = false := by simpa using c4
  have c4' : p % (2 * n).toNat = 1 := by
    have : ((p % (2 * n).toNat : Nat) : Int) = 1 := by rw [Int.natCast_emod, Int.toNat_of_nonneg (by omega)]; exact c4
    omega
  by_cases c5 : 1 ≤ e
  case neg =>
    have d5 : decide (e < 1) = true := decide_eq_true (by omega)
    have hR : Hid (powv mPrime n p e = 0) := powv_no (by omega)
    clear c4 c4'
    go_enter Try.func50, Try.ntmps50
    go_wp2_with (go_at_call 64; refine (mPrime_any _ _ (by omega)).mono ?_; rintro e w1 ⟨rfl, hb1⟩)
    go_ret
    exact ⟨ret_int (by rw [hR.out]; rfl), hb1⟩
  have d5 : decide (e < 1) = false := decide_eq_false (by omega)
  have hall := Lib.hid (show 3 ≤ p ∧ p < 65536 ∧ mPrime p = true ∧ p % (2 * n).toNat = 1 ∧ 1 ≤ e from ⟨by omega, c2, c3, c4', c5⟩)
  clear c4 c4'
  go_enter Try.func50, Try.ntmps50
  go_wp2_with (go_at_call 64; refine (mPrime_any _ _ (by omega)).mono ?_; rintro e w1 ⟨rfl, hb1⟩)
  go_loop [7, 32] (fun vt vk => ∃ k t : Nat, vt = .int .i64 t ∧ vk = .int .i64 k ∧ (k : Int) ≤ e ∧ t ≤ 2147483647 ∧ Hid (p ^ k = t)) (fun _ vk => (e - intOf vk).toNat)
  case atStart => exact ⟨0, 1, rfl, rfl, by omega, by omega, rfl⟩
  case round =>
    obtain ⟨k, t, rfl, rfl, hk, ht, hI⟩ := hrel
    have hm0 : (0 : Int) ≤ (t : Int) * (p : Int) := Int.mul_nonneg (by omega) (by omega)
    have hm1 : (t : Int) * (p : Int) ≤ 2147483647 * 65536 := Int.mul_le_mul (by omega) (by omega) (by omega) (by omega)
    have hstep := Lib.hid (show p ^ (k + 1) = t * p by rw [Nat.pow_succ, hI.out])
    by_cases hlt : (k : Int) < e
    · by_cases hbig : 2147483647 < t * p
      · have hb : (2147483647 : Int) < (t : Int) * (p : Int) := by have := Int.ofNat_lt.2 hbig; rw [Int.natCast_mul] at this; exact this
        have hR : Hid (powv mPrime n p e = 0) := powv_big (k := k + 1) (by omega) (by omega) (by rw [hstep.out]; exact hbig)
        clear hbig
        go_wp2_with fail
        go_ret
        exact ⟨ret_int (by rw [hR.out]; rfl), hb1⟩
      · have hb : ¬ (2147483647 : Int) < (t : Int) * (p : Int) := by intro hc; apply hbig; rw [← Int.natCast_mul] at hc; exact Int.ofNat_lt.1 hc
        have hbig' := Lib.hid hbig
        clear hbig
        go_wp2_with fail
        go_round
        case rel => exact ⟨k + 1, t * p, by rw [Int.natCast_mul], by go_num, by omega, by have := hbig'.out; omega, hstep.out⟩
        case measure => simp [intOf]; omega
    · have hR : Hid (powv mPrime n p e = t) := by
        show _ = _; rw [powv_yes hall.out (k := k) (by omega) (by rw [hI.out]; exact ht), hI.out]
      go_wp2_with fail
      go_ret
      exact ⟨ret_int (by rw [hR.out]), hb1⟩

set_option maxHeartbeats 1000000 in
theorem rplain_any (n : Int) (p : Nat) (e : Int) (w : World) (hn4 : 4 ≤ n) (hn : n ≤ 32) (hp : p < 4294967296) (he0 : -9223372036854775808 ≤ e) (he1 : e ≤ 9223372036854775807) :
    Calls Try.prog 45 #[.int .i64 n, .int .u32 p, .int .i64 e] w fun r w' => r = .returned (.int .i64 (powv rPrime n p e : Nat)) ∧ w = w' := by
  by_cases c1 : p < 3
  case pos =>
    have d1 : decide ((p : Int) < 3) = true := decide_eq_true (by omega)
    have hR : Hid (powv rPrime n p e = 0) := powv_no (by omega)
    go_enter Try.func45, Try.ntmps45
    go_wp2_with fail
    go_ret
    exact ⟨ret_int (by rw [hR.out]; rfl), rfl⟩
  have d1 : decide ((p : Int) < 3) = false := decide_eq_false (by omega)
  by_cases c2 : p < 65536
  case neg =>
    have d2 : decide ((65536 : Int) ≤ p) = true := decide_eq_true (by omega)
    have hR : Hid (powv rPrime n p e = 0) := powv_no (by omega)
    go_enter Try.func45, Try.ntmps45
    go_wp2_with fail
    go_ret
    exact ⟨ret_int (by rw [hR.out]; rfl), rfl⟩
  have d2 : decide ((65536 : Int) ≤ p) = false := decide_eq_false (by omega)
  cases c3 : rPrime p with
  | false =>
    have hR : Hid (powv rPrime n p e = 0) := powv_no (by rw [c3]; simp)
    go_enter Try.func45, Try.ntmps45
    go_wp2_with (go_at_call 76; refine (rPrime_any _ _ (by omega)).mono ?_; rintro e w1 ⟨rfl, rfl⟩)
    go_ret
    exact ⟨ret_int (by rw [hR.out]; rfl), rfl⟩
  | true =>
  by_cases c4 : (p : Int) % (2 * n) = 1
  case neg =>
    have d4 : ((p : Int) % (2 * n) != 1) = true := by simpa using c4
    have hR : Hid (powv rPrime n p e = 0) := powv_no (by
      intro hc; apply c4; have h := hc.2.2.2.1
      have : ((p % (2 * n).toNat : Nat) : Int) = 1 := by rw [h]; rfl
      rw [Int.natCast_emod, Int.toNat_of_nonneg (by omega)] at this; exact this)
    clear c4
    go_enter Try.func45, Try.ntmps45
    go_wp2_with (go_at_call 76; refine (rPrime_any _ _ (by omega)).mono ?_; rintro e w1 ⟨rfl, rfl⟩)
    go_ret
    exact ⟨ret_int (by rw [hR.out]; rfl), rfl⟩
  have d4 : ((p : Int) % (2 * n) != 1) = false := by simpa using c4
  have c4' : p % (2 * n).toNat = 1 := by
    have : ((p % (2 * n).toNat : Nat) : Int) = 1 := by rw [Int.natCast_emod, Int.toNat_of_nonneg (by omega)]; exact c4
    omega
  by_cases c5 : 1 ≤ e
  case neg =>
    have d5 : decide (e < 1) = true := decide_eq_true (by omega)
    have hR : Hid (powv rPrime n p e = 0) := powv_no (by omega)
    clear c4 c4'
    go_enter Try.func45, Try.ntmps45
    go_wp2_with (go_at_call 76; refine (rPrime_any _ _ (by omega)).mono ?_; rintro e w1 ⟨rfl, rfl⟩)
    go_ret
    exact ⟨ret_int (by rw [hR.out]; rfl), rfl⟩
  have d5 : decide (e < 1) = false := decide_eq_false (by omega)
  have hall := Lib.hid (show 3 ≤ p ∧ p < 65536 ∧ rPrime p = true ∧ p % (2 * n).toNat = 1 ∧ 1 ≤ e from ⟨by omega, c2, c3, c4', c5⟩)
  clear c4 c4'
  go_enter Try.func45, Try.ntmps45
  go_wp2_with (go_at_call 76; refine (rPrime_any _ _ (by omega)).mono ?_; rintro e w1 ⟨rfl, rfl⟩)
  go_loop [7, 8] (fun vt vk => ∃ k t : Nat, vt = .int .i64 t ∧ vk = .int .i64 k ∧ (k : Int) ≤ e ∧ t ≤ 2147483647 ∧ Hid (p ^ k = t)) (fun _ vk => (e - intOf vk).toNat)
  case atStart => exact ⟨0, 1, rfl, rfl, by omega, by omega, rfl⟩
  case round =>
    obtain ⟨k, t, rfl, rfl, hk, ht, hI⟩ := hrel
    have hm0 : (0 : Int) ≤ (t : Int) * (p : Int) := Int.mul_nonneg (by omega) (by omega)
    have hm1 : (t : Int) * (p : Int) ≤ 2147483647 * 65536 := Int.mul_le_mul (by omega) (by omega) (by omega) (by omega)
    have hstep := Lib.hid (show p ^ (k + 1) = t * p by rw [Nat.pow_succ, hI.out])
    by_cases hlt : (k : Int) < e
    · by_cases hbig : 2147483647 < t * p
      · have hb : (2147483647 : Int) < (t : Int) * (p : Int) := by have := Int.ofNat_lt.2 hbig; rw [Int.natCast_mul] at this; exact this
        have hR : Hid (powv rPrime n p e = 0) := powv_big (k := k + 1) (by omega) (by omega) (by rw [hstep.out]; exact hbig)
        clear hbig
        go_wp2_with fail
        go_ret
        exact ⟨ret_int (by rw [hR.out]; rfl), rfl⟩
      · have hb : ¬ (2147483647 : Int) < (t : Int) * (p : Int) := by intro hc; apply hbig; rw [← Int.natCast_mul] at hc; exact Int.ofNat_lt.1 hc
        have hbig' := Lib.hid hbig
        clear hbig
        go_wp2_with fail
        go_round
        case rel => exact ⟨k + 1, t * p, by rw [Int.natCast_mul], by go_num, by omega, by have := hbig'.out; omega, hstep.out⟩
        case measure => simp [intOf]; omega
    · have hR : Hid (powv rPrime n p e = t) := by
        show _ = _; rw [powv_yes hall.out (k := k) (by omega) (by rw [hI.out]; exact ht), hI.out]
      go_wp2_with fail
      go_ret
      exact ⟨ret_int (by rw [hR.out]), rfl⟩
end Go.Proofs.Ytjfjbkocopaehaa
