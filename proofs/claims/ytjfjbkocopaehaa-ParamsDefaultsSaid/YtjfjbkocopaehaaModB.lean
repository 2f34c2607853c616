/- Walks of the strong test: modular.passes and obscuraref01.strong. -/
import Derived.Test.YtjfjbkocopaehaaModA
namespace Go.Proofs.Ytjfjbkocopaehaa
open Go.RowKit

theorem and_one_u32 (d : Nat) (h : d < 4294967296) : bits BinOp.and IntKind.u32 (d : Int) 1 = ((d % 2 : Nat) : Int) := by
  have h1 := u32_and (d : Int) 1 (by omega) (by omega) (by omega) (by omega)
  rw [h1]; show ((d &&& 1 : Nat) : Int) = _; rw [Nat.and_one_is_mod]

theorem half_split {d t m : Nat} (hev : d % 2 = 0) (h : d * 2 ^ t = m) : d / 2 * 2 ^ (t + 1) = m := by
  rw [Nat.pow_succ, Nat.mul_comm (2 ^ t) 2, ← Nat.mul_assoc, show d / 2 * 2 = d by omega]; exact h

set_option maxHeartbeats 400000 in
theorem mpasses_any (a n : Nat) (w : World) (ha : a < 4294967296) (hn : 3 ≤ n) (hn2 : n < 4294967296) (hodd : n % 2 = 1) :
    Calls Try.prog 96 #[.int .u32 a, .int .u32 n] w fun r w' => r = .returned (.bool (SP a n)) ∧ Below w.heap.size w w' := by
  have hmd : a % n < n := Nat.mod_lt _ (by omega)
  go_enter Try.func96, Try.ntmps96
  go_wp2_with fail
  go_loop [5, 6] (fun vd vt => ∃ d t : Nat, vd = .int .u32 d ∧ vt = .int .i64 t ∧ 0 < d ∧ d < 4294967296 ∧ t < 32 ∧ Hid (d * 2 ^ t = n - 1)) (fun vd _ => (intOf vd).toNat)
  case atStart => exact ⟨n - 1, 0, by congr 1; omega, rfl, by omega, by omega, by omega, by show _ = _; omega⟩
  case round =>
    obtain ⟨d, t, rfl, rfl, hd0, hd, ht, hI⟩ := hrel
    by_cases hev : d % 2 = 0
    · have hb : (bits BinOp.and IntKind.u32 (d : Int) 1 == 0) = true := by rw [and_one_u32 d hd]; simp; omega
      have hI2 := half_split hev hI.out
      have ht2 : t + 1 < 32 := two_pow_lt (m := n - 1) (by omega) (by omega) hI2
      have HI2 := Lib.hid hI2
      clear hI2 hI
      go_wp2_with fail
      go_round
      case rel => exact ⟨d / 2, t + 1, by go_num, by go_num, by omega, by omega, ht2, HI2⟩
      case measure => simp [intOf]; omega
    · have hb : (bits BinOp.and IntKind.u32 (d : Int) 1 == 0) = false := by rw [and_one_u32 d hd]; simp; omega
      have ht1 : 1 ≤ t := by
        cases t with
        | zero => have h := hI.out; simp at h; omega
        | succ t => omega
      go_wp2_with fail
      rw [show (a : Int) % (n : Int) = ((a % n : Nat) : Int) by rw [Int.natCast_emod]]
      refine (mpower_any _ _ _ _ (by omega) (by omega) (by omega) (by omega)).mono ?_
      rintro e w1 ⟨rfl, hb1⟩
      have hS := Lib.hid (SP_of (a := a) (n := n) (x := pmod (a % n) d n) ht (by omega) hI.out rfl)
      have hlt : pmod (a % n) d n < n := Nat.mod_lt _ (by omega)
      generalize pmod (a % n) d n = x0 at hlt hS ⊢
      by_cases h1 : x0 = 1
      · have e1 : ((x0 : Int) == 1) = true := by simp; omega
        have H1 := Lib.hid h1; clear h1
        go_wp2_with fail
        go_ret
        exact ⟨ret_bool (by rw [hS.out, H1.out]; rfl), hb1⟩
      · have e1 : ((x0 : Int) == 1) = false := by simp; omega
        obtain ⟨s, rfl⟩ : ∃ s, t = s + 1 := ⟨t - 1, by omega⟩
        by_cases h2 : x0 = n - 1
        · have e2 : ((x0 : Int) == (n : Int) - 1) = true := by simp; omega
          have H2 := Lib.hid h2; clear h2
          go_wp2_with fail
          go_ret
          exact ⟨ret_bool (by rw [hS.out, anyEq_hit H2.out, Bool.or_true]), hb1⟩
        · have e2 : ((x0 : Int) == (n : Int) - 1) = false := by simp; omega
          go_wp2_with fail
          have hS2 : Hid (SP a n = anyEq n (x0 * x0 % n) s) := by
            show _ = _; rw [hS.out, anyEq_miss h2, show (x0 == 1) = false by simp [h1], Bool.false_or]
          clear hS
          go_loop [7, 34] (fun vx vk => ∃ x k : Nat, vx = .int .u32 x ∧ vk = .int .i64 k ∧ x < n ∧ k ≤ s ∧ Hid (SP a n = anyEq n (x * x % n) (s - k))) (fun _ vk => s - (intOf vk).toNat)
          case atStart => exact ⟨x0, 0, rfl, rfl, hlt, by omega, hS2⟩
          case round =>
            obtain ⟨x, k, rfl, rfl, hx, hk, hS3⟩ := hrel
            obtain ⟨m1, m2, m3, m4⟩ := mulmod_fits x x n (by omega) (by omega) (by omega) (by omega) (by omega) (by omega)
            by_cases hks : k < s
            · obtain ⟨r, hr⟩ : ∃ r, s - k = r + 1 := ⟨s - k - 1, by omega⟩
              by_cases h3 : x * x % n = n - 1
              · have e3 : ((x : Int) * (x : Int) % (n : Int) == (n : Int) - 1) = true := by rw [mulmod_nat]; generalize x * x % n = y at h3; exact beq_iff_eq.2 (by omega)
                have H3 := Lib.hid h3; clear h3
                have HR := Lib.hid hr; clear hr
                go_wp2_with fail
                go_ret
                exact ⟨ret_bool (by rw [hS3.out, HR.out, anyEq_hit H3.out]), hb1⟩
              · have e3 : ((x : Int) * (x : Int) % (n : Int) == (n : Int) - 1) = false := by rw [mulmod_nat]; generalize x * x % n = y at h3; exact beq_eq_false_iff_ne.2 (by omega)
                have HR := Lib.hid hr; clear hr
                go_wp2_with fail
                simp only [mulmod_nat]
                go_round
                case rel => exact ⟨x * x % n, k + 1, rfl, by go_num, Nat.mod_lt _ (by omega), by omega, by show _ = _; rw [hS3.out, HR.out, anyEq_miss h3]; congr 1; have := HR.out; omega⟩
                case measure => simp [intOf]; omega
            · go_wp2_with fail
              go_ret
              exact ⟨ret_bool (by rw [hS3.out, show s - k = 0 by omega]; rfl), hb1⟩

theorem wrap_dec_nat {d n t : Nat} (ht : 1 ≤ t) (h : d * 2 ^ t = n - 1) : 2 * d ≤ n - 1 := by
  obtain ⟨s, rfl⟩ : ∃ s, t = s + 1 := ⟨t - 1, by omega⟩
  rw [Nat.pow_succ, ← Nat.mul_assoc] at h
  have := Nat.mul_le_mul_left d (Nat.one_le_two_pow (n := s))
  omega

theorem dbl_split {d s m : Nat} (h : d * 2 ^ (s + 1) = m) : d * 2 * 2 ^ s = m := by
  rw [Nat.pow_succ, Nat.mul_comm (2 ^ s) 2, ← Nat.mul_assoc] at h; exact h

set_option maxHeartbeats 400000 in
theorem rstrong_any (a n : Nat) (w : World) (ha : a < 4294967296) (hn : 3 ≤ n) (hn2 : n < 4294967296) (hodd : n % 2 = 1) :
    Calls Try.prog 100 #[.int .u32 a, .int .u32 n] w fun r w' => r = .returned (.bool (SP a n)) ∧ w = w' := by
  have hmd : a % n < n := Nat.mod_lt _ (by omega)
  go_enter Try.func100, Try.ntmps100
  go_wp2_with fail
  go_loop [5] (fun vd => ∃ d t : Nat, vd = .int .u32 d ∧ 0 < d ∧ d < 4294967296 ∧ t < 32 ∧ Hid (d * 2 ^ t = n - 1)) (fun vd => (intOf vd).toNat)
  case atStart => exact ⟨n - 1, 0, by congr 1; omega, by omega, by omega, by omega, by show _ = _; omega⟩
  case round =>
    obtain ⟨d, t, rfl, hd0, hd, ht, hI⟩ := hrel
    by_cases hev : d % 2 = 0
    · have hI2 := half_split hev hI.out
      have ht2 : t + 1 < 32 := two_pow_lt (m := n - 1) (by omega) (by omega) hI2
      have HI2 := Lib.hid hI2
      clear hI2 hI
      have hb : ((d : Int) % 2 == 0) = true := beq_iff_eq.2 (by omega)
      go_wp2_with fail
      go_round
      case rel => exact ⟨d / 2, t + 1, by go_num, by omega, by omega, ht2, HI2⟩
      case measure => simp [intOf]; omega
    · have ht1 : 1 ≤ t := by
        cases t with
        | zero => have h := hI.out; simp at h; omega
        | succ t => omega
      have hb : ((d : Int) % 2 == 0) = false := beq_eq_false_iff_ne.2 (by omega)
      go_wp2_with fail
      rw [show (a : Int) % (n : Int) = ((a % n : Nat) : Int) by rw [Int.natCast_emod]]
      refine (rpower_any _ _ _ _ (by omega) (by omega) (by omega) (by omega)).mono ?_
      rintro e w1 ⟨rfl, rfl⟩
      have hS := Lib.hid (SP_of (a := a) (n := n) (x := pmod (a % n) d n) ht (by omega) hI.out rfl)
      have hlt : pmod (a % n) d n < n := Nat.mod_lt _ (by omega)
      generalize pmod (a % n) d n = x0 at hlt hS ⊢
      by_cases h1 : x0 = 1
      · have e1 : ((x0 : Int) == 1) = true := beq_iff_eq.2 (by omega)
        have H1 := Lib.hid h1; clear h1
        go_wp2_with fail
        go_ret
        exact ⟨ret_bool (by rw [hS.out, H1.out]; rfl), rfl⟩
      · have e1 : ((x0 : Int) == 1) = false := beq_eq_false_iff_ne.2 (by omega)
        go_wp2_with fail
        have hS2 : Hid (SP a n = anyEq n x0 t) := by
          show _ = _; rw [hS.out, show (x0 == 1) = false by simp [h1], Bool.false_or]
        clear hS
        go_loop [5, 6] (fun vd vx => ∃ d' x k : Nat, vd = .int .u32 d' ∧ vx = .int .u32 x ∧ 0 < d' ∧ d' ≤ n - 1 ∧ x < n ∧ Hid (d' * 2 ^ k = n - 1) ∧ Hid (SP a n = anyEq n x k)) (fun vd _ => n - (intOf vd).toNat)
        case atStart => exact ⟨d, x0, t, rfl, rfl, by omega, by have := wrap_dec_nat ht1 hI.out; omega, hlt, hI, hS2⟩
        case round =>
          obtain ⟨d', x, k, rfl, rfl, hd1, hd2, hx, hI3, hS3⟩ := hrel
          by_cases hlt2 : d' < n - 1
          · obtain ⟨s, rfl⟩ : ∃ s, k = s + 1 := by
              cases k with
              | zero => have h := hI3.out; simp at h; omega
              | succ k => exact ⟨k, rfl⟩
            have hdb := wrap_dec_nat (by omega) hI3.out
            by_cases h3 : x = n - 1
            · have e3 : ((x : Int) == (n : Int) - 1) = true := beq_iff_eq.2 (by omega)
              have H3 := Lib.hid h3; clear h3
              go_wp2_with fail
              go_ret
              exact ⟨ret_bool (by rw [hS3.out, anyEq_hit H3.out]), rfl⟩
            · have e3 : ((x : Int) == (n : Int) - 1) = false := beq_eq_false_iff_ne.2 (by omega)
              go_wp2_with (go_at_call 129; refine (rtimes_any _ _ _ _ (by omega) (by omega) (by omega) (by omega) (by omega) (by omega)).mono ?_; rintro e w' ⟨rfl, rfl⟩)
              simp only [mulmod_nat]
              go_round
              case rel => exact ⟨d' * 2, x * x % n, s, by go_num, rfl, by omega, by omega, Nat.mod_lt _ (by omega), dbl_split hI3.out, by show _ = _; rw [hS3.out, anyEq_miss h3]⟩
              case measure => simp [intOf]; omega
          · have hk0 : k = 0 := by
              cases k with
              | zero => rfl
              | succ k => have := wrap_dec_nat (by omega) hI3.out; omega
            have HK := Lib.hid hk0; clear hk0
            go_wp2_with fail
            go_ret
            exact ⟨ret_bool (by rw [hS3.out, HK.out]; rfl), rfl⟩
end Go.Proofs.Ytjfjbkocopaehaa
