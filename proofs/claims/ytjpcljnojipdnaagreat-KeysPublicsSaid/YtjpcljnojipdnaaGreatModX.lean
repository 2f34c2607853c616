/- Walks of the two packages' powers modulo a number: obscuraref01.times, obscuraref01.power, modular.product, modular.power. Walks of the strong test: modular.passes and obscuraref01.strong. Walks of the tests for primes: modular.Prime and obscuraref01.Prime. -/
import Derived.Test.YtjpcljnojipdnaaGreatChecked
import Derived.Test.YtjpcljnojipdnaaGreatMthA
import Derived.WalkKit
import Derived.WalkSpells
import Derived.WalkLawsBesides
import Derived.Handy
import Derived.Lib.Hide
/-! Walks of the two packages' powers modulo a number: obscuraref01.times, obscuraref01.power, modular.product, modular.power. -/
namespace Go.Proofs.YtjpcljnojipdnaaGreat
open Go.RowKit

theorem ret_int {k : IntKind} {a b : Int} (h : a = b) : Ending.returned (.int k a) = .returned (.int k b) := by rw [h]
theorem ret_bool {a b : Bool} (h : a = b) : Ending.returned (.bool a) = .returned (.bool b) := by rw [h]
/-- Behind a contract that leaves all that was there: the old cells and marks read as they did. -/
theorem bcell {W w1 : World} (hb : Below W.heap.size W w1) : (∀ b o, b < W.heap.size → w1.cell? ⟨b, o, none⟩ = W.cell? ⟨b, o, none⟩) ∧ (∀ b o, b < W.heap.size → w1.frozen? ⟨b, o, none⟩ = W.frozen? ⟨b, o, none⟩) :=
  ⟨fun b o h => hb.cell (p := ⟨b, o, none⟩) h, fun b o h => hb.frozen (p := ⟨b, o, none⟩) h⟩

/-- One product modulo n, in the program's arithmetic. -/
theorem mulmod_fits (a b n : Int) (ha0 : 0 ≤ a) (ha : a < 4294967296) (hb0 : 0 ≤ b) (hb : b < 4294967296) (hn : 1 ≤ n) (hn2 : n < 4294967296) :
    0 ≤ a * b ∧ a * b ≤ 18446744065119617025 ∧ 0 ≤ a * b % n ∧ a * b % n < n := by
  refine ⟨Int.mul_nonneg ha0 hb0, ?_, Int.emod_nonneg _ (by omega), Int.emod_lt_of_pos _ (by omega)⟩
  have h : a * b ≤ 4294967295 * 4294967295 := Int.mul_le_mul (by omega) (by omega) hb0 (by omega)
  omega

set_option maxHeartbeats 400000 in
theorem rtimes_any (a b n : Int) (w : World) (ha0 : 0 ≤ a) (ha : a < 4294967296) (hb0 : 0 ≤ b) (hb : b < 4294967296) (hn : 1 ≤ n) (hn2 : n < 4294967296) :
    Calls Tryz.prog 137 #[.int .u32 a, .int .u32 b, .int .u32 n] w fun e w' => e = .returned (.int .u32 (a * b % n)) ∧ w = w' := by
  obtain ⟨h1, h2, h3, h4⟩ := mulmod_fits a b n ha0 ha hb0 hb hn hn2
  go_enter Tryz.func137, Tryz.ntmps137
  go_wp2
  go_ret
  exact ⟨rfl, rfl⟩

/-- The powers that the loops compute: 'powAcc n e out a' is out * a^e modulo n. -/
theorem pow_step_odd (n out a e : Nat) (he : e % 2 = 1) : out * a ^ e % n = (out * a % n) * (a * a % n) ^ (e / 2) % n := by
  have h : e = 2 * (e / 2) + 1 := by omega
  have h2 : a ^ e = a * (a * a) ^ (e / 2) := by
    conv => lhs; rw [h]
    rw [Nat.pow_succ, Nat.pow_mul, Nat.pow_two, Nat.mul_comm]
  rw [h2, ← Nat.mul_assoc, Nat.mul_mod, Nat.pow_mod (a * a) (e / 2) n, ← Nat.mul_mod_mod, Nat.mod_mod] 
  simp [Nat.mul_mod, Nat.pow_mod]

theorem pow_step_even (n out a e : Nat) (he : e % 2 = 0) : out * a ^ e % n = out * (a * a % n) ^ (e / 2) % n := by
  have h : e = 2 * (e / 2) := by omega
  have h2 : a ^ e = (a * a) ^ (e / 2) := by
    conv => lhs; rw [h]
    rw [Nat.pow_mul, Nat.pow_two]
  rw [h2, Nat.mul_mod, Nat.pow_mod (a * a) (e / 2) n]
  simp [Nat.mul_mod, Nat.pow_mod]

/-- The remainder of a product, of numbers of the program. -/
theorem mulmod_nat (a b n : Nat) : (a : Int) * (b : Int) % (n : Int) = ((a * b % n : Nat) : Int) := by
  rw [Int.natCast_emod, Int.natCast_mul]

set_option maxHeartbeats 400000 in
theorem rpower_any (a e n : Nat) (w : World) (ha : a < 4294967296) (he : e < 18446744073709551616) (hn : 2 ≤ n) (hn2 : n < 4294967296) :
    Calls Tryz.prog 149 #[.int .u32 a, .int .u64 e, .int .u32 n] w fun r w' => r = .returned (.int .u32 (pmod a e n)) ∧ w = w' := by
  go_enter Tryz.func149, Tryz.ntmps149
  go_wp2
  go_loop [0, 1, 7] (fun va ve vo => ∃ a' e' o' : Nat, va = .int .u32 a' ∧ ve = .int .u64 e' ∧ vo = .int .u32 o' ∧ a' < 4294967296 ∧ e' ≤ e ∧ o' < n ∧ Hid (o' * a' ^ e' % n = pmod a e n)) (fun _ ve _ => (intOf ve).toNat)
  case atStart => exact ⟨a, e, 1, rfl, rfl, rfl, ha, Nat.le_refl _, by omega, by show _ = _; rw [Nat.one_mul]; rfl⟩
  case round =>
    obtain ⟨a', e', o', rfl, rfl, rfl, ha', he', ho', hI⟩ := hrel
    have hmo : o' * a' % n < n := Nat.mod_lt _ (by omega)
    have hma : a' * a' % n < n := Nat.mod_lt _ (by omega)
    by_cases h0 : 0 < e'
    · by_cases h1 : e' % 2 = 1
      · have hst := Lib.hid (pow_step_odd n o' a' e' h1)
        go_wp2_with (go_at_call 137; refine (rtimes_any _ _ _ _ (by omega) (by omega) (by omega) (by omega) (by omega) (by omega)).mono ?_; rintro e w' ⟨rfl, rfl⟩)
        simp only [mulmod_nat]
        go_round
        case rel => exact ⟨a' * a' % n, e' / 2, o' * a' % n, rfl, rfl, rfl, by omega, by omega, by omega, (hst.out.symm.trans hI)⟩
        case measure => simp [intOf]; omega
      · have hst := Lib.hid (pow_step_even n o' a' e' (by omega))
        go_wp2_with (go_at_call 137; refine (rtimes_any _ _ _ _ (by omega) (by omega) (by omega) (by omega) (by omega) (by omega)).mono ?_; rintro e w' ⟨rfl, rfl⟩)
        simp only [mulmod_nat]
        go_round
        case rel => exact ⟨a' * a' % n, e' / 2, o', rfl, rfl, rfl, by omega, by omega, by omega, (hst.out.symm.trans hI)⟩
        case measure => simp [intOf]; omega
    · go_wp2
      go_ret
      obtain rfl : e' = 0 := by omega
      have h := hI.out
      rw [Nat.pow_zero, Nat.mul_one, Nat.mod_eq_of_lt ho'] at h
      exact ⟨ret_int (by rw [h]), rfl⟩

set_option maxHeartbeats 400000 in
/-- The product that modular.product hands back: its modulus lies in a cell. -/
theorem mproduct1_any (a b n : Int) (p : Addr) (w : World) (hp : w.cell? p = some (.int .u64 n)) (ha0 : 0 ≤ a) (ha : a < 4294967296) (hb0 : 0 ≤ b) (hb : b < 4294967296) (hn : 1 ≤ n) (hn2 : n < 4294967296) :
    Calls Tryz.prog 174 #[.int .u32 a, .int .u32 b, .pointer (some p)] w fun e w' => e = .returned (.int .u32 (a * b % n)) ∧ w = w' := by
  obtain ⟨h1, h2, h3, h4⟩ := mulmod_fits a b n ha0 ha hb0 hb hn hn2
  go_enter Tryz.func174, Tryz.ntmps174
  go_wp2
  go_ret
  exact ⟨rfl, rfl⟩

set_option maxHeartbeats 400000 in
theorem mproduct_any (n : Int) (w : World) (hn : 0 ≤ n) (hn2 : n < 4294967296) :
    Calls Tryz.prog 167 #[.int .u32 n] w fun r w' => r = .returned (.func (.func 174) #[] #[.pointer (some ⟨w.heap.size, 0, none⟩)]) ∧ w.alloc (.cells #[.int .u64 n] 95) = w' := by
  go_enter Tryz.func167, Tryz.ntmps167
  go_wp2
  go_ret
  exact ⟨rfl, rfl⟩

set_option maxHeartbeats 400000 in
theorem mpower_any (a e n : Nat) (w : World) (ha : a < 4294967296) (he : e < 18446744073709551616) (hn : 2 ≤ n) (hn2 : n < 4294967296) :
    Calls Tryz.prog 152 #[.int .u32 a, .int .u64 e, .int .u32 n] w fun r w' => r = .returned (.int .u32 (pmod a e n)) ∧ Below w.heap.size w w' := by
  go_enter Tryz.func152, Tryz.ntmps152
  go_wp2_with (go_at_call 167; refine (mproduct_any _ _ (by omega) (by omega)).mono ?_; rintro e w' ⟨rfl, rfl⟩)
  go_loop [0, 1, 8] (fun va ve vo => ∃ a' e' o' : Nat, va = .int .u32 a' ∧ ve = .int .u64 e' ∧ vo = .int .u32 o' ∧ a' < 4294967296 ∧ e' ≤ e ∧ o' < n ∧ Hid (o' * a' ^ e' % n = pmod a e n)) (fun _ ve _ => (intOf ve).toNat)
  case atStart => exact ⟨a, e, 1, rfl, rfl, rfl, ha, Nat.le_refl _, by omega, by show _ = _; rw [Nat.one_mul]; rfl⟩
  case round =>
    obtain ⟨a', e', o', rfl, rfl, rfl, ha', he', ho', hI⟩ := hrel
    have hmo : o' * a' % n < n := Nat.mod_lt _ (by omega)
    have hma : a' * a' % n < n := Nat.mod_lt _ (by omega)
    have hp : (w.alloc (.cells #[.int .u64 n] 95)).cell? ⟨w.heap.size, 0, none⟩ = some (.int .u64 n) := by simp [go_sem]
    by_cases h0 : 0 < e'
    · by_cases h1 : e' % 2 = 1
      · have hst := Lib.hid (pow_step_odd n o' a' e' h1)
        have hb : (bits BinOp.and IntKind.u64 (e' : Int) 1 == 1) = true := by rw [and_one_u64 _ (by omega) (by omega)]; simp; omega
        go_wp2_with (go_at_call 174; refine (mproduct1_any _ _ _ _ _ hp (by omega) (by omega) (by omega) (by omega) (by omega) (by omega)).mono ?_; rintro e w' ⟨rfl, rfl⟩)
        simp only [mulmod_nat]
        go_round
        case rel => exact ⟨a' * a' % n, e' / 2, o' * a' % n, rfl, rfl, rfl, by omega, by omega, by omega, (hst.out.symm.trans hI)⟩
        case measure => simp [intOf]; omega
      · have hst := Lib.hid (pow_step_even n o' a' e' (by omega))
        have hb : (bits BinOp.and IntKind.u64 (e' : Int) 1 == 1) = false := by rw [and_one_u64 _ (by omega) (by omega)]; simp; omega
        go_wp2_with (go_at_call 174; refine (mproduct1_any _ _ _ _ _ hp (by omega) (by omega) (by omega) (by omega) (by omega) (by omega)).mono ?_; rintro e w' ⟨rfl, rfl⟩)
        simp only [mulmod_nat]
        go_round
        case rel => exact ⟨a' * a' % n, e' / 2, o', rfl, rfl, rfl, by omega, by omega, by omega, (hst.out.symm.trans hI)⟩
        case measure => simp [intOf]; omega
    · go_wp2
      go_ret
      obtain rfl : e' = 0 := by omega
      have h := hI.out
      rw [Nat.pow_zero, Nat.mul_one, Nat.mod_eq_of_lt ho'] at h
      exact ⟨ret_int (by rw [h]), (Below.refl _ _).alloc (Nat.le_refl _) _⟩
end Go.Proofs.YtjpcljnojipdnaaGreat

/-! Walks of the strong test: modular.passes and obscuraref01.strong. -/
namespace Go.Proofs.YtjpcljnojipdnaaGreat
open Go.RowKit

theorem and_one_u32 (d : Nat) (h : d < 4294967296) : bits BinOp.and IntKind.u32 (d : Int) 1 = ((d % 2 : Nat) : Int) := by
  have h1 := u32_and (d : Int) 1 (by omega) (by omega) (by omega) (by omega)
  rw [h1]; show ((d &&& 1 : Nat) : Int) = _; rw [Nat.and_one_is_mod]

theorem half_split {d t m : Nat} (hev : d % 2 = 0) (h : d * 2 ^ t = m) : d / 2 * 2 ^ (t + 1) = m := by
  rw [Nat.pow_succ, Nat.mul_comm (2 ^ t) 2, ← Nat.mul_assoc, show d / 2 * 2 = d by omega]; exact h

set_option maxHeartbeats 400000 in
theorem mpasses_any (a n : Nat) (w : World) (ha : a < 4294967296) (hn : 3 ≤ n) (hn2 : n < 4294967296) (hodd : n % 2 = 1) :
    Calls Tryz.prog 141 #[.int .u32 a, .int .u32 n] w fun r w' => r = .returned (.bool (SP a n)) ∧ Below w.heap.size w w' := by
  have hmd : a % n < n := Nat.mod_lt _ (by omega)
  go_enter Tryz.func141, Tryz.ntmps141
  go_wp2_with fail
  go_loop [5, 6] (fun vd vt => ∃ d t : Nat, vd = .int .u32 d ∧ vt = .int .i64 t ∧ 0 < d ∧ d < 4294967296 ∧ t < 32 ∧ Hid (d * 2 ^ t = n - 1)) (fun vd _ => (intOf vd).toNat)
  case atStart => exact ⟨n - 1, 0, by congr 1; omega, rfl, by omega, by omega, by omega, by show _ = _; omega⟩
  case round =>
    obtain ⟨d, t, rfl, rfl, hd0, hd, ht, hI⟩ := hrel
    by_cases hev : d % 2 = 0
    · have hb : (bits BinOp.and IntKind.u32 (d : Int) 1 == 0) = true := by rw [and_one_u32 d hd]; simp; omega
      have hI2 := half_split hev hI.out
      have ht2 : t + 1 < 32 := two_pow_lt (m := n - 1) (by omega) (by omega) hI2
      have HI2 := Lib.hid hI2
      clear hI2 hI
      go_wp2_with fail
      go_round
      case rel => exact ⟨d / 2, t + 1, by go_num, by go_num, by omega, by omega, ht2, HI2⟩
      case measure => simp [intOf]; omega
    · have hb : (bits BinOp.and IntKind.u32 (d : Int) 1 == 0) = false := by rw [and_one_u32 d hd]; simp; omega
      have ht1 : 1 ≤ t := by
        cases t with
        | zero => have h := hI.out; simp at h; omega
        | succ t => omega
      go_wp2_with fail
      rw [show (a : Int) % (n : Int) = ((a % n : Nat) : Int) by rw [Int.natCast_emod]]
      refine (mpower_any _ _ _ _ (by omega) (by omega) (by omega) (by omega)).mono ?_
      rintro e w1 ⟨rfl, hb1⟩
      have hS := Lib.hid (SP_of (a := a) (n := n) (x := pmod (a % n) d n) ht (by omega) hI.out rfl)
      have hlt : pmod (a % n) d n < n := Nat.mod_lt _ (by omega)
      generalize pmod (a % n) d n = x0 at hlt hS ⊢
      by_cases h1 : x0 = 1
      · have e1 : ((x0 : Int) == 1) = true := by simp; omega
        have H1 := Lib.hid h1; clear h1
        go_wp2_with fail
        go_ret
        exact ⟨ret_bool (by rw [hS.out, H1.out]; rfl), hb1⟩
      · have e1 : ((x0 : Int) == 1) = false := by simp; omega
        obtain ⟨s, rfl⟩ : ∃ s, t = s + 1 := ⟨t - 1, by omega⟩
        by_cases h2 : x0 = n - 1
        · have e2 : ((x0 : Int) == (n : Int) - 1) = true := by simp; omega
          have H2 := Lib.hid h2; clear h2
          go_wp2_with fail
          go_ret
          exact ⟨ret_bool (by rw [hS.out, anyEq_hit H2.out, Bool.or_true]), hb1⟩
        · have e2 : ((x0 : Int) == (n : Int) - 1) = false := by simp; omega
          go_wp2_with fail
          have hS2 : Hid (SP a n = anyEq n (x0 * x0 % n) s) := by
            show _ = _; rw [hS.out, anyEq_miss h2, show (x0 == 1) = false by simp [h1], Bool.false_or]
          clear hS
          go_loop [7, 34] (fun vx vk => ∃ x k : Nat, vx = .int .u32 x ∧ vk = .int .i64 k ∧ x < n ∧ k ≤ s ∧ Hid (SP a n = anyEq n (x * x % n) (s - k))) (fun _ vk => s - (intOf vk).toNat)
          case atStart => exact ⟨x0, 0, rfl, rfl, hlt, by omega, hS2⟩
          case round =>
            obtain ⟨x, k, rfl, rfl, hx, hk, hS3⟩ := hrel
            obtain ⟨m1, m2, m3, m4⟩ := mulmod_fits x x n (by omega) (by omega) (by omega) (by omega) (by omega) (by omega)
            by_cases hks : k < s
            · obtain ⟨r, hr⟩ : ∃ r, s - k = r + 1 := ⟨s - k - 1, by omega⟩
              by_cases h3 : x * x % n = n - 1
              · have e3 : ((x : Int) * (x : Int) % (n : Int) == (n : Int) - 1) = true := by rw [mulmod_nat]; generalize x * x % n = y at h3; exact beq_iff_eq.2 (by omega)
                have H3 := Lib.hid h3; clear h3
                have HR := Lib.hid hr; clear hr
                go_wp2_with fail
                go_ret
                exact ⟨ret_bool (by rw [hS3.out, HR.out, anyEq_hit H3.out]), hb1⟩
              · have e3 : ((x : Int) * (x : Int) % (n : Int) == (n : Int) - 1) = false := by rw [mulmod_nat]; generalize x * x % n = y at h3; exact beq_eq_false_iff_ne.2 (by omega)
                have HR := Lib.hid hr; clear hr
                go_wp2_with fail
                simp only [mulmod_nat]
                go_round
                case rel => exact ⟨x * x % n, k + 1, rfl, by go_num, Nat.mod_lt _ (by omega), by omega, by show _ = _; rw [hS3.out, HR.out, anyEq_miss h3]; congr 1; have := HR.out; omega⟩
                case measure => simp [intOf]; omega
            · go_wp2_with fail
              go_ret
              exact ⟨ret_bool (by rw [hS3.out, show s - k = 0 by omega]; rfl), hb1⟩

theorem wrap_dec_nat {d n t : Nat} (ht : 1 ≤ t) (h : d * 2 ^ t = n - 1) : 2 * d ≤ n - 1 := by
  obtain ⟨s, rfl⟩ : ∃ s, t = s + 1 := ⟨t - 1, by omega⟩
  rw [Nat.pow_succ, ← Nat.mul_assoc] at h
  have := Nat.mul_le_mul_left d (Nat.one_le_two_pow (n := s))
  omega

theorem dbl_split {d s m : Nat} (h : d * 2 ^ (s + 1) = m) : d * 2 * 2 ^ s = m := by
  rw [Nat.pow_succ, Nat.mul_comm (2 ^ s) 2, ← Nat.mul_assoc] at h; exact h

set_option maxHeartbeats 400000 in
theorem rstrong_any (a n : Nat) (w : World) (ha : a < 4294967296) (hn : 3 ≤ n) (hn2 : n < 4294967296) (hodd : n % 2 = 1) :
    Calls Tryz.prog 134 #[.int .u32 a, .int .u32 n] w fun r w' => r = .returned (.bool (SP a n)) ∧ w = w' := by
  have hmd : a % n < n := Nat.mod_lt _ (by omega)
  go_enter Tryz.func134, Tryz.ntmps134
  go_wp2_with fail
  go_loop [5] (fun vd => ∃ d t : Nat, vd = .int .u32 d ∧ 0 < d ∧ d < 4294967296 ∧ t < 32 ∧ Hid (d * 2 ^ t = n - 1)) (fun vd => (intOf vd).toNat)
  case atStart => exact ⟨n - 1, 0, by congr 1; omega, by omega, by omega, by omega, by show _ = _; omega⟩
  case round =>
    obtain ⟨d, t, rfl, hd0, hd, ht, hI⟩ := hrel
    by_cases hev : d % 2 = 0
    · have hI2 := half_split hev hI.out
      have ht2 : t + 1 < 32 := two_pow_lt (m := n - 1) (by omega) (by omega) hI2
      have HI2 := Lib.hid hI2
      clear hI2 hI
      have hb : ((d : Int) % 2 == 0) = true := beq_iff_eq.2 (by omega)
      go_wp2_with fail
      go_round
      case rel => exact ⟨d / 2, t + 1, by go_num, by omega, by omega, ht2, HI2⟩
      case measure => simp [intOf]; omega
    · have ht1 : 1 ≤ t := by
        cases t with
        | zero => have h := hI.out; simp at h; omega
        | succ t => omega
      have hb : ((d : Int) % 2 == 0) = false := beq_eq_false_iff_ne.2 (by omega)
      go_wp2_with fail
      rw [show (a : Int) % (n : Int) = ((a % n : Nat) : Int) by rw [Int.natCast_emod]]
      refine (rpower_any _ _ _ _ (by omega) (by omega) (by omega) (by omega)).mono ?_
      rintro e w1 ⟨rfl, rfl⟩
      have hS := Lib.hid (SP_of (a := a) (n := n) (x := pmod (a % n) d n) ht (by omega) hI.out rfl)
      have hlt : pmod (a % n) d n < n := Nat.mod_lt _ (by omega)
      generalize pmod (a % n) d n = x0 at hlt hS ⊢
      by_cases h1 : x0 = 1
      · have e1 : ((x0 : Int) == 1) = true := beq_iff_eq.2 (by omega)
        have H1 := Lib.hid h1; clear h1
        go_wp2_with fail
        go_ret
        exact ⟨ret_bool (by rw [hS.out, H1.out]; rfl), rfl⟩
      · have e1 : ((x0 : Int) == 1) = false := beq_eq_false_iff_ne.2 (by omega)
        go_wp2_with fail
        have hS2 : Hid (SP a n = anyEq n x0 t) := by
          show _ = _; rw [hS.out, show (x0 == 1) = false by simp [h1], Bool.false_or]
        clear hS
        go_loop [5, 6] (fun vd vx => ∃ d' x k : Nat, vd = .int .u32 d' ∧ vx = .int .u32 x ∧ 0 < d' ∧ d' ≤ n - 1 ∧ x < n ∧ Hid (d' * 2 ^ k = n - 1) ∧ Hid (SP a n = anyEq n x k)) (fun vd _ => n - (intOf vd).toNat)
        case atStart => exact ⟨d, x0, t, rfl, rfl, by omega, by have := wrap_dec_nat ht1 hI.out; omega, hlt, hI, hS2⟩
        case round =>
          obtain ⟨d', x, k, rfl, rfl, hd1, hd2, hx, hI3, hS3⟩ := hrel
          by_cases hlt2 : d' < n - 1
          · obtain ⟨s, rfl⟩ : ∃ s, k = s + 1 := by
              cases k with
              | zero => have h := hI3.out; simp at h; omega
              | succ k => exact ⟨k, rfl⟩
            have hdb := wrap_dec_nat (by omega) hI3.out
            by_cases h3 : x = n - 1
            · have e3 : ((x : Int) == (n : Int) - 1) = true := beq_iff_eq.2 (by omega)
              have H3 := Lib.hid h3; clear h3
              go_wp2_with fail
              go_ret
              exact ⟨ret_bool (by rw [hS3.out, anyEq_hit H3.out]), rfl⟩
            · have e3 : ((x : Int) == (n : Int) - 1) = false := beq_eq_false_iff_ne.2 (by omega)
              go_wp2_with (go_at_call 137; refine (rtimes_any _ _ _ _ (by omega) (by omega) (by omega) (by omega) (by omega) (by omega)).mono ?_; rintro e w' ⟨rfl, rfl⟩)
              simp only [mulmod_nat]
              go_round
              case rel => exact ⟨d' * 2, x * x % n, s, by go_num, rfl, by omega, by omega, Nat.mod_lt _ (by omega), dbl_split hI3.out, by show _ = _; rw [hS3.out, anyEq_miss h3]⟩
              case measure => simp [intOf]; omega
          · have hk0 : k = 0 := by
              cases k with
              | zero => rfl
              | succ k => have := wrap_dec_nat (by omega) hI3.out; omega
            have HK := Lib.hid hk0; clear hk0
            go_wp2_with fail
            go_ret
            exact ⟨ret_bool (by rw [hS3.out, HK.out]; rfl), rfl⟩
end Go.Proofs.YtjpcljnojipdnaaGreat

/-! Walks of the tests for primes: modular.Prime and obscuraref01.Prime. -/
namespace Go.Proofs.YtjpcljnojipdnaaGreat
open Go.RowKit

theorem seven0 (w : World) : (Instr.index 164 (.agg #[.int .u32 2, .int .u32 3, .int .u32 5, .int .u32 7, .int .u32 11, .int .u32 13, .int .u32 61]) (.int .i64 0)).run Tryz.prog w = .ok (.int .u32 2) w := by kernel_rfl
theorem seven1 (w : World) : (Instr.index 164 (.agg #[.int .u32 2, .int .u32 3, .int .u32 5, .int .u32 7, .int .u32 11, .int .u32 13, .int .u32 61]) (.int .i64 1)).run Tryz.prog w = .ok (.int .u32 3) w := by kernel_rfl
theorem seven2 (w : World) : (Instr.index 164 (.agg #[.int .u32 2, .int .u32 3, .int .u32 5, .int .u32 7, .int .u32 11, .int .u32 13, .int .u32 61]) (.int .i64 2)).run Tryz.prog w = .ok (.int .u32 5) w := by kernel_rfl
theorem seven3 (w : World) : (Instr.index 164 (.agg #[.int .u32 2, .int .u32 3, .int .u32 5, .int .u32 7, .int .u32 11, .int .u32 13, .int .u32 61]) (.int .i64 3)).run Tryz.prog w = .ok (.int .u32 7) w := by kernel_rfl
theorem seven4 (w : World) : (Instr.index 164 (.agg #[.int .u32 2, .int .u32 3, .int .u32 5, .int .u32 7, .int .u32 11, .int .u32 13, .int .u32 61]) (.int .i64 4)).run Tryz.prog w = .ok (.int .u32 11) w := by kernel_rfl
theorem seven5 (w : World) : (Instr.index 164 (.agg #[.int .u32 2, .int .u32 3, .int .u32 5, .int .u32 7, .int .u32 11, .int .u32 13, .int .u32 61]) (.int .i64 5)).run Tryz.prog w = .ok (.int .u32 13) w := by kernel_rfl
theorem seven6 (w : World) : (Instr.index 164 (.agg #[.int .u32 2, .int .u32 3, .int .u32 5, .int .u32 7, .int .u32 11, .int .u32 13, .int .u32 61]) (.int .i64 6)).run Tryz.prog w = .ok (.int .u32 61) w := by kernel_rfl
theorem three0 (w : World) : (Instr.index 165 (.agg #[.int .u32 2, .int .u32 7, .int .u32 61]) (.int .i64 0)).run Tryz.prog w = .ok (.int .u32 2) w := by kernel_rfl
theorem three1 (w : World) : (Instr.index 165 (.agg #[.int .u32 2, .int .u32 7, .int .u32 61]) (.int .i64 1)).run Tryz.prog w = .ok (.int .u32 7) w := by kernel_rfl
theorem three2 (w : World) : (Instr.index 165 (.agg #[.int .u32 2, .int .u32 7, .int .u32 61]) (.int .i64 2)).run Tryz.prog w = .ok (.int .u32 61) w := by kernel_rfl

theorem mpasses_int (a : Int) (n : Nat) (w : World) (ha0 : 0 ≤ a) (ha : a < 4294967296) (hn : 3 ≤ n) (hn2 : n < 4294967296) (hodd : n % 2 = 1) :
    Calls Tryz.prog 141 #[.int .u32 a, .int .u32 n] w fun r w' => r = .returned (.bool (SP a.toNat n)) ∧ Below w.heap.size w w' := by
  obtain ⟨b, rfl⟩ := Int.eq_ofNat_of_zero_le ha0
  exact mpasses_any b n w (by omega) hn hn2 hodd

/-- None of the first k small primes divides n. -/
def NoSmall (n k : Nat) : Prop := ∀ p, p ∈ smalls.take k → n % p ≠ 0

theorem noSmall_step {n k p : Nat} (h : NoSmall n k) (hp : smalls[k]? = some p) (hd : n % p ≠ 0) : NoSmall n (k + 1) := by
  intro q hq
  rw [List.take_add_one] at hq
  rcases List.mem_append.1 hq with h1 | h1
  · exact h q h1
  · rw [hp] at h1; simp at h1; subst h1; exact hd

theorem mPrime_small {n k p : Nat} (h2 : ¬ n < 2) (h : NoSmall n k) (hp : smalls[k]? = some p) (hd : n % p = 0) : mPrime n = (n == p) := by
  have hf : smalls.find? (fun p => n % p == 0) = some p := by
    have hk : k < smalls.length := (List.getElem?_eq_some_iff.1 hp).1
    have e : smalls = smalls.take k ++ p :: smalls.drop (k + 1) := by
      have hpk : smalls[k] = p := (List.getElem?_eq_some_iff.1 hp).2
      rw [← hpk, List.getElem_cons_drop, List.take_append_drop]
    rw [e, List.find?_append, List.find?_eq_none.2 (by intro q hq; simpa using h q hq)]
    simp [hd]
  unfold mPrime
  rw [if_neg h2, hf]

theorem mPrime_none {n : Nat} (h2 : ¬ n < 2) (h : NoSmall n 7) : mPrime n = (SP 2 n && (SP 7 n && SP 61 n)) := by
  have hf : smalls.find? (fun p => n % p == 0) = none := List.find?_eq_none.2 (by intro q hq; simpa using h q (by simpa [smalls] using hq))
  unfold mPrime
  rw [if_neg h2, hf]

set_option maxHeartbeats 1000000 in
theorem mPrime_any (n : Nat) (w : World) (hn2 : n < 4294967296) :
    Calls Tryz.prog 113 #[.int .u32 n] w fun r w' => r = .returned (.bool (mPrime n)) ∧ Below w.heap.size w w' := by
  by_cases h2 : n < 2
  · go_enter Tryz.func113, Tryz.ntmps113
    go_wp2_with fail
    go_ret
    exact ⟨ret_bool (by unfold mPrime; rw [if_pos h2]), Below.refl _ _⟩
  · go_enter Tryz.func113, Tryz.ntmps113
    go_wp2_with fail
    go_loop [4, 10] (fun _ vk => ∃ k : Nat, vk = .int .i64 k ∧ k ≤ 7 ∧ Hid (NoSmall n k)) (fun _ vk => 7 - (intOf vk).toNat)
    case atStart => exact ⟨0, rfl, by omega, by intro p hp; simp at hp⟩
    case round =>
      obtain ⟨k, rfl, hk, hno⟩ := hrel
      rcases (show k = 0 ∨ k = 1 ∨ k = 2 ∨ k = 3 ∨ k = 4 ∨ k = 5 ∨ k = 6 ∨ k = 7 by omega) with rfl | rfl | rfl | rfl | rfl | rfl | rfl | rfl
      · have hix := seven0
        by_cases hd : n % 2 = 0
        · have hM := Lib.hid (mPrime_small h2 hno.out (show smalls[0]? = some 2 from rfl) hd)
          have hb : ((n : Int) % 2 == 0) = true := beq_iff_eq.2 (by omega)
          by_cases he : n = 2
          · have hq : ((n : Int) == 2) = true := beq_iff_eq.2 (by omega)
            have HE := Lib.hid he
            clear he hd
            go_wp2_with fail
            go_ret
            exact ⟨ret_bool (by rw [hM.out, HE.out]; rfl), Below.refl _ _⟩
          · have hq : ((n : Int) == 2) = false := beq_eq_false_iff_ne.2 (by omega)
            clear hd
            go_wp2_with fail
            go_ret
            exact ⟨ret_bool (by rw [hM.out, beq_eq_false_iff_ne.2 he]), Below.refl _ _⟩
        · have hb : ((n : Int) % 2 == 0) = false := beq_eq_false_iff_ne.2 (by omega)
          have hN := Lib.hid (noSmall_step hno.out (show smalls[0]? = some 2 from rfl) hd)
          go_wp2_with fail
          go_round
          case rel => exact ⟨1, rfl, by omega, hN⟩
          case measure => simp [intOf]
      · have hix := seven1
        by_cases hd : n % 3 = 0
        · have hM := Lib.hid (mPrime_small h2 hno.out (show smalls[1]? = some 3 from rfl) hd)
          have hb : ((n : Int) % 3 == 0) = true := beq_iff_eq.2 (by omega)
          by_cases he : n = 3
          · have hq : ((n : Int) == 3) = true := beq_iff_eq.2 (by omega)
            have HE := Lib.hid he
            clear he hd
            go_wp2_with fail
            go_ret
            exact ⟨ret_bool (by rw [hM.out, HE.out]; rfl), Below.refl _ _⟩
          · have hq : ((n : Int) == 3) = false := beq_eq_false_iff_ne.2 (by omega)
            clear hd
            go_wp2_with fail
            go_ret
            exact ⟨ret_bool (by rw [hM.out, beq_eq_false_iff_ne.2 he]), Below.refl _ _⟩
        · have hb : ((n : Int) % 3 == 0) = false := beq_eq_false_iff_ne.2 (by omega)
          have hN := Lib.hid (noSmall_step hno.out (show smalls[1]? = some 3 from rfl) hd)
          go_wp2_with fail
          go_round
          case rel => exact ⟨2, rfl, by omega, hN⟩
          case measure => simp [intOf]
      · have hix := seven2
        by_cases hd : n % 5 = 0
        · have hM := Lib.hid (mPrime_small h2 hno.out (show smalls[2]? = some 5 from rfl) hd)
          have hb : ((n : Int) % 5 == 0) = true := beq_iff_eq.2 (by omega)
          by_cases he : n = 5
          · have hq : ((n : Int) == 5) = true := beq_iff_eq.2 (by omega)
            have HE := Lib.hid he
            clear he hd
            go_wp2_with fail
            go_ret
            exact ⟨ret_bool (by rw [hM.out, HE.out]; rfl), Below.refl _ _⟩
          · have hq : ((n : Int) == 5) = false := beq_eq_false_iff_ne.2 (by omega)
            clear hd
            go_wp2_with fail
            go_ret
            exact ⟨ret_bool (by rw [hM.out, beq_eq_false_iff_ne.2 he]), Below.refl _ _⟩
        · have hb : ((n : Int) % 5 == 0) = false := beq_eq_false_iff_ne.2 (by omega)
          have hN := Lib.hid (noSmall_step hno.out (show smalls[2]? = some 5 from rfl) hd)
          go_wp2_with fail
          go_round
          case rel => exact ⟨3, rfl, by omega, hN⟩
          case measure => simp [intOf]
      · have hix := seven3
        by_cases hd : n % 7 = 0
        · have hM := Lib.hid (mPrime_small h2 hno.out (show smalls[3]? = some 7 from rfl) hd)
          have hb : ((n : Int) % 7 == 0) = true := beq_iff_eq.2 (by omega)
          by_cases he : n = 7
          · have hq : ((n : Int) == 7) = true := beq_iff_eq.2 (by omega)
            have HE := Lib.hid he
            clear he hd
            go_wp2_with fail
            go_ret
            exact ⟨ret_bool (by rw [hM.out, HE.out]; rfl), Below.refl _ _⟩
          · have hq : ((n : Int) == 7) = false := beq_eq_false_iff_ne.2 (by omega)
            clear hd
            go_wp2_with fail
            go_ret
            exact ⟨ret_bool (by rw [hM.out, beq_eq_false_iff_ne.2 he]), Below.refl _ _⟩
        · have hb : ((n : Int) % 7 == 0) = false := beq_eq_false_iff_ne.2 (by omega)
          have hN := Lib.hid (noSmall_step hno.out (show smalls[3]? = some 7 from rfl) hd)
          go_wp2_with fail
          go_round
          case rel => exact ⟨4, rfl, by omega, hN⟩
          case measure => simp [intOf]
      · have hix := seven4
        by_cases hd : n % 11 = 0
        · have hM := Lib.hid (mPrime_small h2 hno.out (show smalls[4]? = some 11 from rfl) hd)
          have hb : ((n : Int) % 11 == 0) = true := beq_iff_eq.2 (by omega)
          by_cases he : n = 11
          · have hq : ((n : Int) == 11) = true := beq_iff_eq.2 (by omega)
            have HE := Lib.hid he
            clear he hd
            go_wp2_with fail
            go_ret
            exact ⟨ret_bool (by rw [hM.out, HE.out]; rfl), Below.refl _ _⟩
          · have hq : ((n : Int) == 11) = false := beq_eq_false_iff_ne.2 (by omega)
            clear hd
            go_wp2_with fail
            go_ret
            exact ⟨ret_bool (by rw [hM.out, beq_eq_false_iff_ne.2 he]), Below.refl _ _⟩
        · have hb : ((n : Int) % 11 == 0) = false := beq_eq_false_iff_ne.2 (by omega)
          have hN := Lib.hid (noSmall_step hno.out (show smalls[4]? = some 11 from rfl) hd)
          go_wp2_with fail
          go_round
          case rel => exact ⟨5, rfl, by omega, hN⟩
          case measure => simp [intOf]
      · have hix := seven5
        by_cases hd : n % 13 = 0
        · have hM := Lib.hid (mPrime_small h2 hno.out (show smalls[5]? = some 13 from rfl) hd)
          have hb : ((n : Int) % 13 == 0) = true := beq_iff_eq.2 (by omega)
          by_cases he : n = 13
          · have hq : ((n : Int) == 13) = true := beq_iff_eq.2 (by omega)
            have HE := Lib.hid he
            clear he hd
            go_wp2_with fail
            go_ret
            exact ⟨ret_bool (by rw [hM.out, HE.out]; rfl), Below.refl _ _⟩
          · have hq : ((n : Int) == 13) = false := beq_eq_false_iff_ne.2 (by omega)
            clear hd
            go_wp2_with fail
            go_ret
            exact ⟨ret_bool (by rw [hM.out, beq_eq_false_iff_ne.2 he]), Below.refl _ _⟩
        · have hb : ((n : Int) % 13 == 0) = false := beq_eq_false_iff_ne.2 (by omega)
          have hN := Lib.hid (noSmall_step hno.out (show smalls[5]? = some 13 from rfl) hd)
          go_wp2_with fail
          go_round
          case rel => exact ⟨6, rfl, by omega, hN⟩
          case measure => simp [intOf]
      · have hix := seven6
        by_cases hd : n % 61 = 0
        · have hM := Lib.hid (mPrime_small h2 hno.out (show smalls[6]? = some 61 from rfl) hd)
          have hb : ((n : Int) % 61 == 0) = true := beq_iff_eq.2 (by omega)
          by_cases he : n = 61
          · have hq : ((n : Int) == 61) = true := beq_iff_eq.2 (by omega)
            have HE := Lib.hid he
            clear he hd
            go_wp2_with fail
            go_ret
            exact ⟨ret_bool (by rw [hM.out, HE.out]; rfl), Below.refl _ _⟩
          · have hq : ((n : Int) == 61) = false := beq_eq_false_iff_ne.2 (by omega)
            clear hd
            go_wp2_with fail
            go_ret
            exact ⟨ret_bool (by rw [hM.out, beq_eq_false_iff_ne.2 he]), Below.refl _ _⟩
        · have hb : ((n : Int) % 61 == 0) = false := beq_eq_false_iff_ne.2 (by omega)
          have hN := Lib.hid (noSmall_step hno.out (show smalls[6]? = some 61 from rfl) hd)
          go_wp2_with fail
          go_round
          case rel => exact ⟨7, rfl, by omega, hN⟩
          case measure => simp [intOf]
      · have hodd : n % 2 = 1 := by have := hno.out 2 (by simp [smalls]); omega
        have hM := Lib.hid (mPrime_none h2 hno.out)
        go_wp2_with fail
        go_loopw [6, 22] (fun _ vk wr => ∃ k : Nat, vk = .int .i64 k ∧ k ≤ 3 ∧ Hid (∀ p, p ∈ [2, 7, 61].take k → SP p n = true) ∧ Below w.heap.size w wr) (fun _ vk _ => 3 - (intOf vk).toNat)
        case atStart => exact ⟨0, rfl, by omega, by intro p hp; simp at hp, Below.refl _ _⟩
        case round =>
          obtain ⟨k, rfl, hk, hall, hbel⟩ := hrel
          have hbs := hbel.size
          rcases (show k = 0 ∨ k = 1 ∨ k = 2 ∨ k = 3 by omega) with rfl | rfl | rfl | rfl
          · have hix := three0
            by_cases hs : SP 2 n = true
            · have HA : Hid (∀ p, p ∈ [2, 7, 61].take 1 → SP p n = true) := by
                intro p hp; rw [List.take_add_one] at hp
                rcases List.mem_append.1 hp with h1 | h1
                · exact hall.out p h1
                · simp at h1; subst h1; exact hs
              go_wp2_with (go_at_call 141; refine (mpasses_int _ _ _ (by omega) (by omega) (by omega) (by omega) (by omega)).mono ?_; rintro e w1 ⟨rfl, hb1⟩)
              go_roundw
              case rel => exact ⟨1, rfl, by omega, HA, hbel.trans (hb1.mono hbs)⟩
              case measure => simp [intOf]
            · have hs' : SP 2 n = false := by simpa using hs
              clear hs
              have HR : Hid (mPrime n = false) := by show _ = _; rw [hM.out, hs']; simp
              go_wp2_with (go_at_call 141; refine (mpasses_int _ _ _ (by omega) (by omega) (by omega) (by omega) (by omega)).mono ?_; rintro e w1 ⟨rfl, hb1⟩)
              go_ret
              exact ⟨ret_bool (by rw [HR.out]), hbel.trans (hb1.mono hbs)⟩
          · have hix := three1
            by_cases hs : SP 7 n = true
            · have HA : Hid (∀ p, p ∈ [2, 7, 61].take 2 → SP p n = true) := by
                intro p hp; rw [List.take_add_one] at hp
                rcases List.mem_append.1 hp with h1 | h1
                · exact hall.out p h1
                · simp at h1; subst h1; exact hs
              go_wp2_with (go_at_call 141; refine (mpasses_int _ _ _ (by omega) (by omega) (by omega) (by omega) (by omega)).mono ?_; rintro e w1 ⟨rfl, hb1⟩)
              go_roundw
              case rel => exact ⟨2, rfl, by omega, HA, hbel.trans (hb1.mono hbs)⟩
              case measure => simp [intOf]
            · have hs' : SP 7 n = false := by simpa using hs
              clear hs
              have HR : Hid (mPrime n = false) := by show _ = _; rw [hM.out, hs']; simp
              go_wp2_with (go_at_call 141; refine (mpasses_int _ _ _ (by omega) (by omega) (by omega) (by omega) (by omega)).mono ?_; rintro e w1 ⟨rfl, hb1⟩)
              go_ret
              exact ⟨ret_bool (by rw [HR.out]), hbel.trans (hb1.mono hbs)⟩
          · have hix := three2
            by_cases hs : SP 61 n = true
            · have HA : Hid (∀ p, p ∈ [2, 7, 61].take 3 → SP p n = true) := by
                intro p hp; rw [List.take_add_one] at hp
                rcases List.mem_append.1 hp with h1 | h1
                · exact hall.out p h1
                · simp at h1; subst h1; exact hs
              go_wp2_with (go_at_call 141; refine (mpasses_int _ _ _ (by omega) (by omega) (by omega) (by omega) (by omega)).mono ?_; rintro e w1 ⟨rfl, hb1⟩)
              go_roundw
              case rel => exact ⟨3, rfl, by omega, HA, hbel.trans (hb1.mono hbs)⟩
              case measure => simp [intOf]
            · have hs' : SP 61 n = false := by simpa using hs
              clear hs
              have HR : Hid (mPrime n = false) := by show _ = _; rw [hM.out, hs']; simp
              go_wp2_with (go_at_call 141; refine (mpasses_int _ _ _ (by omega) (by omega) (by omega) (by omega) (by omega)).mono ?_; rintro e w1 ⟨rfl, hb1⟩)
              go_ret
              exact ⟨ret_bool (by rw [HR.out]), hbel.trans (hb1.mono hbs)⟩
          · have HR : Hid (mPrime n = true) := by show _ = _; rw [hM.out, hall.out 2 (by simp), hall.out 7 (by simp), hall.out 61 (by simp)]; rfl
            go_wp2_with fail
            go_ret
            exact ⟨ret_bool (by rw [HR.out]), hbel⟩

theorem rstrong_int (a : Int) (n : Nat) (w : World) (ha0 : 0 ≤ a) (ha : a < 4294967296) (hn : 3 ≤ n) (hn2 : n < 4294967296) (hodd : n % 2 = 1) :
    Calls Tryz.prog 134 #[.int .u32 a, .int .u32 n] w fun r w' => r = .returned (.bool (SP a.toNat n)) ∧ w = w' := by
  obtain ⟨b, rfl⟩ := Int.eq_ofNat_of_zero_le ha0
  exact rstrong_any b n w (by omega) hn hn2 hodd

set_option maxHeartbeats 1000000 in
theorem rPrime_any (n : Nat) (w : World) (hn2 : n < 4294967296) :
    Calls Tryz.prog 96 #[.int .u32 n] w fun r w' => r = .returned (.bool (rPrime n)) ∧ w = w' := by
  by_cases h2 : n = 2
  · subst h2
    go_enter Tryz.func96, Tryz.ntmps96
    go_wp2_with fail
    go_ret
    exact ⟨ret_bool (by rfl), rfl⟩
  have e2 : ((n : Int) == 2) = false := beq_eq_false_iff_ne.2 (by omega)
  by_cases h7 : n = 7
  · subst h7
    go_enter Tryz.func96, Tryz.ntmps96
    go_wp2_with fail
    go_ret
    exact ⟨ret_bool (by rfl), rfl⟩
  have e7 : ((n : Int) == 7) = false := beq_eq_false_iff_ne.2 (by omega)
  by_cases h61 : n = 61
  · subst h61
    go_enter Tryz.func96, Tryz.ntmps96
    go_wp2_with fail
    go_ret
    exact ⟨ret_bool (by rfl), rfl⟩
  have e61 : ((n : Int) == 61) = false := beq_eq_false_iff_ne.2 (by omega)
  have hR : rPrime n = (decide (2 < n) && decide (n % 2 = 1) && decide (0 < n % 7) && decide (0 < n % 61) && SP 2 n && SP 7 n && SP 61 n) := by
    unfold rPrime
    rw [beq_eq_false_iff_ne.2 h2, beq_eq_false_iff_ne.2 h7, beq_eq_false_iff_ne.2 h61]; rfl
  by_cases c1 : 2 < n
  case neg =>
    have HR : Hid (rPrime n = false) := by show _ = _; rw [hR, decide_eq_false c1]; rfl
    clear hR
    go_enter Tryz.func96, Tryz.ntmps96
    go_wp2_with fail
    go_ret
    exact ⟨ret_bool (by rw [HR.out]), rfl⟩
  by_cases c2 : n % 2 = 1
  case neg =>
    have d2 : ((n : Int) % 2 == 1) = false := beq_eq_false_iff_ne.2 (by omega)
    have HR : Hid (rPrime n = false) := by show _ = _; rw [hR, decide_eq_true c1, decide_eq_false c2]; rfl
    clear hR
    go_enter Tryz.func96, Tryz.ntmps96
    go_wp2_with fail
    go_ret
    exact ⟨ret_bool (by rw [HR.out]), rfl⟩
  have d2 : ((n : Int) % 2 == 1) = true := beq_iff_eq.2 (by omega)
  by_cases c3 : 0 < n % 7
  case neg =>
    have d3 : ¬ 0 < (n : Int) % 7 := by omega
    have d3' : decide (0 < (n : Int) % 7) = false := by simpa using d3
    have HR : Hid (rPrime n = false) := by show _ = _; rw [hR, decide_eq_true c1, decide_eq_true c2, decide_eq_false c3]; rfl
    clear hR
    go_enter Tryz.func96, Tryz.ntmps96
    go_wp2_with fail
    go_ret
    exact ⟨ret_bool (by rw [HR.out]), rfl⟩
  have d3 : decide (0 < (n : Int) % 7) = true := by simp; omega
  by_cases c4 : 0 < n % 61
  case neg =>
    have d4' : decide (0 < (n : Int) % 61) = false := by simp; omega
    have HR : Hid (rPrime n = false) := by show _ = _; rw [hR, decide_eq_true c1, decide_eq_true c2, decide_eq_true c3, decide_eq_false c4]; rfl
    clear hR
    go_enter Tryz.func96, Tryz.ntmps96
    go_wp2_with fail
    go_ret
    exact ⟨ret_bool (by rw [HR.out]), rfl⟩
  have d4 : decide (0 < (n : Int) % 61) = true := by simp; omega
  rw [decide_eq_true c1, decide_eq_true c2, decide_eq_true c3, decide_eq_true c4] at hR
  by_cases s2 : SP 2 n = true
  case neg =>
    have s2' : SP 2 n = false := by simpa using s2
    clear s2
    have HR : Hid (rPrime n = false) := by show _ = _; rw [hR, s2']; rfl
    clear hR
    go_enter Tryz.func96, Tryz.ntmps96
    go_wp2_with (go_at_call 134; refine (rstrong_int _ _ _ (by omega) (by omega) (by omega) (by omega) (by omega)).mono ?_; rintro e w1 ⟨rfl, rfl⟩)
    go_ret
    exact ⟨ret_bool (by rw [HR.out]), rfl⟩
  by_cases s7 : SP 7 n = true
  case neg =>
    have s7' : SP 7 n = false := by simpa using s7
    clear s7
    have HR : Hid (rPrime n = false) := by show _ = _; rw [hR, s2, s7']; rfl
    clear hR
    go_enter Tryz.func96, Tryz.ntmps96
    go_wp2_with (go_at_call 134; refine (rstrong_int _ _ _ (by omega) (by omega) (by omega) (by omega) (by omega)).mono ?_; rintro e w1 ⟨rfl, rfl⟩)
    go_ret
    exact ⟨ret_bool (by rw [HR.out]), rfl⟩
  by_cases s61 : SP 61 n = true
  case neg =>
    have s61' : SP 61 n = false := by simpa using s61
    clear s61
    have HR : Hid (rPrime n = false) := by show _ = _; rw [hR, s2, s7, s61']; rfl
    clear hR
    go_enter Tryz.func96, Tryz.ntmps96
    go_wp2_with (go_at_call 134; refine (rstrong_int _ _ _ (by omega) (by omega) (by omega) (by omega) (by omega)).mono ?_; rintro e w1 ⟨rfl, rfl⟩)
    go_ret
    exact ⟨ret_bool (by rw [HR.out]), rfl⟩
  have HR : Hid (rPrime n = true) := by show _ = _; rw [hR, s2, s7, s61]; rfl
  clear hR
  go_enter Tryz.func96, Tryz.ntmps96
  go_wp2_with (go_at_call 134; refine (rstrong_int _ _ _ (by omega) (by omega) (by omega) (by omega) (by omega)).mono ?_; rintro e w1 ⟨rfl, rfl⟩)
  go_ret
  exact ⟨ret_bool (by rw [HR.out]), rfl⟩
end Go.Proofs.YtjpcljnojipdnaaGreat
