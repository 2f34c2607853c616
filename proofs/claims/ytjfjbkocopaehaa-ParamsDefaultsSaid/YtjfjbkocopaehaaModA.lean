/- Walks of the two packages' powers modulo a number: obscuraref01.times, obscuraref01.power, modular.product, modular.power. -/
import Derived.Test.YtjfjbkocopaehaaChecked
import Derived.Test.YtjfjbkocopaehaaMathA
import Derived.WalkKit
import Derived.WalkSpells
import Derived.WalkLawsBesides
import Derived.Handy
import Derived.Lib.Hide
namespace Go.Proofs.Ytjfjbkocopaehaa
open Go.RowKit

theorem ret_int {k : IntKind} {a b : Int} (h : a = b) : Ending.returned (.int k a) = .returned (.int k b) := by rw [h]
theorem ret_bool {a b : Bool} (h : a = b) : Ending.returned (.bool a) = .returned (.bool b) := by rw [h]
/-- Behind a contract that leaves all that was there: the old cells and marks read as they did. -/
theorem bcell {W w1 : World} (hb : Below W.heap.size W w1) : (∀ b o, b < W.heap.size → w1.cell? ⟨b, o, none⟩ = W.cell? ⟨b, o, none⟩) ∧ (∀ b o, b < W.heap.size → w1.frozen? ⟨b, o, none⟩ = W.frozen? ⟨b, o, none⟩) :=
  ⟨fun b o h => hb.cell (p := ⟨b, o, none⟩) h, fun b o h => hb.frozen (p := ⟨b, o, none⟩) h⟩

/-- One product modulo n, in the program's arithmetic. -/
theorem mulmod_fits (a b n : Int) (ha0 : 0 ≤ a) (ha : a < 4294967296) (hb0 : 0 ≤ b) (hb : b < 4294967296) (hn : 1 ≤ n) (hn2 : n < 4294967296) :
    0 ≤ a * b ∧ a * b ≤ 18446744065119617025 ∧ 0 ≤ a * b % n ∧ a * b % n < n := by
  refine ⟨Int.mul_nonneg ha0 hb0, ?_, Int.emod_nonneg _ (by omega), Int.emod_lt_of_pos _ (by omega)⟩
  have h : a * b ≤ 4294967295 * 4294967295 := Int.mul_le_mul (by omega) (by omega) hb0 (by omega)
  omega

set_option maxHeartbeats 400000 in
theorem rtimes_any (a b n : Int) (w : World) (ha0 : 0 ≤ a) (ha : a < 4294967296) (hb0 : 0 ≤ b) (hb : b < 4294967296) (hn : 1 ≤ n) (hn2 : n < 4294967296) :
    Calls Try.prog 129 #[.int .u32 a, .int .u32 b, .int .u32 n] w fun e w' => e = .returned (.int .u32 (a * b % n)) ∧ w = w' := by
  obtain ⟨h1, h2, h3, h4⟩ := mulmod_fits a b n ha0 ha hb0 hb hn hn2
  go_enter Try.func129, Try.ntmps129
  go_wp2
  go_ret
  exact ⟨rfl, rfl⟩

/-- The powers that the loops compute: 'powAcc n e out a' is out * a^e modulo n. -/
theorem pow_step_odd (n out a e : Nat) (he : e % 2 = 1) : out * a ^ e % n = (out * a % n) * (a * a % n) ^ (e / 2) % n := by
  have h : e = 2 * (e / 2) + 1 := by omega
  have h2 : a ^ e = a * (a * a) ^ (e / 2) := by
    conv => lhs; rw [h]
    rw [Nat.pow_succ, Nat.pow_mul, Nat.pow_two, Nat.mul_comm]
  rw [h2, ← Nat.mul_assoc, Nat.mul_mod, Nat.pow_mod (a * a) (e / 2) n, ← Nat.mul_mod_mod, Nat.mod_mod] 
  simp [Nat.mul_mod, Nat.pow_mod]

theorem pow_step_even (n out a e : Nat) (he : e % 2 = 0) : out * a ^ e % n = out * (a * a % n) ^ (e / 2) % n := by
  have h : e = 2 * (e / 2) := by omega
  have h2 : a ^ e = (a * a) ^ (e / 2) := by
    conv => lhs; rw [h]
    rw [Nat.pow_mul, Nat.pow_two]
  rw [h2, Nat.mul_mod, Nat.pow_mod (a * a) (e / 2) n]
  simp [Nat.mul_mod, Nat.pow_mod]

/-- The remainder of a product, of numbers of the program. -/
theorem mulmod_nat (a b n : Nat) : (a : Int) * (b : Int) % (n : Int) = ((a * b % n : Nat) : Int) := by
  rw [Int.natCast_emod, Int.natCast_mul]

set_option maxHeartbeats 400000 in
theorem rpower_any (a e n : Nat) (w : World) (ha : a < 4294967296) (he : e < 18446744073709551616) (hn : 2 ≤ n) (hn2 : n < 4294967296) :
    Calls Try.prog 128 #[.int .u32 a, .int .u64 e, .int .u32 n] w fun r w' => r = .returned (.int .u32 (pmod a e n)) ∧ w = w' := by
  go_enter Try.func128, Try.ntmps128
  go_wp2
  go_loop [0, 1, 7] (fun va ve vo => ∃ a' e' o' : Nat, va = .int .u32 a' ∧ ve = .int .u64 e' ∧ vo = .int .u32 o' ∧ a' < 4294967296 ∧ e' ≤ e ∧ o' < n ∧ Hid (o' * a' ^ e' % n = pmod a e n)) (fun _ ve _ => (intOf ve).toNat)
  case atStart => exact ⟨a, e, 1, rfl, rfl, rfl, ha, Nat.le_refl _, by omega, by show _ = _; rw [Nat.one_mul]; rfl⟩
  case round =>
    obtain ⟨a', e', o', rfl, rfl, rfl, ha', he', ho', hI⟩ := hrel
    have hmo : o' * a' % n < n := Nat.mod_lt _ (by omega)
    have hma : a' * a' % n < n := Nat.mod_lt _ (by omega)
    by_cases h0 : 0 < e'
    · by_cases h1 : e' % 2 = 1
      · have hst := Lib.hid (pow_step_odd n o' a' e' h1)
        go_wp2_with (go_at_call 129; refine (rtimes_any _ _ _ _ (by omega) (by omega) (by omega) (by omega) (by omega) (by omega)).mono ?_; rintro e w' ⟨rfl, rfl⟩)
        simp only [mulmod_nat]
        go_round
        case rel => exact ⟨a' * a' % n, e' / 2, o' * a' % n, rfl, rfl, rfl, by omega, by omega, by omega, (hst.out.symm.trans hI)⟩
        case measure => simp [intOf]; omega
      · have hst := Lib.hid (pow_step_even n o' a' e' (by omega))
        go_wp2_with (go_at_call 129; refine (rtimes_any _ _ _ _ (by omega) (by omega) (by omega) (by omega) (by omega) (by omega)).mono ?_; rintro e w' ⟨rfl, rfl⟩)
        simp only [mulmod_nat]
        go_round
        case rel => exact ⟨a' * a' % n, e' / 2, o', rfl, rfl, rfl, by omega, by omega, by omega, (hst.out.symm.trans hI)⟩
        case measure => simp [intOf]; omega
    · go_wp2
      go_ret
      obtain rfl : e' = 0 := by omega
      have h := hI.out
      rw [Nat.pow_zero, Nat.mul_one, Nat.mod_eq_of_lt ho'] at h
      exact ⟨ret_int (by rw [h]), rfl⟩

set_option maxHeartbeats 400000 in
/-- The product that modular.product hands back: its modulus lies in a cell. -/
theorem mproduct1_any (a b n : Int) (p : Addr) (w : World) (hp : w.cell? p = some (.int .u64 n)) (ha0 : 0 ≤ a) (ha : a < 4294967296) (hb0 : 0 ≤ b) (hb : b < 4294967296) (hn : 1 ≤ n) (hn2 : n < 4294967296) :
    Calls Try.prog 141 #[.int .u32 a, .int .u32 b, .pointer (some p)] w fun e w' => e = .returned (.int .u32 (a * b % n)) ∧ w = w' := by
  obtain ⟨h1, h2, h3, h4⟩ := mulmod_fits a b n ha0 ha hb0 hb hn hn2
  go_enter Try.func141, Try.ntmps141
  go_wp2
  go_ret
  exact ⟨rfl, rfl⟩

set_option maxHeartbeats 400000 in
theorem mproduct_any (n : Int) (w : World) (hn : 0 ≤ n) (hn2 : n < 4294967296) :
    Calls Try.prog 133 #[.int .u32 n] w fun r w' => r = .returned (.func (.func 141) #[] #[.pointer (some ⟨w.heap.size, 0, none⟩)]) ∧ w.alloc (.cells #[.int .u64 n] 105) = w' := by
  go_enter Try.func133, Try.ntmps133
  go_wp2
  go_ret
  exact ⟨rfl, rfl⟩

set_option maxHeartbeats 400000 in
theorem mpower_any (a e n : Nat) (w : World) (ha : a < 4294967296) (he : e < 18446744073709551616) (hn : 2 ≤ n) (hn2 : n < 4294967296) :
    Calls Try.prog 117 #[.int .u32 a, .int .u64 e, .int .u32 n] w fun r w' => r = .returned (.int .u32 (pmod a e n)) ∧ Below w.heap.size w w' := by
  go_enter Try.func117, Try.ntmps117
  go_wp2_with (go_at_call 133; refine (mproduct_any _ _ (by omega) (by omega)).mono ?_; rintro e w' ⟨rfl, rfl⟩)
  go_loop [0, 1, 8] (fun va ve vo => ∃ a' e' o' : Nat, va = .int .u32 a' ∧ ve = .int .u64 e' ∧ vo = .int .u32 o' ∧ a' < 4294967296 ∧ e' ≤ e ∧ o' < n ∧ Hid (o' * a' ^ e' % n = pmod a e n)) (fun _ ve _ => (intOf ve).toNat)
  case atStart => exact ⟨a, e, 1, rfl, rfl, rfl, ha, Nat.le_refl _, by omega, by show _ = _; rw [Nat.one_mul]; rfl⟩
  case round =>
    obtain ⟨a', e', o', rfl, rfl, rfl, ha', he', ho', hI⟩ := hrel
    have hmo : o' * a' % n < n := Nat.mod_lt _ (by omega)
    have hma : a' * a' % n < n := Nat.mod_lt _ (by omega)
    have hp : (w.alloc (.cells #[.int .u64 n] 105)).cell? ⟨w.heap.size, 0, none⟩ = some (.int .u64 n) := by simp [go_sem]
    by_cases h0 : 0 < e'
    · by_cases h1 : e' % 2 = 1
      · have hst := Lib.hid (pow_step_odd n o' a' e' h1)
        have hb : (bits BinOp.and IntKind.u64 (e' : Int) 1 == 1) = true := by rw [and_one_u64 _ (by omega) (by omega)]; simp; omega
        go_wp2_with (go_at_call 141; refine (mproduct1_any _ _ _ _ _ hp (by omega) (by omega) (by omega) (by omega) (by omega) (by omega)).mono ?_; rintro e w' ⟨rfl, rfl⟩)
        simp only [mulmod_nat]
        go_round
        case rel => exact ⟨a' * a' % n, e' / 2, o' * a' % n, rfl, rfl, rfl, by omega, by omega, by omega, (hst.out.symm.trans hI)⟩
        case measure => simp [intOf]; omega
      · have hst := Lib.hid (pow_step_even n o' a' e' (by omega))
        have hb : (bits BinOp.and IntKind.u64 (e' : Int) 1 == 1) = false := by rw [and_one_u64 _ (by omega) (by omega)]; simp; omega
        go_wp2_with (go_at_call 141; refine (mproduct1_any _ _ _ _ _ hp (by omega) (by omega) (by omega) (by omega) (by omega) (by omega)).mono ?_; rintro e w' ⟨rfl, rfl⟩)
        simp only [mulmod_nat]
        go_round
        case rel => exact ⟨a' * a' % n, e' / 2, o', rfl, rfl, rfl, by omega, by omega, by omega, (hst.out.symm.trans hI)⟩
        case measure => simp [intOf]; omega
    · go_wp2
      go_ret
      obtain rfl : e' = 0 := by omega
      have h := hI.out
      rw [Nat.pow_zero, Nat.mul_one, Nat.mod_eq_of_lt ho'] at h
      exact ⟨ret_int (by rw [h]), (Below.refl _ _).alloc (Nat.le_refl _) _⟩
end Go.Proofs.Ytjfjbkocopaehaa
