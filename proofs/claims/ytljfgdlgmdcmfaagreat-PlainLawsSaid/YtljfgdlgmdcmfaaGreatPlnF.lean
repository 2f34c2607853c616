/- Plain values: the reference's primes (what Prime answers, whatever it means). -/
import Derived.Test.YtljfgdlgmdcmfaaGreatPlnE
namespace Go.Proofs.YtljfgdlgmdcmfaaGreat
open Go.RowKit Wv
set_option linter.unusedVariables false
set_option linter.unusedSimpArgs false

def u3 (n : Nat) : AV := .v (.int .u32 n)
theorem mulmod (a b n : Nat) : ((a : Int) * (b : Int)).tmod (n : Int) = ((a * b % n : Nat) : Int) := by
  rw [← Int.natCast_mul]; rfl
theorem mul32 {a b : Nat} (ha : a < 4294967296) (hb : b < 4294967296) : a * b ≤ 18446744065119617025 := Nat.mul_le_mul (show a ≤ 4294967295 by omega) (show b ≤ 4294967295 by omega)
set_option maxHeartbeats 400000 in
set_option maxRecDepth 100000 in
theorem rtimes_tc (a b n : Nat) (ha : a < 4294967296) (hb : b < 4294967296) (hn : 0 < n) (hn' : n < 4294967296) : TC Tryz.prog 222 [u3 a, u3 b, u3 n] (u3 (a * b % n)) := by
  have h1 := mul32 ha hb
  have h2 := mulmod a b n
  have h3 := Nat.mod_lt (a * b) hn
  have h4 : 0 ≤ (a : Int) * b ∧ (a : Int) * b ≤ 18446744065119617025 := by rw [← Int.natCast_mul]; omega
  unfold u3
  refine Wv.TC.by 16 [0, 1, 2, 6] [] [.tmp 6] (by kernel_rfl) Tryz.func222 rfl rfl rfl (by kernel_rfl) (by kernel_rfl) (Nat.le_of_ble_eq_true rfl) rfl ?clo ?_
  case clo => simp only [Wv.BC]
  generalize a * b % n = r at *
  simp (maxSteps := 2000000) (disch := first | omega | assumption | (simp only [Wv.Bx, simprocAttr] <;> omega) | fail) only [Wv.B, simprocAttr, h2]
/-- A power modulo n. -/
def pwU (n : Nat) : Nat → Nat → Nat → Nat → Nat
  | 0, o, _, _ => o
  | f + 1, o, a, e => if 0 < e then pwU n f (if e % 2 = 1 then o * a % n else o) (a * a % n) (e / 2) else o
theorem pwU_lt {n : Nat} (hn : 0 < n) (hn' : n < 4294967296) : ∀ (f o a e : Nat), o < 4294967296 → pwU n f o a e < 4294967296
  | 0, o, a, e, h => h
  | f + 1, o, a, e, h => by
    unfold pwU
    split
    · refine pwU_lt hn hn' f _ _ _ ?_
      split
      · exact Nat.lt_trans (Nat.mod_lt _ hn) hn'
      · exact h
    · exact h
set_option maxHeartbeats 400000 in
set_option maxRecDepth 100000 in
theorem rpower_tc (a e n : Nat) (ha : a < 4294967296) (he : e < 18446744073709551616) (hn : 0 < n) (hn' : n < 4294967296) : TC Tryz.prog 221 [u3 a, .v (.int .u64 e), u3 n] (u3 (pwU n 64 1 a e)) := by
  obtain ⟨P, hP⟩ : ∃ P, pwU n 64 1 a e = P := ⟨_, rfl⟩
  have hT := fun a b ha hb => rtimes_tc a b n ha hb hn hn'
  rw [hP]
  unfold u3 at *
  refine Wv.TC.by 24 [1, 9, 12, 7, 0, 2, 6] [] [.tmp 6] (by kernel_rfl) Tryz.func221 rfl rfl rfl (by kernel_rfl) (by kernel_rfl) (Nat.le_of_ble_eq_true rfl) rfl ?clo ?_
  case clo => simp only [Wv.BC]
  simp (maxSteps := 2000000) (disch := first | omega | assumption | (simp only [Wv.Bx, simprocAttr] <;> omega) | fail) only [Wv.B, simprocAttr]
  refine wfor (σ := Nat × Nat × Nat × Nat) (fun s => [(0, .v (.int .u32 s.2.2.1)), (1, .v (.int .u64 s.2.2.2)), (2, .v (.int .u32 n)), (7, .v (.int .u32 s.2.1))]) (fun _ => [])
    (fun s => pwU n s.1 s.2.1 s.2.2.1 s.2.2.2 = P ∧ (s.2.2.2 < 2 ^ s.1 ∧ s.2.2.2 < 18446744073709551616) ∧ s.2.1 < 4294967296 ∧ s.2.2.1 < 4294967296) (fun s => s.1) (64, 1, a, e) ⟨hP, ⟨by show e < 2 ^ 64; omega, he⟩, by show 1 < _; omega, ha⟩ (by simp (maxSteps := 2000000) (disch := first | omega | assumption | (simp only [Wv.Bx, simprocAttr] <;> omega) | fail) only [Wv.B, simprocAttr]) (by simp (maxSteps := 2000000) (disch := first | omega | assumption | (simp only [Wv.Bx, simprocAttr] <;> omega) | fail) only [Wv.B, simprocAttr]) ?_
  rintro ⟨f, o, a, e⟩ ⟨h1, ⟨h2, h5⟩, h3, h4⟩
  simp only at h1 h2 h3 h4 h5
  by_cases h0 : 0 < e
  · have e0 : (0 : Int) < e := by omega
    obtain ⟨f, rfl⟩ : ∃ g, f = g + 1 := by
      cases f with
      | zero => exfalso; have : (2 : Nat) ^ 0 = 1 := rfl; omega
      | succ g => exact ⟨g, rfl⟩
    have e1 : (e : Int).tmod 2 = ((e % 2 : Nat) : Int) := rfl
    have e2 : (e : Int).tdiv 2 = ((e / 2 : Nat) : Int) := rfl
    have m1 := Nat.lt_trans (Nat.mod_lt (a * a) hn) hn'
    have m2 := Nat.lt_trans (Nat.mod_lt (o * a) hn) hn'
    have hp : 2 ^ (f + 1) = 2 * 2 ^ f := by rw [Nat.pow_succ, Nat.mul_comm]
    unfold pwU at h1
    rw [if_pos h0] at h1
    by_cases hodd : e % 2 = 1
    · rw [if_pos hodd] at h1
      have e3 : ((e % 2 : Nat) : Int) = 1 := by omega
      simp (maxSteps := 2000000) (disch := first | omega | assumption | (simp only [Wv.Bx, simprocAttr] <;> omega) | fail) only [Wv.B, simprocAttr, decide_eq_true e0, e1, decide_eq_true e3]
      refine call_TC (hT o a h3 h4) rfl (by simp only [Wv.BC]) (by simp only [Wv.BC]) ?_
      simp (maxSteps := 2000000) (disch := first | omega | assumption | (simp only [Wv.Bx, simprocAttr] <;> omega) | fail) only [Wv.B, simprocAttr]
      refine call_TC (hT a a h4 h4) rfl (by simp only [Wv.BC]) (by simp only [Wv.BC]) ?_
      simp (maxSteps := 2000000) (disch := first | omega | assumption | (simp only [Wv.Bx, simprocAttr] <;> omega) | fail) only [Wv.B, simprocAttr, e2]
      refine k_next (f, o * a % n, a * a % n, e / 2) ⟨h1, ⟨by simp only; omega, by simp only; omega⟩, m2, m1⟩ (by simp only; omega) rfl (by simp (maxSteps := 2000000) (disch := first | omega | assumption | (simp only [Wv.Bx, simprocAttr] <;> omega) | fail) only [Wv.B, simprocAttr])
    · rw [if_neg hodd] at h1
      have e3 : ¬ ((e % 2 : Nat) : Int) = 1 := by omega
      simp (maxSteps := 2000000) (disch := first | omega | assumption | (simp only [Wv.Bx, simprocAttr] <;> omega) | fail) only [Wv.B, simprocAttr, decide_eq_true e0, e1, decide_eq_false e3]
      refine call_TC (hT a a h4 h4) rfl (by simp only [Wv.BC]) (by simp only [Wv.BC]) ?_
      simp (maxSteps := 2000000) (disch := first | omega | assumption | (simp only [Wv.Bx, simprocAttr] <;> omega) | fail) only [Wv.B, simprocAttr, e2]
      refine k_next (f, o, a * a % n, e / 2) ⟨h1, ⟨by simp only; omega, by simp only; omega⟩, h3, m1⟩ (by simp only; omega) rfl (by simp (maxSteps := 2000000) (disch := first | omega | assumption | (simp only [Wv.Bx, simprocAttr] <;> omega) | fail) only [Wv.B, simprocAttr])
  · have e0 : ¬ (0 : Int) < e := by omega
    simp (maxSteps := 2000000) (disch := first | omega | assumption | (simp only [Wv.Bx, simprocAttr] <;> omega) | fail) only [Wv.B, simprocAttr, decide_eq_false e0]
    have : pwU n f o a e = o := by
      cases f with
      | zero => rfl
      | succ f => unfold pwU; rw [if_neg h0]
    rw [← h1, this]
/-- n - 1 = d 2^j, d odd. -/
def odU : Nat → Nat → Nat → Nat × Nat
  | 0, d, j => (d, j)
  | f + 1, d, j => if d % 2 = 0 then odU f (d / 2) (j + 1) else (d, j)
def stU (n : Nat) : Nat → Nat → Bool
  | 0, _ => false
  | j + 1, x => if x = n - 1 then true else stU n j (x * x % n)
def stB (a n : Nat) : Bool := if pwU n 64 1 (a % n) (odU 32 (n - 1) 0).1 = 1 then true else stU n (odU 32 (n - 1) 0).2 (pwU n 64 1 (a % n) (odU 32 (n - 1) 0).1)
set_option maxHeartbeats 400000 in
set_option maxRecDepth 100000 in
theorem rstrong_tc (a n : Nat) (ha : a < 4294967296) (hn : 2 < n) (hn' : n < 4294967296) : TC Tryz.prog 190 [u3 a, u3 n] (.v (.bool (stB a n))) := by
  obtain ⟨D, hD⟩ : ∃ P, odU 32 (n - 1) 0 = P := ⟨_, rfl⟩
  have hS : stB a n = if pwU n 64 1 (a % n) (odU 32 (n - 1) 0).1 = 1 then true else stU n (odU 32 (n - 1) 0).2 (pwU n 64 1 (a % n) (odU 32 (n - 1) 0).1) := rfl
  rw [hD] at hS
  generalize stB a n = B at hS ⊢
  have hT := fun a b ha hb => rtimes_tc a b n ha hb (by omega) hn'
  have hP := fun e he => rpower_tc (a % n) e n (Nat.lt_trans (Nat.mod_lt a (by omega)) hn') he (by omega) hn'
  have e0 : (a : Int).tmod (n : Int) = ((a % n : Nat) : Int) := rfl
  have e1 := Nat.mod_lt a (show n > 0 by omega)
  unfold u3 at *
  refine Wv.TC.by 37 [1, 5, 11, 0, 6, 22, 26, 32, 4] [] [.tmp 4] (by kernel_rfl) Tryz.func190 rfl rfl rfl (by kernel_rfl) (by kernel_rfl) (Nat.le_of_ble_eq_true rfl) rfl ?clo ?_
  case clo => simp only [Wv.BC]
  simp (maxSteps := 2000000) (disch := first | omega | assumption | (simp only [Wv.Bx, simprocAttr] <;> omega) | fail) only [Wv.B, simprocAttr]
  refine wfor (σ := Nat × Nat × Nat) (fun s => [(0, .v (.int .u32 a)), (1, .v (.int .u32 n)), (5, .v (.int .u32 s.2.1))]) (fun _ => [])
    (fun s => odU s.1 s.2.1 s.2.2 = D ∧ s.2.1 < 2 ^ s.1 ∧ (0 < s.2.1 ∧ s.2.1 < 4294967296) ∧ s.2.1 * 2 ^ s.2.2 = n - 1) (fun s => s.1) (32, n - 1, 0) ⟨hD, by show n - 1 < 2 ^ 32; omega, ⟨by show 0 < n - 1; omega, by show n - 1 < _; omega⟩, Nat.mul_one _⟩ (by simp (maxSteps := 2000000) (disch := first | omega | assumption | (simp only [Wv.Bx, simprocAttr] <;> omega) | fail) only [Wv.B, simprocAttr]) (by simp (maxSteps := 2000000) (disch := first | omega | assumption | (simp only [Wv.Bx, simprocAttr] <;> omega) | fail) only [Wv.B, simprocAttr, Int.natCast_sub, show ((n - 1 : Nat) : Int) = (n : Int) - 1 by omega]) ?_
  rintro ⟨f, d, j⟩ ⟨h1, h2, ⟨h3, h4⟩, h5⟩
  simp only at h1 h2 h3 h4 h5
  have d1 : (d : Int).tmod 2 = ((d % 2 : Nat) : Int) := rfl
  have d2 : (d : Int).tdiv 2 = ((d / 2 : Nat) : Int) := rfl
  by_cases h0 : d % 2 = 0
  · have e3 : ((d % 2 : Nat) : Int) = 0 := by omega
    obtain ⟨f, rfl⟩ : ∃ g, f = g + 1 := by
      cases f with
      | zero => exfalso; have : (2 : Nat) ^ 0 = 1 := rfl; omega
      | succ g => exact ⟨g, rfl⟩
    have hp : 2 ^ (f + 1) = 2 * 2 ^ f := by rw [Nat.pow_succ, Nat.mul_comm]
    have hp2 : d / 2 * 2 ^ (j + 1) = n - 1 := by rw [Nat.pow_succ, Nat.mul_comm (2 ^ j), ← Nat.mul_assoc, show d / 2 * 2 = d by omega, h5]
    unfold odU at h1
    rw [if_pos h0] at h1
    simp (maxSteps := 2000000) (disch := first | omega | assumption | (simp only [Wv.Bx, simprocAttr] <;> omega) | fail) only [Wv.B, simprocAttr, d1, decide_eq_true e3, d2]
    refine k_next (f, d / 2, j + 1) ⟨h1, by simp only; omega, ⟨by simp only; omega, by simp only; omega⟩, hp2⟩ (by simp only; omega) rfl (by simp (maxSteps := 2000000) (disch := first | omega | assumption | (simp only [Wv.Bx, simprocAttr] <;> omega) | fail) only [Wv.B, simprocAttr])
  · have e3 : ¬ ((d % 2 : Nat) : Int) = 0 := by omega
    have hq : odU f d j = (d, j) := by
      cases f with
      | zero => rfl
      | succ f => unfold odU; rw [if_neg h0]
    rw [hq] at h1
    subst h1
    simp only at hS
    simp (maxSteps := 2000000) (disch := first | omega | assumption | (simp only [Wv.Bx, simprocAttr] <;> omega) | fail) only [Wv.B, simprocAttr, d1, decide_eq_false e3, e0]
    refine call_TC (hP d (by omega)) rfl (by simp only [Wv.BC]) (by simp only [Wv.BC]) ?_
    have hx := pwU_lt (n := n) (by omega) hn' 64 1 (a % n) d (by omega)
    generalize pwU n 64 1 (a % n) d = x at *
    by_cases h7 : x = 1
    · have e4 : (x : Int) = 1 := by omega
      rw [if_pos h7] at hS
      simp (maxSteps := 2000000) (disch := first | omega | assumption | (simp only [Wv.Bx, simprocAttr] <;> omega) | fail) only [Wv.B, simprocAttr, decide_eq_true e4, hS]
    · have e4 : ¬ (x : Int) = 1 := by omega
      rw [if_neg h7] at hS
      simp (maxSteps := 2000000) (disch := first | omega | assumption | (simp only [Wv.Bx, simprocAttr] <;> omega) | fail) only [Wv.B, simprocAttr, decide_eq_false e4]
      refine wfor (σ := Nat × Nat × Nat) (fun s => [(1, .v (.int .u32 n)), (5, .v (.int .u32 s.2.1)), (6, .v (.int .u32 s.2.2))]) (fun _ => [])
        (fun s => stU n s.1 s.2.2 = B ∧ s.2.2 < 4294967296 ∧ 0 < s.2.1 ∧ s.2.1 * 2 ^ s.1 = n - 1) (fun s => s.1) (j, d, x) ⟨hS.symm, hx, h3, h5⟩ (by simp (maxSteps := 2000000) (disch := first | omega | assumption | (simp only [Wv.Bx, simprocAttr] <;> omega) | fail) only [Wv.B, simprocAttr]) (by simp (maxSteps := 2000000) (disch := first | omega | assumption | (simp only [Wv.Bx, simprocAttr] <;> omega) | fail) only [Wv.B, simprocAttr]) ?_
      rintro ⟨j, d, x⟩ ⟨g1, g2, g3, g4⟩
      simp only at g1 g2 g3 g4
      cases j with
      | zero =>
        have e5 : ¬ (d : Int) < (n : Int) - 1 := by have : d * 2 ^ 0 = d := Nat.mul_one d; omega
        have e6 : false = B := g1
        subst e6
        simp (maxSteps := 2000000) (disch := first | omega | assumption | (simp only [Wv.Bx, simprocAttr] <;> omega) | fail) only [Wv.B, simprocAttr, decide_eq_false e5]
      | succ j =>
        have hp : d * 2 ^ (j + 1) = d * 2 * 2 ^ j := by rw [Nat.pow_succ, Nat.mul_comm (2 ^ j), ← Nat.mul_assoc]
        have hp1 := Nat.mul_le_mul_left (d * 2) (Nat.one_le_two_pow (n := j))
        have e5 : (d : Int) < (n : Int) - 1 := by omega
        unfold stU at g1
        by_cases h8 : x = n - 1
        · have e6 : (x : Int) = (n : Int) - 1 := by omega
          rw [if_pos h8] at g1
          subst g1
          simp (maxSteps := 2000000) (disch := first | omega | assumption | (simp only [Wv.Bx, simprocAttr] <;> omega) | fail) only [Wv.B, simprocAttr, decide_eq_true e5, decide_eq_true e6]
        · have e6 : ¬ (x : Int) = (n : Int) - 1 := by omega
          rw [if_neg h8] at g1
          have e7 := Nat.mod_lt (x * x) (show n > 0 by omega)
          simp (maxSteps := 2000000) (disch := first | omega | assumption | (simp only [Wv.Bx, simprocAttr] <;> omega) | fail) only [Wv.B, simprocAttr, decide_eq_true e5, decide_eq_false e6]
          refine call_TC (hT x x g2 g2) rfl (by simp only [Wv.BC]) (by simp only [Wv.BC]) ?_
          simp (maxSteps := 2000000) (disch := first | omega | assumption | (simp only [Wv.Bx, simprocAttr] <;> omega) | fail) only [Wv.B, simprocAttr]
          refine k_next (j, d * 2, x * x % n) ⟨g1, by simp only; omega, by simp only; omega, by simp only; omega⟩ (by simp only; omega) rfl (by simp (maxSteps := 2000000) (disch := first | omega | assumption | (simp only [Wv.Bx, simprocAttr] <;> omega) | fail) only [Wv.B, simprocAttr, Int.natCast_mul])
/-- What Prime answers. -/
def prB (q : Nat) : Bool := if q = 2 ∨ q = 7 ∨ q = 61 then true else if 2 < q ∧ q % 2 = 1 ∧ 0 < q % 7 ∧ 0 < q % 61 then (if stB 2 q = true then (if stB 7 q = true then stB 61 q else false) else false) else false
set_option maxHeartbeats 400000 in
set_option maxRecDepth 100000 in
theorem rprime_tc (q : Nat) (hq : q < 4294967296) : TC Tryz.prog 118 [u3 q] (.v (.bool (prB q))) := by
  have hS := fun a ha h2 => rstrong_tc a q ha h2 hq
  have hB : prB q = if q = 2 ∨ q = 7 ∨ q = 61 then true else if 2 < q ∧ q % 2 = 1 ∧ 0 < q % 7 ∧ 0 < q % 61 then (if stB 2 q = true then (if stB 7 q = true then stB 61 q else false) else false) else false := rfl
  have a2 : (q : Int).tmod 2 = ((q % 2 : Nat) : Int) := rfl
  have a7 : (q : Int).tmod 7 = ((q % 7 : Nat) : Int) := rfl
  have a61 : (q : Int).tmod 61 = ((q % 61 : Nat) : Int) := rfl
  unfold u3 at *
  refine Wv.TC.by 42 [0, 12, 2] [] [.tmp 2] (by kernel_rfl) Tryz.func118 rfl rfl rfl (by kernel_rfl) (by kernel_rfl) (Nat.le_of_ble_eq_true rfl) rfl ?clo ?_
  case clo => simp only [Wv.BC]
  by_cases c1 : q = 2
  · rw [if_pos (.inl c1)] at hB
    simp (maxSteps := 2000000) (disch := first | omega | assumption | (simp only [Wv.Bx, simprocAttr] <;> omega) | fail) only [Wv.B, simprocAttr, decide_eq_true (show (q : Int) = 2 by omega), hB]
  have d1 : ¬ (q : Int) = 2 := by omega
  by_cases c2 : q = 7
  · rw [if_pos (.inr (.inl c2))] at hB
    simp (maxSteps := 2000000) (disch := first | omega | assumption | (simp only [Wv.Bx, simprocAttr] <;> omega) | fail) only [Wv.B, simprocAttr, decide_eq_false d1, decide_eq_true (show (q : Int) = 7 by omega), hB]
  have d2 : ¬ (q : Int) = 7 := by omega
  by_cases c3 : q = 61
  · rw [if_pos (.inr (.inr c3))] at hB
    simp (maxSteps := 2000000) (disch := first | omega | assumption | (simp only [Wv.Bx, simprocAttr] <;> omega) | fail) only [Wv.B, simprocAttr, decide_eq_false d1, decide_eq_false d2, decide_eq_true (show (q : Int) = 61 by omega), hB]
  have d3 : ¬ (q : Int) = 61 := by omega
  rw [if_neg (fun h => h.elim c1 fun h => h.elim c2 c3)] at hB
  by_cases c4 : 2 < q
  rotate_left
  · rw [if_neg (fun h => c4 h.1)] at hB
    simp (maxSteps := 2000000) (disch := first | omega | assumption | (simp only [Wv.Bx, simprocAttr] <;> omega) | fail) only [Wv.B, simprocAttr, decide_eq_false d1, decide_eq_false d2, decide_eq_false d3, decide_eq_false (show ¬ (q : Int) > 2 by omega), hB]
  by_cases c5 : q % 2 = 1
  rotate_left
  · rw [if_neg (fun h => c5 h.2.1)] at hB
    simp (maxSteps := 2000000) (disch := first | omega | assumption | (simp only [Wv.Bx, simprocAttr] <;> omega) | fail) only [Wv.B, simprocAttr, decide_eq_false d1, decide_eq_false d2, decide_eq_false d3, decide_eq_true (show (q : Int) > 2 by omega), a2, decide_eq_false (show ¬ ((q % 2 : Nat) : Int) = 1 by omega), hB]
  by_cases c6 : 0 < q % 7
  rotate_left
  · rw [if_neg (fun h => c6 h.2.2.1)] at hB
    simp (maxSteps := 2000000) (disch := first | omega | assumption | (simp only [Wv.Bx, simprocAttr] <;> omega) | fail) only [Wv.B, simprocAttr, decide_eq_false d1, decide_eq_false d2, decide_eq_false d3, decide_eq_true (show (q : Int) > 2 by omega), a2, decide_eq_true (show ((q % 2 : Nat) : Int) = 1 by omega), a7, decide_eq_false (show ¬ ((q % 7 : Nat) : Int) > 0 by omega), hB]
  by_cases c7 : 0 < q % 61
  rotate_left
  · rw [if_neg (fun h => c7 h.2.2.2)] at hB
    simp (maxSteps := 2000000) (disch := first | omega | assumption | (simp only [Wv.Bx, simprocAttr] <;> omega) | fail) only [Wv.B, simprocAttr, decide_eq_false d1, decide_eq_false d2, decide_eq_false d3, decide_eq_true (show (q : Int) > 2 by omega), a2, decide_eq_true (show ((q % 2 : Nat) : Int) = 1 by omega), a7, decide_eq_true (show ((q % 7 : Nat) : Int) > 0 by omega), a61, decide_eq_false (show ¬ ((q % 61 : Nat) : Int) > 0 by omega), hB]
  rw [if_pos ⟨c4, c5, c6, c7⟩] at hB
  have T2 := hS 2 (by omega) c4
  have T7 := hS 7 (by omega) c4
  have T61 := hS 61 (by omega) c4
  generalize stB 2 q = b2 at *
  generalize stB 7 q = b7 at *
  generalize stB 61 q = b61 at *
  simp (maxSteps := 2000000) (disch := first | omega | assumption | (simp only [Wv.Bx, simprocAttr] <;> omega) | fail) only [Wv.B, simprocAttr, decide_eq_false d1, decide_eq_false d2, decide_eq_false d3, decide_eq_true (show (q : Int) > 2 by omega), a2, decide_eq_true (show ((q % 2 : Nat) : Int) = 1 by omega), a7, decide_eq_true (show ((q % 7 : Nat) : Int) > 0 by omega), a61, decide_eq_true (show ((q % 61 : Nat) : Int) > 0 by omega)]
  refine call_TC T2 rfl (by simp only [Wv.BC]) (by simp only [Wv.BC]) ?_
  cases b2 with
  | false =>
    rw [if_neg (by simp)] at hB
    simp (maxSteps := 2000000) (disch := first | omega | assumption | (simp only [Wv.Bx, simprocAttr] <;> omega) | fail) only [Wv.B, simprocAttr, hB]
  | true =>
    rw [if_pos rfl] at hB
    simp (maxSteps := 2000000) (disch := first | omega | assumption | (simp only [Wv.Bx, simprocAttr] <;> omega) | fail) only [Wv.B, simprocAttr]
    refine call_TC T7 rfl (by simp only [Wv.BC]) (by simp only [Wv.BC]) ?_
    cases b7 with
    | false =>
      rw [if_neg (by simp)] at hB
      simp (maxSteps := 2000000) (disch := first | omega | assumption | (simp only [Wv.Bx, simprocAttr] <;> omega) | fail) only [Wv.B, simprocAttr, hB]
    | true =>
      rw [if_pos rfl] at hB
      simp (maxSteps := 2000000) (disch := first | omega | assumption | (simp only [Wv.Bx, simprocAttr] <;> omega) | fail) only [Wv.B, simprocAttr]
      refine call_TC T61 rfl (by simp only [Wv.BC]) (by simp only [Wv.BC]) ?_
      simp (maxSteps := 2000000) (disch := first | omega | assumption | (simp only [Wv.Bx, simprocAttr] <;> omega) | fail) only [Wv.B, simprocAttr, hB]
def dimB (n : Int) : Bool := decide (n = 4) || (decide (n = 8) || (decide (n = 16) || decide (n = 32)))
set_option maxHeartbeats 400000 in
set_option maxRecDepth 100000 in
theorem rdim12_tc (n : Int) : TC Tryz.prog 73 [.v (.int .i64 n)] (.v (.bool (dimB n))) := by
  unfold dimB
  refine Wv.TC.by 17 [0, 2] [] [.tmp 2] (by kernel_rfl) Tryz.func73 rfl rfl rfl (by kernel_rfl) (by kernel_rfl) (Nat.le_of_ble_eq_true rfl) rfl ?clo ?_
  case clo => simp only [Wv.BC]
  cases h1 : decide (n = 4) <;> cases h2 : decide (n = 8) <;> cases h3 : decide (n = 16) <;> simp (maxSteps := 2000000) (disch := first | omega | assumption | (simp only [Wv.Bx, simprocAttr] <;> omega) | fail) only [Wv.B, simprocAttr, h1, h2, h3, Bool.false_or, Bool.true_or]
set_option maxHeartbeats 400000 in
set_option maxRecDepth 100000 in
theorem rdim3_tc (n : Int) : TC Tryz.prog 119 [.v (.int .i64 n)] (.v (.bool (dimB n))) := by
  unfold dimB
  refine Wv.TC.by 17 [0, 2] [] [.tmp 2] (by kernel_rfl) Tryz.func119 rfl rfl rfl (by kernel_rfl) (by kernel_rfl) (Nat.le_of_ble_eq_true rfl) rfl ?clo ?_
  case clo => simp only [Wv.BC]
  cases h1 : decide (n = 4) <;> cases h2 : decide (n = 8) <;> cases h3 : decide (n = 16) <;> simp (maxSteps := 2000000) (disch := first | omega | assumption | (simp only [Wv.Bx, simprocAttr] <;> omega) | fail) only [Wv.B, simprocAttr, h1, h2, h3, Bool.false_or, Bool.true_or]
end Go.Proofs.YtljfgdlgmdcmfaaGreat
