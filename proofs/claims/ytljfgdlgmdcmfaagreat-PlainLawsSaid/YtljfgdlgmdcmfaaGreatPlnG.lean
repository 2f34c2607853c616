/- Plain values: the reference's Default, one prime, one level. -/
import Derived.Test.YtljfgdlgmdcmfaaGreatPlnF
namespace Go.Proofs.YtljfgdlgmdcmfaaGreat
open Go.RowKit Wv
set_option linter.unusedVariables false
set_option linter.unusedSimpArgs false

def plB (N p : Nat) : Nat := if p < 3 then 0 else if 65536 ≤ p then 0 else if prB p = true then (if p % (2 * N) = 1 then p else 0) else 0
theorem plB_le (N p : Nat) : plB N p ≤ 65535 := by
  unfold plB
  split
  · omega
  · split
    · omega
    · split
      · split <;> omega
      · omega
set_option maxHeartbeats 400000 in
set_option maxRecDepth 100000 in
theorem rplain_tc (N p : Nat) (hN : 4 ≤ N) (hN2 : N ≤ 32) (hp : p < 4294967296) : TC Tryz.prog 74 [.v (.int .i64 N), u3 p, .v (.int .i64 1)] (.v (.int .i64 (plB N p : Nat))) := by
  have hT := rprime_tc p hp
  have hB : plB N p = if p < 3 then 0 else if 65536 ≤ p then 0 else if prB p = true then (if p % (2 * N) = 1 then p else 0) else 0 := rfl
  have e1 : (p : Int).tmod (2 * (N : Int)) = ((p % (2 * N) : Nat) : Int) := by rw [show 2 * (N : Int) = ((2 * N : Nat) : Int) by omega]; rfl
  generalize prB p = b at *
  generalize plB N p = B at *
  unfold u3 at *
  refine Wv.TC.by 44 [1, 0, 2, 31, 8, 34, 7, 42, 6] [] [.tmp 6] (by kernel_rfl) Tryz.func74 rfl rfl rfl (by kernel_rfl) (by kernel_rfl) (Nat.le_of_ble_eq_true rfl) rfl ?clo ?_
  case clo => simp only [Wv.BC]
  by_cases c1 : p < 3
  · rw [if_pos c1] at hB
    subst hB
    simp (maxSteps := 2000000) (disch := first | omega | assumption | (simp only [Wv.Bx, simprocAttr] <;> omega) | fail) only [Wv.B, simprocAttr, decide_eq_true (show (p : Int) < 3 by omega)]
  rw [if_neg c1] at hB
  by_cases c2 : 65536 ≤ p
  · rw [if_pos c2] at hB
    subst hB
    simp (maxSteps := 2000000) (disch := first | omega | assumption | (simp only [Wv.Bx, simprocAttr] <;> omega) | fail) only [Wv.B, simprocAttr, decide_eq_false (show ¬ (p : Int) < 3 by omega), decide_eq_true (show (p : Int) ≥ 65536 by omega), decide_eq_false (show ¬ (p : Int) < 65536 by omega)]
  rw [if_neg c2] at hB
  simp (maxSteps := 2000000) (disch := first | omega | assumption | (simp only [Wv.Bx, simprocAttr] <;> omega) | fail) only [Wv.B, simprocAttr, decide_eq_false (show ¬ (p : Int) < 3 by omega), decide_eq_false (show ¬ (p : Int) ≥ 65536 by omega)]
  refine call_TC hT rfl (by simp only [Wv.BC]) (by simp only [Wv.BC]) ?_
  cases b with
  | false =>
    rw [if_neg (by simp)] at hB
    subst hB
    simp (maxSteps := 2000000) (disch := first | omega | assumption | (simp only [Wv.Bx, simprocAttr] <;> omega) | fail) only [Wv.B, simprocAttr]
  | true =>
    rw [if_pos rfl] at hB
    by_cases c3 : p % (2 * N) = 1
    · rw [if_pos c3] at hB
      subst hB
      simp (maxSteps := 2000000) (disch := first | omega | assumption | (simp only [Wv.Bx, simprocAttr] <;> omega) | fail) only [Wv.B, simprocAttr, e1, decide_eq_true (show ((B % (2 * N) : Nat) : Int) = 1 by omega)]
      refine wfor (σ := Nat) (fun i => [(1, .v (.int .u32 B)), (2, .v (.int .i64 1)), (7, .v (.int .i64 (if i = 0 then 1 else (B : Int)))), (8, .v (.int .i64 i))]) (fun _ => []) (fun i => i ≤ 1) (fun i => 1 - i) 0 (by omega) (by simp (maxSteps := 2000000) (disch := first | omega | assumption | (simp only [Wv.Bx, simprocAttr] <;> omega) | fail) only [Wv.B, simprocAttr]) (by simp (maxSteps := 2000000) (disch := first | omega | assumption | (simp only [Wv.Bx, simprocAttr] <;> omega) | fail) only [Wv.B, simprocAttr, if_true]) ?_
      intro i hi
      have : i = 0 ∨ i = 1 := by omega
      rcases this with rfl | rfl
      · have e2 : ¬ (B : Int) > 2147483647 := by omega
        simp (maxSteps := 2000000) (disch := first | omega | assumption | (simp only [Wv.Bx, simprocAttr] <;> omega) | fail) only [Wv.B, simprocAttr, if_true, Int.one_mul, decide_eq_false e2]
        refine k_next 1 (by omega) (by omega) rfl (by simp (maxSteps := 2000000) (disch := first | omega | assumption | (simp only [Wv.Bx, simprocAttr] <;> omega) | fail) only [Wv.B, simprocAttr, Nat.one_ne_zero, if_false])
      · simp (maxSteps := 2000000) (disch := first | omega | assumption | (simp only [Wv.Bx, simprocAttr] <;> omega) | fail) only [Wv.B, simprocAttr, Nat.one_ne_zero, if_false, Int.lt_irrefl, decide_false]
    · rw [if_neg c3] at hB
      subst hB
      simp (maxSteps := 2000000) (disch := first | omega | assumption | (simp only [Wv.Bx, simprocAttr] <;> omega) | fail) only [Wv.B, simprocAttr, e1, decide_eq_false (show ¬ ((p % (2 * N) : Nat) : Int) = 1 by omega)]
def u3s (l : List Nat) : List AV := l.map u3
/-- The greatest primes k s + 1, at most two. -/
def chU (s : Nat) : Nat → List Nat → List Nat
  | 0, l => l
  | k + 1, l => if 1073741824 < (k + 1) * s + 1 ∧ l.length < 2 then chU s k (if prB ((k + 1) * s + 1) = true then l ++ [(k + 1) * s + 1] else l) else l
theorem chU_len (s : Nat) : ∀ (k : Nat) (l : List Nat), l.length ≤ 2 → (chU s k l).length ≤ 2
  | 0, l, h => h
  | k + 1, l, h => by
    unfold chU
    split
    · next q =>
      refine chU_len s k _ ?_
      split
      · rw [List.length_append]; show _ + 1 ≤ 2; omega
      · exact h
    · exact h
theorem chU_lt {s : Nat} : ∀ (k : Nat) (l : List Nat), k * s ≤ 2147483646 → (∀ q, q ∈ l → q < 4294967296) → ∀ q, q ∈ chU s k l → q < 4294967296
  | 0, l, _, h => h
  | k + 1, l, hk, h => by
    unfold chU
    have hk' : k * s ≤ 2147483646 := by rw [Nat.add_mul] at hk; omega
    split
    · refine chU_lt k _ hk' ?_
      split
      · intro q hq
        rcases List.mem_append.1 hq with r | r
        · exact h q r
        · rw [List.mem_singleton] at r; omega
      · exact h
    · exact h
def chL (s : Nat) : List Nat := chU s (2147483646 / s) []
theorem u3s_clo (l : List Nat) : ∀ a, a ∈ u3s l → Clo a := by
  intro a ha
  obtain ⟨c, _, rfl⟩ := List.mem_map.1 ha
  exact .v _
def chA (l : List Nat) : AV := if l.length = 2 then .tup [.t l.length 1 (u3s l), .v (.int .i64 0)] else .tup [.v (.slice none 0 0), .v (.int .i64 4)]
theorem chA_clo (l : List Nat) : Clo (chA l) := by
  have := u3s_clo l
  unfold chA
  split
  · simp only [Wv.BC]; exact this
  · simp only [Wv.BC]
set_option maxHeartbeats 400000 in
set_option maxRecDepth 100000 in
theorem rchain_tc (N t : Nat) (hN : 4 ≤ N) (hN2 : N ≤ 32) (hd : dimB N = true) (ht : 3 ≤ t) (ht2 : t ≤ 65535) (ho : t % 2 = 1) : TC Tryz.prog 75 [.v (.int .i64 N), u3 t, .v (.int .i64 2)] (chA (chL (2 * N * t))) := by
  have T3 := rdim3_tc (N : Int)
  rw [hd] at T3
  have hcl := chA_clo (chL (2 * N * t))
  have hNt : N * t ≤ 32 * 65535 := Nat.mul_le_mul hN2 ht2
  have hNt2 : 4 * 3 ≤ N * t := Nat.mul_le_mul hN ht
  have e0 : 2 * (N : Int) * (t : Int) = ((2 * N * t : Nat) : Int) := by rw [Int.natCast_mul, Int.natCast_mul]; rfl
  have hs1 : 2 * N * t = 2 * (N * t) := Nat.mul_assoc 2 N t
  obtain ⟨s, hs⟩ : ∃ s, 2 * N * t = s := ⟨_, rfl⟩
  rw [hs] at e0 hs1 hcl ⊢
  have hP := fun q hq => rprime_tc q hq
  have hdiv : (2147483646 : Int).tdiv (s : Int) = ((2147483646 / s : Nat) : Int) := rfl
  obtain ⟨L, hL⟩ : ∃ L, chL s = L := ⟨_, rfl⟩
  rw [hL] at hcl ⊢
  unfold chL at hL
  have hk0 : 2147483646 / s * s ≤ 2147483646 := Nat.div_mul_le_self _ _
  have hk1 : 2147483646 / s ≤ 2147483646 := Nat.div_le_self _ _
  generalize 2147483646 / s = k0 at *
  have e2 : (t : Int).tmod 2 = ((t % 2 : Nat) : Int) := rfl
  unfold u3 at *
  refine Wv.TC.by 75 [0, 1, 2, 34, 8, 10, 9, 53, 61, 73, 6, 7] [] [.tmp 6, .tmp 7] (by kernel_rfl) Tryz.func75 rfl rfl rfl (by kernel_rfl) (by kernel_rfl) (Nat.le_of_ble_eq_true rfl) rfl ?clo ?_
  case clo => exact hcl
  simp (maxSteps := 2000000) (disch := first | omega | assumption | (simp only [Wv.Bx, simprocAttr] <;> omega) | fail) only [Wv.B, simprocAttr]
  refine call_TC T3 rfl (by simp only [Wv.BC]) (by simp only [Wv.BC]) ?_
  simp (maxSteps := 2000000) (disch := first | omega | assumption | (simp only [Wv.Bx, simprocAttr] <;> omega) | fail) only [Wv.B, simprocAttr, decide_eq_false (show ¬ (t : Int) < 3 by omega), e2, decide_eq_false (show ¬ ((t % 2 : Nat) : Int) = 0 by omega), decide_eq_false (show ¬ (t : Int) > 2147483647 by omega), e0, hdiv]
  refine wforE (σ := Nat × List Nat) (fun q => [(2, .v (.int .i64 2)), (8, .v (.int .u64 s)), (9, .own 0 q.2.length), (10, .v (.int .u64 q.1))]) (fun q => [some (.arr 22 1 (u3s q.2) 0)]) (fun q => chU s q.1 q.2 = L ∧ q.2.length ≤ 2 ∧ q.1 * s ≤ 2147483646 ∧ q.1 ≤ 2147483646) (fun q => q.1) (k0, []) ⟨hL, by show 0 ≤ 2; omega, hk0, hk1⟩ ?_ ?_
  · refine Ent.trans (Ent.nil 9 22 1 (by omega) rfl) (Ent.fit ?_)
    simp (maxSteps := 2000000) (disch := first | omega | assumption | (simp only [Wv.Bx, simprocAttr] <;> omega) | fail) only [Wv.B, simprocAttr, List.length_nil]
  rintro ⟨k, l⟩ ⟨h1, h2, h3, h4⟩
  simp only at h1 h2 h3 h4
  have hlen : (u3s l).length = l.length := List.length_map ..
  have hend : chU s k l = l → l = L := fun h => h.symm.trans h1
  have hfin : l = L → (if l.length = 2 then AV.tup [.t l.length 1 (u3s l), .v (.int .i64 0)] else .tup [.v (.slice none 0 0), .v (.int .i64 4)]) = chA L := fun h => by subst h; rfl
  cases k with
  | zero =>
    have hl := hend rfl
    have hf := hfin hl
    by_cases q2 : l.length = 2
    · rw [if_pos q2] at hf
      simp (maxSteps := 2000000) (disch := first | omega | assumption | (simp only [Wv.Bx, simprocAttr] <;> omega) | fail) only [Wv.B, simprocAttr, Int.natCast_zero, Int.zero_mul, hlen, decide_eq_false (show ¬ (l.length : Int) < 2 by omega), hf]
    · rw [if_neg q2] at hf
      simp (maxSteps := 2000000) (disch := first | omega | assumption | (simp only [Wv.Bx, simprocAttr] <;> omega) | fail) only [Wv.B, simprocAttr, Int.natCast_zero, Int.zero_mul, hlen, decide_eq_true (show (l.length : Int) < 2 by omega)]
      exact hf
  | succ k =>
    have e3 : ((k + 1 : Nat) : Int) * (s : Int) = (((k + 1) * s : Nat) : Int) := (Int.natCast_mul _ _).symm
    have hk' : k * s ≤ 2147483646 := by rw [Nat.add_mul] at h3; omega
    unfold chU at h1 hend
    generalize (k + 1) * s = q at *
    by_cases c1 : 1073741824 < q + 1
    · have c1' : (q : Int) + 1 > 1073741824 := by omega
      by_cases c2 : l.length < 2
      · rw [if_pos ⟨c1, c2⟩] at h1
        have T := hP (q + 1) (by omega)
        rw [Int.natCast_add, Int.natCast_one] at T
        generalize prB (q + 1) = b at *
        simp (maxSteps := 2000000) (disch := first | omega | assumption | (simp only [Wv.Bx, simprocAttr] <;> omega) | fail) only [Wv.B, simprocAttr, e3, decide_eq_true c1', hlen, decide_eq_true (show (l.length : Int) < 2 by omega)]
        refine call_TC T rfl (by simp only [Wv.BC]) (by simp only [Wv.BC]) ?_
        cases b with
        | true =>
          rw [if_pos rfl] at h1
          have e5 : u3s l ++ [AV.v (.int .u32 ((q : Int) + 1))] = u3s (l ++ [q + 1]) := by
            unfold u3s u3
            rw [List.map_append, List.map_cons, List.map_nil, Int.natCast_add, Int.natCast_one]
          have e6 : (l ++ [q + 1]).length = l.length + 1 := by rw [List.length_append]; rfl
          simp (maxSteps := 2000000) (disch := first | omega | assumption | (simp only [Wv.Bx, simprocAttr] <;> omega) | fail) only [Wv.B, simprocAttr, e3, hlen]
          have hcl2 : loL 1 (u3s (l ++ [q + 1])) := fun a ha => .clo (u3s_clo _ a ha)
          have e7 : (k : Int) + 1 - 1 = k := Int.add_sub_cancel ..
          refine Wv.k_cut ((k, l ++ [q + 1])) 1 (by first | decide | exact Nat.le_of_ble_eq_true rfl) (⟨h1, by simp only [e6]; omega, hk', by simp only; omega⟩) (by simp only; omega) (by simp (maxSteps := 2000000) (disch := first | omega | assumption | (simp only [Wv.Bx, simprocAttr] <;> omega) | fail) only [Wv.B, simprocAttr, tab_snoc, e5, e6, e7]) (by simp (maxSteps := 2000000) (disch := first | omega | assumption | (simp only [Wv.Bx, simprocAttr] <;> omega) | fail) only [Wv.B, simprocAttr, Int.natCast_add, Int.natCast_one, e5, e6, e7]) (by simp only [↓reduceIte, List.take_zero, List.take_succ_cons, List.take_nil, Wv.BK, Nat.zero_lt_succ, Nat.lt_add_one, Nat.reduceLeDiff, Nat.lt_one_iff, Nat.one_lt_two, eq_true hcl2] <;> omega) (by simp only [↓reduceIte, List.take_zero, List.take_succ_cons, List.take_nil, Wv.BK, Nat.zero_lt_succ, Nat.lt_add_one, Nat.reduceLeDiff, Nat.lt_one_iff, Nat.one_lt_two, eq_true hcl2] <;> omega)
        | false =>
          rw [if_neg (by simp)] at h1
          simp (maxSteps := 2000000) (disch := first | omega | assumption | (simp only [Wv.Bx, simprocAttr] <;> omega) | fail) only [Wv.B, simprocAttr]
          refine k_next (k, l) ⟨h1, h2, hk', by simp only; omega⟩ (by simp only; omega) rfl (by simp (maxSteps := 2000000) (disch := first | omega | assumption | (simp only [Wv.Bx, simprocAttr] <;> omega) | fail) only [Wv.B, simprocAttr, Int.natCast_add, Int.natCast_one, Int.add_sub_cancel])
      · have hl := hend (if_neg fun h => c2 h.2)
        have hf := hfin hl
        rw [if_pos (by omega)] at hf
        simp (maxSteps := 2000000) (disch := first | omega | assumption | (simp only [Wv.Bx, simprocAttr] <;> omega) | fail) only [Wv.B, simprocAttr, e3, decide_eq_true c1', hlen, decide_eq_false (show ¬ (l.length : Int) < 2 by omega), hf]
    · have c1' : ¬ (q : Int) + 1 > 1073741824 := by omega
      have hl := hend (if_neg fun h => c1 h.1)
      have hf := hfin hl
      by_cases q2 : l.length = 2
      · rw [if_pos q2] at hf
        simp (maxSteps := 2000000) (disch := first | omega | assumption | (simp only [Wv.Bx, simprocAttr] <;> omega) | fail) only [Wv.B, simprocAttr, e3, decide_eq_false c1', hlen, decide_eq_false (show ¬ (l.length : Int) < 2 by omega), hf]
      · rw [if_neg q2] at hf
        simp (maxSteps := 2000000) (disch := first | omega | assumption | (simp only [Wv.Bx, simprocAttr] <;> omega) | fail) only [Wv.B, simprocAttr, e3, decide_eq_false c1', hlen, decide_eq_true (show (l.length : Int) < 2 by omega)]
        exact hf
def zrP : AV := .g [.v (.int .i64 0), .v (.int .u32 0), .v (.int .i64 0), .v (.slice none 0 0), .v (.int .u32 0), .v (.int .i64 0), .v (.int .u32 0)]
def dfC (N p : Nat) : List Nat → AV
  | [a, b] => .tup [.g [.v (.int .i64 N), u3 p, .v (.int .i64 1), .t 1 1 [u3 b], u3 a, .v (.int .i64 4), u3 2], .v (.int .i64 0)]
  | _ => .tup [zrP, .v (.int .i64 4)]
/-- What Default answers for one prime and one level. -/
def dfA (n : Int) (p : Nat) : AV := if dimB n = true then (if plB n.toNat p = 0 then .tup [zrP, .v (.int .i64 2)] else dfC n.toNat p (chL (2 * n.toNat * plB n.toNat p))) else .tup [zrP, .v (.int .i64 2)]
theorem dfA_clo (n : Int) (p : Nat) : Clo (dfA n p) := by
  unfold dfA
  split
  · split
    · unfold zrP; simp only [Wv.BC]
    · unfold dfC
      split
      · unfold u3; simp only [Wv.BC]
      · unfold zrP; simp only [Wv.BC]
  · unfold zrP; simp only [Wv.BC]
theorem plB_ok {N p : Nat} (h : plB N p ≠ 0) : plB N p = p ∧ 3 ≤ p ∧ p ≤ 65535 ∧ p % (2 * N) = 1 := by
  unfold plB at h ⊢
  by_cases c1 : p < 3
  · rw [if_pos c1] at h; exact absurd rfl h
  rw [if_neg c1] at h ⊢
  by_cases c2 : 65536 ≤ p
  · rw [if_pos c2] at h; exact absurd rfl h
  rw [if_neg c2] at h ⊢
  by_cases c3 : prB p = true
  · rw [if_pos c3] at h ⊢
    by_cases c4 : p % (2 * N) = 1
    · rw [if_pos c4]; exact ⟨rfl, by omega, by omega, c4⟩
    · rw [if_neg c4] at h; exact absurd rfl h
  · rw [if_neg c3] at h; exact absurd rfl h
set_option maxHeartbeats 400000 in
set_option maxRecDepth 100000 in
theorem rdef_tc (n : Int) (p : Nat) (hn : -9223372036854775808 ≤ n ∧ n ≤ 9223372036854775807) (hp : p < 4294967296) : TC Tryz.prog 28 [.v (.int .i64 n), u3 p, .v (.int .i64 1), .v (.int .i64 1)] (dfA n p) := by
  have T1 := rdim12_tc n
  have hcl := dfA_clo n p
  obtain ⟨D, hD⟩ : ∃ D, dfA n p = D := ⟨_, rfl⟩
  rw [hD] at hcl ⊢
  unfold dfA at hD
  refine Wv.TC.by 61 [0, 3, 24, 8, 1, 2, 10, 31, 11, 38, 13, 50, 12, 9] [(12, 8)] [.cell 8 25, .tmp 9] (by kernel_rfl) Tryz.func28 rfl rfl rfl (by kernel_rfl) (by kernel_rfl) (Nat.le_of_ble_eq_true rfl) rfl ?clo ?_
  case clo => exact hcl
  unfold u3
  simp (maxSteps := 2000000) (disch := first | omega | assumption | (simp only [Wv.Bx, simprocAttr] <;> omega) | fail) only [Wv.B, simprocAttr]
  refine call_TC T1 rfl (by simp only [Wv.BC]) (by simp only [Wv.BC]) ?_
  cases hd : dimB n with
  | false =>
    rw [if_neg (by simp [hd])] at hD
    unfold zrP at hD
    simp (maxSteps := 2000000) (disch := first | omega | assumption | (simp only [Wv.Bx, simprocAttr] <;> omega) | fail) only [Wv.B, simprocAttr]
    rw [← hD]
  | true =>
    rw [if_pos hd] at hD
    have hnn : 4 ≤ n ∧ n ≤ 32 := by
      unfold dimB at hd
      simp only [Bool.or_eq_true, decide_eq_true_eq] at hd
      omega
    obtain ⟨N, rfl⟩ := Int.eq_ofNat_of_zero_le (show 0 ≤ n by omega)
    have e0 : ((N : Int)).toNat = N := rfl
    rw [e0] at hD
    have T2 := rplain_tc N p (by omega) (by omega) hp
    unfold u3 at T2
    simp (maxSteps := 2000000) (disch := first | omega | assumption | (simp only [Wv.Bx, simprocAttr] <;> omega) | fail) only [Wv.B, simprocAttr]
    refine call_TC T2 rfl (by simp only [Wv.BC]) (by simp only [Wv.BC]) ?_
    by_cases hB : plB N p = 0
    · rw [if_pos hB] at hD
      unfold zrP at hD
      simp (maxSteps := 2000000) (disch := first | omega | assumption | (simp only [Wv.Bx, simprocAttr] <;> omega) | fail) only [Wv.B, simprocAttr, hB, decide_eq_true (show ((0 : Nat) : Int) = 0 by omega)]
      rw [← hD]
    · rw [if_neg hB] at hD
      obtain ⟨h1, h2, h3, h4⟩ := plB_ok hB
      rw [h1] at hD hB
      have hodd : p % 2 = 1 := by
        have : p % (2 * N) % 2 = p % 2 := Nat.mod_mul_right_mod p 2 N
        omega
      have T3 := rchain_tc N p (by omega) (by omega) hd h2 h3 hodd
      have hNt : N * p ≤ 32 * 65535 := Nat.mul_le_mul (by omega) h3
      have e1 : 2 * (N : Int) * (p : Int) = ((2 * (N * p) : Nat) : Int) := by rw [Int.natCast_mul, Int.natCast_mul, Int.mul_assoc]; rfl
      have hcA := chA_clo (chL (2 * N * p))
      have hlen := chU_len (2 * N * p) (2147483646 / (2 * N * p)) [] (by show 0 ≤ 2; omega)
      have hlt : ∀ q, q ∈ chL (2 * N * p) → q < 4294967296 := chU_lt _ _ (Nat.div_mul_le_self _ _) (fun q h => by cases h)
      have hlen' : (chL (2 * N * p)).length ≤ 2 := hlen
      generalize chL (2 * N * p) = l at *
      clear hlen
      unfold u3 at T3
      simp (maxSteps := 2000000) (disch := first | omega | assumption | (simp only [Wv.Bx, simprocAttr] <;> omega) | fail) only [Wv.B, simprocAttr, h1, decide_eq_false (show ¬ (p : Int) = 0 by omega), e1, decide_eq_false (show ¬ ((2 * (N * p) : Nat) : Int) > 2147483647 by omega)]
      by_cases c2 : l.length = 2
      · match l, c2 with
        | [a, b], _ =>
        have hA : chA [a, b] = .tup [.t 2 1 [u3 a, u3 b], .v (.int .i64 0)] := rfl
        unfold u3 at hA
        rw [hA] at T3 hcA
        unfold dfC u3 at hD
        refine call_TC T3 rfl (by simp only [Wv.BC]) hcA ?_
        simp (maxSteps := 2000000) (disch := first | omega | assumption | (simp only [Wv.Bx, simprocAttr] <;> omega) | fail) only [Wv.B, simprocAttr]
        exact hD
      · have hA : chA l = .tup [.v (.slice none 0 0), .v (.int .i64 4)] := if_neg c2
        rw [hA] at T3 hcA
        refine call_TC T3 rfl (by simp only [Wv.BC]) hcA ?_
        have hC : dfC N p l = .tup [zrP, .v (.int .i64 4)] := by
          unfold dfC
          match l, c2 with
          | [], _ => rfl
          | [_], _ => rfl
          | [_, _], h => exact absurd rfl h
          | _ :: _ :: _ :: _, _ => rfl
        rw [hC] at hD
        unfold zrP at hD
        simp (maxSteps := 2000000) (disch := first | omega | assumption | (simp only [Wv.Bx, simprocAttr] <;> omega) | fail) only [Wv.B, simprocAttr]
        rw [← hD]
end Go.Proofs.YtljfgdlgmdcmfaaGreat
