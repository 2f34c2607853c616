/- Plain values: the laws of a ring (plain numbers). -/
import Derived.Test.YtljfgdlgmdcmfaaGreatPlnI
namespace Go.Proofs.YtljfgdlgmdcmfaaGreat
open Go.RowKit Wv
set_option linter.unusedVariables false
set_option linter.unusedSimpArgs false

theorem balN_mod {t n : Int} (ht : 3 ≤ t) : ∃ q, balN t n = n + t * q := by
  have h := Int.mul_tdiv_add_tmod n t
  unfold balN
  split
  · exact ⟨-(n.tdiv t) - 1, by rw [Int.mul_sub, Int.mul_neg, Int.mul_one]; omega⟩
  · split
    · exact ⟨-(n.tdiv t) + 1, by rw [Int.mul_add, Int.mul_neg, Int.mul_one]; omega⟩
    · exact ⟨-(n.tdiv t), by rw [Int.mul_neg]; omega⟩
theorem bal_uniq {t a b q : Int} (ht : 3 ≤ t) (ho : t % 2 = 1) (ha : -((t - 1) / 2) ≤ a ∧ a ≤ (t - 1) / 2) (hb : -((t - 1) / 2) ≤ b ∧ b ≤ (t - 1) / 2) (h : a = b + t * q) : a = b := by
  have h1 : q < 1 := by
    refine Int.not_le.1 fun c => ?_
    have := Int.mul_le_mul_of_nonneg_left c (show 0 ≤ t by omega)
    omega
  have h2 : -1 < q := by
    refine Int.not_le.1 fun c => ?_
    have := Int.mul_le_mul_of_nonneg_left c (show 0 ≤ t by omega)
    omega
  obtain rfl : q = 0 := by omega
  omega
theorem balN_congr {t n m q : Int} (ht : 3 ≤ t) (ho : t % 2 = 1) (h : n = m + t * q) : balN t n = balN t m := by
  obtain ⟨q1, h1⟩ := balN_mod (n := n) ht
  obtain ⟨q2, h2⟩ := balN_mod (n := m) ht
  refine bal_uniq (q := q + q1 - q2) ht ho (balN_le ht ho) (balN_le ht ho) ?_
  rw [Int.mul_sub, Int.mul_add]
  omega
theorem balN_self {t n : Int} (ht : 3 ≤ t) (ho : t % 2 = 1) (h : -((t - 1) / 2) ≤ n ∧ n ≤ (t - 1) / 2) : balN t n = n := by
  obtain ⟨q1, h1⟩ := balN_mod (n := n) ht
  exact bal_uniq ht ho (balN_le ht ho) h h1
/-- The first law: x (x + y) = x x + y x. -/
theorem ring_law {t a b : Int} (ht : 3 ≤ t) (ho : t % 2 = 1) : balN t (a * balN t (a + b)) = balN t (balN t (a * a) + balN t (b * a)) := by
  obtain ⟨q1, h1⟩ := balN_mod (n := a + b) ht
  obtain ⟨q2, h2⟩ := balN_mod (n := a * a) ht
  obtain ⟨q3, h3⟩ := balN_mod (n := b * a) ht
  refine balN_congr (q := a * q1 - q2 - q3) ht ho ?_
  rw [h1, h2, h3, Int.mul_sub, Int.mul_sub, Int.mul_add, Int.mul_add, Int.mul_comm a b, ← Int.mul_assoc a t q1, Int.mul_comm a t, Int.mul_assoc t a q1]
  omega
theorem fermat {N t sp q : Nat} (h : isL N t sp q) {a : Int} (ha : -(((t : Int) - 1) / 2) ≤ a ∧ a ≤ ((t : Int) - 1) / 2) : balN t (powZ t a t) = a := by
  have k17 : ∀ i : Nat, i < 17 → balN 17 (powZ 17 ((i : Int) - 8) 17) = (i : Int) - 8 := by decide +kernel
  have k41 : ∀ i : Nat, i < 41 → balN 41 (powZ 41 ((i : Int) - 20) 41) = (i : Int) - 20 := by decide +kernel
  rcases h with ⟨rfl, rfl, rfl, rfl⟩ | ⟨rfl, rfl, rfl, rfl⟩ | ⟨rfl, rfl, rfl, rfl⟩
  · have := k17 (a + 8).toNat (by omega)
    rw [show (((a + 8).toNat : Nat) : Int) - 8 = a by omega] at this
    exact this
  · have := k17 (a + 8).toNat (by omega)
    rw [show (((a + 8).toNat : Nat) : Int) - 8 = a by omega] at this
    exact this
  · have := k41 (a + 20).toNat (by omega)
    rw [show (((a + 20).toNat : Nat) : Int) - 20 = a by omega] at this
    exact this
theorem out0 (N t : Nat) (vs : Nat → Nat → Int) : outF N t (cL t) vs 0 = fun j => balN t (vs 0 j * balN t (vs 0 j + vs 1 j)) := by kernel_rfl
theorem out1 (N t : Nat) (vs : Nat → Nat → Int) : outF N t (cL t) vs 1 = fun j => balN t (balN t (vs 0 j * vs 0 j) + balN t (vs 1 j * vs 0 j)) := by kernel_rfl
theorem out2 (N t : Nat) (vs : Nat → Nat → Int) : outF N t (cL t) vs 2 = fun j => balN t (if vs 0 j = vs 1 j then 1 else 0) := by kernel_rfl
theorem out3 (N t : Nat) (vs : Nat → Nat → Int) : outF N t (cL t) vs 3 = fun j => balN t (powZ t (vs 0 j) t) := by kernel_rfl
/-- What Default answers for the law's arguments. -/
theorem df_cases (n : Int) (p : Nat) : (∃ e : Int, e ≠ 0 ∧ dfA n p = .tup [zrP, .v (.int .i64 e)]) ∨ ∃ N a b : Nat, n = N ∧ 4 ≤ N ∧ N ≤ 32 ∧ dfA n p = .tup [.g (parC (parL N p a b)), .v (.int .i64 0)] ∧ (p ≤ 64 → isL N p a b) := by
  by_cases hd : dimB n = true
  rotate_left
  · exact .inl ⟨2, by omega, if_neg hd⟩
  have hn : n = 4 ∨ n = 8 ∨ n = 16 ∨ n = 32 := by
    unfold dimB at hd
    simp only [Bool.or_eq_true, decide_eq_true_eq] at hd
    exact hd
  obtain ⟨N, rfl⟩ := Int.eq_ofNat_of_zero_le (show 0 ≤ n by omega)
  have e0 : ((N : Int)).toNat = N := rfl
  have hD : dfA N p = if plB N p = 0 then .tup [zrP, .v (.int .i64 2)] else dfC N p (chL (2 * N * plB N p)) := if_pos hd
  by_cases hB : plB N p = 0
  · exact .inl ⟨2, by omega, by rw [hD, if_pos hB]⟩
  rw [if_neg hB, (plB_ok hB).1] at hD
  have key : p ≤ 64 → (N = 8 ∧ p = 17) ∨ (N = 4 ∧ p = 17) ∨ (N = 4 ∧ p = 41) := by
    intro h64
    have k4 : ∀ i : Nat, i < 65 → plB 4 i = 0 ∨ i = 17 ∨ i = 41 := by decide +kernel
    have k8 : ∀ i : Nat, i < 65 → plB 8 i = 0 ∨ i = 17 := by decide +kernel
    have k16 : ∀ i : Nat, i < 65 → plB 16 i = 0 := by decide +kernel
    have k32 : ∀ i : Nat, i < 65 → plB 32 i = 0 := by decide +kernel
    rcases (show N = 4 ∨ N = 8 ∨ N = 16 ∨ N = 32 by omega) with rfl | rfl | rfl | rfl
    · have := k4 p (by omega); omega
    · have := k8 p (by omega); omega
    · have := k16 p (by omega); omega
    · have := k32 p (by omega); omega
  match hl : chL (2 * N * p) with
  | [] => exact .inl ⟨4, by omega, by rw [hD, hl]; rfl⟩
  | [_] => exact .inl ⟨4, by omega, by rw [hD, hl]; rfl⟩
  | _ :: _ :: _ :: _ => exact .inl ⟨4, by omega, by rw [hD, hl]; rfl⟩
  | [a, b] =>
    rw [hl] at hD
    refine .inr ⟨N, a, b, rfl, by omega, by omega, hD, fun h64 => ?_⟩
    have inj : ∀ {N p a b c d : Nat}, dfC N p [a, b] = .tup [.g (parC (parL N p c d)), .v (.int .i64 0)] → c = a ∧ d = b := by
      intro N p a b c d h
      simp only [dfC, parC, parL, u3, AV.tup.injEq, List.cons.injEq, AV.g.injEq, AV.v.injEq, AV.t.injEq, Value.int.injEq, List.map_cons, List.map_nil, true_and, and_true] at h
      omega
    rcases key h64 with ⟨rfl, rfl⟩ | ⟨rfl, rfl⟩ | ⟨rfl, rfl⟩
    · have := inj (hD.symm.trans dfL1)
      exact .inl ⟨rfl, rfl, by omega, by omega⟩
    · have := inj (hD.symm.trans dfL2)
      exact .inr (.inl ⟨rfl, rfl, by omega, by omega⟩)
    · have := inj (hD.symm.trans dfL3)
      exact .inr (.inr ⟨rfl, rfl, by omega, by omega⟩)
end Go.Proofs.YtljfgdlgmdcmfaaGreat
