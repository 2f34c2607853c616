/- ParamsValid: the plain law. -/
import Derived.Test.YtjfjbkocopaehaaWidM
namespace Go.Proofs.Ytjfjbkocopaehaa
open Go.RowKit
set_option linter.unusedVariables false

theorem chainGo_desc (pr : Nat → Bool) (s k c : Nat) (hs : 0 < s) : (chainGo pr s k c).Pairwise (· > ·) := by
  induction k generalizing c with
  | zero => simp [chainGo]
  | succ k ih =>
    simp only [chainGo]
    split
    · split
      · refine List.pairwise_cons.2 ⟨fun q hq => ?_, ih _⟩
        have h1 := (chainGo_mem hq).2.1
        have h2 : (k + 1) * s = k * s + s := by rw [Nat.add_mul, Nat.one_mul]
        show q < _
        omega
      · exact ih _
    · exact List.Pairwise.nil
theorem defErr_zero {pr : Nat → Bool} {n : Int} {p : Nat} {e lv : Int} (h : defErr pr n p e lv = 0) :
    isDim n = true ∧ 1 ≤ lv ∧ lv ≤ 24 ∧ powv pr n p e ≠ 0 ∧ defStep pr n p e ≤ 2147483647 ∧ (chainOf pr (defStep pr n p e) (lv.toNat + 1)).length = lv.toNat + 1 := by
  unfold defErr at h
  split at h
  · cases h
  · rename_i h1
    split at h
    · cases h
    · rename_i h2
      have hl := chainGo_len pr (defStep pr n p e) (2147483646 / defStep pr n p e) (lv.toNat + 1)
      simp only [not_or, Nat.not_lt] at h1 h2
      refine ⟨by simpa using h1.1, by omega, by omega, h1.2.2.2, h2.1, ?_⟩
      have h3 := h2.2
      unfold chainOf at h3 ⊢
      omega
theorem isDim_in {n : Int} (h : isDim n = true) : n = 4 ∨ n = 8 ∨ n = 16 ∨ n = 32 := by
  unfold isDim at h; simp at h; omega
theorem defPar_ok {pr : Nat → Bool} {n : Int} {p : Nat} {e lv : Int} (h : defErr pr n p e lv = 0) : okB pr (defPar pr n p e lv) = true := by
  obtain ⟨h1, h2, h3, h4, h5, h6⟩ := defErr_zero h
  have hd := isDim_in h1
  have hs : defStep pr n p e = (2 * n).toNat * powv pr n p e := by unfold defStep; congr 1; omega
  have hs2 : 2 ≤ defStep pr n p e := by
    rw [hs]
    have : 1 ≤ powv pr n p e := by omega
    exact Nat.le_trans (by omega : 2 ≤ (2 * n).toNat * 1) (Nat.mul_le_mul_left _ this)
  obtain ⟨sp, ch, hL⟩ : ∃ sp ch, chainOf pr (defStep pr n p e) (lv.toNat + 1) = sp :: ch := by
    cases hc : chainOf pr (defStep pr n p e) (lv.toNat + 1) with
    | nil => rw [hc] at h6; simp at h6
    | cons a l => exact ⟨a, l, rfl⟩
  have hdesc : (sp :: ch).Pairwise (· > ·) := by rw [← hL]; exact chainGo_desc _ _ _ _ (by omega)
  have hlen : ch.length = lv.toNat := by rw [hL] at h6; simpa using h6
  have hgood : ∀ q, q ∈ sp :: ch → goodS pr (defStep pr n p e) q = true := by
    intro q hq
    rw [← hL] at hq
    obtain ⟨g1, g2, g3, j, rfl⟩ := chainOf_lt hq
    unfold goodS
    rw [decide_eq_true g1, decide_eq_true g2, g3, decide_eq_true (by rw [Nat.mul_comm, Nat.mul_add_mod]; exact Nat.mod_eq_of_lt (by omega))]; rfl
  have hpar : defPar pr n p e lv = { n := n, p := p, r := e, ch := ch, sp := sp, wt := 4, er := 2 } := by
    unfold defPar; rw [if_pos h, hL]; rfl
  rw [hpar]
  have hst : stepOf pr { n := n, p := p, r := e, ch := ch, sp := sp, wt := 4, er := 2 } = defStep pr n p e := hs.symm
  unfold okB
  rw [hst]
  simp only [Bool.and_eq_true, decide_eq_true_eq, Bool.not_eq_true']
  refine ⟨h1, Nat.pos_of_ne_zero h4, ?_, ?_, hgood _ List.mem_cons_self, ?_, ?_⟩
  · unfold lenB; exact decide_eq_true (by omega)
  · unfold wtB; simp; omega
  · rw [List.any_eq_false]
    intro q hq
    have := (List.pairwise_cons.1 hdesc).1 q hq
    unfold badB
    rw [hgood q (List.mem_cons_of_mem _ hq), decide_eq_true (show q < sp from this)]; simp
  · exact (List.pairwise_cons.1 hdesc).2.imp (fun h => by have : _ > _ := h; omega)
/-- What Default returns, if it returns parameters. -/
theorem defPar_shape {pr : Nat → Bool} {n : Int} {p : Nat} {e lv : Int} (h : defErr pr n p e lv = 0) :
    ∃ sp ch, defPar pr n p e lv = { n := n, p := p, r := e, ch := ch, sp := sp, wt := 4, er := 2 } ∧ (ch.length : Int) = lv ∧ 1 ≤ lv ∧ lv ≤ 24 ∧ isDim n = true ∧ 1 ≤ e ∧ 3 ≤ p ∧ p ^ e.toNat ≤ 2147483647 ∧
      (∀ k : Nat, 1 ≤ k → (k : Int) ≤ e → powv pr n p k = p ^ k) ∧ (sp :: ch).Pairwise (· > ·) ∧ (∀ q, q ∈ sp :: ch → 1073741824 < q ∧ q ≤ 2147483647 ∧ q % (2 * n.toNat * p ^ e.toNat) = 1) := by
  obtain ⟨h1, h2, h3, h4, h5, h6⟩ := defErr_zero h
  have hd := isDim_in h1
  have hpe : 3 ≤ p ∧ p < 65536 ∧ pr p = true ∧ p % (2 * n).toNat = 1 ∧ 1 ≤ e ∧ p ^ e.toNat ≤ 2147483647 := by
    apply Classical.byContradiction
    intro hc
    apply h4
    unfold powv; rw [if_neg hc]
  have hpw : powv pr n p e = p ^ e.toNat := by unfold powv; rw [if_pos hpe]
  obtain ⟨sp, ch, hL⟩ : ∃ sp ch, chainOf pr (defStep pr n p e) (lv.toNat + 1) = sp :: ch := by
    cases hc : chainOf pr (defStep pr n p e) (lv.toNat + 1) with
    | nil => rw [hc] at h6; simp at h6
    | cons a l => exact ⟨a, l, rfl⟩
  have hst : defStep pr n p e = 2 * n.toNat * p ^ e.toNat := by unfold defStep; rw [hpw]
  have hp1 : 1 ≤ p ^ e.toNat := Nat.pow_pos (by omega)
  have hs2 : 2 ≤ defStep pr n p e := by
    rw [hst]
    exact Nat.le_trans (by omega : 2 ≤ 2 * n.toNat * 1) (Nat.mul_le_mul_left _ hp1)
  refine ⟨sp, ch, by unfold defPar; rw [if_pos h, hL]; rfl, ?_, h2, h3, h1, hpe.2.2.2.2.1, hpe.1, hpe.2.2.2.2.2, ?_, ?_, ?_⟩
  · have : ch.length = lv.toNat := by rw [hL] at h6; simpa using h6
    omega
  · intro k hk1 hk2
    refine powv_yes (k := k) ⟨hpe.1, hpe.2.1, hpe.2.2.1, hpe.2.2.2.1, by omega⟩ rfl ?_
    exact Nat.le_trans (Nat.pow_le_pow_right (by omega) (by omega)) hpe.2.2.2.2.2
  · rw [← hL]; exact chainGo_desc _ _ _ _ (by omega)
  · intro q hq
    rw [← hL] at hq
    obtain ⟨g1, g2, g3, j, rfl⟩ := chainOf_lt hq
    refine ⟨g1, g2, ?_⟩
    rw [← hst, Nat.mul_comm, Nat.mul_add_mod]; exact Nat.mod_eq_of_lt (by omega)
end Go.Proofs.Ytjfjbkocopaehaa
