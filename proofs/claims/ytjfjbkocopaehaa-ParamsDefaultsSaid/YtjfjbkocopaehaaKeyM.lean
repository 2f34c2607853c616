/- The chain of the examples, computed. -/
import Derived.Test.YtjfjbkocopaehaaKeyL
import Derived.Test.YtjfjbkocopaehaaMathG
namespace Go.Proofs.Ytjfjbkocopaehaa
open Go.RowKit

/-- The same walk down with fuel. -/
def chainF (pr : Nat → Bool) (s : Nat) : Nat → Nat → Nat → Option (List Nat)
  | 0, _, _ => none
  | f + 1, k, c => if 1073741824 < k * s + 1 ∧ 0 < c then (if pr (k * s + 1) then (chainF pr s f (k - 1) (c - 1)).map ((k * s + 1) :: ·) else chainF pr s f (k - 1) c) else some []
theorem chainF_eq {pr : Nat → Bool} {s f k c : Nat} {L : List Nat} (h : chainF pr s f k c = some L) : chainGo pr s k c = L := by
  induction f generalizing k c L with
  | zero => cases h
  | succ f ih =>
    unfold chainF at h
    by_cases hc : 1073741824 < k * s + 1 ∧ 0 < c
    · rw [if_pos hc] at h
      cases hp : pr (k * s + 1) with
      | true =>
        rw [hp, if_pos rfl] at h
        obtain ⟨L', h1, rfl⟩ := Option.map_eq_some_iff.1 h
        rw [chainGo_yes hc.1 hc.2 hp, ih h1]
      | false =>
        rw [hp] at h
        rw [chainGo_no hc.1 hc.2 hp]
        exact ih (by simpa using h)
    · rw [if_neg hc] at h
      rw [chainGo_stop hc]
      exact Option.some.inj h
theorem chainGo_pr {p q : Nat → Bool} {s k c : Nat} (h : ∀ n, n ≤ k * s + 1 → p n = q n) : chainGo p s k c = chainGo q s k c := by
  induction k generalizing c with
  | zero => rfl
  | succ k ih =>
    have h2 : ∀ n, n ≤ k * s + 1 → p n = q n := fun n hn => h n (by have : k * s ≤ (k + 1) * s := Nat.mul_le_mul_right _ (by omega); omega)
    simp only [chainGo, h _ (Nat.le_refl _), ih h2]
theorem chainOf_K (s c : Nat) : chainOf rPrime s c = chainOf rPrimeK s c := by
  unfold chainOf
  exact chainGo_pr fun n hn => rPrimeK_eq n (by have := Nat.div_mul_le_self 2147483646 s; omega)
theorem chainOf_small : chainOf rPrime 136 2 = [2147483249, 2147481209] := by
  rw [chainOf_K]
  unfold chainOf
  exact chainF_eq (f := 30) (by decide +kernel)
theorem powv_small : powv rPrime 4 17 1 = 17 := by
  refine (powv_yes (k := 1) ⟨by decide, by decide, by rw [rPrimeK_eq _ (by decide)]; decide +kernel, by decide, by decide⟩ rfl (by decide)).trans (by decide)
theorem defErr_small : defErr rPrime 4 17 1 1 = 0 := by
  unfold defErr defStep
  rw [powv_small, if_neg (by decide), if_neg]
  show ¬ (2147483647 < 136 ∨ (chainOf rPrime 136 2).length < 2)
  rw [chainOf_small]; decide
def smallP : Par := { n := 4, p := 17, r := 1, ch := [2147481209], sp := 2147483249, wt := 4, er := 2 }
theorem defPar_small : defPar rPrime 4 17 1 1 = smallP := by
  unfold defPar
  rw [if_pos defErr_small]
  unfold defStep
  rw [powv_small]
  show Par.mk 4 17 1 (chainOf rPrime 136 2).tail ((chainOf rPrime 136 2).headD 0) 4 2 = _
  rw [chainOf_small]; rfl
end Go.Proofs.Ytjfjbkocopaehaa
