/- obscuraref03.Chain: the primes of a chain, in order. -/
import Derived.Test.YtjfjbkocopaehaaKeyG
namespace Go.Proofs.Ytjfjbkocopaehaa
open Go.RowKit

/-- A row that the call owns, as a slice of words. -/
theorem SliceAt.ofOwns {w : World} {base : Nat} {e : TypeId} {v : Value} {n : Nat} {l : List Nat} (h : w.ownsRow base e 1 v n (l.map (fun q => Value.int .u32 (q : Nat)))) (hl : l.length ≤ 140737488351232) (hr : ∀ q, q ∈ l → q < 4294967296) : SliceAt w v l := by
  have hn : l.length = n := by simpa using h.1
  rcases h.2 with ⟨rfl, h0⟩ | ⟨g, cap, cur, rfl, hb, hg, hnc, hm, hs, ht⟩
  · have : l = [] := List.length_eq_zero_iff.1 (by omega)
    subst this; exact ⟨none, 0, rfl, Nat.le_refl _, by simp, fun h => absurd rfl h⟩
  · subst hn
    refine ⟨_, cap, rfl, hnc, hl, fun _ => ⟨g, 0, rfl, lt_of_block hg, fun i hi => ?_, hr⟩⟩
    have e1 : (cur.toList.take (l.length * 1))[i]? = (l.map (fun q => Value.int .u32 (q : Nat)))[i]? := by rw [ht]
    rw [List.getElem?_take, if_pos (by omega), Array.getElem?_toList, List.getElem?_map, List.getElem?_eq_getElem hi] at e1
    simp only [World.cell?, hg, Nat.zero_add, Option.isSome_none, Bool.false_eq_true, if_false]
    rw [e1]; rfl

/-- The primes k step + 1 above 2^30, from k down, at most so many. -/
def chainGo (pr : Nat → Bool) (s : Nat) : Nat → Nat → List Nat
  | 0, _ => []
  | k + 1, c => if 1073741824 < (k + 1) * s + 1 ∧ 0 < c then (if pr ((k + 1) * s + 1) then ((k + 1) * s + 1) :: chainGo pr s k (c - 1) else chainGo pr s k c) else []

theorem chainGo_stop {pr : Nat → Bool} {s k c : Nat} (h : ¬ (1073741824 < k * s + 1 ∧ 0 < c)) : chainGo pr s k c = [] := by
  cases k with
  | zero => rfl
  | succ k => simp only [chainGo, if_neg h]
theorem chainGo_yes {pr : Nat → Bool} {s k c : Nat} (h1 : 1073741824 < k * s + 1) (h2 : 0 < c) (hp : pr (k * s + 1) = true) : chainGo pr s k c = (k * s + 1) :: chainGo pr s (k - 1) (c - 1) := by
  cases k with
  | zero => omega
  | succ k => simp only [chainGo, if_pos (And.intro h1 h2), hp, if_true, Nat.add_sub_cancel]
theorem chainGo_no {pr : Nat → Bool} {s k c : Nat} (h1 : 1073741824 < k * s + 1) (h2 : 0 < c) (hp : pr (k * s + 1) = false) : chainGo pr s k c = chainGo pr s (k - 1) c := by
  cases k with
  | zero => omega
  | succ k => simp only [chainGo, if_pos (And.intro h1 h2), hp, Nat.add_sub_cancel]; simp
theorem chainGo_len (pr : Nat → Bool) (s k c : Nat) : (chainGo pr s k c).length ≤ c := by
  induction k generalizing c with
  | zero => simp [chainGo]
  | succ k ih =>
    simp only [chainGo]
    split
    · split
      · have := ih (c - 1); simp only [List.length_cons]; omega
      · exact ih c
    · simp
theorem chainGo_mem {pr : Nat → Bool} {s k c q : Nat} (h : q ∈ chainGo pr s k c) : 1073741824 < q ∧ q ≤ k * s + 1 ∧ pr q = true ∧ ∃ j, q = j * s + 1 := by
  induction k generalizing c with
  | zero => simp [chainGo] at h
  | succ k ih =>
    have hs : k * s ≤ (k + 1) * s := Nat.mul_le_mul_right _ (by omega)
    simp only [chainGo] at h
    split at h
    · rename_i hc
      split at h
      · rename_i hp
        rcases List.mem_cons.1 h with rfl | h
        · exact ⟨hc.1, Nat.le_refl _, hp, _, rfl⟩
        · have := ih h; exact ⟨this.1, by omega, this.2.2⟩
      · have := ih h; exact ⟨this.1, by omega, this.2.2⟩
    · cases h

/-- The list of the chain. -/
def chainOf (pr : Nat → Bool) (s c : Nat) : List Nat := chainGo pr s (2147483646 / s) c
theorem chainOf_lt {pr : Nat → Bool} {s c q : Nat} (h : q ∈ chainOf pr s c) : 1073741824 < q ∧ q ≤ 2147483647 ∧ pr q = true ∧ ∃ j, q = j * s + 1 := by
  have h1 := chainGo_mem h
  have h2 := Nat.div_mul_le_self 2147483646 s
  exact ⟨h1.1, by omega, h1.2.2⟩

theorem rdim3_any (n : Int) (w : World) :
    Calls Try.prog 79 #[.int .i64 n] w fun r w' => r = .returned (.bool (isDim n)) ∧ w = w' := by
  have hR : Hid (isDim n = (n == 4 || (n == 8 || (n == 16 || n == 32)))) := by show _ = _; unfold isDim; simp only [Bool.or_assoc]
  cases h4 : (n == 4) with
  | true =>
    go_enter Try.func79, Try.ntmps79
    go_wp2_with fail
    go_ret
    exact ⟨ret_bool (by rw [hR.out, h4]; rfl), rfl⟩
  | false =>
  cases h8 : (n == 8) with
  | true =>
    go_enter Try.func79, Try.ntmps79
    go_wp2_with fail
    go_ret
    exact ⟨ret_bool (by rw [hR.out, h4, h8]; rfl), rfl⟩
  | false =>
  cases h16 : (n == 16) with
  | true =>
    go_enter Try.func79, Try.ntmps79
    go_wp2_with fail
    go_ret
    exact ⟨ret_bool (by rw [hR.out, h4, h8, h16]; rfl), rfl⟩
  | false =>
    go_enter Try.func79, Try.ntmps79
    go_wp2_with fail
    go_ret
    exact ⟨ret_bool (by rw [hR.out, h4, h8, h16]; rfl), rfl⟩
end Go.Proofs.Ytjfjbkocopaehaa
