/- primes.down's iterator; the list of the candidates. primes.Chain. params.Default. (Printed by gen_DefC.py.) -/
import Derived.RangeFuncNested
import Derived.RangeFuncBound
import Derived.RangeFuncCalls
import Derived.RangeFuncLeaves
import Derived.Shelf.Abstract
import Derived.Shelf.RegionOpen
import Derived.OwnWalkIn
import Derived.TacticsInMore
import Derived.LoopNIn
import Derived.LoopIn
import Derived.Maps.AppendAt
import Derived.Test.YtjpcljnojipdnaaGreatChnA
import Derived.WalkMore
/-! primes.down's iterator; the list of the candidates. -/
namespace Go.Proofs.YtjpcljnojipdnaaGreat
open Go.RowKit Go.Shelf
attribute [local go_sem] Oper.semAt_some

/-- The candidates, from k down. -/
def downL (s : Nat) : Nat → List Nat
  | 0 => []
  | k + 1 => ((k + 1) * s + 1) :: downL s k

theorem downL_len (s k : Nat) : (downL s k).length = k := by
  induction k with
  | zero => rfl
  | succ k ih => simp [downL, ih]

/-- While no candidate has been too small, and fewer than c primes have come. -/
theorem chainGo_pre {pr : Nat → Bool} {s : Nat} : ∀ (pre rest : List Nat) (k c : Nat), pre ++ rest = downL s k → (∀ q, q ∈ pre → 1073741824 < q) → (pre.filter pr).length < c →
    ∃ j, rest = downL s j ∧ chainGo pr s k c = pre.filter pr ++ chainGo pr s j (c - (pre.filter pr).length) := by
  intro pre
  induction pre with
  | nil => intro rest k c h _ _; exact ⟨k, h, by simp⟩
  | cons q pre ih =>
    intro rest k c h hq hc
    cases k with
    | zero => simp [downL] at h
    | succ k =>
      simp only [downL, List.cons_append, List.cons.injEq] at h
      obtain ⟨rfl, h⟩ := h
      have h1 : 1073741824 < (k + 1) * s + 1 := hq _ (by simp)
      have hq' : ∀ q, q ∈ pre → 1073741824 < q := fun q hm => hq q (List.mem_cons_of_mem _ hm)
      cases hp : pr ((k + 1) * s + 1) with
      | true =>
        rw [List.filter_cons_of_pos hp] at hc ⊢
        simp only [List.length_cons] at hc ⊢
        obtain ⟨j, h3, h4⟩ := ih rest k (c - 1) h hq' (by omega)
        refine ⟨j, h3, ?_⟩
        rw [chainGo_yes h1 (by omega) hp, Nat.add_sub_cancel, h4, List.cons_append, show c - 1 - (pre.filter pr).length = c - ((pre.filter pr).length + 1) by omega]
      | false =>
        rw [List.filter_cons_of_neg (by rw [hp]; simp)] at hc ⊢
        obtain ⟨j, h3, h4⟩ := ih rest k c h hq' hc
        refine ⟨j, h3, ?_⟩
        rw [chainGo_no h1 (by omega) hp, Nat.add_sub_cancel, h4]

/-- A word. -/
abbrev Word := { q : Nat // q < 4294967296 }
def vals (l : List Word) : List Nat := l.map (fun x => x.1)
theorem vals_snoc (l : List Word) (x : Word) : vals (l ++ [x]) = vals l ++ [x.1] := by simp [vals]
def encW (x : Word) : Array Value := #[.int .u32 (x.1 : Nat)]
def keepS (Bs : Nat) (W W' : World) : Prop := W'.cell? ⟨Bs, 0, none⟩ = W.cell? ⟨Bs, 0, none⟩

theorem keepS_t {Bs : Nat} {A B C : World} (h : keepS Bs A B) (k : keepS Bs B C) : keepS Bs A C := k.trans h
theorem keepS_b {Bs : Nat} {w : World} (hB : Bs < w.heap.size) (W : World) (l : Nat) (o o' : Obj) (hl : w.heap.size ≤ l) (_ : W.heap[l]? = some o) (_ : o.isCells = false) (_ : o.isWalk = false) : keepS Bs W (W.putObj l o') := by
  unfold keepS
  have h := (grownBy_putObj' W l o').block
  simp only [World.cell?]
  by_cases hb : Bs < W.heap.size
  · rw [h Bs hb (by intro e; injection e with e; omega)]
  · have h1 : W.heap[Bs]? = none := by simp; omega
    have h2 : (W.putObj l o').heap[Bs]? = none := by simp [World.putObj]; omega
    rw [h1, h2]
end Go.Proofs.YtjpcljnojipdnaaGreat

/-! primes.Chain. -/
namespace Go.Proofs.YtjpcljnojipdnaaGreat
open Go.RowKit Go.Shelf
attribute [local go_sem] Oper.semAt_some

/-! What the loop has seen. -/
def ChP (c : Nat) (l : List Nat) : Prop := (∀ q, q ∈ l → 1073741824 < q) ∧ (l.filter mPrime).length < c
def ChFail (c : Nat) (l : List Nat) : Prop := ∃ r q, l = r ++ [q] ∧ ChP c r ∧ q ≤ 1073741824
def ChRet (c : Nat) (l : List Nat) : Prop := ∃ r q, l = r ++ [q] ∧ ChP c r ∧ 1073741824 < q ∧ mPrime q = true ∧ (l.filter mPrime).length = c

theorem ch_done {s c K : Nat} {l : List Nat} (h : l = downL s K) (hp : ChP c l) : (chainGo mPrime s K c).length < c := by
  obtain ⟨j, h1, h2⟩ := chainGo_pre l [] K c (by simpa using h) hp.1 hp.2
  have : j = 0 := by have := congrArg List.length h1; rw [downL_len] at this; simpa using this.symm
  subst this
  rw [h2]; simp [chainGo]; exact hp.2
theorem ch_fail {s c K : Nat} {l : List Nat} (h : l <+: downL s K) (hp : ChFail c l) : (chainGo mPrime s K c).length < c := by
  obtain ⟨r, q, rfl, h1, h2⟩ := hp
  obtain ⟨e, he⟩ := h
  obtain ⟨j, h3, h4⟩ := chainGo_pre r (q :: e) K c (by rw [← he]; simp) h1.1 h1.2
  rw [h4]
  cases j with
  | zero => simp [downL] at h3
  | succ j =>
    simp only [downL, List.cons.injEq] at h3
    rw [chainGo_stop (by rw [← h3.1]; omega), List.append_nil]; exact h1.2
theorem ch_ret {s c K : Nat} {l : List Nat} (h : l <+: downL s K) (hp : ChRet c l) : chainGo mPrime s K c = l.filter mPrime ∧ (l.filter mPrime).length = c := by
  obtain ⟨r, q, rfl, h1, h2, h3, h4⟩ := hp
  obtain ⟨e, he⟩ := h
  obtain ⟨j, h5, h6⟩ := chainGo_pre r (q :: e) K c (by rw [← he]; simp) h1.1 h1.2
  refine ⟨?_, h4⟩
  rw [h6]
  rw [List.filter_append, List.filter_cons_of_pos h3] at h4 ⊢
  simp only [List.filter_nil, List.length_append, List.length_cons, List.length_nil] at h4
  cases j with
  | zero => simp [downL] at h5
  | succ j =>
    simp only [downL, List.cons.injEq] at h5
    rw [chainGo_yes (by rw [← h5.1]; exact h2) (by omega) (by rw [← h5.1]; exact h3), ← h5.1, chainGo_stop (by omega)]; rfl
theorem chp_snoc {c q : Nat} {l : List Nat} (h : ChP c l) (hq : 1073741824 < q) (hp : mPrime q = false) : ChP c (l ++ [q]) := by
  refine ⟨fun x hx => ?_, ?_⟩
  · rcases List.mem_append.1 hx with h1 | h1
    · exact h.1 x h1
    · simp at h1; subst h1; exact hq
  · rw [List.filter_append, List.filter_cons_of_neg (by rw [hp]; simp)]; simpa using h.2
theorem chp_snoc' {c q : Nat} {l : List Nat} (h : ChP c l) (hq : 1073741824 < q) (hp : mPrime q = true) (hc : (l.filter mPrime).length + 1 ≠ c) : ChP c (l ++ [q]) := by
  refine ⟨fun x hx => ?_, ?_⟩
  · rcases List.mem_append.1 hx with h1 | h1
    · exact h.1 x h1
    · simp at h1; subst h1; exact hq
  · have := h.2
    rw [List.filter_append, List.filter_cons_of_pos hp]; simp; omega
/-- The primes among what has come. -/
def mp (pre : List Word) : List Nat := (vals pre).filter mPrime
theorem mp_hit (pre : List Word) (x : Word) (h : mPrime x.1 = true) : mp (pre ++ [x]) = mp pre ++ [x.1] := by unfold mp; rw [vals_snoc, List.filter_append, List.filter_cons_of_pos h]; rfl
theorem mp_miss (pre : List Word) (x : Word) (h : mPrime x.1 = false) : mp (pre ++ [x]) = mp pre := by unfold mp; rw [vals_snoc, List.filter_append, List.filter_cons_of_neg (by rw [h]; simp)]; simp
theorem mp_lt {pre : List Word} : ∀ q, q ∈ mp pre → q < 4294967296 := by
  intro q hq
  obtain ⟨x, _, rfl⟩ := List.mem_map.1 (List.mem_filter.1 hq).1
  exact x.2

/-- The boxes that the loop reads, or leaves. -/
structure ChB (W : World) (b c s : Nat) : Prop where
  k : Boxed W b 3 (.int .i64 c)
  r : Boxed W (b + 1) 23 (.slice none 0 0)
  e : Boxed W (b + 1 + 1) 35 (.int .i64 0)
  s : Boxed W (b + 1 + 1 + 1 + 1 + 1) 95 (.int .u64 s)
theorem chB_own {β : Type} (b c s : Nat) : Own (fun (_ : β) W => ChB W b c s) := fun x W W' row h hg hr =>
  ⟨boxed_own (β := β) _ _ (fun _ => _) x W W' row h.k hg hr, boxed_own (β := β) _ _ (fun _ => _) x W W' row h.r hg hr, boxed_own (β := β) _ _ (fun _ => _) x W W' row h.e hg hr, boxed_own (β := β) _ _ (fun _ => _) x W W' row h.s hg hr⟩
/-- How the loop is left early. -/
def ChX (b c : Nat) (cd : Code) (pre : List Word) (W : World) : Prop :=
  (cd = .exit 0 ∧ ChFail c (vals pre) ∧ Boxed W (b + 1) 23 (.slice none 0 0) ∧ Boxed W (b + 1 + 1) 35 (.int .i64 0)) ∨
  (cd = .ret ∧ ChRet c (vals pre) ∧ (∃ v, Boxed W (b + 1) 23 v ∧ W.ownsRow b 22 1 v (mp pre).length (u32s (mp pre)) ∧ True) ∧ Boxed W (b + 1 + 1) 35 (.int .i64 0))
theorem chX_own (b c : Nat) (cd : Code) : Own (ChX b c cd) := by
  intro x W W' row h hg hr
  rcases h with ⟨h1, h2, h3, h4⟩ | ⟨h1, h2, h3, h4⟩
  · exact .inl ⟨h1, h2, boxed_own (β := List Word) _ _ (fun _ => _) x W W' row h3 hg hr, boxed_own (β := List Word) _ _ (fun _ => _) x W W' row h4 hg hr⟩
  · exact .inr ⟨h1, h2, holdsRow_own b (b + 1) 23 22 1 (fun pre => (mp pre).length) (fun pre => u32s (mp pre)) (fun _ _ => True) x W W' row h3 hg hr, boxed_own (β := List Word) _ _ (fun _ => _) x W W' row h4 hg hr⟩

theorem boxed_below {W w1 : World} {B : Nat} {t : TypeId} {v : Value} (h : Boxed W B t v) (hb : Below W.heap.size W w1) : Boxed w1 B t v := (hb.block B h.lt).trans h
theorem owns_below {W w1 : World} {base size n : Nat} {e : TypeId} {v : Value} {xs : List Value} (h : W.ownsRow base e size v n xs) (hb : Below W.heap.size W w1) : w1.ownsRow base e size v n xs := by
  refine ⟨h.1, ?_⟩
  rcases h.2 with ⟨rfl, h0⟩ | ⟨g, cap, cur, rfl, hg, hh, h5⟩
  · exact .inl ⟨rfl, h0⟩
  · exact .inr ⟨g, cap, cur, rfl, hg, (hb.block g (lt_of_block hh)).trans hh, h5⟩
theorem keeps_below {W w1 : World} (hb : Below W.heap.size W w1) : KeepsOthers W w1 :=
  ⟨hb.size, fun k _ hk _ => (hb.block k (Array.getElem?_eq_some_iff.1 hk).1).trans hk⟩
theorem ChB.below {W w1 : World} {b c s : Nat} (h : ChB W b c s) (hb : Below W.heap.size W w1) : ChB w1 b c s := ⟨boxed_below h.k hb, boxed_below h.r hb, boxed_below h.e hb, boxed_below h.s hb⟩
/-- A box beside an appended row. -/
theorem boxed_appended {W w1 : World} {n₀ B k : Nat} {t : TypeId} {v u : Value} {xs : List Value} {tmp : Obj} (hu : Boxed W B t u) (hte : t ≠ 22) (hrow : W.ownsRow n₀ 22 1 v k xs) (hgrow : (W.alloc tmp).grownBy w1 v.ownBlock) : Boxed w1 B t u :=
  (hu.alloc tmp).kept hgrow (hu.not_row hte hrow)
theorem owns_set {W : World} {n₀ B k : Nat} {t : TypeId} {v u u' : Value} {xs : List Value} (hu : Boxed W B t u) (hte : t ≠ 22) (hrow : W.ownsRow n₀ 22 1 v k xs) : (W.setCell ⟨B, 0, none⟩ u').ownsRow n₀ 22 1 v k xs :=
  hrow.kept (grownBy_setCell' W B u') (.inr (hu.not_row hte hrow).symm)

end Go.Proofs.YtjpcljnojipdnaaGreat

/-! params.Default. (Printed by gen_DefC.py.) -/
namespace Go.Proofs.YtjpcljnojipdnaaGreat
open Go.RowKit

theorem def_zero' {pr : Nat → Bool} {w0 w' : World} {n : Int} {p : Nat} {e lv k : Int} {r : Ending} (hb : Below w0.heap.size w0 w') (hk : defErr pr n p e lv = k) (h0 : k ≠ 0)
    (hr : r = .returned (.tuple #[.agg #[.int .i64 0, .int .u32 0, .int .i64 0, .slice none 0 0, .int .u32 0, .int .i64 0, .int .u32 0], .int .i64 k])) : defRet w0 w' (defPar pr n p e lv) (defErr pr n p e lv) r := by
  rw [defPar_zero (by rw [hk]; exact h0), hk]
  refine ⟨hb, .slice none 0 0, hr, none, 0, rfl, Nat.le_refl _, by simp [zeroP], fun h => absurd rfl h⟩
theorem chain_big {pr : Nat → Bool} {s c : Nat} (h : 2147483647 < s) : chainOf pr s c = [] := by
  unfold chainOf
  rw [Nat.div_eq_of_lt (by omega)]; rfl

end Go.Proofs.YtjpcljnojipdnaaGreat
