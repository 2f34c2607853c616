/- obscuraref03.Chain: the primes of a chain, in order. obscuraref03.Chain: the walk. obscuraref12.Default. -/
import Derived.Test.YtjfjbkocopaehaaDoorKeyZ
/-! obscuraref03.Chain: the primes of a chain, in order. -/
namespace Go.Proofs.YtjfjbkocopaehaaDoor
open Go.RowKit

/-- A row that the call owns, as a slice of words. -/
theorem SliceAt.ofOwns {w : World} {base : Nat} {e : TypeId} {v : Value} {n : Nat} {l : List Nat} (h : w.ownsRow base e 1 v n (l.map (fun q => Value.int .u32 (q : Nat)))) (hl : l.length ≤ 140737488351232) (hr : ∀ q, q ∈ l → q < 4294967296) : SliceAt w v l := by
  have hn : l.length = n := by simpa using h.1
  rcases h.2 with ⟨rfl, h0⟩ | ⟨g, cap, cur, rfl, hb, hg, hnc, hm, hs, ht⟩
  · have : l = [] := List.length_eq_zero_iff.1 (by omega)
    subst this; exact ⟨none, 0, rfl, Nat.le_refl _, by simp, fun h => absurd rfl h⟩
  · subst hn
    refine ⟨_, cap, rfl, hnc, hl, fun _ => ⟨g, 0, rfl, lt_of_block hg, fun i hi => ?_, hr⟩⟩
    have e1 : (cur.toList.take (l.length * 1))[i]? = (l.map (fun q => Value.int .u32 (q : Nat)))[i]? := by rw [ht]
    rw [List.getElem?_take, if_pos (by omega), Array.getElem?_toList, List.getElem?_map, List.getElem?_eq_getElem hi] at e1
    simp only [World.cell?, hg, Nat.zero_add, Option.isSome_none, Bool.false_eq_true, if_false]
    rw [e1]; rfl

/-- The primes k step + 1 above 2^30, from k down, at most so many. -/
def chainGo (pr : Nat → Bool) (s : Nat) : Nat → Nat → List Nat
  | 0, _ => []
  | k + 1, c => if 1073741824 < (k + 1) * s + 1 ∧ 0 < c then (if pr ((k + 1) * s + 1) then ((k + 1) * s + 1) :: chainGo pr s k (c - 1) else chainGo pr s k c) else []

theorem chainGo_stop {pr : Nat → Bool} {s k c : Nat} (h : ¬ (1073741824 < k * s + 1 ∧ 0 < c)) : chainGo pr s k c = [] := by
  cases k with
  | zero => rfl
  | succ k => simp only [chainGo, if_neg h]
theorem chainGo_yes {pr : Nat → Bool} {s k c : Nat} (h1 : 1073741824 < k * s + 1) (h2 : 0 < c) (hp : pr (k * s + 1) = true) : chainGo pr s k c = (k * s + 1) :: chainGo pr s (k - 1) (c - 1) := by
  cases k with
  | zero => omega
  | succ k => simp only [chainGo, if_pos (And.intro h1 h2), hp, if_true, Nat.add_sub_cancel]
theorem chainGo_no {pr : Nat → Bool} {s k c : Nat} (h1 : 1073741824 < k * s + 1) (h2 : 0 < c) (hp : pr (k * s + 1) = false) : chainGo pr s k c = chainGo pr s (k - 1) c := by
  cases k with
  | zero => omega
  | succ k => simp only [chainGo, if_pos (And.intro h1 h2), hp, Nat.add_sub_cancel]; simp
theorem chainGo_len (pr : Nat → Bool) (s k c : Nat) : (chainGo pr s k c).length ≤ c := by
  induction k generalizing c with
  | zero => simp [chainGo]
  | succ k ih =>
    simp only [chainGo]
    split
    · split
      · have := ih (c - 1); simp only [List.length_cons]; omega
      · exact ih c
    · simp
theorem chainGo_mem {pr : Nat → Bool} {s k c q : Nat} (h : q ∈ chainGo pr s k c) : 1073741824 < q ∧ q ≤ k * s + 1 ∧ pr q = true ∧ ∃ j, q = j * s + 1 := by
  induction k generalizing c with
  | zero => simp [chainGo] at h
  | succ k ih =>
    have hs : k * s ≤ (k + 1) * s := Nat.mul_le_mul_right _ (by omega)
    simp only [chainGo] at h
    split at h
    · rename_i hc
      split at h
      · rename_i hp
        rcases List.mem_cons.1 h with rfl | h
        · exact ⟨hc.1, Nat.le_refl _, hp, _, rfl⟩
        · have := ih h; exact ⟨this.1, by omega, this.2.2⟩
      · have := ih h; exact ⟨this.1, by omega, this.2.2⟩
    · cases h

/-- The list of the chain. -/
def chainOf (pr : Nat → Bool) (s c : Nat) : List Nat := chainGo pr s (2147483646 / s) c
theorem chainOf_lt {pr : Nat → Bool} {s c q : Nat} (h : q ∈ chainOf pr s c) : 1073741824 < q ∧ q ≤ 2147483647 ∧ pr q = true ∧ ∃ j, q = j * s + 1 := by
  have h1 := chainGo_mem h
  have h2 := Nat.div_mul_le_self 2147483646 s
  exact ⟨h1.1, by omega, h1.2.2⟩

end Go.Proofs.YtjfjbkocopaehaaDoor

/-! obscuraref03.Chain: the walk. -/
namespace Go.Proofs.YtjfjbkocopaehaaDoor
open Go.RowKit

def u32s (l : List Nat) : List Value := l.map (fun q => Value.int .u32 (q : Nat))
theorem own_slice {w : World} {base : Nat} {e : TypeId} {v : Value} {n : Nat} {xs : List Value} (h : w.ownsRow base e 1 v n xs) : ∃ p cap, v = .slice p n cap := by
  rcases h.2 with ⟨rfl, h0⟩ | ⟨g, cap, cur, rfl, _⟩
  · exact ⟨none, 0, by rw [show n = 0 by have := h.1; simp_all]⟩
  · exact ⟨_, _, rfl⟩
theorem own_ge {w : World} {base : Nat} {e : TypeId} {v : Value} {n : Nat} {xs : List Value} (h : w.ownsRow base e 1 v n xs) : ∀ q, v.ownBlock = some q → base ≤ q := by
  intro q hq
  rcases h.2 with ⟨rfl, h0⟩ | ⟨g, cap, cur, rfl, hb, _⟩
  · cases hq
  · have : some g = some q := hq
    cases this; exact hb

/-- What the call answers. -/
def chainRet (w0 w' : World) (L : List Nat) (c : Nat) (r : Ending) : Prop :=
  Below w0.heap.size w0 w' ∧ ((L.length < c ∧ r = .returned (.tuple #[.slice none 0 0, .int .i64 4])) ∨ (L.length = c ∧ ∃ v, r = .returned (.tuple #[v, .int .i64 0]) ∧ SliceAt w' v L))

end Go.Proofs.YtjfjbkocopaehaaDoor

/-! obscuraref12.Default. -/
namespace Go.Proofs.YtjfjbkocopaehaaDoor
open Go.RowKit

def defStep (pr : Nat → Bool) (n : Int) (p : Nat) (e : Int) : Nat := 2 * n.toNat * powv pr n p e
/-- 0, 2 or 4. -/
def defErr (pr : Nat → Bool) (n : Int) (p : Nat) (e lv : Int) : Int :=
  if isDim n = false ∨ lv < 1 ∨ 24 < lv ∨ powv pr n p e = 0 then 2
  else if 2147483647 < defStep pr n p e ∨ (chainOf pr (defStep pr n p e) (lv.toNat + 1)).length < lv.toNat + 1 then 4 else 0
def defPar (pr : Nat → Bool) (n : Int) (p : Nat) (e lv : Int) : Par :=
  if defErr pr n p e lv = 0 then
    { n := n, p := p, r := e, ch := (chainOf pr (defStep pr n p e) (lv.toNat + 1)).tail, sp := (chainOf pr (defStep pr n p e) (lv.toNat + 1)).headD 0, wt := 4, er := 2 }
  else { n := 0, p := 0, r := 0, ch := [], sp := 0, wt := 0, er := 0 }

def defRet (w0 w' : World) (x : Par) (e : Int) (r : Ending) : Prop :=
  Below w0.heap.size w0 w' ∧ ∃ v, r = .returned (.tuple #[x.val v, .int .i64 e]) ∧ SliceAt w' v x.ch

def zeroP : Par := { n := 0, p := 0, r := 0, ch := [], sp := 0, wt := 0, er := 0 }
theorem defPar_zero {pr : Nat → Bool} {n : Int} {p : Nat} {e lv : Int} (h : defErr pr n p e lv ≠ 0) : defPar pr n p e lv = zeroP := by unfold defPar; rw [if_neg h]; rfl

/-- A box of zeros answers as the failures do. -/
theorem def_zero {w0 w' : World} {n : Int} {p : Nat} {e lv k : Int} {r : Ending} (hb : Below w0.heap.size w0 w') (hk : defErr rPrime n p e lv = k) (h0 : k ≠ 0)
    (hr : r = .returned (.tuple #[.agg #[.int .i64 0, .int .u32 0, .int .i64 0, .slice none 0 0, .int .u32 0, .int .i64 0, .int .u32 0], .int .i64 k])) : defRet w0 w' (defPar rPrime n p e lv) (defErr rPrime n p e lv) r := by
  rw [defPar_zero (by rw [hk]; exact h0), hk]
  refine ⟨hb, .slice none 0 0, hr, none, 0, rfl, Nat.le_refl _, by simp [zeroP], fun h => absurd rfl h⟩

theorem powv_odd {pr : Nat → Bool} {n : Int} {p : Nat} {e : Int} (hn : 4 ≤ n) (h : powv pr n p e ≠ 0) : 3 ≤ powv pr n p e ∧ powv pr n p e % 2 = 1 ∧ powv pr n p e % (2 * n).toNat = 1 := by
  unfold powv at h ⊢
  split
  · rename_i hc
    obtain ⟨h1, h2, h3, h4, h5, h6⟩ := hc
    obtain ⟨k, hk⟩ : ∃ k, e.toNat = k + 1 := ⟨e.toNat - 1, by omega⟩
    obtain ⟨m, hm⟩ : ∃ m, (2 * n).toNat = 2 * m := ⟨n.toNat, by omega⟩
    have hp : p % 2 = 1 := by
      have h7 := Nat.div_add_mod p (2 * n).toNat
      rw [h4, hm, Nat.mul_assoc] at h7
      omega
    have e1 : p ^ e.toNat % 2 = 1 := by rw [Nat.pow_mod, hp, Nat.one_pow]
    have e2 : p ^ e.toNat % (2 * n).toNat = 1 := by rw [Nat.pow_mod, h4, Nat.one_pow]; exact Nat.mod_eq_of_lt (by omega)
    refine ⟨?_, e1, e2⟩
    rw [hk, Nat.pow_succ]
    have : 1 ≤ p ^ k := Nat.pos_of_ne_zero (by intro hz; have := Nat.pow_eq_zero.1 hz; omega)
    calc 3 ≤ 1 * p := by omega
      _ ≤ p ^ k * p := Nat.mul_le_mul_right _ this
  · rename_i hc
    exact absurd (if_neg hc) h
theorem Blk.get {w : World} {g : Nat} {cs : List Value} {T : TypeId} (h : Blk w g cs T) (i : Nat) : w.cell? ⟨g, i, none⟩ = cs[i]? := by
  unfold Blk at h
  simp only [World.cell?, h, Option.isSome_none, Bool.false_eq_true, if_false]
  simp
theorem RowAt.same {w w' : World} {b off : Nat} {l : List Nat} (h : RowAt w b off l) (e : w'.heap[b]? = w.heap[b]?) : RowAt w' b off l := by
  refine ⟨?_, fun i hi => ?_, h.rng⟩
  · rw [Array.getElem?_eq_getElem h.blk] at e
    exact (Array.getElem?_eq_some_iff.1 e).1
  · have := h.cell i hi
    simp only [World.cell?] at this ⊢
    rw [e]; exact this
theorem RowAt.tail {w : World} {b off q : Nat} {l : List Nat} (h : RowAt w b off (q :: l)) : RowAt w b (off + 1) l :=
  ⟨h.blk, fun i hi => by
    have := h.cell (i + 1) (by simp; omega)
    rw [List.getElem_cons_succ] at this
    rw [show off + 1 + i = off + (i + 1) by omega]; exact this, fun q hq => h.rng q (List.mem_cons_of_mem _ hq)⟩
theorem set7_ok {w W : World} {B g : Nat} {c0 c1 c2 c3 c4 c5 c6 : Value} {T : TypeId} (h : Blk W g [c0, c1, c2, c3, c4, c5, c6] T) (hb : Below B w W) (hg : B ≤ g) (v0 v1 v2 v3 v4 v5 v6 : Value) :
    Blk (((((((W.setCell ⟨g, 0, none⟩ v0).setCell ⟨g, 1, none⟩ v1).setCell ⟨g, 2, none⟩ v2).setCell ⟨g, 3, none⟩ v3).setCell ⟨g, 4, none⟩ v4).setCell ⟨g, 5, none⟩ v5).setCell ⟨g, 6, none⟩ v6).drew g [v0, v1, v2, v3, v4, v5, v6] T ∧ Below B w (((((((W.setCell ⟨g, 0, none⟩ v0).setCell ⟨g, 1, none⟩ v1).setCell ⟨g, 2, none⟩ v2).setCell ⟨g, 3, none⟩ v3).setCell ⟨g, 4, none⟩ v4).setCell ⟨g, 5, none⟩ v5).setCell ⟨g, 6, none⟩ v6).drew ∧ ∀ b, b ≠ g → (((((((W.setCell ⟨g, 0, none⟩ v0).setCell ⟨g, 1, none⟩ v1).setCell ⟨g, 2, none⟩ v2).setCell ⟨g, 3, none⟩ v3).setCell ⟨g, 4, none⟩ v4).setCell ⟨g, 5, none⟩ v5).setCell ⟨g, 6, none⟩ v6).drew.heap[b]? = W.heap[b]? := by
  refine ⟨?_, ?_, ?_⟩
  · have hF := (((((((h.set 0 v0).set 1 v1).set 2 v2).set 3 v3).set 4 v4).set 5 v5).set 6 v6).drew
    simpa only [List.set_cons_zero, List.set_cons_succ] using hF
  · exact (((((((hb.setCell hg _).setCell hg _).setCell hg _).setCell hg _).setCell hg _).setCell hg _).setCell hg _).drew
  · intro b hne
    have e : ∀ (X : World) (i : Nat) (u : Value), (X.setCell ⟨g, i, none⟩ u).heap[b]? = X.heap[b]? := fun X i u => Below.heap_setCell X _ u b hne
    have e2 : ∀ X : World, X.drew.heap[b]? = X.heap[b]? := fun X => rfl
    rw [e2, e, e, e, e, e, e, e]
theorem infoP : (Tryd.prog.info? 25).map (·.size) = some 7 := by kernel_rfl
theorem BoxP.ofBlk {w : World} {g : Nat} {x : Par} {cv : Value} {T : TypeId} (h : Blk w g [.int .i64 x.n, .int .u32 x.p, .int .i64 x.r, cv, .int .u32 x.sp, .int .i64 x.wt, .int .u32 x.er] T) : BoxP w g x cv :=
  ⟨h.cell 0 (by simp), h.cell 1 (by simp), h.cell 2 (by simp), h.cell 3 (by simp), h.cell 4 (by simp), h.cell 5 (by simp), h.cell 6 (by simp)⟩
end Go.Proofs.YtjfjbkocopaehaaDoor
