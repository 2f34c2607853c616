/- ring.each: a row for each prime, filled by a function. -/
import Derived.Test.YtjpcljnojipdnaaGreatPubD
namespace Go.Proofs.YtjpcljnojipdnaaGreat
open Go.RowKit Go.Shelf
attribute [local go_sem] Oper.semAt_some
set_option linter.unusedVariables false

theorem infoRow : (Tryz.prog.info? 23).map (fun i => (i.zero, i.size, i.bytes)) = some (some (.slice none 0 0), 1, 24) := by kernel_rfl
theorem info_partsE {e : TypeId} {z : Value} {n : Nat} (h : (Tryz.prog.info? e).map (fun i => (i.zero, i.size, i.bytes)) = some (some z, 1, n)) : ∃ i, Tryz.prog.info? e = some i ∧ i.zero = some z ∧ i.size = 1 ∧ i.bytes = n := by
  obtain ⟨i, hi, hzz⟩ := Option.map_eq_some_iff.1 h
  simp only [Prod.mk.injEq] at hzz
  exact ⟨i, hi, hzz.1, hzz.2.1, hzz.2.2⟩

/-- What each holds between two rounds. -/
def EaI (base o L : Nat) (W0 W : World) (rows : List (List Nat)) : Prop :=
  ∃ (v : Value) (vs : List Value), W.ownsRow base 23 1 v rows.length vs ∧ RowsV base W vs rows ∧ Blk W o [.int .i64 L, .bool false, v] 32 ∧ BelX o base W0 W
theorem EaI.own {β : Type} {base o L B : Nat} {W0 : World} (hb : base ≤ W0.heap.size) (hB : base ≤ B) (rw_ : β → List (List Nat)) : OwnFrom B (fun (s : β) W => EaI base o L W0 W (rw_ s)) := by
  rintro s X Y row ⟨v, vs, h1, h2, h3, h4⟩ hg hr
  have hne : ∀ r, row = some r → r < base ∨ (∀ cs, X.heap[r]? ≠ some (.cells cs 22 (0, 0))) := fun r e => .inr (by obtain ⟨o, ho, hc⟩ := (hr r e).2; exact cells_ne ho hc)
  refine ⟨v, vs, ?_, h2.other hg hne, ?_, h4.gr hg (Nat.le_trans hb h4.size) (fun q e => .inr (Nat.le_trans hB (hr q e).1))⟩
  · refine ⟨h1.1, ?_⟩
    rcases h1.2 with h5 | ⟨g, cap, cur, e, hb2, hc, rest⟩
    · exact .inl h5
    · refine .inr ⟨g, cap, cur, e, hb2, ?_, rest⟩
      rw [hg.block g (Array.getElem?_eq_some_iff.1 hc).1 (fun er => by obtain ⟨ob, ho, hc2⟩ := (hr g er.symm).2; exact cells_ne ho hc2 _ hc)]
      exact hc
  · show Y.heap[o]? = _
    rw [hg.block o h3.lt (fun er => by obtain ⟨ob, ho, hc2⟩ := (hr o er.symm).2; exact cells_ne ho hc2 _ h3)]
    exact h3
theorem ea_own {base n : Nat} {W W2 : World} {v : Value} {vs : List Value} {o : Obj} {T : TypeId} (h1 : W.ownsRow base T 1 v n vs) (hf : (W.alloc o).grownBy W2 (some W.heap.size)) : W2.ownsRow base T 1 v n vs := by
  have hsf := hf.size
  have hs1 : (W.alloc o).heap.size = W.heap.size + 1 := by simp
  have gW : W.grownBy W2 none := ⟨hf.os, hf.tape, hf.output, by omega, fun k hk2 _ => (hf.block k (by omega) (by intro e; injection e with e; omega)).trans (Below.heap_alloc W _ k hk2)⟩
  exact h1.kept gW (by
    rcases hx : v.ownBlock with _ | k
    · exact .inl rfl
    · exact .inr (by simp))
/-- A round: a row made, filled, appended, stored. -/
theorem EaI.round {base o L : Nat} {W0 W W2 W3 : World} {v v' : Value} {vs : List Value} {rows : List (List Nat)} {r : List Nat} {zs : List Value} {tmp : Obj} {g : Nat} (hb : base ≤ W0.heap.size) (ho : o < base) (hg0 : g = W.heap.size) (hn : r.length ≤ 4096)
    (h1 : W.ownsRow base 23 1 v rows.length vs) (h2 : RowsV base W vs rows) (h3 : Blk W o [.int .i64 L, .bool false, v] 32) (h4 : BelX o base W0 W)
    (hf : (W.alloc (.cells zs.toArray 22)).grownBy W2 (some g)) (hk : Blk W2 g (u32s r) 22) (ht : tmp.isCells = true)
    (ha : (W2.alloc tmp).grownBy W3 v.ownBlock) (hw : W3.ownsRow base 23 1 v' (rows.length + 1) (vs ++ [.slice (some ⟨g, 0, none⟩) r.length r.length])) :
    EaI base o L W0 (W3.setCell ⟨o, 2, none⟩ v') (rows ++ [r]) ∧ KeepsOthers W (W3.setCell ⟨o, 2, none⟩ v') ∧ BelX o base W (W3.setCell ⟨o, 2, none⟩ v') := by
  subst hg0
  have hWb : base ≤ W.heap.size := Nat.le_trans hb h4.size
  have hs1 : (W.alloc (.cells zs.toArray 22)).heap.size = W.heap.size + 1 := by simp
  have hsf := hf.size
  -- from W to W2
  have gW : W.grownBy W2 none := ⟨hf.os, hf.tape, hf.output, by omega, fun k hk2 _ => (hf.block k (by omega) (by intro e; injection e with e; omega)).trans (Below.heap_alloc W _ k hk2)⟩
  have h1b : W2.ownsRow base 23 1 v rows.length vs := h1.kept gW (by
    rcases hx : v.ownBlock with _ | k
    · exact .inl rfl
    · exact .inr (by simp))
  have h2b : RowsV base W2 vs rows := h2.other gW (fun r e => by cases e)
  have h3b : Blk W2 o [.int .i64 L, .bool false, v] 32 := (gW.block o h3.lt (by simp)).trans h3
  -- from W2 to W3
  have hvb : ∀ q, v.ownBlock = some q → base ≤ q ∧ ∃ cs, W2.heap[q]? = some (.cells cs 23 (0, 0)) := by
    intro q hq
    refine ⟨(h1b.lt q hq).1, ?_⟩
    rcases h1b.2 with ⟨rfl, _⟩ | ⟨g, cap, cur, rfl, _, hc, _⟩
    · cases hq
    · cases hq; exact ⟨cur, hc⟩
  have hsa := ha.size
  have hs2 : (W2.alloc tmp).heap.size = W2.heap.size + 1 := by simp
  have gA : W2.grownBy W3 v.ownBlock := ⟨ha.os, ha.tape, ha.output, by omega, fun k hk2 hne => (ha.block k (by omega) hne).trans (Below.heap_alloc W2 _ k hk2)⟩
  have h2c : RowsV base W3 vs rows := h2b.other gA (fun q hq => .inr (by obtain ⟨_, cs, hc⟩ := hvb q hq; exact type_ne hc (by decide)))
  have hkc : Blk W3 W.heap.size (u32s r) 22 := by
    have hl := hk.lt
    refine (gA.block _ hl (fun e => ?_)).trans hk
    obtain ⟨_, cs, hc⟩ := hvb _ e.symm
    exact type_ne hc (by decide) _ hk
  have h3c : Blk W3 o [.int .i64 L, .bool false, v] 32 := by
    refine (gA.block o h3b.lt (fun e => ?_)).trans h3b
    obtain ⟨_, cs, hc⟩ := hvb _ e.symm
    exact type_ne hc (by decide) _ h3b
  have hbx : BelX o base W W3 := by
    have e1 : BelX o base W W2 := ⟨gW.os, gW.tape, gW.output, gW.size, fun k hk2 _ => gW.block k (by omega) (by simp)⟩
    exact e1.gr gA (by omega) (fun q hq => .inr (hvb q hq).1)
  -- the store
  have gS : W3.grownBy (W3.setCell ⟨o, 2, none⟩ v') (some o) := ⟨rfl, rfl, rfl, by simp, fun k hk2 hne => Below.heap_setCell W3 ⟨o, 2, none⟩ v' k (by intro e; exact hne (by rw [e]))⟩
  have h2d := (h2c.snoc (v := .slice (some ⟨W.heap.size, 0, none⟩) r.length r.length) (r := r) (own_blk (w := W3) (by exact hkc) (by unfold u32s; rw [List.length_map]) hWb hn)).other gS (fun q hq => .inl (by injection hq with hq; omega))
  refine ⟨⟨v', vs ++ [.slice (some ⟨W.heap.size, 0, none⟩) r.length r.length], ?_, h2d, ?_, (h4.trans hbx).set 2 v'⟩, ?_, hbx.set 2 v'⟩
  · rw [List.length_append, List.length_singleton]
    refine hw.kept gS ?_
    rcases hx : v'.ownBlock with _ | k
    · exact .inl rfl
    · refine .inr (fun e => ?_)
      injection e with e
      have := (hw.lt k hx).1
      omega
  · exact h3c.set 2 v'
  · refine ⟨by have := gW.size; simp; omega, fun k ob hk2 hc => ?_⟩
    have hkl := (Array.getElem?_eq_some_iff.1 hk2).1
    have e2 := (gW.block k hkl (by simp)).trans hk2
    have e3 : W3.heap[k]? = some ob := (gA.block k (Array.getElem?_eq_some_iff.1 e2).1 (fun e => by obtain ⟨_, cs, hcc⟩ := hvb k e.symm; exact cells_ne e2 hc _ hcc)).trans e2
    exact (gS.block k (Array.getElem?_eq_some_iff.1 e3).1 (fun e => by injection e with e; subst e; exact cells_ne e3 hc _ h3c)).trans e3

/-- Rows of rows that the call owns: the value, the rows. -/
def OwnR (base : Nat) (W : World) (v : Value) (rows : List (List Nat)) : Prop := ∃ vs, W.ownsRow base 23 1 v rows.length vs ∧ RowsV base W vs rows
/-- A block that holds no such rows. -/
def NoRow (base : Nat) (W : World) (r : Nat) : Prop := r < base ∨ ((∀ cs, W.heap[r]? ≠ some (.cells cs 22 (0, 0))) ∧ (∀ cs, W.heap[r]? ≠ some (.cells cs 23 (0, 0))))
theorem NoRow.ofBlk {base r : Nat} {W : World} {cs : List Value} {T : TypeId} (h : Blk W r cs T) (h1 : T ≠ 22) (h2 : T ≠ 23) : NoRow base W r := .inr ⟨type_ne h h1, type_ne h h2⟩
theorem NoRow.ofNot {base r : Nat} {W : World} {o : Obj} (h : W.heap[r]? = some o) (hc : o.isCells = false) : NoRow base W r := .inr ⟨cells_ne h hc, cells_ne h hc⟩
theorem own_no {base n : Nat} {W W' : World} {v : Value} {vs : List Value} {row : Option Nat} (h : W.ownsRow base 23 1 v n vs) (hg : W.grownBy W' row) (hne : ∀ r, row = some r → NoRow base W r) : W'.ownsRow base 23 1 v n vs := by
  refine ⟨h.1, ?_⟩
  rcases h.2 with h5 | ⟨g, cap, cur, e, hb2, hc, rest⟩
  · exact .inl h5
  · refine .inr ⟨g, cap, cur, e, hb2, ?_, rest⟩
    rw [hg.block g (Array.getElem?_eq_some_iff.1 hc).1 (fun er => ?_)]
    · exact hc
    · rcases hne g er.symm with h1 | ⟨_, h1⟩
      · omega
      · exact h1 _ hc
theorem OwnR.other {base : Nat} {W W' : World} {v : Value} {rows : List (List Nat)} {row : Option Nat} (h : OwnR base W v rows) (hg : W.grownBy W' row) (hne : ∀ r, row = some r → NoRow base W r) : OwnR base W' v rows := by
  obtain ⟨vs, h1, h2⟩ := h
  refine ⟨vs, own_no h1 hg hne, h2.other hg (fun r e => ?_)⟩
  rcases hne r e with h3 | ⟨h3, _⟩
  · exact .inl h3
  · exact .inr h3
theorem gr_belowN {W W' : World} (h : Below W.heap.size W W') : W.grownBy W' none := ⟨h.os, h.tape, h.output, h.size, fun k hk _ => h.block k hk⟩
theorem OwnR.below {base : Nat} {W W' : World} {v : Value} {rows : List (List Nat)} (h : OwnR base W v rows) (hb : Below W.heap.size W W') : OwnR base W' v rows := h.other (gr_belowN hb) (fun r e => by cases e)
theorem OwnR.mono {base b2 : Nat} {W : World} {v : Value} {rows : List (List Nat)} (h : OwnR base W v rows) (hb : b2 ≤ base) : OwnR b2 W v rows := by
  obtain ⟨vs, h1, h2⟩ := h
  refine ⟨vs, ⟨h1.1, ?_⟩, h2.mono hb⟩
  rcases h1.2 with h5 | ⟨g, cap, cur, e, hb2, rest⟩
  · exact .inl h5
  · exact .inr ⟨g, cap, cur, e, Nat.le_trans hb hb2, rest⟩
theorem OwnR.slice {base R N : Nat} {W : World} {v : Value} {F : Nat → Nat → Nat} (h : OwnR base W v (elRows R N F)) (hR : R ≤ 4096) (hN : N ≤ 4096) (hF : ∀ i, i < R → ∀ k, F i k < 4294967296) : SliceR W v (elRows R N F) := by
  obtain ⟨vs, h1, h2⟩ := h
  refine h2.slice h1 (by rw [elRows_len]; exact hR) (fun r hr => ?_)
  unfold elRows at hr
  obtain ⟨i, hi, rfl⟩ := List.mem_map.1 hr
  refine ⟨by rw [rowOf_len]; exact hN, fun z hz => ?_⟩
  unfold rowOf at hz
  obtain ⟨k, hk, rfl⟩ := List.mem_map.1 hz
  exact hF i (List.mem_range.1 hi) k
theorem OwnR.nil (base : Nat) (W : World) : OwnR base W (.slice none 0 0) [] := ⟨[], World.ownsRow_nil _ _ _ _, RowsV.nil _ _⟩
theorem OwnR.val {base : Nat} {W : World} {v : Value} {rows : List (List Nat)} (h : OwnR base W v rows) : ∃ p c, v = .slice p rows.length c := by obtain ⟨vs, h1, _⟩ := h; exact own_slice h1
/-- Three cells of an element's box stored. -/
theorem ownr_set3 {base c : Nat} {W : World} {v x0 x1 x2 : Value} {rows : List (List Nat)} (u0 u1 u2 : Value) (h : OwnR base W v rows) (hb : Blk W c [x0, x1, x2] 32) :
    OwnR base (((W.setCell ⟨c, 0, none⟩ u0).setCell ⟨c, 1, none⟩ u1).setCell ⟨c, 2, none⟩ u2) v rows ∧ Blk (((W.setCell ⟨c, 0, none⟩ u0).setCell ⟨c, 1, none⟩ u1).setCell ⟨c, 2, none⟩ u2) c [u0, u1, u2] 32
    ∧ W.grownBy (((W.setCell ⟨c, 0, none⟩ u0).setCell ⟨c, 1, none⟩ u1).setCell ⟨c, 2, none⟩ u2) (some c) := by
  have g1 : W.grownBy (((W.setCell ⟨c, 0, none⟩ u0).setCell ⟨c, 1, none⟩ u1).setCell ⟨c, 2, none⟩ u2) (some c) := gr_set (gr_set (gr_set (gr_refl _ _) 0 u0) 1 u1) 2 u2
  exact ⟨h.other g1 (fun r e => by injection e with e; subst e; exact NoRow.ofBlk hb (by decide) (by decide)), ((hb.set 0 u0).set 1 u1).set 2 u2, g1⟩
theorem below_gr {n : Nat} {w W W' : World} {c : Nat} (h : Below n w W) (hg : W.grownBy W' (some c)) (hn : n ≤ W.heap.size) (hc : n ≤ c) : Below n w W' := h.grown hg hn (fun q e => by injection e with e; omega)

/-- What a fill does. -/
def Fills (w : World) (f : FuncId) (caps : Array Value) (R N : Nat) (Q : Nat → Nat) (F : Nat → Nat → Nat) : Prop :=
  ∀ (i : Nat) (W : World) (g : Nat), i < R → Below w.heap.size w W → w.heap.size ≤ g → Blk W g (List.replicate N (.int .u32 0)) 22 →
    Calls Tryz.prog f (#[.int .i64 (i : Nat), .int .u64 (Q i : Nat), .slice (some ⟨g, 0, none⟩) N N] ++ caps) W fun e W' => e = .returned (.tuple #[]) ∧ W.grownBy W' (some g) ∧ Blk W' g (u32s (rowOf N (F i))) 22

theorem blk_appT {W W3 : World} {o base n : Nat} {cs : List Value} {T U : TypeId} {v : Value} {xs : List Value} {tmp : Obj} (h : Blk W o cs T) (hrow : W.ownsRow base U 1 v n xs) (hne : U ≠ T) (ha : (W.alloc tmp).grownBy W3 v.ownBlock) : Blk W3 o cs T := by
  refine (ha.block o (by have := h.lt; simp; omega) (fun e => ?_)).trans (h.alloc tmp)
  rcases hrow.2 with ⟨rfl, _⟩ | ⟨g, cap, cur, rfl, _, hc, _⟩
  · cases e
  · injection e with e
    subst e
    exact type_ne hc hne _ h

/-- The end: the answer stored, the mark taken. -/
theorem ea_out {base D c n : Nat} {W : World} {v u0 u1 u2 x0 x1 x2 : Value} {vs : List Value} {rows : List (List Nat)} {T : TypeId} {ds : Option (List Deferred)} {d2 : Obj} (h1 : W.ownsRow base 23 1 v n vs) (h2 : RowsV base W vs rows) (hc : c < base) (hD : base ≤ D) (hK : W.heap[D]? = some (.deferred ds)) (hb : Blk W c [x0, x1, x2] T) :
    ((((W.setCell ⟨c, 0, none⟩ u0).setCell ⟨c, 1, none⟩ u1).setCell ⟨c, 2, none⟩ u2).putObj D d2).ownsRow base 23 1 v n vs ∧ RowsV base ((((W.setCell ⟨c, 0, none⟩ u0).setCell ⟨c, 1, none⟩ u1).setCell ⟨c, 2, none⟩ u2).putObj D d2) vs rows
    ∧ Blk ((((W.setCell ⟨c, 0, none⟩ u0).setCell ⟨c, 1, none⟩ u1).setCell ⟨c, 2, none⟩ u2).putObj D d2) c [u0, u1, u2] T ∧ BelX c base W ((((W.setCell ⟨c, 0, none⟩ u0).setCell ⟨c, 1, none⟩ u1).setCell ⟨c, 2, none⟩ u2).putObj D d2)
    ∧ ((((W.setCell ⟨c, 0, none⟩ u0).setCell ⟨c, 1, none⟩ u1).setCell ⟨c, 2, none⟩ u2).heap[D]? = some (.deferred ds)) := by
  have hK1 : (((W.setCell ⟨c, 0, none⟩ u0).setCell ⟨c, 1, none⟩ u1).setCell ⟨c, 2, none⟩ u2).heap[D]? = some (.deferred ds) := by
    rw [Below.heap_setCell _ ⟨c, 2, none⟩ _ D (by show D ≠ c; omega), Below.heap_setCell _ ⟨c, 1, none⟩ _ D (by show D ≠ c; omega), Below.heap_setCell _ ⟨c, 0, none⟩ _ D (by show D ≠ c; omega)]
    exact hK
  have g1 : W.grownBy (((W.setCell ⟨c, 0, none⟩ u0).setCell ⟨c, 1, none⟩ u1).setCell ⟨c, 2, none⟩ u2) (some c) := gr_set (gr_set (gr_set (gr_refl _ _) 0 u0) 1 u1) 2 u2
  have k1 := ((hb.set 0 u0).set 1 u1).set 2 u2
  generalize ((W.setCell ⟨c, 0, none⟩ u0).setCell ⟨c, 1, none⟩ u1).setCell ⟨c, 2, none⟩ u2 = WS at g1 k1 hK1 ⊢
  have g2 : WS.grownBy (WS.putObj D d2) (some D) := grownBy_putObj' _ _ _
  have a1 : WS.ownsRow base 23 1 v n vs := h1.kept g1 (by
    rcases hx : v.ownBlock with _ | k
    · exact .inl rfl
    · refine .inr (fun e => ?_)
      injection e with e
      have := (h1.lt k hx).1
      omega)
  have a2 : RowsV base WS vs rows := h2.other g1 (fun q hq => .inl (by injection hq with hq; omega))
  refine ⟨?_, a2.other g2 (fun q hq => .inr (by injection hq with hq; subst hq; exact cells_ne hK1 rfl)), ?_, ?_, hK1⟩
  · refine ⟨a1.1, ?_⟩
    rcases a1.2 with h5 | ⟨g, cap, cur, e, hb2, hc2, rest⟩
    · exact .inl h5
    · refine .inr ⟨g, cap, cur, e, hb2, ?_, rest⟩
      rw [g2.block g (Array.getElem?_eq_some_iff.1 hc2).1 (fun er => by injection er with er; subst er; exact cells_ne hK1 rfl _ hc2)]
      exact hc2
  · exact (g2.block c k1.lt (by intro e; injection e with e; omega)).trans k1
  · exact ((BelX.refl _ _ W).gr g1 (by have := (Array.getElem?_eq_some_iff.1 hK).1; omega) (fun q hq => .inl (by injection hq with hq; exact hq.symm))).gr g2 (by have := (Array.getElem?_eq_some_iff.1 hK1).1; omega) (fun q hq => .inr (by injection hq with hq; omega))

set_option maxHeartbeats 4000000 in
set_option maxRecDepth 100000 in
theorem each_any (x : Par) (P L N : Nat) (cv : Value) (w : World) (f : FuncId) (hcf : ∀ (xs : Array Value) (W : World), (callFunc f xs).run Tryz.prog W = .ok (.enter f xs) W) (caps : Array Value) (F : Nat → Nat → Nat)
    (hx : Good x) (hN : x.n = N) (hcv : SliceAt w cv x.ch) (hB : BoxP w P x cv) (hP : P < w.heap.size) (hL1 : 1 ≤ L) (hL : L ≤ x.ch.length) (hF : ∀ i, i < L → ∀ k, F i k < 4294967296)
    (hfill : Fills w f caps L N (fun i => x.ch.getD i 0) F) :
    Calls Tryz.prog 84 #[.pointer (some ⟨P, 0, none⟩), .int .i64 L, .bool false, .func (.func f) #[] caps] w fun e w' => ∃ v, e = .returned (elVal L false v) ∧ OwnR w.heap.size w' v (elRows L N F) ∧ Below w.heap.size w w' := by
  have hN32 : N ≤ 32 := by have := isDim_cases hx.dim; omega
  have HX := Lib.hid hx; have HCV := Lib.hid hcv; have HB := Lib.hid hB; have HF := Lib.hid hF; have HFI := Lib.hid hfill; have HN := Lib.hid hN
  clear hx hcv hB hF hfill hN
  refine (callsIn_wide (n := 9)).1 ?_
  refine callsIn_of_wp_marks Tryz.func84 rfl trivial ?_ rfl
  simp only [Tryz.ntmps84, List.size_toArray, List.length_cons, List.length_nil, Nat.reduceAdd, Nat.reduceSub, Array.replicate_succ, Array.replicate_zero, List.push_toArray, List.append_toArray, List.nil_append, List.cons_append]
  gi_wp2_with (first | (refine ⟨trivial, ?_⟩; gi_at_call 133; refine (callsIn_wide.2 (moduli_any _ _ _ P L false _ rfl rfl rfl)).mono ?_; rintro e w3 ⟨rfl, hw3⟩; (have HW3 := Lib.hid hw3); clear hw3) | exact wpIn_label ?_ | refine wpIn_label ?_)
  have hsz : w3.heap.size = w.heap.size + 7 := by rw [← HW3.out]; simp
  have hbW : Below w.heap.size w w3 := by
    rw [← HW3.out]
    exact (((((((Below.refl _ _).alloc (Nat.le_refl _) _).alloc (by simp) _).alloc (by simp; omega) _).alloc (by simp; omega) _).alloc (by simp; omega) _).alloc (by simp; omega) _).alloc (by simp; omega) _
  have x0 : w3.cell? ⟨w.heap.size, 0, none⟩ = some (.pointer (some ⟨P, 0, none⟩)) := by rw [← HW3.out]; simp [go_sem]
  have x1 : w3.cell? ⟨w.heap.size + 1, 0, none⟩ = some (.func (.func f) #[] caps) := by rw [← HW3.out]; simp [go_sem]
  have x2 : Blk w3 (w.heap.size + 1 + 1) [.int .i64 0, .bool false, .slice none 0 0] 32 := by
    rw [← HW3.out]
    have h := ((((Blk.new ((w.alloc (.cells #[.pointer (some ⟨P, 0, none⟩)] 125)).alloc (.cells #[.func (.func f) #[] caps] 128)) #[.int .i64 0, .bool false, .slice none 0 0] 32).alloc (.cells #[.int .i64 L, .bool false, .slice none 0 0] 32)).alloc (.cells #[.pointer (some ⟨P, 0, none⟩)] 125)).alloc (.cells #[.int .i64 L] 3)).alloc (.cells #[.bool false] 4)
    simpa using h
  have x3 : Blk w3 (w.heap.size + 1 + 1 + 1) [.int .i64 L, .bool false, .slice none 0 0] 32 := by
    rw [← HW3.out]
    have h := (((Blk.new (((w.alloc (.cells #[.pointer (some ⟨P, 0, none⟩)] 125)).alloc (.cells #[.func (.func f) #[] caps] 128)).alloc (.cells #[.int .i64 0, .bool false, .slice none 0 0] 32)) #[.int .i64 L, .bool false, .slice none 0 0] 32).alloc (.cells #[.pointer (some ⟨P, 0, none⟩)] 125)).alloc (.cells #[.int .i64 L] 3)).alloc (.cells #[.bool false] 4)
    simpa using h
  have x4 : w3.cell? ⟨w.heap.size + 1 + 1 + 1 + 1, 0, none⟩ = some (.pointer (some ⟨P, 0, none⟩)) := by rw [← HW3.out]; simp [go_sem]
  have x5 : w3.cell? ⟨w.heap.size + 1 + 1 + 1 + 1 + 1, 0, none⟩ = some (.int .i64 L) := by rw [← HW3.out]; simp [go_sem]
  have x6 : w3.cell? ⟨w.heap.size + 1 + 1 + 1 + 1 + 1 + 1, 0, none⟩ = some (.bool false) := by rw [← HW3.out]; simp [go_sem]
  obtain ⟨pc, ccv, hcve, hc1, hc2, hcr⟩ := HCV.out
  obtain ⟨b, off, rfl, hrowc⟩ := hcr (by intro e; rw [e] at hL; simp at hL; omega)
  have hM : MoB w3 (w.heap.size + 1 + 1 + 1 + 1) (w.heap.size + 1 + 1 + 1 + 1 + 1) (w.heap.size + 1 + 1 + 1 + 1 + 1 + 1) P b off x.ch.length ccv L false x := by
    refine ⟨x4, x5, x6, ?_, ?_, hrowc.below hbW hrowc.blk, by omega, by omega, by omega, by omega⟩
    · exact ((below_at hbW hP).trans HB.out.ch).trans (congrArg some hcve)
    · exact (below_at hbW hP).trans HB.out.sp
  have hno : NoX (w.heap.size + 1 + 1 + 1) (w.heap.size + 1 + 1 + 1 + 1) (w.heap.size + 1 + 1 + 1 + 1 + 1) (w.heap.size + 1 + 1 + 1 + 1 + 1 + 1) P b := ⟨by omega, by omega, by omega, by omega, by have := hrowc.blk; omega⟩
  have vn : Hid (w3.cell? ⟨P, 0, none⟩ = some (.int .i64 N)) := by
    have h := (below_at hbW hP (i := 0)).trans HB.out.n
    rw [HN.out] at h; exact h
  have HM := Lib.hid hM; have HNO := Lib.hid hno; have HBW := Lib.hid hbW; have X0 := Lib.hid x0; have X1 := Lib.hid x1; have X2 := Lib.hid x2; have X3 := Lib.hid x3; have HSZ := Lib.hid hsz
  have hl2 := HX.out.l2
  obtain ⟨i0, hi0, hz0, hz1, hz2⟩ := info_partsE infoRow
  have hmk := fun wx => run_make_row' (P := Tryz.prog) 23 22 (.int .u32 0) 4 Tryz.underlying23 infoU32 rfl .i64 .i64 N (by omega) (by omega) wx
  clear hM hno hbW x0 x1 x2 x3 x4 x5 x6 hcve hcr hrowc hsz
  refine wpIn_rangeFunc_ownH rfl (by decide) (gf := 148) (lb := #[.pointer (some ⟨w.heap.size + 1 + 1 + 1 + 1, 0, none⟩), .pointer (some ⟨w.heap.size + 1 + 1 + 1 + 1 + 1, 0, none⟩), .pointer (some ⟨w.heap.size + 1 + 1 + 1 + 1 + 1 + 1, 0, none⟩)]) rfl trivial (enters_of Tryz.func148 (by kernel_rfl) rfl)
    (modulx_stops 8 (by decide) (w.heap.size + 1 + 1 + 1) _ _ _ P b off ccv L L false x hL (by omega) hc1 rfl w3 HNO.out HM.out) BelX.trans (belxK_b (Nat.le_refl _)) (Below.refl _ _) (fun _ => rfl)
    (fun pre W => EaI w3.heap.size (w.heap.size + 1 + 1 + 1) L w3 W (pre.map (fun y => rowOf N (F y.1))))
    (fun c pre W => False)
    (EaI.own (Nat.le_refl _) (Nat.le_refl _) _)
    (fun c => ownFrom_pure _ _)
    ⟨.slice none 0 0, [], World.ownsRow_nil _ _ _ _, RowsV.nil _ _, X3.out, BelX.refl _ _ _⟩
    (fun y a' W => a' = { tmps := #[.pointer (some ⟨P, 0, none⟩), .int .i64 L, .bool false, .func (.func f) #[] caps, .pointer (some ⟨w.heap.size, 0, none⟩), undef, undef, .pointer (some ⟨w.heap.size + 1, 0, none⟩), .pointer (some ⟨w.heap.size + 1 + 1, 0, none⟩), .pointer (some ⟨w.heap.size + 1 + 1 + 1, 0, none⟩), .int .i64 (y.1 : Nat), .int .u32 ((qsOf x L false).getD y.1 0 : Nat), undef, .int .i64 L, .bool false, .agg #[.int .i64 L, .bool false, .slice none 0 0], .pointer (some ⟨P, 0, none⟩), .int .i64 L, .bool false, .func (.func 148) #[] #[.pointer (some ⟨w.heap.size + 1 + 1 + 1 + 1, 0, none⟩), .pointer (some ⟨w.heap.size + 1 + 1 + 1 + 1 + 1, 0, none⟩), .pointer (some ⟨w.heap.size + 1 + 1 + 1 + 1 + 1 + 1, 0, none⟩)], .int .i64 (y.1 : Nat), .int .u32 ((qsOf x L false).getD y.1 0 : Nat), undef, undef, undef, undef, undef, undef, undef, undef, undef, undef, undef, undef, undef, undef, undef, undef, undef, undef], defers := [] })
    (fun y a' => ownFrom_pure _ (fun _ => _))
    ?assign ?body ?done ?stop
  case stop => intro D c pre W hD hpre h; exact h.elim
  case assign =>
    rintro l pre y W K hI hK
    unfold encQ
    gi_wp2
    exact hK _ _ (KeepsFrom.refl _ _) (BelX.refl _ _ _) hI rfl
  case body =>
    rintro l pre ⟨i, hiR⟩ a' W hl ⟨r0, hr0⟩ ⟨v, vs, h1, h2, h3, h4⟩ rfl hlt
    have hrl : (pre.map (fun y : Idx L => rowOf N (F y.1))).length = pre.length := by simp
    rw [hrl] at h1
    obtain ⟨pv, capv, rfl⟩ := own_slice h1
    have hq : (qsOf x L false).getD i 0 = x.ch.getD i 0 := by rw [qs_at hL hiR, List.getD_eq_getElem?_getD, List.getElem?_eq_getElem (by omega)]; rfl
    have hfl := fun (W1 : World) (g : Nat) => HFI.out i W1 g hiR
    obtain ⟨q, hqq⟩ : ∃ q, x.ch.getD i 0 = q := ⟨_, rfl⟩
    have hq2 : q ≤ 2147483647 := by
      rw [← hqq, List.getD_eq_getElem?_getD, List.getElem?_eq_getElem (show i < x.ch.length by omega)]
      exact (HX.out.ch _ (List.getElem_mem _)).2.1
    dsimp only at hfl ⊢
    rw [hqq] at hq hfl
    rw [hq]
    have e1 : IntKind.u64.wrap (q : Int) = (q : Int) := wraps_u64 _ (by omega) (by omega)
    have HFL := Lib.hid hfl
    have hsz := HSZ.out
    have hWs := h4.size
    have c0 := (h4.cell (k := w.heap.size) (i := 0) (by omega) (by omega)).trans X0.out
    have c1 := (h4.cell (k := w.heap.size + 1) (i := 0) (by omega) (by omega)).trans X1.out
    have cn := (h4.cell (k := P) (i := 0) (by omega) (by omega)).trans vn.out
    have hbW2 : Below w.heap.size w (W.alloc (.cells (madeCells #[.int .u32 0] N) 22)) := (HBW.out.trans ((h4.mono (by omega)).below (by omega))).alloc (by omega) _
    have hbk : Blk (W.alloc (.cells (madeCells #[.int .u32 0] N) 22)) W.heap.size (List.replicate N (.int .u32 0)) 22 := by
      have h := Blk.new W (madeCells #[.int .u32 0] N) 22
      rw [made_list] at h; exact h
    have H1 := Lib.hid h1; have H2 := Lib.hid h2; have H3 := Lib.hid h3; have H4 := Lib.hid h4; have HBW2 := Lib.hid hbW2; have HBK := Lib.hid hbk; have HRL := Lib.hid hrl
    have hpl : pre.length ≤ 24 := by omega
    clear h1 h2 h3 h4 hbW2 hbk hfl hq hqq hr0 hrl
    have hlW0 : w.heap.size < W.heap.size := by omega
    have hlW1 : w.heap.size + 1 < W.heap.size := by omega
    gi_wp2_with (first
      | (refine ⟨trivial, ?_⟩; refine (CallsIn.inRound l (callsIn_wide.2 (HFL.out _ _ HBW2.out (by omega) HBK.out))).mono ?_; rintro e W2 ⟨rfl, hg2, hk2⟩; have HG2 := Lib.hid hg2; have HK2 := Lib.hid hk2; have H3b : Hid (Blk W2 _ _ _) := (hg2.block (w.heap.size + 1 + 1 + 1) (by simp; omega) (by intro e; injection e with e; omega)).trans (H3.out.alloc _); have c3 := H3b.out.cell 2 (by simp); have hW2 := hg2.size; clear hg2 hk2)
      | (gi_at_builtin; refine wpListIn_append_own _ rfl _ _ 30 rfl w3.heap.size 23 i0 (.slice none 0 0) 1 24 Tryz.underlying30 hi0 hz0 hz1 hz2 rfl (by decide) _ _ _ rfl ((ea_own H1.out HG2.out).alloc _) ⟨W2.heap.size, 0, none⟩ 1 1 [.slice (some ⟨W.heap.size, 0, none⟩) N N] rfl rfl (cell_one_new _ _ _) (by simp [Value.oneCell']) (by unfold maxLen; omega) (by omega) (by simp at hW2 ⊢; omega) ?_; intro v' W3 hown' hgrow _; obtain ⟨g', cap', rfl⟩ := ownsRow_succ hown'; have H3c := Lib.hid (blk_appT H3b.out (ea_own H1.out HG2.out) (by decide) hgrow); have c4 := H3c.out.cell 2 (by simp); have f4 := H3c.out.free 2; have HOW := Lib.hid hown'; have HGR := Lib.hid hgrow; clear hown' hgrow))
    have hr := EaI.round (rows := pre.map (fun y : Idx L => rowOf N (F y.1))) (r := rowOf N (F i)) (zs := (madeCells #[.int .u32 0] N).toList) (Nat.le_refl _) (by omega) rfl (by rw [rowOf_len]; omega) (by rw [HRL.out]; exact H1.out) H2.out H3.out H4.out (by simpa using HG2.out) HK2.out rfl HGR.out (by rw [HRL.out, rowOf_len]; exact HOW.out)
    refine ⟨hr.2.1.from _, hr.2.2, ?_⟩
    show EaI _ _ _ _ _ (List.map _ _)
    rw [List.map_append]
    exact hr.1
  case done =>
    rintro D ys W hD hys ⟨v, vs, h1, h2, h3, h4⟩ hK
    have hrl : ys.map (fun y : Idx L => rowOf N (F y.1)) = elRows L N F := by
      unfold elRows
      rw [← hys]
      unfold ixs
      rw [List.map_map]; rfl
    rw [hrl] at h1 h2
    have hsz := HSZ.out
    have d0 := h3.cell 0 (by simp); have d1 := h3.cell 1 (by simp); have d2 := h3.cell 2 (by simp)
    have b2 : Blk W (w.heap.size + 1 + 1) [.int .i64 0, .bool false, .slice none 0 0] 32 := (h4.block _ (by omega) (by omega)).trans X2.out
    have r0 := b2.cell 0 (by simp); have r1 := b2.cell 1 (by simp); have r2 := b2.cell 2 (by simp)
    have s0 := b2.free 0; have s1 := b2.free 1; have s2 := b2.free 2
    obtain ⟨pv, nv, capv, rfl⟩ : ∃ p n c, v = .slice p n c := by obtain ⟨p, c, e⟩ := own_slice h1; exact ⟨p, _, c, e⟩
    have H1 := Lib.hid h1; have H2 := Lib.hid h2; have H3 := Lib.hid h3; have H4 := Lib.hid h4; have HK := Lib.hid hK; have HB2 := Lib.hid b2
    clear h1 h2 h3 h4 hK hys hrl b2
    gi_wp2
    obtain ⟨o1, o2, o3, o4, o5⟩ := ea_out (c := w.heap.size + 1 + 1) (u0 := .int .i64 L) (u1 := .bool false) (u2 := .slice pv nv capv) (d2 := .deferred none) H1.out H2.out (by omega) hD HK.out HB2.out
    have HO5 := Lib.hid o5
    refine ⟨by simp, .inl ⟨_, _, rfl, run_takeDeferred HO5.out, ?_⟩⟩
    have hbF : Below w.heap.size w _ := HBW.out.trans (((H4.out.mono (by omega)).below (by omega)).trans ((o4.mono (by omega)).below (by omega)))
    have q0 := o3.cell 0 (by simp); have q1 := o3.cell 1 (by simp); have q2 := o3.cell 2 (by simp)
    have hsl : OwnR w.heap.size _ (.slice pv nv capv) (elRows L N F) := OwnR.mono ⟨vs, o1, o2⟩ (by omega)
    have HSL := Lib.hid hsl; have HBF := Lib.hid hbF
    clear o1 o2 o3 o4 o5 hsl hbF d0 d1 d2 r0 r1 r2 s0 s1 s2
    generalize (((W.setCell ⟨w.heap.size + 1 + 1, 0, none⟩ (.int .i64 L)).setCell ⟨w.heap.size + 1 + 1, 1, none⟩ (.bool false)).setCell ⟨w.heap.size + 1 + 1, 2, none⟩ (.slice pv nv capv)).putObj D (.deferred none) = WF at q0 q1 q2 HSL HBF ⊢
    refine ⟨elVal L false (.slice pv nv capv), ?_, _, rfl, HSL.out, HBF.out⟩
    unfold elVal
    simp [results, Tryz.f84, go_sem, q0, q1, q2]
end Go.Proofs.YtjpcljnojipdnaaGreat
