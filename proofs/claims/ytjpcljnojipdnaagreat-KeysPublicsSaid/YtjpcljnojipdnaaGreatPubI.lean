/- Public keys: the plain answer; what NewPublic holds from step to step. -/
import Derived.Test.YtjpcljnojipdnaaGreatPubH
import Derived.Test.YtjpcljnojipdnaaGreatRngI
import Derived.Test.YtjpcljnojipdnaaGreatSupH
namespace Go.Proofs.YtjpcljnojipdnaaGreat
open Go.RowKit Go.Shelf
set_option linter.unusedVariables false

def el0 : El := ⟨0, false, []⟩
/-- The noise: the numbers drawn, brought around 0, times the modulus. -/
def noiseZ (pr : Nat → Bool) (x : Par) (l : List Nat) : List Int := l.map (fun v => (((v : Nat) : Int) - (x.er : Nat)) * (modVal pr x x.r : Nat))
/-- The first part's rows. -/
def pubRow (x : Par) (z l : List Int) (rows : List (List Nat)) (i : Nat) : Nat → Nat :=
  sumF (-1) (x.ch.getD i 0) (rowOf x.n.toNat (intF z (x.ch.getD i 0))) (rowOf x.n.toNat (mulF (x.ch.getD i 0) x.n.toNat (rows.getD i []) (rowOf x.n.toNat (intF l (x.ch.getD i 0)))))
/-- The answer: an error, the parts, where it ends. -/
structure PubO where
  er : Int
  a : El
  b : El
  pos : Nat
def pubYes (pr : Nat → Bool) (x : Par) (l : List Int) (rows : List (List Nat)) (z : List Nat) (c : Nat) : PubO :=
  ⟨0, ⟨(x.ch.length : Nat), false, elRows x.ch.length x.n.toNat (pubRow x (noiseZ pr x z) l rows)⟩, ⟨(x.ch.length : Nat), false, rows⟩, c⟩
def pubOut (pr : Nat → Bool) (x : Par) (l : List Int) (s : ByteArray) (a : Nat) : PubO :=
  if csec pr x l = 0 then
    if (rowsGo s x.n.toNat x.ch a x.ch.length).1 = true then
      match numGo s (2 * x.er + 1) (rowsGo s x.n.toNat x.ch a x.ch.length).2.2 x.n.toNat with
      | some r => pubYes pr x l (rowsGo s x.n.toNat x.ch a x.ch.length).2.1 r.1 r.2
      | none => ⟨4, el0, el0, (rowsGo s x.n.toNat x.ch a x.ch.length).2.2⟩
    else ⟨4, el0, el0, (rowsGo s x.n.toNat x.ch a x.ch.length).2.2⟩
  else ⟨2, el0, el0, a⟩
theorem csec_eq (x : Par) (l : List Int) : csec mPrime x l = csec rPrime x l := by unfold csec; rw [okB_eq]
theorem pubOut_eq (x : Par) (l : List Int) (s : ByteArray) (a : Nat) : pubOut mPrime x l s a = pubOut rPrime x l s a := by
  unfold pubOut pubYes noiseZ
  rw [csec_eq, modVal_eq]
theorem pubOut_no {pr : Nat → Bool} {x : Par} {l : List Int} {s : ByteArray} {a : Nat} (h : csec pr x l = 2) : pubOut pr x l s a = ⟨2, el0, el0, a⟩ := by
  unfold pubOut; rw [if_neg (by rw [h]; decide)]
theorem pubOut_short {pr : Nat → Bool} {x : Par} {l : List Int} {s : ByteArray} {a b i N : Nat} {r : List (List Nat)} (h : csec pr x l = 0) (hN : x.n = N) (hi : i ≤ x.ch.length) (hr : rowsGo s N x.ch a i = (false, r, b)) : pubOut pr x l s a = ⟨4, el0, el0, b⟩ := by
  unfold pubOut
  rw [hN, Int.toNat_natCast, rowsGo_false i x.ch.length _ hi hr, if_pos h]
  rfl
theorem pubOut_none {pr : Nat → Bool} {x : Par} {l : List Int} {s : ByteArray} {a b N : Nat} {r : List (List Nat)} (h : csec pr x l = 0) (hN : x.n = N) (hr : rowsGo s N x.ch a x.ch.length = (true, r, b)) (hz : numGo s (2 * x.er + 1) b N = none) : pubOut pr x l s a = ⟨4, el0, el0, b⟩ := by
  unfold pubOut
  rw [hN, Int.toNat_natCast, hr, if_pos h]
  simp only [if_true]
  rw [hz]
theorem pubOut_yes {pr : Nat → Bool} {x : Par} {l : List Int} {s : ByteArray} {a b c N : Nat} {r : List (List Nat)} {z : List Nat} (h : csec pr x l = 0) (hN : x.n = N) (hr : rowsGo s N x.ch a x.ch.length = (true, r, b)) (hz : numGo s (2 * x.er + 1) b N = some (z, c)) : pubOut pr x l s a = pubYes pr x l r z c := by
  unfold pubOut
  rw [hN, Int.toNat_natCast, hr, if_pos h]
  simp only [if_true]
  rw [hz]
theorem csec_split {pr : Nat → Bool} {x : Par} {l : List Int} (h : csec pr x l = 0) : okB pr x = true ∧ secB x l = true := by
  unfold csec at h
  by_cases e : (okB pr x && secB x l) = true
  · simpa using e
  · rw [if_neg e] at h; cases h
theorem okB_rest {pr : Nat → Bool} {x : Par} (h : okB pr x = true) : x.er ≤ 64 ∧ modErr pr x x.r = 0 ∧ modVal pr x x.r ≤ 2147483647 := by
  have ho := h
  unfold okB at h
  simp only [Bool.and_eq_true] at h
  have h2 := h.2.2.2.1
  have h3 := h.2.1
  unfold wtB at h2
  rw [decide_eq_true_eq] at h2 h3
  unfold Par.t at h3
  have h4 : 1 ≤ x.r := by
    rcases Int.lt_or_le x.r 1 with e | e
    · rw [powv_no (fun hh => absurd hh.2.2.2.2 (by omega))] at h3; omega
    · exact e
  have hm : modB pr x x.r = true := by unfold modB; rw [ho]; simp; omega
  refine ⟨h2.2.2, (mod_yes hm).1, ?_⟩
  rw [(mod_yes hm).2]; exact powv_le _ _ _ _

/-- Three cells, six cells stored into a box. -/
theorem set6 {c : Nat} {W : World} {x0 x1 x2 x3 x4 x5 : Value} {T : TypeId} (u0 u1 u2 u3 u4 u5 : Value) (hb : Blk W c [x0, x1, x2, x3, x4, x5] T) :
    Blk ((((((W.setCell ⟨c, 0, none⟩ u0).setCell ⟨c, 1, none⟩ u1).setCell ⟨c, 2, none⟩ u2).setCell ⟨c, 3, none⟩ u3).setCell ⟨c, 4, none⟩ u4).setCell ⟨c, 5, none⟩ u5) c [u0, u1, u2, u3, u4, u5] T
    ∧ W.grownBy ((((((W.setCell ⟨c, 0, none⟩ u0).setCell ⟨c, 1, none⟩ u1).setCell ⟨c, 2, none⟩ u2).setCell ⟨c, 3, none⟩ u3).setCell ⟨c, 4, none⟩ u4).setCell ⟨c, 5, none⟩ u5) (some c) :=
  ⟨(((((hb.set 0 u0).set 1 u1).set 2 u2).set 3 u3).set 4 u4).set 5 u5, gr_set (gr_set (gr_set (gr_set (gr_set (gr_set (gr_refl _ _) 0 u0) 1 u1) 2 u2) 3 u3) 4 u4) 5 u5⟩
theorem SupB.same {W W' : World} {g a : Nat} {s : ByteArray} (h : SupB W g s a) (e : W'.heap[g]? = W.heap[g]?) : SupB W' g s a :=
  ⟨(World.cell?_of_block (a := ⟨g, 0, none⟩) e).trans h.c0, (World.cell?_of_block (a := ⟨g, 1, none⟩) e).trans h.c1, (World.cell?_of_block (a := ⟨g, 2, none⟩) e).trans h.c2, (World.frozen?_of_block (a := ⟨g, 1, none⟩) e).trans h.fz⟩
theorem SupR.same {W W' : World} {g a : Nat} {s : ByteArray} (h : SupR W g s a) (e : W'.heap[g]? = W.heap[g]?) : SupR W' g s a :=
  ⟨(World.cell?_of_block (a := ⟨g, 0, none⟩) e).trans h.c0, (World.cell?_of_block (a := ⟨g, 1, none⟩) e).trans h.c1, (World.frozen?_of_block (a := ⟨g, 1, none⟩) e).trans h.fz⟩
theorem OwnR.sliceG {base L N : Nat} {W : World} {v : Value} {x : Par} {rows : List (List Nat)} (h : OwnR base W v rows) (hx : Good x) (hR : ResR x L N rows) (hL : L ≤ x.ch.length) (hN : N ≤ 4096) : SliceR W v rows := by
  obtain ⟨vs, h1, h2⟩ := h
  have := hx.l2
  have h0 := hR.1
  refine h2.slice h1 (by omega) (fun r hr => ?_)
  obtain ⟨i, hi, rfl⟩ := List.getElem_of_mem hr
  have h3 := hR.2 i (by omega)
  rw [getD_at rows [] hi] at h3
  refine ⟨by omega, fun q hq => ?_⟩
  obtain ⟨k, hk, rfl⟩ := List.getElem_of_mem hq
  have h4 := h3.2 k
  rw [getD_at _ 0 hk] at h4
  have := (ch_at hx (i := i) (by omega)).2
  omega

/-- What NewPublic holds: the supply, its boxes, the element. -/
structure NpB (w0 w W : World) (x : Par) (cv sv : Value) (s : ByteArray) (g b o : Nat) (v : Value) : Prop where
  sup : SupB W g s b
  pos : b ≤ 8 * s.size
  bx : BoxP W w.heap.size x cv
  sec : W.cell? ⟨w.heap.size + 1, 0, none⟩ = some sv
  res : Blk W (w.heap.size + 1 + 1) [.int .i64 0, .bool false, .slice none 0 0, .int .i64 0, .bool false, .slice none 0 0] 34
  el : Blk W o [.int .i64 x.ch.length, .bool false, v] 32
  old : Below w0.heap.size w0 W
  gr : w.grownBy W (some g)
  g0 : w0.heap.size ≤ g
  gw : g < w.heap.size
  wo : w.heap.size + 3 ≤ o
theorem NpB.low {w0 w W W' : World} {x : Par} {cv sv v : Value} {s : ByteArray} {g b o : Nat} (h : NpB w0 w W x cv sv s g b o v) (hb : Below (o + 1) W W') : NpB w0 w W' x cv sv s g b o v := by
  have h1 := h.wo; have h2 := h.gw; have h3 := h.g0
  refine ⟨h.sup.same (hb.block g (by omega)), h.pos, h.bx.below hb (by omega), (below_at hb (by omega)).trans h.sec, h.res.below hb (by omega), h.el.below hb (by omega), h.old.trans (hb.mono (by omega)), ?_, h3, h2, h1⟩
  exact ⟨hb.os.trans h.gr.os, hb.tape.trans h.gr.tape, hb.output.trans h.gr.output, Nat.le_trans h.gr.size hb.size, fun k hk hne => (hb.block k (by omega)).trans (h.gr.block k hk hne)⟩
theorem NpB.lt {w0 w W : World} {x : Par} {cv sv v : Value} {s : ByteArray} {g b o : Nat} (h : NpB w0 w W x cv sv s g b o v) : o < W.heap.size := h.el.lt
theorem NpB.below {w0 w W W' : World} {x : Par} {cv sv v : Value} {s : ByteArray} {g b o : Nat} (h : NpB w0 w W x cv sv s g b o v) (hb : Below W.heap.size W W') : NpB w0 w W' x cv sv s g b o v := h.low (hb.mono h.lt)
theorem NpB.store {w0 w W : World} {x : Par} {cv sv v : Value} {s : ByteArray} {g b o : Nat} (h : NpB w0 w W x cv sv s g b o v) (v' : Value) : NpB w0 w (W.setCell ⟨o, 2, none⟩ v') x cv sv s g b o v' := by
  have h1 := h.wo; have h2 := h.gw; have h3 := h.g0
  have hs : ∀ k, k ≠ o → (W.setCell ⟨o, 2, none⟩ v').heap[k]? = W.heap[k]? := fun k hk => Below.heap_setCell W ⟨o, 2, none⟩ v' k hk
  have hb : Below o W (W.setCell ⟨o, 2, none⟩ v') := ⟨rfl, rfl, rfl, by simp, fun k hk => hs k (by omega)⟩
  refine ⟨h.sup.same (hs g (by omega)), h.pos, h.bx.below hb (by omega), (below_at hb (by omega)).trans h.sec, h.res.below hb (by omega), h.el.set 2 v', h.old.trans (hb.mono (by omega)), ?_, h3, h2, h1⟩
  exact ⟨hb.os.trans h.gr.os, hb.tape.trans h.gr.tape, hb.output.trans h.gr.output, Nat.le_trans h.gr.size hb.size, fun k hk hne => (hb.block k (by omega)).trans (h.gr.block k hk hne)⟩
theorem NpB.grow {w0 w W W' : World} {x : Par} {cv sv v : Value} {s : ByteArray} {g b b' o : Nat} (h : NpB w0 w W x cv sv s g b o v) (hg : W.grownBy W' (some g)) (hs : SupB W' g s b') (hp : b' ≤ 8 * s.size) : NpB w0 w W' x cv sv s g b' o v := by
  have h1 := h.wo; have h2 := h.gw; have h3 := h.g0; have h4 := h.lt
  have hc : ∀ k i, k < W.heap.size → k ≠ g → W'.cell? ⟨k, i, none⟩ = W.cell? ⟨k, i, none⟩ := fun k i hk hne => gr_cell hg hk hne
  have hB := h.bx
  refine ⟨hs, hp, ?_, (hc _ _ (by omega) (by omega)).trans h.sec, h.res.gr hg (by omega), h.el.gr hg (by omega), ?_, ?_, h3, h2, h1⟩
  · obtain ⟨a0, a1, a2, a3, a4, a5, a6⟩ := hB
    exact ⟨(hc _ _ (by omega) (by omega)).trans a0, (hc _ _ (by omega) (by omega)).trans a1, (hc _ _ (by omega) (by omega)).trans a2, (hc _ _ (by omega) (by omega)).trans a3, (hc _ _ (by omega) (by omega)).trans a4, (hc _ _ (by omega) (by omega)).trans a5, (hc _ _ (by omega) (by omega)).trans a6⟩
  · exact ⟨hg.os.trans h.old.os, hg.tape.trans h.old.tape, hg.output.trans h.old.output, Nat.le_trans h.old.size hg.size, fun k hk => (hg.block k (Nat.lt_of_lt_of_le hk h.old.size) (by intro e; injection e with e; omega)).trans (h.old.block k hk)⟩
  · exact gr_trans h.gr hg
theorem OwnR.grow {base : Nat} {W W' : World} {v : Value} {rows : List (List Nat)} {g : Nat} (h : OwnR base W v rows) (hg : W.grownBy W' (some g)) (hlt : g < base) : OwnR base W' v rows :=
  h.other hg (fun r e => by injection e with e; subst e; exact .inl hlt)
theorem OwnR.low {base : Nat} {W : World} {v : Value} {rows : List (List Nat)} {c i : Nat} {u : Value} (h : OwnR base W v rows) (hlt : c < base) : OwnR base (W.setCell ⟨c, i, none⟩ u) v rows :=
  h.other (row := some c) ⟨rfl, rfl, rfl, by simp, fun k hk hne => Below.heap_setCell W ⟨c, i, none⟩ u k (by intro e; exact hne (by rw [e]))⟩ (fun r e => by injection e with e; subst e; exact .inl hlt)
/-- A row appended: the world, the rows. -/
theorem ownr_app {base o : Nat} {W W3 : World} {v v' rv : Value} {vs : List Value} {rows : List (List Nat)} {r : List Nat} {tmp : Obj} (ht : tmp.isCells = true) (hb : base ≤ W.heap.size)
    (h1 : W.ownsRow base 23 1 v rows.length vs) (h2 : RowsV base W vs rows) (hr : W.ownsRow base 22 1 rv r.length (u32s r))
    (ha : (W.alloc tmp).grownBy W3 v.ownBlock) (hw : W3.ownsRow base 23 1 v' (rows.length + 1) (vs ++ [rv])) : OwnR base W3 v' (rows ++ [r]) ∧ Below base W W3 := by
  have hvb : ∀ q, v.ownBlock = some q → base ≤ q ∧ ∃ cs, W.heap[q]? = some (.cells cs 23 (0, 0)) := by
    intro q hq
    refine ⟨(h1.lt q hq).1, ?_⟩
    rcases h1.2 with ⟨rfl, _⟩ | ⟨g, cap, cur, rfl, _, hc, _⟩
    · cases hq
    · cases hq; exact ⟨cur, hc⟩
  have hsa := ha.size
  have hs2 : (W.alloc tmp).heap.size = W.heap.size + 1 := by simp
  have gA : W.grownBy W3 v.ownBlock := ⟨ha.os, ha.tape, ha.output, by omega, fun k hk2 hne => (ha.block k (by omega) hne).trans (Below.heap_alloc W _ k hk2)⟩
  have hnw : ∀ q, v.ownBlock = some q → q < base ∨ (∀ cs, W.heap[q]? ≠ some (.cells cs 22 (0, 0))) := fun q hq => .inr (by obtain ⟨_, cs, hc⟩ := hvb q hq; exact type_ne hc (by decide))
  refine ⟨⟨vs ++ [rv], by rw [List.length_append, List.length_singleton]; exact hw, (h2.other gA hnw).snoc (own_other (g := 0) hr gA hnw)⟩, ?_⟩
  exact ⟨gA.os, gA.tape, gA.output, gA.size, fun k hk => gA.block k (by omega) (fun e => by have := (hvb k e.symm).1; omega)⟩
end Go.Proofs.YtjpcljnojipdnaaGreat
