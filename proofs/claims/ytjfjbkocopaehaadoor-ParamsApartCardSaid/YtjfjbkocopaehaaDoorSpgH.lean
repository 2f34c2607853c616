/- The sponge: what package sponge's run returns. -/
import Derived.Test.YtjfjbkocopaehaaDoorSpgG
namespace Go.Proofs.YtjfjbkocopaehaaDoor
open Go.RowKit Go.Shelf
attribute [local go_sem] Oper.semAt_some
set_option linter.unusedVariables false

theorem perm12_any (x : S5) (w : World) :
    Calls Tryd.prog 69 #[.agg #[.int .u64 x.a, .int .u64 x.b, .int .u64 x.c, .int .u64 x.d, .int .u64 x.e], .int .i64 12] w fun e w' => e = .returned (.agg #[.int .u64 (perm x 12).a, .int .u64 (perm x 12).b, .int .u64 (perm x 12).c, .int .u64 (perm x 12).d, .int .u64 (perm x 12).e]) ∧ Below w.heap.size w w' :=
  perm_any x 12 w (by decide)
theorem blocks_any (s : ByteArray) (w : World) :
    Calls Tryd.prog 70 #[.string s] w fun r w' => r = .returned (.func (.func 85) #[] #[.pointer (some ⟨w.heap.size, 0, none⟩)]) ∧ w.alloc (.cells #[.string s] 9) = w' := by
  go_enter Tryd.func70, Tryd.ntmps70
  go_wp2_with fail
  go_ret
  exact ⟨rfl, rfl⟩
theorem blocks_stops (F : Fence) (n : Nat) (hF : F.fn 85) (hro : F.round = none) (hn : 1 ≤ n) (Bs : Nat) (s : ByteArray) (K : Nat) (w : World) (hs : w.cell? ⟨Bs, 0, none⟩ = some (.string s))
    (hBs : Bs < w.heap.size) (hsz : s.size ≤ 1152921504606846976) (hK : K = s.size / 8 + 1) :
    SeqStopsK F n Tryd.prog 85 #[.pointer (some ⟨Bs, 0, none⟩)] encI (keepC Bs) (fun xs => xs = words s K) (fun pre => pre <+: words s K) K w :=
  fun l J Jx W hW _ _ hY h0 => blocks_in F n hF hro l Bs s K J Jx hY W ((hW.cell (p := ⟨Bs, 0, none⟩) hBs).trans hs) hsz hK hn h0
theorem keepC_t {Bs : Nat} {A B C : World} (h : keepC Bs A B) (k : keepC Bs B C) : keepC Bs A C := k.trans h
theorem keepC_b {Bs : Nat} {w : World} (hB : Bs < w.heap.size) (W : World) (l : Nat) (o o' : Obj) (hl : w.heap.size ≤ l) (_ : W.heap[l]? = some o) (_ : o.isCells = false) (_ : o.isWalk = false) : keepC Bs W (W.putObj l o') := by
  unfold keepC
  have h := (grownBy_putObj' W l o').block
  simp only [World.cell?]
  by_cases hb : Bs < W.heap.size
  · rw [h Bs hb (by intro e; injection e with e; omega)]
  · have h1 : W.heap[Bs]? = none := by simp; omega
    have h2 : (W.putObj l o').heap[Bs]? = none := by simp [World.putObj]; omega
    rw [h1, h2]
theorem blk_own {β : Type} (B : Nat) (T : TypeId) (f : β → List Value) : Own (fun s W => Blk W B (f s) T) := fun s X Y row hs hg hrow =>
  (hg.block B hs.lt (fun e' => by obtain ⟨o, ho, hc⟩ := hrow B e'.symm; rw [show X.heap[B]? = _ from hs] at ho; cases ho; cases hc)).trans hs

/-- The state behind some words. -/
def absL (x : S5) (ws : List Int) : S5 := ws.foldl (fun y w => perm ⟨xr y.a w, y.b, y.c, y.d, y.e⟩ 12) x
theorem absL_snoc (x : S5) (ws : List Int) (w : Int) : absL x (ws ++ [w]) = perm ⟨xr (absL x ws).a w, (absL x ws).b, (absL x ws).c, (absL x ws).d, (absL x ws).e⟩ 12 := by unfold absL; rw [List.foldl_append]; rfl
theorem absL_words (s : ByteArray) (x : S5) (j : Nat) : absL x (words s j) = absorb s x j := by
  induction j with
  | zero => rfl
  | succ j ih => rw [words_succ, absL_snoc, ih]; rfl

theorem infoB8 : (Tryd.prog.info? 5).map (fun i => (i.zero, i.size, i.bytes)) = some (some (.int .u8 0), 1, 1) := by kernel_rfl
theorem own_cellsB {w : World} {base : Nat} {e : TypeId} {p : Option Addr} {n cap : Nat} {xs : List Value} (h : w.ownsRow base e 1 (.slice p n cap) n xs) (hp : p ≠ none) : ∃ g, p = some ⟨g, 0, none⟩ ∧ n ≤ cap ∧ ∀ i (hi : i < xs.length), w.cell? ⟨g, i, none⟩ = some xs[i] := by
  have hl : xs.length = n := by simpa using h.1
  rcases h.2 with ⟨hv, h0⟩ | ⟨g, cap', cur, hv, hb, hg, hnc, hm, hs, ht⟩
  · injection hv with h1 h2 h3
    exact absurd h1 hp
  · injection hv with h1 h2 h3
    subst h1 h3
    refine ⟨g, rfl, hnc, fun i hi => ?_⟩
    have e1 : (cur.toList.take (n * 1))[i]? = xs[i]? := by rw [ht]
    rw [List.getElem?_take, if_pos (by omega), Array.getElem?_toList, List.getElem?_eq_getElem hi] at e1
    simp only [World.cell?, hg, Option.isSome_none, Bool.false_eq_true, if_false]
    rw [e1]
/-- The bytes of a list of numbers as cells. -/
def by8 (l : List Int) : List Value := l.map (Value.int .u8)
theorem outs_get {x : S5} {n q : Nat} (h : q < (outs x n).length) : (outs x n)[q] = outB x q := by simp [outs]
theorem by8_get {x : S5} {n q : Nat} (h : q < (by8 (outs x n)).length) : (by8 (outs x n))[q] = .int .u8 (outB x q) := by simp [by8, outs]
/-- What run holds while it squeezes. -/
structure RunT (w W : World) (bx D base : Nat) (y : S5) (p : Option Addr) (cap m : Nat) (L : List Int) : Prop where
  x : Blk W bx y.l 88
  d : W.heap[D]? = some (.deferred (some []))
  own : W.ownsRow base 5 1 (.slice p m cap) m (by8 L)
  bel : Below w.heap.size w W
  hx : bx < base
  hd : D < base
  hb : base ≤ W.heap.size
  hw : w.heap.size ≤ bx
  hp : p ≠ none
theorem RunT.below {w W W' : World} {bx D base : Nat} {y : S5} {p : Option Addr} {cap m : Nat} {L : List Int} (h : RunT w W bx D base y p cap m L) (hb : Below W.heap.size W W') : RunT w W' bx D base y p cap m L :=
  ⟨h.x.below hb h.x.lt, (hb.block D (Nat.lt_of_lt_of_le h.hd h.hb)).trans h.d, owns_below h.own hb, h.bel.trans (hb.mono h.bel.size), h.hx, h.hd, Nat.le_trans h.hb hb.size, h.hw, h.hp⟩
theorem RunT.put1 {w W : World} {bx D base : Nat} {y : S5} {p : Option Addr} {cap m : Nat} {L : List Int} (h : RunT w W bx D base y p cap m L) (hD : D ≠ bx) (i : Nat) (v : Int) (y' : S5) (he : y.l.set i (.int .u64 v) = y'.l) : RunT w (W.setCell ⟨bx, i, none⟩ (.int .u64 v)) bx D base y' p cap m L :=
  ⟨he ▸ h.x.set i (.int .u64 v), (Below.heap_setCell W ⟨bx, i, none⟩ _ D hD).trans h.d, ownsRow_setCell_below h.own (a := ⟨bx, i, none⟩) h.hx _, h.bel.setCell (p := ⟨bx, i, none⟩) h.hw _, h.hx, h.hd, by simpa using h.hb, h.hw, h.hp⟩
theorem RunT.put {w W : World} {bx D base : Nat} {y : S5} {p : Option Addr} {cap m : Nat} {L : List Int} (h : RunT w W bx D base y p cap m L) (hD : D ≠ bx) (z : S5) :
    RunT w (((((W.setCell ⟨bx, 0, none⟩ (.int .u64 z.a)).setCell ⟨bx, 1, none⟩ (.int .u64 z.b)).setCell ⟨bx, 2, none⟩ (.int .u64 z.c)).setCell ⟨bx, 3, none⟩ (.int .u64 z.d)).setCell ⟨bx, 4, none⟩ (.int .u64 z.e)) bx D base z p cap m L :=
  ((((h.put1 hD 0 z.a ⟨z.a, y.b, y.c, y.d, y.e⟩ rfl).put1 hD 1 z.b ⟨z.a, z.b, y.c, y.d, y.e⟩ rfl).put1 hD 2 z.c ⟨z.a, z.b, z.c, y.d, y.e⟩ rfl).put1 hD 3 z.d ⟨z.a, z.b, z.c, z.d, y.e⟩ rfl).put1 hD 4 z.e z rfl
theorem RunT.step {w W W' : World} {bx D base : Nat} {y : S5} {p p' : Option Addr} {cap cap' m : Nat} {L L' : List Int} (h : RunT w W bx D base y p cap m L) (tmp : Value) (hg : (W.alloc (.cells #[tmp] 5)).grownBy W' (Value.slice p m cap).ownBlock)
    (ho : W'.ownsRow base 5 1 (.slice p' (m + 1) cap') (m + 1) (by8 L')) : RunT w W' bx D base y p' cap' (m + 1) L' := by
  have hb1 : Below base W W' := by
    have h1 : Below base W (W.alloc (.cells #[tmp] 5)) := (Below.refl _ _).alloc h.hb _
    exact h1.grown hg (by have := h.hb; simp; omega) (own_ge h.own)
  have hx := h.hx; have hd := h.hd; have hwb := h.hw
  refine ⟨h.x.below hb1 hx, (hb1.block D hd).trans h.d, ho, h.bel.trans (hb1.mono (by omega)), hx, hd, Nat.le_trans h.hb hb1.size, hwb, ?_⟩
  rintro rfl
  rcases ho.2 with ⟨hv, h0⟩ | ⟨g, c, cur, hv, _⟩
  · omega
  · injection hv with h1; cases h1
theorem addr_addB (b off j : Nat) : (⟨b, off, none⟩ : Addr).add j = ⟨b, off + j, none⟩ := by unfold Addr.add; split <;> simp_all
theorem fresh_own (W : World) (c : Nat) (hc : c ≤ maxLen) (T : TypeId) (z : Value) : (W.alloc (.cells (Array.replicate c z) T)).ownsRow W.heap.size T 1 (.slice (some ⟨W.heap.size, 0, none⟩) 0 c) 0 [] :=
  ⟨rfl, .inr ⟨W.heap.size, c, Array.replicate c z, rfl, Nat.le_refl _, World.alloc_heap_new W _, Nat.zero_le _, hc, by simp, by simp⟩⟩
def lenOf : Value → Nat
  | .slice _ n _ => n
  | _ => 0

set_option maxHeartbeats 4000000 in
set_option maxRecDepth 100000 in
theorem run_any (s : ByteArray) (kind n : Nat) (w : World) (hs : s.size ≤ 1152921504606846976) (hk : kind < 256) (hn : n ≤ 1099511627776) :
    Calls Tryd.prog 49 #[.string s, .int .u64 kind, .int .i64 n] w fun e w' => e = .returned (.string (spongeS s kind n)) ∧ Below w.heap.size w w' := by
  obtain ⟨i0, hi0, hz0, hz1, hz2⟩ := info_parts infoB8
  have hmk : ∀ W : World, (Instr.makeSlice 53 (.int .i64 0) (.int .i64 ((n : Int) + 8))).run Tryd.prog W = .ok (.slice (some ⟨W.heap.size, 0, none⟩) 0 (n + 8)) (W.alloc (.cells (Array.replicate (n + 8) (.int .u8 0)) 5)) := by
    intro W
    have h := run_make W 53 5 i0 (.int .u8 0) Tryd.underlying53 hi0 hz0 .i64 .i64 0 ((n : Int) + 8) (by omega) (by omega) (by rw [hz2]; omega) (by omega)
    rw [h, show ((n : Int) + 8).toNat = n + 8 by omega, hz1, Nat.mul_one]
    congr 3
    apply Array.ext
    · simp [madeCells]
    · intro i h1 h2
      simp [madeCells, Value.cells, Nat.mod_one]
  have HMK := Lib.hid hmk
  clear hmk
  refine (callsIn_wide (n := 9)).1 ?_
  refine callsIn_of_wp_marks Tryd.func49 rfl trivial ?_ rfl
  simp only [Tryd.ntmps49, List.size_toArray, List.length_cons, List.length_nil, Nat.reduceAdd, Nat.reduceSub, Array.replicate_succ, Array.replicate_zero, List.push_toArray, List.append_toArray, List.nil_append, List.cons_append]
  gi_wp2
  refine ⟨trivial, (callsIn_wide.2 (perm12_any ⟨8026104356937031936 + kind, 0, 0, 0, 0⟩ _)).mono ?_⟩
  rintro e w1 ⟨rfl, hb1⟩
  obtain ⟨⟨y0, y1, y2, y3, y4⟩, hy⟩ : ∃ y, perm ⟨8026104356937031936 + kind, 0, 0, 0, 0⟩ 12 = y := ⟨_, rfl⟩
  have HY : Hid (init5 kind = ⟨y0, y1, y2, y3, y4⟩) := hy
  rw [hy]
  clear hy
  gi_wp2_with (first | exact wpIn_label ?_ | refine wpIn_label ?_ | (refine ⟨trivial, ?_⟩; gi_at_call 70; refine (callsIn_wide.2 (blocks_any s _)).mono ?_; rintro e w2 ⟨rfl, rfl⟩))
  have hBl0 : Below w.heap.size w ((w1.alloc (.cells #[.int .u64 y0, .int .u64 y1, .int .u64 y2, .int .u64 y3, .int .u64 y4] 88)).alloc (.cells #[.string s] 9)) := (hb1.alloc hb1.size _).alloc (by have := hb1.size; simp; omega) _
  have hX0 : Blk ((w1.alloc (.cells #[.int .u64 y0, .int .u64 y1, .int .u64 y2, .int .u64 y3, .int .u64 y4] 88)).alloc (.cells #[.string s] 9)) w1.heap.size (absL ⟨y0, y1, y2, y3, y4⟩ []).l 88 := (Blk.new w1 #[.int .u64 y0, .int .u64 y1, .int .u64 y2, .int .u64 y3, .int .u64 y4] 88).alloc _
  have hS0 : Boxed ((w1.alloc (.cells #[.int .u64 y0, .int .u64 y1, .int .u64 y2, .int .u64 y3, .int .u64 y4] 88)).alloc (.cells #[.string s] 9)) (w1.heap.size + 1) 9 (.string s) := by
    have h := Boxed.new (w1.alloc (.cells #[.int .u64 y0, .int .u64 y1, .int .u64 y2, .int .u64 y3, .int .u64 y4] 88)) 9 (.string s)
    simpa using h
  have hsz0 : ((w1.alloc (.cells #[.int .u64 y0, .int .u64 y1, .int .u64 y2, .int .u64 y3, .int .u64 y4] 88)).alloc (.cells #[.string s] 9)).heap.size = w1.heap.size + 1 + 1 := by simp
  have hw1 : w.heap.size ≤ w1.heap.size := hb1.size
  generalize ((w1.alloc (.cells #[.int .u64 y0, .int .u64 y1, .int .u64 y2, .int .u64 y3, .int .u64 y4] 88)).alloc (.cells #[.string s] 9)) = W0 at hBl0 hX0 hS0 hsz0 ⊢
  have HSZ := Lib.hid hsz0
  have hltS : w1.heap.size + 1 < W0.heap.size := by omega
  clear hsz0 hb1
  refine wpIn_rangeFunc_ownF rfl (by decide) (gf := 85) (lb := #[.pointer (some ⟨w1.heap.size + 1, 0, none⟩)]) rfl trivial (enters_of Tryd.func85 (by kernel_rfl) rfl)
    (blocks_stops Fence.wide 8 trivial rfl (by decide) (w1.heap.size + 1) s (s.size / 8 + 1) W0 hS0.cell hltS hs rfl) keepC_t (keepC_b hltS) (Below.refl _ _) (fun _ => rfl)
    (fun pre W => (Blk W w1.heap.size (absL ⟨y0, y1, y2, y3, y4⟩ pre).l 88 ∧ Boxed W (w1.heap.size + 1) 9 (.string s)) ∧ Below w.heap.size w W)
    (fun _ _ _ => False)
    (OwnFrom.and (OwnFrom.and (Own.from (blk_own w1.heap.size 88 (fun pre => (absL ⟨y0, y1, y2, y3, y4⟩ pre).l)) _) (Own.from (boxed_own (w1.heap.size + 1) 9 (fun _ => .string s)) _)) (ownFrom_below (by omega) (by omega)))
    (fun cd => ownFrom_pure _ _)
    ⟨⟨hX0, hS0⟩, hBl0⟩
    (fun x => { tmps := #[.string s, .int .u64 kind, .int .i64 n, undef, undef, undef, .string ⟨#[]⟩, .pointer (some ⟨w1.heap.size, 0, none⟩), .int .u64 x, undef, undef, .int .u64 kind, .int .u64 (8026104356937031936 + (kind : Int)), .agg #[.int .u64 (8026104356937031936 + (kind : Int)), .int .u64 0, .int .u64 0, .int .u64 0, .int .u64 0], .agg #[.int .u64 y0, .int .u64 y1, .int .u64 y2, .int .u64 y3, .int .u64 y4], .string s, .func (.func 85) #[] #[.pointer (some ⟨w1.heap.size + 1, 0, none⟩)], .int .u64 x, undef, undef, undef, undef, undef, undef, undef, undef, undef, undef, undef, undef, undef, undef, undef, undef, undef, undef, undef, undef, undef, undef, undef, undef, undef, undef, undef, undef, undef, undef, undef, undef], defers := [] }) ?assign ?body ?done ?stop
  case assign =>
    intro l x W K hK
    unfold encI
    gi_wp2
    exact hK
  case body =>
    rintro l pre x W ⟨⟨hx, hbs⟩, hBl⟩ hlt
    have HSN : Hid (absL ⟨y0, y1, y2, y3, y4⟩ (pre ++ [x]) = perm ⟨xr (absL ⟨y0, y1, y2, y3, y4⟩ pre).a x, (absL ⟨y0, y1, y2, y3, y4⟩ pre).b, (absL ⟨y0, y1, y2, y3, y4⟩ pre).c, (absL ⟨y0, y1, y2, y3, y4⟩ pre).d, (absL ⟨y0, y1, y2, y3, y4⟩ pre).e⟩ 12) := absL_snoc _ _ _
    obtain ⟨⟨a, b, c, d, e⟩, ha⟩ : ∃ z, absL ⟨y0, y1, y2, y3, y4⟩ pre = z := ⟨_, rfl⟩
    rw [ha] at hx HSN
    have x0 : W.cell? ⟨w1.heap.size, 0, none⟩ = some (.int .u64 a) := hx.cell 0 (by simp [S5.l])
    have x1 : W.cell? ⟨w1.heap.size, 1, none⟩ = some (.int .u64 b) := hx.cell 1 (by simp [S5.l])
    have x2 : W.cell? ⟨w1.heap.size, 2, none⟩ = some (.int .u64 c) := hx.cell 2 (by simp [S5.l])
    have x3 : W.cell? ⟨w1.heap.size, 3, none⟩ = some (.int .u64 d) := hx.cell 3 (by simp [S5.l])
    have x4 : W.cell? ⟨w1.heap.size, 4, none⟩ = some (.int .u64 e) := hx.cell 4 (by simp [S5.l])
    have f0 := hx.free 0
    clear ha
    gi_wp2
    refine ⟨trivial, (CallsIn.inRound l (callsIn_wide.2 (perm12_any ⟨xr a x, b, c, d, e⟩ _))).mono ?_⟩
    rintro ev W2 ⟨rfl, hb2⟩
    obtain ⟨⟨z0, z1, z2, z3, z4⟩, hz⟩ : ∃ z, perm ⟨xr a x, b, c, d, e⟩ 12 = z := ⟨_, rfl⟩
    have HZ : Hid (absL ⟨y0, y1, y2, y3, y4⟩ (pre ++ [x]) = ⟨z0, z1, z2, z3, z4⟩) := by show _ = _; rw [HSN.out]; exact hz
    rw [hz]
    clear hz HSN x0 x1 x2 x3 x4 f0
    have hxs : Blk (W.setCell ⟨w1.heap.size, 0, none⟩ (.int .u64 (bits .xor .u64 a x))) w1.heap.size (S5.mk (xr a x) b c d e).l 88 := hx.set 0 (.int .u64 (xr a x))
    have hx2 := hxs.below hb2 hxs.lt
    have hbs2 : Boxed W2 (w1.heap.size + 1) 9 (.string s) := boxed_below (hbs.other (by omega : w1.heap.size + 1 ≠ w1.heap.size) (.int .u64 (bits .xor .u64 a x))) hb2
    have hBl2 : Below w.heap.size w W2 := (hBl.setCell (p := ⟨w1.heap.size, 0, none⟩) hw1 (.int .u64 (bits .xor .u64 a x))).trans (hb2.mono (by have := hBl.size; simpa using this))
    have hk2 : KeepsOthers W W2 := (KeepsOthers.setCell W ⟨w1.heap.size, 0, none⟩ (.int .u64 (bits .xor .u64 a x))).trans (keeps_below hb2)
    have g0 : W2.cell? ⟨w1.heap.size, 0, none⟩ = some (.int .u64 (xr a x)) := hx2.cell 0 (by simp [S5.l])
    have g1 : W2.cell? ⟨w1.heap.size, 1, none⟩ = some (.int .u64 b) := hx2.cell 1 (by simp [S5.l])
    have g2 : W2.cell? ⟨w1.heap.size, 2, none⟩ = some (.int .u64 c) := hx2.cell 2 (by simp [S5.l])
    have g3 : W2.cell? ⟨w1.heap.size, 3, none⟩ = some (.int .u64 d) := hx2.cell 3 (by simp [S5.l])
    have g4 : W2.cell? ⟨w1.heap.size, 4, none⟩ = some (.int .u64 e) := hx2.cell 4 (by simp [S5.l])
    have f0 := hx2.free 0; have f1 := hx2.free 1; have f2 := hx2.free 2; have f3 := hx2.free 3; have f4 := hx2.free 4
    have HX2 := Lib.hid hx2; have HBS := Lib.hid hbs; have HBS2 := Lib.hid hbs2; have HBL2 := Lib.hid hBl2; have HK2 := Lib.hid hk2
    clear hx hxs hx2 hbs hbs2 hBl hBl2 hk2 hb2
    gi_wp2
    have hk5 := fun (V : World) (i : Nat) (v : Value) (h : V.heap[w1.heap.size + 1]? = some (.cells #[.string s] 9 (0, 0))) => (Below.heap_setCell V ⟨w1.heap.size, i, none⟩ v (w1.heap.size + 1) (by show w1.heap.size + 1 ≠ w1.heap.size; omega)).trans h
    have hB5 : Boxed (((((W2.setCell ⟨w1.heap.size, 0, none⟩ (.int .u64 z0)).setCell ⟨w1.heap.size, 1, none⟩ (.int .u64 z1)).setCell ⟨w1.heap.size, 2, none⟩ (.int .u64 z2)).setCell ⟨w1.heap.size, 3, none⟩ (.int .u64 z3)).setCell ⟨w1.heap.size, 4, none⟩ (.int .u64 z4)) (w1.heap.size + 1) 9 (.string s) := hk5 _ 4 _ (hk5 _ 3 _ (hk5 _ 2 _ (hk5 _ 1 _ (hk5 _ 0 _ HBS2.out))))
    refine ⟨HK2.out.trans (((((KeepsOthers.setCell _ _ _).trans (KeepsOthers.setCell _ _ _)).trans (KeepsOthers.setCell _ _ _)).trans (KeepsOthers.setCell _ _ _)).trans (KeepsOthers.setCell _ _ _)), ?_, ⟨?_, ?_⟩, ?_⟩
    · exact hB5.cell.trans HBS.out.cell.symm
    · rw [HZ.out]
      exact ((((HX2.out.set 0 (.int .u64 z0)).set 1 (.int .u64 z1)).set 2 (.int .u64 z2)).set 3 (.int .u64 z3)).set 4 (.int .u64 z4)
    · exact hB5
    · have hp : ∀ i, w.heap.size ≤ (⟨w1.heap.size, i, none⟩ : Addr).block := fun _ => hw1
      exact ((((HBL2.out.setCell (hp 0) _).setCell (hp 1) _).setCell (hp 2) _).setCell (hp 3) _).setCell (hp 4) _
  case done =>
    rintro D ys W hD hys ⟨⟨hx, hbs⟩, hBl⟩ hK
    subst hys
    have hmk := HMK.out W
    obtain ⟨y, hy⟩ : ∃ y, absL ⟨y0, y1, y2, y3, y4⟩ (words s (s.size / 8 + 1)) = y := ⟨_, rfl⟩
    have HYY : Hid (y = absorb s (init5 kind) (s.size / 8 + 1)) := by show _ = _; rw [← hy, absL_words, HY.out]
    rw [hy] at hx
    have hDl := lt_of_block hK
    have hDx : D ≠ w1.heap.size := by have := HSZ.out; omega
    have hT : RunT w (W.alloc (.cells (Array.replicate (n + 8) (.int .u8 0)) 5)) w1.heap.size D W.heap.size y (some ⟨W.heap.size, 0, none⟩) (n + 8) 0 (outs y 0) :=
      ⟨hx.alloc _, (Below.heap_alloc _ _ _ hDl).trans hK, fresh_own _ _ (by unfold maxLen; omega) _ _, hBl.alloc hBl.size _, hx.lt, hDl, by simp, hw1, by simp⟩
    have HT := Lib.hid hT
    clear hT hx hbs hBl hK hy HY
    gi_wp2
    generalize W.alloc (.cells (Array.replicate (n + 8) (.int .u8 0)) 5) = W3 at HT ⊢
    generalize W.heap.size = base at HT hDl ⊢
    gi_loopw [9, 10] (fun v9 _ wr => ∃ (j : Nat) (p : Option Addr) (cap : Nat), v9 = .slice p (8 * j) cap ∧ 8 * j ≤ n + 8 ∧ Hid (RunT w wr w1.heap.size D base (sqz y j) p cap (8 * j) (outs y (8 * j)))) (fun v9 _ _ => n + 8 - lenOf v9)
    case atStart => exact ⟨0, _, _, rfl, by omega, HT⟩
    case round =>
      clear HT hmk
      obtain ⟨j, p, cap, rfl, hj, hI⟩ := hrel
      by_cases hjn : 8 * j < n
      · have d1 : decide (8 * (j : Int) < (n : Int)) = true := decide_eq_true (by omega)
        obtain ⟨⟨a, b, c, d, e⟩, hz⟩ : ∃ z, sqz y j = z := ⟨_, rfl⟩
        have HSQ := Lib.hid hz
        rw [hz] at hI
        clear hz
        gi_wp2
        gi_loopw [9, 10] (fun v9 v10 wr => ∃ (i : Nat) (p : Option Addr) (cap : Nat), v9 = .slice p (8 * j + i) cap ∧ v10 = .int .i64 (56 - 8 * (i : Int)) ∧ i ≤ 8 ∧ Hid (RunT w wr w1.heap.size D base ⟨a, b, c, d, e⟩ p cap (8 * j + i) (outs y (8 * j + i)))) (fun _ v10 _ => (intOf v10 + 8).toNat)
        case atStart => exact ⟨0, p, cap, rfl, rfl, by omega, hI⟩
        case round =>
          clear hI
          obtain ⟨i, p, cap, rfl, rfl, hi, hI⟩ := hrel
          by_cases hi8 : i < 8
          · obtain ⟨k, hk⟩ : ∃ k : Nat, 56 - 8 * (i : Int) = k := ⟨56 - 8 * i, by omega⟩
            have HK := Lib.hid hk
            rw [hk]
            have hk2 : 56 - 8 * i = k := by omega
            have HK2 := Lib.hid hk2
            have k0 : (0 : Int) ≤ (k : Int) := by omega
            have k64 : (k : Int) ≤ 64 := by omega
            obtain ⟨B, hB⟩ : ∃ B, IntKind.u8.wrap (a / 2 ^ k) = B := ⟨_, rfl⟩
            have HBY : Hid (by8 (outs y (8 * j + i)) ++ [.int .u8 B] = by8 (outs y (8 * j + i + 1))) := by
              show _ = _
              have e1 : outB y (8 * j + i) = B := by
                unfold outB byteOf
                rw [show (8 * j + i) / 8 = j by omega, show (8 * j + i) % 8 = i by omega, HSQ.out, hk2, ← hB, IntKind.wrap_u8]
              unfold by8
              rw [outs_succ, List.map_append, e1]; rfl
            have x0 : wr.cell? ⟨w1.heap.size, 0, none⟩ = some (.int .u64 a) := hI.out.x.cell 0 (by simp [S5.l])
            clear hk hk2
            gi_wp2_with (gi_at_builtin; (refine wpListIn_append_own _ rfl _ _ 53 rfl base 5 i0 (.int .u8 0) 1 1 Tryd.underlying53 hi0 hz0 hz1 hz2 rfl (by decide) _ _ _ rfl (hI.out.own.alloc _) ⟨wr.heap.size, 0, none⟩ 1 1 [.int .u8 B] rfl rfl (cell_one_new _ _ _) (by simp [Value.oneCell']) (by unfold maxLen; omega) (by omega) (by have := hI.out.hb; simp; omega) ?_; intro v' w2 hown' hgrow _; obtain ⟨g', cap', rfl⟩ := ownsRow_succ hown'; have HI2 := Lib.hid (hI.out.step _ hgrow (by rw [← HBY.out]; exact hown')); clear hown' hgrow))
            go_roundw
            case rel => exact ⟨i + 1, _, cap', rfl, by rw [← HK.out]; congr 1; omega, by omega, HI2⟩
            case measure => simp only [intOf]; have := HK.out; omega
          · obtain rfl : i = 8 := by omega
            rw [show (56 : Int) - 8 * ((8 : Nat) : Int) = -8 from rfl]
            have x0 : wr.cell? ⟨w1.heap.size, 0, none⟩ = some (.int .u64 a) := hI.out.x.cell 0 (by simp [S5.l])
            have x1 : wr.cell? ⟨w1.heap.size, 1, none⟩ = some (.int .u64 b) := hI.out.x.cell 1 (by simp [S5.l])
            have x2 : wr.cell? ⟨w1.heap.size, 2, none⟩ = some (.int .u64 c) := hI.out.x.cell 2 (by simp [S5.l])
            have x3 : wr.cell? ⟨w1.heap.size, 3, none⟩ = some (.int .u64 d) := hI.out.x.cell 3 (by simp [S5.l])
            have x4 : wr.cell? ⟨w1.heap.size, 4, none⟩ = some (.int .u64 e) := hI.out.x.cell 4 (by simp [S5.l])
            gi_wp2
            refine ⟨trivial, (callsIn_wide.2 (perm12_any ⟨a, b, c, d, e⟩ _)).mono ?_⟩
            rintro ev W4 ⟨rfl, hb4⟩
            have hI4 := hI.out.below hb4
            obtain ⟨⟨z0, z1, z2, z3, z4⟩, hz⟩ : ∃ z, perm ⟨a, b, c, d, e⟩ 12 = z := ⟨_, rfl⟩
            have HZ : Hid (sqz y (j + 1) = ⟨z0, z1, z2, z3, z4⟩) := by show perm (sqz y j) 12 = _; rw [HSQ.out]; exact hz
            rw [hz]
            clear hz hb4 x0 x1 x2 x3 x4
            have x0 : W4.cell? ⟨w1.heap.size, 0, none⟩ = some (.int .u64 a) := hI4.x.cell 0 (by simp [S5.l])
            have x1 : W4.cell? ⟨w1.heap.size, 1, none⟩ = some (.int .u64 b) := hI4.x.cell 1 (by simp [S5.l])
            have x2 : W4.cell? ⟨w1.heap.size, 2, none⟩ = some (.int .u64 c) := hI4.x.cell 2 (by simp [S5.l])
            have x3 : W4.cell? ⟨w1.heap.size, 3, none⟩ = some (.int .u64 d) := hI4.x.cell 3 (by simp [S5.l])
            have x4 : W4.cell? ⟨w1.heap.size, 4, none⟩ = some (.int .u64 e) := hI4.x.cell 4 (by simp [S5.l])
            have f0 := hI4.x.free 0; have f1 := hI4.x.free 1; have f2 := hI4.x.free 2; have f3 := hI4.x.free 3; have f4 := hI4.x.free 4
            have HI5 := Lib.hid (hI4.put hDx ⟨z0, z1, z2, z3, z4⟩)
            clear hI4 hI
            gi_wp2
            go_roundw
            case rel => exact ⟨j + 1, p, cap, rfl, by omega, by rw [HZ.out]; exact HI5⟩
            case measure => simp only [lenOf]; omega
      · have d1 : decide (8 * (j : Int) < (n : Int)) = false := decide_eq_false (by omega)
        obtain ⟨g, hpg, hcap, hcells⟩ := own_cellsB hI.out.own hI.out.hp
        subst hpg
        have hcv := run_convert_bytes_back (P := Tryd.prog) wr 53 9 5 ⟨g, 0, none⟩ cap ((outs y n).map (fun z => UInt8.ofNat z.toNat)) Tryd.underlying53 Tryd.underlying5 Tryd.underlying9 (fun q hp => by
          have hpn : q < n := by simpa [outs_length] using hp
          have h := hcells q (by unfold by8; rw [List.length_map, outs_length]; omega)
          rw [addr_addB, Nat.zero_add, h, by8_get, List.getElem_map, outs_get]
          have hb := byteOf_bd (sqz y (q / 8)).a (q % 8)
          have e1 : (UInt8.ofNat (outB y q).toNat).toNat = (outB y q).toNat := by
            rw [UInt8.toNat_ofNat']
            exact Nat.mod_eq_of_lt (by have : outB y q < 256 := hb.2; have h0 : 0 ≤ outB y q := hb.1; omega)
          rw [e1, Int.toNat_of_nonneg (show 0 ≤ outB y q from hb.1)])
        rw [List.length_map, outs_length] at hcv
        have HSP : Hid ((⟨((outs y n).map (fun z => UInt8.ofNat z.toNat)).toArray⟩ : ByteArray) = spongeS s kind n) := by
          show _ = _
          unfold spongeS bsOf; rw [HYY.out]
        rw [HSP.out] at hcv
        obtain ⟨S, hS⟩ : ∃ S, spongeS s kind n = S := ⟨_, rfl⟩
        have HSS := Lib.hid hS
        rw [hS] at hcv
        have n0 : (0 : Int) ≤ (n : Int) := by omega
        have n1 : (n : Int) ≤ (cap : Int) := by omega
        clear hcells hS
        gi_wp2
        refine ⟨by simp, .inl ⟨_, _, rfl, run_takeDeferred hI.out.d, ?_⟩⟩
        refine ⟨.string S, ?_, by rw [HSS.out], hI.out.bel.trans (belowK_b (w := w) (Nat.le_refl _) _ D (.deferred (some [])) (.deferred none) (by have := HSZ.out; omega) hI.out.d rfl rfl)⟩
        simp [results, Tryd.f49, go_sem]
  case stop =>
    rintro D cd pre W hD hpre h hK
    exact h.elim
end Go.Proofs.YtjfjbkocopaehaaDoor
