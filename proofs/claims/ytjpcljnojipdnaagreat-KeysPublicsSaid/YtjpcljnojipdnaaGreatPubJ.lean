/- keys.NewPublic. (Printed by gen_PubJ.py.) -/
import Derived.Test.YtjpcljnojipdnaaGreatPubI
import Derived.Deep.RegionHeld3
namespace Go.Proofs.YtjpcljnojipdnaaGreat
open Go.RowKit Go.Shelf
set_option linter.unusedVariables false

/-- A block of integers that the call owns, of which the first N count. -/
def OwZ (base : Nat) (W : World) (q cap N : Nat) (f : Nat → Int) : Prop := ∃ cs, Blk W q cs 2 ∧ cs.length = cap ∧ N ≤ cap ∧ cap ≤ maxLen ∧ cs.take N = (rowZ N f).map (Value.int .i64) ∧ base ≤ q
theorem OwZ.ofOwn {base N : Nat} {W : World} {v : Value} {l : List Nat} {er : Nat} (hl : l.length = N) (hN : 1 ≤ N) (h : W.ownsRow base 2 1 v l.length (l.map (fun v => Value.int .i64 (((v : Nat) : Int) - (er : Nat))))) :
    ∃ q cap, v = .slice (some ⟨q, 0, none⟩) N cap ∧ OwZ base W q cap N (fun k => ((l.getD k 0 : Nat) : Int) - (er : Nat)) := by
  subst hl
  rcases h.2 with ⟨_, h0⟩ | ⟨q, cap, cur, e, hb, hc, h1, h2, h3, h4⟩
  · omega
  · refine ⟨q, cap, e, cur.toList, hc, by simpa using h3, h1, h2, ?_, hb⟩
    rw [Nat.mul_one] at h4
    rw [h4]
    refine List.ext_getElem (by simp [rowZ]) fun i k1 k2 => ?_
    simp only [List.getElem_map, rowZ, List.getElem_range]
    rw [getD_at l 0 (by simpa using k1)]
theorem OwZ.cell {base q cap N k : Nat} {W : World} {f : Nat → Int} (h : OwZ base W q cap N f) (hk : k < N) : W.cell? ⟨q, k, none⟩ = some (.int .i64 (f k)) := by
  obtain ⟨cs, h1, h2, h3, h4, h5, _⟩ := h
  rw [h1.cell k (by omega)]
  have e : (cs.take N)[k]? = some cs[k] := by rw [List.getElem?_take, if_pos hk, List.getElem?_eq_getElem (by omega)]
  rw [← e, h5, List.getElem?_map, List.getElem?_eq_getElem (by rw [rowZ_len]; exact hk), rowZ_at f hk]
  rfl
theorem OwZ.free {base q cap N : Nat} {W : World} {f : Nat → Int} (h : OwZ base W q cap N f) (k : Nat) : W.frozen? ⟨q, k, none⟩ = false := by obtain ⟨cs, h1, _⟩ := h; exact h1.free k
theorem OwZ.set {base q cap N k : Nat} {W : World} {f g : Nat → Int} {z : Int} (h : OwZ base W q cap N f) (hk : k < N) (hg : ∀ j, j < N → g j = if j = k then z else f j) : OwZ base (W.setCell ⟨q, k, none⟩ (.int .i64 z)) q cap N g := by
  obtain ⟨cs, h1, h2, h3, h4, h5, h6⟩ := h
  refine ⟨_, h1.set k _, by simpa using h2, h3, h4, ?_, h6⟩
  rw [List.take_set, h5, ← List.map_set, rowZ_set f hk, rowZ_congr hg]
theorem OwZ.slice {base q cap N : Nat} {W : World} {f : Nat → Int} (h : OwZ base W q cap N f) (hN : N ≤ 4096) (hf : ∀ k, k < N → -9223372036854775808 ≤ f k ∧ f k ≤ 9223372036854775807) : SliceZ .i64 W (.slice (some ⟨q, 0, none⟩) N cap) (rowZ N f) := by
  obtain ⟨cs, h1, h2, h3, h4, h5, h6⟩ := h
  refine SliceZ.ofOwns (base := base) (e := 2) (n := N) ⟨by simp [rowZ], .inr ⟨q, cap, cs.toArray, rfl, h6, h1, h3, h4, by simpa using h2, ?_⟩⟩ (by rw [rowZ_len]; omega) (fun z hz => ?_)
  · rw [Nat.mul_one]; exact h5
  · unfold rowZ at hz
    obtain ⟨k, hk, rfl⟩ := List.mem_map.1 hz
    have := hf k (List.mem_range.1 hk)
    simp [Lit.wf, IntKind.min, IntKind.max, IntKind.bits, IntKind.signed]; omega
theorem OwZ.noRow {base b2 q cap N : Nat} {W : World} {f : Nat → Int} (h : OwZ base W q cap N f) : NoRow b2 W q := by obtain ⟨cs, h1, _⟩ := h; exact NoRow.ofBlk h1 (by decide) (by decide)
theorem OwZ.ge {base q cap N : Nat} {W : World} {f : Nat → Int} (h : OwZ base W q cap N f) : base ≤ q := by obtain ⟨cs, _, _, _, _, _, h6⟩ := h; exact h6
theorem OwZ.mono {base b2 q cap N : Nat} {W : World} {f : Nat → Int} (h : OwZ base W q cap N f) (hb : b2 ≤ base) : OwZ b2 W q cap N f := by obtain ⟨cs, h1, h2, h3, h4, h5, h6⟩ := h; exact ⟨cs, h1, h2, h3, h4, h5, by omega⟩
theorem OwZ.below {base q cap N : Nat} {W W' : World} {f : Nat → Int} (h : OwZ base W q cap N f) (hb : Below W.heap.size W W') : OwZ base W' q cap N f := by obtain ⟨cs, h1, h2, h3, h4, h5, h6⟩ := h; exact ⟨cs, h1.below hb h1.lt, h2, h3, h4, h5, h6⟩
theorem rowZ_noise {pr : Nat → Bool} {x : Par} {l : List Nat} {N : Nat} (hl : l.length = N) : rowZ N (fun j => (((l.getD j 0 : Nat) : Int) - (x.er : Nat)) * (modVal pr x x.r : Nat)) = noiseZ pr x l := by
  subst hl
  refine List.ext_getElem (by simp [rowZ, noiseZ]) fun i h1 h2 => ?_
  simp only [rowZ, noiseZ, List.getElem_map, List.getElem_range]
  rw [getD_at l 0 (by simpa [rowZ] using h1)]
theorem own_mono {base b2 n : Nat} {T : TypeId} {W : World} {v : Value} {xs : List Value} (h : W.ownsRow base T 1 v n xs) (hb : b2 ≤ base) : W.ownsRow b2 T 1 v n xs := by
  refine ⟨h.1, ?_⟩
  rcases h.2 with h5 | ⟨g, cap, cur, e, hb2, rest⟩
  · exact .inl h5
  · exact .inr ⟨g, cap, cur, e, Nat.le_trans hb hb2, rest⟩
theorem ResR.of {s : ByteArray} {x : Par} {N a b : Nat} {rows : List (List Nat)} (ha : a ≤ 8 * s.size) (hx : Good x) (h : rowsGo s N x.ch a x.ch.length = (true, rows, b)) : ResR x x.ch.length N rows := by
  have h1 := rowsGo_ok ha _ _ _ h
  refine ⟨h1.1, fun i hi => ⟨(h1.2.1 i hi).1, fun k => ?_⟩⟩
  by_cases hk : k < (rows.getD i []).length
  · rw [getD_at _ 0 hk]; exact (h1.2.1 i hi).2 _ (List.getElem_mem _)
  · rw [List.getD_eq_getElem?_getD, List.getElem?_eq_none (by omega)]
    have := (ch_at hx hi).1
    show 0 < _
    omega

theorem pub_rows {x : Par} {N : Nat} {z l : List Int} {rows : List (List Nat)} (hN : x.n = N) : elRows x.ch.length N (fun i => sumF (-1) (x.ch.getD i 0) ((elRows x.ch.length N (fun i => intF z (x.ch.getD i 0))).getD i []) ((elRows x.ch.length N (fun i => mulF (x.ch.getD i 0) N (rows.getD i []) ((elRows x.ch.length N (fun i => intF l (x.ch.getD i 0))).getD i []))).getD i [])) = elRows x.ch.length x.n.toNat (pubRow x z l rows) := by
  rw [hN, Int.toNat_natCast]
  refine elRows_congr fun i hi k hk => ?_
  unfold pubRow
  rw [hN, Int.toNat_natCast, elRows_getD _ hi, elRows_getD _ hi, elRows_getD _ hi]
/-- A region by way of a statement of its own on the frame and the world behind it. -/
theorem region_via {P : Program} {id : Nat} {ops : Array Oper} {b : Bool} {Q : Exit → Act → World → Prop} {a : Act} {w : World} (R : Act → Act → World → Prop)
    (h1 : (Code.region id ops b).wp P (fun e a' w' => e = .normal ∧ R a a' w') a w) (h2 : ∀ a' w', R a a' w' → Q .normal a' w') : (Code.region id ops b).wp P Q a w :=
  Code.wp_mono (fun e a' w' h => by obtain ⟨rfl, hr⟩ := h; exact h2 _ _ hr) h1
/-- What NewPublic answers. -/
def PubR (Sup : World → Nat → ByteArray → Nat → Prop) (w w' : World) (g : Nat) (s : ByteArray) (o : PubO) (e : Ending) : Prop :=
  ∃ u v, e = .returned (.tuple #[pubVal o.a o.b u v, .int .i64 o.er]) ∧ OwnR w.heap.size w' u o.a.rows ∧ OwnR w.heap.size w' v o.b.rows ∧ Sup w' g s o.pos ∧ o.pos ≤ 8 * s.size ∧ w.grownBy w' (some g)
theorem NpB.out {w0 w W : World} {x : Par} {cv sv v : Value} {s : ByteArray} {g b o : Nat} (h : NpB w0 w W x cv sv s g b o v) (u0 u1 u2 u3 u4 u5 : Value) :
    Blk ((((((W.setCell ⟨w.heap.size + 1 + 1, 0, none⟩ u0).setCell ⟨w.heap.size + 1 + 1, 1, none⟩ u1).setCell ⟨w.heap.size + 1 + 1, 2, none⟩ u2).setCell ⟨w.heap.size + 1 + 1, 3, none⟩ u3).setCell ⟨w.heap.size + 1 + 1, 4, none⟩ u4).setCell ⟨w.heap.size + 1 + 1, 5, none⟩ u5) (w.heap.size + 1 + 1) [u0, u1, u2, u3, u4, u5] 34
    ∧ SupB ((((((W.setCell ⟨w.heap.size + 1 + 1, 0, none⟩ u0).setCell ⟨w.heap.size + 1 + 1, 1, none⟩ u1).setCell ⟨w.heap.size + 1 + 1, 2, none⟩ u2).setCell ⟨w.heap.size + 1 + 1, 3, none⟩ u3).setCell ⟨w.heap.size + 1 + 1, 4, none⟩ u4).setCell ⟨w.heap.size + 1 + 1, 5, none⟩ u5) g s b
    ∧ w.grownBy ((((((W.setCell ⟨w.heap.size + 1 + 1, 0, none⟩ u0).setCell ⟨w.heap.size + 1 + 1, 1, none⟩ u1).setCell ⟨w.heap.size + 1 + 1, 2, none⟩ u2).setCell ⟨w.heap.size + 1 + 1, 3, none⟩ u3).setCell ⟨w.heap.size + 1 + 1, 4, none⟩ u4).setCell ⟨w.heap.size + 1 + 1, 5, none⟩ u5) (some g)
    ∧ W.grownBy ((((((W.setCell ⟨w.heap.size + 1 + 1, 0, none⟩ u0).setCell ⟨w.heap.size + 1 + 1, 1, none⟩ u1).setCell ⟨w.heap.size + 1 + 1, 2, none⟩ u2).setCell ⟨w.heap.size + 1 + 1, 3, none⟩ u3).setCell ⟨w.heap.size + 1 + 1, 4, none⟩ u4).setCell ⟨w.heap.size + 1 + 1, 5, none⟩ u5) (some (w.heap.size + 1 + 1)) := by
  obtain ⟨h1, h2⟩ := set6 u0 u1 u2 u3 u4 u5 h.res
  have hw := h.gw; have hl := h.lt; have ho := h.wo
  refine ⟨h1, h.sup.same (h2.block g (by omega) (by intro e; injection e with e; omega)), ?_, h2⟩
  exact ⟨h2.os.trans h.gr.os, h2.tape.trans h.gr.tape, h2.output.trans h.gr.output, Nat.le_trans h.gr.size h2.size, fun k hk hne => (h2.block k (by omega) (by intro e; injection e with e; omega)).trans (h.gr.block k hk hne)⟩

/-- The last steps: two elements in their boxes beside the first. -/
structure NpT (w0 w W : World) (x : Par) (cv sv : Value) (s : ByteArray) (g b o : Nat) (v : Value) (rows : List (List Nat)) (f : Nat) (vf : Value) (rf : List (List Nat)) (d : Nat) (vd : Value) (rd : List (List Nat)) : Prop where
  np : NpB w0 w W x cv sv s g b o v
  own : OwnR (o + 1) W v rows
  fb : Blk W f [.int .i64 x.ch.length, .bool false, vf] 32
  fo : OwnR (o + 1) W vf rf
  db : Blk W d [.int .i64 x.ch.length, .bool false, vd] 32
  do_ : OwnR (o + 1) W vd rd
theorem NpT.below {w0 w W W' : World} {x : Par} {cv sv v vf vd : Value} {s : ByteArray} {g b o f d : Nat} {rows rf rd : List (List Nat)} (h : NpT w0 w W x cv sv s g b o v rows f vf rf d vd rd) (hb : Below W.heap.size W W') : NpT w0 w W' x cv sv s g b o v rows f vf rf d vd rd :=
  ⟨h.np.below hb, h.own.below hb, h.fb.below hb h.fb.lt, h.fo.below hb, h.db.below hb h.db.lt, h.do_.below hb⟩
theorem NpT.late {w0 w W W2 : World} {x : Par} {cv sv v vf vd : Value} {s : ByteArray} {g b o f : Nat} {rows rf rd : List (List Nat)} (hn : NpB w0 w W x cv sv s g b o v) (ho : OwnR (o + 1) W v rows) (hf : Blk W f [.int .i64 x.ch.length, .bool false, vf] 32) (hfo : OwnR (o + 1) W vf rf)
    (hb : Below W.heap.size W W2) (hv : OwnR W.heap.size W2 vd rd) : NpT w0 w (W2.alloc (.cells #[.int .i64 x.ch.length, .bool false, vd] 32)) x cv sv s g b o v rows f vf rf W2.heap.size vd rd := by
  have h : Below W.heap.size W (W2.alloc (.cells #[.int .i64 x.ch.length, .bool false, vd] 32)) := hb.alloc hb.size _
  exact ⟨hn.below h, ho.below h, hf.below h hf.lt, hfo.below h, Blk.new _ _ _, (hv.mono (show o + 1 ≤ _ from hn.lt)).below ((Below.refl _ _).alloc (Nat.le_refl _) _)⟩
theorem NpT.early {w0 w W W2 : World} {x : Par} {cv sv v vf vd : Value} {s : ByteArray} {g b o f d : Nat} {rows rf rd : List (List Nat)} (hn : NpB w0 w W x cv sv s g b o v) (ho : OwnR (o + 1) W v rows) (hf : Blk W f [.int .i64 x.ch.length, .bool false, vf] 32) (hfo : OwnR (o + 1) W vf rf)
    (hb : Below W.heap.size W W2) (hv : OwnR W.heap.size W2 vd rd) (hd : W.heap.size ≤ d) (hk : Blk W2 d [.int .i64 0, .bool false, .slice none 0 0] 32) :
    NpT w0 w (((W2.setCell ⟨d, 0, none⟩ (.int .i64 x.ch.length)).setCell ⟨d, 1, none⟩ (.bool false)).setCell ⟨d, 2, none⟩ vd) x cv sv s g b o v rows f vf rf d vd rd := by
  obtain ⟨h1, h2, h3⟩ := ownr_set3 (.int .i64 x.ch.length) (.bool false) vd (hv.mono (show o + 1 ≤ _ from hn.lt)) hk
  have h : Below W.heap.size W _ := below_gr hb h3 hb.size hd
  exact ⟨hn.below h, ho.below h, hf.below h hf.lt, hfo.below h, h2, h1⟩

set_option maxHeartbeats 16000000 in
set_option maxRecDepth 100000 in
theorem knewpub_any (x : Par) (cv sv : Value) (l : List Int) (s : ByteArray) (g a : Nat) (w0 w : World) (hxo : ParOk x) (hcv : SliceAt w0 cv x.ch) (hsv : SliceZ .i8 w0 sv l) (hlen : l.length ≤ 140737488351232) (h0 : Below w0.heap.size w0 w) (hg0 : w0.heap.size ≤ g)
    (hsup : SupB w g s a) (ha : a ≤ 8 * s.size) (hs : s.size ≤ 1048576) :
    Calls Tryz.prog 6 #[x.val cv, .agg #[sv], .pointer (some ⟨g, 0, none⟩)] w fun e w' => PubR SupB w w' g s (pubOut mPrime x l s a) e := by
  have hgw : g < w.heap.size := World.block_lt_of_cell? w ⟨g, 0, none⟩ hsup.c0
  obtain ⟨pc, ccv, rfl⟩ : ∃ pa ca, cv = .slice pa x.ch.length ca := by obtain ⟨p, c, e, _⟩ := hcv; exact ⟨p, c, e⟩
  have HCR : Hid (x.ch ≠ [] → ∃ b off, pc = some ⟨b, off, none⟩ ∧ RowAt w0 b off x.ch) := fun hne => by
    obtain ⟨p, c, e, _, _, h⟩ := hcv
    injection e with e1 _ _
    subst e1
    exact h hne
  obtain ⟨ps, cs, rfl⟩ : ∃ pa ca, sv = .slice pa l.length ca := by obtain ⟨p, c, e, _⟩ := hsv; exact ⟨p, c, e⟩
  have hbW : Below w.heap.size w (((w.alloc (.cells #[.int .i64 x.n, .int .u32 x.p, .int .i64 x.r, .slice pc x.ch.length ccv, .int .u32 x.sp, .int .i64 x.wt, .int .u32 x.er] 25)).alloc (.cells #[.slice ps l.length cs] 28)).alloc (.cells #[.int .i64 0, .bool false, .slice none 0 0, .int .i64 0, .bool false, .slice none 0 0] 34)) := (((Below.refl _ _).alloc (Nat.le_refl _) _).alloc (by simp) _).alloc (by simp; omega) _
  have hB : BoxP (((w.alloc (.cells #[.int .i64 x.n, .int .u32 x.p, .int .i64 x.r, .slice pc x.ch.length ccv, .int .u32 x.sp, .int .i64 x.wt, .int .u32 x.er] 25)).alloc (.cells #[.slice ps l.length cs] 28)).alloc (.cells #[.int .i64 0, .bool false, .slice none 0 0, .int .i64 0, .bool false, .slice none 0 0] 34)) w.heap.size x (.slice pc x.ch.length ccv) := by constructor <;> simp [go_sem]
  have hS : (((w.alloc (.cells #[.int .i64 x.n, .int .u32 x.p, .int .i64 x.r, .slice pc x.ch.length ccv, .int .u32 x.sp, .int .i64 x.wt, .int .u32 x.er] 25)).alloc (.cells #[.slice ps l.length cs] 28)).alloc (.cells #[.int .i64 0, .bool false, .slice none 0 0, .int .i64 0, .bool false, .slice none 0 0] 34)).cell? ⟨w.heap.size + 1, 0, none⟩ = some (.slice ps l.length cs) := by simp [go_sem]
  have hR : Blk (((w.alloc (.cells #[.int .i64 x.n, .int .u32 x.p, .int .i64 x.r, .slice pc x.ch.length ccv, .int .u32 x.sp, .int .i64 x.wt, .int .u32 x.er] 25)).alloc (.cells #[.slice ps l.length cs] 28)).alloc (.cells #[.int .i64 0, .bool false, .slice none 0 0, .int .i64 0, .bool false, .slice none 0 0] 34)) (w.heap.size + 1 + 1) [.int .i64 0, .bool false, .slice none 0 0, .int .i64 0, .bool false, .slice none 0 0] 34 := by
    have h := Blk.new ((w.alloc (.cells #[.int .i64 x.n, .int .u32 x.p, .int .i64 x.r, .slice pc x.ch.length ccv, .int .u32 x.sp, .int .i64 x.wt, .int .u32 x.er] 25)).alloc (.cells #[.slice ps l.length cs] 28)) #[.int .i64 0, .bool false, .slice none 0 0, .int .i64 0, .bool false, .slice none 0 0] 34
    simpa using h
  have hZ : (((w.alloc (.cells #[.int .i64 x.n, .int .u32 x.p, .int .i64 x.r, .slice pc x.ch.length ccv, .int .u32 x.sp, .int .i64 x.wt, .int .u32 x.er] 25)).alloc (.cells #[.slice ps l.length cs] 28)).alloc (.cells #[.int .i64 0, .bool false, .slice none 0 0, .int .i64 0, .bool false, .slice none 0 0] 34)).heap.size = w.heap.size + 3 := by simp
  have HX := Lib.hid hxo; have HCV := Lib.hid hcv; have HSV := Lib.hid hsv; have H0 := Lib.hid h0; have HSU := Lib.hid hsup
  have HBW := Lib.hid hbW; have HB := Lib.hid hB; have HS := Lib.hid hS; have HR := Lib.hid hR; have HZ := Lib.hid hZ
  clear hxo hcv hsv h0 hsup hbW hB hS hR hZ
  unfold Par.val
  rcases csec_vals mPrime x l with hk | hk
  case inr =>
    have HO : Hid (pubOut mPrime x l s a = ⟨2, el0, el0, a⟩) := pubOut_no hk
    go_enter Tryz.func6, Tryz.ntmps6
    go_wp2_with fail
    refine (csecret_any x _ _ l _ HX.out ((HCV.out.below H0.out).below HBW.out) ((HSV.out.below H0.out).below HBW.out) hlen).mono ?_
    rintro e w1 ⟨rfl, hb1⟩
    rw [hk]
    have HR1 := Lib.hid (HR.out.below hb1 HR.out.lt)
    have HSU1 := Lib.hid (sup_below HSU.out (HBW.out.trans (hb1.mono HBW.out.size)))
    have HBW1 := Lib.hid (HBW.out.trans (hb1.mono HBW.out.size))
    have r0 := HR1.out.cell 0 (by simp); have r1 := HR1.out.cell 1 (by simp); have r2 := HR1.out.cell 2 (by simp); have r3 := HR1.out.cell 3 (by simp); have r4 := HR1.out.cell 4 (by simp); have r5 := HR1.out.cell 5 (by simp)
    have s0 := HR1.out.free 0; have s1 := HR1.out.free 1; have s2 := HR1.out.free 2; have s3 := HR1.out.free 3; have s4 := HR1.out.free 4; have s5 := HR1.out.free 5
    clear hb1 hk
    go_wp2_with fail
    obtain ⟨f1, f2⟩ := set6 (.int .i64 0) (.bool false) (.slice none 0 0) (.int .i64 0) (.bool false) (.slice none 0 0) HR1.out
    have q0 := f1.cell 0 (by simp); have q1 := f1.cell 1 (by simp); have q2 := f1.cell 2 (by simp); have q3 := f1.cell 3 (by simp); have q4 := f1.cell 4 (by simp); have q5 := f1.cell 5 (by simp)
    refine bodyPost_ret (v := .tuple #[.agg #[.int .i64 0, .bool false, .slice none 0 0, .int .i64 0, .bool false, .slice none 0 0], .int .i64 2]) (by simp [results, Tryz.results6, go_sem, q0, q1, q2, q3, q4, q5]) rfl ?_
    refine ⟨.slice none 0 0, .slice none 0 0, by rw [HO.out]; rfl, by rw [HO.out]; exact OwnR.nil _ _, by rw [HO.out]; exact OwnR.nil _ _, ?_, by rw [HO.out]; exact ha, ?_⟩
    · rw [HO.out]; exact HSU1.out.same (f2.block g (by have := HR1.out.lt; omega) (by intro e; injection e with e; omega))
    · exact ⟨f2.os.trans HBW1.out.os, f2.tape.trans HBW1.out.tape, f2.output.trans HBW1.out.output, Nat.le_trans HBW1.out.size f2.size, fun k hk hne => (f2.block k (by have := HR1.out.lt; omega) (by intro e; injection e with e; omega)).trans (HBW1.out.block k hk)⟩
  case inl =>
    obtain ⟨hok, hsec⟩ := csec_split hk
    have hg := good_of hok
    have hor := okB_rest hok
    have hdim := okB_dim hok
    have hsp := secB_parts hsec
    obtain ⟨N, hN⟩ : ∃ N : Nat, x.n = N := ⟨x.n.toNat, by omega⟩
    have hN4 : 4 ≤ N := by omega
    have hN32 : N ≤ 32 := by omega
    have hlN : l.length = N := by have := hsp.2.1; omega
    have hl1 := hg.l1; have hl2 := hg.l2
    have her := hor.1
    have HK := Lib.hid hk; have HG := Lib.hid hg; have HOR := Lib.hid hor; have HN := Lib.hid hN; have HLN := Lib.hid hlN
    clear hok hsec hg hor hdim hsp hN hlN
    obtain ⟨b0, off, rfl, hrow⟩ := HCR.out (by intro e; rw [e] at hl1; simp at hl1)
    have HROW := Lib.hid hrow
    clear hrow HCR
    go_enter Tryz.func6, Tryz.ntmps6
    go_wp2_with fail
    refine (csecret_any x _ _ l _ HX.out ((HCV.out.below H0.out).below HBW.out) ((HSV.out.below H0.out).below HBW.out) hlen).mono ?_
    rintro e w1 ⟨rfl, hb1⟩
    rw [HK.out]
    have HB1 := Lib.hid (HB.out.below hb1 (by rw [HZ.out]; omega))
    have HS1 := Lib.hid ((below_at hb1 (by rw [HZ.out]; omega)).trans HS.out)
    have HR1 := Lib.hid (HR.out.below hb1 HR.out.lt)
    have HSU1 := Lib.hid (sup_below HSU.out (HBW.out.trans (hb1.mono HBW.out.size)))
    have HBW1 := Lib.hid (HBW.out.trans (hb1.mono HBW.out.size))
    have hs1 : w.heap.size + 3 ≤ w1.heap.size := by have := hb1.size; rw [HZ.out] at this; exact this
    have y3 := HB1.out.ch
    have hlt1 : w.heap.size < w1.heap.size := by omega
    clear hb1 hk
    have hNP : NpB w0 w (w1.alloc (.cells #[.int .i64 x.ch.length, .bool false, .slice none 0 0] 32)) x (.slice (some ⟨b0, off, none⟩) x.ch.length ccv) (.slice ps l.length cs) s g a w1.heap.size (.slice none 0 0) := by
      have h : Below w1.heap.size w1 (w1.alloc (.cells #[.int .i64 x.ch.length, .bool false, .slice none 0 0] 32)) := (Below.refl _ _).alloc (Nat.le_refl _) _
      refine ⟨sup_below HSU1.out h, ha, HB1.out.below h (by omega), (below_at h (by omega)).trans HS1.out, HR1.out.below h HR1.out.lt, Blk.new _ _ _, ?_, ?_, hg0, hgw, hs1⟩
      · exact H0.out.trans ((HBW1.out.trans (h.mono (by omega))).mono H0.out.size)
      · have h2 := HBW1.out.trans (h.mono (by omega))
        exact ⟨h2.os, h2.tape, h2.output, h2.size, fun k hk _ => h2.block k hk⟩
    have HNP := Lib.hid hNP
    clear hNP
    go_wp2_with fail
    generalize (w1.alloc (.cells #[.int .i64 x.ch.length, .bool false, .slice none 0 0] 32)) = W1 at HNP ⊢
    generalize w1.heap.size = o at HNP ⊢
    clear y3 HB1 HS1 HR1 HSU1 HBW1 hs1 hlt1 HB HS HR HZ HBW HSU
    obtain ⟨i0, hi0, hz0, hz1, hz2⟩ := info_partsE infoRow
    go_loopw [10, 11, 12, 36] (fun _ _ _ vk wr => ∃ (k b : Nat) (rows : List (List Nat)) (v : Value), vk = .int .i64 k ∧ k ≤ x.ch.length ∧ Hid (rowsGo s N x.ch a k = (true, rows, b)) ∧ Hid (NpB w0 w wr x (.slice (some ⟨b0, off, none⟩) x.ch.length ccv) (.slice ps l.length cs) s g b o v) ∧ Hid (OwnR (o + 1) wr v rows)) (fun _ _ _ vk _ => x.ch.length - (intOf vk).toNat)
    case atStart => exact ⟨0, a, [], .slice none 0 0, rfl, by omega, rfl, HNP, OwnR.nil _ _⟩
    case round =>
      obtain ⟨k, b, rows, v, rfl, hk, hgo, hnp, hown⟩ := hrel
      clear HNP
      by_cases hlt : k < x.ch.length
      · have hrw := HROW.out.below hnp.out.old HROW.out.blk
        have cel := hrw.cell k hlt
        have y0 := hnp.out.bx.n
        rw [HN.out] at y0
        have hqq : x.ch.getD k 0 = x.ch[k] := getD_at _ 0 hlt
        have hqb := ch_at HG.out hlt
        have k0 : (0 : Int) ≤ (k : Int) := by omega
        have k1 : (k : Int) < (x.ch.length : Int) := by omega
        rw [hqq] at hqb
        have HQ := Lib.hid hqq
        clear hrw hqq
        generalize x.ch[k] = q at cel hqb HQ
        go_wp2_with fail
        refine (uni_any s g N q b wr hnp.out.sup (by omega) (by omega) (by omega) hnp.out.pos hs).mono ?_
        rintro e w2 ⟨rv, rfl, hv2, hs2, hp2, hg2⟩
        cases hz : numGo s q b N with
        | none =>
          rw [numOut_none hz] at hs2 hp2
          rw [numOut_none hz]
          have HNP2 := Lib.hid (hnp.out.grow hg2 hs2 hp2)
          have HO : Hid (pubOut mPrime x l s a = ⟨4, el0, el0, b⟩) := pubOut_short HK.out HN.out (i := k + 1) (by omega) (rowsGo_stop hgo.out (by rw [HQ.out]; exact hz))
          have r0 := HNP2.out.res.cell 0 (by simp); have r1 := HNP2.out.res.cell 1 (by simp); have r2 := HNP2.out.res.cell 2 (by simp); have r3 := HNP2.out.res.cell 3 (by simp); have r4 := HNP2.out.res.cell 4 (by simp); have r5 := HNP2.out.res.cell 5 (by simp)
          have s0 := HNP2.out.res.free 0; have s1 := HNP2.out.res.free 1; have s2 := HNP2.out.res.free 2; have s3 := HNP2.out.res.free 3; have s4 := HNP2.out.res.free 4; have s5 := HNP2.out.res.free 5
          clear hv2 hs2 hp2 hg2 hz cel y0 hown
          go_wp2_with fail
          obtain ⟨f1, f2, f3, f4⟩ := HNP2.out.out (.int .i64 0) (.bool false) (.slice none 0 0) (.int .i64 0) (.bool false) (.slice none 0 0)
          have q0 := f1.cell 0 (by simp); have q1 := f1.cell 1 (by simp); have q2 := f1.cell 2 (by simp); have q3 := f1.cell 3 (by simp); have q4 := f1.cell 4 (by simp); have q5 := f1.cell 5 (by simp)
          refine bodyPost_ret (v := .tuple #[.agg #[.int .i64 0, .bool false, .slice none 0 0, .int .i64 0, .bool false, .slice none 0 0], .int .i64 4]) (by simp [results, Tryz.results6, go_sem, q0, q1, q2, q3, q4, q5]) rfl ?_
          exact ⟨.slice none 0 0, .slice none 0 0, by rw [HO.out]; rfl, by rw [HO.out]; exact OwnR.nil _ _, by rw [HO.out]; exact OwnR.nil _ _, by rw [HO.out]; exact f2, by rw [HO.out]; exact HNP2.out.pos, f3⟩
        | some r =>
          obtain ⟨z, c⟩ := r
          rw [numOut_some hz] at hs2 hp2 hv2
          rw [numOut_some hz]
          have HNP2 := Lib.hid (hnp.out.grow hg2 hs2 hp2)
          have hown2 := hown.out.grow hg2 (by have := hnp.out.gw; have := hnp.out.wo; omega)
          have HRV := Lib.hid (own_mono hv2 (show o + 1 ≤ wr.heap.size from hnp.out.lt))
          obtain ⟨pr, cr, rfl⟩ := own_slice hv2
          obtain ⟨vs, h1, h2⟩ := hown2
          obtain ⟨pv, cvv, rfl⟩ := own_slice h1
          have hrl : rows.length ≤ 24 := by have := (rowsGo_ok ha _ _ _ hgo.out).1; omega
          have c2 := HNP2.out.el.cell 2 (by simp)
          have hlo : o + 1 ≤ w2.heap.size := HNP2.out.lt
          have HGO2 : Hid (rowsGo s N x.ch a (k + 1) = (true, rows ++ [z], c)) := rowsGo_succ hgo.out (by rw [HQ.out]; exact hz)
          have H1 := Lib.hid h1; have H2 := Lib.hid h2
          clear hv2 hs2 hp2 hg2 hz cel y0 hown h1 h2
          go_wp2_with (at_builtin; (refine wpList_append_own _ rfl _ _ 30 rfl (o + 1) 23 i0 (.slice none 0 0) 1 24 Tryz.underlying30 hi0 hz0 hz1 hz2 rfl (by decide) _ _ _ rfl (H1.out.alloc _) ⟨w2.heap.size, 0, none⟩ 1 1 [.slice pr z.length cr] rfl rfl (cell_one_new _ _ _) (by simp [Value.oneCell']) (by unfold maxLen; omega) (by omega) (by simp; omega) ?_); intro v' W3 hown' hgrow _; obtain ⟨g', cap', rfl⟩ := ownsRow_succ hown'; obtain ⟨hO3, hB3⟩ := ownr_app (o := 0) (rv := .slice pr z.length cr) (r := z) (tmp := (.cells #[.slice pr z.length cr] 23)) rfl hlo H1.out H2.out HRV.out hgrow hown'; have HO3 := Lib.hid hO3; have HNP3 := Lib.hid (HNP2.out.low hB3); have c4 := HNP3.out.el.cell 2 (by simp); have f4 := HNP3.out.el.free 2; clear hown' hgrow hO3 hB3)
          go_roundw
          case rel => exact ⟨k + 1, c, rows ++ [z], _, by go_num, by omega, HGO2, HNP3.out.store _, HO3.out.low (by omega)⟩
          case measure => simp [intOf]; omega
      · obtain rfl : k = x.ch.length := by omega
        obtain ⟨pv, cvv, hve⟩ := hown.out.val
        subst hve
        have y0 := hnp.out.bx.n
        rw [HN.out] at y0
        have y6 := hnp.out.bx.er
        have k1 : ¬ ((x.ch.length : Int) < (x.ch.length : Int)) := by omega
        go_wp2_with fail
        refine (bnd_any s g N x.er b wr hnp.out.sup (by omega) (by omega) hnp.out.pos hs).mono ?_
        rintro e w2 ⟨lv, rfl, hv2, hs2, hp2, hg2⟩
        cases hz : numGo s (2 * x.er + 1) b N with
        | none =>
          rw [numOut_none hz] at hs2 hp2
          rw [numOut_none hz]
          have HNP2 := Lib.hid (hnp.out.grow hg2 hs2 hp2)
          have HO : Hid (pubOut mPrime x l s a = ⟨4, el0, el0, b⟩) := pubOut_none HK.out HN.out hgo.out hz
          have r0 := HNP2.out.res.cell 0 (by simp); have r1 := HNP2.out.res.cell 1 (by simp); have r2 := HNP2.out.res.cell 2 (by simp); have r3 := HNP2.out.res.cell 3 (by simp); have r4 := HNP2.out.res.cell 4 (by simp); have r5 := HNP2.out.res.cell 5 (by simp)
          have s0 := HNP2.out.res.free 0; have s1 := HNP2.out.res.free 1; have s2 := HNP2.out.res.free 2; have s3 := HNP2.out.res.free 3; have s4 := HNP2.out.res.free 4; have s5 := HNP2.out.res.free 5
          clear hv2 hs2 hp2 hg2 hz y0 y6 hown
          go_wp2_with fail
          obtain ⟨f1, f2, f3, f4⟩ := HNP2.out.out (.int .i64 0) (.bool false) (.slice none 0 0) (.int .i64 0) (.bool false) (.slice none 0 0)
          have q0 := f1.cell 0 (by simp); have q1 := f1.cell 1 (by simp); have q2 := f1.cell 2 (by simp); have q3 := f1.cell 3 (by simp); have q4 := f1.cell 4 (by simp); have q5 := f1.cell 5 (by simp)
          refine bodyPost_ret (v := .tuple #[.agg #[.int .i64 0, .bool false, .slice none 0 0, .int .i64 0, .bool false, .slice none 0 0], .int .i64 4]) (by simp [results, Tryz.results6, go_sem, q0, q1, q2, q3, q4, q5]) rfl ?_
          exact ⟨.slice none 0 0, .slice none 0 0, by rw [HO.out]; rfl, by rw [HO.out]; exact OwnR.nil _ _, by rw [HO.out]; exact OwnR.nil _ _, by rw [HO.out]; exact f2, by rw [HO.out]; exact HNP2.out.pos, f3⟩
        | some r =>
          obtain ⟨z, c⟩ := r
          rw [numOut_some hz] at hs2 hp2 hv2
          rw [numOut_some hz]
          have hzk := numGo_ok hnp.out.pos _ _ _ hz
          have hzl := hzk.1
          have HZB : Hid (∀ v, v ∈ z → v < 2 * x.er + 1) := hzk.2.1
          have HNP2 := Lib.hid (hnp.out.grow hg2 hs2 hp2)
          have HOW2 := Lib.hid (hown.out.grow hg2 (by have := hnp.out.gw; have := hnp.out.wo; omega))
          obtain ⟨qb, cap, rfl, hoz⟩ := OwZ.ofOwn hzl (by omega) (own_mono hv2 (show o + 1 ≤ wr.heap.size from hnp.out.lt))
          have HOZ2 := Lib.hid hoz
          have HY : Hid (pubOut mPrime x l s a = pubYes mPrime x l rows z c) := pubOut_yes HK.out HN.out hgo.out hz
          have HRR : Hid (ResR x x.ch.length N rows) := ResR.of ha HG.out hgo.out
          have HZL := Lib.hid hzl
          clear hv2 hs2 hp2 hg2 hz hzk hzl hoz y0 y6 hown hnp hgo
          obtain ⟨y0, y1, y2, y3, y4, y5, y6⟩ := HNP2.out.bx
          go_wp2_with fail
          refine (pmod_any x _ x.r _ HX.out (HCV.out.below HNP2.out.old)).mono ?_
          rintro e w3 ⟨rfl, hb3⟩
          rw [HOR.out.2.1]
          have ht0 := HOR.out.2.2
          obtain ⟨t, ht⟩ : ∃ t, modVal mPrime x x.r = t := ⟨_, rfl⟩
          have HNP3 := Lib.hid (HNP2.out.below hb3); have HOW3 := Lib.hid (HOW2.out.below hb3); have HOZ3 := Lib.hid (HOZ2.out.below hb3)
          rw [ht] at ht0
          rw [ht]
          have HT := Lib.hid ht
          clear hb3 HNP2 HOW2 HOZ2 ht y0 y1 y2 y3 y4 y5 y6
          go_wp2_with fail
          go_loopw [16, 85] (fun _ vk wr => ∃ k : Nat, vk = .int .i64 k ∧ k ≤ N ∧ Hid (NpB w0 w wr x (.slice (some ⟨b0, off, none⟩) x.ch.length ccv) (.slice ps l.length cs) s g c o (.slice pv rows.length cvv)) ∧ Hid (OwnR (o + 1) wr (.slice pv rows.length cvv) rows) ∧ Hid (OwZ (o + 1) wr qb cap N (fun j => if j < k then (((z.getD j 0 : Nat) : Int) - (x.er : Nat)) * (t : Nat) else ((z.getD j 0 : Nat) : Int) - (x.er : Nat)))) (fun _ vk _ => N - (intOf vk).toNat)
          case atStart => exact ⟨0, rfl, by omega, HNP3, HOW3, HOZ3⟩
          case round =>
            obtain ⟨k, rfl, hk, hnp, hown, hoz⟩ := hrel
            clear HNP3 HOW3 HOZ3
            by_cases hlt : k < N
            · have cel := hoz.out.cell hlt
              have fz := hoz.out.free k
              have hzu : z.getD k 0 < 2 * x.er + 1 := by
                have e := getD_at z 0 (show k < z.length by rw [HZL.out]; exact hlt)
                rw [e]; exact HZB.out _ (List.getElem_mem _)
              simp only [if_neg (Nat.lt_irrefl k)] at cel
              obtain ⟨u, hu⟩ : ∃ u : Int, u = ((z.getD k 0 : Nat) : Int) - (x.er : Nat) := ⟨_, rfl⟩
              rw [← hu] at cel
              have hu1 : u ≤ 64 := by omega
              have hu2 : -64 ≤ u := by omega
              have hm1 : u * (t : Int) ≤ 64 * (t : Int) := Int.mul_le_mul_of_nonneg_right hu1 (by omega)
              have hm2 : -64 * (t : Int) ≤ u * (t : Int) := Int.mul_le_mul_of_nonneg_right hu2 (by omega)
              have e1 : IntKind.i64.wrap (u * (t : Int)) = u * (t : Int) := by rw [IntKind.wrap_i64]; omega
              have k0 : (0 : Int) ≤ (k : Int) := by omega
              have k1 : (k : Int) < (N : Int) := by omega
              have hge := hoz.out.ge
              have HOZ' : Hid (OwZ (o + 1) (wr.setCell ⟨qb, k, none⟩ (.int .i64 (u * (t : Int)))) qb cap N (fun j => if j < k + 1 then (((z.getD j 0 : Nat) : Int) - (x.er : Nat)) * (t : Nat) else ((z.getD j 0 : Nat) : Int) - (x.er : Nat))) := hoz.out.set hlt (fun j hj => by
                by_cases e : j = k
                · subst e; rw [if_pos (by omega), if_pos rfl, hu]
                · rw [if_neg e]
                  by_cases e2 : j < k
                  · rw [if_pos e2, if_pos (by omega)]
                  · rw [if_neg e2, if_neg (by omega)])
              have hG : wr.grownBy (wr.setCell ⟨qb, k, none⟩ (.int .i64 (u * (t : Int)))) (some qb) := gr_set (gr_refl _ _) k _
              have HOW' : Hid (OwnR (o + 1) (wr.setCell ⟨qb, k, none⟩ (.int .i64 (u * (t : Int)))) (.slice pv rows.length cvv) rows) := hown.out.other hG (fun r e => by injection e with e; subst e; exact hoz.out.noRow)
              have HNP' : Hid (NpB w0 w (wr.setCell ⟨qb, k, none⟩ (.int .i64 (u * (t : Int)))) x (.slice (some ⟨b0, off, none⟩) x.ch.length ccv) (.slice ps l.length cs) s g c o (.slice pv rows.length cvv)) := hnp.out.low (below_gr (Below.refl _ _) hG (show o + 1 ≤ _ from hnp.out.lt) hge)
              clear hm1 hm2 hu hG
              go_wp2_with fail
              go_roundw
              case rel => exact ⟨k + 1, by go_num, by omega, HNP', HOW', HOZ'⟩
              case measure => simp [intOf]; omega
            · obtain rfl : k = N := by omega
              have hsl : SliceZ .i64 wr (.slice (some ⟨qb, 0, none⟩) k cap) (noiseZ mPrime x z) := by
                have h := hoz.out.slice (by omega) (fun j hj => by
                  have hzu : z.getD j 0 < 2 * x.er + 1 := by
                    have e := getD_at z 0 (show j < z.length by rw [HZL.out]; exact hj)
                    rw [e]; exact HZB.out _ (List.getElem_mem _)
                  simp only [if_pos hj]
                  have hm1 : (((z.getD j 0 : Nat) : Int) - (x.er : Nat)) * (t : Int) ≤ 64 * (t : Int) := Int.mul_le_mul_of_nonneg_right (by omega) (by omega)
                  have hm2 : -64 * (t : Int) ≤ (((z.getD j 0 : Nat) : Int) - (x.er : Nat)) * (t : Int) := Int.mul_le_mul_of_nonneg_right (by omega) (by omega)
                  omega)
                rw [show rowZ k (fun j => if j < k then (((z.getD j 0 : Nat) : Int) - (x.er : Nat)) * (t : Nat) else ((z.getD j 0 : Nat) : Int) - (x.er : Nat)) = noiseZ mPrime x z by
                  rw [← rowZ_noise HZL.out, HT.out]; exact rowZ_congr fun j hj => if_pos hj] at h
                exact h
              have HNL : Hid ((noiseZ mPrime x z).length = k) := by show _ = _; rw [← HZL.out]; simp [noiseZ]
              have HSL := Lib.hid hsl
              have k1 : ¬ ((k : Int) < (k : Int)) := by omega
              clear hsl hoz HZB HT
              obtain ⟨y0, y1, y2, y3, y4, y5, y6⟩ := hnp.out.bx
              have y8 := hnp.out.el.cell 0 (by simp)
              go_wp2_with fail
              refine (rfint_any x x.ch.length k _ _ (noiseZ mPrime x z) _ HG.out HX.out HN.out (HCV.out.below hnp.out.old) hl1 (Nat.le_refl _) HSL.out HNL.out).mono ?_
              rintro e w4 ⟨vf, rfl, hvf, hb4⟩
              obtain ⟨pf, cf, rfl⟩ : ∃ p c, vf = .slice p x.ch.length c := by obtain ⟨p, c, e⟩ := hvf.val; exact ⟨p, c, by rw [elRows_len] at e; exact e⟩
              have hq4 : Below wr.heap.size wr (w4.alloc (.cells #[.int .i64 x.ch.length, .bool false, .slice pf x.ch.length cf] 32)) := hb4.alloc hb4.size _
              have HNP5 := Lib.hid (hnp.out.below hq4); have HOW5 := Lib.hid (hown.out.below hq4)
              have HFB5 : Hid (Blk (w4.alloc (.cells #[.int .i64 x.ch.length, .bool false, .slice pf x.ch.length cf] 32)) w4.heap.size [.int .i64 x.ch.length, .bool false, .slice pf x.ch.length cf] 32) := Blk.new _ _ _
              have HFO5 : Hid (OwnR (o + 1) (w4.alloc (.cells #[.int .i64 x.ch.length, .bool false, .slice pf x.ch.length cf] 32)) (.slice pf x.ch.length cf) (elRows x.ch.length k (fun i => intF (noiseZ mPrime x z) (x.ch.getD i 0)))) := (hvf.mono (show o + 1 ≤ _ from hnp.out.lt)).below ((Below.refl _ _).alloc (Nat.le_refl _) _)
              unfold elVal
              clear hq4 hvf hb4 hnp hown HSL y0 y1 y2 y3 y4 y5 y6 y8
              go_wp2_with fail
              generalize (w4.alloc (.cells #[.int .i64 x.ch.length, .bool false, .slice pf x.ch.length cf] 32)) = W5 at HNP5 HOW5 HFB5 HFO5 ⊢
              generalize w4.heap.size = fb at HFB5 ⊢
              have HSV5 := Lib.hid (HSV.out.below HNP5.out.old)
              have HCV5 := Lib.hid (HCV.out.below HNP5.out.old)
              have hlo : o < W5.heap.size := HNP5.out.lt
              have hwo := HNP5.out.wo
              obtain ⟨y0, y1, y2, y3, y4, y5, y6⟩ := HNP5.out.bx
              have y7 := HNP5.out.sec
              have y8 := HNP5.out.el.cell 0 (by simp)
              have eaW5 : w.heap.size ≠ W5.heap.size := (by omega); have ebW5 : W5.heap.size ≠ w.heap.size := (by omega); have ecW5 : w.heap.size + 1 ≠ W5.heap.size := (by omega); have edW5 : W5.heap.size ≠ w.heap.size + 1 := (by omega); have eeW5 : o ≠ W5.heap.size := (by omega); have efW5 : W5.heap.size ≠ o := (by omega)
              refine region_via (fun a0 a1 Z => ∃ (db : Nat) (p1 : Option Addr) (c1 : Nat) (p2 : Option Addr) (c2 : Nat), Hid (NpT w0 w Z x (.slice (some ⟨b0, off, none⟩) x.ch.length ccv) (.slice ps l.length cs) s g c o (.slice pv rows.length cvv) rows fb (.slice pf x.ch.length cf) (elRows x.ch.length k (fun i => intF (noiseZ mPrime x z) (x.ch.getD i 0))) db (.slice p2 x.ch.length c2) (elRows x.ch.length k (fun i => intF l (x.ch.getD i 0)))) ∧
                a1 = (((((((((((a0.put (some 105) (.agg #[.int .i64 x.n, .int .u32 x.p, .int .i64 x.r, (.slice (some ⟨b0, off, none⟩) x.ch.length ccv), .int .u32 x.sp, .int .i64 x.wt, .int .u32 x.er])).put (some 106) (.pointer (some ⟨o, 0, none⟩))).put (some 107) (.int .i64 x.ch.length)).put (some 108) (.agg #[(.slice ps l.length cs)])).put (some 109) (.slice p1 l.length c1)).put (some 110) (.tuple #[.agg #[.int .i64 x.ch.length, .bool false, .slice p2 x.ch.length c2], .int .i64 0])).put (some 104) (.tuple #[.agg #[.int .i64 x.ch.length, .bool false, .slice p2 x.ch.length c2], .int .i64 0])).put (some 111) (.agg #[.int .i64 x.ch.length, .bool false, .slice p2 x.ch.length c2])).put (some 112) (.int .i64 0)).put (some 19) (.pointer (some ⟨db, 0, none⟩))).put (some 20) (.int .i64 0))) ?main ?keyp
              case main =>
                go_region_held3 (fun w' => w'.cell? ⟨w.heap.size, 0, none⟩ = some (.int .i64 x.n) ∧ w'.cell? ⟨w.heap.size, 1, none⟩ = some (.int .u32 x.p) ∧ w'.cell? ⟨w.heap.size, 2, none⟩ = some (.int .i64 x.r) ∧ w'.cell? ⟨w.heap.size, 3, none⟩ = some (.slice (some ⟨b0, off, none⟩) x.ch.length ccv) ∧ w'.cell? ⟨w.heap.size, 4, none⟩ = some (.int .u32 x.sp) ∧ w'.cell? ⟨w.heap.size, 5, none⟩ = some (.int .i64 x.wt) ∧ w'.cell? ⟨w.heap.size, 6, none⟩ = some (.int .u32 x.er) ∧ w'.cell? ⟨w.heap.size + 1, 0, none⟩ = some (.slice ps l.length cs) ∧ w'.cell? ⟨o, 0, none⟩ = some (.int .i64 x.ch.length)) (go_keep)
                  (first
                    | (go_at_call 41; refine (kints_any _ l _ (HSV5.out.below (by first | exact (Below.refl _ _).drew | exact ((Below.refl _ _).alloc (Nat.le_refl _) _).drew)) (by have := HLN.out; omega)).mono ?_; rintro e W6 ⟨iv, rfl, hiv, hb6⟩; have q6 : Below W5.heap.size W5 W6 := below_then hb6 (by first | exact (Below.refl _ _).drew | exact ((Below.refl _ _).alloc (Nat.le_refl _) _).drew) (by simp); obtain ⟨pi, ci, rfl⟩ : ∃ p c, iv = .slice p l.length c := (by obtain ⟨p, c, e, _⟩ := hiv; exact ⟨p, c, e⟩); have NP6 := Lib.hid (HNP5.out.below q6); obtain ⟨k0, k1, k2, k3, k4, k5, k6⟩ := NP6.out.bx; have k7 := NP6.out.sec; have k8 := NP6.out.el.cell 0 (by simp); have hs6 := q6.size; have eaW6 : w.heap.size ≠ W6.heap.size := (by omega); have ebW6 : W6.heap.size ≠ w.heap.size := (by omega); have ecW6 : w.heap.size + 1 ≠ W6.heap.size := (by omega); have edW6 : W6.heap.size ≠ w.heap.size + 1 := (by omega); have eeW6 : o ≠ W6.heap.size := (by omega); have efW6 : W6.heap.size ≠ o := (by omega); obtain ⟨hc6, hf6⟩ := bcell hb6; (try (have hz5 : W5.heap.size < W6.heap.size := (by have h := hb6.size; simp at h; omega))); (try (have hbk6 : Hid (Blk W6 W5.heap.size [.int .i64 0, .bool false, .slice none 0 0] 32) := (Blk.below (Blk.drew (Blk.new W5 #[.int .i64 0, .bool false, .slice none 0 0] _)) hb6 (by simp)))); have HIV := Lib.hid hiv; have HQ6 := Lib.hid q6; clear hiv hb6 q6)
                    | (go_at_call 40; refine (rfint_any x x.ch.length k _ _ l _ HG.out HX.out HN.out (by first | exact HCV5.out.below HQ6.out | exact HCV5.out.below (HQ6.out.alloc HQ6.out.size _)) hl1 (Nat.le_refl _) (by first | exact HIV.out | exact HIV.out.below ((Below.refl _ _).alloc (Nat.le_refl _) _)) HLN.out).mono ?_; rintro e W7 ⟨vd, rfl, hvd, hb7⟩; obtain ⟨pd, cd, rfl⟩ : ∃ p c, vd = .slice p x.ch.length c := (by obtain ⟨p, c, e⟩ := hvd.val; exact ⟨p, c, by rw [elRows_len] at e; exact e⟩); unfold elVal; have q7 : Below W5.heap.size W5 W7 := below_then hb7 (by first | exact HQ6.out | exact HQ6.out.alloc HQ6.out.size _) (by first | exact hs6 | (simp; omega)); have HVD := Lib.hid (OwnR.mono (b2 := W5.heap.size) hvd (by first | exact hs6 | (simp; omega))); have NP7 := Lib.hid (HNP5.out.below q7); obtain ⟨m0, m1, m2, m3, m4, m5, m6⟩ := NP7.out.bx; have m7 := NP7.out.sec; have m8 := NP7.out.el.cell 0 (by simp); have hs7 := q7.size; obtain ⟨hc7, hf7⟩ := bcell hb7; (try (have hz6 : W6.heap.size < W7.heap.size := (by have h := hb7.size; simp at h; omega))); (try (have hz57 : W5.heap.size < W7.heap.size := (by have h := hb7.size; simp at h; omega))); (try (have hbk7 : Hid (Blk W7 W5.heap.size [.int .i64 0, .bool false, .slice none 0 0] 32) := (hbk6.out.below hb7 (by omega)))); (try (have hbm7 : Hid (Blk W7 W6.heap.size [.int .i64 0, .bool false, .slice none 0 0] 32) := (Blk.below (Blk.new W6 #[.int .i64 0, .bool false, .slice none 0 0] _) hb7 (by simp)))); have HQ7 := Lib.hid q7; clear hvd hb7 q7))
                all_goals
                  first
                    | exact ⟨rfl, _, pi, ci, pd, cd, Lib.hid (NpT.late HNP5.out HOW5.out HFB5.out HFO5.out HQ7.out HVD.out), rfl⟩
                    | exact ⟨rfl, _, pi, ci, pd, cd, Lib.hid (NpT.early HNP5.out HOW5.out HFB5.out HFO5.out HQ7.out HVD.out hs6 hbm7.out), rfl⟩
                    | exact ⟨rfl, _, pi, ci, pd, cd, Lib.hid (NpT.early HNP5.out HOW5.out HFB5.out HFO5.out HQ7.out HVD.out (Nat.le_refl _) hbk7.out), rfl⟩
              case keyp =>
                rintro a1 Z ⟨db, p1, c1, pd, cd, HT, rfl⟩
                simp only [Act.put, List.setIfInBounds_toArray, List.set_cons_zero, List.set_cons_succ]
                clear HNP5 HOW5 HFB5 HFO5 HSV5 HCV5 hlo hwo y0 y1 y2 y3 y4 y5 y6 y7 y8 eaW5 ebW5 ecW5 edW5 eeW5 efW5
                obtain ⟨y0, y1, y2, y3, y4, y5, y6⟩ := HT.out.np.bx
                have a0 := HT.out.np.el.cell 0 (by simp); have a1 := HT.out.np.el.cell 1 (by simp); have a2 := HT.out.np.el.cell 2 (by simp)
                have d0 := HT.out.db.cell 0 (by simp); have d1 := HT.out.db.cell 1 (by simp); have d2 := HT.out.db.cell 2 (by simp)
                go_wp2_with fail
                refine (rmul_any9 x x.ch.length k _ _ _ rows _ _ HG.out HX.out HN.out (HCV.out.below HT.out.np.old) hl1 (Nat.le_refl _) (HT.out.own.sliceG HG.out HRR.out (Nat.le_refl _) (by omega)) HRR.out (HT.out.do_.sliceG HG.out (res_ints HG.out (Nat.le_refl _) l) (Nat.le_refl _) (by omega)) (res_ints HG.out (Nat.le_refl _) l)).mono ?_
                rintro e W8 ⟨vm, rfl, hvm, hb8⟩
                obtain ⟨pm, cm, rfl⟩ : ∃ p c, vm = .slice p x.ch.length c := by obtain ⟨p, c, e⟩ := hvm.val; exact ⟨p, c, by rw [elRows_len] at e; exact e⟩
                have HT8 := Lib.hid (HT.out.below hb8)
                have HU := Lib.hid (NpT.late HT.out.np HT.out.own HT.out.fb HT.out.fo hb8 hvm)
                unfold elVal
                clear hb8 hvm y0 y1 y2 y3 y4 y5 y6 a0 a1 a2 d0 d1 d2 HT
                obtain ⟨y0, y1, y2, y3, y4, y5, y6⟩ := HT8.out.np.bx
                have f0 := HT8.out.fb.cell 0 (by simp); have f1 := HT8.out.fb.cell 1 (by simp); have f2 := HT8.out.fb.cell 2 (by simp)
                have hlf : fb < W8.heap.size := HT8.out.fb.lt
                have hlw : w.heap.size < W8.heap.size := by have := HT8.out.np.lt; have := HT8.out.np.wo; omega
                go_wp2_with fail
                refine (rsub_any x x.ch.length k _ _ _ _ _ _ HG.out HX.out HN.out (HCV.out.below HU.out.np.old) hl1 (Nat.le_refl _) (HU.out.fo.sliceG HG.out (res_ints HG.out (Nat.le_refl _) (noiseZ mPrime x z)) (Nat.le_refl _) (by omega)) (res_ints HG.out (Nat.le_refl _) (noiseZ mPrime x z)) (HU.out.do_.sliceG HG.out (res_mul HG.out (Nat.le_refl _) rows _) (Nat.le_refl _) (by omega)) (res_mul HG.out (Nat.le_refl _) rows _)).mono ?_
                rintro e W9 ⟨vb, rfl, hvb, hb9⟩
                obtain ⟨pb, cb, rfl⟩ : ∃ p c, vb = .slice p x.ch.length c := by obtain ⟨p, c, e⟩ := hvb.val; exact ⟨p, c, by rw [elRows_len] at e; exact e⟩
                have HU9 := Lib.hid (HU.out.below hb9)
                have HV := Lib.hid (NpT.late HU.out.np HU.out.own HU.out.fb HU.out.fo hb9 hvb)
                unfold elVal
                clear hb9 hvb y0 y1 y2 y3 y4 y5 y6 f0 f1 f2 hlf hlw HT8 HU
                obtain ⟨WA, hWA⟩ : ∃ WA, W9.alloc (.cells #[.int .i64 x.ch.length, .bool false, .slice pb x.ch.length cb] 32) = WA := ⟨_, rfl⟩
                rw [hWA] at HV
                have a0 := HV.out.np.el.cell 0 (by simp); have a1 := HV.out.np.el.cell 1 (by simp); have a2 := HV.out.np.el.cell 2 (by simp)
                have e0 := HV.out.db.cell 0 (by simp); have e1 := HV.out.db.cell 1 (by simp); have e2 := HV.out.db.cell 2 (by simp)
                have r0 := HV.out.np.res.cell 0 (by simp); have r1 := HV.out.np.res.cell 1 (by simp); have r2 := HV.out.np.res.cell 2 (by simp); have r3 := HV.out.np.res.cell 3 (by simp); have r4 := HV.out.np.res.cell 4 (by simp); have r5 := HV.out.np.res.cell 5 (by simp)
                have s0 := HV.out.np.res.free 0; have s1 := HV.out.np.res.free 1; have s2 := HV.out.np.res.free 2; have s3 := HV.out.np.res.free 3; have s4 := HV.out.np.res.free 4; have s5 := HV.out.np.res.free 5
                go_wp2_with fail
                clear hWA
                obtain ⟨g1, g2, g3, g4⟩ := HV.out.np.out (.int .i64 x.ch.length) (.bool false) (.slice pb x.ch.length cb) (.int .i64 x.ch.length) (.bool false) (.slice pv rows.length cvv)
                have q0 := g1.cell 0 (by simp); have q1 := g1.cell 1 (by simp); have q2 := g1.cell 2 (by simp); have q3 := g1.cell 3 (by simp); have q4 := g1.cell 4 (by simp); have q5 := g1.cell 5 (by simp)
                refine bodyPost_ret (v := .tuple #[.agg #[.int .i64 x.ch.length, .bool false, .slice pb x.ch.length cb, .int .i64 x.ch.length, .bool false, (.slice pv rows.length cvv)], .int .i64 0]) (by simp [results, Tryz.results6, go_sem, q0, q1, q2, q3, q4, q5]) rfl ?_
                have hwo := HV.out.np.wo
                refine ⟨.slice pb x.ch.length cb, (.slice pv rows.length cvv), by rw [HY.out]; rfl, ?_, ?_, by rw [HY.out]; exact g2, by rw [HY.out]; exact HV.out.np.pos, g3⟩
                · rw [HY.out]
                  have h := (HV.out.do_.grow g4 (by omega)).mono (show w.heap.size ≤ o + 1 by omega)
                  rw [pub_rows (z := noiseZ mPrime x z) HN.out] at h
                  exact h
                · rw [HY.out]; exact (HV.out.own.grow g4 (by omega)).mono (by omega)

end Go.Proofs.YtjpcljnojipdnaaGreat
