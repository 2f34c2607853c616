/- ring: alike, FromInts, Sub, Mul, at valid parameters and elements. (Printed by gen_PubG.py.) -/
import Derived.Test.YtjpcljnojipdnaaGreatPubF
import Derived.Test.YtjpcljnojipdnaaGreatRngI
namespace Go.Proofs.YtjpcljnojipdnaaGreat
open Go.RowKit Go.Shelf
set_option linter.unusedVariables false

theorem res_row {x : Par} {L N i : Nat} {rows : List (List Nat)} (hN : x.n = N) (h : ResR x L N rows) (hi : i < L) : rowB x (x.ch.getD i 0) (rows.getD i []) = true := by
  obtain ⟨h1, h2⟩ := h.2 i hi
  exact row_good (by rw [h1, hN]) (fun j hj => by have := h2 j; rw [getD_at _ 0 hj] at this; exact this)
theorem res_elem {x : Par} {L N : Nat} {rows : List (List Nat)} (hN : x.n = N) (hL1 : 1 ≤ L) (hL : L ≤ x.ch.length) (h : ResR x L N rows) : elemE x L false rows = 0 := by
  refine elem_yes (by unfold plB; simp; omega) ?_ (fun i hi => ?_)
  · rw [Int.toNat_natCast, qs_len hL, h.1]; rfl
  · have hiL : i < L := by rw [← h.1]; exact hi
    rw [Int.toNat_natCast, qs_at hL hiL]
    have := res_row hN h hiL
    rw [getD_at _ 0 (show i < x.ch.length by omega)] at this
    exact this
theorem res_of {x : Par} {L N : Nat} (F : Nat → Nat → Nat) (hF : ∀ i, i < L → ∀ k, F i k < x.ch.getD i 0) (hpos : ∀ i, i < L → 0 < x.ch.getD i 0) : ResR x L N (elRows L N F) := by
  refine ⟨elRows_len _ _ _, fun i hi => ?_⟩
  rw [elRows_getD F hi]
  refine ⟨rowOf_len _ _, fun k => ?_⟩
  by_cases hk : k < N
  · rw [rowOf_getD _ hk]; exact hF i hi k
  · rw [List.getD_eq_getElem?_getD, List.getElem?_eq_none (by rw [rowOf_len]; omega)]; exact hpos i hi
theorem ch_pos {x : Par} (hx : Good x) {i : Nat} (hi : i < x.ch.length) : 0 < x.ch.getD i 0 := by have := ch_at hx hi; omega
theorem res_ints {x : Par} {L N : Nat} (hx : Good x) (hL : L ≤ x.ch.length) (l : List Int) : ResR x L N (elRows L N (fun i => intF l (x.ch.getD i 0))) :=
  res_of _ (fun i hi k => resZ_lt (ch_pos hx (by omega))) (fun i hi => ch_pos hx (by omega))
theorem res_sum {x : Par} {L N : Nat} (hx : Good x) (hL : L ≤ x.ch.length) (c : Int) (ra rb : List (List Nat)) : ResR x L N (elRows L N (fun i => sumF c (x.ch.getD i 0) (ra.getD i []) (rb.getD i []))) :=
  res_of _ (fun i hi k => resZ_lt (ch_pos hx (by omega))) (fun i hi => ch_pos hx (by omega))
theorem res_mul {x : Par} {L N : Nat} (hx : Good x) (hL : L ≤ x.ch.length) (ra rb : List (List Nat)) : ResR x L N (elRows L N (fun i => mulF (x.ch.getD i 0) N (ra.getD i []) (rb.getD i []))) :=
  res_of _ (fun i hi k => resZ_lt (ch_pos hx (by omega))) (fun i hi => ch_pos hx (by omega))
theorem res32 {x : Par} {L : Nat} {F : Nat → Nat → Nat} (hx : Good x) (hL : L ≤ x.ch.length) (h : ∀ i, i < L → ∀ k, F i k < x.ch.getD i 0) : ∀ i, i < L → ∀ k, F i k < 4294967296 := fun i hi k => by
  have := h i hi k
  have := (ch_at hx (i := i) (by omega)).2
  omega

/-- Boxes: the parameters, two elements. -/
structure Bx2 (W : World) (B : Nat) (x : Par) (cv : Value) (L : Nat) (av bv : Value) : Prop where
  bp : BoxP W B x cv
  a0 : W.cell? ⟨B + 1, 0, none⟩ = some (.int .i64 L)
  a1 : W.cell? ⟨B + 1, 1, none⟩ = some (.bool false)
  a2 : W.cell? ⟨B + 1, 2, none⟩ = some av
  b0 : W.cell? ⟨B + 1 + 1, 0, none⟩ = some (.int .i64 L)
  b1 : W.cell? ⟨B + 1 + 1, 1, none⟩ = some (.bool false)
  b2 : W.cell? ⟨B + 1 + 1, 2, none⟩ = some bv
  sz : B + 1 + 1 + 1 ≤ W.heap.size
theorem Bx2.below {W W' : World} {B L : Nat} {x : Par} {cv av bv : Value} (h : Bx2 W B x cv L av bv) (hb : Below W.heap.size W W') : Bx2 W' B x cv L av bv :=
  have := h.sz
  ⟨h.bp.below hb (by omega), (below_at hb (by omega)).trans h.a0, (below_at hb (by omega)).trans h.a1, (below_at hb (by omega)).trans h.a2, (below_at hb (by omega)).trans h.b0, (below_at hb (by omega)).trans h.b1, (below_at hb (by omega)).trans h.b2, Nat.le_trans h.sz hb.size⟩

set_option maxHeartbeats 4000000 in
set_option maxRecDepth 100000 in
theorem ralike_yes (x : Par) (L N : Nat) (cv av bv : Value) (ra rb : List (List Nat)) (w : World) (hx : Good x) (hxo : ParOk x) (hN : x.n = N) (hcv : SliceAt w cv x.ch) (hL1 : 1 ≤ L) (hL : L ≤ x.ch.length)
    (hra : SliceR w av ra) (hRA : ResR x L N ra) (hrb : SliceR w bv rb) (hRB : ResR x L N rb) :
    Calls Tryz.prog 86 #[x.val cv, elVal L false av, elVal L false bv] w fun e w' => e = .returned (.bool true) ∧ Below w.heap.size w w' := by
  have hbW : Below w.heap.size w (((w.alloc (.cells #[.int .i64 x.n, .int .u32 x.p, .int .i64 x.r, cv, .int .u32 x.sp, .int .i64 x.wt, .int .u32 x.er] 25)).alloc (.cells #[.int .i64 L, .bool false, av] 32)).alloc (.cells #[.int .i64 L, .bool false, bv] 32)) := (((Below.refl _ _).alloc (Nat.le_refl _) _).alloc (by simp) _).alloc (by simp; omega) _
  have hB : Bx2 (((w.alloc (.cells #[.int .i64 x.n, .int .u32 x.p, .int .i64 x.r, cv, .int .u32 x.sp, .int .i64 x.wt, .int .u32 x.er] 25)).alloc (.cells #[.int .i64 L, .bool false, av] 32)).alloc (.cells #[.int .i64 L, .bool false, bv] 32)) w.heap.size x cv L av bv := by
    refine ⟨by constructor <;> simp [go_sem], ?_, ?_, ?_, ?_, ?_, ?_, by simp⟩ <;> simp [go_sem]
  have HA := Lib.hid (res_elem hN hL1 hL hRA); have HB2 := Lib.hid (res_elem hN hL1 hL hRB)
  obtain ⟨pc, nc, ccv, rfl⟩ : ∃ pa na ca, cv = .slice pa na ca := by obtain ⟨p, c, e, _⟩ := hcv; exact ⟨p, _, c, e⟩
  obtain ⟨pa, na, ca, rfl⟩ : ∃ p n c, av = .slice p n c := by obtain ⟨p, c, e, _⟩ := hra; exact ⟨p, _, c, e⟩
  obtain ⟨pb, nb, cb, rfl⟩ : ∃ p n c, bv = .slice p n c := by obtain ⟨p, c, e, _⟩ := hrb; exact ⟨p, _, c, e⟩
  have HCV := Lib.hid hcv; have HRA := Lib.hid hra; have HRB := Lib.hid hrb; have HX := Lib.hid hx; have HXO := Lib.hid hxo; have HBW := Lib.hid hbW; have HB := Lib.hid hB
  have hl2 := hx.l2
  clear hbW hB hcv hra hrb hx hxo hRA hRB hN
  unfold Par.val elVal
  go_enter Tryz.func86, Tryz.ntmps86
  go_wp2_with fail
  refine (rgcheck_any x _ _ L false _ _ HX.out HXO.out (HCV.out.below HBW.out) (HRA.out.below HBW.out)).mono ?_
  rintro e w1 ⟨rfl, hb1⟩
  rw [HA.out]
  have HB1 := Lib.hid (HB.out.below hb1)
  have HBW1 := Lib.hid (HBW.out.trans (hb1.mono HBW.out.size))
  clear hb1
  have y0 := HB1.out.bp.n; have y1 := HB1.out.bp.p; have y2 := HB1.out.bp.r; have y3 := HB1.out.bp.ch; have y4 := HB1.out.bp.sp; have y5 := HB1.out.bp.wt; have y6 := HB1.out.bp.er
  have z0 := HB1.out.a0; have z1 := HB1.out.a1; have z2 := HB1.out.a2; have z3 := HB1.out.b0; have z4 := HB1.out.b1; have z5 := HB1.out.b2
  go_wp2_with fail
  refine (rgcheck_any x _ _ L false _ _ HX.out HXO.out (HCV.out.below HBW1.out) (HRB.out.below HBW1.out)).mono ?_
  rintro e w2 ⟨rfl, hb2⟩
  rw [HB2.out]
  have HB3 := Lib.hid (HB1.out.below hb2)
  have HBW2 := Lib.hid (HBW1.out.trans (hb2.mono HBW1.out.size))
  clear hb2 y0 y1 y2 y3 y4 y5 y6 z0 z1 z2 z3 z4 z5
  have z0 := HB3.out.a0; have z1 := HB3.out.a1; have z3 := HB3.out.b0; have z4 := HB3.out.b1
  go_wp2_with fail
  go_ret
  exact ⟨rfl, HBW2.out⟩

set_option maxHeartbeats 4000000 in
set_option maxRecDepth 100000 in
theorem rtwo_yes (x : Par) (L N : Nat) (cv av bv : Value) (ra rb : List (List Nat)) (w : World) (hx : Good x) (hxo : ParOk x) (hN : x.n = N) (hcv : SliceAt w cv x.ch) (hL1 : 1 ≤ L) (hL : L ≤ x.ch.length)
    (hra : SliceR w av ra) (hRA : ResR x L N ra) (hrb : SliceR w bv rb) (hRB : ResR x L N rb) :
    Calls Tryz.prog 102 #[x.val cv, elVal L false av, elVal L false bv] w fun e w' => e = .returned (.bool true) ∧ Below w.heap.size w w' := by
  have hbW : Below w.heap.size w (((w.alloc (.cells #[.int .i64 x.n, .int .u32 x.p, .int .i64 x.r, cv, .int .u32 x.sp, .int .i64 x.wt, .int .u32 x.er] 25)).alloc (.cells #[.int .i64 L, .bool false, av] 32)).alloc (.cells #[.int .i64 L, .bool false, bv] 32)) := (((Below.refl _ _).alloc (Nat.le_refl _) _).alloc (by simp) _).alloc (by simp; omega) _
  have hB : Bx2 (((w.alloc (.cells #[.int .i64 x.n, .int .u32 x.p, .int .i64 x.r, cv, .int .u32 x.sp, .int .i64 x.wt, .int .u32 x.er] 25)).alloc (.cells #[.int .i64 L, .bool false, av] 32)).alloc (.cells #[.int .i64 L, .bool false, bv] 32)) w.heap.size x cv L av bv := by
    refine ⟨by constructor <;> simp [go_sem], ?_, ?_, ?_, ?_, ?_, ?_, by simp⟩ <;> simp [go_sem]
  have HA := Lib.hid (res_elem hN hL1 hL hRA); have HB2 := Lib.hid (res_elem hN hL1 hL hRB)
  obtain ⟨pc, nc, ccv, rfl⟩ : ∃ pa na ca, cv = .slice pa na ca := by obtain ⟨p, c, e, _⟩ := hcv; exact ⟨p, _, c, e⟩
  obtain ⟨pa, na, ca, rfl⟩ : ∃ p n c, av = .slice p n c := by obtain ⟨p, c, e, _⟩ := hra; exact ⟨p, _, c, e⟩
  obtain ⟨pb, nb, cb, rfl⟩ : ∃ p n c, bv = .slice p n c := by obtain ⟨p, c, e, _⟩ := hrb; exact ⟨p, _, c, e⟩
  have HCV := Lib.hid hcv; have HRA := Lib.hid hra; have HRB := Lib.hid hrb; have HX := Lib.hid hx; have HXO := Lib.hid hxo; have HBW := Lib.hid hbW; have HB := Lib.hid hB
  have hl2 := hx.l2
  clear hbW hB hcv hra hrb hx hxo hRA hRB hN
  unfold Par.val elVal
  go_enter Tryz.func102, Tryz.ntmps102
  go_wp2_with fail
  refine (rcheck9_any x _ _ L false _ _ HX.out (HCV.out.below HBW.out) (HRA.out.below HBW.out)).mono ?_
  rintro e w1 ⟨rfl, hb1⟩
  rw [HA.out]
  have HB1 := Lib.hid (HB.out.below hb1)
  have HBW1 := Lib.hid (HBW.out.trans (hb1.mono HBW.out.size))
  clear hb1
  have y0 := HB1.out.bp.n; have y1 := HB1.out.bp.p; have y2 := HB1.out.bp.r; have y3 := HB1.out.bp.ch; have y4 := HB1.out.bp.sp; have y5 := HB1.out.bp.wt; have y6 := HB1.out.bp.er
  have z0 := HB1.out.a0; have z1 := HB1.out.a1; have z2 := HB1.out.a2; have z3 := HB1.out.b0; have z4 := HB1.out.b1; have z5 := HB1.out.b2
  go_wp2_with fail
  refine (rcheck9_any x _ _ L false _ _ HX.out (HCV.out.below HBW1.out) (HRB.out.below HBW1.out)).mono ?_
  rintro e w2 ⟨rfl, hb2⟩
  rw [HB2.out]
  have HB3 := Lib.hid (HB1.out.below hb2)
  have HBW2 := Lib.hid (HBW1.out.trans (hb2.mono HBW1.out.size))
  clear hb2 y0 y1 y2 y3 y4 y5 y6 z0 z1 z2 z3 z4 z5
  have z0 := HB3.out.a0; have z1 := HB3.out.a1; have z3 := HB3.out.b0; have z4 := HB3.out.b1
  go_wp2_with fail
  go_ret
  exact ⟨rfl, HBW2.out⟩

set_option maxHeartbeats 4000000 in
set_option maxRecDepth 100000 in
theorem rsub_any (x : Par) (L N : Nat) (cv av bv : Value) (ra rb : List (List Nat)) (w : World) (hx : Good x) (hxo : ParOk x) (hN : x.n = N) (hcv : SliceAt w cv x.ch) (hL1 : 1 ≤ L) (hL : L ≤ x.ch.length)
    (hra : SliceR w av ra) (hRA : ResR x L N ra) (hrb : SliceR w bv rb) (hRB : ResR x L N rb) :
    Calls Tryz.prog 43 #[x.val cv, elVal L false av, elVal L false bv] w fun e w' => ∃ v, e = .returned (.tuple #[elVal L false v, .int .i64 0]) ∧ OwnR w.heap.size w' v (elRows L N (fun i => sumF (-1) (x.ch.getD i 0) (ra.getD i []) (rb.getD i []))) ∧ Below w.heap.size w w' := by
  have hmf : ∀ (fn : Fn) (first cap : Array Value) (w : World), (Instr.makeFunc fn first cap).run Tryz.prog w = .ok (.func fn first cap) w := fun _ _ _ _ => rfl
  have hbW : Below w.heap.size w ((((w.alloc (.cells #[.int .i64 x.n, .int .u32 x.p, .int .i64 x.r, cv, .int .u32 x.sp, .int .i64 x.wt, .int .u32 x.er] 25)).alloc (.cells #[.int .i64 L, .bool false, av] 32)).alloc (.cells #[.int .i64 L, .bool false, bv] 32)).alloc (.cells #[.int .i64 0, .bool false, .slice none 0 0] 32)) := ((((Below.refl _ _).alloc (Nat.le_refl _) _).alloc (by simp) _).alloc (by simp; omega) _).alloc (by simp; omega) _
  have hB : Bx2 ((((w.alloc (.cells #[.int .i64 x.n, .int .u32 x.p, .int .i64 x.r, cv, .int .u32 x.sp, .int .i64 x.wt, .int .u32 x.er] 25)).alloc (.cells #[.int .i64 L, .bool false, av] 32)).alloc (.cells #[.int .i64 L, .bool false, bv] 32)).alloc (.cells #[.int .i64 0, .bool false, .slice none 0 0] 32)) w.heap.size x cv L av bv := by
    refine ⟨by constructor <;> simp [go_sem], ?_, ?_, ?_, ?_, ?_, ?_, by simp⟩ <;> simp [go_sem]
  have hR : Blk ((((w.alloc (.cells #[.int .i64 x.n, .int .u32 x.p, .int .i64 x.r, cv, .int .u32 x.sp, .int .i64 x.wt, .int .u32 x.er] 25)).alloc (.cells #[.int .i64 L, .bool false, av] 32)).alloc (.cells #[.int .i64 L, .bool false, bv] 32)).alloc (.cells #[.int .i64 0, .bool false, .slice none 0 0] 32)) (w.heap.size + 1 + 1 + 1) [.int .i64 0, .bool false, .slice none 0 0] 32 := by
    have h := Blk.new (((w.alloc (.cells #[.int .i64 x.n, .int .u32 x.p, .int .i64 x.r, cv, .int .u32 x.sp, .int .i64 x.wt, .int .u32 x.er] 25)).alloc (.cells #[.int .i64 L, .bool false, av] 32)).alloc (.cells #[.int .i64 L, .bool false, bv] 32)) #[.int .i64 0, .bool false, .slice none 0 0] 32
    simpa using h
  obtain ⟨pc, nc, ccv, rfl⟩ : ∃ pa na ca, cv = .slice pa na ca := by obtain ⟨p, c, e, _⟩ := hcv; exact ⟨p, _, c, e⟩
  obtain ⟨pa, na, ca, rfl⟩ : ∃ p n c, av = .slice p n c := by obtain ⟨p, c, e, _⟩ := hra; exact ⟨p, _, c, e⟩
  obtain ⟨pb, nb, cb, rfl⟩ : ∃ p n c, bv = .slice p n c := by obtain ⟨p, c, e, _⟩ := hrb; exact ⟨p, _, c, e⟩
  have HCV := Lib.hid hcv; have HRA := Lib.hid hra; have HRB := Lib.hid hrb; have HX := Lib.hid hx; have HXO := Lib.hid hxo; have HBW := Lib.hid hbW; have HB := Lib.hid hB; have HR := Lib.hid hR; have HN := Lib.hid hN; have KA := Lib.hid hRA; have KB := Lib.hid hRB
  have hl2 := hx.l2
  have hdm := isDim_cases hx.dim
  have hN1 : 1 ≤ N := by omega
  have hN32 : N ≤ 32 := by omega
  clear hbW hB hcv hra hrb hx hxo hRA hRB hN hR hdm
  unfold Par.val elVal
  go_enter Tryz.func43, Tryz.ntmps43
  go_wp2_with fail
  refine (ralike_yes x L N _ _ _ ra rb _ HX.out HXO.out HN.out (HCV.out.below HBW.out) hL1 hL (HRA.out.below HBW.out) KA.out (HRB.out.below HBW.out) KB.out).mono ?_
  rintro e w1 ⟨rfl, hb1⟩
  have HB1 := Lib.hid (HB.out.below hb1)
  have HBW1 := Lib.hid (HBW.out.trans (hb1.mono HBW.out.size))
  have HR1 := Lib.hid (HR.out.below hb1 HR.out.lt)
  clear hb1
  have z0 := HB1.out.a0; have z1 := HB1.out.a1
  go_wp2_with fail
  refine (each_any x w.heap.size L N _ _ 88 (fun _ _ => rfl) #[.pointer (some ⟨w.heap.size + 1, 0, none⟩), .pointer (some ⟨w.heap.size + 1 + 1, 0, none⟩)] _ HX.out HN.out (HCV.out.below HBW1.out) HB1.out.bp (by have := HB1.out.sz; omega) hL1 hL (res32 HX.out hL (fun i hi k => resZ_lt (ch_pos HX.out (by omega))))
    (fsub_fill x (w.heap.size + 1) (w.heap.size + 1 + 1) N L ra rb _ _ _ HB1.out.a2 (by have := HB1.out.sz; omega) (HRA.out.below HBW1.out) KA.out HB1.out.b2 (by have := HB1.out.sz; omega) (HRB.out.below HBW1.out) KB.out hN1 hN32 HX.out hL hl2)).mono ?_
  rintro e w2 ⟨v, rfl, hv, hb2⟩
  obtain ⟨pv, cv2, rfl⟩ : ∃ p c, v = .slice p L c := by obtain ⟨p, c, e⟩ := hv.val; exact ⟨p, c, by rw [elRows_len] at e; exact e⟩
  unfold elVal at *
  have HR2 := Lib.hid (HR1.out.below hb2 HR1.out.lt)
  have HBW2 := Lib.hid (HBW1.out.trans (hb2.mono HBW1.out.size))
  have r0 := HR2.out.cell 0 (by simp); have r1 := HR2.out.cell 1 (by simp); have r2 := HR2.out.cell 2 (by simp)
  have s0 := HR2.out.free 0; have s1 := HR2.out.free 1; have s2 := HR2.out.free 2
  have HF := Lib.hid (ownr_set3 (.int .i64 L) (.bool false) (.slice pv L cv2) (hv.mono HBW1.out.size) HR2.out)
  clear hv hb2 z0 z1
  go_wp2_with fail
  obtain ⟨f1, f0, f2⟩ := HF.out
  have q0 := f0.cell 0 (by simp); have q1 := f0.cell 1 (by simp); have q2 := f0.cell 2 (by simp)
  refine bodyPost_ret (v := .tuple #[.agg #[.int .i64 L, .bool false, .slice pv L cv2], .int .i64 0]) (by simp [results, Tryz.results43, go_sem, q0, q1, q2]) rfl ?_
  exact ⟨_, rfl, f1, below_gr HBW2.out f2 HBW2.out.size (by omega)⟩

set_option maxHeartbeats 4000000 in
set_option maxRecDepth 100000 in
theorem rmul_any9 (x : Par) (L N : Nat) (cv av bv : Value) (ra rb : List (List Nat)) (w : World) (hx : Good x) (hxo : ParOk x) (hN : x.n = N) (hcv : SliceAt w cv x.ch) (hL1 : 1 ≤ L) (hL : L ≤ x.ch.length)
    (hra : SliceR w av ra) (hRA : ResR x L N ra) (hrb : SliceR w bv rb) (hRB : ResR x L N rb) :
    Calls Tryz.prog 42 #[x.val cv, elVal L false av, elVal L false bv] w fun e w' => ∃ v, e = .returned (.tuple #[elVal L false v, .int .i64 0]) ∧ OwnR w.heap.size w' v (elRows L N (fun i => mulF (x.ch.getD i 0) N (ra.getD i []) (rb.getD i []))) ∧ Below w.heap.size w w' := by
  have hmf : ∀ (fn : Fn) (first cap : Array Value) (w : World), (Instr.makeFunc fn first cap).run Tryz.prog w = .ok (.func fn first cap) w := fun _ _ _ _ => rfl
  have hbW : Below w.heap.size w ((((w.alloc (.cells #[.int .i64 x.n, .int .u32 x.p, .int .i64 x.r, cv, .int .u32 x.sp, .int .i64 x.wt, .int .u32 x.er] 25)).alloc (.cells #[.int .i64 L, .bool false, av] 32)).alloc (.cells #[.int .i64 L, .bool false, bv] 32)).alloc (.cells #[.int .i64 0, .bool false, .slice none 0 0] 32)) := ((((Below.refl _ _).alloc (Nat.le_refl _) _).alloc (by simp) _).alloc (by simp; omega) _).alloc (by simp; omega) _
  have hB : Bx2 ((((w.alloc (.cells #[.int .i64 x.n, .int .u32 x.p, .int .i64 x.r, cv, .int .u32 x.sp, .int .i64 x.wt, .int .u32 x.er] 25)).alloc (.cells #[.int .i64 L, .bool false, av] 32)).alloc (.cells #[.int .i64 L, .bool false, bv] 32)).alloc (.cells #[.int .i64 0, .bool false, .slice none 0 0] 32)) w.heap.size x cv L av bv := by
    refine ⟨by constructor <;> simp [go_sem], ?_, ?_, ?_, ?_, ?_, ?_, by simp⟩ <;> simp [go_sem]
  have hR : Blk ((((w.alloc (.cells #[.int .i64 x.n, .int .u32 x.p, .int .i64 x.r, cv, .int .u32 x.sp, .int .i64 x.wt, .int .u32 x.er] 25)).alloc (.cells #[.int .i64 L, .bool false, av] 32)).alloc (.cells #[.int .i64 L, .bool false, bv] 32)).alloc (.cells #[.int .i64 0, .bool false, .slice none 0 0] 32)) (w.heap.size + 1 + 1 + 1) [.int .i64 0, .bool false, .slice none 0 0] 32 := by
    have h := Blk.new (((w.alloc (.cells #[.int .i64 x.n, .int .u32 x.p, .int .i64 x.r, cv, .int .u32 x.sp, .int .i64 x.wt, .int .u32 x.er] 25)).alloc (.cells #[.int .i64 L, .bool false, av] 32)).alloc (.cells #[.int .i64 L, .bool false, bv] 32)) #[.int .i64 0, .bool false, .slice none 0 0] 32
    simpa using h
  obtain ⟨pc, nc, ccv, rfl⟩ : ∃ pa na ca, cv = .slice pa na ca := by obtain ⟨p, c, e, _⟩ := hcv; exact ⟨p, _, c, e⟩
  obtain ⟨pa, na, ca, rfl⟩ : ∃ p n c, av = .slice p n c := by obtain ⟨p, c, e, _⟩ := hra; exact ⟨p, _, c, e⟩
  obtain ⟨pb, nb, cb, rfl⟩ : ∃ p n c, bv = .slice p n c := by obtain ⟨p, c, e, _⟩ := hrb; exact ⟨p, _, c, e⟩
  have HCV := Lib.hid hcv; have HRA := Lib.hid hra; have HRB := Lib.hid hrb; have HX := Lib.hid hx; have HXO := Lib.hid hxo; have HBW := Lib.hid hbW; have HB := Lib.hid hB; have HR := Lib.hid hR; have HN := Lib.hid hN; have KA := Lib.hid hRA; have KB := Lib.hid hRB
  have hl2 := hx.l2
  have hdm := isDim_cases hx.dim
  have hN1 : 1 ≤ N := by omega
  have hN32 : N ≤ 32 := by omega
  clear hbW hB hcv hra hrb hx hxo hRA hRB hN hR hdm
  unfold Par.val elVal
  go_enter Tryz.func42, Tryz.ntmps42
  go_wp2_with fail
  refine (ralike_yes x L N _ _ _ ra rb _ HX.out HXO.out HN.out (HCV.out.below HBW.out) hL1 hL (HRA.out.below HBW.out) KA.out (HRB.out.below HBW.out) KB.out).mono ?_
  rintro e w1 ⟨rfl, hb1⟩
  have HB1 := Lib.hid (HB.out.below hb1)
  have HBW1 := Lib.hid (HBW.out.trans (hb1.mono HBW.out.size))
  have HR1 := Lib.hid (HR.out.below hb1 HR.out.lt)
  clear hb1
  have z0 := HB1.out.a0; have z1 := HB1.out.a1
  go_wp2_with fail
  refine (each_any x w.heap.size L N _ _ 87 (fun _ _ => rfl) #[.pointer (some ⟨w.heap.size + 1, 0, none⟩), .pointer (some ⟨w.heap.size + 1 + 1, 0, none⟩)] _ HX.out HN.out (HCV.out.below HBW1.out) HB1.out.bp (by have := HB1.out.sz; omega) hL1 hL (res32 HX.out hL (fun i hi k => resZ_lt (ch_pos HX.out (by omega))))
    (fmul_fill x (w.heap.size + 1) (w.heap.size + 1 + 1) N L ra rb _ _ _ HB1.out.a2 (by have := HB1.out.sz; omega) (HRA.out.below HBW1.out) KA.out HB1.out.b2 (by have := HB1.out.sz; omega) (HRB.out.below HBW1.out) KB.out hN1 hN32 HX.out hL hl2)).mono ?_
  rintro e w2 ⟨v, rfl, hv, hb2⟩
  obtain ⟨pv, cv2, rfl⟩ : ∃ p c, v = .slice p L c := by obtain ⟨p, c, e⟩ := hv.val; exact ⟨p, c, by rw [elRows_len] at e; exact e⟩
  unfold elVal at *
  have HR2 := Lib.hid (HR1.out.below hb2 HR1.out.lt)
  have HBW2 := Lib.hid (HBW1.out.trans (hb2.mono HBW1.out.size))
  have r0 := HR2.out.cell 0 (by simp); have r1 := HR2.out.cell 1 (by simp); have r2 := HR2.out.cell 2 (by simp)
  have s0 := HR2.out.free 0; have s1 := HR2.out.free 1; have s2 := HR2.out.free 2
  have HF := Lib.hid (ownr_set3 (.int .i64 L) (.bool false) (.slice pv L cv2) (hv.mono HBW1.out.size) HR2.out)
  clear hv hb2 z0 z1
  go_wp2_with fail
  obtain ⟨f1, f0, f2⟩ := HF.out
  have q0 := f0.cell 0 (by simp); have q1 := f0.cell 1 (by simp); have q2 := f0.cell 2 (by simp)
  refine bodyPost_ret (v := .tuple #[.agg #[.int .i64 L, .bool false, .slice pv L cv2], .int .i64 0]) (by simp [results, Tryz.results42, go_sem, q0, q1, q2]) rfl ?_
  exact ⟨_, rfl, f1, below_gr HBW2.out f2 HBW2.out.size (by omega)⟩

set_option maxHeartbeats 4000000 in
set_option maxRecDepth 100000 in
theorem rfint_any (x : Par) (L N : Nat) (cv lv : Value) (l : List Int) (w : World) (hx : Good x) (hxo : ParOk x) (hN : x.n = N) (hcv : SliceAt w cv x.ch) (hL1 : 1 ≤ L) (hL : L ≤ x.ch.length)
    (hl : SliceZ .i64 w lv l) (hlen : l.length = N) :
    Calls Tryz.prog 40 #[x.val cv, .int .i64 L, .bool false, lv] w fun e w' => ∃ v, e = .returned (.tuple #[elVal L false v, .int .i64 0]) ∧ OwnR w.heap.size w' v (elRows L N (fun i => intF l (x.ch.getD i 0))) ∧ Below w.heap.size w w' := by
  have hmf : ∀ (fn : Fn) (first cap : Array Value) (w : World), (Instr.makeFunc fn first cap).run Tryz.prog w = .ok (.func fn first cap) w := fun _ _ _ _ => rfl
  have hbW : Below w.heap.size w (((w.alloc (.cells #[.int .i64 x.n, .int .u32 x.p, .int .i64 x.r, cv, .int .u32 x.sp, .int .i64 x.wt, .int .u32 x.er] 25)).alloc (.cells #[lv] 55)).alloc (.cells #[.int .i64 0, .bool false, .slice none 0 0] 32)) := (((Below.refl _ _).alloc (Nat.le_refl _) _).alloc (by simp) _).alloc (by simp; omega) _
  have hB : BoxP (((w.alloc (.cells #[.int .i64 x.n, .int .u32 x.p, .int .i64 x.r, cv, .int .u32 x.sp, .int .i64 x.wt, .int .u32 x.er] 25)).alloc (.cells #[lv] 55)).alloc (.cells #[.int .i64 0, .bool false, .slice none 0 0] 32)) w.heap.size x cv := by constructor <;> simp [go_sem]
  have hC : (((w.alloc (.cells #[.int .i64 x.n, .int .u32 x.p, .int .i64 x.r, cv, .int .u32 x.sp, .int .i64 x.wt, .int .u32 x.er] 25)).alloc (.cells #[lv] 55)).alloc (.cells #[.int .i64 0, .bool false, .slice none 0 0] 32)).cell? ⟨w.heap.size + 1, 0, none⟩ = some lv := by simp [go_sem]
  have hR : Blk (((w.alloc (.cells #[.int .i64 x.n, .int .u32 x.p, .int .i64 x.r, cv, .int .u32 x.sp, .int .i64 x.wt, .int .u32 x.er] 25)).alloc (.cells #[lv] 55)).alloc (.cells #[.int .i64 0, .bool false, .slice none 0 0] 32)) (w.heap.size + 1 + 1) [.int .i64 0, .bool false, .slice none 0 0] 32 := by
    have h := Blk.new ((w.alloc (.cells #[.int .i64 x.n, .int .u32 x.p, .int .i64 x.r, cv, .int .u32 x.sp, .int .i64 x.wt, .int .u32 x.er] 25)).alloc (.cells #[lv] 55)) #[.int .i64 0, .bool false, .slice none 0 0] 32
    simpa using h
  have hS : (((w.alloc (.cells #[.int .i64 x.n, .int .u32 x.p, .int .i64 x.r, cv, .int .u32 x.sp, .int .i64 x.wt, .int .u32 x.er] 25)).alloc (.cells #[lv] 55)).alloc (.cells #[.int .i64 0, .bool false, .slice none 0 0] 32)).heap.size = w.heap.size + 3 := by simp
  obtain ⟨pc, nc, ccv, rfl⟩ : ∃ pa na ca, cv = .slice pa na ca := by obtain ⟨p, c, e, _⟩ := hcv; exact ⟨p, _, c, e⟩
  obtain ⟨pl, cl, rfl⟩ : ∃ p c, lv = .slice p N c := by obtain ⟨p, c, e, _⟩ := hl; exact ⟨p, c, by rw [hlen] at e; exact e⟩
  have HCV := Lib.hid hcv; have HLV := Lib.hid hl; have HX := Lib.hid hx; have HXO := Lib.hid hxo; have HBW := Lib.hid hbW; have HB := Lib.hid hB; have HR := Lib.hid hR; have HN := Lib.hid hN; have HC := Lib.hid hC; have HS := Lib.hid hS; have HLEN := Lib.hid hlen
  have hl2 := hx.l2
  have hdm := isDim_cases hx.dim
  have hN1 : 1 ≤ N := by omega
  have hN32 : N ≤ 32 := by omega
  have d1 : decide (1 ≤ (L : Int)) = true := decide_eq_true (by omega)
  have d2 : decide ((L : Int) ≤ (x.ch.length : Int)) = true := decide_eq_true (by omega)
  clear hbW hB hcv hl hx hxo hN hR hdm hC hlen hS
  unfold Par.val
  go_enter Tryz.func40, Tryz.ntmps40
  go_wp2_with fail
  refine (rvalid_yes x _ _ _ HX.out HXO.out HB.out (HCV.out.below HBW.out)).mono ?_
  rintro e w1 ⟨rfl, n1, hw1⟩
  have hb1 := below_eqN hw1
  have HB1 := Lib.hid (HB.out.below hb1 (by rw [HS.out]; omega))
  have HC1 := Lib.hid ((below_at hb1 (by rw [HS.out]; omega)).trans HC.out)
  have HBW1 := Lib.hid (HBW.out.trans (hb1.mono HBW.out.size))
  have HR1 := Lib.hid (HR.out.below hb1 HR.out.lt)
  have hs1 : w.heap.size + 3 ≤ w1.heap.size := by have := hb1.size; rw [HS.out] at this; exact this
  clear hb1 hw1
  go_wp2_with fail
  refine (rplace_any x _ _ L false _ HX.out HB1.out (HCV.out.below HBW1.out)).mono ?_
  rintro e w2 ⟨rfl, n2, hw2⟩
  rw [d1, d2]
  have hb2 := below_eqN hw2
  have HB2 := Lib.hid (HB1.out.below hb2 (by omega))
  have HC2 := Lib.hid ((below_at hb2 (by omega)).trans HC1.out)
  have HBW2 := Lib.hid (HBW1.out.trans (hb2.mono HBW1.out.size))
  have HR2 := Lib.hid (HR1.out.below hb2 HR1.out.lt)
  have hs2 : w.heap.size + 3 ≤ w2.heap.size := by have := hb2.size; omega
  clear hb2 hw2
  have z0 := HB2.out.n
  rw [HN.out] at z0
  have z1 := HC2.out
  go_wp2_with fail
  refine (each_any x w.heap.size L N _ _ 85 (fun _ _ => rfl) #[.pointer (some ⟨w.heap.size + 1, 0, none⟩)] _ HX.out HN.out (HCV.out.below HBW2.out) HB2.out (by omega) hL1 hL (res32 HX.out hL (fun i hi k => resZ_lt (ch_pos HX.out (by omega))))
    (fint_fill x (w.heap.size + 1) N L l _ _ HC2.out (by omega) (HLV.out.below HBW2.out) HLEN.out hN1 hN32 HX.out hL)).mono ?_
  rintro e w3 ⟨v, rfl, hv, hb3⟩
  obtain ⟨pv, cv2, rfl⟩ : ∃ p c, v = .slice p L c := by obtain ⟨p, c, e⟩ := hv.val; exact ⟨p, c, by rw [elRows_len] at e; exact e⟩
  unfold elVal at *
  have HR3 := Lib.hid (HR2.out.below hb3 HR2.out.lt)
  have HBW3 := Lib.hid (HBW2.out.trans (hb3.mono HBW2.out.size))
  have r0 := HR3.out.cell 0 (by simp); have r1 := HR3.out.cell 1 (by simp); have r2 := HR3.out.cell 2 (by simp)
  have s0 := HR3.out.free 0; have s1 := HR3.out.free 1; have s2 := HR3.out.free 2
  have HF := Lib.hid (ownr_set3 (.int .i64 L) (.bool false) (.slice pv L cv2) (hv.mono HBW2.out.size) HR3.out)
  clear hv hb3 z0 z1
  go_wp2_with fail
  obtain ⟨f1, f0, f2⟩ := HF.out
  have q0 := f0.cell 0 (by simp); have q1 := f0.cell 1 (by simp); have q2 := f0.cell 2 (by simp)
  refine bodyPost_ret (v := .tuple #[.agg #[.int .i64 L, .bool false, .slice pv L cv2], .int .i64 0]) (by simp [results, Tryz.results40, go_sem, q0, q1, q2]) rfl ?_
  exact ⟨_, rfl, f1, below_gr HBW3.out f2 HBW3.out.size (by omega)⟩
end Go.Proofs.YtjpcljnojipdnaaGreat
