/- KeysSecrets: the walk. (Printed by gen_SupJ.py.) -/
import Derived.Test.YtjfjbkocopaehaaSupI
import Derived.Deep.RegionHeld3
namespace Go.Proofs.Ytjfjbkocopaehaa
open Go.RowKit
set_option linter.unusedVariables false

theorem rowz_gr {k : IntKind} {W W' : World} {b off g : Nat} {l : List Int} (h : RowZ k W b off l) (hg : W.grownBy W' (some g)) (hne : b ≠ g) : RowZ k W' b off l :=
  ⟨Nat.lt_of_lt_of_le h.blk hg.size, fun i hi => (gr_cell hg h.blk hne).trans (h.cell i hi), h.rng⟩
theorem slicez_gr {k : IntKind} {W W' : World} {v : Value} {g : Nat} {l : List Int} (h : SliceZ k W v l) (hg : W.grownBy W' (some g)) (hne : ∀ q, v.ownBlock = some q → q ≠ g) : SliceZ k W' v l := by
  obtain ⟨p, cap, rfl, h2, h3, h4⟩ := h
  refine ⟨p, cap, rfl, h2, h3, fun hl => ?_⟩
  obtain ⟨b, off, rfl, hr⟩ := h4 hl
  exact ⟨b, off, rfl, rowz_gr hr hg (hne b rfl)⟩

/-- What KeysSecrets holds: boxes, supplies. -/
structure KsA (w W : World) (x : Par) (cv sv : Value) (g1 g2 : Nat) (s : ByteArray) (a1 a2 : Nat) : Prop where
  bx : BoxP W w.heap.size x cv
  cs : W.cell? ⟨w.heap.size + 1, 0, none⟩ = some sv
  bel : Below w.heap.size w W
  u : SupB W g1 s a1
  v : SupR W g2 s a2
  l1 : w.heap.size + 1 < g1
  l2 : g1 < g2
  l3 : g2 < W.heap.size
theorem box_gr {W W' : World} {B g : Nat} {x : Par} {cv : Value} (h : BoxP W B x cv) (hg : W.grownBy W' (some g)) (hB : B < W.heap.size) (hne : B ≠ g) : BoxP W' B x cv :=
  ⟨(gr_cell hg hB hne).trans h.n, (gr_cell hg hB hne).trans h.p, (gr_cell hg hB hne).trans h.r, (gr_cell hg hB hne).trans h.ch, (gr_cell hg hB hne).trans h.sp, (gr_cell hg hB hne).trans h.wt, (gr_cell hg hB hne).trans h.er⟩
theorem KsA.below {w W W' : World} {x : Par} {cv sv : Value} {g1 g2 : Nat} {s : ByteArray} {a1 a2 : Nat} (h : KsA w W x cv sv g1 g2 s a1 a2) (hb : Below W.heap.size W W') : KsA w W' x cv sv g1 g2 s a1 a2 := by
  have h1 := h.l1; have h2 := h.l2; have h3 := h.l3
  exact ⟨h.bx.below hb (by omega), (below_at hb (by omega)).trans h.cs, h.bel.trans (hb.mono h.bel.size), sup_below h.u hb, supr_below h.v hb, h1, h2, Nat.lt_of_lt_of_le h3 hb.size⟩
theorem KsA.grU {w W W' : World} {x : Par} {cv sv : Value} {g1 g2 : Nat} {s : ByteArray} {a1 a2 b : Nat} (h : KsA w W x cv sv g1 g2 s a1 a2) (hg : W.grownBy W' (some g1)) (hs : SupB W' g1 s b) : KsA w W' x cv sv g1 g2 s b a2 := by
  have h1 := h.l1; have h2 := h.l2; have h3 := h.l3; have h4 := h.bel.size
  exact ⟨box_gr h.bx hg (by omega) (by omega), (gr_cell hg (by omega) (by omega)).trans h.cs, h.bel.grown hg h4 (by intro k e; injection e with e; omega), hs,
    ⟨(gr_cell hg h3 (by omega)).trans h.v.c0, (gr_cell hg h3 (by omega)).trans h.v.c1, (gr_frozen hg h3 (by omega)).trans h.v.fz⟩, h1, h2, Nat.lt_of_lt_of_le h3 hg.size⟩
theorem KsA.grV {w W W' : World} {x : Par} {cv sv : Value} {g1 g2 : Nat} {s : ByteArray} {a1 a2 b : Nat} (h : KsA w W x cv sv g1 g2 s a1 a2) (hg : W.grownBy W' (some g2)) (hs : SupR W' g2 s b) : KsA w W' x cv sv g1 g2 s a1 b := by
  have h1 := h.l1; have h2 := h.l2; have h3 := h.l3; have h4 := h.bel.size
  have h5 : g1 < W.heap.size := by omega
  exact ⟨box_gr h.bx hg (by omega) (by omega), (gr_cell hg (by omega) (by omega)).trans h.cs, h.bel.grown hg h4 (by intro k e; injection e with e; omega),
    ⟨(gr_cell hg h5 (by omega)).trans h.u.c0, (gr_cell hg h5 (by omega)).trans h.u.c1, (gr_cell hg h5 (by omega)).trans h.u.c2, (gr_frozen hg h5 (by omega)).trans h.u.fz⟩, hs, h1, h2, Nat.lt_of_lt_of_le h3 hg.size⟩
/-- .. and a list in a box. -/
structure KsB (w W : World) (x : Par) (cv sv : Value) (g1 g2 : Nat) (s : ByteArray) (a1 a2 : Nat) (ga : Nat) (av : Value) (La : List Int) : Prop where
  a : KsA w W x cv sv g1 g2 s a1 a2
  ca : W.cell? ⟨ga, 0, none⟩ = some av
  sa : SliceZ .i8 W av La
  la : g2 < ga
  lw : ga < W.heap.size
  oa : ∀ q, av.ownBlock = some q → g2 < q
theorem KsB.below {w W W' : World} {x : Par} {cv sv : Value} {g1 g2 : Nat} {s : ByteArray} {a1 a2 ga : Nat} {av : Value} {La : List Int} (h : KsB w W x cv sv g1 g2 s a1 a2 ga av La) (hb : Below W.heap.size W W') : KsB w W' x cv sv g1 g2 s a1 a2 ga av La :=
  ⟨h.a.below hb, (below_at hb h.lw).trans h.ca, h.sa.below hb, h.la, Nat.lt_of_lt_of_le h.lw hb.size, h.oa⟩
theorem KsB.grV {w W W' : World} {x : Par} {cv sv : Value} {g1 g2 : Nat} {s : ByteArray} {a1 a2 b ga : Nat} {av : Value} {La : List Int} (h : KsB w W x cv sv g1 g2 s a1 a2 ga av La) (hg : W.grownBy W' (some g2)) (hs : SupR W' g2 s b) : KsB w W' x cv sv g1 g2 s a1 b ga av La :=
  ⟨h.a.grV hg hs, (gr_cell hg h.lw (by have := h.la; omega)).trans h.ca, slicez_gr h.sa hg (fun q hq => by have := h.oa q hq; omega), h.la, Nat.lt_of_lt_of_le h.lw hg.size, h.oa⟩
structure KsC (w W : World) (x : Par) (cv sv : Value) (g1 g2 : Nat) (s : ByteArray) (a1 a2 : Nat) (ga : Nat) (av : Value) (La : List Int) (gb : Nat) (bv : Value) : Prop where
  b : KsB w W x cv sv g1 g2 s a1 a2 ga av La
  cb : W.cell? ⟨gb, 0, none⟩ = some bv
  sb : SliceZ .i8 W bv La
  lb : gb < W.heap.size
theorem KsC.below {w W W' : World} {x : Par} {cv sv : Value} {g1 g2 : Nat} {s : ByteArray} {a1 a2 ga gb : Nat} {av bv : Value} {La : List Int} (h : KsC w W x cv sv g1 g2 s a1 a2 ga av La gb bv) (hb : Below W.heap.size W W') : KsC w W' x cv sv g1 g2 s a1 a2 ga av La gb bv :=
  ⟨h.b.below hb, (below_at hb h.lb).trans h.cb, h.sb.below hb, Nat.lt_of_lt_of_le h.lb hb.size⟩
theorem KsC.drew {w W : World} {x : Par} {cv sv : Value} {g1 g2 : Nat} {s : ByteArray} {a1 a2 ga gb : Nat} {av bv : Value} {La : List Int} (h : KsC w W x cv sv g1 g2 s a1 a2 ga av La gb bv) : KsC w W.drew x cv sv g1 g2 s a1 a2 ga av La gb bv := h.below (Below.refl _ _).drew

theorem ks_same {w W : World} {x : Par} {cv sv : Value} {g1 g2 : Nat} {s : ByteArray} {a1 a2 ga gb : Nat} {av bv : Value} {La : List Int} (h : KsC w W x cv sv g1 g2 s a1 a2 ga av La gb bv) :
    Calls Try.prog 13 #[.agg #[av], .agg #[bv]] W fun e w' => e = .returned (.bool true) ∧ KsC w w' x cv sv g1 g2 s a1 a2 ga av La gb bv :=
  (sames_any W av bv La La h.b.sa h.sb).mono fun e w' ⟨he, hb⟩ => ⟨by rw [he, decide_eq_true rfl], h.below hb⟩
theorem ks_taken {w W : World} {x : Par} {cv sv : Value} {g1 g2 : Nat} {s : ByteArray} {a1 a2 ga gb : Nat} {av bv : Value} {La : List Int} (h : KsC w W x cv sv g1 g2 s a1 a2 ga av La gb bv) :
    Calls Try.prog 29 #[.pointer (some ⟨g1, 0, none⟩)] W fun e w' => e = .returned (.int .i64 a1) ∧ KsC w w' x cv sv g1 g2 s a1 a2 ga av La gb bv :=
  (taken_any s g1 a1 W h.b.a.u).mono fun e w' ⟨he, hb⟩ => ⟨he, by rw [hb]; exact h⟩
theorem ks_rtaken {w W : World} {x : Par} {cv sv : Value} {g1 g2 : Nat} {s : ByteArray} {a1 a2 ga gb : Nat} {av bv : Value} {La : List Int} (h : KsC w W x cv sv g1 g2 s a1 a2 ga av La gb bv) :
    Calls Try.prog 30 #[.pointer (some ⟨g2, 0, none⟩)] W fun e w' => e = .returned (.int .i64 a2) ∧ KsC w w' x cv sv g1 g2 s a1 a2 ga av La gb bv :=
  (rtaken_any s g2 a2 W h.b.a.v).mono fun e w' ⟨he, hb⟩ => ⟨he, by rw [hb]; exact h⟩
theorem ks_check {w W : World} {x : Par} {cv sv : Value} {g1 g2 : Nat} {s : ByteArray} {a1 a2 ga gb : Nat} {av bv : Value} {La l : List Int} (hx : ParOk x) (hcv : SliceAt w cv x.ch) (hs : SliceZ .i8 w sv l) (hlen : l.length ≤ 140737488351232) (h : KsC w W x cv sv g1 g2 s a1 a2 ga av La gb bv) :
    Calls Try.prog 15 #[x.val cv, .agg #[sv]] W fun e w' => e = .returned (.int .i64 (csec rPrime x l)) ∧ KsC w w' x cv sv g1 g2 s a1 a2 ga av La gb bv :=
  (csecret_any x cv sv l W hx (hcv.below h.b.a.bel) (hs.below h.b.a.bel) hlen).mono fun e w' ⟨he, hb⟩ => ⟨by rw [he]; unfold csec; rw [okB_eq], h.below hb⟩
theorem ks_rcheck {w W : World} {x : Par} {cv sv : Value} {g1 g2 : Nat} {s : ByteArray} {a1 a2 ga gb : Nat} {av bv : Value} {La l : List Int} (hx : ParOk x) (hcv : SliceAt w cv x.ch) (hs : SliceZ .i8 w sv l) (hlen : l.length ≤ 140737488351232) (h : KsC w W x cv sv g1 g2 s a1 a2 ga av La gb bv) :
    Calls Try.prog 31 #[x.val cv, .agg #[sv]] W fun e w' => e = .returned (.int .i64 (csec rPrime x l)) ∧ KsC w w' x cv sv g1 g2 s a1 a2 ga av La gb bv :=
  (rcsecret_any x cv sv l W hx (hcv.below h.b.a.bel) (hs.below h.b.a.bel) hlen).mono fun e w' ⟨he, hb⟩ => ⟨he, h.below hb⟩

set_option maxHeartbeats 4000000 in
set_option maxRecDepth 100000 in
theorem ksecrets_any (x : Par) (cv sv : Value) (l : List Int) (s : ByteArray) (w : World) (hx : ParOk x) (hcv : SliceAt w cv x.ch) (hs : SliceZ .i8 w sv l) :
    Calls Try.prog 7 #[x.val cv, .string s, .agg #[sv]] w fun e w' => e = .returned (.bool true) ∧ Below w.heap.size w w' := by
  have HO := Lib.hid (Owned.boxes hcv hs)
  obtain ⟨pc, ncv, ccv, rfl⟩ : ∃ pa na ca, cv = .slice pa na ca := by obtain ⟨p, c, e, _⟩ := hcv; exact ⟨p, _, c, e⟩
  obtain ⟨ps, cs, rfl⟩ : ∃ pa ca, sv = .slice pa l.length ca := by obtain ⟨p, c, e, _⟩ := hs; exact ⟨p, c, e⟩
  have hlen : l.length ≤ 140737488351232 := by obtain ⟨p, cap, _, _, h, _⟩ := hs; exact h
  have HCV := Lib.hid hcv; have HS := Lib.hid hs; have HX := Lib.hid hx
  clear hcv hs hx
  unfold Par.val
  by_cases hbig : 20000 < s.size ∨ 200 < l.length
  · by_cases h1 : 20000 < s.size
    · have d1 : decide (20000 < s.size) = true := decide_eq_true h1
      have d2 : decide ((20000 : Int) < (s.size : Int)) = true := decide_eq_true (by omega)
      clear hbig h1
      go_enter Try.func7, Try.ntmps7
      go_wp2_with fail
      refine (awake_any _).mono ?_
      rintro e w1 ⟨rfl, hb1⟩
      have HB := Lib.hid (HO.out.below hb1).bel
      clear hb1
      go_wp2_with fail
      go_ret
      exact ⟨rfl, HB.out⟩
    · have h2 : 200 < l.length := by omega
      have d1 : decide (20000 < s.size) = false := decide_eq_false h1
      have d2 : decide ((20000 : Int) < (s.size : Int)) = false := decide_eq_false (by omega)
      have d3 : decide (200 < l.length) = true := decide_eq_true h2
      have d4 : decide ((200 : Int) < (l.length : Int)) = true := decide_eq_true (by omega)
      clear hbig h1 h2
      go_enter Try.func7, Try.ntmps7
      go_wp2_with fail
      refine (awake_any _).mono ?_
      rintro e w1 ⟨rfl, hb1⟩
      have HB := Lib.hid (HO.out.below hb1).bel
      clear hb1
      go_wp2_with fail
      go_ret
      exact ⟨rfl, HB.out⟩
  have hsz : s.size ≤ 20000 := by omega
  have hl200 : l.length ≤ 200 := by omega
  have d1 : decide (20000 < s.size) = false := decide_eq_false (by omega)
  have d2 : decide ((20000 : Int) < (s.size : Int)) = false := decide_eq_false (by omega)
  have d3 : decide (200 < l.length) = false := decide_eq_false (by omega)
  have d4 : decide ((200 : Int) < (l.length : Int)) = false := decide_eq_false (by omega)
  clear hbig
  go_enter Try.func7, Try.ntmps7
  go_wp2_with fail
  refine (new_any s _ (by omega)).mono ?_
  rintro e w1 ⟨rfl, hu, hb1⟩
  have HO1 := Lib.hid (HO.out.below hb1)
  have HU := Lib.hid hu
  clear hu
  have hs0 : w.heap.size + 1 + 1 ≤ ((w.alloc (.cells #[.int .i64 x.n, .int .u32 x.p, .int .i64 x.r, .slice pc ncv ccv, .int .u32 x.sp, .int .i64 x.wt, .int .u32 x.er] 25)).alloc (.cells #[.slice ps l.length cs] 28)).heap.size := by simp
  generalize ((w.alloc (.cells #[.int .i64 x.n, .int .u32 x.p, .int .i64 x.r, .slice pc ncv ccv, .int .u32 x.sp, .int .i64 x.wt, .int .u32 x.er] 25)).alloc (.cells #[.slice ps l.length cs] 28)).heap.size = g1 at HU hs0 hb1 ⊢
  have hg1 : g1 < w1.heap.size := World.block_lt_of_cell? w1 ⟨g1, 0, none⟩ HU.out.c0
  clear hb1 d1 d2 d3 d4 HO
  go_wp2_with fail
  refine (rnew_any s _ (by omega)).mono ?_
  rintro e w2 ⟨rfl, hv, hb2⟩
  have HA : Hid (KsA w w2 x (.slice pc ncv ccv) (.slice ps l.length cs) g1 w1.heap.size s 0 0) :=
    ⟨(HO1.out.below hb2).box, (HO1.out.below hb2).cs, (HO1.out.below hb2).bel, sup_below HU.out hb2, hv, by omega, hg1, World.block_lt_of_cell? w2 ⟨w1.heap.size, 0, none⟩ hv.c0⟩
  clear hv hb2 HO1 HU hs0 hg1
  generalize w1.heap.size = g2 at HA ⊢
  have y0 := HA.out.bx.n; have y1 := HA.out.bx.p; have y2 := HA.out.bx.r; have y3 := HA.out.bx.ch; have y4 := HA.out.bx.sp; have y5 := HA.out.bx.wt; have y6 := HA.out.bx.er
  go_wp2_with fail
  refine (knewsec_any x _ s g1 0 _ HX.out (HCV.out.below HA.out.bel) HA.out.u (by omega) (by omega)).mono ?_
  rintro e w3 ⟨av, rfl, hav, hu3, hg3, ho3⟩
  obtain ⟨pa, na, ca, rfl⟩ : ∃ p n c, av = .slice p n c := by obtain ⟨p, c, e, _⟩ := hav; exact ⟨p, _, c, e⟩
  rw [secOut_eq] at hav hu3 ⊢
  have HA3 := Lib.hid (HA.out.grU hg3 hu3)
  have HAV := Lib.hid hav
  have HOW : Hid (∀ q, (Value.slice pa na ca).ownBlock = some q → g2 < q) := fun q hq => by have := ho3 q hq; have := HA.out.l3; omega
  clear hav hu3 hg3 ho3 HA y0 y1 y2 y3 y4 y5 y6
  have y0 := HA3.out.bx.n; have y1 := HA3.out.bx.p; have y2 := HA3.out.bx.r; have y3 := HA3.out.bx.ch; have y4 := HA3.out.bx.sp; have y5 := HA3.out.bx.wt; have y6 := HA3.out.bx.er
  have hlt0 : w.heap.size < w3.heap.size := by have := HA3.out.l1; have := HA3.out.l2; have := HA3.out.l3; omega
  go_wp2_with fail
  have HBB : Hid (KsB w (w3.alloc (.cells #[.slice pa na ca] 28)) x (.slice pc ncv ccv) (.slice ps l.length cs) g1 g2 s (secOut rPrime x s 0).2.2 0 w3.heap.size (.slice pa na ca) (secOut rPrime x s 0).2.1) := by
    have hb : Below w3.heap.size w3 (w3.alloc (.cells #[.slice pa na ca] 28)) := (Below.refl _ _).alloc (Nat.le_refl _) _
    exact ⟨HA3.out.below hb, by simp [go_sem], HAV.out.below hb, HA3.out.l3, by simp, HOW.out⟩
  clear y0 y1 y2 y3 y4 y5 y6 HA3 HAV HOW hlt0
  generalize (w3.alloc (.cells #[.slice pa na ca] 28)) = w4 at HBB ⊢
  generalize w3.heap.size = ga at HBB ⊢
  refine (rnewsec_any x _ s g2 0 _ HX.out (HCV.out.below HBB.out.a.bel) HBB.out.a.v (by omega) (by omega)).mono ?_
  rintro e w5 ⟨bv, rfl, hbv, hv5, hg5, ho5⟩
  obtain ⟨pb, nb, cb, rfl⟩ : ∃ p n c, bv = .slice p n c := by obtain ⟨p, c, e, _⟩ := hbv; exact ⟨p, _, c, e⟩
  have HB5 := Lib.hid (HBB.out.grV hg5 hv5)
  have HBV := Lib.hid hbv
  clear hbv hv5 hg5 ho5 HBB
  generalize (secOut rPrime x s 0).2.1 = La at HB5 HBV ⊢
  generalize (secOut rPrime x s 0).2.2 = ta at HB5 HBV ⊢
  generalize (secOut rPrime x s 0).1 = ke at HB5 HBV ⊢
  go_wp2_with fail
  have HC0 : Hid (KsC w (w5.alloc (.cells #[.slice pb nb cb] 28)) x (.slice pc ncv ccv) (.slice ps l.length cs) g1 g2 s ta ta ga (.slice pa na ca) La w5.heap.size (.slice pb nb cb)) := by
    have hb : Below w5.heap.size w5 (w5.alloc (.cells #[.slice pb nb cb] 28)) := (Below.refl _ _).alloc (Nat.le_refl _) _
    exact ⟨HB5.out.below hb, by simp [go_sem], HBV.out.below hb, by simp⟩
  clear HB5 HBV
  generalize (w5.alloc (.cells #[.slice pb nb cb] 28)) = w6 at HC0 ⊢
  generalize w5.heap.size = gb at HC0 ⊢
  obtain ⟨kc, hkc⟩ : ∃ k, csec rPrime x l = k := ⟨_, rfl⟩
  have HKC := Lib.hid hkc
  clear hkc
  have HH := HC0
  have y0 := HH.out.b.a.bx.n; have y1 := HH.out.b.a.bx.p; have y2 := HH.out.b.a.bx.r; have y3 := HH.out.b.a.bx.ch; have y4 := HH.out.b.a.bx.sp; have y5 := HH.out.b.a.bx.wt; have y6 := HH.out.b.a.bx.er; have ys := HH.out.b.a.cs; have ya := HH.out.b.ca; have yb := HH.out.cb
  go_region_held3 (fun w' => w'.cell? ⟨w.heap.size, 0, none⟩ = some (.int .i64 x.n) ∧ w'.cell? ⟨w.heap.size, 1, none⟩ = some (.int .u32 x.p) ∧ w'.cell? ⟨w.heap.size, 2, none⟩ = some (.int .i64 x.r) ∧ w'.cell? ⟨w.heap.size, 3, none⟩ = some (.slice pc ncv ccv) ∧ w'.cell? ⟨w.heap.size, 4, none⟩ = some (.int .u32 x.sp) ∧ w'.cell? ⟨w.heap.size, 5, none⟩ = some (.int .i64 x.wt) ∧ w'.cell? ⟨w.heap.size, 6, none⟩ = some (.int .u32 x.er) ∧ w'.cell? ⟨w.heap.size + 1, 0, none⟩ = some (.slice ps l.length cs) ∧ w'.cell? ⟨ga, 0, none⟩ = some (.slice pa na ca) ∧ w'.cell? ⟨gb, 0, none⟩ = some (.slice pb nb cb)) (go_keep)
    (first
      | (go_at_call 13; refine (ks_same (by first | exact HH.out | exact HH.out.drew)).mono ?_; rintro e W3 ⟨rfl, h3⟩; have HH := Lib.hid h3; clear h3; have y0 := HH.out.b.a.bx.n; have y1 := HH.out.b.a.bx.p; have y2 := HH.out.b.a.bx.r; have y3 := HH.out.b.a.bx.ch; have y4 := HH.out.b.a.bx.sp; have y5 := HH.out.b.a.bx.wt; have y6 := HH.out.b.a.bx.er; have ys := HH.out.b.a.cs; have ya := HH.out.b.ca; have yb := HH.out.cb)
      | (go_at_call 29; refine (ks_taken (by first | exact HH.out | exact HH.out.drew)).mono ?_; rintro e W3 ⟨rfl, h3⟩; have HH := Lib.hid h3; clear h3; have y0 := HH.out.b.a.bx.n; have y1 := HH.out.b.a.bx.p; have y2 := HH.out.b.a.bx.r; have y3 := HH.out.b.a.bx.ch; have y4 := HH.out.b.a.bx.sp; have y5 := HH.out.b.a.bx.wt; have y6 := HH.out.b.a.bx.er; have ys := HH.out.b.a.cs; have ya := HH.out.b.ca; have yb := HH.out.cb)
      | (go_at_call 30; refine (ks_rtaken (by first | exact HH.out | exact HH.out.drew)).mono ?_; rintro e W3 ⟨rfl, h3⟩; have HH := Lib.hid h3; clear h3; have y0 := HH.out.b.a.bx.n; have y1 := HH.out.b.a.bx.p; have y2 := HH.out.b.a.bx.r; have y3 := HH.out.b.a.bx.ch; have y4 := HH.out.b.a.bx.sp; have y5 := HH.out.b.a.bx.wt; have y6 := HH.out.b.a.bx.er; have ys := HH.out.b.a.cs; have ya := HH.out.b.ca; have yb := HH.out.cb)
      | (go_at_call 15; refine (ks_check (l := l) HX.out HCV.out HS.out hlen (by first | exact HH.out | exact HH.out.drew)).mono ?_; rintro e W3 ⟨rfl, h3⟩; rw [HKC.out]; have HH := Lib.hid h3; clear h3; have y0 := HH.out.b.a.bx.n; have y1 := HH.out.b.a.bx.p; have y2 := HH.out.b.a.bx.r; have y3 := HH.out.b.a.bx.ch; have y4 := HH.out.b.a.bx.sp; have y5 := HH.out.b.a.bx.wt; have y6 := HH.out.b.a.bx.er; have ys := HH.out.b.a.cs; have ya := HH.out.b.ca; have yb := HH.out.cb)
      | (go_at_call 31; refine (ks_rcheck (l := l) HX.out HCV.out HS.out hlen (by first | exact HH.out | exact HH.out.drew)).mono ?_; rintro e W3 ⟨rfl, h3⟩; rw [HKC.out]; have HH := Lib.hid h3; clear h3; have y0 := HH.out.b.a.bx.n; have y1 := HH.out.b.a.bx.p; have y2 := HH.out.b.a.bx.r; have y3 := HH.out.b.a.bx.ch; have y4 := HH.out.b.a.bx.sp; have y5 := HH.out.b.a.bx.wt; have y6 := HH.out.b.a.bx.er; have ys := HH.out.b.a.cs; have ya := HH.out.b.ca; have yb := HH.out.cb))
  all_goals
    have HW : Hid (Owned w _ x (.slice pc ncv ccv) (.slice ps l.length cs) l w.heap.size (w.heap.size + 1)) := ⟨HH.out.b.a.bx, HH.out.b.a.cs, HCV.out.below HH.out.b.a.bel, HS.out.below HH.out.b.a.bel, HH.out.b.a.bel, by have := HH.out.b.a.l1; have := HH.out.b.a.l2; have := HH.out.b.a.l3; omega, by have := HH.out.b.a.l1; have := HH.out.b.a.l2; have := HH.out.b.a.l3; omega⟩
    clear HH HC0 HKC y0 y1 y2 y3 y4 y5 y6 ys ya yb
    go_wp2_with fail
    go_loopw [13, 14, 15, 16, 17] (fun vz _ _ _ _ wr => ∃ z : Int, vz = .int .i64 z ∧ -1 ≤ z ∧ z ≤ 4 ∧ Hid (Owned w wr x (.slice pc ncv ccv) (.slice ps l.length cs) l w.heap.size (w.heap.size + 1))) (fun vz _ _ _ _ _ => (4 - intOf vz).toNat)
    case atStart => exact ⟨-1, rfl, by omega, by omega, by first | exact HW | exact HW.out.below (Below.refl _ _).drew⟩
    case round =>
      obtain ⟨z, rfl, hz0, hz1, ho⟩ := hrel
      by_cases hlt : z < 4
      case neg =>
        go_wp2_with fail
        refine (awake_any _).mono ?_
        rintro e wz ⟨rfl, hbz⟩
        have HF := Lib.hid (ho.out.below hbz).bel
        clear hbz
        go_wp2_with fail
        go_ret
        exact ⟨rfl, HF.out⟩
      case pos =>
        have y0 := ho.out.box.n; have y1 := ho.out.box.p; have y2 := ho.out.box.r; have y3 := ho.out.box.ch; have y4 := ho.out.box.sp; have y5 := ho.out.box.wt; have y6 := ho.out.box.er
        have ys := ho.out.cs
        go_wp2_with fail
        refine (power_any x _ _ l z _ HX.out ho.out.sl ho.out.sz).mono ?_
        rintro e wa ⟨⟨v1, rfl, hv1⟩, hba⟩
        rw [powErr_eq, powList_eq] at *
        have HOA := Lib.hid (ho.out.below hba)
        have HV1 := Lib.hid hv1
        clear hv1 hba y0 y1 y2 y3 y4 y5 y6 ys
        have y0 := HOA.out.box.n; have y1 := HOA.out.box.p; have y2 := HOA.out.box.r; have y3 := HOA.out.box.ch; have y4 := HOA.out.box.sp; have y5 := HOA.out.box.wt; have y6 := HOA.out.box.er
        have ys := HOA.out.cs
        go_wp2_with fail
        refine (rspower_any x _ _ l z _ HX.out HOA.out.sl HOA.out.sz).mono ?_
        rintro e wb ⟨⟨v2, rfl, hv2⟩, hbb⟩
        have HOB := Lib.hid (HOA.out.below hbb)
        have HV2 := Lib.hid hv2
        have HV3 := Lib.hid (HV1.out.below hbb)
        clear hv2 hbb y0 y1 y2 y3 y4 y5 y6 ys HV1
        go_wp2_with fail
        refine (samel_any _ _ _ _ _ HV3.out HV2.out).mono ?_
        rintro e wc ⟨rfl, hbc⟩
        rw [decide_eq_true rfl]
        have HOC := Lib.hid (HOB.out.below hbc)
        clear hbc HV2 HV3 HOB HOA
        generalize powErr rPrime x l z = pe
        go_wp2_with fail
        go_roundw
        case rel => exact ⟨z + 1, rfl, by omega, by omega, HOC⟩
        case measure => simp [intOf]; omega
end Go.Proofs.Ytjfjbkocopaehaa
