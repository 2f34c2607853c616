/- keys.CheckPublic; obscuraref13.CheckPublic. (Printed by gen_RngI.py.) -/
import Derived.Test.YtjpcljnojipdnaaGreatRngH
import Derived.Test.YtjpcljnojipdnaaGreatParF
import Derived.Test.YtjpcljnojipdnaaGreatMthE
namespace Go.Proofs.YtjpcljnojipdnaaGreat
open Go.RowKit

/-- An element, as it reads. -/
structure El where
  lv : Int
  sp : Bool
  rows : List (List Nat)
def pubVal (a b : El) (u v : Value) : Value := .agg #[.int .i64 a.lv, .bool a.sp, u, .int .i64 b.lv, .bool b.sp, v]
def pubB (pr : Nat → Bool) (x : Par) (a b : El) : Bool := okB pr x && (topB x a.lv a.sp a.rows && topB x b.lv b.sp b.rows)
def pubE (pr : Nat → Bool) (x : Par) (a b : El) : Int := if pubB pr x a b then 0 else 2
theorem pubE_eq (x : Par) (a b : El) : pubE mPrime x a b = pubE rPrime x a b := by unfold pubE pubB; rw [okB_eq]
theorem pubE_vals (pr : Nat → Bool) (x : Par) (a b : El) : pubE pr x a b = 0 ∨ pubE pr x a b = 2 := by unfold pubE; split <;> simp
theorem pubE_no1 {pr : Nat → Bool} {x : Par} {a b : El} (h : okB pr x = false) : pubE pr x a b = 2 := by unfold pubE pubB; rw [h]; rfl
theorem pubE_no2 {pr : Nat → Bool} {x : Par} {a b : El} (h : topB x a.lv a.sp a.rows = false) : pubE pr x a b = 2 := by unfold pubE pubB; rw [h]; simp
theorem pubE_no3 {pr : Nat → Bool} {x : Par} {a b : El} (h : topB x b.lv b.sp b.rows = false) : pubE pr x a b = 2 := by unfold pubE pubB; rw [h]; simp
theorem pubE_yes {pr : Nat → Bool} {x : Par} {a b : El} (h : okB pr x = true) (h1 : topB x a.lv a.sp a.rows = true) (h2 : topB x b.lv b.sp b.rows = true) : pubE pr x a b = 0 := by unfold pubE pubB; rw [h, h1, h2]; rfl

/-- Two boxes: the parameters, a public key. -/
structure PbB (W : World) (B : Nat) (x : Par) (cv : Value) (a b : El) (u v : Value) : Prop where
  bp : BoxP W B x cv
  e0 : W.cell? ⟨B + 1, 0, none⟩ = some (.int .i64 a.lv)
  e1 : W.cell? ⟨B + 1, 1, none⟩ = some (.bool a.sp)
  e2 : W.cell? ⟨B + 1, 2, none⟩ = some u
  e3 : W.cell? ⟨B + 1, 3, none⟩ = some (.int .i64 b.lv)
  e4 : W.cell? ⟨B + 1, 4, none⟩ = some (.bool b.sp)
  e5 : W.cell? ⟨B + 1, 5, none⟩ = some v
  sz : B + 1 + 1 ≤ W.heap.size
theorem PbB.below {W W' : World} {B : Nat} {x : Par} {cv : Value} {a b : El} {u v : Value} (h : PbB W B x cv a b u v) (hb : Below W.heap.size W W') : PbB W' B x cv a b u v :=
  have := h.sz
  ⟨h.bp.below hb (by omega), (below_at hb (by omega)).trans h.e0, (below_at hb (by omega)).trans h.e1, (below_at hb (by omega)).trans h.e2, (below_at hb (by omega)).trans h.e3, (below_at hb (by omega)).trans h.e4, (below_at hb (by omega)).trans h.e5, Nat.le_trans h.sz hb.size⟩

set_option maxHeartbeats 2000000 in
set_option maxRecDepth 100000 in
theorem kpub_any (x : Par) (cv u v : Value) (a b : El) (w : World) (hxo : ParOk x) (hcv : SliceAt w cv x.ch) (hu : SliceR w u a.rows) (hv : SliceR w v b.rows) :
    Calls Tryz.prog 29 #[x.val cv, pubVal a b u v] w fun r w' => r = .returned (.int .i64 (pubE mPrime x a b)) ∧ Below w.heap.size w w' := by
  have hbW : Below w.heap.size w ((w.alloc (.cells #[.int .i64 x.n, .int .u32 x.p, .int .i64 x.r, cv, .int .u32 x.sp, .int .i64 x.wt, .int .u32 x.er] 25)).alloc (.cells #[.int .i64 a.lv, .bool a.sp, u, .int .i64 b.lv, .bool b.sp, v] 34)) := ((Below.refl _ _).alloc (Nat.le_refl _) _).alloc (by simp) _
  have hB : PbB ((w.alloc (.cells #[.int .i64 x.n, .int .u32 x.p, .int .i64 x.r, cv, .int .u32 x.sp, .int .i64 x.wt, .int .u32 x.er] 25)).alloc (.cells #[.int .i64 a.lv, .bool a.sp, u, .int .i64 b.lv, .bool b.sp, v] 34)) w.heap.size x cv a b u v := ⟨by constructor <;> simp [go_sem], by simp [go_sem], by simp [go_sem], by simp [go_sem], by simp [go_sem], by simp [go_sem], by simp [go_sem], by simp⟩
  have HSL := Lib.hid (hcv.below hbW)
  have HU := Lib.hid (hu.below hbW)
  have HV := Lib.hid (hv.below hbW)
  have HBW := Lib.hid hbW
  have HB := Lib.hid hB
  have HXO := Lib.hid hxo
  obtain ⟨pc, ccv, rfl⟩ : ∃ pa ca, cv = .slice pa x.ch.length ca := by obtain ⟨p, c, e, _⟩ := hcv; exact ⟨p, c, e⟩
  obtain ⟨pu, cu, rfl⟩ : ∃ pa ca, u = .slice pa a.rows.length ca := by obtain ⟨p, c, e, _⟩ := hu; exact ⟨p, c, e⟩
  obtain ⟨pv, cw, rfl⟩ : ∃ pa ca, v = .slice pa b.rows.length ca := by obtain ⟨p, c, e, _⟩ := hv; exact ⟨p, c, e⟩
  clear hbW hB hxo hcv hu hv
  unfold Par.val pubVal
  cases hok : okB mPrime x with
  | false =>
    have HR : Hid (pubE mPrime x a b = 2) := pubE_no1 hok
    have HC := Lib.hid (chk_two hok)
    clear hok
    go_enter Tryz.func29, Tryz.ntmps29
    go_wp2_with fail
    refine (pcheck_any x _ _ HXO.out HSL.out).mono ?_
    rintro e w1 ⟨rfl, hb1⟩
    rw [HC.out]
    have HB1 := Lib.hid (HB.out.below hb1)
    have HSL1 := Lib.hid (HSL.out.below hb1)
    have HU1 := Lib.hid (HU.out.below hb1)
    have HV1 := Lib.hid (HV.out.below hb1)
    have HBW1 := Lib.hid (HBW.out.trans (hb1.mono HBW.out.size))
    clear hb1
    have y0 := HB1.out.bp.n; have y1 := HB1.out.bp.p; have y2 := HB1.out.bp.r; have y3 := HB1.out.bp.ch; have y4 := HB1.out.bp.sp; have y5 := HB1.out.bp.wt; have y6 := HB1.out.bp.er
    have z0 := HB1.out.e0; have z1 := HB1.out.e1; have z2 := HB1.out.e2; have z3 := HB1.out.e3; have z4 := HB1.out.e4; have z5 := HB1.out.e5
    go_wp2_with fail
    go_ret
    exact ⟨ret_int HR.out.symm, HBW1.out⟩
  | true =>
  have HX := Lib.hid (good_of hok)
  have HC := Lib.hid (chk_ok hok)
  have HOK := Lib.hid hok
  clear hok
  cases ht : topB x a.lv a.sp a.rows with
  | false =>
    have HR : Hid (pubE mPrime x a b = 2) := pubE_no2 ht
    have HT := Lib.hid ht
    clear ht
    go_enter Tryz.func29, Tryz.ntmps29
    go_wp2_with fail
    refine (pcheck_any x _ _ HXO.out HSL.out).mono ?_
    rintro e w1 ⟨rfl, hb1⟩
    rw [HC.out]
    have HB1 := Lib.hid (HB.out.below hb1)
    have HSL1 := Lib.hid (HSL.out.below hb1)
    have HU1 := Lib.hid (HU.out.below hb1)
    have HV1 := Lib.hid (HV.out.below hb1)
    have HBW1 := Lib.hid (HBW.out.trans (hb1.mono HBW.out.size))
    clear hb1
    have y0 := HB1.out.bp.n; have y1 := HB1.out.bp.p; have y2 := HB1.out.bp.r; have y3 := HB1.out.bp.ch; have y4 := HB1.out.bp.sp; have y5 := HB1.out.bp.wt; have y6 := HB1.out.bp.er
    have z0 := HB1.out.e0; have z1 := HB1.out.e1; have z2 := HB1.out.e2; have z3 := HB1.out.e3; have z4 := HB1.out.e4; have z5 := HB1.out.e5
    go_wp2_with fail
    refine (ktop_any x _ _ a.lv a.sp a.rows _ HX.out HXO.out HSL1.out HU1.out).mono ?_
    rintro e w2 ⟨rfl, hb2⟩
    rw [HT.out]
    have HB2 := Lib.hid (HB1.out.below hb2)
    have HSL2 := Lib.hid (HSL1.out.below hb2)
    have HU2 := Lib.hid (HU1.out.below hb2)
    have HV2 := Lib.hid (HV1.out.below hb2)
    have HBW2 := Lib.hid (HBW1.out.trans (hb2.mono HBW1.out.size))
    clear hb2 y0 y1 y2 y3 y4 y5 y6 z0 z1 z2 z3 z4 z5
    have y0 := HB2.out.bp.n; have y1 := HB2.out.bp.p; have y2 := HB2.out.bp.r; have y3 := HB2.out.bp.ch; have y4 := HB2.out.bp.sp; have y5 := HB2.out.bp.wt; have y6 := HB2.out.bp.er
    have z0 := HB2.out.e0; have z1 := HB2.out.e1; have z2 := HB2.out.e2; have z3 := HB2.out.e3; have z4 := HB2.out.e4; have z5 := HB2.out.e5
    go_wp2_with fail
    go_ret
    exact ⟨ret_int HR.out.symm, HBW2.out⟩
  | true =>
  cases hs : topB x b.lv b.sp b.rows with
  | false =>
    have HR : Hid (pubE mPrime x a b = 2) := pubE_no3 hs
    have HT := Lib.hid ht
    have HS := Lib.hid hs
    clear ht hs
    go_enter Tryz.func29, Tryz.ntmps29
    go_wp2_with fail
    refine (pcheck_any x _ _ HXO.out HSL.out).mono ?_
    rintro e w1 ⟨rfl, hb1⟩
    rw [HC.out]
    have HB1 := Lib.hid (HB.out.below hb1)
    have HSL1 := Lib.hid (HSL.out.below hb1)
    have HU1 := Lib.hid (HU.out.below hb1)
    have HV1 := Lib.hid (HV.out.below hb1)
    have HBW1 := Lib.hid (HBW.out.trans (hb1.mono HBW.out.size))
    clear hb1
    have y0 := HB1.out.bp.n; have y1 := HB1.out.bp.p; have y2 := HB1.out.bp.r; have y3 := HB1.out.bp.ch; have y4 := HB1.out.bp.sp; have y5 := HB1.out.bp.wt; have y6 := HB1.out.bp.er
    have z0 := HB1.out.e0; have z1 := HB1.out.e1; have z2 := HB1.out.e2; have z3 := HB1.out.e3; have z4 := HB1.out.e4; have z5 := HB1.out.e5
    go_wp2_with fail
    refine (ktop_any x _ _ a.lv a.sp a.rows _ HX.out HXO.out HSL1.out HU1.out).mono ?_
    rintro e w2 ⟨rfl, hb2⟩
    rw [HT.out]
    have HB2 := Lib.hid (HB1.out.below hb2)
    have HSL2 := Lib.hid (HSL1.out.below hb2)
    have HU2 := Lib.hid (HU1.out.below hb2)
    have HV2 := Lib.hid (HV1.out.below hb2)
    have HBW2 := Lib.hid (HBW1.out.trans (hb2.mono HBW1.out.size))
    clear hb2 y0 y1 y2 y3 y4 y5 y6 z0 z1 z2 z3 z4 z5
    have y0 := HB2.out.bp.n; have y1 := HB2.out.bp.p; have y2 := HB2.out.bp.r; have y3 := HB2.out.bp.ch; have y4 := HB2.out.bp.sp; have y5 := HB2.out.bp.wt; have y6 := HB2.out.bp.er
    have z0 := HB2.out.e0; have z1 := HB2.out.e1; have z2 := HB2.out.e2; have z3 := HB2.out.e3; have z4 := HB2.out.e4; have z5 := HB2.out.e5
    go_wp2_with fail
    refine (ktop_any x _ _ b.lv b.sp b.rows _ HX.out HXO.out HSL2.out HV2.out).mono ?_
    rintro e w3 ⟨rfl, hb3⟩
    rw [HS.out]
    have HB3 := Lib.hid (HB2.out.below hb3)
    have HSL3 := Lib.hid (HSL2.out.below hb3)
    have HU3 := Lib.hid (HU2.out.below hb3)
    have HV3 := Lib.hid (HV2.out.below hb3)
    have HBW3 := Lib.hid (HBW2.out.trans (hb3.mono HBW2.out.size))
    clear hb3 y0 y1 y2 y3 y4 y5 y6 z0 z1 z2 z3 z4 z5
    have y0 := HB3.out.bp.n; have y1 := HB3.out.bp.p; have y2 := HB3.out.bp.r; have y3 := HB3.out.bp.ch; have y4 := HB3.out.bp.sp; have y5 := HB3.out.bp.wt; have y6 := HB3.out.bp.er
    have z0 := HB3.out.e0; have z1 := HB3.out.e1; have z2 := HB3.out.e2; have z3 := HB3.out.e3; have z4 := HB3.out.e4; have z5 := HB3.out.e5
    go_wp2_with fail
    go_ret
    exact ⟨ret_int HR.out.symm, HBW3.out⟩
  | true =>
    have HR : Hid (pubE mPrime x a b = 0) := pubE_yes HOK.out ht hs
    have HT := Lib.hid ht
    have HS := Lib.hid hs
    clear ht hs
    go_enter Tryz.func29, Tryz.ntmps29
    go_wp2_with fail
    refine (pcheck_any x _ _ HXO.out HSL.out).mono ?_
    rintro e w1 ⟨rfl, hb1⟩
    rw [HC.out]
    have HB1 := Lib.hid (HB.out.below hb1)
    have HSL1 := Lib.hid (HSL.out.below hb1)
    have HU1 := Lib.hid (HU.out.below hb1)
    have HV1 := Lib.hid (HV.out.below hb1)
    have HBW1 := Lib.hid (HBW.out.trans (hb1.mono HBW.out.size))
    clear hb1
    have y0 := HB1.out.bp.n; have y1 := HB1.out.bp.p; have y2 := HB1.out.bp.r; have y3 := HB1.out.bp.ch; have y4 := HB1.out.bp.sp; have y5 := HB1.out.bp.wt; have y6 := HB1.out.bp.er
    have z0 := HB1.out.e0; have z1 := HB1.out.e1; have z2 := HB1.out.e2; have z3 := HB1.out.e3; have z4 := HB1.out.e4; have z5 := HB1.out.e5
    go_wp2_with fail
    refine (ktop_any x _ _ a.lv a.sp a.rows _ HX.out HXO.out HSL1.out HU1.out).mono ?_
    rintro e w2 ⟨rfl, hb2⟩
    rw [HT.out]
    have HB2 := Lib.hid (HB1.out.below hb2)
    have HSL2 := Lib.hid (HSL1.out.below hb2)
    have HU2 := Lib.hid (HU1.out.below hb2)
    have HV2 := Lib.hid (HV1.out.below hb2)
    have HBW2 := Lib.hid (HBW1.out.trans (hb2.mono HBW1.out.size))
    clear hb2 y0 y1 y2 y3 y4 y5 y6 z0 z1 z2 z3 z4 z5
    have y0 := HB2.out.bp.n; have y1 := HB2.out.bp.p; have y2 := HB2.out.bp.r; have y3 := HB2.out.bp.ch; have y4 := HB2.out.bp.sp; have y5 := HB2.out.bp.wt; have y6 := HB2.out.bp.er
    have z0 := HB2.out.e0; have z1 := HB2.out.e1; have z2 := HB2.out.e2; have z3 := HB2.out.e3; have z4 := HB2.out.e4; have z5 := HB2.out.e5
    go_wp2_with fail
    refine (ktop_any x _ _ b.lv b.sp b.rows _ HX.out HXO.out HSL2.out HV2.out).mono ?_
    rintro e w3 ⟨rfl, hb3⟩
    rw [HS.out]
    have HB3 := Lib.hid (HB2.out.below hb3)
    have HSL3 := Lib.hid (HSL2.out.below hb3)
    have HU3 := Lib.hid (HU2.out.below hb3)
    have HV3 := Lib.hid (HV2.out.below hb3)
    have HBW3 := Lib.hid (HBW2.out.trans (hb3.mono HBW2.out.size))
    clear hb3 y0 y1 y2 y3 y4 y5 y6 z0 z1 z2 z3 z4 z5
    have y0 := HB3.out.bp.n; have y1 := HB3.out.bp.p; have y2 := HB3.out.bp.r; have y3 := HB3.out.bp.ch; have y4 := HB3.out.bp.sp; have y5 := HB3.out.bp.wt; have y6 := HB3.out.bp.er
    have z0 := HB3.out.e0; have z1 := HB3.out.e1; have z2 := HB3.out.e2; have z3 := HB3.out.e3; have z4 := HB3.out.e4; have z5 := HB3.out.e5
    go_wp2_with fail
    go_ret
    exact ⟨ret_int HR.out.symm, HBW3.out⟩

set_option maxHeartbeats 2000000 in
set_option maxRecDepth 100000 in
theorem rpub_any (x : Par) (cv u v : Value) (a b : El) (w : World) (hxo : ParOk x) (hcv : SliceAt w cv x.ch) (hu : SliceR w u a.rows) (hv : SliceR w v b.rows) :
    Calls Tryz.prog 8 #[x.val cv, pubVal a b u v] w fun r w' => r = .returned (.int .i64 (pubE rPrime x a b)) ∧ Below w.heap.size w w' := by
  have hbW : Below w.heap.size w ((w.alloc (.cells #[.int .i64 x.n, .int .u32 x.p, .int .i64 x.r, cv, .int .u32 x.sp, .int .i64 x.wt, .int .u32 x.er] 25)).alloc (.cells #[.int .i64 a.lv, .bool a.sp, u, .int .i64 b.lv, .bool b.sp, v] 34)) := ((Below.refl _ _).alloc (Nat.le_refl _) _).alloc (by simp) _
  have hB : PbB ((w.alloc (.cells #[.int .i64 x.n, .int .u32 x.p, .int .i64 x.r, cv, .int .u32 x.sp, .int .i64 x.wt, .int .u32 x.er] 25)).alloc (.cells #[.int .i64 a.lv, .bool a.sp, u, .int .i64 b.lv, .bool b.sp, v] 34)) w.heap.size x cv a b u v := ⟨by constructor <;> simp [go_sem], by simp [go_sem], by simp [go_sem], by simp [go_sem], by simp [go_sem], by simp [go_sem], by simp [go_sem], by simp⟩
  have HSL := Lib.hid (hcv.below hbW)
  have HU := Lib.hid (hu.below hbW)
  have HV := Lib.hid (hv.below hbW)
  have HBW := Lib.hid hbW
  have HB := Lib.hid hB
  have HXO := Lib.hid hxo
  obtain ⟨pc, ccv, rfl⟩ : ∃ pa ca, cv = .slice pa x.ch.length ca := by obtain ⟨p, c, e, _⟩ := hcv; exact ⟨p, c, e⟩
  obtain ⟨pu, cu, rfl⟩ : ∃ pa ca, u = .slice pa a.rows.length ca := by obtain ⟨p, c, e, _⟩ := hu; exact ⟨p, c, e⟩
  obtain ⟨pv, cw, rfl⟩ : ∃ pa ca, v = .slice pa b.rows.length ca := by obtain ⟨p, c, e, _⟩ := hv; exact ⟨p, c, e⟩
  clear hbW hB hxo hcv hu hv
  unfold Par.val pubVal
  cases hok : okB rPrime x with
  | false =>
    have HR : Hid (pubE rPrime x a b = 2) := pubE_no1 hok
    have HC := Lib.hid (chk_two hok)
    clear hok
    go_enter Tryz.func8, Tryz.ntmps8
    go_wp2_with fail
    refine (rcheck_any x _ _ HXO.out HSL.out).mono ?_
    rintro e w1 ⟨rfl, hb1⟩
    rw [HC.out]
    have HB1 := Lib.hid (HB.out.below hb1)
    have HSL1 := Lib.hid (HSL.out.below hb1)
    have HU1 := Lib.hid (HU.out.below hb1)
    have HV1 := Lib.hid (HV.out.below hb1)
    have HBW1 := Lib.hid (HBW.out.trans (hb1.mono HBW.out.size))
    clear hb1
    have y0 := HB1.out.bp.n; have y1 := HB1.out.bp.p; have y2 := HB1.out.bp.r; have y3 := HB1.out.bp.ch; have y4 := HB1.out.bp.sp; have y5 := HB1.out.bp.wt; have y6 := HB1.out.bp.er
    have z0 := HB1.out.e0; have z1 := HB1.out.e1; have z2 := HB1.out.e2; have z3 := HB1.out.e3; have z4 := HB1.out.e4; have z5 := HB1.out.e5
    go_wp2_with fail
    go_ret
    exact ⟨ret_int HR.out.symm, HBW1.out⟩
  | true =>
  have HX := Lib.hid (good_of hok)
  have HC := Lib.hid (chk_ok hok)
  have HOK := Lib.hid hok
  clear hok
  cases ht : topB x a.lv a.sp a.rows with
  | false =>
    have HR : Hid (pubE rPrime x a b = 2) := pubE_no2 ht
    have HT := Lib.hid ht
    clear ht
    go_enter Tryz.func8, Tryz.ntmps8
    go_wp2_with fail
    refine (rcheck_any x _ _ HXO.out HSL.out).mono ?_
    rintro e w1 ⟨rfl, hb1⟩
    rw [HC.out]
    have HB1 := Lib.hid (HB.out.below hb1)
    have HSL1 := Lib.hid (HSL.out.below hb1)
    have HU1 := Lib.hid (HU.out.below hb1)
    have HV1 := Lib.hid (HV.out.below hb1)
    have HBW1 := Lib.hid (HBW.out.trans (hb1.mono HBW.out.size))
    clear hb1
    have y0 := HB1.out.bp.n; have y1 := HB1.out.bp.p; have y2 := HB1.out.bp.r; have y3 := HB1.out.bp.ch; have y4 := HB1.out.bp.sp; have y5 := HB1.out.bp.wt; have y6 := HB1.out.bp.er
    have z0 := HB1.out.e0; have z1 := HB1.out.e1; have z2 := HB1.out.e2; have z3 := HB1.out.e3; have z4 := HB1.out.e4; have z5 := HB1.out.e5
    go_wp2_with fail
    refine (rtop_any x _ _ a.lv a.sp a.rows _ HX.out HXO.out HSL1.out HU1.out).mono ?_
    rintro e w2 ⟨rfl, hb2⟩
    rw [HT.out]
    have HB2 := Lib.hid (HB1.out.below hb2)
    have HSL2 := Lib.hid (HSL1.out.below hb2)
    have HU2 := Lib.hid (HU1.out.below hb2)
    have HV2 := Lib.hid (HV1.out.below hb2)
    have HBW2 := Lib.hid (HBW1.out.trans (hb2.mono HBW1.out.size))
    clear hb2 y0 y1 y2 y3 y4 y5 y6 z0 z1 z2 z3 z4 z5
    have y0 := HB2.out.bp.n; have y1 := HB2.out.bp.p; have y2 := HB2.out.bp.r; have y3 := HB2.out.bp.ch; have y4 := HB2.out.bp.sp; have y5 := HB2.out.bp.wt; have y6 := HB2.out.bp.er
    have z0 := HB2.out.e0; have z1 := HB2.out.e1; have z2 := HB2.out.e2; have z3 := HB2.out.e3; have z4 := HB2.out.e4; have z5 := HB2.out.e5
    go_wp2_with fail
    go_ret
    exact ⟨ret_int HR.out.symm, HBW2.out⟩
  | true =>
  cases hs : topB x b.lv b.sp b.rows with
  | false =>
    have HR : Hid (pubE rPrime x a b = 2) := pubE_no3 hs
    have HT := Lib.hid ht
    have HS := Lib.hid hs
    clear ht hs
    go_enter Tryz.func8, Tryz.ntmps8
    go_wp2_with fail
    refine (rcheck_any x _ _ HXO.out HSL.out).mono ?_
    rintro e w1 ⟨rfl, hb1⟩
    rw [HC.out]
    have HB1 := Lib.hid (HB.out.below hb1)
    have HSL1 := Lib.hid (HSL.out.below hb1)
    have HU1 := Lib.hid (HU.out.below hb1)
    have HV1 := Lib.hid (HV.out.below hb1)
    have HBW1 := Lib.hid (HBW.out.trans (hb1.mono HBW.out.size))
    clear hb1
    have y0 := HB1.out.bp.n; have y1 := HB1.out.bp.p; have y2 := HB1.out.bp.r; have y3 := HB1.out.bp.ch; have y4 := HB1.out.bp.sp; have y5 := HB1.out.bp.wt; have y6 := HB1.out.bp.er
    have z0 := HB1.out.e0; have z1 := HB1.out.e1; have z2 := HB1.out.e2; have z3 := HB1.out.e3; have z4 := HB1.out.e4; have z5 := HB1.out.e5
    go_wp2_with fail
    refine (rtop_any x _ _ a.lv a.sp a.rows _ HX.out HXO.out HSL1.out HU1.out).mono ?_
    rintro e w2 ⟨rfl, hb2⟩
    rw [HT.out]
    have HB2 := Lib.hid (HB1.out.below hb2)
    have HSL2 := Lib.hid (HSL1.out.below hb2)
    have HU2 := Lib.hid (HU1.out.below hb2)
    have HV2 := Lib.hid (HV1.out.below hb2)
    have HBW2 := Lib.hid (HBW1.out.trans (hb2.mono HBW1.out.size))
    clear hb2 y0 y1 y2 y3 y4 y5 y6 z0 z1 z2 z3 z4 z5
    have y0 := HB2.out.bp.n; have y1 := HB2.out.bp.p; have y2 := HB2.out.bp.r; have y3 := HB2.out.bp.ch; have y4 := HB2.out.bp.sp; have y5 := HB2.out.bp.wt; have y6 := HB2.out.bp.er
    have z0 := HB2.out.e0; have z1 := HB2.out.e1; have z2 := HB2.out.e2; have z3 := HB2.out.e3; have z4 := HB2.out.e4; have z5 := HB2.out.e5
    go_wp2_with fail
    refine (rtop_any x _ _ b.lv b.sp b.rows _ HX.out HXO.out HSL2.out HV2.out).mono ?_
    rintro e w3 ⟨rfl, hb3⟩
    rw [HS.out]
    have HB3 := Lib.hid (HB2.out.below hb3)
    have HSL3 := Lib.hid (HSL2.out.below hb3)
    have HU3 := Lib.hid (HU2.out.below hb3)
    have HV3 := Lib.hid (HV2.out.below hb3)
    have HBW3 := Lib.hid (HBW2.out.trans (hb3.mono HBW2.out.size))
    clear hb3 y0 y1 y2 y3 y4 y5 y6 z0 z1 z2 z3 z4 z5
    have y0 := HB3.out.bp.n; have y1 := HB3.out.bp.p; have y2 := HB3.out.bp.r; have y3 := HB3.out.bp.ch; have y4 := HB3.out.bp.sp; have y5 := HB3.out.bp.wt; have y6 := HB3.out.bp.er
    have z0 := HB3.out.e0; have z1 := HB3.out.e1; have z2 := HB3.out.e2; have z3 := HB3.out.e3; have z4 := HB3.out.e4; have z5 := HB3.out.e5
    go_wp2_with fail
    go_ret
    exact ⟨ret_int HR.out.symm, HBW3.out⟩
  | true =>
    have HR : Hid (pubE rPrime x a b = 0) := pubE_yes HOK.out ht hs
    have HT := Lib.hid ht
    have HS := Lib.hid hs
    clear ht hs
    go_enter Tryz.func8, Tryz.ntmps8
    go_wp2_with fail
    refine (rcheck_any x _ _ HXO.out HSL.out).mono ?_
    rintro e w1 ⟨rfl, hb1⟩
    rw [HC.out]
    have HB1 := Lib.hid (HB.out.below hb1)
    have HSL1 := Lib.hid (HSL.out.below hb1)
    have HU1 := Lib.hid (HU.out.below hb1)
    have HV1 := Lib.hid (HV.out.below hb1)
    have HBW1 := Lib.hid (HBW.out.trans (hb1.mono HBW.out.size))
    clear hb1
    have y0 := HB1.out.bp.n; have y1 := HB1.out.bp.p; have y2 := HB1.out.bp.r; have y3 := HB1.out.bp.ch; have y4 := HB1.out.bp.sp; have y5 := HB1.out.bp.wt; have y6 := HB1.out.bp.er
    have z0 := HB1.out.e0; have z1 := HB1.out.e1; have z2 := HB1.out.e2; have z3 := HB1.out.e3; have z4 := HB1.out.e4; have z5 := HB1.out.e5
    go_wp2_with fail
    refine (rtop_any x _ _ a.lv a.sp a.rows _ HX.out HXO.out HSL1.out HU1.out).mono ?_
    rintro e w2 ⟨rfl, hb2⟩
    rw [HT.out]
    have HB2 := Lib.hid (HB1.out.below hb2)
    have HSL2 := Lib.hid (HSL1.out.below hb2)
    have HU2 := Lib.hid (HU1.out.below hb2)
    have HV2 := Lib.hid (HV1.out.below hb2)
    have HBW2 := Lib.hid (HBW1.out.trans (hb2.mono HBW1.out.size))
    clear hb2 y0 y1 y2 y3 y4 y5 y6 z0 z1 z2 z3 z4 z5
    have y0 := HB2.out.bp.n; have y1 := HB2.out.bp.p; have y2 := HB2.out.bp.r; have y3 := HB2.out.bp.ch; have y4 := HB2.out.bp.sp; have y5 := HB2.out.bp.wt; have y6 := HB2.out.bp.er
    have z0 := HB2.out.e0; have z1 := HB2.out.e1; have z2 := HB2.out.e2; have z3 := HB2.out.e3; have z4 := HB2.out.e4; have z5 := HB2.out.e5
    go_wp2_with fail
    refine (rtop_any x _ _ b.lv b.sp b.rows _ HX.out HXO.out HSL2.out HV2.out).mono ?_
    rintro e w3 ⟨rfl, hb3⟩
    rw [HS.out]
    have HB3 := Lib.hid (HB2.out.below hb3)
    have HSL3 := Lib.hid (HSL2.out.below hb3)
    have HU3 := Lib.hid (HU2.out.below hb3)
    have HV3 := Lib.hid (HV2.out.below hb3)
    have HBW3 := Lib.hid (HBW2.out.trans (hb3.mono HBW2.out.size))
    clear hb3 y0 y1 y2 y3 y4 y5 y6 z0 z1 z2 z3 z4 z5
    have y0 := HB3.out.bp.n; have y1 := HB3.out.bp.p; have y2 := HB3.out.bp.r; have y3 := HB3.out.bp.ch; have y4 := HB3.out.bp.sp; have y5 := HB3.out.bp.wt; have y6 := HB3.out.bp.er
    have z0 := HB3.out.e0; have z1 := HB3.out.e1; have z2 := HB3.out.e2; have z3 := HB3.out.e3; have z4 := HB3.out.e4; have z5 := HB3.out.e5
    go_wp2_with fail
    go_ret
    exact ⟨ret_int HR.out.symm, HBW3.out⟩
end Go.Proofs.YtjpcljnojipdnaaGreat
