/- keys.top; obscuraref13.Top, at the special mark false. (Printed by gen_RngH.py.) -/
import Derived.Test.YtjpcljnojipdnaaGreatRngG
namespace Go.Proofs.YtjpcljnojipdnaaGreat
open Go.RowKit

/-- Two boxes: the parameters, an element. -/
structure TpB (W : World) (B : Nat) (x : Par) (cv : Value) (lv : Int) (sp : Bool) (rv : Value) : Prop where
  bp : BoxP W B x cv
  e0 : W.cell? ⟨B + 1, 0, none⟩ = some (.int .i64 lv)
  e1 : W.cell? ⟨B + 1, 1, none⟩ = some (.bool sp)
  e2 : W.cell? ⟨B + 1, 2, none⟩ = some rv
  sz : B + 1 + 1 ≤ W.heap.size
theorem TpB.below {W W' : World} {B : Nat} {x : Par} {cv : Value} {lv : Int} {sp : Bool} {rv : Value} (h : TpB W B x cv lv sp rv) (hb : Below W.heap.size W W') : TpB W' B x cv lv sp rv :=
  have := h.sz
  ⟨h.bp.below hb (by omega), (below_at hb (by omega)).trans h.e0, (below_at hb (by omega)).trans h.e1, (below_at hb (by omega)).trans h.e2, Nat.le_trans h.sz hb.size⟩
def topB (x : Par) (lv : Int) (sp : Bool) (rows : List (List Nat)) : Bool := decide (elemE x lv sp rows = 0) && (decide (lv = x.ch.length) && !sp)
theorem elemE_vals (x : Par) (lv : Int) (sp : Bool) (rows : List (List Nat)) : elemE x lv sp rows = 0 ∨ elemE x lv sp rows = 2 := by unfold elemE; split <;> simp

set_option maxHeartbeats 2000000 in
set_option maxRecDepth 100000 in
theorem ktop_any (x : Par) (cv rv : Value) (lv : Int) (sp : Bool) (rows : List (List Nat)) (w : World) (hx : Good x) (hxo : ParOk x) (hcv : SliceAt w cv x.ch) (hrv : SliceR w rv rows) :
    Calls Tryz.prog 71 #[x.val cv, elVal lv sp rv] w fun r w' => r = .returned (.bool (topB x lv sp rows)) ∧ Below w.heap.size w w' := by
  have hbW : Below w.heap.size w ((w.alloc (.cells #[.int .i64 x.n, .int .u32 x.p, .int .i64 x.r, cv, .int .u32 x.sp, .int .i64 x.wt, .int .u32 x.er] 25)).alloc (.cells #[.int .i64 lv, .bool sp, rv] 32)) := ((Below.refl _ _).alloc (Nat.le_refl _) _).alloc (by simp) _
  have hB : TpB ((w.alloc (.cells #[.int .i64 x.n, .int .u32 x.p, .int .i64 x.r, cv, .int .u32 x.sp, .int .i64 x.wt, .int .u32 x.er] 25)).alloc (.cells #[.int .i64 lv, .bool sp, rv] 32)) w.heap.size x cv lv sp rv := ⟨by constructor <;> simp [go_sem], by simp [go_sem], by simp [go_sem], by simp [go_sem], by simp⟩
  have HSL := Lib.hid (hcv.below hbW)
  have HRV := Lib.hid (hrv.below hbW)
  have HBW := Lib.hid hbW
  have HB := Lib.hid hB
  have HX := Lib.hid hx
  have HXO := Lib.hid hxo
  have hl2 := hx.l2
  obtain ⟨pc, ccv, rfl⟩ : ∃ pa ca, cv = .slice pa x.ch.length ca := by obtain ⟨p, c, e, _⟩ := hcv; exact ⟨p, c, e⟩
  obtain ⟨pr, cr, rfl⟩ : ∃ pa ca, rv = .slice pa rows.length ca := by obtain ⟨p, c, e, _⟩ := hrv; exact ⟨p, c, e⟩
  clear hbW hB hx hxo hcv hrv
  unfold Par.val elVal
  rcases elemE_vals x lv sp rows with hE | hE
  case inr =>
    have HR : Hid (topB x lv sp rows = false) := by show _ = _; unfold topB; rw [hE]; rfl
    have HE := Lib.hid hE
    clear hE
    go_enter Tryz.func71, Tryz.ntmps71
    go_wp2_with fail
    refine (rgcheck_any x _ _ lv sp rows _ HX.out HXO.out HSL.out HRV.out).mono ?_
    rintro e w1 ⟨rfl, hb1⟩
    rw [HE.out]
    have HB1 := Lib.hid (HB.out.below hb1)
    have HBW1 := Lib.hid (HBW.out.trans (hb1.mono HBW.out.size))
    clear hb1
    have z0 := HB1.out.e0; have z1 := HB1.out.e1; have y3 := HB1.out.bp.ch
    go_wp2_with fail
    go_ret
    exact ⟨ret_bool HR.out.symm, HBW1.out⟩
  case inl =>
  have HE := Lib.hid hE
  by_cases hl : lv = x.ch.length
  case neg =>
    have HR : Hid (topB x lv sp rows = false) := by show _ = _; unfold topB; rw [decide_eq_false hl]; simp
    have d1 : (lv == (x.ch.length : Int)) = false := beq_eq_false_iff_ne.2 hl
    clear hE hl
    go_enter Tryz.func71, Tryz.ntmps71
    go_wp2_with fail
    refine (rgcheck_any x _ _ lv sp rows _ HX.out HXO.out HSL.out HRV.out).mono ?_
    rintro e w1 ⟨rfl, hb1⟩
    rw [HE.out]
    have HB1 := Lib.hid (HB.out.below hb1)
    have HBW1 := Lib.hid (HBW.out.trans (hb1.mono HBW.out.size))
    clear hb1
    have z0 := HB1.out.e0; have z1 := HB1.out.e1; have y3 := HB1.out.bp.ch
    go_wp2_with fail
    go_ret
    exact ⟨ret_bool HR.out.symm, HBW1.out⟩
  case pos =>
  have d1 : (lv == (x.ch.length : Int)) = true := beq_iff_eq.2 hl
  cases sp with
  | true =>
    have HR : Hid (topB x lv true rows = false) := by show _ = _; unfold topB; simp
    clear hE hl
    go_enter Tryz.func71, Tryz.ntmps71
    go_wp2_with fail
    refine (rgcheck_any x _ _ lv true rows _ HX.out HXO.out HSL.out HRV.out).mono ?_
    rintro e w1 ⟨rfl, hb1⟩
    rw [HE.out]
    have HB1 := Lib.hid (HB.out.below hb1)
    have HBW1 := Lib.hid (HBW.out.trans (hb1.mono HBW.out.size))
    clear hb1
    have z0 := HB1.out.e0; have z1 := HB1.out.e1; have y3 := HB1.out.bp.ch
    go_wp2_with fail
    go_ret
    exact ⟨ret_bool HR.out.symm, HBW1.out⟩
  | false =>
    have HR : Hid (topB x lv false rows = true) := by show _ = _; unfold topB; rw [hE, decide_eq_true hl]; rfl
    clear hE hl
    go_enter Tryz.func71, Tryz.ntmps71
    go_wp2_with fail
    refine (rgcheck_any x _ _ lv false rows _ HX.out HXO.out HSL.out HRV.out).mono ?_
    rintro e w1 ⟨rfl, hb1⟩
    rw [HE.out]
    have HB1 := Lib.hid (HB.out.below hb1)
    have HBW1 := Lib.hid (HBW.out.trans (hb1.mono HBW.out.size))
    clear hb1
    have z0 := HB1.out.e0; have z1 := HB1.out.e1; have y3 := HB1.out.bp.ch
    go_wp2_with fail
    go_ret
    exact ⟨ret_bool HR.out.symm, HBW1.out⟩

set_option maxHeartbeats 2000000 in
set_option maxRecDepth 100000 in
theorem rtop_any (x : Par) (cv rv : Value) (lv : Int) (sp : Bool) (rows : List (List Nat)) (w : World) (hx : Good x) (hxo : ParOk x) (hcv : SliceAt w cv x.ch) (hrv : SliceR w rv rows) :
    Calls Tryz.prog 44 #[x.val cv, elVal lv sp rv, .bool false] w fun r w' => r = .returned (.bool (topB x lv sp rows)) ∧ Below w.heap.size w w' := by
  have hbW : Below w.heap.size w ((w.alloc (.cells #[.int .i64 x.n, .int .u32 x.p, .int .i64 x.r, cv, .int .u32 x.sp, .int .i64 x.wt, .int .u32 x.er] 25)).alloc (.cells #[.int .i64 lv, .bool sp, rv] 32)) := ((Below.refl _ _).alloc (Nat.le_refl _) _).alloc (by simp) _
  have hB : TpB ((w.alloc (.cells #[.int .i64 x.n, .int .u32 x.p, .int .i64 x.r, cv, .int .u32 x.sp, .int .i64 x.wt, .int .u32 x.er] 25)).alloc (.cells #[.int .i64 lv, .bool sp, rv] 32)) w.heap.size x cv lv sp rv := ⟨by constructor <;> simp [go_sem], by simp [go_sem], by simp [go_sem], by simp [go_sem], by simp⟩
  have HSL := Lib.hid (hcv.below hbW)
  have HRV := Lib.hid (hrv.below hbW)
  have HBW := Lib.hid hbW
  have HB := Lib.hid hB
  have HX := Lib.hid hx
  have HXO := Lib.hid hxo
  have hl2 := hx.l2
  obtain ⟨pc, ccv, rfl⟩ : ∃ pa ca, cv = .slice pa x.ch.length ca := by obtain ⟨p, c, e, _⟩ := hcv; exact ⟨p, c, e⟩
  obtain ⟨pr, cr, rfl⟩ : ∃ pa ca, rv = .slice pa rows.length ca := by obtain ⟨p, c, e, _⟩ := hrv; exact ⟨p, c, e⟩
  clear hbW hB hx hxo hcv hrv
  unfold Par.val elVal
  rcases elemE_vals x lv sp rows with hE | hE
  case inr =>
    have HR : Hid (topB x lv sp rows = false) := by show _ = _; unfold topB; rw [hE]; rfl
    have HE := Lib.hid hE
    clear hE
    go_enter Tryz.func44, Tryz.ntmps44
    go_wp2_with fail
    refine (rcheck9_any x _ _ lv sp rows _ HX.out HSL.out HRV.out).mono ?_
    rintro e w1 ⟨rfl, hb1⟩
    rw [HE.out]
    have HB1 := Lib.hid (HB.out.below hb1)
    have HBW1 := Lib.hid (HBW.out.trans (hb1.mono HBW.out.size))
    clear hb1
    have z0 := HB1.out.e0; have z1 := HB1.out.e1; have y3 := HB1.out.bp.ch
    go_wp2_with fail
    go_ret
    exact ⟨ret_bool HR.out.symm, HBW1.out⟩
  case inl =>
  have HE := Lib.hid hE
  by_cases hl : lv = x.ch.length
  case neg =>
    have HR : Hid (topB x lv sp rows = false) := by show _ = _; unfold topB; rw [decide_eq_false hl]; simp
    have d1 : (lv == (x.ch.length : Int)) = false := beq_eq_false_iff_ne.2 hl
    clear hE hl
    go_enter Tryz.func44, Tryz.ntmps44
    go_wp2_with fail
    refine (rcheck9_any x _ _ lv sp rows _ HX.out HSL.out HRV.out).mono ?_
    rintro e w1 ⟨rfl, hb1⟩
    rw [HE.out]
    have HB1 := Lib.hid (HB.out.below hb1)
    have HBW1 := Lib.hid (HBW.out.trans (hb1.mono HBW.out.size))
    clear hb1
    have z0 := HB1.out.e0; have z1 := HB1.out.e1; have y3 := HB1.out.bp.ch
    go_wp2_with fail
    go_ret
    exact ⟨ret_bool HR.out.symm, HBW1.out⟩
  case pos =>
  have d1 : (lv == (x.ch.length : Int)) = true := beq_iff_eq.2 hl
  cases sp with
  | true =>
    have HR : Hid (topB x lv true rows = false) := by show _ = _; unfold topB; simp
    clear hE hl
    go_enter Tryz.func44, Tryz.ntmps44
    go_wp2_with fail
    refine (rcheck9_any x _ _ lv true rows _ HX.out HSL.out HRV.out).mono ?_
    rintro e w1 ⟨rfl, hb1⟩
    rw [HE.out]
    have HB1 := Lib.hid (HB.out.below hb1)
    have HBW1 := Lib.hid (HBW.out.trans (hb1.mono HBW.out.size))
    clear hb1
    have z0 := HB1.out.e0; have z1 := HB1.out.e1; have y3 := HB1.out.bp.ch
    go_wp2_with fail
    go_ret
    exact ⟨ret_bool HR.out.symm, HBW1.out⟩
  | false =>
    have HR : Hid (topB x lv false rows = true) := by show _ = _; unfold topB; rw [hE, decide_eq_true hl]; rfl
    clear hE hl
    go_enter Tryz.func44, Tryz.ntmps44
    go_wp2_with fail
    refine (rcheck9_any x _ _ lv false rows _ HX.out HSL.out HRV.out).mono ?_
    rintro e w1 ⟨rfl, hb1⟩
    rw [HE.out]
    have HB1 := Lib.hid (HB.out.below hb1)
    have HBW1 := Lib.hid (HBW.out.trans (hb1.mono HBW.out.size))
    clear hb1
    have z0 := HB1.out.e0; have z1 := HB1.out.e1; have y3 := HB1.out.bp.ch
    go_wp2_with fail
    go_ret
    exact ⟨ret_bool HR.out.symm, HBW1.out⟩
end Go.Proofs.YtjpcljnojipdnaaGreat
