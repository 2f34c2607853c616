/- obscuralaw12.same, shown. (Printed by gen_DefE.py.) -/
import Derived.Test.YtjfjbkocopaehaaDoorDefD
namespace Go.Proofs.YtjfjbkocopaehaaDoor
open Go.RowKit

def sameB (x y : Par) : Bool := decide (x.n = y.n ∧ x.p = y.p ∧ x.r = y.r ∧ x.sp = y.sp ∧ x.wt = y.wt ∧ x.er = y.er ∧ x.ch = y.ch)
theorem sameB_self (x : Par) : sameB x x = true := decide_eq_true ⟨rfl, rfl, rfl, rfl, rfl, rfl, rfl⟩
theorem cast_inj (l m : List Nat) : decide (l.map (fun q => ((q : Nat) : Int)) = m.map (fun q => ((q : Nat) : Int))) = decide (l = m) := by
  have h : (l.map (fun q => ((q : Nat) : Int)) = m.map (fun q => ((q : Nat) : Int))) ↔ l = m :=
    ⟨fun h => by
      have := congrArg (List.map Int.toNat) h
      simpa [List.map_map, Function.comp_def] using this, fun h => by rw [h]⟩
  rw [Bool.eq_iff_iff, decide_eq_true_eq, decide_eq_true_eq]; exact h

set_option maxHeartbeats 2000000 in
set_option maxRecDepth 100000 in
theorem samep_any (x y : Par) (cv dv : Value) (w : World) (hcv : SliceAt w cv x.ch) (hdv : SliceAt w dv y.ch) :
    Calls Tryd.prog 9 #[x.val cv, y.val dv] w fun r w' => r = .returned (.bool (sameB x y)) ∧ Below w.heap.size w w' := by
  have hbW : Hid (Below w.heap.size w ((w.alloc (.cells #[.int .i64 x.n, .int .u32 x.p, .int .i64 x.r, cv, .int .u32 x.sp, .int .i64 x.wt, .int .u32 x.er] 25)).alloc (.cells #[.int .i64 y.n, .int .u32 y.p, .int .i64 y.r, dv, .int .u32 y.sp, .int .i64 y.wt, .int .u32 y.er] 25))) := ((Below.refl _ _).alloc (Nat.le_refl _) _).alloc (by simp) _
  have h1 := Lib.hid (hcv.asZ.below hbW.out)
  have h2 := Lib.hid (hdv.asZ.below hbW.out)
  clear hcv hdv
  unfold Par.val
  by_cases e0 : x.n = y.n
  case neg =>
    have hR : Hid (sameB x y = false) := decide_eq_false (fun h => e0 h.1)
    have b0 : ((x.n : Int) == (y.n : Int)) = false := beq_eq_false_iff_ne.2 (by omega)
    clear e0
    go_enter Tryd.func9, Tryd.ntmps9
    go_wp2_with fail
    go_ret
    exact ⟨ret_bool (by rw [hR.out]), hbW.out⟩
  have b0 : ((x.n : Int) == (y.n : Int)) = true := beq_iff_eq.2 (by omega)
  by_cases e1 : x.p = y.p
  case neg =>
    have hR : Hid (sameB x y = false) := decide_eq_false (fun h => e1 h.2.1)
    have b1 : (((x.p : Nat) : Int) == ((y.p : Nat) : Int)) = false := beq_eq_false_iff_ne.2 (by omega)
    clear e0 e1
    go_enter Tryd.func9, Tryd.ntmps9
    go_wp2_with fail
    go_ret
    exact ⟨ret_bool (by rw [hR.out]), hbW.out⟩
  have b1 : (((x.p : Nat) : Int) == ((y.p : Nat) : Int)) = true := beq_iff_eq.2 (by omega)
  by_cases e2 : x.r = y.r
  case neg =>
    have hR : Hid (sameB x y = false) := decide_eq_false (fun h => e2 h.2.2.1)
    have b2 : ((x.r : Int) == (y.r : Int)) = false := beq_eq_false_iff_ne.2 (by omega)
    clear e0 e1 e2
    go_enter Tryd.func9, Tryd.ntmps9
    go_wp2_with fail
    go_ret
    exact ⟨ret_bool (by rw [hR.out]), hbW.out⟩
  have b2 : ((x.r : Int) == (y.r : Int)) = true := beq_iff_eq.2 (by omega)
  by_cases e3 : x.sp = y.sp
  case neg =>
    have hR : Hid (sameB x y = false) := decide_eq_false (fun h => e3 h.2.2.2.1)
    have b3 : (((x.sp : Nat) : Int) == ((y.sp : Nat) : Int)) = false := beq_eq_false_iff_ne.2 (by omega)
    clear e0 e1 e2 e3
    go_enter Tryd.func9, Tryd.ntmps9
    go_wp2_with fail
    go_ret
    exact ⟨ret_bool (by rw [hR.out]), hbW.out⟩
  have b3 : (((x.sp : Nat) : Int) == ((y.sp : Nat) : Int)) = true := beq_iff_eq.2 (by omega)
  by_cases e4 : x.wt = y.wt
  case neg =>
    have hR : Hid (sameB x y = false) := decide_eq_false (fun h => e4 h.2.2.2.2.1)
    have b4 : ((x.wt : Int) == (y.wt : Int)) = false := beq_eq_false_iff_ne.2 (by omega)
    clear e0 e1 e2 e3 e4
    go_enter Tryd.func9, Tryd.ntmps9
    go_wp2_with fail
    go_ret
    exact ⟨ret_bool (by rw [hR.out]), hbW.out⟩
  have b4 : ((x.wt : Int) == (y.wt : Int)) = true := beq_iff_eq.2 (by omega)
  by_cases e5 : x.er = y.er
  case neg =>
    have hR : Hid (sameB x y = false) := decide_eq_false (fun h => e5 h.2.2.2.2.2.1)
    have b5 : (((x.er : Nat) : Int) == ((y.er : Nat) : Int)) = false := beq_eq_false_iff_ne.2 (by omega)
    clear e0 e1 e2 e3 e4 e5
    go_enter Tryd.func9, Tryd.ntmps9
    go_wp2_with fail
    go_ret
    exact ⟨ret_bool (by rw [hR.out]), hbW.out⟩
  have b5 : (((x.er : Nat) : Int) == ((y.er : Nat) : Int)) = true := beq_iff_eq.2 (by omega)
  have hR : Hid (decide (x.ch.map (fun q => ((q : Nat) : Int)) = y.ch.map (fun q => ((q : Nat) : Int))) = sameB x y) := by
    show _ = _
    rw [cast_inj, Bool.eq_iff_iff, decide_eq_true_eq]; unfold sameB; rw [decide_eq_true_eq]
    exact ⟨fun h => ⟨e0, e1, e2, e3, e4, e5, h⟩, fun h => h.2.2.2.2.2.2⟩
  clear e0 e1 e2 e3 e4 e5
  go_enter Tryd.func9, Tryd.ntmps9
  go_wp2_with fail
  refine (samew_any _ _ _ _ _ h1.out h2.out).mono ?_
  rintro e w1 ⟨rfl, hb1⟩
  rw [hR.out]
  have HB := Lib.hid (bel_then hb1 hbW.out (by simp; omega))
  clear hb1
  go_wp2_with fail
  go_ret
  exact ⟨rfl, HB.out⟩


theorem eightP_val (v : Value) : eightP.val v = .agg #[.int .i64 8, .int .u32 17, .int .i64 3, v, .int .u32 2146941697, .int .i64 4, .int .u32 2] := rfl
theorem zeroP_val (v : Value) : zeroP.val v = .agg #[.int .i64 0, .int .u32 0, .int .i64 0, v, .int .u32 0, .int .i64 0, .int .u32 0] := rfl
theorem sliceAt_shape {w : World} {v : Value} {l : List Nat} (h : SliceAt w v l) : ∃ (p : Option Addr) (cap : Nat), v = .slice p l.length cap := by obtain ⟨p, cap, e, _⟩ := h; exact ⟨p, cap, e⟩

set_option maxHeartbeats 2000000 in
set_option maxRecDepth 100000 in
theorem shown_any (w : World) :
    Calls Tryd.prog 5 #[] w fun r w' => r = .returned (.bool true) ∧ Below w.heap.size w w' := by
  go_enter Tryd.func5, Tryd.ntmps5
  go_wp2_with fail
  refine (default_any 8 17 3 2 _ (by decide) (by decide) (by decide) (by decide) (by decide) (by decide) (by decide)).mono ?_
  rintro r W1 ⟨hb1, v, rfl, hsl⟩
  rw [defPar_eight] at hsl
  rw [defPar_eight, defErr_eight]
  obtain ⟨pa, cap, rfl⟩ := sliceAt_shape hsl
  rw [eightP_val, show eightP.ch.length = 2 from rfl]
  have hP : BoxP (W1.alloc (.cells #[.int .i64 8, .int .u32 17, .int .i64 3, .slice pa 2 cap, .int .u32 2146941697, .int .i64 4, .int .u32 2] 25)) W1.heap.size eightP (.slice pa 2 cap) := by constructor <;> simp [go_sem, eightP]
  have hS : Hid (SliceAt (W1.alloc (.cells #[.int .i64 8, .int .u32 17, .int .i64 3, .slice pa 2 cap, .int .u32 2146941697, .int .i64 4, .int .u32 2] 25)) (.slice pa 2 cap) eightP.ch) := hsl.below ((Below.refl _ _).alloc (Nat.le_refl _) _)
  have hb : Hid (Below w.heap.size w (W1.alloc (.cells #[.int .i64 8, .int .u32 17, .int .i64 3, .slice pa 2 cap, .int .u32 2146941697, .int .i64 4, .int .u32 2] 25))) := hb1.alloc hb1.size _
  have hg : W1.heap.size < (W1.alloc (.cells #[.int .i64 8, .int .u32 17, .int .i64 3, .slice pa 2 cap, .int .u32 2146941697, .int .i64 4, .int .u32 2] 25)).heap.size := by simp
  clear hb1 hsl
  have HP := Lib.hid hP
  clear hP
  go_wp2_with fail
  refine (pmod_any eightP (.slice pa 2 cap) 2 _ eightP_ok hS.out).mono ?_
  rintro r W2 ⟨rfl, hb2⟩
  rw [mod_eight.1, mod_eight.2]
  have HP2 := Lib.hid (HP.out.below hb2 hg)
  have HS2 := Lib.hid (hS.out.below hb2)
  have HB2 := Lib.hid (bel_then hb2 hb.out hb.out.size)
  have hg2 := Nat.lt_of_lt_of_le hg hb2.size
  clear hb2 hg hS hb HP
  generalize W1.heap.size = g at HP2 hg2 ⊢
  go_wp2_with fail
  refine (default_any 8 19 1 2 _ (by decide) (by decide) (by decide) (by decide) (by decide) (by decide) (by decide)).mono ?_
  rintro r W3 ⟨hb3, v, rfl, hsl3⟩
  rw [defPar_zero (by rw [defErr_nineteen]; decide)] at hsl3
  rw [defPar_zero (by rw [defErr_nineteen]; decide), defErr_nineteen]
  obtain ⟨p3, cap3, rfl⟩ := sliceAt_shape hsl3
  rw [zeroP_val, show zeroP.ch.length = 0 from rfl]
  have HP3 := Lib.hid (HP2.out.below hb3 hg2)
  have HS3 := Lib.hid (HS2.out.below hb3)
  have HB3 := Lib.hid (bel_then hb3 HB2.out HB2.out.size)
  have hg3 := Nat.lt_of_lt_of_le hg2 hb3.size
  clear hb3 hsl3 hg2 HS2 HB2 HP2
  go_wp2_with fail
  refine (default_any 32 193 3 24 _ (by decide) (by decide) (by decide) (by decide) (by decide) (by decide) (by decide)).mono ?_
  rintro r W4 ⟨hb4, v, rfl, hsl4⟩
  rw [defPar_zero (by rw [defErr_great]; decide)] at hsl4
  rw [defPar_zero (by rw [defErr_great]; decide), defErr_great]
  obtain ⟨p4, cap4, rfl⟩ := sliceAt_shape hsl4
  rw [zeroP_val, show zeroP.ch.length = 0 from rfl]
  have hy := ((Below.refl _ W3).alloc (Nat.le_refl _) (.cells #[.int .i64 0, .int .u32 0, .int .i64 0, .slice p3 0 cap3, .int .u32 0, .int .i64 0, .int .u32 0] 25))
  have HP4 := Lib.hid ((HP3.out.below hy hg3).below hb4 (by simp; omega))
  have HS4 := Lib.hid ((HS3.out.below hy).below hb4)
  have HB4 := Lib.hid (bel_then hb4 (HB3.out.alloc HB3.out.size _) (by have := HB3.out.size; simp; omega))
  have hg4 : g < W4.heap.size := by have := hb4.size; simp at this; omega
  clear hb4 hsl4 hg3 HS3 HB3 HP3 hy
  have y0 : W4.cell? ⟨g, 0, none⟩ = some (.int .i64 8) := HP4.out.n
  have y1 : W4.cell? ⟨g, 1, none⟩ = some (.int .u32 17) := HP4.out.p
  have y2 : W4.cell? ⟨g, 2, none⟩ = some (.int .i64 3) := HP4.out.r
  have y3 : W4.cell? ⟨g, 3, none⟩ = some (.slice pa 2 cap) := HP4.out.ch
  have y4 : W4.cell? ⟨g, 4, none⟩ = some (.int .u32 2146941697) := HP4.out.sp
  have y5 : W4.cell? ⟨g, 5, none⟩ = some (.int .i64 4) := HP4.out.wt
  have y6 : W4.cell? ⟨g, 6, none⟩ = some (.int .u32 2) := HP4.out.er
  go_wp2_with fail
  have hy := ((Below.refl _ W4).alloc (Nat.le_refl _) (.cells #[.int .i64 0, .int .u32 0, .int .i64 0, .slice p4 0 cap4, .int .u32 0, .int .i64 0, .int .u32 0] 25))
  refine (pcheck_any eightP (.slice pa 2 cap) _ eightP_ok (HS4.out.below hy)).mono ?_
  rintro e W5 ⟨rfl, hb5⟩
  rw [chk_eight]
  have HB5 := Lib.hid (bel_then hb5 (HB4.out.alloc HB4.out.size _) (by have := HB4.out.size; simp; omega))
  clear hb5 hy y0 y1 y2 y3 y4 y5 y6 HB4 HS4 HP4 hg4
  go_wp2_with fail
  refine (pcheck_any zeroP (.slice none 0 0) _ zeroP_ok ⟨none, 0, rfl, Nat.le_refl _, by simp [zeroP], fun h => absurd rfl h⟩).mono ?_
  rintro e W6 ⟨rfl, hb6⟩
  rw [chk_none]
  have HB6 := Lib.hid (bel_then hb6 HB5.out HB5.out.size)
  clear hb6 HB5
  go_wp2_with fail
  go_ret
  exact ⟨rfl, HB6.out⟩
end Go.Proofs.YtjfjbkocopaehaaDoor
