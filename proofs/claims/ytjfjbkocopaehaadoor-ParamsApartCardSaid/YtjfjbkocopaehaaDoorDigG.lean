/- ParamsApart: the walk. -/
import Derived.Test.YtjfjbkocopaehaaDoorDigE
namespace Go.Proofs.YtjfjbkocopaehaaDoor
open Go.RowKit
set_option linter.unusedVariables false

/-- What the law holds. -/
structure ApS (w W : World) (x y : Par) (cv dv : Value) : Prop where
  bx : BoxP W w.heap.size x cv
  by_ : BoxP W (w.heap.size + 1) y dv
  bel : Below w.heap.size w W
  lt : w.heap.size + 1 < W.heap.size
theorem ApS.below {w W W' : World} {x y : Par} {cv dv : Value} (h : ApS w W x y cv dv) (hb : Below W.heap.size W W') : ApS w W' x y cv dv :=
  ⟨h.bx.below hb (by have := h.lt; omega), h.by_.below hb h.lt, h.bel.trans (hb.mono h.bel.size), Nat.lt_of_lt_of_le h.lt hb.size⟩
theorem ApS.first (w : World) (x y : Par) (cv dv : Value) : ApS w ((w.alloc (.cells #[.int .i64 x.n, .int .u32 x.p, .int .i64 x.r, cv, .int .u32 x.sp, .int .i64 x.wt, .int .u32 x.er] 25)).alloc (.cells #[.int .i64 y.n, .int .u32 y.p, .int .i64 y.r, dv, .int .u32 y.sp, .int .i64 y.wt, .int .u32 y.er] 25)) x y cv dv :=
  ⟨by constructor <;> simp [go_sem], by constructor <;> simp [go_sem], ((Below.refl _ _).alloc (Nat.le_refl _) _).alloc (by simp) _, by simp⟩
theorem digS_size {x : Par} (h : chk mPrime x = 0) : (digS mPrime x).size = 32 := by
  unfold chk at h
  unfold digS
  split at h
  · rename_i hok
    rw [if_pos hok]
    unfold listS spongeS
    rw [bsOf_size, outs_length]
  · cases h
theorem chk_cases (x : Par) : chk mPrime x = 0 ∨ chk mPrime x = 2 := by unfold chk; split; exact .inl rfl; exact .inr rfl
theorem sameB_dig {x y : Par} (h : sameB x y = true) : digS mPrime x = digS mPrime y := by
  unfold sameB at h
  obtain ⟨h1, h2, h3, h4, h5, h6, h7⟩ := of_decide_eq_true h
  have e : x = y := by
    cases x; cases y
    simp only at h1 h2 h3 h4 h5 h6 h7
    simp [*]
  rw [e]

set_option maxHeartbeats 8000000 in
set_option maxRecDepth 100000 in
theorem papart_any (x y : Par) (cv dv : Value) (w : World) (hx : ParOk x) (hy : ParOk y) (hcv : SliceAt w cv x.ch) (hdv : SliceAt w dv y.ch) (ht : Tab w) :
    Calls Tryd.prog 4 #[x.val cv, y.val dv] w fun r w' => r = .returned (.bool true) ∧ Below w.heap.size w w' := by
  have HA0 := Lib.hid (ApS.first w x y cv dv)
  obtain ⟨pa, ca, rfl⟩ := sliceAt_shape hcv
  obtain ⟨pb, cb, rfl⟩ := sliceAt_shape hdv
  have HCV := Lib.hid hcv; have HDV := Lib.hid hdv; have HT := Lib.hid ht
  obtain ⟨S, hS⟩ : ∃ S, digS mPrime x = S := ⟨_, rfl⟩
  obtain ⟨R, hR⟩ : ∃ R, digS mPrime y = R := ⟨_, rfl⟩
  have HSZ : Hid (chk mPrime x = 0 → S.size = 32) := fun h => by rw [← hS]; exact digS_size h
  have HSB : Hid (sameB x y = true → S = R) := fun h => by rw [← hS, ← hR]; exact sameB_dig h
  have HX : Hid (digS mPrime x = S ∧ digS rPrime x = S ∧ chk rPrime x = chk mPrime x) := ⟨hS, by rw [(dig_same x).1]; exact hS, (dig_same x).2⟩
  have HY : Hid (digS mPrime y = R ∧ digS rPrime y = R ∧ chk rPrime y = chk mPrime y) := ⟨hR, by rw [(dig_same y).1]; exact hR, (dig_same y).2⟩
  clear hcv hdv ht hS hR
  unfold Par.val at *
  go_enter Tryd.func4, Tryd.ntmps4
  go_wp2_with fail
  refine (shown_any _).mono ?_
  rintro r w1 ⟨rfl, hb1⟩
  have HA := Lib.hid (HA0.out.below hb1)
  clear hb1 HA0
  have a0 := HA.out.bx.n; have a1 := HA.out.bx.p; have a2 := HA.out.bx.r; have a3 := HA.out.bx.ch; have a4 := HA.out.bx.sp; have a5 := HA.out.bx.wt; have a6 := HA.out.bx.er; have b0 := HA.out.by_.n; have b1 := HA.out.by_.p; have b2 := HA.out.by_.r; have b3 := HA.out.by_.ch; have b4 := HA.out.by_.sp; have b5 := HA.out.by_.wt; have b6 := HA.out.by_.er
  by_cases hlen : 100 < x.ch.length
  · have d1 : decide ((100 : Int) < (x.ch.length : Int)) = true := decide_eq_true (by omega)
    go_wp2_with fail
    go_ret
    exact ⟨rfl, HA.out.bel⟩
  · have d1 : decide ((100 : Int) < (x.ch.length : Int)) = false := decide_eq_false (by omega)
    by_cases hlen2 : 100 < y.ch.length
    · have d2 : decide ((100 : Int) < (y.ch.length : Int)) = true := decide_eq_true (by omega)
      go_wp2_with fail
      go_ret
      exact ⟨rfl, HA.out.bel⟩
    have d2 : decide ((100 : Int) < (y.ch.length : Int)) = false := decide_eq_false (by omega)
    obtain ⟨kx, hkx⟩ : ∃ k, chk mPrime x = k := ⟨_, rfl⟩
    obtain ⟨ky, hky⟩ : ∃ k, chk mPrime y = k := ⟨_, rfl⟩
    have HKX := Lib.hid hkx; have HKY := Lib.hid hky
    have hkx2 := chk_cases x; have hky2 := chk_cases y
    rw [hkx] at hkx2; rw [hky] at hky2
    clear hkx hky
    go_wp2_with fail
    refine (pdig_any x (.slice pa x.ch.length ca) _ hx (HCV.out.below HA.out.bel) (HT.out.below HA.out.bel)).mono ?_
    rintro r W5 ⟨rfl, hb5⟩
    rw [HX.out.1, HKX.out]
    have HA2 := Lib.hid (HA.out.below hb5)
    clear hb5 HA
    clear a0 a1 a2 a3 a4 a5 a6 b0 b1 b2 b3 b4 b5 b6
    have HA := HA2
    clear HA2
    have a0 := HA.out.bx.n; have a1 := HA.out.bx.p; have a2 := HA.out.bx.r; have a3 := HA.out.bx.ch; have a4 := HA.out.bx.sp; have a5 := HA.out.bx.wt; have a6 := HA.out.bx.er; have b0 := HA.out.by_.n; have b1 := HA.out.by_.p; have b2 := HA.out.by_.r; have b3 := HA.out.by_.ch; have b4 := HA.out.by_.sp; have b5 := HA.out.by_.wt; have b6 := HA.out.by_.er
    go_wp2_with fail
    refine (pdig_any y (.slice pb y.ch.length cb) _ hy (HDV.out.below HA.out.bel) (HT.out.below HA.out.bel)).mono ?_
    rintro r W5 ⟨rfl, hb5⟩
    rw [HY.out.1, HKY.out]
    have HA2 := Lib.hid (HA.out.below hb5)
    clear hb5 HA
    clear a0 a1 a2 a3 a4 a5 a6 b0 b1 b2 b3 b4 b5 b6
    have HA := HA2
    clear HA2
    have a0 := HA.out.bx.n; have a1 := HA.out.bx.p; have a2 := HA.out.bx.r; have a3 := HA.out.bx.ch; have a4 := HA.out.bx.sp; have a5 := HA.out.bx.wt; have a6 := HA.out.bx.er; have b0 := HA.out.by_.n; have b1 := HA.out.by_.p; have b2 := HA.out.by_.r; have b3 := HA.out.by_.ch; have b4 := HA.out.by_.sp; have b5 := HA.out.by_.wt; have b6 := HA.out.by_.er
    go_wp2_with fail
    rcases hkx2 with rfl | rfl <;> rcases hky2 with rfl | rfl
    · have h32 : (S.size : Int) = 32 := by rw [HSZ.out HKX.out]; rfl
      refine (pcheck_any x (.slice pa x.ch.length ca) _ hx (HCV.out.below HA.out.bel)).mono ?_
      rintro r W5 ⟨rfl, hb5⟩
      rw [HKX.out]
      have HA2 := Lib.hid (HA.out.below hb5)
      clear hb5 HA
      clear a0 a1 a2 a3 a4 a5 a6 b0 b1 b2 b3 b4 b5 b6
      have HA := HA2
      clear HA2
      have a0 := HA.out.bx.n; have a1 := HA.out.bx.p; have a2 := HA.out.bx.r; have a3 := HA.out.bx.ch; have a4 := HA.out.bx.sp; have a5 := HA.out.bx.wt; have a6 := HA.out.bx.er; have b0 := HA.out.by_.n; have b1 := HA.out.by_.p; have b2 := HA.out.by_.r; have b3 := HA.out.by_.ch; have b4 := HA.out.by_.sp; have b5 := HA.out.by_.wt; have b6 := HA.out.by_.er
      go_wp2_with fail
      refine (pcheck_any y (.slice pb y.ch.length cb) _ hy (HDV.out.below HA.out.bel)).mono ?_
      rintro r W5 ⟨rfl, hb5⟩
      rw [HKY.out]
      have HA2 := Lib.hid (HA.out.below hb5)
      clear hb5 HA
      clear a0 a1 a2 a3 a4 a5 a6 b0 b1 b2 b3 b4 b5 b6
      have HA := HA2
      clear HA2
      have a0 := HA.out.bx.n; have a1 := HA.out.bx.p; have a2 := HA.out.bx.r; have a3 := HA.out.bx.ch; have a4 := HA.out.bx.sp; have a5 := HA.out.bx.wt; have a6 := HA.out.bx.er; have b0 := HA.out.by_.n; have b1 := HA.out.by_.p; have b2 := HA.out.by_.r; have b3 := HA.out.by_.ch; have b4 := HA.out.by_.sp; have b5 := HA.out.by_.wt; have b6 := HA.out.by_.er
      go_wp2_with fail
      refine (rdig_any x (.slice pa x.ch.length ca) _ hx (HCV.out.below HA.out.bel)).mono ?_
      rintro r W5 ⟨rfl, hb5⟩
      rw [HX.out.2.1, HX.out.2.2, HKX.out]
      have HA2 := Lib.hid (HA.out.below hb5)
      clear hb5 HA
      clear a0 a1 a2 a3 a4 a5 a6 b0 b1 b2 b3 b4 b5 b6
      have HA := HA2
      clear HA2
      have a0 := HA.out.bx.n; have a1 := HA.out.bx.p; have a2 := HA.out.bx.r; have a3 := HA.out.bx.ch; have a4 := HA.out.bx.sp; have a5 := HA.out.bx.wt; have a6 := HA.out.bx.er; have b0 := HA.out.by_.n; have b1 := HA.out.by_.p; have b2 := HA.out.by_.r; have b3 := HA.out.by_.ch; have b4 := HA.out.by_.sp; have b5 := HA.out.by_.wt; have b6 := HA.out.by_.er
      go_wp2_with fail
      refine (rdig_any y (.slice pb y.ch.length cb) _ hy (HDV.out.below HA.out.bel)).mono ?_
      rintro r W5 ⟨rfl, hb5⟩
      rw [HY.out.2.1, HY.out.2.2, HKY.out]
      have HA2 := Lib.hid (HA.out.below hb5)
      clear hb5 HA
      clear a0 a1 a2 a3 a4 a5 a6 b0 b1 b2 b3 b4 b5 b6
      have HA := HA2
      clear HA2
      have a0 := HA.out.bx.n; have a1 := HA.out.bx.p; have a2 := HA.out.bx.r; have a3 := HA.out.bx.ch; have a4 := HA.out.bx.sp; have a5 := HA.out.bx.wt; have a6 := HA.out.bx.er; have b0 := HA.out.by_.n; have b1 := HA.out.by_.p; have b2 := HA.out.by_.r; have b3 := HA.out.by_.ch; have b4 := HA.out.by_.sp; have b5 := HA.out.by_.wt; have b6 := HA.out.by_.er
      go_wp2_with fail
      refine (samep_any x y (.slice pa x.ch.length ca) (.slice pb y.ch.length cb) _ (HCV.out.below HA.out.bel) (HDV.out.below HA.out.bel)).mono ?_
      rintro r W5 ⟨rfl, hb5⟩
      have HA2 := Lib.hid (HA.out.below hb5)
      clear hb5 HA
      clear a0 a1 a2 a3 a4 a5 a6 b0 b1 b2 b3 b4 b5 b6
      cases hsb : sameB x y with
      | true =>
        obtain rfl := HSB.out hsb
        go_wp2_with fail
        go_ret
        exact ⟨rfl, HA2.out.bel⟩
      | false =>
        go_wp2_with fail
        go_ret
        exact ⟨rfl, HA2.out.bel⟩
    · have h32 : (S.size : Int) = 32 := by rw [HSZ.out HKX.out]; rfl
      refine (pcheck_any x (.slice pa x.ch.length ca) _ hx (HCV.out.below HA.out.bel)).mono ?_
      rintro r W5 ⟨rfl, hb5⟩
      rw [HKX.out]
      have HA2 := Lib.hid (HA.out.below hb5)
      clear hb5 HA
      clear a0 a1 a2 a3 a4 a5 a6 b0 b1 b2 b3 b4 b5 b6
      have HA := HA2
      clear HA2
      have a0 := HA.out.bx.n; have a1 := HA.out.bx.p; have a2 := HA.out.bx.r; have a3 := HA.out.bx.ch; have a4 := HA.out.bx.sp; have a5 := HA.out.bx.wt; have a6 := HA.out.bx.er; have b0 := HA.out.by_.n; have b1 := HA.out.by_.p; have b2 := HA.out.by_.r; have b3 := HA.out.by_.ch; have b4 := HA.out.by_.sp; have b5 := HA.out.by_.wt; have b6 := HA.out.by_.er
      go_wp2_with fail
      refine (pcheck_any y (.slice pb y.ch.length cb) _ hy (HDV.out.below HA.out.bel)).mono ?_
      rintro r W5 ⟨rfl, hb5⟩
      rw [HKY.out]
      have HA2 := Lib.hid (HA.out.below hb5)
      clear hb5 HA
      clear a0 a1 a2 a3 a4 a5 a6 b0 b1 b2 b3 b4 b5 b6
      have HA := HA2
      clear HA2
      have a0 := HA.out.bx.n; have a1 := HA.out.bx.p; have a2 := HA.out.bx.r; have a3 := HA.out.bx.ch; have a4 := HA.out.bx.sp; have a5 := HA.out.bx.wt; have a6 := HA.out.bx.er; have b0 := HA.out.by_.n; have b1 := HA.out.by_.p; have b2 := HA.out.by_.r; have b3 := HA.out.by_.ch; have b4 := HA.out.by_.sp; have b5 := HA.out.by_.wt; have b6 := HA.out.by_.er
      go_wp2_with fail
      refine (rdig_any x (.slice pa x.ch.length ca) _ hx (HCV.out.below HA.out.bel)).mono ?_
      rintro r W5 ⟨rfl, hb5⟩
      rw [HX.out.2.1, HX.out.2.2, HKX.out]
      have HA2 := Lib.hid (HA.out.below hb5)
      clear hb5 HA
      clear a0 a1 a2 a3 a4 a5 a6 b0 b1 b2 b3 b4 b5 b6
      have HA := HA2
      clear HA2
      have a0 := HA.out.bx.n; have a1 := HA.out.bx.p; have a2 := HA.out.bx.r; have a3 := HA.out.bx.ch; have a4 := HA.out.bx.sp; have a5 := HA.out.bx.wt; have a6 := HA.out.bx.er; have b0 := HA.out.by_.n; have b1 := HA.out.by_.p; have b2 := HA.out.by_.r; have b3 := HA.out.by_.ch; have b4 := HA.out.by_.sp; have b5 := HA.out.by_.wt; have b6 := HA.out.by_.er
      go_wp2_with fail
      refine (rdig_any y (.slice pb y.ch.length cb) _ hy (HDV.out.below HA.out.bel)).mono ?_
      rintro r W5 ⟨rfl, hb5⟩
      rw [HY.out.2.1, HY.out.2.2, HKY.out]
      have HA2 := Lib.hid (HA.out.below hb5)
      clear hb5 HA
      clear a0 a1 a2 a3 a4 a5 a6 b0 b1 b2 b3 b4 b5 b6
      have HA := HA2
      clear HA2
      have a0 := HA.out.bx.n; have a1 := HA.out.bx.p; have a2 := HA.out.bx.r; have a3 := HA.out.bx.ch; have a4 := HA.out.bx.sp; have a5 := HA.out.bx.wt; have a6 := HA.out.bx.er; have b0 := HA.out.by_.n; have b1 := HA.out.by_.p; have b2 := HA.out.by_.r; have b3 := HA.out.by_.ch; have b4 := HA.out.by_.sp; have b5 := HA.out.by_.wt; have b6 := HA.out.by_.er
      go_wp2_with fail
      go_ret
      exact ⟨rfl, HA.out.bel⟩
    · skip
      refine (pcheck_any x (.slice pa x.ch.length ca) _ hx (HCV.out.below HA.out.bel)).mono ?_
      rintro r W5 ⟨rfl, hb5⟩
      rw [HKX.out]
      have HA2 := Lib.hid (HA.out.below hb5)
      clear hb5 HA
      clear a0 a1 a2 a3 a4 a5 a6 b0 b1 b2 b3 b4 b5 b6
      have HA := HA2
      clear HA2
      have a0 := HA.out.bx.n; have a1 := HA.out.bx.p; have a2 := HA.out.bx.r; have a3 := HA.out.bx.ch; have a4 := HA.out.bx.sp; have a5 := HA.out.bx.wt; have a6 := HA.out.bx.er; have b0 := HA.out.by_.n; have b1 := HA.out.by_.p; have b2 := HA.out.by_.r; have b3 := HA.out.by_.ch; have b4 := HA.out.by_.sp; have b5 := HA.out.by_.wt; have b6 := HA.out.by_.er
      go_wp2_with fail
      refine (pcheck_any y (.slice pb y.ch.length cb) _ hy (HDV.out.below HA.out.bel)).mono ?_
      rintro r W5 ⟨rfl, hb5⟩
      rw [HKY.out]
      have HA2 := Lib.hid (HA.out.below hb5)
      clear hb5 HA
      clear a0 a1 a2 a3 a4 a5 a6 b0 b1 b2 b3 b4 b5 b6
      have HA := HA2
      clear HA2
      have a0 := HA.out.bx.n; have a1 := HA.out.bx.p; have a2 := HA.out.bx.r; have a3 := HA.out.bx.ch; have a4 := HA.out.bx.sp; have a5 := HA.out.bx.wt; have a6 := HA.out.bx.er; have b0 := HA.out.by_.n; have b1 := HA.out.by_.p; have b2 := HA.out.by_.r; have b3 := HA.out.by_.ch; have b4 := HA.out.by_.sp; have b5 := HA.out.by_.wt; have b6 := HA.out.by_.er
      go_wp2_with fail
      refine (rdig_any x (.slice pa x.ch.length ca) _ hx (HCV.out.below HA.out.bel)).mono ?_
      rintro r W5 ⟨rfl, hb5⟩
      rw [HX.out.2.1, HX.out.2.2, HKX.out]
      have HA2 := Lib.hid (HA.out.below hb5)
      clear hb5 HA
      clear a0 a1 a2 a3 a4 a5 a6 b0 b1 b2 b3 b4 b5 b6
      have HA := HA2
      clear HA2
      have a0 := HA.out.bx.n; have a1 := HA.out.bx.p; have a2 := HA.out.bx.r; have a3 := HA.out.bx.ch; have a4 := HA.out.bx.sp; have a5 := HA.out.bx.wt; have a6 := HA.out.bx.er; have b0 := HA.out.by_.n; have b1 := HA.out.by_.p; have b2 := HA.out.by_.r; have b3 := HA.out.by_.ch; have b4 := HA.out.by_.sp; have b5 := HA.out.by_.wt; have b6 := HA.out.by_.er
      go_wp2_with fail
      refine (rdig_any y (.slice pb y.ch.length cb) _ hy (HDV.out.below HA.out.bel)).mono ?_
      rintro r W5 ⟨rfl, hb5⟩
      rw [HY.out.2.1, HY.out.2.2, HKY.out]
      have HA2 := Lib.hid (HA.out.below hb5)
      clear hb5 HA
      clear a0 a1 a2 a3 a4 a5 a6 b0 b1 b2 b3 b4 b5 b6
      have HA := HA2
      clear HA2
      have a0 := HA.out.bx.n; have a1 := HA.out.bx.p; have a2 := HA.out.bx.r; have a3 := HA.out.bx.ch; have a4 := HA.out.bx.sp; have a5 := HA.out.bx.wt; have a6 := HA.out.bx.er; have b0 := HA.out.by_.n; have b1 := HA.out.by_.p; have b2 := HA.out.by_.r; have b3 := HA.out.by_.ch; have b4 := HA.out.by_.sp; have b5 := HA.out.by_.wt; have b6 := HA.out.by_.er
      go_wp2_with fail
      go_ret
      exact ⟨rfl, HA.out.bel⟩
    · skip
      refine (pcheck_any x (.slice pa x.ch.length ca) _ hx (HCV.out.below HA.out.bel)).mono ?_
      rintro r W5 ⟨rfl, hb5⟩
      rw [HKX.out]
      have HA2 := Lib.hid (HA.out.below hb5)
      clear hb5 HA
      clear a0 a1 a2 a3 a4 a5 a6 b0 b1 b2 b3 b4 b5 b6
      have HA := HA2
      clear HA2
      have a0 := HA.out.bx.n; have a1 := HA.out.bx.p; have a2 := HA.out.bx.r; have a3 := HA.out.bx.ch; have a4 := HA.out.bx.sp; have a5 := HA.out.bx.wt; have a6 := HA.out.bx.er; have b0 := HA.out.by_.n; have b1 := HA.out.by_.p; have b2 := HA.out.by_.r; have b3 := HA.out.by_.ch; have b4 := HA.out.by_.sp; have b5 := HA.out.by_.wt; have b6 := HA.out.by_.er
      go_wp2_with fail
      refine (pcheck_any y (.slice pb y.ch.length cb) _ hy (HDV.out.below HA.out.bel)).mono ?_
      rintro r W5 ⟨rfl, hb5⟩
      rw [HKY.out]
      have HA2 := Lib.hid (HA.out.below hb5)
      clear hb5 HA
      clear a0 a1 a2 a3 a4 a5 a6 b0 b1 b2 b3 b4 b5 b6
      have HA := HA2
      clear HA2
      have a0 := HA.out.bx.n; have a1 := HA.out.bx.p; have a2 := HA.out.bx.r; have a3 := HA.out.bx.ch; have a4 := HA.out.bx.sp; have a5 := HA.out.bx.wt; have a6 := HA.out.bx.er; have b0 := HA.out.by_.n; have b1 := HA.out.by_.p; have b2 := HA.out.by_.r; have b3 := HA.out.by_.ch; have b4 := HA.out.by_.sp; have b5 := HA.out.by_.wt; have b6 := HA.out.by_.er
      go_wp2_with fail
      refine (rdig_any x (.slice pa x.ch.length ca) _ hx (HCV.out.below HA.out.bel)).mono ?_
      rintro r W5 ⟨rfl, hb5⟩
      rw [HX.out.2.1, HX.out.2.2, HKX.out]
      have HA2 := Lib.hid (HA.out.below hb5)
      clear hb5 HA
      clear a0 a1 a2 a3 a4 a5 a6 b0 b1 b2 b3 b4 b5 b6
      have HA := HA2
      clear HA2
      have a0 := HA.out.bx.n; have a1 := HA.out.bx.p; have a2 := HA.out.bx.r; have a3 := HA.out.bx.ch; have a4 := HA.out.bx.sp; have a5 := HA.out.bx.wt; have a6 := HA.out.bx.er; have b0 := HA.out.by_.n; have b1 := HA.out.by_.p; have b2 := HA.out.by_.r; have b3 := HA.out.by_.ch; have b4 := HA.out.by_.sp; have b5 := HA.out.by_.wt; have b6 := HA.out.by_.er
      go_wp2_with fail
      refine (rdig_any y (.slice pb y.ch.length cb) _ hy (HDV.out.below HA.out.bel)).mono ?_
      rintro r W5 ⟨rfl, hb5⟩
      rw [HY.out.2.1, HY.out.2.2, HKY.out]
      have HA2 := Lib.hid (HA.out.below hb5)
      clear hb5 HA
      clear a0 a1 a2 a3 a4 a5 a6 b0 b1 b2 b3 b4 b5 b6
      have HA := HA2
      clear HA2
      have a0 := HA.out.bx.n; have a1 := HA.out.bx.p; have a2 := HA.out.bx.r; have a3 := HA.out.bx.ch; have a4 := HA.out.bx.sp; have a5 := HA.out.bx.wt; have a6 := HA.out.bx.er; have b0 := HA.out.by_.n; have b1 := HA.out.by_.p; have b2 := HA.out.by_.r; have b3 := HA.out.by_.ch; have b4 := HA.out.by_.sp; have b5 := HA.out.by_.wt; have b6 := HA.out.by_.er
      go_wp2_with fail
      go_ret
      exact ⟨rfl, HA.out.bel⟩
end Go.Proofs.YtjfjbkocopaehaaDoor
