/- KeysGroup: the walk. (Printed by gen_GrpC.py.) -/
import Derived.Test.YtjfjbkocopaehaaKeyR
import Derived.Test.YtjfjbkocopaehaaGrpB
namespace Go.Proofs.Ytjfjbkocopaehaa
open Go.RowKit

theorem Owned.ofA {w : World} {x : Par} {l : List Int} {pv ps : Option Addr} {ncv ccv csv : Nat} (hcv : SliceAt w (.slice pv ncv ccv) x.ch) (hs : SliceZ .i8 w (.slice ps l.length csv) l) :
    Owned w ((((w.alloc (.cells #[.int .i64 x.n, .int .u32 x.p, .int .i64 x.r, .slice pv ncv ccv, .int .u32 x.sp, .int .i64 x.wt, .int .u32 x.er, .slice ps l.length csv] 36)).alloc (.cells #[.int .i64 x.n, .int .u32 x.p, .int .i64 x.r, .slice pv ncv ccv, .int .u32 x.sp, .int .i64 x.wt, .int .u32 x.er] 25)).alloc (.cells #[.slice ps l.length csv] 28)).drew) x (.slice pv ncv ccv) (.slice ps l.length csv) l (w.heap.size + 1) (w.heap.size + 1 + 1) := by
  have hb : Below w.heap.size w ((((w.alloc (.cells #[.int .i64 x.n, .int .u32 x.p, .int .i64 x.r, .slice pv ncv ccv, .int .u32 x.sp, .int .i64 x.wt, .int .u32 x.er, .slice ps l.length csv] 36)).alloc (.cells #[.int .i64 x.n, .int .u32 x.p, .int .i64 x.r, .slice pv ncv ccv, .int .u32 x.sp, .int .i64 x.wt, .int .u32 x.er] 25)).alloc (.cells #[.slice ps l.length csv] 28)).drew) := ((((Below.refl _ _).alloc (Nat.le_refl _) _).alloc (by simp) _).alloc (by simp <;> omega) _).drew
  exact ⟨by constructor <;> simp [go_sem], by simp [go_sem], hcv.below hb, hs.below hb, hb, by simp <;> omega, by simp <;> omega⟩
theorem Owned.ofB {w : World} {x : Par} {l : List Int} {pv ps : Option Addr} {ncv ccv csv : Nat} (hcv : SliceAt w (.slice pv ncv ccv) x.ch) (hs : SliceZ .i8 w (.slice ps l.length csv) l) :
    Owned w ((((w.alloc (.cells #[.int .i64 x.n, .int .u32 x.p, .int .i64 x.r, .slice pv ncv ccv, .int .u32 x.sp, .int .i64 x.wt, .int .u32 x.er, .slice ps l.length csv] 36)).alloc (.cells #[.slice ps l.length csv] 28)).alloc (.cells #[.int .i64 x.n, .int .u32 x.p, .int .i64 x.r, .slice pv ncv ccv, .int .u32 x.sp, .int .i64 x.wt, .int .u32 x.er] 25)).drew) x (.slice pv ncv ccv) (.slice ps l.length csv) l (w.heap.size + 1 + 1) (w.heap.size + 1) := by
  have hb : Below w.heap.size w ((((w.alloc (.cells #[.int .i64 x.n, .int .u32 x.p, .int .i64 x.r, .slice pv ncv ccv, .int .u32 x.sp, .int .i64 x.wt, .int .u32 x.er, .slice ps l.length csv] 36)).alloc (.cells #[.slice ps l.length csv] 28)).alloc (.cells #[.int .i64 x.n, .int .u32 x.p, .int .i64 x.r, .slice pv ncv ccv, .int .u32 x.sp, .int .i64 x.wt, .int .u32 x.er] 25)).drew) := ((((Below.refl _ _).alloc (Nat.le_refl _) _).alloc (by simp) _).alloc (by simp <;> omega) _).drew
  exact ⟨by constructor <;> simp [go_sem], by simp [go_sem], hcv.below hb, hs.below hb, hb, by simp <;> omega, by simp <;> omega⟩

set_option maxHeartbeats 4000000 in
set_option maxRecDepth 100000 in
theorem kgroup_long (x : Par) (cv sv : Value) (l : List Int) (a b : Int) (w : World) (_hx : ParOk x) (hcv : SliceAt w cv x.ch) (hs : SliceZ .i8 w sv l) (hbig : 200 < l.length) :
    Calls Try.prog 4 #[.agg #[.int .i64 x.n, .int .u32 x.p, .int .i64 x.r, cv, .int .u32 x.sp, .int .i64 x.wt, .int .u32 x.er, sv], .int .i64 a, .int .i64 b] w fun r w' => r = .returned (.bool true) ∧ Below w.heap.size w w' := by
  obtain ⟨pv, ncv, ccv, rfl⟩ : ∃ pa na ca, cv = .slice pa na ca := by obtain ⟨p, c, e, _⟩ := hcv; exact ⟨p, _, c, e⟩
  obtain ⟨ps, csv, rfl⟩ : ∃ pa ca, sv = .slice pa l.length ca := by obtain ⟨p, c, e, _⟩ := hs; exact ⟨p, c, e⟩
  have HA := Lib.hid (Owned.ofA hcv hs)
  have HB := Lib.hid (Owned.ofB hcv hs)
  clear hcv hs
  go_enter Try.func4, Try.ntmps4
  go_wp2_with fail
  go_region_held3 (fun w' => w'.cell? ⟨w.heap.size, 0, none⟩ = some (.int .i64 x.n) ∧ w'.cell? ⟨w.heap.size, 1, none⟩ = some (.int .u32 x.p) ∧ w'.cell? ⟨w.heap.size, 2, none⟩ = some (.int .i64 x.r) ∧ w'.cell? ⟨w.heap.size, 3, none⟩ = some (.slice pv ncv ccv) ∧ w'.cell? ⟨w.heap.size, 4, none⟩ = some (.int .u32 x.sp) ∧ w'.cell? ⟨w.heap.size, 5, none⟩ = some (.int .i64 x.wt) ∧ w'.cell? ⟨w.heap.size, 6, none⟩ = some (.int .u32 x.er) ∧ w'.cell? ⟨w.heap.size, 7, none⟩ = some (.slice ps l.length csv)) (go_keep) (fail)
  all_goals
    first
      | ((with_reducible show Exit.then _ _ Exit.normal _ ((((w.alloc (.cells #[.int .i64 x.n, .int .u32 x.p, .int .i64 x.r, .slice pv ncv ccv, .int .u32 x.sp, .int .i64 x.wt, .int .u32 x.er, .slice ps l.length csv] 36)).alloc (.cells #[.int .i64 x.n, .int .u32 x.p, .int .i64 x.r, .slice pv ncv ccv, .int .u32 x.sp, .int .i64 x.wt, .int .u32 x.er] 25)).alloc (.cells #[.slice ps l.length csv] 28)).drew)); have HO := HA.out; generalize ((((w.alloc (.cells #[.int .i64 x.n, .int .u32 x.p, .int .i64 x.r, .slice pv ncv ccv, .int .u32 x.sp, .int .i64 x.wt, .int .u32 x.er, .slice ps l.length csv] 36)).alloc (.cells #[.int .i64 x.n, .int .u32 x.p, .int .i64 x.r, .slice pv ncv ccv, .int .u32 x.sp, .int .i64 x.wt, .int .u32 x.er] 25)).alloc (.cells #[.slice ps l.length csv] 28)).drew) = Z at HO ⊢; generalize w.heap.size + 1 + 1 = gs at HO ⊢; generalize w.heap.size + 1 = gp at HO ⊢)
      | ((with_reducible show Exit.then _ _ Exit.normal _ ((((w.alloc (.cells #[.int .i64 x.n, .int .u32 x.p, .int .i64 x.r, .slice pv ncv ccv, .int .u32 x.sp, .int .i64 x.wt, .int .u32 x.er, .slice ps l.length csv] 36)).alloc (.cells #[.slice ps l.length csv] 28)).alloc (.cells #[.int .i64 x.n, .int .u32 x.p, .int .i64 x.r, .slice pv ncv ccv, .int .u32 x.sp, .int .i64 x.wt, .int .u32 x.er] 25)).drew)); have HO := HB.out; generalize ((((w.alloc (.cells #[.int .i64 x.n, .int .u32 x.p, .int .i64 x.r, .slice pv ncv ccv, .int .u32 x.sp, .int .i64 x.wt, .int .u32 x.er, .slice ps l.length csv] 36)).alloc (.cells #[.slice ps l.length csv] 28)).alloc (.cells #[.int .i64 x.n, .int .u32 x.p, .int .i64 x.r, .slice pv ncv ccv, .int .u32 x.sp, .int .i64 x.wt, .int .u32 x.er] 25)).drew) = Z at HO ⊢; generalize w.heap.size + 1 + 1 = gp at HO ⊢; generalize w.heap.size + 1 = gs at HO ⊢)
    clear HA HB
    have y0 := HO.box.n; have y1 := HO.box.p; have y2 := HO.box.r; have y3 := HO.box.ch; have y4 := HO.box.sp; have y5 := HO.box.wt; have y6 := HO.box.er; have ys := HO.cs
    have HZ := Lib.hid HO
    clear HO
    go_wp2_with fail
    refine (awake_any _).mono ?_
    rintro e w1 ⟨rfl, hb1⟩
    have HB1 := Lib.hid (below_then hb1 HZ.out.bel HZ.out.bel.size)
    clear hb1
    go_wp2_with fail
    go_ret
    exact ⟨rfl, HB1.out⟩

set_option maxHeartbeats 4000000 in
set_option maxRecDepth 100000 in
theorem kgroup_bad (x : Par) (cv sv : Value) (l : List Int) (a b : Int) (w : World) (hx : ParOk x) (hcv : SliceAt w cv x.ch) (hs : SliceZ .i8 w sv l) (hbig : l.length ≤ 200) (hbad : chk rPrime x = 2) :
    Calls Try.prog 4 #[.agg #[.int .i64 x.n, .int .u32 x.p, .int .i64 x.r, cv, .int .u32 x.sp, .int .i64 x.wt, .int .u32 x.er, sv], .int .i64 a, .int .i64 b] w fun r w' => r = .returned (.bool true) ∧ Below w.heap.size w w' := by
  have HC := Lib.hid hbad
  clear hbad
  obtain ⟨pv, ncv, ccv, rfl⟩ : ∃ pa na ca, cv = .slice pa na ca := by obtain ⟨p, c, e, _⟩ := hcv; exact ⟨p, _, c, e⟩
  obtain ⟨ps, csv, rfl⟩ : ∃ pa ca, sv = .slice pa l.length ca := by obtain ⟨p, c, e, _⟩ := hs; exact ⟨p, c, e⟩
  have HA := Lib.hid (Owned.ofA hcv hs)
  have HB := Lib.hid (Owned.ofB hcv hs)
  clear hcv hs
  go_enter Try.func4, Try.ntmps4
  go_wp2_with fail
  go_region_held3 (fun w' => w'.cell? ⟨w.heap.size, 0, none⟩ = some (.int .i64 x.n) ∧ w'.cell? ⟨w.heap.size, 1, none⟩ = some (.int .u32 x.p) ∧ w'.cell? ⟨w.heap.size, 2, none⟩ = some (.int .i64 x.r) ∧ w'.cell? ⟨w.heap.size, 3, none⟩ = some (.slice pv ncv ccv) ∧ w'.cell? ⟨w.heap.size, 4, none⟩ = some (.int .u32 x.sp) ∧ w'.cell? ⟨w.heap.size, 5, none⟩ = some (.int .i64 x.wt) ∧ w'.cell? ⟨w.heap.size, 6, none⟩ = some (.int .u32 x.er) ∧ w'.cell? ⟨w.heap.size, 7, none⟩ = some (.slice ps l.length csv)) (go_keep) (fail)
  all_goals
    first
      | ((with_reducible show Exit.then _ _ Exit.normal _ ((((w.alloc (.cells #[.int .i64 x.n, .int .u32 x.p, .int .i64 x.r, .slice pv ncv ccv, .int .u32 x.sp, .int .i64 x.wt, .int .u32 x.er, .slice ps l.length csv] 36)).alloc (.cells #[.int .i64 x.n, .int .u32 x.p, .int .i64 x.r, .slice pv ncv ccv, .int .u32 x.sp, .int .i64 x.wt, .int .u32 x.er] 25)).alloc (.cells #[.slice ps l.length csv] 28)).drew)); have HO := HA.out; generalize ((((w.alloc (.cells #[.int .i64 x.n, .int .u32 x.p, .int .i64 x.r, .slice pv ncv ccv, .int .u32 x.sp, .int .i64 x.wt, .int .u32 x.er, .slice ps l.length csv] 36)).alloc (.cells #[.int .i64 x.n, .int .u32 x.p, .int .i64 x.r, .slice pv ncv ccv, .int .u32 x.sp, .int .i64 x.wt, .int .u32 x.er] 25)).alloc (.cells #[.slice ps l.length csv] 28)).drew) = Z at HO ⊢; generalize w.heap.size + 1 + 1 = gs at HO ⊢; generalize w.heap.size + 1 = gp at HO ⊢)
      | ((with_reducible show Exit.then _ _ Exit.normal _ ((((w.alloc (.cells #[.int .i64 x.n, .int .u32 x.p, .int .i64 x.r, .slice pv ncv ccv, .int .u32 x.sp, .int .i64 x.wt, .int .u32 x.er, .slice ps l.length csv] 36)).alloc (.cells #[.slice ps l.length csv] 28)).alloc (.cells #[.int .i64 x.n, .int .u32 x.p, .int .i64 x.r, .slice pv ncv ccv, .int .u32 x.sp, .int .i64 x.wt, .int .u32 x.er] 25)).drew)); have HO := HB.out; generalize ((((w.alloc (.cells #[.int .i64 x.n, .int .u32 x.p, .int .i64 x.r, .slice pv ncv ccv, .int .u32 x.sp, .int .i64 x.wt, .int .u32 x.er, .slice ps l.length csv] 36)).alloc (.cells #[.slice ps l.length csv] 28)).alloc (.cells #[.int .i64 x.n, .int .u32 x.p, .int .i64 x.r, .slice pv ncv ccv, .int .u32 x.sp, .int .i64 x.wt, .int .u32 x.er] 25)).drew) = Z at HO ⊢; generalize w.heap.size + 1 + 1 = gp at HO ⊢; generalize w.heap.size + 1 = gs at HO ⊢)
    clear HA HB
    have y0 := HO.box.n; have y1 := HO.box.p; have y2 := HO.box.r; have y3 := HO.box.ch; have y4 := HO.box.sp; have y5 := HO.box.wt; have y6 := HO.box.er; have ys := HO.cs
    have HZ := Lib.hid HO
    clear HO
    go_wp2_with fail
    refine (rcheck_any x _ _ hx HZ.out.sl).mono ?_
    rintro e w0 ⟨rfl, hb0⟩
    rw [HC.out]
    have HB0 := Lib.hid (below_then hb0 HZ.out.bel HZ.out.bel.size)
    clear hb0 y0 y1 y2 y3 y4 y5 y6 ys HZ
    go_wp2_with fail
    refine (awake_any _).mono ?_
    rintro e w1 ⟨rfl, hb1⟩
    have HB1 := Lib.hid (below_then hb1 HB0.out HB0.out.size)
    clear hb1
    go_wp2_with fail
    go_ret
    exact ⟨rfl, HB1.out⟩

set_option maxHeartbeats 4000000 in
set_option maxRecDepth 100000 in
theorem kgroup_sec (x : Par) (cv sv : Value) (l : List Int) (a b : Int) (w : World) (hx : ParOk x) (hcv : SliceAt w cv x.ch) (hs : SliceZ .i8 w sv l) (hbig : l.length ≤ 200) (hok : chk rPrime x = 0) (hbad : csec mPrime x l = 2) :
    Calls Try.prog 4 #[.agg #[.int .i64 x.n, .int .u32 x.p, .int .i64 x.r, cv, .int .u32 x.sp, .int .i64 x.wt, .int .u32 x.er, sv], .int .i64 a, .int .i64 b] w fun r w' => r = .returned (.bool true) ∧ Below w.heap.size w w' := by
  have HC := Lib.hid hok
  have HS := Lib.hid hbad
  have hlen : l.length ≤ 140737488351232 := by omega
  clear hok hbad
  obtain ⟨pv, ncv, ccv, rfl⟩ : ∃ pa na ca, cv = .slice pa na ca := by obtain ⟨p, c, e, _⟩ := hcv; exact ⟨p, _, c, e⟩
  obtain ⟨ps, csv, rfl⟩ : ∃ pa ca, sv = .slice pa l.length ca := by obtain ⟨p, c, e, _⟩ := hs; exact ⟨p, c, e⟩
  have HA := Lib.hid (Owned.ofA hcv hs)
  have HB := Lib.hid (Owned.ofB hcv hs)
  clear hcv hs
  go_enter Try.func4, Try.ntmps4
  go_wp2_with fail
  go_region_held3 (fun w' => w'.cell? ⟨w.heap.size, 0, none⟩ = some (.int .i64 x.n) ∧ w'.cell? ⟨w.heap.size, 1, none⟩ = some (.int .u32 x.p) ∧ w'.cell? ⟨w.heap.size, 2, none⟩ = some (.int .i64 x.r) ∧ w'.cell? ⟨w.heap.size, 3, none⟩ = some (.slice pv ncv ccv) ∧ w'.cell? ⟨w.heap.size, 4, none⟩ = some (.int .u32 x.sp) ∧ w'.cell? ⟨w.heap.size, 5, none⟩ = some (.int .i64 x.wt) ∧ w'.cell? ⟨w.heap.size, 6, none⟩ = some (.int .u32 x.er) ∧ w'.cell? ⟨w.heap.size, 7, none⟩ = some (.slice ps l.length csv)) (go_keep) (fail)
  all_goals
    first
      | ((with_reducible show Exit.then _ _ Exit.normal _ ((((w.alloc (.cells #[.int .i64 x.n, .int .u32 x.p, .int .i64 x.r, .slice pv ncv ccv, .int .u32 x.sp, .int .i64 x.wt, .int .u32 x.er, .slice ps l.length csv] 36)).alloc (.cells #[.int .i64 x.n, .int .u32 x.p, .int .i64 x.r, .slice pv ncv ccv, .int .u32 x.sp, .int .i64 x.wt, .int .u32 x.er] 25)).alloc (.cells #[.slice ps l.length csv] 28)).drew)); have HO := HA.out; generalize ((((w.alloc (.cells #[.int .i64 x.n, .int .u32 x.p, .int .i64 x.r, .slice pv ncv ccv, .int .u32 x.sp, .int .i64 x.wt, .int .u32 x.er, .slice ps l.length csv] 36)).alloc (.cells #[.int .i64 x.n, .int .u32 x.p, .int .i64 x.r, .slice pv ncv ccv, .int .u32 x.sp, .int .i64 x.wt, .int .u32 x.er] 25)).alloc (.cells #[.slice ps l.length csv] 28)).drew) = Z at HO ⊢; generalize w.heap.size + 1 + 1 = gs at HO ⊢; generalize w.heap.size + 1 = gp at HO ⊢)
      | ((with_reducible show Exit.then _ _ Exit.normal _ ((((w.alloc (.cells #[.int .i64 x.n, .int .u32 x.p, .int .i64 x.r, .slice pv ncv ccv, .int .u32 x.sp, .int .i64 x.wt, .int .u32 x.er, .slice ps l.length csv] 36)).alloc (.cells #[.slice ps l.length csv] 28)).alloc (.cells #[.int .i64 x.n, .int .u32 x.p, .int .i64 x.r, .slice pv ncv ccv, .int .u32 x.sp, .int .i64 x.wt, .int .u32 x.er] 25)).drew)); have HO := HB.out; generalize ((((w.alloc (.cells #[.int .i64 x.n, .int .u32 x.p, .int .i64 x.r, .slice pv ncv ccv, .int .u32 x.sp, .int .i64 x.wt, .int .u32 x.er, .slice ps l.length csv] 36)).alloc (.cells #[.slice ps l.length csv] 28)).alloc (.cells #[.int .i64 x.n, .int .u32 x.p, .int .i64 x.r, .slice pv ncv ccv, .int .u32 x.sp, .int .i64 x.wt, .int .u32 x.er] 25)).drew) = Z at HO ⊢; generalize w.heap.size + 1 + 1 = gp at HO ⊢; generalize w.heap.size + 1 = gs at HO ⊢)
    clear HA HB
    have y0 := HO.box.n; have y1 := HO.box.p; have y2 := HO.box.r; have y3 := HO.box.ch; have y4 := HO.box.sp; have y5 := HO.box.wt; have y6 := HO.box.er; have ys := HO.cs
    have HZ := Lib.hid HO
    clear HO
    go_wp2_with fail
    refine (rcheck_any x _ _ hx HZ.out.sl).mono ?_
    rintro e w0 ⟨rfl, hb0⟩
    rw [HC.out]
    have HO0 := Lib.hid (HZ.out.below hb0)
    clear hb0 y0 y1 y2 y3 y4 y5 y6 ys HZ
    have y0 := HO0.out.box.n; have y1 := HO0.out.box.p; have y2 := HO0.out.box.r; have y3 := HO0.out.box.ch; have y4 := HO0.out.box.sp; have y5 := HO0.out.box.wt; have y6 := HO0.out.box.er; have ys := HO0.out.cs
    go_wp2_with fail
    refine (csecret_any x _ _ l _ hx HO0.out.sl HO0.out.sz hlen).mono ?_
    rintro e w1 ⟨rfl, hb1⟩
    rw [HS.out]
    have HO1 := Lib.hid (HO0.out.below hb1)
    clear hb1 y0 y1 y2 y3 y4 y5 y6 ys HO0
    go_wp2_with fail
    refine (awake_any _).mono ?_
    rintro e w2 ⟨rfl, hb2⟩
    have HB2 := Lib.hid (below_then hb2 HO1.out.bel HO1.out.bel.size)
    clear hb2
    go_wp2_with fail
    go_ret
    exact ⟨rfl, HB2.out⟩
end Go.Proofs.Ytjfjbkocopaehaa
