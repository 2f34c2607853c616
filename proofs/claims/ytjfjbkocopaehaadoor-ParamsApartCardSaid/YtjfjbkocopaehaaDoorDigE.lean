/- ParamsDigests: the walk. -/
import Derived.Test.YtjfjbkocopaehaaDoorDigD
namespace Go.Proofs.YtjfjbkocopaehaaDoor
open Go.RowKit
set_option linter.unusedVariables false

theorem dig_same (x : Par) : digS rPrime x = digS mPrime x ∧ chk rPrime x = chk mPrime x := ⟨(digS_eq x).symm, by unfold chk; rw [okB_eq]⟩
set_option maxHeartbeats 4000000 in
set_option maxRecDepth 100000 in
theorem pdigests_any (x : Par) (cv : Value) (w : World) (hx : ParOk x) (hcv : SliceAt w cv x.ch) (ht : Tab w) :
    Calls Tryd.prog 3 #[x.val cv] w fun r w' => r = .returned (.bool true) ∧ Below w.heap.size w w' := by
  have hbW : Below w.heap.size w (w.alloc (.cells #[.int .i64 x.n, .int .u32 x.p, .int .i64 x.r, cv, .int .u32 x.sp, .int .i64 x.wt, .int .u32 x.er] 25)) := (Below.refl _ _).alloc (Nat.le_refl _) _
  have HD0 : Hid (RdB w (w.alloc (.cells #[.int .i64 x.n, .int .u32 x.p, .int .i64 x.r, cv, .int .u32 x.sp, .int .i64 x.wt, .int .u32 x.er] 25)) x cv) := ⟨by constructor <;> simp [go_sem], hbW, by simp⟩
  obtain ⟨pa, cap, rfl⟩ := sliceAt_shape hcv
  have HCV := Lib.hid hcv; have HT := Lib.hid ht
  obtain ⟨S, hS⟩ : ∃ S, digS mPrime x = S := ⟨_, rfl⟩
  obtain ⟨k, hk⟩ : ∃ k, chk mPrime x = k := ⟨_, rfl⟩
  have HE : Hid ((digS mPrime x = S ∧ chk mPrime x = k) ∧ (digS rPrime x = S ∧ chk rPrime x = k)) := ⟨⟨hS, hk⟩, by rw [(dig_same x).1, (dig_same x).2]; exact ⟨hS, hk⟩⟩
  clear hbW hcv ht hS hk
  unfold Par.val
  go_enter Tryd.func3, Tryd.ntmps3
  go_wp2_with fail
  refine (shown_any _).mono ?_
  rintro r w1 ⟨rfl, hb1⟩
  have HD1 := Lib.hid (HD0.out.below hb1)
  clear hb1 HD0
  have y0 := HD1.out.box.n; have y1 := HD1.out.box.p; have y2 := HD1.out.box.r; have y3 := HD1.out.box.ch; have y4 := HD1.out.box.sp; have y5 := HD1.out.box.wt; have y6 := HD1.out.box.er
  by_cases hlen : 100 < x.ch.length
  · have d1 : decide ((100 : Int) < (x.ch.length : Int)) = true := decide_eq_true (by omega)
    go_wp2_with fail
    go_ret
    exact ⟨rfl, HD1.out.bel⟩
  · have d1 : decide ((100 : Int) < (x.ch.length : Int)) = false := decide_eq_false (by omega)
    go_wp2_with fail
    refine (pdig_any x (.slice pa x.ch.length cap) _ hx (HCV.out.below HD1.out.bel) (HT.out.below HD1.out.bel)).mono ?_
    rintro r w2 ⟨rfl, hb2⟩
    rw [HE.out.1.1, HE.out.1.2]
    have HD2 := Lib.hid (HD1.out.below hb2)
    clear hb2 HD1 y0 y1 y2 y3 y4 y5 y6
    have y0 := HD2.out.box.n; have y1 := HD2.out.box.p; have y2 := HD2.out.box.r; have y3 := HD2.out.box.ch; have y4 := HD2.out.box.sp; have y5 := HD2.out.box.wt; have y6 := HD2.out.box.er
    go_wp2_with fail
    refine (rdig_any x (.slice pa x.ch.length cap) _ hx (HCV.out.below HD2.out.bel)).mono ?_
    rintro r w3 ⟨rfl, hb3⟩
    rw [HE.out.2.1, HE.out.2.2]
    have HD3 := Lib.hid (HD2.out.below hb3)
    clear hb3 HD2 y0 y1 y2 y3 y4 y5 y6
    go_wp2_with fail
    go_ret
    exact ⟨rfl, HD3.out.bel⟩
end Go.Proofs.YtjfjbkocopaehaaDoor
