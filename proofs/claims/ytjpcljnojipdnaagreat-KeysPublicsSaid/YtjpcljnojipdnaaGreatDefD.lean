/- params.Modulus, obscuraref12.Modulus; plain values. (Printed by gen_DefD.py.) -/
import Derived.Test.YtjpcljnojipdnaaGreatDefX
import Derived.Test.YtjpcljnojipdnaaGreatKeyW
namespace Go.Proofs.YtjpcljnojipdnaaGreat
open Go.RowKit

theorem bel_then {B : Nat} {a X w : World} (hb : Below X.heap.size X w) (h : Below B a X) (hB : B ≤ X.heap.size) : Below B a w := h.trans (hb.mono hB)
theorem chainOf_mr (s c : Nat) : chainOf mPrime s c = chainOf rPrime s c := by
  unfold chainOf
  exact chainGo_pr fun n hn => prime_eq (by have := Nat.div_mul_le_self 2147483646 s; omega)
theorem defStep_eq (n : Int) (p : Nat) (e : Int) : defStep mPrime n p e = defStep rPrime n p e := by unfold defStep; rw [powv_eq]
theorem defErr_eq (n : Int) (p : Nat) (e lv : Int) : defErr mPrime n p e lv = defErr rPrime n p e lv := by unfold defErr; rw [powv_eq, defStep_eq, chainOf_mr]
theorem defPar_eq (n : Int) (p : Nat) (e lv : Int) : defPar mPrime n p e lv = defPar rPrime n p e lv := by unfold defPar; rw [defErr_eq, defStep_eq, chainOf_mr]

def modB (pr : Nat → Bool) (x : Par) (k : Int) : Bool := okB pr x && (decide (1 ≤ k) && decide (k ≤ x.r))
def modErr (pr : Nat → Bool) (x : Par) (k : Int) : Int := if modB pr x k then 0 else 2
def modVal (pr : Nat → Bool) (x : Par) (k : Int) : Nat := if modB pr x k then powv pr x.n x.p k else 0
theorem modB_eq (x : Par) (k : Int) : modB mPrime x k = modB rPrime x k := by unfold modB; rw [okB_eq]
theorem modErr_eq (x : Par) (k : Int) : modErr mPrime x k = modErr rPrime x k := by unfold modErr; rw [modB_eq]
theorem modVal_eq (x : Par) (k : Int) : modVal mPrime x k = modVal rPrime x k := by unfold modVal; rw [modB_eq, powv_eq]
theorem mod_no {pr : Nat → Bool} {x : Par} {k : Int} (h : modB pr x k = false) : modErr pr x k = 2 ∧ modVal pr x k = 0 := by unfold modErr modVal; rw [h]; exact ⟨rfl, rfl⟩
theorem mod_yes {pr : Nat → Bool} {x : Par} {k : Int} (h : modB pr x k = true) : modErr pr x k = 0 ∧ modVal pr x k = powv pr x.n x.p k := by unfold modErr modVal; rw [h]; exact ⟨rfl, rfl⟩

set_option maxHeartbeats 1000000 in
set_option maxRecDepth 100000 in
theorem pmod_any (x : Par) (cv : Value) (k : Int) (w : World) (hx : ParOk x) (hcv : SliceAt w cv x.ch) :
    Calls Tryz.prog 39 #[x.val cv, .int .i64 k] w fun r w' => r = .returned (.tuple #[.int .i64 (modVal mPrime x k : Nat), .int .i64 (modErr mPrime x k)]) ∧ Below w.heap.size w w' := by
  have hB : Hid (BoxP (w.alloc (.cells #[.int .i64 x.n, .int .u32 x.p, .int .i64 x.r, cv, .int .u32 x.sp, .int .i64 x.wt, .int .u32 x.er] 25)) w.heap.size x cv) := by constructor <;> simp [go_sem]
  have hbW : Hid (Below w.heap.size w (w.alloc (.cells #[.int .i64 x.n, .int .u32 x.p, .int .i64 x.r, cv, .int .u32 x.sp, .int .i64 x.wt, .int .u32 x.er] 25))) := (Below.refl _ _).alloc (Nat.le_refl _) _
  have HS : Hid (SliceAt (w.alloc (.cells #[.int .i64 x.n, .int .u32 x.p, .int .i64 x.r, cv, .int .u32 x.sp, .int .i64 x.wt, .int .u32 x.er] 25)) cv x.ch) := hcv.below hbW.out
  have hlt : w.heap.size < (w.alloc (.cells #[.int .i64 x.n, .int .u32 x.p, .int .i64 x.r, cv, .int .u32 x.sp, .int .i64 x.wt, .int .u32 x.er] 25)).heap.size := by simp
  unfold Par.val
  cases hok : okB mPrime x with
  | false =>
    have HC : Hid (chk mPrime x = 2) := chk_two hok
    have HR : Hid (modErr mPrime x k = 2 ∧ modVal mPrime x k = 0) := mod_no (by unfold modB; rw [hok]; rfl)
    clear hok
    go_enter Tryz.func39, Tryz.ntmps39
    go_wp2_with fail
    refine (pcheck_any x cv _ hx HS.out).mono ?_
    rintro e w1 ⟨rfl, hb1⟩
    have y0 := (hB.out.below hb1 hlt).n; have y1 := (hB.out.below hb1 hlt).p; have y2 := (hB.out.below hb1 hlt).r
    have HB1 := Lib.hid (bel_then hb1 hbW.out (by simp))
    clear hb1
    rw [HC.out]
    go_wp2_with fail
    go_ret2
    exact ⟨by rw [HR.out.1, HR.out.2]; rfl, HB1.out⟩
  | true =>
    have hd := okB_dim hok
    have hn4 := hd.1; have hn32 := hd.2
    have HC : Hid (chk mPrime x = 0) := chk_ok hok
    clear hd
    by_cases h1 : k < 1
    · have HR : Hid (modErr mPrime x k = 2 ∧ modVal mPrime x k = 0) := mod_no (by unfold modB; rw [decide_eq_false (show ¬ 1 ≤ k by omega)]; simp)
      have d1 : decide (k < 1) = true := decide_eq_true h1
      clear hok
      go_enter Tryz.func39, Tryz.ntmps39
      go_wp2_with fail
      refine (pcheck_any x cv _ hx HS.out).mono ?_
      rintro e w1 ⟨rfl, hb1⟩
      have y0 := (hB.out.below hb1 hlt).n; have y1 := (hB.out.below hb1 hlt).p; have y2 := (hB.out.below hb1 hlt).r
      have HB1 := Lib.hid (bel_then hb1 hbW.out (by simp))
      clear hb1
      rw [HC.out]
      go_wp2_with fail
      go_ret2
      exact ⟨by rw [HR.out.1, HR.out.2]; rfl, HB1.out⟩
    · by_cases h2 : x.r < k
      · have HR : Hid (modErr mPrime x k = 2 ∧ modVal mPrime x k = 0) := mod_no (by unfold modB; rw [decide_eq_false (show ¬ k ≤ x.r by omega)]; simp)
        have d1 : decide (k < 1) = false := decide_eq_false h1
        have d2 : decide (x.r < k) = true := decide_eq_true h2
        clear hok
        go_enter Tryz.func39, Tryz.ntmps39
        go_wp2_with fail
        refine (pcheck_any x cv _ hx HS.out).mono ?_
        rintro e w1 ⟨rfl, hb1⟩
        have y0 := (hB.out.below hb1 hlt).n; have y1 := (hB.out.below hb1 hlt).p; have y2 := (hB.out.below hb1 hlt).r
        have HB1 := Lib.hid (bel_then hb1 hbW.out (by simp))
        clear hb1
        rw [HC.out]
        go_wp2_with fail
        go_ret2
        exact ⟨by rw [HR.out.1, HR.out.2]; rfl, HB1.out⟩
      · have HR : Hid (modErr mPrime x k = 0 ∧ modVal mPrime x k = powv mPrime x.n x.p k) := mod_yes (by unfold modB; rw [hok, decide_eq_true (show 1 ≤ k by omega), decide_eq_true (show k ≤ x.r by omega)]; rfl)
        have d1 : decide (k < 1) = false := decide_eq_false h1
        have d2 : decide (x.r < k) = false := decide_eq_false h2
        have hr1 := hx.r1
        have hp1 := hx.p1
        clear hok
        go_enter Tryz.func39, Tryz.ntmps39
        go_wp2_with fail
        refine (pcheck_any x cv _ hx HS.out).mono ?_
        rintro e w1 ⟨rfl, hb1⟩
        have y0 := (hB.out.below hb1 hlt).n; have y1 := (hB.out.below hb1 hlt).p; have y2 := (hB.out.below hb1 hlt).r
        have HB1 := Lib.hid (bel_then hb1 hbW.out (by simp))
        clear hb1
        rw [HC.out]
        go_wp2_with fail
        refine (ppower_any _ _ _ _ hn4 hn32 hp1 (by omega) (by omega)).mono ?_
        rintro e w2 ⟨rfl, hb2⟩
        have HB2 := Lib.hid (HB1.out.trans (hb2.mono HB1.out.size))
        clear hb2
        go_wp2_with fail
        go_ret2
        exact ⟨by rw [HR.out.1, HR.out.2]; rfl, HB2.out⟩

/-! The parameters of shown. -/
def eightP : Par := { n := 8, p := 17, r := 3, ch := [2145998401, 2144976497], sp := 2146941697, wt := 4, er := 2 }
theorem powv_eight : powv rPrime 8 17 3 = 4913 :=
  (powv_yes (k := 3) ⟨by decide, by decide, by rw [rPrimeK_eq _ (by decide)]; decide +kernel, by decide, by decide⟩ rfl (by decide)).trans (by decide)
theorem chainOf_eight : chainOf rPrime 78608 3 = [2146941697, 2145998401, 2144976497] := by
  rw [chainOf_K]
  unfold chainOf
  exact chainF_eq (f := 60) (by decide +kernel)
theorem defErr_eight : defErr mPrime 8 17 3 2 = 0 := by
  rw [defErr_eq]
  unfold defErr defStep
  rw [powv_eight, if_neg (by decide), if_neg]
  show ¬ (2147483647 < 78608 ∨ (chainOf rPrime 78608 3).length < 3)
  rw [chainOf_eight]; decide
theorem defPar_eight : defPar mPrime 8 17 3 2 = eightP := by
  have h := defErr_eight
  rw [defErr_eq] at h
  rw [defPar_eq]
  unfold defPar
  rw [if_pos h]
  unfold defStep
  rw [powv_eight]
  show Par.mk 8 17 3 (chainOf rPrime 78608 3).tail ((chainOf rPrime 78608 3).headD 0) 4 2 = _
  rw [chainOf_eight]; rfl
theorem eightP_ok : ParOk eightP := by constructor <;> decide
theorem okB_eight : okB mPrime eightP = true := by
  have ht : eightP.t rPrime = 4913 := powv_eight
  have h1 : rPrime 2146941697 = true := by rw [rPrimeK_eq _ (by decide)]; decide +kernel
  have h2 : rPrime 2145998401 = true := by rw [rPrimeK_eq _ (by decide)]; decide +kernel
  have h3 : rPrime 2144976497 = true := by rw [rPrimeK_eq _ (by decide)]; decide +kernel
  have g1 : goodS rPrime 78608 2146941697 = true := by unfold goodS; rw [h1]; decide
  have g2 : goodS rPrime 78608 2145998401 = true := by unfold goodS; rw [h2]; decide
  have g3 : goodS rPrime 78608 2144976497 = true := by unfold goodS; rw [h3]; decide
  have hs : stepOf rPrime eightP = 78608 := by unfold stepOf; rw [ht]; rfl
  rw [okB_eq]; unfold okB
  rw [ht, hs, show eightP.sp = 2146941697 from rfl, show eightP.ch = [2145998401, 2144976497] from rfl, g1]
  simp only [List.any_cons, List.any_nil, badB, g2, g3]
  decide
theorem chk_eight : chk mPrime eightP = 0 := chk_ok okB_eight
theorem chk_none : chk mPrime zeroP = 2 := chk_two (by unfold okB; rfl)
theorem zeroP_ok : ParOk zeroP := by constructor <;> decide
theorem mod_eight : modErr mPrime eightP 2 = 0 ∧ modVal mPrime eightP 2 = 289 := by
  have h := mod_yes (pr := mPrime) (x := eightP) (k := 2) (by unfold modB; rw [okB_eight]; rfl)
  refine ⟨h.1, h.2.trans ?_⟩
  rw [powv_eq]
  exact (powv_yes (k := 2) ⟨by decide, by decide, by show rPrime 17 = true; rw [rPrimeK_eq _ (by decide)]; decide +kernel, by decide, by decide⟩ rfl (by decide)).trans (by decide)
theorem defErr_nineteen : defErr mPrime 8 19 1 2 = 2 := by
  unfold defErr
  rw [if_pos]
  exact .inr (.inr (.inr (powv_no (by rintro ⟨_, _, _, h, _⟩; exact absurd h (by decide)))))
theorem powv_big193 : powv rPrime 32 193 3 = 7189057 :=
  (powv_yes (k := 3) ⟨by decide, by decide, by rw [rPrimeK_eq _ (by decide)]; decide +kernel, by decide, by decide⟩ rfl (by decide)).trans (by decide)
theorem defErr_great : defErr mPrime 32 193 3 24 = 4 := by
  rw [defErr_eq]
  unfold defErr defStep
  rw [powv_big193, if_neg (by decide), if_pos]
  refine .inr ?_
  show (chainOf rPrime 460099648 25).length < 25
  have h : chainOf rPrime 460099648 25 = [] := by
    rw [chainOf_K]
    unfold chainOf
    exact chainF_eq (f := 10) (by decide +kernel)
  rw [h]; decide
end Go.Proofs.YtjpcljnojipdnaaGreat
