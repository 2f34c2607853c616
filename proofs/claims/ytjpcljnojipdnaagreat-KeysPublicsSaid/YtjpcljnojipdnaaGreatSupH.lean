/- keys.NewSecret; obscuraref13.NewSecret. (Printed by gen_SupH.py.) -/
import Derived.Test.YtjpcljnojipdnaaGreatSupG
import Derived.Test.YtjpcljnojipdnaaGreatKeyR
namespace Go.Proofs.YtjpcljnojipdnaaGreat
open Go.RowKit
set_option linter.unusedVariables false

def secOut (pr : Nat → Bool) (x : Par) (s : ByteArray) (a : Nat) : Int × List Int × Nat := if okB pr x then terOut s x.n.toNat x.wt.toNat a else (2, [], a)
theorem secOut_eq (x : Par) (s : ByteArray) (a : Nat) : secOut mPrime x s a = secOut rPrime x s a := by unfold secOut; rw [okB_eq]
theorem secOut_no {pr : Nat → Bool} {x : Par} {s : ByteArray} {a : Nat} (h : okB pr x = false) : secOut pr x s a = (2, [], a) := by unfold secOut; rw [h]; rfl
theorem secOut_yes {pr : Nat → Bool} {x : Par} {s : ByteArray} {a n h : Nat} (ho : okB pr x = true) (hn : x.n = n) (hh : x.wt = h) : secOut pr x s a = terOut s n h a := by unfold secOut; rw [ho, hn, hh]; rfl
theorem okB_wt {pr : Nat → Bool} {x : Par} (h : okB pr x = true) : 1 ≤ x.wt ∧ x.wt ≤ x.n := by
  unfold okB at h
  simp only [Bool.and_eq_true] at h
  have h2 := h.2.2.2.1
  unfold wtB at h2
  rw [decide_eq_true_eq] at h2
  omega
theorem gr_below {w W : World} (h : Below w.heap.size w W) (g : Nat) : w.grownBy W (some g) := ⟨h.os, h.tape, h.output, h.size, fun k hk _ => h.block k hk⟩
theorem gr_next {w W W' : World} {g : Nat} (h : Below w.heap.size w W) (hg : W.grownBy W' (some g)) : w.grownBy W' (some g) := gr_trans (gr_below h g) hg
theorem gr_setNew {w W : World} {g b : Nat} (h : w.grownBy W (some g)) (hb : w.heap.size ≤ b) (i : Nat) (u : Value) : w.grownBy (W.setCell ⟨b, i, none⟩ u) (some g) :=
  ⟨h.os, h.tape, h.output, by simpa using h.size, fun k hk hne => (Below.heap_setCell W ⟨b, i, none⟩ u k (by show k ≠ b; omega)).trans (h.block k hk hne)⟩
theorem gr_frozen {a b : World} {g : Nat} (h : a.grownBy b (some g)) {k i : Nat} (hk : k < a.heap.size) (hne : k ≠ g) : b.frozen? ⟨k, i, none⟩ = a.frozen? ⟨k, i, none⟩ :=
  World.frozen?_of_block (a := ⟨k, i, none⟩) (h.block k hk (by simpa using hne))
theorem Sup.setNew {W : World} {g b : Nat} {s : ByteArray} {a : Nat} (h : SupB W g s a) (hne : b ≠ g) (u : Value) : SupB (W.setCell ⟨b, 0, none⟩ u) g s a := by
  have ne : ∀ j, (W.setCell ⟨b, 0, none⟩ u).cell? ⟨g, j, none⟩ = W.cell? ⟨g, j, none⟩ := fun j => World.cell?_setCell_other _ _ _ _ (by intro e; injection e with e; exact hne e)
  exact ⟨(ne _).trans h.c0, (ne _).trans h.c1, (ne _).trans h.c2, by simpa using h.fz⟩
theorem SupR.setNew {W : World} {g b : Nat} {s : ByteArray} {a : Nat} (h : SupR W g s a) (hne : b ≠ g) (u : Value) : SupR (W.setCell ⟨b, 0, none⟩ u) g s a := by
  have ne : ∀ j, (W.setCell ⟨b, 0, none⟩ u).cell? ⟨g, j, none⟩ = W.cell? ⟨g, j, none⟩ := fun j => World.cell?_setCell_other _ _ _ _ (by intro e; injection e with e; exact hne e)
  exact ⟨(ne _).trans h.c0, (ne _).trans h.c1, by simpa using h.fz⟩

set_option maxHeartbeats 2000000 in
set_option maxRecDepth 100000 in
theorem knewsec_any (x : Par) (cv : Value) (s : ByteArray) (g a : Nat) (w : World) (hxo : ParOk x) (hcv : SliceAt w cv x.ch) (hsup : SupB w g s a) (ha : a ≤ 8 * s.size) (hs : s.size ≤ 1048576) :
    Calls Tryz.prog 27 #[x.val cv, .pointer (some ⟨g, 0, none⟩)] w fun e w' => ∃ v, e = .returned (.tuple #[.agg #[v], .int .i64 (secOut mPrime x s a).1]) ∧ SliceZ .i8 w' v (secOut mPrime x s a).2.1 ∧ SupB w' g s (secOut mPrime x s a).2.2 ∧ w.grownBy w' (some g) ∧ ∀ q, v.ownBlock = some q → w.heap.size ≤ q := by
  have hgw : g < w.heap.size := World.block_lt_of_cell? w ⟨g, 0, none⟩ hsup.c0
  obtain ⟨pc, ncv, ccv, rfl⟩ : ∃ pa na ca, cv = .slice pa na ca := by obtain ⟨p, c, e, _⟩ := hcv; exact ⟨p, _, c, e⟩
  have hbW : Below w.heap.size w ((w.alloc (.cells #[.int .i64 x.n, .int .u32 x.p, .int .i64 x.r, .slice pc ncv ccv, .int .u32 x.sp, .int .i64 x.wt, .int .u32 x.er] 25)).alloc (.cells #[.slice none 0 0] 28)) := ((Below.refl _ _).alloc (Nat.le_refl _) _).alloc (by simp) _
  have hB : BoxP ((w.alloc (.cells #[.int .i64 x.n, .int .u32 x.p, .int .i64 x.r, .slice pc ncv ccv, .int .u32 x.sp, .int .i64 x.wt, .int .u32 x.er] 25)).alloc (.cells #[.slice none 0 0] 28)) w.heap.size x (.slice pc ncv ccv) := by constructor <;> simp [go_sem]
  have hR : ((w.alloc (.cells #[.int .i64 x.n, .int .u32 x.p, .int .i64 x.r, .slice pc ncv ccv, .int .u32 x.sp, .int .i64 x.wt, .int .u32 x.er] 25)).alloc (.cells #[.slice none 0 0] 28)).cell? ⟨w.heap.size + 1, 0, none⟩ = some (.slice none 0 0) := by simp [go_sem]
  have hF : ((w.alloc (.cells #[.int .i64 x.n, .int .u32 x.p, .int .i64 x.r, .slice pc ncv ccv, .int .u32 x.sp, .int .i64 x.wt, .int .u32 x.er] 25)).alloc (.cells #[.slice none 0 0] 28)).frozen? ⟨w.heap.size + 1, 0, none⟩ = false := by simp [go_sem]
  have hsz : w.heap.size + 1 + 1 ≤ ((w.alloc (.cells #[.int .i64 x.n, .int .u32 x.p, .int .i64 x.r, .slice pc ncv ccv, .int .u32 x.sp, .int .i64 x.wt, .int .u32 x.er] 25)).alloc (.cells #[.slice none 0 0] 28)).heap.size := by simp
  have HSL := Lib.hid (hcv.below hbW)
  have HSU := Lib.hid (sup_below hsup hbW)
  have HBW := Lib.hid hbW
  have HB := Lib.hid hB; have HR := Lib.hid hR; have HF := Lib.hid hF
  have HXO := Lib.hid hxo
  clear hbW hB hR hF hxo hcv hsup
  unfold Par.val
  cases hok : okB mPrime x with
  | false =>
    have HO : Hid (secOut mPrime x s a = (2, [], a)) := secOut_no hok
    have HC := Lib.hid (chk_two hok)
    clear hok
    go_enter Tryz.func27, Tryz.ntmps27
    go_wp2_with fail
    refine (pcheck_any x _ _ HXO.out HSL.out).mono ?_
    rintro e w1 ⟨rfl, hb1⟩
    rw [HC.out]
    have r1 := (below_at hb1 (show w.heap.size + 1 < _ by omega)).trans HR.out
    have f1 := (hb1.frozen (p := ⟨w.heap.size + 1, 0, none⟩) (show w.heap.size + 1 < _ by omega)).trans HF.out
    have HSU1 := Lib.hid (sup_below HSU.out hb1)
    have HBW1 := Lib.hid (HBW.out.trans (hb1.mono HBW.out.size))
    clear hb1
    go_wp2_with fail
    refine bodyPost_ret (v := .tuple #[.agg #[.slice none 0 0], .int .i64 2]) (by simp [results, Tryz.results27, go_sem, r1]) rfl ⟨.slice none 0 0, by rw [HO.out], ?_, ?_, gr_setNew (gr_below HBW1.out g) (by omega) _ _, by intro q hq; simp [Value.ownBlock] at hq⟩
    · rw [HO.out]; exact SliceZ.nil _ _
    · rw [HO.out]; exact Sup.setNew HSU1.out (by omega) _
  | true =>
    have hd := okB_dim hok
    have hw := okB_wt hok
    obtain ⟨N, hN⟩ : ∃ N : Nat, x.n = N := ⟨x.n.toNat, by omega⟩
    obtain ⟨h, hH⟩ : ∃ h : Nat, x.wt = h := ⟨x.wt.toNat, by omega⟩
    have hN4 : 4 ≤ N := by omega
    have hN32 : N ≤ 32 := by omega
    have hhN : h ≤ N := by omega
    have HO : Hid (secOut mPrime x s a = terOut s N h a) := secOut_yes hok hN hH
    have HC := Lib.hid (chk_ok hok)
    have HN := Lib.hid hN
    have HH := Lib.hid hH
    clear hok hd hw hN hH
    go_enter Tryz.func27, Tryz.ntmps27
    go_wp2_with fail
    refine (pcheck_any x _ _ HXO.out HSL.out).mono ?_
    rintro e w1 ⟨rfl, hb1⟩
    rw [HC.out]
    have r1 := (below_at hb1 (show w.heap.size + 1 < _ by omega)).trans HR.out
    have f1 := (hb1.frozen (p := ⟨w.heap.size + 1, 0, none⟩) (show w.heap.size + 1 < _ by omega)).trans HF.out
    have HSU1 := Lib.hid (sup_below HSU.out hb1)
    have HBW1 := Lib.hid (HBW.out.trans (hb1.mono HBW.out.size))
    have HB1 := HB.out.below hb1 (by omega)
    have y0 := HB1.n
    have y5 := HB1.wt
    rw [HN.out] at y0
    rw [HH.out] at y5
    have hs1 : w.heap.size + 1 + 1 ≤ w1.heap.size := Nat.le_trans hsz hb1.size
    have R1 := Lib.hid r1
    have F1 := Lib.hid f1
    clear hb1 HB1 r1 f1 hsz
    go_wp2_with fail
    refine (ternary_any s g N h a _ HSU1.out (by omega) hN32 hhN ha hs).mono ?_
    rintro e w2 ⟨v, rfl, hv, hsu, hgr, hown⟩
    have r2 := (gr_cell hgr (show w.heap.size + 1 < w1.heap.size by omega) (by omega)).trans R1.out
    have f2 := (gr_frozen hgr (i := 0) (show w.heap.size + 1 < w1.heap.size by omega) (by omega)).trans F1.out
    have hs2 := Nat.le_trans hs1 hgr.size
    have HG2 := Lib.hid (gr_next HBW1.out hgr)
    have HV := Lib.hid hv
    have HU := Lib.hid hsu
    obtain ⟨pv, nv, cw, rfl⟩ : ∃ pa na ca, v = .slice pa na ca := by obtain ⟨p, c, e, _⟩ := hv; exact ⟨p, _, c, e⟩
    have HOWN := Lib.hid hown
    clear hv hsu hgr y0 y5 hown
    have hk : (terOut s N h a).1 = 0 ∨ (terOut s N h a).1 = 4 ∧ (terOut s N h a).2.1 = [] := by unfold terOut; split <;> simp
    rcases hk with hk | ⟨hk, hl⟩
    · have HK := Lib.hid hk
      rw [hk]
      clear hk
      go_wp2_with fail
      refine bodyPost_ret (v := .tuple #[.agg #[.slice pv nv cw], .int .i64 0]) (by simp [results, Tryz.results27, go_sem, r2]) rfl ⟨.slice pv nv cw, by rw [HO.out, HK.out], ?_, ?_, gr_setNew HG2.out (by omega) _ _, fun q hq => by have := HOWN.out q hq; omega⟩
      · rw [HO.out]; exact SliceZ.set HV.out r2 _
      · rw [HO.out]; exact Sup.setNew HU.out (by omega) _
    · have HK := Lib.hid hk
      have HL := Lib.hid hl
      rw [hk]
      clear hk hl
      go_wp2_with fail
      refine bodyPost_ret (v := .tuple #[.agg #[.slice none 0 0], .int .i64 4]) (by simp [results, Tryz.results27, go_sem, r2]) rfl ⟨.slice none 0 0, by rw [HO.out, HK.out], ?_, ?_, gr_setNew HG2.out (by omega) _ _, by intro q hq; simp [Value.ownBlock] at hq⟩
      · rw [HO.out, HL.out]; exact SliceZ.nil _ _
      · rw [HO.out]; exact Sup.setNew HU.out (by omega) _

end Go.Proofs.YtjpcljnojipdnaaGreat
