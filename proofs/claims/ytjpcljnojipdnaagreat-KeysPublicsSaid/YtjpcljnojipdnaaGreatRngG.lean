/- ring.Check, at valid parameters. -/
import Derived.Test.YtjpcljnojipdnaaGreatRngQ
namespace Go.Proofs.YtjpcljnojipdnaaGreat
open Go.RowKit Go.Shelf
attribute [local go_sem] Oper.semAt_some

/-- What ring.Check holds in memory. -/
structure RcB (W : World) (B : Nat) (x : Par) (cv : Value) (lv : Int) (sp : Bool) (rv : Value) : Prop where
  bp : BoxP W B x cv
  e0 : W.cell? ⟨B + 1, 0, none⟩ = some (.int .i64 lv)
  e1 : W.cell? ⟨B + 1, 1, none⟩ = some (.bool sp)
  e2 : W.cell? ⟨B + 1, 2, none⟩ = some rv
  r : Boxed W (B + 1 + 1) 35 (.int .i64 0)
  sz : B + 1 + 1 + 1 ≤ W.heap.size
theorem RcB.below {W W' : World} {B : Nat} {x : Par} {cv : Value} {lv : Int} {sp : Bool} {rv : Value} (h : RcB W B x cv lv sp rv) (hb : Below W.heap.size W W') : RcB W' B x cv lv sp rv :=
  have := h.sz
  ⟨h.bp.below hb (by omega), (below_at hb (by omega)).trans h.e0, (below_at hb (by omega)).trans h.e1, (below_at hb (by omega)).trans h.e2, boxed_below h.r hb, Nat.le_trans h.sz hb.size⟩
theorem below_eqN {w w' : World} {n : Nat} (h : w' = w.drewN n) : Below w.heap.size w w' := by subst h; exact below_drewN (Below.refl _ _) _

/-- A result stored at the end. -/
theorem rc_end {w W : World} {x : Par} {cv : Value} {lv : Int} {sp : Bool} {rv : Value} (h : RcB W w.heap.size x cv lv sp rv) (hb : Below w.heap.size w W) (k : Int) :
    (W.setCell ⟨w.heap.size + 1 + 1, 0, none⟩ (.int .i64 k)).cell? ⟨w.heap.size + 1 + 1, 0, none⟩ = some (.int .i64 k) ∧ Below w.heap.size w (W.setCell ⟨w.heap.size + 1 + 1, 0, none⟩ (.int .i64 k)) :=
  ⟨(h.r.set _).cell, hb.setCell (p := ⟨w.heap.size + 1 + 1, 0, none⟩) (by show w.heap.size ≤ w.heap.size + 1 + 1; omega) _⟩

/-- A result stored in the loop. -/
theorem rc_out {w W W1 : World} {x : Par} {cv : Value} {lv : Int} {sp : Bool} {rv : Value} (h : RcB W w.heap.size x cv lv sp rv) (hb : Below w.heap.size w W) (h1 : Below W.heap.size W W1) (B0 : Nat) (k : Int) :
    KeepsFrom B0 W (W1.setCell ⟨w.heap.size + 1 + 1, 0, none⟩ (.int .i64 k)) ∧ Boxed (W1.setCell ⟨w.heap.size + 1 + 1, 0, none⟩ (.int .i64 k)) (w.heap.size + 1 + 1) 35 (.int .i64 k) ∧ Below w.heap.size w (W1.setCell ⟨w.heap.size + 1 + 1, 0, none⟩ (.int .i64 k)) :=
  ⟨((keeps_below h1).trans (KeepsOthers.setCell _ _ _)).from _, (boxed_below h.r h1).set _, (hb.trans (h1.mono hb.size)).setCell (p := ⟨w.heap.size + 1 + 1, 0, none⟩) (by show w.heap.size ≤ w.heap.size + 1 + 1; omega) _⟩
theorem rcon_quiet (b off cap a q : Nat) (l : List Nat) (w : World) (r : Bool) (hl : RowAt w b off l) (hlen : l.length ≤ 140737488351232) (hc : w.cell? ⟨a, 0, none⟩ = some (.int .u32 (q : Nat))) (haw : a < w.heap.size) (hr : l.any (fun c => decide (q ≤ c)) = r) (k : Nat) :
    Calls Tryz.prog 119 #[.slice (some ⟨b, off, none⟩) l.length cap, .func (.func 145) #[] #[.pointer (some ⟨a, 0, none⟩)]] (w.drewN k) fun e w' => e = .returned (.bool r) ∧ ∃ m, w' = w.drewN m :=
  (rcon_any b off cap a q l (w.drewN k) ⟨hl.blk, hl.cell, hl.rng⟩ hlen hc haw).mono fun e w' ⟨he, hw⟩ => ⟨by rw [he, hr], k, hw⟩
theorem RowAt.drew {W : World} {b off : Nat} {l : List Nat} (h : RowAt W b off l) : RowAt W.drew b off l := ⟨h.blk, h.cell, h.rng⟩

set_option maxHeartbeats 4000000 in
set_option maxRecDepth 100000 in
theorem rgcheck_any (x : Par) (cv rv : Value) (lv : Int) (sp : Bool) (rows : List (List Nat)) (w : World) (hx : Good x) (hxo : ParOk x) (hcv : SliceAt w cv x.ch) (hrv : SliceR w rv rows) :
    Calls Tryz.prog 127 #[x.val cv, elVal lv sp rv] w fun r w' => r = .returned (.int .i64 (elemE x lv sp rows)) ∧ Below w.heap.size w w' := by
  have hbW : Below w.heap.size w (((w.alloc (.cells #[.int .i64 x.n, .int .u32 x.p, .int .i64 x.r, cv, .int .u32 x.sp, .int .i64 x.wt, .int .u32 x.er] 25)).alloc (.cells #[.int .i64 lv, .bool sp, rv] 32)).alloc (.cells #[.int .i64 0] 35)) := (((Below.refl _ _).alloc (Nat.le_refl _) _).alloc (by simp) _).alloc (by simp; omega) _
  have hB : RcB (((w.alloc (.cells #[.int .i64 x.n, .int .u32 x.p, .int .i64 x.r, cv, .int .u32 x.sp, .int .i64 x.wt, .int .u32 x.er] 25)).alloc (.cells #[.int .i64 lv, .bool sp, rv] 32)).alloc (.cells #[.int .i64 0] 35)) w.heap.size x cv lv sp rv := by
    refine ⟨by constructor <;> simp [go_sem], by simp [go_sem], by simp [go_sem], by simp [go_sem], ?_, by simp⟩
    have h := Boxed.new ((w.alloc (.cells #[.int .i64 x.n, .int .u32 x.p, .int .i64 x.r, cv, .int .u32 x.sp, .int .i64 x.wt, .int .u32 x.er] 25)).alloc (.cells #[.int .i64 lv, .bool sp, rv] 32)) 35 (.int .i64 0)
    simpa using h
  have HSL := Lib.hid (hcv.below hbW)
  have HRV := Lib.hid (hrv.below hbW)
  have HX := Lib.hid hx
  have HXO := Lib.hid hxo
  have hdm := isDim_cases hx.dim
  obtain ⟨N, hN⟩ : ∃ N : Nat, x.n = N := ⟨x.n.toNat, by omega⟩
  have hN4 : 4 ≤ N := by omega
  have hN32 : N ≤ 32 := by omega
  have HN := Lib.hid hN
  have hl2 := hx.l2
  obtain ⟨pr, cr, rfl⟩ : ∃ pr cr, rv = .slice pr rows.length cr := by obtain ⟨p, c, e, _⟩ := hrv; exact ⟨p, c, e⟩
  clear hx hxo hdm hN hrv hcv
  unfold Par.val elVal
  refine (callsIn_wide (n := 9)).1 ?_
  refine callsIn_of_wp_marks Tryz.func127 rfl trivial ?_ rfl
  simp only [Tryz.ntmps127, List.size_toArray, List.length_cons, List.length_nil, Nat.reduceAdd, Nat.reduceSub, Array.replicate_succ, Array.replicate_zero, List.push_toArray, List.append_toArray, List.nil_append, List.cons_append]
  gi_wp2
  generalize (((w.alloc (.cells #[.int .i64 x.n, .int .u32 x.p, .int .i64 x.r, cv, .int .u32 x.sp, .int .i64 x.wt, .int .u32 x.er] 25)).alloc (.cells #[.int .i64 lv, .bool sp, .slice pr rows.length cr] 32)).alloc (.cells #[.int .i64 0] 35)) = W0 at hbW hB HSL HRV ⊢
  have HB := Lib.hid hB
  have HBW := Lib.hid hbW
  have z0 := hB.e0; have z1 := hB.e1
  clear hB hbW
  cases hpl : plB x lv with
  | false =>
    have HPL := Lib.hid hpl
    have HR : Hid (elemE x lv sp rows = 2) := elem_no (.inl hpl)
    clear hpl
    gi_wp2_with (first | (refine ⟨trivial, ?_⟩; gi_at_call 82; refine (callsIn_wide.2 (rvalid_yes x cv _ _ HX.out HXO.out HB.out.bp HSL.out)).mono ?_; rintro e w1 ⟨rfl, n1, hw1⟩; (have HW1 := Lib.hid hw1); clear hw1; (have hb1 := below_eqN HW1.out); (have HB1 := Lib.hid (HB.out.below hb1)); (have HSL1 := Lib.hid (HSL.out.below hb1)); (have HBW1 := Lib.hid (HBW.out.trans (hb1.mono HBW.out.size))); clear hb1 z0 z1; (have z0 := HB1.out.e0); (have z1 := HB1.out.e1)) | (refine ⟨trivial, ?_⟩; gi_at_call 83; refine (callsIn_wide.2 (rplace_any x cv _ lv _ _ HX.out HB1.out.bp HSL1.out)).mono ?_; rintro e w2 ⟨rfl, n2, hw2⟩; rw [show (decide (1 ≤ (lv : Int)) && decide ((lv : Int) ≤ (x.ch.length : Int))) = false from HPL.out]; (have HW2 := Lib.hid hw2); clear hw2; (have hb2 := below_eqN HW2.out); (have HB2 := Lib.hid (HB1.out.below hb2)); (have HBW2 := Lib.hid (HBW1.out.trans (hb2.mono HBW1.out.size))); (have HSL2 := Lib.hid (HSL1.out.below hb2)); clear hb2; (have c4 := HB2.out.r.cell); (have f4 := HB2.out.r.frozen)) | exact wpIn_label ?_ | refine wpIn_label ?_)
    have hend := rc_end HB2.out HBW2.out 2
    generalize (w2.setCell ⟨w.heap.size + 1 + 1, 0, none⟩ (.int .i64 2)) = W9 at hend ⊢
    have he9 := hend.1
    refine ⟨.int .i64 2, ?_, ret_int HR.out.symm, hend.2⟩
    simp [results, Tryz.f127, go_sem, he9]
  | true =>
    have hlv : 1 ≤ lv ∧ lv ≤ x.ch.length := by unfold plB at hpl; simpa using hpl
    obtain ⟨L, rfl⟩ : ∃ L : Nat, lv = L := ⟨lv.toNat, by omega⟩
    have HPL := Lib.hid hpl
    have hL1 : 1 ≤ L := by omega
    have hL2 : L ≤ x.ch.length := by omega
    have hql := qs_len (x := x) (L := L) (sp := sp) hL2
    have hno := fun h => elem_no (x := x) (lv := (L : Int)) (sp := sp) (rows := rows) h
    have hyes := elem_yes (x := x) (lv := (L : Int)) (sp := sp) (rows := rows) HPL.out
    rw [Int.toNat_natCast, hql] at hno hyes
    have HNO := Lib.hid hno; have HYES := Lib.hid hyes; have HQL := Lib.hid hql
    clear hpl hlv hno hyes hql
    have hrl := (show rows.length ≤ 140737488351232 by obtain ⟨_, _, _, _, h, _⟩ := HRV.out; exact h)
    obtain ⟨R, hR⟩ : ∃ R, R = L + (if sp then 1 else 0) := ⟨_, rfl⟩
    rw [← hR] at HNO HYES
    have HRR := Lib.hid hR
    have hR1 : 1 ≤ R := by omega
    have hR26 : R ≤ 26 := by rw [hR]; split <;> omega
    by_cases hlen : rows.length = R
    case neg =>
      have HR : Hid (elemE x L sp rows = 2) := HNO.out (.inr (.inl hlen))
      cases sp with
      | false =>
        have e1 : ((rows.length : Int) != (L : Int)) = true := bne_iff_ne.2 (by simp at hR; omega)
        clear hR hlen hR1 hR26
        gi_wp2_with (first | (refine ⟨trivial, ?_⟩; gi_at_call 82; refine (callsIn_wide.2 (rvalid_yes x cv _ _ HX.out HXO.out HB.out.bp HSL.out)).mono ?_; rintro e w1 ⟨rfl, n1, hw1⟩; (have HW1 := Lib.hid hw1); clear hw1; (have hb1 := below_eqN HW1.out); (have HB1 := Lib.hid (HB.out.below hb1)); (have HSL1 := Lib.hid (HSL.out.below hb1)); (have HBW1 := Lib.hid (HBW.out.trans (hb1.mono HBW.out.size))); clear hb1 z0 z1; (have z0 := HB1.out.e0); (have z1 := HB1.out.e1)) | (refine ⟨trivial, ?_⟩; gi_at_call 83; refine (callsIn_wide.2 (rplace_any x cv _ L _ _ HX.out HB1.out.bp HSL1.out)).mono ?_; rintro e w2 ⟨rfl, n2, hw2⟩; rw [show (decide (1 ≤ (L : Int)) && decide ((L : Int) ≤ (x.ch.length : Int))) = true from HPL.out]; (have HW2 := Lib.hid hw2); clear hw2; (have hb2 := below_eqN HW2.out); (have HB2 := Lib.hid (HB1.out.below hb2)); (have HBW2 := Lib.hid (HBW1.out.trans (hb2.mono HBW1.out.size))); (have HSL2 := Lib.hid (HSL1.out.below hb2)); clear hb2; (have c4 := HB2.out.r.cell); (have f4 := HB2.out.r.frozen); (have v0 := HB2.out.e0); (have v1 := HB2.out.e1); (have v2 := HB2.out.e2); (have HRV2 := Lib.hid ((HRV.out.below (below_eqN HW1.out)).below (below_eqN HW2.out)))) | exact wpIn_label ?_ | refine wpIn_label ?_)
        have hend := rc_end HB2.out HBW2.out 2
        generalize (w2.setCell ⟨w.heap.size + 1 + 1, 0, none⟩ (.int .i64 2)) = W9 at hend ⊢
        have he9 := hend.1
        refine ⟨.int .i64 2, ?_, ret_int HR.out.symm, hend.2⟩
        simp [results, Tryz.f127, go_sem, he9]
      | true =>
        have e1 : ((rows.length : Int) != (L : Int) + 1) = true := bne_iff_ne.2 (by simp at hR; omega)
        clear hR hlen hR1 hR26
        gi_wp2_with (first | (refine ⟨trivial, ?_⟩; gi_at_call 82; refine (callsIn_wide.2 (rvalid_yes x cv _ _ HX.out HXO.out HB.out.bp HSL.out)).mono ?_; rintro e w1 ⟨rfl, n1, hw1⟩; (have HW1 := Lib.hid hw1); clear hw1; (have hb1 := below_eqN HW1.out); (have HB1 := Lib.hid (HB.out.below hb1)); (have HSL1 := Lib.hid (HSL.out.below hb1)); (have HBW1 := Lib.hid (HBW.out.trans (hb1.mono HBW.out.size))); clear hb1 z0 z1; (have z0 := HB1.out.e0); (have z1 := HB1.out.e1)) | (refine ⟨trivial, ?_⟩; gi_at_call 83; refine (callsIn_wide.2 (rplace_any x cv _ L _ _ HX.out HB1.out.bp HSL1.out)).mono ?_; rintro e w2 ⟨rfl, n2, hw2⟩; rw [show (decide (1 ≤ (L : Int)) && decide ((L : Int) ≤ (x.ch.length : Int))) = true from HPL.out]; (have HW2 := Lib.hid hw2); clear hw2; (have hb2 := below_eqN HW2.out); (have HB2 := Lib.hid (HB1.out.below hb2)); (have HBW2 := Lib.hid (HBW1.out.trans (hb2.mono HBW1.out.size))); (have HSL2 := Lib.hid (HSL1.out.below hb2)); clear hb2; (have c4 := HB2.out.r.cell); (have f4 := HB2.out.r.frozen); (have v0 := HB2.out.e0); (have v1 := HB2.out.e1); (have v2 := HB2.out.e2); (have HRV2 := Lib.hid ((HRV.out.below (below_eqN HW1.out)).below (below_eqN HW2.out)))) | exact wpIn_label ?_ | refine wpIn_label ?_)
        have hend := rc_end HB2.out HBW2.out 2
        generalize (w2.setCell ⟨w.heap.size + 1 + 1, 0, none⟩ (.int .i64 2)) = W9 at hend ⊢
        have he9 := hend.1
        refine ⟨.int .i64 2, ?_, ret_int HR.out.symm, hend.2⟩
        simp [results, Tryz.f127, go_sem, he9]
    case pos =>
      have HLEN := Lib.hid hlen
      obtain ⟨br, or_, rfl⟩ : ∃ br or_, pr = some ⟨br, or_, none⟩ := by
        obtain ⟨p, c, e, _, _, h⟩ := HRV.out
        obtain ⟨b, o, e2, _⟩ := h (by intro e3; rw [e3] at hlen; simp at hlen; omega)
        injection e with e4
        exact ⟨b, o, by rw [e4, e2]⟩
      cases sp with

      | false =>
        have e1 : ((rows.length : Int) != (L : Int)) = false := by rw [hlen, hR]; simp
        clear hR hlen
        gi_wp2_with (first | (refine ⟨trivial, ?_⟩; gi_at_call 82; refine (callsIn_wide.2 (rvalid_yes x cv _ _ HX.out HXO.out HB.out.bp HSL.out)).mono ?_; rintro e w1 ⟨rfl, n1, hw1⟩; (have HW1 := Lib.hid hw1); clear hw1; (have hb1 := below_eqN HW1.out); (have HB1 := Lib.hid (HB.out.below hb1)); (have HSL1 := Lib.hid (HSL.out.below hb1)); (have HBW1 := Lib.hid (HBW.out.trans (hb1.mono HBW.out.size))); clear hb1 z0 z1; (have z0 := HB1.out.e0); (have z1 := HB1.out.e1)) | (refine ⟨trivial, ?_⟩; gi_at_call 83; refine (callsIn_wide.2 (rplace_any x cv _ L _ _ HX.out HB1.out.bp HSL1.out)).mono ?_; rintro e w2 ⟨rfl, n2, hw2⟩; rw [show (decide (1 ≤ (L : Int)) && decide ((L : Int) ≤ (x.ch.length : Int))) = true from HPL.out]; (have HW2 := Lib.hid hw2); clear hw2; (have hb2 := below_eqN HW2.out); (have HB2 := Lib.hid (HB1.out.below hb2)); (have HBW2 := Lib.hid (HBW1.out.trans (hb2.mono HBW1.out.size))); (have HSL2 := Lib.hid (HSL1.out.below hb2)); clear hb2; (have c4 := HB2.out.r.cell); (have f4 := HB2.out.r.frozen); (have v0 := HB2.out.e0); (have v1 := HB2.out.e1); (have v2 := HB2.out.e2); (have HRV2 := Lib.hid ((HRV.out.below (below_eqN HW1.out)).below (below_eqN HW2.out)))) | (refine ⟨trivial, ?_⟩; gi_at_call 133; refine (callsIn_wide.2 (moduli_any _ _ _ w.heap.size L false _ rfl rfl rfl)).mono ?_; rintro e w3 ⟨rfl, hw3⟩; (have HW3 := Lib.hid hw3); clear hw3) | exact wpIn_label ?_ | refine wpIn_label ?_)
        have hb3 : Below w2.heap.size w2 w3 := by rw [← HW3.out]; exact (((Below.refl _ _).alloc (Nat.le_refl _) _).alloc (by simp) _).alloc (by simp; omega) _
        have HB3 := Lib.hid (HB2.out.below hb3)
        have hrv3 := HRV2.out.below hb3
        have hsz3 : w2.heap.size + 1 + 1 + 1 = w3.heap.size := by rw [← HW3.out]; simp
        obtain ⟨pc, ccv, hcve, hc1, hc2, hcr⟩ := HSL2.out
        obtain ⟨b, off, rfl, hrowc⟩ := hcr (by intro e; rw [e] at hL2; simp at hL2; omega)
        have hM : MoB w3 w2.heap.size (w2.heap.size + 1) (w2.heap.size + 1 + 1) w.heap.size b off x.ch.length ccv L false x := by
          refine ⟨by rw [← HW3.out]; simp [go_sem], by rw [← HW3.out]; simp [go_sem], by rw [← HW3.out]; simp [go_sem], HB3.out.bp.ch.trans (congrArg some hcve), HB3.out.bp.sp, hrowc.below hb3 hrowc.blk, ?_, ?_, ?_, ?_⟩
          · omega
          · omega
          · omega
          · have := HB3.out.sz; omega
        have HBW3 := Lib.hid (HBW2.out.trans (hb3.mono HBW2.out.size))
        have hww3 : w.heap.size ≤ w3.heap.size := HBW3.out.size
        obtain ⟨_, _, e9, _, _, hrr⟩ := hrv3
        obtain ⟨br', or', e8, hbr, hrr2⟩ := hrr (by intro e; have := HLEN.out; rw [e] at this; simp at this; omega)
        have hrr3 : br < w3.heap.size ∧ ∀ i (h : i < rows.length), ∃ u, w3.cell? ⟨br, or_ + i, none⟩ = some u ∧ SliceAt w3 u rows[i] := by
          injection e9 with e9a
          rw [e8] at e9a
          injection e9a with e9b
          injection e9b with e9c e9d
          subst e9c e9d
          exact ⟨hbr, hrr2⟩
        have HR3 := Lib.hid hrr3
        have HM := Lib.hid hM
        clear hb3 hM hcve hcr hrowc e8 e9 hbr hrr hrr2 hrr3
        refine wpIn_rangeFunc_ownH rfl (by decide) (gf := 148) (lb := #[.pointer (some ⟨w2.heap.size, 0, none⟩), .pointer (some ⟨w2.heap.size + 1, 0, none⟩), .pointer (some ⟨w2.heap.size + 1 + 1, 0, none⟩)]) rfl trivial (enters_of Tryz.func148 (by kernel_rfl) rfl)
          (moduli_stops 8 (by decide) w2.heap.size (w2.heap.size + 1) (w2.heap.size + 1 + 1) w.heap.size b off ccv L R false x hL2 (by omega) hc1 HRR.out w3 HM.out) belowK_t (belowK_b (Nat.le_refl _)) (Below.refl _ _) (fun _ => rfl)
          (fun pre W => (∀ y, y ∈ pre → rowB x ((qsOf x L false).getD y.1 0) (rows.getD y.1 []) = true) ∧ Below w3.heap.size w3 W)
          (fun c pre W => (c = .ret ∧ elemE x L false rows = 2) ∧ (Boxed W (w.heap.size + 1 + 1) 35 (.int .i64 2) ∧ Below w.heap.size w W))
          (OwnFrom.and (ownFrom_pure _ _) (ownFrom_below (Nat.le_refl _) (Nat.le_refl _)))
          (fun c => OwnFrom.and (ownFrom_pure _ _) (OwnFrom.and (Own.from (boxed_own _ _ _) _) (ownFrom_below (Nat.le_refl _) hww3)))
          ⟨by simp, Below.refl _ _⟩
          (fun y a' W => ∃ Bx, w3.heap.size ≤ Bx ∧ Boxed W Bx 22 (.int .u32 ((qsOf x L false).getD y.1 0 : Nat)) ∧ a' = { tmps := #[.agg #[.int .i64 x.n, .int .u32 x.p, .int .i64 x.r, cv, .int .u32 x.sp, .int .i64 x.wt, .int .u32 x.er], .agg #[.int .i64 L, .bool false, .slice (some ⟨br, or_, none⟩) rows.length cr], .pointer (some ⟨w.heap.size, 0, none⟩), .pointer (some ⟨w.heap.size + 1, 0, none⟩), .pointer (some ⟨w.heap.size + 1 + 1, 0, none⟩), .int .i64 L, .int .i64 (y.1 : Nat), .pointer (some ⟨Bx, 0, none⟩), .bool true, .bool false, .bool false, .pointer (some ⟨w.heap.size + 1, 0, none⟩), .int .i64 L, .pointer (some ⟨w.heap.size + 1, 1, none⟩), .bool false, .bool true, .bool false, .bool false, .pointer (some ⟨w.heap.size + 1, 0, none⟩), .int .i64 L, .pointer (some ⟨w.heap.size + 1, 1, none⟩), .bool false, undef, undef, .pointer (some ⟨w.heap.size + 1, 2, none⟩), .slice (some ⟨br, or_, none⟩) rows.length cr, .int .i64 rows.length, .int .i64 L, .bool false, .pointer (some ⟨w.heap.size + 1, 0, none⟩), .int .i64 L, .pointer (some ⟨w.heap.size + 1, 1, none⟩), .bool false, .func (.func 148) #[] #[.pointer (some ⟨w2.heap.size, 0, none⟩), .pointer (some ⟨w2.heap.size + 1, 0, none⟩), .pointer (some ⟨w2.heap.size + 1 + 1, 0, none⟩)], .int .i64 (y.1 : Nat), .int .u32 ((qsOf x L false).getD y.1 0 : Nat), undef, undef, undef, undef, undef, undef, undef, undef, undef, undef, undef, undef, undef, undef, undef, undef, undef, undef], defers := [] })
          (fun y a' _ X Y row hs hg hr => by obtain ⟨Bx, e1, e2, e3⟩ := hs; exact ⟨Bx, e1, boxed_own Bx 22 (fun (_ : Unit) => Value.int .u32 ((qsOf x L false).getD y.1 0 : Nat)) () X Y row e2 hg (fun r e => (hr r e).2), e3⟩)
          ?assign ?body ?done ?stop
        case assign =>
          rintro l pre y W K ⟨hp, hB1⟩ hK
          unfold encQ
          gi_wp2
          exact hK _ _ ((KeepsOthers.alloc _ _).from _) ((Below.refl _ W).alloc hB1.size _) ⟨hp, hB1.alloc hB1.size _⟩ ⟨W.heap.size, hB1.size, Boxed.new W 22 _, rfl⟩
        case body =>
          rintro l pre ⟨i, hiR⟩ a' W hl ⟨r0, hr0⟩ ⟨hp, hB1⟩ ⟨Bx, hBx, bX, rfl⟩ hlt
          obtain ⟨u, hu, hsu⟩ := HR3.out.2 i (by have := HLEN.out; omega)
          have hir : i < rows.length := by have := HLEN.out; omega
          have hgr : Hid (rows.getD i [] = rows[i]) := getD_at _ _ _
          obtain ⟨r, hr⟩ : ∃ r, rows[i] = r := ⟨_, rfl⟩
          rw [hr] at hsu hgr
          obtain ⟨pu, cu, rfl, hu1, hu2, huu⟩ := hsu
          have xu := (below_at hB1 HR3.out.1).trans hu
          have HBb := Lib.hid (HB3.out.below hB1)
          have hbw : Hid (Below w.heap.size w W) := HBW3.out.trans (hB1.mono hww3)
          have hrowI := Lib.hid (fun (p : Par → Nat → List Nat → Prop) (h : p x ((qsOf x L false).getD i 0) r) => (show p x ((qsOf x L false).getD i 0) (rows.getD i []) by rw [hgr.out]; exact h))
          have v0 : W.cell? ⟨w.heap.size, 0, none⟩ = some (.int .i64 (N : Int)) := by have := HBb.out.bp.n; rw [HN.out] at this; exact this
          have v2 := HBb.out.e2
          have c4 := HBb.out.r.cell
          have f4 := HBb.out.r.frozen
          have i0 : (0 : Int) ≤ (i : Int) := by omega
          have i2 : (i : Int) < (rows.length : Int) := by omega
          have hmx : Tryz.prog.follows .mixedOrders = true := by kernel_rfl
          have HUU := Lib.hid huu
          have HP := Lib.hid hp
          have HB1 := Lib.hid hB1
          dsimp only at bX ⊢
          have hbad : Hid (rowB x ((qsOf x L false).getD i 0) r = false → elemE x L false rows = 2) := fun h => HNO.out (.inr (.inr ⟨i, hir, by rw [hgr.out]; exact h⟩))
          have hgood : Hid (rowB x ((qsOf x L false).getD i 0) r = true → ∀ y, y ∈ pre ++ [(⟨i, hiR⟩ : Idx R)] → rowB x ((qsOf x L false).getD y.1 0) (rows.getD y.1 []) = true) := fun h y hy => by
            rcases List.mem_append.1 hy with h1 | h1
            · exact HP.out y h1
            · simp at h1; subst h1; rw [hgr.out]; exact h
          generalize (qsOf x L false).getD i 0 = q at bX hbad hgood ⊢
          have cX := bX.cell
          have hXl := bX.lt
          clear hu huu hp hr hB1 hr0 hrowI hgr
          by_cases hrl : r.length = N
          case neg =>
            have e2 : ((r.length : Int) != (N : Int)) = true := bne_iff_ne.2 (by omega)
            have HR : Hid (elemE x L false rows = 2) := hbad.out (row_short (by rw [HN.out]; omega))
            clear hrl
            gi_wp2
            refine quiet_round (r := l) (F := Fence.wide) rfl rfl hmx (by kernel_rfl) ?_
            repeat (gi_big_quiet_step (fail))
            refine wpQuietIn_step (fun _ _ _ _ => trivial) (fun K hK => ?_)
            go_simp
            refine hK _ ?_
            clear hK K
            repeat (gi_big_quiet_step (fail))
            refine wpQuietIn_nil ?_
            rintro _ ⟨nq, rfl⟩
            gi_wp2
            all_goals
              obtain ⟨k1, k2, k3⟩ := rc_out HBb.out hbw.out (below_drewN (Below.refl _ W) _) w3.heap.size 2
              exact ⟨k1, ⟨rfl, HR.out⟩, k2, k3⟩
          case pos =>
            have e2 : ((r.length : Int) != (N : Int)) = false := by rw [hrl]; simp
            obtain ⟨bu, ou, rfl, hRU⟩ := HUU.out (by intro e; rw [e] at hrl; simp at hrl; omega)
            have HRU := Lib.hid (hRU.below HB1.out hRU.blk)
            have HRL := Lib.hid hrl
            have hr32 : r.length ≤ 140737488351232 := by omega
            clear hRU HUU
            cases ha : r.any (fun c => decide (q ≤ c)) with
            | true =>
              have HA := Lib.hid ha
              have HR : Hid (elemE x L false rows = 2) := hbad.out (by
                obtain ⟨c, hc, hqc⟩ := List.any_eq_true.1 ha
                obtain ⟨j, hj, rfl⟩ := List.getElem_of_mem hc
                exact row_bad hj (by have := of_decide_eq_true hqc; omega))
              clear hrl ha
              gi_wp2
              refine quiet_round (r := l) (F := Fence.wide) rfl rfl hmx (by kernel_rfl) ?_
              repeat (gi_big_quiet_step (fail))
              refine wpQuietIn_step (fun _ _ _ _ => trivial) (fun K hK => ?_)
              go_simp
              apply Exists.intro
              refine ⟨fun _ => ?_, hK _ ?_⟩
              · gi_at_call 119
                exact callsIn_wide.2 (rcon_quiet _ _ _ _ _ _ _ _ HRU.out hr32 cX hXl HA.out _)
              clear hK K
              repeat (gi_big_quiet_step (fail))
              refine wpQuietIn_nil ?_
              rintro _ ⟨nq, rfl⟩
              gi_wp2
              all_goals
                obtain ⟨k1, k2, k3⟩ := rc_out HBb.out hbw.out (below_drewN (Below.refl _ W) _) w3.heap.size 2
                exact ⟨k1, ⟨rfl, HR.out⟩, k2, k3⟩
            | false =>
              have HA := Lib.hid ha
              have HG : Hid (∀ y, y ∈ pre ++ [(⟨i, hiR⟩ : Idx R)] → rowB x ((qsOf x L false).getD y.1 0) (rows.getD y.1 []) = true) := hgood.out (row_good (by rw [HN.out]; omega) (fun j hj => by
                have := List.any_eq_false.1 ha r[j] (List.getElem_mem hj)
                simp at this
                exact this))
              clear hrl ha
              gi_wp2
              refine quiet_round (r := l) (F := Fence.wide) rfl rfl hmx (by kernel_rfl) ?_
              repeat (gi_big_quiet_step (fail))
              refine wpQuietIn_step (fun _ _ _ _ => trivial) (fun K hK => ?_)
              go_simp
              apply Exists.intro
              refine ⟨fun _ => ?_, hK _ ?_⟩
              · gi_at_call 119
                exact callsIn_wide.2 (rcon_quiet _ _ _ _ _ _ _ _ HRU.out hr32 cX hXl HA.out _)
              clear hK K
              repeat (gi_big_quiet_step (fail))
              refine wpQuietIn_nil ?_
              rintro _ ⟨nq, rfl⟩
              gi_wp2
              exact ⟨(keeps_below (below_drewN (Below.refl _ W) _)).from _, (below_drewN (Below.refl _ W) _).mono HB1.out.size, HG.out, below_drewN HB1.out _⟩
        case done =>
          rintro D ys W hD hys ⟨hp, hB1⟩ hK
          have HBb := HB3.out.below hB1
          have HE : Hid (elemE x L false rows = 0) := HYES.out HLEN.out (fun k hk => by
            have hk2 : k ∈ ixs ys := by rw [hys]; exact List.mem_range.2 (by have := HLEN.out; omega)
            obtain ⟨y, hy, rfl⟩ := List.mem_map.1 hk2
            exact hp y hy)
          have c4 := HBb.r.cell
          have f4 := HBb.r.frozen
          have hbw : Below w.heap.size w W := HBW3.out.trans (hB1.mono hww3)
          have hr2 := HBb.r.set (.int .i64 0)
          have hK' := (KeepsOthers.setCell W ⟨w.heap.size + 1 + 1, 0, none⟩ (.int .i64 0)).same D _ hK rfl
          have z1 := cell_kept hr2.cell (grownBy_putObj' _ D (.deferred none)) (fun r e => by cases e; exact ⟨_, hK', rfl⟩)
          have hbF := (hbw.setCell (p := ⟨w.heap.size + 1 + 1, 0, none⟩) (by show w.heap.size ≤ w.heap.size + 1 + 1; omega) (.int .i64 0)).trans (belowK_b (w := w) (Nat.le_refl _) _ D (.deferred (some [])) (.deferred none) (by omega) hK' rfl rfl)
          have Z1 := Lib.hid z1; have HK' := Lib.hid hK'; have HBF := Lib.hid hbF
          clear hp hys z1 hK hK' hbF hr2 hbw hB1 HBb
          gi_wp2
          refine ⟨by simp, .inl ⟨_, _, rfl, run_takeDeferred HK'.out, ?_⟩⟩
          refine ⟨.int .i64 0, ?_, ret_int HE.out.symm, HBF.out⟩
          simp [results, Tryz.f127, go_sem, Z1.out]
        case stop =>
          rintro D cd pre W hD hpre ⟨⟨rfl, hE⟩, hbx, hB1⟩ hK
          have z1 := cell_kept hbx.cell (grownBy_putObj' _ D (.deferred none)) (fun r e => by cases e; exact ⟨_, hK, rfl⟩)
          have hbF := hB1.trans (belowK_b (w := w) (Nat.le_refl _) _ D (.deferred (some [])) (.deferred none) (by omega) hK rfl rfl)
          have Z1 := Lib.hid z1; have HK' := Lib.hid hK; have HBF := Lib.hid hbF; have HE := Lib.hid hE
          clear z1 hK hbF hB1 hbx hE
          gi_wp2
          refine ⟨by simp, .inl ⟨_, _, rfl, run_takeDeferred HK'.out, ?_⟩⟩
          refine ⟨.int .i64 2, ?_, ret_int HE.out.symm, HBF.out⟩
          simp [results, Tryz.f127, go_sem, Z1.out]

      | true =>
        have e1 : ((rows.length : Int) != (L : Int) + 1) = false := by rw [hlen, hR]; simp
        clear hR hlen
        gi_wp2_with (first | (refine ⟨trivial, ?_⟩; gi_at_call 82; refine (callsIn_wide.2 (rvalid_yes x cv _ _ HX.out HXO.out HB.out.bp HSL.out)).mono ?_; rintro e w1 ⟨rfl, n1, hw1⟩; (have HW1 := Lib.hid hw1); clear hw1; (have hb1 := below_eqN HW1.out); (have HB1 := Lib.hid (HB.out.below hb1)); (have HSL1 := Lib.hid (HSL.out.below hb1)); (have HBW1 := Lib.hid (HBW.out.trans (hb1.mono HBW.out.size))); clear hb1 z0 z1; (have z0 := HB1.out.e0); (have z1 := HB1.out.e1)) | (refine ⟨trivial, ?_⟩; gi_at_call 83; refine (callsIn_wide.2 (rplace_any x cv _ L _ _ HX.out HB1.out.bp HSL1.out)).mono ?_; rintro e w2 ⟨rfl, n2, hw2⟩; rw [show (decide (1 ≤ (L : Int)) && decide ((L : Int) ≤ (x.ch.length : Int))) = true from HPL.out]; (have HW2 := Lib.hid hw2); clear hw2; (have hb2 := below_eqN HW2.out); (have HB2 := Lib.hid (HB1.out.below hb2)); (have HBW2 := Lib.hid (HBW1.out.trans (hb2.mono HBW1.out.size))); (have HSL2 := Lib.hid (HSL1.out.below hb2)); clear hb2; (have c4 := HB2.out.r.cell); (have f4 := HB2.out.r.frozen); (have v0 := HB2.out.e0); (have v1 := HB2.out.e1); (have v2 := HB2.out.e2); (have HRV2 := Lib.hid ((HRV.out.below (below_eqN HW1.out)).below (below_eqN HW2.out)))) | (refine ⟨trivial, ?_⟩; gi_at_call 133; refine (callsIn_wide.2 (moduli_any _ _ _ w.heap.size L true _ rfl rfl rfl)).mono ?_; rintro e w3 ⟨rfl, hw3⟩; (have HW3 := Lib.hid hw3); clear hw3) | exact wpIn_label ?_ | refine wpIn_label ?_)
        have hb3 : Below w2.heap.size w2 w3 := by rw [← HW3.out]; exact (((Below.refl _ _).alloc (Nat.le_refl _) _).alloc (by simp) _).alloc (by simp; omega) _
        have HB3 := Lib.hid (HB2.out.below hb3)
        have hrv3 := HRV2.out.below hb3
        have hsz3 : w2.heap.size + 1 + 1 + 1 = w3.heap.size := by rw [← HW3.out]; simp
        obtain ⟨pc, ccv, hcve, hc1, hc2, hcr⟩ := HSL2.out
        obtain ⟨b, off, rfl, hrowc⟩ := hcr (by intro e; rw [e] at hL2; simp at hL2; omega)
        have hM : MoB w3 w2.heap.size (w2.heap.size + 1) (w2.heap.size + 1 + 1) w.heap.size b off x.ch.length ccv L true x := by
          refine ⟨by rw [← HW3.out]; simp [go_sem], by rw [← HW3.out]; simp [go_sem], by rw [← HW3.out]; simp [go_sem], HB3.out.bp.ch.trans (congrArg some hcve), HB3.out.bp.sp, hrowc.below hb3 hrowc.blk, ?_, ?_, ?_, ?_⟩
          · omega
          · omega
          · omega
          · have := HB3.out.sz; omega
        have HBW3 := Lib.hid (HBW2.out.trans (hb3.mono HBW2.out.size))
        have hww3 : w.heap.size ≤ w3.heap.size := HBW3.out.size
        obtain ⟨_, _, e9, _, _, hrr⟩ := hrv3
        obtain ⟨br', or', e8, hbr, hrr2⟩ := hrr (by intro e; have := HLEN.out; rw [e] at this; simp at this; omega)
        have hrr3 : br < w3.heap.size ∧ ∀ i (h : i < rows.length), ∃ u, w3.cell? ⟨br, or_ + i, none⟩ = some u ∧ SliceAt w3 u rows[i] := by
          injection e9 with e9a
          rw [e8] at e9a
          injection e9a with e9b
          injection e9b with e9c e9d
          subst e9c e9d
          exact ⟨hbr, hrr2⟩
        have HR3 := Lib.hid hrr3
        have HM := Lib.hid hM
        clear hb3 hM hcve hcr hrowc e8 e9 hbr hrr hrr2 hrr3
        refine wpIn_rangeFunc_ownH rfl (by decide) (gf := 148) (lb := #[.pointer (some ⟨w2.heap.size, 0, none⟩), .pointer (some ⟨w2.heap.size + 1, 0, none⟩), .pointer (some ⟨w2.heap.size + 1 + 1, 0, none⟩)]) rfl trivial (enters_of Tryz.func148 (by kernel_rfl) rfl)
          (moduli_stops 8 (by decide) w2.heap.size (w2.heap.size + 1) (w2.heap.size + 1 + 1) w.heap.size b off ccv L R true x hL2 (by omega) hc1 HRR.out w3 HM.out) belowK_t (belowK_b (Nat.le_refl _)) (Below.refl _ _) (fun _ => rfl)
          (fun pre W => (∀ y, y ∈ pre → rowB x ((qsOf x L true).getD y.1 0) (rows.getD y.1 []) = true) ∧ Below w3.heap.size w3 W)
          (fun c pre W => (c = .ret ∧ elemE x L true rows = 2) ∧ (Boxed W (w.heap.size + 1 + 1) 35 (.int .i64 2) ∧ Below w.heap.size w W))
          (OwnFrom.and (ownFrom_pure _ _) (ownFrom_below (Nat.le_refl _) (Nat.le_refl _)))
          (fun c => OwnFrom.and (ownFrom_pure _ _) (OwnFrom.and (Own.from (boxed_own _ _ _) _) (ownFrom_below (Nat.le_refl _) hww3)))
          ⟨by simp, Below.refl _ _⟩
          (fun y a' W => ∃ Bx, w3.heap.size ≤ Bx ∧ Boxed W Bx 22 (.int .u32 ((qsOf x L true).getD y.1 0 : Nat)) ∧ a' = { tmps := #[.agg #[.int .i64 x.n, .int .u32 x.p, .int .i64 x.r, cv, .int .u32 x.sp, .int .i64 x.wt, .int .u32 x.er], .agg #[.int .i64 L, .bool true, .slice (some ⟨br, or_, none⟩) rows.length cr], .pointer (some ⟨w.heap.size, 0, none⟩), .pointer (some ⟨w.heap.size + 1, 0, none⟩), .pointer (some ⟨w.heap.size + 1 + 1, 0, none⟩), .int .i64 ((L : Int) + 1), .int .i64 (y.1 : Nat), .pointer (some ⟨Bx, 0, none⟩), .bool true, .bool false, .bool false, .pointer (some ⟨w.heap.size + 1, 0, none⟩), .int .i64 L, .pointer (some ⟨w.heap.size + 1, 1, none⟩), .bool true, .bool true, .bool false, .bool false, .pointer (some ⟨w.heap.size + 1, 0, none⟩), .int .i64 L, .pointer (some ⟨w.heap.size + 1, 1, none⟩), .bool true, .int .i64 L, .int .i64 ((L : Int) + 1), .pointer (some ⟨w.heap.size + 1, 2, none⟩), .slice (some ⟨br, or_, none⟩) rows.length cr, .int .i64 rows.length, .int .i64 ((L : Int) + 1), .bool false, .pointer (some ⟨w.heap.size + 1, 0, none⟩), .int .i64 L, .pointer (some ⟨w.heap.size + 1, 1, none⟩), .bool true, .func (.func 148) #[] #[.pointer (some ⟨w2.heap.size, 0, none⟩), .pointer (some ⟨w2.heap.size + 1, 0, none⟩), .pointer (some ⟨w2.heap.size + 1 + 1, 0, none⟩)], .int .i64 (y.1 : Nat), .int .u32 ((qsOf x L true).getD y.1 0 : Nat), undef, undef, undef, undef, undef, undef, undef, undef, undef, undef, undef, undef, undef, undef, undef, undef, undef, undef], defers := [] })
          (fun y a' _ X Y row hs hg hr => by obtain ⟨Bx, e1, e2, e3⟩ := hs; exact ⟨Bx, e1, boxed_own Bx 22 (fun (_ : Unit) => Value.int .u32 ((qsOf x L true).getD y.1 0 : Nat)) () X Y row e2 hg (fun r e => (hr r e).2), e3⟩)
          ?assign ?body ?done ?stop
        case assign =>
          rintro l pre y W K ⟨hp, hB1⟩ hK
          unfold encQ
          gi_wp2
          exact hK _ _ ((KeepsOthers.alloc _ _).from _) ((Below.refl _ W).alloc hB1.size _) ⟨hp, hB1.alloc hB1.size _⟩ ⟨W.heap.size, hB1.size, Boxed.new W 22 _, rfl⟩
        case body =>
          rintro l pre ⟨i, hiR⟩ a' W hl ⟨r0, hr0⟩ ⟨hp, hB1⟩ ⟨Bx, hBx, bX, rfl⟩ hlt
          obtain ⟨u, hu, hsu⟩ := HR3.out.2 i (by have := HLEN.out; omega)
          have hir : i < rows.length := by have := HLEN.out; omega
          have hgr : Hid (rows.getD i [] = rows[i]) := getD_at _ _ _
          obtain ⟨r, hr⟩ : ∃ r, rows[i] = r := ⟨_, rfl⟩
          rw [hr] at hsu hgr
          obtain ⟨pu, cu, rfl, hu1, hu2, huu⟩ := hsu
          have xu := (below_at hB1 HR3.out.1).trans hu
          have HBb := Lib.hid (HB3.out.below hB1)
          have hbw : Hid (Below w.heap.size w W) := HBW3.out.trans (hB1.mono hww3)
          have hrowI := Lib.hid (fun (p : Par → Nat → List Nat → Prop) (h : p x ((qsOf x L true).getD i 0) r) => (show p x ((qsOf x L true).getD i 0) (rows.getD i []) by rw [hgr.out]; exact h))
          have v0 : W.cell? ⟨w.heap.size, 0, none⟩ = some (.int .i64 (N : Int)) := by have := HBb.out.bp.n; rw [HN.out] at this; exact this
          have v2 := HBb.out.e2
          have c4 := HBb.out.r.cell
          have f4 := HBb.out.r.frozen
          have i0 : (0 : Int) ≤ (i : Int) := by omega
          have i2 : (i : Int) < (rows.length : Int) := by omega
          have hmx : Tryz.prog.follows .mixedOrders = true := by kernel_rfl
          have HUU := Lib.hid huu
          have HP := Lib.hid hp
          have HB1 := Lib.hid hB1
          dsimp only at bX ⊢
          have hbad : Hid (rowB x ((qsOf x L true).getD i 0) r = false → elemE x L true rows = 2) := fun h => HNO.out (.inr (.inr ⟨i, hir, by rw [hgr.out]; exact h⟩))
          have hgood : Hid (rowB x ((qsOf x L true).getD i 0) r = true → ∀ y, y ∈ pre ++ [(⟨i, hiR⟩ : Idx R)] → rowB x ((qsOf x L true).getD y.1 0) (rows.getD y.1 []) = true) := fun h y hy => by
            rcases List.mem_append.1 hy with h1 | h1
            · exact HP.out y h1
            · simp at h1; subst h1; rw [hgr.out]; exact h
          generalize (qsOf x L true).getD i 0 = q at bX hbad hgood ⊢
          have cX := bX.cell
          have hXl := bX.lt
          clear hu huu hp hr hB1 hr0 hrowI hgr
          by_cases hrl : r.length = N
          case neg =>
            have e2 : ((r.length : Int) != (N : Int)) = true := bne_iff_ne.2 (by omega)
            have HR : Hid (elemE x L true rows = 2) := hbad.out (row_short (by rw [HN.out]; omega))
            clear hrl
            gi_wp2
            refine quiet_round (r := l) (F := Fence.wide) rfl rfl hmx (by kernel_rfl) ?_
            repeat (gi_big_quiet_step (fail))
            refine wpQuietIn_step (fun _ _ _ _ => trivial) (fun K hK => ?_)
            go_simp
            refine hK _ ?_
            clear hK K
            repeat (gi_big_quiet_step (fail))
            refine wpQuietIn_nil ?_
            rintro _ ⟨nq, rfl⟩
            gi_wp2
            all_goals
              obtain ⟨k1, k2, k3⟩ := rc_out HBb.out hbw.out (below_drewN (Below.refl _ W) _) w3.heap.size 2
              exact ⟨k1, ⟨rfl, HR.out⟩, k2, k3⟩
          case pos =>
            have e2 : ((r.length : Int) != (N : Int)) = false := by rw [hrl]; simp
            obtain ⟨bu, ou, rfl, hRU⟩ := HUU.out (by intro e; rw [e] at hrl; simp at hrl; omega)
            have HRU := Lib.hid (hRU.below HB1.out hRU.blk)
            have HRL := Lib.hid hrl
            have hr32 : r.length ≤ 140737488351232 := by omega
            clear hRU HUU
            cases ha : r.any (fun c => decide (q ≤ c)) with
            | true =>
              have HA := Lib.hid ha
              have HR : Hid (elemE x L true rows = 2) := hbad.out (by
                obtain ⟨c, hc, hqc⟩ := List.any_eq_true.1 ha
                obtain ⟨j, hj, rfl⟩ := List.getElem_of_mem hc
                exact row_bad hj (by have := of_decide_eq_true hqc; omega))
              clear hrl ha
              gi_wp2
              refine quiet_round (r := l) (F := Fence.wide) rfl rfl hmx (by kernel_rfl) ?_
              repeat (gi_big_quiet_step (fail))
              refine wpQuietIn_step (fun _ _ _ _ => trivial) (fun K hK => ?_)
              go_simp
              apply Exists.intro
              refine ⟨fun _ => ?_, hK _ ?_⟩
              · gi_at_call 119
                exact callsIn_wide.2 (rcon_quiet _ _ _ _ _ _ _ _ HRU.out hr32 cX hXl HA.out _)
              clear hK K
              repeat (gi_big_quiet_step (fail))
              refine wpQuietIn_nil ?_
              rintro _ ⟨nq, rfl⟩
              gi_wp2
              all_goals
                obtain ⟨k1, k2, k3⟩ := rc_out HBb.out hbw.out (below_drewN (Below.refl _ W) _) w3.heap.size 2
                exact ⟨k1, ⟨rfl, HR.out⟩, k2, k3⟩
            | false =>
              have HA := Lib.hid ha
              have HG : Hid (∀ y, y ∈ pre ++ [(⟨i, hiR⟩ : Idx R)] → rowB x ((qsOf x L true).getD y.1 0) (rows.getD y.1 []) = true) := hgood.out (row_good (by rw [HN.out]; omega) (fun j hj => by
                have := List.any_eq_false.1 ha r[j] (List.getElem_mem hj)
                simp at this
                exact this))
              clear hrl ha
              gi_wp2
              refine quiet_round (r := l) (F := Fence.wide) rfl rfl hmx (by kernel_rfl) ?_
              repeat (gi_big_quiet_step (fail))
              refine wpQuietIn_step (fun _ _ _ _ => trivial) (fun K hK => ?_)
              go_simp
              apply Exists.intro
              refine ⟨fun _ => ?_, hK _ ?_⟩
              · gi_at_call 119
                exact callsIn_wide.2 (rcon_quiet _ _ _ _ _ _ _ _ HRU.out hr32 cX hXl HA.out _)
              clear hK K
              repeat (gi_big_quiet_step (fail))
              refine wpQuietIn_nil ?_
              rintro _ ⟨nq, rfl⟩
              gi_wp2
              exact ⟨(keeps_below (below_drewN (Below.refl _ W) _)).from _, (below_drewN (Below.refl _ W) _).mono HB1.out.size, HG.out, below_drewN HB1.out _⟩
        case done =>
          rintro D ys W hD hys ⟨hp, hB1⟩ hK
          have HBb := HB3.out.below hB1
          have HE : Hid (elemE x L true rows = 0) := HYES.out HLEN.out (fun k hk => by
            have hk2 : k ∈ ixs ys := by rw [hys]; exact List.mem_range.2 (by have := HLEN.out; omega)
            obtain ⟨y, hy, rfl⟩ := List.mem_map.1 hk2
            exact hp y hy)
          have c4 := HBb.r.cell
          have f4 := HBb.r.frozen
          have hbw : Below w.heap.size w W := HBW3.out.trans (hB1.mono hww3)
          have hr2 := HBb.r.set (.int .i64 0)
          have hK' := (KeepsOthers.setCell W ⟨w.heap.size + 1 + 1, 0, none⟩ (.int .i64 0)).same D _ hK rfl
          have z1 := cell_kept hr2.cell (grownBy_putObj' _ D (.deferred none)) (fun r e => by cases e; exact ⟨_, hK', rfl⟩)
          have hbF := (hbw.setCell (p := ⟨w.heap.size + 1 + 1, 0, none⟩) (by show w.heap.size ≤ w.heap.size + 1 + 1; omega) (.int .i64 0)).trans (belowK_b (w := w) (Nat.le_refl _) _ D (.deferred (some [])) (.deferred none) (by omega) hK' rfl rfl)
          have Z1 := Lib.hid z1; have HK' := Lib.hid hK'; have HBF := Lib.hid hbF
          clear hp hys z1 hK hK' hbF hr2 hbw hB1 HBb
          gi_wp2
          refine ⟨by simp, .inl ⟨_, _, rfl, run_takeDeferred HK'.out, ?_⟩⟩
          refine ⟨.int .i64 0, ?_, ret_int HE.out.symm, HBF.out⟩
          simp [results, Tryz.f127, go_sem, Z1.out]
        case stop =>
          rintro D cd pre W hD hpre ⟨⟨rfl, hE⟩, hbx, hB1⟩ hK
          have z1 := cell_kept hbx.cell (grownBy_putObj' _ D (.deferred none)) (fun r e => by cases e; exact ⟨_, hK, rfl⟩)
          have hbF := hB1.trans (belowK_b (w := w) (Nat.le_refl _) _ D (.deferred (some [])) (.deferred none) (by omega) hK rfl rfl)
          have Z1 := Lib.hid z1; have HK' := Lib.hid hK; have HBF := Lib.hid hbF; have HE := Lib.hid hE
          clear z1 hK hbF hB1 hbx hE
          gi_wp2
          refine ⟨by simp, .inl ⟨_, _, rfl, run_takeDeferred HK'.out, ?_⟩⟩
          refine ⟨.int .i64 2, ?_, ret_int HE.out.symm, HBF.out⟩
          simp [results, Tryz.f127, go_sem, Z1.out]

end Go.Proofs.YtjpcljnojipdnaaGreat
