/- Digests of parameters: obscuraref12.Digest. -/
import Derived.Test.YtjfjbkocopaehaaDoorDigC
namespace Go.Proofs.YtjfjbkocopaehaaDoor
open Go.RowKit
set_option linter.unusedVariables false

theorem rdecK_any (n : Nat) (k : Int) (hk : k = n) (w : World) (hn : n < 9223372036854775808) :
    Calls Tryd.prog 15 #[.int .i64 k] w fun e w' => e = .returned (.string (dec n)) ∧ Below w.heap.size w w' := by
  subst hk
  exact rdec_any n w hn
/-- What the reference's Digest holds. -/
structure RdB (w W : World) (x : Par) (cv : Value) : Prop where
  box : BoxP W w.heap.size x cv
  bel : Below w.heap.size w W
  lt : w.heap.size < W.heap.size
theorem RdB.below {w W W' : World} {x : Par} {cv : Value} (h : RdB w W x cv) (hb : Below W.heap.size W W') : RdB w W' x cv :=
  ⟨h.box.below hb h.lt, h.bel.trans (hb.mono h.bel.size), Nat.lt_of_lt_of_le h.lt hb.size⟩

set_option maxHeartbeats 4000000 in
set_option maxRecDepth 100000 in
theorem rdig_any (x : Par) (cv : Value) (w : World) (hx : ParOk x) (hcv : SliceAt w cv x.ch) :
    Calls Tryd.prog 7 #[x.val cv] w fun e w' => e = .returned (.tuple #[.string (digS rPrime x), .int .i64 (chk rPrime x)]) ∧ Below w.heap.size w w' := by
  obtain ⟨iS, hiS, hzS0, hzS1, hzS2⟩ := info_parts infoStr
  have hB : Hid (BoxP (w.alloc (.cells #[.int .i64 x.n, .int .u32 x.p, .int .i64 x.r, cv, .int .u32 x.sp, .int .i64 x.wt, .int .u32 x.er] 25)) w.heap.size x cv) := by constructor <;> simp [go_sem]
  have hbW : Hid (Below w.heap.size w (w.alloc (.cells #[.int .i64 x.n, .int .u32 x.p, .int .i64 x.r, cv, .int .u32 x.sp, .int .i64 x.wt, .int .u32 x.er] 25))) := (Below.refl _ _).alloc (Nat.le_refl _) _
  have HS : Hid (SliceAt (w.alloc (.cells #[.int .i64 x.n, .int .u32 x.p, .int .i64 x.r, cv, .int .u32 x.sp, .int .i64 x.wt, .int .u32 x.er] 25)) cv x.ch) := hcv.below hbW.out
  have hlt : w.heap.size < (w.alloc (.cells #[.int .i64 x.n, .int .u32 x.p, .int .i64 x.r, cv, .int .u32 x.sp, .int .i64 x.wt, .int .u32 x.er] 25)).heap.size := by simp
  obtain ⟨pa, cap, rfl⟩ := sliceAt_shape hcv
  unfold Par.val
  cases hok : okB rPrime x with
  | false =>
    have HC : Hid (chk rPrime x = 2) := chk_two hok
    have HR : Hid (digS rPrime x = ⟨#[]⟩) := by show _ = _; unfold digS; rw [hok]; rfl
    clear hok
    go_enter Tryd.func7, Tryd.ntmps7
    go_wp2_with fail
    refine (rcheck_any x (.slice pa x.ch.length cap) _ hx HS.out).mono ?_
    rintro e w1 ⟨rfl, hb1⟩
    have HB1 := Lib.hid (bel_then hb1 hbW.out (by simp))
    clear hb1
    rw [HC.out]
    go_wp2_with fail
    go_ret2
    exact ⟨by rw [HR.out, HC.out]; rfl, HB1.out⟩
  | true =>
    have HC : Hid (chk rPrime x = 0) := chk_ok hok
    have HR : Hid (digS rPrime x = listS 12 (strs x)) := by show _ = _; unfold digS; rw [hok]; rfl
    have HST := Lib.hid (strs_small hx hok)
    obtain ⟨h1, h2, h3, h4, h5, h6, h7, h8, h9⟩ := okB_small hok
    have H9 := Lib.hid h9
    obtain ⟨N, hN⟩ : ∃ N : Nat, x.n = N := ⟨x.n.toNat, by omega⟩
    obtain ⟨R, hR⟩ : ∃ R : Nat, x.r = R := ⟨x.r.toNat, by omega⟩
    obtain ⟨T, hT⟩ : ∃ T : Nat, x.wt = T := ⟨x.wt.toNat, by omega⟩
    have HNU : Hid ((nums x).map dec = [dec N, dec x.p, dec R, dec T, dec x.er, dec x.sp]) := by show _ = _; unfold nums; rw [hN, hR, hT]; rfl
    have hp1 := hx.p1
    have hr1 := hx.r1
    have HEQ : Hid (x.n = N ∧ x.r = R ∧ x.wt = T) := ⟨hN, hR, hT⟩
    have hN1 : N ≤ 32 := by omega
    have hR1 : R < 9223372036854775808 := by omega
    have hT1 : T ≤ 32 := by omega
    clear hok h9 hN hR hT
    go_enter Tryd.func7, Tryd.ntmps7
    go_wp2_with fail
    refine (rcheck_any x (.slice pa x.ch.length cap) _ hx HS.out).mono ?_
    rintro e w1 ⟨rfl, hb1⟩
    have HD1 : Hid (RdB w w1 x (.slice pa x.ch.length cap)) := ⟨hB.out.below hb1 hlt, bel_then hb1 hbW.out (by simp), Nat.lt_of_lt_of_le hlt hb1.size⟩
    have HS1 := Lib.hid (HS.out.below hb1)
    clear hb1
    rw [HC.out]
    go_wp2_with fail
    have HS : ∀ w', RdB w w' x (.slice pa x.ch.length cap) → (fun w' => Hid (RdB w w' x (.slice pa x.ch.length cap)) ∧ w'.cell? ⟨w.heap.size, 0, none⟩ = some (.int .i64 (N : Nat)) ∧ w'.cell? ⟨w.heap.size, 1, none⟩ = some (.int .u32 (x.p : Nat)) ∧ w'.cell? ⟨w.heap.size, 2, none⟩ = some (.int .i64 (R : Nat)) ∧ w'.cell? ⟨w.heap.size, 5, none⟩ = some (.int .i64 (T : Nat)) ∧ w'.cell? ⟨w.heap.size, 6, none⟩ = some (.int .u32 (x.er : Nat)) ∧ w'.cell? ⟨w.heap.size, 4, none⟩ = some (.int .u32 (x.sp : Nat))) w' := fun w' h =>
      ⟨Lib.hid h, by rw [← HEQ.out.1]; exact h.box.n, h.box.p, by rw [← HEQ.out.2.1]; exact h.box.r, by rw [← HEQ.out.2.2]; exact h.box.wt, h.box.er, h.box.sp⟩
    have wp1 : IntKind.i64.wrap (x.p : Int) = (x.p : Int) := by rw [IntKind.wrap_i64]; omega
    have wp2 : IntKind.i64.wrap (x.er : Int) = (x.er : Int) := by rw [IntKind.wrap_i64]; omega
    have wp3 : IntKind.i64.wrap (x.sp : Int) = (x.sp : Int) := by rw [IntKind.wrap_i64]; omega
    refine wp_region_kept_tail (fun w' => Hid (RdB w w' x (.slice pa x.ch.length cap)) ∧ w'.cell? ⟨w.heap.size, 0, none⟩ = some (.int .i64 (N : Nat)) ∧ w'.cell? ⟨w.heap.size, 1, none⟩ = some (.int .u32 (x.p : Nat)) ∧ w'.cell? ⟨w.heap.size, 2, none⟩ = some (.int .i64 (R : Nat)) ∧ w'.cell? ⟨w.heap.size, 5, none⟩ = some (.int .i64 (T : Nat)) ∧ w'.cell? ⟨w.heap.size, 6, none⟩ = some (.int .u32 (x.er : Nat)) ∧ w'.cell? ⟨w.heap.size, 4, none⟩ = some (.int .u32 (x.sp : Nat))) 21 (by kernel_rfl) (by kernel_rfl) (HS _ (HD1.out.below (Below.refl _ _).drew)) ?_
    simp only [List.take_succ_cons, List.take_zero, List.drop_succ_cons, List.drop_zero]
    repeat (refine kept_value _ (by rfl) (by intro w' hSw; go_simp; with_reducible rfl) ?_; simp only [Act.put, List.setIfInBounds_toArray, List.set_cons_zero, List.set_cons_succ])
    refine kept_call _ _ (.string (dec N)) (by rfl) (by intro w' hSw; first | (go_simp; done) | (go_simp; with_reducible rfl)) (fun w' hSw => (rdecK_any N _ (by first | rfl | (rw [IntKind.wrap_i64]; omega)) w' (by omega)).mono fun ev w'' ⟨h1, h2⟩ => ⟨h1, HS w'' (hSw.1.out.below h2)⟩) ?_
    simp only [Act.put, List.setIfInBounds_toArray, List.set_cons_zero, List.set_cons_succ]
    repeat (refine kept_value _ (by rfl) (by intro w' hSw; go_simp; with_reducible rfl) ?_; simp only [Act.put, List.setIfInBounds_toArray, List.set_cons_zero, List.set_cons_succ])
    refine kept_call _ _ (.string (dec x.p)) (by rfl) (by intro w' hSw; first | (go_simp; done) | (go_simp; with_reducible rfl)) (fun w' hSw => (rdecK_any x.p _ (by first | rfl | (rw [IntKind.wrap_i64]; omega)) w' (by omega)).mono fun ev w'' ⟨h1, h2⟩ => ⟨h1, HS w'' (hSw.1.out.below h2)⟩) ?_
    simp only [Act.put, List.setIfInBounds_toArray, List.set_cons_zero, List.set_cons_succ]
    repeat (refine kept_value _ (by rfl) (by intro w' hSw; go_simp; with_reducible rfl) ?_; simp only [Act.put, List.setIfInBounds_toArray, List.set_cons_zero, List.set_cons_succ])
    refine kept_call _ _ (.string (dec R)) (by rfl) (by intro w' hSw; first | (go_simp; done) | (go_simp; with_reducible rfl)) (fun w' hSw => (rdecK_any R _ (by first | rfl | (rw [IntKind.wrap_i64]; omega)) w' (by omega)).mono fun ev w'' ⟨h1, h2⟩ => ⟨h1, HS w'' (hSw.1.out.below h2)⟩) ?_
    simp only [Act.put, List.setIfInBounds_toArray, List.set_cons_zero, List.set_cons_succ]
    repeat (refine kept_value _ (by rfl) (by intro w' hSw; go_simp; with_reducible rfl) ?_; simp only [Act.put, List.setIfInBounds_toArray, List.set_cons_zero, List.set_cons_succ])
    refine kept_call _ _ (.string (dec T)) (by rfl) (by intro w' hSw; first | (go_simp; done) | (go_simp; with_reducible rfl)) (fun w' hSw => (rdecK_any T _ (by first | rfl | (rw [IntKind.wrap_i64]; omega)) w' (by omega)).mono fun ev w'' ⟨h1, h2⟩ => ⟨h1, HS w'' (hSw.1.out.below h2)⟩) ?_
    simp only [Act.put, List.setIfInBounds_toArray, List.set_cons_zero, List.set_cons_succ]
    repeat (refine kept_value _ (by rfl) (by intro w' hSw; go_simp; with_reducible rfl) ?_; simp only [Act.put, List.setIfInBounds_toArray, List.set_cons_zero, List.set_cons_succ])
    refine kept_call _ _ (.string (dec x.er)) (by rfl) (by intro w' hSw; first | (go_simp; done) | (go_simp; with_reducible rfl)) (fun w' hSw => (rdecK_any x.er _ (by first | rfl | (rw [IntKind.wrap_i64]; omega)) w' (by omega)).mono fun ev w'' ⟨h1, h2⟩ => ⟨h1, HS w'' (hSw.1.out.below h2)⟩) ?_
    simp only [Act.put, List.setIfInBounds_toArray, List.set_cons_zero, List.set_cons_succ]
    repeat (refine kept_value _ (by rfl) (by intro w' hSw; go_simp; with_reducible rfl) ?_; simp only [Act.put, List.setIfInBounds_toArray, List.set_cons_zero, List.set_cons_succ])
    refine kept_call _ _ (.string (dec x.sp)) (by rfl) (by intro w' hSw; first | (go_simp; done) | (go_simp; with_reducible rfl)) (fun w' hSw => (rdecK_any x.sp _ (by first | rfl | (rw [IntKind.wrap_i64]; omega)) w' (by omega)).mono fun ev w'' ⟨h1, h2⟩ => ⟨h1, HS w'' (hSw.1.out.below h2)⟩) ?_
    simp only [Act.put, List.setIfInBounds_toArray, List.set_cons_zero, List.set_cons_succ]
    repeat (refine kept_value _ (by rfl) (by intro w' hSw; go_simp; with_reducible rfl) ?_; simp only [Act.put, List.setIfInBounds_toArray, List.set_cons_zero, List.set_cons_succ])
    refine kept_nil ?_
    intro W3 hSw
    obtain ⟨HD3, _⟩ := hSw
    clear HS HD1 hB hbW hlt
    have HTX : Hid (TxS W3 (W3.alloc (.cells #[.string (dec N), .string (dec x.p), .string (dec R), .string (dec T), .string (dec x.er), .string (dec x.sp)] 9)) (some ⟨W3.heap.size, 0, none⟩) 6 (strsTo x 0)) := by
      have h0 : strsTo x 0 = [dec N, dec x.p, dec R, dec T, dec x.er, dec x.sp] := by unfold strsTo; rw [HNU.out]; simp
      show TxS _ _ _ _ _
      rw [h0]
      exact ⟨⟨rfl, .inr ⟨W3.heap.size, 6, #[.string (dec N), .string (dec x.p), .string (dec R), .string (dec T), .string (dec x.er), .string (dec x.sp)], rfl, Nat.le_refl _, World.alloc_heap_new W3 _, Nat.le_refl _, by unfold maxLen; omega, rfl, rfl⟩⟩, (Below.refl _ _).alloc (Nat.le_refl _) _⟩
    have HSA : Hid (SliceAt W3 (.slice pa x.ch.length cap) x.ch) := hcv.below HD3.out.bel
    have hlt := HD3.out.lt
    go_wp2_with fail
    generalize (W3.alloc (.cells #[.string (dec N), .string (dec x.p), .string (dec R), .string (dec T), .string (dec x.er), .string (dec x.sp)] 9)) = W4 at HTX ⊢
    go_loopw [4, 5] (fun v4 vi wr => ∃ (i : Nat) (p : Option Addr) (cap : Nat), v4 = .slice p (6 + i) cap ∧ vi = .int .i64 i ∧ i ≤ x.ch.length ∧ Hid (TxS W3 wr p cap (strsTo x i))) (fun _ vi _ => x.ch.length - (intOf vi).toNat)
    case atStart => exact ⟨0, _, _, rfl, rfl, by omega, HTX⟩
    case round =>
      clear HTX
      obtain ⟨i, p, cp, rfl, rfl, hi, hI⟩ := hrel
      have y3 := (below_at hI.out.bel hlt).trans HD3.out.box.ch
      by_cases hil : i < x.ch.length
      · obtain ⟨bq, oq, rfl, hbq, hcq⟩ := slice_cell (HSA.out.below hI.out.bel) i hil
        have hq31 := H9.out (x.ch.getD i 0) (by rw [List.getD_eq_getElem?_getD, List.getElem?_eq_getElem hil]; exact List.getElem_mem _)
        have HSC := Lib.hid (strsTo_succ x hil)
        have HSL := Lib.hid (strsTo_len x hi)
        obtain ⟨q, hq⟩ : ∃ q, x.ch.getD i 0 = q := ⟨_, rfl⟩
        rw [hq] at hcq hq31 HSC
        have i0' : (0 : Int) ≤ (i : Int) := by omega
        have i1' : (i : Int) < (x.ch.length : Int) := by omega
        clear hq
        go_wp2_with fail
        refine (rdec_any q _ (by omega)).mono ?_
        rintro ev W5 ⟨rfl, hb5⟩
        have HI5 := Lib.hid (hI.out.below hb5)
        have ho := HI5.out.own
        rw [HSL.out] at ho
        have HO := Lib.hid ho
        have hbs : W3.heap.size ≤ W5.heap.size := HI5.out.bel.size
        clear ho hb5 hI hcq y3
        go_wp2_with (at_builtin; (refine wpList_append_own _ rfl _ _ 37 rfl W3.heap.size 9 iS (.string ⟨#[]⟩) 1 16 Tryd.underlying37 hiS hzS0 hzS1 hzS2 rfl (by decide) _ _ _ rfl (HO.out.alloc _) ⟨W5.heap.size, 0, none⟩ 1 1 [.string (dec q)] rfl rfl (cell_one_new _ _ _) (by simp [Value.oneCell']) (by unfold maxLen; omega) (by omega) (by simp; omega) ?_); intro v' w3 hown' hgrow _; obtain ⟨p', cap', rfl, hL⟩ := (HI5.out.alloc (.cells #[.string (dec q)] 9)).put (m := [dec q]) (by rw [HSL.out]; exact hgrow) (by rw [HSL.out]; exact hown'); rw [HSL.out]; have HL := Lib.hid hL; clear hown' hgrow hL)
        go_roundw
        case rel => exact ⟨i + 1, p', cap', rfl, by go_num, by omega, by rw [HSC.out]; exact HL⟩
        case measure => simp [intOf]; omega
      · obtain rfl : i = x.ch.length := by omega
        have hSL := strsTo_len x (Nat.le_refl x.ch.length)
        have hsl := hI.out.slice
        rw [strsTo_all] at hsl
        have hl2 : (strs x).length = 6 + x.ch.length := by rw [← strsTo_all]; exact hSL
        rw [hl2] at hsl
        have HSL := Lib.hid hsl
        clear hsl hSL hl2
        go_wp2_with fail
        refine (rlist_any 12 (by decide) _ (strs x) _ HSL.out HST.out.1 HST.out.2).mono ?_
        rintro ev W5 ⟨rfl, hb5⟩
        have HF := Lib.hid (HD3.out.bel.trans ((hI.out.bel.trans (hb5.mono hI.out.bel.size)).mono HD3.out.bel.size))
        clear hb5
        go_wp2_with fail
        go_ret2
        exact ⟨by rw [HR.out, HC.out]; rfl, HF.out⟩
end Go.Proofs.YtjfjbkocopaehaaDoor
