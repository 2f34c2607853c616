/- obscuraref12.Product. -/
import Derived.Test.YtjfjbkocopaehaaWidL
namespace Go.Proofs.Ytjfjbkocopaehaa
open Go.RowKit
set_option linter.unusedVariables false

theorem rOf_st {w W : World} {x : Par} {cv : Value} {g V n q : Nat} (h : PrS w W x cv g V n) (hq : q < 9223372036854775808) (hq0 : 0 < q) :
    Calls Try.prog 61 #[.int .i64 q] W fun e w' => (∃ m, e = .returned (.agg #[.bool false, .string (beS q m)]) ∧ ND 256 q m) ∧ PrS w w' x cv g V n :=
  (rOf_any q W hq hq0).mono fun e w' ⟨h1, hb⟩ => ⟨h1, h.below hb⟩
theorem rMul2_st {w W : World} {x : Par} {cv : Value} {g V n q m : Nat} (h : PrS w W x cv g V n) (hv : ND 256 V n) (hn : n ≤ 256) (hu : ND 256 q m) (hm : m ≤ 256) (hpos : 0 < V * q) (h256 : V * q < 256 ^ 256) :
    Calls Try.prog 62 #[.agg #[.bool false, .string (beS V n)], .agg #[.bool false, .string (beS q m)]] W fun e w' => (∃ k, e = .returned (.tuple #[.agg #[.bool false, .string (beS (V * q) k)], .int .i64 0]) ∧ ND 256 (V * q) k) ∧ PrS w w' x cv g V n :=
  (rMul_any V n q m W hv hn hu hm hpos h256).mono fun e w' ⟨h1, hb⟩ => ⟨h1, h.below hb⟩
set_option maxHeartbeats 4000000 in
set_option maxRecDepth 100000 in
theorem rprod_any (x : Par) (cv : Value) (k : Int) (w : World) (hx : ParOk x) (hcv : SliceAt w cv x.ch) (hk0 : -9223372036854775808 ≤ k) (hk1 : k ≤ 9223372036854775807) :
    Calls Try.prog 37 #[x.val cv, .int .i64 k] w fun r w' => ProdRet rPrime x k r ∧ Below w.heap.size w w' := by
  have hB : Hid (BoxP ((w.alloc (.cells #[.int .i64 x.n, .int .u32 x.p, .int .i64 x.r, cv, .int .u32 x.sp, .int .i64 x.wt, .int .u32 x.er] 25)).alloc (.cells #[.bool false, .string ⟨#[]⟩] 69)) w.heap.size x cv) := by constructor <;> simp [go_sem]
  have hR : Hid (Blk ((w.alloc (.cells #[.int .i64 x.n, .int .u32 x.p, .int .i64 x.r, cv, .int .u32 x.sp, .int .i64 x.wt, .int .u32 x.er] 25)).alloc (.cells #[.bool false, .string ⟨#[]⟩] 69)) (w.heap.size + 1) [.bool false, .string ⟨#[]⟩] 69) := by
    have h := Blk.new (w.alloc (.cells #[.int .i64 x.n, .int .u32 x.p, .int .i64 x.r, cv, .int .u32 x.sp, .int .i64 x.wt, .int .u32 x.er] 25)) #[.bool false, .string ⟨#[]⟩] 69
    show Blk _ _ _ _
    simpa using h
  have hbW : Hid (Below w.heap.size w ((w.alloc (.cells #[.int .i64 x.n, .int .u32 x.p, .int .i64 x.r, cv, .int .u32 x.sp, .int .i64 x.wt, .int .u32 x.er] 25)).alloc (.cells #[.bool false, .string ⟨#[]⟩] 69))) := ((Below.refl _ _).alloc (Nat.le_refl _) _).alloc (by simp) _
  have HS : Hid (SliceAt ((w.alloc (.cells #[.int .i64 x.n, .int .u32 x.p, .int .i64 x.r, cv, .int .u32 x.sp, .int .i64 x.wt, .int .u32 x.er] 25)).alloc (.cells #[.bool false, .string ⟨#[]⟩] 69)) cv x.ch) := hcv.below hbW.out
  have hlt : w.heap.size < ((w.alloc (.cells #[.int .i64 x.n, .int .u32 x.p, .int .i64 x.r, cv, .int .u32 x.sp, .int .i64 x.wt, .int .u32 x.er] 25)).alloc (.cells #[.bool false, .string ⟨#[]⟩] 69)).heap.size := by simp; omega
  obtain ⟨pa, cap, rfl⟩ := sliceAt_shape hcv
  unfold Par.val
  cases hok : okB rPrime x with
  | false =>
      have HC : Hid (chk rPrime x = 2) := chk_two hok
      have HN : Hid (prodB rPrime x k = false) := by show _ = _; unfold prodB; rw [hok]; rfl
      clear hok
      go_enter Try.func37, Try.ntmps37
      go_wp2_with fail
      refine (rcheck_any x (.slice pa x.ch.length cap) _ hx HS.out).mono ?_
      rintro e w1 ⟨rfl, hb1⟩
      have hr := hR.out.below hb1 hR.out.lt
      have r0 := hr.cell 0 (by simp); have r1 := hr.cell 1 (by simp); have f0 := hr.free 0; have f1 := hr.free 1
      simp only [List.getElem_cons_zero, List.getElem_cons_succ] at r0 r1
      have y3 := (hB.out.below hb1 hlt).ch
      have HB1 := Lib.hid (bel_then hb1 hbW.out (by simp; omega))
      have HBF := Lib.hid ((HB1.out.setCell (p := ⟨w.heap.size + 1, 0, none⟩) (by show w.heap.size ≤ w.heap.size + 1; omega) (.bool false)).setCell (p := ⟨w.heap.size + 1, 1, none⟩) (by show w.heap.size ≤ w.heap.size + 1; omega) (.string ⟨#[]⟩))
      have hZ := (hr.set 0 (.bool false)).set 1 (.string ⟨#[]⟩)
      have z0 := hZ.cell 0 (by simp)
      have z1 := hZ.cell 1 (by simp)
      simp only [List.set_cons_zero, List.set_cons_succ, List.getElem_cons_zero, List.getElem_cons_succ] at z0 z1
      clear hb1 hr hZ
      rw [HC.out]
      go_wp2_with fail
      refine bodyPost_ret (v := .tuple #[.agg #[.bool false, .string ⟨#[]⟩], .int .i64 2]) (by simp [results, Try.results37, go_sem, z0, z1]) rfl ⟨.inl ⟨HN.out, rfl⟩, HBF.out⟩
  | true =>
    have HC : Hid (chk rPrime x = 0) := chk_ok hok
    have HW := Lib.hid (okB_word hok)
    have hl24 := okB_len hok
    by_cases h1 : k < 1
    · have HN : Hid (prodB rPrime x k = false) := by show _ = _; unfold prodB; rw [decide_eq_false (show ¬ 1 ≤ k by omega)]; simp
      have d1 : decide (k < 1) = true := decide_eq_true h1
      clear hok
      go_enter Try.func37, Try.ntmps37
      go_wp2_with fail
      refine (rcheck_any x (.slice pa x.ch.length cap) _ hx HS.out).mono ?_
      rintro e w1 ⟨rfl, hb1⟩
      have hr := hR.out.below hb1 hR.out.lt
      have r0 := hr.cell 0 (by simp); have r1 := hr.cell 1 (by simp); have f0 := hr.free 0; have f1 := hr.free 1
      simp only [List.getElem_cons_zero, List.getElem_cons_succ] at r0 r1
      have y3 := (hB.out.below hb1 hlt).ch
      have HB1 := Lib.hid (bel_then hb1 hbW.out (by simp; omega))
      have HBF := Lib.hid ((HB1.out.setCell (p := ⟨w.heap.size + 1, 0, none⟩) (by show w.heap.size ≤ w.heap.size + 1; omega) (.bool false)).setCell (p := ⟨w.heap.size + 1, 1, none⟩) (by show w.heap.size ≤ w.heap.size + 1; omega) (.string ⟨#[]⟩))
      have hZ := (hr.set 0 (.bool false)).set 1 (.string ⟨#[]⟩)
      have z0 := hZ.cell 0 (by simp)
      have z1 := hZ.cell 1 (by simp)
      simp only [List.set_cons_zero, List.set_cons_succ, List.getElem_cons_zero, List.getElem_cons_succ] at z0 z1
      clear hb1 hr hZ
      rw [HC.out]
      go_wp2_with fail
      refine bodyPost_ret (v := .tuple #[.agg #[.bool false, .string ⟨#[]⟩], .int .i64 2]) (by simp [results, Try.results37, go_sem, z0, z1]) rfl ⟨.inl ⟨HN.out, rfl⟩, HBF.out⟩
    · by_cases h2 : (x.ch.length : Int) < k
      · have HN : Hid (prodB rPrime x k = false) := by show _ = _; unfold prodB; rw [decide_eq_false (show ¬ k ≤ (x.ch.length : Int) by omega)]; simp
        have d1 : decide (k < 1) = false := decide_eq_false h1
        have d2 : decide ((x.ch.length : Int) < k) = true := decide_eq_true h2
        clear hok
        go_enter Try.func37, Try.ntmps37
        go_wp2_with fail
        refine (rcheck_any x (.slice pa x.ch.length cap) _ hx HS.out).mono ?_
        rintro e w1 ⟨rfl, hb1⟩
        have hr := hR.out.below hb1 hR.out.lt
        have r0 := hr.cell 0 (by simp); have r1 := hr.cell 1 (by simp); have f0 := hr.free 0; have f1 := hr.free 1
        simp only [List.getElem_cons_zero, List.getElem_cons_succ] at r0 r1
        have y3 := (hB.out.below hb1 hlt).ch
        have HB1 := Lib.hid (bel_then hb1 hbW.out (by simp; omega))
        have HBF := Lib.hid ((HB1.out.setCell (p := ⟨w.heap.size + 1, 0, none⟩) (by show w.heap.size ≤ w.heap.size + 1; omega) (.bool false)).setCell (p := ⟨w.heap.size + 1, 1, none⟩) (by show w.heap.size ≤ w.heap.size + 1; omega) (.string ⟨#[]⟩))
        have hZ := (hr.set 0 (.bool false)).set 1 (.string ⟨#[]⟩)
        have z0 := hZ.cell 0 (by simp)
        have z1 := hZ.cell 1 (by simp)
        simp only [List.set_cons_zero, List.set_cons_succ, List.getElem_cons_zero, List.getElem_cons_succ] at z0 z1
        clear hb1 hr hZ
        rw [HC.out]
        go_wp2_with fail
        refine bodyPost_ret (v := .tuple #[.agg #[.bool false, .string ⟨#[]⟩], .int .i64 2]) (by simp [results, Try.results37, go_sem, z0, z1]) rfl ⟨.inl ⟨HN.out, rfl⟩, HBF.out⟩
      · obtain ⟨kn, rfl⟩ : ∃ kn : Nat, k = kn := ⟨k.toNat, by omega⟩
        obtain ⟨_, _, ea, hcap, _, hrow⟩ := hcv
        injection ea with ea1 ea2 ea3
        subst ea1 ea3
        have hkl : kn ≤ x.ch.length := by omega
        obtain ⟨b, off, rfl, hrw2⟩ := hrow (by intro h; rw [h] at hkl; simp at hkl; omega)
        have HRW := Lib.hid hrw2
        have kc0 : (0 : Int) ≤ (kn : Int) := by omega
        have kc1 : (kn : Int) ≤ (cap : Int) := by omega
        clear ea2 hrow hrw2
        have HN : Hid (prodB rPrime x kn = true) := by show _ = _; unfold prodB; rw [hok, decide_eq_true (show 1 ≤ (kn : Int) by omega), decide_eq_true (show (kn : Int) ≤ (x.ch.length : Int) by omega)]; rfl
        have d1 : decide ((kn : Int) < 1) = false := decide_eq_false h1
        have d2 : decide ((x.ch.length : Int) < (kn : Int)) = false := decide_eq_false h2
        clear hok
        go_enter Try.func37, Try.ntmps37
        go_wp2_with fail
        refine (rcheck_any x (.slice (some ⟨b, off, none⟩) x.ch.length cap) _ hx HS.out).mono ?_
        rintro e w1 ⟨rfl, hb1⟩
        have hr := hR.out.below hb1 hR.out.lt
        have hb := hB.out.below hb1 hlt
        have y3 := hb.ch
        have HB1 := Lib.hid (bel_then hb1 hbW.out (by simp; omega))
        have HBX := Lib.hid hb; have HRX := Lib.hid hr; have HSX := Lib.hid (HS.out.below hb1)
        have hlt1 := hr.lt
        clear hb1 hr hb
        rw [HC.out]
        go_wp2_with (go_at_call 61; go_loud (refine (rOf_any 1 _ (by decide) (by decide)).mono ?_; rintro e W3 ⟨⟨n, rfl, hn⟩, hb3⟩; have HND := Lib.hid hn; have HB3 := Lib.hid (HB1.out.trans (hb3.mono HB1.out.size)); have HBX3 := Lib.hid (HBX.out.below hb3 (by omega)); have HRX3 := Lib.hid (HRX.out.below hb3 hlt1); have hlt3 := HRX3.out.lt; have hne3 : w.heap.size ≠ W3.heap.size := (by omega); clear y3 hn hb3 HBX HRX HB1 HSX; have y3 : (W3.alloc (.cells #[.bool false, .string (beS 1 n)] 69)).cell? ⟨w.heap.size, 3, none⟩ = _ := (HBX3.out.below ((Below.refl _ _).alloc (Nat.le_refl _) (.cells #[.bool false, .string (beS 1 n)] 69)) (by omega)).ch))
        have hP : PrS w (W3.alloc (.cells #[.bool false, .string (beS 1 n)] 69)) x (.slice (some ⟨b, off, none⟩) x.ch.length cap) W3.heap.size 1 n := by
          have hbw : Below w.heap.size w (W3.alloc (.cells #[.bool false, .string (beS 1 n)] 69)) := HB3.out.alloc HB3.out.size _
          exact ⟨HBX3.out.below ((Below.refl _ _).alloc (Nat.le_refl _) _) (by omega), HRX3.out.alloc _, Blk.new W3 #[.bool false, .string (beS 1 n)] 69, ⟨_, _, rfl, hcap, by omega, fun _ => ⟨b, off, rfl, HRW.out.below hbw HRW.out.blk⟩⟩, hbw, hlt3⟩
        have HP := Lib.hid hP
        clear hP y3 HB3 HBX3 HRX3 hB hR hbW HS hlt hlt1 hlt3 hne3
        generalize (W3.alloc (.cells #[.bool false, .string (beS 1 n)] 69)) = W at HP ⊢
        generalize W3.heap.size = g at HP ⊢
        have HSW : Hid (SliceAt w (.slice (some ⟨b, off, none⟩) x.ch.length cap) x.ch) := ⟨_, _, rfl, hcap, by omega, fun _ => ⟨b, off, rfl, HRW.out⟩⟩
        go_loopw [7, 29] (fun vi _ wr => ∃ (i n : Nat), vi = .int .i64 i ∧ i ≤ kn ∧ Hid (ND 256 (prodN x.ch i) n) ∧ Hid (PrS w wr x (.slice (some ⟨b, off, none⟩) x.ch.length cap) g (prodN x.ch i) n)) (fun vi _ _ => kn - (intOf vi).toNat)
        case atStart => exact ⟨0, n, rfl, by omega, HND, HP⟩
        case round =>
          obtain ⟨i, m, rfl, hi, hnd, hI⟩ := hrel
          by_cases hik : i < kn
          · have hc := (HRW.out.below hI.out.bel HRW.out.blk).cell i (by omega)
            have hw := HW.out (x.ch.getD i 0) (by rw [List.getD_eq_getElem?_getD, List.getElem?_eq_getElem (by omega)]; exact List.getElem_mem _)
            rw [show x.ch[i]'(by omega) = x.ch.getD i 0 by rw [List.getD_eq_getElem?_getD, List.getElem?_eq_getElem (by omega)]; rfl] at hc
            have hbd := prodN_bd HW.out (j := i) (by omega)
            have hbd2 := prodN_bd HW.out (j := i + 1) (by omega)
            have HPE : Hid (prodN x.ch (i + 1) = prodN x.ch i * x.ch.getD i 0) := rfl
            rw [HPE.out] at hbd2
            obtain ⟨q, hq⟩ : ∃ q, x.ch.getD i 0 = q := ⟨_, rfl⟩
            obtain ⟨V, hV⟩ : ∃ V, prodN x.ch i = V := ⟨_, rfl⟩
            rw [hq] at hc hw hbd2
            have HQQ : Hid (x.ch[i]'(by omega) = q) := by
              show _ = _
              rw [← hq, List.getD_eq_getElem?_getD, List.getElem?_eq_getElem (by omega)]; rfl
            rw [hV] at hbd hbd2 hnd hI
            have HPV : Hid (prodN x.ch (i + 1) = V * q) := by show _ = _; rw [HPE.out, hq, hV]
            have HV0 := Lib.hid hbd2.1
            have hq0 : 0 < q := hw.1
            have i2 : (i : Int) < (x.ch.length : Int) := by omega
            have y3 := hI.out.box.ch
            have HV2 : Hid (V * q < 256 ^ 256) := pow_mono_lt hbd2.2 (by omega)
            have HVm : Hid (m ≤ 256) := nd_le hnd.out (pow_mono_lt hbd.2 (by omega))
            have hq63 : q < 9223372036854775808 := by omega
            have hq4 : q < 256 ^ 4 := by
              have h4 : (256 : Nat) ^ 4 = 4294967296 := by decide
              omega
            have hq256 : Hid (q < 256 ^ 256) := pow_mono_lt hq4 (by decide)
            clear hq4
            have hwq : IntKind.i64.wrap (q : Int) = (q : Int) := by rw [IntKind.wrap_i64]; omega
            have i0 : (0 : Int) ≤ (i : Int) := by omega
            have i1 : (i : Int) < (kn : Int) := by omega
            have m0 := hI.out.m0; have m1 := hI.out.m1; have f0 := hI.out.m.free 0; have f1 := hI.out.m.free 1
            clear hbd hbd2 hq hV HPE
            have HCQ : Hid (∀ W' : World, Below w.heap.size w W' → W'.cell? ⟨b, off + i, none⟩ = some (.int .u32 (q : Nat))) := by
              intro W' hb'
              have h := (HRW.out.below hb' HRW.out.blk).cell i (by omega)
              rw [HQQ.out] at h; exact h
            have HH := hI
            clear hI
            go_wp2_with fail
            go_region_with
              (first
                | (go_at_call 61; (try rw [hwq]); (with_reducible refine (rOf_st (q := q) (by first | exact HH.out | exact HH.out.drew) hq63 hq0).mono ?_); rintro e W3 ⟨⟨m2, rfl, hn2⟩, h3⟩; have HH := Lib.hid h3; have HN2 := Lib.hid hn2; have HM2 := Lib.hid (nd_le hn2 hq256.out); clear h3 hn2; have m0 := HH.out.m0; have m1 := HH.out.m1; have f0 := HH.out.m.free 0; have f1 := HH.out.m.free 1; have y3 := HH.out.box.ch; have hc := HCQ.out _ HH.out.bel)
                | (go_at_call 62; (with_reducible refine (rMul2_st (by first | exact HH.out | exact HH.out.drew) hnd.out HVm.out HN2.out HM2.out HV0.out HV2.out).mono ?_); rintro e W3 ⟨⟨m3, rfl, hn3⟩, h3⟩; have HH := Lib.hid h3; have HN3 := Lib.hid hn3; clear h3 hn3; have m0 := HH.out.m0; have m1 := HH.out.m1; have f0 := HH.out.m.free 0; have f1 := HH.out.m.free 1; have y3 := HH.out.box.ch; have hc := HCQ.out _ HH.out.bel))
            all_goals
              go_wp2_with fail
              go_roundw
              case rel => exact ⟨i + 1, m3, by go_num, by omega, by rw [HPV.out]; exact HN3, by rw [HPV.out]; exact HH.out.set HSW.out _ _⟩
              case measure => simp [intOf]; omega
          · obtain rfl : kn = i := by omega
            have c0 := hI.out.m0; have c1 := hI.out.m1
            have f0 := hI.out.r.free 0; have f1 := hI.out.r.free 1
            have r0 := hI.out.r.cell 0 (by simp); have r1 := hI.out.r.cell 1 (by simp)
            simp only [List.getElem_cons_zero, List.getElem_cons_succ] at r0 r1
            obtain ⟨S, hS⟩ : ∃ S, beS (prodN x.ch kn) m = S := ⟨_, rfl⟩
            have HSS := Lib.hid hS
            rw [hS] at c1
            have hZ := (hI.out.r.set 0 (.bool false)).set 1 (.string S)
            have z0 := hZ.cell 0 (by simp)
            have z1 := hZ.cell 1 (by simp)
            simp only [List.set_cons_zero, List.set_cons_succ, List.getElem_cons_zero, List.getElem_cons_succ] at z0 z1
            have HBF := Lib.hid ((hI.out.bel.setCell (p := ⟨w.heap.size + 1, 0, none⟩) (by show w.heap.size ≤ w.heap.size + 1; omega) (.bool false)).setCell (p := ⟨w.heap.size + 1, 1, none⟩) (by show w.heap.size ≤ w.heap.size + 1; omega) (.string S))
            clear hS hZ
            go_wp2_with fail
            refine bodyPost_ret (v := .tuple #[.agg #[.bool false, .string S], .int .i64 0]) (by simp [results, Try.results37, go_sem, z0, z1]) rfl ⟨.inr ⟨HN.out, m, hnd.out, by rw [Int.toNat_natCast, HSS.out]⟩, HBF.out⟩
end Go.Proofs.Ytjfjbkocopaehaa
