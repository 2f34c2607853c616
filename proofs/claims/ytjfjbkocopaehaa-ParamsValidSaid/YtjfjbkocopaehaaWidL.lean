/- params.Product. -/
import Derived.Test.YtjfjbkocopaehaaWidK
import Derived.Test.YtjfjbkocopaehaaDefE
import Derived.Test.YtjfjbkocopaehaaSupH
import Derived.Deep.RegionLaw
namespace Go.Proofs.Ytjfjbkocopaehaa
open Go.RowKit
set_option linter.unusedVariables false

/-- The product of the first words. -/
def prodN (l : List Nat) : Nat → Nat
  | 0 => 1
  | j + 1 => prodN l j * l.getD j 0
theorem okB_len {pr : Nat → Bool} {x : Par} (h : okB pr x = true) : x.ch.length ≤ 24 := by
  unfold okB at h
  simp only [Bool.and_eq_true] at h
  have := h.2.2.1
  unfold lenB at this
  have := of_decide_eq_true this
  omega
theorem okB_word {pr : Nat → Bool} {x : Par} (h : okB pr x = true) : ∀ q, q ∈ x.ch → 0 < q ∧ q ≤ 2147483647 := by
  intro q hq
  unfold okB at h
  simp only [Bool.and_eq_true] at h
  have h1 := h.2.2.2.2.2.1
  rw [Bool.not_eq_true', List.any_eq_false] at h1
  have h2 := h1 q hq
  unfold badB goodS at h2
  simp only [Bool.not_eq_true', Bool.not_eq_false, Bool.and_eq_true, decide_eq_true_eq] at h2
  omega
theorem prodN_bd {l : List Nat} (h : ∀ q, q ∈ l → 0 < q ∧ q ≤ 2147483647) {j : Nat} (hj : j ≤ l.length) : 0 < prodN l j ∧ prodN l j < 256 ^ (4 * j + 1) := by
  induction j with
  | zero => exact ⟨Nat.zero_lt_one, by show 1 < 256 ^ 1; decide⟩
  | succ j ih =>
    obtain ⟨h1, h2⟩ := ih (by omega)
    have hm := h (l.getD j 0) (by rw [List.getD_eq_getElem?_getD, List.getElem?_eq_getElem (by omega)]; exact List.getElem_mem _)
    refine ⟨Nat.mul_pos h1 hm.1, ?_⟩
    show prodN l j * l.getD j 0 < _
    rw [show 4 * (j + 1) + 1 = (4 * j + 1) + 4 by omega, Nat.pow_add]
    exact Nat.mul_lt_mul_of_lt_of_le h2 (by omega) (by decide)
/-- Is a level one of the chain's? -/
def prodB (pr : Nat → Bool) (x : Par) (k : Int) : Bool := okB pr x && (decide (1 ≤ k) && decide (k ≤ x.ch.length))
/-- What Product answers. -/
def ProdRet (pr : Nat → Bool) (x : Par) (k : Int) (e : Ending) : Prop :=
  (prodB pr x k = false ∧ e = .returned (.tuple #[.agg #[.bool false, .string ⟨#[]⟩], .int .i64 2])) ∨
  (prodB pr x k = true ∧ ∃ n, ND 256 (prodN x.ch k.toNat) n ∧ e = .returned (.tuple #[.agg #[.bool false, .string (beS (prodN x.ch k.toNat) n)], .int .i64 0]))
theorem prodB_eq (x : Par) (k : Int) : prodB mPrime x k = prodB rPrime x k := by unfold prodB; rw [okB_eq]

/-- What Product holds in its loop. -/
structure PrS (w W : World) (x : Par) (cv : Value) (g V n : Nat) : Prop where
  box : BoxP W w.heap.size x cv
  r : Blk W (w.heap.size + 1) [.bool false, .string ⟨#[]⟩] 69
  m : Blk W g [.bool false, .string (beS V n)] 69
  sl : SliceAt W cv x.ch
  bel : Below w.heap.size w W
  gg : w.heap.size + 1 < g
theorem PrS.below {w W W' : World} {x : Par} {cv : Value} {g V n : Nat} (h : PrS w W x cv g V n) (hb : Below W.heap.size W W') : PrS w W' x cv g V n := by
  have h1 := h.m.lt
  have h2 := h.gg
  exact ⟨h.box.below hb (by omega), h.r.below hb (by omega), h.m.below hb h1, h.sl.below hb, h.bel.trans (hb.mono h.bel.size), h.gg⟩
theorem PrS.drew {w W : World} {x : Par} {cv : Value} {g V n : Nat} (h : PrS w W x cv g V n) : PrS w W.drew x cv g V n := h.below (Below.refl _ _).drew
theorem PrS.set {w W : World} {x : Par} {cv : Value} {g V n : Nat} (h : PrS w W x cv g V n) (hs : SliceAt w cv x.ch) (V' n' : Nat) : PrS w ((W.setCell ⟨g, 0, none⟩ (.bool false)).setCell ⟨g, 1, none⟩ (.string (beS V' n'))) x cv g V' n' := by
  have h2 := h.gg
  have hb : Below g W ((W.setCell ⟨g, 0, none⟩ (.bool false)).setCell ⟨g, 1, none⟩ (.string (beS V' n'))) := ((Below.refl _ _).setCell (p := ⟨g, 0, none⟩) (Nat.le_refl _) _).setCell (p := ⟨g, 1, none⟩) (Nat.le_refl _) _
  have hb2 := h.bel.trans (hb.mono (by omega : w.heap.size ≤ g))
  exact ⟨h.box.below hb (by omega), h.r.below hb (by omega), (h.m.set 0 (.bool false)).set 1 (.string (beS V' n')), hs.below hb2, hb2, h.gg⟩
theorem wOf_st {w W : World} {x : Par} {cv : Value} {g V n q : Nat} (h : PrS w W x cv g V n) (hq : q < 9223372036854775808) :
    Calls Try.prog 59 #[.int .i64 q] W fun e w' => (∃ m, e = .returned (.agg #[.bool false, .string (beS q m)]) ∧ ND 256 q m) ∧ PrS w w' x cv g V n :=
  (wOf_any q W hq).mono fun e w' ⟨h1, hb⟩ => ⟨h1, h.below hb⟩
theorem wMul_st {w W : World} {x : Par} {cv : Value} {g V n q m : Nat} (h : PrS w W x cv g V n) (hv : ND 256 V n) (hn : n ≤ 256) (hu : ND 256 q m) (hm : m ≤ 256) (hpos : 0 < V) (h256 : V * q < 256 ^ 256) :
    Calls Try.prog 60 #[.agg #[.bool false, .string (beS V n)], .agg #[.bool false, .string (beS q m)]] W fun e w' => (∃ k, e = .returned (.tuple #[.agg #[.bool false, .string (beS (V * q) k)], .int .i64 0]) ∧ ND 256 (V * q) k) ∧ PrS w w' x cv g V n :=
  (wMul_any V n q m W hv hn hu hm hpos h256).mono fun e w' ⟨h1, hb⟩ => ⟨h1, h.below hb⟩
theorem PrS.m0 {w W : World} {x : Par} {cv : Value} {g V n : Nat} (h : PrS w W x cv g V n) : W.cell? ⟨g, 0, none⟩ = some (.bool false) := h.m.cell 0 (by simp)
theorem PrS.m1 {w W : World} {x : Par} {cv : Value} {g V n : Nat} (h : PrS w W x cv g V n) : W.cell? ⟨g, 1, none⟩ = some (.string (beS V n)) := h.m.cell 1 (by simp)

set_option maxHeartbeats 4000000 in
set_option maxRecDepth 100000 in
theorem pprod_any (x : Par) (cv : Value) (k : Int) (w : World) (hx : ParOk x) (hcv : SliceAt w cv x.ch) (hk0 : -9223372036854775808 ≤ k) (hk1 : k ≤ 9223372036854775807) :
    Calls Try.prog 36 #[x.val cv, .int .i64 k] w fun r w' => ProdRet mPrime x k r ∧ Below w.heap.size w w' := by
  have hB : Hid (BoxP ((w.alloc (.cells #[.int .i64 x.n, .int .u32 x.p, .int .i64 x.r, cv, .int .u32 x.sp, .int .i64 x.wt, .int .u32 x.er] 25)).alloc (.cells #[.bool false, .string ⟨#[]⟩] 69)) w.heap.size x cv) := by constructor <;> simp [go_sem]
  have hR : Hid (Blk ((w.alloc (.cells #[.int .i64 x.n, .int .u32 x.p, .int .i64 x.r, cv, .int .u32 x.sp, .int .i64 x.wt, .int .u32 x.er] 25)).alloc (.cells #[.bool false, .string ⟨#[]⟩] 69)) (w.heap.size + 1) [.bool false, .string ⟨#[]⟩] 69) := by
    have h := Blk.new (w.alloc (.cells #[.int .i64 x.n, .int .u32 x.p, .int .i64 x.r, cv, .int .u32 x.sp, .int .i64 x.wt, .int .u32 x.er] 25)) #[.bool false, .string ⟨#[]⟩] 69
    show Blk _ _ _ _
    simpa using h
  have hbW : Hid (Below w.heap.size w ((w.alloc (.cells #[.int .i64 x.n, .int .u32 x.p, .int .i64 x.r, cv, .int .u32 x.sp, .int .i64 x.wt, .int .u32 x.er] 25)).alloc (.cells #[.bool false, .string ⟨#[]⟩] 69))) := ((Below.refl _ _).alloc (Nat.le_refl _) _).alloc (by simp) _
  have HS : Hid (SliceAt ((w.alloc (.cells #[.int .i64 x.n, .int .u32 x.p, .int .i64 x.r, cv, .int .u32 x.sp, .int .i64 x.wt, .int .u32 x.er] 25)).alloc (.cells #[.bool false, .string ⟨#[]⟩] 69)) cv x.ch) := hcv.below hbW.out
  have hlt : w.heap.size < ((w.alloc (.cells #[.int .i64 x.n, .int .u32 x.p, .int .i64 x.r, cv, .int .u32 x.sp, .int .i64 x.wt, .int .u32 x.er] 25)).alloc (.cells #[.bool false, .string ⟨#[]⟩] 69)).heap.size := by simp; omega
  obtain ⟨pa, cap, rfl⟩ := sliceAt_shape hcv
  unfold Par.val
  cases hok : okB mPrime x with
  | false =>
      have HC : Hid (chk mPrime x = 2) := chk_two hok
      have HN : Hid (prodB mPrime x k = false) := by show _ = _; unfold prodB; rw [hok]; rfl
      clear hok
      go_enter Try.func36, Try.ntmps36
      go_wp2_with fail
      refine (pcheck_any x (.slice pa x.ch.length cap) _ hx HS.out).mono ?_
      rintro e w1 ⟨rfl, hb1⟩
      have hr := hR.out.below hb1 hR.out.lt
      have r0 := hr.cell 0 (by simp); have r1 := hr.cell 1 (by simp); have f0 := hr.free 0; have f1 := hr.free 1
      simp only [List.getElem_cons_zero, List.getElem_cons_succ] at r0 r1
      have y3 := (hB.out.below hb1 hlt).ch
      have HB1 := Lib.hid (bel_then hb1 hbW.out (by simp; omega))
      have HBF := Lib.hid ((HB1.out.setCell (p := ⟨w.heap.size + 1, 0, none⟩) (by show w.heap.size ≤ w.heap.size + 1; omega) (.bool false)).setCell (p := ⟨w.heap.size + 1, 1, none⟩) (by show w.heap.size ≤ w.heap.size + 1; omega) (.string ⟨#[]⟩))
      have hZ := (hr.set 0 (.bool false)).set 1 (.string ⟨#[]⟩)
      have z0 := hZ.cell 0 (by simp)
      have z1 := hZ.cell 1 (by simp)
      simp only [List.set_cons_zero, List.set_cons_succ, List.getElem_cons_zero, List.getElem_cons_succ] at z0 z1
      clear hb1 hr hZ
      rw [HC.out]
      go_wp2_with fail
      refine bodyPost_ret (v := .tuple #[.agg #[.bool false, .string ⟨#[]⟩], .int .i64 2]) (by simp [results, Try.results36, go_sem, z0, z1]) rfl ⟨.inl ⟨HN.out, rfl⟩, HBF.out⟩
  | true =>
    have HC : Hid (chk mPrime x = 0) := chk_ok hok
    have HW := Lib.hid (okB_word hok)
    have hl24 := okB_len hok
    by_cases h1 : k < 1
    · have HN : Hid (prodB mPrime x k = false) := by show _ = _; unfold prodB; rw [decide_eq_false (show ¬ 1 ≤ k by omega)]; simp
      have d1 : decide (k < 1) = true := decide_eq_true h1
      clear hok
      go_enter Try.func36, Try.ntmps36
      go_wp2_with fail
      refine (pcheck_any x (.slice pa x.ch.length cap) _ hx HS.out).mono ?_
      rintro e w1 ⟨rfl, hb1⟩
      have hr := hR.out.below hb1 hR.out.lt
      have r0 := hr.cell 0 (by simp); have r1 := hr.cell 1 (by simp); have f0 := hr.free 0; have f1 := hr.free 1
      simp only [List.getElem_cons_zero, List.getElem_cons_succ] at r0 r1
      have y3 := (hB.out.below hb1 hlt).ch
      have HB1 := Lib.hid (bel_then hb1 hbW.out (by simp; omega))
      have HBF := Lib.hid ((HB1.out.setCell (p := ⟨w.heap.size + 1, 0, none⟩) (by show w.heap.size ≤ w.heap.size + 1; omega) (.bool false)).setCell (p := ⟨w.heap.size + 1, 1, none⟩) (by show w.heap.size ≤ w.heap.size + 1; omega) (.string ⟨#[]⟩))
      have hZ := (hr.set 0 (.bool false)).set 1 (.string ⟨#[]⟩)
      have z0 := hZ.cell 0 (by simp)
      have z1 := hZ.cell 1 (by simp)
      simp only [List.set_cons_zero, List.set_cons_succ, List.getElem_cons_zero, List.getElem_cons_succ] at z0 z1
      clear hb1 hr hZ
      rw [HC.out]
      go_wp2_with fail
      refine bodyPost_ret (v := .tuple #[.agg #[.bool false, .string ⟨#[]⟩], .int .i64 2]) (by simp [results, Try.results36, go_sem, z0, z1]) rfl ⟨.inl ⟨HN.out, rfl⟩, HBF.out⟩
    · by_cases h2 : (x.ch.length : Int) < k
      · have HN : Hid (prodB mPrime x k = false) := by show _ = _; unfold prodB; rw [decide_eq_false (show ¬ k ≤ (x.ch.length : Int) by omega)]; simp
        have d1 : decide (k < 1) = false := decide_eq_false h1
        have d2 : decide ((x.ch.length : Int) < k) = true := decide_eq_true h2
        clear hok
        go_enter Try.func36, Try.ntmps36
        go_wp2_with fail
        refine (pcheck_any x (.slice pa x.ch.length cap) _ hx HS.out).mono ?_
        rintro e w1 ⟨rfl, hb1⟩
        have hr := hR.out.below hb1 hR.out.lt
        have r0 := hr.cell 0 (by simp); have r1 := hr.cell 1 (by simp); have f0 := hr.free 0; have f1 := hr.free 1
        simp only [List.getElem_cons_zero, List.getElem_cons_succ] at r0 r1
        have y3 := (hB.out.below hb1 hlt).ch
        have HB1 := Lib.hid (bel_then hb1 hbW.out (by simp; omega))
        have HBF := Lib.hid ((HB1.out.setCell (p := ⟨w.heap.size + 1, 0, none⟩) (by show w.heap.size ≤ w.heap.size + 1; omega) (.bool false)).setCell (p := ⟨w.heap.size + 1, 1, none⟩) (by show w.heap.size ≤ w.heap.size + 1; omega) (.string ⟨#[]⟩))
        have hZ := (hr.set 0 (.bool false)).set 1 (.string ⟨#[]⟩)
        have z0 := hZ.cell 0 (by simp)
        have z1 := hZ.cell 1 (by simp)
        simp only [List.set_cons_zero, List.set_cons_succ, List.getElem_cons_zero, List.getElem_cons_succ] at z0 z1
        clear hb1 hr hZ
        rw [HC.out]
        go_wp2_with fail
        refine bodyPost_ret (v := .tuple #[.agg #[.bool false, .string ⟨#[]⟩], .int .i64 2]) (by simp [results, Try.results36, go_sem, z0, z1]) rfl ⟨.inl ⟨HN.out, rfl⟩, HBF.out⟩
      · obtain ⟨kn, rfl⟩ : ∃ kn : Nat, k = kn := ⟨k.toNat, by omega⟩
        obtain ⟨_, _, ea, hcap, _, hrow⟩ := hcv
        injection ea with ea1 ea2 ea3
        subst ea1 ea3
        have hkl : kn ≤ x.ch.length := by omega
        obtain ⟨b, off, rfl, hrw2⟩ := hrow (by intro h; rw [h] at hkl; simp at hkl; omega)
        have HRW := Lib.hid hrw2
        have kc0 : (0 : Int) ≤ (kn : Int) := by omega
        have kc1 : (kn : Int) ≤ (cap : Int) := by omega
        clear ea2 hrow hrw2
        have HN : Hid (prodB mPrime x kn = true) := by show _ = _; unfold prodB; rw [hok, decide_eq_true (show 1 ≤ (kn : Int) by omega), decide_eq_true (show (kn : Int) ≤ (x.ch.length : Int) by omega)]; rfl
        have d1 : decide ((kn : Int) < 1) = false := decide_eq_false h1
        have d2 : decide ((x.ch.length : Int) < (kn : Int)) = false := decide_eq_false h2
        clear hok
        go_enter Try.func36, Try.ntmps36
        go_wp2_with fail
        refine (pcheck_any x (.slice (some ⟨b, off, none⟩) x.ch.length cap) _ hx HS.out).mono ?_
        rintro e w1 ⟨rfl, hb1⟩
        have hr := hR.out.below hb1 hR.out.lt
        have hb := hB.out.below hb1 hlt
        have y3 := hb.ch
        have HB1 := Lib.hid (bel_then hb1 hbW.out (by simp; omega))
        have HBX := Lib.hid hb; have HRX := Lib.hid hr; have HSX := Lib.hid (HS.out.below hb1)
        have hlt1 := hr.lt
        clear hb1 hr hb
        rw [HC.out]
        go_wp2_with (go_at_call 59; go_loud (refine (wOf_any 1 _ (by decide)).mono ?_; rintro e W3 ⟨⟨n, rfl, hn⟩, hb3⟩; have HND := Lib.hid hn; have HB3 := Lib.hid (HB1.out.trans (hb3.mono HB1.out.size)); have HBX3 := Lib.hid (HBX.out.below hb3 (by omega)); have HRX3 := Lib.hid (HRX.out.below hb3 hlt1); have hlt3 := HRX3.out.lt; have hne3 : w.heap.size ≠ W3.heap.size := (by omega); clear y3 hn hb3 HBX HRX HB1 HSX; have y3 : (W3.alloc (.cells #[.bool false, .string (beS 1 n)] 69)).cell? ⟨w.heap.size, 3, none⟩ = _ := (HBX3.out.below ((Below.refl _ _).alloc (Nat.le_refl _) (.cells #[.bool false, .string (beS 1 n)] 69)) (by omega)).ch))
        have hP : PrS w (W3.alloc (.cells #[.bool false, .string (beS 1 n)] 69)) x (.slice (some ⟨b, off, none⟩) x.ch.length cap) W3.heap.size 1 n := by
          have hbw : Below w.heap.size w (W3.alloc (.cells #[.bool false, .string (beS 1 n)] 69)) := HB3.out.alloc HB3.out.size _
          exact ⟨HBX3.out.below ((Below.refl _ _).alloc (Nat.le_refl _) _) (by omega), HRX3.out.alloc _, Blk.new W3 #[.bool false, .string (beS 1 n)] 69, ⟨_, _, rfl, hcap, by omega, fun _ => ⟨b, off, rfl, HRW.out.below hbw HRW.out.blk⟩⟩, hbw, hlt3⟩
        have HP := Lib.hid hP
        clear hP y3 HB3 HBX3 HRX3 hB hR hbW HS hlt hlt1 hlt3 hne3
        generalize (W3.alloc (.cells #[.bool false, .string (beS 1 n)] 69)) = W at HP ⊢
        generalize W3.heap.size = g at HP ⊢
        have HSW : Hid (SliceAt w (.slice (some ⟨b, off, none⟩) x.ch.length cap) x.ch) := ⟨_, _, rfl, hcap, by omega, fun _ => ⟨b, off, rfl, HRW.out⟩⟩
        go_loopw [8, 30, 34] (fun _ vi _ wr => ∃ (i n : Nat), vi = .int .i64 i ∧ i ≤ kn ∧ Hid (ND 256 (prodN x.ch i) n) ∧ Hid (PrS w wr x (.slice (some ⟨b, off, none⟩) x.ch.length cap) g (prodN x.ch i) n)) (fun _ vi _ _ => kn - (intOf vi).toNat)
        case atStart => exact ⟨0, n, rfl, by omega, HND, HP⟩
        case round =>
          obtain ⟨i, m, rfl, hi, hnd, hI⟩ := hrel
          by_cases hik : i < kn
          · have hc := (HRW.out.below hI.out.bel HRW.out.blk).cell i (by omega)
            have hw := HW.out (x.ch.getD i 0) (by rw [List.getD_eq_getElem?_getD, List.getElem?_eq_getElem (by omega)]; exact List.getElem_mem _)
            rw [show x.ch[i]'(by omega) = x.ch.getD i 0 by rw [List.getD_eq_getElem?_getD, List.getElem?_eq_getElem (by omega)]; rfl] at hc
            have hbd := prodN_bd HW.out (j := i) (by omega)
            have hbd2 := prodN_bd HW.out (j := i + 1) (by omega)
            have HPE : Hid (prodN x.ch (i + 1) = prodN x.ch i * x.ch.getD i 0) := rfl
            rw [HPE.out] at hbd2
            obtain ⟨q, hq⟩ : ∃ q, x.ch.getD i 0 = q := ⟨_, rfl⟩
            obtain ⟨V, hV⟩ : ∃ V, prodN x.ch i = V := ⟨_, rfl⟩
            rw [hq] at hc hw hbd2
            rw [hV] at hbd hbd2 hnd hI
            have HPV : Hid (prodN x.ch (i + 1) = V * q) := by show _ = _; rw [HPE.out, hq, hV]
            have HV0 := Lib.hid hbd.1
            have HV2 : Hid (V * q < 256 ^ 256) := pow_mono_lt hbd2.2 (by omega)
            have HVm : Hid (m ≤ 256) := nd_le hnd.out (pow_mono_lt hbd.2 (by omega))
            have hq63 : q < 9223372036854775808 := by omega
            have hq4 : q < 256 ^ 4 := by
              have h4 : (256 : Nat) ^ 4 = 4294967296 := by decide
              omega
            have hq256 : Hid (q < 256 ^ 256) := pow_mono_lt hq4 (by decide)
            clear hq4
            have hwq : IntKind.i64.wrap (q : Int) = (q : Int) := by rw [IntKind.wrap_i64]; omega
            have i0 : (0 : Int) ≤ (i : Int) := by omega
            have i1 : (i : Int) < (kn : Int) := by omega
            have m0 := hI.out.m0; have m1 := hI.out.m1; have f0 := hI.out.m.free 0; have f1 := hI.out.m.free 1
            clear hbd hbd2 hq hV HPE
            have HH := hI
            clear hI
            go_wp2_with fail
            go_region_with
              (first
                | (go_at_call 59; (try rw [hwq]); (with_reducible refine (wOf_st (q := q) (by first | exact HH.out | exact HH.out.drew) hq63).mono ?_); rintro e W3 ⟨⟨m2, rfl, hn2⟩, h3⟩; have HH := Lib.hid h3; have HN2 := Lib.hid hn2; have HM2 := Lib.hid (nd_le hn2 hq256.out); clear h3 hn2; have m0 := HH.out.m0; have m1 := HH.out.m1; have f0 := HH.out.m.free 0; have f1 := HH.out.m.free 1)
                | (go_at_call 60; (with_reducible refine (wMul_st (by first | exact HH.out | exact HH.out.drew) hnd.out HVm.out HN2.out HM2.out HV0.out HV2.out).mono ?_); rintro e W3 ⟨⟨m3, rfl, hn3⟩, h3⟩; have HH := Lib.hid h3; have HN3 := Lib.hid hn3; clear h3 hn3; have m0 := HH.out.m0; have m1 := HH.out.m1; have f0 := HH.out.m.free 0; have f1 := HH.out.m.free 1))
            all_goals
              go_wp2_with fail
              go_roundw
              case rel => exact ⟨i + 1, m3, by go_num, by omega, by rw [HPV.out]; exact HN3, by rw [HPV.out]; exact HH.out.set HSW.out _ _⟩
              case measure => simp [intOf]; omega
          · obtain rfl : kn = i := by omega
            have c0 := hI.out.m0; have c1 := hI.out.m1
            have f0 := hI.out.r.free 0; have f1 := hI.out.r.free 1
            have r0 := hI.out.r.cell 0 (by simp); have r1 := hI.out.r.cell 1 (by simp)
            simp only [List.getElem_cons_zero, List.getElem_cons_succ] at r0 r1
            obtain ⟨S, hS⟩ : ∃ S, beS (prodN x.ch kn) m = S := ⟨_, rfl⟩
            have HSS := Lib.hid hS
            rw [hS] at c1
            have hZ := (hI.out.r.set 0 (.bool false)).set 1 (.string S)
            have z0 := hZ.cell 0 (by simp)
            have z1 := hZ.cell 1 (by simp)
            simp only [List.set_cons_zero, List.set_cons_succ, List.getElem_cons_zero, List.getElem_cons_succ] at z0 z1
            have HBF := Lib.hid ((hI.out.bel.setCell (p := ⟨w.heap.size + 1, 0, none⟩) (by show w.heap.size ≤ w.heap.size + 1; omega) (.bool false)).setCell (p := ⟨w.heap.size + 1, 1, none⟩) (by show w.heap.size ≤ w.heap.size + 1; omega) (.string S))
            clear hS hZ
            go_wp2_with fail
            refine bodyPost_ret (v := .tuple #[.agg #[.bool false, .string S], .int .i64 0]) (by simp [results, Try.results36, go_sem, z0, z1]) rfl ⟨.inr ⟨HN.out, m, hnd.out, by rw [Int.toNat_natCast, HSS.out]⟩, HBF.out⟩
end Go.Proofs.Ytjfjbkocopaehaa
