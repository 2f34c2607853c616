/- Digests of parameters: params.Digest. -/
import Derived.Test.YtjfjbkocopaehaaDoorDigB
namespace Go.Proofs.YtjfjbkocopaehaaDoor
open Go.RowKit
set_option linter.unusedVariables false

/-- What valid parameters are at most. -/
theorem okB_small {pr : Nat → Bool} {x : Par} (h : okB pr x = true) : 4 ≤ x.n ∧ x.n ≤ 32 ∧ 1 ≤ x.r ∧ 1 ≤ x.wt ∧ x.wt ≤ 32 ∧ x.er ≤ 64 ∧ x.sp ≤ 2147483647 ∧ x.ch.length ≤ 24 ∧ ∀ q, q ∈ x.ch → q ≤ 2147483647 := by
  have hd := okB_dim h
  unfold okB at h
  simp only [Bool.and_eq_true, decide_eq_true_eq, Bool.not_eq_true'] at h
  obtain ⟨_, h2, h3, h4, h5, h6, _⟩ := h
  have hr : 1 ≤ x.r := by
    apply Classical.byContradiction
    intro hc
    unfold Par.t powv at h2
    rw [if_neg (by intro h; exact hc h.2.2.2.2.1)] at h2
    omega
  unfold lenB at h3
  unfold wtB at h4
  have h3' := of_decide_eq_true h3
  have h4' := of_decide_eq_true h4
  unfold goodS at h5
  simp only [Bool.and_eq_true, decide_eq_true_eq] at h5
  refine ⟨hd.1, hd.2, hr, h4'.1, by omega, h4'.2.2, h5.2.1, h3'.2, fun q hq => ?_⟩
  have h7 := (List.any_eq_false.1 h6) q hq
  unfold badB goodS at h7
  simp only [Bool.not_eq_true', Bool.not_eq_false, Bool.and_eq_true, decide_eq_true_eq] at h7
  omega
/-- The first numbers of a digest. -/
def nums (x : Par) : List Nat := [x.n.toNat, x.p, x.r.toNat, x.wt.toNat, x.er, x.sp]
/-- The texts of a digest. -/
def strsTo (x : Par) (i : Nat) : List ByteArray := (nums x).map dec ++ (x.ch.take i).map dec
def strs (x : Par) : List ByteArray := (nums x).map dec ++ x.ch.map dec
def digS (pr : Nat → Bool) (x : Par) : ByteArray := if okB pr x then listS 12 (strs x) else ⟨#[]⟩
theorem digS_eq (x : Par) : digS mPrime x = digS rPrime x := by unfold digS; rw [okB_eq]
theorem strsTo_len (x : Par) {i : Nat} (h : i ≤ x.ch.length) : (strsTo x i).length = 6 + i := by
  unfold strsTo
  rw [List.length_append, List.length_map, List.length_map, List.length_take]
  show 6 + _ = _
  omega
theorem strsTo_succ (x : Par) {i : Nat} (h : i < x.ch.length) : strsTo x (i + 1) = strsTo x i ++ [dec (x.ch.getD i 0)] := by
  unfold strsTo
  rw [List.take_add_one, List.getElem?_eq_getElem h, List.map_append, ← List.append_assoc, List.getD_eq_getElem?_getD, List.getElem?_eq_getElem h]; rfl
theorem strsTo_all (x : Par) : strsTo x x.ch.length = strs x := by unfold strsTo strs; rw [List.take_length]
theorem nums_small {pr : Nat → Bool} {x : Par} (hx : ParOk x) (h : okB pr x = true) : ∀ z, z ∈ nums x → z < 9223372036854775808 := by
  obtain ⟨h1, h2, h3, h4, h5, h6, h7, _, _⟩ := okB_small h
  have hp := hx.p1; have hr := hx.r1
  intro z hz
  simp only [nums, List.mem_cons, List.not_mem_nil, or_false] at hz
  rcases hz with rfl | rfl | rfl | rfl | rfl | rfl <;> omega
theorem strs_small {pr : Nat → Bool} {x : Par} (hx : ParOk x) (h : okB pr x = true) : (strs x).length ≤ 1000 ∧ ∀ s, s ∈ strs x → s.size ≤ 1000000 := by
  obtain ⟨_, _, _, _, _, _, _, h8, h9⟩ := okB_small h
  refine ⟨by unfold strs; rw [List.length_append, List.length_map, List.length_map]; show 6 + _ ≤ _; omega, fun s hs => ?_⟩
  unfold strs at hs
  rcases List.mem_append.1 hs with hs | hs
  · obtain ⟨z, hz, rfl⟩ := List.mem_map.1 hs
    have := dec_size63 (nums_small hx h z hz); omega
  · obtain ⟨z, hz, rfl⟩ := List.mem_map.1 hs
    have := dec_size63 (n := z) (by have := h9 z hz; omega); omega

theorem slice_cell {w : World} {p : Option Addr} {n cap : Nat} {l : List Nat} (h : SliceAt w (.slice p n cap) l) (i : Nat) (hi : i < l.length) : ∃ b off, p = some ⟨b, off, none⟩ ∧ b < w.heap.size ∧ w.cell? ⟨b, off + i, none⟩ = some (.int .u32 (l.getD i 0 : Nat)) := by
  obtain ⟨_, _, ea, _, _, hrow⟩ := h
  injection ea with ea1 ea2 ea3
  subst ea1
  obtain ⟨b, off, rfl, hr⟩ := hrow (by intro e; rw [e] at hi; simp at hi)
  refine ⟨b, off, rfl, hr.blk, ?_⟩
  rw [hr.cell i hi, List.getD_eq_getElem?_getD, List.getElem?_eq_getElem hi]; rfl

set_option maxHeartbeats 4000000 in
set_option maxRecDepth 100000 in
theorem pdig_any (x : Par) (cv : Value) (w : World) (hx : ParOk x) (hcv : SliceAt w cv x.ch) (ht : Tab w) :
    Calls Tryd.prog 6 #[x.val cv] w fun e w' => e = .returned (.tuple #[.string (digS mPrime x), .int .i64 (chk mPrime x)]) ∧ Below w.heap.size w w' := by
  obtain ⟨iS, hiS, hzS0, hzS1, hzS2⟩ := info_parts infoStr
  have hB : Hid (BoxP (w.alloc (.cells #[.int .i64 x.n, .int .u32 x.p, .int .i64 x.r, cv, .int .u32 x.sp, .int .i64 x.wt, .int .u32 x.er] 25)) w.heap.size x cv) := by constructor <;> simp [go_sem]
  have hbW : Hid (Below w.heap.size w (w.alloc (.cells #[.int .i64 x.n, .int .u32 x.p, .int .i64 x.r, cv, .int .u32 x.sp, .int .i64 x.wt, .int .u32 x.er] 25))) := (Below.refl _ _).alloc (Nat.le_refl _) _
  have HS : Hid (SliceAt (w.alloc (.cells #[.int .i64 x.n, .int .u32 x.p, .int .i64 x.r, cv, .int .u32 x.sp, .int .i64 x.wt, .int .u32 x.er] 25)) cv x.ch) := hcv.below hbW.out
  have hlt : w.heap.size < (w.alloc (.cells #[.int .i64 x.n, .int .u32 x.p, .int .i64 x.r, cv, .int .u32 x.sp, .int .i64 x.wt, .int .u32 x.er] 25)).heap.size := by simp
  have HT0 := Lib.hid (ht.below hbW.out)
  obtain ⟨pa, cap, rfl⟩ := sliceAt_shape hcv
  unfold Par.val
  cases hok : okB mPrime x with
  | false =>
    have HC : Hid (chk mPrime x = 2) := chk_two hok
    have HR : Hid (digS mPrime x = ⟨#[]⟩) := by show _ = _; unfold digS; rw [hok]; rfl
    clear hok
    go_enter Tryd.func6, Tryd.ntmps6
    go_wp2_with fail
    refine (pcheck_any x (.slice pa x.ch.length cap) _ hx HS.out).mono ?_
    rintro e w1 ⟨rfl, hb1⟩
    have HB1 := Lib.hid (bel_then hb1 hbW.out (by simp))
    clear hb1
    rw [HC.out]
    go_wp2_with fail
    go_ret2
    exact ⟨by rw [HR.out, HC.out]; rfl, HB1.out⟩
  | true =>
    have HC : Hid (chk mPrime x = 0) := chk_ok hok
    have HR : Hid (digS mPrime x = listS 12 (strs x)) := by show _ = _; unfold digS; rw [hok]; rfl
    have HN := Lib.hid (nums_small hx hok)
    have HST := Lib.hid (strs_small hx hok)
    obtain ⟨h1, h2, h3, h4, h5, h6, h7, h8, h9⟩ := okB_small hok
    have H9 := Lib.hid h9
    obtain ⟨N, hN⟩ : ∃ N : Nat, x.n = N := ⟨x.n.toNat, by omega⟩
    obtain ⟨R, hR⟩ : ∃ R : Nat, x.r = R := ⟨x.r.toNat, by omega⟩
    obtain ⟨T, hT⟩ : ∃ T : Nat, x.wt = T := ⟨x.wt.toNat, by omega⟩
    have HNU : Hid (nums x = [N, x.p, R, T, x.er, x.sp]) := by show _ = _; unfold nums; rw [hN, hR, hT]; rfl
    have hp1 := hx.p1
    have hr1 := hx.r1
    have HEQ : Hid (x.n = N ∧ x.r = R ∧ x.wt = T) := ⟨hN, hR, hT⟩
    clear hok h9 hN hR hT
    go_enter Tryd.func6, Tryd.ntmps6
    go_wp2_with fail
    refine (pcheck_any x (.slice pa x.ch.length cap) _ hx HS.out).mono ?_
    rintro e w1 ⟨rfl, hb1⟩
    have y0 : w1.cell? ⟨w.heap.size, 0, none⟩ = some (.int .i64 (N : Nat)) := by rw [← HEQ.out.1]; exact (hB.out.below hb1 hlt).n
    have y1 := (hB.out.below hb1 hlt).p
    have y2 : w1.cell? ⟨w.heap.size, 2, none⟩ = some (.int .i64 (R : Nat)) := by rw [← HEQ.out.2.1]; exact (hB.out.below hb1 hlt).r
    have y3 := (hB.out.below hb1 hlt).ch; have y4 := (hB.out.below hb1 hlt).sp
    have y5 : w1.cell? ⟨w.heap.size, 5, none⟩ = some (.int .i64 (T : Nat)) := by rw [← HEQ.out.2.2]; exact (hB.out.below hb1 hlt).wt
    have y6 := (hB.out.below hb1 hlt).er
    have HB1 := Lib.hid (bel_then hb1 hbW.out (by simp))
    have HS1 := Lib.hid (HS.out.below hb1)
    have HT1 := Lib.hid (HT0.out.below hb1)
    have hl1 : w.heap.size < w1.heap.size := Nat.lt_of_lt_of_le hlt hb1.size
    clear hb1
    rw [HC.out]
    go_wp2_with fail
    have hSN : SliceN (w1.alloc (.cells #[.int .i64 (N : Nat), .int .i64 (x.p : Nat), .int .i64 (R : Nat), .int .i64 (T : Nat), .int .i64 (x.er : Nat), .int .i64 (x.sp : Nat)] 2)) (.slice (some ⟨w1.heap.size, 0, none⟩) 6 6) (nums x) := by
      rw [HNU.out]
      refine ⟨w1.heap.size, 0, 6, rfl, by simp, by simp, fun i hi => ?_⟩
      have hb := (Blk.new w1 #[.int .i64 (N : Nat), .int .i64 (x.p : Nat), .int .i64 (R : Nat), .int .i64 (T : Nat), .int .i64 (x.er : Nat), .int .i64 (x.sp : Nat)] 2).cell i (by simpa using hi)
      rw [Nat.zero_add, hb]
      have hi6 : i < 6 := by simpa using hi
      rcases i with _ | _ | _ | _ | _ | _ | i
      all_goals first | rfl | omega
    refine (texts_any (nums x) _ _ hSN HN.out (by simp [nums]) (HT1.out.below ((Below.refl _ _).alloc (Nat.le_refl _) _))).mono ?_
    rintro ev W2 ⟨p2, cap2, rfl, h2⟩
    have hA : Below w1.heap.size w1 (w1.alloc (.cells #[.int .i64 (N : Nat), .int .i64 (x.p : Nat), .int .i64 (R : Nat), .int .i64 (T : Nat), .int .i64 (x.er : Nat), .int .i64 (x.sp : Nat)] 2)) := (Below.refl _ _).alloc (Nat.le_refl _) _
    have HA := Lib.hid hA
    have HBA := Lib.hid (HB1.out.trans (hA.mono HB1.out.size))
    have HSA := Lib.hid (HS1.out.below hA)
    have HTA := Lib.hid (HT1.out.below hA)
    have q3 : (w1.alloc (.cells #[.int .i64 (N : Nat), .int .i64 (x.p : Nat), .int .i64 (R : Nat), .int .i64 (T : Nat), .int .i64 (x.er : Nat), .int .i64 (x.sp : Nat)] 2)).cell? ⟨w.heap.size, 3, none⟩ = some (.slice pa x.ch.length cap) := (below_at hA hl1).trans y3
    have hlA : w.heap.size < (w1.alloc (.cells #[.int .i64 (N : Nat), .int .i64 (x.p : Nat), .int .i64 (R : Nat), .int .i64 (T : Nat), .int .i64 (x.er : Nat), .int .i64 (x.sp : Nat)] 2)).heap.size := by simp; omega
    generalize (w1.alloc (.cells #[.int .i64 (N : Nat), .int .i64 (x.p : Nat), .int .i64 (R : Nat), .int .i64 (T : Nat), .int .i64 (x.er : Nat), .int .i64 (x.sp : Nat)] 2)) = WA at h2 HA HBA HSA HTA q3 hlA ⊢
    clear hSN y0 y1 y2 y3 y4 y5 y6 hA
    have h20 : (nums x).length = 6 := rfl
    rw [h20]
    have hX0 : strsTo x 0 = (nums x).map dec := by unfold strsTo; simp
    rw [← hX0] at h2
    have HX2 := Lib.hid h2
    have z3 := (below_at h2.bel hlA).trans q3
    clear h2 hX0 h20
    go_wp2_with fail
    go_loopw [4, 6, 30] (fun v4 _ vi wr => ∃ (i : Nat) (p : Option Addr) (cap : Nat), v4 = .slice p (6 + i) cap ∧ vi = .int .i64 i ∧ i ≤ x.ch.length ∧ Hid (TxS WA wr p cap (strsTo x i))) (fun _ _ vi _ => x.ch.length - (intOf vi).toNat)
    case atStart => exact ⟨0, p2, cap2, rfl, rfl, by omega, HX2⟩
    case round =>
      clear HX2 z3
      obtain ⟨i, p, cp, rfl, rfl, hi, hI⟩ := hrel
      by_cases hil : i < x.ch.length
      · obtain ⟨bq, oq, rfl, hbq, hcq⟩ := slice_cell (HSA.out.below hI.out.bel) i hil
        have hq31 := H9.out (x.ch.getD i 0) (by rw [List.getD_eq_getElem?_getD, List.getElem?_eq_getElem hil]; exact List.getElem_mem _)
        have HSC := Lib.hid (strsTo_succ x hil)
        have HSL := Lib.hid (strsTo_len x hi)
        obtain ⟨q, hq⟩ : ∃ q, x.ch.getD i 0 = q := ⟨_, rfl⟩
        rw [hq] at hcq hq31 HSC
        have i0' : (0 : Int) ≤ (i : Int) := by omega
        have i1' : (i : Int) < (x.ch.length : Int) := by omega
        clear hq
        go_wp2_with fail
        have hA : Below wr.heap.size wr (wr.alloc (.cells #[.int .i64 (q : Nat)] 2)) := (Below.refl _ _).alloc (Nat.le_refl _) _
        have hSN : SliceN (wr.alloc (.cells #[.int .i64 (q : Nat)] 2)) (.slice (some ⟨wr.heap.size, 0, none⟩) 1 1) [q] := by
          refine ⟨wr.heap.size, 0, 1, rfl, by simp, by simp, fun j hj => ?_⟩
          have hj0 : j = 0 := by simpa using hj
          subst hj0
          exact (Blk.new wr #[.int .i64 (q : Nat)] 2).cell 0 (by simp)
        refine (texts_any [q] _ _ hSN (by intro z hz; simp at hz; omega) (by simp) ((HTA.out.below hI.out.bel).below hA)).mono ?_
        rintro ev W3 ⟨p3, cap3, rfl, h3⟩
        obtain ⟨b3, o3, rfl, _, _, _, hc3⟩ := h3.slice.at 0 (by simp)
        have HC3 : Hid (∀ j u, ([.string (dec q)] : List Value)[j]? = some u → W3.cell? ((⟨b3, o3, none⟩ : Addr).add j) = some u) := by
          intro j u hu
          have hj := (List.getElem?_eq_some_iff.1 hu).1
          have hj0 : j = 0 := by simpa using hj
          subst hj0
          have hu2 : u = .string (dec q) := by simpa using hu.symm
          subst hu2
          rw [addr_addB]
          exact hc3
        have HI3 := Lib.hid (hI.out.below (hA.trans (h3.bel.mono hA.size)))
        have ho := HI3.out.own
        rw [HSL.out] at ho
        have HO := Lib.hid ho
        have hbs : WA.heap.size ≤ W3.heap.size := HI3.out.bel.size
        have HTX := Lib.hid h3.bel
        clear hA hSN h3 hc3 ho hI hcq
        rw [show [q].length = 1 from rfl]
        go_wp2_with (at_builtin; (refine wpList_append_own _ rfl _ _ 37 rfl WA.heap.size 9 iS (.string ⟨#[]⟩) 1 16 Tryd.underlying37 hiS hzS0 hzS1 hzS2 rfl (by decide) _ _ _ rfl HO.out ⟨b3, o3, none⟩ 1 cap3 [.string (dec q)] rfl rfl HC3.out (by simp [Value.oneCell']) (by unfold maxLen; omega) (by omega) hbs ?_); intro v' w3 hown' hgrow _; obtain ⟨p', cap', rfl, hL⟩ := HI3.out.put (m := [dec q]) (by rw [HSL.out]; exact hgrow) (by rw [HSL.out]; exact hown'); rw [HSL.out]; have HL := Lib.hid hL; clear hown' hgrow hL)
        go_roundw
        case rel => exact ⟨i + 1, p', cap', rfl, by go_num, by omega, by rw [HSC.out]; exact HL⟩
        case measure => simp [intOf]; omega
      · obtain rfl : i = x.ch.length := by omega
        have hSL := strsTo_len x (Nat.le_refl x.ch.length)
        have hsl := hI.out.slice
        rw [strsTo_all] at hsl
        have hl2 : (strs x).length = 6 + x.ch.length := by rw [← strsTo_all]; exact hSL
        rw [hl2] at hsl
        have HSL := Lib.hid hsl
        clear hsl hSL hl2
        go_wp2_with fail
        refine (plist_any 12 (by decide) _ (strs x) _ HSL.out HST.out.1 HST.out.2).mono ?_
        rintro ev W4 ⟨rfl, hb4⟩
        have HF := Lib.hid (HBA.out.trans ((hI.out.bel.trans (hb4.mono hI.out.bel.size)).mono HBA.out.size))
        clear hb4
        go_wp2_with fail
        go_ret2
        exact ⟨by rw [HR.out, HC.out]; rfl, HF.out⟩
end Go.Proofs.YtjfjbkocopaehaaDoor
