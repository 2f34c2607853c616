/- ParamsValid: the walk. -/
import Derived.Test.YtjfjbkocopaehaaWidN
import Derived.Test.YtjfjbkocopaehaaWidO
import Derived.Test.YtjfjbkocopaehaaDefE
namespace Go.Proofs.Ytjfjbkocopaehaa
open Go.RowKit
set_option linter.unusedVariables false

/-- What the law holds. -/
structure VaS (w W : World) (a b : Int) (ga : Nat) (x : Par) (cv : Value) : Prop where
  z0 : W.cell? ⟨w.heap.size, 0, none⟩ = some (.int .i64 a)
  z1 : W.cell? ⟨w.heap.size, 1, none⟩ = some (.int .i64 b)
  box : BoxP W ga x cv
  sl : SliceAt W cv x.ch
  bel : Below w.heap.size w W
  lt : w.heap.size < ga
  gl : ga < W.heap.size
theorem VaS.below {w W W' : World} {a b : Int} {ga : Nat} {x : Par} {cv : Value} (h : VaS w W a b ga x cv) (hb : Below W.heap.size W W') : VaS w W' a b ga x cv := by
  have h1 := h.lt
  have h2 := h.gl
  exact ⟨(below_at hb (by omega)).trans h.z0, (below_at hb (by omega)).trans h.z1, h.box.below hb h2, h.sl.below hb, h.bel.trans (hb.mono h.bel.size), h1, Nat.lt_of_lt_of_le h2 hb.size⟩

set_option maxHeartbeats 4000000 in
set_option maxRecDepth 100000 in
theorem pvalid_any (n : Int) (p : Nat) (a b : Int) (w : World) (hn0 : -9223372036854775808 ≤ n) (hn1 : n ≤ 9223372036854775807) (hp : p < 4294967296) (ha0 : -9223372036854775808 ≤ a) (ha1 : a ≤ 9223372036854775807) (hb0 : -9223372036854775808 ≤ b) (hb1 : b ≤ 9223372036854775807) :
    Calls Try.prog 9 #[.int .i64 n, .int .u32 p, .agg #[.int .i64 a, .int .i64 b]] w fun r w' => r = .returned (.bool true) ∧ Below w.heap.size w w' := by
  have D1 := Lib.hid (fun W => default_any n p a b W hn0 hn1 hp ha0 ha1 hb0 hb1)
  go_enter Try.func9, Try.ntmps9
  go_wp2_with fail
  refine (shown_any _).mono ?_
  rintro r W1 ⟨rfl, hs1⟩
  have q1 := bel_then hs1 ((Below.refl _ w).alloc (Nat.le_refl _) _) (by simp)
  have z0 : W1.cell? ⟨w.heap.size, 0, none⟩ = some (.int .i64 a) := (below_at hs1 (by simp)).trans (by simp [go_sem])
  have z1 : W1.cell? ⟨w.heap.size, 1, none⟩ = some (.int .i64 b) := (below_at hs1 (by simp)).trans (by simp [go_sem])
  have l1 : w.heap.size < W1.heap.size := by have := hs1.size; simp at this; omega
  have Q1 := Lib.hid q1
  clear hs1 q1
  go_wp2_with fail
  refine (D1.out _).mono ?_
  rintro r W2 ⟨hd, v, rfl, hsl⟩
  obtain ⟨pa, cap, rfl⟩ := sliceAt_shape hsl
  have hV : ∀ x : Par, defPar mPrime n p a b = x → VaS w (W2.alloc (.cells #[.int .i64 x.n, .int .u32 x.p, .int .i64 x.r, .slice pa x.ch.length cap, .int .u32 x.sp, .int .i64 x.wt, .int .u32 x.er] 25)) a b W2.heap.size x (.slice pa x.ch.length cap) := by
    rintro x rfl
    have hy : Below W2.heap.size W2 (W2.alloc (.cells #[.int .i64 (defPar mPrime n p a b).n, .int .u32 (defPar mPrime n p a b).p, .int .i64 (defPar mPrime n p a b).r, .slice pa (defPar mPrime n p a b).ch.length cap, .int .u32 (defPar mPrime n p a b).sp, .int .i64 (defPar mPrime n p a b).wt, .int .u32 (defPar mPrime n p a b).er] 25)) := (Below.refl _ _).alloc (Nat.le_refl _) _
    have l2 := hd.size
    refine ⟨(below_at hy (by omega)).trans ((below_at hd l1).trans z0), (below_at hy (by omega)).trans ((below_at hd l1).trans z1), by constructor <;> simp [go_sem], hsl.below hy, ?_, by omega, by simp⟩
    exact (Q1.out.trans (hd.mono Q1.out.size)).trans (hy.mono (by omega))
  have HV := Lib.hid hV
  have HQ2 := Lib.hid (Q1.out.trans (hd.mono Q1.out.size))
  clear hV hd hsl z0 z1 Q1
  by_cases he : defErr mPrime n p a b = 0
  · obtain ⟨sp, ch, hpar, hlen, hb1', hb24, hdim, ha1', hp3, hpow, hmod, hdesc, hgood⟩ := defPar_shape he
    have hok := defPar_ok he
    rw [hpar] at hok
    have hV := HV.out _ hpar
    have HT := Lib.hid hV
    have HOK := Lib.hid hok; have HMOD := Lib.hid hmod; have HDESC := Lib.hid hdesc; have HGOOD := Lib.hid hgood; have HPOW := Lib.hid hpow
    rw [hpar, he]
    clear hV HV hok hmod hdesc hgood hpow hpar he D1
    unfold Par.val
    have HCH : Hid (chk mPrime { n := n, p := p, r := a, ch := ch, sp := sp, wt := 4, er := 2 } = 0) := chk_ok HOK.out
    have HPK : Hid (ParOk { n := n, p := p, r := a, ch := ch, sp := sp, wt := 4, er := 2 }) := by
      have hs := HGOOD.out sp List.mem_cons_self
      exact ⟨hn0, hn1, hp, ha0, ha1, by show sp < 4294967296; omega⟩
    go_wp2_with fail
    refine (pcheck_any { n := n, p := p, r := a, ch := ch, sp := sp, wt := 4, er := 2 } _ _ HPK.out HT.out.sl).mono ?_
    rintro r W3 ⟨rfl, hb3⟩
    rw [HCH.out]
    have HT3 := Lib.hid (HT.out.below hb3)
    have hg3 : W2.heap.size < W3.heap.size := HT3.out.gl
    clear hb3 HT HCH HQ2
    generalize W2.heap.size = ga at HT3 hg3 ⊢
    have y0 := HT3.out.box.n; have y1 := HT3.out.box.p; have y2 := HT3.out.box.r; have y3 := HT3.out.box.ch; have y4 := HT3.out.box.sp; have y5 := HT3.out.box.wt; have y6 := HT3.out.box.er; have z0 := HT3.out.z0; have z1 := HT3.out.z1
    have hlen' : ((ch.length : Int) != b) = false := by rw [hlen]; simp
    subst hlen
    obtain ⟨an, rfl⟩ : ∃ an : Nat, a = an := ⟨a.toNat, by omega⟩
    obtain ⟨nn, rfl⟩ : ∃ nn : Nat, n = nn := ⟨n.toNat, by have := isDim_in hdim; omega⟩
    simp only [Int.toNat_natCast] at HPOW HGOOD
    have hnn : nn ≤ 32 ∧ 4 ≤ nn := by have := isDim_in hdim; omega
    have han : an < 2147483648 := by have h1 : an < p ^ an := Nat.lt_pow_self (by omega); have h2 := HPOW.out; omega
    clear hdim
    go_wp2_with fail
    go_loopw [9, 10, 11, 12, 83] (fun vt vk _ _ _ wr => ∃ k : Nat, vk = .int .i64 ((k + 1 : Nat) : Int) ∧ k ≤ an ∧ vt = .int .i64 ((p ^ k : Nat) : Int) ∧ Hid (VaS w wr an (ch.length : Int) ga { n := nn, p := p, r := an, ch := ch, sp := sp, wt := 4, er := 2 } (.slice pa ch.length cap))) (fun _ vk _ _ _ _ => an + 1 - (intOf vk).toNat)
    case atStart => exact ⟨0, rfl, by omega, rfl, HT3⟩
    case round =>
      obtain ⟨k, rfl, hk, rfl, hI⟩ := hrel
      clear y0 y1 y2 y3 y4 y5 y6 z0 z1
      have y0 := hI.out.box.n; have y1 := hI.out.box.p; have y2 := hI.out.box.r; have y3 := hI.out.box.ch; have y4 := hI.out.box.sp; have y5 := hI.out.box.wt; have y6 := hI.out.box.er; have z0 := hI.out.z0; have z1 := hI.out.z1
      by_cases hka : k < an
      · have HM : Hid (modErr mPrime { n := nn, p := p, r := an, ch := ch, sp := sp, wt := 4, er := 2 } ((k + 1 : Nat) : Int) = 0 ∧ modVal mPrime { n := nn, p := p, r := an, ch := ch, sp := sp, wt := 4, er := 2 } ((k + 1 : Nat) : Int) = p ^ (k + 1)) := by
          have h := mod_yes (pr := mPrime) (x := { n := nn, p := p, r := an, ch := ch, sp := sp, wt := 4, er := 2 }) (k := ((k + 1 : Nat) : Int)) (by unfold modB; rw [HOK.out, decide_eq_true (show (1 : Int) ≤ ((k + 1 : Nat) : Int) by omega), decide_eq_true (show ((k + 1 : Nat) : Int) ≤ (an : Int) by omega)]; rfl)
          exact ⟨h.1, by rw [h.2]; exact HMOD.out (k + 1) (by omega) (by omega)⟩
        have hP1 : p ^ (k + 1) ≤ 2147483647 := Nat.le_trans (Nat.pow_le_pow_right (by omega) (by omega)) HPOW.out
        have HPE : Hid (p ^ (k + 1) = p ^ k * p) := Nat.pow_succ ..
        have d1 : decide (((k + 1 : Nat) : Int) ≤ (an : Int)) = true := decide_eq_true (by omega)
        rw [HPE.out] at hP1 HM
        obtain ⟨T, hT⟩ : ∃ T, p ^ k = T := ⟨_, rfl⟩
        rw [hT] at hP1 HM HPE ⊢
        clear hT
        have hw : IntKind.i64.wrap ((T : Int) * (p : Int)) = ((T * p : Nat) : Int) := by
          rw [← Int.natCast_mul, IntKind.wrap_i64]; omega
        have HKK : Hid ((((k + 1 : Nat) : Int) + 1) = ((k + 1 + 1 : Nat) : Int)) := by show _ = _; omega
        go_wp2_with fail
        refine (pmod_any { n := nn, p := p, r := an, ch := ch, sp := sp, wt := 4, er := 2 } (.slice pa ch.length cap) ((k + 1 : Nat) : Int) _ HPK.out hI.out.sl).mono ?_
        rintro r W5 ⟨rfl, hb5⟩
        rw [HM.out.1, HM.out.2]
        have HI5 := Lib.hid (hI.out.below hb5)
        clear hb5 hI y0 y1 y2 y3 y4 y5 y6 z0 z1
        go_wp2_with fail
        go_roundw
        case rel => exact ⟨k + 1, by go_num, by omega, by rw [HPE.out, Int.natCast_mul], HI5⟩
        case measure => simp only [intOf]; omega
      · obtain rfl : an = k := by omega
        have d1 : decide (((an + 1 : Nat) : Int) ≤ (an : Int)) = false := decide_eq_false (by omega)
        have hT0 : 1 ≤ p ^ an := Nat.pow_pos (by omega)
        have hT1 : p ^ an ≤ 2147483647 := HPOW.out
        obtain ⟨T, hT⟩ : ∃ T, p ^ an = T := ⟨_, rfl⟩
        rw [hT] at hT0 hT1 HGOOD ⊢
        clear hT
        have hM0 : 1 ≤ 2 * nn * T := Nat.mul_pos (by omega) (by omega)
        have hM1 : 2 * nn * T ≤ 64 * 2147483647 := Nat.mul_le_mul (by omega) hT1
        have hMc : 2 * (nn : Int) * (T : Int) = ((2 * nn * T : Nat) : Int) := by rw [Int.natCast_mul, Int.natCast_mul]; rfl
        obtain ⟨M, hM⟩ : ∃ M, 2 * nn * T = M := ⟨_, rfl⟩
        rw [hM] at hM0 hM1 hMc HGOOD
        have hwm : IntKind.i64.wrap (2 * (nn : Int) * (T : Int)) = (M : Int) := by rw [hMc, IntKind.wrap_i64]; omega
        have hM2 : ¬ (M : Int) = 0 := by omega
        clear hM hMc HMOD HPOW
        have hl1 : 1 ≤ ch.length := by omega
        obtain ⟨_, _, ea, hcap, _, hrow⟩ := hI.out.sl
        injection ea with ea1 ea2 ea3
        subst ea1 ea3
        obtain ⟨bb, off, rfl, _⟩ := hrow (by show ch ≠ []; intro h; rw [h] at hl1; simp at hl1)
        clear hrow ea2
        have HCELL : Hid (∀ (W : World), SliceAt W (.slice (some ⟨bb, off, none⟩) ch.length cap) ch → ∀ i, i < ch.length → W.cell? ⟨bb, off + i, none⟩ = some (.int .u32 (ch.getD i 0 : Nat))) := by
          intro W hs i hi
          obtain ⟨_, _, ea, _, _, hrow⟩ := hs
          injection ea with ea1 ea2 ea3
          subst ea1
          obtain ⟨b', off', e2, hr⟩ := hrow (by show ch ≠ []; intro h; rw [h] at hi; simp at hi)
          injection e2 with e3
          injection e3 with e4 e5
          subst e4 e5
          rw [hr.cell i hi, List.getD_eq_getElem?_getD, List.getElem?_eq_getElem hi]; rfl
        go_wp2_with fail
        go_loopw [13, 14, 15] (fun vl vi _ wr => ∃ i : Nat, vi = .int .i64 i ∧ i ≤ ch.length ∧ vl = .int .u32 ((sp :: ch).getD i 0 : Nat) ∧ Hid (VaS w wr an (ch.length : Int) ga { n := nn, p := p, r := an, ch := ch, sp := sp, wt := 4, er := 2 } (.slice (some ⟨bb, off, none⟩) ch.length cap))) (fun _ vi _ _ => ch.length - (intOf vi).toNat)
        case atStart => exact ⟨0, rfl, by omega, rfl, hI⟩
        case round =>
          clear hI y0 y1 y2 y3 y4 y5 y6 z0 z1 d1
          obtain ⟨i, rfl, hi, rfl, hI⟩ := hrel
          have y0 := hI.out.box.n; have y1 := hI.out.box.p; have y2 := hI.out.box.r; have y3 := hI.out.box.ch; have y4 := hI.out.box.sp; have y5 := hI.out.box.wt; have y6 := hI.out.box.er; have z0 := hI.out.z0; have z1 := hI.out.z1
          by_cases hil : i < ch.length
          · have hc := HCELL.out _ hI.out.sl i hil
            have hg : (sp :: ch).getD (i + 1) 0 = ch.getD i 0 := by simp [List.getD_eq_getElem?_getD]
            have HG := Lib.hid hg
            have hgood := HGOOD.out (ch.getD i 0) (List.mem_cons_of_mem _ (by rw [List.getD_eq_getElem?_getD, List.getElem?_eq_getElem hil]; exact List.getElem_mem _))
            have hgt : ch.getD i 0 < (sp :: ch).getD i 0 := by
              have h := List.pairwise_iff_getElem.1 HDESC.out i (i + 1) (by simp; omega) (by simp; omega) (by omega)
              rw [← hg, List.getD_eq_getElem?_getD, List.getD_eq_getElem?_getD, List.getElem?_eq_getElem (by simp; omega), List.getElem?_eq_getElem (by simp; omega)]
              exact h
            clear hg
            obtain ⟨q, hq⟩ : ∃ q, ch.getD i 0 = q := ⟨_, rfl⟩
            obtain ⟨l, hl⟩ : ∃ l, (sp :: ch).getD i 0 = l := ⟨_, rfl⟩
            rw [hq] at hc hgood hgt HG
            rw [hl] at hgt ⊢
            clear hq hl
            obtain ⟨g1, g2, g3⟩ := hgood
            have d2 : decide ((l : Int) ≤ (q : Int)) = false := decide_eq_false (by omega)
            have d3 : decide ((q : Int) ≤ 1073741824) = false := decide_eq_false (by omega)
            have d4 : ((q : Int) % (M : Int) != 1) = false := by
              have : ((q % M : Nat) : Int) = 1 := by rw [g3]; rfl
              rw [Int.natCast_emod] at this
              rw [this]; rfl
            have i0 : (0 : Int) ≤ (i : Int) := by omega
            have i1 : (i : Int) < (ch.length : Int) := by omega
            clear g3
            go_wp2_with fail
            go_roundw
            case rel => exact ⟨i + 1, by go_num, by omega, by rw [HG.out], hI⟩
            case measure => simp [intOf]; omega
          · obtain rfl : i = ch.length := by omega
            have d2 : decide ((ch.length : Int) < (ch.length : Int)) = false := decide_eq_false (by omega)
            have HPB1 : Hid (prodB mPrime { n := nn, p := p, r := an, ch := ch, sp := sp, wt := 4, er := 2 } (ch.length : Int) = true) := by show _ = _; unfold prodB; rw [HOK.out, decide_eq_true (show (1 : Int) ≤ (ch.length : Int) by omega), decide_eq_true (show (ch.length : Int) ≤ (ch.length : Int) by omega)]; rfl
            have HPB2 : Hid (prodB mPrime { n := nn, p := p, r := an, ch := ch, sp := sp, wt := 4, er := 2 } ((ch.length + 1 : Nat) : Int) = false) := by show _ = _; unfold prodB; rw [decide_eq_false (show ¬ ((ch.length + 1 : Nat) : Int) ≤ (ch.length : Int) by omega)]; simp
            have hl24 : (ch.length : Int) ≤ 24 := by omega
            go_wp2_with fail
            refine (pprod_any { n := nn, p := p, r := an, ch := ch, sp := sp, wt := 4, er := 2 } (.slice (some ⟨bb, off, none⟩) ch.length cap) (ch.length : Int) _ HPK.out hI.out.sl (by omega) (by omega)).mono ?_
            rintro r W5 ⟨hp, hb5⟩
            obtain ⟨S1, rfl⟩ : ∃ S : ByteArray, r = .returned (.tuple #[.agg #[.bool false, .string S], .int .i64 0]) := by
              rcases hp with ⟨hf, _⟩ | ⟨_, n, _, rfl⟩
              · rw [HPB1.out] at hf; cases hf
              · exact ⟨_, rfl⟩
            have HI5 := Lib.hid (hI.out.below (hb5.alloc hb5.size (.cells #[.bool false, .string S1] 69)))
            clear hb5 hI y0 y1 y2 y3 y4 y5 y6 z0 z1 hp
            have hJ := HI5.out
            have y0 := hJ.box.n; have y1 := hJ.box.p; have y2 := hJ.box.r; have y3 := hJ.box.ch; have y4 := hJ.box.sp; have y5 := hJ.box.wt; have y6 := hJ.box.er
            clear hJ
            have c0 : (W5.alloc (.cells #[.bool false, .string S1] 69)).cell? ⟨W5.heap.size, 0, none⟩ = some (.bool false) := by simp [go_sem]
            have c1 : (W5.alloc (.cells #[.bool false, .string S1] 69)).cell? ⟨W5.heap.size, 1, none⟩ = some (.string S1) := by simp [go_sem]
            have HC1 : Hid (((ch.length : Int) + 1) = ((ch.length + 1 : Nat) : Int)) := by show _ = _; omega
            go_wp2_with fail
            generalize (W5.alloc (.cells #[.bool false, .string S1] 69)) = W6 at HI5 c0 c1 ⊢
            rw [HC1.out]
            refine (pprod_any { n := nn, p := p, r := an, ch := ch, sp := sp, wt := 4, er := 2 } (.slice (some ⟨bb, off, none⟩) ch.length cap) ((ch.length + 1 : Nat) : Int) _ HPK.out HI5.out.sl (by omega) (by omega)).mono ?_
            rintro r W7 ⟨hp, hb7⟩
            obtain rfl : r = .returned (.tuple #[.agg #[.bool false, .string ⟨#[]⟩], .int .i64 2]) := by
              rcases hp with ⟨_, h⟩ | ⟨hf, _⟩
              · exact h
              · rw [HPB2.out] at hf; cases hf
            have HI7 := Lib.hid (HI5.out.below (hb7.alloc hb7.size (.cells #[.bool false, .string ⟨#[]⟩] 69)))
            clear hb7 HI5 y0 y1 y2 y3 y4 y5 y6 hp c0 c1
            go_wp2_with fail
            go_ret
            exact ⟨rfl, HI7.out.bel⟩
  · have hz : defPar mPrime n p a b = zeroP := defPar_zero he
    have HT := Lib.hid (HV.out _ hz)
    rw [hz, zeroP_val, show zeroP.ch.length = 0 from rfl]
    obtain ⟨er, her⟩ : ∃ er, defErr mPrime n p a b = er := ⟨_, rfl⟩
    rw [her] at he ⊢
    clear HV hz her D1
    have d1 : (er != 0) = true := bne_iff_ne.2 he
    have hlt2 : w.heap.size < W2.heap.size := HT.out.lt
    go_wp2_with fail
    go_ret
    exact ⟨rfl, HQ2.out.alloc HQ2.out.size _⟩
end Go.Proofs.Ytjfjbkocopaehaa
