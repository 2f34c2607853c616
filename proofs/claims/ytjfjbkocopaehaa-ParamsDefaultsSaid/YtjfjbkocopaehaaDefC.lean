/- params.Default. (Printed by gen_DefC.py.) -/
import Derived.Test.YtjfjbkocopaehaaDefB
import Derived.Test.YtjfjbkocopaehaaKeyJ
namespace Go.Proofs.Ytjfjbkocopaehaa
open Go.RowKit

theorem def_zero' {pr : Nat → Bool} {w0 w' : World} {n : Int} {p : Nat} {e lv k : Int} {r : Ending} (hb : Below w0.heap.size w0 w') (hk : defErr pr n p e lv = k) (h0 : k ≠ 0)
    (hr : r = .returned (.tuple #[.agg #[.int .i64 0, .int .u32 0, .int .i64 0, .slice none 0 0, .int .u32 0, .int .i64 0, .int .u32 0], .int .i64 k])) : defRet w0 w' (defPar pr n p e lv) (defErr pr n p e lv) r := by
  rw [defPar_zero (by rw [hk]; exact h0), hk]
  refine ⟨hb, .slice none 0 0, hr, none, 0, rfl, Nat.le_refl _, by simp [zeroP], fun h => absurd rfl h⟩
theorem chain_big {pr : Nat → Bool} {s c : Nat} (h : 2147483647 < s) : chainOf pr s c = [] := by
  unfold chainOf
  rw [Nat.div_eq_of_lt (by omega)]; rfl

set_option maxHeartbeats 6000000 in
set_option maxRecDepth 100000 in
theorem default_any (n : Int) (p : Nat) (e lv : Int) (w : World) (hn0 : -9223372036854775808 ≤ n) (hn1 : n ≤ 9223372036854775807) (hp : p < 4294967296) (he0 : -9223372036854775808 ≤ e) (he1 : e ≤ 9223372036854775807) (hl0 : -9223372036854775808 ≤ lv) (hl1 : lv ≤ 9223372036854775807) :
    Calls Try.prog 19 #[.int .i64 n, .int .u32 p, .int .i64 e, .int .i64 lv] w fun r w' => defRet w w' (defPar mPrime n p e lv) (defErr mPrime n p e lv) r := by
  have hB : BoxP (w.alloc (.cells #[.int .i64 0, .int .u32 0, .int .i64 0, .slice none 0 0, .int .u32 0, .int .i64 0, .int .u32 0] 25)) w.heap.size zeroP (.slice none 0 0) := by constructor <;> simp [go_sem, zeroP]
  have hbW : Below w.heap.size w (w.alloc (.cells #[.int .i64 0, .int .u32 0, .int .i64 0, .slice none 0 0, .int .u32 0, .int .i64 0, .int .u32 0] 25)) := (Below.refl _ _).alloc (Nat.le_refl _) _
  have HB := Lib.hid hB
  have HBW := Lib.hid hbW
  clear hB hbW
  have fin0 : ∀ (W : World) (k : Int), W = w.alloc (.cells #[.int .i64 0, .int .u32 0, .int .i64 0, .slice none 0 0, .int .u32 0, .int .i64 0, .int .u32 0] 25) → defErr mPrime n p e lv = k → k ≠ 0 →
      W.cell? ⟨w.heap.size, 0, none⟩ = some (.int .i64 0) ∧ W.cell? ⟨w.heap.size, 1, none⟩ = some (.int .u32 0) ∧ W.cell? ⟨w.heap.size, 2, none⟩ = some (.int .i64 0) ∧ W.cell? ⟨w.heap.size, 3, none⟩ = some (.slice none 0 0) ∧ W.cell? ⟨w.heap.size, 4, none⟩ = some (.int .u32 0) ∧ W.cell? ⟨w.heap.size, 5, none⟩ = some (.int .i64 0) ∧ W.cell? ⟨w.heap.size, 6, none⟩ = some (.int .u32 0) := by
    rintro W k rfl _ _
    exact ⟨HB.out.n, HB.out.p, HB.out.r, HB.out.ch, HB.out.sp, HB.out.wt, HB.out.er⟩
  have FIN0 := Lib.hid fin0
  clear fin0
  cases hn : isDim n with
  | false =>
    have HN := Lib.hid hn
    have HK : Hid (defErr mPrime n p e lv = 2) := by show _ = _; unfold defErr; rw [if_pos (.inl hn)]
    clear hn
    go_enter Try.func19, Try.ntmps19
    go_wp2_with (go_at_call 49; refine (pdim_any _ _ hn0 hn1).mono ?_; rintro e w1 ⟨rfl, rfl⟩; rw [HN.out])
    obtain ⟨r0, r1, r2, r3, r4, r5, r6⟩ := FIN0.out _ _ rfl HK.out (by decide)
    refine bodyPost_ret (v := .tuple #[.agg #[.int .i64 0, .int .u32 0, .int .i64 0, .slice none 0 0, .int .u32 0, .int .i64 0, .int .u32 0], .int .i64 2]) (by simp [results, Try.results19, go_sem, r0, r1, r2, r3, r4, r5, r6]) rfl (def_zero' HBW.out HK.out (by decide) rfl)
  | true =>
  by_cases hlv : 1 ≤ lv ∧ lv ≤ 24
  case neg =>
    have HN := Lib.hid hn
    have HK : Hid (defErr mPrime n p e lv = 2) := by
      show _ = _; unfold defErr; rw [if_pos (by rcases Classical.em (lv < 1) with h | h; exact .inr (.inl h); exact .inr (.inr (.inl (by omega))))]
    clear hn
    by_cases h1 : lv < 1
    · have d1 : decide (lv < 1) = true := decide_eq_true h1
      go_enter Try.func19, Try.ntmps19
      go_wp2_with (go_at_call 49; refine (pdim_any _ _ hn0 hn1).mono ?_; rintro e w1 ⟨rfl, rfl⟩; rw [HN.out])
      obtain ⟨r0, r1, r2, r3, r4, r5, r6⟩ := FIN0.out _ _ rfl HK.out (by decide)
      refine bodyPost_ret (v := .tuple #[.agg #[.int .i64 0, .int .u32 0, .int .i64 0, .slice none 0 0, .int .u32 0, .int .i64 0, .int .u32 0], .int .i64 2]) (by simp [results, Try.results19, go_sem, r0, r1, r2, r3, r4, r5, r6]) rfl (def_zero' HBW.out HK.out (by decide) rfl)
    · have d1 : decide (lv < 1) = false := decide_eq_false h1
      have d2 : decide (24 < lv) = true := decide_eq_true (by omega)
      go_enter Try.func19, Try.ntmps19
      go_wp2_with (go_at_call 49; refine (pdim_any _ _ hn0 hn1).mono ?_; rintro e w1 ⟨rfl, rfl⟩; rw [HN.out])
      obtain ⟨r0, r1, r2, r3, r4, r5, r6⟩ := FIN0.out _ _ rfl HK.out (by decide)
      refine bodyPost_ret (v := .tuple #[.agg #[.int .i64 0, .int .u32 0, .int .i64 0, .slice none 0 0, .int .u32 0, .int .i64 0, .int .u32 0], .int .i64 2]) (by simp [results, Try.results19, go_sem, r0, r1, r2, r3, r4, r5, r6]) rfl (def_zero' HBW.out HK.out (by decide) rfl)
  obtain ⟨hlv1, hlv2⟩ := hlv
  obtain ⟨N, rfl⟩ : ∃ N : Nat, n = N := ⟨n.toNat, by have := isDim_cases hn; omega⟩
  obtain ⟨L, rfl⟩ : ∃ L : Nat, lv = L := ⟨lv.toNat, by omega⟩
  have hN4 : 4 ≤ N := by have := isDim_cases hn; omega
  have hN32 : N ≤ 32 := by have := isDim_cases hn; omega
  have HN := Lib.hid hn
  clear hn
  obtain ⟨t, ht⟩ : ∃ t : Nat, t = powv mPrime N p e := ⟨_, rfl⟩
  by_cases ht0 : t = 0
  · have HK : Hid (defErr mPrime N p e L = 2) := by
      show _ = _; unfold defErr; rw [if_pos (.inr (.inr (.inr (by rw [← ht]; exact ht0))))]
    have d1 : decide ((L : Int) < 1) = false := decide_eq_false (by omega)
    have d2 : decide ((24 : Int) < L) = false := decide_eq_false (by omega)
    have hpl := Lib.hid (ppower_any N p e (w.alloc (.cells #[.int .i64 0, .int .u32 0, .int .i64 0, .slice none 0 0, .int .u32 0, .int .i64 0, .int .u32 0] 25)) (by omega) (by omega) hp he0 he1)
    rw [← ht, ht0] at hpl
    clear ht
    go_enter Try.func19, Try.ntmps19
    go_wp2_with (go_at_call 49; refine (pdim_any _ _ hn0 hn1).mono ?_; rintro e w1 ⟨rfl, rfl⟩; rw [HN.out])
    refine hpl.out.mono ?_
    rintro r w1 ⟨rfl, hb1⟩
    have hbk : Blk w1 w.heap.size [.int .i64 0, .int .u32 0, .int .i64 0, .slice none 0 0, .int .u32 0, .int .i64 0, .int .u32 0] 25 := by
      have h := Blk.new w #[.int .i64 0, .int .u32 0, .int .i64 0, .slice none 0 0, .int .u32 0, .int .i64 0, .int .u32 0] 25
      exact Blk.below (by simpa using h) hb1 h.lt
    have HBB := Lib.hid (HBW.out.trans (hb1.mono HBW.out.size))
    have HBK := Lib.hid hbk
    clear hb1 hbk
    go_wp2_with (refine wpList_store_row rfl 25 _ _ rfl w.heap.size rfl 25 _ _ rfl HBK.out infoP rfl (by decide +kernel) ?_)
    have hR := BoxP.ofBlk (x := zeroP) (HBK.out.row [.int .i64 0, .int .u32 0, .int .i64 0, .slice none 0 0, .int .u32 0, .int .i64 0, .int .u32 0])
    have r0 := hR.n; have r1 := hR.p; have r2 := hR.r; have r3 := hR.ch; have r4 := hR.sp; have r5 := hR.wt; have r6 := hR.er
    refine bodyPost_ret (v := .tuple #[.agg #[.int .i64 0, .int .u32 0, .int .i64 0, .slice none 0 0, .int .u32 0, .int .i64 0, .int .u32 0], .int .i64 2]) (by simp [results, Try.results19, go_sem, r0, r1, r2, r3, r4, r5, r6, zeroP]) rfl (def_zero' (below_row HBB.out (Nat.le_refl _) _) HK.out (by decide) rfl)
  have ht1 : ((t : Int) == 0) = false := beq_eq_false_iff_ne.2 (by omega)
  have htb : 3 ≤ t ∧ t ≤ 2147483647 ∧ t % 2 = 1 := by
    have h1 := powv_le mPrime N p e
    have h2 := powv_odd (pr := mPrime) (n := N) (p := p) (e := e) (by omega) (by rw [← ht]; exact ht0)
    rw [← ht] at h1 h2
    exact ⟨h2.1, h1, h2.2.1⟩
  obtain ⟨ht3, htm, hto⟩ := htb
  have hNt : N * t ≤ 32 * 2147483647 := Nat.mul_le_mul hN32 htm
  obtain ⟨s, hs⟩ : ∃ s : Nat, s = 2 * N * t := ⟨_, rfl⟩
  have hs2 : s = 2 * (N * t) := by rw [hs, Nat.mul_assoc]
  have hsb : s ≤ 137438953472 := by omega
  have hs0 : 0 < s := by have : 4 * 3 ≤ N * t := Nat.mul_le_mul hN4 ht3; omega
  have hwt : IntKind.u32.wrap (t : Int) = t := by simp [IntKind.wrap, IntKind.bits, IntKind.signed]; omega
  have HS := Lib.hid hs
  have HT := Lib.hid ht
  clear hs hs2 ht
  have HNEG : Hid (¬ (isDim (N : Int) = false ∨ (L : Int) < 1 ∨ 24 < (L : Int) ∨ powv mPrime N p e = 0)) := by
    rintro (h | h | h | h)
    · rw [HN.out] at h; cases h
    · omega
    · omega
    · rw [← HT.out] at h; exact ht0 h
  have hpl := Lib.hid (ppower_any N p e (w.alloc (.cells #[.int .i64 0, .int .u32 0, .int .i64 0, .slice none 0 0, .int .u32 0, .int .i64 0, .int .u32 0] 25)) (by omega) (by omega) hp he0 he1)
  rw [← HT.out] at hpl
  have d1 : decide ((L : Int) < 1) = false := decide_eq_false (by omega)
  have d2 : decide ((24 : Int) < L) = false := decide_eq_false (by omega)
  go_enter Try.func19, Try.ntmps19
  go_wp2_with (go_at_call 49; refine (pdim_any _ _ hn0 hn1).mono ?_; rintro e w1 ⟨rfl, rfl⟩; rw [HN.out])
  refine hpl.out.mono ?_
  rintro r0 w1 ⟨rfl, hb1⟩
  have hbk1 : Hid (Blk w1 w.heap.size [.int .i64 0, .int .u32 0, .int .i64 0, .slice none 0 0, .int .u32 0, .int .i64 0, .int .u32 0] 25) := by
    have h := Blk.new w #[.int .i64 0, .int .u32 0, .int .i64 0, .slice none 0 0, .int .u32 0, .int .i64 0, .int .u32 0] 25
    exact Blk.below (by simpa using h) hb1 h.lt
  have hbw1 : Hid (Below w.heap.size w w1) := HBW.out.trans (hb1.mono HBW.out.size)
  clear hb1 HBW HB FIN0
  go_wp2_with fail
  rw [show ((L : Int) + 1) = ((L + 1 : Nat) : Int) by simp]
  refine (chain_any N t (L + 1) s _ HN.out hN4 hN32 ht3 htm hto (by omega) (by omega) HS.out).mono ?_
  rintro r W ⟨hb, ⟨hlen, rfl⟩ | ⟨hlen, v, rfl, hsl⟩⟩
  · have hK : Hid (defErr mPrime N p e L = 4) := by
      show _ = _
      unfold defErr
      rw [if_neg HNEG.out, if_pos (.inr (by unfold defStep; rw [← HT.out, Int.toNat_natCast, ← HS.out, Int.toNat_natCast]; exact hlen))]
    have hbk : Blk W w.heap.size [.int .i64 0, .int .u32 0, .int .i64 0, .slice none 0 0, .int .u32 0, .int .i64 0, .int .u32 0] 25 := by
      exact Blk.below hbk1.out hb hbk1.out.lt
    have HBB := Lib.hid (hbw1.out.trans (hb.mono hbw1.out.size))
    have HBK := Lib.hid hbk
    clear hb hlen hbk
    go_wp2_with (refine wpList_store_row rfl 25 _ _ rfl w.heap.size rfl 25 _ _ rfl HBK.out infoP rfl (by decide +kernel) ?_)
    have hR := BoxP.ofBlk (x := zeroP) (HBK.out.row [.int .i64 0, .int .u32 0, .int .i64 0, .slice none 0 0, .int .u32 0, .int .i64 0, .int .u32 0])
    have r0 := hR.n; have r1 := hR.p; have r2 := hR.r; have r3 := hR.ch; have r4 := hR.sp; have r5 := hR.wt; have r6 := hR.er
    refine bodyPost_ret (v := .tuple #[.agg #[.int .i64 0, .int .u32 0, .int .i64 0, .slice none 0 0, .int .u32 0, .int .i64 0, .int .u32 0], .int .i64 4]) (by simp [results, Try.results19, go_sem, r0, r1, r2, r3, r4, r5, r6, zeroP]) rfl (def_zero' (below_row HBB.out (Nat.le_refl _) _) hK.out (by decide) rfl)
  · have hK : Hid (defErr mPrime N p e L = 0) := by
      show _ = _
      unfold defErr
      rw [if_neg HNEG.out, if_neg (by
        unfold defStep; rw [← HT.out, Int.toNat_natCast, ← HS.out, Int.toNat_natCast]
        rintro (h | h)
        · rw [chain_big h] at hlen; simp at hlen
        · omega)]
    have hP : Hid (defPar mPrime N p e L = { n := N, p := p, r := e, ch := (chainOf mPrime s (L + 1)).tail, sp := (chainOf mPrime s (L + 1)).headD 0, wt := 4, er := 2 }) := by
      show _ = _
      unfold defPar
      rw [if_pos hK.out]
      unfold defStep
      rw [← HT.out, Int.toNat_natCast, ← HS.out, Int.toNat_natCast]
    have hbk : Blk W w.heap.size [.int .i64 0, .int .u32 0, .int .i64 0, .slice none 0 0, .int .u32 0, .int .i64 0, .int .u32 0] 25 := by
      exact Blk.below hbk1.out hb hbk1.out.lt
    have HBB := Lib.hid (hbw1.out.trans (hb.mono hbw1.out.size))
    have HBK := Lib.hid hbk
    obtain ⟨C, hC⟩ : ∃ C, C = chainOf mPrime s (L + 1) := ⟨_, rfl⟩
    rw [← hC] at hlen hsl hP
    have hlt := fun q (h : q ∈ C) => (show 1073741824 < q ∧ q < 4294967296 by rw [hC] at h; have := chainOf_lt h; omega)
    clear hC hb hbk
    obtain ⟨pa, cap, rfl, hcap, _, hrow⟩ := hsl
    rw [hlen] at hcap
    match C, hlen, hrow, hlt, hP with
    | q :: C', hlen, hrow, hlt, hP =>
      obtain ⟨b, off, rfl, hr⟩ := hrow (by simp)
      have hr0 := hr.cell 0 (by simp)
      rw [Nat.add_zero, List.getElem_cons_zero] at hr0
      have hq := (hlt q (by simp)).2
      have hbg : Hid (b ≠ w.heap.size) := by
        intro h
        rw [h, HBK.out.get off] at hr0
        have h1 := List.mem_of_getElem? hr0
        have h2 := (hlt q (by simp)).1
        simp at h1
        omega
      have hR := Lib.hid hr
      have HL := Lib.hid hlen
      have hlen2 : C'.length = L := by simpa using hlen
      have hl3 : (q :: C').length = L + 1 := hlen
      clear hr hrow hlt hlen
      subst hlen2
      go_wp2_with fail
      have z0 : W.cell? ⟨w.heap.size, 0, none⟩ = some (.int .i64 0) := HBK.out.cell 0 (by simp)
      have y0 : W.frozen? ⟨w.heap.size, 0, none⟩ = false := HBK.out.free 0
      have z1 : W.cell? ⟨w.heap.size, 1, none⟩ = some (.int .u32 0) := HBK.out.cell 1 (by simp)
      have y1 : W.frozen? ⟨w.heap.size, 1, none⟩ = false := HBK.out.free 1
      have z2 : W.cell? ⟨w.heap.size, 2, none⟩ = some (.int .i64 0) := HBK.out.cell 2 (by simp)
      have y2 : W.frozen? ⟨w.heap.size, 2, none⟩ = false := HBK.out.free 2
      have z3 : W.cell? ⟨w.heap.size, 3, none⟩ = some (.slice none 0 0) := HBK.out.cell 3 (by simp)
      have y3 : W.frozen? ⟨w.heap.size, 3, none⟩ = false := HBK.out.free 3
      have z4 : W.cell? ⟨w.heap.size, 4, none⟩ = some (.int .u32 0) := HBK.out.cell 4 (by simp)
      have y4 : W.frozen? ⟨w.heap.size, 4, none⟩ = false := HBK.out.free 4
      have z5 : W.cell? ⟨w.heap.size, 5, none⟩ = some (.int .i64 0) := HBK.out.cell 5 (by simp)
      have y5 : W.frozen? ⟨w.heap.size, 5, none⟩ = false := HBK.out.free 5
      have z6 : W.cell? ⟨w.heap.size, 6, none⟩ = some (.int .u32 0) := HBK.out.cell 6 (by simp)
      have y6 : W.frozen? ⟨w.heap.size, 6, none⟩ = false := HBK.out.free 6
      go_region
      have h7 := set7_ok HBK.out HBB.out (Nat.le_refl _) (.int .i64 (N : Int)) (.int .u32 (p : Nat)) (.int .i64 e) (.slice (some ⟨b, off + 1, none⟩) C'.length (cap - 1)) (.int .u32 (q : Nat)) (.int .i64 4) (.int .u32 2)
      generalize (((((((W.setCell ⟨w.heap.size, 0, none⟩ (.int .i64 (N : Int))).setCell ⟨w.heap.size, 1, none⟩ (.int .u32 (p : Nat))).setCell ⟨w.heap.size, 2, none⟩ (.int .i64 e)).setCell ⟨w.heap.size, 3, none⟩ (.slice (some ⟨b, off + 1, none⟩) C'.length (cap - 1))).setCell ⟨w.heap.size, 4, none⟩ (.int .u32 (q : Nat))).setCell ⟨w.heap.size, 5, none⟩ (.int .i64 4)).setCell ⟨w.heap.size, 6, none⟩ (.int .u32 2)).drew = W2 at h7 ⊢
      obtain ⟨hF, hbF, hsm⟩ := h7
      have hsame := Lib.hid (hsm b hbg.out)
      have HBF := Lib.hid hbF
      clear hsm hbF
      have hR7 : BoxP W2 w.heap.size { n := N, p := p, r := e, ch := C', sp := q, wt := 4, er := 2 } (.slice (some ⟨b, off + 1, none⟩) C'.length (cap - 1)) := BoxP.ofBlk hF
      have k0 : W2.cell? ⟨w.heap.size, 0, none⟩ = some (.int .i64 (N : Int)) := hR7.n
      have k1 : W2.cell? ⟨w.heap.size, 1, none⟩ = some (.int .u32 (p : Nat)) := hR7.p
      have k2 : W2.cell? ⟨w.heap.size, 2, none⟩ = some (.int .i64 e) := hR7.r
      have k3 : W2.cell? ⟨w.heap.size, 3, none⟩ = some (.slice (some ⟨b, off + 1, none⟩) C'.length (cap - 1)) := hR7.ch
      have k4 : W2.cell? ⟨w.heap.size, 4, none⟩ = some (.int .u32 (q : Nat)) := hR7.sp
      have k5 : W2.cell? ⟨w.heap.size, 5, none⟩ = some (.int .i64 4) := hR7.wt
      have k6 : W2.cell? ⟨w.heap.size, 6, none⟩ = some (.int .u32 2) := hR7.er
      clear hR7 hF
      go_wp2_with fail
      refine bodyPost_ret (v := .tuple #[.agg #[.int .i64 (N : Int), .int .u32 (p : Nat), .int .i64 e, .slice (some ⟨b, off + 1, none⟩) C'.length (cap - 1), .int .u32 (q : Nat), .int .i64 4, .int .u32 2], .int .i64 0]) (by simp [results, Try.results19, go_sem, k0, k1, k2, k3, k4, k5, k6]) rfl ?_
      refine ⟨HBF.out, .slice (some ⟨b, off + 1, none⟩) C'.length (cap - 1), ?_, ?_⟩
      · rw [hP.out, hK.out]; rfl
      · rw [hP.out]
        exact ⟨_, cap - 1, rfl, by show C'.length ≤ cap - 1; omega, by show C'.length ≤ 140737488351232; omega, fun _ => ⟨b, off + 1, rfl, (hR.out.tail).same hsame.out⟩⟩
end Go.Proofs.Ytjfjbkocopaehaa
