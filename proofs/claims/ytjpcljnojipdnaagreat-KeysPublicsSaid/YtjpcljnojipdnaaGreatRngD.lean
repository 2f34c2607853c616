/- obscuraref09.Check, at valid parameters. -/
import Derived.Test.YtjpcljnojipdnaaGreatRngC
namespace Go.Proofs.YtjpcljnojipdnaaGreat
open Go.RowKit

/-- A slice of slices of words. -/
def SliceR (w : World) (v : Value) (ls : List (List Nat)) : Prop :=
  ∃ (p : Option Addr) (cap : Nat), v = .slice p ls.length cap ∧ ls.length ≤ cap ∧ ls.length ≤ 140737488351232 ∧
    (ls ≠ [] → ∃ b off, p = some ⟨b, off, none⟩ ∧ b < w.heap.size ∧ ∀ i (h : i < ls.length), ∃ u, w.cell? ⟨b, off + i, none⟩ = some u ∧ SliceAt w u ls[i])
theorem SliceR.below {w w' : World} {v : Value} {ls : List (List Nat)} (h : SliceR w v ls) (hb : Below w.heap.size w w') : SliceR w' v ls := by
  obtain ⟨p, cap, h1, h2, h3, h4⟩ := h
  refine ⟨p, cap, h1, h2, h3, fun hne => ?_⟩
  obtain ⟨b, off, e, hbl, hr⟩ := h4 hne
  refine ⟨b, off, e, Nat.lt_of_lt_of_le hbl hb.size, fun i hi => ?_⟩
  obtain ⟨u, hu, hs⟩ := hr i hi
  exact ⟨u, (below_at hb hbl).trans hu, hs.below hb⟩
def elVal (lv : Int) (sp : Bool) (rv : Value) : Value := .agg #[.int .i64 lv, .bool sp, rv]

def rowB (x : Par) (q : Nat) (r : List Nat) : Bool := decide ((r.length : Int) = x.n) && r.all (fun c => decide (c < q))
def elemB (x : Par) (lv : Int) (sp : Bool) (rows : List (List Nat)) : Bool :=
  plB x lv && (decide (rows.length = (qsOf x lv.toNat sp).length) && (List.range rows.length).all (fun i => rowB x ((qsOf x lv.toNat sp).getD i 0) (rows.getD i [])))
def elemE (x : Par) (lv : Int) (sp : Bool) (rows : List (List Nat)) : Int := if elemB x lv sp rows then 0 else 2
theorem elem_no {x : Par} {lv : Int} {sp : Bool} {rows : List (List Nat)} (h : plB x lv = false ∨ rows.length ≠ (qsOf x lv.toNat sp).length ∨ ∃ i, i < rows.length ∧ rowB x ((qsOf x lv.toNat sp).getD i 0) (rows.getD i []) = false) : elemE x lv sp rows = 2 := by
  have hf : elemB x lv sp rows = false := by
    unfold elemB
    rcases h with h | h | ⟨i, hi, h⟩
    · rw [h]; rfl
    · rw [decide_eq_false h]; simp
    · have : (List.range rows.length).all (fun i => rowB x ((qsOf x lv.toNat sp).getD i 0) (rows.getD i [])) = false := by
        rw [List.all_eq_false]; exact ⟨i, List.mem_range.2 hi, by rw [h]; simp⟩
      rw [this]; simp
  unfold elemE; rw [hf]; rfl
theorem elem_yes {x : Par} {lv : Int} {sp : Bool} {rows : List (List Nat)} (h1 : plB x lv = true) (h2 : rows.length = (qsOf x lv.toNat sp).length) (h3 : ∀ i, i < rows.length → rowB x ((qsOf x lv.toNat sp).getD i 0) (rows.getD i []) = true) : elemE x lv sp rows = 0 := by
  have ht : elemB x lv sp rows = true := by
    unfold elemB
    have : (List.range rows.length).all (fun i => rowB x ((qsOf x lv.toNat sp).getD i 0) (rows.getD i [])) = true := List.all_eq_true.2 fun i hi => h3 i (List.mem_range.1 hi)
    rw [h1, decide_eq_true h2, this]; rfl
  unfold elemE; rw [ht]; rfl
theorem row_short {x : Par} {q : Nat} {r : List Nat} (h : (r.length : Int) ≠ x.n) : rowB x q r = false := by unfold rowB; rw [decide_eq_false h]; rfl
theorem row_bad {x : Par} {q j : Nat} {r : List Nat} (hj : j < r.length) (h : ¬ r[j] < q) : rowB x q r = false := by
  unfold rowB
  have : r.all (fun c => decide (c < q)) = false := by rw [List.all_eq_false]; exact ⟨r[j], List.getElem_mem hj, by simpa using h⟩
  rw [this]; simp
theorem row_good {x : Par} {q : Nat} {r : List Nat} (h : (r.length : Int) = x.n) (h2 : ∀ j (hj : j < r.length), r[j] < q) : rowB x q r = true := by
  unfold rowB
  have : r.all (fun c => decide (c < q)) = true := List.all_eq_true.2 fun c hc => by
    obtain ⟨j, hj, rfl⟩ := List.getElem_of_mem hc
    exact decide_eq_true (h2 j hj)
  rw [decide_eq_true h, this]; rfl
theorem getD_at {α : Type} (l : List α) (d : α) {i : Nat} (h : i < l.length) : l.getD i d = l[i] := by rw [List.getD_eq_getElem?_getD, List.getElem?_eq_getElem h]; rfl

set_option maxHeartbeats 4000000 in
set_option maxRecDepth 100000 in
theorem rcheck9_any (x : Par) (cv rv : Value) (lv : Int) (sp : Bool) (rows : List (List Nat)) (w : World) (hx : Good x) (hcv : SliceAt w cv x.ch) (hrv : SliceR w rv rows) :
    Calls Tryz.prog 51 #[x.val cv, elVal lv sp rv] w fun r w' => r = .returned (.int .i64 (elemE x lv sp rows)) ∧ Below w.heap.size w w' := by
  have hbW : Below w.heap.size w ((w.alloc (.cells #[.int .i64 x.n, .int .u32 x.p, .int .i64 x.r, cv, .int .u32 x.sp, .int .i64 x.wt, .int .u32 x.er] 25)).alloc (.cells #[.int .i64 lv, .bool sp, rv] 32)) := ((Below.refl _ _).alloc (Nat.le_refl _) _).alloc (by simp) _
  have hB : BoxP ((w.alloc (.cells #[.int .i64 x.n, .int .u32 x.p, .int .i64 x.r, cv, .int .u32 x.sp, .int .i64 x.wt, .int .u32 x.er] 25)).alloc (.cells #[.int .i64 lv, .bool sp, rv] 32)) w.heap.size x cv := by constructor <;> simp [go_sem]
  have hE : ((w.alloc (.cells #[.int .i64 x.n, .int .u32 x.p, .int .i64 x.r, cv, .int .u32 x.sp, .int .i64 x.wt, .int .u32 x.er] 25)).alloc (.cells #[.int .i64 lv, .bool sp, rv] 32)).cell? ⟨w.heap.size + 1, 0, none⟩ = some (.int .i64 lv) ∧ ((w.alloc (.cells #[.int .i64 x.n, .int .u32 x.p, .int .i64 x.r, cv, .int .u32 x.sp, .int .i64 x.wt, .int .u32 x.er] 25)).alloc (.cells #[.int .i64 lv, .bool sp, rv] 32)).cell? ⟨w.heap.size + 1, 1, none⟩ = some (.bool sp) ∧ ((w.alloc (.cells #[.int .i64 x.n, .int .u32 x.p, .int .i64 x.r, cv, .int .u32 x.sp, .int .i64 x.wt, .int .u32 x.er] 25)).alloc (.cells #[.int .i64 lv, .bool sp, rv] 32)).cell? ⟨w.heap.size + 1, 2, none⟩ = some rv ∧ w.heap.size + 1 + 1 ≤ ((w.alloc (.cells #[.int .i64 x.n, .int .u32 x.p, .int .i64 x.r, cv, .int .u32 x.sp, .int .i64 x.wt, .int .u32 x.er] 25)).alloc (.cells #[.int .i64 lv, .bool sp, rv] 32)).heap.size := ⟨by simp [go_sem], by simp [go_sem], by simp [go_sem], by simp⟩
  have HSL := Lib.hid (hcv.below hbW)
  have HRV := Lib.hid (hrv.below hbW)
  have HBW := Lib.hid hbW
  have HB := Lib.hid hB
  have HE := Lib.hid hE
  have HX := Lib.hid hx
  have hdm := isDim_cases hx.dim
  obtain ⟨N, hN⟩ : ∃ N : Nat, x.n = N := ⟨x.n.toNat, by omega⟩
  have hN4 : 4 ≤ N := by omega
  have hN32 : N ≤ 32 := by omega
  have HN := Lib.hid hN
  have hl2 := hx.l2
  clear hbW hB hE hx hdm hN hrv
  obtain ⟨pc, ncv, ccv, rfl⟩ : ∃ pa na ca, cv = .slice pa na ca := by obtain ⟨p, c, e, _⟩ := hcv; exact ⟨p, _, c, e⟩
  clear hcv
  unfold Par.val elVal
  go_enter Tryz.func51, Tryz.ntmps51
  go_wp2_with fail
  refine (rvalid9_yes x _ _ HX.out HSL.out).mono ?_
  rintro e w1 ⟨rfl, hb1⟩
  have HB1 := Lib.hid (HB.out.below hb1 (by have := HE.out.2.2.2; omega))
  have HE1 : Hid (w1.cell? ⟨w.heap.size + 1, 0, none⟩ = some (.int .i64 lv) ∧ w1.cell? ⟨w.heap.size + 1, 1, none⟩ = some (.bool sp) ∧ w1.cell? ⟨w.heap.size + 1, 2, none⟩ = some rv ∧ w.heap.size + 1 + 1 ≤ w1.heap.size) :=
    ⟨(below_at hb1 (by have := HE.out.2.2.2; omega)).trans HE.out.1, (below_at hb1 (by have := HE.out.2.2.2; omega)).trans HE.out.2.1, (below_at hb1 (by have := HE.out.2.2.2; omega)).trans HE.out.2.2.1, Nat.le_trans HE.out.2.2.2 hb1.size⟩
  have HSL1 := Lib.hid (HSL.out.below hb1)
  have HRV1 := Lib.hid (HRV.out.below hb1)
  have HBW1 := Lib.hid (HBW.out.trans (hb1.mono HBW.out.size))
  clear hb1 HB HE HSL HRV HBW
  have y0 := HB1.out.n; have y1 := HB1.out.p; have y2 := HB1.out.r; have y3 := HB1.out.ch; have y4 := HB1.out.sp; have y5 := HB1.out.wt; have y6 := HB1.out.er
  have z0 := HE1.out.1; have z1 := HE1.out.2.1; have z2 := HE1.out.2.2.1
  go_wp2_with fail
  refine (rplace9_any x _ lv sp _ HX.out HSL1.out).mono ?_
  rintro e w2 ⟨rfl, hb2⟩
  have HB2 := Lib.hid (HB1.out.below hb2 (by have := HE1.out.2.2.2; omega))
  have HE2 : Hid (w2.cell? ⟨w.heap.size + 1, 0, none⟩ = some (.int .i64 lv) ∧ w2.cell? ⟨w.heap.size + 1, 1, none⟩ = some (.bool sp) ∧ w2.cell? ⟨w.heap.size + 1, 2, none⟩ = some rv ∧ w.heap.size + 1 + 1 ≤ w2.heap.size) :=
    ⟨(below_at hb2 (by have := HE1.out.2.2.2; omega)).trans HE1.out.1, (below_at hb2 (by have := HE1.out.2.2.2; omega)).trans HE1.out.2.1, (below_at hb2 (by have := HE1.out.2.2.2; omega)).trans HE1.out.2.2.1, Nat.le_trans HE1.out.2.2.2 hb2.size⟩
  have HSL2 := Lib.hid (HSL1.out.below hb2)
  have HRV2 := Lib.hid (HRV1.out.below hb2)
  have HBW2 := Lib.hid (HBW1.out.trans (hb2.mono HBW1.out.size))
  clear hb2 HB1 HE1 HSL1 HRV1 HBW1 y0 y1 y2 y3 y4 y5 y6 z0 z1 z2
  cases hpl : plB x lv with
  | false =>
    have HR : Hid (elemE x lv sp rows = 2) := elem_no (.inl hpl)
    clear hpl
    go_wp2_with fail
    go_ret
    exact ⟨ret_int HR.out.symm, HBW2.out⟩
  | true =>
    have hlv : 1 ≤ lv ∧ lv ≤ x.ch.length := by unfold plB at hpl; simpa using hpl
    obtain ⟨L, rfl⟩ : ∃ L : Nat, lv = L := ⟨lv.toNat, by omega⟩
    have HPL := Lib.hid hpl
    have hL1 : 1 ≤ L := by omega
    have hL2 : L ≤ x.ch.length := by omega
    have y0 := HB2.out.n; have y1 := HB2.out.p; have y2 := HB2.out.r; have y3 := HB2.out.ch; have y4 := HB2.out.sp; have y5 := HB2.out.wt; have y6 := HB2.out.er
    have z0 := HE2.out.1; have z1 := HE2.out.2.1; have z2 := HE2.out.2.2.1
    clear hpl hlv
    go_wp2_with fail
    refine (rmoduli9_any x _ L sp _ HX.out HSL2.out hL1 hL2).mono ?_
    rintro e w3 ⟨⟨qv, rfl, hqv⟩, hb3⟩
    have HE3 : Hid (w3.cell? ⟨w.heap.size + 1, 2, none⟩ = some rv ∧ w.heap.size + 1 + 1 ≤ w3.heap.size) :=
      ⟨(below_at hb3 (by have := HE2.out.2.2.2; omega)).trans HE2.out.2.2.1, Nat.le_trans HE2.out.2.2.2 hb3.size⟩
    have HN3 : Hid (w3.cell? ⟨w.heap.size, 0, none⟩ = some (.int .i64 (N : Int))) := by
      have := (HB2.out.below hb3 (by have := HE2.out.2.2.2; omega)).n
      rw [HN.out] at this; exact this
    have HRV3 := Lib.hid (HRV2.out.below hb3)
    have HBW3 := Lib.hid (HBW2.out.trans (hb3.mono HBW2.out.size))
    have HQ3 := Lib.hid hqv
    have hql : Hid ((qsOf x L sp).length = L + (if sp then 1 else 0)) := qs_len hL2
    have hqm := Lib.hid (fun q (h : q ∈ qsOf x L sp) => qs_mem HX.out q h)
    clear hb3 hqv HE2 HRV2 HBW2 HB2 HSL2 y0 y1 y2 y3 y4 y5 y6 z0 z1 z2
    obtain ⟨Q, hQ⟩ : ∃ Q, qsOf x L sp = Q := ⟨_, rfl⟩
    have hno := fun h => elem_no (x := x) (lv := (L : Int)) (sp := sp) (rows := rows) h
    have hyes := elem_yes (x := x) (lv := (L : Int)) (sp := sp) (rows := rows) HPL.out
    rw [Int.toNat_natCast, hQ] at hno hyes
    rw [hQ] at hql hqm HQ3
    have hQ1 : 1 ≤ Q.length := by have := hql.out; split at this <;> omega
    have hQ26 : Q.length ≤ 26 := by have := hql.out; split at this <;> omega
    have HNO := Lib.hid hno; have HYES := Lib.hid hyes
    clear hQ hno hyes hql
    obtain ⟨pr, cr, rfl, hr1, hr2, hrr⟩ := HRV3.out
    obtain ⟨pq, cq, rfl, hq1, hq2, hqq⟩ := HQ3.out
    obtain ⟨bq, oq, rfl, hRQ⟩ := hqq (by intro e; rw [e] at hQ1; simp at hQ1)
    have HRQ := Lib.hid hRQ; have HRR := Lib.hid hrr
    have z2 := HE3.out.1
    clear hRQ hqq hrr HRV3 HQ3
    by_cases hlen : rows.length = Q.length
    case neg =>
      have e1 : ((rows.length : Int) != (Q.length : Int)) = true := bne_iff_ne.2 (by omega)
      have HR : Hid (elemE x L sp rows = 2) := HNO.out (.inr (.inl hlen))
      clear hlen
      go_wp2_with fail
      go_ret
      exact ⟨ret_int HR.out.symm, HBW3.out⟩
    case pos =>
      have e1 : ((rows.length : Int) != (Q.length : Int)) = false := by rw [hlen]; simp
      obtain ⟨br, or_, rfl, hbr, hRR⟩ := HRR.out (by intro e; rw [e] at hlen; simp at hlen; omega)
      have HLEN := Lib.hid hlen
      have HR2 := Lib.hid hRR
      have hle1 : rows.length ≤ Q.length := by omega
      have hle2 : Q.length ≤ rows.length := by omega
      clear hlen hRR HRR
      go_wp2_with fail
      go_loopw [6] (fun vi wr => ∃ i : Nat, vi = .int .i64 i ∧ i ≤ Q.length ∧ Hid (∀ k, k < i → rowB x (Q.getD k 0) (rows.getD k []) = true) ∧ Hid (Below w3.heap.size w3 wr)) (fun vi _ => Q.length - (intOf vi).toNat)
      case atStart => exact ⟨0, rfl, by omega, fun k hk => absurd hk (by omega), Below.refl _ _⟩
      case round =>
        obtain ⟨i, rfl, hi, hgood, hbi⟩ := hrel
        obtain ⟨wo, hwo⟩ : ∃ wo : World, wo = wr := ⟨_, rfl⟩
        rw [← hwo] at hbi ⊢
        clear hwo
        have v0 := (below_at hbi.out (by have := HE3.out.2; omega)).trans HN3.out
        have v2 := (below_at hbi.out (by have := HE3.out.2; omega)).trans z2
        by_cases hlt : i < Q.length
        · obtain ⟨u, hu, hsu⟩ := HR2.out i (by omega)
          have hgr : Hid (rows.getD i [] = rows[i]'(by omega)) := getD_at _ _ _
          have hgq : Hid (Q.getD i 0 = Q[i]) := getD_at _ _ _
          obtain ⟨r, hr⟩ : ∃ r, rows[i]'(by omega) = r := ⟨_, rfl⟩
          rw [hr] at hsu hgr
          obtain ⟨pu, cu, rfl, hu1, hu2, huu⟩ := hsu
          have xu := (below_at hbi.out hbr).trans hu
          have i0 : (0 : Int) ≤ (i : Int) := by omega
          have i1 : (i : Int) < (Q.length : Int) := by omega
          have i2 : (i : Int) < (rows.length : Int) := by omega
          have HUU := Lib.hid huu
          clear hr hu huu
          by_cases hrl : r.length = N
          case neg =>
            have e2 : ((r.length : Int) != (N : Int)) = true := bne_iff_ne.2 (by omega)
            have HR : Hid (elemE x L sp rows = 2) := HNO.out (.inr (.inr ⟨i, by omega, by rw [hgr.out]; exact row_short (by rw [HN.out]; omega)⟩))
            have hF : Hid (Below w.heap.size w wo) := HBW3.out.trans (hbi.out.mono HBW3.out.size)
            clear hrl
            go_wp2_with fail
            go_quiet (fail)
            go_wp2_with fail
            go_ret
            exact ⟨ret_int HR.out.symm, below_drewN hF.out _⟩
          case pos =>
            have e2 : ((r.length : Int) != (N : Int)) = false := by rw [hrl]; simp
            obtain ⟨bu, ou, rfl, hRU⟩ := HUU.out (by intro e; rw [e] at hrl; simp at hrl; omega)
            have HRU := Lib.hid hRU; have HRL := Lib.hid hrl
            have hr32 : r.length ≤ 32 := by omega
            have hrN : N ≤ r.length := by omega
            have hrN2 : r.length ≤ N := by omega
            obtain ⟨q, hq⟩ : ∃ q, Q[i] = q := ⟨_, rfl⟩
            rw [hq] at hgq
            have hqm2 := hqm.out q (by rw [← hq]; exact List.getElem_mem hlt)
            have HQI : Hid (w3.cell? ⟨bq, oq + i, none⟩ = some (.int .u32 q)) := by have := HRQ.out.cell i hlt; rw [hq] at this; exact this
            clear hrl hRU HUU hq
            go_wp2_with fail
            go_quiet (fail)
            go_wp2_with fail
            go_loopw [7] (fun vj wr => ∃ j : Nat, vj = .int .i64 j ∧ j ≤ N ∧ Hid (∀ k (hk : k < j) (hk2 : k < r.length), r[k] < q) ∧ Hid (Below w3.heap.size w3 wr)) (fun vj _ => N - (intOf vj).toNat)
            case atStart => exact ⟨0, rfl, by omega, fun k hk => absurd hk (by omega), below_drewN hbi.out _⟩
            case round =>
              obtain ⟨j, rfl, hj, hsm, hbj⟩ := hrel
              have t0 := (below_at hbj.out (by have := HE3.out.2; omega)).trans HN3.out
              have t2 := (below_at hbj.out (by have := HE3.out.2; omega)).trans z2
              have tu := (below_at hbj.out hbr).trans ((below_at hbi.out hbr).symm.trans xu)
              have tq := (below_at hbj.out HRQ.out.blk).trans HQI.out
              by_cases hjl : j < N
              · have tc := (HRU.out.below hbj.out HRU.out.blk).cell j (by omega)
                obtain ⟨c, hc⟩ : ∃ c, r[j]'(by omega) = c := ⟨_, rfl⟩
                rw [hc] at tc
                have j0 : (0 : Int) ≤ (j : Int) := by omega
                have j1 : (j : Int) < (N : Int) := by omega
                have j2 : (j : Int) < (r.length : Int) := by omega
                by_cases hcq : c < q
                · have f1 : decide ((q : Int) ≤ (c : Int)) = false := decide_eq_false (by omega)
                  have f2 : decide (q ≤ c) = false := decide_eq_false (by omega)
                  have hsm2 : Hid (∀ k (hk : k < j + 1) (hk2 : k < r.length), r[k] < q) := fun k hk hk2 => by
                    by_cases e : k = j
                    · subst e; rw [hc]; exact hcq
                    · exact hsm.out k (by omega) hk2
                  clear hc
                  go_wp2_with fail
                  go_quiet (fail)
                  go_wp2_with fail
                  go_roundw
                  case rel => exact ⟨j + 1, by go_num, by omega, hsm2, below_drewN hbj.out _⟩
                  case measure => simp [intOf]; omega
                · have f1 : decide ((q : Int) ≤ (c : Int)) = true := decide_eq_true (by omega)
                  have f2 : decide (q ≤ c) = true := decide_eq_true (by omega)
                  have HR : Hid (elemE x L sp rows = 2) := HNO.out (.inr (.inr ⟨i, by omega, by rw [hgr.out, hgq.out]; exact row_bad (j := j) (by omega) (by rw [hc]; exact hcq)⟩))
                  have hF : Hid (Below w.heap.size w wr) := HBW3.out.trans (hbj.out.mono HBW3.out.size)
                  clear hc
                  go_wp2_with fail
                  go_quiet (fail)
                  go_wp2_with fail
                  go_ret
                  exact ⟨ret_int HR.out.symm, below_drewN hF.out _⟩
              · have j1 : ¬ ((j : Int) < (N : Int)) := by omega
                have hg2 : Hid (∀ k, k < i + 1 → rowB x (Q.getD k 0) (rows.getD k []) = true) := fun k hk => by
                  by_cases e : k = i
                  · subst e; rw [hgr.out, hgq.out]; exact row_good (by rw [HN.out]; omega) (fun j' hj' => hsm.out j' (by omega) hj')
                  · exact hgood.out k (by omega)
                go_wp2_with fail
                go_roundw
                case rel => exact ⟨i + 1, by go_num, by omega, hg2, hbj⟩
                case measure => simp [intOf]; omega
        · have i1 : ¬ ((i : Int) < (Q.length : Int)) := by omega
          have HR : Hid (elemE x L sp rows = 0) := HYES.out HLEN.out (fun k hk => hgood.out k (by omega))
          have hF : Hid (Below w.heap.size w wo) := HBW3.out.trans (hbi.out.mono HBW3.out.size)
          go_wp2_with fail
          go_ret
          exact ⟨ret_int HR.out.symm, hF.out⟩
end Go.Proofs.YtjpcljnojipdnaaGreat
