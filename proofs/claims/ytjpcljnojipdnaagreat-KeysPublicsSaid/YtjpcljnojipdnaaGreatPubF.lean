/- ring: the fills of FromInts, Sub, Mul. -/
import Derived.Test.YtjpcljnojipdnaaGreatPubE
import Derived.Test.YtjpcljnojipdnaaGreatKptA
import Derived.StillTailTactics
import Derived.Deep.QuietTactic
import Derived.BigQuiet
namespace Go.Proofs.YtjpcljnojipdnaaGreat
open Go.RowKit Go.Shelf
set_option linter.unusedVariables false

/-- A row that is filled from its start. -/
structure FlS (W wr : World) (g N k : Nat) (f : Nat → Nat) : Prop where
  gr : W.grownBy wr (some g)
  bk : Blk wr g (u32s (rowOf k f) ++ List.replicate (N - k) (.int .u32 0)) 22
theorem FlS.start {W : World} {g N : Nat} {f : Nat → Nat} (h : Blk W g (List.replicate N (.int .u32 0)) 22) : FlS W W g N 0 f := ⟨gr_refl _ _, h⟩
theorem FlS.full {W wr : World} {g N : Nat} {f : Nat → Nat} (h : FlS W wr g N N f) : W.grownBy wr (some g) ∧ Blk wr g (u32s (rowOf N f)) 22 := ⟨h.gr, by have := h.bk; rw [Nat.sub_self, List.replicate_zero, List.append_nil] at this; exact this⟩
theorem FlS.cell {W wr : World} {g N k : Nat} {f : Nat → Nat} (h : FlS W wr g N k f) (hk : k < N) : wr.cell? ⟨g, k, none⟩ = some (.int .u32 0) := by
  have h2 := h.bk.cell k (by unfold u32s; rw [List.length_append, List.length_map, List.length_replicate, rowOf_len]; omega)
  rw [h2, List.getElem_append_right (by unfold u32s; rw [List.length_map, rowOf_len]; omega), List.getElem_replicate]
theorem FlS.set {W wr : World} {g N k : Nat} {f : Nat → Nat} {v : Int} (h : FlS W wr g N k f) (hk : k < N) (hv : v = (f k : Nat)) : FlS W (wr.setCell ⟨g, k, none⟩ (.int .u32 v)) g N (k + 1) f := by
  refine ⟨gr_set h.gr _ _, ?_⟩
  have h2 := h.bk.set k (.int .u32 v)
  subst hv
  unfold u32s at h2 ⊢
  rw [set_rest (val := fun q => Value.int .u32 ((q : Nat) : Int)) (v := f k) (rowOf_len _ _) hk] at h2
  rw [rowOf_succ]
  exact h2
theorem FlS.drew {W wr : World} {g N k : Nat} {f : Nat → Nat} (h : FlS W wr g N k f) : FlS W wr.drew g N k f := ⟨⟨h.gr.os, h.gr.tape, h.gr.output, h.gr.size, h.gr.block⟩, h.bk⟩
theorem FlS.at {W wr : World} {g N k b i : Nat} {f : Nat → Nat} (h : FlS W wr g N k f) (hb : b < W.heap.size) (hne : b ≠ g) : wr.cell? ⟨b, i, none⟩ = W.cell? ⟨b, i, none⟩ := gr_cell h.gr hb hne

theorem wf_i64 {z : Int} (h : (Lit.int .i64 z).wf = true) : -9223372036854775808 ≤ z ∧ z ≤ 9223372036854775807 := by
  simp [Lit.wf, IntKind.min, IntKind.max, IntKind.bits, IntKind.signed] at h; omega
theorem Drew {w : World} {a : Addr} {v : Value} (h : w.cell? a = some v) : w.drew.cell? a = some v := h
theorem ch_at {x : Par} {i : Nat} (hx : Good x) (hi : i < x.ch.length) : 1073741824 < x.ch.getD i 0 ∧ x.ch.getD i 0 ≤ 2147483647 := by
  rw [List.getD_eq_getElem?_getD, List.getElem?_eq_getElem hi]
  exact ⟨(hx.ch _ (List.getElem_mem _)).1, (hx.ch _ (List.getElem_mem _)).2.1⟩

set_option maxHeartbeats 4000000 in
set_option maxRecDepth 100000 in
theorem fint_fill (x : Par) (B N L : Nat) (l : List Int) (lv : Value) (w : World) (hc : w.cell? ⟨B, 0, none⟩ = some lv) (hB : B < w.heap.size) (hl : SliceZ .i64 w lv l) (hlen : l.length = N) (hN1 : 1 ≤ N) (hN : N ≤ 32) (hx : Good x) (hL : L ≤ x.ch.length) :
    Fills w 85 #[.pointer (some ⟨B, 0, none⟩)] L N (fun i => x.ch.getD i 0) (fun i => intF l (x.ch.getD i 0)) := by
  intro i W g hi hbW hg hbk
  have hq := ch_at hx (i := i) (by omega)
  dsimp only
  generalize x.ch.getD i 0 = q at hq ⊢
  obtain ⟨p, cap, rfl, hcap, hcap2, hrow⟩ := hl
  obtain ⟨b, off, rfl, hr⟩ := hrow (by intro e; rw [e] at hlen; simp at hlen; omega)
  have cB := (below_at hbW hB).trans hc
  have HR := Lib.hid (hr.below hbW hr.blk)
  have HLEN := Lib.hid hlen
  have hbw : b < w.heap.size := hr.blk
  have hs := hbW.size
  have hll : l.length ≤ N := by omega
  have hll2 : N ≤ l.length := by omega
  have HBK := Lib.hid hbk
  clear hc hr hrow hlen hbk hx hbW
  go_enter Tryz.func85, Tryz.ntmps85
  go_wp2_with fail
  go_loopw [7, 8, 9, 12] (fun _ _ _ vk wr => ∃ k : Nat, vk = .int .i64 k ∧ k ≤ N ∧ Hid (FlS W wr g N k (intF l q))) (fun _ _ _ vk _ => N - (intOf vk).toNat)
  case atStart => exact ⟨0, rfl, by omega, FlS.start HBK.out⟩
  case round =>
    obtain ⟨k, rfl, hk, hfl⟩ := hrel
    by_cases hlt : k < N
    · have cel := (hfl.out.at (b := b) (i := off + k) (by omega) (by omega)).trans (HR.out.cell k (by omega))
      have cz := hfl.out.cell hlt
      have fz := hfl.out.bk.free k
      have k0 : (0 : Int) ≤ (k : Int) := by omega
      have k1 : (k : Int) < (l.length : Int) := by omega
      have k2 : (k : Int) < (N : Int) := by omega
      have hz : l.getD k 0 = l[k]'(by omega) := getD_lt (by omega)
      have hwf := wf_i64 (HR.out.rng _ (List.getElem_mem (show k < l.length by omega)))
      have hres := resZ_tmod (z := l.getD k 0) (q := q) (by omega)
      have hrl := resZ_lt (z := l.getD k 0) (q := q) (by omega)
      have hval : Hid (((intF l q k : Nat) : Int) = (resZ (l.getD k 0) q : Nat)) := rfl
      have e1 : IntKind.i64.wrap (q : Int) = (q : Int) := by rw [IntKind.wrap_i64]; omega
      rw [hz] at hres hrl hval
      generalize l[k]'(by omega) = z at *
      have hq0 : ¬ ((q : Int) = 0) := by omega
      by_cases hneg : z.tmod q < 0
      · rw [if_pos hneg] at hres
        have e2 : IntKind.i64.wrap (z.tmod (q : Int) + q) = z.tmod (q : Int) + q := by rw [IntKind.wrap_i64]; omega
        have e3 : IntKind.u32.wrap (z.tmod (q : Int) + q) = z.tmod (q : Int) + q := by rw [IntKind.wrap_u32]; omega
        have hfin : Hid (FlS W (wr.setCell ⟨g, k, none⟩ (.int .u32 (z.tmod (q : Int) + q))) g N (k + 1) (intF l q)) := hfl.out.set hlt (by rw [hval.out, hres])
        have HRES := Lib.hid hres
        clear hres hrl hwf
        go_wp2_with fail
        go_roundw
        case rel => exact ⟨k + 1, by go_num, by omega, hfin⟩
        case measure => simp [intOf]; omega
      · rw [if_neg hneg] at hres
        have e3 : IntKind.u32.wrap (z.tmod (q : Int)) = z.tmod (q : Int) := by rw [IntKind.wrap_u32]; omega
        have hfin : Hid (FlS W (wr.setCell ⟨g, k, none⟩ (.int .u32 (z.tmod (q : Int)))) g N (k + 1) (intF l q)) := hfl.out.set hlt (by rw [hval.out, hres])
        have HRES := Lib.hid hres
        clear hres hrl hwf
        go_wp2_with fail
        go_roundw
        case rel => exact ⟨k + 1, by go_num, by omega, hfin⟩
        case measure => simp [intOf]; omega
    · obtain rfl : k = N := by omega
      go_wp2_with fail
      go_end0
      exact ⟨rfl, hfl.out.full⟩

/-- One row of an element in a box. -/
theorem row_in {w : World} {Bx i N : Nat} {rv : Value} {rows : List (List Nat)} (hc : w.cell? ⟨Bx, 2, none⟩ = some rv) (hr : SliceR w rv rows) (hi : i < rows.length) (hn : (rows.getD i []).length = N) (hN : 1 ≤ N) :
    ∃ b off cap bu ou cu, w.cell? ⟨Bx, 2, none⟩ = some (.slice (some ⟨b, off, none⟩) rows.length cap) ∧ b < w.heap.size ∧ w.cell? ⟨b, off + i, none⟩ = some (.slice (some ⟨bu, ou, none⟩) N cu) ∧ RowAt w bu ou (rows.getD i []) := by
  obtain ⟨p, cap, rfl, h2, h3, h4⟩ := hr
  obtain ⟨b, off, rfl, hb, hrow⟩ := h4 (by intro e; rw [e] at hi; simp at hi)
  obtain ⟨u, hu, hs⟩ := hrow i hi
  have e : rows.getD i [] = rows[i] := getD_at _ _ _
  rw [e] at hn ⊢
  obtain ⟨pu, cu, rfl, k2, k3, k4⟩ := hs
  obtain ⟨bu, ou, rfl, hru⟩ := k4 (by intro e; rw [e] at hn; simp at hn; omega)
  exact ⟨b, off, cap, bu, ou, cu, hc, hb, by rw [← hn]; exact hu, hru⟩
/-- Rows of residues below the primes. -/
def ResR (x : Par) (L N : Nat) (rows : List (List Nat)) : Prop := rows.length = L ∧ ∀ i, i < L → (rows.getD i []).length = N ∧ ∀ k, (rows.getD i []).getD k 0 < x.ch.getD i 0

set_option maxHeartbeats 4000000 in
set_option maxRecDepth 100000 in
theorem fsub_fill (x : Par) (A B N L : Nat) (ra rb : List (List Nat)) (av bv : Value) (w : World) (hca : w.cell? ⟨A, 2, none⟩ = some av) (hA : A < w.heap.size) (hra : SliceR w av ra) (hRA : ResR x L N ra)
    (hcb : w.cell? ⟨B, 2, none⟩ = some bv) (hB : B < w.heap.size) (hrb : SliceR w bv rb) (hRB : ResR x L N rb) (hN1 : 1 ≤ N) (hN : N ≤ 32) (hx : Good x) (hL : L ≤ x.ch.length) (hL2 : x.ch.length ≤ 24) :
    Fills w 88 #[.pointer (some ⟨A, 0, none⟩), .pointer (some ⟨B, 0, none⟩)] L N (fun i => x.ch.getD i 0) (fun i => sumF (-1) (x.ch.getD i 0) (ra.getD i []) (rb.getD i [])) := by
  intro i W g hi hbW hg hbk
  have hq := ch_at hx (i := i) (by omega)
  have ha := hRA.2 i hi
  have hb := hRB.2 i hi
  obtain ⟨b1, o1, c1, u1, p1, d1, ca, hb1, cra, rowa⟩ := row_in hca hra (i := i) (by rw [hRA.1]; exact hi) ha.1 hN1
  obtain ⟨b2, o2, c2, u2, p2, d2, cb, hb2, crb, rowb⟩ := row_in hcb hrb (i := i) (by rw [hRB.1]; exact hi) hb.1 hN1
  rw [hRA.1] at ca; rw [hRB.1] at cb
  dsimp only
  generalize x.ch.getD i 0 = q at hq ha hb ⊢
  generalize ra.getD i [] = a at ha rowa ⊢
  generalize rb.getD i [] = b at hb rowb ⊢
  have CA := Lib.hid ((below_at hbW hA).trans ca); have CB := Lib.hid ((below_at hbW hB).trans cb)
  have CRA := Lib.hid ((below_at hbW hb1).trans cra); have CRB := Lib.hid ((below_at hbW hb2).trans crb)
  have hu1 : u1 < w.heap.size := rowa.blk
  have hu2 : u2 < w.heap.size := rowb.blk
  have RA := Lib.hid (rowa.below hbW rowa.blk); have RB := Lib.hid (rowb.below hbW rowb.blk)
  have HA := Lib.hid ha; have HBb := Lib.hid hb
  have hs := hbW.size
  have HBK := Lib.hid hbk
  have hL24 : L ≤ 24 := by omega
  clear hca hra hRA hcb hrb hRB hx ca cb cra crb rowa rowb ha hb hbk hbW
  go_enter Tryz.func88, Tryz.ntmps88
  go_wp2_with fail
  go_loopw [8, 11] (fun _ vk wr => ∃ k : Nat, vk = .int .i64 k ∧ k ≤ N ∧ Hid (FlS W wr g N k (sumF (-1) q a b))) (fun _ vk _ => N - (intOf vk).toNat)
  case atStart => exact ⟨0, rfl, by omega, FlS.start HBK.out⟩
  case round =>
    obtain ⟨k, rfl, hk, hfl⟩ := hrel
    by_cases hlt : k < N
    · have hka : k < a.length := by have := HA.out.1; omega
      have hkb : k < b.length := by have := HBb.out.1; omega
      have x1 := (hfl.out.at (b := A) (i := 2) (by omega) (by omega)).trans CA.out
      have x2 := (hfl.out.at (b := B) (i := 2) (by omega) (by omega)).trans CB.out
      have x3 := (hfl.out.at (b := b1) (i := o1 + i) (by omega) (by omega)).trans CRA.out
      have x4 := (hfl.out.at (b := b2) (i := o2 + i) (by omega) (by omega)).trans CRB.out
      have x5 := (hfl.out.at (b := u1) (i := p1 + k) (by omega) (by omega)).trans (RA.out.cell k hka)
      have x6 := (hfl.out.at (b := u2) (i := p2 + k) (by omega) (by omega)).trans (RB.out.cell k hkb)
      have cz := hfl.out.cell hlt
      have fz := hfl.out.bk.free k
      have va := HA.out.2 k
      have vb := HBb.out.2 k
      have hval := subF_go a b k vb
      rw [getD_at a 0 hka] at va hval
      rw [getD_at b 0 hkb] at vb hval
      have hres : sumF (-1) q a b k < q := by rw [← hval]; exact Nat.mod_lt _ (by omega)
      generalize a[k] = y at *
      generalize b[k] = z at *
      have k0 : (0 : Int) ≤ (k : Int) := by omega
      have k2 : (k : Int) < (N : Int) := by omega
      have i0 : (0 : Int) ≤ (i : Int) := by omega
      have i1 : (i : Int) < (L : Int) := by omega
      have e1 : IntKind.u64.wrap (y : Int) = (y : Int) := wraps_u64 _ (by omega) (by omega)
      have e2 : IntKind.u64.wrap ((y : Int) + q) = (y : Int) + q := wraps_u64 _ (by omega) (by omega)
      have e3 : IntKind.u64.wrap (z : Int) = (z : Int) := wraps_u64 _ (by omega) (by omega)
      have e4 : IntKind.u64.wrap ((y : Int) + q - z) = (y : Int) + q - z := wraps_u64 _ (by omega) (by omega)
      have e5 : (((y : Int) + q - z) % (q : Int)) = ((sumF (-1) q a b k : Nat) : Int) := by rw [← hval, Int.natCast_emod, show ((y + q - z : Nat) : Int) = (y : Int) + q - z by omega]
      have hq1 : ¬ (q = 0) := by omega
      have e6 : IntKind.u32.wrap ((sumF (-1) q a b k : Nat) : Int) = ((sumF (-1) q a b k : Nat) : Int) := by rw [IntKind.wrap_u32]; omega
      have hq0 : ¬ ((q : Int) = 0) := by omega
      have e7 : ((sumF (-1) q a b k : Nat) : Int) % 4294967296 = ((sumF (-1) q a b k : Nat) : Int) := Int.emod_eq_of_lt (by omega) (by omega)
      have hfin : Hid (FlS W (wr.drew.setCell ⟨g, k, none⟩ (.int .u32 ((sumF (-1) q a b k : Nat) : Int))) g N (k + 1) (sumF (-1) q a b)) := hfl.out.drew.set hlt rfl
      clear hval hres
      go_wp2_with fail
      refine wp_region_still_tail 27 (by kernel_rfl) (by kernel_rfl) ?_
      replace x1 := Drew x1; replace x2 := Drew x2; replace x3 := Drew x3; replace x4 := Drew x4; replace x5 := Drew x5; replace x6 := Drew x6; replace cz := Drew cz
      replace fz : wr.drew.frozen? ⟨g, k, none⟩ = false := fz
      change wpStill _ _ wr.drew (fun a' => wpList _ _ _ _ a' wr.drew) _ _
      generalize wr.drew = W2 at x1 x2 x3 x4 x5 x6 cz fz hfin ⊢
      simp only [List.take_succ_cons, List.take_zero, List.drop_succ_cons, List.drop_zero]
      repeat still_step
      refine wpStill_nil ?_
      go_wp2_with fail
      go_roundw
      case rel => exact ⟨k + 1, by go_num, by omega, hfin⟩
      case measure => simp [intOf]; omega
    · obtain rfl : k = N := by omega
      go_wp2_with fail
      go_end0
      exact ⟨rfl, hfl.out.full⟩

set_option maxHeartbeats 4000000 in
set_option maxRecDepth 100000 in
theorem fmul_fill (x : Par) (A B N L : Nat) (ra rb : List (List Nat)) (av bv : Value) (w : World) (hca : w.cell? ⟨A, 2, none⟩ = some av) (hA : A < w.heap.size) (hra : SliceR w av ra) (hRA : ResR x L N ra)
    (hcb : w.cell? ⟨B, 2, none⟩ = some bv) (hB : B < w.heap.size) (hrb : SliceR w bv rb) (hRB : ResR x L N rb) (hN1 : 1 ≤ N) (hN : N ≤ 32) (hx : Good x) (hL : L ≤ x.ch.length) (hL2 : x.ch.length ≤ 24) :
    Fills w 87 #[.pointer (some ⟨A, 0, none⟩), .pointer (some ⟨B, 0, none⟩)] L N (fun i => x.ch.getD i 0) (fun i => mulF (x.ch.getD i 0) N (ra.getD i []) (rb.getD i [])) := by
  intro i W g hi hbW hg hbk
  have hq := ch_at hx (i := i) (by omega)
  have ha := hRA.2 i hi
  have hb := hRB.2 i hi
  obtain ⟨b1, o1, c1, u1, p1, d1, ca, hb1, cra, rowa⟩ := row_in hca hra (i := i) (by rw [hRA.1]; exact hi) ha.1 hN1
  obtain ⟨b2, o2, c2, u2, p2, d2, cb, hb2, crb, rowb⟩ := row_in hcb hrb (i := i) (by rw [hRB.1]; exact hi) hb.1 hN1
  rw [hRA.1] at ca; rw [hRB.1] at cb
  dsimp only
  generalize x.ch.getD i 0 = q at hq ha hb ⊢
  generalize ra.getD i [] = a at ha rowa ⊢
  generalize rb.getD i [] = b at hb rowb ⊢
  have x1 := (below_at hbW hA).trans ca; have x2 := (below_at hbW hB).trans cb
  have x3 := (below_at hbW hb1).trans cra; have x4 := (below_at hbW hb2).trans crb
  have hu1 : u1 < w.heap.size := rowa.blk
  have hu2 : u2 < w.heap.size := rowb.blk
  have RA := Lib.hid (rowa.below hbW rowa.blk); have RB := Lib.hid (rowb.below hbW rowb.blk)
  have HA := Lib.hid ha; have HBb := Lib.hid hb
  have hs := hbW.size
  have HBK := Lib.hid hbk
  have hL24 : L ≤ 24 := by omega
  have i0 : (0 : Int) ≤ (i : Int) := by omega
  have i1 : (i : Int) < (L : Int) := by omega
  clear hca hra hRA hcb hrb hRB hx ca cb cra crb rowa rowb ha hb hbk hbW
  go_enter Tryz.func87, Tryz.ntmps87
  go_wp2_with fail
  go_quiet (fail)
  go_wp2_with fail
  clear x1 x2 x3 x4
  go_loopw [10, 11, 12, 13, 14, 27] (fun _ _ _ _ _ vk wr => ∃ k : Nat, vk = .int .i64 k ∧ k ≤ N ∧ Hid (FlS W wr g N k (mulF q N a b))) (fun _ _ _ _ _ vk _ => N - (intOf vk).toNat)
  case atStart => exact ⟨0, rfl, by omega, (⟨gr_drewN (gr_refl _ _) _, HBK.out⟩ : FlS W _ g N 0 _)⟩
  case round =>
    obtain ⟨k, rfl, hk, hfl⟩ := hrel
    by_cases hlt : k < N
    · have k0 : (0 : Int) ≤ (k : Int) := by omega
      have k2 : (k : Int) < (N : Int) := by omega
      go_wp2_with fail
      go_loopw [11, 12, 13, 14, 32] (fun vp vm _ _ vj wr2 => ∃ j : Nat, vp = .int .u64 (plusM q a b k j : Nat) ∧ vm = .int .u64 (minusM q N a b k j : Nat) ∧ vj = .int .i64 j ∧ j ≤ N ∧ Hid (FlS W wr2 g N k (mulF q N a b))) (fun _ _ _ _ vj _ => N - (intOf vj).toNat)
      case atStart => exact ⟨0, rfl, rfl, rfl, by omega, hfl⟩
      case round =>
        obtain ⟨j, rfl, rfl, rfl, hj, hf2⟩ := hrel
        by_cases hjl : j < N
        · have hja : j < a.length := by have := HA.out.1; omega
          have x5 := (hf2.out.at (b := u1) (i := p1 + j) (by omega) (by omega)).trans (RA.out.cell j hja)
          have va := HA.out.2 j
          have hp0 := plusM_lt (q := q) a b k (by omega) j
          have hm0 := minusM_lt (q := q) N a b k (by omega) j
          have j0 : (0 : Int) ≤ (j : Int) := by omega
          have j2 : (j : Int) < (N : Int) := by omega
          have hq0 : ¬ ((q : Int) = 0) := by omega
          have hq1 : ¬ (q = 0) := by omega
          by_cases hjk : j ≤ k
          · have hkb : k - j < b.length := by have := HBb.out.1; omega
            have x6 := (hf2.out.at (b := u2) (i := p2 + (k - j)) (by omega) (by omega)).trans (RB.out.cell (k - j) hkb)
            have vb := HBb.out.2 (k - j)
            have hP : plusM q a b k (j + 1) = (plusM q a b k j + a.getD j 0 * b.getD (k - j) 0) % q := by simp only [plusM]; rw [if_pos hjk]
            have hM : minusM q N a b k (j + 1) = minusM q N a b k j := by simp only [minusM]; rw [if_pos hjk]
            rw [getD_at a 0 hja] at va hP
            rw [getD_at b 0 hkb] at vb hP
            generalize a[j] = y at *
            generalize b[k - j] = z at *
            have e0 : IntKind.i64.wrap ((k : Int) - j) = ((k - j : Nat) : Int) := by rw [IntKind.wrap_i64]; omega
            have e1 : IntKind.u64.wrap (y : Int) = (y : Int) := wraps_u64 _ (by omega) (by omega)
            have e3 : IntKind.u64.wrap (z : Int) = (z : Int) := wraps_u64 _ (by omega) (by omega)
            have hyz : y * z ≤ 2147483647 * 2147483647 := Nat.mul_le_mul (by omega) (by omega)
            obtain ⟨Z, hZ⟩ : ∃ Z, y * z = Z := ⟨_, rfl⟩
            have hZI : (y : Int) * (z : Int) = (Z : Int) := by rw [← hZ]; exact (Int.natCast_mul _ _).symm
            rw [hZ] at hP hyz
            have e4 : IntKind.u64.wrap (Z : Int) = (Z : Int) := wraps_u64 _ (by omega) (by omega)
            have e5 : IntKind.u64.wrap ((plusM q a b k j : Int) + (Z : Int)) = (plusM q a b k j : Int) + (Z : Int) := wraps_u64 _ (by omega) (by omega)
            have e6 : ((plusM q a b k j : Int) + (Z : Int)) % (q : Int) = ((plusM q a b k (j + 1) : Nat) : Int) := by rw [hP, Int.natCast_emod, Int.natCast_add]
            have hc0 : (j : Int) ≤ (k : Int) := by omega
            have m0 : (0 : Int) ≤ ((k - j : Nat) : Int) := by omega
            have m1 : ((k - j : Nat) : Int) < (N : Int) := by omega
            have hk64 : IntKind.u64.wrap (((plusM q a b k (j + 1) : Nat) : Int)) = ((plusM q a b k (j + 1) : Nat) : Int) := by
              have := plusM_lt (q := q) a b k (by omega) (j + 1)
              exact wraps_u64 _ (by omega) (by omega)
            have HM := Lib.hid hM; have E6 := Lib.hid e6
            clear hP hZ hM va vb hyz
            go_wp2_with fail
            go_roundw
            case rel => exact ⟨j + 1, congrArg _ E6.out, by rw [HM.out], by go_num, by omega, hf2⟩
            case measure => simp [intOf]; omega
          · have hkb : k + N - j < b.length := by have := HBb.out.1; omega
            have x6 := (hf2.out.at (b := u2) (i := p2 + (k + N - j)) (by omega) (by omega)).trans (RB.out.cell (k + N - j) hkb)
            have vb := HBb.out.2 (k + N - j)
            have hP : plusM q a b k (j + 1) = plusM q a b k j := by simp only [plusM]; rw [if_neg hjk]
            have hM : minusM q N a b k (j + 1) = (minusM q N a b k j + a.getD j 0 * b.getD (k + N - j) 0) % q := by simp only [minusM]; rw [if_neg hjk]
            rw [getD_at a 0 hja] at va hM
            rw [getD_at b 0 hkb] at vb hM
            generalize a[j] = y at *
            generalize b[k + N - j] = z at *
            have e9 : IntKind.i64.wrap ((k : Int) + N) = ((k + N : Nat) : Int) := by rw [IntKind.wrap_i64]; omega
            have e0 : IntKind.i64.wrap (((k + N : Nat) : Int) - j) = ((k + N - j : Nat) : Int) := by rw [IntKind.wrap_i64]; omega
            have e1 : IntKind.u64.wrap (y : Int) = (y : Int) := wraps_u64 _ (by omega) (by omega)
            have e3 : IntKind.u64.wrap (z : Int) = (z : Int) := wraps_u64 _ (by omega) (by omega)
            have hyz : y * z ≤ 2147483647 * 2147483647 := Nat.mul_le_mul (by omega) (by omega)
            obtain ⟨Z, hZ⟩ : ∃ Z, y * z = Z := ⟨_, rfl⟩
            have hZI : (y : Int) * (z : Int) = (Z : Int) := by rw [← hZ]; exact (Int.natCast_mul _ _).symm
            rw [hZ] at hM hyz
            have e4 : IntKind.u64.wrap (Z : Int) = (Z : Int) := wraps_u64 _ (by omega) (by omega)
            have e5 : IntKind.u64.wrap ((minusM q N a b k j : Int) + (Z : Int)) = (minusM q N a b k j : Int) + (Z : Int) := wraps_u64 _ (by omega) (by omega)
            have e6 : ((minusM q N a b k j : Int) + (Z : Int)) % (q : Int) = ((minusM q N a b k (j + 1) : Nat) : Int) := by rw [hM, Int.natCast_emod, Int.natCast_add]
            have hc0 : ¬ ((j : Int) ≤ (k : Int)) := by omega
            have m0 : (0 : Int) ≤ ((k + N - j : Nat) : Int) := by omega
            have m1 : ((k + N - j : Nat) : Int) < (N : Int) := by omega
            have HP := Lib.hid hP; have E6 := Lib.hid e6
            clear hP hZ hM va vb hyz
            go_wp2_with fail
            go_roundw
            case rel => exact ⟨j + 1, by rw [HP.out], congrArg _ E6.out, by go_num, by omega, hf2⟩
            case measure => simp [intOf]; omega
        · obtain rfl : j = N := by omega
          have hp0 := plusM_lt (q := q) a b k (by omega) j
          have hm0 := minusM_lt (q := q) j a b k (by omega) j
          have hval := pm_mulF (q := q) (n := j) a b k (by omega)
          have hlt2 : mulF q j a b k < q := by rw [← hval]; exact Nat.mod_lt _ (by omega)
          have hq0 : ¬ ((q : Int) = 0) := by omega
          have hq1 : ¬ (q = 0) := by omega
          have cz := hf2.out.cell hlt
          have fz := hf2.out.bk.free k
          have e2 : IntKind.u64.wrap ((plusM q a b k j : Int) + q) = (plusM q a b k j : Int) + q := wraps_u64 _ (by omega) (by omega)
          have e4 : IntKind.u64.wrap ((plusM q a b k j : Int) + q - (minusM q j a b k j : Int)) = (plusM q a b k j : Int) + q - (minusM q j a b k j : Int) := wraps_u64 _ (by omega) (by omega)
          have e5 : (((plusM q a b k j : Int) + q - (minusM q j a b k j : Int)) % (q : Int)) = ((mulF q j a b k : Nat) : Int) := by rw [← hval, Int.natCast_emod, show ((plusM q a b k j + q - minusM q j a b k j : Nat) : Int) = (plusM q a b k j : Int) + q - (minusM q j a b k j : Int) by omega]
          have e6 : IntKind.u32.wrap ((mulF q j a b k : Nat) : Int) = ((mulF q j a b k : Nat) : Int) := by rw [IntKind.wrap_u32]; omega
          have hfin := Lib.hid (hf2.out.set (v := ((mulF q j a b k : Nat) : Int)) hlt rfl)
          clear hval hlt2
          go_wp2_with fail
          go_roundw
          case rel => exact ⟨k + 1, by go_num, by omega, hfin⟩
          case measure => simp [intOf]; omega
    · obtain rfl : k = N := by omega
      go_wp2_with fail
      go_end0
      exact ⟨rfl, hfl.out.full⟩
end Go.Proofs.YtjpcljnojipdnaaGreat
