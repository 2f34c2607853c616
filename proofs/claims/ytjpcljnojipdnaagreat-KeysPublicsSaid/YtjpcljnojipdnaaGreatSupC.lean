/- Supplies of bits: ternary lists, the closure. -/
import Derived.Test.YtjpcljnojipdnaaGreatSupB
import Derived.Test.YtjpcljnojipdnaaGreatKeyZ
import Derived.BigRegion
namespace Go.Proofs.YtjpcljnojipdnaaGreat
open Go.RowKit
set_option linter.unusedVariables false

theorem gr_cell {a b : World} {g : Nat} (h : a.grownBy b (some g)) {k i : Nat} (hk : k < a.heap.size) (hne : k ≠ g) : b.cell? ⟨k, i, none⟩ = a.cell? ⟨k, i, none⟩ :=
  World.cell?_of_block (a := ⟨k, i, none⟩) (h.block k hk (by simpa using hne))
theorem Blk.gr {w w' : World} {g k : Nat} {cs : List Value} {T : TypeId} (h : Blk w k cs T) (hb : w.grownBy w' (some g)) (hne : k ≠ g) : Blk w' k cs T :=
  (hb.block k h.lt (by simpa using hne)).trans h
/-- The boxes of Ternary, the lists, the supply. -/
structure TrM (w0 w1 W : World) (B g : Nat) (s : ByteArray) (n h : Nat) (t : Tern) : Prop where
  bs : W.cell? ⟨B, 0, none⟩ = some (.pointer (some ⟨g, 0, none⟩))
  bn : W.cell? ⟨B + 1, 0, none⟩ = some (.int .i64 n)
  bh : W.cell? ⟨B + 1 + 1, 0, none⟩ = some (.int .i64 h)
  pl : Blk W (B + 1 + 1 + 1) (i64s t.pl) 3
  bp : W.cell? ⟨B + 1 + 1 + 1 + 1, 0, none⟩ = some (.slice (some ⟨B + 1 + 1 + 1, 0, none⟩) n n)
  ou : Blk W (B + 1 + 1 + 1 + 1 + 1) (i8s t.out) 76
  bo : W.cell? ⟨B + 1 + 1 + 1 + 1 + 1 + 1, 0, none⟩ = some (.slice (some ⟨B + 1 + 1 + 1 + 1 + 1, 0, none⟩) n n)
  sup : SupB W g s t.at_
  sz : B + 7 ≤ W.heap.size
  gr : w0.grownBy W (some g)
  kp : ∀ k, B + 7 ≤ k → k < w1.heap.size → W.heap[k]? = w1.heap[k]?
  ks : w1.heap.size ≤ W.heap.size
  hB : w0.heap.size = B
  hg : g < B
theorem TrM.turn {w0 w1 W W' : World} {B g : Nat} {s : ByteArray} {n h b : Nat} {t : Tern} (m : TrM w0 w1 W B g s n h t) (hs : SupB W' g s b) (hg : W.grownBy W' (some g)) : TrM w0 w1 W' B g s n h ⟨t.pl, t.out, b⟩ := by
  have h1 := m.sz; have h2 := m.hg
  exact ⟨(gr_cell hg (by omega) (by omega)).trans m.bs, (gr_cell hg (by omega) (by omega)).trans m.bn, (gr_cell hg (by omega) (by omega)).trans m.bh, m.pl.gr hg (by omega), (gr_cell hg (by omega) (by omega)).trans m.bp, m.ou.gr hg (by omega), (gr_cell hg (by omega) (by omega)).trans m.bo, hs, Nat.le_trans m.sz hg.size, gr_trans m.gr hg, fun k h3 h4 => (hg.block k (Nat.lt_of_lt_of_le h4 m.ks) (by intro e; injection e with e; omega)).trans (m.kp k h3 h4), Nat.le_trans m.ks hg.size, m.hB, h2⟩
/-- A store into one of the lists. -/
theorem TrM.setP {w0 w1 W : World} {B g : Nat} {s : ByteArray} {n h : Nat} {t : Tern} (m : TrM w0 w1 W B g s n h t) (i : Nat) (z : Int) : TrM w0 w1 (W.setCell ⟨B + 1 + 1 + 1, i, none⟩ (.int .i64 z)) B g s n h ⟨t.pl.set i z, t.out, t.at_⟩ := by
  have h1 := m.sz; have h2 := m.hg; have h3 := m.hB
  have ne : ∀ k j, k ≠ B + 1 + 1 + 1 → (W.setCell ⟨B + 1 + 1 + 1, i, none⟩ (.int .i64 z)).cell? ⟨k, j, none⟩ = W.cell? ⟨k, j, none⟩ := fun k j hk => World.cell?_setCell_other _ _ _ _ (by intro e; injection e with e; exact hk e.symm)
  refine ⟨(ne _ _ (by omega)).trans m.bs, (ne _ _ (by omega)).trans m.bn, (ne _ _ (by omega)).trans m.bh, ?_, (ne _ _ (by omega)).trans m.bp, m.ou.other (a := ⟨B + 1 + 1 + 1, i, none⟩) (by show B + 1 + 1 + 1 + 1 + 1 ≠ B + 1 + 1 + 1; omega) _, (ne _ _ (by omega)).trans m.bo, ⟨(ne _ _ (by omega)).trans m.sup.c0, (ne _ _ (by omega)).trans m.sup.c1, (ne _ _ (by omega)).trans m.sup.c2, by simpa using m.sup.fz⟩, by simpa using h1, ?_, fun k h3 h4 => (Below.heap_setCell W ⟨B + 1 + 1 + 1, i, none⟩ _ k (by show k ≠ B + 1 + 1 + 1; omega)).trans (m.kp k h3 h4), by simpa using m.ks, h3, h2⟩
  · have := m.pl.set i (.int .i64 z)
    show Blk _ _ (List.map _ (t.pl.set i z)) _
    rw [List.map_set]; exact this
  · exact ⟨m.gr.os, m.gr.tape, m.gr.output, by simpa using m.gr.size, fun k hk hne => (Below.heap_setCell W ⟨B + 1 + 1 + 1, i, none⟩ _ k (by show k ≠ B + 1 + 1 + 1; omega)).trans (m.gr.block k hk hne)⟩
theorem TrM.setO {w0 w1 W : World} {B g : Nat} {s : ByteArray} {n h : Nat} {t : Tern} (m : TrM w0 w1 W B g s n h t) (i : Nat) (z : Int) : TrM w0 w1 (W.setCell ⟨B + 1 + 1 + 1 + 1 + 1, i, none⟩ (.int .i8 z)) B g s n h ⟨t.pl, t.out.set i z, t.at_⟩ := by
  have h1 := m.sz; have h2 := m.hg; have h3 := m.hB
  have ne : ∀ k j, k ≠ B + 1 + 1 + 1 + 1 + 1 → (W.setCell ⟨B + 1 + 1 + 1 + 1 + 1, i, none⟩ (.int .i8 z)).cell? ⟨k, j, none⟩ = W.cell? ⟨k, j, none⟩ := fun k j hk => World.cell?_setCell_other _ _ _ _ (by intro e; injection e with e; exact hk e.symm)
  refine ⟨(ne _ _ (by omega)).trans m.bs, (ne _ _ (by omega)).trans m.bn, (ne _ _ (by omega)).trans m.bh, m.pl.other (a := ⟨B + 1 + 1 + 1 + 1 + 1, i, none⟩) (by show B + 1 + 1 + 1 ≠ B + 1 + 1 + 1 + 1 + 1; omega) _, (ne _ _ (by omega)).trans m.bp, ?_, (ne _ _ (by omega)).trans m.bo, ⟨(ne _ _ (by omega)).trans m.sup.c0, (ne _ _ (by omega)).trans m.sup.c1, (ne _ _ (by omega)).trans m.sup.c2, by simpa using m.sup.fz⟩, by simpa using h1, ?_, fun k h3 h4 => (Below.heap_setCell W ⟨B + 1 + 1 + 1 + 1 + 1, i, none⟩ _ k (by show k ≠ B + 1 + 1 + 1 + 1 + 1; omega)).trans (m.kp k h3 h4), by simpa using m.ks, h3, h2⟩
  · have := m.ou.set i (.int .i8 z)
    show Blk _ _ (List.map _ (t.out.set i z)) _
    rw [List.map_set]; exact this
  · exact ⟨m.gr.os, m.gr.tape, m.gr.output, by simpa using m.gr.size, fun k hk hne => (Below.heap_setCell W ⟨B + 1 + 1 + 1 + 1 + 1, i, none⟩ _ k (by show k ≠ B + 1 + 1 + 1 + 1 + 1; omega)).trans (m.gr.block k hk hne)⟩
/-- More memory. -/
theorem TrM.more {w0 w1 W W' : World} {B g : Nat} {s : ByteArray} {n h : Nat} {t : Tern} (m : TrM w0 w1 W B g s n h t) (hb : Below W.heap.size W W') : TrM w0 w1 W' B g s n h t := by
  have h1 := m.sz; have h2 := m.hg; have h3 := m.hB; have h4 := m.ks
  have hgW : g < W.heap.size := by omega
  exact ⟨(below_at hb (by omega)).trans m.bs, (below_at hb (by omega)).trans m.bn, (below_at hb (by omega)).trans m.bh, m.pl.below hb m.pl.lt, (below_at hb (by omega)).trans m.bp, m.ou.below hb m.ou.lt, (below_at hb (by omega)).trans m.bo,
    ⟨(below_at hb hgW).trans m.sup.c0, (below_at hb hgW).trans m.sup.c1, (below_at hb hgW).trans m.sup.c2, (hb.frozen (p := ⟨g, 1, none⟩) hgW).trans m.sup.fz⟩, Nat.le_trans m.sz hb.size,
    ⟨hb.os.trans m.gr.os, hb.tape.trans m.gr.tape, hb.output.trans m.gr.output, Nat.le_trans m.gr.size hb.size, fun k hk hne => (hb.block k (by omega)).trans (m.gr.block k hk hne)⟩,
    fun k h5 h6 => (hb.block k (by omega)).trans (m.kp k h5 h6), Nat.le_trans h4 hb.size, h3, h2⟩
theorem TrM.anchor {w0 w1 W : World} {B g : Nat} {s : ByteArray} {n h : Nat} {t : Tern} (m : TrM w0 w1 W B g s n h t) : TrM w0 W W B g s n h t :=
  ⟨m.bs, m.bn, m.bh, m.pl, m.bp, m.ou, m.bo, m.sup, m.sz, m.gr, fun _ _ _ => rfl, Nat.le_refl _, m.hB, m.hg⟩
theorem TrM.kept {w0 w1 W : World} {B g k i : Nat} {s : ByteArray} {n h : Nat} {t : Tern} (m : TrM w0 w1 W B g s n h t) (h1 : B + 7 ≤ k) (h2 : k < w1.heap.size) : W.cell? ⟨k, i, none⟩ = w1.cell? ⟨k, i, none⟩ :=
  World.cell?_of_block (a := ⟨k, i, none⟩) (m.kp k h1 h2)
theorem TrM.keptF {w0 w1 W : World} {B g k i : Nat} {s : ByteArray} {n h : Nat} {t : Tern} (m : TrM w0 w1 W B g s n h t) (h1 : B + 7 ≤ k) (h2 : k < w1.heap.size) : W.frozen? ⟨k, i, none⟩ = w1.frozen? ⟨k, i, none⟩ :=
  World.frozen?_of_block (a := ⟨k, i, none⟩) (m.kp k h1 h2)
theorem TrM.drewN {w0 w1 W : World} {B g : Nat} {s : ByteArray} {n h : Nat} {t : Tern} (m : TrM w0 w1 W B g s n h t) (k : Nat) : TrM w0 w1 (W.drewN k) B g s n h t :=
  ⟨m.bs, m.bn, m.bh, m.pl, m.bp, m.ou, m.bo, m.sup.drewN k, m.sz, gr_drewN m.gr k, m.kp, m.ks, m.hB, m.hg⟩

theorem TrM.drew {w0 w1 W : World} {B g : Nat} {s : ByteArray} {n h : Nat} {t : Tern} (m : TrM w0 w1 W B g s n h t) : TrM w0 w1 W.drew B g s n h t :=
  ⟨m.bs, m.bn, m.bh, m.pl, m.bp, m.ou, m.bo, ⟨m.sup.c0, m.sup.c1, m.sup.c2, m.sup.fz⟩, m.sz, ⟨m.gr.os, m.gr.tape, m.gr.output, m.gr.size, m.gr.block⟩, m.kp, m.ks, m.hB, m.hg⟩

/-- What the closure answers. -/
def TernR (w0 w1 w' : World) (B g : Nat) (s : ByteArray) (n h : Nat) (t0 : Tern) (e : Ending) : Prop :=
  ∃ (t : Tern) (ok : Bool), e = .returned (.bool ok) ∧ TrM w0 w1 w' B g s n h t ∧ t.at_ ≤ 8 * s.size ∧ ((ok = true ∧ ternGo s n t0 h = some t) ∨ (ok = false ∧ ternGo s n t0 h = none))
theorem tern_none {s : ByteArray} {n h i : Nat} {t0 u : Tern} (hi : i < h) (hg : ternGo s n t0 i = some u) (hs : ternStep s n i u = none) : ternGo s n t0 h = none := by
  refine ternGo_none (i + 1) h (by omega) ?_
  simp only [ternGo]; rw [hg]; exact hs

set_option maxHeartbeats 4000000 in
set_option maxRecDepth 100000 in
theorem ternc_any (s : ByteArray) (B g n h : Nat) (t0 : Tern) (w0 w1 w : World) (hm : TrM w0 w1 w B g s n h t0) (ht0 : TernOk n t0) (hn1 : 1 ≤ n) (hn2 : n ≤ 32) (hh : h ≤ n) (ha : t0.at_ ≤ 8 * s.size) (hs : s.size ≤ 1048576) :
    Calls Tryz.prog 125 #[.pointer (some ⟨B + 1 + 1, 0, none⟩), .pointer (some ⟨B, 0, none⟩), .pointer (some ⟨B + 1, 0, none⟩), .pointer (some ⟨B + 1 + 1 + 1 + 1, 0, none⟩), .pointer (some ⟨B + 1 + 1 + 1 + 1 + 1 + 1, 0, none⟩)] w fun e w' => TernR w0 w1 w' B g s n h t0 e := by
  have M := Lib.hid hm
  have c2 := hm.bh
  have HT0 := Lib.hid ht0
  clear hm ht0
  go_enter Tryz.func125, Tryz.ntmps125
  go_wp2_with fail
  clear c2
  go_loopw [6, 7, 8, 9, 10, 12] (fun _ _ _ _ _ vi wr => ∃ (i : Nat) (t : Tern), vi = .int .i64 i ∧ i ≤ h ∧ Hid (TrM w0 w1 wr B g s n h t) ∧ Hid (ternGo s n t0 i = some t) ∧ t.at_ ≤ 8 * s.size) (fun _ _ _ _ _ vi _ => h - (intOf vi).toNat)
  case atStart => exact ⟨0, t0, rfl, by omega, M, rfl, ha⟩
  case round =>
    obtain ⟨i, t, rfl, hi, hm, htg, hat⟩ := hrel
    by_cases hlt : i < h
    · have cs := hm.out.bs; have cn := hm.out.bn
      have e1 : IntKind.i64.wrap ((n : Int) - (i : Int)) = ((n - i : Nat) : Int) := by rw [IntKind.wrap_i64]; omega
      have e2 : IntKind.u64.wrap ((n - i : Nat) : Int) = ((n - i : Nat) : Int) := by rw [IntKind.wrap_u64]; omega
      have hlt' : (i : Int) < (h : Int) := by omega
      go_wp2_with fail
      refine (below_any s g t.at_ (n - i) _ hm.out.sup (by omega) (by omega) hat hs).mono ?_
      rintro e wa ⟨v, ok, b, rfl, hb1, hg1, hb2, hcase⟩
      have hm1 := Lib.hid (hm.out.turn hb1 hg1)
      have HC := Lib.hid hcase
      clear hb1 hg1 hcase cs cn e1 e2
      have cs := hm1.out.bs
      go_wp2_with fail
      refine (some_r s g b 1 _ hm1.out.sup (by omega) hb2 hs).mono ?_
      rintro e w2 ⟨v2, ok2, b2, rfl, hb3, hg3, hb4, hcase2⟩
      have hm2 := Lib.hid (hm1.out.turn hb3 hg3)
      have HC2 := Lib.hid hcase2
      clear hb3 hg3 hcase2 cs hm1 hm
      cases ok with
      | false =>
        have HN : Hid (ternGo s n t0 h = none) := by
          refine tern_none hlt htg.out ?_
          rcases HC.out with ⟨h1, _⟩ | ⟨_, h2⟩
          · cases h1
          · unfold ternStep; rw [h2]
        clear HC HC2 htg
        go_wp2_with fail
        go_ret
        exact ⟨_, _, rfl, hm2.out, hb4, .inr ⟨rfl, HN.out⟩⟩
      | true =>
      have HC1 : Hid (belAt s (n - i) t.at_ = some (v, b)) := by
        rcases HC.out with ⟨_, h2⟩ | ⟨h1, _⟩
        · exact h2
        · cases h1
      cases ok2 with
      | false =>
        have HN : Hid (ternGo s n t0 h = none) := by
          refine tern_none hlt htg.out ?_
          rcases HC2.out with ⟨h1, _⟩ | ⟨_, h2⟩
          · cases h1
          · unfold ternStep; rw [HC1.out]; simp only; rw [h2]
        clear HC HC2 htg HC1
        go_wp2_with fail
        go_ret
        exact ⟨_, _, rfl, hm2.out, hb4, .inr ⟨rfl, HN.out⟩⟩
      | true =>
      have HC3 : Hid (someAt s 1 b = some (v2, b2)) := by
        rcases HC2.out with ⟨_, h2⟩ | ⟨h1, _⟩
        · exact h2
        · cases h1
      have hv : v < n - i := (belAt_bd HC1.out).1
      have hv2 : v2 < 2 := by
        have h1 := HC3.out
        unfold someAt at h1
        split at h1
        · cases h1; exact numAt_lt s b 1
        · cases h1
      have HOK := Lib.hid (ternGo_ok HT0.out i t (by omega) htg.out).1
      obtain ⟨p, hp⟩ : ∃ p, t.pl.getD i 0 = p := ⟨_, rfl⟩
      obtain ⟨q, hq⟩ : ∃ q, t.pl.getD (i + v) 0 = q := ⟨_, rfl⟩
      have HS : Hid (ternGo s n t0 (i + 1) = some ⟨(t.pl.set i q).set (i + v) p, t.out.set (((t.pl.set i q).set (i + v) p).getD i 0).toNat (1 - 2 * (v2 : Int)), b2⟩) := by
        show _ = _
        simp only [ternGo]
        rw [htg.out]
        simp only [ternStep]
        rw [HC1.out]
        simp only
        rw [HC3.out, hp, hq]
      have cpi : w2.cell? ⟨B + 1 + 1 + 1, i, none⟩ = some (.int .i64 p) := by
        have := hm2.out.pl.icell i (by have := HOK.out.lp; show i < t.pl.length; omega)
        rw [this]; show some (Value.int .i64 (t.pl.getD i 0)) = _; rw [hp]
      have cpq : w2.cell? ⟨B + 1 + 1 + 1, i + v, none⟩ = some (.int .i64 q) := by
        have := hm2.out.pl.icell (i + v) (by have := HOK.out.lp; show i + v < t.pl.length; omega)
        rw [this]; show some (Value.int .i64 (t.pl.getD (i + v) 0)) = _; rw [hq]
      have cs1 : (w2.setCell ⟨B + 1 + 1 + 1, i, none⟩ (.int .i64 q)).cell? ⟨B + 1 + 1 + 1, i + v, none⟩ = some (.int .i64 q) := by
        by_cases e : v = 0
        · subst e; exact World.cell?_setCell_same _ _ _ cpi
        · rw [World.cell?_setCell_other _ _ _ _ (by intro h; injection h with _ h; omega)]; exact cpq
      have cs2 : (w2.setCell ⟨B + 1 + 1 + 1, i + v, none⟩ (.int .i64 p)).cell? ⟨B + 1 + 1 + 1, i, none⟩ = some (.int .i64 p) := by
        by_cases e : v = 0
        · subst e; exact World.cell?_setCell_same _ _ _ cpi
        · rw [World.cell?_setCell_other _ _ _ _ (by intro h; injection h with _ h; omega)]; exact cpi
      have fpi := hm2.out.pl.free i
      have fpq := hm2.out.pl.free (i + v)
      have cbp := hm2.out.bp; have cbo := hm2.out.bo
      have e3 : IntKind.i64.wrap ((i : Int) + (v : Int)) = ((i + v : Nat) : Int) := by rw [IntKind.wrap_i64]; omega
      have e4 : IntKind.i64.wrap (v : Int) = (v : Int) := by rw [IntKind.wrap_i64]; omega
      have i0 : (0 : Int) ≤ (i : Int) := by omega
      have i1 : (i : Int) < (n : Int) := by omega
      have k0 : (0 : Int) ≤ ((i + v : Nat) : Int) := by omega
      have k1 : ((i + v : Nat) : Int) < (n : Int) := by omega
      have HP := Lib.hid hp
      have HQ := Lib.hid hq
      clear HC HC2 hp hq
      go_wp2_with fail
      go_region
      have hm3 : TrM w0 w1 ((w2.setCell ⟨B + 1 + 1 + 1, i, none⟩ (.int .i64 q)).setCell ⟨B + 1 + 1 + 1, i + v, none⟩ (.int .i64 p)).drew B g s n h ⟨(t.pl.set i q).set (i + v) p, t.out, b2⟩ := ((hm2.out.setP i q).setP (i + v) p).drew
      generalize ((w2.setCell ⟨B + 1 + 1 + 1, i, none⟩ (.int .i64 q)).setCell ⟨B + 1 + 1 + 1, i + v, none⟩ (.int .i64 p)).drew = w3 at hm3 ⊢
      have hsw := swap_ok HOK.out.lp HOK.out.rp (i := i) (j := v) (by omega) (by omega)
      rw [HP.out, HQ.out] at hsw
      have hlo := HOK.out.lo
      clear cs1 cs2 cpi cpq fpi fpq cbp cbo e3 e4 k0 k1 HC1 HC3 hm2 HP HQ
      generalize (t.pl.set i q).set (i + v) p = P2 at hm3 HS hsw
      obtain ⟨hP1, hP2⟩ := hsw
      obtain ⟨z, hz⟩ : ∃ z, P2.getD i 0 = z := ⟨_, rfl⟩
      have hz1 : 0 ≤ z ∧ z < n := by rw [← hz]; exact hP2 _ (getD_mem (by omega))
      obtain ⟨c, rfl⟩ : ∃ c : Nat, z = c := ⟨z.toNat, by omega⟩
      rw [hz, Int.toNat_natCast] at HS
      have hc : c < n := by omega
      have cpz : w3.cell? ⟨B + 1 + 1 + 1, i, none⟩ = some (.int .i64 (c : Int)) := by
        have := hm3.pl.icell i (by show i < P2.length; omega)
        rw [this]; show some (Value.int .i64 (P2.getD i 0)) = _; rw [hz]
      have coz : w3.cell? ⟨B + 1 + 1 + 1 + 1 + 1, c, none⟩ = some (.int .i8 (t.out.getD c 0)) := by
        have := hm3.ou.cell c (by unfold i8s; rw [List.length_map]; show c < t.out.length; omega)
        rw [this]; unfold i8s; rw [List.getElem_map, getD_lt (by show c < t.out.length; omega)]
      have foz := hm3.ou.free c
      have cbp := hm3.bp; have cbo := hm3.bo
      have c0 : (0 : Int) ≤ (c : Int) := by omega
      have c1 : (c : Int) < (n : Int) := by omega
      have f1 : IntKind.i8.wrap (v2 : Int) = (v2 : Int) := by simp [IntKind.wrap, IntKind.bits, IntKind.signed]; omega
      have f2 : IntKind.i8.wrap (2 * (v2 : Int)) = 2 * (v2 : Int) := by simp [IntKind.wrap, IntKind.bits, IntKind.signed]; omega
      have f3 : IntKind.i8.wrap (1 - 2 * (v2 : Int)) = 1 - 2 * (v2 : Int) := by simp [IntKind.wrap, IntKind.bits, IntKind.signed]; omega
      have hm4 := Lib.hid (hm3.setO c (1 - 2 * (v2 : Int))).drew
      clear hz hm3 hP1 hP2 hlo
      go_wp2_with fail
      go_region
      go_wp2_with fail
      go_roundw
      case rel => exact ⟨i + 1, _, by go_num, by omega, hm4, HS, hb4⟩
      case measure => simp [intOf]; omega
    · obtain rfl : i = h := by omega
      go_wp2_with fail
      go_ret
      exact ⟨_, _, rfl, hm.out, hat, .inl ⟨rfl, htg.out⟩⟩
end Go.Proofs.YtjpcljnojipdnaaGreat
