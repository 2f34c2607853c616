/- Supplies of bits: the reference's Ternary. -/
import Derived.Test.YtjfjbkocopaehaaSupF
import Derived.BigRegion
namespace Go.Proofs.Ytjfjbkocopaehaa
open Go.RowKit
set_option linter.unusedVariables false

/-- What the reference's Ternary holds. -/
structure TrQ (w W : World) (g : Nat) (s : ByteArray) (n : Nat) (t : Tern) : Prop where
  pl : Blk W w.heap.size (i64s t.pl) 3
  ou : Blk W (w.heap.size + 1) (i8s t.out) 75
  sup : SupR W g s t.at_
  gr : w.grownBy W (some g)
  hg : g < w.heap.size
theorem TrQ.turn {w W W' : World} {g : Nat} {s : ByteArray} {n b : Nat} {t : Tern} (m : TrQ w W g s n t) (hs : SupR W' g s b) (hg : W.grownBy W' (some g)) : TrQ w W' g s n ⟨t.pl, t.out, b⟩ := by
  have h2 := m.hg
  exact ⟨m.pl.gr hg (by omega), m.ou.gr hg (by omega), hs, gr_trans m.gr hg, h2⟩
theorem TrQ.drew {w W : World} {g : Nat} {s : ByteArray} {n : Nat} {t : Tern} (m : TrQ w W g s n t) : TrQ w W.drew g s n t := ⟨m.pl, m.ou, ⟨m.sup.c0, m.sup.c1, m.sup.fz⟩, ⟨m.gr.os, m.gr.tape, m.gr.output, m.gr.size, m.gr.block⟩, m.hg⟩
theorem TrQ.setP {w W : World} {g : Nat} {s : ByteArray} {n : Nat} {t : Tern} (m : TrQ w W g s n t) (i : Nat) (z : Int) : TrQ w (W.setCell ⟨w.heap.size, i, none⟩ (.int .i64 z)) g s n ⟨t.pl.set i z, t.out, t.at_⟩ := by
  have h2 := m.hg
  have ne : ∀ k j, k ≠ w.heap.size → (W.setCell ⟨w.heap.size, i, none⟩ (.int .i64 z)).cell? ⟨k, j, none⟩ = W.cell? ⟨k, j, none⟩ := fun k j hk => World.cell?_setCell_other _ _ _ _ (by intro e; injection e with e; exact hk e.symm)
  refine ⟨?_, m.ou.other (a := ⟨w.heap.size, i, none⟩) (by show w.heap.size + 1 ≠ w.heap.size; omega) _, ⟨(ne _ _ (by omega)).trans m.sup.c0, (ne _ _ (by omega)).trans m.sup.c1, by simpa using m.sup.fz⟩, ?_, h2⟩
  · have := m.pl.set i (.int .i64 z)
    show Blk _ _ (List.map _ (t.pl.set i z)) _
    rw [List.map_set]; exact this
  · exact ⟨m.gr.os, m.gr.tape, m.gr.output, by simpa using m.gr.size, fun k hk hne => (Below.heap_setCell W ⟨w.heap.size, i, none⟩ _ k (by show k ≠ w.heap.size; omega)).trans (m.gr.block k hk hne)⟩
theorem TrQ.setO {w W : World} {g : Nat} {s : ByteArray} {n : Nat} {t : Tern} (m : TrQ w W g s n t) (i : Nat) (z : Int) : TrQ w (W.setCell ⟨w.heap.size + 1, i, none⟩ (.int .i8 z)) g s n ⟨t.pl, t.out.set i z, t.at_⟩ := by
  have h2 := m.hg
  have ne : ∀ k j, k ≠ w.heap.size + 1 → (W.setCell ⟨w.heap.size + 1, i, none⟩ (.int .i8 z)).cell? ⟨k, j, none⟩ = W.cell? ⟨k, j, none⟩ := fun k j hk => World.cell?_setCell_other _ _ _ _ (by intro e; injection e with e; exact hk e.symm)
  refine ⟨m.pl.other (a := ⟨w.heap.size + 1, i, none⟩) (by show w.heap.size ≠ w.heap.size + 1; omega) _, ?_, ⟨(ne _ _ (by omega)).trans m.sup.c0, (ne _ _ (by omega)).trans m.sup.c1, by simpa using m.sup.fz⟩, ?_, h2⟩
  · have := m.ou.set i (.int .i8 z)
    show Blk _ _ (List.map _ (t.out.set i z)) _
    rw [List.map_set]; exact this
  · exact ⟨m.gr.os, m.gr.tape, m.gr.output, by simpa using m.gr.size, fun k hk hne => (Below.heap_setCell W ⟨w.heap.size + 1, i, none⟩ _ k (by show k ≠ w.heap.size + 1; omega)).trans (m.gr.block k hk hne)⟩
/-- Giving the bits back. -/
theorem TrQ.reset {w W : World} {g : Nat} {s : ByteArray} {n : Nat} {t : Tern} (m : TrQ w W g s n t) (a : Nat) : SupR (W.setCell ⟨g, 1, none⟩ (.int .i64 a)) g s a ∧ w.grownBy (W.setCell ⟨g, 1, none⟩ (.int .i64 a)) (some g) := ⟨m.sup.set a, gr_set m.gr _ _⟩

/-- What both Ternary answer. -/
def TerQ (w w' : World) (g : Nat) (s : ByteArray) (n h a : Nat) (e : Ending) : Prop :=
  ∃ v, e = .returned (.tuple #[v, .int .i64 (terOut s n h a).1]) ∧ SliceZ .i8 w' v (terOut s n h a).2.1 ∧ SupR w' g s (terOut s n h a).2.2 ∧ w.grownBy w' (some g) ∧ ∀ q, v.ownBlock = some q → w.heap.size ≤ q

theorem rtaken_any (s : ByteArray) (g a : Nat) (w : World) (hsup : SupR w g s a) :
    Calls Try.prog 30 #[.pointer (some ⟨g, 0, none⟩)] w fun e w' => e = .returned (.int .i64 a) ∧ w' = w := by
  have c1 := hsup.c1
  go_enter Try.func30, Try.ntmps30
  go_wp2
  go_ret
  exact ⟨rfl, rfl⟩
theorem rnew_any (s : ByteArray) (w : World) (hs : s.size ≤ 1048576) :
    Calls Try.prog 26 #[.string s] w fun e w' => e = .returned (.pointer (some ⟨w.heap.size, 0, none⟩)) ∧ SupR w' w.heap.size s 0 ∧ Below w.heap.size w w' := by
  have d1 : decide ((1048576 : Int) < (s.size : Int)) = false := decide_eq_false (by omega)
  have d2 : decide (1048576 < s.size) = false := decide_eq_false (by omega)
  go_enter Try.func26, Try.ntmps26
  go_wp2
  go_ret
  exact ⟨rfl, ⟨by simp [go_sem], by simp [go_sem], by simp [go_sem]⟩, (Below.refl _ _).alloc (Nat.le_refl _) _⟩

set_option maxHeartbeats 4000000 in
set_option maxRecDepth 100000 in
theorem rternary_any (s : ByteArray) (g n h a : Nat) (w : World) (hsup : SupR w g s a) (hn1 : 1 ≤ n) (hn2 : n ≤ 32) (hh : h ≤ n) (ha : a ≤ 8 * s.size) (hs : s.size ≤ 1048576) :
    Calls Try.prog 57 #[.pointer (some ⟨g, 0, none⟩), .int .i64 n, .int .i64 h] w fun e w' => TerQ w w' g s n h a e := by
  have hgw : g < w.heap.size := World.block_lt_of_cell? w ⟨g, 0, none⟩ hsup.c0
  have c1 := hsup.c1
  have H := Lib.hid hsup
  clear hsup
  have hmk := fun wx => run_make_row' (P := Try.prog) 107 3 (.int .i64 0) 8 Try.underlying107 infoInt rfl .i64 .i64 n (by omega) (by omega) wx
  have hmo := fun wx => run_make_row' (P := Try.prog) 26 75 (.int .i8 0) 1 Try.underlying26 infoI8 rfl .i64 .i64 n (by omega) (by omega) wx
  have d1 : decide ((n : Int) < 1) = false := decide_eq_false (by omega)
  have d2 : decide ((4096 : Int) < (n : Int)) = false := decide_eq_false (by omega)
  have d3 : decide ((h : Int) < 0) = false := decide_eq_false (by omega)
  have d4 : decide ((n : Int) < (h : Int)) = false := decide_eq_false (by omega)
  have d5 : decide (n < h) = false := decide_eq_false (by omega)
  go_enter Try.func57, Try.ntmps57
  go_wp2_with fail
  have hb0 : Below w.heap.size w (w.alloc (.cells (madeCells #[.int .i64 0] n) 3)) := (Below.refl _ _).alloc (Nat.le_refl _) _
  have hsz0 : Hid ((w.alloc (.cells (madeCells #[.int .i64 0] n) 3)).heap.size = w.heap.size + 1) := by simp [Hid]
  have hk0 : Hid (Blk (w.alloc (.cells (madeCells #[.int .i64 0] n) 3)) w.heap.size (i64s (List.replicate n 0)) 3) := by
    have h := Blk.new w (madeCells #[.int .i64 0] n) 3
    rw [made_list] at h
    unfold i64s; rw [List.map_replicate]; exact h
  have hs0 := Lib.hid (supr_below H.out hb0)
  have HB0 := Lib.hid hb0
  clear hb0 hmk c1 H
  generalize (w.alloc (.cells (madeCells #[.int .i64 0] n) 3)) = W1 at HB0 hsz0 hk0 hs0 ⊢
  go_loopw [10] (fun vi wr => ∃ (i : Nat) (L : List Int), vi = .int .i64 i ∧ i ≤ n ∧ Hid (Blk wr w.heap.size (i64s L) 3) ∧ Hid (L.length = n) ∧ Hid (∀ j, j < i → L.getD j 0 = (j : Int)) ∧ Hid (SupR wr g s a ∧ Below w.heap.size w wr ∧ wr.heap.size = w.heap.size + 1)) (fun vi _ => n - (intOf vi).toNat)
  case atStart => exact ⟨0, _, rfl, by omega, hk0, by simp [Hid], fun j hj => absurd hj (by omega), ⟨hs0.out, HB0.out, hsz0.out⟩⟩
  case round =>
    obtain ⟨i, L, rfl, hi, hp, hlen, hget, hfr⟩ := hrel
    by_cases hlt : i < n
    · have cel : wr.cell? ⟨w.heap.size, i, none⟩ = some (.int .i64 (L.getD i 0)) := hp.out.icell i (by rw [hlen.out]; exact hlt)
      have cfz := hp.out.free i
      have i0 : (0 : Int) ≤ (i : Int) := by omega
      have i1 : (i : Int) < (n : Int) := by omega
      have hp2 : Hid (Blk (wr.setCell ⟨w.heap.size, i, none⟩ (.int .i64 i)) w.heap.size (i64s (L.set i (i : Int))) 3) := by
        have := hp.out.set i (.int .i64 (i : Int))
        unfold i64s at this ⊢
        rw [List.map_set]; exact this
      have hl2 : Hid ((L.set i (i : Int)).length = n) := by show _ = _; rw [List.length_set]; exact hlen.out
      have hg2 : Hid (∀ j, j < i + 1 → (L.set i (i : Int)).getD j 0 = (j : Int)) := fun j hj => by
        rw [getD_set _ _ _ _ (by rw [hlen.out]; omega)]
        by_cases e : i = j
        · rw [if_pos e, e]
        · rw [if_neg e]; exact hget.out j (by omega)
      have hf2 : Hid (SupR (wr.setCell ⟨w.heap.size, i, none⟩ (.int .i64 i)) g s a ∧ Below w.heap.size w (wr.setCell ⟨w.heap.size, i, none⟩ (.int .i64 i)) ∧ (wr.setCell ⟨w.heap.size, i, none⟩ (.int .i64 i)).heap.size = w.heap.size + 1) := by
        obtain ⟨q1, q2, q3⟩ := hfr.out
        have ne : ∀ k j, k ≠ w.heap.size → (wr.setCell ⟨w.heap.size, i, none⟩ (.int .i64 i)).cell? ⟨k, j, none⟩ = wr.cell? ⟨k, j, none⟩ := fun k j hk => World.cell?_setCell_other _ _ _ _ (by intro e; injection e with e; exact hk e.symm)
        exact ⟨⟨(ne _ _ (by omega)).trans q1.c0, (ne _ _ (by omega)).trans q1.c1, by simpa using q1.fz⟩, q2.setCell (p := ⟨w.heap.size, i, none⟩) (Nat.le_refl _) _, by simpa using q3⟩
      go_wp2_with fail
      go_roundw
      case rel => exact ⟨i + 1, _, by go_num, by omega, hp2, hl2, hg2, hf2⟩
      case measure => simp [intOf]; omega
    · obtain rfl : n = i := by omega
      have hL := count_eq hlen.out hget.out
      have hsz := Lib.hid hfr.out.2.2
      have hW : Hid (TrQ w (wr.alloc (.cells (madeCells #[.int .i8 0] n) 75)) g s n (tern0 n a)) := by
        obtain ⟨q1, q2, q3⟩ := hfr.out
        have hb : Below wr.heap.size wr (wr.alloc (.cells (madeCells #[.int .i8 0] n) 75)) := (Below.refl _ _).alloc (Nat.le_refl _) _
        refine ⟨?_, ?_, supr_below q1 hb, ⟨hb.os.trans q2.os, hb.tape.trans q2.tape, hb.output.trans q2.output, Nat.le_trans q2.size hb.size, fun k hk _ => (hb.block k (by omega)).trans (q2.block k hk)⟩, hgw⟩
        · show Blk _ _ (i64s ((List.range n).map (fun i => ((i : Nat) : Int)))) _
          rw [← hL]; exact hp.out.below hb hp.out.lt
        · have h := Blk.new wr (madeCells #[.int .i8 0] n) 75
          rw [made_list, q3] at h
          show Blk _ _ (i8s (List.replicate n 0)) _
          unfold i8s; rw [List.map_replicate]; exact h
      clear hL hlen hget hfr hp HB0 hsz0 hk0 hs0 d1 d2 d3 d4 d5
      go_wp2_with fail
      rw [hsz.out]
      obtain ⟨W2, hW2⟩ : ∃ W2, wr.alloc (.cells (madeCells #[.int .i8 0] n) 75) = W2 := ⟨_, rfl⟩
      rw [hW2] at hW ⊢
      clear hW2 hmo hsz
      go_loopw [12, 13, 14, 15, 16] (fun vi _ _ _ _ wr => ∃ (i : Nat) (t : Tern), vi = .int .i64 i ∧ i ≤ h ∧ Hid (TrQ w wr g s n t) ∧ Hid (ternGo s n (tern0 n a) i = some t) ∧ t.at_ ≤ 8 * s.size) (fun vi _ _ _ _ _ => h - (intOf vi).toNat)
      case atStart => exact ⟨0, _, rfl, by omega, hW, rfl, ha⟩
      case round =>
        obtain ⟨i, t, rfl, hi, hm, htg, hat⟩ := hrel
        by_cases hlt : i < h
        case neg =>
          obtain rfl : i = h := by omega
          have HO := Lib.hid (terOut_some htg.out)
          have hok := Lib.hid (ternGo_ok (tern0_ok n a) i t hh htg.out).1
          go_wp2_with fail
          go_ret2
          refine ⟨.slice (some ⟨w.heap.size + 1, 0, none⟩) n n, by rw [HO.out]; rfl, ?_, ?_, hm.out.gr, by intro q hq; simp [Value.ownBlock] at hq; try omega⟩
          · rw [HO.out]
            have h1 := SliceZ.ofBlk (k := .i8) hm.out.ou (by have := hok.out.lo; omega) (fun q hq => i8_wf3 (hok.out.ro q hq))
            rw [hok.out.lo] at h1
            exact h1
          · rw [HO.out]; exact hm.out.sup
        case pos =>
        have e1 : IntKind.i64.wrap ((n : Int) - (i : Int)) = ((n - i : Nat) : Int) := by rw [IntKind.wrap_i64]; omega
        have e2 : IntKind.u64.wrap ((n - i : Nat) : Int) = ((n - i : Nat) : Int) := by rw [IntKind.wrap_u64]; omega
        have hlt' : (i : Int) < (h : Int) := by omega
        go_wp2_with fail
        refine (rbelow_any s g t.at_ (n - i) _ hm.out.sup (by omega) (by omega) hat hs).mono ?_
        rintro e wa ⟨v, ok, b, rfl, hb1, hg1, hb2, hcase⟩
        have hm1 := Lib.hid (hm.out.turn hb1 hg1)
        have HC := Lib.hid hcase
        clear hb1 hg1 hcase e1 e2
        go_wp2_with fail
        refine (rbit_any s g b _ hm1.out.sup hb2 hs).mono ?_
        rintro e w2 ⟨⟨v2, ok2, b2, rfl, hb3, hcase2⟩, hg3⟩
        have hm2 := Lib.hid (hm1.out.turn hb3 hg3)
        have HC2 := Lib.hid hcase2
        have hb4 : b2 ≤ 8 * s.size := by
          rcases hcase2 with ⟨_, _, _, h4⟩ | ⟨_, _, h4⟩ <;> omega
        clear hb3 hg3 hcase2 hm1 hm
        have HRS := Lib.hid (hm2.out.reset a)
        have cat1 := hm2.out.sup.c1
        have cfz := hm2.out.sup.fz
        cases ok with
        | false =>
        have HN : Hid (terOut s n h a = (4, [], a)) := terOut_none (by
          refine tern_none hlt htg.out ?_
          rcases HC.out with ⟨h1, _⟩ | ⟨_, h2⟩
          · cases h1
          · unfold ternStep; rw [h2])
        clear HC HC2 htg
        go_wp2_with fail
        go_ret2
        refine ⟨.slice none 0 0, by rw [HN.out]; rfl, ?_, ?_, ?_, by intro q hq; simp [Value.ownBlock] at hq⟩
        · rw [HN.out]; exact SliceZ.nil _ _
        · rw [HN.out]; exact HRS.out.1
        · exact HRS.out.2
        | true =>
        have HC1 : Hid (belAt s (n - i) t.at_ = some (v, b)) := by
          rcases HC.out with ⟨_, h2⟩ | ⟨h1, _⟩
          · exact h2
          · cases h1
        cases ok2 with
        | false =>
        have HN : Hid (terOut s n h a = (4, [], a)) := terOut_none (by
          refine tern_none hlt htg.out ?_
          rcases HC2.out with ⟨h1, _⟩ | ⟨_, h2, _⟩
          · cases h1
          · unfold ternStep; rw [HC1.out]; simp only; rw [someAt_no (s := s) (n := 1) (a := b) (by omega)])
        clear HC HC2 htg HC1
        go_wp2_with fail
        go_ret2
        refine ⟨.slice none 0 0, by rw [HN.out]; rfl, ?_, ?_, ?_, by intro q hq; simp [Value.ownBlock] at hq⟩
        · rw [HN.out]; exact SliceZ.nil _ _
        · rw [HN.out]; exact HRS.out.1
        · exact HRS.out.2
        | true =>
        have HC3 : Hid (someAt s 1 b = some (v2, b2)) := by
          rcases HC2.out with ⟨_, h1, h2, h3⟩ | ⟨h1, _⟩
          · have h4 := someAt_yes (s := s) (n := 1) (a := b) (by omega)
            show _ = _
            rw [h4, h2, h3]; simp [numAt]
          · cases h1
        have hv : v < n - i := (belAt_bd HC1.out).1
        have hv2 : v2 < 2 := by
          rcases HC2.out with ⟨_, h1, h2, h3⟩ | ⟨h1, _⟩
          · rw [h2]; exact bitAt_lt s b
          · cases h1
        have HOK := Lib.hid (ternGo_ok (tern0_ok n a) i t (by omega) htg.out).1
        obtain ⟨p, hp⟩ : ∃ p, t.pl.getD i 0 = p := ⟨_, rfl⟩
        obtain ⟨q, hq⟩ : ∃ q, t.pl.getD (i + v) 0 = q := ⟨_, rfl⟩
        have HS : Hid (ternGo s n (tern0 n a) (i + 1) = some ⟨(t.pl.set i q).set (i + v) p, t.out.set (((t.pl.set i q).set (i + v) p).getD i 0).toNat (1 - 2 * (v2 : Int)), b2⟩) := by
          show _ = _
          simp only [ternGo]
          rw [htg.out]
          simp only [ternStep]
          rw [HC1.out]
          simp only
          rw [HC3.out, hp, hq]
        have cpi : w2.cell? ⟨w.heap.size, i, none⟩ = some (.int .i64 p) := by
          have := hm2.out.pl.icell i (by have := HOK.out.lp; show i < t.pl.length; omega)
          rw [this]; show some (Value.int .i64 (t.pl.getD i 0)) = _; rw [hp]
        have cpq : w2.cell? ⟨w.heap.size, i + v, none⟩ = some (.int .i64 q) := by
          have := hm2.out.pl.icell (i + v) (by have := HOK.out.lp; show i + v < t.pl.length; omega)
          rw [this]; show some (Value.int .i64 (t.pl.getD (i + v) 0)) = _; rw [hq]
        have cs1 : (w2.setCell ⟨w.heap.size, i, none⟩ (.int .i64 q)).cell? ⟨w.heap.size, i + v, none⟩ = some (.int .i64 q) := by
          by_cases e : v = 0
          · subst e; exact World.cell?_setCell_same _ _ _ cpi
          · rw [World.cell?_setCell_other _ _ _ _ (by intro h; injection h with _ h; omega)]; exact cpq
        have cs2 : (w2.setCell ⟨w.heap.size, i + v, none⟩ (.int .i64 p)).cell? ⟨w.heap.size, i, none⟩ = some (.int .i64 p) := by
          by_cases e : v = 0
          · subst e; exact World.cell?_setCell_same _ _ _ cpi
          · rw [World.cell?_setCell_other _ _ _ _ (by intro h; injection h with _ h; omega)]; exact cpi
        have fpi := hm2.out.pl.free i
        have fpq := hm2.out.pl.free (i + v)
        have e3 : IntKind.i64.wrap ((i : Int) + (v : Int)) = ((i + v : Nat) : Int) := by rw [IntKind.wrap_i64]; omega
        have e4 : IntKind.i64.wrap (v : Int) = (v : Int) := by rw [IntKind.wrap_i64]; omega
        have i0 : (0 : Int) ≤ (i : Int) := by omega
        have i1 : (i : Int) < (n : Int) := by omega
        have k0 : (0 : Int) ≤ ((i + v : Nat) : Int) := by omega
        have k1 : ((i + v : Nat) : Int) < (n : Int) := by omega
        have HP := Lib.hid hp
        have HQ := Lib.hid hq
        clear HC HC2 hp hq cat1 cfz HRS
        go_wp2_with fail
        go_region
        have hm3 : TrQ w ((w2.setCell ⟨w.heap.size, i, none⟩ (.int .i64 q)).setCell ⟨w.heap.size, i + v, none⟩ (.int .i64 p)).drew g s n ⟨(t.pl.set i q).set (i + v) p, t.out, b2⟩ := ((hm2.out.setP i q).setP (i + v) p).drew
        generalize ((w2.setCell ⟨w.heap.size, i, none⟩ (.int .i64 q)).setCell ⟨w.heap.size, i + v, none⟩ (.int .i64 p)).drew = w3 at hm3 ⊢
        have hsw := swap_ok HOK.out.lp HOK.out.rp (i := i) (j := v) (by omega) (by omega)
        rw [HP.out, HQ.out] at hsw
        have hlo := HOK.out.lo
        clear cs1 cs2 cpi cpq fpi fpq e3 e4 k0 k1 HC1 HC3 hm2 HP HQ
        generalize (t.pl.set i q).set (i + v) p = P2 at hm3 HS hsw
        obtain ⟨hP1, hP2⟩ := hsw
        obtain ⟨z, hz⟩ : ∃ z, P2.getD i 0 = z := ⟨_, rfl⟩
        have hz1 : 0 ≤ z ∧ z < n := by rw [← hz]; exact hP2 _ (getD_mem (by omega))
        obtain ⟨c, rfl⟩ : ∃ c : Nat, z = c := ⟨z.toNat, by omega⟩
        rw [hz, Int.toNat_natCast] at HS
        have hc : c < n := by omega
        have cpz : w3.cell? ⟨w.heap.size, i, none⟩ = some (.int .i64 (c : Int)) := by
          have := hm3.pl.icell i (by show i < P2.length; omega)
          rw [this]; show some (Value.int .i64 (P2.getD i 0)) = _; rw [hz]
        have coz : w3.cell? ⟨w.heap.size + 1, c, none⟩ = some (.int .i8 (t.out.getD c 0)) := by
          have := hm3.ou.cell c (by unfold i8s; rw [List.length_map]; show c < t.out.length; omega)
          rw [this]; unfold i8s; rw [List.getElem_map, getD_lt (by show c < t.out.length; omega)]
        have foz := hm3.ou.free c
        have c0 : (0 : Int) ≤ (c : Int) := by omega
        have c1 : (c : Int) < (n : Int) := by omega
        have f1 : IntKind.i8.wrap (v2 : Int) = (v2 : Int) := by simp [IntKind.wrap, IntKind.bits, IntKind.signed]; omega
        have f2 : IntKind.i8.wrap (2 * (v2 : Int)) = 2 * (v2 : Int) := by simp [IntKind.wrap, IntKind.bits, IntKind.signed]; omega
        have f3 : IntKind.i8.wrap (1 - 2 * (v2 : Int)) = 1 - 2 * (v2 : Int) := by simp [IntKind.wrap, IntKind.bits, IntKind.signed]; omega
        have hm4 := Lib.hid (hm3.setO c (1 - 2 * (v2 : Int)))
        clear hz hm3 hP1 hP2 hlo
        go_wp2_with fail
        go_roundw
        case rel => exact ⟨i + 1, _, by go_num, by omega, hm4, HS, hb4⟩
        case measure => simp [intOf]; omega
end Go.Proofs.Ytjfjbkocopaehaa
