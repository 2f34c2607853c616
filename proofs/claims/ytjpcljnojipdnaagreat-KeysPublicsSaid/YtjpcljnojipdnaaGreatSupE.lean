/- Supplies of bits: the program's Ternary. -/
import Derived.Test.YtjpcljnojipdnaaGreatSupD
import Derived.Test.YtjpcljnojipdnaaGreatGrpA
namespace Go.Proofs.YtjpcljnojipdnaaGreat
open Go.RowKit
set_option linter.unusedVariables false

def terOut (s : ByteArray) (n h a : Nat) : Int × List Int × Nat := match ternGo s n (tern0 n a) h with
  | some t => (0, t.out, t.at_)
  | none => (4, [], a)
/-- What both Ternary answer. -/
def TerR (w w' : World) (g : Nat) (s : ByteArray) (n h a : Nat) (e : Ending) : Prop :=
  ∃ v, e = .returned (.tuple #[v, .int .i64 (terOut s n h a).1]) ∧ SliceZ .i8 w' v (terOut s n h a).2.1 ∧ SupB w' g s (terOut s n h a).2.2 ∧ w.grownBy w' (some g) ∧ ∀ q, v.ownBlock = some q → w.heap.size ≤ q
theorem terOut_some {s : ByteArray} {n h a : Nat} {t : Tern} (hg : ternGo s n (tern0 n a) h = some t) : terOut s n h a = (0, t.out, t.at_) := by unfold terOut; rw [hg]
theorem terOut_none {s : ByteArray} {n h a : Nat} (hg : ternGo s n (tern0 n a) h = none) : terOut s n h a = (4, [], a) := by unfold terOut; rw [hg]
theorem infoInt : (Tryz.prog.info? 3).map (fun i => (i.zero, i.size, i.bytes)) = some (some (.int .i64 0), 1, 8) := by kernel_rfl
theorem count_eq {L : List Int} {n : Nat} (hl : L.length = n) (h : ∀ j, j < n → L.getD j 0 = (j : Int)) : L = (List.range n).map (fun i => ((i : Nat) : Int)) :=
  list_get_eq hl (by simp) (fun j hj => by rw [h j hj, List.getD_eq_getElem?_getD, List.getElem?_map, List.getElem?_range hj]; rfl)
theorem i8_wf3 {z : Int} (h : -1 ≤ z ∧ z ≤ 1) : (Lit.int .i8 z).wf = true := wf_i8_mk (by omega)
theorem sup_below {W W' : World} {g : Nat} {s : ByteArray} {a : Nat} (h : SupB W g s a) (hb : Below W.heap.size W W') : SupB W' g s a :=
  have hg : g < W.heap.size := World.block_lt_of_cell? W ⟨g, 0, none⟩ h.c0
  ⟨(below_at hb hg).trans h.c0, (below_at hb hg).trans h.c1, (below_at hb hg).trans h.c2, (hb.frozen (p := ⟨g, 1, none⟩) hg).trans h.fz⟩

/-- Before the list of signs is made. -/
structure TrP (w W : World) (g : Nat) (s : ByteArray) (n h a : Nat) (L : List Int) : Prop where
  bs : W.cell? ⟨w.heap.size, 0, none⟩ = some (.pointer (some ⟨g, 0, none⟩))
  bn : W.cell? ⟨w.heap.size + 1, 0, none⟩ = some (.int .i64 n)
  bh : W.cell? ⟨w.heap.size + 1 + 1, 0, none⟩ = some (.int .i64 h)
  pl : Blk W (w.heap.size + 1 + 1 + 1) (i64s L) 3
  bp : W.cell? ⟨w.heap.size + 1 + 1 + 1 + 1, 0, none⟩ = some (.slice (some ⟨w.heap.size + 1 + 1 + 1, 0, none⟩) n n)
  sup : SupB W g s a
  bel : Below w.heap.size w W
  sz : W.heap.size = w.heap.size + 1 + 1 + 1 + 1 + 1
  hg : g < w.heap.size
theorem TrP.new {w : World} {g : Nat} {s : ByteArray} {n h a : Nat} (hs : SupB w g s a) (hg : g < w.heap.size) :
    TrP w (((((w.alloc (.cells #[.pointer (some ⟨g, 0, none⟩)] 38)).alloc (.cells #[.int .i64 n] 3)).alloc (.cells #[.int .i64 h] 3)).alloc (.cells (madeCells #[.int .i64 0] n) 3)).alloc (.cells #[.slice (some ⟨w.heap.size + 1 + 1 + 1, 0, none⟩) n n] 150)) g s n h a (List.replicate n 0) := by
  have hb : Below w.heap.size w (((((w.alloc (.cells #[.pointer (some ⟨g, 0, none⟩)] 38)).alloc (.cells #[.int .i64 n] 3)).alloc (.cells #[.int .i64 h] 3)).alloc (.cells (madeCells #[.int .i64 0] n) 3)).alloc (.cells #[.slice (some ⟨w.heap.size + 1 + 1 + 1, 0, none⟩) n n] 150)) :=
    (((((Below.refl _ _).alloc (Nat.le_refl _) _).alloc (by simp) _).alloc (by simp; omega) _).alloc (by simp; omega) _).alloc (by simp; omega) _
  refine ⟨by simp [go_sem], by simp [go_sem], by simp [go_sem], ?_, by simp [go_sem], sup_below hs hb, hb, by simp, hg⟩
  have h := (Blk.new (((w.alloc (.cells #[.pointer (some ⟨g, 0, none⟩)] 38)).alloc (.cells #[.int .i64 n] 3)).alloc (.cells #[.int .i64 h] 3)) (madeCells #[.int .i64 0] n) 3).alloc (.cells #[.slice (some ⟨w.heap.size + 1 + 1 + 1, 0, none⟩) n n] 150)
  rw [made_list] at h
  unfold i64s; rw [List.map_replicate]
  simpa using h
theorem TrP.set {w W : World} {g : Nat} {s : ByteArray} {n h a : Nat} {L : List Int} (m : TrP w W g s n h a L) (i : Nat) (z : Int) : TrP w (W.setCell ⟨w.heap.size + 1 + 1 + 1, i, none⟩ (.int .i64 z)) g s n h a (L.set i z) := by
  have hg := m.hg
  have ne : ∀ k j, k ≠ w.heap.size + 1 + 1 + 1 → (W.setCell ⟨w.heap.size + 1 + 1 + 1, i, none⟩ (.int .i64 z)).cell? ⟨k, j, none⟩ = W.cell? ⟨k, j, none⟩ := fun k j hk => World.cell?_setCell_other _ _ _ _ (by intro e; injection e with e; exact hk e.symm)
  refine ⟨(ne _ _ (by omega)).trans m.bs, (ne _ _ (by omega)).trans m.bn, (ne _ _ (by omega)).trans m.bh, ?_, (ne _ _ (by omega)).trans m.bp, ⟨(ne _ _ (by omega)).trans m.sup.c0, (ne _ _ (by omega)).trans m.sup.c1, (ne _ _ (by omega)).trans m.sup.c2, by simpa using m.sup.fz⟩, m.bel.setCell (p := ⟨w.heap.size + 1 + 1 + 1, i, none⟩) (by show w.heap.size ≤ w.heap.size + 1 + 1 + 1; omega) _, by simpa using m.sz, hg⟩
  have := m.pl.set i (.int .i64 z)
  unfold i64s at this ⊢
  rw [List.map_set]; exact this
theorem TrP.full {w W : World} {g : Nat} {s : ByteArray} {n h a : Nat} (m : TrP w W g s n h a ((List.range n).map (fun i => ((i : Nat) : Int)))) :
    TrM w ((W.alloc (.cells (madeCells #[.int .i8 0] n) 76)).alloc (.cells #[.slice (some ⟨w.heap.size + 1 + 1 + 1 + 1 + 1, 0, none⟩) n n] 26)) ((W.alloc (.cells (madeCells #[.int .i8 0] n) 76)).alloc (.cells #[.slice (some ⟨w.heap.size + 1 + 1 + 1 + 1 + 1, 0, none⟩) n n] 26)) w.heap.size g s n h (tern0 n a) := by
  have hb : Below W.heap.size W ((W.alloc (.cells (madeCells #[.int .i8 0] n) 76)).alloc (.cells #[.slice (some ⟨w.heap.size + 1 + 1 + 1 + 1 + 1, 0, none⟩) n n] 26)) := ((Below.refl _ _).alloc (Nat.le_refl _) _).alloc (by simp) _
  have hsz := m.sz
  have h1 : Blk ((W.alloc (.cells (madeCells #[.int .i8 0] n) 76)).alloc (.cells #[.slice (some ⟨w.heap.size + 1 + 1 + 1 + 1 + 1, 0, none⟩) n n] 26)) W.heap.size (i8s (List.replicate n 0)) 76 := by
    have h := (Blk.new W (madeCells #[.int .i8 0] n) 76).alloc (.cells #[.slice (some ⟨w.heap.size + 1 + 1 + 1 + 1 + 1, 0, none⟩) n n] 26)
    rw [made_list] at h
    unfold i8s; rw [List.map_replicate]; exact h
  have h2 : ((W.alloc (.cells (madeCells #[.int .i8 0] n) 76)).alloc (.cells #[.slice (some ⟨w.heap.size + 1 + 1 + 1 + 1 + 1, 0, none⟩) n n] 26)).cell? ⟨W.heap.size + 1, 0, none⟩ = some (.slice (some ⟨w.heap.size + 1 + 1 + 1 + 1 + 1, 0, none⟩) n n) := by simp [go_sem]
  rw [hsz] at h1 h2
  exact ⟨(below_at hb (by omega)).trans m.bs, (below_at hb (by omega)).trans m.bn, (below_at hb (by omega)).trans m.bh, m.pl.below hb m.pl.lt, (below_at hb (by omega)).trans m.bp, h1, h2, sup_below m.sup hb, by simp; omega,
    ⟨hb.os.trans m.bel.os, hb.tape.trans m.bel.tape, hb.output.trans m.bel.output, Nat.le_trans m.bel.size hb.size, fun k hk _ => (hb.block k (by omega)).trans (m.bel.block k hk)⟩, fun _ _ _ => rfl, Nat.le_refl _, rfl, m.hg⟩
theorem none_any (s : ByteArray) (g a : Nat) (w : World) (hsup : SupB w g s a) :
    Calls Tryz.prog 65 #[.pointer (some ⟨g, 0, none⟩)] w fun e w' => e = .returned (.bool false) ∧ w' = w := by
  have c2 := hsup.c2
  clear hsup
  go_enter Tryz.func65, Tryz.ntmps65
  go_wp2
  go_ret
  exact ⟨rfl, rfl⟩
theorem taken_any (s : ByteArray) (g a : Nat) (w : World) (hsup : SupB w g s a) :
    Calls Tryz.prog 25 #[.pointer (some ⟨g, 0, none⟩)] w fun e w' => e = .returned (.int .i64 a) ∧ w' = w := by
  have c1 := hsup.c1
  go_enter Tryz.func25, Tryz.ntmps25
  go_wp2_with fail
  refine (none_any s g a _ hsup).mono ?_
  rintro e w' ⟨rfl, rfl⟩
  go_wp2_with fail
  go_ret
  exact ⟨rfl, rfl⟩
theorem new_any (s : ByteArray) (w : World) (hs : s.size ≤ 1048576) :
    Calls Tryz.prog 7 #[.string s] w fun e w' => e = .returned (.pointer (some ⟨w.heap.size, 0, none⟩)) ∧ SupB w' w.heap.size s 0 ∧ Below w.heap.size w w' := by
  have d1 : decide ((1048576 : Int) < (s.size : Int)) = false := decide_eq_false (by omega)
  have d2 : decide (1048576 < s.size) = false := decide_eq_false (by omega)
  go_enter Tryz.func7, Tryz.ntmps7
  go_wp2
  go_ret
  exact ⟨rfl, ⟨by simp [go_sem], by simp [go_sem], by simp [go_sem], by simp [go_sem]⟩, (Below.refl _ _).alloc (Nat.le_refl _) _⟩

set_option maxHeartbeats 4000000 in
set_option maxRecDepth 100000 in
theorem ternary_any (s : ByteArray) (g n h a : Nat) (w : World) (hsup : SupB w g s a) (hn1 : 1 ≤ n) (hn2 : n ≤ 32) (hh : h ≤ n) (ha : a ≤ 8 * s.size) (hs : s.size ≤ 1048576) :
    Calls Tryz.prog 67 #[.pointer (some ⟨g, 0, none⟩), .int .i64 n, .int .i64 h] w fun e w' => TerR w w' g s n h a e := by
  have hgw : g < w.heap.size := World.block_lt_of_cell? w ⟨g, 0, none⟩ hsup.c0
  have c2 := hsup.c2
  have n1 : g ≠ w.heap.size := by omega
  have n2 : g ≠ w.heap.size + 1 := by omega
  have n3 : g ≠ w.heap.size + 1 + 1 := by omega
  have H := Lib.hid hsup
  clear hsup
  have hmk := fun wx => run_make_row' (P := Tryz.prog) 150 3 (.int .i64 0) 8 Tryz.underlying150 infoInt rfl .i64 .i64 n (by omega) (by omega) wx
  have hmo := fun wx => run_make_row' (P := Tryz.prog) 26 76 (.int .i8 0) 1 Tryz.underlying26 infoI8 rfl .i64 .i64 n (by omega) (by omega) wx
  have hmf : ∀ (fn : Fn) (first cap : Array Value) (w : World), (Instr.makeFunc fn first cap).run Tryz.prog w = .ok (.func fn first cap) w := fun _ _ _ _ => rfl
  have d1 : decide ((n : Int) < 1) = false := decide_eq_false (by omega)
  have d2 : decide ((4096 : Int) < (n : Int)) = false := decide_eq_false (by omega)
  have d3 : decide ((h : Int) < 0) = false := decide_eq_false (by omega)
  have d4 : decide ((n : Int) < (h : Int)) = false := decide_eq_false (by omega)
  have d5 : decide (n < h) = false := decide_eq_false (by omega)
  go_enter Tryz.func67, Tryz.ntmps67
  go_wp2_with fail
  refine (none_any s g a _ (sup_below H.out ((((Below.refl _ _).alloc (Nat.le_refl _) _).alloc (by simp) _).alloc (by simp; omega) _))).mono ?_
  rintro e wn ⟨rfl, rfl⟩
  go_wp2_with fail
  have hP := Lib.hid (TrP.new (n := n) (h := h) H.out hgw)
  generalize (((((w.alloc (.cells #[.pointer (some ⟨g, 0, none⟩)] 38)).alloc (.cells #[.int .i64 n] 3)).alloc (.cells #[.int .i64 h] 3)).alloc (.cells (madeCells #[.int .i64 0] n) 3)).alloc (.cells #[.slice (some ⟨w.heap.size + 1 + 1 + 1, 0, none⟩) n n] 150)) = W1 at hP ⊢
  clear hmk c2 n1 n2 n3 d1 d2 d3 d4 d5 H
  go_loopw [9, 35] (fun _ v35 wr => ∃ (i : Nat) (L : List Int), v35 = .int .i64 i ∧ i ≤ n ∧ Hid (TrP w wr g s n h a L) ∧ Hid (L.length = n) ∧ Hid (∀ j, j < i → L.getD j 0 = (j : Int))) (fun _ v35 _ => n - (intOf v35).toNat)
  case atStart => exact ⟨0, _, rfl, by omega, hP, by simp [Hid], fun j hj => absurd hj (by omega)⟩
  case round =>
    obtain ⟨i, L, rfl, hi, hp, hlen, hget⟩ := hrel
    by_cases hlt : i < n
    · have cbp := hp.out.bp
      have cel : wr.cell? ⟨w.heap.size + 1 + 1 + 1, i, none⟩ = some (.int .i64 (L.getD i 0)) := hp.out.pl.icell i (by rw [hlen.out]; exact hlt)
      have cfz := hp.out.pl.free i
      have i0 : (0 : Int) ≤ (i : Int) := by omega
      have i1 : (i : Int) < (n : Int) := by omega
      have hp2 := Lib.hid (hp.out.set i (i : Int))
      have hl2 : Hid ((L.set i (i : Int)).length = n) := by show _ = _; rw [List.length_set]; exact hlen.out
      have hg2 : Hid (∀ j, j < i + 1 → (L.set i (i : Int)).getD j 0 = (j : Int)) := fun j hj => by
        rw [getD_set _ _ _ _ (by rw [hlen.out]; omega)]
        by_cases e : i = j
        · rw [if_pos e, e]
        · rw [if_neg e]; exact hget.out j (by omega)
      go_wp2_with fail
      go_roundw
      case rel => exact ⟨i + 1, _, by go_num, by omega, hp2, hl2, hg2⟩
      case measure => simp [intOf]; omega
    · obtain rfl : i = n := by omega
      have hL := count_eq hlen.out hget.out
      have hp2 : Hid (TrP w wr g s i h a ((List.range i).map (fun i => ((i : Nat) : Int)))) := by rw [← hL]; exact hp
      have hsz := Lib.hid hp.out.sz
      have cbn := hp.out.bn; have cbs := hp.out.bs
      have hlt0 : w.heap.size < wr.heap.size := by have := hsz.out; omega
      have hlt1 : w.heap.size + 1 < wr.heap.size := by have := hsz.out; omega
      clear hL hlen hget hp
      go_wp2_with fail
      rw [hsz.out]
      have hM := Lib.hid hp2.out.full
      generalize ((wr.alloc (.cells (madeCells #[.int .i8 0] i) 76)).alloc (.cells #[.slice (some ⟨w.heap.size + 1 + 1 + 1 + 1 + 1, 0, none⟩) i i] 26)) = W2 at hM ⊢
      clear hp2 hsz cbn cbs hlt0 hlt1 hmo hmf
      refine (taking_t s w.heap.size g i h (tern0 i a) w W2 W2 hM.out (tern0_ok i a) hn1 hn2 hh ha hs).mono ?_
      rintro e wf ⟨t, k, rfl, hmf, hat, hcase⟩
      have hbo := hmf.bo
      have M := Lib.hid hmf
      clear hmf hM
      rcases hcase with ⟨rfl, hgo⟩ | ⟨rfl, hgo, hta⟩
      · have HO := Lib.hid (terOut_some hgo)
        have hok := Lib.hid (ternGo_ok (tern0_ok i a) h t hh hgo).1
        clear hgo
        go_wp2_with fail
        go_ret2
        refine ⟨.slice (some ⟨w.heap.size + 1 + 1 + 1 + 1 + 1, 0, none⟩) i i, by rw [HO.out]; rfl, ?_, ?_, M.out.gr, by intro q hq; simp [Value.ownBlock] at hq; try omega⟩
        · rw [HO.out]
          have hbk := M.out.ou
          have hlo := hok.out.lo
          have h1 := SliceZ.ofBlk (k := .i8) hbk (by omega) (fun q hq => i8_wf3 (hok.out.ro q hq))
          rw [hlo] at h1
          exact h1
        · rw [HO.out]; exact M.out.sup
      · have HO := Lib.hid (terOut_none hgo)
        have hsup : SupB wf g s a := by have := M.out.sup; rw [hta] at this; exact this
        clear hgo hta hbo
        have HS := Lib.hid hsup
        clear hsup
        go_wp2_with fail
        go_ret2
        refine ⟨.slice none 0 0, by rw [HO.out]; rfl, ?_, ?_, M.out.gr, by intro q hq; simp [Value.ownBlock] at hq; try omega⟩
        · rw [HO.out]; exact SliceZ.nil _ _
        · rw [HO.out]; exact HS.out
end Go.Proofs.YtjpcljnojipdnaaGreat
