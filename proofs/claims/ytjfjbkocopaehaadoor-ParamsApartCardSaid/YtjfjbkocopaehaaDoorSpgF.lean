/- The sponge: rounds (obscuraref11). (Printed by gen_SpgF.py.) -/
import Derived.Test.YtjfjbkocopaehaaDoorSpgE
namespace Go.Proofs.YtjfjbkocopaehaaDoor
open Go.RowKit
set_option linter.unusedVariables false

/-- What permute holds. -/
structure PmR (w W : World) (x : S5) : Prop where
  m : Blk W w.heap.size x.l 87
  r : Blk W (w.heap.size + 1) [.int .u64 0, .int .u64 0, .int .u64 0, .int .u64 0, .int .u64 0] 87
  bel : Below w.heap.size w W
theorem PmR.below {w W W' : World} {x : S5} (h : PmR w W x) (hb : Below W.heap.size W W') : PmR w W' x :=
  ⟨h.m.below hb h.m.lt, h.r.below hb h.r.lt, h.bel.trans (hb.mono h.bel.size)⟩
theorem PmR.put {w W : World} {x : S5} (h : PmR w W x) (y : S5) :
    PmR w (((((W.setCell ⟨w.heap.size, 0, none⟩ (.int .u64 y.a)).setCell ⟨w.heap.size, 1, none⟩ (.int .u64 y.b)).setCell ⟨w.heap.size, 2, none⟩ (.int .u64 y.c)).setCell ⟨w.heap.size, 3, none⟩ (.int .u64 y.d)).setCell ⟨w.heap.size, 4, none⟩ (.int .u64 y.e)) y := by
  have hm := ((((h.m.set 0 (.int .u64 y.a)).set 1 (.int .u64 y.b)).set 2 (.int .u64 y.c)).set 3 (.int .u64 y.d)).set 4 (.int .u64 y.e)
  have hne : ∀ i, w.heap.size + 1 ≠ (⟨w.heap.size, i, none⟩ : Addr).block := fun i => by show w.heap.size + 1 ≠ w.heap.size; omega
  refine ⟨hm, ((((h.r.other (hne 0) _).other (hne 1) _).other (hne 2) _).other (hne 3) _).other (hne 4) _, ?_⟩
  have hp : ∀ i, w.heap.size ≤ (⟨w.heap.size, i, none⟩ : Addr).block := fun _ => Nat.le_refl _
  exact ((((h.bel.setCell (hp 0) _).setCell (hp 1) _).setCell (hp 2) _).setCell (hp 3) _).setCell (hp 4) _
theorem PmR.out {w W : World} {x : S5} (h : PmR w W x) :
    Blk (((((W.setCell ⟨w.heap.size + 1, 0, none⟩ (.int .u64 x.a)).setCell ⟨w.heap.size + 1, 1, none⟩ (.int .u64 x.b)).setCell ⟨w.heap.size + 1, 2, none⟩ (.int .u64 x.c)).setCell ⟨w.heap.size + 1, 3, none⟩ (.int .u64 x.d)).setCell ⟨w.heap.size + 1, 4, none⟩ (.int .u64 x.e)) (w.heap.size + 1) x.l 87 ∧
    Below w.heap.size w (((((W.setCell ⟨w.heap.size + 1, 0, none⟩ (.int .u64 x.a)).setCell ⟨w.heap.size + 1, 1, none⟩ (.int .u64 x.b)).setCell ⟨w.heap.size + 1, 2, none⟩ (.int .u64 x.c)).setCell ⟨w.heap.size + 1, 3, none⟩ (.int .u64 x.d)).setCell ⟨w.heap.size + 1, 4, none⟩ (.int .u64 x.e)) := by
  have hp : ∀ i, w.heap.size ≤ (⟨w.heap.size + 1, i, none⟩ : Addr).block := fun _ => Nat.le_succ _
  exact ⟨((((h.r.set 0 (.int .u64 x.a)).set 1 (.int .u64 x.b)).set 2 (.int .u64 x.c)).set 3 (.int .u64 x.d)).set 4 (.int .u64 x.e), ((((h.bel.setCell (hp 0) _).setCell (hp 1) _).setCell (hp 2) _).setCell (hp 3) _).setCell (hp 4) _⟩

set_option maxHeartbeats 4000000 in
set_option maxRecDepth 100000 in
theorem rperm_any (x : S5) (r : Nat) (w : World) (hr : r ≤ 12) :
    Calls Tryd.prog 72 #[x.v, .int .i64 r] w fun e w' => e = .returned (perm x r).v ∧ Below w.heap.size w w' := by
  have HP : Hid (PmR w ((w.alloc (.cells #[.int .u64 x.a, .int .u64 x.b, .int .u64 x.c, .int .u64 x.d, .int .u64 x.e] 87)).alloc (.cells #[.int .u64 0, .int .u64 0, .int .u64 0, .int .u64 0, .int .u64 0] 87)) x) := by
    refine ⟨?_, ?_, ((Below.refl _ w).alloc (Nat.le_refl _) _).alloc (by simp) _⟩
    · exact (Blk.new w #[.int .u64 x.a, .int .u64 x.b, .int .u64 x.c, .int .u64 x.d, .int .u64 x.e] 87).alloc _
    · have h := Blk.new (w.alloc (.cells #[.int .u64 x.a, .int .u64 x.b, .int .u64 x.c, .int .u64 x.d, .int .u64 x.e] 87)) #[.int .u64 0, .int .u64 0, .int .u64 0, .int .u64 0, .int .u64 0] 87
      simpa using h
  unfold S5.v
  go_enter Tryd.func72, Tryd.ntmps72
  go_wp2_with fail
  generalize ((w.alloc (.cells #[.int .u64 x.a, .int .u64 x.b, .int .u64 x.c, .int .u64 x.d, .int .u64 x.e] 87)).alloc (.cells #[.int .u64 0, .int .u64 0, .int .u64 0, .int .u64 0, .int .u64 0] 87)) = W at HP ⊢
  obtain ⟨f, hf⟩ : ∃ f : Nat, f = 12 - r := ⟨_, rfl⟩
  have hsg : IntKind.u64.signed = false := rfl
  have hfi : IntKind.i64.wrap (12 - (r : Int)) = (f : Int) := by rw [IntKind.wrap_i64]; omega
  go_loopw [5] (fun vi wr => ∃ k : Nat, vi = .int .i64 ((f + k : Nat) : Int) ∧ k ≤ r ∧ Hid (PmR w wr (rnds x f k))) (fun vi _ => 12 - (intOf vi).toNat)
  case atStart => exact ⟨0, by rw [Nat.add_zero]; congr 1; omega, by omega, HP⟩
  case round =>
    obtain ⟨k, rfl, hk, hI⟩ := hrel
    by_cases hkr : k < r
    · have HRS : Hid (rnds x f (k + 1) = rnd (rnds x f k) (240 - 15 * ((f + k : Nat) : Int))) := rfl
      obtain ⟨i, hi⟩ : ∃ i : Nat, f + k = i := ⟨_, rfl⟩
      rw [hi] at HRS
      rw [hi]
      have hi12 : i < 12 := by omega
      have d1 : decide ((i : Int) < 12) = true := decide_eq_true (by omega)
      have i0 : (0 : Int) ≤ (i : Int) := by omega
      have i1 : (i : Int) < 12 := by omega
      obtain ⟨⟨a, b, c, d, e⟩, hy⟩ : ∃ y, rnds x f k = y := ⟨_, rfl⟩
      rw [hy] at hI HRS
      have y0 : wr.cell? ⟨w.heap.size, 0, none⟩ = some (.int .u64 a) := hI.out.m.cell 0 (by simp [S5.l])
      have y1 : wr.cell? ⟨w.heap.size, 1, none⟩ = some (.int .u64 b) := hI.out.m.cell 1 (by simp [S5.l])
      have y2 : wr.cell? ⟨w.heap.size, 2, none⟩ = some (.int .u64 c) := hI.out.m.cell 2 (by simp [S5.l])
      have y3 : wr.cell? ⟨w.heap.size, 3, none⟩ = some (.int .u64 d) := hI.out.m.cell 3 (by simp [S5.l])
      have y4 : wr.cell? ⟨w.heap.size, 4, none⟩ = some (.int .u64 e) := hI.out.m.cell 4 (by simp [S5.l])
      clear hy
      have HII : Hid (((i + 1 : Nat) : Int) = ((f + (k + 1) : Nat) : Int)) := by show _ = _; omega
      clear hi hf hfi
      go_wp2_with fail
      refine (rround_any ⟨a, b, c, d, e⟩ _ wr).mono ?_
      rintro ev W1 ⟨rfl, hb1⟩
      rw [← HRS.out]
      obtain ⟨⟨t0, t1, t2, t3, t4⟩, ht⟩ : ∃ y, rnds x f (k + 1) = y := ⟨_, rfl⟩
      have HT := Lib.hid ht
      rw [ht]
      have HI1 := Lib.hid (hI.out.below hb1)
      unfold S5.v
      have f0 := HI1.out.m.free 0; have f1 := HI1.out.m.free 1; have f2 := HI1.out.m.free 2; have f3 := HI1.out.m.free 3; have f4 := HI1.out.m.free 4
      have x0 : W1.cell? ⟨w.heap.size, 0, none⟩ = some (.int .u64 a) := HI1.out.m.cell 0 (by simp [S5.l])
      have x1 : W1.cell? ⟨w.heap.size, 1, none⟩ = some (.int .u64 b) := HI1.out.m.cell 1 (by simp [S5.l])
      have x2 : W1.cell? ⟨w.heap.size, 2, none⟩ = some (.int .u64 c) := HI1.out.m.cell 2 (by simp [S5.l])
      have x3 : W1.cell? ⟨w.heap.size, 3, none⟩ = some (.int .u64 d) := HI1.out.m.cell 3 (by simp [S5.l])
      have x4 : W1.cell? ⟨w.heap.size, 4, none⟩ = some (.int .u64 e) := HI1.out.m.cell 4 (by simp [S5.l])
      clear ht hb1 y0 y1 y2 y3 y4
      have HO := Lib.hid (HI1.out.put ⟨t0, t1, t2, t3, t4⟩)
      go_wp2_with fail
      go_roundw
      case rel => exact ⟨k + 1, by rw [← HII.out]; go_num, by omega, by rw [HT.out]; exact HO⟩
      case measure => simp [intOf]; omega
    · obtain rfl : k = r := by omega
      have HRS : Hid (perm x k = rnds x f k) := by show _ = _; unfold perm; rw [hf]
      have d1 : decide (((f + k : Nat) : Int) < 12) = false := decide_eq_false (by omega)
      have hfk : f + k = 12 := by omega
      obtain ⟨⟨a, b, c, d, e⟩, hy⟩ : ∃ y, rnds x f k = y := ⟨_, rfl⟩
      rw [hy] at hI HRS
      have y0 : wr.cell? ⟨w.heap.size, 0, none⟩ = some (.int .u64 a) := hI.out.m.cell 0 (by simp [S5.l])
      have y1 : wr.cell? ⟨w.heap.size, 1, none⟩ = some (.int .u64 b) := hI.out.m.cell 1 (by simp [S5.l])
      have y2 : wr.cell? ⟨w.heap.size, 2, none⟩ = some (.int .u64 c) := hI.out.m.cell 2 (by simp [S5.l])
      have y3 : wr.cell? ⟨w.heap.size, 3, none⟩ = some (.int .u64 d) := hI.out.m.cell 3 (by simp [S5.l])
      have y4 : wr.cell? ⟨w.heap.size, 4, none⟩ = some (.int .u64 e) := hI.out.m.cell 4 (by simp [S5.l])
      have r0 := hI.out.r.cell 0 (by simp); have r1 := hI.out.r.cell 1 (by simp); have r2 := hI.out.r.cell 2 (by simp); have r3 := hI.out.r.cell 3 (by simp); have r4 := hI.out.r.cell 4 (by simp)
      simp only [List.getElem_cons_zero, List.getElem_cons_succ] at r0 r1 r2 r3 r4
      have f0 := hI.out.r.free 0; have f1 := hI.out.r.free 1; have f2 := hI.out.r.free 2; have f3 := hI.out.r.free 3; have f4 := hI.out.r.free 4
      have HO := Lib.hid hI.out.out
      have o0 := HO.out.1.cell 0 (by simp [S5.l]); have o1 := HO.out.1.cell 1 (by simp [S5.l]); have o2 := HO.out.1.cell 2 (by simp [S5.l]); have o3 := HO.out.1.cell 3 (by simp [S5.l]); have o4 := HO.out.1.cell 4 (by simp [S5.l])
      simp only [S5.l, List.getElem_cons_zero, List.getElem_cons_succ] at o0 o1 o2 o3 o4
      rw [hfk]
      clear hy hf hfi
      go_wp2_with fail
      refine bodyPost_ret (v := .agg #[.int .u64 a, .int .u64 b, .int .u64 c, .int .u64 d, .int .u64 e]) (by simp [results, Tryd.results72, go_sem, o0, o1, o2, o3, o4]) rfl ⟨by rw [HRS.out], HO.out.2⟩
end Go.Proofs.YtjfjbkocopaehaaDoor
