/- Supplies of bits: the reference's Ternary. -/
import Derived.Test.YtjpcljnojipdnaaGreatSupF
import Derived.BigRegion
namespace Go.Proofs.YtjpcljnojipdnaaGreat
open Go.RowKit
set_option linter.unusedVariables false

/-- What the reference's Ternary holds. -/
structure TrQ (w W : World) (g : Nat) (s : ByteArray) (n : Nat) (t : Tern) : Prop where
  pl : Blk W w.heap.size (i64s t.pl) 3
  ou : Blk W (w.heap.size + 1) (i8s t.out) 76
  sup : SupR W g s t.at_
  gr : w.grownBy W (some g)
  hg : g < w.heap.size
theorem TrQ.turn {w W W' : World} {g : Nat} {s : ByteArray} {n b : Nat} {t : Tern} (m : TrQ w W g s n t) (hs : SupR W' g s b) (hg : W.grownBy W' (some g)) : TrQ w W' g s n ⟨t.pl, t.out, b⟩ := by
  have h2 := m.hg
  exact ⟨m.pl.gr hg (by omega), m.ou.gr hg (by omega), hs, gr_trans m.gr hg, h2⟩
theorem TrQ.drew {w W : World} {g : Nat} {s : ByteArray} {n : Nat} {t : Tern} (m : TrQ w W g s n t) : TrQ w W.drew g s n t := ⟨m.pl, m.ou, ⟨m.sup.c0, m.sup.c1, m.sup.fz⟩, ⟨m.gr.os, m.gr.tape, m.gr.output, m.gr.size, m.gr.block⟩, m.hg⟩
theorem TrQ.setP {w W : World} {g : Nat} {s : ByteArray} {n : Nat} {t : Tern} (m : TrQ w W g s n t) (i : Nat) (z : Int) : TrQ w (W.setCell ⟨w.heap.size, i, none⟩ (.int .i64 z)) g s n ⟨t.pl.set i z, t.out, t.at_⟩ := by
  have h2 := m.hg
  have ne : ∀ k j, k ≠ w.heap.size → (W.setCell ⟨w.heap.size, i, none⟩ (.int .i64 z)).cell? ⟨k, j, none⟩ = W.cell? ⟨k, j, none⟩ := fun k j hk => World.cell?_setCell_other _ _ _ _ (by intro e; injection e with e; exact hk e.symm)
  refine ⟨?_, m.ou.other (a := ⟨w.heap.size, i, none⟩) (by show w.heap.size + 1 ≠ w.heap.size; omega) _, ⟨(ne _ _ (by omega)).trans m.sup.c0, (ne _ _ (by omega)).trans m.sup.c1, by simpa using m.sup.fz⟩, ?_, h2⟩
  · have := m.pl.set i (.int .i64 z)
    show Blk _ _ (List.map _ (t.pl.set i z)) _
    rw [List.map_set]; exact this
  · exact ⟨m.gr.os, m.gr.tape, m.gr.output, by simpa using m.gr.size, fun k hk hne => (Below.heap_setCell W ⟨w.heap.size, i, none⟩ _ k (by show k ≠ w.heap.size; omega)).trans (m.gr.block k hk hne)⟩
theorem TrQ.setO {w W : World} {g : Nat} {s : ByteArray} {n : Nat} {t : Tern} (m : TrQ w W g s n t) (i : Nat) (z : Int) : TrQ w (W.setCell ⟨w.heap.size + 1, i, none⟩ (.int .i8 z)) g s n ⟨t.pl, t.out.set i z, t.at_⟩ := by
  have h2 := m.hg
  have ne : ∀ k j, k ≠ w.heap.size + 1 → (W.setCell ⟨w.heap.size + 1, i, none⟩ (.int .i8 z)).cell? ⟨k, j, none⟩ = W.cell? ⟨k, j, none⟩ := fun k j hk => World.cell?_setCell_other _ _ _ _ (by intro e; injection e with e; exact hk e.symm)
  refine ⟨m.pl.other (a := ⟨w.heap.size + 1, i, none⟩) (by show w.heap.size ≠ w.heap.size + 1; omega) _, ?_, ⟨(ne _ _ (by omega)).trans m.sup.c0, (ne _ _ (by omega)).trans m.sup.c1, by simpa using m.sup.fz⟩, ?_, h2⟩
  · have := m.ou.set i (.int .i8 z)
    show Blk _ _ (List.map _ (t.out.set i z)) _
    rw [List.map_set]; exact this
  · exact ⟨m.gr.os, m.gr.tape, m.gr.output, by simpa using m.gr.size, fun k hk hne => (Below.heap_setCell W ⟨w.heap.size + 1, i, none⟩ _ k (by show k ≠ w.heap.size + 1; omega)).trans (m.gr.block k hk hne)⟩
/-- Giving the bits back. -/
theorem TrQ.reset {w W : World} {g : Nat} {s : ByteArray} {n : Nat} {t : Tern} (m : TrQ w W g s n t) (a : Nat) : SupR (W.setCell ⟨g, 1, none⟩ (.int .i64 a)) g s a ∧ w.grownBy (W.setCell ⟨g, 1, none⟩ (.int .i64 a)) (some g) := ⟨m.sup.set a, gr_set m.gr _ _⟩

/-- What both Ternary answer. -/
def TerQ (w w' : World) (g : Nat) (s : ByteArray) (n h a : Nat) (e : Ending) : Prop :=
  ∃ v, e = .returned (.tuple #[v, .int .i64 (terOut s n h a).1]) ∧ SliceZ .i8 w' v (terOut s n h a).2.1 ∧ SupR w' g s (terOut s n h a).2.2 ∧ w.grownBy w' (some g) ∧ ∀ q, v.ownBlock = some q → w.heap.size ≤ q

theorem rtaken_any (s : ByteArray) (g a : Nat) (w : World) (hsup : SupR w g s a) :
    Calls Tryz.prog 26 #[.pointer (some ⟨g, 0, none⟩)] w fun e w' => e = .returned (.int .i64 a) ∧ w' = w := by
  have c1 := hsup.c1
  go_enter Tryz.func26, Tryz.ntmps26
  go_wp2
  go_ret
  exact ⟨rfl, rfl⟩
theorem rnew_any (s : ByteArray) (w : World) (hs : s.size ≤ 1048576) :
    Calls Tryz.prog 22 #[.string s] w fun e w' => e = .returned (.pointer (some ⟨w.heap.size, 0, none⟩)) ∧ SupR w' w.heap.size s 0 ∧ Below w.heap.size w w' := by
  have d1 : decide ((1048576 : Int) < (s.size : Int)) = false := decide_eq_false (by omega)
  have d2 : decide (1048576 < s.size) = false := decide_eq_false (by omega)
  go_enter Tryz.func22, Tryz.ntmps22
  go_wp2
  go_ret
  exact ⟨rfl, ⟨by simp [go_sem], by simp [go_sem], by simp [go_sem]⟩, (Below.refl _ _).alloc (Nat.le_refl _) _⟩

end Go.Proofs.YtjpcljnojipdnaaGreat
