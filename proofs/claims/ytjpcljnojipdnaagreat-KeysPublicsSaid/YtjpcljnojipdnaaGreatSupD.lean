/- Supplies of bits: what takes and gives back; ternary lists. -/
import Derived.Test.YtjpcljnojipdnaaGreatSupC
import Derived.Defers
namespace Go.Proofs.YtjpcljnojipdnaaGreat
open Go.RowKit
set_option linter.unusedVariables false

theorem takd_ok (ce cw cs : Addr) (u : FrameMode) (w : World) (he : w.cell? ce = some (.int .i64 0)) :
    CallsD Tryz.prog 129 #[.pointer (some ce), .pointer (some cw), .pointer (some cs)] u w fun e u' w' => u' = u ∧ (e = .returned (.tuple #[]) ∧ w' = w) := by
  go_enter_d Tryz.func129, Tryz.ntmps129
  go_wp2
  go_end0
  exact ⟨rfl, rfl⟩
theorem takd_bad (ce cw cs : Addr) (g : Nat) (a x : Int) (u : FrameMode) (w : World) (he : w.cell? ce = some (.int .i64 4)) (hw : w.cell? cw = some (.int .i64 a)) (hs : w.cell? cs = some (.pointer (some ⟨g, 0, none⟩)))
    (hx : w.cell? ⟨g, 1, none⟩ = some (.int .i64 x)) (hz : w.frozen? ⟨g, 1, none⟩ = false) :
    CallsD Tryz.prog 129 #[.pointer (some ce), .pointer (some cw), .pointer (some cs)] u w fun e u' w' => u' = u ∧ (e = .returned (.tuple #[]) ∧ w' = w.setCell ⟨g, 1, none⟩ (.int .i64 a)) := by
  go_enter_d Tryz.func129, Tryz.ntmps129
  go_wp2
  go_end0
  exact ⟨rfl, rfl⟩

theorem TrM.back {w0 w1 w2 W : World} {B g : Nat} {s : ByteArray} {n h : Nat} {t u : Tern} (m : TrM w0 w2 W B g s n h t) (k : TrM w0 w1 w2 B g s n h u) : TrM w0 w1 W B g s n h t :=
  ⟨m.bs, m.bn, m.bh, m.pl, m.bp, m.ou, m.bo, m.sup, m.sz, m.gr, fun i h1 h2 => (m.kp i h1 (Nat.lt_of_lt_of_le h2 k.ks)).trans (k.kp i h1 h2), Nat.le_trans k.ks m.ks, m.hB, m.hg⟩
/-- A store into another block. -/
theorem TrM.setX {w0 w1 W : World} {B g b : Nat} {s : ByteArray} {n h : Nat} {t : Tern} (m : TrM w0 w1 W B g s n h t) (h1 : B + 7 ≤ b) (h2 : w1.heap.size ≤ b) (u : Value) : TrM w0 w1 (W.setCell ⟨b, 0, none⟩ u) B g s n h t := by
  have h3 := m.hg; have h4 := m.hB
  have ne : ∀ k j, k ≠ b → (W.setCell ⟨b, 0, none⟩ u).cell? ⟨k, j, none⟩ = W.cell? ⟨k, j, none⟩ := fun k j hk => World.cell?_setCell_other _ _ _ _ (by intro e; injection e with e; exact hk e.symm)
  exact ⟨(ne _ _ (by omega)).trans m.bs, (ne _ _ (by omega)).trans m.bn, (ne _ _ (by omega)).trans m.bh, m.pl.other (a := ⟨b, 0, none⟩) (by show B + 1 + 1 + 1 ≠ b; omega) _, (ne _ _ (by omega)).trans m.bp, m.ou.other (a := ⟨b, 0, none⟩) (by show B + 1 + 1 + 1 + 1 + 1 ≠ b; omega) _, (ne _ _ (by omega)).trans m.bo,
    ⟨(ne _ _ (by omega)).trans m.sup.c0, (ne _ _ (by omega)).trans m.sup.c1, (ne _ _ (by omega)).trans m.sup.c2, by simpa using m.sup.fz⟩, by simpa using m.sz,
    ⟨m.gr.os, m.gr.tape, m.gr.output, by simpa using m.gr.size, fun k hk hne => (Below.heap_setCell W ⟨b, 0, none⟩ _ k (by show k ≠ b; omega)).trans (m.gr.block k hk hne)⟩,
    fun k h5 h6 => (Below.heap_setCell W ⟨b, 0, none⟩ _ k (by show k ≠ b; omega)).trans (m.kp k h5 h6), by simpa using m.ks, h4, h3⟩

/-- What 'taking' answers. -/
def TakR (w0 w1 w' : World) (B g : Nat) (s : ByteArray) (n h : Nat) (t0 : Tern) (e : Ending) : Prop :=
  ∃ (t : Tern) (k : Int), e = .returned (.int .i64 k) ∧ TrM w0 w1 w' B g s n h t ∧ t.at_ ≤ 8 * s.size ∧ ((k = 0 ∧ ternGo s n t0 h = some t) ∨ (k = 4 ∧ ternGo s n t0 h = none ∧ t.at_ = t0.at_))

set_option maxHeartbeats 4000000 in
set_option maxRecDepth 100000 in
theorem taking_t (s : ByteArray) (B g n h : Nat) (t0 : Tern) (w0 w1 w : World) (hm : TrM w0 w1 w B g s n h t0) (ht0 : TernOk n t0) (hn1 : 1 ≤ n) (hn2 : n ≤ 32) (hh : h ≤ n) (ha : t0.at_ ≤ 8 * s.size) (hs : s.size ≤ 1048576) :
    Calls Tryz.prog 77 #[.pointer (some ⟨g, 0, none⟩), .func (.func 125) #[] #[.pointer (some ⟨B + 1 + 1, 0, none⟩), .pointer (some ⟨B, 0, none⟩), .pointer (some ⟨B + 1, 0, none⟩), .pointer (some ⟨B + 1 + 1 + 1 + 1, 0, none⟩), .pointer (some ⟨B + 1 + 1 + 1 + 1 + 1 + 1, 0, none⟩)]] w fun e w' => TakR w0 w1 w' B g s n h t0 e := by
  have hmf : ∀ (fn : Fn) (first cap : Array Value) (w : World), (Instr.makeFunc fn first cap).run Tryz.prog w = .ok (.func fn first cap) w := fun _ _ _ _ => rfl
  have c1 := hm.sup.c1
  have hgw : g < w.heap.size := World.block_lt_of_cell? w ⟨g, 1, none⟩ c1
  have n1 : g ≠ w.heap.size := by omega
  have n2 : g ≠ w.heap.size + 1 := by omega
  have M := Lib.hid hm
  have HT := Lib.hid ht0
  clear hm ht0
  go_enter_defers Tryz.func77, Tryz.ntmps77
  go_wp2_with fail
  have hbel : Below w.heap.size w (((w.alloc (.cells #[.pointer (some ⟨g, 0, none⟩)] 38)).alloc (.cells #[.int .i64 0] 35)).alloc (.cells #[.int .i64 t0.at_] 3)) := (((Below.refl _ _).alloc (Nat.le_refl _) _).alloc (by simp) _).alloc (by simp; omega) _
  have x0 : (((w.alloc (.cells #[.pointer (some ⟨g, 0, none⟩)] 38)).alloc (.cells #[.int .i64 0] 35)).alloc (.cells #[.int .i64 t0.at_] 3)).cell? ⟨w.heap.size, 0, none⟩ = some (.pointer (some ⟨g, 0, none⟩)) := by simp [go_sem]
  have x1 : (((w.alloc (.cells #[.pointer (some ⟨g, 0, none⟩)] 38)).alloc (.cells #[.int .i64 0] 35)).alloc (.cells #[.int .i64 t0.at_] 3)).cell? ⟨w.heap.size + 1, 0, none⟩ = some (.int .i64 0) := by simp [go_sem]
  have x2 : (((w.alloc (.cells #[.pointer (some ⟨g, 0, none⟩)] 38)).alloc (.cells #[.int .i64 0] 35)).alloc (.cells #[.int .i64 t0.at_] 3)).cell? ⟨w.heap.size + 1 + 1, 0, none⟩ = some (.int .i64 t0.at_) := by simp [go_sem]
  have xf : (((w.alloc (.cells #[.pointer (some ⟨g, 0, none⟩)] 38)).alloc (.cells #[.int .i64 0] 35)).alloc (.cells #[.int .i64 t0.at_] 3)).frozen? ⟨w.heap.size + 1, 0, none⟩ = false := by simp [go_sem]
  have xs : w.heap.size + 3 ≤ (((w.alloc (.cells #[.pointer (some ⟨g, 0, none⟩)] 38)).alloc (.cells #[.int .i64 0] 35)).alloc (.cells #[.int .i64 t0.at_] 3)).heap.size := by simp
  generalize (((w.alloc (.cells #[.pointer (some ⟨g, 0, none⟩)] 38)).alloc (.cells #[.int .i64 0] 35)).alloc (.cells #[.int .i64 t0.at_] 3)) = W at hbel x0 x1 x2 xf xs ⊢
  have M3 := Lib.hid (M.out.more hbel)
  have hB7 := M.out.sz
  have hks := M.out.ks
  clear c1 n1 n2 hbel M
  refine (ternc_any s B g n h t0 w0 W W M3.out.anchor HT.out hn1 hn2 hh ha hs).mono ?_
  rintro e wc ⟨t, ok, rfl, hmc, hat, hcase⟩
  have y0 := (hmc.kept (i := 0) (show B + 7 ≤ w.heap.size by omega) (by omega)).trans x0
  have y1 := (hmc.kept (i := 0) (show B + 7 ≤ w.heap.size + 1 by omega) (by omega)).trans x1
  have y2 := (hmc.kept (i := 0) (show B + 7 ≤ w.heap.size + 1 + 1 by omega) (by omega)).trans x2
  have yf := (hmc.keptF (i := 0) (show B + 7 ≤ w.heap.size + 1 by omega) (by omega)).trans xf
  have MC := Lib.hid (hmc.back M3.out)
  have hgB : g < B := hmc.hg
  clear hmc x0 x1 x2 xf
  cases ok with
  | true =>
    have HR : Hid (ternGo s n t0 h = some t) := by
      rcases hcase with ⟨_, h2⟩ | ⟨h1, _⟩
      · exact h2
      · cases h1
    clear hcase
    go_wp2_with fail
    have hz : (wc.setCell ⟨w.heap.size + 1, 0, none⟩ (.int .i64 0)).cell? ⟨w.heap.size + 1, 0, none⟩ = some (.int .i64 0) := World.cell?_setCell_same _ _ _ y1
    have MZ := Lib.hid (MC.out.setX (b := w.heap.size + 1) (by omega) (by omega) (.int .i64 0))
    clear MC y0 y1 y2 yf
    generalize wc.setCell ⟨w.heap.size + 1, 0, none⟩ (.int .i64 0) = wz at hz MZ ⊢
    refine leaves_cons (f := 129) (args := #[.pointer (some ⟨w.heap.size + 1, 0, none⟩), .pointer (some ⟨w.heap.size + 1 + 1, 0, none⟩), .pointer (some ⟨w.heap.size, 0, none⟩)]) (by simp) (by simp [go_sem]) ?_
    refine (takd_ok _ _ _ .returning _ hz).mono ?_
    rintro e u' w'' ⟨rfl, rfl, rfl⟩
    refine ⟨.int .i64 0, by simp [results, Tryz.results77, go_sem, hz], ?_⟩
    exact ⟨t, 0, rfl, MZ.out, hat, .inl ⟨rfl, HR.out⟩⟩
  | false =>
    have HR : Hid (ternGo s n t0 h = none) := by
      rcases hcase with ⟨h1, _⟩ | ⟨_, h2⟩
      · cases h1
      · exact h2
    clear hcase
    go_wp2_with fail
    have hz : (wc.setCell ⟨w.heap.size + 1, 0, none⟩ (.int .i64 4)).cell? ⟨w.heap.size + 1, 0, none⟩ = some (.int .i64 4) := World.cell?_setCell_same _ _ _ y1
    have h0 : (wc.setCell ⟨w.heap.size + 1, 0, none⟩ (.int .i64 4)).cell? ⟨w.heap.size, 0, none⟩ = some (.pointer (some ⟨g, 0, none⟩)) := (World.cell?_setCell_other _ _ _ _ (by simp)).trans y0
    have h2 : (wc.setCell ⟨w.heap.size + 1, 0, none⟩ (.int .i64 4)).cell? ⟨w.heap.size + 1 + 1, 0, none⟩ = some (.int .i64 t0.at_) := (World.cell?_setCell_other _ _ _ _ (by simp)).trans y2
    have MZ := Lib.hid (MC.out.setX (b := w.heap.size + 1) (by omega) (by omega) (.int .i64 4))
    clear MC y0 y1 y2 yf
    generalize wc.setCell ⟨w.heap.size + 1, 0, none⟩ (.int .i64 4) = wz at hz h0 h2 MZ ⊢
    refine leaves_cons (f := 129) (args := #[.pointer (some ⟨w.heap.size + 1, 0, none⟩), .pointer (some ⟨w.heap.size + 1 + 1, 0, none⟩), .pointer (some ⟨w.heap.size, 0, none⟩)]) (by simp) (by simp [go_sem]) ?_
    refine (takd_bad _ _ _ g t0.at_ t.at_ .returning _ hz h2 h0 MZ.out.sup.c1 MZ.out.sup.fz).mono ?_
    rintro e u' w'' ⟨rfl, rfl, rfl⟩
    have hz2 : (wz.setCell ⟨g, 1, none⟩ (.int .i64 t0.at_)).cell? ⟨w.heap.size + 1, 0, none⟩ = some (.int .i64 4) := (World.cell?_setCell_other _ _ _ _ (by intro e; injection e with e; omega)).trans hz
    refine ⟨.int .i64 4, by simp [results, Tryz.results77, go_sem, hz2], ?_⟩
    exact ⟨⟨t.pl, t.out, t0.at_⟩, 4, rfl, MZ.out.turn (MZ.out.sup.set t0.at_) (gr_set (gr_refl _ _) _ _), ha, .inr ⟨rfl, HR.out, rfl⟩⟩
end Go.Proofs.YtjpcljnojipdnaaGreat
