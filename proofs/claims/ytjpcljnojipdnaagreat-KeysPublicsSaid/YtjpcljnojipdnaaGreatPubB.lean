/- Supplies of bits: the program's Uniform and Bounded. (Printed by gen_PubB.py.) -/
import Derived.Test.YtjpcljnojipdnaaGreatPubA
import Derived.Test.YtjpcljnojipdnaaGreatSupE
namespace Go.Proofs.YtjpcljnojipdnaaGreat
open Go.RowKit
set_option linter.unusedVariables false

/-- Two blocks alone may change. -/
structure Gr2 (w w' : World) (g o : Nat) : Prop where
  os : w'.os = w.os
  tape : w'.tape = w.tape
  output : w'.output = w.output
  size : w.heap.size ≤ w'.heap.size
  block : ∀ k, k < w.heap.size → k ≠ g → k ≠ o → w'.heap[k]? = w.heap[k]?
theorem Gr2.refl (w : World) (g o : Nat) : Gr2 w w g o := ⟨rfl, rfl, rfl, Nat.le_refl _, fun _ _ _ _ => rfl⟩
theorem Gr2.trans {a b c : World} {g o : Nat} (h : Gr2 a b g o) (k : Gr2 b c g o) : Gr2 a c g o :=
  ⟨k.os.trans h.os, k.tape.trans h.tape, k.output.trans h.output, Nat.le_trans h.size k.size, fun i hi h1 h2 => (k.block i (Nat.lt_of_lt_of_le hi h.size) h1 h2).trans (h.block i hi h1 h2)⟩
theorem Gr2.ofG {a b : World} {g o : Nat} (h : a.grownBy b (some g)) : Gr2 a b g o := ⟨h.os, h.tape, h.output, h.size, fun k hk h1 _ => h.block k hk (by intro e; injection e with e; exact h1 e)⟩
theorem Gr2.ofO {a b : World} {g o : Nat} (h : a.grownBy b (some o)) : Gr2 a b g o := ⟨h.os, h.tape, h.output, h.size, fun k hk _ h2 => h.block k hk (by intro e; injection e with e; exact h2 e)⟩
theorem Gr2.ofB {a b : World} {g o : Nat} (h : Below a.heap.size a b) : Gr2 a b g o := ⟨h.os, h.tape, h.output, h.size, fun k hk _ _ => h.block k hk⟩
theorem Gr2.setO {a b : World} {g o : Nat} (h : Gr2 a b g o) (i : Nat) (u : Value) : Gr2 a (b.setCell ⟨o, i, none⟩ u) g o :=
  h.trans (Gr2.ofO (gr_set (gr_refl _ _) i u))
theorem Gr2.cell {a b : World} {g o k i : Nat} (h : Gr2 a b g o) (hk : k < a.heap.size) (h1 : k ≠ g) (h2 : k ≠ o) : b.cell? ⟨k, i, none⟩ = a.cell? ⟨k, i, none⟩ :=
  World.cell?_of_block (a := ⟨k, i, none⟩) (h.block k hk h1 h2)
theorem Gr2.frozen {a b : World} {g o k i : Nat} (h : Gr2 a b g o) (hk : k < a.heap.size) (h1 : k ≠ g) (h2 : k ≠ o) : b.frozen? ⟨k, i, none⟩ = a.frozen? ⟨k, i, none⟩ :=
  World.frozen?_of_block (a := ⟨k, i, none⟩) (h.block k hk h1 h2)
theorem Gr2.old {a b : World} {g o n : Nat} (h : Gr2 a b g o) (hn : n ≤ a.heap.size) (ho : n ≤ o) {c : World} (hc : Below n c a) : c.grownBy b (some g) ∨ True := .inr trivial
theorem SupB.setCell {W : World} {g k i a : Nat} {s : ByteArray} (h : SupB W g s a) (hk : g ≠ k) (u : Value) : SupB (W.setCell ⟨k, i, none⟩ u) g s a := by
  have ne : ∀ j, (W.setCell ⟨k, i, none⟩ u).cell? ⟨g, j, none⟩ = W.cell? ⟨g, j, none⟩ := fun j => World.cell?_setCell_other _ _ _ _ (by intro e; injection e with e; exact hk e.symm)
  exact ⟨(ne _).trans h.c0, (ne _).trans h.c1, (ne _).trans h.c2, by simpa using h.fz⟩

/-- What the closures answer. -/
def TakenR (w w' : World) (g o : Nat) (s : ByteArray) (m n a : Nat) (T : TypeId) (val : Nat → Value) (e : Ending) : Prop :=
  ∃ (ok : Bool) (b : Nat) (vs : List Value), e = .returned (.bool ok) ∧ SupB w' g s b ∧ Gr2 w w' g o ∧ b ≤ 8 * s.size ∧ Blk w' o vs T ∧
    ((ok = true ∧ ∃ l, numGo s m a n = some (l, b) ∧ vs = l.map val) ∨ (ok = false ∧ numGo s m a n = none))
theorem set_rest {l : List Nat} {val : Nat → Value} {z : Value} {n i v : Nat} (hl : l.length = i) (hi : i < n) : (l.map val ++ List.replicate (n - i) z).set i (val v) = (l ++ [v]).map val ++ List.replicate (n - (i + 1)) z := by
  rw [List.set_append_right _ _ (by rw [List.length_map]; omega), List.length_map, hl, Nat.sub_self, show n - i = (n - (i + 1)) + 1 by omega, List.replicate_succ, List.set_cons_zero, List.map_append, List.append_assoc]
  rfl

/-- What 'taking' answers. -/
def TookR (w w' : World) (g o : Nat) (s : ByteArray) (m n a : Nat) (T : TypeId) (val : Nat → Value) (e : Ending) : Prop :=
  ∃ (k : Int) (b : Nat) (vs : List Value), e = .returned (.int .i64 k) ∧ SupB w' g s b ∧ Gr2 w w' g o ∧ b ≤ 8 * s.size ∧ Blk w' o vs T ∧
    ((k = 0 ∧ ∃ l, numGo s m a n = some (l, b) ∧ vs = l.map val) ∨ (k = 4 ∧ numGo s m a n = none ∧ b = a))

set_option maxHeartbeats 4000000 in
set_option maxRecDepth 100000 in
theorem taking_g (s : ByteArray) (g o m n a : Nat) (T : TypeId) (val : Nat → Value) (f : FuncId) (hcf : ∀ (xs : Array Value) (W : World), (callFunc f xs).run Tryz.prog W = .ok (.enter f xs) W) (caps : Array Value) (w : World) (hsup : SupB w g s a) (ho : o < w.heap.size) (ha : a ≤ 8 * s.size)
    (hc : ∀ W, Below w.heap.size w W → Calls Tryz.prog f caps W fun e W' => TakenR W W' g o s m n a T val e) :
    Calls Tryz.prog 77 #[.pointer (some ⟨g, 0, none⟩), .func (.func f) #[] caps] w fun e w' => TookR w w' g o s m n a T val e := by
  have hmf : ∀ (fn : Fn) (first cap : Array Value) (w : World), (Instr.makeFunc fn first cap).run Tryz.prog w = .ok (.func fn first cap) w := fun _ _ _ _ => rfl
  have c1 := hsup.c1
  have hgw : g < w.heap.size := World.block_lt_of_cell? w ⟨g, 1, none⟩ c1
  have n1 : g ≠ w.heap.size := by omega
  have n2 : g ≠ w.heap.size + 1 := by omega
  have M := Lib.hid hsup
  have HC := Lib.hid hc
  clear hsup hc
  go_enter_defers Tryz.func77, Tryz.ntmps77
  go_wp2_with fail
  have hbel : Below w.heap.size w (((w.alloc (.cells #[.pointer (some ⟨g, 0, none⟩)] 38)).alloc (.cells #[.int .i64 0] 35)).alloc (.cells #[.int .i64 a] 3)) := (((Below.refl _ _).alloc (Nat.le_refl _) _).alloc (by simp) _).alloc (by simp; omega) _
  have x0 : (((w.alloc (.cells #[.pointer (some ⟨g, 0, none⟩)] 38)).alloc (.cells #[.int .i64 0] 35)).alloc (.cells #[.int .i64 a] 3)).cell? ⟨w.heap.size, 0, none⟩ = some (.pointer (some ⟨g, 0, none⟩)) := by simp [go_sem]
  have x1 : (((w.alloc (.cells #[.pointer (some ⟨g, 0, none⟩)] 38)).alloc (.cells #[.int .i64 0] 35)).alloc (.cells #[.int .i64 a] 3)).cell? ⟨w.heap.size + 1, 0, none⟩ = some (.int .i64 0) := by simp [go_sem]
  have x2 : (((w.alloc (.cells #[.pointer (some ⟨g, 0, none⟩)] 38)).alloc (.cells #[.int .i64 0] 35)).alloc (.cells #[.int .i64 a] 3)).cell? ⟨w.heap.size + 1 + 1, 0, none⟩ = some (.int .i64 a) := by simp [go_sem]
  have xf : (((w.alloc (.cells #[.pointer (some ⟨g, 0, none⟩)] 38)).alloc (.cells #[.int .i64 0] 35)).alloc (.cells #[.int .i64 a] 3)).frozen? ⟨w.heap.size + 1, 0, none⟩ = false := by simp [go_sem]
  have xs : w.heap.size + 3 ≤ (((w.alloc (.cells #[.pointer (some ⟨g, 0, none⟩)] 38)).alloc (.cells #[.int .i64 0] 35)).alloc (.cells #[.int .i64 a] 3)).heap.size := by simp
  generalize (((w.alloc (.cells #[.pointer (some ⟨g, 0, none⟩)] 38)).alloc (.cells #[.int .i64 0] 35)).alloc (.cells #[.int .i64 a] 3)) = W at hbel x0 x1 x2 xf xs ⊢
  have HB := Lib.hid hbel
  clear c1 n1 n2 hbel M
  refine (HC.out W HB.out).mono ?_
  rintro e wc ⟨ok, b, vs, rfl, hs1, hg1, hb1, hk1, hcase⟩
  have y0 := (hg1.cell (k := w.heap.size) (i := 0) (by omega) (by omega) (by omega)).trans x0
  have y1 := (hg1.cell (k := w.heap.size + 1) (i := 0) (by omega) (by omega) (by omega)).trans x1
  have y2 := (hg1.cell (k := w.heap.size + 1 + 1) (i := 0) (by omega) (by omega) (by omega)).trans x2
  have yf := (hg1.frozen (k := w.heap.size + 1) (i := 0) (by omega) (by omega) (by omega)).trans xf
  have hgr : Gr2 w wc g o := (Gr2.ofB HB.out).trans hg1
  have GR := Lib.hid hgr
  have S1 := Lib.hid hs1; have K1 := Lib.hid hk1
  clear hs1 hg1 hk1 hgr x0 x1 x2 xf
  have hset : ∀ (k : Int), Gr2 w (wc.setCell ⟨w.heap.size + 1, 0, none⟩ (.int .i64 k)) g o := fun k => ⟨GR.out.os, GR.out.tape, GR.out.output, by simpa using GR.out.size, fun j hj h1 h2 => (Below.heap_setCell _ _ _ j (by show j ≠ w.heap.size + 1; omega)).trans (GR.out.block j hj h1 h2)⟩
  have HSET := Lib.hid hset
  clear hset
  cases ok with
  | true =>
    have HR : Hid (∃ l, numGo s m a n = some (l, b) ∧ vs = l.map val) := by
      rcases hcase with ⟨_, h2⟩ | ⟨h1, _⟩
      · exact h2
      · cases h1
    clear hcase
    go_wp2_with fail
    have hz : (wc.setCell ⟨w.heap.size + 1, 0, none⟩ (.int .i64 0)).cell? ⟨w.heap.size + 1, 0, none⟩ = some (.int .i64 0) := World.cell?_setCell_same _ _ _ y1
    have S2 := Lib.hid (S1.out.setCell (k := w.heap.size + 1) (i := 0) (by omega) (.int .i64 0))
    have K2 := Lib.hid (K1.out.other (a := ⟨w.heap.size + 1, 0, none⟩) (by show o ≠ w.heap.size + 1; omega) (.int .i64 0))
    have G2 := Lib.hid (HSET.out 0)
    clear S1 K1 GR HSET y0 y1 y2 yf
    generalize wc.setCell ⟨w.heap.size + 1, 0, none⟩ (.int .i64 0) = wz at hz S2 K2 G2 ⊢
    refine leaves_cons (f := 129) (args := #[.pointer (some ⟨w.heap.size + 1, 0, none⟩), .pointer (some ⟨w.heap.size + 1 + 1, 0, none⟩), .pointer (some ⟨w.heap.size, 0, none⟩)]) (by simp) (by simp [go_sem]) ?_
    refine (takd_ok _ _ _ .returning _ hz).mono ?_
    rintro e u' w'' ⟨rfl, rfl, rfl⟩
    refine ⟨.int .i64 0, by simp [results, Tryz.results77, go_sem, hz], ?_⟩
    exact ⟨0, b, vs, rfl, S2.out, G2.out, hb1, K2.out, .inl ⟨rfl, HR.out⟩⟩
  | false =>
    have HR : Hid (numGo s m a n = none) := by
      rcases hcase with ⟨h1, _⟩ | ⟨_, h2⟩
      · cases h1
      · exact h2
    clear hcase
    go_wp2_with fail
    have hz : (wc.setCell ⟨w.heap.size + 1, 0, none⟩ (.int .i64 4)).cell? ⟨w.heap.size + 1, 0, none⟩ = some (.int .i64 4) := World.cell?_setCell_same _ _ _ y1
    have h0 : (wc.setCell ⟨w.heap.size + 1, 0, none⟩ (.int .i64 4)).cell? ⟨w.heap.size, 0, none⟩ = some (.pointer (some ⟨g, 0, none⟩)) := (World.cell?_setCell_other _ _ _ _ (by simp)).trans y0
    have h2 : (wc.setCell ⟨w.heap.size + 1, 0, none⟩ (.int .i64 4)).cell? ⟨w.heap.size + 1 + 1, 0, none⟩ = some (.int .i64 a) := (World.cell?_setCell_other _ _ _ _ (by simp)).trans y2
    have S2 := Lib.hid (S1.out.setCell (k := w.heap.size + 1) (i := 0) (by omega) (.int .i64 4))
    have K2 := Lib.hid (K1.out.other (a := ⟨w.heap.size + 1, 0, none⟩) (by show o ≠ w.heap.size + 1; omega) (.int .i64 4))
    have G2 := Lib.hid (HSET.out 4)
    clear S1 K1 GR HSET y0 y1 y2 yf
    generalize wc.setCell ⟨w.heap.size + 1, 0, none⟩ (.int .i64 4) = wz at hz h0 h2 S2 K2 G2 ⊢
    refine leaves_cons (f := 129) (args := #[.pointer (some ⟨w.heap.size + 1, 0, none⟩), .pointer (some ⟨w.heap.size + 1 + 1, 0, none⟩), .pointer (some ⟨w.heap.size, 0, none⟩)]) (by simp) (by simp [go_sem]) ?_
    refine (takd_bad _ _ _ g a b .returning _ hz h2 h0 S2.out.c1 S2.out.fz).mono ?_
    rintro e u' w'' ⟨rfl, rfl, rfl⟩
    have hz2 : (wz.setCell ⟨g, 1, none⟩ (.int .i64 a)).cell? ⟨w.heap.size + 1, 0, none⟩ = some (.int .i64 4) := (World.cell?_setCell_other _ _ _ _ (by intro e; injection e with e; omega)).trans hz
    refine ⟨.int .i64 4, by simp [results, Tryz.results77, go_sem, hz2], ?_⟩
    by_cases hgo : o = g
    · exact ⟨4, a, _, rfl, S2.out.set a, G2.out.trans (Gr2.ofG (gr_set (gr_refl _ _) _ _)), ha, by subst hgo; exact K2.out.set 1 _, .inr ⟨rfl, HR.out, rfl⟩⟩
    · exact ⟨4, a, vs, rfl, S2.out.set a, G2.out.trans (Gr2.ofG (gr_set (gr_refl _ _) _ _)), ha, K2.out.other (a := ⟨g, 1, none⟩) hgo _, .inr ⟨rfl, HR.out, rfl⟩⟩

set_option maxHeartbeats 4000000 in
set_option maxRecDepth 100000 in
theorem uni1_any (s : ByteArray) (B g n q a : Nat) (w : World) (cs : w.cell? ⟨B, 0, none⟩ = some (.pointer (some ⟨g, 0, none⟩))) (cq : w.cell? ⟨B + 1, 0, none⟩ = some (.int .u32 (q : Nat))) (co : w.cell? ⟨B + 1 + 1 + 1, 0, none⟩ = some (.slice (some ⟨B + 1 + 1, 0, none⟩) n n))
    (hk : Blk w (B + 1 + 1) (List.replicate n (.int .u32 0)) 22) (hsup : SupB w g s a) (hg : g < B) (hn : n ≤ 4096) (hq : 1 ≤ q) (hq2 : q < 4294967296) (ha : a ≤ 8 * s.size) (hs : s.size ≤ 1048576) (hBw : B + 4 ≤ w.heap.size) :
    Calls Tryz.prog 78 #[.pointer (some ⟨B + 1 + 1 + 1, 0, none⟩), .pointer (some ⟨B, 0, none⟩), .pointer (some ⟨B + 1, 0, none⟩)] w fun e w' => TakenR w w' g (B + 1 + 1) s q n a 22 (fun v => Value.int .u32 ((v : Nat) : Int)) e := by
  have HK := Lib.hid hk; have HS := Lib.hid hsup
  have CS := Lib.hid cs; have CQ := Lib.hid cq; have CO := Lib.hid co
  clear hk hsup cs cq
  go_enter Tryz.func78, Tryz.ntmps78
  go_wp2_with fail
  clear co
  go_loopw [4, 5, 6, 9] (fun _ _ _ vi wr => ∃ (i b : Nat) (l : List Nat), vi = .int .i64 i ∧ i ≤ n ∧ b ≤ 8 * s.size ∧ Hid (numGo s q a i = some (l, b)) ∧ Hid (SupB wr g s b) ∧ Hid (Gr2 w wr g (B + 1 + 1)) ∧ Hid (Blk wr (B + 1 + 1) (l.map (fun v => Value.int .u32 ((v : Nat) : Int)) ++ List.replicate (n - i) (.int .u32 0)) 22)) (fun _ _ _ vi _ => n - (intOf vi).toNat)
  case atStart => exact ⟨0, a, [], rfl, by omega, ha, rfl, HS, Gr2.refl _ _ _, HK⟩
  case round =>
    obtain ⟨i, b, l, rfl, hi, hb, hgo, hsr, hgr, hkr⟩ := hrel
    have ds := (hgr.out.cell (k := B) (i := 0) (by omega) (by omega) (by omega)).trans CS.out
    have dq := (hgr.out.cell (k := B + 1) (i := 0) (by omega) (by omega) (by omega)).trans CQ.out
    by_cases hlt : i < n
    · have i1 : (i : Int) < (n : Int) := by omega
      have e1 : IntKind.u64.wrap (q : Int) = (q : Int) := wraps_u64 _ (by omega) (by omega)
      go_wp2_with fail
      refine (below_any s g b (q) _ hsr.out (by omega) (by omega) hb hs).mono ?_
      rintro e wa ⟨v, ok, c, rfl, hs1, hg1, hc1, hcase⟩
      have HC := Lib.hid hcase
      have HS1 := Lib.hid hs1
      have HG1 := Lib.hid (hgr.out.trans (Gr2.ofG hg1))
      have HK1 := Lib.hid (hkr.out.gr hg1 (by omega))
      clear hs1 hg1 hcase ds dq
      cases ok with
      | false =>
        have HN : Hid (numGo s (q) a n = none) := by
          rcases HC.out with ⟨h1, _⟩ | ⟨_, h2⟩
          · cases h1
          · exact numGo_none (i + 1) n (by omega) (numGo_stop hgo.out h2)
        clear HC hgo
        go_wp2_with fail
        go_ret
        exact ⟨_, _, _, rfl, HS1.out, HG1.out, hc1, HK1.out, .inr ⟨rfl, HN.out⟩⟩
      | true =>
        have HC1 : Hid (belAt s (q) b = some (v, c)) := by
          rcases HC.out with ⟨_, h2⟩ | ⟨h1, _⟩
          · exact h2
          · cases h1
        have hv := (belAt_bd HC1.out).1
        have HL : Hid (l.length = i) := (numGo_ok ha _ _ _ hgo.out).1
        have HN := Lib.hid (numGo_succ hgo.out HC1.out)
        have do_ := (HG1.out.cell (k := B + 1 + 1 + 1) (i := 0) (by omega) (by omega) (by omega)).trans CO.out
        have dq := (HG1.out.cell (k := B + 1) (i := 0) (by omega) (by omega) (by omega)).trans CQ.out
        have dz : wa.cell? ⟨B + 1 + 1, i, none⟩ = some (.int .u32 0) := by
          have h := HK1.out.cell i (by rw [List.length_append, List.length_map, List.length_replicate, HL.out]; omega)
          rw [h, List.getElem_append_right (by rw [List.length_map, HL.out]; omega), List.getElem_replicate]
        have fz := HK1.out.free i
        have HK2 : Hid (Blk (wa.setCell ⟨B + 1 + 1, i, none⟩ ((fun v => Value.int .u32 ((v : Nat) : Int)) v)) (B + 1 + 1) ((l ++ [v]).map (fun v => Value.int .u32 ((v : Nat) : Int)) ++ List.replicate (n - (i + 1)) (.int .u32 0)) 22) := by
          have h := HK1.out.set i ((fun v => Value.int .u32 ((v : Nat) : Int)) v)
          rw [set_rest HL.out hlt] at h
          exact h
        have HS2 := Lib.hid (HS1.out.setCell (k := B + 1 + 1) (i := i) (by omega) ((fun v => Value.int .u32 ((v : Nat) : Int)) v))
        have HG2 := Lib.hid (HG1.out.setO i ((fun v => Value.int .u32 ((v : Nat) : Int)) v))
        have i0 : (0 : Int) ≤ (i : Int) := by omega
        have e2 : IntKind.u32.wrap (v : Int) = (v : Int) := by rw [IntKind.wrap_u32]; omega
        clear HC HC1 hgo HS1 HG1 HK1 hsr hgr hkr HL
        go_wp2_with fail
        go_roundw
        case rel => exact ⟨i + 1, c, l ++ [v], by go_num, by omega, hc1, HN, HS2, HG2, HK2⟩
        case measure => simp [intOf]; omega
    · obtain rfl : i = n := by omega
      clear ds dq
      go_wp2_with fail
      go_ret
      exact ⟨_, _, _, rfl, hsr.out, hgr.out, hb, hkr.out, .inl ⟨rfl, l, hgo.out, by simp⟩⟩

set_option maxHeartbeats 4000000 in
set_option maxRecDepth 100000 in
theorem bnd1_any (s : ByteArray) (B g n q a : Nat) (w : World) (cs : w.cell? ⟨B, 0, none⟩ = some (.pointer (some ⟨g, 0, none⟩))) (cq : w.cell? ⟨B + 1, 0, none⟩ = some (.int .u32 (q : Nat))) (co : w.cell? ⟨B + 1 + 1 + 1, 0, none⟩ = some (.slice (some ⟨B + 1 + 1, 0, none⟩) n n))
    (hk : Blk w (B + 1 + 1) (List.replicate n (.int .i64 0)) 2) (hsup : SupB w g s a) (hg : g < B) (hn : n ≤ 4096) (hq2 : q ≤ 2147483647) (ha : a ≤ 8 * s.size) (hs : s.size ≤ 1048576) (hBw : B + 4 ≤ w.heap.size) :
    Calls Tryz.prog 80 #[.pointer (some ⟨B + 1 + 1 + 1, 0, none⟩), .pointer (some ⟨B, 0, none⟩), .pointer (some ⟨B + 1, 0, none⟩)] w fun e w' => TakenR w w' g (B + 1 + 1) s (2 * q + 1) n a 2 (fun v => Value.int .i64 (((v : Nat) : Int) - (q : Nat))) e := by
  have HK := Lib.hid hk; have HS := Lib.hid hsup
  have CS := Lib.hid cs; have CQ := Lib.hid cq; have CO := Lib.hid co
  clear hk hsup cs cq
  go_enter Tryz.func80, Tryz.ntmps80
  go_wp2_with fail
  clear co
  go_loopw [4, 5, 6, 9] (fun _ _ _ vi wr => ∃ (i b : Nat) (l : List Nat), vi = .int .i64 i ∧ i ≤ n ∧ b ≤ 8 * s.size ∧ Hid (numGo s (2 * q + 1) a i = some (l, b)) ∧ Hid (SupB wr g s b) ∧ Hid (Gr2 w wr g (B + 1 + 1)) ∧ Hid (Blk wr (B + 1 + 1) (l.map (fun v => Value.int .i64 (((v : Nat) : Int) - (q : Nat))) ++ List.replicate (n - i) (.int .i64 0)) 2)) (fun _ _ _ vi _ => n - (intOf vi).toNat)
  case atStart => exact ⟨0, a, [], rfl, by omega, ha, rfl, HS, Gr2.refl _ _ _, HK⟩
  case round =>
    obtain ⟨i, b, l, rfl, hi, hb, hgo, hsr, hgr, hkr⟩ := hrel
    have ds := (hgr.out.cell (k := B) (i := 0) (by omega) (by omega) (by omega)).trans CS.out
    have dq := (hgr.out.cell (k := B + 1) (i := 0) (by omega) (by omega) (by omega)).trans CQ.out
    by_cases hlt : i < n
    · have i1 : (i : Int) < (n : Int) := by omega
      have e1 : IntKind.u64.wrap (q : Int) = (q : Int) := wraps_u64 _ (by omega) (by omega)
      have e3 : IntKind.u64.wrap (2 * (q : Int)) = ((2 * q : Nat) : Int) := by rw [wraps_u64 _ (by omega) (by omega)]; omega
      have e4 : IntKind.u64.wrap (((2 * q : Nat) : Int) + 1) = ((2 * q + 1 : Nat) : Int) := by rw [wraps_u64 _ (by omega) (by omega)]; omega
      go_wp2_with fail
      refine (below_any s g b ((2 * q + 1)) _ hsr.out (by omega) (by omega) hb hs).mono ?_
      rintro e wa ⟨v, ok, c, rfl, hs1, hg1, hc1, hcase⟩
      have HC := Lib.hid hcase
      have HS1 := Lib.hid hs1
      have HG1 := Lib.hid (hgr.out.trans (Gr2.ofG hg1))
      have HK1 := Lib.hid (hkr.out.gr hg1 (by omega))
      clear hs1 hg1 hcase ds dq
      cases ok with
      | false =>
        have HN : Hid (numGo s ((2 * q + 1)) a n = none) := by
          rcases HC.out with ⟨h1, _⟩ | ⟨_, h2⟩
          · cases h1
          · exact numGo_none (i + 1) n (by omega) (numGo_stop hgo.out h2)
        clear HC hgo
        go_wp2_with fail
        go_ret
        exact ⟨_, _, _, rfl, HS1.out, HG1.out, hc1, HK1.out, .inr ⟨rfl, HN.out⟩⟩
      | true =>
        have HC1 : Hid (belAt s ((2 * q + 1)) b = some (v, c)) := by
          rcases HC.out with ⟨_, h2⟩ | ⟨h1, _⟩
          · exact h2
          · cases h1
        have hv := (belAt_bd HC1.out).1
        have HL : Hid (l.length = i) := (numGo_ok ha _ _ _ hgo.out).1
        have HN := Lib.hid (numGo_succ hgo.out HC1.out)
        have do_ := (HG1.out.cell (k := B + 1 + 1 + 1) (i := 0) (by omega) (by omega) (by omega)).trans CO.out
        have dq := (HG1.out.cell (k := B + 1) (i := 0) (by omega) (by omega) (by omega)).trans CQ.out
        have dz : wa.cell? ⟨B + 1 + 1, i, none⟩ = some (.int .i64 0) := by
          have h := HK1.out.cell i (by rw [List.length_append, List.length_map, List.length_replicate, HL.out]; omega)
          rw [h, List.getElem_append_right (by rw [List.length_map, HL.out]; omega), List.getElem_replicate]
        have fz := HK1.out.free i
        have HK2 : Hid (Blk (wa.setCell ⟨B + 1 + 1, i, none⟩ ((fun v => Value.int .i64 (((v : Nat) : Int) - (q : Nat))) v)) (B + 1 + 1) ((l ++ [v]).map (fun v => Value.int .i64 (((v : Nat) : Int) - (q : Nat))) ++ List.replicate (n - (i + 1)) (.int .i64 0)) 2) := by
          have h := HK1.out.set i ((fun v => Value.int .i64 (((v : Nat) : Int) - (q : Nat))) v)
          rw [set_rest HL.out hlt] at h
          exact h
        have HS2 := Lib.hid (HS1.out.setCell (k := B + 1 + 1) (i := i) (by omega) ((fun v => Value.int .i64 (((v : Nat) : Int) - (q : Nat))) v))
        have HG2 := Lib.hid (HG1.out.setO i ((fun v => Value.int .i64 (((v : Nat) : Int) - (q : Nat))) v))
        have i0 : (0 : Int) ≤ (i : Int) := by omega
        have e2 : IntKind.i64.wrap (v : Int) = (v : Int) := by rw [IntKind.wrap_i64]; omega
        have e5 : IntKind.i64.wrap (q : Int) = (q : Int) := by rw [IntKind.wrap_i64]; omega
        have e6 : IntKind.i64.wrap ((v : Int) - (q : Int)) = (v : Int) - (q : Int) := by rw [IntKind.wrap_i64]; omega
        clear HC HC1 hgo HS1 HG1 HK1 hsr hgr hkr HL
        go_wp2_with fail
        go_roundw
        case rel => exact ⟨i + 1, c, l ++ [v], by go_num, by omega, hc1, HN, HS2, HG2, HK2⟩
        case measure => simp [intOf]; omega
    · obtain rfl : i = n := by omega
      clear ds dq
      go_wp2_with fail
      go_ret
      exact ⟨_, _, _, rfl, hsr.out, hgr.out, hb, hkr.out, .inl ⟨rfl, l, hgo.out, by simp⟩⟩
end Go.Proofs.YtjpcljnojipdnaaGreat
