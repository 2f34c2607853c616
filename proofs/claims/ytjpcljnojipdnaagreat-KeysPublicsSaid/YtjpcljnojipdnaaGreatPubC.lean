/- Supplies of bits: Uniform and Bounded, the program's and the reference's; the program's at nil. (Printed by gen_PubC.py.) -/
import Derived.Test.YtjpcljnojipdnaaGreatPubB
import Derived.Test.YtjpcljnojipdnaaGreatSupG
import Derived.Test.YtjpcljnojipdnaaGreatChnA
namespace Go.Proofs.YtjpcljnojipdnaaGreat
open Go.RowKit
set_option linter.unusedVariables false

theorem infoI64 : (Tryz.prog.info? 2).map (fun i => (i.zero, i.size, i.bytes)) = some (some (.int .i64 0), 1, 8) := by kernel_rfl
theorem gr2_old {w W w' : World} {g o : Nat} (hb : Below w.heap.size w W) (h : Gr2 W w' g o) (ho : w.heap.size ≤ o) : w.grownBy w' (some g) :=
  ⟨h.os.trans hb.os, h.tape.trans hb.tape, h.output.trans hb.output, Nat.le_trans hb.size h.size, fun k hk hne => (h.block k (Nat.lt_of_lt_of_le hk hb.size) (fun e => hne (by rw [e])) (by omega)).trans (hb.block k hk)⟩
theorem own_blk {w w' : World} {o n base : Nat} {T : TypeId} {vs : List Value} (h : Blk w' o vs T) (hl : vs.length = n) (hb : base ≤ o) (hn : n ≤ 4096) : w'.ownsRow base T 1 (.slice (some ⟨o, 0, none⟩) n n) n vs := by
  refine ⟨by rw [Nat.mul_one]; exact hl, .inr ⟨o, n, vs.toArray, rfl, hb, h, Nat.le_refl _, by unfold maxLen; omega, by simp [hl], ?_⟩⟩
  rw [Nat.mul_one]
  show List.take n vs = vs
  rw [← hl, List.take_length]
/-- What Uniform and Bounded answer. -/
def NumR (Sup : World → Nat → ByteArray → Nat → Prop) (w w' : World) (g : Nat) (s : ByteArray) (m n a : Nat) (T : TypeId) (val : Nat → Value) (e : Ending) : Prop :=
  ∃ v, e = .returned (.tuple #[v, .int .i64 (numOut s m n a).1]) ∧ w'.ownsRow w.heap.size T 1 v (numOut s m n a).2.1.length ((numOut s m n a).2.1.map val) ∧ Sup w' g s (numOut s m n a).2.2 ∧ (numOut s m n a).2.2 ≤ 8 * s.size ∧ w.grownBy w' (some g)
theorem NumR.yes {Sup : World → Nat → ByteArray → Nat → Prop} {w w' : World} {g : Nat} {s : ByteArray} {m n a b : Nat} {T : TypeId} {val : Nat → Value} {l : List Nat} {v : Value} (h : numGo s m a n = some (l, b)) (ho : w'.ownsRow w.heap.size T 1 v l.length (l.map val)) (hs : Sup w' g s b) (hb : b ≤ 8 * s.size) (hg : w.grownBy w' (some g)) :
    NumR Sup w w' g s m n a T val (.returned (.tuple #[v, .int .i64 0])) := by
  unfold NumR; rw [numOut_some h]; exact ⟨v, rfl, ho, hs, hb, hg⟩
theorem NumR.no {Sup : World → Nat → ByteArray → Nat → Prop} {w w' : World} {g : Nat} {s : ByteArray} {m n a : Nat} {T : TypeId} {val : Nat → Value} (h : numGo s m a n = none) (hs : Sup w' g s a) (hb : a ≤ 8 * s.size) (hg : w.grownBy w' (some g)) :
    NumR Sup w w' g s m n a T val (.returned (.tuple #[.slice none 0 0, .int .i64 4])) := by
  unfold NumR; rw [numOut_none h]; exact ⟨_, rfl, World.ownsRow_nil _ _ _ _, hs, hb, hg⟩
theorem gr_app {w W w' : World} {g : Nat} {o : Obj} {row : Option Nat} (h : w.grownBy W (some g)) (h2 : (W.alloc o).grownBy w' row) (hr : ∀ q, row = some q → w.heap.size ≤ q) : w.grownBy w' (some g) := by
  have hs : (W.alloc o).heap.size = W.heap.size + 1 := by simp
  have h1 := h2.size
  refine ⟨h2.os.trans h.os, h2.tape.trans h.tape, h2.output.trans h.output, by have := h.size; omega, fun k hk hne => ?_⟩
  have := h.size
  rw [h2.block k (by omega) (fun e => by have := hr k e.symm; omega)]
  exact (Below.heap_alloc W o k (by omega)).trans (h.block k hk hne)
theorem blk_app {W w' : World} {o : Obj} {row : Option Nat} (h2 : (W.alloc o).grownBy w' row) {k : Nat} (hk : k < W.heap.size) (hr : row ≠ some k) : w'.heap[k]? = W.heap[k]? :=
  (h2.block k (by simp; omega) (fun e => hr e.symm)).trans (Below.heap_alloc W o k hk)
theorem supr_app {W w' : World} {o : Obj} {row : Option Nat} {g a : Nat} {s : ByteArray} (h : SupR W g s a) (h2 : (W.alloc o).grownBy w' row) (hr : row ≠ some g) : SupR w' g s a := by
  have hg : g < W.heap.size := World.block_lt_of_cell? W ⟨g, 0, none⟩ h.c0
  have e := blk_app h2 hg hr
  exact ⟨(World.cell?_of_block (a := ⟨g, 0, none⟩) e).trans h.c0, (World.cell?_of_block (a := ⟨g, 1, none⟩) e).trans h.c1, (World.frozen?_of_block (a := ⟨g, 1, none⟩) e).trans h.fz⟩

set_option maxHeartbeats 1000000 in
theorem none_nil (w : World) :
    Calls Tryz.prog 65 #[.pointer none] w fun e w' => e = .returned (.bool true) ∧ w' = w := by
  go_enter Tryz.func65, Tryz.ntmps65
  go_wp2
  go_ret
  exact ⟨rfl, rfl⟩

set_option maxHeartbeats 4000000 in
set_option maxRecDepth 100000 in
theorem uni_any (s : ByteArray) (g n q a : Nat) (w : World) (hsup : SupB w g s a) (hn : n ≤ 4096) (hq : 1 ≤ q) (hq2 : q < 4294967296) (ha : a ≤ 8 * s.size) (hs : s.size ≤ 1048576) :
    Calls Tryz.prog 37 #[.pointer (some ⟨g, 0, none⟩), .int .i64 n, .int .u32 (q : Nat)] w fun e w' => NumR SupB w w' g s q n a 22 (fun v => Value.int .u32 ((v : Nat) : Int)) e := by
  have hgw : g < w.heap.size := World.block_lt_of_cell? w ⟨g, 0, none⟩ hsup.c0
  have n1 : g ≠ w.heap.size := by omega
  have n2 : g ≠ w.heap.size + 1 := by omega
  have H := Lib.hid hsup
  have c2 := hsup.c2
  clear hsup
  have hmk := fun wx => run_make_row' (P := Tryz.prog) 23 22 (.int .u32 0) 4 Tryz.underlying23 infoU32 rfl .i64 .i64 n (by omega) (by omega) wx
  have hmf : ∀ (fn : Fn) (first cap : Array Value) (w : World), (Instr.makeFunc fn first cap).run Tryz.prog w = .ok (.func fn first cap) w := fun _ _ _ _ => rfl
  have d1 : decide ((n : Int) < 0) = false := decide_eq_false (by omega)
  have d2 : decide ((4096 : Int) < (n : Int)) = false := decide_eq_false (by omega)
  have d3 : decide (4096 < n) = false := decide_eq_false (by omega)
  have d4 : decide ((q : Int) < 1) = false := decide_eq_false (by omega)
  have d5 : decide (q < 1) = false := decide_eq_false (by omega)
  go_enter Tryz.func37, Tryz.ntmps37
  go_wp2_with fail
  refine (none_any s g a _ (sup_below H.out (((Below.refl _ _).alloc (Nat.le_refl _) _).alloc (by simp) _))).mono ?_
  rintro e wn ⟨rfl, rfl⟩
  go_wp2_with fail
  have hb : Below w.heap.size w ((((w.alloc (.cells #[.pointer (some ⟨g, 0, none⟩)] 38)).alloc (.cells #[.int .u32 (q : Nat)] 22)).alloc (.cells (madeCells #[.int .u32 0] n) 22)).alloc (.cells #[.slice (some ⟨w.heap.size + 1 + 1, 0, none⟩) n n] 23)) :=
    ((((Below.refl _ _).alloc (Nat.le_refl _) _).alloc (by simp) _).alloc (by simp; omega) _).alloc (by simp; omega) _
  have x0 : ((((w.alloc (.cells #[.pointer (some ⟨g, 0, none⟩)] 38)).alloc (.cells #[.int .u32 (q : Nat)] 22)).alloc (.cells (madeCells #[.int .u32 0] n) 22)).alloc (.cells #[.slice (some ⟨w.heap.size + 1 + 1, 0, none⟩) n n] 23)).cell? ⟨w.heap.size, 0, none⟩ = some (.pointer (some ⟨g, 0, none⟩)) := by simp [go_sem]
  have x1 : ((((w.alloc (.cells #[.pointer (some ⟨g, 0, none⟩)] 38)).alloc (.cells #[.int .u32 (q : Nat)] 22)).alloc (.cells (madeCells #[.int .u32 0] n) 22)).alloc (.cells #[.slice (some ⟨w.heap.size + 1 + 1, 0, none⟩) n n] 23)).cell? ⟨w.heap.size + 1, 0, none⟩ = some (.int .u32 (q : Nat)) := by simp [go_sem]
  have x3 : ((((w.alloc (.cells #[.pointer (some ⟨g, 0, none⟩)] 38)).alloc (.cells #[.int .u32 (q : Nat)] 22)).alloc (.cells (madeCells #[.int .u32 0] n) 22)).alloc (.cells #[.slice (some ⟨w.heap.size + 1 + 1, 0, none⟩) n n] 23)).cell? ⟨w.heap.size + 1 + 1 + 1, 0, none⟩ = some (.slice (some ⟨w.heap.size + 1 + 1, 0, none⟩) n n) := by simp [go_sem]
  have xs : ((((w.alloc (.cells #[.pointer (some ⟨g, 0, none⟩)] 38)).alloc (.cells #[.int .u32 (q : Nat)] 22)).alloc (.cells (madeCells #[.int .u32 0] n) 22)).alloc (.cells #[.slice (some ⟨w.heap.size + 1 + 1, 0, none⟩) n n] 23)).heap.size = w.heap.size + 4 := by simp
  have x2 : Blk ((((w.alloc (.cells #[.pointer (some ⟨g, 0, none⟩)] 38)).alloc (.cells #[.int .u32 (q : Nat)] 22)).alloc (.cells (madeCells #[.int .u32 0] n) 22)).alloc (.cells #[.slice (some ⟨w.heap.size + 1 + 1, 0, none⟩) n n] 23)) (w.heap.size + 1 + 1) (List.replicate n (.int .u32 0)) 22 := by
    have h := (Blk.new ((w.alloc (.cells #[.pointer (some ⟨g, 0, none⟩)] 38)).alloc (.cells #[.int .u32 (q : Nat)] 22)) (madeCells #[.int .u32 0] n) 22).alloc (.cells #[.slice (some ⟨w.heap.size + 1 + 1, 0, none⟩) n n] 23)
    rw [made_list] at h
    simpa using h
  generalize ((((w.alloc (.cells #[.pointer (some ⟨g, 0, none⟩)] 38)).alloc (.cells #[.int .u32 (q : Nat)] 22)).alloc (.cells (madeCells #[.int .u32 0] n) 22)).alloc (.cells #[.slice (some ⟨w.heap.size + 1 + 1, 0, none⟩) n n] 23)) = W at hb x0 x1 x2 x3 xs ⊢
  have HB := Lib.hid hb; have X2 := Lib.hid x2; have X3 := Lib.hid x3; have X1 := Lib.hid x1; have X0 := Lib.hid x0
  clear hmk c2 n1 n2 d1 d2 d3 hb x1 x2 x3
  refine (taking_g s g (w.heap.size + 1 + 1) q n a 22 (fun v => Value.int .u32 ((v : Nat) : Int)) 78 (fun _ _ => rfl) _ _ (sup_below H.out HB.out) (by omega) ha ?hc).mono ?_
  case hc =>
    intro W2 hb2
    exact uni1_any s w.heap.size g n q a W2 ((below_at hb2 (by omega)).trans X0.out) ((below_at hb2 (by omega)).trans X1.out) ((below_at hb2 (by omega)).trans X3.out) (X2.out.below hb2 X2.out.lt) (sup_below (sup_below H.out HB.out) hb2) hgw hn hq hq2 ha hs (by have := hb2.size; omega)
  rintro e wf ⟨k, b, vs, rfl, hs1, hg1, hb1, hk1, hcase⟩
  have x3 := (hg1.cell (k := w.heap.size + 1 + 1 + 1) (i := 0) (by omega) (by omega) (by omega)).trans X3.out
  have HG := Lib.hid (gr2_old HB.out hg1 (by omega))
  have HS1 := Lib.hid hs1; have HK1 := Lib.hid hk1
  clear hs1 hg1 hk1 X0 X1 X2 X3 x0 hmf
  rcases hcase with ⟨rfl, l, hgo, rfl⟩ | ⟨rfl, hgo, rfl⟩
  · have HO := Lib.hid hgo
    clear hgo
    go_wp2_with fail
    go_ret2
    have hl := (numGo_ok ha _ _ _ HO.out).1
    refine NumR.yes HO.out ?_ HS1.out hb1 HG.out
    have h := own_blk (w := w) (base := w.heap.size) HK1.out (by rw [List.length_map, hl]) (by omega) hn
    rw [hl]; exact h
  · have HO := Lib.hid hgo
    clear hgo x3
    go_wp2_with fail
    go_ret2
    exact NumR.no HO.out HS1.out hb1 HG.out

set_option maxHeartbeats 1000000 in
theorem uni_nil (n q : Nat) (w : World) :
    Calls Tryz.prog 37 #[.pointer none, .int .i64 n, .int .u32 (q : Nat)] w fun e w' => e = .returned (.tuple #[.slice none 0 0, .int .i64 1]) ∧ Below w.heap.size w w' := by
  go_enter Tryz.func37, Tryz.ntmps37
  go_wp2_with fail
  refine (none_nil _).mono ?_
  rintro e wn ⟨rfl, rfl⟩
  go_wp2_with fail
  go_ret2
  exact ⟨rfl, ((Below.refl _ _).alloc (Nat.le_refl _) _).alloc (by simp) _⟩

set_option maxHeartbeats 4000000 in
set_option maxRecDepth 100000 in
theorem bnd_any (s : ByteArray) (g n q a : Nat) (w : World) (hsup : SupB w g s a) (hn : n ≤ 4096) (hq2 : q ≤ 2147483647) (ha : a ≤ 8 * s.size) (hs : s.size ≤ 1048576) :
    Calls Tryz.prog 38 #[.pointer (some ⟨g, 0, none⟩), .int .i64 n, .int .u32 (q : Nat)] w fun e w' => NumR SupB w w' g s (2 * q + 1) n a 2 (fun v => Value.int .i64 (((v : Nat) : Int) - (q : Nat))) e := by
  have hgw : g < w.heap.size := World.block_lt_of_cell? w ⟨g, 0, none⟩ hsup.c0
  have n1 : g ≠ w.heap.size := by omega
  have n2 : g ≠ w.heap.size + 1 := by omega
  have H := Lib.hid hsup
  have c2 := hsup.c2
  clear hsup
  have hmk := fun wx => run_make_row' (P := Tryz.prog) 55 2 (.int .i64 0) 8 Tryz.underlying55 infoI64 rfl .i64 .i64 n (by omega) (by omega) wx
  have hmf : ∀ (fn : Fn) (first cap : Array Value) (w : World), (Instr.makeFunc fn first cap).run Tryz.prog w = .ok (.func fn first cap) w := fun _ _ _ _ => rfl
  have d1 : decide ((n : Int) < 0) = false := decide_eq_false (by omega)
  have d2 : decide ((4096 : Int) < (n : Int)) = false := decide_eq_false (by omega)
  have d3 : decide (4096 < n) = false := decide_eq_false (by omega)
  have d4 : decide ((2147483647 : Int) < (q : Int)) = false := decide_eq_false (by omega)
  have d5 : decide (2147483647 < q) = false := decide_eq_false (by omega)
  go_enter Tryz.func38, Tryz.ntmps38
  go_wp2_with fail
  refine (none_any s g a _ (sup_below H.out (((Below.refl _ _).alloc (Nat.le_refl _) _).alloc (by simp) _))).mono ?_
  rintro e wn ⟨rfl, rfl⟩
  go_wp2_with fail
  have hb : Below w.heap.size w ((((w.alloc (.cells #[.pointer (some ⟨g, 0, none⟩)] 38)).alloc (.cells #[.int .u32 (q : Nat)] 22)).alloc (.cells (madeCells #[.int .i64 0] n) 2)).alloc (.cells #[.slice (some ⟨w.heap.size + 1 + 1, 0, none⟩) n n] 55)) :=
    ((((Below.refl _ _).alloc (Nat.le_refl _) _).alloc (by simp) _).alloc (by simp; omega) _).alloc (by simp; omega) _
  have x0 : ((((w.alloc (.cells #[.pointer (some ⟨g, 0, none⟩)] 38)).alloc (.cells #[.int .u32 (q : Nat)] 22)).alloc (.cells (madeCells #[.int .i64 0] n) 2)).alloc (.cells #[.slice (some ⟨w.heap.size + 1 + 1, 0, none⟩) n n] 55)).cell? ⟨w.heap.size, 0, none⟩ = some (.pointer (some ⟨g, 0, none⟩)) := by simp [go_sem]
  have x1 : ((((w.alloc (.cells #[.pointer (some ⟨g, 0, none⟩)] 38)).alloc (.cells #[.int .u32 (q : Nat)] 22)).alloc (.cells (madeCells #[.int .i64 0] n) 2)).alloc (.cells #[.slice (some ⟨w.heap.size + 1 + 1, 0, none⟩) n n] 55)).cell? ⟨w.heap.size + 1, 0, none⟩ = some (.int .u32 (q : Nat)) := by simp [go_sem]
  have x3 : ((((w.alloc (.cells #[.pointer (some ⟨g, 0, none⟩)] 38)).alloc (.cells #[.int .u32 (q : Nat)] 22)).alloc (.cells (madeCells #[.int .i64 0] n) 2)).alloc (.cells #[.slice (some ⟨w.heap.size + 1 + 1, 0, none⟩) n n] 55)).cell? ⟨w.heap.size + 1 + 1 + 1, 0, none⟩ = some (.slice (some ⟨w.heap.size + 1 + 1, 0, none⟩) n n) := by simp [go_sem]
  have xs : ((((w.alloc (.cells #[.pointer (some ⟨g, 0, none⟩)] 38)).alloc (.cells #[.int .u32 (q : Nat)] 22)).alloc (.cells (madeCells #[.int .i64 0] n) 2)).alloc (.cells #[.slice (some ⟨w.heap.size + 1 + 1, 0, none⟩) n n] 55)).heap.size = w.heap.size + 4 := by simp
  have x2 : Blk ((((w.alloc (.cells #[.pointer (some ⟨g, 0, none⟩)] 38)).alloc (.cells #[.int .u32 (q : Nat)] 22)).alloc (.cells (madeCells #[.int .i64 0] n) 2)).alloc (.cells #[.slice (some ⟨w.heap.size + 1 + 1, 0, none⟩) n n] 55)) (w.heap.size + 1 + 1) (List.replicate n (.int .i64 0)) 2 := by
    have h := (Blk.new ((w.alloc (.cells #[.pointer (some ⟨g, 0, none⟩)] 38)).alloc (.cells #[.int .u32 (q : Nat)] 22)) (madeCells #[.int .i64 0] n) 2).alloc (.cells #[.slice (some ⟨w.heap.size + 1 + 1, 0, none⟩) n n] 55)
    rw [made_list] at h
    simpa using h
  generalize ((((w.alloc (.cells #[.pointer (some ⟨g, 0, none⟩)] 38)).alloc (.cells #[.int .u32 (q : Nat)] 22)).alloc (.cells (madeCells #[.int .i64 0] n) 2)).alloc (.cells #[.slice (some ⟨w.heap.size + 1 + 1, 0, none⟩) n n] 55)) = W at hb x0 x1 x2 x3 xs ⊢
  have HB := Lib.hid hb; have X2 := Lib.hid x2; have X3 := Lib.hid x3; have X1 := Lib.hid x1; have X0 := Lib.hid x0
  clear hmk c2 n1 n2 d1 d2 d3 hb x1 x2 x3
  refine (taking_g s g (w.heap.size + 1 + 1) (2 * q + 1) n a 2 (fun v => Value.int .i64 (((v : Nat) : Int) - (q : Nat))) 80 (fun _ _ => rfl) _ _ (sup_below H.out HB.out) (by omega) ha ?hc).mono ?_
  case hc =>
    intro W2 hb2
    exact bnd1_any s w.heap.size g n q a W2 ((below_at hb2 (by omega)).trans X0.out) ((below_at hb2 (by omega)).trans X1.out) ((below_at hb2 (by omega)).trans X3.out) (X2.out.below hb2 X2.out.lt) (sup_below (sup_below H.out HB.out) hb2) hgw hn hq2 ha hs (by have := hb2.size; omega)
  rintro e wf ⟨k, b, vs, rfl, hs1, hg1, hb1, hk1, hcase⟩
  have x3 := (hg1.cell (k := w.heap.size + 1 + 1 + 1) (i := 0) (by omega) (by omega) (by omega)).trans X3.out
  have HG := Lib.hid (gr2_old HB.out hg1 (by omega))
  have HS1 := Lib.hid hs1; have HK1 := Lib.hid hk1
  clear hs1 hg1 hk1 X0 X1 X2 X3 x0 hmf
  rcases hcase with ⟨rfl, l, hgo, rfl⟩ | ⟨rfl, hgo, rfl⟩
  · have HO := Lib.hid hgo
    clear hgo
    go_wp2_with fail
    go_ret2
    have hl := (numGo_ok ha _ _ _ HO.out).1
    refine NumR.yes HO.out ?_ HS1.out hb1 HG.out
    have h := own_blk (w := w) (base := w.heap.size) HK1.out (by rw [List.length_map, hl]) (by omega) hn
    rw [hl]; exact h
  · have HO := Lib.hid hgo
    clear hgo x3
    go_wp2_with fail
    go_ret2
    exact NumR.no HO.out HS1.out hb1 HG.out

set_option maxHeartbeats 1000000 in
theorem bnd_nil (n q : Nat) (w : World) :
    Calls Tryz.prog 38 #[.pointer none, .int .i64 n, .int .u32 (q : Nat)] w fun e w' => e = .returned (.tuple #[.slice none 0 0, .int .i64 1]) ∧ Below w.heap.size w w' := by
  go_enter Tryz.func38, Tryz.ntmps38
  go_wp2_with fail
  refine (none_nil _).mono ?_
  rintro e wn ⟨rfl, rfl⟩
  go_wp2_with fail
  go_ret2
  exact ⟨rfl, ((Below.refl _ _).alloc (Nat.le_refl _) _).alloc (by simp) _⟩

set_option maxHeartbeats 4000000 in
set_option maxRecDepth 100000 in
theorem runi_any (s : ByteArray) (g n q a : Nat) (w : World) (hsup : SupR w g s a) (hn : n ≤ 4096) (hq : 1 ≤ q) (hq2 : q < 4294967296) (ha : a ≤ 8 * s.size) (hs : s.size ≤ 1048576) :
    Calls Tryz.prog 106 #[.pointer (some ⟨g, 0, none⟩), .int .i64 n, .int .u32 (q : Nat)] w fun e w' => NumR SupR w w' g s q n a 22 (fun v => Value.int .u32 ((v : Nat) : Int)) e := by
  have hgw : g < w.heap.size := World.block_lt_of_cell? w ⟨g, 0, none⟩ hsup.c0
  have c1 := hsup.c1
  have H := Lib.hid hsup
  clear hsup
  obtain ⟨i0, hi0, hz0, hz1, hz2⟩ := info_parts infoU32
  have d1 : decide ((n : Int) < 0) = false := decide_eq_false (by omega)
  have d2 : decide ((4096 : Int) < (n : Int)) = false := decide_eq_false (by omega)
  have d3 : decide (4096 < n) = false := decide_eq_false (by omega)
  have d4 : decide ((q : Int) < 1) = false := decide_eq_false (by omega)
  have d5 : decide (q < 1) = false := decide_eq_false (by omega)
  go_enter Tryz.func106, Tryz.ntmps106
  go_wp2_with fail
  clear c1
  go_loopw [9, 10, 11, 12] (fun vo vi _ _ wr => ∃ (i b : Nat) (l : List Nat) (p : Option Addr) (cap : Nat), vo = .slice p l.length cap ∧ vi = .int .i64 i ∧ i ≤ n ∧ b ≤ 8 * s.size ∧ Hid (numGo s q a i = some (l, b)) ∧ Hid (SupR wr g s b) ∧ Hid (w.grownBy wr (some g)) ∧ Hid (wr.ownsRow w.heap.size 22 1 (.slice p l.length cap) l.length (l.map (fun v => Value.int .u32 ((v : Nat) : Int))))) (fun _ vi _ _ _ => n - (intOf vi).toNat)
  case atStart => exact ⟨0, a, [], none, 0, rfl, rfl, by omega, ha, rfl, H, gr_refl _ _, World.ownsRow_nil _ _ _ _⟩
  case round =>
    obtain ⟨i, b, l, p, cap, rfl, rfl, hi, hb, hgo, hsr, hgr, hown⟩ := hrel
    have HL : Hid (l.length = i) := (numGo_ok ha _ _ _ hgo.out).1
    by_cases hlt : i < n
    · have i1 : (i : Int) < (n : Int) := by omega
      have e1 : IntKind.u64.wrap (q : Int) = (q : Int) := wraps_u64 _ (by omega) (by omega)
      go_wp2_with fail
      refine (rbelow_any s g b (q) _ hsr.out (by omega) (by omega) hb hs).mono ?_
      rintro e wa ⟨v, ok, c, rfl, hs1, hg1, hc1, hcase⟩
      have HC := Lib.hid hcase
      have HS1 := Lib.hid hs1
      have HG1 := Lib.hid (gr_trans hgr.out hg1)
      have HO1 := Lib.hid (hown.out.kept hg1 (by
        rcases hx : (Value.slice p l.length cap).ownBlock with _ | k
        · exact .inl rfl
        · refine .inr (fun e => ?_)
          injection e with e
          have := (hown.out.lt k hx).1
          omega))
      clear hs1 hg1 hcase
      cases ok with
      | false =>
        have HN : Hid (numGo s (q) a n = none) := by
          rcases HC.out with ⟨h1, _⟩ | ⟨_, h2⟩
          · cases h1
          · exact numGo_none (i + 1) n (by omega) (numGo_stop hgo.out h2)
        have c1 := HS1.out.c1
        have fz := HS1.out.fz
        have HS2 := Lib.hid (HS1.out.set a)
        have HG2 := Lib.hid (gr_set HG1.out 1 (.int .i64 a))
        clear HC hgo hsr hgr hown HO1 HL
        go_wp2_with fail
        go_ret2
        exact NumR.no HN.out HS2.out ha HG2.out
      | true =>
        have HC1 : Hid (belAt s (q) b = some (v, c)) := by
          rcases HC.out with ⟨_, h2⟩ | ⟨h1, _⟩
          · exact h2
          · cases h1
        have hv := (belAt_bd HC1.out).1
        have HN := Lib.hid (numGo_succ hgo.out HC1.out)
        have e2 : IntKind.u32.wrap (v : Int) = (v : Int) := by rw [IntKind.wrap_u32]; omega
        have hl32 : l.length ≤ 4096 := by have := HL.out; omega
        clear HC HC1 hgo hsr hgr hown
        have hgw2 : w.heap.size ≤ wa.heap.size := HG1.out.size
        go_wp2_with (at_builtin; refine wpList_append_own _ rfl _ _ 23 rfl w.heap.size 22 i0 (.int .u32 0) 1 4 Tryz.underlying23 hi0 hz0 hz1 hz2 rfl (by decide) _ _ _ rfl (HO1.out.alloc _) ⟨wa.heap.size, 0, none⟩ 1 1 [.int .u32 ((v : Nat) : Int)] rfl rfl ?c1 ?c2 ?c3 ?c4 ?c5 ?_)
        case c1 => exact cell_one_new _ _ _
        case c2 => intro u hu; simp at hu; subst hu; rfl
        case c3 => unfold maxLen; omega
        case c4 => omega
        case c5 => simp; omega
        intro v' w' hown' hgrow _
        have HO2 : Hid (w'.ownsRow w.heap.size 22 1 v' (l ++ [v]).length ((l ++ [v]).map (fun v => Value.int .u32 ((v : Nat) : Int)))) := by
          show World.ownsRow _ _ _ _ _ _ _
          simpa using hown'
        have HG2 := Lib.hid (gr_app HG1.out hgrow (own_ge HO1.out))
        have HS2 := Lib.hid (supr_app HS1.out hgrow (fun e => by have := own_ge HO1.out g e; omega))
        clear hown' hgrow HO1 HG1 HS1
        obtain ⟨p', cap', rfl⟩ := own_slice HO2.out
        go_wp2_with fail
        go_roundw
        case rel => exact ⟨i + 1, c, l ++ [v], p', cap', by simp, by go_num, by omega, hc1, HN, HS2, HG2, HO2⟩
        case measure => simp [intOf]; omega
    · obtain rfl : i = n := by omega
      go_wp2_with fail
      go_ret2
      exact NumR.yes hgo.out hown.out hsr.out hb hgr.out

set_option maxHeartbeats 4000000 in
set_option maxRecDepth 100000 in
theorem rbnd_any (s : ByteArray) (g n q a : Nat) (w : World) (hsup : SupR w g s a) (hn : n ≤ 4096) (hq2 : q ≤ 2147483647) (ha : a ≤ 8 * s.size) (hs : s.size ≤ 1048576) :
    Calls Tryz.prog 61 #[.pointer (some ⟨g, 0, none⟩), .int .i64 n, .int .u32 (q : Nat)] w fun e w' => NumR SupR w w' g s (2 * q + 1) n a 2 (fun v => Value.int .i64 (((v : Nat) : Int) - (q : Nat))) e := by
  have hgw : g < w.heap.size := World.block_lt_of_cell? w ⟨g, 0, none⟩ hsup.c0
  have c1 := hsup.c1
  have H := Lib.hid hsup
  clear hsup
  obtain ⟨i0, hi0, hz0, hz1, hz2⟩ := info_parts infoI64
  have d1 : decide ((n : Int) < 0) = false := decide_eq_false (by omega)
  have d2 : decide ((4096 : Int) < (n : Int)) = false := decide_eq_false (by omega)
  have d3 : decide (4096 < n) = false := decide_eq_false (by omega)
  have d4 : decide ((2147483647 : Int) < (q : Int)) = false := decide_eq_false (by omega)
  have d5 : decide (2147483647 < q) = false := decide_eq_false (by omega)
  go_enter Tryz.func61, Tryz.ntmps61
  go_wp2_with fail
  clear c1
  go_loopw [9, 10, 11, 12] (fun vo vi _ _ wr => ∃ (i b : Nat) (l : List Nat) (p : Option Addr) (cap : Nat), vo = .slice p l.length cap ∧ vi = .int .i64 i ∧ i ≤ n ∧ b ≤ 8 * s.size ∧ Hid (numGo s (2 * q + 1) a i = some (l, b)) ∧ Hid (SupR wr g s b) ∧ Hid (w.grownBy wr (some g)) ∧ Hid (wr.ownsRow w.heap.size 2 1 (.slice p l.length cap) l.length (l.map (fun v => Value.int .i64 (((v : Nat) : Int) - (q : Nat)))))) (fun _ vi _ _ _ => n - (intOf vi).toNat)
  case atStart => exact ⟨0, a, [], none, 0, rfl, rfl, by omega, ha, rfl, H, gr_refl _ _, World.ownsRow_nil _ _ _ _⟩
  case round =>
    obtain ⟨i, b, l, p, cap, rfl, rfl, hi, hb, hgo, hsr, hgr, hown⟩ := hrel
    have HL : Hid (l.length = i) := (numGo_ok ha _ _ _ hgo.out).1
    by_cases hlt : i < n
    · have i1 : (i : Int) < (n : Int) := by omega
      have e1 : IntKind.u64.wrap (q : Int) = (q : Int) := wraps_u64 _ (by omega) (by omega)
      have e3 : IntKind.u64.wrap (2 * (q : Int)) = ((2 * q : Nat) : Int) := by rw [wraps_u64 _ (by omega) (by omega)]; omega
      have e4 : IntKind.u64.wrap (((2 * q : Nat) : Int) + 1) = ((2 * q + 1 : Nat) : Int) := by rw [wraps_u64 _ (by omega) (by omega)]; omega
      go_wp2_with fail
      refine (rbelow_any s g b ((2 * q + 1)) _ hsr.out (by omega) (by omega) hb hs).mono ?_
      rintro e wa ⟨v, ok, c, rfl, hs1, hg1, hc1, hcase⟩
      have HC := Lib.hid hcase
      have HS1 := Lib.hid hs1
      have HG1 := Lib.hid (gr_trans hgr.out hg1)
      have HO1 := Lib.hid (hown.out.kept hg1 (by
        rcases hx : (Value.slice p l.length cap).ownBlock with _ | k
        · exact .inl rfl
        · refine .inr (fun e => ?_)
          injection e with e
          have := (hown.out.lt k hx).1
          omega))
      clear hs1 hg1 hcase
      cases ok with
      | false =>
        have HN : Hid (numGo s ((2 * q + 1)) a n = none) := by
          rcases HC.out with ⟨h1, _⟩ | ⟨_, h2⟩
          · cases h1
          · exact numGo_none (i + 1) n (by omega) (numGo_stop hgo.out h2)
        have c1 := HS1.out.c1
        have fz := HS1.out.fz
        have HS2 := Lib.hid (HS1.out.set a)
        have HG2 := Lib.hid (gr_set HG1.out 1 (.int .i64 a))
        clear HC hgo hsr hgr hown HO1 HL
        go_wp2_with fail
        go_ret2
        exact NumR.no HN.out HS2.out ha HG2.out
      | true =>
        have HC1 : Hid (belAt s ((2 * q + 1)) b = some (v, c)) := by
          rcases HC.out with ⟨_, h2⟩ | ⟨h1, _⟩
          · exact h2
          · cases h1
        have hv := (belAt_bd HC1.out).1
        have HN := Lib.hid (numGo_succ hgo.out HC1.out)
        have e2 : IntKind.i64.wrap (v : Int) = (v : Int) := by rw [IntKind.wrap_i64]; omega
        have e5 : IntKind.i64.wrap (q : Int) = (q : Int) := by rw [IntKind.wrap_i64]; omega
        have e6 : IntKind.i64.wrap ((v : Int) - (q : Int)) = (v : Int) - (q : Int) := by rw [IntKind.wrap_i64]; omega
        have hl32 : l.length ≤ 4096 := by have := HL.out; omega
        clear HC HC1 hgo hsr hgr hown
        have hgw2 : w.heap.size ≤ wa.heap.size := HG1.out.size
        go_wp2_with (at_builtin; refine wpList_append_own _ rfl _ _ 55 rfl w.heap.size 2 i0 (.int .i64 0) 1 8 Tryz.underlying55 hi0 hz0 hz1 hz2 rfl (by decide) _ _ _ rfl (HO1.out.alloc _) ⟨wa.heap.size, 0, none⟩ 1 1 [.int .i64 (((v : Nat) : Int) - (q : Nat))] rfl rfl ?c1 ?c2 ?c3 ?c4 ?c5 ?_)
        case c1 => exact cell_one_new _ _ _
        case c2 => intro u hu; simp at hu; subst hu; rfl
        case c3 => unfold maxLen; omega
        case c4 => omega
        case c5 => simp; omega
        intro v' w' hown' hgrow _
        have HO2 : Hid (w'.ownsRow w.heap.size 2 1 v' (l ++ [v]).length ((l ++ [v]).map (fun v => Value.int .i64 (((v : Nat) : Int) - (q : Nat))))) := by
          show World.ownsRow _ _ _ _ _ _ _
          simpa using hown'
        have HG2 := Lib.hid (gr_app HG1.out hgrow (own_ge HO1.out))
        have HS2 := Lib.hid (supr_app HS1.out hgrow (fun e => by have := own_ge HO1.out g e; omega))
        clear hown' hgrow HO1 HG1 HS1
        obtain ⟨p', cap', rfl⟩ := own_slice HO2.out
        go_wp2_with fail
        go_roundw
        case rel => exact ⟨i + 1, c, l ++ [v], p', cap', by simp, by go_num, by omega, hc1, HN, HS2, HG2, HO2⟩
        case measure => simp [intOf]; omega
    · obtain rfl : i = n := by omega
      go_wp2_with fail
      go_ret2
      exact NumR.yes hgo.out hown.out hsr.out hb hgr.out
end Go.Proofs.YtjpcljnojipdnaaGreat
