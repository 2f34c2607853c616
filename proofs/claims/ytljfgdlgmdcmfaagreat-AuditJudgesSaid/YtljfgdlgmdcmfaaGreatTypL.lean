/- Typing: what Type puts off (the program's side). -/
import Derived.Test.YtljfgdlgmdcmfaaGreatTypJ
import Derived.Recover
import Derived.Deep.RegionHeldLaw
namespace Go.Proofs.YtljfgdlgmdcmfaaGreat
open Go.RowKit
set_option linter.unusedVariables false
set_option linter.unusedSimpArgs false

set_option maxHeartbeats 1600000 in
set_option maxRecDepth 100000 in
theorem tyd_ok (a0 a1 a2 a3 : Addr) (w : World) :
    CallsD Tryz.prog 62 #[.pointer (some a0), .pointer (some a1), .pointer (some a2), .pointer (some a3)] .returning w fun e u' w' => u' = .returning ∧ (e = .returned (.tuple #[]) ∧ w' = w) := by
  refine callsD_of_wpS Tryz.func62 rfl fun c₀ cs hu => ?_
  refine wpS_seq (wpS_region ?_)
  simp [wpOpsS, go_sem, recoverD, hu, Tryz.ntmps62, Exit.thenS]
  refine wpS_of_wp ?_
  go_wp2
  cases c₀
  simp_all [bodyPostS, results, Tryz.results62, Exit.inBlock, Exit.then]
theorem ty_assert (v : Value) (w : World) : (Instr.typeAssert (.iface 98 v) 20 98 true).run Tryz.prog w = .ok (.tuple #[v, .bool true]) w := by
  simp [Instr.typeAssert, go_sem]
set_option maxHeartbeats 1600000 in
set_option maxRecDepth 100000 in
theorem tyd_stop (b0 b1 b2 b3 : Nat) (e pl : Int) (s0 : Value) (i0 e0 : Int) (w : World) (h0 : w.cell? ⟨b0, 0, none⟩ = some (.int .i64 pl)) (h1 : w.cell? ⟨b1, 0, none⟩ = some s0) (h2 : w.cell? ⟨b2, 0, none⟩ = some (.int .i64 i0)) (h3 : w.cell? ⟨b3, 0, none⟩ = some (.int .i64 e0)) (z1 : w.frozen? ⟨b1, 0, none⟩ = false) (z2 : w.frozen? ⟨b2, 0, none⟩ = false) (z3 : w.frozen? ⟨b3, 0, none⟩ = false)
    (n01 : b0 ≠ b1) (n02 : b0 ≠ b2) (n03 : b0 ≠ b3) (n12 : b1 ≠ b2) (n13 : b1 ≠ b3) (n23 : b2 ≠ b3) :
    CallsD Tryz.prog 62 #[.pointer (some ⟨b0, 0, none⟩), .pointer (some ⟨b1, 0, none⟩), .pointer (some ⟨b2, 0, none⟩), .pointer (some ⟨b3, 0, none⟩)] (.panicking [{ v := .iface 98 (.agg #[.int .i64 e]), recovered := false }]) w fun r u' w' =>
      u' = .panicking [{ v := .iface 98 (.agg #[.int .i64 e]), recovered := true }] ∧ (r = .returned (.tuple #[]) ∧ w' = ((((w.alloc (.cells #[.int .i64 e] 98)).setCell ⟨b1, 0, none⟩ (.slice none 0 0)).setCell ⟨b2, 0, none⟩ (.int .i64 pl)).setCell ⟨b3, 0, none⟩ (.int .i64 e)).drew) := by
  have l0 := World.block_lt_of_cell? w _ h0
  have l1 := World.block_lt_of_cell? w _ h1
  have l2 := World.block_lt_of_cell? w _ h2
  have l3 := World.block_lt_of_cell? w _ h3
  simp only at l0 l1 l2 l3
  have m0 : w.heap.size ≠ b0 := by omega
  have m1 : w.heap.size ≠ b1 := by omega
  have m2 : w.heap.size ≠ b2 := by omega
  have m3 : w.heap.size ≠ b3 := by omega
  have x0 : (w.alloc (.cells #[.int .i64 e] 98)).cell? ⟨b0, 0, none⟩ = some (.int .i64 pl) := by simp [go_sem, l0, h0]
  have x1 : (w.alloc (.cells #[.int .i64 e] 98)).cell? ⟨b1, 0, none⟩ = some s0 := by simp [go_sem, l1, h1]
  have x2 : (w.alloc (.cells #[.int .i64 e] 98)).cell? ⟨b2, 0, none⟩ = some (.int .i64 i0) := by simp [go_sem, l2, h2]
  have x3 : (w.alloc (.cells #[.int .i64 e] 98)).cell? ⟨b3, 0, none⟩ = some (.int .i64 e0) := by simp [go_sem, l3, h3]
  have x4 : (w.alloc (.cells #[.int .i64 e] 98)).cell? ⟨w.heap.size, 0, none⟩ = some (.int .i64 e) := by simp [go_sem]
  have y1 : (w.alloc (.cells #[.int .i64 e] 98)).frozen? ⟨b1, 0, none⟩ = false := by simp [go_sem, l1, z1]
  have y2 : (w.alloc (.cells #[.int .i64 e] 98)).frozen? ⟨b2, 0, none⟩ = false := by simp [go_sem, l2, z2]
  have y3 : (w.alloc (.cells #[.int .i64 e] 98)).frozen? ⟨b3, 0, none⟩ = false := by simp [go_sem, l3, z3]
  refine callsD_of_wpS Tryz.func62 rfl fun c₀ cs hu => ?_
  refine wpS_seq (wpS_region ?_)
  simp [wpOpsS, go_sem, recoverD, hu, Tryz.ntmps62, Exit.thenS]
  refine wpS_of_wp ?_
  have hta := ty_assert (.agg #[.int .i64 e]) w
  go_wp2
  clear h0 h1 h2 h3 z1 z2 z3 hta l0 l1 l2 l3
  generalize hW : w.alloc (.cells #[.int .i64 e] 98) = W at x0 x1 x2 x3 x4 y1 y2 y3 ⊢
  generalize w.heap.size = b4 at m0 m1 m2 m3 x4 ⊢
  go_region
  all_goals
    clear x0 x1 x2 x3 x4 y1 y2 y3 m0 m1 m2 m3 n01 n02 n03 n12 n13 n23
    go_wp2
    cases c₀
    simp_all [bodyPostS, results, Tryz.results62]
end Go.Proofs.YtljfgdlgmdcmfaaGreat
