/- ParamsDefaults: the walk. -/
import Derived.Test.YtjfjbkocopaehaaDefE
namespace Go.Proofs.Ytjfjbkocopaehaa
open Go.RowKit

set_option maxHeartbeats 2000000 in
set_option maxRecDepth 100000 in
theorem pdefaults_any (n : Int) (p : Nat) (a b : Int) (w : World) (hn0 : -9223372036854775808 ≤ n) (hn1 : n ≤ 9223372036854775807) (hp : p < 4294967296) (ha0 : -9223372036854775808 ≤ a) (ha1 : a ≤ 9223372036854775807) (hb0 : -9223372036854775808 ≤ b) (hb1 : b ≤ 9223372036854775807) :
    Calls Try.prog 5 #[.int .i64 n, .int .u32 p, .agg #[.int .i64 a, .int .i64 b]] w fun r w' => r = .returned (.bool true) ∧ Below w.heap.size w w' := by
  obtain ⟨x, hx⟩ : ∃ x, defPar rPrime n p a b = x := ⟨_, rfl⟩
  obtain ⟨er, he⟩ : ∃ er, defErr rPrime n p a b = er := ⟨_, rfl⟩
  have D1 := fun W => default_any n p a b W hn0 hn1 hp ha0 ha1 hb0 hb1
  have D2 := fun W => rdefault_any n p a b W hp ha0 ha1 hb0 hb1
  simp only [defPar_eq, defErr_eq, hx, he] at D1 D2
  have E1 := Lib.hid D1
  have E2 := Lib.hid D2
  clear D1 D2 hx he
  go_enter Try.func5, Try.ntmps5
  go_wp2_with fail
  refine (shown_any _).mono ?_
  rintro r W1 ⟨rfl, hs1⟩
  have hx0 : (w.alloc (.cells #[.int .i64 a, .int .i64 b] 44)).heap.size = w.heap.size + 1 := by simp
  have q1 := bel_then hs1 ((Below.refl _ w).alloc (Nat.le_refl _) _) (by simp)
  have z0 : W1.cell? ⟨w.heap.size, 0, none⟩ = some (.int .i64 a) := (below_at hs1 (by simp)).trans (by simp [go_sem])
  have z1 : W1.cell? ⟨w.heap.size, 1, none⟩ = some (.int .i64 b) := (below_at hs1 (by simp)).trans (by simp [go_sem])
  have l1 : w.heap.size < W1.heap.size := by have := hs1.size; simp at this; omega
  have Q1 := Lib.hid q1
  clear hs1 q1 hx0
  go_wp2_with fail
  refine (E1.out _).mono ?_
  rintro r W2 ⟨hd, v, rfl, hsl⟩
  obtain ⟨pa, cap, rfl⟩ := sliceAt_shape hsl
  have Q2 := Lib.hid (bel_then hd Q1.out Q1.out.size)
  have y0 := (below_at hd l1).trans z0
  have y1 := (below_at hd l1).trans z1
  have l2 := Nat.lt_of_lt_of_le l1 hd.size
  have HS := Lib.hid hsl
  clear hd Q1 z0 z1 l1 hsl
  unfold Par.val
  go_wp2_with fail
  refine (E2.out _).mono ?_
  rintro r W3 ⟨hd, v, rfl, hsl⟩
  obtain ⟨pb, cap2, rfl⟩ := sliceAt_shape hsl
  have hy := ((Below.refl _ W2).alloc (Nat.le_refl _) (.cells #[.int .i64 x.n, .int .u32 x.p, .int .i64 x.r, .slice pa x.ch.length cap, .int .u32 x.sp, .int .i64 x.wt, .int .u32 x.er] 25))
  have hB : BoxP (W2.alloc (.cells #[.int .i64 x.n, .int .u32 x.p, .int .i64 x.r, .slice pa x.ch.length cap, .int .u32 x.sp, .int .i64 x.wt, .int .u32 x.er] 25)) W2.heap.size x (.slice pa x.ch.length cap) := by constructor <;> simp [go_sem]
  have hB3 := hB.below hd (by simp)
  have x0 := hB3.n; have x1 := hB3.p; have x2 := hB3.r; have x3 := hB3.ch; have x4 := hB3.sp; have x5 := hB3.wt; have x6 := hB3.er
  have HS3 := Lib.hid ((HS.out.below hy).below hd)
  have HT3 := Lib.hid hsl
  have Q3 := Lib.hid (bel_then hd (Q2.out.alloc Q2.out.size _) (by have := Q2.out.size; simp; omega))
  have l3 : W2.heap.size < W3.heap.size := by have := hd.size; simp at this; omega
  clear hd hy hB hB3 hsl HS Q2 y0 y1 l2
  unfold Par.val
  go_wp2_with fail
  refine (samep_any x x _ _ _ (HS3.out.below ((Below.refl _ _).alloc (Nat.le_refl _) _)) (HT3.out.below ((Below.refl _ _).alloc (Nat.le_refl _) _))).mono ?_
  rintro e W4 ⟨rfl, hb4⟩
  rw [sameB_self]
  have Q4 := Lib.hid (bel_then hb4 (Q3.out.alloc Q3.out.size _) (by have := Q3.out.size; simp; omega))
  clear hb4 x0 x1 x2 x3 x4 x5 x6 HS3 HT3 Q3 l3
  go_wp2_with fail
  go_ret
  exact ⟨rfl, Q4.out⟩
end Go.Proofs.Ytjfjbkocopaehaa
