/- The sponge: one round (package sponge), continued. (Printed by gen_SpgC.py.) -/
import Derived.Test.YtjfjbkocopaehaaDoorSpgB
import Derived.Test.YtjfjbkocopaehaaDoorKeyX
import Derived.StillTailTactics
namespace Go.Proofs.YtjfjbkocopaehaaDoor
open Go.RowKit
set_option linter.unusedVariables false

theorem turn_lit (x : Int) (a b : Nat) (A B : Int) (hA : A = a) (hB : B = b) (w : World) (hx : W64 x) (ha0 : 1 ≤ a) (ha1 : a ≤ 63) (hb0 : 1 ≤ b) (hb1 : b ≤ 63) :
    Calls Tryd.prog 93 #[.int .u64 x, .int .i64 A, .int .i64 B] w fun e w' => e = .returned (.int .u64 (tn x a b)) ∧ w' = w := by
  subst hA hB
  exact turn_any x a b w hx ha0 ha1 hb0 hb1

/-- Five words are stored into a block. -/
theorem five_out {w W : World} {g : Nat} {x0 x1 x2 x3 x4 : Value} {T : TypeId} (h : Blk W (g + 1) [x0, x1, x2, x3, x4] T) (hb : Below g w W) (x : S5) :
    Blk (((((W.setCell ⟨g + 1, 0, none⟩ (.int .u64 x.a)).setCell ⟨g + 1, 1, none⟩ (.int .u64 x.b)).setCell ⟨g + 1, 2, none⟩ (.int .u64 x.c)).setCell ⟨g + 1, 3, none⟩ (.int .u64 x.d)).setCell ⟨g + 1, 4, none⟩ (.int .u64 x.e)) (g + 1) x.l T ∧
    Below g w (((((W.setCell ⟨g + 1, 0, none⟩ (.int .u64 x.a)).setCell ⟨g + 1, 1, none⟩ (.int .u64 x.b)).setCell ⟨g + 1, 2, none⟩ (.int .u64 x.c)).setCell ⟨g + 1, 3, none⟩ (.int .u64 x.d)).setCell ⟨g + 1, 4, none⟩ (.int .u64 x.e)) := by
  have hp : ∀ i, g ≤ (⟨g + 1, i, none⟩ : Addr).block := fun _ => Nat.le_succ _
  exact ⟨((((h.set 0 (.int .u64 x.a)).set 1 (.int .u64 x.b)).set 2 (.int .u64 x.c)).set 3 (.int .u64 x.d)).set 4 (.int .u64 x.e), ((((hb.setCell (hp 0) _).setCell (hp 1) _).setCell (hp 2) _).setCell (hp 3) _).setCell (hp 4) _⟩

set_option maxHeartbeats 4000000 in
set_option maxRecDepth 100000 in
theorem round_any (x : S5) (c : Int) (w : World) :
    Calls Tryd.prog 84 #[x.v, .int .u64 c] w fun e w' => e = .returned (rnd x c).v ∧ Below w.heap.size w w' := by
  obtain ⟨a, b, c2, d, e⟩ := x
  have HX : Hid ((#[.int .u64 (bits .xor .u64 (bits .xor .u64 (bits .xor .u64 a e) (bits .and .u64 (bits .xor .u64 IntKind.u64.max b) (bits .xor .u64 (bits .xor .u64 c2 c) b))) (bits .xor .u64 (bits .xor .u64 e d) (bits .and .u64 (bits .xor .u64 IntKind.u64.max (bits .xor .u64 a e)) b))), .int .u64 (bits .xor .u64 (bits .xor .u64 b (bits .and .u64 (bits .xor .u64 IntKind.u64.max (bits .xor .u64 (bits .xor .u64 c2 c) b)) d)) (bits .xor .u64 (bits .xor .u64 a e) (bits .and .u64 (bits .xor .u64 IntKind.u64.max b) (bits .xor .u64 (bits .xor .u64 c2 c) b)))), .int .u64 (bits .xor .u64 IntKind.u64.max (bits .xor .u64 (bits .xor .u64 (bits .xor .u64 c2 c) b) (bits .and .u64 (bits .xor .u64 IntKind.u64.max d) (bits .xor .u64 e d)))), .int .u64 (bits .xor .u64 (bits .xor .u64 d (bits .and .u64 (bits .xor .u64 IntKind.u64.max (bits .xor .u64 e d)) (bits .xor .u64 a e))) (bits .xor .u64 (bits .xor .u64 (bits .xor .u64 c2 c) b) (bits .and .u64 (bits .xor .u64 IntKind.u64.max d) (bits .xor .u64 e d)))), .int .u64 (bits .xor .u64 (bits .xor .u64 e d) (bits .and .u64 (bits .xor .u64 IntKind.u64.max (bits .xor .u64 a e)) b))] : Array Value) = #[.int .u64 (mid ⟨a, b, c2, d, e⟩ c).a, .int .u64 (mid ⟨a, b, c2, d, e⟩ c).b, .int .u64 (mid ⟨a, b, c2, d, e⟩ c).c, .int .u64 (mid ⟨a, b, c2, d, e⟩ c).d, .int .u64 (mid ⟨a, b, c2, d, e⟩ c).e]) := rfl
  have HOK := Lib.hid (mid_ok ⟨a, b, c2, d, e⟩ c)
  have HR : Hid ((rnd ⟨a, b, c2, d, e⟩ c) = ⟨tn (mid ⟨a, b, c2, d, e⟩ c).a 19 28, tn (mid ⟨a, b, c2, d, e⟩ c).b 61 39, tn (mid ⟨a, b, c2, d, e⟩ c).c 1 6, tn (mid ⟨a, b, c2, d, e⟩ c).d 10 17, tn (mid ⟨a, b, c2, d, e⟩ c).e 7 41⟩) := rfl
  have hsg : IntKind.u64.signed = false := rfl
  unfold S5.v
  go_enter Tryd.func84, Tryd.ntmps84
  go_wp2_with fail
  rw [HX.out]
  obtain ⟨k0, k1, k2, k3, k4⟩ := HOK.out
  clear HX HOK
  generalize (mid ⟨a, b, c2, d, e⟩ c).a = m0 at *
  generalize (mid ⟨a, b, c2, d, e⟩ c).b = m1 at *
  generalize (mid ⟨a, b, c2, d, e⟩ c).c = m2 at *
  generalize (mid ⟨a, b, c2, d, e⟩ c).d = m3 at *
  generalize (mid ⟨a, b, c2, d, e⟩ c).e = m4 at *
  have hz : Hid (Blk (((w.alloc (.cells #[.int .u64 (bits .xor .u64 a e), .int .u64 b, .int .u64 (bits .xor .u64 (bits .xor .u64 c2 c) b), .int .u64 d, .int .u64 (bits .xor .u64 e d)] 88)).alloc (.cells #[.int .u64 0, .int .u64 0, .int .u64 0, .int .u64 0, .int .u64 0] 88)).alloc (.cells #[.int .u64 m0, .int .u64 m1, .int .u64 m2, .int .u64 m3, .int .u64 m4] 88)) (w.heap.size + 1 + 1) (S5.mk m0 m1 m2 m3 m4).l 88) := by
    have h := Blk.new ((w.alloc (.cells #[.int .u64 (bits .xor .u64 a e), .int .u64 b, .int .u64 (bits .xor .u64 (bits .xor .u64 c2 c) b), .int .u64 d, .int .u64 (bits .xor .u64 e d)] 88)).alloc (.cells #[.int .u64 0, .int .u64 0, .int .u64 0, .int .u64 0, .int .u64 0] 88)) #[.int .u64 m0, .int .u64 m1, .int .u64 m2, .int .u64 m3, .int .u64 m4] 88
    show Blk _ _ _ _
    simpa [S5.l] using h
  have hr : Hid (Blk (((w.alloc (.cells #[.int .u64 (bits .xor .u64 a e), .int .u64 b, .int .u64 (bits .xor .u64 (bits .xor .u64 c2 c) b), .int .u64 d, .int .u64 (bits .xor .u64 e d)] 88)).alloc (.cells #[.int .u64 0, .int .u64 0, .int .u64 0, .int .u64 0, .int .u64 0] 88)).alloc (.cells #[.int .u64 m0, .int .u64 m1, .int .u64 m2, .int .u64 m3, .int .u64 m4] 88)) (w.heap.size + 1) [.int .u64 0, .int .u64 0, .int .u64 0, .int .u64 0, .int .u64 0] 88) := by
    have h := (Blk.new (w.alloc (.cells #[.int .u64 (bits .xor .u64 a e), .int .u64 b, .int .u64 (bits .xor .u64 (bits .xor .u64 c2 c) b), .int .u64 d, .int .u64 (bits .xor .u64 e d)] 88)) #[.int .u64 0, .int .u64 0, .int .u64 0, .int .u64 0, .int .u64 0] 88).alloc (.cells #[.int .u64 m0, .int .u64 m1, .int .u64 m2, .int .u64 m3, .int .u64 m4] 88)
    show Blk _ _ _ _
    simpa using h
  have HB : Hid (Below w.heap.size w (((w.alloc (.cells #[.int .u64 (bits .xor .u64 a e), .int .u64 b, .int .u64 (bits .xor .u64 (bits .xor .u64 c2 c) b), .int .u64 d, .int .u64 (bits .xor .u64 e d)] 88)).alloc (.cells #[.int .u64 0, .int .u64 0, .int .u64 0, .int .u64 0, .int .u64 0] 88)).alloc (.cells #[.int .u64 m0, .int .u64 m1, .int .u64 m2, .int .u64 m3, .int .u64 m4] 88))) := (((Below.refl _ w).alloc (Nat.le_refl _) _).alloc (by simp) _).alloc (by simp; omega) _
  generalize ((w.alloc (.cells #[.int .u64 (bits .xor .u64 a e), .int .u64 b, .int .u64 (bits .xor .u64 (bits .xor .u64 c2 c) b), .int .u64 d, .int .u64 (bits .xor .u64 e d)] 88)).alloc (.cells #[.int .u64 0, .int .u64 0, .int .u64 0, .int .u64 0, .int .u64 0] 88)).alloc (.cells #[.int .u64 m0, .int .u64 m1, .int .u64 m2, .int .u64 m3, .int .u64 m4] 88) = W at hz hr HB ⊢
  refine wp_region_still_tail 21 (by kernel_rfl) (by kernel_rfl) ?_
  have HZ2 : Hid (Blk W.drew (w.heap.size + 1 + 1) [.int .u64 m0, .int .u64 m1, .int .u64 m2, .int .u64 m3, .int .u64 m4] 88) := hz
  have HR2 : Hid (Blk W.drew (w.heap.size + 1) [.int .u64 0, .int .u64 0, .int .u64 0, .int .u64 0, .int .u64 0] 88) := hr
  have HB2 : Hid (Below w.heap.size w W.drew) := Lib.hid HB.out.drew
  change wpStill _ _ W.drew (fun a' => wpList _ _ _ _ a' W.drew) _ _
  clear hz hr HB
  generalize W.drew = W2 at HZ2 HR2 HB2 ⊢
  simp only [List.take_succ_cons, List.take_zero, List.drop_succ_cons, List.drop_zero]
  have z0 := HZ2.out.cell 0 (by simp); have z1 := HZ2.out.cell 1 (by simp); have z2 := HZ2.out.cell 2 (by simp); have z3 := HZ2.out.cell 3 (by simp); have z4 := HZ2.out.cell 4 (by simp)
  have r0 := HR2.out.cell 0 (by simp); have r1 := HR2.out.cell 1 (by simp); have r2 := HR2.out.cell 2 (by simp); have r3 := HR2.out.cell 3 (by simp); have r4 := HR2.out.cell 4 (by simp)
  simp only [List.getElem_cons_zero, List.getElem_cons_succ] at z0 z1 z2 z3 z4 r0 r1 r2 r3 r4
  have f0 := HR2.out.free 0; have f1 := HR2.out.free 1; have f2 := HR2.out.free 2; have f3 := HR2.out.free 3; have f4 := HR2.out.free 4
  iterate 3 still_step
  still_call (turn_lit m0 19 28 19 28 rfl rfl _ k0 (by decide) (by decide) (by decide) (by decide))
  iterate 3 still_step
  still_call (turn_lit m1 61 39 61 39 rfl rfl _ k1 (by decide) (by decide) (by decide) (by decide))
  iterate 3 still_step
  still_call (turn_lit m2 1 6 1 6 rfl rfl _ k2 (by decide) (by decide) (by decide) (by decide))
  iterate 3 still_step
  still_call (turn_lit m3 10 17 10 17 rfl rfl _ k3 (by decide) (by decide) (by decide) (by decide))
  iterate 3 still_step
  still_call (turn_lit m4 7 41 7 41 rfl rfl _ k4 (by decide) (by decide) (by decide) (by decide))
  still_step
  refine wpStill_nil ?_
  obtain ⟨⟨t0, t1, t2, t3, t4⟩, ht⟩ : ∃ t : S5, S5.mk (tn m0 19 28) (tn m1 61 39) (tn m2 1 6) (tn m3 10 17) (tn m4 7 41) = t := ⟨_, rfl⟩
  have HT := Lib.hid ht
  injection ht with e0 e1 e2 e3 e4
  rw [e0, e1, e2, e3, e4]
  clear e0 e1 e2 e3 e4
  have HO := Lib.hid (five_out HR2.out HB2.out ⟨t0, t1, t2, t3, t4⟩)
  have o0 := HO.out.1.cell 0 (by simp [S5.l]); have o1 := HO.out.1.cell 1 (by simp [S5.l]); have o2 := HO.out.1.cell 2 (by simp [S5.l]); have o3 := HO.out.1.cell 3 (by simp [S5.l]); have o4 := HO.out.1.cell 4 (by simp [S5.l])
  simp only [S5.l, List.getElem_cons_zero, List.getElem_cons_succ] at o0 o1 o2 o3 o4
  go_wp2_with fail

  refine bodyPost_ret (v := .agg #[.int .u64 t0, .int .u64 t1, .int .u64 t2, .int .u64 t3, .int .u64 t4]) (by simp [results, Tryd.results84, go_sem, o0, o1, o2, o3, o4]) rfl ⟨by rw [HR.out, HT.out], HO.out.2⟩
end Go.Proofs.YtjfjbkocopaehaaDoor
