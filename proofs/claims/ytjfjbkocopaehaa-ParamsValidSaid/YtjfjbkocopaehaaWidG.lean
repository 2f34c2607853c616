/- The reference's wide layer: in. -/
import Derived.Test.YtjfjbkocopaehaaWidE
namespace Go.Proofs.Ytjfjbkocopaehaa
open Go.RowKit
set_option linter.unusedVariables false

def HW : Nat := 65536
theorem HW_pow (j : Nat) : HW ^ j = 256 ^ (2 * j) := by rw [show HW = 256 ^ 2 from rfl, ← Nat.pow_mul]
theorem half_word (v j : Nat) : dig HW v j = dig 256 v (2 * j) + 256 * dig 256 v (2 * j + 1) := by
  unfold dig
  rw [HW_pow, Nat.pow_succ, ← Nat.div_div_eq_div_mul]
  generalize v / 256 ^ (2 * j) = y
  unfold HW
  omega

/-- What 'in' holds: its argument, its result, the number under way. -/
structure InW (w W : World) (S : ByteArray) (p : Option Addr) (cap j : Nat) (l : List Nat) : Prop where
  s : W.cell? ⟨w.heap.size, 1, none⟩ = some (.string S)
  r : Blk W (w.heap.size + 1) [.bool false, .slice none 0 0] 120
  m : Blk W (w.heap.size + 1 + 1) [.bool false, .slice p j cap] 120
  own : W.ownsRow (w.heap.size + 1 + 1 + 1) 22 1 (.slice p j cap) j (u32s l)
  bel : Below w.heap.size w W
theorem InW.step {w W w1 : World} {S : ByteArray} {p p' : Option Addr} {cap cap' j j' : Nat} {l l' : List Nat} (h : InW w W S p cap j l) (x : Value) (hg : (W.alloc (.cells #[x] 22)).grownBy w1 (Value.slice p j cap).ownBlock)
    (ho : w1.ownsRow (w.heap.size + 1 + 1 + 1) 22 1 (.slice p' j' cap') j' (u32s l')) : InW w (w1.setCell ⟨w.heap.size + 1 + 1, 1, none⟩ (.slice p' j' cap')) S p' cap' j' l' := by
  have hlt := h.m.lt
  have hb1 : Below (w.heap.size + 1 + 1 + 1) W w1 := by
    have h1 : Below (w.heap.size + 1 + 1 + 1) W (W.alloc (.cells #[x] 22)) := (Below.refl _ _).alloc (by omega) _
    exact h1.grown hg (by simp; omega) (own_ge h.own)
  have hb1' : Below (w.heap.size + 1 + 1) W w1 := hb1.mono (by omega)
  have hb2 : Below (w.heap.size + 1 + 1) W (w1.setCell ⟨w.heap.size + 1 + 1, 1, none⟩ (.slice p' j' cap')) := hb1'.setCell (p := ⟨w.heap.size + 1 + 1, 1, none⟩) (Nat.le_refl _) _
  refine ⟨(below_at hb2 (by omega)).trans h.s, h.r.below hb2 (by omega), ?_, ownsRow_setCell_below ho (by show w.heap.size + 1 + 1 < w.heap.size + 1 + 1 + 1; omega) _, h.bel.trans (hb2.mono (by omega))⟩
  exact (h.m.below hb1 (by omega)).set 1 (.slice p' j' cap')

set_option maxHeartbeats 2000000 in
set_option maxRecDepth 100000 in
theorem rin_any (v n : Nat) (w : World) (hv : v < 256 ^ n) (hn : n ≤ 256) :
    Calls Try.prog 95 #[.agg #[.bool false, .string (beS v n)]] w fun e w' => (∃ pv, e = .returned (.agg #[.bool false, pv]) ∧ SliceAt w' pv (digs HW v ((n + 1) / 2))) ∧ Below w.heap.size w w' := by
  obtain ⟨i0, hi0, hz0, hz1, hz2⟩ := info_parts infoU32
  obtain ⟨S, hS⟩ : ∃ S, beS v n = S := ⟨_, rfl⟩
  have hsz : S.size = n := by rw [← hS]; exact beS_size v n
  have HAT : Hid (∀ i (h : i < S.size), (S[i]).toNat = dig 256 v (n - 1 - i)) := by rw [← hS]; exact beS_at v n
  rw [hS]
  have HV := Lib.hid hv
  subst hsz
  clear hS hv
  go_enter Try.func95, Try.ntmps95
  go_wp2_with fail
  have hI : InW w (((w.alloc (.cells #[.bool false, .string S] 69)).alloc (.cells #[.bool false, .slice none 0 0] 120)).alloc (.cells #[.bool false, .slice none 0 0] 120)) S none 0 0 (digs HW v 0) := by
    refine ⟨by simp [go_sem], ?_, ?_, World.ownsRow_nil _ _ _ _, (((Below.refl _ _).alloc (Nat.le_refl _) _).alloc (by simp) _).alloc (by simp; omega) _⟩
    · have h := (Blk.new (w.alloc (.cells #[.bool false, .string S] 69)) #[.bool false, .slice none 0 0] 120).alloc (.cells #[.bool false, .slice none 0 0] 120)
      simpa using h
    · have h := Blk.new ((w.alloc (.cells #[.bool false, .string S] 69)).alloc (.cells #[.bool false, .slice none 0 0] 120)) #[.bool false, .slice none 0 0] 120
      simpa using h
  have HI := Lib.hid hI
  clear hI
  generalize (((w.alloc (.cells #[.bool false, .string S] 69)).alloc (.cells #[.bool false, .slice none 0 0] 120)).alloc (.cells #[.bool false, .slice none 0 0] 120)) = W at HI ⊢
  go_loopw [4, 5] (fun vi _ wr => ∃ (j : Nat) (p : Option Addr) (cap : Nat), vi = .int .i64 ((S.size : Int) - 1 - 2 * (j : Int)) ∧ 2 * j ≤ S.size + 1 ∧ Hid (InW w wr S p cap j (digs HW v j))) (fun vi _ _ => (intOf vi + 2).toNat)
  case atStart => exact ⟨0, none, 0, by congr 1; omega, by omega, HI⟩
  case round =>
    obtain ⟨j, p, cap, rfl, hj, hI⟩ := hrel
    have x1 := hI.out.s
    by_cases hlt : 2 * j < S.size
    case neg =>
      have hge : ¬ (0 : Int) ≤ (S.size : Int) - 1 - 2 * (j : Int) := by omega
      have r0 : wr.cell? ⟨w.heap.size + 1, 0, none⟩ = some (.bool false) := hI.out.r.cell 0 (by simp)
      have r1 : wr.cell? ⟨w.heap.size + 1, 1, none⟩ = some (.slice none 0 0) := hI.out.r.cell 1 (by simp)
      have m0 : wr.cell? ⟨w.heap.size + 1 + 1, 0, none⟩ = some (.bool false) := hI.out.m.cell 0 (by simp)
      have m1 : wr.cell? ⟨w.heap.size + 1 + 1, 1, none⟩ = some (.slice p j cap) := hI.out.m.cell 1 (by simp)
      have f0 := hI.out.r.free 0
      have f1 := hI.out.r.free 1
      have hjj : j = (S.size + 1) / 2 := by omega
      have HJ := Lib.hid hjj
      clear hjj
      have hown := ownsRow_setCell_below (ownsRow_setCell_below hI.out.own (a := ⟨w.heap.size + 1, 0, none⟩) (by show w.heap.size + 1 < w.heap.size + 1 + 1 + 1; omega) (.bool false)) (a := ⟨w.heap.size + 1, 1, none⟩) (by show w.heap.size + 1 < w.heap.size + 1 + 1 + 1; omega) (.slice p j cap)
      have hZ := (hI.out.r.set 0 (.bool false)).set 1 (.slice p j cap)
      have z0 := hZ.cell 0 (by simp)
      have z1 := hZ.cell 1 (by simp)
      simp only [List.set_cons_zero, List.set_cons_succ, List.getElem_cons_zero, List.getElem_cons_succ] at z0 z1
      have HBF := Lib.hid ((hI.out.bel.setCell (p := ⟨w.heap.size + 1, 0, none⟩) (by show w.heap.size ≤ w.heap.size + 1; omega) (.bool false)).setCell (p := ⟨w.heap.size + 1, 1, none⟩) (by show w.heap.size ≤ w.heap.size + 1; omega) (.slice p j cap))
      have HS : Hid (SliceAt _ (.slice p j cap) (digs HW v j)) := SliceAt.ofOwns hown (by rw [digs_length]; omega) (fun q hq => Nat.lt_of_lt_of_le (digs_bd (B := HW) (by decide) q hq) (by decide))
      clear hown hZ
      go_wp2_with fail
      refine bodyPost_ret (v := .agg #[.bool false, .slice p j cap]) (by simp [results, Try.results95, go_sem, z0, z1]) rfl ⟨⟨.slice p j cap, rfl, by rw [← HJ.out]; exact HS.out⟩, HBF.out⟩
    case pos =>
      obtain ⟨i, hi⟩ : ∃ i, i = S.size - 1 - 2 * j := ⟨_, rfl⟩
      have ei : (S.size : Int) - 1 - 2 * (j : Int) = (i : Int) := by omega
      rw [ei]
      have hi1 : i < S.size := by omega
      obtain ⟨b, hb⟩ : ∃ b, (S[i]'hi1).toNat = b := ⟨_, rfl⟩
      have hbd : b = dig 256 v (2 * j) := by rw [← hb, HAT.out i hi1, show S.size - 1 - i = 2 * j by omega]
      have hb256 : b < 256 := by rw [← hb]; exact UInt8.toNat_lt _
      have HBB := Lib.hid hb
      have HEI : Hid (((i : Int) - 2) = (S.size : Int) - 1 - 2 * ((j + 1 : Nat) : Int)) := by show _ = _; omega
      have i0' : (0 : Int) ≤ (i : Int) := by omega
      have i1' : (i : Int) < (S.size : Int) := by omega
      have m1 : wr.cell? ⟨w.heap.size + 1 + 1, 1, none⟩ = some (.slice p j cap) := hI.out.m.cell 1 (by simp)
      have fm := hI.out.m.free 1
      obtain ⟨D, hD⟩ : ∃ D, dig HW v j = D := ⟨_, rfl⟩
      have hD16 : D < 65536 := by rw [← hD]; exact dig_lt (B := HW) (by decide) v j
      have HDS : Hid (u32s (digs HW v j) ++ [.int .u32 (D : Nat)] = u32s (digs HW v (j + 1))) := by
        show _ = _
        rw [← hD]; unfold u32s digs; rw [List.range_succ, List.map_append, List.map_append]; rfl
      have hw := half_word v j
      rw [hD, ← hbd] at hw
      by_cases hi0' : 0 < i
      · obtain ⟨k, rfl⟩ : ∃ k, i = k + 1 := ⟨i - 1, by omega⟩
        have hk : k < S.size := by omega
        obtain ⟨b', hb'⟩ : ∃ b, (S[k]'hk).toNat = b := ⟨_, rfl⟩
        have hbd' : b' = dig 256 v (2 * j + 1) := by rw [← hb', HAT.out k (by omega), show S.size - 1 - k = 2 * j + 1 by omega]
        have hb256' : b' < 256 := by rw [← hb']; exact UInt8.toNat_lt _
        rw [← hbd'] at hw
        have eV : (b : Int) + 256 * (b' : Int) = (D : Int) := by omega
        have k0 : (0 : Int) ≤ (k : Int) := by omega
        have k1 : (k : Int) < (S.size : Int) := by omega
        clear hbd hbd' hi hw hD ei i0' i1'
        go_wp2_with (at_builtin; refine wpList_append_own _ rfl _ _ 23 rfl (w.heap.size + 1 + 1 + 1) 22 i0 (.int .u32 0) 1 4 Try.underlying23 hi0 hz0 hz1 hz2 rfl (by decide) _ _ _ rfl (hI.out.own.alloc _) ⟨wr.heap.size, 0, none⟩ 1 1 [.int .u32 (D : Nat)] rfl rfl ?c1 ?c2 ?c3 ?c4 ?c5 ?_)
        case c1 => exact cell_one_new _ _ _
        case c2 => intro u hu; simp at hu; subst hu; rfl
        case c3 => unfold maxLen; omega
        case c4 => omega
        case c5 => have := hI.out.m.lt; simp; omega
        intro v' w1 hown' hgrow _
        rw [HDS.out] at hown'
        obtain ⟨p', cap', rfl⟩ := own_slice hown'
        have HI2 := Lib.hid (hI.out.step _ hgrow hown')
        have hb1 : Below (w.heap.size + 1 + 1 + 1) wr w1 := by
          have h1 : Below (w.heap.size + 1 + 1 + 1) wr (wr.alloc (.cells #[.int .u32 (D : Nat)] 22)) := (Below.refl _ _).alloc (by have := hI.out.m.lt; omega) _
          exact h1.grown hgrow (by have := hI.out.m.lt; simp; omega) (own_ge hI.out.own)
        have m1' : w1.cell? ⟨w.heap.size + 1 + 1, 1, none⟩ = some (.slice p j cap) := (below_at hb1 (by omega)).trans m1
        have fm' := (hI.out.m.below hb1 (by omega)).free 1
        clear hown' hgrow hb1 m1 fm x1
        go_wp2_with fail
        go_roundw
        case rel => exact ⟨j + 1, p', cap', congrArg _ HEI.out, by omega, HI2⟩
        case measure => simp [intOf]; omega
      · have hi00 : i = 0 := by omega
        subst hi00
        have eV : (b : Int) = (D : Int) := by
          have hz : dig 256 v (2 * j + 1) = 0 := dig_high (by decide) HV.out (by omega)
          rw [hz] at hw; omega
        clear hbd hi hw hD ei
        go_wp2_with (at_builtin; refine wpList_append_own _ rfl _ _ 23 rfl (w.heap.size + 1 + 1 + 1) 22 i0 (.int .u32 0) 1 4 Try.underlying23 hi0 hz0 hz1 hz2 rfl (by decide) _ _ _ rfl (hI.out.own.alloc _) ⟨wr.heap.size, 0, none⟩ 1 1 [.int .u32 (D : Nat)] rfl rfl ?c1 ?c2 ?c3 ?c4 ?c5 ?_)
        case c1 => exact cell_one_new _ _ _
        case c2 => intro u hu; simp at hu; subst hu; rfl
        case c3 => unfold maxLen; omega
        case c4 => omega
        case c5 => have := hI.out.m.lt; simp; omega
        intro v' w1 hown' hgrow _
        rw [HDS.out] at hown'
        obtain ⟨p', cap', rfl⟩ := own_slice hown'
        have HI2 := Lib.hid (hI.out.step _ hgrow hown')
        have hb1 : Below (w.heap.size + 1 + 1 + 1) wr w1 := by
          have h1 : Below (w.heap.size + 1 + 1 + 1) wr (wr.alloc (.cells #[.int .u32 (D : Nat)] 22)) := (Below.refl _ _).alloc (by have := hI.out.m.lt; omega) _
          exact h1.grown hgrow (by have := hI.out.m.lt; simp; omega) (own_ge hI.out.own)
        have m1' : w1.cell? ⟨w.heap.size + 1 + 1, 1, none⟩ = some (.slice p j cap) := (below_at hb1 (by omega)).trans m1
        have fm' := (hI.out.m.below hb1 (by omega)).free 1
        clear hown' hgrow hb1 m1 fm x1
        go_wp2_with fail
        go_roundw
        case rel => exact ⟨j + 1, p', cap', congrArg _ HEI.out, by omega, HI2⟩
        case measure => simp [intOf]
end Go.Proofs.Ytjfjbkocopaehaa
