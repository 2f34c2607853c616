/- The reference's wide layer: Of. -/
import Derived.Test.YtjfjbkocopaehaaWidJ
namespace Go.Proofs.Ytjfjbkocopaehaa
open Go.RowKit
set_option linter.unusedVariables false

/-- What 'Of' holds. -/
structure OfW (w W : World) (p : Option Addr) (cap j : Nat) (l : List Nat) : Prop where
  r : Blk W w.heap.size [.bool false, .string ⟨#[]⟩] 69
  m : Blk W (w.heap.size + 1) [.bool false, .slice p j cap] 120
  own : W.ownsRow (w.heap.size + 1 + 1) 22 1 (.slice p j cap) j (u32s l)
  bel : Below w.heap.size w W
theorem OfW.step {w W w1 : World} {p p' : Option Addr} {cap cap' j j' : Nat} {l l' : List Nat} (h : OfW w W p cap j l) (x : Value) (hg : (W.alloc (.cells #[x] 22)).grownBy w1 (Value.slice p j cap).ownBlock)
    (ho : w1.ownsRow (w.heap.size + 1 + 1) 22 1 (.slice p' j' cap') j' (u32s l')) : OfW w (w1.setCell ⟨w.heap.size + 1, 1, none⟩ (.slice p' j' cap')) p' cap' j' l' := by
  have hlt := h.m.lt
  have hb1 : Below (w.heap.size + 1 + 1) W w1 := by
    have h1 : Below (w.heap.size + 1 + 1) W (W.alloc (.cells #[x] 22)) := (Below.refl _ _).alloc (by omega) _
    exact h1.grown hg (by simp; omega) (own_ge h.own)
  have hb1' : Below (w.heap.size + 1) W w1 := hb1.mono (by omega)
  have hb2 : Below (w.heap.size + 1) W (w1.setCell ⟨w.heap.size + 1, 1, none⟩ (.slice p' j' cap')) := hb1'.setCell (p := ⟨w.heap.size + 1, 1, none⟩) (Nat.le_refl _) _
  refine ⟨h.r.below hb2 (by omega), ?_, ownsRow_setCell_below ho (by show w.heap.size + 1 < w.heap.size + 1 + 1; omega) _, h.bel.trans (hb2.mono (by omega))⟩
  exact (h.m.below hb1 (by omega)).set 1 (.slice p' j' cap')

set_option maxHeartbeats 2000000 in
set_option maxRecDepth 100000 in
theorem rOf_any (v : Nat) (w : World) (hv : v < 9223372036854775808) (hpos : 0 < v) :
    Calls Try.prog 61 #[.int .i64 v] w fun e w' => (∃ n, e = .returned (.agg #[.bool false, .string (beS v n)]) ∧ ND 256 v n) ∧ Below w.heap.size w w' := by
  obtain ⟨i0, hi0, hz0, hz1, hz2⟩ := info_parts infoU32
  have e1 : IntKind.u64.wrap (v : Int) = (v : Int) := by rw [IntKind.wrap_u64]; omega
  have e2 : decide ((v : Int) < 0) = false := decide_eq_false (by omega)
  have HV0 := Lib.hid hv
  have H4 : Hid (v < HW ^ 4) := by show v < HW ^ 4; rw [show HW ^ 4 = 18446744073709551616 from rfl]; omega
  clear hv
  go_enter Try.func61, Try.ntmps61
  go_wp2_with fail
  have hI : OfW w ((w.alloc (.cells #[.bool false, .string ⟨#[]⟩] 69)).alloc (.cells #[.bool false, .slice none 0 0] 120)) none 0 0 (digs HW v 0) := by
    refine ⟨(Blk.new w #[.bool false, .string ⟨#[]⟩] 69).alloc _, ?_, World.ownsRow_nil _ _ _ _, ((Below.refl _ _).alloc (Nat.le_refl _) _).alloc (by simp) _⟩
    have h := Blk.new (w.alloc (.cells #[.bool false, .string ⟨#[]⟩] 69)) #[.bool false, .slice none 0 0] 120
    simpa using h
  have HI := Lib.hid hI
  clear hI e1 e2
  generalize ((w.alloc (.cells #[.bool false, .string ⟨#[]⟩] 69)).alloc (.cells #[.bool false, .slice none 0 0] 120)) = W at HI ⊢
  go_loopw [4] (fun v4 wr => ∃ (j R : Nat) (p : Option Addr) (cap : Nat), v4 = .int .u64 R ∧ j ≤ 4 ∧ Hid (v / HW ^ j = R) ∧ Hid (0 < j → HW ^ (j - 1) ≤ v) ∧ Hid (OfW w wr p cap j (digs HW v j))) (fun v4 _ => (intOf v4).toNat)
  case atStart => exact ⟨0, v, none, 0, rfl, by omega, by show _ = _; simp, fun h => absurd h (by omega), HI⟩
  case round =>
    obtain ⟨j, R, p, cap, rfl, hj, hR, hlo, hI⟩ := hrel
    have m0 : wr.cell? ⟨w.heap.size + 1, 0, none⟩ = some (.bool false) := hI.out.m.cell 0 (by simp)
    have m1 : wr.cell? ⟨w.heap.size + 1, 1, none⟩ = some (.slice p j cap) := hI.out.m.cell 1 (by simp)
    rcases Nat.eq_zero_or_pos R with rfl | hRp
    · have hnd : ND HW v j := by
        refine ⟨?_, ?_⟩
        · have h := hR.out
          rcases Nat.div_eq_zero_iff.1 h with h | h
          · exact absurd h (Nat.pos_iff_ne_zero.1 (Nat.pow_pos (by decide)))
          · exact h
        · rcases Nat.eq_zero_or_pos j with h | h
          · exact .inl h
          · exact .inr (hlo.out h)
      have hjp : 0 < j := hnd.pos hpos
      have hsl := SliceAt.ofOwns hI.out.own (by rw [digs_length]; omega) (fun q hq => Nat.lt_of_lt_of_le (digs_bd (B := HW) (by decide) q hq) (by decide))
      obtain ⟨gb, rfl, _⟩ := own_cells hI.out.own hjp
      obtain ⟨_, _, ea, hc1, _, hrw⟩ := hsl
      obtain ⟨b, off, hpp, hrow⟩ := hrw (by intro h; have := congrArg List.length h; rw [digs_length] at this; simp at this; omega)
      injection ea with ea1 ea2 ea3
      rw [hpp] at ea1
      injection ea1 with ea1
      injection ea1 with ea4 ea5
      subst ea3 ea4 ea5
      rw [digs_length] at hc1
      have HR := Lib.hid hrow; have HND := Lib.hid hnd
      have H256 : Hid (v < 256 ^ 256) := by
        have : (256 : Nat) ^ 8 ≤ 256 ^ 256 := Nat.pow_le_pow_right (by decide) (by decide)
        have h8 : (256 : Nat) ^ 8 = 18446744073709551616 := by decide
        have := HV0.out
        show v < 256 ^ 256
        omega
      clear hrow hnd hrw ea2 hpp
      go_wp2_with (go_at_call 92; refine (rout_any v j _ _ _ HR.out HND.out hc1 (by omega) hpos H256.out).mono ?_; rintro e W3 ⟨⟨n, rfl, hn⟩, hb⟩; have HX1 := Lib.hid (hI.out.r.below hb hI.out.r.lt); have HB1 := Lib.hid (hI.out.bel.trans (hb.mono hI.out.bel.size)); have HN := Lib.hid hn; obtain ⟨S, hS⟩ : ∃ S, beS v n = S := ⟨_, rfl⟩; have HS := Lib.hid hS; rw [hS]; clear hn hb hS m0 m1 hI; have c0 := HX1.out.cell 0 (by decide); have c1 := HX1.out.cell 1 (by decide); simp only [List.getElem_cons_zero, List.getElem_cons_succ] at c0 c1; have f0 := HX1.out.free 0; have f1 := HX1.out.free 1; have hlt := HX1.out.lt; have hne : w.heap.size ≠ W3.heap.size := by omega)
      have HBF := Lib.hid (((HB1.out.setCell (p := ⟨w.heap.size, 0, none⟩) (Nat.le_refl _) (.bool false)).setCell (p := ⟨w.heap.size, 1, none⟩) (Nat.le_refl _) (.string S)).alloc (by simpa using HB1.out.size) (.cells #[.bool false, .string S] 69))
      have hZ : Blk (((W3.setCell ⟨w.heap.size, 0, none⟩ (.bool false)).setCell ⟨w.heap.size, 1, none⟩ (.string S)).alloc (.cells #[.bool false, .string S] 69)) w.heap.size [.bool false, .string S] 69 := ((HX1.out.set 0 (.bool false)).set 1 (.string S)).alloc _
      have z0 := hZ.cell 0 (by simp)
      have z1 := hZ.cell 1 (by simp)
      simp only [List.getElem_cons_zero, List.getElem_cons_succ] at z0 z1
      generalize (((W3.setCell ⟨w.heap.size, 0, none⟩ (.bool false)).setCell ⟨w.heap.size, 1, none⟩ (.string S)).alloc (.cells #[.bool false, .string S] 69)) = Z at z0 z1 HBF ⊢
      refine bodyPost_ret (v := .agg #[.bool false, .string S]) (by simp [results, Try.results61, go_sem, z0, z1]) rfl ⟨⟨n, by rw [HS.out], HN.out⟩, HBF.out⟩
    · have hj4 : j < 4 := by
        apply Classical.byContradiction
        intro h
        have h4 : j = 4 := by omega
        rw [h4] at hR
        have := Nat.div_eq_of_lt H4.out
        have := hR.out
        omega
      obtain ⟨D, hD⟩ : ∃ D, dig HW v j = D := ⟨_, rfl⟩
      have hDD : Hid ((R : Int) % 65536 = (D : Int)) := by
        show _ = _
        have : D = R % 65536 := by rw [← hD, ← hR.out]; rfl
        omega
      have HDS : Hid (u32s (digs HW v j) ++ [.int .u32 (D : Nat)] = u32s (digs HW v (j + 1))) := by
        show _ = _
        rw [← hD]; unfold u32s digs; rw [List.range_succ, List.map_append, List.map_append]; rfl
      have HR2 : Hid (v / HW ^ (j + 1) = R / 65536) := by
        show _ = _
        rw [Nat.pow_succ, ← Nat.div_div_eq_div_mul, hR.out]; rfl
      have HL2 : Hid (0 < j + 1 → HW ^ (j + 1 - 1) ≤ v) := by
        intro _
        rw [Nat.add_sub_cancel]
        apply Classical.byContradiction
        intro h
        have := Nat.div_eq_of_lt (show v < HW ^ j by omega)
        have := hR.out
        omega
      have hR63 : R < 9223372036854775808 := by rw [← hR.out]; exact Nat.lt_of_le_of_lt (Nat.div_le_self _ _) HV0.out
      have fm := hI.out.m.free 1
      clear hD
      go_wp2_with (at_builtin; refine wpList_append_own _ rfl _ _ 23 rfl (w.heap.size + 1 + 1) 22 i0 (.int .u32 0) 1 4 Try.underlying23 hi0 hz0 hz1 hz2 rfl (by decide) _ _ _ rfl (hI.out.own.alloc _) ⟨wr.heap.size, 0, none⟩ 1 1 [.int .u32 ((R : Int) % 65536)] rfl rfl ?c1 ?c2 ?c3 ?c4 ?c5 ?_)
      case c1 => exact cell_one_new _ _ _
      case c2 => intro u hu; simp at hu; subst hu; rfl
      case c3 => unfold maxLen; omega
      case c4 => omega
      case c5 => have := hI.out.m.lt; simp; omega
      intro v' w1 hown' hgrow _
      rw [hDD.out, HDS.out] at hown'
      obtain ⟨p', cap', rfl⟩ := own_slice hown'
      have HI2 := Lib.hid (hI.out.step _ hgrow hown')
      have hb1 : Below (w.heap.size + 1 + 1) wr w1 := by
        have h1 : Below (w.heap.size + 1 + 1) wr (wr.alloc (.cells #[.int .u32 ((R : Int) % 65536)] 22)) := (Below.refl _ _).alloc (by have := hI.out.m.lt; omega) _
        exact h1.grown hgrow (by have := hI.out.m.lt; simp; omega) (own_ge hI.out.own)
      have m1' : w1.cell? ⟨w.heap.size + 1, 1, none⟩ = some (.slice p j cap) := (below_at hb1 (by omega)).trans m1
      have fm' := (hI.out.m.below hb1 (by omega)).free 1
      clear hown' hgrow hb1 m1 fm m0
      go_wp2_with fail
      go_roundw
      case rel => exact ⟨j + 1, R / 65536, p', cap', rfl, by omega, HR2, HL2, HI2⟩
      case measure => simp [intOf]; omega
end Go.Proofs.Ytjfjbkocopaehaa
