/- The reference's wide layer: mul. -/
import Derived.Test.YtjfjbkocopaehaaWidF
namespace Go.Proofs.Ytjfjbkocopaehaa
open Go.RowKit
set_option linter.unusedVariables false

/-- What mul holds. -/
structure MulR (w W : World) (pa : Option Addr) (ca : Nat) (pb : Option Addr) (cb : Nat) (n m : Nat) (L : List Nat) : Prop where
  a0 : W.cell? ⟨w.heap.size, 0, none⟩ = some (.bool false)
  a1 : W.cell? ⟨w.heap.size, 1, none⟩ = some (.slice pa n ca)
  b0 : W.cell? ⟨w.heap.size + 1, 0, none⟩ = some (.bool false)
  b1 : W.cell? ⟨w.heap.size + 1, 1, none⟩ = some (.slice pb m cb)
  r : Blk W (w.heap.size + 1 + 1) [.bool false, .slice none 0 0] 120
  l : Blk W (w.heap.size + 1 + 1 + 1) (u32s L) 22
  len : L.length = n + m
  bel : Below w.heap.size w W
theorem MulR.drewN {w W : World} {pa : Option Addr} {ca : Nat} {pb : Option Addr} {cb n m : Nat} {L : List Nat} (h : MulR w W pa ca pb cb n m L) (k : Nat) : MulR w (W.drewN k) pa ca pb cb n m L :=
  have hb := below_drewN (Below.refl W.heap.size W) k
  have h1 := h.l.lt
  ⟨(below_at hb (by omega)).trans h.a0, (below_at hb (by omega)).trans h.a1, (below_at hb (by omega)).trans h.b0, (below_at hb (by omega)).trans h.b1, h.r.below hb (by omega), h.l.below hb h1, h.len, below_drewN h.bel k⟩
theorem MulR.uset {w W : World} {pa : Option Addr} {ca : Nat} {pb : Option Addr} {cb n m : Nat} {L : List Nat} (h : MulR w W pa ca pb cb n m L) (i q : Nat) : MulR w (W.setCell ⟨w.heap.size + 1 + 1 + 1, i, none⟩ (.int .u32 (q : Nat))) pa ca pb cb n m (L.set i q) :=
  have hb : Below (w.heap.size + 1 + 1 + 1) W (W.setCell ⟨w.heap.size + 1 + 1 + 1, i, none⟩ (.int .u32 (q : Nat))) := (Below.refl _ _).setCell (p := ⟨w.heap.size + 1 + 1 + 1, i, none⟩) (Nat.le_refl _) _
  ⟨(below_at hb (by omega)).trans h.a0, (below_at hb (by omega)).trans h.a1, (below_at hb (by omega)).trans h.b0, (below_at hb (by omega)).trans h.b1, h.r.below hb (by omega), h.l.uset i q, by rw [List.length_set]; exact h.len, h.bel.trans (hb.mono (by omega))⟩

set_option maxHeartbeats 4000000 in
set_option maxRecDepth 100000 in
theorem rmul_any (v u n m : Nat) (pv pu : Value) (w : World) (hv : SliceAt w pv (digs HW v n)) (hu : SliceAt w pu (digs HW u m)) (hvn : v < HW ^ n) (hum : u < HW ^ m) (hn : n ≤ 256) (hm : m ≤ 256) (hpos : 0 < v * u) (h0 : 0 < n + m) :
    Calls Try.prog 94 #[.agg #[.bool false, pv], .agg #[.bool false, pu]] w fun e w' => (∃ g k c, e = .returned (.agg #[.bool false, .slice (some ⟨g, 0, none⟩) k c]) ∧ ND HW (v * u) k ∧ k ≤ c ∧ RowAt w' g 0 (digs HW (v * u) k)) ∧ Below w.heap.size w w' := by
  have HVS := Lib.hid hv; have HUS := Lib.hid hu
  obtain ⟨pa, ca, rfl⟩ : ∃ p c, pv = .slice p n c := by obtain ⟨p, c, e, _⟩ := hv; rw [digs_length] at e; exact ⟨p, c, e⟩
  obtain ⟨pb, cb, rfl⟩ : ∃ p c, pu = .slice p m c := by obtain ⟨p, c, e, _⟩ := hu; rw [digs_length] at e; exact ⟨p, c, e⟩
  have HV := Lib.hid hvn; have HU := Lib.hid hum
  clear hv hu hvn hum
  obtain ⟨cs, hcs⟩ : ∃ cs, cs = (u32s (List.replicate (n + m) 0)).toArray := ⟨_, rfl⟩
  have hmk : ∀ W : World, (Instr.makeSlice 23 (.int .i64 ((n : Int) + (m : Int))) (.int .i64 ((n : Int) + (m : Int)))).run Try.prog W = .ok (.slice (some ⟨W.heap.size, 0, none⟩) (n + m) (n + m)) (W.alloc (.cells cs 22)) := by
    intro W
    obtain ⟨i0, hi0, hz0, hz1, hz2⟩ := info_parts infoU32
    have h := run_make W 23 22 i0 (.int .u32 0) Try.underlying23 hi0 hz0 .i64 .i64 ((n : Int) + (m : Int)) ((n : Int) + (m : Int)) (by omega) (Int.le_refl _) (by rw [hz2]; omega) (by omega)
    rw [h, show ((n : Int) + (m : Int)).toNat = n + m by omega, hz1, Nat.mul_one]
    congr 3
    rw [hcs]
    apply Array.ext
    · simp [madeCells, u32s]
    · intro i h1 h2
      simp [madeCells, u32s, Value.cells, Nat.mod_one]
  have hB : Below w.heap.size w ((((w.alloc (.cells #[.bool false, .slice pa n ca] 120)).alloc (.cells #[.bool false, .slice pb m cb] 120)).alloc (.cells #[.bool false, .slice none 0 0] 120)).alloc (.cells cs 22)) := ((((Below.refl _ _).alloc (Nat.le_refl _) _).alloc (by simp) _).alloc (by simp; omega) _).alloc (by simp; omega) _
  have hM : MulR w ((((w.alloc (.cells #[.bool false, .slice pa n ca] 120)).alloc (.cells #[.bool false, .slice pb m cb] 120)).alloc (.cells #[.bool false, .slice none 0 0] 120)).alloc (.cells cs 22)) pa ca pb cb n m (List.replicate (n + m) 0) := by
    refine ⟨by simp [go_sem], by simp [go_sem], by simp [go_sem], by simp [go_sem], ?_, ?_, by simp, hB⟩
    · have h := (Blk.new ((w.alloc (.cells #[.bool false, .slice pa n ca] 120)).alloc (.cells #[.bool false, .slice pb m cb] 120)) #[.bool false, .slice none 0 0] 120).alloc (.cells cs 22)
      simpa using h
    · have h := Blk.new (((w.alloc (.cells #[.bool false, .slice pa n ca] 120)).alloc (.cells #[.bool false, .slice pb m cb] 120)).alloc (.cells #[.bool false, .slice none 0 0] 120)) cs 22
      rw [hcs] at h ⊢
      simpa using h
  have HM := Lib.hid hM
  clear hB hM hcs
  go_enter Try.func94, Try.ntmps94
  go_wp2_with fail
  generalize ((((w.alloc (.cells #[.bool false, .slice pa n ca] 120)).alloc (.cells #[.bool false, .slice pb m cb] 120)).alloc (.cells #[.bool false, .slice none 0 0] 120)).alloc (.cells cs 22)) = W at HM ⊢
  clear hmk
  go_loopw [6, 7, 8] (fun vi _ _ wr => ∃ (i : Nat) (L : List Nat), vi = .int .i64 i ∧ i ≤ n ∧ Hid (MulR w wr pa ca pb cb n m L) ∧ Hid (∀ p, p < n + m → L.getD p 0 = dig HW (rowT HW v u i) p)) (fun vi _ _ _ => n - (intOf vi).toNat)
  case atStart => exact ⟨0, _, rfl, by omega, HM, fun p hp => by
    rw [rowT_zero, List.getD_eq_getElem?_getD, List.getElem?_replicate]; simp [hp, dig]⟩
  case round =>
    obtain ⟨i, L, rfl, hi, hk, hg⟩ := hrel
    have y0 := hk.out.a0; have y1 := hk.out.a1; have y2 := hk.out.b0; have y3 := hk.out.b1
    by_cases hin : i < n
    case neg =>
      obtain rfl : n = i := by omega
      have hgg : Hid (L = digs HW (v * u) (n + m)) := by
        show _ = _
        apply List.ext_getElem
        · rw [hk.out.len, digs_length]
        · intro p h1 h2
          rw [digs_getElem, ← rowT_full HV.out, ← hg.out p (by rw [← hk.out.len]; exact h1), List.getD_eq_getElem?_getD, List.getElem?_eq_getElem h1]; rfl
      have hvu : Hid (v * u < HW ^ (n + m)) := by show _ < _; rw [← rowT_full (b := u) HV.out]; exact rowT_lt (by decide) HU.out
      have r0 := hk.out.r.cell 0 (by simp)
      have r1 := hk.out.r.cell 1 (by simp)
      have f0 := hk.out.r.free 0
      have f1 := hk.out.r.free 1
      simp only [List.getElem_cons_zero, List.getElem_cons_succ] at r0 r1
      have HR : Hid (RowAt wr (w.heap.size + 1 + 1 + 1) 0 (digs HW (v * u) (n + m))) := by
        have h := RowAt.ofBlk hk.out.l (by rw [hgg.out]; exact fun q hq => Nat.lt_of_lt_of_le (digs_bd (B := HW) (by decide) q hq) (by decide))
        rw [hgg.out] at h; exact h
      go_wp2_with (go_at_call 116; refine (rtrim_any (v * u) (n + m) (w.heap.size + 1 + 1 + 1) 0 (n + m) _ HR.out (Nat.le_refl _) (by omega) hvu.out hpos).mono ?_; rintro e W3 ⟨⟨g3, k3, c3, rfl, hn3, hk3, hs3, hg3⟩, hb3⟩; have hr3 := hk.out.r.below hb3 hk.out.r.lt; have HR3 := Lib.hid hr3; have HB3 := Lib.hid (hk.out.bel.trans (hb3.mono hk.out.bel.size)); have HN3 := Lib.hid hn3; have HS3 := Lib.hid hs3; clear hn3 hs3 hb3 hr3 r0 r1 f0 f1; have r0 := HR3.out.cell 0 (by simp); have r1 := HR3.out.cell 1 (by simp); have f0 := HR3.out.free 0; have f1 := HR3.out.free 1; simp only [List.getElem_cons_zero, List.getElem_cons_succ] at r0 r1)
      have hgl : w.heap.size + 1 + 1 + 1 ≤ g3 := by have := hk.out.l.lt; omega
      have hs4 : RowAt ((W3.setCell ⟨w.heap.size + 1 + 1, 0, none⟩ (.bool false)).setCell ⟨w.heap.size + 1 + 1, 1, none⟩ (.slice (some ⟨g3, 0, none⟩) k3 c3)) g3 0 (digs HW (v * u) k3) := by
        refine ⟨by simpa using HS3.out.blk, fun q hq => ?_, HS3.out.rng⟩
        rw [← HS3.out.cell q hq, World.cell?_setCell_far _ _ _ _ (by show ¬ w.heap.size + 1 + 1 = g3; omega), World.cell?_setCell_far _ _ _ _ (by show ¬ w.heap.size + 1 + 1 = g3; omega)]
      have HS4 := Lib.hid hs4
      have HBF := Lib.hid ((HB3.out.setCell (p := ⟨w.heap.size + 1 + 1, 0, none⟩) (by show w.heap.size ≤ w.heap.size + 1 + 1; omega) (.bool false)).setCell (p := ⟨w.heap.size + 1 + 1, 1, none⟩) (by show w.heap.size ≤ w.heap.size + 1 + 1; omega) (.slice (some ⟨g3, 0, none⟩) k3 c3))
      have hZ := (HR3.out.set 0 (.bool false)).set 1 (.slice (some ⟨g3, 0, none⟩) k3 c3)
      have z0 := hZ.cell 0 (by simp)
      have z1 := hZ.cell 1 (by simp)
      simp only [List.set_cons_zero, List.set_cons_succ, List.getElem_cons_zero, List.getElem_cons_succ] at z0 z1
      refine bodyPost_ret (v := .agg #[.bool false, .slice (some ⟨g3, 0, none⟩) k3 c3]) (by simp [results, Try.results94, go_sem, z0, z1]) rfl ⟨⟨_, _, _, rfl, HN3.out, hk3, HS4.out⟩, HBF.out⟩
    case pos =>
    have i1 : (i : Int) < (n : Int) := by omega
    have i0 : (0 : Int) ≤ (i : Int) := by omega
    go_wp2_with fail
    go_loopw [7, 8] (fun vc vk wr => ∃ (k : Nat) (L : List Nat), vk = .int .i64 k ∧ k ≤ m ∧ vc = .int .u32 (rowC HW v u i k : Nat) ∧ Hid (MulR w wr pa ca pb cb n m L) ∧ Hid (∀ p, p < n + m → L.getD p 0 = rowF HW v u i k p)) (fun _ vk _ => m - (intOf vk).toNat)
    case atStart => exact ⟨0, L, rfl, by omega, by rw [rowC_zero]; rfl, hk, fun p hp => by rw [rowF_zero]; exact hg.out p hp⟩
    case round =>
      clear y0 y1 y2 y3
      obtain ⟨k, L2, rfl, hk0, rfl, hk2, hg2⟩ := hrel
      have y0 := hk2.out.a0; have y1 := hk2.out.a1; have y2 := hk2.out.b0; have y3 := hk2.out.b1
      by_cases hkm : k < m
      case neg =>
        obtain rfl : m = k := by omega
        have hc0 := rowC_lt (a := v) (b := u) (i := i) (k := m) (B := HW) (by decide)
        have HF : Hid (∀ p, dig HW (rowT HW v u (i + 1)) p = if p = i + m then rowC HW v u i m else rowF HW v u i m p) := fun p => rowF_last (by decide) HU.out
        generalize rowC HW v u i m = c at hc0 HF ⊢
        have hWB : HW = 65536 := rfl
        rw [hWB] at hc0
        have kt := hk2.out.l.ucell (i := i + m) (by rw [hk2.out.len]; omega)
        have kf := hk2.out.l.free (i + m)
        have q0 : (0 : Int) ≤ (i : Int) + (m : Int) := by omega
        have q1 : (i : Int) + (m : Int) < ((n + m : Nat) : Int) := by omega
        have q2 : ((i : Int) + (m : Int)).toNat = i + m := by omega
        clear hWB
        go_wp2_with fail
        go_roundw
        case rel => exact ⟨i + 1, L2.set (i + m) c, by go_num, by omega, hk2.out.uset _ _, fun p hp => by
          rw [ngetD_set _ _ _ _ (by rw [hk2.out.len]; exact hp), HF.out p]
          by_cases e : i + m = p
          · rw [if_pos e, if_pos e.symm]
          · rw [if_neg e, if_neg (fun h => e h.symm)]; exact hg2.out p hp⟩
        case measure => simp [intOf]; omega
      case pos =>
      obtain ⟨_, _, ea, _, _, hca⟩ := HVS.out
      obtain ⟨_, _, eb, _, _, hcb⟩ := HUS.out
      obtain ⟨ba, oa, hpa, hra⟩ := hca (by intro h; have := congrArg List.length h; rw [digs_length] at this; simp at this; omega)
      obtain ⟨bb, ob, hpb, hrb⟩ := hcb (by intro h; have := congrArg List.length h; rw [digs_length] at this; simp at this; omega)
      injection ea with ea1 ea2 ea3
      injection eb with eb1 eb2 eb3
      clear ea2 ea3 eb2 eb3
      subst ea1 eb1 hpa hpb
      have ka := (below_at hk2.out.bel hra.blk).trans (hra.cell i (by rw [digs_length]; exact hin))
      have kb := (below_at hk2.out.bel hrb.blk).trans (hrb.cell k (by rw [digs_length]; exact hkm))
      rw [digs_getElem] at ka kb
      have kt := hk2.out.l.ucell (i := i + k) (by rw [hk2.out.len]; omega)
      have kf := hk2.out.l.free (i + k)
      rw [hg2.out (i + k) (by omega), rowF_at] at kt
      have hbd := row_bd (a := v) (b := u) (i := i) (k := k) (B := HW) (by decide)
      have hA := dig_lt (B := HW) (by decide) v i
      have hC := dig_lt (B := HW) (by decide) u k
      have hD := dig_lt (B := HW) (by decide) (rowT HW v u i) (i + k)
      have hc0 := rowC_lt (a := v) (b := u) (i := i) (k := k) (B := HW) (by decide)
      have HF : Hid (∀ p, rowF HW v u i (k + 1) p = if p = i + k then (rowC HW v u i k + dig HW (rowT HW v u i) (i + k) + dig HW v i * dig HW u k) % HW else rowF HW v u i k p) := fun p => rowF_step (by decide)
      have HCC : Hid (rowC HW v u i (k + 1) = (rowC HW v u i k + dig HW (rowT HW v u i) (i + k) + dig HW v i * dig HW u k) / HW) := row_carry (by decide)
      generalize dig HW v i = A at ka hA hbd HF HCC
      generalize dig HW u k = C at kb hC hbd HF HCC
      generalize dig HW (rowT HW v u i) (i + k) = D at kt hD hbd HF HCC
      generalize rowC HW v u i k = c at hc0 hbd HF HCC ⊢
      obtain ⟨P, hP⟩ : ∃ P, A * C = P := ⟨_, rfl⟩
      have eP : (A : Int) * (C : Int) = (P : Int) := by rw [← hP, Int.natCast_mul]
      rw [hP] at hbd HF HCC
      have hWB : HW = 65536 := rfl
      have hWW : HW * HW = 4294967296 := rfl
      rw [hWW] at hbd
      rw [hWB] at hA hC hD hc0
      obtain ⟨s, hs⟩ : ∃ s, c + D + P = s := ⟨_, rfl⟩
      rw [hs] at hbd HF HCC
      have eS : (c : Int) + (D : Int) + (P : Int) = (s : Int) := by omega
      have q0 : (0 : Int) ≤ (i : Int) + (k : Int) := by omega
      have q1 : (i : Int) + (k : Int) < ((n + m : Nat) : Int) := by omega
      have q2 : ((i : Int) + (k : Int)).toNat = i + k := by omega
      have wP : IntKind.u32.wrap (P : Int) = (P : Int) := wraps_u32 _ (by omega) (by omega)
      have wDP : IntKind.u32.wrap ((c : Int) + (D : Int)) = (c : Int) + (D : Int) := wraps_u32 _ (by omega) (by omega)
      have wS : IntKind.u32.wrap (s : Int) = (s : Int) := wraps_u32 _ (by omega) (by omega)
      have k1 : (k : Int) < (m : Int) := by omega
      have k00 : (0 : Int) ≤ (k : Int) := by omega
      have HBD := Lib.hid hbd
      clear hP hs hWB hWW hca hcb hbd
      go_wp2_with fail
      go_quiet (fail)
      go_wp2_with fail
      have em : (s : Int) % 65536 = ((s % 65536 : Nat) : Int) := by omega
      have ed : (s : Int) / 65536 % 4294967296 = ((s / 65536 : Nat) : Int) := by have := HBD.out; omega
      go_roundw
      case rel => exact ⟨k + 1, L2.set (i + k) (s % 65536), by go_num, by omega, by rw [HCC.out]; exact congrArg (Value.int .u32) ed, by rw [em]; exact (hk2.out.drewN _).uset _ _, fun p hp => by
        rw [ngetD_set _ _ _ _ (by rw [hk2.out.len]; exact hp), HF.out p]
        by_cases e : i + k = p
        · rw [if_pos e, if_pos e.symm]; rfl
        · rw [if_neg e, if_neg (fun h => e h.symm)]; exact hg2.out p hp⟩
      case measure => simp [intOf]; omega
end Go.Proofs.Ytjfjbkocopaehaa
