/- Supplies of bits: the reference's: a bit, some, below. -/
import Derived.Test.YtjpcljnojipdnaaGreatSupE
namespace Go.Proofs.YtjpcljnojipdnaaGreat
open Go.RowKit
set_option linter.unusedVariables false

/-- The reference's supply in memory. -/
structure SupR (W : World) (g : Nat) (s : ByteArray) (a : Nat) : Prop where
  c0 : W.cell? ⟨g, 0, none⟩ = some (.string s)
  c1 : W.cell? ⟨g, 1, none⟩ = some (.int .i64 a)
  fz : W.frozen? ⟨g, 1, none⟩ = false
theorem SupR.drewN {W : World} {g : Nat} {s : ByteArray} {a : Nat} (h : SupR W g s a) (n : Nat) : SupR (W.drewN n) g s a := ⟨h.c0, h.c1, h.fz⟩
theorem SupR.set {W : World} {g : Nat} {s : ByteArray} {a : Nat} (h : SupR W g s a) (b : Nat) : SupR (W.setCell ⟨g, 1, none⟩ (.int .i64 b)) g s b := by
  refine ⟨?_, World.cell?_setCell_same _ _ _ h.c1, ?_⟩
  · rw [World.cell?_setCell_other _ _ _ _ (by simp)]; exact h.c0
  · simpa using h.fz
theorem supr_below {W W' : World} {g : Nat} {s : ByteArray} {a : Nat} (h : SupR W g s a) (hb : Below W.heap.size W W') : SupR W' g s a :=
  have hg : g < W.heap.size := World.block_lt_of_cell? W ⟨g, 0, none⟩ h.c0
  ⟨(below_at hb hg).trans h.c0, (below_at hb hg).trans h.c1, (hb.frozen (p := ⟨g, 1, none⟩) hg).trans h.fz⟩

theorem bit_val (s : ByteArray) (m j r : Nat) (hj : j = m / 8) (hr : r = m % 8) (hs : j < s.size) :
    IntKind.u64.wrap (bits .and .u8 (((s[j].toNat : Nat) : Int) / 2 ^ (7 - r)) 1) = ((bitAt s m : Nat) : Int) := by
  rw [bit_and _ _ (UInt8.toNat_lt _)]
  have h := bitAt_lt s m
  unfold bitAt at h ⊢
  rw [← hj, ← hr, byte_at s j hs] at h ⊢
  rw [wraps_u64 _ (by omega) (by omega)]

set_option maxHeartbeats 1000000 in
theorem rbit_any (s : ByteArray) (g a : Nat) (w : World) (h : SupR w g s a) (ha : a ≤ 8 * s.size) (hs : s.size ≤ 1048576) :
    Calls Tryz.prog 151 #[.pointer (some ⟨g, 0, none⟩)] w fun e w' =>
      (∃ (v : Nat) (ok : Bool) (b : Nat), e = .returned (.tuple #[.int .u64 v, .bool ok]) ∧ SupR w' g s b ∧ ((ok = true ∧ a < 8 * s.size ∧ v = bitAt s a ∧ b = a + 1) ∨ (ok = false ∧ ¬ a < 8 * s.size ∧ b = a))) ∧ w.grownBy w' (some g) := by
  have h0 := h.c0; have h1 := h.c1; have hz := h.fz
  have H := Lib.hid h
  clear h
  by_cases hT : a < 8 * s.size
  · have hc : ¬ ((8 : Int) * s.size ≤ a) := by omega
    obtain ⟨j, hj⟩ : ∃ j, j = a / 8 := ⟨_, rfl⟩
    obtain ⟨r, hr⟩ : ∃ r, r = a % 8 := ⟨_, rfl⟩
    have hj1 : j < s.size := by omega
    have HN : Hid (_ = _) := bit_val s a j r hj hr hj1
    have HS2 : Hid (SupR (w.setCell ⟨g, 1, none⟩ (.int .i64 (a + 1 : Nat))) g s (a + 1)) := H.out.set (a + 1)
    have e1 : IntKind.i64.wrap ((a : Int) / 8) = (j : Int) := by rw [hj, IntKind.wrap_i64]; omega
    have e2 : (a : Int) % 8 = (r : Int) := by omega
    have e3 : IntKind.i64.wrap (7 - (r : Int)) = ((7 - r : Nat) : Int) := by rw [IntKind.wrap_i64]; omega
    have j0 : (0 : Int) ≤ (j : Int) := by omega
    have j1 : (j : Int) < (s.size : Int) := by omega
    clear hj hr
    go_enter Tryz.func151, Tryz.ntmps151
    go_wp2_with fail
    go_quiet (fail)
    go_wp2_with fail
    go_quiet (fail)
    go_wp2_with fail
    go_ret2
    exact ⟨⟨bitAt s a, true, a + 1, by rw [← HN.out]; rfl, HS2.out.drewN _, .inl ⟨rfl, hT, rfl, rfl⟩⟩, gr_set (gr_drewN (gr_refl _ _) _) _ _⟩
  · have hc : ((8 : Int) * s.size ≤ a) := by omega
    go_enter Tryz.func151, Tryz.ntmps151
    go_wp2_with fail
    go_quiet (fail)
    go_wp2_with fail
    go_ret2
    exact ⟨⟨0, false, a, rfl, H.out.drewN _, .inr ⟨rfl, hT, rfl⟩⟩, gr_drewN (gr_refl _ _) _⟩

set_option maxHeartbeats 1000000 in
theorem rsome_any (s : ByteArray) (g a n : Nat) (w : World) (h : SupR w g s a) (hn : n ≤ 64) (ha : a ≤ 8 * s.size) (hs : s.size ≤ 1048576) :
    Calls Tryz.prog 140 #[.pointer (some ⟨g, 0, none⟩), .int .i64 n] w fun e w' =>
      ∃ (v : Nat) (ok : Bool) (b : Nat), e = .returned (.tuple #[.int .u64 v, .bool ok]) ∧ SupR w' g s b ∧ w.grownBy w' (some g) ∧ b ≤ 8 * s.size ∧ ((ok = true ∧ someAt s n a = some (v, b)) ∨ (ok = false ∧ someAt s n a = none)) := by
  have H := Lib.hid h
  clear h
  go_enter Tryz.func140, Tryz.ntmps140
  go_wp2_with fail
  go_loopw [6, 7, 8, 9] (fun v6 vi _ _ wr => ∃ i : Nat, vi = .int .i64 i ∧ i ≤ n ∧ v6 = .int .u64 (numAt s a i : Nat) ∧ Hid (SupR wr g s (a + i)) ∧ a + i ≤ 8 * s.size ∧ w.grownBy wr (some g)) (fun _ vi _ _ _ => n - (intOf vi).toNat)
  case atStart => exact ⟨0, rfl, by omega, rfl, H, by omega, gr_refl _ _⟩
  case round =>
    obtain ⟨i, rfl, hi, rfl, hsup, hai, hgr⟩ := hrel
    by_cases hlt : i < n
    · go_wp2_with fail
      refine (rbit_any s g (a + i) _ hsup.out hai hs).mono ?_
      rintro e w1 ⟨⟨v, ok, b, rfl, hb, hcase⟩, hg1⟩
      have HB := Lib.hid hb
      have HG := Lib.hid (gr_trans hgr hg1)
      clear hb hg1 hgr hsup
      rcases hcase with ⟨rfl, h1, h2, h3⟩ | ⟨rfl, h1, h3⟩
      · subst h2 h3
        have hbd := numAt_lt s a (i + 1)
        have hp : 2 ^ (i + 1) ≤ 2 ^ 64 := Nat.pow_le_pow_right (by decide) (by omega)
        have hst : numAt s a (i + 1) = 2 * numAt s a i + bitAt s (a + i) := rfl
        have e1 : IntKind.u64.wrap (2 * ((numAt s a i : Nat) : Int)) = 2 * ((numAt s a i : Nat) : Int) := by rw [wraps_u64 _ (by omega) (by omega)]
        have HV : Hid (IntKind.u64.wrap (2 * ((numAt s a i : Nat) : Int) + ((bitAt s (a + i) : Nat) : Int)) = ((numAt s a (i + 1) : Nat) : Int)) := by
          show _ = _
          rw [wraps_u64 _ (by omega) (by omega)]; omega
        clear hst hbd hp
        go_wp2_with fail
        go_roundw
        case rel => exact ⟨i + 1, by go_num, by omega, by rw [HV.out], HB, by omega, HG.out⟩
        case measure => simp [intOf]; omega
      · have HR : Hid (someAt s n a = none) := someAt_no (by omega)
        have hb : b ≤ 8 * s.size := by omega
        clear h1 h3
        go_wp2_with fail
        go_ret2
        exact ⟨0, _, _, rfl, HB.out, HG.out, hb, .inr ⟨rfl, HR.out⟩⟩
    · obtain rfl : i = n := by omega
      have HR : Hid (someAt s i a = some (numAt s a i, a + i)) := someAt_yes hai
      go_wp2_with fail
      go_ret2
      exact ⟨_, _, _, rfl, hsup.out, hgr, hai, .inl ⟨rfl, HR.out⟩⟩

theorem lenF_half {f m : Nat} (h : m < 2 ^ f) (hm : 0 < m) : lenF f m = 1 + lenF f (m / 2) := by
  have more : ∀ f m, m < 2 ^ f → lenF (f + 1) m = lenF f m := by
    intro f
    induction f with
    | zero => intro m hm; obtain rfl : m = 0 := by simp at hm; omega
              rfl
    | succ f ih =>
      intro m hm
      have h2 : lenF (f + 1 + 1) m = if m = 0 then 0 else 1 + lenF (f + 1) (m / 2) := rfl
      have h3 : lenF (f + 1) m = if m = 0 then 0 else 1 + lenF f (m / 2) := rfl
      rw [h2, h3, ih (m / 2) (by rw [Nat.pow_succ] at hm; omega)]
  cases f with
  | zero => simp at h; omega
  | succ f =>
    have h3 : lenF (f + 1) m = if m = 0 then 0 else 1 + lenF f (m / 2) := rfl
    rw [h3, if_neg (by omega), more f (m / 2) (by rw [Nat.pow_succ] at h; omega)]

set_option maxHeartbeats 1000000 in
theorem rbelow_any (s : ByteArray) (g a n : Nat) (w : World) (h : SupR w g s a) (hn : 1 ≤ n) (hn2 : n < 18446744073709551616) (ha : a ≤ 8 * s.size) (hs : s.size ≤ 1048576) :
    Calls Tryz.prog 107 #[.pointer (some ⟨g, 0, none⟩), .int .u64 n] w fun e w' =>
      ∃ (v : Nat) (ok : Bool) (b : Nat), e = .returned (.tuple #[.int .u64 v, .bool ok]) ∧ SupR w' g s b ∧ w.grownBy w' (some g) ∧ b ≤ 8 * s.size ∧ ((ok = true ∧ belAt s n a = some (v, b)) ∨ (ok = false ∧ belAt s n a = none)) := by
  have H := Lib.hid h
  clear h
  have e1 : IntKind.u64.wrap ((n : Int) - 1) = ((n - 1 : Nat) : Int) := by rw [IntKind.wrap_u64]; omega
  obtain ⟨k, hk⟩ : ∃ k, lenOf (n - 1) = k := ⟨_, rfl⟩
  have hk64 : k ≤ 64 := by rw [← hk]; exact lenF_le 64 _
  have hk1 : 1 ≤ k ∨ 1 ≤ n ∧ k = 0 := by rw [← hk]; exact lenOf_zero hn
  have HK := Lib.hid hk
  clear hk
  go_enter Tryz.func107, Tryz.ntmps107
  go_wp2_with fail
  clear e1
  go_loop [6, 7] (fun v6 v7 => ∃ i m : Nat, v6 = .int .i64 i ∧ v7 = .int .u64 m ∧ m < 18446744073709551616 ∧ i ≤ 64 ∧ Hid (i + lenF 64 m = k)) (fun _ v7 => (intOf v7).toNat)
  case atStart => exact ⟨0, n - 1, rfl, rfl, by omega, by omega, by show _ = _; rw [Nat.zero_add]; exact HK.out⟩
  case round =>
    obtain ⟨i, m, rfl, rfl, hm, hi, hik⟩ := hrel
    by_cases hm0 : 0 < m
    · have hd : Hid (i + 1 + lenF 64 (m / 2) = k) := by
        have := lenF_half (f := 64) (m := m) (by omega) hm0
        have h2 := hik.out
        show _ = _; omega
      have hi64 : i + 1 ≤ 64 := by have := hd.out; omega
      have e1 : IntKind.u64.wrap ((m : Int) / 2) = ((m / 2 : Nat) : Int) := by rw [IntKind.wrap_u64]; omega
      have p0 : (0 : Int) < (m : Int) := by omega
      go_wp2_with fail
      go_round
      case rel => exact ⟨i + 1, m / 2, by go_num, rfl, by omega, hi64, hd⟩
      case measure => simp [intOf]; omega
    · obtain rfl : m = 0 := by omega
      obtain rfl : i = k := by have := hik.out; simp [lenF] at this; exact this
      clear hik
      go_wp2_with fail
      go_loopw [8, 9] (fun _ _ wr => ∃ b : Nat, b ≤ 8 * s.size ∧ Hid (SupR wr g s b) ∧ Hid (belAt s n b = belAt s n a) ∧ w.grownBy wr (some g)) (fun _ _ wr => 8 * s.size + 1 - (intOf ((wr.cell? ⟨g, 1, none⟩).getD default)).toNat)
      case atStart => exact ⟨a, ha, H, rfl, gr_refl _ _⟩
      case round =>
        obtain ⟨b, hb, hsup, hbel, hgr⟩ := hrel
        have hm : intOf ((wr.cell? ⟨g, 1, none⟩).getD default) = (b : Int) := by rw [hsup.out.c1]; rfl
        have HM := Lib.hid hm
        clear hm
        go_wp2_with fail
        refine (rsome_any s g b i _ hsup.out hk64 hb hs).mono ?_
        rintro e w1 ⟨v, ok, c, rfl, hc, hg1, hc8, hcase⟩
        have HC := Lib.hid hc
        have HG := Lib.hid (gr_trans hgr hg1)
        rcases some_cases (s := s) (n := i) (a := b) with ⟨hs1, hs2⟩ | ⟨hs1, hs2⟩
        · rcases hcase with ⟨_, h2⟩ | ⟨rfl, _⟩
          · rw [hs1] at h2; cases h2
          have HR : Hid (belAt s n a = none) := hbel.out.symm.trans (belAt_none hn (by rw [HK.out]; exact hs2))
          clear hs1 hs2 hc hg1 hgr hsup
          go_wp2_with fail
          go_ret2
          exact ⟨_, _, _, rfl, HC.out, HG.out, hc8, .inr ⟨rfl, HR.out⟩⟩
        · rcases hcase with ⟨rfl, h2⟩ | ⟨_, h2⟩
          case inr => rw [hs1] at h2; cases h2
          rw [hs1] at h2
          cases h2
          by_cases hv : numAt s b i < n
          · have HR : Hid (belAt s n a = some (numAt s b i, b + i)) := by
              have h1 := belAt_hit (s := s) (a := b) hn
              rw [HK.out] at h1
              exact hbel.out.symm.trans (h1 hs2 hv)
            have hv1 : decide (((numAt s b i : Nat) : Int) < (n : Int)) = true := decide_eq_true (by omega)
            clear hs1 hc hg1 hgr hsup
            go_wp2_with fail
            go_ret2
            exact ⟨_, _, _, rfl, HC.out, HG.out, hs2, .inl ⟨rfl, HR.out⟩⟩
          · have HR : Hid (belAt s n (b + i) = belAt s n a) := by
              have h1 := belAt_miss (s := s) (a := b) hn
              rw [HK.out] at h1
              exact (h1 hs2 hv).symm.trans hbel.out
            have hv1 : decide (((numAt s b i : Nat) : Int) < (n : Int)) = false := decide_eq_false (by omega)
            have hk0 : 1 ≤ i := by
              rcases hk1 with h | ⟨_, rfl⟩
              · exact h
              · simp only [numAt] at hv; omega
            have hm2 : Hid (intOf ((w1.cell? ⟨g, 1, none⟩).getD default) = ((b + i : Nat) : Int)) := by show _ = _; rw [HC.out.c1]; rfl
            clear hs1 hc hg1 hgr hsup
            go_wp2_with fail
            go_roundw
            case rel => exact ⟨b + i, hs2, HC, HR, HG.out⟩
            case measure => rw [HM.out, hm2.out]; omega
end Go.Proofs.YtjpcljnojipdnaaGreat
