/- Supplies of bits: taking bits. -/
import Derived.Test.YtjpcljnojipdnaaGreatSupA
import Derived.Test.YtjpcljnojipdnaaGreatParX
import Derived.Test.YtjpcljnojipdnaaGreatShelf
import Derived.Deep.QuietTactic
import Derived.BigQuiet
import Derived.IntWalk
namespace Go.Proofs.YtjpcljnojipdnaaGreat
open Go.RowKit

theorem gr_refl (w : World) (g : Nat) : w.grownBy w (some g) := ⟨rfl, rfl, rfl, Nat.le_refl _, fun _ _ _ => rfl⟩
theorem gr_trans {a b c : World} {g : Nat} (h : a.grownBy b (some g)) (k : b.grownBy c (some g)) : a.grownBy c (some g) :=
  ⟨k.os.trans h.os, k.tape.trans h.tape, k.output.trans h.output, Nat.le_trans h.size k.size, fun i hi hne => (k.block i (Nat.lt_of_lt_of_le hi h.size) hne).trans (h.block i hi hne)⟩
theorem gr_drewN {w w' : World} {g : Nat} (h : w.grownBy w' (some g)) (n : Nat) : w.grownBy (w'.drewN n) (some g) := ⟨h.os, h.tape, h.output, h.size, h.block⟩
theorem gr_set {w w' : World} {g : Nat} (h : w.grownBy w' (some g)) (i : Nat) (u : Value) : w.grownBy (w'.setCell ⟨g, i, none⟩ u) (some g) :=
  gr_trans h ⟨rfl, rfl, rfl, by simp [World.setCell], fun k _ hne => Below.heap_setCell _ _ _ _ (fun e => hne (by rw [e]))⟩

theorem wraps_u64 (n : Int) (h₀ : 0 ≤ n) (h₁ : n < 2 ^ 64) : IntKind.u64.wrap n = n := by rw [IntKind.wrap_u64]; omega
theorem bit_and (b t : Nat) (hb : b < 256) : bits .and .u8 ((b : Int) / 2 ^ t) 1 = ((b / 2 ^ t % 2 : Nat) : Int) := by
  have hx : ((b : Int) / 2 ^ t) = ((b / 2 ^ t : Nat) : Int) := by simp
  have hlt : b / 2 ^ t < 256 := Nat.lt_of_le_of_lt (Nat.div_le_self _ _) hb
  rw [hx]
  have h := bits_mask .u8 8 (by decide) wraps_u8 1 (by decide) ((b / 2 ^ t : Nat) : Int) (Int.natCast_nonneg _) (by omega)
  have e : (2 : Int) ^ 1 - 1 = 1 := by decide
  rw [e] at h
  rw [h]
  generalize b / 2 ^ t = z
  omega
theorem bit_step (v b t : Nat) (hv : v < 2 ^ 63) (hb : b < 256) : bits .or .u64 (IntKind.u64.wrap ((v : Int) * 2)) (IntKind.u64.wrap (bits .and .u8 ((b : Int) / 2 ^ t) 1)) = ((2 * v + b / 2 ^ t % 2 : Nat) : Int) := by
  have h2 : b / 2 ^ t % 2 < 2 := Nat.mod_lt _ (by decide)
  rw [bit_and b t hb]
  generalize b / 2 ^ t % 2 = z at h2 ⊢
  rw [wraps_u64 _ (by omega) (by omega), wraps_u64 _ (by omega) (by omega)]
  rw [bits_join .u64 64 (by decide) wraps_u64 1 _ _ (by omega) (by omega) (by omega) (by omega) (by omega) (by omega)]
  omega
theorem byte_at (s : ByteArray) (j : Nat) (hj : j < s.size) : s.data.toList.getD j 0 = s[j] := by
  rw [List.getD_eq_getElem?_getD, List.getElem?_eq_getElem (by simpa using hj)]; rfl
theorem someAt_yes {s : ByteArray} {n a : Nat} (h : a + n ≤ 8 * s.size) : someAt s n a = some (numAt s a n, a + n) := by unfold someAt; rw [if_pos h]
theorem someAt_no {s : ByteArray} {n a : Nat} (h : ¬ a + n ≤ 8 * s.size) : someAt s n a = none := by unfold someAt; rw [if_neg h]
theorem num_step (s : ByteArray) (a k j r : Nat) (hk : k < 64) (hj : j = (a + k) / 8) (hr : r = (a + k) % 8) (hs : j < s.size) :
    bits .or .u64 (IntKind.u64.wrap (((numAt s a k : Nat) : Int) * 2)) (IntKind.u64.wrap (bits .and .u8 (((s[j].toNat : Nat) : Int) / 2 ^ (7 - r)) 1)) = ((numAt s a (k + 1) : Nat) : Int) := by
  have h := numAt_lt s a k
  have hp : 2 ^ k ≤ 2 ^ 63 := Nat.pow_le_pow_right (by decide) (by omega)
  rw [bit_step _ _ _ (by omega) (UInt8.toNat_lt _)]
  simp only [numAt]
  unfold bitAt
  rw [← hj, ← hr, byte_at s j hs]

/-- A supply in memory. -/
structure SupB (W : World) (g : Nat) (s : ByteArray) (a : Nat) : Prop where
  c0 : W.cell? ⟨g, 0, none⟩ = some (.string s)
  c1 : W.cell? ⟨g, 1, none⟩ = some (.int .i64 a)
  c2 : W.cell? ⟨g, 2, none⟩ = some (.bool true)
  fz : W.frozen? ⟨g, 1, none⟩ = false
theorem SupB.drewN {W : World} {g : Nat} {s : ByteArray} {a : Nat} (h : SupB W g s a) (n : Nat) : SupB (W.drewN n) g s a := ⟨h.c0, h.c1, h.c2, h.fz⟩
theorem SupB.set {W : World} {g : Nat} {s : ByteArray} {a : Nat} (h : SupB W g s a) (b : Nat) : SupB (W.setCell ⟨g, 1, none⟩ (.int .i64 b)) g s b := by
  refine ⟨?_, World.cell?_setCell_same _ _ _ h.c1, ?_, ?_⟩
  · rw [World.cell?_setCell_other _ _ _ _ (by simp)]; exact h.c0
  · rw [World.cell?_setCell_other _ _ _ _ (by simp)]; exact h.c2
  · simpa using h.fz

set_option maxHeartbeats 1000000 in
theorem some_any (s : ByteArray) (g a n : Nat) (w : World) (h : SupB w g s a) (hn : n ≤ 64) (ha : a ≤ 8 * s.size) (hs : s.size ≤ 1048576) :
    Calls Tryz.prog 126 #[.pointer (some ⟨g, 0, none⟩), .int .i64 n] w fun e w' =>
      (∃ (v : Nat) (ok : Bool) (b : Nat), e = .returned (.tuple #[.int .u64 v, .bool ok]) ∧ SupB w' g s b ∧ ((ok = true ∧ someAt s n a = some (v, b)) ∨ (ok = false ∧ someAt s n a = none ∧ b = a))) ∧ w.grownBy w' (some g) := by
  have h0 := h.c0; have h1 := h.c1; have h2 := h.c2; have hz := h.fz
  have H := Lib.hid h
  clear h
  by_cases hT : a + n ≤ 8 * s.size
  · have hc : ¬ ((8 : Int) * s.size - a < n) := by omega
    have HR : Hid (someAt s n a = some (numAt s a n, a + n)) := someAt_yes hT
    go_enter Tryz.func126, Tryz.ntmps126
    go_wp2_with fail
    go_quiet (fail)
    go_wp2_with fail
    go_loopw [6, 21] (fun v6 v21 wr => ∃ k : Nat, v21 = .int .i64 k ∧ k ≤ n ∧ v6 = .int .u64 (numAt s a k : Nat) ∧ Hid (SupB wr g s (a + k)) ∧ w.grownBy wr (some g)) (fun _ v21 _ => n - (intOf v21).toNat)
    case atStart => exact ⟨0, rfl, by omega, rfl, H.out.drewN _, gr_drewN (gr_refl _ _) _⟩
    case round =>
      obtain ⟨k, rfl, hk, rfl, hsup, hgr⟩ := hrel
      by_cases hlt : k < n
      · obtain ⟨m, hm⟩ : ∃ m, a + k = m := ⟨_, rfl⟩
        rw [hm] at hsup
        have x0 := hsup.out.c0; have x1 := hsup.out.c1; have x2 := hsup.out.c2; have xz := hsup.out.fz
        have hm1 : m < 8 * s.size := by omega
        obtain ⟨j, hj⟩ : ∃ j, j = m / 8 := ⟨_, rfl⟩
        obtain ⟨r, hr⟩ : ∃ r, r = m % 8 := ⟨_, rfl⟩
        have hj1 : j < s.size := by omega
        have HN : Hid (_ = _) := num_step s a k j r (by omega) (by rw [hm]; exact hj) (by rw [hm]; exact hr) hj1
        have HS2 : Hid (SupB ((wr.drewN 0).setCell ⟨g, 1, none⟩ (.int .i64 (m + 1 : Nat))) g s (a + (k + 1))) := by
          have := (hsup.out.drewN 0).set (m + 1)
          rw [show a + (k + 1) = m + 1 by omega]; exact this
        have e1 : IntKind.i64.wrap ((m : Int) / 8) = (j : Int) := by rw [hj, IntKind.wrap_i64]; omega
        have e2 : (m : Int) % 8 = (r : Int) := by omega
        have e3 : IntKind.i64.wrap (7 - (r : Int)) = ((7 - r : Nat) : Int) := by rw [IntKind.wrap_i64]; omega
        have j0 : (0 : Int) ≤ (j : Int) := by omega
        have j1 : (j : Int) < (s.size : Int) := by omega
        clear hm h0 h1 h2 hz hj hr
        go_wp2_with fail
        go_quiet (fail)
        go_wp2_with fail
        go_roundw
        case rel => exact ⟨k + 1, by go_num, by omega, by rw [HN.out], (HS2.out.drewN _), gr_set (gr_drewN hgr _) _ _⟩
        case measure => simp [intOf]; omega
      · obtain rfl : n = k := by omega
        go_wp2_with fail
        go_ret2
        exact ⟨⟨_, _, _, rfl, hsup.out, .inl ⟨rfl, HR.out⟩⟩, hgr⟩
  · have hc : ((8 : Int) * s.size - a < n) := by omega
    have HR : Hid (someAt s n a = none) := someAt_no hT
    go_enter Tryz.func126, Tryz.ntmps126
    go_wp2_with fail
    go_quiet (fail)
    go_wp2_with fail
    go_ret2
    exact ⟨⟨0, _, _, rfl, H.out.drewN _, .inr ⟨rfl, HR.out, rfl⟩⟩, gr_drewN (gr_refl _ _) _⟩

/-- One more way to say what 'some' answers. -/
def SomeR (W w' : World) (g : Nat) (s : ByteArray) (n a : Nat) (e : Ending) : Prop :=
  ∃ (v : Nat) (ok : Bool) (b : Nat), e = .returned (.tuple #[.int .u64 v, .bool ok]) ∧ SupB w' g s b ∧ W.grownBy w' (some g) ∧ b ≤ 8 * s.size ∧ ((ok = true ∧ someAt s n a = some (v, b)) ∨ (ok = false ∧ someAt s n a = none))
theorem some_r (s : ByteArray) (g a n : Nat) (w : World) (h : SupB w g s a) (hn : n ≤ 64) (ha : a ≤ 8 * s.size) (hs : s.size ≤ 1048576) :
    Calls Tryz.prog 126 #[.pointer (some ⟨g, 0, none⟩), .int .i64 n] w fun e w' => SomeR w w' g s n a e :=
  (some_any s g a n w h hn ha hs).mono fun e w' ⟨⟨v, ok, b, he, hb, hc⟩, hg⟩ => ⟨v, ok, b, he, hb, hg, by
    rcases hc with ⟨_, h2⟩ | ⟨_, _, h3⟩
    · unfold someAt at h2; split at h2
      · cases h2; assumption
      · cases h2
    · rw [h3]; exact ha, by
    rcases hc with h | ⟨h1, h2, _⟩
    · exact .inl h
    · exact .inr ⟨h1, h2⟩⟩

theorem lenF_lib (f x : Nat) : Lib.bitLenAux f x = lenF f x := by
  induction f generalizing x with
  | zero => rfl
  | succ f ih => simp only [lenF, Lib.bitLenAux, ih]
theorem lenOf_lib (x : Nat) : Lib.bitLen x = lenOf x := lenF_lib 64 x

/-- What 'below' answers. -/
def BelR (W w' : World) (g : Nat) (s : ByteArray) (n a : Nat) (e : Ending) : Prop :=
  ∃ (v : Nat) (ok : Bool) (b : Nat), e = .returned (.tuple #[.int .u64 v, .bool ok]) ∧ SupB w' g s b ∧ W.grownBy w' (some g) ∧ b ≤ 8 * s.size ∧ ((ok = true ∧ belAt s n a = some (v, b)) ∨ (ok = false ∧ belAt s n a = none))
theorem some_cases {s : ByteArray} {n a : Nat} : (someAt s n a = none ∧ ¬ a + n ≤ 8 * s.size) ∨ (someAt s n a = some (numAt s a n, a + n) ∧ a + n ≤ 8 * s.size) := by
  by_cases h : a + n ≤ 8 * s.size
  · exact .inr ⟨someAt_yes h, h⟩
  · exact .inl ⟨someAt_no h, h⟩

set_option maxHeartbeats 1000000 in
theorem below_any (s : ByteArray) (g a n : Nat) (w : World) (h : SupB w g s a) (hn : 1 ≤ n) (hn2 : n < 18446744073709551616) (ha : a ≤ 8 * s.size) (hs : s.size ≤ 1048576) :
    Calls Tryz.prog 79 #[.pointer (some ⟨g, 0, none⟩), .int .u64 n] w fun e w' => BelR w w' g s n a e := by
  have H := Lib.hid h
  clear h
  have e1 : IntKind.u64.wrap ((n : Int) - 1) = ((n - 1 : Nat) : Int) := by rw [IntKind.wrap_u64]; omega
  obtain ⟨k, hk⟩ : ∃ k, lenOf (n - 1) = k := ⟨_, rfl⟩
  have hk64 : k ≤ 64 := by rw [← hk]; exact lenF_le 64 _
  have hk1 : 1 ≤ k ∨ 1 ≤ n ∧ k = 0 := by rw [← hk]; exact lenOf_zero hn
  have HK := Lib.hid hk
  clear hk
  go_enter Tryz.func79, Tryz.ntmps79
  go_wp2_with fail
  refine (Tryz.bits_Len64 _ _ (by omega) (by omega)).mono ?_
  rintro e w0 ⟨rfl, rfl⟩
  rw [Int.toNat_natCast, lenOf_lib, HK.out]
  clear e1
  go_wp2_with fail
  go_loopw [7, 8] (fun _ _ wr => ∃ b : Nat, b ≤ 8 * s.size ∧ Hid (SupB wr g s b) ∧ Hid (belAt s n b = belAt s n a) ∧ w0.grownBy wr (some g)) (fun _ _ wr => 8 * s.size + 1 - (intOf ((wr.cell? ⟨g, 1, none⟩).getD default)).toNat)
  case atStart => exact ⟨a, ha, H.out, rfl, gr_refl _ _⟩
  case round =>
    obtain ⟨b, hb, hsup, hbel, hgr⟩ := hrel
    have hm : intOf ((wr.cell? ⟨g, 1, none⟩).getD default) = (b : Int) := by rw [hsup.out.c1]; rfl
    have HM := Lib.hid hm
    clear hm
    go_wp2_with fail
    refine (some_any s g b k _ hsup.out hk64 hb hs).mono ?_
    rintro e w1 ⟨⟨v, ok, c, rfl, hc, hcase⟩, hg1⟩
    have HC := Lib.hid hc
    have HG := Lib.hid (gr_trans hgr hg1)
    rcases some_cases (s := s) (n := k) (a := b) with ⟨hs1, hs2⟩ | ⟨hs1, hs2⟩
    · rcases hcase with ⟨_, h2⟩ | ⟨rfl, _, rfl⟩
      · rw [hs1] at h2; cases h2
      have HR : Hid (belAt s n a = none) := hbel.out.symm.trans (belAt_none hn (by rw [HK.out]; exact hs2))
      clear hs1 hs2 hc hg1 hgr hsup
      go_wp2_with fail
      go_ret2
      exact ⟨_, _, _, rfl, HC.out, HG.out, hb, .inr ⟨rfl, HR.out⟩⟩
    · rcases hcase with ⟨rfl, h2⟩ | ⟨_, h2, _⟩
      case inr => rw [hs1] at h2; cases h2
      rw [hs1] at h2
      cases h2
      by_cases hv : numAt s b k < n
      · have HR : Hid (belAt s n a = some (numAt s b k, b + k)) := by
          have h1 := belAt_hit (s := s) (a := b) hn
          rw [HK.out] at h1
          exact hbel.out.symm.trans (h1 hs2 hv)
        have hv1 : decide (((numAt s b k : Nat) : Int) < (n : Int)) = true := decide_eq_true (by omega)
        clear hs1 hc hg1 hgr hsup
        go_wp2_with fail
        go_ret2
        exact ⟨_, _, _, rfl, HC.out, HG.out, hs2, .inl ⟨rfl, HR.out⟩⟩
      · have HR : Hid (belAt s n (b + k) = belAt s n a) := by
          have h1 := belAt_miss (s := s) (a := b) hn
          rw [HK.out] at h1
          exact (h1 hs2 hv).symm.trans hbel.out
        have hv1 : decide (((numAt s b k : Nat) : Int) < (n : Int)) = false := decide_eq_false (by omega)
        have hk0 : 1 ≤ k := by
          rcases hk1 with h | ⟨_, rfl⟩
          · exact h
          · simp only [numAt] at hv; omega
        have hm2 : Hid (intOf ((w1.cell? ⟨g, 1, none⟩).getD default) = ((b + k : Nat) : Int)) := by show _ = _; rw [HC.out.c1]; rfl
        clear hs1 hc hg1 hgr hsup
        go_wp2_with fail
        go_roundw
        case rel => exact ⟨b + k, hs2, HC, HR, HG.out⟩
        case measure => rw [HM.out, hm2.out]; omega
end Go.Proofs.YtjpcljnojipdnaaGreat
