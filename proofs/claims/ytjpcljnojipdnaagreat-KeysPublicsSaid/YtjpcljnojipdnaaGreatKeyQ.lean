/- obscuralaw13.awake: the walk. -/
import Derived.Test.YtjpcljnojipdnaaGreatKeyV
import Derived.Deep.RegionHeld3
namespace Go.Proofs.YtjpcljnojipdnaaGreat
open Go.RowKit

/-- The box of the examples' parameters, cell by cell. -/
structure Bx (w : World) (g : Nat) (pa : Option Addr) (cap : Nat) : Prop where
  z0 : w.cell? ⟨g, 0, none⟩ = some (.int .i64 4)
  z1 : w.cell? ⟨g, 1, none⟩ = some (.int .u32 17)
  z2 : w.cell? ⟨g, 2, none⟩ = some (.int .i64 1)
  z3 : w.cell? ⟨g, 3, none⟩ = some (.slice pa 1 cap)
  z4 : w.cell? ⟨g, 4, none⟩ = some (.int .u32 2147483249)
  z5 : w.cell? ⟨g, 5, none⟩ = some (.int .i64 4)
  z6 : w.cell? ⟨g, 6, none⟩ = some (.int .u32 2)
theorem Bx.below {w w' : World} {g B : Nat} {pa : Option Addr} {cap : Nat} (h : Bx w g pa cap) (hb : Below B w w') (hg : g < B) : Bx w' g pa cap := by
  constructor
  all_goals rw [hb.cell (p := ⟨g, _, none⟩) hg]
  · exact h.z0
  · exact h.z1
  · exact h.z2
  · exact h.z3
  · exact h.z4
  · exact h.z5
  · exact h.z6

theorem below_then {B : Nat} {a X w : World} (hb : Below X.heap.size X w) (h : Below B a X) (hB : B ≤ X.heap.size) : Below B a w := h.trans (hb.mono hB)

/-- A store into a cell that holds a slice leaves the rows of integers. -/
theorem RowZ.set {k : IntKind} {w : World} {b off n c : Nat} {l : List Int} {a : Addr} {p : Option Addr} (h : RowZ k w b off l) (hB : w.cell? a = some (.slice p n c)) (u : Value) : RowZ k (w.setCell a u) b off l :=
  ⟨by simpa using h.blk, fun i hi => by
    rw [World.cell?_setCell_other _ _ _ _ (by intro e; rw [e, h.cell i hi] at hB; cases hB)]; exact h.cell i hi, h.rng⟩
theorem SliceZ.set {k : IntKind} {w : World} {n c : Nat} {l : List Int} {a : Addr} {p : Option Addr} {v : Value} (h : SliceZ k w v l) (hB : w.cell? a = some (.slice p n c)) (u : Value) : SliceZ k (w.setCell a u) v l := by
  obtain ⟨p', cap, h1, h2, h3, h4⟩ := h
  exact ⟨p', cap, h1, h2, h3, fun hne => by obtain ⟨b, off, e, hr⟩ := h4 hne; exact ⟨b, off, e, hr.set hB u⟩⟩

/-- What is held before the last line. -/
structure AwS (w Z : World) (g tb : Nat) (pa tp : Option Addr) (cap tcap : Nat) (pv : Value) : Prop where
  box : Bx Z g pa cap
  ct : Z.cell? ⟨tb, 0, none⟩ = some (.slice tp 4 tcap)
  sl : SliceAt Z (.slice pa 1 cap) smallP.ch
  sp : SliceZ .i64 Z pv [-2, 4, -2, 0]
  st : SliceZ .i8 Z (.slice tp 4 tcap) [1, 1, 1, 1]
  bel : Below w.heap.size w Z
  lg : g < Z.heap.size
  lt : tb < Z.heap.size
theorem AwS.new {w W4 W6 : World} {g : Nat} {pa tp : Option Addr} {cap tcap : Nat} {pv : Value} (hgl : g < W4.heap.size) (HP : Bx W4 g pa cap) (hsl : SliceAt W4 (.slice pa 1 cap) smallP.ch) (hv : SliceZ .i64 W4 pv [-2, 4, -2, 0]) (hb : Below w.heap.size w W4)
    (h6 : Below W4.heap.size W4 W6) (hs : SliceZ .i8 W6 (.slice tp 4 tcap) [1, 1, 1, 1]) : AwS w (W6.alloc (.cells #[.slice tp 4 tcap] 28)) g W6.heap.size pa tp cap tcap pv := by
  have h : Below W4.heap.size W4 (W6.alloc (.cells #[.slice tp 4 tcap] 28)) := h6.alloc h6.size _
  exact ⟨HP.below h hgl, by simp [go_sem], hsl.below h, hv.below h, hs.below ((Below.refl _ _).alloc (Nat.le_refl _) _), hb.trans (h.mono hb.size), Nat.lt_of_lt_of_le hgl h.size, by simp⟩
theorem AwS.old {w W4 W6 : World} {g tb : Nat} {pa tp : Option Addr} {cap tcap : Nat} {pv : Value} (hgl : g < W4.heap.size) (HP : Bx W4 g pa cap) (hsl : SliceAt W4 (.slice pa 1 cap) smallP.ch) (hv : SliceZ .i64 W4 pv [-2, 4, -2, 0]) (hb : Below w.heap.size w W4)
    (h6 : Below W4.heap.size W4 W6) (hs : SliceZ .i8 W6 (.slice tp 4 tcap) [1, 1, 1, 1]) (ht : W4.heap.size ≤ tb) (hc : W6.cell? ⟨tb, 0, none⟩ = some (.slice none 0 0)) : AwS w (W6.setCell ⟨tb, 0, none⟩ (.slice tp 4 tcap)) g tb pa tp cap tcap pv := by
  have h : Below W4.heap.size W4 (W6.setCell ⟨tb, 0, none⟩ (.slice tp 4 tcap)) := h6.setCell ht _
  exact ⟨HP.below h hgl, World.cell?_setCell_same _ _ _ hc, hsl.below h, hv.below h, hs.set hc _, hb.trans (h.mono hb.size), Nat.lt_of_lt_of_le hgl h.size, by have := World.block_lt_of_cell? W6 _ hc; simpa using this⟩

set_option maxHeartbeats 2000000 in
set_option maxRecDepth 100000 in
theorem awake_any (w : World) :
    Calls Tryz.prog 5 #[] w fun r w' => r = .returned (.bool true) ∧ Below w.heap.size w w' := by
  go_enter Tryz.func5, Tryz.ntmps5
  go_wp2_with fail
  refine (small_any _).mono ?_
  rintro r W1 ⟨hb1, v, rfl, hsl⟩
  obtain ⟨pa, cap, rfl⟩ : ∃ (pa : Option Addr) (cap : Nat), v = .slice pa 1 cap := by obtain ⟨pa, cap, e, _⟩ := hsl; exact ⟨pa, cap, e⟩
  have HB1 := Lib.hid hb1
  have HSL := Lib.hid hsl
  clear hb1 hsl
  rw [smallP_val]
  go_wp2_with fail
  have hP : Bx (W1.alloc (.cells #[.int .i64 4, .int .u32 17, .int .i64 1, .slice pa 1 cap, .int .u32 2147483249, .int .i64 4, .int .u32 2] 25)) W1.heap.size pa cap := by constructor <;> simp [go_sem]
  have hsl2 : Hid (SliceAt (W1.alloc (.cells #[.int .i64 4, .int .u32 17, .int .i64 1, .slice pa 1 cap, .int .u32 2147483249, .int .i64 4, .int .u32 2] 25)) (.slice pa 1 cap) smallP.ch) := HSL.out.below ((Below.refl _ _).alloc (Nat.le_refl _) _)
  have hb2 : Hid (Below w.heap.size w (W1.alloc (.cells #[.int .i64 4, .int .u32 17, .int .i64 1, .slice pa 1 cap, .int .u32 2147483249, .int .i64 4, .int .u32 2] 25))) := HB1.out.alloc HB1.out.size _
  have hgl : W1.heap.size < (W1.alloc (.cells #[.int .i64 4, .int .u32 17, .int .i64 1, .slice pa 1 cap, .int .u32 2147483249, .int .i64 4, .int .u32 2] 25)).heap.size := by simp
  have hg0 : w.heap.size ≤ W1.heap.size := HB1.out.size
  clear HSL HB1
  generalize (W1.alloc (.cells #[.int .i64 4, .int .u32 17, .int .i64 1, .slice pa 1 cap, .int .u32 2147483249, .int .i64 4, .int .u32 2] 25)) = W2 at hP hsl2 hb2 hgl ⊢
  generalize W1.heap.size = g at hP hgl hg0 ⊢
  obtain ⟨z0, z1, z2, z3, z4, z5, z6⟩ := hP
  have HP : Hid (Bx W2 g pa cap) := ⟨z0, z1, z2, z3, z4, z5, z6⟩
  go_region_held3 (fun w' => w'.cell? ⟨g, 0, none⟩ = some (.int .i64 4) ∧ w'.cell? ⟨g, 1, none⟩ = some (.int .u32 17) ∧ w'.cell? ⟨g, 2, none⟩ = some (.int .i64 1) ∧ w'.cell? ⟨g, 3, none⟩ = some (.slice pa 1 cap) ∧ w'.cell? ⟨g, 4, none⟩ = some (.int .u32 2147483249) ∧ w'.cell? ⟨g, 5, none⟩ = some (.int .i64 4) ∧ w'.cell? ⟨g, 6, none⟩ = some (.int .u32 2)) (go_keep)
    (first | (go_at_call 32; refine (known_any _).mono ?_; rintro e W3 ⟨⟨sv, rfl, hsv⟩, hb3⟩; obtain ⟨k0, k1, k2, k3, k4, k5, k6⟩ := HP.out.below ((Below.refl _ W2).drew.trans hb3) hgl; have HS3 := Lib.hid hsv; have HB3 := Lib.hid hb3; clear hsv hb3) | (go_at_call 31; refine (power_any smallP (.slice pa 1 cap) sv [1, 1, -1, 1] 2 W3 smallP_ok (hsl2.out.below ((Below.refl _ W2).drew.trans HB3.out)) HS3.out).mono ?_; rintro e W4 ⟨⟨pv, rfl, hpv⟩, hb4⟩; obtain ⟨j0, j1, j2, j3, j4, j5, j6⟩ := (HP.out.below ((Below.refl _ W2).drew.trans HB3.out) hgl).below hb4 (Nat.lt_of_lt_of_le hgl HB3.out.size); have HS4 := Lib.hid hpv; have HB4 := Lib.hid hb4; clear hpv hb4))
  have HP4 : Hid (Bx W4 g pa cap) := ⟨j0, j1, j2, j3, j4, j5, j6⟩
  have hb23 : Below W2.heap.size W2 W4 := ((Below.refl _ W2).drew.trans HB3.out).trans (HB4.out.mono HB3.out.size)
  have hsl4 : Hid (SliceAt W4 (.slice pa 1 cap) smallP.ch) := hsl2.out.below hb23
  have hb4 : Hid (Below w.heap.size w W4) := hb2.out.trans (hb23.mono hb2.out.size)
  have hgl4 : g < W4.heap.size := Nat.lt_of_lt_of_le hgl hb23.size
  have HV4 : Hid (SliceZ .i64 W4 pv [-2, 4, -2, 0]) := by have := HS4.out; rw [pow_small.1] at this; exact this
  rw [pow_small.2]
  clear HS4 HB4 HB3 HS3 hb2 hsl2 HP z0 z1 z2 z3 z4 z5 z6 k0 k1 k2 k3 k4 k5 k6 hb23 hgl
  go_wp2_with fail
  go_region_held3 (fun w' => w'.cell? ⟨g, 0, none⟩ = some (.int .i64 4) ∧ w'.cell? ⟨g, 1, none⟩ = some (.int .u32 17) ∧ w'.cell? ⟨g, 2, none⟩ = some (.int .i64 1) ∧ w'.cell? ⟨g, 3, none⟩ = some (.slice pa 1 cap) ∧ w'.cell? ⟨g, 4, none⟩ = some (.int .u32 2147483249) ∧ w'.cell? ⟨g, 5, none⟩ = some (.int .i64 4) ∧ w'.cell? ⟨g, 6, none⟩ = some (.int .u32 2)) (go_keep)
    (first | (go_at_call 32; refine (known_any _).mono ?_; rintro e W5 ⟨⟨su, rfl, hsu⟩, hb5⟩; have q5 : Below W4.heap.size W4 W5 := below_then hb5 (by first | exact (Below.refl _ _).drew | exact ((Below.refl _ _).alloc (Nat.le_refl _) _).drew) (by simp); obtain ⟨k0, k1, k2, k3, k4, k5, k6⟩ := HP4.out.below q5 hgl4; have hgW5 : g < W5.heap.size := Nat.lt_of_lt_of_le hgl4 q5.size; have hnW4 : g ≠ W4.heap.size := Nat.ne_of_lt hgl4; have hmW4 : W4.heap.size ≠ g := Ne.symm hnW4; have hnW5 : g ≠ W5.heap.size := Nat.ne_of_lt hgW5; have hmW5 : W5.heap.size ≠ g := Ne.symm hnW5; obtain ⟨hc5, hf5⟩ := bcell hb5; (try (have hz5 : W4.heap.size < W5.heap.size := (by have h := hb5.size; simp at h; omega))); have HS5 := Lib.hid hsu; have HQ5 := Lib.hid q5; clear hsu hb5 q5) | (go_at_call 33; refine (turned_any smallP (.slice pa 1 cap) su [1, 1, -1, 1] 3 _ smallP_ok (by first | exact hsl4.out.below HQ5.out | exact hsl4.out.below (HQ5.out.alloc HQ5.out.size _)) (by first | exact HS5.out | exact HS5.out.below ((Below.refl _ _).alloc (Nat.le_refl _) _))).mono ?_; rintro e W6 ⟨⟨tv, rfl, htv⟩, hb6⟩; rw [turn_small.1] at htv; obtain ⟨tp, tcap, rfl⟩ : ∃ tp tcap, tv = .slice tp 4 tcap := (by obtain ⟨p, c, e, _⟩ := htv; exact ⟨p, c, e⟩); have q6 : Below W4.heap.size W4 W6 := below_then hb6 (by first | exact HQ5.out | exact HQ5.out.alloc HQ5.out.size _) (by have := HQ5.out.size; simp; omega); obtain ⟨i0, i1, i2, i3, i4, i5, i6⟩ := HP4.out.below q6 hgl4; have hgW6 : g < W6.heap.size := Nat.lt_of_lt_of_le hgl4 q6.size; obtain ⟨hc6, hf6⟩ := bcell hb6; (try (have hz6 : W5.heap.size < W6.heap.size := (by have h := hb6.size; simp at h; omega))); (try (have hz46 : W4.heap.size < W6.heap.size := (by have h := hb6.size; simp at h; omega))); have HS6 := Lib.hid htv; have HQ6 := Lib.hid q6; clear htv hb6 q6))
  all_goals
    rw [turn_small.2]
    first
      | ((with_reducible show Exit.then _ _ Exit.normal _ (W6.alloc (.cells #[.slice tp 4 tcap] 28))); have HA := AwS.new (pv := pv) hgl4 HP4.out hsl4.out HV4.out hb4.out HQ6.out HS6.out; generalize (W6.alloc (.cells #[.slice tp 4 tcap] 28)) = Z at HA ⊢; generalize W6.heap.size = tb at HA ⊢)
      | ((with_reducible show Exit.then _ _ Exit.normal _ (W6.setCell ⟨W5.heap.size, 0, none⟩ (.slice tp 4 tcap))); have HA := AwS.old (pv := pv) (tb := W5.heap.size) hgl4 HP4.out hsl4.out HV4.out hb4.out HQ6.out HS6.out HQ5.out.size (by simp [hc6]); generalize (W6.setCell ⟨W5.heap.size, 0, none⟩ (.slice tp 4 tcap)) = Z at HA ⊢; generalize W5.heap.size = tb at HA ⊢)
      | ((with_reducible show Exit.then _ _ Exit.normal _ (W6.setCell ⟨W4.heap.size, 0, none⟩ (.slice tp 4 tcap))); have HA := AwS.old (pv := pv) (tb := W4.heap.size) hgl4 HP4.out hsl4.out HV4.out hb4.out HQ6.out HS6.out (Nat.le_refl _) (by rw [hc6 _ _ hz5, hc5 _ _ (by simp)]; simp [go_sem]); generalize (W6.setCell ⟨W4.heap.size, 0, none⟩ (.slice tp 4 tcap)) = Z at HA ⊢; generalize W4.heap.size = tb at HA ⊢)
    clear hc5 hf5 hc6 hf6 HS5 HS6 HQ5 HQ6 HV4 hb4 hsl4 HP4 k0 k1 k2 k3 k4 k5 k6 i0 i1 i2 i3 i4 i5 i6 j0 j1 j2 j3 j4 j5 j6 hnW4 hmW4 hnW5 hmW5 hgW5 hgW6
    obtain ⟨⟨y0, y1, y2, y3, y4, y5, y6⟩, yt, hslZ, hVZ, hTZ, hBZ, hgZ, htZ⟩ := HA
    have HY : Hid (Bx Z g pa cap) := ⟨y0, y1, y2, y3, y4, y5, y6⟩
    have HSL := Lib.hid hslZ; have HV := Lib.hid hVZ; have HT := Lib.hid hTZ; have HB := Lib.hid hBZ
    clear hslZ hVZ hTZ hBZ
    go_wp2_with fail
    refine (samel_any _ _ _ [-2, 4, -2, 0] [-2, 4, -2, 0] (HV.out.below ((Below.refl _ _).alloc (Nat.le_refl _) _)) (SliceZ.ofBlk (l := [-2, 4, -2, 0]) (Blk.new _ _ _) (by decide) (by decide))).mono ?_
    rintro e Z1 ⟨rfl, hb1⟩
    rw [show decide (([-2, 4, -2, 0] : List Int) = [-2, 4, -2, 0]) = true from by decide]
    have q1 : Below Z.heap.size Z Z1 := below_then hb1 ((Below.refl _ _).alloc (Nat.le_refl _) _) (by simp)
    have x1 : Z1.cell? ⟨tb, 0, none⟩ = some (.slice tp 4 tcap) := (below_at q1 htZ).trans yt
    have Q1 := Lib.hid q1
    clear hb1 q1 yt y0 y1 y2 y3 y4 y5 y6
    go_wp2_with fail
    refine (sames_any _ _ _ [1, 1, 1, 1] [1, 1, 1, 1] (HT.out.below (Q1.out.alloc Q1.out.size _)) (SliceZ.ofBlk (l := [1, 1, 1, 1]) (Blk.new _ _ _) (by decide) (by decide))).mono ?_
    rintro e Z2 ⟨rfl, hb2⟩
    rw [show decide (([1, 1, 1, 1] : List Int) = [1, 1, 1, 1]) = true from by decide]
    have q2 : Below Z.heap.size Z Z2 := below_then hb2 (Q1.out.alloc Q1.out.size _) (by have := Q1.out.size; simp; omega)
    obtain ⟨y0, y1, y2, y3, y4, y5, y6⟩ := HY.out.below q2 hgZ
    have x2 : Z2.cell? ⟨tb, 0, none⟩ = some (.slice tp 4 tcap) := by
      have := hb2.cell (p := ⟨tb, 0, none⟩) (by have := Q1.out.size; simp; omega)
      rw [this]
      rw [World.cell?_alloc_past _ _ _ (by have := Q1.out.size; omega)]
      exact x1
    have Q2 := Lib.hid q2
    clear hb2 q2 x1
    go_wp2_with fail
    refine (csecret_any smallP (.slice pa 1 cap) (.slice tp 4 tcap) [1, 1, 1, 1] _ smallP_ok (HSL.out.below Q2.out) (HT.out.below Q2.out) (by decide)).mono ?_
    rintro e Z3 ⟨rfl, hb3⟩
    rw [csec_small]
    have q3 : Hid (Below w.heap.size w Z3) := HB.out.trans ((below_then hb3 Q2.out Q2.out.size).mono HB.out.size)
    clear hb3
    go_wp2_with fail
    go_ret
    exact ⟨rfl, q3.out⟩
end Go.Proofs.YtjpcljnojipdnaaGreat
