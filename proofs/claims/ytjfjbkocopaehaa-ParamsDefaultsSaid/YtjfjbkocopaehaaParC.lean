/- Walks of the closures of params.Check, but for the last one. -/
import Derived.Test.YtjfjbkocopaehaaParB
namespace Go.Proofs.Ytjfjbkocopaehaa
open Go.RowKit

/-- The parameters lie in block a. -/
structure BoxP (w : World) (a : Nat) (x : Par) (cv : Value) : Prop where
  n : w.cell? ⟨a, 0, none⟩ = some (.int .i64 x.n)
  p : w.cell? ⟨a, 1, none⟩ = some (.int .u32 x.p)
  r : w.cell? ⟨a, 2, none⟩ = some (.int .i64 x.r)
  ch : w.cell? ⟨a, 3, none⟩ = some cv
  sp : w.cell? ⟨a, 4, none⟩ = some (.int .u32 x.sp)
  wt : w.cell? ⟨a, 5, none⟩ = some (.int .i64 x.wt)
  er : w.cell? ⟨a, 6, none⟩ = some (.int .u32 x.er)

theorem BoxP.below {w w' : World} {a B : Nat} {x : Par} {cv : Value} (h : BoxP w a x cv) (hb : Below B w w') (ha : a < B) : BoxP w' a x cv := by
  refine ⟨?_, ?_, ?_, ?_, ?_, ?_, ?_⟩ <;> rw [hb.cell (p := ⟨a, _, none⟩) ha]
  · exact h.n
  · exact h.p
  · exact h.r
  · exact h.ch
  · exact h.sp
  · exact h.wt
  · exact h.er

/-- The numbers of a slice. -/
structure RowAt (w : World) (b off : Nat) (l : List Nat) : Prop where
  blk : b < w.heap.size
  cell : ∀ i (h : i < l.length), w.cell? ⟨b, off + i, none⟩ = some (.int .u32 (l[i] : Nat))
  rng : ∀ q, q ∈ l → q < 4294967296

theorem RowAt.below {w w' : World} {b off B : Nat} {l : List Nat} (h : RowAt w b off l) (hb : Below B w w') (ha : b < B) : RowAt w' b off l :=
  ⟨Nat.lt_of_lt_of_le h.blk hb.size, fun i hi => by rw [hb.cell (p := ⟨b, _, none⟩) ha]; exact h.cell i hi, h.rng⟩

set_option maxHeartbeats 400000 in
theorem pc2_any (t : Nat) (a : Addr) (w : World) (ha : w.cell? a = some (.int .i64 t)) :
    Calls Try.prog 65 #[.pointer (some a)] w fun r w' => r = .returned (.bool (decide (0 < t))) ∧ w = w' := by
  have hR : Hid (decide (0 < t) = decide ((0 : Int) < t)) := by show _ = _; by_cases h : 0 < t <;> simp [h]
  go_enter Try.func65, Try.ntmps65
  go_wp2_with fail
  go_ret
  exact ⟨ret_bool (by rw [hR.out]), rfl⟩

set_option maxHeartbeats 400000 in
theorem pc3_any (a : Nat) (p : Option Addr) (n cap : Nat) (w : World) (ha : w.cell? ⟨a, 3, none⟩ = some (.slice p n cap)) :
    Calls Try.prog 66 #[.pointer (some ⟨a, 0, none⟩)] w fun r w' => r = .returned (.bool (lenB n)) ∧ w = w' := by
  by_cases h1 : 1 ≤ n
  · have d1 : decide (1 ≤ (n : Int)) = true := decide_eq_true (by omega)
    by_cases h2 : n ≤ 24
    · have d2 : decide ((n : Int) ≤ 24) = true := decide_eq_true (by omega)
      go_enter Try.func66, Try.ntmps66
      go_wp2_with fail
      go_ret
      exact ⟨ret_bool (by unfold lenB; rw [decide_eq_true (show 1 ≤ n ∧ n ≤ 24 from ⟨h1, h2⟩)]), rfl⟩
    · have d2 : decide ((n : Int) ≤ 24) = false := decide_eq_false (by omega)
      go_enter Try.func66, Try.ntmps66
      go_wp2_with fail
      go_ret
      exact ⟨ret_bool (by unfold lenB; rw [decide_eq_false (show ¬ (1 ≤ n ∧ n ≤ 24) by omega)]), rfl⟩
  · have d1 : decide (1 ≤ (n : Int)) = false := decide_eq_false (by omega)
    go_enter Try.func66, Try.ntmps66
    go_wp2_with fail
    go_ret
    exact ⟨ret_bool (by unfold lenB; rw [decide_eq_false (show ¬ (1 ≤ n ∧ n ≤ 24) by omega)]), rfl⟩

set_option maxHeartbeats 400000 in
theorem pc4_any (a : Nat) (x : Par) (cv : Value) (w : World) (hB : BoxP w a x cv) :
    Calls Try.prog 67 #[.pointer (some ⟨a, 0, none⟩)] w fun r w' => r = .returned (.bool (wtB x)) ∧ w = w' := by
  have l5 := hB.wt
  have l0 := hB.n
  have l6 := hB.er
  clear hB
  by_cases h1 : 1 ≤ x.wt
  · have d1 : decide (1 ≤ x.wt) = true := decide_eq_true h1
    by_cases h2 : x.wt ≤ x.n
    · have d2 : decide (x.wt ≤ x.n) = true := decide_eq_true h2
      by_cases h3 : x.er ≤ 64
      · have d3 : decide ((x.er : Int) ≤ 64) = true := decide_eq_true (by omega)
        have hR : Hid (wtB x = true) := decide_eq_true ⟨h1, h2, h3⟩
        go_enter Try.func67, Try.ntmps67
        go_wp2_with fail
        go_ret
        exact ⟨ret_bool (by rw [hR.out]), rfl⟩
      · have d3 : decide ((x.er : Int) ≤ 64) = false := decide_eq_false (by omega)
        have hR : Hid (wtB x = false) := decide_eq_false (fun h => h3 h.2.2)
        go_enter Try.func67, Try.ntmps67
        go_wp2_with fail
        go_ret
        exact ⟨ret_bool (by rw [hR.out]), rfl⟩
    · have d2 : decide (x.wt ≤ x.n) = false := decide_eq_false h2
      have hR : Hid (wtB x = false) := decide_eq_false (fun h => h2 h.2.1)
      go_enter Try.func67, Try.ntmps67
      go_wp2_with fail
      go_ret
      exact ⟨ret_bool (by rw [hR.out]), rfl⟩
  · have d1 : decide (1 ≤ x.wt) = false := decide_eq_false h1
    have hR : Hid (wtB x = false) := decide_eq_false (fun h => h1 h.1)
    go_enter Try.func67, Try.ntmps67
    go_wp2_with fail
    go_ret
    exact ⟨ret_bool (by rw [hR.out]), rfl⟩

set_option maxHeartbeats 400000 in
theorem pc5_any (a f c : Nat) (s : Nat) (x : Par) (cv : Value) (w : World) (hB : BoxP w a x cv) (hx : x.sp < 4294967296) (hs0 : 0 < s) (hs1 : s ≤ 137438953408)
    (hf : w.cell? ⟨f, 0, none⟩ = some (.func (.func 63) #[] #[.pointer (some ⟨c, 0, none⟩)])) (hc : w.cell? ⟨c, 0, none⟩ = some (.int .i64 s)) :
    Calls Try.prog 68 #[.pointer (some ⟨f, 0, none⟩), .pointer (some ⟨a, 0, none⟩)] w fun r w' => r = .returned (.bool (goodS mPrime s x.sp)) ∧ Below w.heap.size w w' := by
  have l4 := hB.sp
  clear hB
  go_enter Try.func68, Try.ntmps68
  go_wp2_with (go_at_call 63; refine (pgood_any _ _ _ _ hx hs0 hs1 hc).mono ?_; rintro e w1 ⟨rfl, hb1⟩)
  go_ret
  exact ⟨rfl, hb1⟩

set_option maxHeartbeats 400000 in
theorem pc61_any (q a f c : Nat) (s : Nat) (x : Par) (cv : Value) (w : World) (hB : BoxP w a x cv) (hq : q < 4294967296) (hs0 : 0 < s) (hs1 : s ≤ 137438953408)
    (hf : w.cell? ⟨f, 0, none⟩ = some (.func (.func 63) #[] #[.pointer (some ⟨c, 0, none⟩)])) (hc : w.cell? ⟨c, 0, none⟩ = some (.int .i64 s)) :
    Calls Try.prog 71 #[.int .u32 q, .pointer (some ⟨a, 0, none⟩), .pointer (some ⟨f, 0, none⟩)] w fun r w' => r = .returned (.bool (badB mPrime s x.sp q)) ∧ Below w.heap.size w w' := by
  have l4 := hB.sp
  clear hB
  by_cases h1 : q < x.sp
  · have d1 : decide (x.sp ≤ q) = false := decide_eq_false (by omega)
    have hR : Hid (badB mPrime s x.sp q = !(goodS mPrime s q)) := by show _ = _; unfold badB; rw [decide_eq_true h1]; rfl
    go_enter Try.func71, Try.ntmps71
    go_wp2_with (go_at_call 63; refine (pgood_any _ _ _ _ hq hs0 hs1 hc).mono ?_; rintro e w1 ⟨rfl, hb1⟩)
    go_ret
    exact ⟨ret_bool (by rw [hR.out]), hb1⟩
  · have d1 : decide (x.sp ≤ q) = true := decide_eq_true (by omega)
    have hR : Hid (badB mPrime s x.sp q = true) := by show _ = _; unfold badB; rw [decide_eq_false h1]; rfl
    go_enter Try.func71, Try.ntmps71
    go_wp2_with fail
    go_ret
    exact ⟨ret_bool (by rw [hR.out]), Below.refl _ _⟩

/-- The first index, or -1. -/
def idxOf (p : Nat → Bool) (l : List Nat) : Int := if l.any p then (l.findIdx p : Int) else -1

theorem idxOf_hit {p : Nat → Bool} {l : List Nat} {k : Nat} (hk : k < l.length) (h0 : ∀ j (hj : j < k), p (l[j]'(by omega)) = false) (h1 : p l[k] = true) : idxOf p l = k := by
  have e : l.findIdx p = k := (List.findIdx_eq hk).2 ⟨h1, h0⟩
  unfold idxOf
  rw [if_pos (List.any_eq_true.2 ⟨l[k], List.getElem_mem hk, h1⟩), e]

theorem idxOf_miss {p : Nat → Bool} {l : List Nat} (h0 : ∀ j (hj : j < l.length), p l[j] = false) : idxOf p l = -1 := by
  unfold idxOf
  rw [if_neg]
  intro h
  obtain ⟨x, hx, hpx⟩ := List.any_eq_true.1 h
  obtain ⟨j, hj, rfl⟩ := List.mem_iff_getElem.1 hx
  rw [h0 j hj] at hpx; exact absurd hpx (by simp)

theorem idxOf_nonneg (p : Nat → Bool) (l : List Nat) : decide (0 ≤ idxOf p l) = l.any p := by
  unfold idxOf
  cases h : l.any p with
  | true => simp
  | false => simp

set_option maxHeartbeats 1000000 in
theorem pidx_any (b off cap a f c : Nat) (l : List Nat) (s : Nat) (x : Par) (cv : Value) (w : World) (hl : RowAt w b off l) (hlen : l.length ≤ 140737488351232) (hB : BoxP w a x cv) (ha : a < w.heap.size) (hs0 : 0 < s) (hs1 : s ≤ 137438953408)
    (hf : w.cell? ⟨f, 0, none⟩ = some (.func (.func 63) #[] #[.pointer (some ⟨c, 0, none⟩)])) (hfw : f < w.heap.size) (hc : w.cell? ⟨c, 0, none⟩ = some (.int .i64 s)) (hcw : c < w.heap.size) :
    Calls Try.prog 97 #[.slice (some ⟨b, off, none⟩) l.length cap, .func (.func 71) #[] #[.pointer (some ⟨a, 0, none⟩), .pointer (some ⟨f, 0, none⟩)]] w fun r w' =>
      r = .returned (.int .i64 (idxOf (badB mPrime s x.sp) l)) ∧ Below w.heap.size w w' := by
  go_enter Try.func97, Try.ntmps97
  go_wp2_with fail
  go_loopw [5, 8] (fun _ vk wr => ∃ k : Nat, vk = .int .i64 k ∧ k ≤ l.length ∧ Hid (∀ j (hj : j < k) (hj2 : j < l.length), badB mPrime s x.sp l[j] = false) ∧ Below w.heap.size w wr) (fun _ vk _ => l.length - (intOf vk).toNat)
  case atStart => exact ⟨0, rfl, by omega, by intro j hj; omega, Below.refl _ _⟩
  case round =>
    obtain ⟨k, rfl, hk, hno, hbel⟩ := hrel
    have hsz := hbel.size
    by_cases hlt : k < l.length
    · have hq := hl.rng l[k] (List.getElem_mem hlt)
      have hcell : wr.cell? ⟨b, off + k, none⟩ = some (.int .u32 (l[k] : Nat)) := by rw [hbel.cell (p := ⟨b, _, none⟩) hl.blk]; exact hl.cell k hlt
      have hB' := Lib.hid (hB.below hbel ha)
      have hf' : Hid (wr.cell? ⟨f, 0, none⟩ = some (.func (.func 63) #[] #[.pointer (some ⟨c, 0, none⟩)])) := by show _ = _; rw [hbel.cell (p := ⟨f, 0, none⟩) hfw]; exact hf
      have hc' : Hid (wr.cell? ⟨c, 0, none⟩ = some (.int .i64 s)) := by show _ = _; rw [hbel.cell (p := ⟨c, 0, none⟩) hcw]; exact hc
      cases hv : badB mPrime s x.sp l[k] with
      | true =>
        have hR : Hid (idxOf (badB mPrime s x.sp) l = k) := idxOf_hit hlt (fun j hj => hno.out j hj (by omega)) hv
        generalize l[k] = q at *
        have hv' := Lib.hid hv
        clear hv
        go_wp2_with (go_at_call 71; refine (pc61_any _ _ _ _ _ _ _ _ hB'.out hq hs0 hs1 hf'.out hc'.out).mono ?_; rintro e w1 ⟨rfl, hb1⟩; rw [hv'.out])
        go_ret
        exact ⟨ret_int (by rw [hR.out]), hbel.trans (hb1.mono hsz)⟩
      | false =>
        have hno' : Hid (∀ j (hj : j < k + 1) (hj2 : j < l.length), badB mPrime s x.sp l[j] = false) := by
          intro j hj hj2
          by_cases e : j = k
          · subst e; exact hv
          · exact hno.out j (by omega) hj2
        generalize l[k] = q at *
        have hv' := Lib.hid hv
        clear hv
        go_wp2_with (go_at_call 71; refine (pc61_any _ _ _ _ _ _ _ _ hB'.out hq hs0 hs1 hf'.out hc'.out).mono ?_; rintro e w1 ⟨rfl, hb1⟩; rw [hv'.out])
        go_roundw
        case rel => exact ⟨k + 1, by go_num, by omega, hno', hbel.trans (hb1.mono hsz)⟩
        case measure => simp [intOf]; omega
    · have hR : Hid (idxOf (badB mPrime s x.sp) l = -1) := idxOf_miss (fun j hj => hno.out j (by omega) hj)
      go_wp2_with fail
      go_ret
      exact ⟨ret_int (by rw [hR.out]), hbel⟩
end Go.Proofs.Ytjfjbkocopaehaa
