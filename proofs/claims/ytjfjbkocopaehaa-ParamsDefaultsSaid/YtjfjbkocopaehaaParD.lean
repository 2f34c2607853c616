/- The last closure of params.Check: a clone of the chain, sorted, its equal neighbours struck: are all primes different? -/
import Derived.Test.YtjfjbkocopaehaaParC
import Derived.Test.YtjfjbkocopaehaaSrtH
import Derived.Test.YtjfjbkocopaehaaShelf
import Derived.Lib.OwnBridge
import Derived.Deep.RegionWith
namespace Go.Proofs.Ytjfjbkocopaehaa
open Go.RowKit Go.Lib Go.Sort

theorem adj_nodup (s : List Int) (hs : s.Pairwise (fun a b => a ≤ b)) (h : ∀ j (hj : j < s.length), j = 0 ∨ s[j] ≠ s[j - 1]) : s.Nodup := by
  rw [List.Nodup, List.pairwise_iff_getElem]
  intro i j hi hj hij he
  rcases h j hj with h0 | h0
  · omega
  · apply h0
    have a1 : s[i] ≤ s[j - 1] := by
      by_cases e : i = j - 1
      · subst e; exact Int.le_refl _
      · exact (List.pairwise_iff_getElem.1 hs) i (j - 1) hi (by omega) (by omega)
    have a2 : s[j - 1] ≤ s[j] := (List.pairwise_iff_getElem.1 hs) (j - 1) j (by omega) hj (by omega)
    omega

theorem nodup_adj (s : List Int) (hs : s.Nodup) : ∀ j (hj : j < s.length), j = 0 ∨ s[j] ≠ s[j - 1] := by
  intro j hj
  by_cases h0 : j = 0
  · exact .inl h0
  · right
    have h := (List.pairwise_iff_getElem.1 hs) (j - 1) j (by omega) hj (by omega)
    exact fun e => h e.symm

theorem compact_full (d : Array Int) : (compactUpTo d d.size).length = d.size ↔ ∀ j (hj : j < d.toList.length), j = 0 ∨ d.toList[j] ≠ d.toList[j - 1] := by
  unfold compactUpTo
  rw [List.length_map]
  have e : ((List.range d.size).filter (keeps d)).length = d.size ↔ ((List.range d.size).filter (keeps d)).length = (List.range d.size).length := by rw [List.length_range]
  rw [e, List.length_filter_eq_length_iff]
  constructor
  · intro h j hj
    have hj' : j < d.size := by simpa using hj
    have hk := h j (List.mem_range.2 hj')
    simp only [keeps, decide_eq_true_eq] at hk
    rw [getElem!_pos d j hj', getElem!_pos d (j - 1) (by omega)] at hk
    simpa using hk
  · intro h j hj
    have hj' : j < d.size := List.mem_range.1 hj
    have hk := h j (by simpa using hj')
    simp only [keeps, decide_eq_true_eq]
    rw [getElem!_pos d j hj', getElem!_pos d (j - 1) (by omega)]
    simpa using hk

def ints (l : List Nat) : List Int := l.map Int.ofNat
def sorted (l : List Nat) : List Int := (ints l).mergeSort fun x y => decide (x ≤ y)

theorem sorted_length (l : List Nat) : (sorted l).length = l.length := by unfold sorted ints; rw [List.length_mergeSort, List.length_map]

theorem compact_nodup (l : List Nat) : (compactUpTo (sorted l).toArray (sorted l).toArray.size).length = l.length ↔ l.Nodup := by
  have hlen := sorted_length l
  have hp : (sorted l).Perm (ints l) := List.mergeSort_perm _ _
  have hnd : (sorted l).Nodup ↔ l.Nodup := by
    rw [hp.nodup_iff]
    unfold ints List.Nodup
    rw [List.pairwise_map]
    constructor
    · intro h; exact h.imp (fun hab e => hab (congrArg Int.ofNat e))
    · intro h; exact h.imp (fun hab e => hab (Int.ofNat.inj e))
  have hs : (sorted l).Pairwise (fun a b => a ≤ b) := by
    have := List.pairwise_mergeSort (le := fun x y : Int => decide (x ≤ y)) (by intro a b c; simp; omega) (by intro a b; simp; omega) (ints l)
    exact this.imp (by intro a b h; simpa using h)
  have e1 : (compactUpTo (sorted l).toArray (sorted l).toArray.size).length = l.length ↔ (compactUpTo (sorted l).toArray (sorted l).toArray.size).length = (sorted l).toArray.size := by
    rw [List.size_toArray, hlen]
  rw [e1, compact_full, ← hnd]
  exact ⟨adj_nodup _ hs, nodup_adj _⟩

theorem natbeq (m n : Nat) : ((m : Int) == (n : Int)) = decide (m = n) := by rw [Bool.eq_iff_iff, beq_iff_eq, decide_eq_true_eq]; omega

theorem infoU32 : (Try.prog.info? 22).map (fun i => (i.zero, i.size, i.bytes)) = some (some (.int .u32 0), 1, 4) := by kernel_rfl

/-- slices.Clone of the chain. -/
theorem clone_any (b off cap : Nat) (l : List Nat) (w : World) (hl : RowAt w b off l) (hlen : l.length ≤ 35184372088832) :
    Calls Try.prog 73 #[.slice (some ⟨b, off, none⟩) l.length cap] w fun e w' => ∃ g cap', e = .returned (.slice (some ⟨g, 0, none⟩) l.length cap') ∧ w.heap.size ≤ g ∧ g < w'.heap.size ∧ l.length ≤ cap' ∧ cap' ≤ maxLen ∧ Holds (Value.int .u32) w' g 0 (ints l).toArray ∧ Below w.heap.size w w' := by
  obtain ⟨i0, hi, hz0, hz1, hz2⟩ := info_parts infoU32
  refine (Try.slices_Clone i0 (.int .u32 0) 1 4 hi hz0 hz1 hz2 rfl (by decide) Try.sizeOf22 b off l.length cap ((ints l).map (Value.int .u32)) w (by simp [ints]) (by unfold maxLen; omega) (by omega) ?_ ?_).mono ?_
  · intro j u hj
    rw [List.getElem?_map] at hj
    unfold ints at hj
    rw [List.getElem?_map] at hj
    by_cases h : j < l.length
    · rw [List.getElem?_eq_getElem h] at hj; simp at hj; subst hj; exact hl.cell j h
    · rw [List.getElem?_eq_none (by omega)] at hj; simp at hj
  · intro u hu
    obtain ⟨z, _, rfl⟩ := List.mem_map.1 hu; rfl
  · rintro e w' ⟨v', rfl, hown, hne, hb⟩
    obtain ⟨g, cap', rfl, h1, h2, h3, h4, h5, h6⟩ := holds_of_ownsRow hown hne
    exact ⟨g, cap', rfl, h1, h2, h3, h4, h6, hb⟩

theorem below_grow0 {B : Nat} {a w : World} (h : RowKit.Below B a w) (hB : B ≤ w.heap.size) (os : Array Obj) : RowKit.Below B a (grow w os) :=
  h.trans ⟨rfl, rfl, rfl, by simp [grow], fun k hk => by show (w.heap ++ os)[k]? = _; rw [Array.getElem?_append_left (by omega)]⟩

theorem sortl_any (g cap : Nat) (l : List Nat) (w : World) (hH : Holds (Value.int .u32) w g 0 (ints l).toArray) (hg : g < w.heap.size) (hlen : l.length ≤ 24) :
    Calls Try.prog 74 #[.slice (some ⟨g, 0, none⟩) l.length cap] w fun e w' => e = .returned (.tuple #[]) ∧ Holds (Value.int .u32) w' g 0 (sorted l).toArray ∧ RowKit.Below g w w' := by
  have hz : (ints l).length = l.length := by unfold ints; rw [List.length_map]
  have h := sort_any g 0 cap (ints l) w hH hg (by omega)
  rw [hz] at h
  refine h.mono ?_
  rintro e w' ⟨he, n, os, rfl⟩
  have hs : (sorted l).toArray.size = (ints l).toArray.size := by rw [List.size_toArray, List.size_toArray, sorted_length, hz]
  have hsz : (putRow (Value.int .u32) (Sort.ahead w n) g 0 (sorted l).toArray).heap.size = w.heap.size := by simp [putRow, mapBlock, Sort.ahead]
  refine ⟨he, ?_, ?_⟩
  · exact holds_grow _ _ _ _ _ _ (by rw [show ((ints l).mergeSort fun x y => decide (x ≤ y)) = sorted l from rfl, hsz]; exact hg) (holds_putRow _ _ _ _ _ _ (holds_ahead _ _ n _ _ _ hH) hs)
  · exact below_grow0 (below_putRow (RowKit.Below.refl g w) (Nat.le_refl _)) (by rw [show ((ints l).mergeSort fun x y => decide (x ≤ y)) = sorted l from rfl, hsz]; omega) os

theorem compactl_any (g cap : Nat) (l : List Nat) (w : World) (hH : Holds (Value.int .u32) w g 0 (sorted l).toArray) (hlen : l.length ≤ 24) (hcap : l.length ≤ cap) :
    Calls Try.prog 75 #[.slice (some ⟨g, 0, none⟩) l.length cap] w fun e w' => ∃ m : Nat, e = .returned (.slice (some ⟨g, 0, none⟩) m cap) ∧ Hid (decide (m = l.length) = decide l.Nodup) ∧ m ≤ 24 ∧ RowKit.Below g w w' := by
  have hs : (sorted l).toArray.size = l.length := by rw [List.size_toArray, sorted_length]
  have h := Try.slices_Compact (Value.int .u32) (fun _ => rfl) (EqlAt.intD _ _ _) (NeqAt.intD _ _ _) 0 Try.zeroValue22 g 0 cap (sorted l).toArray w hH (by omega) (by omega)
  rw [hs] at h
  refine h.mono ?_
  rintro e w' ⟨he, q, rfl⟩
  have hc := compact_nodup l
  rw [hs] at hc
  have hle : (compactUpTo (sorted l).toArray l.length).length ≤ l.length := by
    unfold compactUpTo; rw [List.length_map]; exact Nat.le_trans (List.length_filter_le _ _) (by rw [List.length_range]; exact Nat.le_refl _)
  exact ⟨_, he, by show _ = _; rw [decide_eq_decide]; exact hc, by omega, below_putRow (RowKit.Below.refl g w) (Nat.le_refl _)⟩

set_option maxHeartbeats 1000000 in
theorem pc7_any (b off cap a : Nat) (l : List Nat) (w : World) (hl : RowAt w b off l) (hlen : l.length ≤ 24)
    (ha : w.cell? ⟨a, 3, none⟩ = some (.slice (some ⟨b, off, none⟩) l.length cap)) (haw : a < w.heap.size) :
    Calls Try.prog 72 #[.pointer (some ⟨a, 0, none⟩)] w fun r w' => r = .returned (.bool (decide l.Nodup)) ∧ RowKit.Below w.heap.size w w' := by
  go_enter Try.func72, Try.ntmps72
  go_wp2_with fail
  refine (clone_any _ _ _ _ _ hl (by omega)).mono ?_
  rintro e w1 ⟨g, cap', rfl, hg, hg1, hc1, hc2, hH, hb1⟩
  have hH0 := Lib.hid hH; clear hH
  have hc : Hid (l.length ≤ cap') := hc1
  go_wp2_with fail
  refine (sortl_any _ _ _ _ hH0.out hg1 hlen).mono ?_
  rintro e w2 ⟨rfl, hH2, hb2⟩
  have hH3 := Lib.hid hH2; clear hH2 hH0
  have ha2 : ∀ wx, RowKit.Below g w2 wx → wx.cell? ⟨a, 3, none⟩ = some (.slice (some ⟨b, off, none⟩) l.length cap) := fun wx h => by
    rw [h.cell (p := ⟨a, 3, none⟩) (show a < g by omega), hb2.cell (p := ⟨a, 3, none⟩) (show a < g by omega), hb1.cell (p := ⟨a, 3, none⟩) haw]; exact ha
  have ha2' := Lib.hid ha2
  have haw2 := ha2 w2 (RowKit.Below.refl _ _)
  clear ha2
  go_wp2_with fail
  go_region_with (go_at_call 75; refine (compactl_any _ _ _ _ (by exact hH3.out) hlen hc.out).mono ?_; rintro e w3 ⟨m, rfl, hm, hm24, hb3⟩; have ha3 := ha2'.out w3 ((RowKit.Below.refl g w2).drew.trans hb3))
  all_goals go_wp2
  all_goals go_ret
  all_goals refine ⟨ret_bool ?_, (hb1.trans (hb2.mono hg)).trans (((RowKit.Below.refl _ w2).drew.trans (by assumption)).mono hg)⟩
  all_goals rw [← hm.out]
  all_goals exact natbeq m l.length
end Go.Proofs.Ytjfjbkocopaehaa
