/- The last closure of params.Check: a clone of the chain, sorted, its equal neighbours struck: are all primes different? params.Check. -/
import Derived.Test.YtjpcljnojipdnaaGreatParX
import Derived.Test.YtjpcljnojipdnaaGreatSrt3
import Derived.Test.YtjpcljnojipdnaaGreatShelf
import Derived.Lib.OwnBridge
import Derived.Deep.RegionWith
import Derived.Laws.EntriesVeiled
/-! The last closure of params.Check: a clone of the chain, sorted, its equal neighbours struck: are all primes different? -/
namespace Go.Proofs.YtjpcljnojipdnaaGreat
open Go.RowKit Go.Lib Go.Sort

theorem adj_nodup (s : List Int) (hs : s.Pairwise (fun a b => a ≤ b)) (h : ∀ j (hj : j < s.length), j = 0 ∨ s[j] ≠ s[j - 1]) : s.Nodup := by
  rw [List.Nodup, List.pairwise_iff_getElem]
  intro i j hi hj hij he
  rcases h j hj with h0 | h0
  · omega
  · apply h0
    have a1 : s[i] ≤ s[j - 1] := by
      by_cases e : i = j - 1
      · subst e; exact Int.le_refl _
      · exact (List.pairwise_iff_getElem.1 hs) i (j - 1) hi (by omega) (by omega)
    have a2 : s[j - 1] ≤ s[j] := (List.pairwise_iff_getElem.1 hs) (j - 1) j (by omega) hj (by omega)
    omega

theorem nodup_adj (s : List Int) (hs : s.Nodup) : ∀ j (hj : j < s.length), j = 0 ∨ s[j] ≠ s[j - 1] := by
  intro j hj
  by_cases h0 : j = 0
  · exact .inl h0
  · right
    have h := (List.pairwise_iff_getElem.1 hs) (j - 1) j (by omega) hj (by omega)
    exact fun e => h e.symm

theorem compact_full (d : Array Int) : (compactUpTo d d.size).length = d.size ↔ ∀ j (hj : j < d.toList.length), j = 0 ∨ d.toList[j] ≠ d.toList[j - 1] := by
  unfold compactUpTo
  rw [List.length_map]
  have e : ((List.range d.size).filter (keeps d)).length = d.size ↔ ((List.range d.size).filter (keeps d)).length = (List.range d.size).length := by rw [List.length_range]
  rw [e, List.length_filter_eq_length_iff]
  constructor
  · intro h j hj
    have hj' : j < d.size := by simpa using hj
    have hk := h j (List.mem_range.2 hj')
    simp only [keeps, decide_eq_true_eq] at hk
    rw [getElem!_pos d j hj', getElem!_pos d (j - 1) (by omega)] at hk
    simpa using hk
  · intro h j hj
    have hj' : j < d.size := List.mem_range.1 hj
    have hk := h j (by simpa using hj')
    simp only [keeps, decide_eq_true_eq]
    rw [getElem!_pos d j hj', getElem!_pos d (j - 1) (by omega)]
    simpa using hk

def ints (l : List Nat) : List Int := l.map Int.ofNat
def sorted (l : List Nat) : List Int := (ints l).mergeSort fun x y => decide (x ≤ y)

theorem sorted_length (l : List Nat) : (sorted l).length = l.length := by unfold sorted ints; rw [List.length_mergeSort, List.length_map]

theorem compact_nodup (l : List Nat) : (compactUpTo (sorted l).toArray (sorted l).toArray.size).length = l.length ↔ l.Nodup := by
  have hlen := sorted_length l
  have hp : (sorted l).Perm (ints l) := List.mergeSort_perm _ _
  have hnd : (sorted l).Nodup ↔ l.Nodup := by
    rw [hp.nodup_iff]
    unfold ints List.Nodup
    rw [List.pairwise_map]
    constructor
    · intro h; exact h.imp (fun hab e => hab (congrArg Int.ofNat e))
    · intro h; exact h.imp (fun hab e => hab (Int.ofNat.inj e))
  have hs : (sorted l).Pairwise (fun a b => a ≤ b) := by
    have := List.pairwise_mergeSort (le := fun x y : Int => decide (x ≤ y)) (by intro a b c; simp; omega) (by intro a b; simp; omega) (ints l)
    exact this.imp (by intro a b h; simpa using h)
  have e1 : (compactUpTo (sorted l).toArray (sorted l).toArray.size).length = l.length ↔ (compactUpTo (sorted l).toArray (sorted l).toArray.size).length = (sorted l).toArray.size := by
    rw [List.size_toArray, hlen]
  rw [e1, compact_full, ← hnd]
  exact ⟨adj_nodup _ hs, nodup_adj _⟩

theorem natbeq (m n : Nat) : ((m : Int) == (n : Int)) = decide (m = n) := by rw [Bool.eq_iff_iff, beq_iff_eq, decide_eq_true_eq]; omega

theorem infoU32 : (Tryz.prog.info? 22).map (fun i => (i.zero, i.size, i.bytes)) = some (some (.int .u32 0), 1, 4) := by kernel_rfl

/-- slices.Clone of the chain. -/
theorem clone_any (b off cap : Nat) (l : List Nat) (w : World) (hl : RowAt w b off l) (hlen : l.length ≤ 35184372088832) :
    Calls Tryz.prog 122 #[.slice (some ⟨b, off, none⟩) l.length cap] w fun e w' => ∃ g cap', e = .returned (.slice (some ⟨g, 0, none⟩) l.length cap') ∧ w.heap.size ≤ g ∧ g < w'.heap.size ∧ l.length ≤ cap' ∧ cap' ≤ maxLen ∧ Holds (Value.int .u32) w' g 0 (ints l).toArray ∧ Below w.heap.size w w' := by
  obtain ⟨i0, hi, hz0, hz1, hz2⟩ := info_parts infoU32
  refine (Tryz.slices_Clone i0 (.int .u32 0) 1 4 hi hz0 hz1 hz2 rfl (by decide) Tryz.sizeOf22 b off l.length cap ((ints l).map (Value.int .u32)) w (by simp [ints]) (by unfold maxLen; omega) (by omega) ?_ ?_).mono ?_
  · intro j u hj
    rw [List.getElem?_map] at hj
    unfold ints at hj
    rw [List.getElem?_map] at hj
    by_cases h : j < l.length
    · rw [List.getElem?_eq_getElem h] at hj; simp at hj; subst hj; exact hl.cell j h
    · rw [List.getElem?_eq_none (by omega)] at hj; simp at hj
  · intro u hu
    obtain ⟨z, _, rfl⟩ := List.mem_map.1 hu; rfl
  · rintro e w' ⟨v', rfl, hown, hne, hb⟩
    obtain ⟨g, cap', rfl, h1, h2, h3, h4, h5, h6⟩ := holds_of_ownsRow hown hne
    exact ⟨g, cap', rfl, h1, h2, h3, h4, h6, hb⟩

theorem below_grow0 {B : Nat} {a w : World} (h : RowKit.Below B a w) (hB : B ≤ w.heap.size) (os : Array Obj) : RowKit.Below B a (grow w os) :=
  h.trans ⟨rfl, rfl, rfl, by simp [grow], fun k hk => by show (w.heap ++ os)[k]? = _; rw [Array.getElem?_append_left (by omega)]⟩

theorem sortl_any (g cap : Nat) (l : List Nat) (w : World) (hH : Holds (Value.int .u32) w g 0 (ints l).toArray) (hg : g < w.heap.size) (hlen : l.length ≤ 24) :
    Calls Tryz.prog 123 #[.slice (some ⟨g, 0, none⟩) l.length cap] w fun e w' => e = .returned (.tuple #[]) ∧ Holds (Value.int .u32) w' g 0 (sorted l).toArray ∧ RowKit.Below g w w' := by
  have hz : (ints l).length = l.length := by unfold ints; rw [List.length_map]
  have h := sort_any g 0 cap (ints l) w hH hg (by omega)
  rw [hz] at h
  refine h.mono ?_
  rintro e w' ⟨he, n, os, rfl⟩
  have hs : (sorted l).toArray.size = (ints l).toArray.size := by rw [List.size_toArray, List.size_toArray, sorted_length, hz]
  have hsz : (putRow (Value.int .u32) (Sort.ahead w n) g 0 (sorted l).toArray).heap.size = w.heap.size := by simp [putRow, mapBlock, Sort.ahead]
  refine ⟨he, ?_, ?_⟩
  · exact holds_grow _ _ _ _ _ _ (by rw [show ((ints l).mergeSort fun x y => decide (x ≤ y)) = sorted l from rfl, hsz]; exact hg) (holds_putRow _ _ _ _ _ _ (holds_ahead _ _ n _ _ _ hH) hs)
  · exact below_grow0 (below_putRow (RowKit.Below.refl g w) (Nat.le_refl _)) (by rw [show ((ints l).mergeSort fun x y => decide (x ≤ y)) = sorted l from rfl, hsz]; omega) os

theorem compactl_any (g cap : Nat) (l : List Nat) (w : World) (hH : Holds (Value.int .u32) w g 0 (sorted l).toArray) (hlen : l.length ≤ 24) (hcap : l.length ≤ cap) :
    Calls Tryz.prog 124 #[.slice (some ⟨g, 0, none⟩) l.length cap] w fun e w' => ∃ m : Nat, e = .returned (.slice (some ⟨g, 0, none⟩) m cap) ∧ Hid (decide (m = l.length) = decide l.Nodup) ∧ m ≤ 24 ∧ RowKit.Below g w w' := by
  have hs : (sorted l).toArray.size = l.length := by rw [List.size_toArray, sorted_length]
  have h := Tryz.slices_Compact (Value.int .u32) (fun _ => rfl) (EqlAt.intD _ _ _) (NeqAt.intD _ _ _) 0 Tryz.zeroValue22 g 0 cap (sorted l).toArray w hH (by omega) (by omega)
  rw [hs] at h
  refine h.mono ?_
  rintro e w' ⟨he, q, rfl⟩
  have hc := compact_nodup l
  rw [hs] at hc
  have hle : (compactUpTo (sorted l).toArray l.length).length ≤ l.length := by
    unfold compactUpTo; rw [List.length_map]; exact Nat.le_trans (List.length_filter_le _ _) (by rw [List.length_range]; exact Nat.le_refl _)
  exact ⟨_, he, by show _ = _; rw [decide_eq_decide]; exact hc, by omega, below_putRow (RowKit.Below.refl g w) (Nat.le_refl _)⟩

set_option maxHeartbeats 1000000 in
theorem pc7_any (b off cap a : Nat) (l : List Nat) (w : World) (hl : RowAt w b off l) (hlen : l.length ≤ 24)
    (ha : w.cell? ⟨a, 3, none⟩ = some (.slice (some ⟨b, off, none⟩) l.length cap)) (haw : a < w.heap.size) :
    Calls Tryz.prog 121 #[.pointer (some ⟨a, 0, none⟩)] w fun r w' => r = .returned (.bool (decide l.Nodup)) ∧ RowKit.Below w.heap.size w w' := by
  go_enter Tryz.func121, Tryz.ntmps121
  go_wp2_with fail
  refine (clone_any _ _ _ _ _ hl (by omega)).mono ?_
  rintro e w1 ⟨g, cap', rfl, hg, hg1, hc1, hc2, hH, hb1⟩
  have hH0 := Lib.hid hH; clear hH
  have hc : Hid (l.length ≤ cap') := hc1
  go_wp2_with fail
  refine (sortl_any _ _ _ _ hH0.out hg1 hlen).mono ?_
  rintro e w2 ⟨rfl, hH2, hb2⟩
  have hH3 := Lib.hid hH2; clear hH2 hH0
  have ha2 : ∀ wx, RowKit.Below g w2 wx → wx.cell? ⟨a, 3, none⟩ = some (.slice (some ⟨b, off, none⟩) l.length cap) := fun wx h => by
    rw [h.cell (p := ⟨a, 3, none⟩) (show a < g by omega), hb2.cell (p := ⟨a, 3, none⟩) (show a < g by omega), hb1.cell (p := ⟨a, 3, none⟩) haw]; exact ha
  have ha2' := Lib.hid ha2
  have haw2 := ha2 w2 (RowKit.Below.refl _ _)
  clear ha2
  go_wp2_with fail
  go_region_with (go_at_call 124; refine (compactl_any _ _ _ _ (by exact hH3.out) hlen hc.out).mono ?_; rintro e w3 ⟨m, rfl, hm, hm24, hb3⟩; have ha3 := ha2'.out w3 ((RowKit.Below.refl g w2).drew.trans hb3))
  all_goals go_wp2
  all_goals go_ret
  all_goals refine ⟨ret_bool ?_, (hb1.trans (hb2.mono hg)).trans (((RowKit.Below.refl _ w2).drew.trans (by assumption)).mono hg)⟩
  all_goals rw [← hm.out]
  all_goals exact natbeq m l.length
end Go.Proofs.YtjpcljnojipdnaaGreat

/-! params.Check. -/
namespace Go.Proofs.YtjpcljnojipdnaaGreat
open Go.RowKit

set_option maxHeartbeats 400000 in
theorem pcon_any (b off cap a f c : Nat) (l : List Nat) (s : Nat) (x : Par) (cv : Value) (w : World) (hl : RowAt w b off l) (hlen : l.length ≤ 140737488351232) (hB : BoxP w a x cv) (ha : a < w.heap.size) (hs0 : 0 < s) (hs1 : s ≤ 137438953408)
    (hf : w.cell? ⟨f, 0, none⟩ = some (.func (.func 112) #[] #[.pointer (some ⟨c, 0, none⟩)])) (hfw : f < w.heap.size) (hc : w.cell? ⟨c, 0, none⟩ = some (.int .i64 s)) (hcw : c < w.heap.size) :
    Calls Tryz.prog 119 #[.slice (some ⟨b, off, none⟩) l.length cap, .func (.func 120) #[] #[.pointer (some ⟨a, 0, none⟩), .pointer (some ⟨f, 0, none⟩)]] w fun r w' =>
      r = .returned (.bool (l.any (badB mPrime s x.sp))) ∧ Below w.heap.size w w' := by
  have hB' := Lib.hid hB
  have hf' := Lib.hid hf
  have hc' := Lib.hid hc
  clear hB hf hc
  go_enter Tryz.func119, Tryz.ntmps119
  go_wp2_with (go_at_call 142; refine (pidx_any _ _ _ _ _ _ _ _ _ _ _ hl hlen hB'.out ha hs0 hs1 hf'.out hfw hc'.out hcw).mono ?_; rintro e w1 ⟨rfl, hb1⟩)
  go_ret
  exact ⟨ret_bool (idxOf_nonneg _ _), hb1⟩

set_option maxHeartbeats 400000 in
theorem pc6_any (b off cap a f c : Nat) (l : List Nat) (s : Nat) (x : Par) (w : World) (hl : RowAt w b off l) (hlen : l.length ≤ 140737488351232) (hB : BoxP w a x (.slice (some ⟨b, off, none⟩) l.length cap)) (ha : a < w.heap.size) (hs0 : 0 < s) (hs1 : s ≤ 137438953408)
    (hf : w.cell? ⟨f, 0, none⟩ = some (.func (.func 112) #[] #[.pointer (some ⟨c, 0, none⟩)])) (hfw : f < w.heap.size) (hc : w.cell? ⟨c, 0, none⟩ = some (.int .i64 s)) (hcw : c < w.heap.size) :
    Calls Tryz.prog 118 #[.pointer (some ⟨a, 0, none⟩), .pointer (some ⟨f, 0, none⟩)] w fun r w' =>
      r = .returned (.bool (!(l.any (badB mPrime s x.sp)))) ∧ Below w.heap.size w w' := by
  have hB' := Lib.hid hB
  have hf' := Lib.hid hf
  have hc' := Lib.hid hc
  have l3 := hB.ch
  clear hB hf hc
  generalize hany : l.any (badB mPrime s x.sp) = r0
  have hany' := Lib.hid hany
  clear hany
  go_enter Tryz.func118, Tryz.ntmps118
  go_wp2_with (go_at_call 119; refine (pcon_any _ _ _ _ _ _ _ _ _ _ _ hl hlen hB'.out ha hs0 hs1 hf'.out hfw hc'.out hcw).mono ?_; rintro e w1 ⟨rfl, hb1⟩; rw [hany'.out])
  go_ret
  exact ⟨rfl, hb1⟩

/-- A list as a slice value: nil, or cells of its own. -/
def SliceAt (w : World) (v : Value) (l : List Nat) : Prop :=
  ∃ (p : Option Addr) (cap : Nat), v = .slice p l.length cap ∧ l.length ≤ cap ∧ l.length ≤ 140737488351232 ∧ (l ≠ [] → ∃ b off, p = some ⟨b, off, none⟩ ∧ RowAt w b off l)

structure ParOk (x : Par) : Prop where
  n0 : -9223372036854775808 ≤ x.n
  n1 : x.n ≤ 9223372036854775807
  p1 : x.p < 4294967296
  r0 : -9223372036854775808 ≤ x.r
  r1 : x.r ≤ 9223372036854775807
  sp1 : x.sp < 4294967296

def Par.val (x : Par) (cv : Value) : Value := .agg #[.int .i64 x.n, .int .u32 x.p, .int .i64 x.r, cv, .int .u32 x.sp, .int .i64 x.wt, .int .u32 x.er]

/-- The conditions, in the order in which they are asked. -/
def conds (pr : Nat → Bool) (x : Par) : List Bool :=
  [decide (0 < x.t pr), lenB x.ch.length, wtB x, goodS pr (stepOf pr x) x.sp, !(x.ch.any (badB pr (stepOf pr x) x.sp)), decide x.ch.Nodup]

theorem okB_conds (pr : Nat → Bool) (x : Par) : okB pr x = (isDim x.n && (conds pr x).all id) := by
  unfold okB conds; simp

theorem conds_step {pr : Nat → Bool} {x : Par} {k : Nat} {b : Bool} (h : ∀ c, c ∈ (conds pr x).take k → c = true) (hk : (conds pr x)[k]? = some b) (hb : b = true) : ∀ c, c ∈ (conds pr x).take (k + 1) → c = true := by
  intro c hc
  rw [List.take_add_one] at hc
  rcases List.mem_append.1 hc with h1 | h1
  · exact h c h1
  · rw [hk] at h1; simp at h1; rw [h1]; exact hb

theorem conds_no {pr : Nat → Bool} {x : Par} {k : Nat} (hk : (conds pr x)[k]? = some false) : chk pr x = 2 := by
  have : okB pr x = false := by
    rw [okB_conds]
    have : (conds pr x).all id = false := by
      rw [List.all_eq_false]
      exact ⟨false, List.mem_of_getElem? hk, by simp⟩
    rw [this, Bool.and_false]
  unfold chk; rw [this]; rfl

theorem conds_yes {pr : Nat → Bool} {x : Par} (hd : isDim x.n = true) (h : ∀ c, c ∈ (conds pr x).take 6 → c = true) : chk pr x = 0 := by
  have : okB pr x = true := by
    rw [okB_conds, hd, Bool.true_and, List.all_eq_true]
    intro c hc; exact h c hc
  unfold chk; rw [this]; rfl

/-- What the loop over the conditions reads. -/
structure ChkW (wr : World) (A T : Nat) (x : Par) (cv : Value) (t s : Nat) : Prop where
  size : T + 4 ≤ wr.heap.size
  box : BoxP wr A x cv
  ct : wr.cell? ⟨T, 0, none⟩ = some (.int .i64 t)
  cs : wr.cell? ⟨T + 1, 0, none⟩ = some (.int .i64 s)
  cf : wr.cell? ⟨T + 1 + 1, 0, none⟩ = some (.func (.func 112) #[] #[.pointer (some ⟨T + 1, 0, none⟩)])
  c0 : wr.cell? ⟨T + 1 + 1 + 1, 0, none⟩ = some (.func (.func 114) #[] #[.pointer (some ⟨T, 0, none⟩)])
  c1 : wr.cell? ⟨T + 1 + 1 + 1, 1, none⟩ = some (.func (.func 115) #[] #[.pointer (some ⟨A, 0, none⟩)])
  c2 : wr.cell? ⟨T + 1 + 1 + 1, 2, none⟩ = some (.func (.func 116) #[] #[.pointer (some ⟨A, 0, none⟩)])
  c3 : wr.cell? ⟨T + 1 + 1 + 1, 3, none⟩ = some (.func (.func 117) #[] #[.pointer (some ⟨T + 1 + 1, 0, none⟩), .pointer (some ⟨A, 0, none⟩)])
  c4 : wr.cell? ⟨T + 1 + 1 + 1, 4, none⟩ = some (.func (.func 118) #[] #[.pointer (some ⟨A, 0, none⟩), .pointer (some ⟨T + 1 + 1, 0, none⟩)])
  c5 : wr.cell? ⟨T + 1 + 1 + 1, 5, none⟩ = some (.func (.func 121) #[] #[.pointer (some ⟨A, 0, none⟩)])

theorem ChkW.below {w w' : World} {A T : Nat} {x : Par} {cv : Value} {t s : Nat} (h : ChkW w A T x cv t s) (hA : A < T) (hb : Below w.heap.size w w') : ChkW w' A T x cv t s := by
  have hs := h.size
  refine ⟨Nat.le_trans h.size hb.size, h.box.below hb (by omega), ?_, ?_, ?_, ?_, ?_, ?_, ?_, ?_, ?_⟩
  · rw [hb.cell (p := ⟨_, _, none⟩) (by show T < _; omega)]; exact h.ct
  · rw [hb.cell (p := ⟨_, _, none⟩) (by show T + 1 < _; omega)]; exact h.cs
  · rw [hb.cell (p := ⟨_, _, none⟩) (by show T + 1 + 1 < _; omega)]; exact h.cf
  all_goals rw [hb.cell (p := ⟨_, _, none⟩) (by show T + 1 + 1 + 1 < _; omega)]
  · exact h.c0
  · exact h.c1
  · exact h.c2
  · exact h.c3
  · exact h.c4
  · exact h.c5

set_option maxHeartbeats 1000000 in
theorem pcheck_any (x : Par) (cv : Value) (w : World) (hx : ParOk x) (hcv : SliceAt w cv x.ch) :
    Calls Tryz.prog 66 #[x.val cv] w fun r w' => r = .returned (.int .i64 (chk mPrime x)) ∧ Below w.heap.size w w' := by
  obtain ⟨p, cap, rfl, hcap, hcap2, hrow⟩ := hcv
  unfold Par.val
  have hn0 := hx.n0; have hn1 := hx.n1
  cases hd : isDim x.n with
  | false =>
    have hR : Hid (chk mPrime x = 2) := by show _ = _; unfold chk okB; rw [hd]; rfl
    go_enter Tryz.func66, Tryz.ntmps66
    go_wp2_with fail
    refine (pdim_any _ _ hn0 hn1).mono ?_
    rintro e w1 ⟨rfl, rfl⟩
    rw [hd]
    go_wp2_with fail
    go_ret
    exact ⟨ret_int (by rw [hR.out]), (Below.refl _ _).alloc (Nat.le_refl _) _⟩
  | true =>
    have hn4 : 4 ≤ x.n ∧ x.n ≤ 32 := by have := isDim_cases hd; omega
    obtain ⟨hn4, hn32⟩ := hn4
    go_enter Tryz.func66, Tryz.ntmps66
    go_wp2_with fail
    refine (pdim_any _ _ hn0 hn1).mono ?_
    rintro e w1 ⟨rfl, rfl⟩
    rw [hd]
    go_wp2_with fail
    refine (ppower_any _ _ _ _ hn4 hn32 hx.p1 hx.r0 hx.r1).mono ?_
    rintro e w1 ⟨rfl, hb1⟩
    have htl := powv_le mPrime x.n x.p x.r
    have hT : Hid (x.t mPrime = powv mPrime x.n x.p x.r) := rfl
    generalize powv mPrime x.n x.p x.r = t at htl hT ⊢
    have hm0 : (0 : Int) ≤ 2 * x.n * (t : Int) := Int.mul_nonneg (by omega) (by omega)
    have hm1 : 2 * x.n * (t : Int) ≤ 64 * 2147483647 := Int.mul_le_mul (by omega) (by omega) (by omega) (by omega)
    have hB : BoxP w1 w.heap.size x (.slice p x.ch.length cap) := by
      refine BoxP.below (w := w.alloc (.cells #[.int .i64 x.n, .int .u32 x.p, .int .i64 x.r, .slice p x.ch.length cap, .int .u32 x.sp, .int .i64 x.wt, .int .u32 x.er] 25)) ?_ hb1 (by simp)
      constructor <;> simp [go_sem]
    have hB' := Lib.hid hB; clear hB
    have hsz : w.heap.size + 1 ≤ w1.heap.size := by have := hb1.size; simpa using this
    have hlt : w.heap.size < w1.heap.size := by omega
    have hbw : Below w.heap.size w w1 := ((Below.refl _ _).alloc (Nat.le_refl _) _).trans (hb1.mono (by simp))
    clear hb1
    have l0 := hB'.out.n
    go_wp2_with fail
    have hst : Hid (stepOf mPrime x = (2 * x.n).toNat * t) := by show _ = _; unfold stepOf; rw [hT.out]
    obtain ⟨s, hs⟩ : ∃ s : Nat, s = (2 * x.n).toNat * t := ⟨_, rfl⟩
    have hsi : (s : Int) = 2 * x.n * (t : Int) := by rw [hs, Int.natCast_mul, Int.toNat_of_nonneg (by omega)]
    have hs2 : Hid (stepOf mPrime x = s) := by show _ = _; rw [hst.out, hs]
    have hst0 : 0 < t → 0 < s := fun h => by rw [hs]; exact Nat.mul_pos (by omega) h
    have hs1 : s ≤ 137438953408 := by omega
    clear hst hs
    go_loopw [8, 35] (fun _ vk wr => ∃ k : Nat, vk = .int .i64 k ∧ k ≤ 6 ∧ Hid (∀ c, c ∈ (conds mPrime x).take k → c = true) ∧ ChkW wr w.heap.size w1.heap.size x (.slice p x.ch.length cap) t s ∧ Below w.heap.size w wr) (fun _ vk _ => 6 - (intOf vk).toNat)
    case atStart =>
      refine ⟨0, rfl, by omega, by intro c hc; simp at hc, ?_, ?_⟩
      · have hbx : Below w1.heap.size w1 ((((w1.alloc (.cells #[.int .i64 t] 2)).alloc (.cells #[.int .i64 (2 * x.n * t)] 2)).alloc (.cells #[.func (.func 112) #[] #[.pointer (some ⟨w1.heap.size + 1, 0, none⟩)]] 99)).alloc (.cells #[.func (.func 114) #[] #[.pointer (some ⟨w1.heap.size, 0, none⟩)], .func (.func 115) #[] #[.pointer (some ⟨w.heap.size, 0, none⟩)], .func (.func 116) #[] #[.pointer (some ⟨w.heap.size, 0, none⟩)], .func (.func 117) #[] #[.pointer (some ⟨w1.heap.size + 1 + 1, 0, none⟩), .pointer (some ⟨w.heap.size, 0, none⟩)], .func (.func 118) #[] #[.pointer (some ⟨w.heap.size, 0, none⟩), .pointer (some ⟨w1.heap.size + 1 + 1, 0, none⟩)], .func (.func 121) #[] #[.pointer (some ⟨w.heap.size, 0, none⟩)]] 29)) := by
          go_grown
        refine ⟨by simp, hB'.out.below hbx hlt, ?_, ?_, ?_, ?_, ?_, ?_, ?_, ?_, ?_⟩
        all_goals simp [go_sem]
        exact hsi.symm
      · go_grown
    case round =>
      obtain ⟨k, rfl, hk, hall, hW, hbel⟩ := hrel
      have hsz2 := hbel.size
      have hA : w.heap.size < wr.heap.size := by have := hW.size; omega
      have hT1 : w1.heap.size < wr.heap.size := by have := hW.size; omega
      have hT2 : w1.heap.size + 1 < wr.heap.size := by have := hW.size; omega
      have hT3 : w1.heap.size + 1 + 1 < wr.heap.size := by have := hW.size; omega
      have HW := Lib.hid hW
      rcases (show k = 0 ∨ k = 1 ∨ k = 2 ∨ k = 3 ∨ k = 4 ∨ k = 5 ∨ k = 6 by omega) with rfl | rfl | rfl | rfl | rfl | rfl | rfl
      · have hck := hW.c0
        have hval : (conds mPrime x)[0]? = some (decide (0 < t)) := by show some (decide (0 < x.t mPrime)) = _; rw [hT.out]
        have HC := Lib.hid (pc2_any t _ _ hW.ct)
        generalize hv : (decide (0 < t)) = v at hval HC
        clear hW hv
        cases v with
        | true =>
          have hall' := Lib.hid (conds_step hall.out hval rfl)
          clear hall
          go_wp2_with (go_at_call 114; refine (HC.out).mono ?_; rintro e w2 ⟨rfl, rfl⟩)
          go_roundw
          case rel => exact ⟨1, rfl, by omega, hall'.out, HW.out, hbel⟩
          case measure => simp [intOf]
        | false =>
          have hR : Hid (chk mPrime x = 2) := conds_no hval
          go_wp2_with (go_at_call 114; refine (HC.out).mono ?_; rintro e w2 ⟨rfl, rfl⟩)
          go_ret
          exact ⟨ret_int (by rw [hR.out]), hbel⟩
      · have hck := hW.c1
        have hval : (conds mPrime x)[1]? = some (lenB x.ch.length) := rfl
        have HC := Lib.hid (pc3_any _ _ _ _ _ hW.box.ch)
        generalize hv : (lenB x.ch.length) = v at hval HC
        clear hW hv
        cases v with
        | true =>
          have hall' := Lib.hid (conds_step hall.out hval rfl)
          clear hall
          go_wp2_with (go_at_call 115; refine (HC.out).mono ?_; rintro e w2 ⟨rfl, rfl⟩)
          go_roundw
          case rel => exact ⟨2, rfl, by omega, hall'.out, HW.out, hbel⟩
          case measure => simp [intOf]
        | false =>
          have hR : Hid (chk mPrime x = 2) := conds_no hval
          go_wp2_with (go_at_call 115; refine (HC.out).mono ?_; rintro e w2 ⟨rfl, rfl⟩)
          go_ret
          exact ⟨ret_int (by rw [hR.out]), hbel⟩
      · have hck := hW.c2
        have hval : (conds mPrime x)[2]? = some (wtB x) := rfl
        have HC := Lib.hid (pc4_any _ _ _ _ hW.box)
        generalize hv : (wtB x) = v at hval HC
        clear hW hv
        cases v with
        | true =>
          have hall' := Lib.hid (conds_step hall.out hval rfl)
          clear hall
          go_wp2_with (go_at_call 116; refine (HC.out).mono ?_; rintro e w2 ⟨rfl, rfl⟩)
          go_roundw
          case rel => exact ⟨3, rfl, by omega, hall'.out, HW.out, hbel⟩
          case measure => simp [intOf]
        | false =>
          have hR : Hid (chk mPrime x = 2) := conds_no hval
          go_wp2_with (go_at_call 116; refine (HC.out).mono ?_; rintro e w2 ⟨rfl, rfl⟩)
          go_ret
          exact ⟨ret_int (by rw [hR.out]), hbel⟩
      · have hck := hW.c3
        have hs0 : 0 < s := hst0 (by have := hall.out (decide (0 < x.t mPrime)) (by simp [conds]); rw [hT.out] at this; exact of_decide_eq_true this)
        have hval : (conds mPrime x)[3]? = some (goodS mPrime s x.sp) := by show some (goodS mPrime (stepOf mPrime x) x.sp) = _; rw [hs2.out]
        have HC := Lib.hid (pc5_any _ _ _ s _ _ _ hW.box hx.sp1 hs0 hs1 hW.cf hW.cs)
        generalize hv : (goodS mPrime s x.sp) = v at hval HC
        clear hW hv
        cases v with
        | true =>
          have hall' := Lib.hid (conds_step hall.out hval rfl)
          clear hall
          go_wp2_with (go_at_call 117; refine (HC.out).mono ?_; rintro e w2 ⟨rfl, hb2⟩)
          go_roundw
          case rel => exact ⟨4, rfl, by omega, hall'.out, HW.out.below hlt hb2, hbel.trans (hb2.mono hsz2)⟩
          case measure => simp [intOf]
        | false =>
          have hR : Hid (chk mPrime x = 2) := conds_no hval
          go_wp2_with (go_at_call 117; refine (HC.out).mono ?_; rintro e w2 ⟨rfl, hb2⟩)
          go_ret
          exact ⟨ret_int (by rw [hR.out]), hbel.trans (hb2.mono hsz2)⟩
      · have hck := hW.c4
        have hs0 : 0 < s := hst0 (by have := hall.out (decide (0 < x.t mPrime)) (by simp [conds]); rw [hT.out] at this; exact of_decide_eq_true this)
        have hlb : 1 ≤ x.ch.length ∧ x.ch.length ≤ 24 := by have := hall.out (lenB x.ch.length) (by simp [conds]); exact of_decide_eq_true this
        have hl24 := hlb.2
        have hlen : x.ch.length ≤ 140737488351232 := by omega
        obtain ⟨b, off, rfl, hr0⟩ := hrow (by intro h; rw [h] at hlb; simp at hlb)
        have hr := hr0.below hbel hr0.blk
        have hval : (conds mPrime x)[4]? = some (!(x.ch.any (badB mPrime s x.sp))) := by show some (!(x.ch.any (badB mPrime (stepOf mPrime x) x.sp))) = _; rw [hs2.out]
        have HC := Lib.hid (pc6_any _ _ _ _ _ _ x.ch s _ _ hr hlen hW.box hA hs0 hs1 hW.cf hT3 hW.cs hT2)
        generalize hv : (!(x.ch.any (badB mPrime s x.sp))) = v at hval HC
        clear hW hv
        clear hr hr0 hlb hrow
        cases v with
        | true =>
          have hall' := Lib.hid (conds_step hall.out hval rfl)
          clear hall
          go_wp2_with (go_at_call 118; refine (HC.out).mono ?_; rintro e w2 ⟨rfl, hb2⟩)
          go_roundw
          case rel => exact ⟨5, rfl, by omega, hall'.out, HW.out.below hlt hb2, hbel.trans (hb2.mono hsz2)⟩
          case measure => simp [intOf]
        | false =>
          have hR : Hid (chk mPrime x = 2) := conds_no hval
          go_wp2_with (go_at_call 118; refine (HC.out).mono ?_; rintro e w2 ⟨rfl, hb2⟩)
          go_ret
          exact ⟨ret_int (by rw [hR.out]), hbel.trans (hb2.mono hsz2)⟩
      · have hck := hW.c5
        have hs0 : 0 < s := hst0 (by have := hall.out (decide (0 < x.t mPrime)) (by simp [conds]); rw [hT.out] at this; exact of_decide_eq_true this)
        have hlb : 1 ≤ x.ch.length ∧ x.ch.length ≤ 24 := by have := hall.out (lenB x.ch.length) (by simp [conds]); exact of_decide_eq_true this
        have hl24 := hlb.2
        have hlen : x.ch.length ≤ 140737488351232 := by omega
        obtain ⟨b, off, rfl, hr0⟩ := hrow (by intro h; rw [h] at hlb; simp at hlb)
        have hr := hr0.below hbel hr0.blk
        have hval : (conds mPrime x)[5]? = some (decide x.ch.Nodup) := rfl
        have HC := Lib.hid (pc7_any _ _ _ _ x.ch _ hr hl24 hW.box.ch hA)
        generalize hv : (decide x.ch.Nodup) = v at hval HC
        clear hW hv
        clear hr hr0 hlb hrow
        cases v with
        | true =>
          have hall' := Lib.hid (conds_step hall.out hval rfl)
          clear hall
          go_wp2_with (go_at_call 121; refine (HC.out).mono ?_; rintro e w2 ⟨rfl, hb2⟩)
          go_roundw
          case rel => exact ⟨6, rfl, by omega, hall'.out, HW.out.below hlt hb2, hbel.trans (hb2.mono hsz2)⟩
          case measure => simp [intOf]
        | false =>
          have hR : Hid (chk mPrime x = 2) := conds_no hval
          go_wp2_with (go_at_call 121; refine (HC.out).mono ?_; rintro e w2 ⟨rfl, hb2⟩)
          go_ret
          exact ⟨ret_int (by rw [hR.out]), hbel.trans (hb2.mono hsz2)⟩
      · have hR : Hid (chk mPrime x = 0) := conds_yes hd hall.out
        clear hall
        go_wp2_with fail
        go_ret
        exact ⟨ret_int (by rw [hR.out]), hbel⟩
end Go.Proofs.YtjpcljnojipdnaaGreat
