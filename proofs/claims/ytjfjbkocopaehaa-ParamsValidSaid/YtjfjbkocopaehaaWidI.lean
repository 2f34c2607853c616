/- The reference's wide layer: out. -/
import Derived.Test.YtjfjbkocopaehaaWidH
namespace Go.Proofs.Ytjfjbkocopaehaa
open Go.RowKit
set_option linter.unusedVariables false

/-- The bytes of a number as numbers, the highest first. -/
def beL (v n : Nat) : List Nat := (List.range n).map (fun i => dig 256 v (n - 1 - i))
theorem beL_length (v n : Nat) : (beL v n).length = n := by unfold beL; simp
theorem beL_get {v n i : Nat} (h : i < (beL v n).length) : (beL v n)[i] = dig 256 v (n - 1 - i)  := by
  have e : ∀ (l : List Nat) (hl : l = beL v n) (h : i < l.length), l = (List.range n).map (fun i => dig 256 v (n - 1 - i)) → l[i] = dig 256 v (n - 1 - i) := by
    intro l _ h hl
    subst hl
    rw [List.getElem_map, List.getElem_range]
  exact e _ rfl h rfl
theorem nd_le {x t M : Nat} (h : ND 256 x t) (hx : x < 256 ^ M) : t ≤ M := by
  rcases h.2 with h1 | h1
  · omega
  · apply Classical.byContradiction
    intro hk
    have : 256 ^ M ≤ 256 ^ (t - 1) := Nat.pow_le_pow_right (by decide) (by omega)
    omega
theorem dig_snoc0 {x d : Nat} (hd : d < 256) : dig 256 (x * 256 + d) 0 = d := by unfold dig; simp; omega
theorem dig_snoc {x d i : Nat} (hd : d < 256) : dig 256 (x * 256 + d) (i + 1) = dig 256 x i := by
  unfold dig
  rw [Nat.pow_succ, Nat.mul_comm (256 ^ i), ← Nat.div_div_eq_div_mul, show (x * 256 + d) / 256 = x by omega]
theorem beL_snoc {x t d : Nat} (hd : d < 256) : beL (x * 256 + d) (t + 1) = beL x t ++ [d] := by
  apply List.ext_getElem
  · simp [beL]
  · intro i h1 h2
    have hi : i < t + 1 := by simpa [beL] using h1
    rw [beL_get]
    by_cases e : i < t
    · rw [List.getElem_append_left (by rw [beL_length]; exact e), beL_get, show t + 1 - 1 - i = (t - 1 - i) + 1 by omega, dig_snoc hd]
    · rw [List.getElem_append_right (by rw [beL_length]; omega), List.getElem_singleton, show t + 1 - 1 - i = 0 by omega, dig_snoc0 hd]
theorem ND.snoc {x t d : Nat} (h : ND 256 x t) (hd : d < 256) (h0 : 0 < t ∨ d ≠ 0) : ND 256 (x * 256 + d) (t + 1) := by
  obtain ⟨h1, h2⟩ := h
  refine ⟨by rw [Nat.pow_succ]; omega, .inr ?_⟩
  rw [Nat.add_sub_cancel]
  rcases Nat.eq_zero_or_pos t with rfl | ht
  · rcases h0 with h0 | h0
    · omega
    · simp; omega
  · obtain ⟨s, rfl⟩ : ∃ s, t = s + 1 := ⟨t - 1, by omega⟩
    have h3 : 256 ^ s ≤ x := by rcases h2 with h2 | h2; omega; simpa using h2
    rw [Nat.pow_succ]; omega
theorem half_step (v j : Nat) : v / HW ^ j = v / HW ^ (j + 1) * 65536 + dig HW v j := by
  unfold dig
  rw [Nat.pow_succ, ← Nat.div_div_eq_div_mul]
  generalize v / HW ^ j = y
  unfold HW; omega
theorem u8_wf {d : Nat} (h : d < 256) : (Lit.int .u8 (d : Int)).wf = true := by
  simp [Lit.wf, IntKind.min, IntKind.max, IntKind.bits, IntKind.signed]; omega

theorem bys_snoc {x t d : Nat} (hd : d < 256) : bys (beL x t) ++ [.int .u8 (d : Nat)] = bys (beL (x * 256 + d) (t + 1)) := by
  unfold bys; rw [beL_snoc hd, List.map_append]; rfl
theorem own_cells {w : World} {base : Nat} {e : TypeId} {p : Option Addr} {n cap : Nat} {xs : List Value} (h : w.ownsRow base e 1 (.slice p n cap) n xs) (hn : 0 < n) : ∃ g, p = some ⟨g, 0, none⟩ ∧ ∀ i (hi : i < xs.length), w.cell? ⟨g, i, none⟩ = some xs[i] := by
  have hl : xs.length = n := by simpa using h.1
  rcases h.2 with ⟨hv, h0⟩ | ⟨g, cap', cur, hv, hb, hg, hnc, hm, hs, ht⟩
  · subst h0; simp at hl; omega
  · injection hv with h1 h2 h3
    subst h1
    refine ⟨g, rfl, fun i hi => ?_⟩
    have e1 : (cur.toList.take (n * 1))[i]? = xs[i]? := by rw [ht]
    rw [List.getElem?_take, if_pos (by omega), Array.getElem?_toList, List.getElem?_eq_getElem hi] at e1
    simp only [World.cell?, hg, Option.isSome_none, Bool.false_eq_true, if_false]
    rw [e1]
/-- What 'out' holds in its loop. -/
structure OutS (w1 W : World) (p : Option Addr) (cap t x : Nat) : Prop where
  own : W.ownsRow w1.heap.size 5 1 (.slice p t cap) t (bys (beL x t))
  bel : Below w1.heap.size w1 W
theorem OutS.step {w1 W W' : World} {p p' : Option Addr} {cap cap' t t' x x' : Nat} (h : OutS w1 W p cap t x) (y : Value) (hg : (W.alloc (.cells #[y] 5)).grownBy W' (Value.slice p t cap).ownBlock)
    (ho : W'.ownsRow w1.heap.size 5 1 (.slice p' t' cap') t' (bys (beL x' t'))) : OutS w1 W' p' cap' t' x' :=
  ⟨ho, (h.bel.alloc h.bel.size _).grown hg (h.bel.alloc h.bel.size _).size (own_ge h.own)⟩

set_option maxHeartbeats 2000000 in
set_option maxRecDepth 100000 in
theorem rout_any (v k g c : Nat) (w : World) (hr : RowAt w g 0 (digs HW v k)) (hnd : ND HW v k) (hkc : k ≤ c) (hk : k ≤ 1000) (hpos : 0 < v) (h256 : v < 256 ^ 256) :
    Calls Try.prog 92 #[.agg #[.bool false, .slice (some ⟨g, 0, none⟩) k c]] w fun e w' => (∃ n, e = .returned (.tuple #[.agg #[.bool false, .string (beS v n)], .int .i64 0]) ∧ ND 256 v n) ∧ Below w.heap.size w w' := by
  obtain ⟨i0, hi0, hz0, hz1, hz2⟩ := info_parts infoU8
  have H256 := Lib.hid h256; have HND := Lib.hid hnd
  have hB0 : Below w.heap.size w ((w.alloc (.cells #[.bool false, .slice (some ⟨g, 0, none⟩) k c] 120)).alloc (.cells #[.bool false, .string ⟨#[]⟩] 69)) := ((Below.refl _ _).alloc (Nat.le_refl _) _).alloc (by simp) _
  have hk1 : Blk ((w.alloc (.cells #[.bool false, .slice (some ⟨g, 0, none⟩) k c] 120)).alloc (.cells #[.bool false, .string ⟨#[]⟩] 69)) w.heap.size [.bool false, .slice (some ⟨g, 0, none⟩) k c] 120 := (Blk.new w #[.bool false, .slice (some ⟨g, 0, none⟩) k c] 120).alloc _
  have hk2 : Blk ((w.alloc (.cells #[.bool false, .slice (some ⟨g, 0, none⟩) k c] 120)).alloc (.cells #[.bool false, .string ⟨#[]⟩] 69)) (w.heap.size + 1) [.bool false, .string ⟨#[]⟩] 69 := by
    have h := Blk.new (w.alloc (.cells #[.bool false, .slice (some ⟨g, 0, none⟩) k c] 120)) #[.bool false, .string ⟨#[]⟩] 69
    simpa using h
  have HR := Lib.hid (hr.below hB0 hr.blk)
  have HB0 := Lib.hid hB0; have HK1 := Lib.hid hk1; have HK2 := Lib.hid hk2
  clear hr hB0 hk1 hk2 hnd h256
  go_enter Try.func92, Try.ntmps92
  go_wp2_with fail
  generalize ((w.alloc (.cells #[.bool false, .slice (some ⟨g, 0, none⟩) k c] 120)).alloc (.cells #[.bool false, .string ⟨#[]⟩] 69)) = W at HR HB0 HK1 HK2 ⊢
  have c0 : W.cell? ⟨w.heap.size, 0, none⟩ = some (.bool false) := HK1.out.cell 0 (by simp)
  have c1 : W.cell? ⟨w.heap.size, 1, none⟩ = some (.slice (some ⟨g, 0, none⟩) k c) := HK1.out.cell 1 (by simp)
  refine (rtrim_any v k g 0 c _ HR.out hkc hk HND.out.1 hpos).mono ?_
  rintro e W3 ⟨⟨g3, k3, c3, rfl, hn3, hk3, hs3, hg3⟩, hb3⟩
  obtain rfl : k = k3 := HND.out.uniq (by decide) hn3
  have hr1 := HK1.out.below hb3 HK1.out.lt
  have r0 := hr1.cell 0 (by simp)
  have r1 := hr1.cell 1 (by simp)
  have f0 := hr1.free 0
  have f1 := hr1.free 1
  simp only [List.getElem_cons_zero, List.getElem_cons_succ] at r0 r1
  have hgl : w.heap.size + 1 < g3 := by have := HK2.out.lt; omega
  have hs4 : RowAt ((W3.setCell ⟨w.heap.size, 0, none⟩ (.bool false)).setCell ⟨w.heap.size, 1, none⟩ (.slice (some ⟨g3, 0, none⟩) k c3)) g3 0 (digs HW v k) := by
    refine ⟨by simpa using hs3.blk, fun q hq => ?_, hs3.rng⟩
    rw [← hs3.cell q hq, World.cell?_setCell_far _ _ _ _ (by show ¬ w.heap.size = g3; omega), World.cell?_setCell_far _ _ _ _ (by show ¬ w.heap.size = g3; omega)]
  have HS4 := Lib.hid hs4
  have hK1 : Blk ((W3.setCell ⟨w.heap.size, 0, none⟩ (.bool false)).setCell ⟨w.heap.size, 1, none⟩ (.slice (some ⟨g3, 0, none⟩) k c3)) w.heap.size [.bool false, .slice (some ⟨g3, 0, none⟩) k c3] 120 := (hr1.set 0 (.bool false)).set 1 (.slice (some ⟨g3, 0, none⟩) k c3)
  have hK2 : Blk ((W3.setCell ⟨w.heap.size, 0, none⟩ (.bool false)).setCell ⟨w.heap.size, 1, none⟩ (.slice (some ⟨g3, 0, none⟩) k c3)) (w.heap.size + 1) [.bool false, .string ⟨#[]⟩] 69 := by
    have h := HK2.out.below hb3 HK2.out.lt
    exact (h.other (a := ⟨w.heap.size, 0, none⟩) (by show w.heap.size + 1 ≠ w.heap.size; omega) _).other (a := ⟨w.heap.size, 1, none⟩) (by show w.heap.size + 1 ≠ w.heap.size; omega) _
  have HBF := Lib.hid (((HB0.out.trans (hb3.mono HB0.out.size)).setCell (p := ⟨w.heap.size, 0, none⟩) (Nat.le_refl _) (.bool false)).setCell (p := ⟨w.heap.size, 1, none⟩) (Nat.le_refl _) (.slice (some ⟨g3, 0, none⟩) k c3))
  have HK1' := Lib.hid hK1; have HK2' := Lib.hid hK2
  clear hs4 hK1 hK2 hs3 hn3 HK1 HK2 HB0 HR c0 c1
  go_wp2_with fail
  clear hr1 r0 r1 f0 f1
  generalize ((W3.setCell ⟨w.heap.size, 0, none⟩ (.bool false)).setCell ⟨w.heap.size, 1, none⟩ (.slice (some ⟨g3, 0, none⟩) k c3)) = W1 at HS4 HBF HK1' HK2' ⊢
  have HX0 : Hid (v / HW ^ k = 0) := Nat.div_eq_of_lt HND.out.1
  have hI : OutS W1 W1 none 0 0 (v / HW ^ k) := ⟨World.ownsRow_nil _ _ _ _, Below.refl _ _⟩
  have HI := Lib.hid hI
  clear hI
  go_loopw [4, 5] (fun v4 v5 wr => ∃ (j t : Nat) (p : Option Addr) (cap : Nat), v4 = .slice p t cap ∧ v5 = .int .i64 ((j : Int) - 1) ∧ j ≤ k ∧ Hid (OutS W1 wr p cap t (v / HW ^ j)) ∧ Hid (ND 256 (v / HW ^ j) t) ∧ Hid (j < k → 0 < t)) (fun _ v5 _ => (intOf v5 + 1).toNat)
  case atStart => exact ⟨k, 0, none, 0, rfl, rfl, Nat.le_refl _, HI, by show ND _ _ _; rw [HX0.out]; exact ND.zero, fun h => absurd h (by omega)⟩
  case round =>
    obtain ⟨j, t, p, cap, rfl, rfl, hj, hI, hnd, htp⟩ := hrel
    have m0 := (below_at hI.out.bel HK1'.out.lt).trans (HK1'.out.cell 0 (by simp))
    have m1 := (below_at hI.out.bel HK1'.out.lt).trans (HK1'.out.cell 1 (by simp))
    simp only [List.getElem_cons_zero, List.getElem_cons_succ] at m0 m1
    rcases Nat.eq_zero_or_pos j with rfl | hjp
    · obtain ⟨hx0⟩ : Nonempty (v / HW ^ 0 = v) := ⟨by simp⟩
      rw [hx0] at hI hnd
      have t256 : t ≤ 256 := nd_le hnd.out H256.out
      have htp2 : 0 < t := hnd.out.pos hpos
      obtain ⟨gb, rfl, hcells⟩ := own_cells hI.out.own htp2
      have hcv := run_convert_bytes_back (P := Try.prog) wr 143 9 5 ⟨gb, 0, none⟩ cap ((List.range t).map (fun i => UInt8.ofNat (dig 256 v (t - 1 - i)))) Try.underlying143 Try.underlying5 Try.underlying9 (fun q hp => by
          have hpn : q < t := by simpa using hp
          have := hcells q (by unfold bys; rw [List.length_map, beL_length]; exact hpn)
          rw [addr_add, Nat.zero_add, this]
          unfold bys
          have hd8 := dig_lt (B := 256) (by decide) v (t - 1 - q)
          rw [List.getElem_map, beL_get, List.getElem_map, List.getElem_range]
          congr 2
          simp only [UInt8.toNat_ofNat']
          rw [Nat.mod_eq_of_lt (by simpa using hd8)])
      rw [List.length_map, List.length_range] at hcv
      have hbe : (⟨((List.range t).map (fun i => UInt8.ofNat (dig 256 v (t - 1 - i)))).toArray⟩ : ByteArray) = beS v t := rfl
      rw [hbe] at hcv
      have q0 := (below_at hI.out.bel HK2'.out.lt).trans (HK2'.out.cell 0 (by simp))
      have q1 := (below_at hI.out.bel HK2'.out.lt).trans (HK2'.out.cell 1 (by simp))
      have hk2 := HK2'.out.below hI.out.bel HK2'.out.lt
      have f0 := hk2.free 0
      have f1 := hk2.free 1
      simp only [List.getElem_cons_zero, List.getElem_cons_succ] at q0 q1
      obtain ⟨S, hS⟩ : ∃ S, beS v t = S := ⟨_, rfl⟩
      rw [hS] at hcv
      have HSS := Lib.hid hS
      have hd1 : decide ((256 : Int) < (t : Int)) = false := decide_eq_false (by omega)
      have HBW : Hid (Below w.heap.size w wr) := HBF.out.trans (hI.out.bel.mono HBF.out.size)
      have HBF2 := Lib.hid ((HBW.out.setCell (p := ⟨w.heap.size + 1, 0, none⟩) (by show w.heap.size ≤ w.heap.size + 1; omega) (.bool false)).setCell (p := ⟨w.heap.size + 1, 1, none⟩) (by show w.heap.size ≤ w.heap.size + 1; omega) (.string S))
      clear hS hbe hcells hk2 hx0
      go_wp2_with fail
      refine bodyPost_ret (v := .tuple #[.agg #[.bool false, .string S], .int .i64 0]) (by simp [results, Try.results92, go_sem, q0, q1]) rfl ⟨⟨t, by rw [HSS.out], hnd.out⟩, HBF2.out⟩
    · obtain ⟨m, rfl⟩ : ∃ m, j = m + 1 := ⟨j - 1, by omega⟩
      have hc := (below_at hI.out.bel HS4.out.blk).trans (HS4.out.cell m (by rw [digs_length]; omega))
      rw [digs_getElem] at hc
      obtain ⟨D, hD⟩ : ∃ D, dig HW v m = D := ⟨_, rfl⟩
      have hD16 : D < 65536 := by rw [← hD]; exact dig_lt (B := HW) (by decide) v m
      have hX := half_step v m
      rw [hD] at hc hX
      have HT : Hid (m + 1 = k → D ≠ 0) := by
        intro e he
        have := dig_zero (B := HW) (n := m) (by decide) (by rw [e]; exact HND.out.1) (by rw [hD]; exact he)
        rcases HND.out.2 with h | h
        · omega
        · rw [← e, Nat.add_sub_cancel] at h; omega
      obtain ⟨x, hx⟩ : ∃ x, v / HW ^ (m + 1) = x := ⟨_, rfl⟩
      obtain ⟨x2, hx2⟩ : ∃ x, v / HW ^ m = x := ⟨_, rfl⟩
      rw [hx] at hI hnd hX
      rw [hx2] at hX
      have HX2 := Lib.hid hx2
      have HXX : Hid (x2 = (x * 256 + D / 256) * 256 + D % 256) := by show _ = _; omega
      have t256 : t ≤ 256 := nd_le hnd.out (by rw [← hx]; exact Nat.lt_of_le_of_lt (Nat.div_le_self _ _) H256.out)
      rw [Nat.zero_add] at hc
      rw [show ((m + 1 : Nat) : Int) - 1 = (m : Int) by omega]
      have m00 : (0 : Int) ≤ (m : Int) := by omega
      have mk : (m : Int) < (k : Int) := by omega
      have dh : Hid (D / 256 < 256 ∧ D % 256 < 256) := by refine ⟨?_, ?_⟩ <;> omega
      have HDD := Lib.hid hD
      clear hD hX hx hx2
      have hj2 := Lib.hid (show (D : Int) / 256 = ((D / 256 : Nat) : Int) by omega)
      have hj3 := Lib.hid (show (D : Int) % 256 = ((D % 256 : Nat) : Int) by omega)
      by_cases h256 : 256 ≤ D
      · have HQ : Hid (0 < t ∨ D / 256 ≠ 0) := .inr (by omega)
        have hd1 : decide ((256 : Int) ≤ (D : Int)) = true := decide_eq_true (by omega)
        go_wp2_with (at_builtin; refine wpList_append_own _ rfl _ _ 143 rfl W1.heap.size 5 i0 (.int .u8 0) 1 1 Try.underlying143 hi0 hz0 hz1 hz2 rfl (by decide) _ _ _ rfl (hI.out.own.alloc _) ⟨wr.heap.size, 0, none⟩ 1 1 [.int .u8 ((D : Int) / 256)] rfl rfl ?c1 ?c2 ?c3 ?c4 ?c5 ?_)
        case c1 => exact cell_one_new _ _ _
        case c2 => intro u hu; simp at hu; subst hu; rfl
        case c3 => unfold maxLen; omega
        case c4 => omega
        case c5 => exact (hI.out.bel.alloc hI.out.bel.size _).size
        intro v' W4 hown' hgrow _
        rw [hj2.out, bys_snoc dh.out.1] at hown'
        obtain ⟨p4, cap4, rfl⟩ := own_slice hown'
        have HI4 := Lib.hid (hI.out.step _ hgrow hown')
        clear hown' hgrow
        clear hc m0 m1
        have hc := (below_at HI4.out.bel HS4.out.blk).trans (HS4.out.cell m (by rw [digs_length]; omega))
        rw [digs_getElem, HDD.out, Nat.zero_add] at hc
        have m0 := (below_at HI4.out.bel HK1'.out.lt).trans (HK1'.out.cell 0 (by simp))
        have m1 := (below_at HI4.out.bel HK1'.out.lt).trans (HK1'.out.cell 1 (by simp))
        simp only [List.getElem_cons_zero, List.getElem_cons_succ] at m0 m1
        go_wp2_with (at_builtin; refine wpList_append_own _ rfl _ _ 143 rfl W1.heap.size 5 i0 (.int .u8 0) 1 1 Try.underlying143 hi0 hz0 hz1 hz2 rfl (by decide) _ _ _ rfl (HI4.out.own.alloc _) ⟨W4.heap.size, 0, none⟩ 1 1 [.int .u8 ((D : Int) % 256)] rfl rfl ?c1 ?c2 ?c3 ?c4 ?c5 ?_)
        case c1 => exact cell_one_new _ _ _
        case c2 => intro u hu; simp at hu; subst hu; rfl
        case c3 => unfold maxLen; omega
        case c4 => omega
        case c5 => exact (HI4.out.bel.alloc HI4.out.bel.size _).size
        intro v' W5 hown' hgrow _
        rw [hj3.out, bys_snoc dh.out.2] at hown'
        obtain ⟨p5, cap5, rfl⟩ := own_slice hown'
        have HI5 := Lib.hid (HI4.out.step _ hgrow hown')
        clear hown' hgrow
        clear m0 m1 hc
        go_wp2_with fail
        go_roundw
        case rel => exact ⟨m, t + 1 + 1, p5, cap5, rfl, rfl, by omega, by rw [HX2.out, HXX.out]; exact HI5, by rw [HX2.out, HXX.out]; exact (hnd.out.snoc dh.out.1 HQ.out).snoc dh.out.2 (.inl (by omega)), fun _ => by omega⟩
        case measure => simp [intOf]
      · have hd1 : decide ((256 : Int) ≤ (D : Int)) = false := decide_eq_false (by omega)
        rcases Nat.eq_zero_or_pos t with rfl | ht
        · have hx0 : x = 0 := by have := hnd.out.1; simpa using this
          have HE : Hid (x2 = x * 256 + D % 256) := by show _ = _; rw [HXX.out]; omega
          have HQ : Hid (D % 256 ≠ 0) := by
            have h1 : m + 1 = k := by
              apply Classical.byContradiction
              intro h
              exact absurd (htp.out (by omega)) (by omega)
            have := HT.out h1
            show _ ≠ _; omega
          clear hx0
          go_wp2_with (at_builtin; refine wpList_append_own _ rfl _ _ 143 rfl W1.heap.size 5 i0 (.int .u8 0) 1 1 Try.underlying143 hi0 hz0 hz1 hz2 rfl (by decide) _ _ _ rfl (hI.out.own.alloc _) ⟨wr.heap.size, 0, none⟩ 1 1 [.int .u8 ((D : Int) % 256)] rfl rfl ?c1 ?c2 ?c3 ?c4 ?c5 ?_)
          case c1 => exact cell_one_new _ _ _
          case c2 => intro u hu; simp at hu; subst hu; rfl
          case c3 => unfold maxLen; omega
          case c4 => omega
          case c5 => exact (hI.out.bel.alloc hI.out.bel.size _).size
          intro v' W4 hown' hgrow _
          rw [hj3.out, bys_snoc dh.out.2] at hown'
          obtain ⟨p4, cap4, rfl⟩ := own_slice hown'
          have HI4 := Lib.hid (hI.out.step _ hgrow hown')
          clear hown' hgrow
          clear m0 m1 hc
          go_wp2_with fail
          go_roundw
          case rel => exact ⟨m, 0 + 1, p4, cap4, rfl, rfl, by omega, by rw [HX2.out, HE.out]; exact HI4, by rw [HX2.out, HE.out]; exact hnd.out.snoc dh.out.2 (.inr HQ.out), fun _ => by omega⟩
          case measure => simp [intOf]
        · have HQ : Hid (0 < t ∨ D / 256 ≠ 0) := .inl ht
          have hd2 : decide ((0 : Int) < (t : Int)) = true := decide_eq_true (by omega)
          go_wp2_with (at_builtin; refine wpList_append_own _ rfl _ _ 143 rfl W1.heap.size 5 i0 (.int .u8 0) 1 1 Try.underlying143 hi0 hz0 hz1 hz2 rfl (by decide) _ _ _ rfl (hI.out.own.alloc _) ⟨wr.heap.size, 0, none⟩ 1 1 [.int .u8 ((D : Int) / 256)] rfl rfl ?c1 ?c2 ?c3 ?c4 ?c5 ?_)
          case c1 => exact cell_one_new _ _ _
          case c2 => intro u hu; simp at hu; subst hu; rfl
          case c3 => unfold maxLen; omega
          case c4 => omega
          case c5 => exact (hI.out.bel.alloc hI.out.bel.size _).size
          intro v' W4 hown' hgrow _
          rw [hj2.out, bys_snoc dh.out.1] at hown'
          obtain ⟨p4, cap4, rfl⟩ := own_slice hown'
          have HI4 := Lib.hid (hI.out.step _ hgrow hown')
          clear hown' hgrow
          clear hc m0 m1
          have hc := (below_at HI4.out.bel HS4.out.blk).trans (HS4.out.cell m (by rw [digs_length]; omega))
          rw [digs_getElem, HDD.out, Nat.zero_add] at hc
          have m0 := (below_at HI4.out.bel HK1'.out.lt).trans (HK1'.out.cell 0 (by simp))
          have m1 := (below_at HI4.out.bel HK1'.out.lt).trans (HK1'.out.cell 1 (by simp))
          simp only [List.getElem_cons_zero, List.getElem_cons_succ] at m0 m1
          go_wp2_with (at_builtin; refine wpList_append_own _ rfl _ _ 143 rfl W1.heap.size 5 i0 (.int .u8 0) 1 1 Try.underlying143 hi0 hz0 hz1 hz2 rfl (by decide) _ _ _ rfl (HI4.out.own.alloc _) ⟨W4.heap.size, 0, none⟩ 1 1 [.int .u8 ((D : Int) % 256)] rfl rfl ?c1 ?c2 ?c3 ?c4 ?c5 ?_)
          case c1 => exact cell_one_new _ _ _
          case c2 => intro u hu; simp at hu; subst hu; rfl
          case c3 => unfold maxLen; omega
          case c4 => omega
          case c5 => exact (HI4.out.bel.alloc HI4.out.bel.size _).size
          intro v' W5 hown' hgrow _
          rw [hj3.out, bys_snoc dh.out.2] at hown'
          obtain ⟨p5, cap5, rfl⟩ := own_slice hown'
          have HI5 := Lib.hid (HI4.out.step _ hgrow hown')
          clear hown' hgrow
          clear m0 m1 hc
          go_wp2_with fail
          go_roundw
          case rel => exact ⟨m, t + 1 + 1, p5, cap5, rfl, rfl, by omega, by rw [HX2.out, HXX.out]; exact HI5, by rw [HX2.out, HXX.out]; exact (hnd.out.snoc dh.out.1 HQ.out).snoc dh.out.2 (.inl (by omega)), fun _ => by omega⟩
          case measure => simp [intOf]
end Go.Proofs.Ytjfjbkocopaehaa
