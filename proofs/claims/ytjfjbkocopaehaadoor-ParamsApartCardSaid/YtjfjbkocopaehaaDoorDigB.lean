/- Numbers as texts: params.texts. -/
import Derived.Test.YtjfjbkocopaehaaDoorDigA
namespace Go.Proofs.YtjfjbkocopaehaaDoor
open Go.RowKit
set_option linter.unusedVariables false

/-- The table of the powers of ten lies as it is laid. -/
def Tab (w : World) : Prop := Lib.TabIs Tryd.prog w "internal/strconv.uint64pow10" .u64 Lib.pow10Tab
theorem Tab.below {w w' : World} (h : Tab w) (hb : Below w.heap.size w w') : Tab w' := by
  unfold Tab Lib.TabIs World.var? at h ⊢
  cases hg : Tryd.prog.globalNamed "internal/strconv.uint64pow10" with
  | none => simp [hg] at h
  | some g =>
    simp only [hg, Option.bind_some] at h ⊢
    have hlt : g < w.heap.size := by
      rcases Nat.lt_or_ge g w.heap.size with h' | h'
      · exact h'
      · simp [Array.getElem?_eq_none h'] at h
    rw [hb.block g hlt]
    exact h
theorem pfmt_any (n : Nat) (w : World) (hn : n < 9223372036854775808) (ht : Tab w) :
    Calls Tryd.prog 34 #[.int .i64 n, .int .i64 10] w fun e w' => e = .returned (.string (dec n)) ∧ Below w.heap.size w w' :=
  (Tryd.strconv_FormatInt_10 n (by omega) (by omega) w ht).mono fun e w' ⟨h1, k, os, h2⟩ => by
    refine ⟨?_, ?_⟩
    · rw [h1]
      unfold dec Lib.itoa
      rw [if_neg (by omega), Int.toNat_natCast]
    · rw [h2]
      exact below_grow0 (below_drewN (Below.refl _ _) k) (by simp) os
theorem infoStr : (Tryd.prog.info? 9).map (fun i => (i.zero, i.size, i.bytes)) = some (some (.string ⟨#[]⟩), 1, 16) := by kernel_rfl
/-- Strings as cells. -/
def strV (l : List ByteArray) : List Value := l.map Value.string
theorem strV_snoc (l : List ByteArray) (s : ByteArray) : strV l ++ [.string s] = strV (l ++ [s]) := by unfold strV; rw [List.map_append]; rfl
theorem strV_append (l m : List ByteArray) : strV l ++ strV m = strV (l ++ m) := by unfold strV; rw [List.map_append]
theorem strV_length (l : List ByteArray) : (strV l).length = l.length := by unfold strV; rw [List.length_map]
/-- What texts holds. -/
structure TxS (w W : World) (p : Option Addr) (cap : Nat) (l : List ByteArray) : Prop where
  own : W.ownsRow w.heap.size 9 1 (.slice p l.length cap) l.length (strV l)
  bel : Below w.heap.size w W
theorem TxS.below {w W W' : World} {p : Option Addr} {cap : Nat} {l : List ByteArray} (h : TxS w W p cap l) (hb : Below W.heap.size W W') : TxS w W' p cap l :=
  ⟨owns_below h.own hb, h.bel.trans (hb.mono h.bel.size)⟩
theorem TxS.alloc {w W : World} {p : Option Addr} {cap : Nat} {l : List ByteArray} (h : TxS w W p cap l) (o : Obj) : TxS w (W.alloc o) p cap l := h.below ((Below.refl _ _).alloc (Nat.le_refl _) o)
theorem TxS.put {w W W' : World} {p : Option Addr} {cap : Nat} {l m : List ByteArray} {v' : Value} (h : TxS w W p cap l) (hg : W.grownBy W' (Value.slice p l.length cap).ownBlock)
    (ho : W'.ownsRow w.heap.size 9 1 v' (l.length + m.length) (strV l ++ strV m)) : ∃ p' cap', v' = .slice p' (l.length + m.length) cap' ∧ TxS w W' p' cap' (l ++ m) := by
  have h5 : Below w.heap.size W W' := (Below.refl w.heap.size W).grown hg h.bel.size (own_ge h.own)
  obtain ⟨p', cap', rfl⟩ := own_slice ho
  have hl : l.length + m.length = (l ++ m).length := by rw [List.length_append]
  refine ⟨p', cap', rfl, ?_⟩
  rw [strV_append] at ho
  rw [hl] at ho
  exact ⟨ho, h.bel.trans h5⟩
theorem TxS.slice {w W : World} {p : Option Addr} {cap : Nat} {l : List ByteArray} (h : TxS w W p cap l) : SliceB W (.slice p l.length cap) l := by
  have hl : (strV l).length = l.length := strV_length l
  rcases h.own.2 with ⟨hv, h0⟩ | ⟨g, c, cur, hv, hb, hg, hnc, hm, hs, ht⟩
  · injection hv with h1 h2 h3
    subst h1
    exact ⟨none, cap, rfl, by omega, fun hne => absurd (List.length_eq_zero_iff.1 h0) hne⟩
  · injection hv with h1 h2 h3
    subst h1 h3
    refine ⟨_, cap, rfl, hnc, fun hne => ⟨g, 0, rfl, lt_of_block hg, fun i hi => ?_⟩⟩
    have e1 : (cur.toList.take (l.length * 1))[i]? = (strV l)[i]? := by rw [ht]
    rw [List.getElem?_take, if_pos (by omega), Array.getElem?_toList, List.getElem?_eq_getElem (by rw [hl]; exact hi)] at e1
    simp only [World.cell?, hg, Option.isSome_none, Bool.false_eq_true, if_false, Nat.zero_add]
    rw [e1]
    unfold strV
    rw [List.getElem_map]
/-- Numbers in a row of memory. -/
def SliceN (w : World) (v : Value) (l : List Nat) : Prop := ∃ (b off cap : Nat), v = .slice (some ⟨b, off, none⟩) l.length cap ∧ l.length ≤ cap ∧ b < w.heap.size ∧ ∀ i (h : i < l.length), w.cell? ⟨b, off + i, none⟩ = some (.int .i64 (l[i] : Nat))

set_option maxHeartbeats 2000000 in
set_option maxRecDepth 100000 in
theorem texts_any (zs : List Nat) (v : Value) (w : World) (hv : SliceN w v zs) (hz : ∀ z, z ∈ zs → z < 9223372036854775808) (hn : zs.length ≤ 100) (ht : Tab w) :
    Calls Tryd.prog 12 #[v] w fun e w' => ∃ p cap, e = .returned (.slice p zs.length cap) ∧ TxS w w' p cap (zs.map dec) := by
  obtain ⟨i0, hi0, hz0, hz1, hz2⟩ := info_parts infoStr
  obtain ⟨b, off, cp, rfl, hcp, hb, hc⟩ := hv
  have HC := Lib.hid hc; have HZ := Lib.hid hz
  clear hc hz
  go_enter Tryd.func12, Tryd.ntmps12
  go_wp2_with fail
  have HT0 : Hid (TxS w w none 0 []) := ⟨World.ownsRow_nil _ _ _ _, Below.refl _ _⟩
  go_loopw [2, 4, 7] (fun v2 _ vi wr => ∃ (i : Nat) (p : Option Addr) (cap : Nat), v2 = .slice p i cap ∧ vi = .int .i64 i ∧ i ≤ zs.length ∧ Hid (TxS w wr p cap ((zs.take i).map dec))) (fun _ _ vi _ => zs.length - (intOf vi).toNat)
  case atStart => exact ⟨0, none, 0, rfl, rfl, by omega, HT0⟩
  case round =>
    clear HT0
    obtain ⟨i, p, cap, rfl, rfl, hi, hI⟩ := hrel
    have htl : ((zs.take i).map dec).length = i := by rw [List.length_map, List.length_take]; omega
    by_cases hil : i < zs.length
    · have hci := (hI.out.bel.cell (p := ⟨b, off + i, none⟩) hb).trans (HC.out i hil)
      have hzi := HZ.out zs[i] (List.getElem_mem hil)
      have HSN : Hid ((zs.take (i + 1)).map dec = (zs.take i).map dec ++ [dec zs[i]]) := by
        show _ = _
        rw [List.take_add_one, List.getElem?_eq_getElem hil, List.map_append]; rfl
      obtain ⟨z, hzz⟩ : ∃ z, zs[i] = z := ⟨_, rfl⟩
      rw [hzz] at hci hzi HSN
      have i0' : (0 : Int) ≤ (i : Int) := by omega
      have i1' : (i : Int) < (zs.length : Int) := by omega
      clear hzz
      go_wp2_with fail
      refine (pfmt_any z _ hzi (ht.below hI.out.bel)).mono ?_
      rintro ev W3 ⟨rfl, hb3⟩
      have HI3 := Lib.hid (hI.out.below hb3)
      have ho := HI3.out.own
      rw [htl] at ho
      have HO := Lib.hid ho
      clear hb3 hI ho hci
      go_wp2_with (at_builtin; (refine wpList_append_own _ rfl _ _ 37 rfl w.heap.size 9 i0 (.string ⟨#[]⟩) 1 16 Tryd.underlying37 hi0 hz0 hz1 hz2 rfl (by decide) _ _ _ rfl (HO.out.alloc _) ⟨W3.heap.size, 0, none⟩ 1 1 [.string (dec z)] rfl rfl (cell_one_new _ _ _) (by simp [Value.oneCell']) (by unfold maxLen; omega) (by omega) (by have := HI3.out.bel.size; simp; omega) ?_); intro v' w3 hown' hgrow _; obtain ⟨p', cap', rfl, hL⟩ := (HI3.out.alloc (.cells #[.string (dec z)] 9)).put (m := [dec z]) (by rw [htl]; exact hgrow) (by rw [htl]; exact hown'); rw [htl]; have HL := Lib.hid hL; clear hown' hgrow hL)
      go_roundw
      case rel => exact ⟨i + 1, p', cap', rfl, by go_num, by omega, by rw [HSN.out]; exact HL⟩
      case measure => simp [intOf]; omega
    · obtain rfl : i = zs.length := by omega
      rw [List.take_length] at hI
      go_wp2_with fail
      go_ret
      exact ⟨p, cap, rfl, hI.out⟩
end Go.Proofs.YtjfjbkocopaehaaDoor
