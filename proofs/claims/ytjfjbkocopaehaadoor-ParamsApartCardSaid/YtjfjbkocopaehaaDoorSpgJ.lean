/- The sponge: lists of strings (package sponge). -/
import Derived.Test.YtjfjbkocopaehaaDoorSpgI
import Derived.Lib.AppendStr
namespace Go.Proofs.YtjfjbkocopaehaaDoor
open Go.RowKit
set_option linter.unusedVariables false

/-- A number in four bytes. -/
def fourL (n : Nat) : List Int := [(n : Int) / 16777216 % 256, (n : Int) / 65536 % 256, (n : Int) / 256 % 256, (n : Int) % 256]
theorem fourL_length (n : Nat) : (fourL n).length = 4 := rfl
/-- What is written of a list behind its first i strings. -/
def encTo (dom : Nat) (l : List ByteArray) : Nat → List Int
  | 0 => (dom : Int) :: fourL l.length
  | i + 1 => encTo dom l i ++ fourL (l.getD i ⟨#[]⟩).size ++ padTo (l.getD i ⟨#[]⟩) (l.getD i ⟨#[]⟩).size
theorem encTo_succ (dom : Nat) (l : List ByteArray) (i : Nat) : encTo dom l (i + 1) = encTo dom l i ++ fourL (l.getD i ⟨#[]⟩).size ++ padTo (l.getD i ⟨#[]⟩) (l.getD i ⟨#[]⟩).size := rfl
theorem encTo_pos (dom : Nat) (l : List ByteArray) (i : Nat) : 0 < (encTo dom l i).length := by
  cases i with
  | zero => simp [encTo]
  | succ i => rw [encTo_succ]; simp [fourL]; omega
theorem encTo_len (dom : Nat) (l : List ByteArray) (B i : Nat) (h : ∀ s, s ∈ l → s.size ≤ B) (hi : i ≤ l.length) : (encTo dom l i).length ≤ 5 + i * (B + 4) := by
  induction i with
  | zero => simp [encTo, fourL]
  | succ i ih =>
    have h1 := ih (by omega)
    have h2 := h (l.getD i ⟨#[]⟩) (by rw [List.getD_eq_getElem?_getD, List.getElem?_eq_getElem (by omega)]; exact List.getElem_mem _)
    rw [encTo_succ, List.length_append, List.length_append, fourL_length, padTo_length, Nat.add_mul, Nat.one_mul]
    omega
theorem encTo_bd (dom : Nat) (hd : dom < 256) (l : List ByteArray) (i : Nat) : ∀ z, z ∈ encTo dom l i → 0 ≤ z ∧ z < 256 := by
  have hf : ∀ n z, z ∈ fourL n → 0 ≤ z ∧ z < 256 := by
    intro n z hz
    simp only [fourL, List.mem_cons, List.not_mem_nil, or_false] at hz
    rcases hz with rfl | rfl | rfl | rfl <;> omega
  induction i with
  | zero =>
    intro z hz
    rcases List.mem_cons.1 hz with rfl | h
    · omega
    · exact hf _ _ h
  | succ i ih =>
    intro z hz
    rw [encTo_succ] at hz
    rcases List.mem_append.1 hz with h | h
    · rcases List.mem_append.1 h with h | h
      · exact ih z h
      · exact hf _ _ h
    · unfold padTo at h
      obtain ⟨q, _, rfl⟩ := List.mem_map.1 h
      exact padB_bd _ _
theorem bsOf_size (l : List Int) : (bsOf l).size = l.length := by
  show ((l.map _).toArray).size = _
  simp
/-- The digest of a list of strings. -/
def listS (dom : Nat) (l : List ByteArray) : ByteArray := spongeS (bsOf (encTo dom l l.length)) 0 32
theorem strCells_by8 (s : ByteArray) : Lib.strCells s = by8 (padTo s s.size) := padTo_str s
theorem by8_append (l m : List Int) : by8 (l ++ m) = by8 l ++ by8 m := by unfold by8; rw [List.map_append]
theorem by8_length (l : List Int) : (by8 l).length = l.length := by unfold by8; rw [List.length_map]
theorem conv_by8 (w : World) (g cap : Nat) (L : List Int) (hc : ∀ i (hi : i < (by8 L).length), w.cell? ⟨g, i, none⟩ = some (by8 L)[i]) (hb : ∀ z, z ∈ L → 0 ≤ z ∧ z < 256) :
    (convert 53 9 (.slice (some ⟨g, 0, none⟩) L.length cap)).run Tryd.prog w = .ok (.string (bsOf L)) w := by
  have h := run_convert_bytes_back (P := Tryd.prog) w 53 9 5 ⟨g, 0, none⟩ cap (L.map (fun z => UInt8.ofNat z.toNat)) Tryd.underlying53 Tryd.underlying5 Tryd.underlying9 (fun q hp => by
    have hq : q < L.length := by simpa using hp
    rw [addr_addB, Nat.zero_add, hc q (by rw [by8_length]; exact hq), List.getElem_map]
    have hz := hb L[q] (List.getElem_mem _)
    have e1 : (UInt8.ofNat (L[q]).toNat).toNat = (L[q]).toNat := by
      rw [UInt8.toNat_ofNat']
      exact Nat.mod_eq_of_lt (by omega)
    rw [e1, Int.toNat_of_nonneg hz.1]
    unfold by8
    rw [List.getElem_map])
  rw [List.length_map] at h
  exact h

/-- A slice of strings. -/
def SliceB (w : World) (v : Value) (l : List ByteArray) : Prop :=
  ∃ (p : Option Addr) (cap : Nat), v = .slice p l.length cap ∧ l.length ≤ cap ∧ (l ≠ [] → ∃ b off, p = some ⟨b, off, none⟩ ∧ b < w.heap.size ∧ ∀ i (h : i < l.length), w.cell? ⟨b, off + i, none⟩ = some (.string l[i]))
theorem SliceB.below {w w' : World} {v : Value} {l : List ByteArray} (h : SliceB w v l) (hb : Below w.heap.size w w') : SliceB w' v l := by
  obtain ⟨p, cap, h1, h2, h3⟩ := h
  exact ⟨p, cap, h1, h2, fun hne => by obtain ⟨b, off, e, hl, hc⟩ := h3 hne; exact ⟨b, off, e, Nat.lt_of_lt_of_le hl hb.size, fun i hi => (hb.cell (p := ⟨b, off + i, none⟩) hl).trans (hc i hi)⟩⟩

theorem pdigest32_any (s : ByteArray) (w : World) (hs : s.size ≤ 1099511627776) :
    Calls Tryd.prog 36 #[.string s] w fun e w' => e = .returned (.string (spongeS s 0 32)) ∧ Below w.heap.size w w' := by
  have h := fun W => run_any s 0 32 W (by omega) (by decide) (by decide)
  go_enter Tryd.func36, Tryd.ntmps36
  go_wp2_with fail
  refine (h _).mono ?_
  rintro e w1 ⟨rfl, hb1⟩
  go_wp2_with fail
  go_ret
  exact ⟨rfl, hb1⟩
theorem rdigest32_any (s : ByteArray) (w : World) (hs : s.size ≤ 1099511627776) :
    Calls Tryd.prog 41 #[.string s] w fun e w' => e = .returned (.string (spongeS s 0 32)) ∧ Below w.heap.size w w' := by
  have h := fun W => rsponge_any s 0 32 W hs (by decide) (by decide) (by decide)
  go_enter Tryd.func41, Tryd.ntmps41
  go_wp2_with fail
  refine (h _).mono ?_
  rintro e w1 ⟨rfl, hb1⟩
  go_wp2_with fail
  go_ret
  exact ⟨rfl, hb1⟩

/-- What List holds. -/
structure LsS (w W : World) (gb : Nat) (p : Option Addr) (cap : Nat) (L : List Int) : Prop where
  c : Boxed W gb 53 (.slice p L.length cap)
  own : W.ownsRow w.heap.size 5 1 (.slice p L.length cap) L.length (by8 L)
  bel : Below w.heap.size w W
  hw : w.heap.size ≤ gb
theorem LsS.put {w W W' : World} {gb : Nat} {p : Option Addr} {cap : Nat} {L M : List Int} {v' : Value} {tmp : Obj} (h : LsS w W gb p cap L) (hg : (W.alloc tmp).grownBy W' (Value.slice p L.length cap).ownBlock)
    (ho : W'.ownsRow w.heap.size 5 1 v' (L.length + M.length) (by8 L ++ by8 M)) : Boxed W' gb 53 (.slice p L.length cap) ∧ ∃ p' cap', v' = .slice p' (L.length + M.length) cap' ∧ LsS w (W'.setCell ⟨gb, 0, none⟩ v') gb p' cap' (L ++ M) := by
  obtain ⟨h1, h2, h3, _, h5⟩ := h.c.appended (by decide) h.own h.bel.size h.hw ho hg
  obtain ⟨p', cap', rfl⟩ := own_slice ho
  have hl : L.length + M.length = (L ++ M).length := by rw [List.length_append]
  refine ⟨h1, p', cap', rfl, ?_⟩
  rw [← by8_append] at h3
  rw [hl] at h2 h3 h5 ⊢
  exact ⟨h2, h3, h.bel.trans h5, h.hw⟩

theorem LsS.put' {w W W' : World} {gb : Nat} {p : Option Addr} {cap : Nat} {L M : List Int} {v' : Value} (h : LsS w W gb p cap L) (hg : W.grownBy W' (Value.slice p L.length cap).ownBlock)
    (ho : W'.ownsRow w.heap.size 5 1 v' (L.length + M.length) (by8 L ++ by8 M)) : Boxed W' gb 53 (.slice p L.length cap) ∧ ∃ p' cap', v' = .slice p' (L.length + M.length) cap' ∧ LsS w (W'.setCell ⟨gb, 0, none⟩ v') gb p' cap' (L ++ M) := by
  have h1 : Boxed W' gb 53 (.slice p L.length cap) := h.c.kept hg (h.c.not_row (by decide) h.own)
  have h2 := h1.set v'
  have h3 : (W'.setCell ⟨gb, 0, none⟩ v').ownsRow w.heap.size 5 1 v' (L.length + M.length) (by8 L ++ by8 M) := ho.kept (grownBy_setCell' W' gb v') (.inr (h1.not_row (by decide) ho).symm)
  have h5 : Below w.heap.size W (W'.setCell ⟨gb, 0, none⟩ v') := ((Below.refl w.heap.size W).grown hg h.bel.size (own_ge h.own)).setCell (p := ⟨gb, 0, none⟩) h.hw v'
  obtain ⟨p', cap', rfl⟩ := own_slice ho
  have hl : L.length + M.length = (L ++ M).length := by rw [List.length_append]
  refine ⟨h1, p', cap', rfl, ?_⟩
  rw [← by8_append] at h3
  rw [hl] at h2 h3 h5 ⊢
  exact ⟨h2, h3, h.bel.trans h5, h.hw⟩
theorem LsS.first (w : World) (dom : Nat) : LsS w ((w.alloc (.cells #[.int .u8 dom] 5)).alloc (.cells #[.slice (some ⟨w.heap.size, 0, none⟩) 1 1] 53)) (w.heap.size + 1) (some ⟨w.heap.size, 0, none⟩) 1 [(dom : Int)] := by
  refine ⟨?_, ?_, ((Below.refl _ _).alloc (Nat.le_refl _) _).alloc (by simp) _, Nat.le_succ _⟩
  · have h := Boxed.new (w.alloc (.cells #[.int .u8 dom] 5)) 53 (.slice (some ⟨w.heap.size, 0, none⟩) 1 1)
    simpa using h
  · have h : (w.alloc (.cells #[.int .u8 dom] 5)).ownsRow w.heap.size 5 1 (.slice (some ⟨w.heap.size, 0, none⟩) 1 1) 1 (by8 [(dom : Int)]) :=
      ⟨rfl, .inr ⟨w.heap.size, 1, #[.int .u8 dom], rfl, Nat.le_refl _, World.alloc_heap_new w _, Nat.le_refl _, by unfold maxLen; omega, rfl, rfl⟩⟩
    exact h.alloc _
theorem SliceB.at {w : World} {p : Option Addr} {n cap : Nat} {l : List ByteArray} (h : SliceB w (.slice p n cap) l) (i : Nat) (hi : i < l.length) : ∃ b off, p = some ⟨b, off, none⟩ ∧ b < w.heap.size ∧ n = l.length ∧ l.length ≤ cap ∧ w.cell? ⟨b, off + i, none⟩ = some (.string (l.getD i ⟨#[]⟩)) := by
  obtain ⟨p', cap', hv, hc, hr⟩ := h
  injection hv with h1 h2 h3
  subst h1 h2 h3
  obtain ⟨b, off, rfl, hb, hcell⟩ := hr (by intro e; rw [e] at hi; simp at hi)
  exact ⟨b, off, rfl, hb, rfl, hc, by rw [hcell i hi, List.getD_eq_getElem?_getD, List.getElem?_eq_getElem hi]; rfl⟩
theorem cells_new (W : World) (cs : List Value) (T : TypeId) : ∀ j u, cs[j]? = some u → (W.alloc (.cells cs.toArray T)).cell? ((⟨W.heap.size, 0, none⟩ : Addr).add j) = some u := by
  intro j u hu
  have hj := (List.getElem?_eq_some_iff.1 hu).1
  rw [addr_addB, Nat.zero_add, (Blk.new W cs.toArray T).cell j (by simpa using hj)]
  rw [List.getElem?_eq_getElem hj] at hu
  simpa using hu
theorem four_cells (n : Nat) (hn : n < 2147483648) : [Value.int .u8 ((n : Int) / 16777216), .int .u8 ((n : Int) / 65536 % 256), .int .u8 ((n : Int) / 256 % 256), .int .u8 ((n : Int) % 256)] = by8 (fourL n) := by
  unfold by8 fourL
  have h : (n : Int) / 16777216 % 256 = (n : Int) / 16777216 := by omega
  rw [h]; rfl

set_option maxHeartbeats 1000000 in
set_option maxRecDepth 100000 in
theorem four_any {w W : World} {gb : Nat} {p : Option Addr} {cap : Nat} {L : List Int} (h : LsS w W gb p cap L) (n : Nat) (hn : n < 2147483648) (hl : L.length ≤ 2199023255552) :
    Calls Tryd.prog 35 #[.int .i64 n, .pointer (some ⟨gb, 0, none⟩)] W fun e w' => (∃ u, e = .returned u) ∧ ∃ p' cap', LsS w w' gb p' cap' (L ++ fourL n) := by
  obtain ⟨i0, hi0, hz0, hz1, hz2⟩ := info_parts infoB8
  have hc := h.c.cell
  have HH := Lib.hid h
  have HF := Lib.hid (four_cells n hn)
  clear h
  go_enter Tryd.func35, Tryd.ntmps35
  go_wp2_with (at_builtin; (refine wpList_append_own _ rfl _ _ 53 rfl w.heap.size 5 i0 (.int .u8 0) 1 1 Tryd.underlying53 hi0 hz0 hz1 hz2 rfl (by decide) _ _ _ rfl (HH.out.own.alloc _) ⟨W.heap.size, 0, none⟩ 4 4 [.int .u8 ((n : Int) / 16777216), .int .u8 ((n : Int) / 65536 % 256), .int .u8 ((n : Int) / 256 % 256), .int .u8 ((n : Int) % 256)] rfl rfl (cells_new _ _ _) (by intro u hu; simp at hu; rcases hu with rfl | rfl | rfl | rfl <;> rfl) (by unfold maxLen; omega) (by omega) (by have := HH.out.bel.size; simp; omega) ?_); intro v' w1 hown' hgrow _; rw [HF.out] at hown'; obtain ⟨hb1, p', cap', rfl, hL⟩ := HH.out.put (M := fourL n) hgrow hown'; have HL := Lib.hid hL; have hc1 := hb1.cell; have hf1 := hb1.frozen; clear hown' hgrow hb1 hL hc)
  go_end0
  exact ⟨⟨_, rfl⟩, _, _, HL.out⟩

set_option maxHeartbeats 4000000 in
set_option maxRecDepth 100000 in
theorem plist_any (dom : Nat) (hd : dom < 256) (v : Value) (l : List ByteArray) (w : World) (hv : SliceB w v l) (hn : l.length ≤ 1000) (hs : ∀ s, s ∈ l → s.size ≤ 1000000) :
    Calls Tryd.prog 13 #[.int .u8 dom, v] w fun e w' => e = .returned (.string (listS dom l)) ∧ Below w.heap.size w w' := by
  obtain ⟨i0, hi0, hz0, hz1, hz2⟩ := info_parts infoB8
  obtain ⟨pl, capl, rfl⟩ : ∃ p cap, v = .slice p l.length cap := by obtain ⟨p, cap, h, _⟩ := hv; exact ⟨p, cap, h⟩
  have HLEN : Hid (∀ i, i ≤ l.length → (encTo dom l i).length ≤ 5 + i * 1000004) := fun i hi => encTo_len dom l 1000000 i hs hi
  have HS := Lib.hid hs
  have HV := Lib.hid hv
  have HL0 := Lib.hid (LsS.first w dom)
  clear hs hv
  go_enter Tryd.func13, Tryd.ntmps13
  go_wp2_with fail
  generalize ((w.alloc (.cells #[.int .u8 dom] 5)).alloc (.cells #[.slice (some ⟨w.heap.size, 0, none⟩) 1 1] 53)) = W0 at HL0 ⊢
  refine (four_any HL0.out l.length (by omega) (by simp)).mono ?_
  rintro ev W1 ⟨⟨u, rfl⟩, p1, cap1, h1⟩
  have HL1 : Hid (LsS w W1 (w.heap.size + 1) p1 cap1 (encTo dom l 0)) := h1
  clear h1 HL0
  go_wp2_with fail
  generalize w.heap.size + 1 = gb at HL1 ⊢
  go_loopw [8, 18] (fun _ vi wr => ∃ (i : Nat) (p : Option Addr) (cap : Nat), vi = .int .i64 i ∧ i ≤ l.length ∧ Hid (LsS w wr gb p cap (encTo dom l i))) (fun _ vi _ => l.length - (intOf vi).toNat)
  case atStart => exact ⟨0, p1, cap1, rfl, by omega, HL1⟩
  case round =>
    clear HL1
    obtain ⟨i, p, cap, rfl, hi, hI⟩ := hrel
    by_cases hil : i < l.length
    · obtain ⟨b, off, rfl, hb, _, hcl, _⟩ := HV.out.at i hil
      have HCELL : Hid (∀ W, Below w.heap.size w W → W.cell? ⟨b, off + i, none⟩ = some (.string (l.getD i ⟨#[]⟩))) := by
        intro W hW
        obtain ⟨b', off', e, _, _, _, hc⟩ := (HV.out.below hW).at i hil
        injection e with e1
        injection e1 with e2 e3
        subst e2 e3
        exact hc
      have hc := HCELL.out _ hI.out.bel
      have hsz := HS.out (l.getD i ⟨#[]⟩) (by rw [List.getD_eq_getElem?_getD, List.getElem?_eq_getElem hil]; exact List.getElem_mem _)
      have hlen := HLEN.out i (by omega)
      have HE : Hid (encTo dom l (i + 1) = encTo dom l i ++ fourL (l.getD i ⟨#[]⟩).size ++ padTo (l.getD i ⟨#[]⟩) (l.getD i ⟨#[]⟩).size) := encTo_succ dom l i
      obtain ⟨S, hS⟩ : ∃ S, l.getD i ⟨#[]⟩ = S := ⟨_, rfl⟩
      rw [hS] at hc hsz HE
      obtain ⟨L, hL⟩ : ∃ L, encTo dom l i = L := ⟨_, rfl⟩
      rw [hL] at HE hI hlen
      have i0' : (0 : Int) ≤ (i : Int) := by omega
      have i1' : (i : Int) < (l.length : Int) := by omega
      have hlen2 : L.length ≤ 2000000000 := by have := Nat.mul_le_mul_right 1000004 hi; omega
      clear hS hL HCELL hlen
      go_wp2_with fail
      refine (four_any hI.out S.size (by omega) (by omega)).mono ?_
      rintro ev W2 ⟨⟨u, rfl⟩, p2, cap2, h2⟩
      have HI2 := Lib.hid h2
      have hc2 := h2.c.cell
      have hl2 : (L ++ fourL S.size).length = L.length + 4 := by rw [List.length_append, fourL_length]
      rw [hl2] at hc2
      have hown2 := h2.own
      rw [hl2] at hown2
      have HO2 := Lib.hid hown2
      have HSC := Lib.hid (strCells_by8 S)
      clear h2 hI hown2 hc
      go_wp2_with (at_builtin; (refine Lib.wpList_append_own_string _ rfl _ _ 53 9 rfl w.heap.size 5 i0 Tryd.underlying53 Tryd.underlying9 hi0 hz0 hz1 hz2 _ _ _ rfl HO2.out S rfl (by unfold maxLen; omega) (by omega) HI2.out.bel.size ?_); intro v' w3 hown' hgrow _; rw [HSC.out] at hown'; obtain ⟨hb1, p', cap', rfl, hL⟩ := HI2.out.put' (M := padTo S S.size) (by rw [hl2]; exact hgrow) (by rw [hl2, padTo_length]; exact hown'); rw [hl2] at hL; have HL := Lib.hid hL; have hc1 := hb1.cell; have hf1 := hb1.frozen; rw [hl2] at hc1; clear hown' hgrow hb1 hL hc2)
      go_roundw
      case rel => exact ⟨i + 1, p', cap', by go_num, by omega, by rw [HE.out]; exact HL⟩
      case measure => simp [intOf]; omega
    · obtain rfl : i = l.length := by omega
      have HPOS := encTo_pos dom l l.length
      have hlen := HLEN.out l.length (Nat.le_refl _)
      have HBD := Lib.hid (encTo_bd dom hd l l.length)
      have HLS : Hid (listS dom l = spongeS (bsOf (encTo dom l l.length)) 0 32) := rfl
      have hc := hI.out.c.cell
      obtain ⟨L, hL⟩ : ∃ L, encTo dom l l.length = L := ⟨_, rfl⟩
      rw [hL] at hI hlen HBD HLS HPOS hc
      obtain ⟨g, rfl, hcap, hcells⟩ := own_cellsP hI.out.own HPOS
      have hcv := conv_by8 wr g cap L hcells HBD.out
      have hlen2 : L.length ≤ 2000000000 := by have := Nat.mul_le_mul_right 1000004 hn; omega
      clear hL hcells hlen HBD
      go_wp2_with fail
      refine (pdigest32_any (bsOf L) _ (by rw [bsOf_size]; omega)).mono ?_
      rintro ev W2 ⟨rfl, hb2⟩
      rw [← HLS.out]
      go_wp2_with fail
      go_ret
      exact ⟨rfl, hI.out.bel.trans (hb2.mono hI.out.bel.size)⟩
end Go.Proofs.YtjfjbkocopaehaaDoor
