/- The sponge: lists of strings (obscuraref11). -/
import Derived.Test.YtjfjbkocopaehaaDoorSpgJ
import Derived.Deep.RegionHeldLaw
namespace Go.Proofs.YtjfjbkocopaehaaDoor
open Go.RowKit
set_option linter.unusedVariables false

section
variable {P : Program} {ops : Array Oper} {o : Oper} {a : Act} {w : World} {K : Act → World → Prop} {Q : Exit → Act → World → Prop} {E : Prop}
/-- append onto a row of the call's own, as one step of a region. -/
theorem step_own (hgd : o.guard = none) (s x : Operand) (t : TypeId) (ho : o.op = .call { callee := .builtin .append, args := #[s, x], argTypes := #[t, t] })
    (base : Nat) (e : TypeId) (i : TypeInfo) (z : Value) (bytes : Nat) (ht : P.underlying t = some (.slice e)) (hi : P.info? e = some i) (hz : i.zero = some z)
    (hsize : i.size = 1) (hby : i.bytes = bytes) (hzs : z.cells.size = 1)
    (v : Value) (n : Nat) (xs : List Value) (hs : a.eval s = v) (hown : w.ownsRow base e 1 v n xs)
    (ad : Addr) (m c : Nat) (news : List Value) (hx : a.eval x = .slice (some ad) m c) (hl : news.length = m * 1) (hnews : ∀ j u, news[j]? = some u → w.cell? (ad.add j) = some u) (h1 : ∀ u ∈ news, u.oneCell' = true)
    (h63 : n + m ≤ maxLen) (hbytes : (n + m) * bytes ≤ 140737488355328) (hbase : base ≤ w.heap.size)
    (h : ∀ v' w', w'.ownsRow base e 1 v' (n + m) (xs ++ news) → w.grownBy w' v.ownBlock → K (a.put o.dst v') w') :
    if Region.wanted o (yielded ops a.tmps) = true then Oper.wp P o a w K Q else E := by
  have hw : Region.wanted o (yielded ops a.tmps) = true := by simp [Region.wanted, hgd]
  rw [if_pos hw]
  obtain ⟨v', w', hr, h2, h3, _⟩ := run_append_own (P := P) w base t o.type e i z 1 bytes ht hi hz hsize hby hzs (by decide) v n xs hown ad m c news hl hnews h1 h63 hbytes hbase
  unfold Oper.wp execOp
  simp only [ho, resolve, invoke, builtin, Sem.run_bind, Sem.run_pure, Result.andThen_ok, List.map_toArray, List.map_cons, List.map_nil, hs, hx, hr]
  exact h v' w' h2 h3
theorem step_own_str (hgd : o.guard = none) (sl x : Operand) (t u : TypeId) (ho : o.op = .call { callee := .builtin .append, args := #[sl, x], argTypes := #[t, u] })
    (base : Nat) (e : TypeId) (i : TypeInfo) (ht : P.underlying t = some (.slice e)) (hu : P.underlying u = some .string) (hi : P.info? e = some i) (hz : i.zero = some (.int .u8 0))
    (hsize : i.size = 1) (hby : i.bytes = 1)
    (v : Value) (n : Nat) (xs : List Value) (hs : a.eval sl = v) (hown : w.ownsRow base e 1 v n xs) (s : ByteArray) (hx : a.eval x = .string s)
    (h63 : n + s.size ≤ maxLen) (hbytes : n + s.size ≤ 140737488355328) (hbase : base ≤ w.heap.size)
    (h : ∀ v' w', w'.ownsRow base e 1 v' (n + s.size) (xs ++ Lib.strCells s) → w.grownBy w' v.ownBlock → K (a.put o.dst v') w') :
    if Region.wanted o (yielded ops a.tmps) = true then Oper.wp P o a w K Q else E := by
  have hw : Region.wanted o (yielded ops a.tmps) = true := by simp [Region.wanted, hgd]
  rw [if_pos hw]
  obtain ⟨v', w', hr, h2, h3, _⟩ := Lib.run_append_own_string (P := P) w base t u o.type e i ht hu hi hz hsize hby v n xs hown s h63 hbytes hbase
  unfold Oper.wp execOp
  simp only [ho, resolve, invoke, builtin, Sem.run_bind, Sem.run_pure, Result.andThen_ok, List.map_toArray, List.map_cons, List.map_nil, hs, hx, hr]
  exact h v' w' h2 h3
end

/-- What the reference's List holds. -/
structure RlS (w W : World) (p : Option Addr) (cap : Nat) (L : List Int) : Prop where
  own : W.ownsRow w.heap.size 5 1 (.slice p L.length cap) L.length (by8 L)
  bel : Below w.heap.size w W
theorem RlS.below {w W W' : World} {p : Option Addr} {cap : Nat} {L : List Int} (h : RlS w W p cap L) (hb : Below W.heap.size W W') : RlS w W' p cap L :=
  ⟨owns_below h.own hb, h.bel.trans (hb.mono h.bel.size)⟩
theorem RlS.drew {w W : World} {p : Option Addr} {cap : Nat} {L : List Int} (h : RlS w W p cap L) : RlS w W.drew p cap L := h.below (Below.refl _ _).drew
theorem RlS.put {w W W' : World} {p : Option Addr} {cap : Nat} {L M : List Int} {v' : Value} (h : RlS w W p cap L) (hg : W.grownBy W' (Value.slice p L.length cap).ownBlock)
    (ho : W'.ownsRow w.heap.size 5 1 v' (L.length + M.length) (by8 L ++ by8 M)) : ∃ p' cap', v' = .slice p' (L.length + M.length) cap' ∧ RlS w W' p' cap' (L ++ M) := by
  have h5 : Below w.heap.size W W' := (Below.refl w.heap.size W).grown hg h.bel.size (own_ge h.own)
  obtain ⟨p', cap', rfl⟩ := own_slice ho
  have hl : L.length + M.length = (L ++ M).length := by rw [List.length_append]
  refine ⟨p', cap', rfl, ?_⟩
  rw [← by8_append] at ho
  rw [hl] at ho
  exact ⟨ho, h.bel.trans h5⟩

theorem rfour_any (n : Nat) (w : World) (hn : n < 2147483648) :
    Calls Tryd.prog 40 #[.int .i64 n] w fun e w' => ∃ g, e = .returned (.slice (some ⟨g, 0, none⟩) 4 4) ∧ (∀ j u, (by8 (fourL n))[j]? = some u → w'.cell? ((⟨g, 0, none⟩ : Addr).add j) = some u) ∧ Below w.heap.size w w' := by
  have HF := Lib.hid (four_cells n hn)
  go_enter Tryd.func40, Tryd.ntmps40
  go_wp2_with fail
  go_ret
  refine ⟨_, rfl, ?_, (Below.refl _ _).alloc (Nat.le_refl _) _⟩
  rw [← HF.out]
  exact cells_new _ _ _
theorem rfour_st {w W : World} {p : Option Addr} {cap : Nat} {L : List Int} (h : RlS w W p cap L) (n : Nat) (hn : n < 2147483648) :
    Calls Tryd.prog 40 #[.int .i64 n] W fun e w' => ∃ g, e = .returned (.slice (some ⟨g, 0, none⟩) 4 4) ∧ (∀ j u, (by8 (fourL n))[j]? = some u → w'.cell? ((⟨g, 0, none⟩ : Addr).add j) = some u) ∧ RlS w w' p cap L :=
  (rfour_any n W hn).mono fun e w' ⟨g, h1, h2, hb⟩ => ⟨g, h1, h2, h.below hb⟩

set_option maxHeartbeats 4000000 in
set_option maxRecDepth 100000 in
theorem rlist_any (dom : Nat) (hd : dom < 256) (v : Value) (l : List ByteArray) (w : World) (hv : SliceB w v l) (hn : l.length ≤ 1000) (hs : ∀ s, s ∈ l → s.size ≤ 1000000) :
    Calls Tryd.prog 16 #[.int .u8 dom, v] w fun e w' => e = .returned (.string (listS dom l)) ∧ Below w.heap.size w w' := by
  obtain ⟨i0, hi0, hz0, hz1, hz2⟩ := info_parts infoB8
  obtain ⟨pl, capl, rfl⟩ : ∃ p cap, v = .slice p l.length cap := by obtain ⟨p, cap, h, _⟩ := hv; exact ⟨p, cap, h⟩
  have HLEN : Hid (∀ i, i ≤ l.length → (encTo dom l i).length ≤ 5 + i * 1000004) := fun i hi => encTo_len dom l 1000000 i hs hi
  have HS := Lib.hid hs
  have HV := Lib.hid hv
  have hL0 : RlS w (w.alloc (.cells #[.int .u8 dom] 5)) (some ⟨w.heap.size, 0, none⟩) 1 [(dom : Int)] :=
    ⟨⟨rfl, .inr ⟨w.heap.size, 1, #[.int .u8 dom], rfl, Nat.le_refl _, World.alloc_heap_new w _, Nat.le_refl _, by unfold maxLen; omega, rfl, rfl⟩⟩, (Below.refl _ _).alloc (Nat.le_refl _) _⟩
  have HL0 := Lib.hid hL0
  clear hs hv hL0
  go_enter Tryd.func16, Tryd.ntmps16
  go_wp2_with fail
  generalize w.alloc (.cells #[.int .u8 dom] 5) = W0 at HL0 ⊢
  refine (rfour_st HL0.out l.length (by omega)).mono ?_
  rintro ev W1 ⟨g4, rfl, hc4, h1⟩
  have HC4 := Lib.hid hc4; have HL1 := Lib.hid h1
  clear hc4 h1 HL0
  go_wp2_with (at_builtin; (refine wpList_append_own _ rfl _ _ 53 rfl w.heap.size 5 i0 (.int .u8 0) 1 1 Tryd.underlying53 hi0 hz0 hz1 hz2 rfl (by decide) _ _ _ rfl HL1.out.own ⟨g4, 0, none⟩ 4 4 (by8 (fourL l.length)) rfl (by rw [by8_length, fourL_length]) HC4.out (by intro u hu; unfold by8 at hu; obtain ⟨q, _, rfl⟩ := List.mem_map.1 hu; rfl) (by unfold maxLen; simp) (by simp) HL1.out.bel.size ?_); intro v' w2 hown' hgrow _; obtain ⟨p', cap', rfl, hL⟩ := HL1.out.put (M := fourL l.length) hgrow hown'; have HL : Hid (RlS w w2 p' cap' (encTo dom l 0)) := hL; clear hown' hgrow hL)
  clear HL1 HC4
  go_loopw [5, 6] (fun v5 v6 wr => ∃ (i : Nat) (p : Option Addr) (cap : Nat), v5 = .slice p (encTo dom l i).length cap ∧ v6 = .int .i64 i ∧ i ≤ l.length ∧ Hid (RlS w wr p cap (encTo dom l i))) (fun _ v6 _ => l.length - (intOf v6).toNat)
  case atStart => exact ⟨0, p', cap', rfl, rfl, by omega, HL⟩
  case round =>
    clear HL
    obtain ⟨i, p, cap, rfl, rfl, hi, hI⟩ := hrel
    by_cases hil : i < l.length
    · obtain ⟨b, off, rfl, hb, _, hcl, _⟩ := HV.out.at i hil
      have HCELL0 : ∀ W, Below w.heap.size w W → W.cell? ⟨b, off + i, none⟩ = some (.string (l.getD i ⟨#[]⟩)) := by
        intro W hW
        obtain ⟨b', off', e, _, _, _, hc⟩ := (HV.out.below hW).at i hil
        injection e with e1
        injection e1 with e2 e3
        subst e2 e3
        exact hc
      have hsz := HS.out (l.getD i ⟨#[]⟩) (by rw [List.getD_eq_getElem?_getD, List.getElem?_eq_getElem hil]; exact List.getElem_mem _)
      have hlen := HLEN.out i (by omega)
      have HE : Hid (encTo dom l (i + 1) = encTo dom l i ++ fourL (l.getD i ⟨#[]⟩).size ++ padTo (l.getD i ⟨#[]⟩) (l.getD i ⟨#[]⟩).size) := encTo_succ dom l i
      obtain ⟨S, hS⟩ : ∃ S, l.getD i ⟨#[]⟩ = S := ⟨_, rfl⟩
      rw [hS] at HCELL0 hsz HE
      have HCELL := Lib.hid HCELL0
      obtain ⟨L, hL⟩ : ∃ L, encTo dom l i = L := ⟨_, rfl⟩
      rw [hL] at HE hI hlen ⊢
      have i0' : (0 : Int) ≤ (i : Int) := by omega
      have i1' : (i : Int) < (l.length : Int) := by omega
      have hlen2 : L.length ≤ 2000000000 := by have := Nat.mul_le_mul_right 1000004 hi; omega
      have HSC := Lib.hid (strCells_by8 S)
      have HH := hI
      have hsz2 : S.size < 2147483648 := by omega
      clear hS hL HCELL0 hlen hI
      go_wp2_with fail
      go_region_held_law (fun w' => w'.cell? ⟨b, off + i, none⟩ = some (.string S)) (first | exact HCELL.out _ HH.out.bel | exact HCELL.out _ HH.out.drew.bel)
        (first
          | (go_at_call 40; refine (rfour_st (by first | exact HH.out | exact HH.out.drew) S.size hsz2).mono ?_; rintro ev W3 ⟨g4, rfl, hc4, h3⟩; have HC4 := Lib.hid hc4; have HH := Lib.hid h3; clear hc4 h3)
          | (refine step_own rfl (.tmp 19) (.tmp 25) 53 rfl w.heap.size 5 i0 (.int .u8 0) 1 Tryd.underlying53 hi0 hz0 hz1 hz2 rfl _ _ _ rfl HH.out.own ⟨g4, 0, none⟩ 4 4 (by8 (fourL S.size)) rfl (by rw [by8_length, fourL_length]) HC4.out (by intro u hu; unfold by8 at hu; obtain ⟨q, _, rfl⟩ := List.mem_map.1 hu; rfl) (by unfold maxLen; omega) (by omega) HH.out.bel.size ?_; intro v' w3 hown' hgrow; obtain ⟨p', cap', rfl, hL⟩ := HH.out.put (M := fourL S.size) hgrow hown'; have HH := Lib.hid hL; clear hown' hgrow hL)
          | (refine step_own_str rfl (.tmp 26) (.tmp 30) 53 9 rfl w.heap.size 5 i0 Tryd.underlying53 Tryd.underlying9 hi0 hz0 hz1 hz2 _ _ _ rfl (by have h := HH.out.own; rw [List.length_append, fourL_length] at h; exact h) S rfl (by unfold maxLen; omega) (by omega) HH.out.bel.size ?_; intro v' w3 hown' hgrow; rw [HSC.out] at hown'; obtain ⟨p', cap', rfl, hL⟩ := HH.out.put (M := padTo S S.size) (by rw [List.length_append, fourL_length]; exact hgrow) (by rw [List.length_append, fourL_length, padTo_length]; exact hown'); have HH := Lib.hid hL; clear hown' hgrow hL))
      all_goals
        clear HCELL HSC
        go_wp2_with fail
        go_roundw
        case rel => exact ⟨i + 1, _, _, by rw [HE.out, List.length_append, List.length_append, fourL_length], by go_num, by omega, by rw [HE.out]; exact HH⟩
        case measure => simp [intOf]; omega
    · obtain rfl : i = l.length := by omega
      have HPOS := encTo_pos dom l l.length
      have hlen := HLEN.out l.length (Nat.le_refl _)
      have HBD := Lib.hid (encTo_bd dom hd l l.length)
      have HLS : Hid (listS dom l = spongeS (bsOf (encTo dom l l.length)) 0 32) := rfl
      obtain ⟨L, hL⟩ : ∃ L, encTo dom l l.length = L := ⟨_, rfl⟩
      rw [hL] at hI hlen HBD HLS HPOS ⊢
      obtain ⟨g, rfl, hcap, hcells⟩ := own_cellsP hI.out.own HPOS
      have hcv := conv_by8 wr g cap L hcells HBD.out
      have hlen2 : L.length ≤ 2000000000 := by have := Nat.mul_le_mul_right 1000004 hn; omega
      clear hL hcells hlen HBD
      go_wp2_with fail
      refine (rdigest32_any (bsOf L) _ (by rw [bsOf_size]; omega)).mono ?_
      rintro ev W2 ⟨rfl, hb2⟩
      rw [← HLS.out]
      go_wp2_with fail
      go_ret
      exact ⟨rfl, hI.out.bel.trans (hb2.mono hI.out.bel.size)⟩
end Go.Proofs.YtjfjbkocopaehaaDoor
