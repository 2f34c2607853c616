/- Audit: what is judged wrong (the reference's side); lists of numbers that are the same; what is great. -/
import Derived.Test.YtljfgdlgmdcmfaaGreatAudB
namespace Go.Proofs.YtljfgdlgmdcmfaaGreat
open Go.RowKit Wv
set_option linter.unusedVariables false
set_option linter.unusedSimpArgs false

theorem any_mono {p : Nat → Bool} {n k : Nat} (hk : k ≤ n) (h : anyN k p = true) : anyN n p = true := by
  unfold anyN at *
  rw [List.any_eq_true] at *
  obtain ⟨x, hx, hpx⟩ := h
  exact ⟨x, List.mem_range.2 (by have := List.mem_range.1 hx; omega), hpx⟩
theorem any_succ (p : Nat → Bool) (n : Nat) : anyN (n + 1) p = (anyN n p || p n) := by
  unfold anyN
  rw [List.range_succ, List.any_append]
  simp
set_option maxHeartbeats 800000 in
set_option maxRecDepth 100000 in
theorem rjudge_tc (m1 : Nat) (ln1 : Nat → Nat) (vs1 : Nat → Nat → Int) (m2 : Nat) (ln2 : Nat → Nat) (vs2 : Nat → Nat → Int) (ns : Nat) (sl : Nat → Int) (h1 : m1 ≤ 1000) (h2 : m2 ≤ 1000) (hs : ns ≤ 1000) (hl1 : ∀ i, i < m1 → ln1 i ≤ 140737488351232) (hl2 : ∀ i, i < m2 → ln2 i ≤ 140737488351232) :
    TC Tryz.prog 52 [jG m1 ln1 vs1, jG m2 ln2 vs2, roA ns sl] (.t (jL (jB m2 ln1 vs1 ln2 vs2 ns sl) m1).length 1 (jL (jB m2 ln1 vs1 ln2 vs2 ns sl) m1)) := by
  have hb : ∀ i, jB m2 ln1 vs1 ln2 vs2 ns sl i = if i < m2 then anyN ns (fun k => wroB (ln1 i) (vs1 i) (ln2 i) (vs2 i) (sl k)) else true := fun i => rfl
  generalize jB m2 ln1 vs1 ln2 vs2 ns sl = b at *
  refine Wv.TC.by 79 [8, 0, 15, 1, 10, 2, 9, 29, 11, 73, 7, 6] [(10, 35), (3000010, 1)] [.tmp 6] Tryz.func52 rfl rfl rfl ?clo ?_
  case clo => simp only [Wv.BC]; exact jL_clo _ _
  unfold jG roA
  simp (disch := first | assumption | exact Wv.D | fail) only [Wv.B, simprocAttr]
  refine wforE (σ := Nat) (fun i => [(0, .t m1 1 (tab m1 fun i => .t (ln1 i) 1 (tab (ln1 i) fun j => .v (.int .i64 (vs1 i j))))), (1, .t m2 1 (tab m2 fun i => .t (ln2 i) 1 (tab (ln2 i) fun j => .v (.int .i64 (vs2 i j))))), (2, .t ns 1 (tab ns fun j => .v (.int .i64 (sl j)))), (7, .own 0 (jL b i).length), (8, .v (.int .i64 i))])
    (fun i => [some (.arr 3 1 (jL b i) 0)]) (fun i => i ≤ m1) (fun i => m1 - i) 0 (Nat.zero_le _) ?_ ?_
  · refine Ent.trans (Ent.nil 7 3 1 (by omega) rfl) (Ent.fit ?_)
    simp (disch := first | assumption | exact Wv.D | fail) only [Wv.B, simprocAttr, jL, List.length_nil]
  intro i hi
  by_cases hlt : i < m1
  · have e1 : (i : Int) < m1 := by omega
    have hle := jL_le b i
    have hll1 := hl1 i hlt
    obtain ⟨p, hp⟩ : ∃ p : Nat → Bool, p = fun k => wroB (ln1 i) (vs1 i) (ln2 i) (vs2 i) (sl k) := ⟨_, rfl⟩
    have hbi : b i = if i < m2 then anyN ns p else true := by rw [hp]; exact hb i
    obtain ⟨W, hW⟩ : ∃ W : Nat → Bool, ∀ k, W k = if i < m2 then anyN k p else true := ⟨_, fun _ => rfl⟩
    have hW0 : decide ((m2 : Int) ≤ i) = W 0 := by
      rw [hW]
      by_cases c : i < m2
      · rw [decide_eq_false (by omega), if_pos c]; rfl
      · rw [decide_eq_true (by omega), if_neg c]
    have hW0' : decide ((i : Int) ≥ m2) = W 0 := hW0
    simp (disch := first | assumption | exact Wv.D | fail) only [Wv.B, simprocAttr, decide_eq_true e1, hW0, hW0']
    refine wfor (σ := Nat) (fun k => [(0, .t m1 1 (tab m1 fun i => .t (ln1 i) 1 (tab (ln1 i) fun j => .v (.int .i64 (vs1 i j))))), (1, .t m2 1 (tab m2 fun i => .t (ln2 i) 1 (tab (ln2 i) fun j => .v (.int .i64 (vs2 i j))))), (2, .t ns 1 (tab ns fun j => .v (.int .i64 (sl j)))), (7, .own 0 (jL b i).length), (8, .v (.int .i64 i)), (9, .v (.bool (W k))), (10, .v (.int .i64 k))])
      (fun _ => [some (.arr 3 1 (jL b i) 0)]) (fun k => k ≤ ns) (fun k => ns - k) 0 (Nat.zero_le _) Wv.V Wv.V ?_
    intro k hk
    have hle' := jL_le b i
    cases hWk : W k with
    | true =>
      have hbt : b i = true := by
        have hWk' := (hW k).symm.trans hWk
        rw [hbi]
        by_cases c : i < m2
        · rw [if_pos c]
          exact any_mono hk ((if_pos c).symm.trans hWk')
        · exact if_neg c
      have hj : jL b (i + 1) = jL b i ++ [.v (.int .i64 i)] := if_pos hbt
      cases hd : decide ((k : Int) < ns)
      · simp (disch := first | assumption | exact Wv.D | fail) only [Wv.B, simprocAttr, hd, hWk]
        refine Wv.k_cut (i + 1) 1 (by first | decide | exact Nat.le_of_ble_eq_true rfl) (show i + 1 ≤ m1 by omega) (by omega) (by simp (disch := first | assumption | exact Wv.D | fail) only [Wv.B, simprocAttr, tab_snoc, hj, List.length_append, List.length_cons, List.length_nil]) (by simp (disch := first | assumption | exact Wv.D | fail) only [Wv.B, simprocAttr, Int.natCast_add, Int.natCast_one, hj, List.length_append, List.length_cons, List.length_nil]) (by simp only [Wv.BL, ↓reduceIte, Nat.reduceLeDiff, lo_jL] <;> omega) (by simp only [Wv.BL, ↓reduceIte, Nat.reduceLeDiff, lo_jL] <;> omega)
      · simp (disch := first | assumption | exact Wv.D | fail) only [Wv.B, simprocAttr, hd, hWk]
        refine Wv.k_cut (i + 1) 1 (by first | decide | exact Nat.le_of_ble_eq_true rfl) (show i + 1 ≤ m1 by omega) (by omega) (by simp (disch := first | assumption | exact Wv.D | fail) only [Wv.B, simprocAttr, tab_snoc, hj, List.length_append, List.length_cons, List.length_nil]) (by simp (disch := first | assumption | exact Wv.D | fail) only [Wv.B, simprocAttr, Int.natCast_add, Int.natCast_one, hj, List.length_append, List.length_cons, List.length_nil]) (by simp only [Wv.BL, ↓reduceIte, Nat.reduceLeDiff, lo_jL] <;> omega) (by simp only [Wv.BL, ↓reduceIte, Nat.reduceLeDiff, lo_jL] <;> omega)
    | false =>
    have hi2 : i < m2 := by
      by_cases c : i < m2
      · exact c
      · have hWk' := (hW k).symm.trans hWk
        rw [if_neg c] at hWk'
        cases hWk'
    have him : (i : Int) < m2 := by omega
    have hll2 := hl2 i hi2
    by_cases hkn : k < ns
    · have e2 : (k : Int) < ns := by omega
      have hst : W (k + 1) = (decide (sl k < 0) || (decide ((ln1 i : Int) ≤ sl k) || (decide ((ln2 i : Int) ≤ sl k) || !decide (vs1 i (sl k).toNat = vs2 i (sl k).toNat)))) := by
        have hWk' := (hW k).symm.trans hWk
        rw [if_pos hi2] at hWk'
        rw [hW, if_pos hi2, any_succ, hWk', Bool.false_or, hp]
        rfl
      clear hb hbi hW0 hW0' hW
      by_cases h0 : sl k < 0
      · rw [decide_eq_true h0, Bool.true_or] at hst
        simp (disch := first | assumption | exact Wv.D | fail) only [Wv.B, simprocAttr, decide_eq_true e2, hWk, decide_eq_true h0]
        refine k_next (k + 1) (by omega) (by omega) rfl (by simp (disch := first | assumption | exact Wv.D | fail) only [Wv.B, simprocAttr, hst, Int.natCast_add, Int.natCast_one])
      obtain ⟨n, hn⟩ : ∃ n : Nat, sl k = n := ⟨(sl k).toNat, by omega⟩
      rw [decide_eq_false h0, Bool.false_or, hn] at hst
      rw [hn] at h0
      by_cases h1' : (ln1 i : Int) ≤ n
      · rw [decide_eq_true h1', Bool.true_or] at hst
        simp (disch := first | assumption | exact Wv.D | fail) only [Wv.B, simprocAttr, decide_eq_true e2, hWk, hn, decide_eq_false h0, decide_eq_true h1']
        refine k_next (k + 1) (by omega) (by omega) rfl (by simp (disch := first | assumption | exact Wv.D | fail) only [Wv.B, simprocAttr, hst, Int.natCast_add, Int.natCast_one])
      rw [decide_eq_false h1', Bool.false_or] at hst
      by_cases h2' : (ln2 i : Int) ≤ n
      · rw [decide_eq_true h2', Bool.true_or] at hst
        simp (disch := first | assumption | exact Wv.D | fail) only [Wv.B, simprocAttr, decide_eq_true e2, hWk, hn, decide_eq_false h0, decide_eq_false h1', decide_eq_true h2']
        refine k_next (k + 1) (by omega) (by omega) rfl (by simp (disch := first | assumption | exact Wv.D | fail) only [Wv.B, simprocAttr, hst, Int.natCast_add, Int.natCast_one])
      rw [decide_eq_false h2', Bool.false_or, Int.toNat_natCast] at hst
      simp (disch := first | assumption | exact Wv.D | fail) only [Wv.B, simprocAttr, decide_eq_true e2, hWk, hn, decide_eq_false h0, decide_eq_false h1', decide_eq_false h2']
      refine k_next (k + 1) (by omega) (by omega) rfl (by simp (disch := first | assumption | exact Wv.D | fail) only [Wv.B, simprocAttr, hst, Int.natCast_add, Int.natCast_one])
    · obtain rfl : k = ns := by omega
      have hbf : b i = false := by
        have hWk' := (hW k).symm.trans hWk
        rw [hbi, if_pos hi2]
        exact (if_pos hi2).symm.trans hWk'
      have hj : jL b (i + 1) = jL b i := if_neg (by rw [hbf]; decide)
      simp (disch := first | assumption | exact Wv.D | fail) only [Wv.B, simprocAttr, Int.lt_irrefl, decide_false, hWk]
      refine k_next (i + 1) (show i + 1 ≤ m1 by omega) (by omega) (by simp (disch := first | assumption | exact Wv.D | fail) only [Wv.B, simprocAttr, hj]) (by simp (disch := first | assumption | exact Wv.D | fail) only [Wv.B, simprocAttr, hj, Int.natCast_add, Int.natCast_one])
  · obtain rfl : i = m1 := by omega
    simp (disch := first | assumption | exact Wv.D | fail) only [Wv.B, simprocAttr, Int.lt_irrefl, decide_false]
/-- The list, place by place. -/
def jN (b : Nat → Bool) : Nat → List Nat
  | 0 => []
  | n + 1 => if b n = true then jN b n ++ [n] else jN b n
theorem jL_map (b : Nat → Bool) : ∀ n, jL b n = (jN b n).map fun (k : Nat) => .v (.int .i64 k)
  | 0 => rfl
  | n + 1 => by
    unfold jL jN
    split
    · rw [jL_map b n, List.map_append]; rfl
    · exact jL_map b n
theorem jL_tab (b : Nat → Bool) (n : Nat) : jL b n = tab (jL b n).length fun k => .v (.int .i64 ((jN b n).getD k 0 : Nat)) := by
  rw [jL_map, List.length_map]
  unfold tab
  refine List.ext_getElem (by rw [List.length_map, List.length_map, List.length_range]) fun i h1 h2 => ?_
  rw [List.length_map] at h1
  simp only [List.getElem_map, List.getElem_range, List.getD_eq_getElem?_getD, List.getElem?_eq_getElem h1, Option.getD_some]
set_option maxHeartbeats 400000 in
set_option maxRecDepth 100000 in
theorem lsints_tc (n : Nat) (f : Nat → Int) (hn : n ≤ 140737488351232) : TC Tryz.prog 50 [roA n f, roA n f] (.v (.bool true)) := by
  unfold roA
  refine Wv.TC.by 26 [0, 1, 10, 5, 14, 25, 4] [(6, 8)] [.tmp 4] Tryz.func50 rfl rfl rfl ?clo ?_
  case clo => simp only [Wv.BC]
  simp (disch := first | assumption | exact Wv.D | fail) only [Wv.B, simprocAttr]
  refine wfor (σ := Nat) (fun i => [(0, .t n 1 (tab n fun j => .v (.int .i64 (f j)))), (1, .t n 1 (tab n fun j => .v (.int .i64 (f j)))), (5, .v (.int .i64 i))]) (fun _ => []) (fun i => i ≤ n) (fun i => n - i) 0 (Nat.zero_le _) Wv.V Wv.V ?_
  intro i hi
  by_cases hlt : i < n
  · have e1 : (i : Int) < n := by omega
    simp (disch := first | assumption | exact Wv.D | fail) only [Wv.B, simprocAttr, decide_eq_true e1]
    refine k_next (i + 1) (by omega) (by omega) rfl Wv.V2
  · obtain rfl : i = n := by omega
    simp (disch := first | assumption | exact Wv.D | fail) only [Wv.B, simprocAttr, Int.lt_irrefl, decide_false]
/-- Are rows more than is looked at? -/
def grB (m : Nat) (ln : Nat → Nat) : Bool := anyN m (fun i => decide (100 < ln i)) || decide (50 < m)
set_option maxHeartbeats 400000 in
set_option maxRecDepth 100000 in
theorem lgreat_tc (m : Nat) (ln : Nat → Nat) (vs : Nat → Nat → Int) (hm : m ≤ 140737488351232) (hl : ∀ i, i < m → ln i ≤ 140737488351232) : TC Tryz.prog 31 [jG m ln vs] (.v (.bool (grB m ln))) := by
  have hg : grB m ln = (anyN m (fun i => decide (100 < ln i)) || decide (50 < m)) := rfl
  generalize grB m ln = B at *
  unfold jG roA
  refine Wv.TC.by 19 [3, 0, 7, 15, 2] [] [.tmp 2] Tryz.func31 rfl rfl rfl ?clo ?_
  case clo => simp only [Wv.BC]
  simp (disch := first | assumption | exact Wv.D | fail) only [Wv.B, simprocAttr]
  refine wfor (σ := Nat) (fun i => [(0, .t m 1 (tab m fun i => .t (ln i) 1 (tab (ln i) fun j => .v (.int .i64 (vs i j))))), (3, .v (.int .i64 i))]) (fun _ => []) (fun i => i ≤ m ∧ anyN i (fun i => decide (100 < ln i)) = false) (fun i => m - i) 0 ⟨Nat.zero_le _, rfl⟩ Wv.V Wv.V ?_
  rintro i ⟨hi, hb⟩
  by_cases hlt : i < m
  · have e1 : (i : Int) < m := by omega
    have hli := hl i hlt
    by_cases c : 100 < ln i
    · have hB : B = true := by
        rw [hg, any_mono (k := i + 1) (by omega) (by rw [any_succ, hb, decide_eq_true c]; rfl)]; rfl
      simp (disch := first | assumption | exact Wv.D | fail) only [Wv.B, simprocAttr, decide_eq_true e1, decide_eq_true (show ((ln i : Nat) : Int) > 100 by omega), decide_eq_true (show (100 : Int) < (ln i : Nat) by omega)]
      rw [hB]
    · simp (disch := first | assumption | exact Wv.D | fail) only [Wv.B, simprocAttr, decide_eq_true e1, decide_eq_false (show ¬ ((ln i : Nat) : Int) > 100 by omega), decide_eq_false (show ¬ (100 : Int) < (ln i : Nat) by omega)]
      refine k_next (i + 1) ⟨by omega, by rw [any_succ, hb, decide_eq_false c]; rfl⟩ (by omega) rfl Wv.V2
  · obtain rfl : i = m := by omega
    have hB : decide ((50 : Int) < (i : Nat)) = B := by
      rw [hg, hb, Bool.false_or]
      by_cases c : 50 < i
      · rw [decide_eq_true c, decide_eq_true (by omega)]
      · rw [decide_eq_false c, decide_eq_false (by omega)]
    have hB' : decide ((i : Int) > 50) = B := hB
    simp (disch := first | assumption | exact Wv.D | fail) only [Wv.B, simprocAttr, Int.lt_irrefl, decide_false, hB, hB']
end Go.Proofs.YtljfgdlgmdcmfaaGreat
