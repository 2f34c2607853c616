/- Audit: what is judged wrong (the program's side). -/
import Derived.Test.YtljfgdlgmdcmfaaGreatTypC
import Derived.Test.YtljfgdlgmdcmfaaGreatWvX
import Derived.Test.YtljfgdlgmdcmfaaGreatTypF
namespace Go.Proofs.YtljfgdlgmdcmfaaGreat
open Go.RowKit Wv
set_option linter.unusedVariables false
set_option linter.unusedSimpArgs false

/-- A row of numbers, and rows of them. -/
def roA (n : Nat) (f : Nat → Int) : AV := .t n 1 (tab n fun j => .v (.int .i64 (f j)))
def jG (m : Nat) (ln : Nat → Nat) (vs : Nat → Nat → Int) : AV := .t m 1 (tab m fun i => roA (ln i) (vs i))
theorem roA_clo (n : Nat) (f : Nat → Int) : Clo (roA n f) := by unfold roA; simp only [Wv.BC]
theorem jG_clo (m : Nat) (ln : Nat → Nat) (vs : Nat → Nat → Int) : Clo (jG m ln vs) := by
  unfold jG
  simp only [Wv.BC]
  exact fun i _ => roA_clo _ _
/-- Is a slot wrong? -/
def wroB (a : Nat) (f : Nat → Int) (b : Nat) (g : Nat → Int) (s : Int) : Bool := decide (s < 0) || (decide ((a : Int) ≤ s) || (decide ((b : Int) ≤ s) || !decide (f s.toNat = g s.toNat)))
set_option maxHeartbeats 400000 in
set_option maxRecDepth 100000 in
theorem judge1_ht (m : Nat) (ln : Nat → Nat) (vs : Nat → Nat → Int) (o : Option Ob) (i a : Nat) (f : Nat → Int) (s : Int) (hi : i < m) (hm : m ≤ 140737488351232) (ha : a ≤ 140737488351232) (hb : ln i ≤ 140737488351232) :
    HT Tryz.prog 95 [.v (.int .i64 s), .ptr 3 0, .ptr 0 0, .ptr 2 0] [some (.blk [jG m ln vs]), o, some (.blk [.v (.int .i64 i)]), some (.blk [roA a f])] (fun r h' => r = .v (.bool (wroB a f (ln i) (vs i) s)) ∧ h' = [some (.blk [jG m ln vs]), o, some (.blk [.v (.int .i64 i)]), some (.blk [roA a f])]) := by
  have hw : wroB a f (ln i) (vs i) s = (decide (s < 0) || (decide ((a : Int) ≤ s) || (decide ((ln i : Int) ≤ s) || !decide (f s.toNat = vs i s.toNat)))) := rfl
  have him : (i : Int) < m := by omega
  generalize wroB a f (ln i) (vs i) s = B at *
  unfold jG roA
  refine Wv.HT.by 37 [0, 1, 2, 3, 5] [(1, 29), (1000000, 4), (3000001, 2)] [.tmp 5] Tryz.func95 rfl rfl rfl ?base ?_
  case base => rfl
  by_cases h0 : s < 0
  · rw [decide_eq_true h0, Bool.true_or] at hw
    simp (disch := first | assumption | exact Wv.D | fail) only [Wv.B, simprocAttr, decide_eq_true h0]
    rw [hw]
  obtain ⟨n, rfl⟩ : ∃ n : Nat, s = n := ⟨s.toNat, by omega⟩
  rw [decide_eq_false h0, Bool.false_or] at hw
  by_cases h1 : (a : Int) ≤ n
  · rw [decide_eq_true h1, Bool.true_or] at hw
    simp (disch := first | assumption | exact Wv.D | fail) only [Wv.B, simprocAttr, decide_eq_false h0, decide_eq_true h1]
    rw [hw]
  rw [decide_eq_false h1, Bool.false_or] at hw
  by_cases h2 : (ln i : Int) ≤ n
  · rw [decide_eq_true h2, Bool.true_or] at hw
    simp (disch := first | assumption | exact Wv.D | fail) only [Wv.B, simprocAttr, decide_eq_false h0, decide_eq_false h1, decide_eq_true h2]
    rw [hw]
  rw [decide_eq_false h2, Bool.false_or, Int.toNat_natCast] at hw
  simp (disch := first | assumption | exact Wv.D | fail) only [Wv.B, simprocAttr, decide_eq_false h0, decide_eq_false h1, decide_eq_false h2]
  rw [hw]
/-- The list of the rows that are wrong. -/
def jL (b : Nat → Bool) : Nat → List AV
  | 0 => []
  | n + 1 => if b n = true then jL b n ++ [.v (.int .i64 n)] else jL b n
theorem jL_le (b : Nat → Bool) : ∀ n, (jL b n).length ≤ n
  | 0 => Nat.le_refl _
  | n + 1 => by
    have := jL_le b n
    unfold jL
    split
    · rw [List.length_append]; show _ + 1 ≤ _; omega
    · omega
theorem jL_clo (b : Nat → Bool) : ∀ n a, a ∈ jL b n → Clo a
  | 0, a, h => by cases h
  | n + 1, a, h => by
    unfold jL at h
    split at h
    · rcases List.mem_append.1 h with h | h
      · exact jL_clo b n a h
      · rw [List.mem_singleton] at h; subst h; exact .v _
    · exact jL_clo b n a h
theorem lo_jL (k : Nat) (b : Nat → Bool) (n : Nat) : loL k (jL b n) = True := eq_true fun a ha => .clo (jL_clo b n a ha)
/-- Is a row wrong? -/
def jB (m2 : Nat) (ln1 : Nat → Nat) (vs1 : Nat → Nat → Int) (ln2 : Nat → Nat) (vs2 : Nat → Nat → Int) (ns : Nat) (sl : Nat → Int) (i : Nat) : Bool :=
  if i < m2 then anyN ns (fun k => wroB (ln1 i) (vs1 i) (ln2 i) (vs2 i) (sl k)) else true
set_option maxHeartbeats 400000 in
set_option maxRecDepth 100000 in
theorem pjudge_tc (m1 : Nat) (ln1 : Nat → Nat) (vs1 : Nat → Nat → Int) (m2 : Nat) (ln2 : Nat → Nat) (vs2 : Nat → Nat → Int) (ns : Nat) (sl : Nat → Int) (h1 : m1 ≤ 1000) (h2 : m2 ≤ 1000) (hs : ns ≤ 1000) (hl1 : ∀ i, i < m1 → ln1 i ≤ 140737488351232) (hl2 : ∀ i, i < m2 → ln2 i ≤ 140737488351232) :
    TC Tryz.prog 51 [jG m1 ln1 vs1, jG m2 ln2 vs2, roA ns sl] (.t (jL (jB m2 ln1 vs1 ln2 vs2 ns sl) m1).length 1 (jL (jB m2 ln1 vs1 ln2 vs2 ns sl) m1)) := by
  have hb : ∀ i, jB m2 ln1 vs1 ln2 vs2 ns sl i = if i < m2 then anyN ns (fun k => wroB (ln1 i) (vs1 i) (ln2 i) (vs2 i) (sl k)) else true := fun i => rfl
  have hJ := fun (i : Nat) (o : Option Ob) (hi : i < m1) (hi2 : i < m2) => icontf_ht (h := [some (.blk [jG m2 ln2 vs2]), o, some (.blk [.v (.int .i64 i)]), some (.blk [roA (ln1 i) (vs1 i)])]) ns sl (fun k => wroB (ln1 i) (vs1 i) (ln2 i) (vs2 i) (sl k)) 95 [] [.ptr 3 0, .ptr 0 0, .ptr 2 0] (by omega) (fun k hk => judge1_ht m2 ln2 vs2 o i (ln1 i) (vs1 i) (sl k) hi2 (by omega) (hl1 i hi) (hl2 i hi2))
  generalize jB m2 ln1 vs1 ln2 vs2 ns sl = b at *
  have hC2 := jG_clo m2 ln2 vs2
  have hC1 := fun i => roA_clo (ln1 i) (vs1 i)
  have hCs := roA_clo ns sl
  refine Wv.TC.by 33 [1, 0, 12, 11, 13, 10, 8, 4, 7, 2, 9, 26, 6] [] [.tmp 6] Tryz.func51 rfl rfl rfl ?clo ?_
  case clo => simp only [Wv.BC]; exact jL_clo _ _
  unfold jG at *
  have hcl2 : ∀ i, i < m2 → Clo (roA (ln2 i) (vs2 i)) := fun i _ => roA_clo _ _
  unfold roA at hJ ⊢
  simp (disch := first | assumption | exact Wv.D | fail) only [Wv.B, simprocAttr]
  refine wforE (σ := Nat) (fun i => [(2, .t ns 1 (tab ns fun j => .v (.int .i64 (sl j)))), (4, .ptr 0 0), (6, .own 1 (jL b i).length), (10, .t m1 1 (tab m1 fun i => .t (ln1 i) 1 (tab (ln1 i) fun j => .v (.int .i64 (vs1 i j))))), (11, .v (.int .i64 m1)), (12, .v (.int .i64 i))])
    (fun i => [some (.blk [.t m2 1 (tab m2 fun i => .t (ln2 i) 1 (tab (ln2 i) fun j => .v (.int .i64 (vs2 i j))))]), some (.arr 3 1 (jL b i) 0)]) (fun i => i ≤ m1) (fun i => m1 - i) 0 (Nat.zero_le _) ?_ ?_
  · refine Ent.trans (Ent.nil 6 3 1 (by omega) rfl) (Ent.fit ?_)
    simp (disch := first | assumption | exact Wv.D | fail) only [Wv.B, simprocAttr, jL, List.length_nil]
  intro i hi
  by_cases hlt : i < m1
  · have e1 : (i : Int) < m1 := by omega
    have hle := jL_le b i
    simp (disch := first | assumption | exact Wv.D | fail) only [Wv.B, simprocAttr, decide_eq_true e1]
    by_cases hi2 : i < m2
    · simp (disch := first | assumption | exact Wv.D | fail) only [Wv.B, simprocAttr, decide_eq_false (show ¬ (m2 : Int) ≤ i by omega), decide_eq_false (show ¬ (i : Int) ≥ m2 by omega)]
      have hbi := (hb i).trans (if_pos hi2)
      refine call_HT (fst := []) (cap := []) (hJ i _ hlt hi2) ?_
      rintro av h' ⟨rfl, rfl⟩
      generalize (anyN ns fun k => wroB (ln1 i) (vs1 i) (ln2 i) (vs2 i) (sl k)) = q at *
      cases q with
      | true =>
        have hj : jL b (i + 1) = jL b i ++ [.v (.int .i64 i)] := if_pos hbi
        simp (disch := first | assumption | exact Wv.D | fail) only [Wv.B, simprocAttr]
        refine Wv.k_cut (i + 1) 2 (by first | decide | exact Nat.le_of_ble_eq_true rfl) (show i + 1 ≤ m1 by omega) (by omega) (by simp (disch := first | assumption | exact Wv.D | fail) only [Wv.B, simprocAttr, tab_snoc, hj, List.length_append, List.length_cons, List.length_nil]) (by simp (disch := first | assumption | exact Wv.D | fail) only [Wv.B, simprocAttr, Int.natCast_add, Int.natCast_one, hj, List.length_append, List.length_cons, List.length_nil]) (by simp only [Wv.BL, ↓reduceIte, Nat.reduceLeDiff, lo_jL] <;> omega) (by simp only [Wv.BL, ↓reduceIte, Nat.reduceLeDiff, lo_jL] <;> omega)
      | false =>
        have hj : jL b (i + 1) = jL b i := if_neg (by rw [hbi]; decide)
        simp (disch := first | assumption | exact Wv.D | fail) only [Wv.B, simprocAttr]
        refine Wv.k_cut (i + 1) 2 (by first | decide | exact Nat.le_of_ble_eq_true rfl) (show i + 1 ≤ m1 by omega) (by omega) (by simp (disch := first | assumption | exact Wv.D | fail) only [Wv.B, simprocAttr, tab_snoc, hj]) (by simp (disch := first | assumption | exact Wv.D | fail) only [Wv.B, simprocAttr, Int.natCast_add, Int.natCast_one, hj]) (by simp only [Wv.BL, ↓reduceIte, Nat.reduceLeDiff, lo_jL] <;> omega) (by simp only [Wv.BL, ↓reduceIte, Nat.reduceLeDiff, lo_jL] <;> omega)
    · have hbi := (hb i).trans (if_neg hi2)
      have hj : jL b (i + 1) = jL b i ++ [.v (.int .i64 i)] := if_pos hbi
      simp (disch := first | assumption | exact Wv.D | fail) only [Wv.B, simprocAttr, decide_eq_true (show (m2 : Int) ≤ i by omega), decide_eq_true (show (i : Int) ≥ m2 by omega)]
      refine Wv.k_cut (i + 1) 2 (by first | decide | exact Nat.le_of_ble_eq_true rfl) (show i + 1 ≤ m1 by omega) (by omega) (by simp (disch := first | assumption | exact Wv.D | fail) only [Wv.B, simprocAttr, tab_snoc, hj, List.length_append, List.length_cons, List.length_nil]) (by simp (disch := first | assumption | exact Wv.D | fail) only [Wv.B, simprocAttr, Int.natCast_add, Int.natCast_one, hj, List.length_append, List.length_cons, List.length_nil]) (by simp only [Wv.BL, ↓reduceIte, Nat.reduceLeDiff, lo_jL] <;> omega) (by simp only [Wv.BL, ↓reduceIte, Nat.reduceLeDiff, lo_jL] <;> omega)
  · obtain rfl : i = m1 := by omega
    simp (disch := first | assumption | exact Wv.D | fail) only [Wv.B, simprocAttr, Int.lt_irrefl, decide_false]
end Go.Proofs.YtljfgdlgmdcmfaaGreat
