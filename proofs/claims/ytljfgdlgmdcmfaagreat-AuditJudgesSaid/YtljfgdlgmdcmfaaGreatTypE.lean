/- Circuits: expressions as trees; which are well-formed (the program's side). -/
import Derived.Test.YtljfgdlgmdcmfaaGreatTypD
namespace Go.Proofs.YtljfgdlgmdcmfaaGreat
open Go.RowKit Wv
set_option linter.unusedVariables false
set_option linter.unusedSimpArgs false

/-- An expression: kind, name, number, how many numbers, these, how many parts, these. -/
inductive Ex where
  | nil
  | mk (k : Int) (s : ByteArray) (n : Int) (nl : Nat) (li : Nat → Int) (na : Nat) (ar : Nat → Ex)

/-- Lists laid one after the other. -/
def tabM (n : Nat) (f : Nat → List AV) : List AV := (List.range n).flatMap f
theorem tabM_succ (n : Nat) (f : Nat → List AV) : tabM (n + 1) f = tabM n f ++ f n := by
  unfold tabM
  rw [List.range_succ, List.flatMap_append]
  simp
theorem tabM_len {m : Nat} : ∀ {n : Nat} {f : Nat → List AV}, (∀ i, (f i).length = m) → (tabM n f).length = n * m
  | 0, f, h => by simp [tabM]
  | n + 1, f, h => by rw [tabM_succ, List.length_append, tabM_len h, h n, Nat.add_mul, Nat.one_mul]
theorem tabM_at {m : Nat} : ∀ {n : Nat} {f : Nat → List AV}, (∀ i, (f i).length = m) → ∀ i, i < n → List.take m (List.drop (i * m) (tabM n f)) = f i
  | 0, f, h, i, hi => by omega
  | n + 1, f, h, i, hi => by
    rw [tabM_succ]
    have hl := tabM_len (n := n) h
    by_cases e : i = n
    · subst e
      rw [← hl, List.drop_left, ← h i, List.take_length]
    · have hi' : i < n := by omega
      have : i * m + m ≤ n * m := by rw [← Nat.succ_mul]; exact Nat.mul_le_mul_right _ (by omega)
      rw [List.drop_append_of_le_length (by omega), List.take_append_of_le_length (by rw [List.length_drop]; omega)]
      exact tabM_at h i hi'
theorem tabM_drop {m n : Nat} {f : Nat → List AV} (h : ∀ i, (f i).length = m) {i : Nat} (hi : i < n) : ∃ r, List.drop (i * m) (tabM n f) = f i ++ r := by
  refine ⟨List.drop m (List.drop (i * m) (tabM n f)), ?_⟩
  have := tabM_at h i hi
  rw [← this]
  exact (List.take_append_drop m _).symm
theorem tabM_clo {n : Nat} {f : Nat → List AV} (h : ∀ i, i < n → ∀ a, a ∈ f i → Clo a) : ∀ a, a ∈ tabM n f → Clo a := by
  intro a ha
  unfold tabM at ha
  obtain ⟨i, h1, h2⟩ := List.mem_flatMap.1 ha
  exact h i (List.mem_range.1 h1) a h2

theorem cloA1 {a : AV} (h1 : Clo a) : ∀ x, x ∈ [a] → Clo x := by simp only [Wv.BC]; exact h1
def Ex.kind : Ex → Int
  | .nil => 0
  | .mk k .. => k
/-- Its cells. -/
def exC : Ex → List AV
  | .nil => [.v (.int .i64 0), .v (.string ⟨#[]⟩), .v (.int .i64 0), .t 0 1 [], .t 0 5 []]
  | .mk k s n nl li na ar => [.v (.int .i64 k), .v (.string s), .v (.int .i64 n), .t nl 1 (tab nl fun i => .v (.int .i64 (li i))), .t na 5 (tabM na fun i => exC (ar i))]
theorem exC_mk (k : Int) (s : ByteArray) (n : Int) (nl : Nat) (li : Nat → Int) (na : Nat) (ar : Nat → Ex) : exC (.mk k s n nl li na ar) = [.v (.int .i64 k), .v (.string s), .v (.int .i64 n), .t nl 1 (tab nl fun i => .v (.int .i64 (li i))), .t na 5 (tabM na fun i => exC (ar i))] := rfl
theorem exC_len (x : Ex) : (exC x).length = 5 := by cases x <;> rfl
theorem exC_clo : ∀ (x : Ex) a, a ∈ exC x → Clo a := by
  intro x
  induction x with
  | nil => unfold exC; simp only [Wv.BC]
  | mk k s n nl li na ar ih =>
    unfold exC
    have h := tabM_clo (n := na) (f := fun i => exC (ar i)) fun i _ => ih i
    intro a ha
    simp only [List.mem_cons, List.not_mem_nil, or_false] at ha
    rcases ha with rfl | rfl | rfl | rfl | rfl
    · simp only [Wv.BC]
    · simp only [Wv.BC]
    · simp only [Wv.BC]
    · simp only [Wv.BC]
    · simp only [Wv.BC]; exact h
theorem exG_clo (x : Ex) : Clo (.g (exC x)) := by simp only [Wv.BC]; exact exC_clo x

/-- Its lists and its names have lengths that a list and a string can have. -/
def okE : Ex → Prop
  | .nil => False
  | .mk k s n nl li na ar => s.size ≤ 140737488351232 ∧ nl ≤ 140737488351232 ∧ na ≤ 140737488351232 ∧ ∀ i, i < na → okE (ar i)

theorem ok_mk {x : Ex} (h : okE x) : ∃ k s n nl li na ar, x = .mk k s n nl li na ar := by
  cases x with
  | nil => exact h.elim
  | mk k s n nl li na ar => exact ⟨k, s, n, nl, li, na, ar, rfl⟩
def inB (n : Int) : Bool := decide (-4294967295 ≤ n) && decide (n ≤ 4294967295)
/-- What a kind has: parts; a number; a list. -/
def argN (k : Nat) : Int := match k with | 4 => 2 | 5 => 2 | 6 => 1 | 7 => 2 | 8 => 1 | 9 => 1 | 10 => 1 | 11 => 1 | 12 => 2 | 13 => 1 | 14 => 1 | 15 => 1 | _ => 0
def numK (k : Nat) : Bool := match k with | 2 => true | 8 => true | 13 => true | 14 => true | _ => false
def lisK (k : Nat) : Bool := match k with | 3 => true | 10 => true | 11 => true | _ => false
def formB : Ex → Bool
  | .nil => false
  | .mk k s n nl li na ar => !decide (k < 1) && (!decide (15 < k) && ((if k = 1 then nameB s else decide (s = ⟨#[]⟩)) && (decide ((na : Int) = argN k.toNat) && ((numK k.toNat || decide (n = 0)) && ((lisK k.toNat || decide ((nl : Int) = 0)) && (inB n && (!anyN nl (fun i => !inB (li i)) && !anyN na fun i => !formB (ar i))))))))

set_option maxHeartbeats 400000 in
set_option maxRecDepth 100000 in
theorem pinside_tc (n : Int) : TC Tryz.prog 158 [.v (.int .i64 n)] (.v (.bool (inB n))) := by
  refine Wv.TC.by 9 [0, 2] [] [.tmp 2] Tryz.func158 rfl rfl rfl ?clo ?_
  case clo => simp only [Wv.BC]
  unfold inB
  by_cases hq : -4294967295 ≤ n
  · simp (disch := first | assumption | exact Wv.D | fail) only [Wv.B, simprocAttr, decide_eq_true hq]
  · simp (disch := first | assumption | exact Wv.D | fail) only [Wv.B, simprocAttr, decide_eq_false hq]
set_option maxHeartbeats 400000 in
set_option maxRecDepth 100000 in
theorem pformed1_tc (n : Int) : TC Tryz.prog 160 [.v (.int .i64 n)] (.v (.bool (!inB n))) := by
  refine Wv.TC.by 6 [0, 2] [] [.tmp 2] Tryz.func160 rfl rfl rfl ?clo ?_
  case clo => simp only [Wv.BC]
  simp (disch := first | assumption | exact Wv.D | fail) only [Wv.B, simprocAttr]
  refine call_TC (pinside_tc n) rfl (by simp only [Wv.BC]) (by simp only [Wv.BC]) ?_
  simp (disch := first | assumption | exact Wv.D | fail) only [Wv.B, simprocAttr]
def formL : List AV := .v (.int .i64 0) :: .v (.bool false) :: .v (.bool false) :: .v (.int .i64 0) :: .v (.bool false) :: .v (.bool false) :: .v (.int .i64 0) :: .v (.bool true) :: .v (.bool false) :: .v (.int .i64 0) :: .v (.bool false) :: .v (.bool true) :: .v (.int .i64 2) :: .v (.bool false) :: .v (.bool false) :: .v (.int .i64 2) :: .v (.bool false) :: .v (.bool false) :: .v (.int .i64 1) :: .v (.bool false) :: .v (.bool false) :: .v (.int .i64 2) :: .v (.bool false) :: .v (.bool false) :: .v (.int .i64 1) :: .v (.bool true) :: .v (.bool false) :: .v (.int .i64 1) :: .v (.bool false) :: .v (.bool false) :: .v (.int .i64 1) :: .v (.bool false) :: .v (.bool true) :: .v (.int .i64 1) :: .v (.bool false) :: .v (.bool true) :: .v (.int .i64 2) :: .v (.bool false) :: .v (.bool false) :: .v (.int .i64 1) :: .v (.bool true) :: .v (.bool false) :: .v (.int .i64 1) :: .v (.bool true) :: .v (.bool false) :: .v (.int .i64 1) :: .v (.bool false) :: .v (.bool false) :: []
theorem formL_at : ∀ m : Nat, m < 16 → ∃ r, List.drop (m * 3) formL = .v (.int .i64 (argN m)) :: .v (.bool (numK m)) :: .v (.bool (lisK m)) :: r
  | 0, _ => ⟨_, rfl⟩ | 1, _ => ⟨_, rfl⟩ | 2, _ => ⟨_, rfl⟩ | 3, _ => ⟨_, rfl⟩ | 4, _ => ⟨_, rfl⟩ | 5, _ => ⟨_, rfl⟩ | 6, _ => ⟨_, rfl⟩ | 7, _ => ⟨_, rfl⟩ | 8, _ => ⟨_, rfl⟩ | 9, _ => ⟨_, rfl⟩ | 10, _ => ⟨_, rfl⟩ | 11, _ => ⟨_, rfl⟩ | 12, _ => ⟨_, rfl⟩ | 13, _ => ⟨_, rfl⟩ | 14, _ => ⟨_, rfl⟩ | 15, _ => ⟨_, rfl⟩
  | n + 16, h => by omega
set_option maxHeartbeats 400000 in
set_option maxRecDepth 100000 in
theorem forms_tc : TC Tryz.prog 157 [] (.g formL) := by
  refine Wv.TC.by 17 [0] [] [.cell 0 200] Tryz.func157 rfl rfl rfl ?clo ?_
  case clo => unfold formL; simp only [Wv.BC]
  simp (disch := first | assumption | exact Wv.D | fail) only [Wv.B, simprocAttr, formL]
set_option maxHeartbeats 400000 in
set_option maxRecDepth 100000 in
theorem pformed2_tc (x : Ex) (hx : okE x) (b : Bool) (T : TC Tryz.prog 108 [.g (exC x)] (.v (.bool b))) : TC Tryz.prog 162 [.g (exC x)] (.v (.bool (!b))) := by
  refine Wv.TC.by 6 [0, 1, 2] [] [.tmp 2] Tryz.func162 rfl rfl rfl ?clo ?_
  case clo => simp only [Wv.BC]
  obtain ⟨k, s, n, nl, li, na, ar, rfl⟩ := ok_mk hx
  have hG := exG_clo (.mk k s n nl li na ar)
  unfold exC at T hG ⊢
  simp (disch := first | assumption | exact Wv.D | fail) only [Wv.B, simprocAttr]
  refine call_TC T rfl (cloA1 hG) (by simp only [Wv.BC]) ?_
  simp (disch := first | assumption | exact Wv.D | fail) only [Wv.B, simprocAttr]
set_option maxHeartbeats 400000 in
set_option maxRecDepth 100000 in
theorem pformed_tc (x : Ex) (h : okE x) : TC Tryz.prog 108 [.g (exC x)] (.v (.bool (formB x))) := by
  induction x with
  | nil => exact h.elim
  | mk k s n nl li na ar ih =>
  obtain ⟨hs, hnl, hna, hh⟩ := h
  refine Wv.TC.by 73 [0, 1, 14, 3, 24, 5, 4, 2] [] [.tmp 2] Tryz.func108 rfl rfl rfl ?clo ?_
  case clo => simp only [Wv.BC]
  unfold exC
  simp (disch := first | assumption | exact Wv.D | fail) only [Wv.B, simprocAttr]
  refine call_TC forms_tc rfl (by simp only [Wv.BC]) (by unfold formL; simp only [Wv.BC]) ?_
  have hN : formB (.mk k s n nl li na ar) = (!decide (k < 1) && (!decide (15 < k) && ((if k = 1 then nameB s else decide (s = ⟨#[]⟩)) && (decide ((na : Int) = argN k.toNat) && ((numK k.toNat || decide (n = 0)) && ((lisK k.toNat || decide ((nl : Int) = 0)) && (inB n && (!anyN nl (fun i => !inB (li i)) && !anyN na fun i => !formB (ar i))))))))) := rfl
  by_cases h1 : k < 1
  · rw [decide_eq_true h1, Bool.not_true, Bool.false_and] at hN
    simp (disch := first | assumption | exact Wv.D | fail) only [Wv.B, simprocAttr, formL, decide_eq_true h1, hN]
  by_cases h2 : 15 < k
  · rw [decide_eq_false h1, decide_eq_true h2, Bool.not_true, Bool.false_and, Bool.not_false, Bool.true_and] at hN
    simp (disch := first | assumption | exact Wv.D | fail) only [Wv.B, simprocAttr, formL, decide_eq_false h1, decide_eq_true h2, hN]
  rw [decide_eq_false h1, decide_eq_false h2, Bool.not_false, Bool.true_and, Bool.true_and] at hN
  have hk0 : 0 ≤ k := by omega
  obtain ⟨lr, hf⟩ := formL_at k.toNat (by omega)
  unfold formL at hf
  have hz : ∃ b : Bool, (if k = 1 then nameB s else decide (s = ⟨#[]⟩)) = b := ⟨_, rfl⟩
  obtain ⟨b3, h3⟩ := hz
  rw [h3] at hN
  simp (disch := first | assumption | exact Wv.D | fail) only [Wv.B, simprocAttr, formL, decide_eq_false h1, decide_eq_false h2, hf]
  clear hf
  by_cases hk1 : k = 1
  all_goals first | rw [if_pos hk1] at h3 | rw [if_neg hk1] at h3
  rotate_left
  simp (disch := first | assumption | exact Wv.D | fail) only [Wv.B, simprocAttr, decide_eq_false hk1, h3]
  rotate_left
  simp (disch := first | assumption | exact Wv.D | fail) only [Wv.B, simprocAttr, decide_eq_true hk1]
  refine call_TC (pname_tc s hs) rfl (by simp only [Wv.BC]) (by simp only [Wv.BC]) ?_
  simp (disch := first | assumption | exact Wv.D | fail) only [Wv.B, simprocAttr, h3]
  all_goals
    cases b3 with
    | false => rw [Bool.false_and] at hN; simp (disch := first | assumption | exact Wv.D | fail) only [Wv.B, simprocAttr, hN]
    | true =>
    rw [Bool.true_and] at hN
    cases h4 : decide ((na : Int) = argN k.toNat) with
    | false => rw [h4, Bool.false_and] at hN; simp (disch := first | assumption | exact Wv.D | fail) only [Wv.B, simprocAttr, h4, hN]
    | true =>
    rw [h4, Bool.true_and] at hN
    cases h56 : (numK k.toNat || decide (n = 0)) with
    | false =>
      rw [h56, Bool.false_and] at hN
      have h5 := (Bool.or_eq_false_iff.1 h56).1
      have h6 := (Bool.or_eq_false_iff.1 h56).2
      simp (disch := first | assumption | exact Wv.D | fail) only [Wv.B, simprocAttr, h4, h5, h6, hN]
    | true =>
    have e5 : (numK k.toNat = true ∧ (0 : Nat) = 0) ∨ (numK k.toNat = false ∧ decide (n = 0) = true) := by
      cases q : numK k.toNat with
      | true => exact .inl ⟨rfl, rfl⟩
      | false => rw [q, Bool.false_or] at h56; exact .inr ⟨rfl, h56⟩
    rw [h56, Bool.true_and] at hN
    cases h78 : (lisK k.toNat || decide ((nl : Int) = 0)) with
    | false =>
      rw [h78, Bool.false_and] at hN
      have h7 := (Bool.or_eq_false_iff.1 h78).1
      have h8 := (Bool.or_eq_false_iff.1 h78).2
      rcases e5 with ⟨h5, h6⟩ | ⟨h5, h6⟩ <;> simp (disch := first | assumption | exact Wv.D | fail) only [Wv.B, simprocAttr, h4, h5, h6, h7, h8, hN]
    | true =>
    have e7 : (lisK k.toNat = true ∧ (0 : Nat) = 0) ∨ (lisK k.toNat = false ∧ decide ((nl : Int) = 0) = true) := by
      cases q : lisK k.toNat with
      | true => exact .inl ⟨rfl, rfl⟩
      | false => rw [q, Bool.false_or] at h78; exact .inr ⟨rfl, h78⟩
    rw [h78, Bool.true_and] at hN
    rcases e5 with ⟨h5, h6⟩ | ⟨h5, h6⟩ <;> rcases e7 with ⟨h7, h8⟩ | ⟨h7, h8⟩
    all_goals
      simp (disch := first | assumption | exact Wv.D | fail) only [Wv.B, simprocAttr, h4, h5, h6, h7, h8]
      clear h56 h78 h4
      refine call_TC (pinside_tc n) rfl (by simp only [Wv.BC]) (by simp only [Wv.BC]) ?_
      cases h9 : inB n with
      | false => rw [h9, Bool.false_and] at hN; simp (disch := first | assumption | exact Wv.D | fail) only [Wv.B, simprocAttr, hN]
      | true =>
      rw [h9, Bool.true_and] at hN
      simp (disch := first | assumption | exact Wv.D | fail) only [Wv.B, simprocAttr]
      refine call_HT (fst := []) (cap := []) (zcontf_ht nl li (fun i => !inB (li i)) _ [] [] hnl fun i hi => (pformed1_tc (li i)).ht (cloA1 (by simp only [Wv.BC])) (by simp only [Wv.BC]) _) ?_
      rintro av h' ⟨rfl, rfl⟩
      cases h10 : anyN nl (fun i => !inB (li i)) with
      | true => rw [h10, Bool.not_true, Bool.false_and] at hN; simp (disch := first | assumption | exact Wv.D | fail) only [Wv.B, simprocAttr, hN]
      | false =>
      rw [h10, Bool.not_false, Bool.true_and] at hN
      simp (disch := first | assumption | exact Wv.D | fail) only [Wv.B, simprocAttr]
      refine call_HT (fst := []) (cap := []) (xcontf_ht na (tabM na fun i => exC (ar i)) (fun i => exC (ar i)) (tabM_len fun i => exC_len _) (tabM_at fun i => exC_len _) (fun i => !formB (ar i)) _ [] [] hna fun i hi => (pformed2_tc (ar i) (hh i hi) _ (ih i (hh i hi))).ht (cloA1 (exG_clo (ar i))) (by simp only [Wv.BC]) _) ?_
      rintro av h' ⟨rfl, rfl⟩
      simp (disch := first | assumption | exact Wv.D | fail) only [Wv.B, simprocAttr, hN]
end Go.Proofs.YtljfgdlgmdcmfaaGreat
