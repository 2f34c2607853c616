/- The law of Typing: how many parts a circuit has, its tables, its comparisons. The law of Typing: Long, parts, tables, has, on the machine. The law of Typing: has, Beyond, Heavy, on the machine. -/
import Derived.Test.YtljfgdlgmdcmfaaGreatTypG
namespace Go.Proofs.YtljfgdlgmdcmfaaGreat
open Go.RowKit Wv
set_option linter.unusedVariables false
set_option linter.unusedSimpArgs false

/-! The law of Typing: how many parts a circuit has, its tables, its comparisons. -/

/-- Some steps one after the other, as long as the number is not below 0. -/
def accP (f : Nat → Int → Int) (l : Int) : Nat → Int
  | 0 => l
  | i + 1 => if accP f l i < 0 then accP f l i else f i (accP f l i)
theorem accP_stop {f : Nat → Int → Int} {l : Int} {i : Nat} (h : accP f l i < 0) : ∀ {n : Nat}, i ≤ n → accP f l n = accP f l i
  | 0, q => by have : i = 0 := by omega
               subst this; rfl
  | n + 1, q => by
    by_cases e : i = n + 1
    · subst e; rfl
    · have ih := accP_stop h (n := n) (by omega)
      show (if accP f l n < 0 then accP f l n else f n (accP f l n)) = _
      rw [ih, if_pos h]
theorem accP_le {f : Nat → Int → Int} {B : Int} (hf : ∀ i x, 0 ≤ x → x ≤ B → f i x ≤ B ∧ -1000000000000000 ≤ f i x) {l : Int} (hl : l ≤ B) (hl' : -1000000000000000 ≤ l) : ∀ n, accP f l n ≤ B ∧ -1000000000000000 ≤ accP f l n
  | 0 => ⟨hl, hl'⟩
  | n + 1 => by
    have ih := accP_le hf hl hl' n
    show (if accP f l n < 0 then accP f l n else f n (accP f l n)) ≤ B ∧ -1000000000000000 ≤ (if accP f l n < 0 then accP f l n else f n (accP f l n))
    by_cases h : accP f l n < 0
    · rw [if_pos h]; exact ih
    · rw [if_neg h]; exact hf n _ (by omega) ih.1
/-- What is left of a number behind the parts of an expression. -/
def partE : Ex → Int → Int
  | .nil, l => l
  | .mk k s n nl li na ar, l => accP (fun i x => partE (ar i) x) (l - 1 - nl - s.size) na
theorem partE_mk (k : Int) (s : ByteArray) (n : Int) (nl : Nat) (li : Nat → Int) (na : Nat) (ar : Nat → Ex) (l : Int) : partE (.mk k s n nl li na ar) l = accP (fun i x => partE (ar i) x) (l - 1 - nl - s.size) na := rfl
theorem accP_congr {f g : Nat → Int → Int} {l : Int} : ∀ {n : Nat}, (∀ i, i < n → ∀ x, f i x = g i x) → accP f l n = accP g l n
  | 0, _ => rfl
  | n + 1, h => by
    have ih := accP_congr (l := l) (n := n) fun i hi => h i (by omega)
    show (if accP f l n < 0 then accP f l n else f n (accP f l n)) = (if accP g l n < 0 then accP g l n else g n (accP g l n))
    rw [ih, h n (by omega)]
theorem accP_le' {f : Nat → Int → Int} {B : Int} {l : Int} (hl : l ≤ B) (hl' : -1000000000000000 ≤ l) : ∀ n, (∀ i, i < n → ∀ x, 0 ≤ x → x ≤ B → f i x ≤ B ∧ -1000000000000000 ≤ f i x) → accP f l n ≤ B ∧ -1000000000000000 ≤ accP f l n
  | 0, _ => ⟨hl, hl'⟩
  | n + 1, hf => by
    have ih := accP_le' hl hl' n fun i hi => hf i (by omega)
    show (if accP f l n < 0 then accP f l n else f n (accP f l n)) ≤ B ∧ -1000000000000000 ≤ (if accP f l n < 0 then accP f l n else f n (accP f l n))
    by_cases h : accP f l n < 0
    · rw [if_pos h]; exact ih
    · rw [if_neg h]; exact hf n (by omega) _ (by omega) ih.1
theorem partE_le : ∀ (e : Ex), okE e → ∀ (l B : Int), -150000000000000 ≤ l → l ≤ B → 0 ≤ B → B ≤ 1000000 → partE e l ≤ B ∧ -1000000000000000 ≤ partE e l := by
  intro e
  induction e with
  | nil => intro h; exact h.elim
  | mk k s n nl li na ar ih =>
    rintro ⟨h1, h2, h3, h4⟩ l B h5 h6 h8 h7
    rw [partE_mk]
    exact accP_le' (by omega) (by omega) na fun i hi x q1 q2 => ih i (h4 i hi) x B (by omega) q2 h8 h7
/-- If something is left, the expression has no more nodes than what was used. -/
theorem partE_cnt : ∀ (e : Ex), okE e → ∀ (l : Int), 0 ≤ partE e l → (cntE e : Int) ≤ l - partE e l := by
  intro e
  induction e with
  | nil => intro h; exact h.elim
  | mk k s n nl li na ar ih =>
    rintro ⟨h1, h2, h3, h4⟩ l h
    rw [partE_mk] at h ⊢
    have key : ∀ m, m ≤ na → 0 ≤ accP (fun i x => partE (ar i) x) (l - 1 - nl - s.size) m → (accS 1 (fun i => cntE (ar i)) m : Int) ≤ 1 + (l - 1 - nl - s.size) - accP (fun i x => partE (ar i) x) (l - 1 - nl - s.size) m := by
      intro m
      induction m with
      | zero => intro _ _; show ((1 : Nat) : Int) ≤ 1 + (l - 1 - nl - s.size) - (l - 1 - nl - s.size); omega
      | succ m ihm =>
        intro hm hq
        have e1 : accP (fun i x => partE (ar i) x) (l - 1 - nl - s.size) (m + 1) = if accP (fun i x => partE (ar i) x) (l - 1 - nl - s.size) m < 0 then accP (fun i x => partE (ar i) x) (l - 1 - nl - s.size) m else partE (ar m) (accP (fun i x => partE (ar i) x) (l - 1 - nl - s.size) m) := rfl
        by_cases hn : accP (fun i x => partE (ar i) x) (l - 1 - nl - s.size) m < 0
        · rw [e1, if_pos hn] at hq; omega
        · rw [e1, if_neg hn] at hq ⊢
          have g1 := ihm (by omega) (by omega)
          have g2 := ih m (h4 m (by omega)) _ hq
          have e2 : accS 1 (fun i => cntE (ar i)) (m + 1) = accS 1 (fun i => cntE (ar i)) m + cntE (ar m) := rfl
          rw [e2, Int.natCast_add]
          omega
    have hk := key na (Nat.le_refl _) h
    have e3 : cntE (.mk k s n nl li na ar) = accS 1 (fun i => cntE (ar i)) na := rfl
    rw [e3]
    omega

/-! The law of Typing: Long, parts, tables, has, on the machine. -/

theorem clB2 {a b : AV} (h1 : Clo a) (h2 : Clo b) : ∀ x, x ∈ [a, b] → Clo x := by simp only [Wv.clo_v, Wv.clo_none, Wv.clo_e0, Wv.clo_t, Wv.clo_g, Wv.clo_tup, Wv.clo_fn, Wv.clo_ifc, Wv.clo_nil, Wv.clo_cons, Wv.clo_tab, Wv.clo_map, implies_true, and_self, true_and, and_true]; exact ⟨h1, h2⟩
theorem any_at {n i : Nat} {p : Nat → Bool} (hi : i < n) (h : p i = true) : anyN n p = true := by
  unfold anyN; exact List.any_eq_true.2 ⟨i, List.mem_range.2 hi, h⟩
theorem any_none {n : Nat} {p : Nat → Bool} (h : ∀ i, i < n → p i = false) : anyN n p = false := by
  unfold anyN; exact List.any_eq_false.2 fun i hi => by rw [h i (List.mem_range.1 hi)]; exact Bool.noConfusion
/-- How many bytes some strings have, each counted with one more. -/
def sumB (f : Nat → ByteArray) : Nat → Nat
  | 0 => 0
  | i + 1 => sumB f i + (f i).size + 1
def longB (n : Nat) (f : Nat → ByteArray) (most : Int) : Bool := anyN n fun i => decide (most - sumB f i ≤ ((f i).size : Int))
theorem sumB_succ (f : Nat → ByteArray) (i : Nat) : sumB f (i + 1) = sumB f i + (f i).size + 1 := rfl
set_option maxHeartbeats 400000 in
set_option maxRecDepth 100000 in
theorem lLong_tc (n : Nat) (f : Nat → ByteArray) (most : Int) (hn : n ≤ 140737488351232) (h0 : -1000000 ≤ most) (h1 : most ≤ 1000000) : TC Tryz.prog 56 [strsA n f, .v (.int .i64 most)] (.v (.bool (longB n f most))) := by
  unfold strsA
  refine Wv.TC.by 27 [5, 0, 9, 1, 18, 4] [] [.tmp 4] (by kernel_rfl) Tryz.func56 rfl rfl rfl (by kernel_rfl) (by kernel_rfl) (Nat.le_of_ble_eq_true rfl) rfl ?clo ?_
  case clo => simp only [Wv.clo_v, Wv.clo_none, Wv.clo_e0, Wv.clo_t, Wv.clo_g, Wv.clo_tup, Wv.clo_fn, Wv.clo_ifc, Wv.clo_nil, Wv.clo_cons, Wv.clo_tab, Wv.clo_map, implies_true, and_self, true_and, and_true]
  simp (maxSteps := 2000000) (disch := first | omega | assumption | (simp only [Wv.Bx, simprocAttr, Wv.vcells, Value.cells, Wv.isAlloc] <;> omega) | fail) only [Wv.Ba, Wv.Bb, Wv.Bc, Wv.Bd, Wv.Be, Wv.Bf, Wv.Bg, Wv.Bh, Wv.Bi, Wv.Bz, simprocAttr, Option.some.injEq, Wv.isAlloc, Wv.vcells, Value.cells, Wv.froze]
  refine wfor (σ := Nat) (fun i => [(0, .t n 1 (tab n fun i => .v (.string (f i)))), (1, .v (.int .i64 (most - sumB f i))), (5, .v (.int .i64 i))]) (fun i => []) (fun i => i ≤ n ∧ (sumB f i : Int) ≤ 2000000 ∧ ∀ j, j < i → decide (most - sumB f j ≤ ((f j).size : Int)) = false) (fun i => n - i) 0 ⟨Nat.zero_le _, by show ((0 : Nat) : Int) ≤ _; omega, fun j hj => by omega⟩ (by simp (maxSteps := 2000000) (disch := first | omega | assumption | (simp only [Wv.Bx, simprocAttr, Wv.vcells, Value.cells, Wv.isAlloc] <;> omega) | fail) only [Wv.Ba, Wv.Bb, Wv.Bc, Wv.Bd, Wv.Be, Wv.Bf, Wv.Bg, Wv.Bh, Wv.Bi, Wv.Bz, simprocAttr, Option.some.injEq, Wv.isAlloc, Wv.vcells, Value.cells, Wv.froze]) (by simp (maxSteps := 2000000) (disch := first | omega | assumption | (simp only [Wv.Bx, simprocAttr, Wv.vcells, Value.cells, Wv.isAlloc] <;> omega) | fail) only [Wv.Ba, Wv.Bb, Wv.Bc, Wv.Bd, Wv.Be, Wv.Bf, Wv.Bg, Wv.Bh, Wv.Bi, Wv.Bz, simprocAttr, Option.some.injEq, Wv.isAlloc, Wv.vcells, Value.cells, Wv.froze, sumB, Int.natCast_zero, Int.sub_zero]) ?_
  rintro i ⟨hi, hs, hb⟩
  by_cases hlt : i < n
  · have e1 : (i : Int) < (n : Int) := by omega
    by_cases hq : most - sumB f i ≤ ((f i).size : Int)
    · have hL : longB n f most = true := any_at hlt (decide_eq_true hq)
      simp (maxSteps := 2000000) (disch := first | omega | assumption | (simp only [Wv.Bx, simprocAttr, Wv.vcells, Value.cells, Wv.isAlloc] <;> omega) | fail) only [Wv.Ba, Wv.Bb, Wv.Bc, Wv.Bd, Wv.Be, Wv.Bf, Wv.Bg, Wv.Bh, Wv.Bi, Wv.Bz, simprocAttr, Option.some.injEq, Wv.isAlloc, Wv.vcells, Value.cells, Wv.froze, decide_eq_true e1, decide_eq_true hq, hL]
    · have hss := sumB_succ f i
      have e5 : most - (sumB f i : Int) - ((f i).size : Int) - 1 = most - ((sumB f (i + 1) : Nat) : Int) := by rw [hss]; omega
      simp (maxSteps := 2000000) (disch := first | omega | assumption | (simp only [Wv.Bx, simprocAttr, Wv.vcells, Value.cells, Wv.isAlloc] <;> omega) | fail) only [Wv.Ba, Wv.Bb, Wv.Bc, Wv.Bd, Wv.Be, Wv.Bf, Wv.Bg, Wv.Bh, Wv.Bi, Wv.Bz, simprocAttr, Option.some.injEq, Wv.isAlloc, Wv.vcells, Value.cells, Wv.froze, decide_eq_true e1, decide_eq_false hq]
      refine k_next (i + 1) ⟨by omega, by omega, fun j hj => ?_⟩ (by omega) rfl (by simp (maxSteps := 2000000) (disch := first | omega | assumption | (simp only [Wv.Bx, simprocAttr, Wv.vcells, Value.cells, Wv.isAlloc] <;> omega) | fail) only [Wv.Ba, Wv.Bb, Wv.Bc, Wv.Bd, Wv.Be, Wv.Bf, Wv.Bg, Wv.Bh, Wv.Bi, Wv.Bz, simprocAttr, Option.some.injEq, Wv.isAlloc, Wv.vcells, Value.cells, Wv.froze, e5, Int.natCast_add, Int.natCast_one])
      by_cases e : j = i
      · subst e; exact decide_eq_false hq
      · exact hb j (by omega)
  · obtain rfl : n = i := by omega
    have hL : longB n f most = false := any_none hb
    simp (maxSteps := 2000000) (disch := first | omega | assumption | (simp only [Wv.Bx, simprocAttr, Wv.vcells, Value.cells, Wv.isAlloc] <;> omega) | fail) only [Wv.Ba, Wv.Bb, Wv.Bc, Wv.Bd, Wv.Be, Wv.Bf, Wv.Bg, Wv.Bh, Wv.Bi, Wv.Bz, simprocAttr, Option.some.injEq, Wv.isAlloc, Wv.vcells, Value.cells, Wv.froze, Int.lt_irrefl, decide_false, hL]
set_option maxHeartbeats 800000 in
set_option maxRecDepth 100000 in
theorem lparts_tc (e : Ex) (h : okE e) (l : Int) (h0 : -150000000000000 ≤ l) (h1 : l ≤ 1000000) : TC Tryz.prog 57 [.g (exC e), .v (.int .i64 l)] (.v (.int .i64 (partE e l))) := by
  induction e generalizing l with
  | nil => exact h.elim
  | mk k s n nl li na ar ih =>
  have hle := fun m => partE_le (.mk k s n nl li na ar) h l 1000000 h0 h1 (by omega) (by omega)
  obtain ⟨hs, hnl, hna, hh⟩ := h
  have hacc : ∀ m, m ≤ na → accP (fun i x => partE (ar i) x) (l - 1 - nl - s.size) m ≤ 1000000 ∧ -1000000000000000 ≤ accP (fun i x => partE (ar i) x) (l - 1 - nl - s.size) m := fun m hm =>
    accP_le' (by omega) (by omega) m fun i hi x q1 q2 => partE_le (ar i) (hh i (by omega)) x 1000000 (by omega) q2 (by omega) (by omega)
  rw [partE_mk]
  clear hle
  refine Wv.TC.by 35 [0, 1, 2, 5, 24, 4] [] [.tmp 4] (by kernel_rfl) Tryz.func57 rfl rfl rfl (by kernel_rfl) (by kernel_rfl) (Nat.le_of_ble_eq_true rfl) rfl ?clo ?_
  case clo => simp only [Wv.clo_v, Wv.clo_none, Wv.clo_e0, Wv.clo_t, Wv.clo_g, Wv.clo_tup, Wv.clo_fn, Wv.clo_ifc, Wv.clo_nil, Wv.clo_cons, Wv.clo_tab, Wv.clo_map, implies_true, and_self, true_and, and_true]
  unfold exC
  simp (maxSteps := 2000000) (disch := first | omega | assumption | (simp only [Wv.Bx, simprocAttr, Wv.vcells, Value.cells, Wv.isAlloc] <;> omega) | fail) only [Wv.Ba, Wv.Bb, Wv.Bc, Wv.Bd, Wv.Be, Wv.Bf, Wv.Bg, Wv.Bh, Wv.Bi, Wv.Bz, simprocAttr, Option.some.injEq, Wv.isAlloc, Wv.vcells, Value.cells, Wv.froze]
  refine wfor (σ := Nat) (fun i => [(1, .v (.int .i64 (accP (fun i x => partE (ar i) x) (l - 1 - nl - s.size) i))), (2, .ptr 0 0), (5, .v (.int .i64 i))])
    (fun i => [some (.blk [.v (.int .i64 k), .v (.string s), .v (.int .i64 n), .t nl 1 (tab nl fun i => .v (.int .i64 (li i))), .t na 5 (tabM na fun i => exC (ar i))])])
    (fun i => i ≤ na) (fun i => na - i) 0 (Nat.zero_le _) (by simp (maxSteps := 2000000) (disch := first | omega | assumption | (simp only [Wv.Bx, simprocAttr, Wv.vcells, Value.cells, Wv.isAlloc] <;> omega) | fail) only [Wv.Ba, Wv.Bb, Wv.Bc, Wv.Bd, Wv.Be, Wv.Bf, Wv.Bg, Wv.Bh, Wv.Bi, Wv.Bz, simprocAttr, Option.some.injEq, Wv.isAlloc, Wv.vcells, Value.cells, Wv.froze]) (by simp (maxSteps := 2000000) (disch := first | omega | assumption | (simp only [Wv.Bx, simprocAttr, Wv.vcells, Value.cells, Wv.isAlloc] <;> omega) | fail) only [Wv.Ba, Wv.Bb, Wv.Bc, Wv.Bd, Wv.Be, Wv.Bf, Wv.Bg, Wv.Bh, Wv.Bi, Wv.Bz, simprocAttr, Option.some.injEq, Wv.isAlloc, Wv.vcells, Value.cells, Wv.froze, accP]) ?_
  intro i hi
  have hai := hacc i hi
  have hst : accP (fun i x => partE (ar i) x) (l - 1 - nl - s.size) i < 0 → accP (fun i x => partE (ar i) x) (l - 1 - nl - s.size) na = accP (fun i x => partE (ar i) x) (l - 1 - nl - s.size) i := fun q => accP_stop q hi
  have hsu : accP (fun i x => partE (ar i) x) (l - 1 - nl - s.size) (i + 1) = if accP (fun i x => partE (ar i) x) (l - 1 - nl - s.size) i < 0 then accP (fun i x => partE (ar i) x) (l - 1 - nl - s.size) i else partE (ar i) (accP (fun i x => partE (ar i) x) (l - 1 - nl - s.size) i) := rfl
  by_cases hlt : i < na
  · have e1 : (i : Int) < na := by omega
    generalize hA : accP (fun i x => partE (ar i) x) (l - 1 - nl - s.size) i = A at *
    by_cases hneg : A < 0
    · have e2 : ¬ 0 ≤ A := by omega
      have e3 := hst hneg
      simp (maxSteps := 2000000) (disch := first | omega | assumption | (simp only [Wv.Bx, simprocAttr, Wv.vcells, Value.cells, Wv.isAlloc] <;> omega) | fail) only [Wv.Ba, Wv.Bb, Wv.Bc, Wv.Bd, Wv.Be, Wv.Bf, Wv.Bg, Wv.Bh, Wv.Bi, Wv.Bz, simprocAttr, Option.some.injEq, Wv.isAlloc, Wv.vcells, Value.cells, Wv.froze, decide_eq_true e1, decide_eq_false e2, e3]
    · have e2 : 0 ≤ A := by omega
      rw [if_neg hneg] at hsu
      have T := ih i (hh i hlt) A (by omega) hai.1
      have hP := partE_le (ar i) (hh i hlt) A 1000000 (by omega) hai.1 (by omega) (by omega)
      have hG := exG_clo (ar i)
      have hoy := hh i hlt
      have hL := tabM_clo (n := na) (f := fun i => exC (ar i)) fun i _ => exC_clo (ar i)
      obtain ⟨r, hd⟩ : ∃ r, List.drop (i * 5) (tabM na fun i => exC (ar i)) = exC (ar i) ++ r := tabM_drop (f := fun i => exC (ar i)) (fun i => exC_len (ar i)) hlt
      revert hd T hG hL hsu
      generalize (tabM na fun i => exC (ar i)) = L
      generalize partE (ar i) A = pa at hP ⊢
      generalize ar i = y at hoy ⊢
      obtain ⟨k', s', n', nl', li', na', ar', rfl⟩ := ok_mk hoy
      rw [exC_mk]
      intro hsu T hG hL hd
      simp only [List.cons_append, List.nil_append] at hd
      simp (maxSteps := 2000000) (disch := first | omega | assumption | (simp only [Wv.Bx, simprocAttr, Wv.vcells, Value.cells, Wv.isAlloc] <;> omega) | fail) only [Wv.Ba, Wv.Bb, Wv.Bc, Wv.Bd, Wv.Be, Wv.Bf, Wv.Bg, Wv.Bh, Wv.Bi, Wv.Bz, simprocAttr, Option.some.injEq, Wv.isAlloc, Wv.vcells, Value.cells, Wv.froze, decide_eq_true e1, decide_eq_true e2, hd]
      refine call_TC T rfl (clB2 hG (.v _)) (by simp only [Wv.clo_v, Wv.clo_none, Wv.clo_e0, Wv.clo_t, Wv.clo_g, Wv.clo_tup, Wv.clo_fn, Wv.clo_ifc, Wv.clo_nil, Wv.clo_cons, Wv.clo_tab, Wv.clo_map, implies_true, and_self, true_and, and_true]) ?_
      simp (maxSteps := 2000000) (disch := first | omega | assumption | (simp only [Wv.Bx, simprocAttr, Wv.vcells, Value.cells, Wv.isAlloc] <;> omega) | fail) only [Wv.Ba, Wv.Bb, Wv.Bc, Wv.Bd, Wv.Be, Wv.Bf, Wv.Bg, Wv.Bh, Wv.Bi, Wv.Bz, simprocAttr, Option.some.injEq, Wv.isAlloc, Wv.vcells, Value.cells, Wv.froze]
      refine k_next (i + 1) (by omega) (by omega) rfl (by simp (maxSteps := 2000000) (disch := first | omega | assumption | (simp only [Wv.Bx, simprocAttr, Wv.vcells, Value.cells, Wv.isAlloc] <;> omega) | fail) only [Wv.Ba, Wv.Bb, Wv.Bc, Wv.Bd, Wv.Be, Wv.Bf, Wv.Bg, Wv.Bh, Wv.Bi, Wv.Bz, simprocAttr, Option.some.injEq, Wv.isAlloc, Wv.vcells, Value.cells, Wv.froze, hsu, Int.natCast_add, Int.natCast_one])
  · obtain rfl : i = na := by omega
    simp (maxSteps := 2000000) (disch := first | omega | assumption | (simp only [Wv.Bx, simprocAttr, Wv.vcells, Value.cells, Wv.isAlloc] <;> omega) | fail) only [Wv.Ba, Wv.Bb, Wv.Bc, Wv.Bd, Wv.Be, Wv.Bf, Wv.Bg, Wv.Bh, Wv.Bi, Wv.Bz, simprocAttr, Option.some.injEq, Wv.isAlloc, Wv.vcells, Value.cells, Wv.froze, Int.lt_irrefl, decide_false]
/-- How many tables and comparisons an expression has. -/
def tabE : Ex → Nat
  | .nil => 0
  | .mk k s n nl li na ar => accS (if k = 11 ∨ k = 13 then 1 else 0) (fun i => tabE (ar i)) na
theorem accS_cmp {a b : Nat} {f g : Nat → Nat} : ∀ {n : Nat}, a ≤ b → (∀ i, i < n → f i ≤ g i) → accS a f n ≤ accS b g n
  | 0, h, _ => h
  | n + 1, h, hf => by
    have h1 := accS_cmp (n := n) h fun i hi => hf i (by omega)
    have h2 := hf n (by omega)
    show accS a f n + f n ≤ accS b g n + g n
    omega
theorem tab_cnt : ∀ (e : Ex), tabE e ≤ cntE e := by
  intro e
  induction e with
  | nil => exact Nat.zero_le _
  | mk k s n nl li na ar ih => exact accS_cmp (by split <;> omega) fun i _ => ih i
set_option maxHeartbeats 800000 in
set_option maxRecDepth 100000 in
theorem ltables_tc (e : Ex) (h : okE e) (hc : cntE e ≤ 1000000) : TC Tryz.prog 58 [.g (exC e)] (.v (.int .i64 (tabE e))) := by
  induction e with
  | nil => exact h.elim
  | mk k s n nl li na ar ih =>
  obtain ⟨hs, hnl, hna, hh⟩ := h
  have hcn : accS 1 (fun i => cntE (ar i)) na ≤ 1000000 := hc
  have hfin : tabE (.mk k s n nl li na ar) = accS (if k = 11 ∨ k = 13 then 1 else 0) (fun i => tabE (ar i)) na := rfl
  rw [hfin]
  refine Wv.TC.by 29 [0, 1, 12, 4, 17, 3, 2] [] [.tmp 2] (by kernel_rfl) Tryz.func58 rfl rfl rfl (by kernel_rfl) (by kernel_rfl) (Nat.le_of_ble_eq_true rfl) rfl ?clo ?_
  case clo => simp only [Wv.clo_v, Wv.clo_none, Wv.clo_e0, Wv.clo_t, Wv.clo_g, Wv.clo_tup, Wv.clo_fn, Wv.clo_ifc, Wv.clo_nil, Wv.clo_cons, Wv.clo_tab, Wv.clo_map, implies_true, and_self, true_and, and_true]
  unfold exC
  generalize hb : (if k = 11 ∨ k = 13 then 1 else 0 : Nat) = b0 at *
  have hb1 : b0 ≤ 1 := by rw [← hb]; split <;> omega
  by_cases k11 : k = 11
  rotate_left
  by_cases k13 : k = 13
  rotate_left
  all_goals
    first
    | (have hb0 : b0 = 1 := by rw [← hb]; exact if_pos (by omega)
       simp (maxSteps := 2000000) (disch := first | omega | assumption | (simp only [Wv.Bx, simprocAttr, Wv.vcells, Value.cells, Wv.isAlloc] <;> omega) | fail) only [Wv.Ba, Wv.Bb, Wv.Bc, Wv.Bd, Wv.Be, Wv.Bf, Wv.Bg, Wv.Bh, Wv.Bi, Wv.Bz, simprocAttr, Option.some.injEq, Wv.isAlloc, Wv.vcells, Value.cells, Wv.froze, decide_eq_true k11])
    | (have hb0 : b0 = 1 := by rw [← hb]; exact if_pos (by omega)
       simp (maxSteps := 2000000) (disch := first | omega | assumption | (simp only [Wv.Bx, simprocAttr, Wv.vcells, Value.cells, Wv.isAlloc] <;> omega) | fail) only [Wv.Ba, Wv.Bb, Wv.Bc, Wv.Bd, Wv.Be, Wv.Bf, Wv.Bg, Wv.Bh, Wv.Bi, Wv.Bz, simprocAttr, Option.some.injEq, Wv.isAlloc, Wv.vcells, Value.cells, Wv.froze, decide_eq_false k11, decide_eq_true k13])
    | (have hb0 : b0 = 0 := by rw [← hb]; exact if_neg (by omega)
       simp (maxSteps := 2000000) (disch := first | omega | assumption | (simp only [Wv.Bx, simprocAttr, Wv.vcells, Value.cells, Wv.isAlloc] <;> omega) | fail) only [Wv.Ba, Wv.Bb, Wv.Bc, Wv.Bd, Wv.Be, Wv.Bf, Wv.Bg, Wv.Bh, Wv.Bi, Wv.Bz, simprocAttr, Option.some.injEq, Wv.isAlloc, Wv.vcells, Value.cells, Wv.froze, decide_eq_false k11, decide_eq_false k13])
    clear hb hfin
    refine wfor (σ := Nat) (fun i => [(1, .ptr 0 0), (3, .v (.int .i64 (accS b0 (fun i => tabE (ar i)) i : Nat))), (4, .v (.int .i64 i))])
      (fun i => [some (.blk [.v (.int .i64 k), .v (.string s), .v (.int .i64 n), .t nl 1 (tab nl fun i => .v (.int .i64 (li i))), .t na 5 (tabM na fun i => exC (ar i))])])
      (fun i => i ≤ na) (fun i => na - i) 0 (Nat.zero_le _) (by simp (maxSteps := 2000000) (disch := first | omega | assumption | (simp only [Wv.Bx, simprocAttr, Wv.vcells, Value.cells, Wv.isAlloc] <;> omega) | fail) only [Wv.Ba, Wv.Bb, Wv.Bc, Wv.Bd, Wv.Be, Wv.Bf, Wv.Bg, Wv.Bh, Wv.Bi, Wv.Bz, simprocAttr, Option.some.injEq, Wv.isAlloc, Wv.vcells, Value.cells, Wv.froze]) (by simp (maxSteps := 2000000) (disch := first | omega | assumption | (simp only [Wv.Bx, simprocAttr, Wv.vcells, Value.cells, Wv.isAlloc] <;> omega) | fail) only [Wv.Ba, Wv.Bb, Wv.Bc, Wv.Bd, Wv.Be, Wv.Bf, Wv.Bg, Wv.Bh, Wv.Bi, Wv.Bz, simprocAttr, Option.some.injEq, Wv.isAlloc, Wv.vcells, Value.cells, Wv.froze, accS, hb0, Int.natCast_one, Int.natCast_zero]) ?_
    clear hb0
    intro i hi
    by_cases hlt : i < na
    · have e1 : (i : Int) < na := by omega
      have q1 := accS_one 1 (fun i => cntE (ar i)) hlt
      have hqi := accS_cmp (n := i) (f := fun i => tabE (ar i)) (g := fun i => cntE (ar i)) hb1 fun j _ => tab_cnt (ar j)
      have hqm : accS 1 (fun i => cntE (ar i)) i ≤ accS 1 (fun i => cntE (ar i)) na := accS_le 1 _ hi
      have q3 := tab_cnt (ar i)
      have T := ih i (hh i hlt) (by omega)
      have hG := exG_clo (ar i)
      have hoy := hh i hlt
      have hL := tabM_clo (n := na) (f := fun i => exC (ar i)) fun i _ => exC_clo (ar i)
      obtain ⟨r, hd⟩ : ∃ r, List.drop (i * 5) (tabM na fun i => exC (ar i)) = exC (ar i) ++ r := tabM_drop (f := fun i => exC (ar i)) (fun i => exC_len (ar i)) hlt
      revert T hG hL hd
      generalize (tabM na fun i => exC (ar i)) = L
      generalize hc2 : tabE (ar i) = c2 at *
      generalize hcc : cntE (ar i) = cc at *
      generalize ar i = y at hoy ⊢
      obtain ⟨k', s', n', nl', li', na', ar', rfl⟩ := ok_mk hoy
      rw [exC_mk]
      intro T hG hL hd
      simp only [List.cons_append, List.nil_append] at hd
      simp (maxSteps := 2000000) (disch := first | omega | assumption | (simp only [Wv.Bx, simprocAttr, Wv.vcells, Value.cells, Wv.isAlloc] <;> omega) | fail) only [Wv.Ba, Wv.Bb, Wv.Bc, Wv.Bd, Wv.Be, Wv.Bf, Wv.Bg, Wv.Bh, Wv.Bi, Wv.Bz, simprocAttr, Option.some.injEq, Wv.isAlloc, Wv.vcells, Value.cells, Wv.froze, decide_eq_true e1, hd]
      refine call_TC T rfl (cloA1 hG) (by simp only [Wv.clo_v, Wv.clo_none, Wv.clo_e0, Wv.clo_t, Wv.clo_g, Wv.clo_tup, Wv.clo_fn, Wv.clo_ifc, Wv.clo_nil, Wv.clo_cons, Wv.clo_tab, Wv.clo_map, implies_true, and_self, true_and, and_true]) ?_
      simp (maxSteps := 2000000) (disch := first | omega | assumption | (simp only [Wv.Bx, simprocAttr, Wv.vcells, Value.cells, Wv.isAlloc] <;> omega) | fail) only [Wv.Ba, Wv.Bb, Wv.Bc, Wv.Bd, Wv.Be, Wv.Bf, Wv.Bg, Wv.Bh, Wv.Bi, Wv.Bz, simprocAttr, Option.some.injEq, Wv.isAlloc, Wv.vcells, Value.cells, Wv.froze]
      refine k_next (i + 1) (by omega) (by omega) rfl (by simp (maxSteps := 2000000) (disch := first | omega | assumption | (simp only [Wv.Bx, simprocAttr, Wv.vcells, Value.cells, Wv.isAlloc] <;> omega) | fail) only [Wv.Ba, Wv.Bb, Wv.Bc, Wv.Bd, Wv.Be, Wv.Bf, Wv.Bg, Wv.Bh, Wv.Bi, Wv.Bz, simprocAttr, Option.some.injEq, Wv.isAlloc, Wv.vcells, Value.cells, Wv.froze, accS, hc2, Int.natCast_add, Int.natCast_one])
    · obtain rfl : i = na := by omega
      simp (maxSteps := 2000000) (disch := first | omega | assumption | (simp only [Wv.Bx, simprocAttr, Wv.vcells, Value.cells, Wv.isAlloc] <;> omega) | fail) only [Wv.Ba, Wv.Bb, Wv.Bc, Wv.Bd, Wv.Be, Wv.Bf, Wv.Bg, Wv.Bh, Wv.Bi, Wv.Bz, simprocAttr, Option.some.injEq, Wv.isAlloc, Wv.vcells, Value.cells, Wv.froze, Int.lt_irrefl, decide_false]

/-! The law of Typing: has, Beyond, Heavy, on the machine. -/

def fieldK (k : Int) : Bool := decide (k = 11) || (decide (k = 13) || decide (k = 12))
/-- Does an expression hold a comparison or a table? -/
def hasE : Ex → Bool
  | .nil => false
  | .mk k s n nl li na ar => fieldK k || anyN na fun i => hasE (ar i)
set_option maxHeartbeats 800000 in
set_option maxRecDepth 100000 in
theorem lhas_tc (e : Ex) (h : okE e) : TC Tryz.prog 29 [.g (exC e)] (.v (.bool (hasE e))) := by
  induction e with
  | nil => exact h.elim
  | mk k s n nl li na ar ih =>
  obtain ⟨hs, hnl, hna, hh⟩ := h
  have hfin : hasE (.mk k s n nl li na ar) = (fieldK k || anyN na fun i => hasE (ar i)) := rfl
  rw [hfin]
  unfold fieldK
  refine Wv.TC.by 30 [0, 1, 16, 3, 21, 29, 2] [] [.tmp 2] (by kernel_rfl) Tryz.func29 rfl rfl rfl (by kernel_rfl) (by kernel_rfl) (Nat.le_of_ble_eq_true rfl) rfl ?clo ?_
  case clo => simp only [Wv.clo_v, Wv.clo_none, Wv.clo_e0, Wv.clo_t, Wv.clo_g, Wv.clo_tup, Wv.clo_fn, Wv.clo_ifc, Wv.clo_nil, Wv.clo_cons, Wv.clo_tab, Wv.clo_map, implies_true, and_self, true_and, and_true]
  unfold exC
  by_cases k11 : k = 11
  · simp (maxSteps := 2000000) (disch := first | omega | assumption | (simp only [Wv.Bx, simprocAttr, Wv.vcells, Value.cells, Wv.isAlloc] <;> omega) | fail) only [Wv.Ba, Wv.Bb, Wv.Bc, Wv.Bd, Wv.Be, Wv.Bf, Wv.Bg, Wv.Bh, Wv.Bi, Wv.Bz, simprocAttr, Option.some.injEq, Wv.isAlloc, Wv.vcells, Value.cells, Wv.froze, decide_eq_true k11, Bool.true_or]
  by_cases k13 : k = 13
  · simp (maxSteps := 2000000) (disch := first | omega | assumption | (simp only [Wv.Bx, simprocAttr, Wv.vcells, Value.cells, Wv.isAlloc] <;> omega) | fail) only [Wv.Ba, Wv.Bb, Wv.Bc, Wv.Bd, Wv.Be, Wv.Bf, Wv.Bg, Wv.Bh, Wv.Bi, Wv.Bz, simprocAttr, Option.some.injEq, Wv.isAlloc, Wv.vcells, Value.cells, Wv.froze, decide_eq_false k11, decide_eq_true k13, Bool.true_or, Bool.false_or]
  by_cases k12 : k = 12
  · simp (maxSteps := 2000000) (disch := first | omega | assumption | (simp only [Wv.Bx, simprocAttr, Wv.vcells, Value.cells, Wv.isAlloc] <;> omega) | fail) only [Wv.Ba, Wv.Bb, Wv.Bc, Wv.Bd, Wv.Be, Wv.Bf, Wv.Bg, Wv.Bh, Wv.Bi, Wv.Bz, simprocAttr, Option.some.injEq, Wv.isAlloc, Wv.vcells, Value.cells, Wv.froze, decide_eq_false k11, decide_eq_false k13, decide_eq_true k12, Bool.true_or, Bool.false_or]
  rw [decide_eq_false k11, decide_eq_false k13, decide_eq_false k12]
  simp only [Bool.false_or]
  simp (maxSteps := 2000000) (disch := first | omega | assumption | (simp only [Wv.Bx, simprocAttr, Wv.vcells, Value.cells, Wv.isAlloc] <;> omega) | fail) only [Wv.Ba, Wv.Bb, Wv.Bc, Wv.Bd, Wv.Be, Wv.Bf, Wv.Bg, Wv.Bh, Wv.Bi, Wv.Bz, simprocAttr, Option.some.injEq, Wv.isAlloc, Wv.vcells, Value.cells, Wv.froze, decide_eq_false k11, decide_eq_false k13, decide_eq_false k12]
  refine wfor (σ := Nat) (fun i => [(1, .ptr 0 0), (3, .v (.int .i64 i))])
    (fun i => [some (.blk [.v (.int .i64 k), .v (.string s), .v (.int .i64 n), .t nl 1 (tab nl fun i => .v (.int .i64 (li i))), .t na 5 (tabM na fun i => exC (ar i))])])
    (fun i => i ≤ na ∧ ∀ j, j < i → hasE (ar j) = false) (fun i => na - i) 0 ⟨Nat.zero_le _, fun j hj => by omega⟩ (by simp (maxSteps := 2000000) (disch := first | omega | assumption | (simp only [Wv.Bx, simprocAttr, Wv.vcells, Value.cells, Wv.isAlloc] <;> omega) | fail) only [Wv.Ba, Wv.Bb, Wv.Bc, Wv.Bd, Wv.Be, Wv.Bf, Wv.Bg, Wv.Bh, Wv.Bi, Wv.Bz, simprocAttr, Option.some.injEq, Wv.isAlloc, Wv.vcells, Value.cells, Wv.froze]) (by simp (maxSteps := 2000000) (disch := first | omega | assumption | (simp only [Wv.Bx, simprocAttr, Wv.vcells, Value.cells, Wv.isAlloc] <;> omega) | fail) only [Wv.Ba, Wv.Bb, Wv.Bc, Wv.Bd, Wv.Be, Wv.Bf, Wv.Bg, Wv.Bh, Wv.Bi, Wv.Bz, simprocAttr, Option.some.injEq, Wv.isAlloc, Wv.vcells, Value.cells, Wv.froze]) ?_
  rintro i ⟨hi, hbef⟩
  by_cases hlt : i < na
  · have e1 : (i : Int) < na := by omega
    have T := ih i (hh i hlt)
    have hG := exG_clo (ar i)
    have hoy := hh i hlt
    have hL := tabM_clo (n := na) (f := fun i => exC (ar i)) fun i _ => exC_clo (ar i)
    obtain ⟨r, hd⟩ : ∃ r, List.drop (i * 5) (tabM na fun i => exC (ar i)) = exC (ar i) ++ r := tabM_drop (f := fun i => exC (ar i)) (fun i => exC_len (ar i)) hlt
    revert T hG hL hd
    generalize (tabM na fun i => exC (ar i)) = L
    generalize hc2 : hasE (ar i) = c2 at *
    generalize ar i = y at hoy ⊢
    obtain ⟨k', s', n', nl', li', na', ar', rfl⟩ := ok_mk hoy
    rw [exC_mk]
    intro T hG hL hd
    simp only [List.cons_append, List.nil_append] at hd
    simp (maxSteps := 2000000) (disch := first | omega | assumption | (simp only [Wv.Bx, simprocAttr, Wv.vcells, Value.cells, Wv.isAlloc] <;> omega) | fail) only [Wv.Ba, Wv.Bb, Wv.Bc, Wv.Bd, Wv.Be, Wv.Bf, Wv.Bg, Wv.Bh, Wv.Bi, Wv.Bz, simprocAttr, Option.some.injEq, Wv.isAlloc, Wv.vcells, Value.cells, Wv.froze, decide_eq_true e1, hd]
    refine call_TC T rfl (cloA1 hG) (by simp only [Wv.clo_v, Wv.clo_none, Wv.clo_e0, Wv.clo_t, Wv.clo_g, Wv.clo_tup, Wv.clo_fn, Wv.clo_ifc, Wv.clo_nil, Wv.clo_cons, Wv.clo_tab, Wv.clo_map, implies_true, and_self, true_and, and_true]) ?_
    cases c2 with
    | true =>
      have hA : (anyN na fun i => hasE (ar i)) = true := any_at hlt hc2
      simp (maxSteps := 2000000) (disch := first | omega | assumption | (simp only [Wv.Bx, simprocAttr, Wv.vcells, Value.cells, Wv.isAlloc] <;> omega) | fail) only [Wv.Ba, Wv.Bb, Wv.Bc, Wv.Bd, Wv.Be, Wv.Bf, Wv.Bg, Wv.Bh, Wv.Bi, Wv.Bz, simprocAttr, Option.some.injEq, Wv.isAlloc, Wv.vcells, Value.cells, Wv.froze, hA]
    | false =>
      simp (maxSteps := 2000000) (disch := first | omega | assumption | (simp only [Wv.Bx, simprocAttr, Wv.vcells, Value.cells, Wv.isAlloc] <;> omega) | fail) only [Wv.Ba, Wv.Bb, Wv.Bc, Wv.Bd, Wv.Be, Wv.Bf, Wv.Bg, Wv.Bh, Wv.Bi, Wv.Bz, simprocAttr, Option.some.injEq, Wv.isAlloc, Wv.vcells, Value.cells, Wv.froze]
      refine k_next (i + 1) ⟨by omega, fun j hj => ?_⟩ (by omega) rfl (by simp (maxSteps := 2000000) (disch := first | omega | assumption | (simp only [Wv.Bx, simprocAttr, Wv.vcells, Value.cells, Wv.isAlloc] <;> omega) | fail) only [Wv.Ba, Wv.Bb, Wv.Bc, Wv.Bd, Wv.Be, Wv.Bf, Wv.Bg, Wv.Bh, Wv.Bi, Wv.Bz, simprocAttr, Option.some.injEq, Wv.isAlloc, Wv.vcells, Value.cells, Wv.froze, Int.natCast_add, Int.natCast_one])
      by_cases e : j = i
      · subst e; exact hc2
      · exact hbef j (by omega)
  · obtain rfl : i = na := by omega
    have hA : (anyN i fun i => hasE (ar i)) = false := any_none hbef
    simp (maxSteps := 2000000) (disch := first | omega | assumption | (simp only [Wv.Bx, simprocAttr, Wv.vcells, Value.cells, Wv.isAlloc] <;> omega) | fail) only [Wv.Ba, Wv.Bb, Wv.Bc, Wv.Bd, Wv.Be, Wv.Bf, Wv.Bg, Wv.Bh, Wv.Bi, Wv.Bz, simprocAttr, Option.some.injEq, Wv.isAlloc, Wv.vcells, Value.cells, Wv.froze, Int.lt_irrefl, decide_false, hA]
/-- A circuit whose parts are not yet counted. -/
structure okC0 (c : Ci) : Prop where
  name : c.name.size ≤ 140737488351232
  ni : c.ni ≤ 140737488351232
  nl : c.nl ≤ 140737488351232
  no : c.no ≤ 140737488351232
  fi : ∀ i, i < c.ni → (c.fi i).size ≤ 140737488351232
  fo : ∀ i, i < c.no → (c.fo i).size ≤ 140737488351232
  ln : ∀ i, i < c.nl → (c.ln i).size ≤ 140737488351232
  le : ∀ i, i < c.nl → okE (c.le i)
/-- What is left behind some lets. -/
def leftC (c : Ci) (most : Int) (i : Nat) : Int := accP (fun i x => partE (c.le i) (x - (c.ln i).size)) (most - c.name.size) i
def beyB (c : Ci) (most : Int) : Bool := longB c.ni c.fi most || (longB c.no c.fo most || (decide (most < (c.nl : Int)) || decide (leftC c most c.nl < 0)))
theorem leftC_succ (c : Ci) (most : Int) (i : Nat) : leftC c most (i + 1) = if leftC c most i < 0 then leftC c most i else partE (c.le i) (leftC c most i - (c.ln i).size) := rfl
theorem leftC_le {c : Ci} (h : okC0 c) {most : Int} (h0 : 0 ≤ most) (h1 : most ≤ 1000000) : ∀ i, i ≤ c.nl → leftC c most i ≤ 1000000 ∧ -1000000000000000 ≤ leftC c most i := fun i hi => by
  have := h.name
  exact accP_le' (by omega) (by omega) i fun j hj x q1 q2 => by
    have := h.ln j (by omega)
    exact partE_le _ (h.le j (by omega)) _ 1000000 (by omega) (by omega) (by omega) (by omega)
theorem left_cnt {c : Ci} (h : okC0 c) {most : Int} (h0 : 0 ≤ most) : ∀ i, i ≤ c.nl → 0 ≤ leftC c most i → leftC c most i ≤ most ∧ ∀ j, j < i → (cntE (c.le j) : Int) ≤ most := by
  intro i
  induction i with
  | zero => exact fun _ q => ⟨by show most - c.name.size ≤ most; omega, fun j hj => by omega⟩
  | succ i ih =>
    intro hi hq
    rw [leftC_succ] at hq ⊢
    by_cases hn : leftC c most i < 0
    · rw [if_pos hn] at hq; omega
    · rw [if_neg hn] at hq ⊢
      obtain ⟨g1, g2⟩ := ih (by omega) (by omega)
      have g3 := partE_cnt (c.le i) (h.le i (by omega)) _ hq
      have g4 : 1 ≤ cntE (c.le i) := by cases c.le i with
        | nil => exact Nat.le_refl _
        | mk k s n nl li na ar => exact accS_base 1 _ _
      refine ⟨by omega, fun j hj => ?_⟩
      by_cases e : j = i
      · subst e; omega
      · exact g2 j (by omega)
theorem okC_of {c : Ci} (h : okC0 c) {most : Int} (h0 : 0 ≤ most) (h1 : most ≤ 1000000) (hb : beyB c most = false) : okC c ∧ c.nl ≤ 1000000 ∧ ∀ i, i < c.nl → (cntE (c.le i) : Int) ≤ most := by
  unfold beyB at hb
  simp only [Bool.or_eq_false_iff, decide_eq_false_iff_not] at hb
  obtain ⟨_, _, b3, b4⟩ := hb
  have hl := (left_cnt h h0 c.nl (Nat.le_refl _) (by omega)).2
  exact ⟨⟨h.name, h.ni, h.nl, h.no, h.fi, h.fo, h.ln, fun i hi => ⟨h.le i hi, by have := hl i hi; omega⟩⟩, by omega, hl⟩
set_option maxHeartbeats 1600000 in
set_option maxRecDepth 100000 in
theorem lbeyond_tc (c : Ci) (h : okC0 c) (most : Int) (h0 : 0 ≤ most) (h1 : most ≤ 1000000) : TC Tryz.prog 16 [.g (ciC c), .v (.int .i64 most)] (.v (.bool (beyB c most))) := by
  have hli := leftC_le h h0 h1
  have hB : beyB c most = (longB c.ni c.fi most || (longB c.no c.fo most || (decide (most < (c.nl : Int)) || decide (leftC c most c.nl < 0)))) := rfl
  have T1 := lLong_tc c.ni c.fi most h.ni (by omega) h1
  have T2 := lLong_tc c.no c.fo most h.no (by omega) h1
  have hnm := h.name
  generalize longB c.ni c.fi most = b1 at *
  generalize longB c.no c.fo most = b2 at *
  generalize beyB c most = B at *
  refine Wv.TC.by 58 [0, 1, 2, 28, 6, 5, 37, 4] [(7, 16)] [.tmp 4] (by kernel_rfl) Tryz.func16 rfl rfl rfl (by kernel_rfl) (by kernel_rfl) (Nat.le_of_ble_eq_true rfl) rfl ?clo ?_
  case clo => simp only [Wv.clo_v, Wv.clo_none, Wv.clo_e0, Wv.clo_t, Wv.clo_g, Wv.clo_tup, Wv.clo_fn, Wv.clo_ifc, Wv.clo_nil, Wv.clo_cons, Wv.clo_tab, Wv.clo_map, implies_true, and_self, true_and, and_true]
  unfold ciC strsA at *
  simp (maxSteps := 2000000) (disch := first | omega | assumption | (simp only [Wv.Bx, simprocAttr, Wv.vcells, Value.cells, Wv.isAlloc] <;> omega) | fail) only [Wv.Ba, Wv.Bb, Wv.Bc, Wv.Bd, Wv.Be, Wv.Bf, Wv.Bg, Wv.Bh, Wv.Bi, Wv.Bz, simprocAttr, Option.some.injEq, Wv.isAlloc, Wv.vcells, Value.cells, Wv.froze]
  refine call_TC T1 rfl (clB2 (by simp only [Wv.clo_v, Wv.clo_none, Wv.clo_e0, Wv.clo_t, Wv.clo_g, Wv.clo_tup, Wv.clo_fn, Wv.clo_ifc, Wv.clo_nil, Wv.clo_cons, Wv.clo_tab, Wv.clo_map, implies_true, and_self, true_and, and_true]) (.v _)) (by simp only [Wv.clo_v, Wv.clo_none, Wv.clo_e0, Wv.clo_t, Wv.clo_g, Wv.clo_tup, Wv.clo_fn, Wv.clo_ifc, Wv.clo_nil, Wv.clo_cons, Wv.clo_tab, Wv.clo_map, implies_true, and_self, true_and, and_true]) ?_
  cases b1 with
  | true => simp (maxSteps := 2000000) (disch := first | omega | assumption | (simp only [Wv.Bx, simprocAttr, Wv.vcells, Value.cells, Wv.isAlloc] <;> omega) | fail) only [Wv.Ba, Wv.Bb, Wv.Bc, Wv.Bd, Wv.Be, Wv.Bf, Wv.Bg, Wv.Bh, Wv.Bi, Wv.Bz, simprocAttr, Option.some.injEq, Wv.isAlloc, Wv.vcells, Value.cells, Wv.froze, hB, Bool.true_or]
  | false =>
  simp (maxSteps := 2000000) (disch := first | omega | assumption | (simp only [Wv.Bx, simprocAttr, Wv.vcells, Value.cells, Wv.isAlloc] <;> omega) | fail) only [Wv.Ba, Wv.Bb, Wv.Bc, Wv.Bd, Wv.Be, Wv.Bf, Wv.Bg, Wv.Bh, Wv.Bi, Wv.Bz, simprocAttr, Option.some.injEq, Wv.isAlloc, Wv.vcells, Value.cells, Wv.froze]
  refine call_TC T2 rfl (clB2 (by simp only [Wv.clo_v, Wv.clo_none, Wv.clo_e0, Wv.clo_t, Wv.clo_g, Wv.clo_tup, Wv.clo_fn, Wv.clo_ifc, Wv.clo_nil, Wv.clo_cons, Wv.clo_tab, Wv.clo_map, implies_true, and_self, true_and, and_true]) (.v _)) (by simp only [Wv.clo_v, Wv.clo_none, Wv.clo_e0, Wv.clo_t, Wv.clo_g, Wv.clo_tup, Wv.clo_fn, Wv.clo_ifc, Wv.clo_nil, Wv.clo_cons, Wv.clo_tab, Wv.clo_map, implies_true, and_self, true_and, and_true]) ?_
  cases b2 with
  | true => simp (maxSteps := 2000000) (disch := first | omega | assumption | (simp only [Wv.Bx, simprocAttr, Wv.vcells, Value.cells, Wv.isAlloc] <;> omega) | fail) only [Wv.Ba, Wv.Bb, Wv.Bc, Wv.Bd, Wv.Be, Wv.Bf, Wv.Bg, Wv.Bh, Wv.Bi, Wv.Bz, simprocAttr, Option.some.injEq, Wv.isAlloc, Wv.vcells, Value.cells, Wv.froze, hB, Bool.true_or, Bool.false_or]
  | false =>
  by_cases h3 : most < (c.nl : Int)
  · rw [decide_eq_true h3] at hB
    simp (maxSteps := 2000000) (disch := first | omega | assumption | (simp only [Wv.Bx, simprocAttr, Wv.vcells, Value.cells, Wv.isAlloc] <;> omega) | fail) only [Wv.Ba, Wv.Bb, Wv.Bc, Wv.Bd, Wv.Be, Wv.Bf, Wv.Bg, Wv.Bh, Wv.Bi, Wv.Bz, simprocAttr, Option.some.injEq, Wv.isAlloc, Wv.vcells, Value.cells, Wv.froze, decide_eq_true h3, hB, Bool.true_or, Bool.false_or]
  rw [decide_eq_false h3, Bool.false_or, Bool.false_or, Bool.false_or] at hB
  simp (maxSteps := 2000000) (disch := first | omega | assumption | (simp only [Wv.Bx, simprocAttr, Wv.vcells, Value.cells, Wv.isAlloc] <;> omega) | fail) only [Wv.Ba, Wv.Bb, Wv.Bc, Wv.Bd, Wv.Be, Wv.Bf, Wv.Bg, Wv.Bh, Wv.Bi, Wv.Bz, simprocAttr, Option.some.injEq, Wv.isAlloc, Wv.vcells, Value.cells, Wv.froze, decide_eq_false h3]
  refine wfor (σ := Nat) (fun i => [(2, .ptr 0 0), (5, .v (.int .i64 (leftC c most i))), (6, .v (.int .i64 i))])
    (fun i => [some (.blk [.v (.string c.name), .t c.ni 1 (tab c.ni fun i => .v (.string (c.fi i))), .t c.nl 6 c.lets, .t c.no 1 (tab c.no fun i => .v (.string (c.fo i)))])])
    (fun i => i ≤ c.nl) (fun i => c.nl - i) 0 (Nat.zero_le _) rfl (by simp (maxSteps := 2000000) (disch := first | omega | assumption | (simp only [Wv.Bx, simprocAttr, Wv.vcells, Value.cells, Wv.isAlloc] <;> omega) | fail) only [Wv.Ba, Wv.Bb, Wv.Bc, Wv.Bd, Wv.Be, Wv.Bf, Wv.Bg, Wv.Bh, Wv.Bi, Wv.Bz, simprocAttr, Option.some.injEq, Wv.isAlloc, Wv.vcells, Value.cells, Wv.froze, leftC, accP]) ?_
  intro i hi
  have hai := hli i hi
  have hsu := leftC_succ c most i
  have hst : leftC c most i < 0 → leftC c most c.nl = leftC c most i := fun q => accP_stop q hi
  by_cases hlt : i < c.nl
  · have e1 : (i : Int) < (c.nl : Int) := by omega
    generalize leftC c most i = A at *
    by_cases hneg : A < 0
    · have e2 : ¬ 0 ≤ A := by omega
      have e3 := hst hneg
      rw [e3] at hB
      simp (maxSteps := 2000000) (disch := first | omega | assumption | (simp only [Wv.Bx, simprocAttr, Wv.vcells, Value.cells, Wv.isAlloc] <;> omega) | fail) only [Wv.Ba, Wv.Bb, Wv.Bc, Wv.Bd, Wv.Be, Wv.Bf, Wv.Bg, Wv.Bh, Wv.Bi, Wv.Bz, simprocAttr, Option.some.injEq, Wv.isAlloc, Wv.vcells, Value.cells, Wv.froze, decide_eq_true e1, decide_eq_false e2, hB]
    · have e2 : 0 ≤ A := by omega
      rw [if_neg hneg] at hsu
      have hln := h.ln i hlt
      have T := lparts_tc (c.le i) (h.le i hlt) (A - (c.ln i).size) (by omega) (by omega)
      have hG := exG_clo (c.le i)
      have hoy := h.le i hlt
      have hL := lets_clo c
      obtain ⟨r, hd⟩ : ∃ r, List.drop (i * 6) c.lets = letC (c.ln i) (c.le i) ++ r := tabM_drop (f := fun i => letC (c.ln i) (c.le i)) (fun i => letC_len _ _) hlt
      unfold letC at hd
      generalize hA' : partE (c.le i) (A - (c.ln i).size) = A' at *
      generalize hle : c.le i = y at *
      obtain ⟨k', s', n', nl', li', na', ar', rfl⟩ := ok_mk hoy
      rw [exC_mk] at T hG hd
      simp only [List.cons_append, List.nil_append] at hd
      simp (maxSteps := 2000000) (disch := first | omega | assumption | (simp only [Wv.Bx, simprocAttr, Wv.vcells, Value.cells, Wv.isAlloc] <;> omega) | fail) only [Wv.Ba, Wv.Bb, Wv.Bc, Wv.Bd, Wv.Be, Wv.Bf, Wv.Bg, Wv.Bh, Wv.Bi, Wv.Bz, simprocAttr, Option.some.injEq, Wv.isAlloc, Wv.vcells, Value.cells, Wv.froze, decide_eq_true e1, decide_eq_true e2, hd]
      refine calm_TC T rfl (clB2 hG (.v _)) (by simp only [Wv.clo_v, Wv.clo_none, Wv.clo_e0, Wv.clo_t, Wv.clo_g, Wv.clo_tup, Wv.clo_fn, Wv.clo_ifc, Wv.clo_nil, Wv.clo_cons, Wv.clo_tab, Wv.clo_map, implies_true, and_self, true_and, and_true]) ?_
      simp (maxSteps := 2000000) (disch := first | omega | assumption | (simp only [Wv.Bx, simprocAttr, Wv.vcells, Value.cells, Wv.isAlloc] <;> omega) | fail) only [Wv.Ba, Wv.Bb, Wv.Bc, Wv.Bd, Wv.Be, Wv.Bf, Wv.Bg, Wv.Bh, Wv.Bi, Wv.Bz, simprocAttr, Option.some.injEq, Wv.isAlloc, Wv.vcells, Value.cells, Wv.froze]
      refine k_next (i + 1) (by omega) (by omega) rfl (by simp (maxSteps := 2000000) (disch := first | omega | assumption | (simp only [Wv.Bx, simprocAttr, Wv.vcells, Value.cells, Wv.isAlloc] <;> omega) | fail) only [Wv.Ba, Wv.Bb, Wv.Bc, Wv.Bd, Wv.Be, Wv.Bf, Wv.Bg, Wv.Bh, Wv.Bi, Wv.Bz, simprocAttr, Option.some.injEq, Wv.isAlloc, Wv.vcells, Value.cells, Wv.froze, hsu, Int.natCast_add, Int.natCast_one])
  · obtain rfl : i = c.nl := by omega
    simp (maxSteps := 2000000) (disch := first | omega | assumption | (simp only [Wv.Bx, simprocAttr, Wv.vcells, Value.cells, Wv.isAlloc] <;> omega) | fail) only [Wv.Ba, Wv.Bb, Wv.Bc, Wv.Bd, Wv.Be, Wv.Bf, Wv.Bg, Wv.Bh, Wv.Bi, Wv.Bz, simprocAttr, Option.some.injEq, Wv.isAlloc, Wv.vcells, Value.cells, Wv.froze, Int.lt_irrefl, decide_false, hB]
/-- The tables of a circuit. -/
def tabC (c : Ci) (i : Nat) : Nat := accS 0 (fun i => tabE (c.le i)) i
def heavB (p : Nat) (c : Ci) : Bool := decide ((0 : Int) < (tabC c c.nl : Nat)) && decide ((1000 : Int) < ((tabC c c.nl : Nat) : Int) * (if (600 : Int) < (p : Int) then (600 : Int) else (p : Int)))
set_option maxRecDepth 100000 in
theorem tabC_le {c : Ci} (hc : ∀ i, i < c.nl → tabE (c.le i) ≤ 1000000) : ∀ i, i ≤ c.nl → tabC c i ≤ i * 1000000 := by
  intro i
  induction i with
  | zero =>
    intro _
    have h3 : tabC c 0 = 0 := rfl
    omega
  | succ i ih =>
    intro hi
    have h1 := ih (by omega)
    have h2 := hc i (by omega)
    have h3 : tabC c (i + 1) = tabC c i + tabE (c.le i) := rfl
    rw [h3, Nat.add_mul, Nat.one_mul]
    exact Nat.add_le_add h1 h2
set_option maxHeartbeats 1600000 in
set_option maxRecDepth 100000 in
theorem lheavy_tc (x : List AV) (hx : ∀ a, a ∈ x → Clo a) (p : Nat) (A0 A2 A3 A4 A5 A6 : AV) (hxe : x = [A0, .v (.int .u32 p), A2, A3, A4, A5, A6]) (hp : p ≤ 4294967295) (c : Ci) (h : okC0 c) (hnl : c.nl ≤ 1000000) (hcn : ∀ i, i < c.nl → cntE (c.le i) ≤ 1000000) : TC Tryz.prog 17 [.g x, .g (ciC c)] (.v (.bool (heavB p c))) := by
  subst hxe
  have hle := tabC_le (c := c) fun i hi => Nat.le_trans (tab_cnt _) (hcn i hi)
  have hB : heavB p c = (decide ((0 : Int) < (tabC c c.nl : Nat)) && decide ((1000 : Int) < ((tabC c c.nl : Nat) : Int) * (if (600 : Int) < (p : Int) then (600 : Int) else (p : Int)))) := rfl
  have hn2 : c.nl * 1000000 ≤ 1000000000000 := by omega
  generalize heavB p c = B at *
  refine Wv.TC.by 34 [0, 1, 6, 3, 11, 5, 2, 4] [] [.tmp 4] (by kernel_rfl) Tryz.func17 rfl rfl rfl (by kernel_rfl) (by kernel_rfl) (Nat.le_of_ble_eq_true rfl) rfl ?clo ?_
  case clo => simp only [Wv.clo_v, Wv.clo_none, Wv.clo_e0, Wv.clo_t, Wv.clo_g, Wv.clo_tup, Wv.clo_fn, Wv.clo_ifc, Wv.clo_nil, Wv.clo_cons, Wv.clo_tab, Wv.clo_map, implies_true, and_self, true_and, and_true]
  unfold ciC strsA at *
  simp (maxSteps := 2000000) (disch := first | omega | assumption | (simp only [Wv.Bx, simprocAttr, Wv.vcells, Value.cells, Wv.isAlloc] <;> omega) | fail) only [Wv.Ba, Wv.Bb, Wv.Bc, Wv.Bd, Wv.Be, Wv.Bf, Wv.Bg, Wv.Bh, Wv.Bi, Wv.Bz, simprocAttr, Option.some.injEq, Wv.isAlloc, Wv.vcells, Value.cells, Wv.froze]
  refine wfor (σ := Nat) (fun i => [(2, .ptr 0 0), (3, .ptr 1 0), (5, .v (.int .i64 (tabC c i : Nat))), (6, .v (.int .i64 i))])
    (fun i => [some (.blk [A0, .v (.int .u32 p), A2, A3, A4, A5, A6]), some (.blk [.v (.string c.name), .t c.ni 1 (tab c.ni fun i => .v (.string (c.fi i))), .t c.nl 6 c.lets, .t c.no 1 (tab c.no fun i => .v (.string (c.fo i)))])])
    (fun i => i ≤ c.nl) (fun i => c.nl - i) 0 (Nat.zero_le _) rfl (by simp (maxSteps := 2000000) (disch := first | omega | assumption | (simp only [Wv.Bx, simprocAttr, Wv.vcells, Value.cells, Wv.isAlloc] <;> omega) | fail) only [Wv.Ba, Wv.Bb, Wv.Bc, Wv.Bd, Wv.Be, Wv.Bf, Wv.Bg, Wv.Bh, Wv.Bi, Wv.Bz, simprocAttr, Option.some.injEq, Wv.isAlloc, Wv.vcells, Value.cells, Wv.froze, tabC, accS, Int.natCast_zero]) ?_
  intro i hi
  have hai := hle i hi
  have hin : i * 1000000 ≤ 1000000000000 := Nat.le_trans (Nat.mul_le_mul_right _ hi) hn2
  have hsu : tabC c (i + 1) = tabC c i + tabE (c.le i) := rfl
  by_cases hlt : i < c.nl
  · have e1 : (i : Int) < (c.nl : Int) := by omega
    have q3 := Nat.le_trans (tab_cnt (c.le i)) (hcn i hlt)
    have T := ltables_tc (c.le i) (h.le i hlt) (hcn i hlt)
    have hG := exG_clo (c.le i)
    have hoy := h.le i hlt
    have hL := lets_clo c
    obtain ⟨r, hd⟩ : ∃ r, List.drop (i * 6) c.lets = letC (c.ln i) (c.le i) ++ r := tabM_drop (f := fun i => letC (c.ln i) (c.le i)) (fun i => letC_len _ _) hlt
    unfold letC at hd
    generalize tabE (c.le i) = tt at *
    generalize hle : c.le i = y at *
    obtain ⟨k', s', n', nl', li', na', ar', rfl⟩ := ok_mk hoy
    rw [exC_mk] at T hG hd
    simp only [List.cons_append, List.nil_append] at hd
    simp (maxSteps := 2000000) (disch := first | omega | assumption | (simp only [Wv.Bx, simprocAttr, Wv.vcells, Value.cells, Wv.isAlloc] <;> omega) | fail) only [Wv.Ba, Wv.Bb, Wv.Bc, Wv.Bd, Wv.Be, Wv.Bf, Wv.Bg, Wv.Bh, Wv.Bi, Wv.Bz, simprocAttr, Option.some.injEq, Wv.isAlloc, Wv.vcells, Value.cells, Wv.froze, decide_eq_true e1, hd]
    refine call_TC T rfl (cloA1 hG) (by simp only [Wv.clo_v, Wv.clo_none, Wv.clo_e0, Wv.clo_t, Wv.clo_g, Wv.clo_tup, Wv.clo_fn, Wv.clo_ifc, Wv.clo_nil, Wv.clo_cons, Wv.clo_tab, Wv.clo_map, implies_true, and_self, true_and, and_true]) ?_
    simp (maxSteps := 2000000) (disch := first | omega | assumption | (simp only [Wv.Bx, simprocAttr, Wv.vcells, Value.cells, Wv.isAlloc] <;> omega) | fail) only [Wv.Ba, Wv.Bb, Wv.Bc, Wv.Bd, Wv.Be, Wv.Bf, Wv.Bg, Wv.Bh, Wv.Bi, Wv.Bz, simprocAttr, Option.some.injEq, Wv.isAlloc, Wv.vcells, Value.cells, Wv.froze]
    refine k_next (i + 1) (by omega) (by omega) rfl (by simp (maxSteps := 2000000) (disch := first | omega | assumption | (simp only [Wv.Bx, simprocAttr, Wv.vcells, Value.cells, Wv.isAlloc] <;> omega) | fail) only [Wv.Ba, Wv.Bb, Wv.Bc, Wv.Bd, Wv.Be, Wv.Bf, Wv.Bg, Wv.Bh, Wv.Bi, Wv.Bz, simprocAttr, Option.some.injEq, Wv.isAlloc, Wv.vcells, Value.cells, Wv.froze, hsu, Int.natCast_add, Int.natCast_one])
  · obtain rfl : i = c.nl := by omega
    generalize tabC c c.nl = m at *
    have hm : m ≤ 1000000000000 := by omega
    by_cases h0 : (0 : Int) < (m : Int)
    · have hmul : ((m : Nat) : Int) * (if (600 : Int) < (p : Int) then (600 : Int) else (p : Int)) ≤ 1000000000000 * 600 := Int.mul_le_mul (by omega) (by split <;> omega) (by split <;> omega) (by omega)
      have hmu0 : 0 ≤ ((m : Nat) : Int) * (if (600 : Int) < (p : Int) then (600 : Int) else (p : Int)) := Int.mul_nonneg (by omega) (by split <;> omega)
      rw [decide_eq_true h0, Bool.true_and] at hB
      simp (maxSteps := 2000000) (disch := first | omega | assumption | (simp only [Wv.Bx, simprocAttr, Wv.vcells, Value.cells, Wv.isAlloc] <;> omega) | fail) only [Wv.Ba, Wv.Bb, Wv.Bc, Wv.Bd, Wv.Be, Wv.Bf, Wv.Bg, Wv.Bh, Wv.Bi, Wv.Bz, simprocAttr, Option.some.injEq, Wv.isAlloc, Wv.vcells, Value.cells, Wv.froze, Int.lt_irrefl, decide_false, decide_eq_true h0, hB]
    · rw [decide_eq_false h0, Bool.false_and] at hB
      simp (maxSteps := 2000000) (disch := first | omega | assumption | (simp only [Wv.Bx, simprocAttr, Wv.vcells, Value.cells, Wv.isAlloc] <;> omega) | fail) only [Wv.Ba, Wv.Bb, Wv.Bc, Wv.Bd, Wv.Be, Wv.Bf, Wv.Bg, Wv.Bh, Wv.Bi, Wv.Bz, simprocAttr, Option.some.injEq, Wv.isAlloc, Wv.vcells, Value.cells, Wv.froze, Int.lt_irrefl, decide_false, decide_eq_false h0, hB]
end Go.Proofs.YtljfgdlgmdcmfaaGreat
