/- Numbers as digits, plain: digits to a base, how many there are, products digit by digit, words and bytes. -/
namespace Go.Proofs.Ytjfjbkocopaehaa
set_option linter.unusedVariables false

def dig (B v i : Nat) : Nat := v / B ^ i % B
theorem dig_lt {B : Nat} (h : 0 < B) (v i : Nat) : dig B v i < B := Nat.mod_lt _ h
/-- v has n digits to the base B, not fewer. -/
def ND (B v n : Nat) : Prop := v < B ^ n ∧ (n = 0 ∨ B ^ (n - 1) ≤ v)
theorem ND.uniq {B v n m : Nat} (hB : 2 ≤ B) (h : ND B v n) (k : ND B v m) : n = m := by
  have key : ∀ {a b : Nat}, ND B v a → ND B v b → ¬ a < b := by
    intro a b ha hb hlt
    rcases hb.2 with h0 | h1
    · omega
    · have : B ^ a ≤ B ^ (b - 1) := Nat.pow_le_pow_right (by omega) (by omega)
      have := ha.1
      omega
  have h1 := key h k
  have h2 := key k h
  omega
theorem ND.zero {B : Nat} : ND B 0 0 := ⟨by simp, .inl rfl⟩
theorem ND.pos {B v n : Nat} (h : ND B v n) (hv : 0 < v) : 0 < n := by
  rcases Nat.eq_zero_or_pos n with h0 | h0
  · have := h.1; rw [h0] at this; simp at this; omega
  · exact h0
theorem ND.of_zero {B n : Nat} (hB : 2 ≤ B) (h : ND B 0 n) : n = 0 := h.uniq hB ND.zero
/-- A number below B^n whose last digit is none is below B^(n-1). -/
theorem dig_zero {B v n : Nat} (hB : 0 < B) (h : v < B ^ (n + 1)) (hz : dig B v n = 0) : v < B ^ n := by
  unfold dig at hz
  have hp : 0 < B ^ n := Nat.pow_pos hB
  have h1 : v / B ^ n < B := by rw [Nat.div_lt_iff_lt_mul hp, Nat.mul_comm]; rwa [Nat.pow_succ] at h
  rw [Nat.mod_eq_of_lt h1] at hz
  rcases (Nat.div_eq_zero_iff.1 hz) with h | h <;> omega
theorem dig_top {B v n : Nat} (hB : 0 < B) (h : v < B ^ (n + 1)) (hz : dig B v n ≠ 0) : ND B v (n + 1) := by
  refine ⟨h, .inr ?_⟩
  show B ^ n ≤ v
  apply Classical.byContradiction
  intro hlt
  exact hz (by unfold dig; rw [Nat.div_eq_of_lt (by omega)]; simp)
theorem dig_high {B v n i : Nat} (hB : 0 < B) (h : v < B ^ n) (hi : n ≤ i) : dig B v i = 0 := by
  unfold dig
  have : B ^ n ≤ B ^ i := Nat.pow_le_pow_right hB hi
  rw [Nat.div_eq_of_lt (by omega)]; simp
theorem dig_eq {B v u n : Nat} (hB : 0 < B) (hv : v < B ^ n) (hu : u < B ^ n) (h : ∀ i, i < n → dig B v i = dig B u i) : v = u := by
  induction n generalizing v u with
  | zero => simp at hv hu; omega
  | succ n ih =>
    have h0 := h 0 (by omega)
    unfold dig at h0
    simp only [Nat.pow_zero, Nat.div_one] at h0
    have h1 : v / B = u / B := by
      refine ih (Nat.div_lt_of_lt_mul (by rw [Nat.pow_succ] at hv; rw [Nat.mul_comm]; exact hv)) (Nat.div_lt_of_lt_mul (by rw [Nat.pow_succ] at hu; rw [Nat.mul_comm]; exact hu)) (fun i hi => ?_)
      have := h (i + 1) (by omega)
      unfold dig at this ⊢
      rw [Nat.div_div_eq_div_mul, Nat.div_div_eq_div_mul, Nat.mul_comm B, ← Nat.pow_succ]; exact this
    rw [← Nat.div_add_mod v B, ← Nat.div_add_mod u B, h0, h1]
/-- The n lowest digits, the lowest first. -/
def digs (B v n : Nat) : List Nat := (List.range n).map (dig B v)
theorem digs_length (B v n : Nat) : (digs B v n).length = n := by simp [digs]
theorem digs_get {B v n i : Nat} (h : i < n) : (digs B v n).getD i 0 = dig B v i := by
  unfold digs; rw [List.getD_eq_getElem?_getD, List.getElem?_map, List.getElem?_range h]; rfl
theorem digs_getElem {B v n i : Nat} (h : i < (digs B v n).length) : (digs B v n)[i] = dig B v i := by simp [digs]
theorem digs_take (B v : Nat) {n m : Nat} (h : m ≤ n) : (digs B v n).take m = digs B v m := by
  unfold digs; rw [← List.map_take, List.take_range, Nat.min_eq_left h]
theorem list_digs {L : List Nat} {B v n : Nat} (hl : L.length = n) (h : ∀ i, i < n → L.getD i 0 = dig B v i) : L = digs B v n := by
  apply List.ext_getElem (by rw [hl, digs_length])
  intro i h1 h2
  rw [digs_getElem, ← h i (by omega), List.getD_eq_getElem?_getD, List.getElem?_eq_getElem h1]; rfl

/-! The product, row by row. -/
def rowV (B a b i k : Nat) : Nat := (a % B ^ i) * b + dig B a i * (b % B ^ k) * B ^ i
def rowT (B a b i : Nat) : Nat := (a % B ^ i) * b
theorem rowV_zero (B a b i : Nat) : rowV B a b i 0 = rowT B a b i := by unfold rowV rowT; simp [Nat.mod_one]
theorem rowV_full {B a b i n : Nat} (hb : b < B ^ n) : rowV B a b i n = rowT B a b (i + 1) := by
  unfold rowV rowT dig
  rw [Nat.mod_eq_of_lt hb, Nat.pow_succ, Nat.mod_mul]
  rw [Nat.add_mul]
  congr 1
  rw [Nat.mul_assoc, Nat.mul_assoc, Nat.mul_comm b, ← Nat.mul_assoc, Nat.mul_comm (a / B ^ i % B), Nat.mul_assoc]
theorem rowV_step {B a b i k : Nat} : rowV B a b i (k + 1) = rowV B a b i k + dig B a i * dig B b k * B ^ (i + k) := by
  unfold rowV
  have : b % B ^ (k + 1) = b % B ^ k + B ^ k * dig B b k := by unfold dig; rw [Nat.pow_succ, Nat.mod_mul]
  rw [this, Nat.mul_add, Nat.add_mul, Nat.add_assoc]
  congr 2
  rw [Nat.pow_add]
  generalize dig B a i = x; generalize dig B b k = y; generalize B ^ k = p; generalize B ^ i = q
  rw [Nat.mul_comm p y, Nat.mul_assoc x (y * p) q, Nat.mul_assoc y p q, Nat.mul_comm p q, Nat.mul_assoc x y (q * p)]
/-- The carry in the midst of a row. -/
def rowC (B a b i k : Nat) : Nat := rowV B a b i k / B ^ (i + k) - rowT B a b i / B ^ (i + k)
theorem rowV_ge (B a b i k : Nat) : rowT B a b i ≤ rowV B a b i k := by unfold rowV rowT; omega
theorem rowC_add (B a b i k : Nat) : rowV B a b i k / B ^ (i + k) = rowT B a b i / B ^ (i + k) + rowC B a b i k := by
  unfold rowC
  have := Nat.div_le_div_right (c := B ^ (i + k)) (rowV_ge B a b i k)
  omega
theorem rowC_zero (B a b i : Nat) : rowC B a b i 0 = 0 := by unfold rowC; rw [rowV_zero]; simp
theorem row_sum {B a b i k : Nat} (hB : 0 < B) : rowV B a b i (k + 1) / B ^ (i + k) = B * (rowT B a b i / B ^ (i + k + 1)) + (rowC B a b i k + dig B (rowT B a b i) (i + k) + dig B a i * dig B b k) := by
  have hp : 0 < B ^ (i + k) := Nat.pow_pos hB
  rw [rowV_step, Nat.add_mul_div_right _ _ hp, rowC_add]
  have h := Nat.div_add_mod (rowT B a b i / B ^ (i + k)) B
  have e : rowT B a b i / B ^ (i + k) / B = rowT B a b i / B ^ (i + k + 1) := by rw [Nat.div_div_eq_div_mul, ← Nat.pow_succ]
  rw [e] at h
  have e2 : dig B (rowT B a b i) (i + k) = rowT B a b i / B ^ (i + k) % B := rfl
  rw [e2]
  generalize rowT B a b i / B ^ (i + k) % B = r at *
  generalize rowT B a b i / B ^ (i + k) = q at *
  generalize B * (rowT B a b i / B ^ (i + k + 1)) = z at *
  omega
theorem row_digit {B a b i k : Nat} (hB : 0 < B) : dig B (rowV B a b i (k + 1)) (i + k) = (rowC B a b i k + dig B (rowT B a b i) (i + k) + dig B a i * dig B b k) % B := by
  have h := row_sum (a := a) (b := b) (i := i) (k := k) hB
  unfold dig at h ⊢
  rw [h, Nat.mul_add_mod]
theorem row_carry {B a b i k : Nat} (hB : 0 < B) : rowC B a b i (k + 1) = (rowC B a b i k + dig B (rowT B a b i) (i + k) + dig B a i * dig B b k) / B := by
  have h := row_sum (a := a) (b := b) (i := i) (k := k) hB
  have h2 : rowV B a b i (k + 1) / B ^ (i + (k + 1)) = rowT B a b i / B ^ (i + k + 1) + (rowC B a b i k + dig B (rowT B a b i) (i + k) + dig B a i * dig B b k) / B := by
    rw [show i + (k + 1) = i + k + 1 by omega, Nat.pow_succ, ← Nat.div_div_eq_div_mul, h, Nat.mul_add_div hB, Nat.pow_succ]
  show rowV B a b i (k + 1) / B ^ (i + (k + 1)) - rowT B a b i / B ^ (i + (k + 1)) = _
  rw [h2, show i + (k + 1) = i + k + 1 by omega]
  exact Nat.add_sub_cancel_left ..
theorem row_low {B a b i k p : Nat} (hB : 0 < B) (hp : p < i + k) : dig B (rowV B a b i (k + 1)) p = dig B (rowV B a b i k) p := by
  unfold dig
  rw [rowV_step]
  obtain ⟨d, hd⟩ : ∃ d, i + k = p + 1 + d := ⟨i + k - p - 1, by omega⟩
  have h0 : 0 < B ^ p := Nat.pow_pos hB
  rw [hd, show p + 1 + d = p + (1 + d) by omega, Nat.pow_add, Nat.mul_comm (B ^ p), ← Nat.mul_assoc, Nat.add_mul_div_right _ _ h0, Nat.pow_add, Nat.pow_one]
  rw [Nat.mul_comm B, ← Nat.mul_assoc, Nat.add_mul_mod_self_right]
theorem rowC_lt {B a b i k : Nat} (hB : 2 ≤ B) : rowC B a b i k < B := by
  induction k with
  | zero => rw [rowC_zero]; omega
  | succ k ih =>
    rw [row_carry (by omega)]
    have h1 := dig_lt (B := B) (by omega) (rowT B a b i) (i + k)
    have h2 := dig_lt (B := B) (by omega) a i
    have h3 := dig_lt (B := B) (by omega) b k
    have h4 : dig B a i * dig B b k ≤ (B - 1) * (B - 1) := Nat.mul_le_mul (by omega) (by omega)
    rw [Nat.div_lt_iff_lt_mul (by omega)]
    obtain ⟨c, rfl⟩ : ∃ c, B = c + 1 := ⟨B - 1, by omega⟩
    simp only [Nat.add_sub_cancel] at h4
    have : (c + 1) * (c + 1) = c * c + c + c + 1 := by rw [Nat.add_mul, Nat.mul_add]; omega
    omega
theorem row_bd {B a b i k : Nat} (hB : 2 ≤ B) : rowC B a b i k + dig B (rowT B a b i) (i + k) + dig B a i * dig B b k < B * B := by
  have h0 := rowC_lt (a := a) (b := b) (i := i) (k := k) hB
  have h1 := dig_lt (B := B) (by omega) (rowT B a b i) (i + k)
  have h2 := dig_lt (B := B) (by omega) a i
  have h3 := dig_lt (B := B) (by omega) b k
  have h4 : dig B a i * dig B b k ≤ (B - 1) * (B - 1) := Nat.mul_le_mul (by omega) (by omega)
  obtain ⟨c, rfl⟩ : ∃ c, B = c + 1 := ⟨B - 1, by omega⟩
  simp only [Nat.add_sub_cancel] at h4
  have : (c + 1) * (c + 1) = c * c + c + c + 1 := by rw [Nat.add_mul, Nat.mul_add]; omega
  omega
theorem rowT_lt {B a b i n : Nat} (hB : 0 < B) (hb : b < B ^ n) : rowT B a b i < B ^ (i + n) := by
  unfold rowT
  have h1 : a % B ^ i < B ^ i := Nat.mod_lt _ (Nat.pow_pos hB)
  rw [Nat.pow_add]
  exact Nat.mul_lt_mul_of_lt_of_le h1 (Nat.le_of_lt hb) (Nat.pos_of_ne_zero (by intro h; rw [h] at hb; omega))
theorem rowT_zero (B a b : Nat) : rowT B a b 0 = 0 := by unfold rowT; simp [Nat.mod_one]
theorem rowT_full {B a b n : Nat} (ha : a < B ^ n) : rowT B a b n = a * b := by unfold rowT; rw [Nat.mod_eq_of_lt ha]
/-- The last carry is a row's last digit. -/
theorem row_last {B a b i n : Nat} (hB : 2 ≤ B) (hb : b < B ^ n) : rowC B a b i n = dig B (rowT B a b (i + 1)) (i + n) := by
  have h1 := rowT_lt (a := a) (i := i) (show 0 < B by omega) hb
  unfold rowC
  rw [Nat.div_eq_of_lt h1, Nat.sub_zero, rowV_full hb]
  unfold dig
  have h2 := rowT_lt (a := a) (i := i + 1) (show 0 < B by omega) hb
  have h3 : rowT B a b (i + 1) / B ^ (i + n) < B := by
    rw [Nat.div_lt_iff_lt_mul (Nat.pow_pos (by omega)), Nat.mul_comm, ← Nat.pow_succ, show (i + n).succ = i + 1 + n by omega]; exact h2
  rw [Nat.mod_eq_of_lt h3]
/-- What a cell holds in the midst of a row. -/
def rowF (B a b i k p : Nat) : Nat := if p < i + k then dig B (rowV B a b i k) p else dig B (rowT B a b i) p
theorem rowF_zero (B a b i p : Nat) : rowF B a b i 0 p = dig B (rowT B a b i) p := by unfold rowF; rw [rowV_zero]; split <;> rfl
theorem rowF_step {B a b i k p : Nat} (hB : 0 < B) : rowF B a b i (k + 1) p = if p = i + k then (rowC B a b i k + dig B (rowT B a b i) (i + k) + dig B a i * dig B b k) % B else rowF B a b i k p := by
  unfold rowF
  by_cases h : p = i + k
  · subst h
    rw [if_pos (by omega), if_pos rfl, row_digit hB]
  · rw [if_neg h]
    by_cases h1 : p < i + k
    · rw [if_pos (by omega), if_pos h1, row_low hB h1]
    · rw [if_neg (by omega), if_neg h1]
theorem rowF_at (B a b i k : Nat) : rowF B a b i k (i + k) = dig B (rowT B a b i) (i + k) := by unfold rowF; rw [if_neg (by omega)]
theorem rowF_last {B a b i n p : Nat} (hB : 2 ≤ B) (hb : b < B ^ n) : dig B (rowT B a b (i + 1)) p = if p = i + n then rowC B a b i n else rowF B a b i n p := by
  by_cases h : p = i + n
  · subst h; rw [if_pos rfl, row_last hB hb]
  · rw [if_neg h]
    unfold rowF
    by_cases h1 : p < i + n
    · rw [if_pos h1, rowV_full hb]
    · rw [if_neg h1, dig_high (by omega) (rowT_lt (by omega) hb) (by omega), dig_high (by omega) (rowT_lt (by omega) hb) (by omega)]
end Go.Proofs.Ytjfjbkocopaehaa
