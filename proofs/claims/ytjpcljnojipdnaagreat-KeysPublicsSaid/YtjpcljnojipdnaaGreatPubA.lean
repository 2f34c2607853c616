/- Public keys, plain: numbers taken, rows of residues, sums and products of rows. -/
import Derived.Test.YtjpcljnojipdnaaGreatSupA
namespace Go.Proofs.YtjpcljnojipdnaaGreat
set_option linter.unusedVariables false

/-- So many numbers below m, one after the other. -/
def numGo (s : ByteArray) (m a : Nat) : Nat → Option (List Nat × Nat)
  | 0 => some ([], a)
  | i + 1 => match numGo s m a i with
    | none => none
    | some (l, b) => match belAt s m b with
      | none => none
      | some (v, c) => some (l ++ [v], c)
theorem numGo_succ {s : ByteArray} {m a i b v c : Nat} {l : List Nat} (h : numGo s m a i = some (l, b)) (hb : belAt s m b = some (v, c)) : numGo s m a (i + 1) = some (l ++ [v], c) := by
  simp only [numGo]; rw [h]; simp only; rw [hb]
theorem numGo_stop {s : ByteArray} {m a i b : Nat} {l : List Nat} (h : numGo s m a i = some (l, b)) (hb : belAt s m b = none) : numGo s m a (i + 1) = none := by
  simp only [numGo]; rw [h]; simp only; rw [hb]
theorem numGo_ok {s : ByteArray} {m a : Nat} (ha : a ≤ 8 * s.size) : ∀ i l b, numGo s m a i = some (l, b) → l.length = i ∧ (∀ v, v ∈ l → v < m) ∧ b ≤ 8 * s.size := by
  intro i
  induction i with
  | zero => intro l b h; cases h; exact ⟨rfl, by simp, ha⟩
  | succ i ih =>
    intro l b h
    simp only [numGo] at h
    cases hg : numGo s m a i with
    | none => rw [hg] at h; cases h
    | some p =>
      obtain ⟨l1, b1⟩ := p
      rw [hg] at h
      simp only at h
      have h1 := ih l1 b1 hg
      cases hb : belAt s m b1 with
      | none => rw [hb] at h; cases h
      | some p2 =>
        obtain ⟨v, c⟩ := p2
        rw [hb] at h
        simp only [Option.some.injEq, Prod.mk.injEq] at h
        obtain ⟨rfl, rfl⟩ := h
        have h2 := belAt_bd hb
        refine ⟨by simp [h1.1], fun z hz => ?_, h2.2.2⟩
        rcases List.mem_append.1 hz with h3 | h3
        · exact h1.2.1 z h3
        · rw [List.mem_singleton.1 h3]; exact h2.1
theorem numGo_none {s : ByteArray} {m a : Nat} : ∀ i j, i ≤ j → numGo s m a i = none → numGo s m a j = none := by
  intro i j h hn
  induction j with
  | zero => obtain rfl : i = 0 := by omega
            exact hn
  | succ j ih =>
    by_cases e : i = j + 1
    · subst e; exact hn
    · simp only [numGo]; rw [ih (by omega)]
/-- The answer: an error, the numbers, where it ends. -/
def numOut (s : ByteArray) (m n a : Nat) : Int × List Nat × Nat := match numGo s m a n with
  | some (l, b) => (0, l, b)
  | none => (4, [], a)
theorem numOut_some {s : ByteArray} {m n a b : Nat} {l : List Nat} (h : numGo s m a n = some (l, b)) : numOut s m n a = (0, l, b) := by unfold numOut; rw [h]
theorem numOut_none {s : ByteArray} {m n a : Nat} (h : numGo s m a n = none) : numOut s m n a = (4, [], a) := by unfold numOut; rw [h]

/-- A row for each prime. -/
def rowsGo (s : ByteArray) (n : Nat) (ch : List Nat) (a : Nat) : Nat → Bool × List (List Nat) × Nat
  | 0 => (true, [], a)
  | i + 1 => match rowsGo s n ch a i with
    | (false, r) => (false, r)
    | (true, rows, b) => match numGo s (ch.getD i 0) b n with
      | some (l, c) => (true, rows ++ [l], c)
      | none => (false, rows, b)
theorem rowsGo_succ {s : ByteArray} {n a i b c : Nat} {ch l : List Nat} {rows : List (List Nat)} (h : rowsGo s n ch a i = (true, rows, b)) (hb : numGo s (ch.getD i 0) b n = some (l, c)) : rowsGo s n ch a (i + 1) = (true, rows ++ [l], c) := by
  simp only [rowsGo]; rw [h]; simp only; rw [hb]
theorem rowsGo_stop {s : ByteArray} {n a i b : Nat} {ch : List Nat} {rows : List (List Nat)} (h : rowsGo s n ch a i = (true, rows, b)) (hb : numGo s (ch.getD i 0) b n = none) : rowsGo s n ch a (i + 1) = (false, rows, b) := by
  simp only [rowsGo]; rw [h]; simp only; rw [hb]
theorem rowsGo_ok {s : ByteArray} {n a : Nat} {ch : List Nat} (ha : a ≤ 8 * s.size) : ∀ i rows b, rowsGo s n ch a i = (true, rows, b) → rows.length = i ∧ (∀ k, k < i → (rows.getD k []).length = n ∧ ∀ v, v ∈ rows.getD k [] → v < ch.getD k 0) ∧ b ≤ 8 * s.size := by
  intro i
  induction i with
  | zero => intro rows b h; cases h; exact ⟨rfl, fun k hk => absurd hk (by omega), ha⟩
  | succ i ih =>
    intro rows b h
    simp only [rowsGo] at h
    rcases hg : rowsGo s n ch a i with ⟨ok, r, b1⟩
    rw [hg] at h
    cases ok with
    | false => cases h
    | true =>
      simp only at h
      have h1 := ih r b1 hg
      cases hb : numGo s (ch.getD i 0) b1 n with
      | none => rw [hb] at h; cases h
      | some p =>
        obtain ⟨l, c⟩ := p
        rw [hb] at h
        simp only [Prod.mk.injEq, true_and] at h
        obtain ⟨rfl, rfl⟩ := h
        have h2 := numGo_ok h1.2.2 _ _ _ hb
        refine ⟨by simp [h1.1], fun k hk => ?_, h2.2.2⟩
        by_cases e : k = i
        · subst e
          rw [show (r ++ [l]).getD k [] = l by rw [List.getD_eq_getElem?_getD, List.getElem?_append_right (by omega), h1.1, Nat.sub_self]; rfl]
          exact ⟨h2.1, h2.2.1⟩
        · rw [show (r ++ [l]).getD k [] = r.getD k [] by rw [List.getD_eq_getElem?_getD, List.getElem?_append_left (by omega), List.getD_eq_getElem?_getD]]
          exact h1.2.1 k (by omega)
theorem rowsGo_false {s : ByteArray} {n a : Nat} {ch : List Nat} : ∀ i j r, i ≤ j → rowsGo s n ch a i = (false, r) → rowsGo s n ch a j = (false, r) := by
  intro i j r h hn
  induction j with
  | zero => obtain rfl : i = 0 := by omega
            exact hn
  | succ j ih =>
    by_cases e : i = j + 1
    · subst e; exact hn
    · simp only [rowsGo]; rw [ih (by omega)]

/-- A row by its places; rows by their numbers. -/
def rowOf (n : Nat) (f : Nat → Nat) : List Nat := (List.range n).map f
def elRows (R n : Nat) (F : Nat → Nat → Nat) : List (List Nat) := (List.range R).map (fun i => rowOf n (F i))
theorem rowOf_len (n : Nat) (f : Nat → Nat) : (rowOf n f).length = n := by simp [rowOf]
theorem rowOf_at {n k : Nat} (f : Nat → Nat) (h : k < n) : (rowOf n f)[k]'(by rw [rowOf_len]; exact h) = f k := by simp [rowOf]
theorem rowOf_getD {n k : Nat} (f : Nat → Nat) (h : k < n) : (rowOf n f).getD k 0 = f k := by
  rw [List.getD_eq_getElem?_getD, List.getElem?_eq_getElem (by rw [rowOf_len]; exact h), rowOf_at f h]; rfl
theorem rowOf_congr {n : Nat} {f g : Nat → Nat} (h : ∀ k, k < n → f k = g k) : rowOf n f = rowOf n g := List.map_congr_left fun k hk => h k (List.mem_range.1 hk)
theorem elRows_len (R n : Nat) (F : Nat → Nat → Nat) : (elRows R n F).length = R := by simp [elRows]
theorem elRows_at {R n i : Nat} (F : Nat → Nat → Nat) (h : i < R) : (elRows R n F)[i]'(by rw [elRows_len]; exact h) = rowOf n (F i) := by simp [elRows]
theorem elRows_getD {R n i : Nat} (F : Nat → Nat → Nat) (h : i < R) : (elRows R n F).getD i [] = rowOf n (F i) := by
  rw [List.getD_eq_getElem?_getD, List.getElem?_eq_getElem (by rw [elRows_len]; exact h), elRows_at F h]; rfl
theorem elRows_congr {R n : Nat} {F G : Nat → Nat → Nat} (h : ∀ i, i < R → ∀ k, k < n → F i k = G i k) : elRows R n F = elRows R n G := List.map_congr_left fun i hi => rowOf_congr (h i (List.mem_range.1 hi))
theorem elRows_succ (R n : Nat) (F : Nat → Nat → Nat) : elRows (R + 1) n F = elRows R n F ++ [rowOf n (F R)] := by simp [elRows, List.range_succ]
theorem rowOf_succ (n : Nat) (f : Nat → Nat) : rowOf (n + 1) f = rowOf n f ++ [f n] := by simp [rowOf, List.range_succ]
theorem rowOf_set {n k v : Nat} (f : Nat → Nat) (h : k < n) : (rowOf n f).set k v = rowOf n (fun j => if j = k then v else f j) := by
  refine List.ext_getElem (by simp [rowOf]) fun i h1 h2 => ?_
  have hi : i < n := by simpa [rowOf] using h2
  have e1 : (rowOf n fun j => if j = k then v else f j)[i] = if i = k then v else f i := rowOf_at (fun j => if j = k then v else f j) hi
  have e2 : (rowOf n f)[i]'(by rw [rowOf_len]; exact hi) = f i := rowOf_at f hi
  rw [e1, List.getElem_set]
  by_cases e : k = i
  · rw [if_pos e, if_pos e.symm]
  · rw [if_neg e, if_neg (fun h => e h.symm), e2]

/-- An integer's residue. -/
def resZ (z : Int) (q : Nat) : Nat := (z % (q : Int)).toNat
theorem resZ_cast {z : Int} {q : Nat} (h : 0 < q) : ((resZ z q : Nat) : Int) = z % (q : Int) := Int.toNat_of_nonneg (Int.emod_nonneg _ (by omega))
theorem resZ_lt {z : Int} {q : Nat} (h : 0 < q) : resZ z q < q := by
  have := Int.emod_lt_of_pos z (show (0 : Int) < (q : Int) by omega)
  have := resZ_cast (z := z) h
  omega
theorem resZ_nat {a q : Nat} : resZ (a : Int) q = a % q := by unfold resZ; rw [← Int.natCast_emod]; rfl
theorem sub_emod_r (A B q : Int) : (A + -(B % q)) % q = (A + -B) % q :=
  calc (A - B % q) % q = (A % q - B % q % q) % q := Int.sub_emod ..
    _ = (A % q - B % q) % q := by rw [Int.emod_emod]
    _ = (A - B) % q := (Int.sub_emod ..).symm
theorem add_emod_l (A B q : Int) : (A % q + B) % q = (A + B) % q :=
  calc (A % q + B) % q = (A % q % q + B % q) % q := Int.add_emod ..
    _ = (A % q + B % q) % q := by rw [Int.emod_emod]
    _ = (A + B) % q := (Int.add_emod ..).symm
theorem resZ_eq {y z : Int} {q : Nat} (h : y % (q : Int) = z % (q : Int)) : resZ y q = resZ z q := by unfold resZ; rw [h]
/-- Go's remainder, brought to 0 and above. -/
theorem resZ_tmod {z : Int} {q : Nat} (h : 0 < q) : (resZ z q : Int) = if z.tmod q < 0 then z.tmod q + q else z.tmod q := by
  rw [resZ_cast h]
  have h1 := Int.tmod_add_mul_tdiv z (q : Int)
  have h2 := Int.tmod_lt_of_pos z (show (0 : Int) < (q : Int) by omega)
  have h3 : -(q : Int) < z.tmod q := by
    have := Int.lt_tmod_of_pos z (show (0 : Int) < (q : Int) by omega)
    omega
  have h4 : z % (q : Int) = (z.tmod q) % (q : Int) := by
    conv => lhs; rw [← h1]
    rw [Int.add_mul_emod_self_left]
  rw [h4]
  split
  · rw [← Int.add_emod_right, Int.emod_eq_of_lt (by omega) (by omega)]
  · exact Int.emod_eq_of_lt (by omega) h2

def intF (l : List Int) (q k : Nat) : Nat := resZ (l.getD k 0) q
/-- One term of a product modulo x^n + 1. -/
def mulT (n : Nat) (a b : List Nat) (k j : Nat) : Int := if j ≤ k then (a.getD j 0 : Int) * (b.getD (k - j) 0 : Nat) else -((a.getD j 0 : Int) * (b.getD (k + n - j) 0 : Nat))
def mulS (n : Nat) (a b : List Nat) (k : Nat) : Nat → Int
  | 0 => 0
  | j + 1 => mulS n a b k j + mulT n a b k j
def mulF (q n : Nat) (a b : List Nat) (k : Nat) : Nat := resZ (mulS n a b k n) q
def sumF (c : Int) (q : Nat) (a b : List Nat) (k : Nat) : Nat := resZ ((a.getD k 0 : Int) + c * (b.getD k 0 : Nat)) q

/-- The two sums of the program. -/
def plusM (q : Nat) (a b : List Nat) (k : Nat) : Nat → Nat
  | 0 => 0
  | j + 1 => if j ≤ k then (plusM q a b k j + a.getD j 0 * b.getD (k - j) 0) % q else plusM q a b k j
def minusM (q n : Nat) (a b : List Nat) (k : Nat) : Nat → Nat
  | 0 => 0
  | j + 1 => if j ≤ k then minusM q n a b k j else (minusM q n a b k j + a.getD j 0 * b.getD (k + n - j) 0) % q
theorem plusM_lt {q : Nat} (a b : List Nat) (k : Nat) (h : 0 < q) : ∀ j, plusM q a b k j < q := by
  intro j
  induction j with
  | zero => exact h
  | succ j ih =>
    simp only [plusM]
    split
    · exact Nat.mod_lt _ h
    · exact ih
theorem minusM_lt {q : Nat} (n : Nat) (a b : List Nat) (k : Nat) (h : 0 < q) : ∀ j, minusM q n a b k j < q := by
  intro j
  induction j with
  | zero => exact h
  | succ j ih =>
    simp only [minusM]
    split
    · exact ih
    · exact Nat.mod_lt _ h
theorem pm_mulS {q : Nat} (n : Nat) (a b : List Nat) (k : Nat) : ∀ j, ((plusM q a b k j : Int) - (minusM q n a b k j : Nat)) % (q : Int) = mulS n a b k j % (q : Int) := by
  intro j
  induction j with
  | zero => rfl
  | succ j ih =>
    simp only [plusM, minusM, mulS, mulT]
    split
    · rw [Int.natCast_emod, Int.natCast_add, Int.natCast_mul, Int.sub_emod, Int.emod_emod, ← Int.sub_emod,
        show (plusM q a b k j : Int) + (a.getD j 0 : Int) * (b.getD (k - j) 0 : Nat) - (minusM q n a b k j : Nat) = ((plusM q a b k j : Int) - (minusM q n a b k j : Nat)) + (a.getD j 0 : Int) * (b.getD (k - j) 0 : Nat) by omega,
        Int.add_emod, ih, ← Int.add_emod]
    · rw [Int.natCast_emod, Int.natCast_add, Int.natCast_mul, Int.sub_emod, Int.emod_emod, ← Int.sub_emod,
        show (plusM q a b k j : Int) - ((minusM q n a b k j : Nat) + (a.getD j 0 : Int) * (b.getD (k + n - j) 0 : Nat)) = ((plusM q a b k j : Int) - (minusM q n a b k j : Nat)) + -((a.getD j 0 : Int) * (b.getD (k + n - j) 0 : Nat)) by omega,
        Int.add_emod, ih, ← Int.add_emod]
theorem pm_mulF {q n : Nat} (a b : List Nat) (k : Nat) (h : 0 < q) : (plusM q a b k n + q - minusM q n a b k n) % q = mulF q n a b k := by
  have h1 := minusM_lt n a b k h n
  rw [← resZ_nat, show ((plusM q a b k n + q - minusM q n a b k n : Nat) : Int) = ((plusM q a b k n : Int) - (minusM q n a b k n : Nat)) + q by omega]
  refine resZ_eq ?_
  rw [Int.add_emod_right]
  exact pm_mulS n a b k n

/-- The reference's product, after i rounds and j steps. -/
def reachB (n i j k : Nat) : Bool := if i ≤ k then decide (k - i < j) else decide (k + n - i < j)
def prodAt (q n : Nat) (a b : List Nat) (i j k : Nat) : Nat := resZ (mulS n a b k i + if reachB n i j k then mulT n a b k i else 0) q
theorem prodAt_zero (q n : Nat) (a b : List Nat) (i k : Nat) (hi : i < n) (hk : k < n) : prodAt q n a b i 0 k = resZ (mulS n a b k i) q := by
  unfold prodAt reachB
  rw [show (if i ≤ k then decide (k - i < 0) else decide (k + n - i < 0)) = false by split <;> simp]
  simp
theorem prodAt_full (q n : Nat) (a b : List Nat) (i k : Nat) (hi : i < n) (hk : k < n) : prodAt q n a b i n k = resZ (mulS n a b k (i + 1)) q := by
  unfold prodAt reachB
  rw [show (if i ≤ k then decide (k - i < n) else decide (k + n - i < n)) = true by split <;> (apply decide_eq_true; omega)]
  simp [mulS]
theorem prodAt_other (q n : Nat) (a b : List Nat) (i j k : Nat) (hi : i < n) (hj : j < n) (hk : k < n) (h : k ≠ if i + j < n then i + j else i + j - n) : prodAt q n a b i (j + 1) k = prodAt q n a b i j k := by
  unfold prodAt
  rw [show reachB n i (j + 1) k = reachB n i j k by
    unfold reachB
    split
    · apply decide_eq_decide.2; split at h <;> omega
    · apply decide_eq_decide.2; split at h <;> omega]
theorem prodAt_same (q n : Nat) (a b : List Nat) (i j : Nat) (hq : 0 < q) (hi : i < n) (hj : j < n) (h : i + j < n) : prodAt q n a b i (j + 1) (i + j) = (prodAt q n a b i j (i + j) + a.getD i 0 * b.getD j 0 % q) % q := by
  unfold prodAt
  rw [show reachB n i (j + 1) (i + j) = true by unfold reachB; rw [if_pos (by omega)]; apply decide_eq_true; omega, show reachB n i j (i + j) = false by unfold reachB; rw [if_pos (by omega)]; apply decide_eq_false; omega]
  simp only [if_true, Bool.false_eq_true, if_false, Int.add_zero]
  rw [← resZ_nat]
  refine resZ_eq ?_
  rw [Int.natCast_add, resZ_cast hq, Int.natCast_emod, ← Int.add_emod]
  unfold mulT
  rw [if_pos (by omega), show i + j - i = j by omega, Int.natCast_mul]
theorem prodAt_wrap (q n : Nat) (a b : List Nat) (i j : Nat) (hq : 0 < q) (hi : i < n) (hj : j < n) (h : ¬ i + j < n) : prodAt q n a b i (j + 1) (i + j - n) = (prodAt q n a b i j (i + j - n) + (q - a.getD i 0 * b.getD j 0 % q) % q) % q := by
  unfold prodAt
  rw [show reachB n i (j + 1) (i + j - n) = true by unfold reachB; rw [if_neg (by omega)]; apply decide_eq_true; omega, show reachB n i j (i + j - n) = false by unfold reachB; rw [if_neg (by omega)]; apply decide_eq_false; omega]
  simp only [if_true, Bool.false_eq_true, if_false, Int.add_zero]
  rw [← resZ_nat]
  refine resZ_eq ?_
  have h1 : a.getD i 0 * b.getD j 0 % q < q := Nat.mod_lt _ hq
  rw [Int.natCast_add, resZ_cast hq, Int.natCast_emod, show ((q - a.getD i 0 * b.getD j 0 % q : Nat) : Int) = -((a.getD i 0 * b.getD j 0 % q : Nat) : Int) + q by omega, Int.add_emod_right, ← Int.add_emod]
  unfold mulT
  rw [if_neg (by omega), show i + j - n + n - i = j by omega, Int.natCast_emod, Int.natCast_mul]
  exact (sub_emod_r _ _ _).symm
def prodRow (q n : Nat) (a b : List Nat) (i j : Nat) : List Nat := rowOf n (prodAt q n a b i j)
theorem prodRow_same {q n : Nat} {a b : List Nat} {i j : Nat} (hq : 0 < q) (hi : i < n) (hj : j < n) (h : i + j < n) : (prodRow q n a b i j).set (i + j) ((prodAt q n a b i j (i + j) + a.getD i 0 * b.getD j 0 % q) % q) = prodRow q n a b i (j + 1) := by
  unfold prodRow
  rw [rowOf_set _ h]
  refine rowOf_congr fun k hk => ?_
  by_cases e : k = i + j
  · subst e; rw [if_pos rfl, prodAt_same q n a b i j hq hi hj h]
  · rw [if_neg e, prodAt_other q n a b i j k hi hj hk (by rw [if_pos h]; exact e)]
theorem prodRow_wrap {q n : Nat} {a b : List Nat} {i j : Nat} (hq : 0 < q) (hi : i < n) (hj : j < n) (h : ¬ i + j < n) : (prodRow q n a b i j).set (i + j - n) ((prodAt q n a b i j (i + j - n) + (q - a.getD i 0 * b.getD j 0 % q) % q) % q) = prodRow q n a b i (j + 1) := by
  unfold prodRow
  rw [rowOf_set _ (by omega)]
  refine rowOf_congr fun k hk => ?_
  by_cases e : k = i + j - n
  · subst e; rw [if_pos rfl, prodAt_wrap q n a b i j hq hi hj h]
  · rw [if_neg e, prodAt_other q n a b i j k hi hj hk (by rw [if_neg h]; exact e)]
theorem prodRow_next {q n : Nat} {a b : List Nat} {i : Nat} (h : i + 1 < n) : prodRow q n a b i n = prodRow q n a b (i + 1) 0 := rowOf_congr fun k hk => by
  rw [prodAt_full q n a b i k (by omega) hk, prodAt_zero q n a b (i + 1) k h hk]
theorem prodRow_end {q n : Nat} {a b : List Nat} (h : 0 < n) : prodRow q n a b (n - 1) n = rowOf n (mulF q n a b) := rowOf_congr fun k hk => by
  rw [prodAt_full q n a b (n - 1) k (by omega) hk, Nat.sub_add_cancel h]; rfl
theorem prodRow_start {q n : Nat} {a b : List Nat} (h : 0 < n) : prodRow q n a b 0 0 = List.replicate n 0 := by
  unfold prodRow rowOf
  refine List.ext_getElem (by simp) fun k h1 h2 => ?_
  simp only [List.getElem_map, List.getElem_range, List.getElem_replicate]
  rw [prodAt_zero q n a b 0 k h (by simpa using h1)]
  simp [mulS, resZ]

/-- A sum with the reference's factor. -/
theorem sumF_go {c : Int} {q : Nat} (a b : List Nat) (k : Nat) (h : 0 < q) : (a.getD k 0 + b.getD k 0 * resZ c q) % q = sumF c q a b k := by
  rw [← resZ_nat]
  refine resZ_eq ?_
  rw [Int.natCast_add, Int.natCast_mul, resZ_cast h, Int.add_emod, Int.mul_emod, Int.emod_emod, ← Int.mul_emod, ← Int.add_emod, Int.mul_comm]
theorem subF_go {q : Nat} (a b : List Nat) (k : Nat) (h : b.getD k 0 < q) : (a.getD k 0 + q - b.getD k 0) % q = sumF (-1) q a b k := by
  rw [← resZ_nat]
  refine resZ_eq ?_
  rw [show ((a.getD k 0 + q - b.getD k 0 : Nat) : Int) = ((a.getD k 0 : Int) + -1 * (b.getD k 0 : Nat)) + q by omega, Int.add_emod_right]
/-- A multiple of residues is the residue of the multiple. -/
theorem sumF_scale {c : Int} {q n k : Nat} (l : List Int) (h : 0 < q) (hk : k < n) : sumF c q (rowOf n (intF (List.replicate n 0) q)) (rowOf n (intF l q)) k = resZ (l.getD k 0 * c) q := by
  unfold sumF
  refine resZ_eq ?_
  rw [rowOf_getD _ hk, rowOf_getD _ hk]
  unfold intF
  have e0 : (List.replicate n (0 : Int)).getD k 0 = 0 := by rw [List.getD_eq_getElem?_getD, List.getElem?_replicate, if_pos hk]; rfl
  rw [e0, resZ_cast h, resZ_cast h, Int.zero_emod, Int.zero_add, Int.mul_emod, Int.emod_emod, ← Int.mul_emod, Int.mul_comm]
end Go.Proofs.YtjpcljnojipdnaaGreat
