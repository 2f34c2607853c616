/- Supplies of bits, plain: bits, numbers of bits, numbers below a bound. -/
namespace Go.Proofs.YtjpcljnojipdnaaGreat

/-- Bit i of a string, the highest one of each byte first. -/
def bitAt (s : ByteArray) (i : Nat) : Nat := (s.data.toList.getD (i / 8) 0).toNat / 2 ^ (7 - i % 8) % 2
theorem bitAt_lt (s : ByteArray) (i : Nat) : bitAt s i < 2 := Nat.mod_lt _ (by decide)
def numAt (s : ByteArray) (a : Nat) : Nat → Nat
  | 0 => 0
  | n + 1 => 2 * numAt s a n + bitAt s (a + n)
theorem numAt_lt (s : ByteArray) (a n : Nat) : numAt s a n < 2 ^ n := by
  induction n with
  | zero => simp [numAt]
  | succ n ih => have := bitAt_lt s (a + n); simp only [numAt, Nat.pow_succ]; omega
/-- So many bits, if they are there: the number, and where it ends. -/
def someAt (s : ByteArray) (k a : Nat) : Option (Nat × Nat) := if a + k ≤ 8 * s.size then some (numAt s a k, a + k) else none
/-- Numbers of k bits until one is below n. -/
def belF (s : ByteArray) (k n : Nat) : Nat → Nat → Option (Nat × Nat)
  | 0, _ => none
  | f + 1, a => match someAt s k a with
    | none => none
    | some (v, b) => if v < n then some (v, b) else belF s k n f b
/-- The number of binary digits. -/
def lenF : Nat → Nat → Nat
  | 0, _ => 0
  | f + 1, x => if x = 0 then 0 else 1 + lenF f (x / 2)
def lenOf (n : Nat) : Nat := lenF 64 n
theorem lenF_le (f x : Nat) : lenF f x ≤ f := by
  induction f generalizing x with
  | zero => simp [lenF]
  | succ f ih => have := ih (x / 2); simp only [lenF]; split <;> omega
def belAt (s : ByteArray) (n a : Nat) : Option (Nat × Nat) := belF s (lenOf (n - 1)) n (8 * s.size + 1) a
theorem belF_more {s : ByteArray} {k n : Nat} (hk : 1 ≤ k ∨ 1 ≤ n ∧ k = 0) : ∀ f a g, 8 * s.size < a + f → 8 * s.size < a + g → 0 < f → 0 < g → belF s k n f a = belF s k n g a := by
  intro f
  induction f with
  | zero => intro a g _ _ h; omega
  | succ f ih =>
    intro a g h1 h2 _ h3
    obtain ⟨g, rfl⟩ : ∃ m, g = m + 1 := ⟨g - 1, by omega⟩
    simp only [belF]
    unfold someAt
    by_cases hT : a + k ≤ 8 * s.size
    · rw [if_pos hT]
      show (if numAt s a k < n then _ else _) = (if numAt s a k < n then _ else _)
      by_cases hv : numAt s a k < n
      · rw [if_pos hv, if_pos hv]
      · rw [if_neg hv, if_neg hv]
        rcases hk with hk | ⟨hn, rfl⟩
        · exact ih _ _ (by omega) (by omega) (by omega) (by omega)
        · exact absurd (by simp [numAt]; omega) hv
    · rw [if_neg hT]
theorem belF_step {s : ByteArray} {k n a : Nat} {f : Nat} (hk : 1 ≤ k ∨ 1 ≤ n ∧ k = 0) (hf : 8 * s.size < a + f) (hf0 : 0 < f) :
    belF s k n f a = match someAt s k a with
    | none => none
    | some (v, b) => if v < n then some (v, b) else belF s k n f b := by
  rw [belF_more hk f a (f + 1) hf (by omega) hf0 (by omega)]
  simp only [belF]
theorem lenOf_zero {n : Nat} (h : 1 ≤ n) : 1 ≤ lenOf (n - 1) ∨ 1 ≤ n ∧ lenOf (n - 1) = 0 := by
  omega
theorem belAt_step {s : ByteArray} {n a : Nat} (hn : 1 ≤ n) :
    belAt s n a = match someAt s (lenOf (n - 1)) a with
    | none => none
    | some (v, b) => if v < n then some (v, b) else belAt s n b := belF_step (lenOf_zero hn) (by omega) (by omega)
theorem belAt_none {s : ByteArray} {n a : Nat} (hn : 1 ≤ n) (h : ¬ a + lenOf (n - 1) ≤ 8 * s.size) : belAt s n a = none := by
  rw [belAt_step hn]; unfold someAt; rw [if_neg h]
theorem belAt_hit {s : ByteArray} {n a : Nat} (hn : 1 ≤ n) (h : a + lenOf (n - 1) ≤ 8 * s.size) (hv : numAt s a (lenOf (n - 1)) < n) : belAt s n a = some (numAt s a (lenOf (n - 1)), a + lenOf (n - 1)) := by
  rw [belAt_step hn]; unfold someAt; rw [if_pos h]; show (if _ < n then _ else _) = _; rw [if_pos hv]
theorem belAt_miss {s : ByteArray} {n a : Nat} (hn : 1 ≤ n) (h : a + lenOf (n - 1) ≤ 8 * s.size) (hv : ¬ numAt s a (lenOf (n - 1)) < n) : belAt s n a = belAt s n (a + lenOf (n - 1)) := by
  rw [belAt_step hn]; unfold someAt; rw [if_pos h]; show (if _ < n then _ else _) = _; rw [if_neg hv]
theorem belF_bd {s : ByteArray} {k n : Nat} : ∀ f a v b, belF s k n f a = some (v, b) → v < n ∧ a ≤ b ∧ b ≤ 8 * s.size := by
  intro f
  induction f with
  | zero => intro a v b h; cases h
  | succ f ih =>
    intro a v b h
    simp only [belF] at h
    unfold someAt at h
    by_cases hT : a + k ≤ 8 * s.size
    · rw [if_pos hT] at h
      simp only at h
      by_cases hv : numAt s a k < n
      · rw [if_pos hv] at h; cases h; omega
      · rw [if_neg hv] at h
        have := ih _ _ _ h
        omega
    · rw [if_neg hT] at h; cases h
theorem belAt_bd {s : ByteArray} {n a v b : Nat} (h : belAt s n a = some (v, b)) : v < n ∧ a ≤ b ∧ b ≤ 8 * s.size := belF_bd _ _ _ _ h

/-- One step of a ternary list: two places change, the sign of one is set. -/
structure Tern where
  pl : List Int
  out : List Int
  at_ : Nat
def ternStep (s : ByteArray) (n i : Nat) (t : Tern) : Option Tern :=
  match belAt s (n - i) t.at_ with
  | none => none
  | some (j, b) => match someAt s 1 b with
    | none => none
    | some (z, c) =>
      let pl := (t.pl.set i (t.pl.getD (i + j) 0)).set (i + j) (t.pl.getD i 0)
      some ⟨pl, t.out.set (pl.getD i 0).toNat (1 - 2 * (z : Int)), c⟩
def ternGo (s : ByteArray) (n : Nat) (t : Tern) : Nat → Option Tern
  | 0 => some t
  | i + 1 => match ternGo s n t i with
    | none => none
    | some u => ternStep s n i u
def tern0 (n a : Nat) : Tern := ⟨(List.range n).map (fun i => ((i : Nat) : Int)), List.replicate n 0, a⟩
/-- All that is kept of the lists. -/
structure TernOk (n : Nat) (t : Tern) : Prop where
  lp : t.pl.length = n
  lo : t.out.length = n
  rp : ∀ z, z ∈ t.pl → 0 ≤ z ∧ z < n
  ro : ∀ z, z ∈ t.out → -1 ≤ z ∧ z ≤ 1
theorem tern0_ok (n a : Nat) : TernOk n (tern0 n a) := by
  refine ⟨by simp [tern0], by simp [tern0], ?_, ?_⟩
  · intro z hz
    obtain ⟨i, hi, rfl⟩ := List.mem_map.1 hz
    have := List.mem_range.1 hi
    omega
  · intro z hz
    have := (List.mem_replicate.1 hz).2
    omega
theorem mem_set {l : List Int} {i : Nat} {v z : Int} (h : z ∈ l.set i v) : z ∈ l ∨ z = v := List.mem_or_eq_of_mem_set h
theorem getD_mem {l : List Int} {i : Nat} (h : i < l.length) : l.getD i 0 ∈ l := by
  rw [List.getD_eq_getElem?_getD, List.getElem?_eq_getElem h]; exact List.getElem_mem h
theorem swap_ok {n i j : Nat} {pl : List Int} (lp : pl.length = n) (rp : ∀ z, z ∈ pl → 0 ≤ z ∧ z < n) (hi : i < n) (hj : i + j < n) :
    ((pl.set i (pl.getD (i + j) 0)).set (i + j) (pl.getD i 0)).length = n ∧ ∀ z, z ∈ (pl.set i (pl.getD (i + j) 0)).set (i + j) (pl.getD i 0) → 0 ≤ z ∧ z < n := by
  refine ⟨by simp [lp], fun z hz => ?_⟩
  rcases mem_set hz with h | rfl
  · rcases mem_set h with h | rfl
    · exact rp z h
    · exact rp _ (getD_mem (by omega))
  · exact rp _ (getD_mem (by omega))
theorem ternStep_ok {s : ByteArray} {n i : Nat} {t u : Tern} (ht : TernOk n t) (hi : i < n) (h : ternStep s n i t = some u) : TernOk n u ∧ t.at_ ≤ u.at_ := by
  unfold ternStep at h
  cases hb : belAt s (n - i) t.at_ with
  | none => rw [hb] at h; cases h
  | some p =>
    obtain ⟨j, b⟩ := p
    rw [hb] at h
    simp only at h
    have hbd := belAt_bd hb
    unfold someAt at h
    by_cases hT : b + 1 ≤ 8 * s.size
    · rw [if_pos hT] at h
      simp only [Option.some.injEq] at h
      subst h
      obtain ⟨h1, h2⟩ := swap_ok (i := i) (j := j) ht.lp ht.rp hi (by omega)
      refine ⟨⟨h1, by simp [ht.lo], h2, fun z hz => ?_⟩, by show t.at_ ≤ b + 1; omega⟩
      rcases mem_set hz with h | rfl
      · exact ht.ro z h
      · have := bitAt_lt s (b + 0)
        simp only [numAt]
        omega
    · rw [if_neg hT] at h; cases h
theorem ternGo_ok {s : ByteArray} {n : Nat} {t : Tern} (ht : TernOk n t) : ∀ i u, i ≤ n → ternGo s n t i = some u → TernOk n u ∧ t.at_ ≤ u.at_ := by
  intro i
  induction i with
  | zero => intro u _ h; cases h; exact ⟨ht, Nat.le_refl _⟩
  | succ i ih =>
    intro u hi h
    simp only [ternGo] at h
    cases hg : ternGo s n t i with
    | none => rw [hg] at h; cases h
    | some v =>
      rw [hg] at h
      have h1 := ih v (by omega) hg
      have h2 := ternStep_ok h1.1 (by omega) h
      exact ⟨h2.1, Nat.le_trans h1.2 h2.2⟩
theorem ternGo_none {s : ByteArray} {n : Nat} {t : Tern} : ∀ i j, i ≤ j → ternGo s n t i = none → ternGo s n t j = none := by
  intro i j h hn
  induction j with
  | zero => obtain rfl : i = 0 := by omega
            exact hn
  | succ j ih =>
    by_cases e : i = j + 1
    · subst e; exact hn
    · simp only [ternGo]; rw [ih (by omega)]
end Go.Proofs.YtjpcljnojipdnaaGreat
