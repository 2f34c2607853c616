/- Plain numbers: primes, Fermat's little theorem, exponents, and what the strong test says modulo a divisor. -/
import Derived.Test.YtjfjbkocopaehaaMathC
namespace Go.Proofs.Ytjfjbkocopaehaa

def Pr (p : Nat) : Prop := 2 ≤ p ∧ ∀ m, m ∣ p → m = 1 ∨ m = p

theorem exists_pr : ∀ n, 2 ≤ n → ∃ p, Pr p ∧ p ∣ n := by
  intro n
  induction n using Nat.strongRecOn with
  | ind n ih =>
    intro h
    by_cases hp : Pr n
    · exact ⟨n, hp, Nat.dvd_refl n⟩
    · have : ∃ m, m ∣ n ∧ m ≠ 1 ∧ m ≠ n := by
        apply Classical.byContradiction
        intro hc
        apply hp
        refine ⟨h, fun m hm => ?_⟩
        apply Classical.byContradiction
        intro hc2
        exact hc ⟨m, hm, fun e => hc2 (.inl e), fun e => hc2 (.inr e)⟩
      obtain ⟨m, hm, h1, h2⟩ := this
      have hle := Nat.le_of_dvd (by omega) hm
      have h0 : m ≠ 0 := by intro e; subst e; have := Nat.eq_zero_of_zero_dvd hm; omega
      obtain ⟨p, hpp, hpm⟩ := ih m (by omega) (by omega)
      exact ⟨p, hpp, Nat.dvd_trans hpm hm⟩

theorem Pr.coprime {p a : Nat} (hp : Pr p) (h : ¬ p ∣ a) : Nat.gcd p a = 1 := by
  rcases hp.2 _ (Nat.gcd_dvd_left p a) with h1 | h1
  · exact h1
  · exact absurd (h1 ▸ Nat.gcd_dvd_right p a) h

theorem Pr.euclid {p a b : Nat} (hp : Pr p) (h : p ∣ a * b) (ha : ¬ p ∣ a) : p ∣ b := by
  have : Nat.Coprime p a := hp.coprime ha
  exact this.dvd_of_dvd_mul_left h

def C : Nat → Nat → Nat
  | _, 0 => 1
  | 0, _ + 1 => 0
  | n + 1, k + 1 => C n k + C n (k + 1)

theorem C_zero (n : Nat) : C n 0 = 1 := by cases n <;> rfl
theorem C_gt : ∀ n k, n < k → C n k = 0 := by
  intro n
  induction n with
  | zero => intro k h; cases k with
    | zero => omega
    | succ k => rfl
  | succ n ih => intro k h; cases k with
    | zero => omega
    | succ k => rw [C, ih k (by omega), ih (k + 1) (by omega)]
theorem C_self : ∀ n, C n n = 1 := by
  intro n
  induction n with
  | zero => rfl
  | succ n ih => rw [C, ih, C_gt n (n + 1) (by omega)]
theorem C_absorb : ∀ n k, (k + 1) * C (n + 1) (k + 1) = (n + 1) * C n k := by
  intro n
  induction n with
  | zero => intro k; cases k with
    | zero => rfl
    | succ k => rw [C_gt 0 (k + 1) (by omega), C_gt (0 + 1) (k + 1 + 1) (by omega)]; simp
  | succ n ih => intro k; cases k with
    | zero =>
      have := ih 0
      have e : C (n + 1 + 1) (0 + 1) = C (n + 1) 0 + C (n + 1) (0 + 1) := rfl
      rw [e, C_zero]
      rw [C_zero] at this
      omega
    | succ j =>
      have h1 := ih j
      have h2 := ih (j + 1)
      rw [C, Nat.mul_add, h2]
      have h3 : C (n + 1) (j + 1) = C n j + C n (j + 1) := rfl
      have e1 : (j + 1 + 1) * C (n + 1) (j + 1) = (n + 1) * C n j + C (n + 1) (j + 1) := by rw [Nat.succ_mul, h1]
      rw [e1, h3, show (n + 1 + 1) * (C n j + C n (j + 1)) = (n + 1) * (C n j + C n (j + 1)) + (C n j + C n (j + 1)) from Nat.succ_mul _ _, Nat.mul_add]
      omega

def S (n x : Nat) : Nat → Nat
  | 0 => 0
  | m + 1 => S n x m + C n m * x ^ m
theorem S_rec (n x : Nat) : ∀ m, S (n + 1) x (m + 1) = S n x (m + 1) + x * S n x m := by
  intro m
  induction m with
  | zero => simp [S, C_zero]
  | succ m ih =>
    have e1 : S (n + 1) x (m + 1 + 1) = S (n + 1) x (m + 1) + C (n + 1) (m + 1) * x ^ (m + 1) := rfl
    have e2 : S n x (m + 1 + 1) = S n x (m + 1) + C n (m + 1) * x ^ (m + 1) := rfl
    have e3 : S n x (m + 1) = S n x m + C n m * x ^ m := rfl
    have e4 : C (n + 1) (m + 1) = C n m + C n (m + 1) := rfl
    have e5 : x * (C n m * x ^ m) = C n m * x ^ (m + 1) := by rw [Nat.pow_succ, Nat.mul_left_comm, Nat.mul_comm x (x ^ m)]
    rw [e1, ih, e2, e4, Nat.add_mul]
    conv => rhs; rw [e3, Nat.mul_add, e5]
    rw [e3]; omega
theorem binom (x : Nat) : ∀ n, (x + 1) ^ n = S n x (n + 1) := by
  intro n
  induction n with
  | zero => simp [S, C_zero]
  | succ n ih =>
    have e : S n x (n + 1 + 1) = S n x (n + 1) := by
      show S n x (n + 1) + C n (n + 1) * x ^ (n + 1) = _
      rw [C_gt n (n + 1) (by omega)]; omega
    rw [S_rec, e, Nat.pow_succ, ih, Nat.mul_add, Nat.mul_one, Nat.mul_comm x]; omega

theorem Pr.dvd_C {p : Nat} (hp : Pr p) {k : Nat} (h0 : 0 < k) (h1 : k < p) : p ∣ C p k := by
  obtain ⟨n, rfl⟩ : ∃ n, p = n + 1 := ⟨p - 1, by omega⟩
  obtain ⟨j, rfl⟩ : ∃ j, k = j + 1 := ⟨k - 1, by omega⟩
  have h := C_absorb n j
  have hd : n + 1 ∣ (j + 1) * C (n + 1) (j + 1) := by rw [h]; exact Nat.dvd_mul_right _ _
  refine hp.euclid hd ?_
  intro hc
  have := Nat.le_of_dvd (by omega) hc
  omega

theorem Pr.S_mod {p : Nat} (hp : Pr p) (x : Nat) : ∀ m, m + 1 ≤ p → S p x (m + 1) % p = 1 % p := by
  intro m
  induction m with
  | zero => intro _; simp [S, C_zero]
  | succ m ih =>
    intro h
    show (S p x (m + 1) + C p (m + 1) * x ^ (m + 1)) % p = _
    obtain ⟨c, hc⟩ := hp.dvd_C (k := m + 1) (by omega) (by omega)
    rw [hc, Nat.mul_assoc, Nat.add_mul_mod_self_left, ih (by omega)]

theorem Pr.freshman {p : Nat} (hp : Pr p) (x : Nat) : (x + 1) ^ p % p = (x ^ p + 1) % p := by
  rw [binom]
  show (S p x p + C p p * x ^ p) % p = _
  obtain ⟨m, hm⟩ : ∃ m, p = m + 1 := ⟨p - 1, by have := hp.1; omega⟩
  have h := hp.S_mod x m (by omega)
  rw [← hm] at h
  rw [C_self, Nat.one_mul, Nat.add_mod, h, ← Nat.add_mod, Nat.add_comm]

theorem Pr.little {p : Nat} (hp : Pr p) : ∀ a, a ^ p % p = a % p := by
  intro a
  induction a with
  | zero => rw [Nat.zero_pow (by have := hp.1; omega)]
  | succ a ih => rw [hp.freshman, Nat.add_mod, ih, ← Nat.add_mod]

theorem one_of_dvd {m x : Nat} (hm : 2 ≤ m) (hx : 1 ≤ x) (h : m ∣ x - 1) : x % m = 1 := by
  obtain ⟨c, hc⟩ := h
  have : x = 1 + m * c := by omega
  rw [this, Nat.add_mul_mod_self_left]; exact Nat.mod_eq_of_lt (by omega)

theorem dvd_of_one {m x : Nat} (h : x % m = 1) : m ∣ x - 1 := by
  have h2 := Nat.div_add_mod x m
  rw [h] at h2
  exact ⟨x / m, by omega⟩

theorem Pr.fermat {p : Nat} (hp : Pr p) {a : Nat} (ha : ¬ p ∣ a) : a ^ (p - 1) % p = 1 := by
  have h2 := hp.1
  have ha0 : 0 < a := by
    rcases Nat.eq_zero_or_pos a with h | h
    · subst h; exact absurd (Nat.dvd_zero p) ha
    · exact h
  have h1 : 1 ≤ a ^ (p - 1) := Nat.pow_pos ha0
  apply one_of_dvd h2 h1
  refine hp.euclid (a := a) ?_ ha
  have e : a * (a ^ (p - 1) - 1) = a ^ p - a := by
    rw [Nat.mul_sub, Nat.mul_one]
    congr 1
    rw [Nat.mul_comm, ← Nat.pow_succ]; congr 1; omega
  rw [e]
  exact Nat.dvd_of_mod_eq_zero (Nat.sub_mod_eq_zero_of_mod_eq (hp.little a))

/-! Exponents. -/
theorem pow_one_mul {a x m : Nat} (hm : 2 ≤ m) (h : a ^ x % m = 1) (c : Nat) : a ^ (x * c) % m = 1 := by
  rw [Nat.pow_mul, Nat.pow_mod, h, Nat.one_pow]; exact Nat.mod_eq_of_lt (by omega)

theorem pow_one_dvd {a x y m : Nat} (hm : 2 ≤ m) (h : a ^ x % m = 1) (hd : x ∣ y) : a ^ y % m = 1 := by
  obtain ⟨c, rfl⟩ := hd; exact pow_one_mul hm h c

theorem pow_one_add {a x y m : Nat} (h : a ^ x % m = 1) (h2 : a ^ (x + y) % m = 1) : a ^ y % m = 1 := by
  rw [Nat.pow_add, Nat.mul_mod, h, Nat.one_mul, Nat.mod_mod] at h2; exact h2

theorem pow_gcd {a m : Nat} (hm : 2 ≤ m) (x y : Nat) : a ^ x % m = 1 → a ^ y % m = 1 → a ^ Nat.gcd x y % m = 1 := by
  induction x, y using Nat.gcd.induction with
  | H0 n => intro _ h; rw [Nat.gcd_zero_left]; exact h
  | H1 x y hx ih =>
    intro h1 h2
    rw [Nat.gcd_rec]
    refine ih ?_ h1
    have e : y = x * (y / x) + y % x := (Nat.div_add_mod y x).symm
    rw [e] at h2
    exact pow_one_add (pow_one_mul hm h1 _) h2

/-! The odd part. -/
theorem v2f_spec : ∀ f m, 0 < m → m < 2 ^ f → ∃ d, d % 2 = 1 ∧ d * 2 ^ v2f f m = m ∧ v2f f m < f := by
  intro f
  induction f with
  | zero => intro m h0 h1; simp at h1; omega
  | succ f ih =>
    intro m h0 h1
    by_cases hev : m % 2 = 0
    · obtain ⟨d, hd, he, hlt⟩ := ih (m / 2) (by omega) (by rw [Nat.pow_succ] at h1; omega)
      have hv : v2f (f + 1) m = v2f f (m / 2) + 1 := by rw [v2f, if_pos hev]
      refine ⟨d, hd, ?_, by omega⟩
      rw [hv, Nat.pow_succ, ← Nat.mul_assoc, he]; omega
    · have hv : v2f (f + 1) m = 0 := by rw [v2f, if_neg hev]
      exact ⟨m, by omega, by rw [hv]; simp, by omega⟩

theorem odd_spec {m : Nat} (h0 : 0 < m) (h1 : m < 4294967296) : oddp m % 2 = 1 ∧ oddp m * 2 ^ twos m = m := by
  obtain ⟨d, hd, he, hlt⟩ := v2f_spec 32 m h0 (by have : (2 : Nat) ^ 32 = 4294967296 := by decide
                                                  omega)
  obtain ⟨h1, h2⟩ := split_eq (show v2f 32 m < 32 from hlt) hd he
  rw [h2]
  exact ⟨hd, by rw [h1]; exact he⟩

/-! The strong test. -/
theorem anyEq_true {a e n : Nat} : ∀ k, anyEq n (a ^ e % n) k = true → ∃ i, i < k ∧ a ^ (e * 2 ^ i) % n = n - 1 := by
  intro k
  induction k generalizing e with
  | zero => intro h; simp [anyEq] at h
  | succ k ih =>
    intro h
    simp only [anyEq, Bool.or_eq_true, beq_iff_eq] at h
    rcases h with h | h
    · exact ⟨0, by omega, by simpa using h⟩
    · have e2 : (a ^ e % n) * (a ^ e % n) % n = a ^ (e * 2) % n := by
        rw [← Nat.mul_mod, ← Nat.pow_add, show e + e = e * 2 by omega]
      rw [e2] at h
      obtain ⟨i, hi, hh⟩ := ih h
      exact ⟨i + 1, by omega, by rw [Nat.pow_succ, Nat.mul_comm (2 ^ i) 2, ← Nat.mul_assoc]; exact hh⟩

theorem SP_true {a n : Nat} (h : SP a n = true) : a ^ oddp (n - 1) % n = 1 ∨ ∃ i, i < twos (n - 1) ∧ a ^ (oddp (n - 1) * 2 ^ i) % n = n - 1 := by
  unfold SP pmod at h
  rw [← Nat.pow_mod] at h
  simp only [Bool.or_eq_true, beq_iff_eq] at h
  rcases h with h | h
  · exact .inl h
  · exact .inr (anyEq_true _ h)

/-- Modulo a divisor. -/
theorem down_one {x n q : Nat} (hq : 2 ≤ q) (hd : q ∣ n) (h : x % n = 1) : x % q = 1 := by
  have h1 : x % n % q = x % q := Nat.mod_mod_of_dvd x hd
  rw [h] at h1
  rw [← h1]; exact Nat.mod_eq_of_lt (by omega)

theorem down_neg {x n q : Nat} (hq : 2 ≤ q) (hd : q ∣ n) (hn : 0 < n) (h : x % n = n - 1) : x % q = q - 1 := by
  have h1 : x % n % q = x % q := Nat.mod_mod_of_dvd x hd
  rw [h] at h1
  rw [← h1]
  obtain ⟨k, rfl⟩ := hd
  have hk : 0 < k := Nat.pos_of_mul_pos_left hn
  have e : q * k - 1 = q - 1 + q * (k - 1) := by
    obtain ⟨j, rfl⟩ : ∃ j, k = j + 1 := ⟨k - 1, by omega⟩
    rw [Nat.mul_add, Nat.mul_one, Nat.add_sub_cancel]; omega
  rw [e, Nat.add_mul_mod_self_left]; exact Nat.mod_eq_of_lt (by omega)

/-- The sign that a number has: 1 or -1. -/
def sg (neg : Bool) (q : Nat) : Nat := cond neg (q - 1) 1

theorem down_sg {x n q : Nat} {neg : Bool} (hq : 2 ≤ q) (hd : q ∣ n) (hn : 0 < n) (h : x % n = sg neg n) : x % q = sg neg q := by
  cases neg with
  | true => exact down_neg hq hd hn h
  | false => exact down_one hq hd h

theorem neg_sq {x q : Nat} (hq : 2 ≤ q) (h : x % q = q - 1) : x * x % q = 1 := by
  rw [Nat.mul_mod, h]
  obtain ⟨j, rfl⟩ : ∃ j, q = j + 2 := ⟨q - 2, by omega⟩
  have e : (j + 2 - 1) * (j + 2 - 1) = 1 + (j + 2) * j := by
    show (j + 1) * (j + 1) = _
    rw [Nat.add_mul, Nat.mul_add]; simp [Nat.mul_add, Nat.add_mul]; omega
  rw [e, Nat.add_mul_mod_self_left]; exact Nat.mod_eq_of_lt (by omega)

theorem neg_odd {x q o : Nat} (hq : 2 ≤ q) (h : x % q = q - 1) (ho : o % 2 = 1) : x ^ o % q = q - 1 := by
  have e : o = 2 * (o / 2) + 1 := by omega
  rw [e, Nat.pow_succ, Nat.pow_mul, Nat.pow_two, Nat.mul_mod, Nat.pow_mod, neg_sq hq h, Nat.one_pow, h, Nat.mod_eq_of_lt (show 1 < q by omega), Nat.one_mul]
  exact Nat.mod_eq_of_lt (by omega)

/-- THE TRANSFER: b^d = 1 or -1 modulo a prime q, d odd; b^y = 1 with y = o 2^s: then b^o is the same sign. -/
theorem transfer {b d y o s q : Nat} {neg : Bool} (hp : Pr q) (hq : 3 ≤ q) (hd : d % 2 = 1) (ho : o % 2 = 1) (hy : o * 2 ^ s = y) (h1 : b ^ d % q = sg neg q) (h2 : b ^ y % q = 1) : b ^ o % q = sg neg q := by
  have hq2 : 2 ≤ q := hp.1
  have hdvd : Nat.gcd y d ∣ o := by
    rw [← hy]
    have hg := Nat.gcd_mul_right_dvd_mul_gcd d o (2 ^ s)
    have h3 : Nat.gcd d (2 ^ s) = 1 := by
      have : Nat.Coprime d (2 ^ s) := Nat.Coprime.pow_right s (by
        have : Nat.gcd 2 d = 1 := by
          rw [Nat.gcd_rec, hd]; rfl
        show Nat.gcd d 2 = 1; rw [Nat.gcd_comm]; exact this)
      exact this
    rw [h3, Nat.mul_one] at hg
    rw [Nat.gcd_comm]
    exact Nat.dvd_trans hg (Nat.gcd_dvd_right d o)
  cases neg with
  | false => exact pow_one_dvd hq2 (pow_gcd hq2 y d h2 h1) hdvd
  | true =>
    have h1' : b ^ d % q = q - 1 := h1
    have hdd : b ^ (d * 2) % q = 1 := by
      rw [Nat.pow_mul, Nat.pow_two]; exact neg_sq hq2 h1'
    have hdvd2 : Nat.gcd y (d * 2) ∣ o * 2 := by
      have hg := Nat.gcd_mul_right_dvd_mul_gcd y d 2
      exact Nat.dvd_trans hg (Nat.mul_dvd_mul hdvd (Nat.gcd_dvd_right y 2))
    have h4 : b ^ (o * 2) % q = 1 := pow_one_dvd hq2 (pow_gcd hq2 y (d * 2) h2 hdd) hdvd2
    show b ^ o % q = q - 1
    have hne : b ^ o % q ≠ 1 := by
      intro hc
      have h5 : b ^ (o * d) % q = 1 := pow_one_mul hq2 hc d
      rw [Nat.mul_comm, Nat.pow_mul] at h5
      have h6 := neg_odd hq2 h1' ho
      omega
    have hpos : 1 ≤ b ^ o := by
      rcases Nat.eq_zero_or_pos (b ^ o) with h | h
      · rw [Nat.pow_mul, h] at h4; simp at h4
      · exact h
    have hdv : q ∣ (b ^ o - 1) * (b ^ o + 1) := by
      have h5 := dvd_of_one h4
      have e : b ^ (o * 2) - 1 = (b ^ o - 1) * (b ^ o + 1) := by
        rw [Nat.pow_mul, Nat.pow_two]
        obtain ⟨z, hz⟩ : ∃ z, b ^ o = z + 1 := ⟨b ^ o - 1, by omega⟩
        rw [hz]; simp [Nat.mul_add, Nat.add_mul]
      rwa [← e]
    have hn1 : ¬ q ∣ b ^ o - 1 := fun hc => hne (one_of_dvd hq2 hpos hc)
    obtain ⟨c, hc⟩ := hp.euclid hdv hn1
    have hc0 : 0 < c := by
      rcases Nat.eq_zero_or_pos c with h | h
      · rw [h] at hc; simp at hc
      · exact h
    obtain ⟨j, rfl⟩ : ∃ j, c = j + 1 := ⟨c - 1, by omega⟩
    have e : b ^ o = q - 1 + q * j := by rw [Nat.mul_add, Nat.mul_one] at hc; omega
    rw [e, Nat.add_mul_mod_self_left]; exact Nat.mod_eq_of_lt (by omega)
end Go.Proofs.Ytjfjbkocopaehaa
