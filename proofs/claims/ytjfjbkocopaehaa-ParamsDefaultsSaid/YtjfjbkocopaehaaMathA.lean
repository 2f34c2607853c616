/- Plain numbers: the strong test to a base, as both texts compute it. -/
namespace Go.Proofs.Ytjfjbkocopaehaa

/-- How often 2 divides a number (a number below 2^fuel, not 0). -/
def v2f : Nat → Nat → Nat
  | 0, _ => 0
  | f + 1, m => if m % 2 = 0 then v2f f (m / 2) + 1 else 0
def twos (m : Nat) : Nat := v2f 32 m
def oddp (m : Nat) : Nat := m / 2 ^ twos m

theorem v2f_eq : ∀ (f t d : Nat), t < f → d % 2 = 1 → v2f f (d * 2 ^ t) = t := by
  intro f
  induction f with
  | zero => intro t d h; omega
  | succ f ih =>
    intro t d h hd
    cases t with
    | zero => simp [v2f, hd]
    | succ t =>
      have h1 : d * 2 ^ (t + 1) = 2 * (d * 2 ^ t) := by rw [Nat.pow_succ]; rw [← Nat.mul_assoc, Nat.mul_comm]
      have h2 : d * 2 ^ (t + 1) % 2 = 0 := by rw [h1]; omega
      have h3 : d * 2 ^ (t + 1) / 2 = d * 2 ^ t := by rw [h1]; omega
      rw [v2f, if_pos h2, h3, ih t d (by omega) hd]

theorem split_eq {m d t : Nat} (ht : t < 32) (hd : d % 2 = 1) (h : d * 2 ^ t = m) : twos m = t ∧ oddp m = d := by
  have h1 : twos m = t := by rw [← h]; exact v2f_eq 32 t d ht hd
  refine ⟨h1, ?_⟩
  unfold oddp
  rw [h1, ← h, Nat.mul_div_cancel _ (Nat.pow_pos (by omega))]

/-- Is one of the first k numbers x, x^2, x^4, .. modulo n the number n - 1? -/
def anyEq (n : Nat) : Nat → Nat → Bool
  | _, 0 => false
  | x, k + 1 => x == n - 1 || anyEq n (x * x % n) k

/-- A power's remainder. -/
def pmod (a e n : Nat) : Nat := a ^ e % n

/-- The strong test. -/
def SP (a n : Nat) : Bool := pmod (a % n) (oddp (n - 1)) n == 1 || anyEq n (pmod (a % n) (oddp (n - 1)) n) (twos (n - 1))

theorem SP_of {a n d t x : Nat} (ht : t < 32) (hd : d % 2 = 1) (h : d * 2 ^ t = n - 1) (hx : x = pmod (a % n) d n) : SP a n = (x == 1 || anyEq n x t) := by
  obtain ⟨h1, h2⟩ := split_eq ht hd h
  unfold SP
  rw [h1, h2, hx]

theorem anyEq_hit {n x k : Nat} (h : x = n - 1) : anyEq n x (k + 1) = true := by simp [anyEq, h]
theorem anyEq_miss {n x k : Nat} (h : x ≠ n - 1) : anyEq n x (k + 1) = anyEq n (x * x % n) k := by simp [anyEq, h]

theorem two_pow_lt {t m d : Nat} (hm : m < 4294967296) (hd : 0 < d) (h : d * 2 ^ t = m) : t < 32 := by
  apply Classical.byContradiction
  intro hc
  have h1 : 2 ^ 32 ≤ 2 ^ t := Nat.pow_le_pow_right (by omega) (by omega)
  have h2 : 1 * 2 ^ t ≤ d * 2 ^ t := Nat.mul_le_mul_right _ hd
  have h3 : (2 : Nat) ^ 32 = 4294967296 := by decide
  omega

/-- The program's test for primes. -/
def smalls : List Nat := [2, 3, 5, 7, 11, 13, 61]
def mPrime (n : Nat) : Bool :=
  if n < 2 then false else match smalls.find? (fun p => n % p == 0) with
    | some p => n == p
    | none => SP 2 n && (SP 7 n && SP 61 n)
/-- The reference's. -/
def rPrime (n : Nat) : Bool :=
  n == 2 || n == 7 || n == 61 || (decide (2 < n) && decide (n % 2 = 1) && decide (0 < n % 7) && decide (0 < n % 61) && SP 2 n && SP 7 n && SP 61 n)
end Go.Proofs.Ytjfjbkocopaehaa
