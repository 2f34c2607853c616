/- Plain numbers: the strong test to a base, as both texts compute it. Plain numbers: what the layer of parameters computes. Plain numbers: the strong test, as the kernel can compute it. Plain numbers: primes, Fermat's little theorem, exponents, and what the strong test says modulo a divisor. Plain numbers: what the layer of keys computes. Plain numbers: powers of secrets. -/

/-! Plain numbers: the strong test to a base, as both texts compute it. -/
namespace Go.Proofs.YtljfgdlgmdcmfaaGreat

/-- How often 2 divides a number (a number below 2^fuel, not 0). -/
def v2f : Nat → Nat → Nat
  | 0, _ => 0
  | f + 1, m => if m % 2 = 0 then v2f f (m / 2) + 1 else 0
def twos (m : Nat) : Nat := v2f 32 m
def oddp (m : Nat) : Nat := m / 2 ^ twos m

theorem v2f_eq : ∀ (f t d : Nat), t < f → d % 2 = 1 → v2f f (d * 2 ^ t) = t := by
  intro f
  induction f with
  | zero => intro t d h; omega
  | succ f ih =>
    intro t d h hd
    cases t with
    | zero => simp [v2f, hd]
    | succ t =>
      have h1 : d * 2 ^ (t + 1) = 2 * (d * 2 ^ t) := by rw [Nat.pow_succ]; rw [← Nat.mul_assoc, Nat.mul_comm]
      have h2 : d * 2 ^ (t + 1) % 2 = 0 := by rw [h1]; omega
      have h3 : d * 2 ^ (t + 1) / 2 = d * 2 ^ t := by rw [h1]; omega
      rw [v2f, if_pos h2, h3, ih t d (by omega) hd]

theorem split_eq {m d t : Nat} (ht : t < 32) (hd : d % 2 = 1) (h : d * 2 ^ t = m) : twos m = t ∧ oddp m = d := by
  have h1 : twos m = t := by rw [← h]; exact v2f_eq 32 t d ht hd
  refine ⟨h1, ?_⟩
  unfold oddp
  rw [h1, ← h, Nat.mul_div_cancel _ (Nat.pow_pos (by omega))]

/-- Is one of the first k numbers x, x^2, x^4, .. modulo n the number n - 1? -/
def anyEq (n : Nat) : Nat → Nat → Bool
  | _, 0 => false
  | x, k + 1 => x == n - 1 || anyEq n (x * x % n) k

/-- A power's remainder. -/
def pmod (a e n : Nat) : Nat := a ^ e % n

/-- The strong test. -/
def SP (a n : Nat) : Bool := pmod (a % n) (oddp (n - 1)) n == 1 || anyEq n (pmod (a % n) (oddp (n - 1)) n) (twos (n - 1))

theorem SP_of {a n d t x : Nat} (ht : t < 32) (hd : d % 2 = 1) (h : d * 2 ^ t = n - 1) (hx : x = pmod (a % n) d n) : SP a n = (x == 1 || anyEq n x t) := by
  obtain ⟨h1, h2⟩ := split_eq ht hd h
  unfold SP
  rw [h1, h2, hx]

theorem anyEq_hit {n x k : Nat} (h : x = n - 1) : anyEq n x (k + 1) = true := by simp [anyEq, h]
theorem anyEq_miss {n x k : Nat} (h : x ≠ n - 1) : anyEq n x (k + 1) = anyEq n (x * x % n) k := by simp [anyEq, h]

theorem two_pow_lt {t m d : Nat} (hm : m < 4294967296) (hd : 0 < d) (h : d * 2 ^ t = m) : t < 32 := by
  apply Classical.byContradiction
  intro hc
  have h1 : 2 ^ 32 ≤ 2 ^ t := Nat.pow_le_pow_right (by omega) (by omega)
  have h2 : 1 * 2 ^ t ≤ d * 2 ^ t := Nat.mul_le_mul_right _ hd
  have h3 : (2 : Nat) ^ 32 = 4294967296 := by decide
  omega

/-- The program's test for primes. -/
def smalls : List Nat := [2, 3, 5, 7, 11, 13, 61]
def mPrime (n : Nat) : Bool :=
  if n < 2 then false else match smalls.find? (fun p => n % p == 0) with
    | some p => n == p
    | none => SP 2 n && (SP 7 n && SP 61 n)
/-- The reference's. -/
def rPrime (n : Nat) : Bool :=
  n == 2 || n == 7 || n == 61 || (decide (2 < n) && decide (n % 2 = 1) && decide (0 < n % 7) && decide (0 < n % 61) && SP 2 n && SP 7 n && SP 61 n)
end Go.Proofs.YtljfgdlgmdcmfaaGreat

/-! Plain numbers: what the layer of parameters computes. -/
namespace Go.Proofs.YtljfgdlgmdcmfaaGreat

def isDim (n : Int) : Bool := n == 4 || n == 8 || n == 16 || n == 32

theorem isDim_cases {n : Int} (h : isDim n = true) : n = 4 ∨ n = 8 ∨ n = 16 ∨ n = 32 := by
  unfold isDim at h; simp at h; omega

/-- The power of a prime, or 0. -/
def powv (pr : Nat → Bool) (n : Int) (p : Nat) (e : Int) : Nat :=
  if 3 ≤ p ∧ p < 65536 ∧ pr p = true ∧ p % (2 * n).toNat = 1 ∧ 1 ≤ e ∧ p ^ e.toNat ≤ 2147483647 then p ^ e.toNat else 0

theorem powv_le (pr : Nat → Bool) (n : Int) (p : Nat) (e : Int) : powv pr n p e ≤ 2147483647 := by
  unfold powv; split
  · rename_i h; exact h.2.2.2.2.2
  · omega

theorem powv_no {pr : Nat → Bool} {n : Int} {p : Nat} {e : Int} (h : ¬ (3 ≤ p ∧ p < 65536 ∧ pr p = true ∧ p % (2 * n).toNat = 1 ∧ 1 ≤ e)) : powv pr n p e = 0 := by
  unfold powv; rw [if_neg]; intro hc; exact h ⟨hc.1, hc.2.1, hc.2.2.1, hc.2.2.2.1, hc.2.2.2.2.1⟩

theorem powv_big {pr : Nat → Bool} {n : Int} {p : Nat} {e : Int} {k : Nat} (hp : 3 ≤ p) (hk : (k : Int) ≤ e) (h : 2147483647 < p ^ k) : powv pr n p e = 0 := by
  unfold powv; rw [if_neg]; intro hc
  have : p ^ k ≤ p ^ e.toNat := Nat.pow_le_pow_right (by omega) (by omega)
  omega

theorem powv_yes {pr : Nat → Bool} {n : Int} {p : Nat} {e : Int} {k : Nat} (h : 3 ≤ p ∧ p < 65536 ∧ pr p = true ∧ p % (2 * n).toNat = 1 ∧ 1 ≤ e) (hk : (k : Int) = e) (hb : p ^ k ≤ 2147483647) : powv pr n p e = p ^ k := by
  have : e.toNat = k := by omega
  unfold powv; rw [this, if_pos ⟨h.1, h.2.1, h.2.2.1, h.2.2.2.1, h.2.2.2.2, hb⟩]

/-- May a prime stand in a chain? -/
def goodS (pr : Nat → Bool) (s q : Nat) : Bool :=
  decide (1073741824 < q) && (decide (q ≤ 2147483647) && (decide (q % s = 1) && pr q))
def goodB (pr : Nat → Bool) (n : Int) (t q : Nat) : Bool := goodS pr ((2 * n).toNat * t) q

/-- Parameters. -/
structure Par where
  n : Int
  p : Nat
  r : Int
  ch : List Nat
  sp : Nat
  wt : Int
  er : Nat

def Par.t (pr : Nat → Bool) (x : Par) : Nat := powv pr x.n x.p x.r

def wtB (x : Par) : Bool := decide (1 ≤ x.wt ∧ x.wt ≤ x.n ∧ x.er ≤ 64)
def lenB (n : Nat) : Bool := decide (1 ≤ n ∧ n ≤ 24)
def badB (pr : Nat → Bool) (s sp q : Nat) : Bool := !(decide (q < sp) && goodS pr s q)
def stepOf (pr : Nat → Bool) (x : Par) : Nat := (2 * x.n).toNat * x.t pr

/-- Are they valid? -/
def okB (pr : Nat → Bool) (x : Par) : Bool :=
  isDim x.n && (decide (0 < x.t pr) && (lenB x.ch.length && (wtB x && (goodS pr (stepOf pr x) x.sp && (!(x.ch.any (badB pr (stepOf pr x) x.sp)) && decide x.ch.Nodup)))))

def chk (pr : Nat → Bool) (x : Par) : Int := if okB pr x then 0 else 2
end Go.Proofs.YtljfgdlgmdcmfaaGreat

/-! Plain numbers: the strong test, as the kernel can compute it. -/
namespace Go.Proofs.YtljfgdlgmdcmfaaGreat

theorem beqN (x k : Nat) : (x == k) = Nat.beq x k := by
  rw [Bool.eq_iff_iff, beq_iff_eq, Nat.beq_eq]

/-- A number computed before it is handed on. -/
def force {α : Type} (n : Nat) (f : Nat → α) : α := Nat.rec (f 0) (fun k _ => f (k + 1)) n
theorem force_eq {α : Type} (n : Nat) (f : Nat → α) : force n f = f n := by cases n <;> rfl

/-- out * a^e modulo n, for e below 2^fuel. -/
def pwk (n : Nat) (fuel : Nat) : Nat → Nat → Nat → Nat :=
  Nat.rec (fun _ _ out => out) (fun _ ih a e out => cond (Nat.beq e 0) out
    (force (a * a % n) fun a2 => force (e / 2) fun e2 => force (cond (Nat.beq (e % 2) 1) (out * a % n) out) fun o2 => ih a2 e2 o2)) fuel

theorem pwk_eq (n : Nat) : ∀ (fuel a e out : Nat), e < 2 ^ fuel → out < n → pwk n fuel a e out = out * a ^ e % n := by
  intro fuel
  induction fuel with
  | zero =>
    intro a e out he ho
    have : e = 0 := by simpa using he
    subst this
    show out = _
    rw [Nat.pow_zero, Nat.mul_one, Nat.mod_eq_of_lt ho]
  | succ f ih =>
    intro a e out he ho
    have e1 : pwk n (f + 1) a e out = cond (Nat.beq e 0) out (pwk n f (a * a % n) (e / 2) (cond (Nat.beq (e % 2) 1) (out * a % n) out)) := by
      show cond _ _ (force _ _) = _
      rw [force_eq, force_eq, force_eq]; rfl
    rw [e1]
    cases h0 : Nat.beq e 0 with
    | true =>
      have : e = 0 := Nat.eq_of_beq_eq_true h0
      subst this
      show out = _
      rw [Nat.pow_zero, Nat.mul_one, Nat.mod_eq_of_lt ho]
    | false =>
      have he2 : e / 2 < 2 ^ f := by rw [Nat.pow_succ] at he; omega
      show pwk n f (a * a % n) (e / 2) _ = _
      cases h1 : Nat.beq (e % 2) 1 with
      | true =>
        have h : e % 2 = 1 := Nat.eq_of_beq_eq_true h1
        show pwk n f (a * a % n) (e / 2) (out * a % n) = _
        rw [ih _ _ _ he2 (Nat.mod_lt _ (by omega))]
        have h2 : a ^ e = a * (a * a) ^ (e / 2) := by
          conv => lhs; rw [show e = 2 * (e / 2) + 1 by omega]
          rw [Nat.pow_succ, Nat.pow_mul, Nat.pow_two, Nat.mul_comm]
        rw [h2, ← Nat.mul_assoc]
        simp [Nat.mul_mod, Nat.pow_mod]
      | false =>
        have h : e % 2 = 0 := by have := Nat.ne_of_beq_eq_false h1; omega
        show pwk n f (a * a % n) (e / 2) out = _
        rw [ih _ _ _ he2 ho]
        have h2 : a ^ e = (a * a) ^ (e / 2) := by
          conv => lhs; rw [show e = 2 * (e / 2) by omega]
          rw [Nat.pow_mul, Nat.pow_two]
        rw [h2]
        simp [Nat.mul_mod, Nat.pow_mod]

def anyK (n fuel : Nat) : Nat → Bool :=
  Nat.rec (fun _ => false) (fun _ ih x => cond (Nat.beq x (n - 1)) true (force (x * x % n) fun y => ih y)) fuel
theorem anyK_eq (n : Nat) : ∀ (k x : Nat), anyK n k x = anyEq n x k := by
  intro k
  induction k with
  | zero => intro x; rfl
  | succ k ih =>
    intro x
    have e1 : anyK n (k + 1) x = cond (Nat.beq x (n - 1)) true (anyK n k (x * x % n)) := by
      show cond _ _ (force _ _) = _
      rw [force_eq]; rfl
    rw [e1, ih, anyEq]
    rw [beqN]
    cases Nat.beq x (n - 1) <;> rfl

/-- The strong test, by the kernel. -/
def SPk (a n : Nat) : Bool :=
  force (twos (n - 1)) fun t => force ((n - 1) / 2 ^ t) fun d => force (pwk n 32 (a % n) d 1) fun x => cond (Nat.beq x 1) true (anyK n t x)

theorem SPk_eq (a n : Nat) (hn : 2 ≤ n) (hn2 : n < 4294967296) : SP a n = SPk a n := by
  unfold SPk
  rw [force_eq, force_eq, force_eq, anyK_eq]
  have hd : (n - 1) / 2 ^ twos (n - 1) = oddp (n - 1) := rfl
  have hlt : oddp (n - 1) < 2 ^ 32 := by
    rw [← hd]
    have := Nat.div_le_self (n - 1) (2 ^ twos (n - 1))
    have h3 : (2 : Nat) ^ 32 = 4294967296 := by decide
    omega
  rw [hd, pwk_eq n 32 (a % n) _ 1 hlt (by omega), Nat.one_mul]
  unfold SP pmod
  rw [beqN]
  cases Nat.beq ((a % n) ^ oddp (n - 1) % n) 1 <;> rfl

def rPrimeK (n : Nat) : Bool :=
  cond (Nat.beq n 2) true (cond (Nat.beq n 7) true (cond (Nat.beq n 61) true
    (cond (Nat.ble n 2) false (cond (Nat.beq (n % 2) 0) false (cond (Nat.beq (n % 7) 0) false (cond (Nat.beq (n % 61) 0) false (cond (SPk 2 n) (cond (SPk 7 n) (SPk 61 n) false) false)))))))

theorem rPrimeK_eq (n : Nat) (hn2 : n < 4294967296) : rPrime n = rPrimeK n := by
  unfold rPrime rPrimeK
  by_cases h : 2 < n
  · rw [SPk_eq 2 n (by omega) hn2, SPk_eq 7 n (by omega) hn2, SPk_eq 61 n (by omega) hn2]
    rw [beqN, beqN, beqN]
    have e1 : Nat.ble n 2 = false := by
      cases hb : Nat.ble n 2 with
      | false => rfl
      | true => have := Nat.le_of_ble_eq_true hb; omega
    have m2 : decide (n % 2 = 1) = !(Nat.beq (n % 2) 0) := by
      have e : Nat.beq (n % 2) 0 = decide (n % 2 = 0) := by rw [← beqN, Bool.eq_iff_iff, beq_iff_eq, decide_eq_true_eq]
      rw [e, Bool.eq_iff_iff, decide_eq_true_eq, Bool.not_eq_true', decide_eq_false_iff_not]; omega
    have mk : ∀ k : Nat, decide (0 < n % k) = !(Nat.beq (n % k) 0) := by
      intro k
      have e : Nat.beq (n % k) 0 = decide (n % k = 0) := by rw [← beqN, Bool.eq_iff_iff, beq_iff_eq, decide_eq_true_eq]
      rw [e, Bool.eq_iff_iff, decide_eq_true_eq, Bool.not_eq_true', decide_eq_false_iff_not]; omega
    rw [e1, m2, mk, mk, decide_eq_true h]
    cases Nat.beq n 2 <;> cases Nat.beq n 7 <;> cases Nat.beq n 61 <;> cases Nat.beq (n % 2) 0 <;> cases Nat.beq (n % 7) 0 <;> cases Nat.beq (n % 61) 0 <;> cases SPk 2 n <;> cases SPk 7 n <;> cases SPk 61 n <;> rfl
  · have e1 : Nat.ble n 2 = true := Nat.ble_eq_true_of_le (by omega)
    rcases (show n = 0 ∨ n = 1 ∨ n = 2 by omega) with rfl | rfl | rfl <;> rfl

theorem tryit : rPrimeK 2147483647 = true := by decide +kernel
end Go.Proofs.YtljfgdlgmdcmfaaGreat

/-! Plain numbers: primes, Fermat's little theorem, exponents, and what the strong test says modulo a divisor. -/
namespace Go.Proofs.YtljfgdlgmdcmfaaGreat

def Pr (p : Nat) : Prop := 2 ≤ p ∧ ∀ m, m ∣ p → m = 1 ∨ m = p

theorem exists_pr : ∀ n, 2 ≤ n → ∃ p, Pr p ∧ p ∣ n := by
  intro n
  induction n using Nat.strongRecOn with
  | ind n ih =>
    intro h
    by_cases hp : Pr n
    · exact ⟨n, hp, Nat.dvd_refl n⟩
    · have : ∃ m, m ∣ n ∧ m ≠ 1 ∧ m ≠ n := by
        apply Classical.byContradiction
        intro hc
        apply hp
        refine ⟨h, fun m hm => ?_⟩
        apply Classical.byContradiction
        intro hc2
        exact hc ⟨m, hm, fun e => hc2 (.inl e), fun e => hc2 (.inr e)⟩
      obtain ⟨m, hm, h1, h2⟩ := this
      have hle := Nat.le_of_dvd (by omega) hm
      have h0 : m ≠ 0 := by intro e; subst e; have := Nat.eq_zero_of_zero_dvd hm; omega
      obtain ⟨p, hpp, hpm⟩ := ih m (by omega) (by omega)
      exact ⟨p, hpp, Nat.dvd_trans hpm hm⟩

theorem Pr.coprime {p a : Nat} (hp : Pr p) (h : ¬ p ∣ a) : Nat.gcd p a = 1 := by
  rcases hp.2 _ (Nat.gcd_dvd_left p a) with h1 | h1
  · exact h1
  · exact absurd (h1 ▸ Nat.gcd_dvd_right p a) h

theorem Pr.euclid {p a b : Nat} (hp : Pr p) (h : p ∣ a * b) (ha : ¬ p ∣ a) : p ∣ b := by
  have : Nat.Coprime p a := hp.coprime ha
  exact this.dvd_of_dvd_mul_left h

def C : Nat → Nat → Nat
  | _, 0 => 1
  | 0, _ + 1 => 0
  | n + 1, k + 1 => C n k + C n (k + 1)

theorem C_zero (n : Nat) : C n 0 = 1 := by cases n <;> rfl
theorem C_gt : ∀ n k, n < k → C n k = 0 := by
  intro n
  induction n with
  | zero => intro k h; cases k with
    | zero => omega
    | succ k => rfl
  | succ n ih => intro k h; cases k with
    | zero => omega
    | succ k => rw [C, ih k (by omega), ih (k + 1) (by omega)]
theorem C_self : ∀ n, C n n = 1 := by
  intro n
  induction n with
  | zero => rfl
  | succ n ih => rw [C, ih, C_gt n (n + 1) (by omega)]
theorem C_absorb : ∀ n k, (k + 1) * C (n + 1) (k + 1) = (n + 1) * C n k := by
  intro n
  induction n with
  | zero => intro k; cases k with
    | zero => rfl
    | succ k => rw [C_gt 0 (k + 1) (by omega), C_gt (0 + 1) (k + 1 + 1) (by omega)]; simp
  | succ n ih => intro k; cases k with
    | zero =>
      have := ih 0
      have e : C (n + 1 + 1) (0 + 1) = C (n + 1) 0 + C (n + 1) (0 + 1) := rfl
      rw [e, C_zero]
      rw [C_zero] at this
      omega
    | succ j =>
      have h1 := ih j
      have h2 := ih (j + 1)
      rw [C, Nat.mul_add, h2]
      have h3 : C (n + 1) (j + 1) = C n j + C n (j + 1) := rfl
      have e1 : (j + 1 + 1) * C (n + 1) (j + 1) = (n + 1) * C n j + C (n + 1) (j + 1) := by rw [Nat.succ_mul, h1]
      rw [e1, h3, show (n + 1 + 1) * (C n j + C n (j + 1)) = (n + 1) * (C n j + C n (j + 1)) + (C n j + C n (j + 1)) from Nat.succ_mul _ _, Nat.mul_add]
      omega

def S (n x : Nat) : Nat → Nat
  | 0 => 0
  | m + 1 => S n x m + C n m * x ^ m
theorem S_rec (n x : Nat) : ∀ m, S (n + 1) x (m + 1) = S n x (m + 1) + x * S n x m := by
  intro m
  induction m with
  | zero => simp [S, C_zero]
  | succ m ih =>
    have e1 : S (n + 1) x (m + 1 + 1) = S (n + 1) x (m + 1) + C (n + 1) (m + 1) * x ^ (m + 1) := rfl
    have e2 : S n x (m + 1 + 1) = S n x (m + 1) + C n (m + 1) * x ^ (m + 1) := rfl
    have e3 : S n x (m + 1) = S n x m + C n m * x ^ m := rfl
    have e4 : C (n + 1) (m + 1) = C n m + C n (m + 1) := rfl
    have e5 : x * (C n m * x ^ m) = C n m * x ^ (m + 1) := by rw [Nat.pow_succ, Nat.mul_left_comm, Nat.mul_comm x (x ^ m)]
    rw [e1, ih, e2, e4, Nat.add_mul]
    conv => rhs; rw [e3, Nat.mul_add, e5]
    rw [e3]; omega
theorem binom (x : Nat) : ∀ n, (x + 1) ^ n = S n x (n + 1) := by
  intro n
  induction n with
  | zero => simp [S, C_zero]
  | succ n ih =>
    have e : S n x (n + 1 + 1) = S n x (n + 1) := by
      show S n x (n + 1) + C n (n + 1) * x ^ (n + 1) = _
      rw [C_gt n (n + 1) (by omega)]; omega
    rw [S_rec, e, Nat.pow_succ, ih, Nat.mul_add, Nat.mul_one, Nat.mul_comm x]; omega

theorem Pr.dvd_C {p : Nat} (hp : Pr p) {k : Nat} (h0 : 0 < k) (h1 : k < p) : p ∣ C p k := by
  obtain ⟨n, rfl⟩ : ∃ n, p = n + 1 := ⟨p - 1, by omega⟩
  obtain ⟨j, rfl⟩ : ∃ j, k = j + 1 := ⟨k - 1, by omega⟩
  have h := C_absorb n j
  have hd : n + 1 ∣ (j + 1) * C (n + 1) (j + 1) := by rw [h]; exact Nat.dvd_mul_right _ _
  refine hp.euclid hd ?_
  intro hc
  have := Nat.le_of_dvd (by omega) hc
  omega

theorem Pr.S_mod {p : Nat} (hp : Pr p) (x : Nat) : ∀ m, m + 1 ≤ p → S p x (m + 1) % p = 1 % p := by
  intro m
  induction m with
  | zero => intro _; simp [S, C_zero]
  | succ m ih =>
    intro h
    show (S p x (m + 1) + C p (m + 1) * x ^ (m + 1)) % p = _
    obtain ⟨c, hc⟩ := hp.dvd_C (k := m + 1) (by omega) (by omega)
    rw [hc, Nat.mul_assoc, Nat.add_mul_mod_self_left, ih (by omega)]

theorem Pr.freshman {p : Nat} (hp : Pr p) (x : Nat) : (x + 1) ^ p % p = (x ^ p + 1) % p := by
  rw [binom]
  show (S p x p + C p p * x ^ p) % p = _
  obtain ⟨m, hm⟩ : ∃ m, p = m + 1 := ⟨p - 1, by have := hp.1; omega⟩
  have h := hp.S_mod x m (by omega)
  rw [← hm] at h
  rw [C_self, Nat.one_mul, Nat.add_mod, h, ← Nat.add_mod, Nat.add_comm]

theorem Pr.little {p : Nat} (hp : Pr p) : ∀ a, a ^ p % p = a % p := by
  intro a
  induction a with
  | zero => rw [Nat.zero_pow (by have := hp.1; omega)]
  | succ a ih => rw [hp.freshman, Nat.add_mod, ih, ← Nat.add_mod]

theorem one_of_dvd {m x : Nat} (hm : 2 ≤ m) (hx : 1 ≤ x) (h : m ∣ x - 1) : x % m = 1 := by
  obtain ⟨c, hc⟩ := h
  have : x = 1 + m * c := by omega
  rw [this, Nat.add_mul_mod_self_left]; exact Nat.mod_eq_of_lt (by omega)

theorem dvd_of_one {m x : Nat} (h : x % m = 1) : m ∣ x - 1 := by
  have h2 := Nat.div_add_mod x m
  rw [h] at h2
  exact ⟨x / m, by omega⟩

theorem Pr.fermat {p : Nat} (hp : Pr p) {a : Nat} (ha : ¬ p ∣ a) : a ^ (p - 1) % p = 1 := by
  have h2 := hp.1
  have ha0 : 0 < a := by
    rcases Nat.eq_zero_or_pos a with h | h
    · subst h; exact absurd (Nat.dvd_zero p) ha
    · exact h
  have h1 : 1 ≤ a ^ (p - 1) := Nat.pow_pos ha0
  apply one_of_dvd h2 h1
  refine hp.euclid (a := a) ?_ ha
  have e : a * (a ^ (p - 1) - 1) = a ^ p - a := by
    rw [Nat.mul_sub, Nat.mul_one]
    congr 1
    rw [Nat.mul_comm, ← Nat.pow_succ]; congr 1; omega
  rw [e]
  exact Nat.dvd_of_mod_eq_zero (Nat.sub_mod_eq_zero_of_mod_eq (hp.little a))

/-! Exponents. -/
theorem pow_one_mul {a x m : Nat} (hm : 2 ≤ m) (h : a ^ x % m = 1) (c : Nat) : a ^ (x * c) % m = 1 := by
  rw [Nat.pow_mul, Nat.pow_mod, h, Nat.one_pow]; exact Nat.mod_eq_of_lt (by omega)

theorem pow_one_dvd {a x y m : Nat} (hm : 2 ≤ m) (h : a ^ x % m = 1) (hd : x ∣ y) : a ^ y % m = 1 := by
  obtain ⟨c, rfl⟩ := hd; exact pow_one_mul hm h c

theorem pow_one_add {a x y m : Nat} (h : a ^ x % m = 1) (h2 : a ^ (x + y) % m = 1) : a ^ y % m = 1 := by
  rw [Nat.pow_add, Nat.mul_mod, h, Nat.one_mul, Nat.mod_mod] at h2; exact h2

theorem pow_gcd {a m : Nat} (hm : 2 ≤ m) (x y : Nat) : a ^ x % m = 1 → a ^ y % m = 1 → a ^ Nat.gcd x y % m = 1 := by
  induction x, y using Nat.gcd.induction with
  | H0 n => intro _ h; rw [Nat.gcd_zero_left]; exact h
  | H1 x y hx ih =>
    intro h1 h2
    rw [Nat.gcd_rec]
    refine ih ?_ h1
    have e : y = x * (y / x) + y % x := (Nat.div_add_mod y x).symm
    rw [e] at h2
    exact pow_one_add (pow_one_mul hm h1 _) h2

/-! The odd part. -/
theorem v2f_spec : ∀ f m, 0 < m → m < 2 ^ f → ∃ d, d % 2 = 1 ∧ d * 2 ^ v2f f m = m ∧ v2f f m < f := by
  intro f
  induction f with
  | zero => intro m h0 h1; simp at h1; omega
  | succ f ih =>
    intro m h0 h1
    by_cases hev : m % 2 = 0
    · obtain ⟨d, hd, he, hlt⟩ := ih (m / 2) (by omega) (by rw [Nat.pow_succ] at h1; omega)
      have hv : v2f (f + 1) m = v2f f (m / 2) + 1 := by rw [v2f, if_pos hev]
      refine ⟨d, hd, ?_, by omega⟩
      rw [hv, Nat.pow_succ, ← Nat.mul_assoc, he]; omega
    · have hv : v2f (f + 1) m = 0 := by rw [v2f, if_neg hev]
      exact ⟨m, by omega, by rw [hv]; simp, by omega⟩

theorem odd_spec {m : Nat} (h0 : 0 < m) (h1 : m < 4294967296) : oddp m % 2 = 1 ∧ oddp m * 2 ^ twos m = m := by
  obtain ⟨d, hd, he, hlt⟩ := v2f_spec 32 m h0 (by have : (2 : Nat) ^ 32 = 4294967296 := by decide
                                                  omega)
  obtain ⟨h1, h2⟩ := split_eq (show v2f 32 m < 32 from hlt) hd he
  rw [h2]
  exact ⟨hd, by rw [h1]; exact he⟩

/-! The strong test. -/
theorem anyEq_true {a e n : Nat} : ∀ k, anyEq n (a ^ e % n) k = true → ∃ i, i < k ∧ a ^ (e * 2 ^ i) % n = n - 1 := by
  intro k
  induction k generalizing e with
  | zero => intro h; simp [anyEq] at h
  | succ k ih =>
    intro h
    simp only [anyEq, Bool.or_eq_true, beq_iff_eq] at h
    rcases h with h | h
    · exact ⟨0, by omega, by simpa using h⟩
    · have e2 : (a ^ e % n) * (a ^ e % n) % n = a ^ (e * 2) % n := by
        rw [← Nat.mul_mod, ← Nat.pow_add, show e + e = e * 2 by omega]
      rw [e2] at h
      obtain ⟨i, hi, hh⟩ := ih h
      exact ⟨i + 1, by omega, by rw [Nat.pow_succ, Nat.mul_comm (2 ^ i) 2, ← Nat.mul_assoc]; exact hh⟩

theorem SP_true {a n : Nat} (h : SP a n = true) : a ^ oddp (n - 1) % n = 1 ∨ ∃ i, i < twos (n - 1) ∧ a ^ (oddp (n - 1) * 2 ^ i) % n = n - 1 := by
  unfold SP pmod at h
  rw [← Nat.pow_mod] at h
  simp only [Bool.or_eq_true, beq_iff_eq] at h
  rcases h with h | h
  · exact .inl h
  · exact .inr (anyEq_true _ h)

/-- Modulo a divisor. -/
theorem down_one {x n q : Nat} (hq : 2 ≤ q) (hd : q ∣ n) (h : x % n = 1) : x % q = 1 := by
  have h1 : x % n % q = x % q := Nat.mod_mod_of_dvd x hd
  rw [h] at h1
  rw [← h1]; exact Nat.mod_eq_of_lt (by omega)

theorem down_neg {x n q : Nat} (hq : 2 ≤ q) (hd : q ∣ n) (hn : 0 < n) (h : x % n = n - 1) : x % q = q - 1 := by
  have h1 : x % n % q = x % q := Nat.mod_mod_of_dvd x hd
  rw [h] at h1
  rw [← h1]
  obtain ⟨k, rfl⟩ := hd
  have hk : 0 < k := Nat.pos_of_mul_pos_left hn
  have e : q * k - 1 = q - 1 + q * (k - 1) := by
    obtain ⟨j, rfl⟩ : ∃ j, k = j + 1 := ⟨k - 1, by omega⟩
    rw [Nat.mul_add, Nat.mul_one, Nat.add_sub_cancel]; omega
  rw [e, Nat.add_mul_mod_self_left]; exact Nat.mod_eq_of_lt (by omega)

/-- The sign that a number has: 1 or -1. -/
def sg (neg : Bool) (q : Nat) : Nat := cond neg (q - 1) 1

theorem down_sg {x n q : Nat} {neg : Bool} (hq : 2 ≤ q) (hd : q ∣ n) (hn : 0 < n) (h : x % n = sg neg n) : x % q = sg neg q := by
  cases neg with
  | true => exact down_neg hq hd hn h
  | false => exact down_one hq hd h

theorem neg_sq {x q : Nat} (hq : 2 ≤ q) (h : x % q = q - 1) : x * x % q = 1 := by
  rw [Nat.mul_mod, h]
  obtain ⟨j, rfl⟩ : ∃ j, q = j + 2 := ⟨q - 2, by omega⟩
  have e : (j + 2 - 1) * (j + 2 - 1) = 1 + (j + 2) * j := by
    show (j + 1) * (j + 1) = _
    rw [Nat.add_mul, Nat.mul_add]; simp [Nat.mul_add, Nat.add_mul]; omega
  rw [e, Nat.add_mul_mod_self_left]; exact Nat.mod_eq_of_lt (by omega)

theorem neg_odd {x q o : Nat} (hq : 2 ≤ q) (h : x % q = q - 1) (ho : o % 2 = 1) : x ^ o % q = q - 1 := by
  have e : o = 2 * (o / 2) + 1 := by omega
  rw [e, Nat.pow_succ, Nat.pow_mul, Nat.pow_two, Nat.mul_mod, Nat.pow_mod, neg_sq hq h, Nat.one_pow, h, Nat.mod_eq_of_lt (show 1 < q by omega), Nat.one_mul]
  exact Nat.mod_eq_of_lt (by omega)

/-- THE TRANSFER: b^d = 1 or -1 modulo a prime q, d odd; b^y = 1 with y = o 2^s: then b^o is the same sign. -/
theorem transfer {b d y o s q : Nat} {neg : Bool} (hp : Pr q) (hq : 3 ≤ q) (hd : d % 2 = 1) (ho : o % 2 = 1) (hy : o * 2 ^ s = y) (h1 : b ^ d % q = sg neg q) (h2 : b ^ y % q = 1) : b ^ o % q = sg neg q := by
  have hq2 : 2 ≤ q := hp.1
  have hdvd : Nat.gcd y d ∣ o := by
    rw [← hy]
    have hg := Nat.gcd_mul_right_dvd_mul_gcd d o (2 ^ s)
    have h3 : Nat.gcd d (2 ^ s) = 1 := by
      have : Nat.Coprime d (2 ^ s) := Nat.Coprime.pow_right s (by
        have : Nat.gcd 2 d = 1 := by
          rw [Nat.gcd_rec, hd]; rfl
        show Nat.gcd d 2 = 1; rw [Nat.gcd_comm]; exact this)
      exact this
    rw [h3, Nat.mul_one] at hg
    rw [Nat.gcd_comm]
    exact Nat.dvd_trans hg (Nat.gcd_dvd_right d o)
  cases neg with
  | false => exact pow_one_dvd hq2 (pow_gcd hq2 y d h2 h1) hdvd
  | true =>
    have h1' : b ^ d % q = q - 1 := h1
    have hdd : b ^ (d * 2) % q = 1 := by
      rw [Nat.pow_mul, Nat.pow_two]; exact neg_sq hq2 h1'
    have hdvd2 : Nat.gcd y (d * 2) ∣ o * 2 := by
      have hg := Nat.gcd_mul_right_dvd_mul_gcd y d 2
      exact Nat.dvd_trans hg (Nat.mul_dvd_mul hdvd (Nat.gcd_dvd_right y 2))
    have h4 : b ^ (o * 2) % q = 1 := pow_one_dvd hq2 (pow_gcd hq2 y (d * 2) h2 hdd) hdvd2
    show b ^ o % q = q - 1
    have hne : b ^ o % q ≠ 1 := by
      intro hc
      have h5 : b ^ (o * d) % q = 1 := pow_one_mul hq2 hc d
      rw [Nat.mul_comm, Nat.pow_mul] at h5
      have h6 := neg_odd hq2 h1' ho
      omega
    have hpos : 1 ≤ b ^ o := by
      rcases Nat.eq_zero_or_pos (b ^ o) with h | h
      · rw [Nat.pow_mul, h] at h4; simp at h4
      · exact h
    have hdv : q ∣ (b ^ o - 1) * (b ^ o + 1) := by
      have h5 := dvd_of_one h4
      have e : b ^ (o * 2) - 1 = (b ^ o - 1) * (b ^ o + 1) := by
        rw [Nat.pow_mul, Nat.pow_two]
        obtain ⟨z, hz⟩ : ∃ z, b ^ o = z + 1 := ⟨b ^ o - 1, by omega⟩
        rw [hz]; simp [Nat.mul_add, Nat.add_mul]
      rwa [← e]
    have hn1 : ¬ q ∣ b ^ o - 1 := fun hc => hne (one_of_dvd hq2 hpos hc)
    obtain ⟨c, hc⟩ := hp.euclid hdv hn1
    have hc0 : 0 < c := by
      rcases Nat.eq_zero_or_pos c with h | h
      · rw [h] at hc; simp at hc
      · exact h
    obtain ⟨j, rfl⟩ : ∃ j, c = j + 1 := ⟨c - 1, by omega⟩
    have e : b ^ o = q - 1 + q * j := by rw [Nat.mul_add, Nat.mul_one] at hc; omega
    rw [e, Nat.add_mul_mod_self_left]; exact Nat.mod_eq_of_lt (by omega)
end Go.Proofs.YtljfgdlgmdcmfaaGreat

/-! Plain numbers: what the layer of keys computes. -/
namespace Go.Proofs.YtljfgdlgmdcmfaaGreat

def small1 (z : Int) : Bool := z == -1 || (z == 1 || z == 0)
def weight (l : List Int) : Nat := (l.filter (fun z => z != 0)).length
theorem weight_le (l : List Int) : weight l ≤ l.length := List.length_filter_le _ _
theorem weight_snoc (l : List Int) (z : Int) : weight (l ++ [z]) = weight l + (if z = 0 then 0 else 1) := by
  unfold weight
  rw [List.filter_append, List.length_append]
  by_cases h : z = 0 <;> simp [h]

theorem take_snoc {α : Type} (l : List α) (k : Nat) (h : k < l.length) : l.take (k + 1) = l.take k ++ [l[k]] := List.take_succ_eq_append_getElem h

/-- Does a secret fit? -/
def secB (x : Par) (l : List Int) : Bool := l.all small1 && (decide ((l.length : Int) = x.n) && decide ((weight l : Int) = x.wt))
def csec (pr : Nat → Bool) (x : Par) (l : List Int) : Int := if okB pr x && secB x l then 0 else 2

theorem secB_no {x : Par} {l : List Int} (h : (∃ z, z ∈ l ∧ small1 z = false) ∨ (l.length : Int) ≠ x.n ∨ (weight l : Int) ≠ x.wt) : secB x l = false := by
  unfold secB
  rcases h with ⟨z, hz, h⟩ | h | h
  · have : l.all small1 = false := by rw [List.all_eq_false]; exact ⟨z, hz, by rw [h]; simp⟩
    rw [this]; rfl
  · rw [decide_eq_false h]; simp
  · rw [decide_eq_false h]; simp
theorem secB_yes {x : Par} {l : List Int} (h1 : ∀ z, z ∈ l → small1 z = true) (h2 : (l.length : Int) = x.n) (h3 : (weight l : Int) = x.wt) : secB x l = true := by
  unfold secB
  rw [List.all_eq_true.2 h1, decide_eq_true h2, decide_eq_true h3]; rfl

theorem small1_iff {z : Int} : small1 z = true ↔ z = -1 ∨ z = 0 ∨ z = 1 := by
  unfold small1
  simp only [Bool.or_eq_true, beq_iff_eq]
  omega

theorem chk_zero {pr : Nat → Bool} {x : Par} : (chk pr x = 0) = (okB pr x = true) := by
  unfold chk
  cases okB pr x <;> simp
theorem chk_two {pr : Nat → Bool} {x : Par} (h : okB pr x = false) : chk pr x = 2 := by unfold chk; rw [h]; rfl
theorem chk_ok {pr : Nat → Bool} {x : Par} (h : okB pr x = true) : chk pr x = 0 := by unfold chk; rw [h]; rfl

/-- An automorphism? -/
def autB (x : Par) (k : Int) : Bool := decide (1 ≤ k) && (decide (k < 2 * x.n) && decide (k % 2 = 1))

/-- One step of the automorphism: to which place, with which sign. -/
def turnStep (n k : Nat) (l out : List Int) (i : Nat) : List Int :=
  if i * k % (2 * n) < n then out.set (i * k % (2 * n)) (l.getD i 0) else out.set (i * k % (2 * n) - n) (-(l.getD i 0))
def turnTo (n k : Nat) (l : List Int) : Nat → List Int
  | 0 => List.replicate n 0
  | i + 1 => turnStep n k l (turnTo n k l i) i

theorem turnStep_length (n k : Nat) (l out : List Int) (i : Nat) : (turnStep n k l out i).length = out.length := by
  unfold turnStep; split <;> simp
theorem turnTo_length (n k : Nat) (l : List Int) (i : Nat) : (turnTo n k l i).length = n := by
  induction i with
  | zero => simp [turnTo]
  | succ i ih => rw [turnTo, turnStep_length, ih]

theorem turnTo_small {n k : Nat} {l : List Int} (hl : ∀ z, z ∈ l → small1 z = true) : ∀ i, ∀ z, z ∈ turnTo n k l i → small1 z = true := by
  intro i
  induction i with
  | zero => intro z hz; rw [turnTo, List.mem_replicate] at hz; rw [hz.2]; rfl
  | succ i ih =>
    intro z hz
    have hg : small1 (l.getD i 0) = true := by
      rw [List.getD_eq_getElem?_getD]
      by_cases h : i < l.length
      · rw [List.getElem?_eq_getElem h]; exact hl _ (List.getElem_mem h)
      · rw [List.getElem?_eq_none (by omega)]; rfl
    have hn : small1 (-(l.getD i 0)) = true := by rw [small1_iff] at hg ⊢; omega
    rw [turnTo] at hz
    unfold turnStep at hz
    split at hz
    · rcases List.mem_or_eq_of_mem_set hz with h | h
      · exact ih z h
      · rw [h]; exact hg
    · rcases List.mem_or_eq_of_mem_set hz with h | h
      · exact ih z h
      · rw [h]; exact hn

def turnOk (pr : Nat → Bool) (x : Par) (l : List Int) (k : Int) : Bool := okB pr x && secB x l && autB x k
def turnList (pr : Nat → Bool) (x : Par) (l : List Int) (k : Int) : List Int := if turnOk pr x l k then turnTo x.n.toNat k.toNat l x.n.toNat else []
def turnErr (pr : Nat → Bool) (x : Par) (l : List Int) (k : Int) : Int := if turnOk pr x l k then 0 else 2
end Go.Proofs.YtljfgdlgmdcmfaaGreat

/-! Plain numbers: powers of secrets. -/
namespace Go.Proofs.YtljfgdlgmdcmfaaGreat

/-- All numbers of a list lie within a bound. -/
def Bd (M : Int) (l : List Int) : Prop := ∀ z, z ∈ l → -M ≤ z ∧ z ≤ M
theorem Bd.mono {M M' : Int} {l : List Int} (h : Bd M l) (hM : M ≤ M') : Bd M' l := fun z hz => by have := h z hz; omega
theorem Bd.getD {M : Int} {l : List Int} (h : Bd M l) (hM : 0 ≤ M) (i : Nat) : -M ≤ l.getD i 0 ∧ l.getD i 0 ≤ M := by
  rw [List.getD_eq_getElem?_getD]
  by_cases hi : i < l.length
  · rw [List.getElem?_eq_getElem hi]; exact h _ (List.getElem_mem hi)
  · rw [List.getElem?_eq_none (by omega)]; show -M ≤ 0 ∧ 0 ≤ M; omega
theorem Bd.set {M : Int} {l : List Int} (h : Bd M l) (i : Nat) {v : Int} (hv : -M ≤ v ∧ v ≤ M) : Bd M (l.set i v) := fun z hz => by
  rcases List.mem_or_eq_of_mem_set hz with h1 | h1
  · exact h z h1
  · rw [h1]; exact hv

def mulStep (n : Nat) (l cur nxt : List Int) (i f : Nat) : List Int :=
  if (f + i) % (2 * n) < n then nxt.set ((f + i) % (2 * n)) (nxt.getD ((f + i) % (2 * n)) 0 + 1 * cur.getD i 0 * l.getD f 0)
  else nxt.set ((f + i) % (2 * n) - n) (nxt.getD ((f + i) % (2 * n) - n) 0 + -1 * cur.getD i 0 * l.getD f 0)
def mulRow (n : Nat) (l cur nxt : List Int) (i : Nat) : Nat → List Int
  | 0 => nxt
  | f + 1 => mulStep n l cur (mulRow n l cur nxt i f) i f
def mulTo (n : Nat) (l cur : List Int) : Nat → List Int
  | 0 => List.replicate 32 0
  | i + 1 => mulRow n l cur (mulTo n l cur i) i n
def powTo (n : Nat) (l : List Int) : Nat → List Int
  | 0 => 1 :: List.replicate 31 0
  | j + 1 => mulTo n l (powTo n l j) n

theorem mulStep_length (n : Nat) (l cur nxt : List Int) (i f : Nat) : (mulStep n l cur nxt i f).length = nxt.length := by
  unfold mulStep; split <;> simp
theorem mulRow_length (n : Nat) (l cur nxt : List Int) (i : Nat) : ∀ f, (mulRow n l cur nxt i f).length = nxt.length := by
  intro f
  induction f with
  | zero => rfl
  | succ f ih => rw [mulRow, mulStep_length, ih]
theorem mulTo_length (n : Nat) (l cur : List Int) : ∀ i, (mulTo n l cur i).length = 32 := by
  intro i
  induction i with
  | zero => rw [mulTo, List.length_replicate]
  | succ i ih => rw [mulTo, mulRow_length, ih]
theorem powTo_length (n : Nat) (l : List Int) (j : Nat) : (powTo n l j).length = 32 := by
  cases j with
  | zero => simp [powTo]
  | succ j => rw [powTo, mulTo_length]

/-- A product of a sign, a bounded number and a small one. -/
theorem sg_bd {s c z B : Int} (hs : s = 1 ∨ s = -1) (hc : -B ≤ c ∧ c ≤ B) (hz : z = -1 ∨ z = 0 ∨ z = 1) : (-B ≤ s * c ∧ s * c ≤ B) ∧ (-B ≤ s * c * z ∧ s * c * z ≤ B) := by
  rcases hs with rfl | rfl <;> rcases hz with rfl | rfl | rfl <;> simp <;> omega

theorem getD_small {l : List Int} (hl : ∀ z, z ∈ l → small1 z = true) (i : Nat) : l.getD i 0 = -1 ∨ l.getD i 0 = 0 ∨ l.getD i 0 = 1 := by
  rw [← small1_iff, List.getD_eq_getElem?_getD]
  by_cases h : i < l.length
  · rw [List.getElem?_eq_getElem h]; exact hl _ (List.getElem_mem h)
  · rw [List.getElem?_eq_none (by omega)]; rfl

theorem mulStep_bd {n : Nat} {l cur nxt : List Int} {i f : Nat} {M B : Int} (hl : ∀ z, z ∈ l → small1 z = true) (hB0 : 0 ≤ B) (hM0 : 0 ≤ M) (hc : Bd B cur) (hn : Bd M nxt) : Bd (M + B) (mulStep n l cur nxt i f) := by
  have h1 := (sg_bd (.inl rfl) (hc.getD hB0 i) (getD_small hl f)).2
  have h2 := (sg_bd (.inr rfl) (hc.getD hB0 i) (getD_small hl f)).2
  unfold mulStep
  split
  · have h3 := hn.getD hM0 ((f + i) % (2 * n))
    exact (hn.mono (by omega)).set _ (by omega)
  · have h3 := hn.getD hM0 ((f + i) % (2 * n) - n)
    exact (hn.mono (by omega)).set _ (by omega)

theorem mulRow_bd {n : Nat} {l cur nxt : List Int} {i : Nat} {M B : Int} (hl : ∀ z, z ∈ l → small1 z = true) (hB0 : 0 ≤ B) (hM0 : 0 ≤ M) (hc : Bd B cur) (hn : Bd M nxt) : ∀ f : Nat, Bd (M + f * B) (mulRow n l cur nxt i f) := by
  intro f
  induction f with
  | zero => simpa [mulRow] using hn
  | succ f ih =>
    have hfB : 0 ≤ (f : Int) * B := Int.mul_nonneg (by omega) hB0
    have h := mulStep_bd (n := n) (i := i) (f := f) hl hB0 (show 0 ≤ M + f * B by omega) hc ih
    refine h.mono ?_
    rw [Int.natCast_add, Int.add_mul]; simp; omega

theorem mulTo_bd {n : Nat} {l cur : List Int} {B : Int} (hn : n ≤ 32) (hl : ∀ z, z ∈ l → small1 z = true) (hB0 : 0 ≤ B) (hc : Bd B cur) : ∀ i : Nat, Bd (i * (32 * B)) (mulTo n l cur i) := by
  intro i
  induction i with
  | zero => intro z hz; rw [mulTo, List.mem_replicate] at hz; rw [hz.2]; simp
  | succ i ih =>
    have hiB : 0 ≤ (i : Int) * (32 * B) := Int.mul_nonneg (by omega) (by omega)
    have h := mulRow_bd (n := n) (i := i) hl hB0 hiB hc ih n
    refine h.mono ?_
    have : (n : Int) * B ≤ 32 * B := Int.mul_le_mul_of_nonneg_right (by omega) hB0
    rw [Int.natCast_add, Int.add_mul]; simp; omega

theorem powTo_bd {n : Nat} {l : List Int} (hn : n ≤ 32) (hl : ∀ z, z ∈ l → small1 z = true) : Bd 1 (powTo n l 0) ∧ Bd 1024 (powTo n l 1) ∧ Bd 1048576 (powTo n l 2) := by
  have h0 : Bd 1 (powTo n l 0) := by
    intro z hz
    simp only [powTo, List.mem_cons, List.mem_replicate] at hz
    rcases hz with h | h <;> omega
  have h1 : Bd 1024 (powTo n l 1) := (mulTo_bd hn hl (by omega) h0 n).mono (by omega)
  exact ⟨h0, h1, (mulTo_bd hn hl (by omega) h1 n).mono (by omega)⟩

def powOk (pr : Nat → Bool) (x : Par) (l : List Int) (e : Int) : Bool := okB pr x && secB x l && (decide (0 ≤ e) && decide (e ≤ 2))
def powList (pr : Nat → Bool) (x : Par) (l : List Int) (e : Int) : List Int := if powOk pr x l e then (powTo x.n.toNat l e.toNat).take x.n.toNat else []
def powErr (pr : Nat → Bool) (x : Par) (l : List Int) (e : Int) : Int := if powOk pr x l e then 0 else 2
end Go.Proofs.YtljfgdlgmdcmfaaGreat
