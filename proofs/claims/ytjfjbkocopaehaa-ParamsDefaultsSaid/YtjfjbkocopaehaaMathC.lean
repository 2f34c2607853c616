/- Plain numbers: the strong test, as the kernel can compute it. -/
import Derived.Test.YtjfjbkocopaehaaMathB
namespace Go.Proofs.Ytjfjbkocopaehaa

theorem beqN (x k : Nat) : (x == k) = Nat.beq x k := by
  rw [Bool.eq_iff_iff, beq_iff_eq, Nat.beq_eq]

/-- A number computed before it is handed on. -/
def force {α : Type} (n : Nat) (f : Nat → α) : α := Nat.rec (f 0) (fun k _ => f (k + 1)) n
theorem force_eq {α : Type} (n : Nat) (f : Nat → α) : force n f = f n := by cases n <;> rfl

/-- out * a^e modulo n, for e below 2^fuel. -/
def pwk (n : Nat) (fuel : Nat) : Nat → Nat → Nat → Nat :=
  Nat.rec (fun _ _ out => out) (fun _ ih a e out => cond (Nat.beq e 0) out
    (force (a * a % n) fun a2 => force (e / 2) fun e2 => force (cond (Nat.beq (e % 2) 1) (out * a % n) out) fun o2 => ih a2 e2 o2)) fuel

theorem pwk_eq (n : Nat) : ∀ (fuel a e out : Nat), e < 2 ^ fuel → out < n → pwk n fuel a e out = out * a ^ e % n := by
  intro fuel
  induction fuel with
  | zero =>
    intro a e out he ho
    have : e = 0 := by simpa using he
    subst this
    show out = _
    rw [Nat.pow_zero, Nat.mul_one, Nat.mod_eq_of_lt ho]
  | succ f ih =>
    intro a e out he ho
    have e1 : pwk n (f + 1) a e out = cond (Nat.beq e 0) out (pwk n f (a * a % n) (e / 2) (cond (Nat.beq (e % 2) 1) (out * a % n) out)) := by
      show cond _ _ (force _ _) = _
      rw [force_eq, force_eq, force_eq]; rfl
    rw [e1]
    cases h0 : Nat.beq e 0 with
    | true =>
      have : e = 0 := Nat.eq_of_beq_eq_true h0
      subst this
      show out = _
      rw [Nat.pow_zero, Nat.mul_one, Nat.mod_eq_of_lt ho]
    | false =>
      have he2 : e / 2 < 2 ^ f := by rw [Nat.pow_succ] at he; omega
      show pwk n f (a * a % n) (e / 2) _ = _
      cases h1 : Nat.beq (e % 2) 1 with
      | true =>
        have h : e % 2 = 1 := Nat.eq_of_beq_eq_true h1
        show pwk n f (a * a % n) (e / 2) (out * a % n) = _
        rw [ih _ _ _ he2 (Nat.mod_lt _ (by omega))]
        have h2 : a ^ e = a * (a * a) ^ (e / 2) := by
          conv => lhs; rw [show e = 2 * (e / 2) + 1 by omega]
          rw [Nat.pow_succ, Nat.pow_mul, Nat.pow_two, Nat.mul_comm]
        rw [h2, ← Nat.mul_assoc]
        simp [Nat.mul_mod, Nat.pow_mod]
      | false =>
        have h : e % 2 = 0 := by have := Nat.ne_of_beq_eq_false h1; omega
        show pwk n f (a * a % n) (e / 2) out = _
        rw [ih _ _ _ he2 ho]
        have h2 : a ^ e = (a * a) ^ (e / 2) := by
          conv => lhs; rw [show e = 2 * (e / 2) by omega]
          rw [Nat.pow_mul, Nat.pow_two]
        rw [h2]
        simp [Nat.mul_mod, Nat.pow_mod]

def anyK (n fuel : Nat) : Nat → Bool :=
  Nat.rec (fun _ => false) (fun _ ih x => cond (Nat.beq x (n - 1)) true (force (x * x % n) fun y => ih y)) fuel
theorem anyK_eq (n : Nat) : ∀ (k x : Nat), anyK n k x = anyEq n x k := by
  intro k
  induction k with
  | zero => intro x; rfl
  | succ k ih =>
    intro x
    have e1 : anyK n (k + 1) x = cond (Nat.beq x (n - 1)) true (anyK n k (x * x % n)) := by
      show cond _ _ (force _ _) = _
      rw [force_eq]; rfl
    rw [e1, ih, anyEq]
    rw [beqN]
    cases Nat.beq x (n - 1) <;> rfl

/-- The strong test, by the kernel. -/
def SPk (a n : Nat) : Bool :=
  force (twos (n - 1)) fun t => force ((n - 1) / 2 ^ t) fun d => force (pwk n 32 (a % n) d 1) fun x => cond (Nat.beq x 1) true (anyK n t x)

theorem SPk_eq (a n : Nat) (hn : 2 ≤ n) (hn2 : n < 4294967296) : SP a n = SPk a n := by
  unfold SPk
  rw [force_eq, force_eq, force_eq, anyK_eq]
  have hd : (n - 1) / 2 ^ twos (n - 1) = oddp (n - 1) := rfl
  have hlt : oddp (n - 1) < 2 ^ 32 := by
    rw [← hd]
    have := Nat.div_le_self (n - 1) (2 ^ twos (n - 1))
    have h3 : (2 : Nat) ^ 32 = 4294967296 := by decide
    omega
  rw [hd, pwk_eq n 32 (a % n) _ 1 hlt (by omega), Nat.one_mul]
  unfold SP pmod
  rw [beqN]
  cases Nat.beq ((a % n) ^ oddp (n - 1) % n) 1 <;> rfl

def rPrimeK (n : Nat) : Bool :=
  cond (Nat.beq n 2) true (cond (Nat.beq n 7) true (cond (Nat.beq n 61) true
    (cond (Nat.ble n 2) false (cond (Nat.beq (n % 2) 0) false (cond (Nat.beq (n % 7) 0) false (cond (Nat.beq (n % 61) 0) false (cond (SPk 2 n) (cond (SPk 7 n) (SPk 61 n) false) false)))))))

theorem rPrimeK_eq (n : Nat) (hn2 : n < 4294967296) : rPrime n = rPrimeK n := by
  unfold rPrime rPrimeK
  by_cases h : 2 < n
  · rw [SPk_eq 2 n (by omega) hn2, SPk_eq 7 n (by omega) hn2, SPk_eq 61 n (by omega) hn2]
    rw [beqN, beqN, beqN]
    have e1 : Nat.ble n 2 = false := by
      cases hb : Nat.ble n 2 with
      | false => rfl
      | true => have := Nat.le_of_ble_eq_true hb; omega
    have m2 : decide (n % 2 = 1) = !(Nat.beq (n % 2) 0) := by
      have e : Nat.beq (n % 2) 0 = decide (n % 2 = 0) := by rw [← beqN, Bool.eq_iff_iff, beq_iff_eq, decide_eq_true_eq]
      rw [e, Bool.eq_iff_iff, decide_eq_true_eq, Bool.not_eq_true', decide_eq_false_iff_not]; omega
    have mk : ∀ k : Nat, decide (0 < n % k) = !(Nat.beq (n % k) 0) := by
      intro k
      have e : Nat.beq (n % k) 0 = decide (n % k = 0) := by rw [← beqN, Bool.eq_iff_iff, beq_iff_eq, decide_eq_true_eq]
      rw [e, Bool.eq_iff_iff, decide_eq_true_eq, Bool.not_eq_true', decide_eq_false_iff_not]; omega
    rw [e1, m2, mk, mk, decide_eq_true h]
    cases Nat.beq n 2 <;> cases Nat.beq n 7 <;> cases Nat.beq n 61 <;> cases Nat.beq (n % 2) 0 <;> cases Nat.beq (n % 7) 0 <;> cases Nat.beq (n % 61) 0 <;> cases SPk 2 n <;> cases SPk 7 n <;> cases SPk 61 n <;> rfl
  · have e1 : Nat.ble n 2 = true := Nat.ble_eq_true_of_le (by omega)
    rcases (show n = 0 ∨ n = 1 ∨ n = 2 by omega) with rfl | rfl | rfl <;> rfl

theorem tryit : rPrimeK 2147483647 = true := by decide +kernel
end Go.Proofs.Ytjfjbkocopaehaa
