/- Plain numbers: what the layer of parameters computes. -/
import Derived.Test.YtjfjbkocopaehaaMathA
namespace Go.Proofs.Ytjfjbkocopaehaa

def isDim (n : Int) : Bool := n == 4 || n == 8 || n == 16 || n == 32

theorem isDim_cases {n : Int} (h : isDim n = true) : n = 4 ∨ n = 8 ∨ n = 16 ∨ n = 32 := by
  unfold isDim at h; simp at h; omega

/-- The power of a prime, or 0. -/
def powv (pr : Nat → Bool) (n : Int) (p : Nat) (e : Int) : Nat :=
  if 3 ≤ p ∧ p < 65536 ∧ pr p = true ∧ p % (2 * n).toNat = 1 ∧ 1 ≤ e ∧ p ^ e.toNat ≤ 2147483647 then p ^ e.toNat else 0

theorem powv_le (pr : Nat → Bool) (n : Int) (p : Nat) (e : Int) : powv pr n p e ≤ 2147483647 := by
  unfold powv; split
  · rename_i h; exact h.2.2.2.2.2
  · omega

theorem powv_no {pr : Nat → Bool} {n : Int} {p : Nat} {e : Int} (h : ¬ (3 ≤ p ∧ p < 65536 ∧ pr p = true ∧ p % (2 * n).toNat = 1 ∧ 1 ≤ e)) : powv pr n p e = 0 := by
  unfold powv; rw [if_neg]; intro hc; exact h ⟨hc.1, hc.2.1, hc.2.2.1, hc.2.2.2.1, hc.2.2.2.2.1⟩

theorem powv_big {pr : Nat → Bool} {n : Int} {p : Nat} {e : Int} {k : Nat} (hp : 3 ≤ p) (hk : (k : Int) ≤ e) (h : 2147483647 < p ^ k) : powv pr n p e = 0 := by
  unfold powv; rw [if_neg]; intro hc
  have : p ^ k ≤ p ^ e.toNat := Nat.pow_le_pow_right (by omega) (by omega)
  omega

theorem powv_yes {pr : Nat → Bool} {n : Int} {p : Nat} {e : Int} {k : Nat} (h : 3 ≤ p ∧ p < 65536 ∧ pr p = true ∧ p % (2 * n).toNat = 1 ∧ 1 ≤ e) (hk : (k : Int) = e) (hb : p ^ k ≤ 2147483647) : powv pr n p e = p ^ k := by
  have : e.toNat = k := by omega
  unfold powv; rw [this, if_pos ⟨h.1, h.2.1, h.2.2.1, h.2.2.2.1, h.2.2.2.2, hb⟩]

/-- May a prime stand in a chain? -/
def goodS (pr : Nat → Bool) (s q : Nat) : Bool :=
  decide (1073741824 < q) && (decide (q ≤ 2147483647) && (decide (q % s = 1) && pr q))
def goodB (pr : Nat → Bool) (n : Int) (t q : Nat) : Bool := goodS pr ((2 * n).toNat * t) q

/-- Parameters. -/
structure Par where
  n : Int
  p : Nat
  r : Int
  ch : List Nat
  sp : Nat
  wt : Int
  er : Nat

def Par.t (pr : Nat → Bool) (x : Par) : Nat := powv pr x.n x.p x.r

def wtB (x : Par) : Bool := decide (1 ≤ x.wt ∧ x.wt ≤ x.n ∧ x.er ≤ 64)
def lenB (n : Nat) : Bool := decide (1 ≤ n ∧ n ≤ 24)
def badB (pr : Nat → Bool) (s sp q : Nat) : Bool := !(decide (q < sp) && goodS pr s q)
def stepOf (pr : Nat → Bool) (x : Par) : Nat := (2 * x.n).toNat * x.t pr

/-- Are they valid? -/
def okB (pr : Nat → Bool) (x : Par) : Bool :=
  isDim x.n && (decide (0 < x.t pr) && (lenB x.ch.length && (wtB x && (goodS pr (stepOf pr x) x.sp && (!(x.ch.any (badB pr (stepOf pr x) x.sp)) && decide x.ch.Nodup)))))

def chk (pr : Nat → Bool) (x : Par) : Int := if okB pr x then 0 else 2
end Go.Proofs.Ytjfjbkocopaehaa
