/- Plain numbers: powers of secrets. -/
import Derived.Test.YtjfjbkocopaehaaMathH
namespace Go.Proofs.Ytjfjbkocopaehaa

/-- All numbers of a list lie within a bound. -/
def Bd (M : Int) (l : List Int) : Prop := ∀ z, z ∈ l → -M ≤ z ∧ z ≤ M
theorem Bd.mono {M M' : Int} {l : List Int} (h : Bd M l) (hM : M ≤ M') : Bd M' l := fun z hz => by have := h z hz; omega
theorem Bd.getD {M : Int} {l : List Int} (h : Bd M l) (hM : 0 ≤ M) (i : Nat) : -M ≤ l.getD i 0 ∧ l.getD i 0 ≤ M := by
  rw [List.getD_eq_getElem?_getD]
  by_cases hi : i < l.length
  · rw [List.getElem?_eq_getElem hi]; exact h _ (List.getElem_mem hi)
  · rw [List.getElem?_eq_none (by omega)]; show -M ≤ 0 ∧ 0 ≤ M; omega
theorem Bd.set {M : Int} {l : List Int} (h : Bd M l) (i : Nat) {v : Int} (hv : -M ≤ v ∧ v ≤ M) : Bd M (l.set i v) := fun z hz => by
  rcases List.mem_or_eq_of_mem_set hz with h1 | h1
  · exact h z h1
  · rw [h1]; exact hv

def mulStep (n : Nat) (l cur nxt : List Int) (i f : Nat) : List Int :=
  if (f + i) % (2 * n) < n then nxt.set ((f + i) % (2 * n)) (nxt.getD ((f + i) % (2 * n)) 0 + 1 * cur.getD i 0 * l.getD f 0)
  else nxt.set ((f + i) % (2 * n) - n) (nxt.getD ((f + i) % (2 * n) - n) 0 + -1 * cur.getD i 0 * l.getD f 0)
def mulRow (n : Nat) (l cur nxt : List Int) (i : Nat) : Nat → List Int
  | 0 => nxt
  | f + 1 => mulStep n l cur (mulRow n l cur nxt i f) i f
def mulTo (n : Nat) (l cur : List Int) : Nat → List Int
  | 0 => List.replicate 32 0
  | i + 1 => mulRow n l cur (mulTo n l cur i) i n
def powTo (n : Nat) (l : List Int) : Nat → List Int
  | 0 => 1 :: List.replicate 31 0
  | j + 1 => mulTo n l (powTo n l j) n

theorem mulStep_length (n : Nat) (l cur nxt : List Int) (i f : Nat) : (mulStep n l cur nxt i f).length = nxt.length := by
  unfold mulStep; split <;> simp
theorem mulRow_length (n : Nat) (l cur nxt : List Int) (i : Nat) : ∀ f, (mulRow n l cur nxt i f).length = nxt.length := by
  intro f
  induction f with
  | zero => rfl
  | succ f ih => rw [mulRow, mulStep_length, ih]
theorem mulTo_length (n : Nat) (l cur : List Int) : ∀ i, (mulTo n l cur i).length = 32 := by
  intro i
  induction i with
  | zero => rw [mulTo, List.length_replicate]
  | succ i ih => rw [mulTo, mulRow_length, ih]
theorem powTo_length (n : Nat) (l : List Int) (j : Nat) : (powTo n l j).length = 32 := by
  cases j with
  | zero => simp [powTo]
  | succ j => rw [powTo, mulTo_length]

/-- A product of a sign, a bounded number and a small one. -/
theorem sg_bd {s c z B : Int} (hs : s = 1 ∨ s = -1) (hc : -B ≤ c ∧ c ≤ B) (hz : z = -1 ∨ z = 0 ∨ z = 1) : (-B ≤ s * c ∧ s * c ≤ B) ∧ (-B ≤ s * c * z ∧ s * c * z ≤ B) := by
  rcases hs with rfl | rfl <;> rcases hz with rfl | rfl | rfl <;> simp <;> omega

theorem getD_small {l : List Int} (hl : ∀ z, z ∈ l → small1 z = true) (i : Nat) : l.getD i 0 = -1 ∨ l.getD i 0 = 0 ∨ l.getD i 0 = 1 := by
  rw [← small1_iff, List.getD_eq_getElem?_getD]
  by_cases h : i < l.length
  · rw [List.getElem?_eq_getElem h]; exact hl _ (List.getElem_mem h)
  · rw [List.getElem?_eq_none (by omega)]; rfl

theorem mulStep_bd {n : Nat} {l cur nxt : List Int} {i f : Nat} {M B : Int} (hl : ∀ z, z ∈ l → small1 z = true) (hB0 : 0 ≤ B) (hM0 : 0 ≤ M) (hc : Bd B cur) (hn : Bd M nxt) : Bd (M + B) (mulStep n l cur nxt i f) := by
  have h1 := (sg_bd (.inl rfl) (hc.getD hB0 i) (getD_small hl f)).2
  have h2 := (sg_bd (.inr rfl) (hc.getD hB0 i) (getD_small hl f)).2
  unfold mulStep
  split
  · have h3 := hn.getD hM0 ((f + i) % (2 * n))
    exact (hn.mono (by omega)).set _ (by omega)
  · have h3 := hn.getD hM0 ((f + i) % (2 * n) - n)
    exact (hn.mono (by omega)).set _ (by omega)

theorem mulRow_bd {n : Nat} {l cur nxt : List Int} {i : Nat} {M B : Int} (hl : ∀ z, z ∈ l → small1 z = true) (hB0 : 0 ≤ B) (hM0 : 0 ≤ M) (hc : Bd B cur) (hn : Bd M nxt) : ∀ f : Nat, Bd (M + f * B) (mulRow n l cur nxt i f) := by
  intro f
  induction f with
  | zero => simpa [mulRow] using hn
  | succ f ih =>
    have hfB : 0 ≤ (f : Int) * B := Int.mul_nonneg (by omega) hB0
    have h := mulStep_bd (n := n) (i := i) (f := f) hl hB0 (show 0 ≤ M + f * B by omega) hc ih
    refine h.mono ?_
    rw [Int.natCast_add, Int.add_mul]; simp; omega

theorem mulTo_bd {n : Nat} {l cur : List Int} {B : Int} (hn : n ≤ 32) (hl : ∀ z, z ∈ l → small1 z = true) (hB0 : 0 ≤ B) (hc : Bd B cur) : ∀ i : Nat, Bd (i * (32 * B)) (mulTo n l cur i) := by
  intro i
  induction i with
  | zero => intro z hz; rw [mulTo, List.mem_replicate] at hz; rw [hz.2]; simp
  | succ i ih =>
    have hiB : 0 ≤ (i : Int) * (32 * B) := Int.mul_nonneg (by omega) (by omega)
    have h := mulRow_bd (n := n) (i := i) hl hB0 hiB hc ih n
    refine h.mono ?_
    have : (n : Int) * B ≤ 32 * B := Int.mul_le_mul_of_nonneg_right (by omega) hB0
    rw [Int.natCast_add, Int.add_mul]; simp; omega

theorem powTo_bd {n : Nat} {l : List Int} (hn : n ≤ 32) (hl : ∀ z, z ∈ l → small1 z = true) : Bd 1 (powTo n l 0) ∧ Bd 1024 (powTo n l 1) ∧ Bd 1048576 (powTo n l 2) := by
  have h0 : Bd 1 (powTo n l 0) := by
    intro z hz
    simp only [powTo, List.mem_cons, List.mem_replicate] at hz
    rcases hz with h | h <;> omega
  have h1 : Bd 1024 (powTo n l 1) := (mulTo_bd hn hl (by omega) h0 n).mono (by omega)
  exact ⟨h0, h1, (mulTo_bd hn hl (by omega) h1 n).mono (by omega)⟩

def powOk (pr : Nat → Bool) (x : Par) (l : List Int) (e : Int) : Bool := okB pr x && secB x l && (decide (0 ≤ e) && decide (e ≤ 2))
def powList (pr : Nat → Bool) (x : Par) (l : List Int) (e : Int) : List Int := if powOk pr x l e then (powTo x.n.toNat l e.toNat).take x.n.toNat else []
def powErr (pr : Nat → Bool) (x : Par) (l : List Int) (e : Int) : Int := if powOk pr x l e then 0 else 2
end Go.Proofs.Ytjfjbkocopaehaa
