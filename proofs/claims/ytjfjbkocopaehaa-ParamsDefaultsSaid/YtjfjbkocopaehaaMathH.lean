/- Plain numbers: what the layer of keys computes. -/
import Derived.Test.YtjfjbkocopaehaaMathB
namespace Go.Proofs.Ytjfjbkocopaehaa

def small1 (z : Int) : Bool := z == -1 || (z == 1 || z == 0)
def weight (l : List Int) : Nat := (l.filter (fun z => z != 0)).length
theorem weight_le (l : List Int) : weight l ≤ l.length := List.length_filter_le _ _
theorem weight_snoc (l : List Int) (z : Int) : weight (l ++ [z]) = weight l + (if z = 0 then 0 else 1) := by
  unfold weight
  rw [List.filter_append, List.length_append]
  by_cases h : z = 0 <;> simp [h]

theorem take_snoc {α : Type} (l : List α) (k : Nat) (h : k < l.length) : l.take (k + 1) = l.take k ++ [l[k]] := List.take_succ_eq_append_getElem h

/-- Does a secret fit? -/
def secB (x : Par) (l : List Int) : Bool := l.all small1 && (decide ((l.length : Int) = x.n) && decide ((weight l : Int) = x.wt))
def csec (pr : Nat → Bool) (x : Par) (l : List Int) : Int := if okB pr x && secB x l then 0 else 2

theorem secB_no {x : Par} {l : List Int} (h : (∃ z, z ∈ l ∧ small1 z = false) ∨ (l.length : Int) ≠ x.n ∨ (weight l : Int) ≠ x.wt) : secB x l = false := by
  unfold secB
  rcases h with ⟨z, hz, h⟩ | h | h
  · have : l.all small1 = false := by rw [List.all_eq_false]; exact ⟨z, hz, by rw [h]; simp⟩
    rw [this]; rfl
  · rw [decide_eq_false h]; simp
  · rw [decide_eq_false h]; simp
theorem secB_yes {x : Par} {l : List Int} (h1 : ∀ z, z ∈ l → small1 z = true) (h2 : (l.length : Int) = x.n) (h3 : (weight l : Int) = x.wt) : secB x l = true := by
  unfold secB
  rw [List.all_eq_true.2 h1, decide_eq_true h2, decide_eq_true h3]; rfl

theorem small1_iff {z : Int} : small1 z = true ↔ z = -1 ∨ z = 0 ∨ z = 1 := by
  unfold small1
  simp only [Bool.or_eq_true, beq_iff_eq]
  omega

theorem chk_zero {pr : Nat → Bool} {x : Par} : (chk pr x = 0) = (okB pr x = true) := by
  unfold chk
  cases okB pr x <;> simp
theorem chk_two {pr : Nat → Bool} {x : Par} (h : okB pr x = false) : chk pr x = 2 := by unfold chk; rw [h]; rfl
theorem chk_ok {pr : Nat → Bool} {x : Par} (h : okB pr x = true) : chk pr x = 0 := by unfold chk; rw [h]; rfl

/-- An automorphism? -/
def autB (x : Par) (k : Int) : Bool := decide (1 ≤ k) && (decide (k < 2 * x.n) && decide (k % 2 = 1))

/-- One step of the automorphism: to which place, with which sign. -/
def turnStep (n k : Nat) (l out : List Int) (i : Nat) : List Int :=
  if i * k % (2 * n) < n then out.set (i * k % (2 * n)) (l.getD i 0) else out.set (i * k % (2 * n) - n) (-(l.getD i 0))
def turnTo (n k : Nat) (l : List Int) : Nat → List Int
  | 0 => List.replicate n 0
  | i + 1 => turnStep n k l (turnTo n k l i) i

theorem turnStep_length (n k : Nat) (l out : List Int) (i : Nat) : (turnStep n k l out i).length = out.length := by
  unfold turnStep; split <;> simp
theorem turnTo_length (n k : Nat) (l : List Int) (i : Nat) : (turnTo n k l i).length = n := by
  induction i with
  | zero => simp [turnTo]
  | succ i ih => rw [turnTo, turnStep_length, ih]

theorem turnTo_small {n k : Nat} {l : List Int} (hl : ∀ z, z ∈ l → small1 z = true) : ∀ i, ∀ z, z ∈ turnTo n k l i → small1 z = true := by
  intro i
  induction i with
  | zero => intro z hz; rw [turnTo, List.mem_replicate] at hz; rw [hz.2]; rfl
  | succ i ih =>
    intro z hz
    have hg : small1 (l.getD i 0) = true := by
      rw [List.getD_eq_getElem?_getD]
      by_cases h : i < l.length
      · rw [List.getElem?_eq_getElem h]; exact hl _ (List.getElem_mem h)
      · rw [List.getElem?_eq_none (by omega)]; rfl
    have hn : small1 (-(l.getD i 0)) = true := by rw [small1_iff] at hg ⊢; omega
    rw [turnTo] at hz
    unfold turnStep at hz
    split at hz
    · rcases List.mem_or_eq_of_mem_set hz with h | h
      · exact ih z h
      · rw [h]; exact hg
    · rcases List.mem_or_eq_of_mem_set hz with h | h
      · exact ih z h
      · rw [h]; exact hn

def turnOk (pr : Nat → Bool) (x : Par) (l : List Int) (k : Int) : Bool := okB pr x && secB x l && autB x k
def turnList (pr : Nat → Bool) (x : Par) (l : List Int) (k : Int) : List Int := if turnOk pr x l k then turnTo x.n.toNat k.toNat l x.n.toNat else []
def turnErr (pr : Nat → Bool) (x : Par) (l : List Int) (k : Int) : Int := if turnOk pr x l k then 0 else 2
end Go.Proofs.Ytjfjbkocopaehaa
