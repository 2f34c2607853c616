/- Walks of the layer of keys: automorphisms of secrets: the closure, each, Turned; the reference's Turned. keys.Turned. obscuraref13.Turned. -/
import Derived.Test.YtjfjbkocopaehaaDoorKeyX
import Derived.Deep.OwnRows
/-! Walks of the layer of keys: automorphisms of secrets: the closure, each, Turned; the reference's Turned. -/
namespace Go.Proofs.YtjfjbkocopaehaaDoor
open Go.RowKit

def i8s (l : List Int) : List Value := l.map (Value.int .i8)

theorem grown_set0 (w : World) (g i : Nat) (u : Value) : w.grownBy (w.setCell ⟨g, i, none⟩ u).drew (some g) :=
  ⟨rfl, rfl, rfl, by simp [World.setCell, World.drew], fun k _ hne => Below.heap_setCell _ _ _ _ (fun e => hne (by rw [e]))⟩

theorem grown_trans {a b c : World} {g : Nat} (h : a.grownBy b (some g)) (k : b.grownBy c (some g)) : a.grownBy c (some g) :=
  ⟨k.os.trans h.os, k.tape.trans h.tape, k.output.trans h.output, Nat.le_trans h.size k.size, fun i hi hne => (k.block i (Nat.lt_of_lt_of_le hi h.size) hne).trans (h.block i hi hne)⟩
theorem grown_refl (w : World) (g : Nat) : w.grownBy w (some g) := ⟨rfl, rfl, rfl, Nat.le_refl _, fun _ _ _ => rfl⟩
theorem grown_cell {a b : World} {g : Nat} (h : a.grownBy b (some g)) {k i : Nat} (hk : k < a.heap.size) (hne : k ≠ g) : b.cell? ⟨k, i, none⟩ = a.cell? ⟨k, i, none⟩ :=
  World.cell?_of_block (a := ⟨k, i, none⟩) (h.block k hk (by simpa using hne))

theorem made_list (z : Value) (n : Nat) : (madeCells #[z] n).toList = List.replicate n z := by
  apply List.ext_getElem
  · simp [size_madeCells]
  · intro i h1 h2
    simp [madeCells, Nat.mod_one]

theorem turn_no {pr : Nat → Bool} {x : Par} {l : List Int} {k : Int} (h : csec pr x l ≠ 0 ∨ autB x k = false) : turnOk pr x l k = false := by
  unfold turnOk
  rcases h with h | h
  · have : (okB pr x && secB x l) = false := by
      cases hc : (okB pr x && secB x l) with
      | false => rfl
      | true => exfalso; apply h; unfold csec; rw [hc]; rfl
    rw [this]; rfl
  · rw [h]; simp
theorem csec_vals (pr : Nat → Bool) (x : Par) (l : List Int) : csec pr x l = 0 ∨ csec pr x l = 2 := by unfold csec; split <;> simp
theorem csec_zero {pr : Nat → Bool} {x : Par} {l : List Int} (h : csec pr x l = 0) : okB pr x = true ∧ secB x l = true := by
  unfold csec at h
  cases h1 : (okB pr x && secB x l) with
  | false => rw [h1] at h; simp at h
  | true => simpa using h1
theorem okB_dim {pr : Nat → Bool} {x : Par} (h : okB pr x = true) : 4 ≤ x.n ∧ x.n ≤ 32 := by
  have hd : isDim x.n = true := by rw [okB_conds] at h; simp only [Bool.and_eq_true] at h; exact h.1
  have := isDim_cases hd; omega
theorem secB_parts {x : Par} {l : List Int} (h : secB x l = true) : (∀ z, z ∈ l → small1 z = true) ∧ (l.length : Int) = x.n ∧ (weight l : Int) = x.wt := by
  unfold secB at h
  simp only [Bool.and_eq_true, decide_eq_true_eq] at h
  exact ⟨fun z hz => List.all_eq_true.1 h.1 z hz, h.2.1, h.2.2⟩

end Go.Proofs.YtjfjbkocopaehaaDoor

/-! keys.Turned. -/
namespace Go.Proofs.YtjfjbkocopaehaaDoor
open Go.RowKit

end Go.Proofs.YtjfjbkocopaehaaDoor

/-! obscuraref13.Turned. -/
namespace Go.Proofs.YtjfjbkocopaehaaDoor
open Go.RowKit

end Go.Proofs.YtjfjbkocopaehaaDoor
