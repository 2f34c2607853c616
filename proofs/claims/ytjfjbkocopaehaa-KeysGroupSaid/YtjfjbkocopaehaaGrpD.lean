/- KeysGroup: what the calls answer. -/
import Derived.Test.YtjfjbkocopaehaaGrpC
namespace Go.Proofs.Ytjfjbkocopaehaa
open Go.RowKit

theorem dim_of {n : Int} {N : Nat} (hN : n = (N : Int)) (h : isDim n = true) : Dim N := by
  have := isDim_cases h
  unfold Dim; omega
theorem okB_isDim {pr : Nat → Bool} {x : Par} (h : okB pr x = true) : isDim x.n = true := by
  unfold okB at h; rw [Bool.and_eq_true] at h; exact h.1

/-- All that the law asks of the plain lists. -/
structure Grp (x : Par) (l : List Int) (N k m : Nat) (A B L M : List Int) : Prop where
  ta : ∀ pr, okB pr x = true → turnList pr x l k = A ∧ turnErr pr x l k = 0
  tb : ∀ pr, okB pr x = true → turnList pr x A m = B ∧ turnErr pr x A m = 0
  tc : ∀ pr, okB pr x = true → turnList pr x l ((k : Int) * (m : Int) % (2 * (N : Int))) = B ∧ turnErr pr x l ((k : Int) * (m : Int) % (2 * (N : Int))) = 0
  pl : ∀ pr, okB pr x = true → powList pr x l 2 = L ∧ powErr pr x l 2 = 0
  pm : ∀ pr, okB pr x = true → powList pr x A 2 = M ∧ powErr pr x A 2 = 0
  ll : L.length = N
  lm : M.length = N
  at_ : ∀ j, j < N → L.getD j 0 = sq N l j ∧ M.getD (pos N k j) 0 = sgn N k j * sq N l j
  bd : ∀ j, j < N → -1048576 ≤ sq N l j ∧ sq N l j ≤ 1048576
  su : sumTo (fun j => ab (sq N l j)) N ≤ x.wt * x.wt

theorem sq_bd {N : Nat} {l : List Int} (hn : Dim N) (hs : ∀ z, z ∈ l → small1 z = true) {j : Nat} (hj : j < N) : -1048576 ≤ sq N l j ∧ sq N l j ≤ 1048576 := by
  have hN : N ≤ 32 := by rcases hn with h | h | h | h <;> omega
  have h := (powTo_bd hN hs).2.2.getD (by omega) j
  rw [pow2_get hj hN] at h
  exact h
theorem grp_of {x : Par} {l : List Int} {N k m : Nat} (hN : x.n = (N : Int)) (hn : Dim N) (hsec : secB x l = true) (hk : k % 2 = 1) (hk2 : k < 2 * N) (hm : m % 2 = 1) (hm2 : m < 2 * N) :
    Grp x l N k m (turnTo N k l N) (turnTo N m (turnTo N k l N) N) ((powTo N l 2).take N) ((powTo N (turnTo N k l N) 2).take N) := by
  obtain ⟨hsm, hlen0, hw⟩ := secB_parts hsec
  have hlen : l.length = N := by omega
  have hN4 : 4 ≤ N := by rcases hn with h | h | h | h <;> omega
  have hN32 : N ≤ 32 := by rcases hn with h | h | h | h <;> omega
  have hsmA : ∀ z, z ∈ turnTo N k l N → small1 z = true := turnTo_small hsm N
  have hsecA : secB x (turnTo N k l N) = true := secB_yes hsmA (by rw [turnTo_length, hN]) (by rw [turn_weight hn hk hlen]; exact hw)
  have haut : ∀ q : Nat, q % 2 = 1 → q < 2 * N → autB x q = true := by
    intro q h1 h2
    unfold autB
    rw [decide_eq_true (show 1 ≤ (q : Int) by omega), decide_eq_true (show (q : Int) < 2 * x.n by omega), decide_eq_true (show (q : Int) % 2 = 1 by omega)]; rfl
  have hT : ∀ (pr : Nat → Bool) (t : List Int) (q : Nat), okB pr x = true → secB x t = true → q % 2 = 1 → q < 2 * N → turnList pr x t q = turnTo N q t N ∧ turnErr pr x t q = 0 := by
    intro pr t q h1 h2 h3 h4
    have h : turnOk pr x t q = true := by unfold turnOk; rw [h1, h2, haut q h3 h4]; rfl
    unfold turnList turnErr
    rw [h, hN]; exact ⟨rfl, rfl⟩
  have hP : ∀ (pr : Nat → Bool) (t : List Int), okB pr x = true → secB x t = true → powList pr x t 2 = (powTo N t 2).take N ∧ powErr pr x t 2 = 0 := by
    intro pr t h1 h2
    have h : powOk pr x t 2 = true := by unfold powOk; rw [h1, h2]; decide
    unfold powList powErr
    rw [h, hN]; exact ⟨rfl, rfl⟩
  have hc0 : (k : Int) * (m : Int) % (2 * (N : Int)) = ((k * m % (2 * N) : Nat) : Int) := by simp
  have hc1 : k * m % (2 * N) % 2 = 1 := by
    have h1 : k * m % 2 = 1 := by rw [Nat.mul_mod, hk, hm]
    rw [Nat.mod_mod_of_dvd _ ⟨N, rfl⟩]; exact h1
  have hc2 : k * m % (2 * N) < 2 * N := Nat.mod_lt _ (by omega)
  have hget : ∀ (t : List Int) (j : Nat), j < N → ((powTo N t 2).take N).getD j 0 = sq N t j := by
    intro t j hj
    rw [← pow2_get hj hN32, List.getD_eq_getElem?_getD, List.getD_eq_getElem?_getD, List.getElem?_take, if_pos hj]
  refine ⟨fun pr h => hT pr l k h hsec hk hk2, fun pr h => hT pr _ m h hsecA hm hm2, fun pr h => ?_, fun pr h => hP pr l h hsec, fun pr h => hP pr _ h hsecA, ?_, ?_, ?_, ?_, ?_⟩
  · rw [hc0, turn_comp hn hk hm]; exact hT pr l _ h hsec hc1 hc2
  · rw [List.length_take, powTo_length]; omega
  · rw [List.length_take, powTo_length]; omega
  · intro j hj
    exact ⟨hget l j hj, by rw [hget _ _ (pos_lt hn k j), sq_turn hn hk]⟩
  · intro j hj
    exact sq_bd hn hsm hj
  · have := sq_sum hn hlen hsm
    rw [← hw]; exact this
end Go.Proofs.Ytjfjbkocopaehaa
