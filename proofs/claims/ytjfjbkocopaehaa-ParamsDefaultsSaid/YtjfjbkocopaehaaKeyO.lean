/- keys.Turned, obscuraref13.Turned: one contract each. -/
import Derived.Test.YtjfjbkocopaehaaKeyN
namespace Go.Proofs.Ytjfjbkocopaehaa
open Go.RowKit

theorem turnOk_parts {pr : Nat → Bool} {x : Par} {l : List Int} {k : Int} (h : turnOk pr x l k = true) : okB pr x = true ∧ secB x l = true ∧ autB x k = true := by
  unfold turnOk at h
  rw [Bool.and_eq_true, Bool.and_eq_true] at h
  exact ⟨h.1.1, h.1.2, h.2⟩
theorem secB_len {x : Par} {l : List Int} (h : secB x l = true) : (l.length : Int) = x.n ∧ ∀ z, z ∈ l → small1 z = true := by
  unfold secB at h
  rw [Bool.and_eq_true, Bool.and_eq_true] at h
  exact ⟨of_decide_eq_true h.2.1, fun z hz => List.all_eq_true.1 h.1 z hz⟩
theorem small1_wf {z : Int} (h : small1 z = true) : (Lit.int .i8 z).wf = true := by
  apply wf_i8_mk
  unfold small1 at h
  simp at h
  omega

theorem turned_any (x : Par) (cv sv : Value) (l : List Int) (k : Int) (w : World) (hx : ParOk x) (hcv : SliceAt w cv x.ch) (hs : SliceZ .i8 w sv l) :
    Calls Try.prog 11 #[x.val cv, .agg #[sv], .int .i64 k] w fun r w' => (∃ v, r = .returned (.tuple #[.agg #[v], .int .i64 (turnErr mPrime x l k)]) ∧ SliceZ .i8 w' v (turnList mPrime x l k)) ∧ Below w.heap.size w w' := by
  have hlen : l.length ≤ 140737488351232 := by obtain ⟨p, cap, _, _, h, _⟩ := hs; exact h
  cases hok : turnOk mPrime x l k with
  | false =>
    refine (turned_no x cv sv l k w hx hcv hs hlen hok).mono ?_
    rintro r w' ⟨rfl, hb⟩
    exact ⟨⟨_, by unfold turnErr; rw [hok]; rfl, by unfold turnList; rw [hok]; exact SliceZ.nil _ _⟩, hb⟩
  | true =>
    obtain ⟨h1, h2, h3⟩ := turnOk_parts hok
    have hd := okB_dim h1
    obtain ⟨hl, hsm⟩ := secB_len h2
    obtain ⟨N, hN⟩ : ∃ N : Nat, x.n = N := ⟨x.n.toNat, by omega⟩
    obtain ⟨K, rfl⟩ : ∃ K : Nat, k = K := ⟨k.toNat, by unfold autB at h3; simp at h3; omega⟩
    obtain ⟨p, cap, rfl, hc1, hc2, hrow⟩ := hs
    obtain ⟨b, off, rfl, hr⟩ := hrow (by intro e; subst e; simp at hl; omega)
    refine (turned_yes x cv b off cap N K l w hx hcv hr hc1 hlen hok hN).mono ?_
    rintro r w' ⟨g, rfl, hblk, _, hb⟩
    have hL : turnList mPrime x l K = turnTo N K l N := by unfold turnList; rw [hok, hN]; rfl
    have hS := SliceZ.ofBlk (k := .i8) (l := turnTo N K l N) hblk (by rw [turnTo_length]; omega) (fun q hq => small1_wf (turnTo_small hsm N q hq))
    rw [turnTo_length] at hS
    exact ⟨⟨_, by unfold turnErr; rw [hok]; rfl, by rw [hL]; exact hS⟩, hb⟩
theorem rturned_any (x : Par) (cv sv : Value) (l : List Int) (k : Int) (w : World) (hx : ParOk x) (hcv : SliceAt w cv x.ch) (hs : SliceZ .i8 w sv l) :
    Calls Try.prog 12 #[x.val cv, .agg #[sv], .int .i64 k] w fun r w' => (∃ v, r = .returned (.tuple #[.agg #[v], .int .i64 (turnErr rPrime x l k)]) ∧ SliceZ .i8 w' v (turnList rPrime x l k)) ∧ Below w.heap.size w w' := by
  have hlen : l.length ≤ 140737488351232 := by obtain ⟨p, cap, _, _, h, _⟩ := hs; exact h
  cases hok : turnOk rPrime x l k with
  | false =>
    refine (rturned_no x cv sv l k w hx hcv hs hlen hok).mono ?_
    rintro r w' ⟨rfl, hb⟩
    exact ⟨⟨_, by unfold turnErr; rw [hok]; rfl, by unfold turnList; rw [hok]; exact SliceZ.nil _ _⟩, hb⟩
  | true =>
    obtain ⟨h1, h2, h3⟩ := turnOk_parts hok
    have hd := okB_dim h1
    obtain ⟨hl, hsm⟩ := secB_len h2
    obtain ⟨N, hN⟩ : ∃ N : Nat, x.n = N := ⟨x.n.toNat, by omega⟩
    obtain ⟨K, rfl⟩ : ∃ K : Nat, k = K := ⟨k.toNat, by unfold autB at h3; simp at h3; omega⟩
    obtain ⟨p, cap, rfl, hc1, hc2, hrow⟩ := hs
    obtain ⟨b, off, rfl, hr⟩ := hrow (by intro e; subst e; simp at hl; omega)
    refine (rturned_yes x cv b off cap N K l w hx hcv hr hc1 hlen hok hN).mono ?_
    rintro r w' ⟨g, rfl, hblk, _, hb⟩
    have hL : turnList rPrime x l K = turnTo N K l N := by unfold turnList; rw [hok, hN]; rfl
    have hS := SliceZ.ofBlk (k := .i8) (l := turnTo N K l N) hblk (by rw [turnTo_length]; omega) (fun q hq => small1_wf (turnTo_small hsm N q hq))
    rw [turnTo_length] at hS
    exact ⟨⟨_, by unfold turnErr; rw [hok]; rfl, by rw [hL]; exact hS⟩, hb⟩
theorem power_any (x : Par) (cv sv : Value) (l : List Int) (k : Int) (w : World) (hx : ParOk x) (hcv : SliceAt w cv x.ch) (hs : SliceZ .i8 w sv l) :
    Calls Try.prog 17 #[x.val cv, .agg #[sv], .int .i64 k] w fun r w' => (∃ v, r = .returned (.tuple #[v, .int .i64 (powErr mPrime x l k)]) ∧ SliceZ .i64 w' v (powList mPrime x l k)) ∧ Below w.heap.size w w' := by
  have hlen : l.length ≤ 140737488351232 := by obtain ⟨p, cap, _, _, h, _⟩ := hs; exact h
  cases hok : powOk mPrime x l k with
  | false =>
    refine (power_no x cv sv l k w hx hcv hs hlen hok).mono ?_
    rintro r w' ⟨rfl, hb⟩
    exact ⟨⟨_, by unfold powErr; rw [hok]; rfl, by unfold powList; rw [hok]; exact SliceZ.nil _ _⟩, hb⟩
  | true =>
    have hq := hok
    unfold powOk at hq
    simp only [Bool.and_eq_true, decide_eq_true_eq] at hq
    obtain ⟨⟨h1, h2⟩, h3, h4⟩ := hq
    have hd := okB_dim h1
    obtain ⟨hl, hsm⟩ := secB_len h2
    obtain ⟨N, hN⟩ : ∃ N : Nat, x.n = N := ⟨x.n.toNat, by omega⟩
    obtain ⟨K, rfl⟩ : ∃ K : Nat, k = K := ⟨k.toNat, by omega⟩
    obtain ⟨p, cap, rfl, hc1, hc2, hrow⟩ := hs
    obtain ⟨b, off, rfl, hr⟩ := hrow (by intro e; subst e; simp at hl; omega)
    refine (power_yes x cv b off cap N K l w hx hcv hr hc1 hlen hok hN).mono ?_
    rintro r w' ⟨v, rfl, hS, hb⟩
    have hL : powList mPrime x l K = (powTo N l K).take N := by unfold powList; rw [hok, hN]; rfl
    exact ⟨⟨v, by unfold powErr; rw [hok]; rfl, by rw [hL]; exact hS⟩, hb⟩
end Go.Proofs.Ytjfjbkocopaehaa
