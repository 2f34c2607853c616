/- Circuits: sizes, numbers, Check (the program's side). -/
import Derived.Test.YtljfgdlgmdcmfaaGreatTypE
namespace Go.Proofs.YtljfgdlgmdcmfaaGreat
open Go.RowKit Wv
set_option linter.unusedVariables false
set_option linter.unusedSimpArgs false

theorem tab_snoc {n : Nat} {f : Nat → AV} : tab (n + 1) f = tab n f ++ [f n] := by unfold tab; rw [List.range_succ, List.map_append]; rfl
def accS (b : Nat) (f : Nat → Nat) : Nat → Nat
  | 0 => b
  | n + 1 => accS b f n + f n
def accX (f : Nat → Nat) : Nat → Nat
  | 0 => 0
  | n + 1 => max (accX f n) (f n)
def accO (b : Bool) (f : Nat → Bool) : Nat → Bool
  | 0 => b
  | n + 1 => accO b f n || f n
theorem accS_le (b : Nat) (f : Nat → Nat) : ∀ {i n : Nat}, i ≤ n → accS b f i ≤ accS b f n
  | i, 0, h => by
    have : i = 0 := by omega
    subst this; exact Nat.le_refl _
  | i, n + 1, h => by
    by_cases e : i = n + 1
    · subst e; exact Nat.le_refl _
    · exact Nat.le_trans (accS_le b f (by omega)) (Nat.le_add_right _ _)
theorem accS_base (b : Nat) (f : Nat → Nat) (n : Nat) : b ≤ accS b f n := accS_le b f (i := 0) (Nat.zero_le n)
theorem accS_one (b : Nat) (f : Nat → Nat) {i n : Nat} (h : i < n) : accS b f i + f i ≤ accS b f n := accS_le b f (i := i + 1) h
theorem accX_le (f g : Nat → Nat) (b : Nat) (h : ∀ i, f i ≤ g i) : ∀ n, accX f n ≤ accS b g n
  | 0 => Nat.zero_le _
  | n + 1 => by
    show max (accX f n) (f n) ≤ accS b g n + g n
    have := accX_le f g b h n
    have := h n
    omega

/-- How many nodes, how deep; is a list too long? -/
def cntE : Ex → Nat
  | .nil => 1
  | .mk k s n nl li na ar => accS 1 (fun i => cntE (ar i)) na
def depE : Ex → Nat
  | .nil => 1
  | .mk k s n nl li na ar => accX (fun i => depE (ar i)) na + 1
def lonE : Ex → Bool
  | .nil => false
  | .mk k s n nl li na ar => accO (decide (600 < (nl : Int))) (fun i => lonE (ar i)) na
theorem dep_cnt (x : Ex) : depE x ≤ cntE x := by
  induction x with
  | nil => exact Nat.le_refl 1
  | mk k s n nl li na ar ih =>
    show accX (fun i => depE (ar i)) na + 1 ≤ accS 1 (fun i => cntE (ar i)) na
    have := accX_le (fun i => depE (ar i)) (fun i => cntE (ar i)) 0 ih na
    have h2 : ∀ n, accS 1 (fun i => cntE (ar i)) n = accS 0 (fun i => cntE (ar i)) n + 1 := fun n => by
      induction n with
      | zero => rfl
      | succ n h => show accS 1 _ n + _ = accS 0 _ n + _ + 1; rw [h]; omega
    rw [h2]; omega

set_option maxHeartbeats 400000 in
set_option maxRecDepth 100000 in
theorem psize_tc (x : Ex) (h : okE x) (hc : cntE x ≤ 4611686018427387904) : TC Tryz.prog 163 [.g (exC x)] (.tup [.v (.int .i64 (cntE x)), .v (.int .i64 (depE x)), .v (.bool (lonE x))]) := by
  induction x with
  | nil => exact h.elim
  | mk k s n nl li na ar ih =>
  obtain ⟨hs, hnl, hna, hh⟩ := h
  have hcn : accS 1 (fun i => cntE (ar i)) na ≤ 4611686018427387904 := hc
  refine Wv.TC.by 42 [0, 1, 17, 16, 18, 15, 6, 2, 7, 3, 8, 4, 9] [(1, 5)] [.tmp 2, .tmp 3, .tmp 4] Tryz.func163 rfl rfl rfl ?clo ?_
  case clo => simp only [Wv.BC]
  unfold exC
  simp (disch := first | assumption | exact Wv.D | fail) only [Wv.B, simprocAttr]
  refine wfor (σ := Nat) (fun i => [(1, .ptr 0 0), (2, .v (.int .i64 (accS 1 (fun i => cntE (ar i)) i : Nat))), (3, .v (.int .i64 (accX (fun i => depE (ar i)) i : Nat))), (4, .v (.bool (accO (decide (600 < (nl : Int))) (fun i => lonE (ar i)) i))), (15, .t na 5 (tabM na fun i => exC (ar i))), (16, .v (.int .i64 na)), (17, .v (.int .i64 i))])
    (fun i => [some (.blk [.v (.int .i64 k), .v (.string s), .v (.int .i64 n), .t nl 1 (tab nl fun i => .v (.int .i64 (li i))), .t na 5 (tabM na fun i => exC (ar i))])])
    (fun i => i ≤ na) (fun i => na - i) 0 (Nat.zero_le _) Wv.V (by simp (disch := first | assumption | exact Wv.D | fail) only [Wv.B, simprocAttr, accS, accX, accO, Int.natCast_one]) ?_
  rintro i hi
  by_cases hlt : i < na
  · have e1 : (i : Int) < na := by omega
    have q1 := accS_one 1 (fun i => cntE (ar i)) hlt
    have q2 := accS_base 1 (fun i => cntE (ar i)) i
    have q3 := dep_cnt (ar i)
    obtain ⟨r, hd⟩ := tabM_drop (f := fun i => exC (ar i)) (fun i => exC_len (ar i)) hlt
    have T := ih i (hh i hlt) (by omega)
    have hG := exG_clo (ar i)
    have hL := tabM_clo (n := na) (f := fun i => exC (ar i)) fun i _ => exC_clo (ar i)
    revert hd T hG hL
    generalize hf : (tabM na fun i => exC (ar i)) = L
    generalize hc1 : cntE (ar i) = c1 at *
    generalize hc2 : depE (ar i) = c2 at *
    generalize hc3 : lonE (ar i) = c3
    have hoy := hh i hlt
    generalize ar i = y at hoy ⊢
    obtain ⟨k', s', n', nl', li', na', ar', rfl⟩ := ok_mk hoy
    rw [exC_mk]
    intro hd T hG hL
    simp only [List.cons_append, List.nil_append] at hd
    simp (disch := first | assumption | exact Wv.D | fail) only [Wv.B, simprocAttr, hd]
    refine call_TC T rfl (cloA1 hG) (by simp only [Wv.BC]) ?_
    simp (disch := first | assumption | exact Wv.D | fail) only [Wv.B, simprocAttr]
    have hmx : (if (c2 : Int) > ((accX (fun i => depE (ar i)) i : Nat) : Int) then (c2 : Int) else ((accX (fun i => depE (ar i)) i : Nat) : Int)) = ((accX (fun i => depE (ar i)) (i + 1) : Nat) : Int) := by
      show _ = ((max (accX (fun i => depE (ar i)) i) (depE (ar i)) : Nat) : Int)
      rw [hc2]
      split <;> omega
    have hsx : ((accS 1 (fun i => cntE (ar i)) i : Nat) : Int) + c1 = ((accS 1 (fun i => cntE (ar i)) (i + 1) : Nat) : Int) := by
      show _ = ((accS 1 (fun i => cntE (ar i)) i + cntE (ar i) : Nat) : Int)
      rw [hc1]; omega
    have hox : accO (decide (600 < (nl : Int))) (fun i => lonE (ar i)) (i + 1) = (accO (decide (600 < (nl : Int))) (fun i => lonE (ar i)) i || c3) := by
      show (_ || lonE (ar i)) = _
      rw [hc3]
    cases ho : accO (decide (600 < (nl : Int))) (fun i => lonE (ar i)) i with
    | true =>
      rw [ho, Bool.true_or] at hox
      simp (disch := first | assumption | exact Wv.D | fail) only [Wv.B, simprocAttr, hmx, hsx]
      refine Wv.k_cut (i + 1) 1 (by first | decide | exact Nat.le_of_ble_eq_true rfl) (by omega) (by omega) (by simp (disch := first | assumption | exact Wv.D | fail) only [Wv.B, simprocAttr, tab_snoc, hox]) (by simp (disch := first | assumption | exact Wv.D | fail) only [Wv.B, simprocAttr, Int.natCast_add, Int.natCast_one, hox]) (by simp only [Wv.BL, ↓reduceIte, Nat.reduceLeDiff, hL] <;> omega) (by simp only [Wv.BL, ↓reduceIte, Nat.reduceLeDiff, hL] <;> omega)
    | false =>
      rw [ho, Bool.false_or] at hox
      simp (disch := first | assumption | exact Wv.D | fail) only [Wv.B, simprocAttr, hmx, hsx]
      refine Wv.k_cut (i + 1) 1 (by first | decide | exact Nat.le_of_ble_eq_true rfl) (by omega) (by omega) (by simp (disch := first | assumption | exact Wv.D | fail) only [Wv.B, simprocAttr, tab_snoc, hox]) (by simp (disch := first | assumption | exact Wv.D | fail) only [Wv.B, simprocAttr, Int.natCast_add, Int.natCast_one, hox]) (by simp only [Wv.BL, ↓reduceIte, Nat.reduceLeDiff, hL] <;> omega) (by simp only [Wv.BL, ↓reduceIte, Nat.reduceLeDiff, hL] <;> omega)
  · have hin : i = na := by omega
    subst hin
    have h1 : cntE (.mk k s n nl li i ar) = accS 1 (fun i => cntE (ar i)) i := rfl
    have h2 : ((depE (.mk k s n nl li i ar) : Nat) : Int) = ((accX (fun i => depE (ar i)) i : Nat) : Int) + 1 := by
      show ((accX (fun i => depE (ar i)) i + 1 : Nat) : Int) = _
      omega
    have h3 : lonE (.mk k s n nl li i ar) = accO (decide (600 < (nl : Int))) (fun i => lonE (ar i)) i := rfl
    have h4 := dep_cnt (.mk k s n nl li i ar)
    simp (disch := first | assumption | exact Wv.D | fail) only [Wv.B, simprocAttr, h1, h2, h3]
end Go.Proofs.YtljfgdlgmdcmfaaGreat
