/- obscuralaw13.Large; KeysForms: the walk. -/
import Derived.Test.YtjfjbkocopaehaaRngI
import Derived.Test.YtjfjbkocopaehaaKeyR
import Derived.Deep.QuietTactic
import Derived.BigQuiet
namespace Go.Proofs.Ytjfjbkocopaehaa
open Go.RowKit

def largeB (rows : List (List Nat)) : Bool := decide (40 < rows.length) || rows.any (fun r => decide (80 < r.length))
theorem large_yes {rows : List (List Nat)} {i : Nat} (hi : i < rows.length) (h : 80 < rows[i].length) : largeB rows = true := by
  unfold largeB
  rw [Bool.or_eq_true]; right
  exact List.any_eq_true.2 ⟨rows[i], List.getElem_mem hi, decide_eq_true h⟩
theorem large_no {rows : List (List Nat)} (h0 : ¬ 40 < rows.length) (h : ∀ i (hi : i < rows.length), rows[i].length ≤ 80) : largeB rows = false := by
  unfold largeB
  rw [Bool.or_eq_false_iff]
  refine ⟨decide_eq_false h0, ?_⟩
  rw [List.any_eq_false]
  intro r hr
  obtain ⟨i, hi, rfl⟩ := List.getElem_of_mem hr
  have := h i hi
  simpa using this

set_option maxHeartbeats 1000000 in
set_option maxRecDepth 100000 in
theorem large_any (rv : Value) (lv : Int) (sp : Bool) (rows : List (List Nat)) (w : World) (hrv : SliceR w rv rows) :
    Calls Try.prog 22 #[elVal lv sp rv] w fun r w' => r = .returned (.bool (largeB rows)) ∧ Below w.heap.size w w' := by
  obtain ⟨pr, cr, rfl, hr1, hr2, hrr⟩ := hrv
  have HRR := Lib.hid hrr
  clear hrr
  unfold elVal
  by_cases h40 : 40 < rows.length
  · have HR : Hid (largeB rows = true) := by unfold largeB; rw [decide_eq_true h40]; rfl
    have d1 : decide (40 < rows.length) = true := decide_eq_true h40
    have d2 : decide ((40 : Int) < (rows.length : Int)) = true := decide_eq_true (by omega)
    go_enter Try.func22, Try.ntmps22
    go_wp2_with fail
    go_ret
    exact ⟨ret_bool HR.out.symm, (Below.refl _ _).alloc (Nat.le_refl _) _⟩
  · have d1 : decide (40 < rows.length) = false := decide_eq_false h40
    have d2 : decide ((40 : Int) < (rows.length : Int)) = false := decide_eq_false (by omega)
    go_enter Try.func22, Try.ntmps22
    go_wp2_with fail
    have hB : Below w.heap.size w (w.alloc (.cells #[.int .i64 lv, .bool sp, .slice pr rows.length cr] 51)) := (Below.refl _ _).alloc (Nat.le_refl _) _
    have hc : (w.alloc (.cells #[.int .i64 lv, .bool sp, .slice pr rows.length cr] 51)).cell? ⟨w.heap.size, 2, none⟩ = some (.slice pr rows.length cr) := by simp [go_sem]
    generalize (w.alloc (.cells #[.int .i64 lv, .bool sp, .slice pr rows.length cr] 51)) = W at hB hc ⊢
    have HB := Lib.hid hB
    clear hB
    go_loop [3] (fun vi => ∃ i : Nat, vi = .int .i64 i ∧ i ≤ rows.length ∧ Hid (∀ k (hk : k < rows.length), k < i → rows[k].length ≤ 80)) (fun vi => rows.length - (intOf vi).toNat)
    case atStart => exact ⟨0, rfl, by omega, fun k _ hk => absurd hk (by omega)⟩
    case round =>
      obtain ⟨i, rfl, hi, hgood⟩ := hrel
      by_cases hlt : i < rows.length
      · obtain ⟨b, off, rfl, hbl, hrow⟩ := HRR.out (by intro e; rw [e] at hlt; simp at hlt)
        obtain ⟨u, hu, hsu⟩ := hrow i hlt
        obtain ⟨pu, cu, rfl, hu1, hu2, huu⟩ := hsu
        have hu' := (below_at HB.out hbl).trans hu
        have i0 : (0 : Int) ≤ (i : Int) := by omega
        have i1 : (i : Int) < (rows.length : Int) := by omega
        clear hrow hu huu
        by_cases h80 : 80 < rows[i].length
        · have HR : Hid (largeB rows = true) := large_yes hlt h80
          have e1 : decide (80 < rows[i].length) = true := decide_eq_true h80
          have e2 : decide ((80 : Int) < (rows[i].length : Int)) = true := decide_eq_true (by omega)
          go_wp2_with fail
          go_ret
          exact ⟨ret_bool HR.out.symm, HB.out⟩
        · have e1 : decide (80 < rows[i].length) = false := decide_eq_false h80
          have e2 : decide ((80 : Int) < (rows[i].length : Int)) = false := decide_eq_false (by omega)
          have hg2 : Hid (∀ k (hk : k < rows.length), k < i + 1 → rows[k].length ≤ 80) := fun k hk h1 => by
            by_cases e : k = i
            · subst e; omega
            · exact hgood.out k hk (by omega)
          go_wp2_with fail
          go_round
          case rel => exact ⟨i + 1, by go_num, by omega, hg2⟩
          case measure => simp [intOf]; omega
      · have i1 : ¬ ((i : Int) < (rows.length : Int)) := by omega
        have HR : Hid (largeB rows = false) := large_no (by omega) (fun k hk => hgood.out k hk (by omega))
        go_wp2_with fail
        go_ret
        exact ⟨ret_bool HR.out.symm, HB.out⟩
end Go.Proofs.Ytjfjbkocopaehaa
