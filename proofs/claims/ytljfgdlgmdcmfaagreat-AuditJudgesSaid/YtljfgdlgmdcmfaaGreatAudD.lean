/- Audit: the law AuditJudges. -/
import Derived.Test.YtljfgdlgmdcmfaaGreatAudA
import Derived.Test.YtljfgdlgmdcmfaaGreatAudC
namespace Go.Proofs.YtljfgdlgmdcmfaaGreat
open Go.RowKit Wv
set_option linter.unusedVariables false
set_option linter.unusedSimpArgs false

set_option maxHeartbeats 400000 in
set_option maxRecDepth 100000 in
theorem ajudges_tc (m1 : Nat) (ln1 : Nat → Nat) (vs1 : Nat → Nat → Int) (m2 : Nat) (ln2 : Nat → Nat) (vs2 : Nat → Nat → Int) (ns : Nat) (sl : Nat → Int) (h1 : m1 ≤ 140737488351232) (h2 : m2 ≤ 140737488351232) (hs : ns ≤ 140737488351232) (hl1 : ∀ i, i < m1 → ln1 i ≤ 140737488351232) (hl2 : ∀ i, i < m2 → ln2 i ≤ 140737488351232) :
    TC Tryz.prog 12 [jG m1 ln1 vs1, jG m2 ln2 vs2, roA ns sl] (.v (.bool true)) := by
  have hC1 := jG_clo m1 ln1 vs1
  have hC2 := jG_clo m2 ln2 vs2
  have hCs := roA_clo ns sl
  have hgm : ∀ {m : Nat} {ln : Nat → Nat}, grB m ln = false → m ≤ 50 := fun {m ln} h => by
    unfold grB at h
    rw [Bool.or_eq_false_iff] at h
    have := of_decide_eq_false h.2
    omega
  have hlen : ∀ (h : Hp) (e : TypeId) (b : Bool), lenC h (roA ns sl) (some e) b = some ns := fun h e b => by unfold roA; rfl
  refine Wv.TC.by 29 [8, 0, 1, 2, 19, 6] [] [.tmp 6] Tryz.func12 rfl rfl rfl ?clo ?_
  case clo => simp only [Wv.BC]
  simp (disch := first | assumption | exact Wv.D | fail) only [Wv.B, simprocAttr]
  refine call_TC shown38_tc rfl (by simp only [Wv.BC]) (by simp only [Wv.BC]) ?_
  simp (disch := first | assumption | exact Wv.D | fail) only [Wv.B, simprocAttr]
  refine call_TC (lgreat_tc m1 ln1 vs1 h1 hl1) rfl (by simp only [Wv.BC]; exact hC1) (by simp only [Wv.BC]) ?_
  cases g1 : grB m1 ln1 with
  | true => simp (disch := first | assumption | exact Wv.D | fail) only [Wv.B, simprocAttr]
  | false =>
  simp (disch := first | assumption | exact Wv.D | fail) only [Wv.B, simprocAttr]
  refine call_TC (lgreat_tc m2 ln2 vs2 h2 hl2) rfl (by simp only [Wv.BC]; exact hC2) (by simp only [Wv.BC]) ?_
  cases g2 : grB m2 ln2 with
  | true => simp (disch := first | assumption | exact Wv.D | fail) only [Wv.B, simprocAttr]
  | false =>
  have k1 := hgm g1
  have k2 := hgm g2
  by_cases c : 100 < ns
  · simp (disch := first | assumption | exact Wv.D | fail) only [Wv.B, simprocAttr, hlen, decide_eq_true (show (ns : Int) > 100 by omega), decide_eq_true (show (100 : Int) < ns by omega)]
  have P := pjudge_tc m1 ln1 vs1 m2 ln2 vs2 ns sl (by omega) (by omega) (by omega) hl1 hl2
  have R := rjudge_tc m1 ln1 vs1 m2 ln2 vs2 ns sl (by omega) (by omega) (by omega) hl1 hl2
  have hJ := jL_clo (jB m2 ln1 vs1 ln2 vs2 ns sl) m1
  have hle := jL_le (jB m2 ln1 vs1 ln2 vs2 ns sl) m1
  have hT := jL_tab (jB m2 ln1 vs1 ln2 vs2 ns sl) m1
  have S := lsints_tc (jL (jB m2 ln1 vs1 ln2 vs2 ns sl) m1).length (fun k => ((jN (jB m2 ln1 vs1 ln2 vs2 ns sl) m1).getD k 0 : Nat)) (by omega)
  unfold roA at S
  rw [← hT] at S
  generalize jL (jB m2 ln1 vs1 ln2 vs2 ns sl) m1 = J at *
  simp (disch := first | assumption | exact Wv.D | fail) only [Wv.B, simprocAttr, hlen, decide_eq_false (show ¬ (ns : Int) > 100 by omega), decide_eq_false (show ¬ (100 : Int) < ns by omega)]
  refine call_TC P rfl (by simp only [Wv.BC]; exact ⟨hC1, hC2, hCs⟩) (by simp only [Wv.BC]; exact hJ) ?_
  simp (disch := first | assumption | exact Wv.D | fail) only [Wv.B, simprocAttr]
  refine call_TC R rfl (by simp only [Wv.BC]; exact ⟨hC1, hC2, hCs⟩) (by simp only [Wv.BC]; exact hJ) ?_
  simp (disch := first | assumption | exact Wv.D | fail) only [Wv.B, simprocAttr]
  refine call_TC S rfl (by simp only [Wv.BC]; exact hJ) (by simp only [Wv.BC]) ?_
  simp (disch := first | assumption | exact Wv.D | fail) only [Wv.B, simprocAttr]
end Go.Proofs.YtljfgdlgmdcmfaaGreat
