/- Circuits: letters, digits, words, names, on the machine of abstract values. -/
import Derived.Test.YtljfgdlgmdcmfaaGreatBnA
import Derived.Test.YtljfgdlgmdcmfaaGreatWvZ
namespace Go.Proofs.YtljfgdlgmdcmfaaGreat
open Go.RowKit Wv
set_option linter.unusedVariables false
set_option linter.unusedSimpArgs false

def letB (c : Int) : Bool := (decide (97 ≤ c) && decide (c ≤ 122)) || (decide (65 ≤ c) && decide (c ≤ 90))
def digB (c : Int) : Bool := decide (48 ≤ c) && decide (c ≤ 57)
def orP (c : Int) : Int := IntKind.u8.wrap (BitVec.ofInt IntKind.u8.bits c ||| BitVec.ofInt IntKind.u8.bits 32).toNat
theorem orP_let : ∀ n : Fin 256, (decide (97 ≤ orP n.val) && decide (orP n.val ≤ 122)) = letB n.val := by decide +kernel
theorem letP (c : Int) (h0 : 0 ≤ c) (h1 : c < 256) : (decide (97 ≤ orP c) && decide (orP c ≤ 122)) = letB c := by
  have := orP_let ⟨c.toNat, by omega⟩
  simp only [Int.toNat_of_nonneg h0] at this
  exact this

set_option maxHeartbeats 400000 in
set_option maxRecDepth 100000 in
theorem pletter_tc (c : Int) (h0 : 0 ≤ c) (h1 : c < 256) : TC Tryz.prog 152 [.v (.int .u8 c)] (.v (.bool (letB c))) := by
  have hl := letP c h0 h1
  unfold orP at hl
  refine Wv.TC.by 11 [0, 2] [] [.tmp 2] Tryz.func152 rfl rfl rfl ?clo ?_
  case clo => simp only [Wv.BC]
  by_cases hq : (97 : Int) ≤ IntKind.u8.wrap (BitVec.ofInt IntKind.u8.bits c ||| BitVec.ofInt IntKind.u8.bits 32).toNat
  · rw [decide_eq_true hq, Bool.true_and] at hl
    simp (disch := first | assumption | exact Wv.D | fail) only [Wv.B, simprocAttr, hl]
  · rw [decide_eq_false hq, Bool.false_and] at hl
    simp (disch := first | assumption | exact Wv.D | fail) only [Wv.B, simprocAttr, ← hl]
set_option maxHeartbeats 400000 in
set_option maxRecDepth 100000 in
theorem pdigit_tc (c : Int) : TC Tryz.prog 154 [.v (.int .u8 c)] (.v (.bool (digB c))) := by
  refine Wv.TC.by 9 [0, 2] [] [.tmp 2] Tryz.func154 rfl rfl rfl ?clo ?_
  case clo => simp only [Wv.BC]
  unfold digB
  by_cases hq : 48 ≤ c
  · simp (disch := first | assumption | exact Wv.D | fail) only [Wv.B, simprocAttr, decide_eq_true hq]
  · simp (disch := first | assumption | exact Wv.D | fail) only [Wv.B, simprocAttr, decide_eq_false hq]
set_option maxHeartbeats 400000 in
set_option maxRecDepth 100000 in
theorem rletter_tc (c : Int) : TC Tryz.prog 173 [.v (.int .u8 c)] (.v (.bool (letB c))) := by
  refine Wv.TC.by 17 [0, 2] [] [.tmp 2] Tryz.func173 rfl rfl rfl ?clo ?_
  case clo => simp only [Wv.BC]
  unfold letB
  cases h1 : decide (97 ≤ c) <;> cases h2 : decide (c ≤ 122) <;> cases h3 : decide (65 ≤ c) <;> cases h4 : decide (c ≤ 90) <;> simp (disch := first | assumption | exact Wv.D | fail) only [Wv.B, simprocAttr, h1, h2, h3, h4, Bool.true_or, Bool.false_or, Bool.or_false, Bool.or_true, Bool.and_false]
set_option maxHeartbeats 400000 in
set_option maxRecDepth 100000 in
theorem rdigit_tc (c : Int) : TC Tryz.prog 176 [.v (.int .u8 c)] (.v (.bool (digB c))) := by
  refine Wv.TC.by 9 [0, 2] [] [.tmp 2] Tryz.func176 rfl rfl rfl ?clo ?_
  case clo => simp only [Wv.BC]
  unfold digB
  by_cases hq : 48 ≤ c
  · simp (disch := first | assumption | exact Wv.D | fail) only [Wv.B, simprocAttr, decide_eq_true hq]
  · simp (disch := first | assumption | exact Wv.D | fail) only [Wv.B, simprocAttr, decide_eq_false hq]
end Go.Proofs.YtljfgdlgmdcmfaaGreat
