/- Typing: the parts of the typer that name no table (the program's side). -/
import Derived.Test.YtljfgdlgmdcmfaaGreatTypG
import Derived.Test.YtljfgdlgmdcmfaaGreatShelf
namespace Go.Proofs.YtljfgdlgmdcmfaaGreat
open Go.RowKit Wv
set_option linter.unusedVariables false
set_option linter.unusedSimpArgs false

/-- A contract in the old style, of plain values, for the machine. -/
theorem TC.scal {P : Program} {f : FuncId} {xs : List Value} {r : Value} (hb : bodyP P f = true) (T : ∀ w, Calls P f xs.toArray w fun e w' => e = .returned r ∧ Below w.heap.size w w') : TC P f (xs.map .v) (.v r) := by
  refine ⟨hb, fun X vs hX hbad hr => ?_⟩
  have e : vs = xs := by
    apply List.ext_getElem?
    intro i
    by_cases hi : i < xs.length
    · have hi' : i < vs.length := by have := hr.1; simp at this; omega
      have h := hr.2 i (.v xs[i]) vs[i] (by simp [hi]) (by simp [hi'])
      generalize hq : vs[i] = q at h
      cases h
      rw [List.getElem?_eq_getElem hi', List.getElem?_eq_getElem hi, hq]
    · have hi' : ¬ i < vs.length := by have := hr.1; simp at this; omega
      rw [List.getElem?_eq_none (by omega), List.getElem?_eq_none (by omega)]
  subst e
  refine (T X.w).mono ?_
  rintro e w' ⟨h1, h2⟩
  exact ⟨r, h1, h2, fun m => .v r⟩

theorem len64_tc (x : Int) (h0 : 0 ≤ x) (h1 : x ≤ 18446744073709551615) : TC Tryz.prog 226 [.v (.int .u64 x)] (.v (.int .i64 (Lib.bitLen x.toNat))) :=
  TC.scal (xs := [.int .u64 x]) (by kernel_rfl) fun w => (Tryz.bits_Len64 x w h0 h1).mono fun e w' h => ⟨h.1, h.2 ▸ Below.refl _ _⟩

/-- The least e with 2^e at least n. -/
def stepsN (n : Int) : Nat := if n ≤ 1 then 0 else Lib.bitLen (n - 1).toNat

set_option maxHeartbeats 400000 in
set_option maxRecDepth 100000 in
theorem psteps_tc (n : Int) (h1 : n ≤ 9223372036854775807) : TC Tryz.prog 215 [.v (.int .i64 n)] (.v (.int .i64 (stepsN n))) := by
  refine Wv.TC.by 9 [0, 4, 2] [] [.tmp 2] Tryz.func215 rfl rfl rfl ?clo ?_
  case clo => simp only [Wv.BC]
  have hN : stepsN n = if n ≤ 1 then 0 else Lib.bitLen (n - 1).toNat := rfl
  by_cases h : n ≤ 1
  · rw [if_pos h] at hN
    simp (disch := first | assumption | exact Wv.D | fail) only [Wv.B, simprocAttr, decide_eq_true h, hN]
  · rw [if_neg h] at hN
    simp (disch := first | assumption | exact Wv.D | fail) only [Wv.B, simprocAttr, decide_eq_false h]
    refine call_TC (len64_tc (n - 1) (by omega) (by omega)) rfl (by simp only [Wv.BC]) (by simp only [Wv.BC]) ?_
    simp (disch := first | assumption | exact Wv.D | fail) only [Wv.B, simprocAttr, hN]

/-- What is thrown. -/
def stopA (e : Int) : AV := .ifc 98 (.g [.v (.int .i64 e)])
theorem stop_clo (e : Int) : Clo (stopA e) := by unfold stopA; simp only [Wv.BC]
set_option maxHeartbeats 400000 in
set_option maxRecDepth 100000 in
theorem demand_rd {h : Hp} (b : Bool) (e : Int) : HTP Tryz.prog 66 [.v (.bool b), .v (.int .i64 e)] h (fun r h' => b = true ∧ r = .tup [] ∧ h' = h) (fun r h' => b = false ∧ r = stopA e ∧ h' = h) := by
  refine Wv.HTP.by 9 [0, 5, 1] [(1000000, h.length)] [] Tryz.func66 rfl rfl rfl ?base ?_
  case base => rfl
  unfold stopA
  cases b with
  | true => simp (disch := first | assumption | exact Wv.D | fail) only [Wv.B, simprocAttr]
  | false => simp (disch := first | assumption | exact Wv.D | fail) only [Wv.B, simprocAttr]
end Go.Proofs.YtljfgdlgmdcmfaaGreat
