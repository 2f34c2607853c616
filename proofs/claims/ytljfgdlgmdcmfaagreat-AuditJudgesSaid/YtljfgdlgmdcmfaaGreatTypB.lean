/- Circuits: lists of words; the library's Index, Contains, IndexFunc, ContainsFunc. -/
import Derived.Test.YtljfgdlgmdcmfaaGreatTypA
namespace Go.Proofs.YtljfgdlgmdcmfaaGreat
open Go.RowKit Wv
set_option linter.unusedVariables false
set_option linter.unusedSimpArgs false

def strsA (n : Nat) (f : Nat → ByteArray) : AV := .t n 1 (tab n fun i => .v (.string (f i)))
theorem strs_clo (n : Nat) (f : Nat → ByteArray) : Clo (strsA n f) := by unfold strsA; simp only [Wv.BC]

set_option maxHeartbeats 400000 in
set_option maxRecDepth 100000 in
theorem sindex_tc (n : Nat) (f : Nat → ByteArray) (s : ByteArray) (hn : n ≤ 140737488351232) : TC Tryz.prog 209 [strsA n f, .v (.string s)] (.v (.int .i64 (idxO (findF (fun i => decide (s = f i)) n)))) := by
  unfold strsA
  refine Wv.TC.by 19 [0, 8, 7, 9, 1, 5, 16, 4] [] [.tmp 4] Tryz.func209 rfl rfl rfl ?clo ?_
  case clo => simp only [Wv.BC]
  simp (disch := first | assumption | exact Wv.D | fail) only [Wv.B, simprocAttr]
  refine wfor (σ := Nat) (fun i => [(0, strsA n f), (1, .v (.string s)), (7, .v (.int .i64 n)), (8, .v (.int .i64 i))]) (fun i => [])
    (fun i => i ≤ n ∧ ∀ j, j < i → decide (s = f j) = false) (fun i => n - i) 0 ⟨Nat.zero_le _, fun j hj => by omega⟩ Wv.V (by simp (disch := first | assumption | exact Wv.D | fail) only [Wv.B, simprocAttr, strsA]) ?_
  rintro i ⟨hi, hb⟩
  unfold strsA
  by_cases hlt : i < n
  · have e1 : (i : Int) < n := by omega
    cases hq : decide (s = f i) with
    | true =>
      have hf := findF_at (p := fun i => decide (s = f i)) hlt hq hb
      simp (disch := first | assumption | exact Wv.D | fail) only [Wv.B, simprocAttr, hq, hf, idxO]
    | false =>
      simp (disch := first | assumption | exact Wv.D | fail) only [Wv.B, simprocAttr, hq]
      refine k_next (i + 1) ⟨by omega, fun j hj => ?_⟩ (by omega) Wv.V Wv.V2
      by_cases e : j = i
      · subst e; exact hq
      · exact hb j (by omega)
  · have hin : i = n := by omega
    subst hin
    have hf := findF_none (p := fun i => decide (s = f i)) hb
    simp (disch := first | assumption | exact Wv.D | fail) only [Wv.B, simprocAttr, hf, idxO]
set_option maxHeartbeats 400000 in
set_option maxRecDepth 100000 in
theorem scontains_tc (n : Nat) (f : Nat → ByteArray) (s : ByteArray) (hn : n ≤ 140737488351232) : TC Tryz.prog 153 [strsA n f, .v (.string s)] (.v (.bool (anyN n fun i => decide (s = f i)))) := by
  refine Wv.TC.by 9 [0, 1, 4] [] [.tmp 4] Tryz.func153 rfl rfl rfl ?clo ?_
  case clo => simp only [Wv.BC]
  simp (disch := first | assumption | exact Wv.D | fail) only [Wv.B, simprocAttr]
  refine call_TC (sindex_tc n f s hn) rfl (by simp only [Wv.BC, strs_clo]) (by simp only [Wv.BC]) ?_
  simp (disch := first | assumption | exact Wv.D | fail) only [Wv.B, simprocAttr, idxO_any]
set_option maxHeartbeats 400000 in
set_option maxRecDepth 100000 in
/-- IndexFunc at strings, with any function that leaves what is owned as it is. -/
theorem sindexf_ht {h : Hp} (n : Nat) (f : Nat → ByteArray) (p : Nat → Bool) (fid : FuncId) (fst cap : List AV) (hn : n ≤ 140737488351232) (hp : ∀ i, i < n → HT Tryz.prog fid (fst ++ [.v (.string (f i))] ++ cap) h (fun r h' => r = .v (.bool (p i)) ∧ h' = h)) :
    HT Tryz.prog 155 [strsA n f, .fn (.func fid) fst cap] h (fun r h' => r = .v (.int .i64 (idxO (findF p n))) ∧ h' = h) := by
  unfold strsA
  refine Wv.HT.by 19 [0, 8, 7, 9, 1, 5, 16, 4] [(1000000, h.length)] [.tmp 4] Tryz.func155 rfl rfl rfl ?base ?_
  case base => rfl
  simp (disch := first | assumption | exact Wv.D | fail) only [Wv.B, simprocAttr]
  refine wfor (σ := Nat) (fun i => [(0, strsA n f), (1, .fn (.func fid) fst cap), (7, .v (.int .i64 n)), (8, .v (.int .i64 i))]) (fun i => h)
    (fun i => i ≤ n ∧ ∀ j, j < i → p j = false) (fun i => n - i) 0 ⟨Nat.zero_le _, fun j hj => by omega⟩ rfl (by simp (disch := first | assumption | exact Wv.D | fail) only [Wv.B, simprocAttr, strsA]) ?_
  rintro i ⟨hi, hb⟩
  unfold strsA
  by_cases hlt : i < n
  · have e1 : (i : Int) < n := by omega
    simp (disch := first | assumption | exact Wv.D | fail) only [Wv.B, simprocAttr]
    refine call_HT (hp i hlt) ?_
    rintro av h' ⟨rfl, rfl⟩
    cases hq : p i with
    | true =>
      have hf := findF_at hlt hq hb
      simp (disch := first | assumption | exact Wv.D | fail) only [Wv.B, simprocAttr, hq, hf, idxO]
    | false =>
      simp (disch := first | assumption | exact Wv.D | fail) only [Wv.B, simprocAttr, hq]
      refine k_next (i + 1) ⟨by omega, fun j hj => ?_⟩ (by omega) rfl Wv.V2
      by_cases e : j = i
      · subst e; exact hq
      · exact hb j (by omega)
  · have hin : i = n := by omega
    subst hin
    have hf := findF_none hb
    simp (disch := first | assumption | exact Wv.D | fail) only [Wv.B, simprocAttr, hf, idxO]
end Go.Proofs.YtljfgdlgmdcmfaaGreat
