/- PlainLaws: the law's functions. -/
import Derived.Test.YtljfgdlgmdcmfaaGreatPlnJ
namespace Go.Proofs.YtljfgdlgmdcmfaaGreat
open Go.RowKit Wv
set_option linter.unusedVariables false
set_option linter.unusedSimpArgs false

def rbN (t n : Int) : Int := if (t - 1) / 2 < ((n.tmod t) + t).tmod t then ((n.tmod t) + t).tmod t - t else ((n.tmod t) + t).tmod t
theorem rbN_le {t n : Int} (ht : 3 ≤ t) (ho : t % 2 = 1) : -((t - 1) / 2) ≤ rbN t n ∧ rbN t n ≤ (t - 1) / 2 := by
  have h1 := tmod_in (n := n) ht
  have h2 := Int.tmod_nonneg (a := n.tmod t + t) t (by omega)
  have h3 := Int.tmod_lt_of_pos (n.tmod t + t) (show 0 < t by omega)
  unfold rbN
  generalize (n.tmod t + t).tmod t = m at *
  split <;> omega
set_option maxHeartbeats 400000 in
set_option maxRecDepth 100000 in
theorem lbal_tc (t n : Int) (ht : 3 ≤ t) (ht' : t ≤ 2147483647) (hn : -9223372036854775808 ≤ n ∧ n ≤ 9223372036854775807) : TC Tryz.prog 38 [.v (.int .i64 t), .v (.int .i64 n)] (.v (.int .i64 (rbN t n))) := by
  have hq : (t - 1).tdiv 2 = (t - 1) / 2 := Int.tdiv_eq_ediv_of_nonneg (by omega)
  have h1 := tmod_in (n := n) ht
  have hB : rbN t n = if (t - 1) / 2 < ((n.tmod t) + t).tmod t then ((n.tmod t) + t).tmod t - t else ((n.tmod t) + t).tmod t := rfl
  have h2 := Int.tmod_nonneg (a := n.tmod t + t) t (by omega)
  have h3 := Int.tmod_lt_of_pos (n.tmod t + t) (show 0 < t by omega)
  generalize rbN t n = B at *
  refine Wv.TC.by 21 [1, 0, 16, 4] [] [.tmp 4] (by kernel_rfl) Tryz.func38 rfl rfl rfl (by kernel_rfl) (by kernel_rfl) (Nat.le_of_ble_eq_true rfl) rfl ?clo ?_
  case clo => simp only [Wv.BC]
  generalize hm : n.tmod t = m at *
  generalize hk : (m + t).tmod t = k at *
  by_cases c : (t - 1) / 2 < k
  · rw [if_pos c] at hB
    simp (maxSteps := 2000000) (disch := first | omega | assumption | (simp only [Wv.Bx, simprocAttr] <;> omega) | fail) only [Wv.B, simprocAttr, hm, hk, hq, decide_eq_true c]
    rw [hB]
  · rw [if_neg c] at hB
    simp (maxSteps := 2000000) (disch := first | omega | assumption | (simp only [Wv.Bx, simprocAttr] <;> omega) | fail) only [Wv.B, simprocAttr, hm, hk, hq, decide_eq_false c]
    rw [hB]
set_option maxHeartbeats 400000 in
set_option maxRecDepth 100000 in
theorem lname24_tc (s : ByteArray) : TC Tryz.prog 43 [.v (.string s)] (.g (exC (nmX s))) := by
  have T : TC Tryz.prog 43 [.v (.string s)] (.g [.v (.int .i64 1), .v (.string s), .v (.int .i64 0), .v (.slice none 0 0), .v (.slice none 0 0)]) := by
    refine Wv.TC.by 5 [0, 2] [] [.cell 2 46] (by kernel_rfl) Tryz.func43 rfl rfl rfl (by kernel_rfl) (by kernel_rfl) (Nat.le_of_ble_eq_true rfl) rfl ?clo ?_
    case clo => simp only [Wv.BC]
    simp (maxSteps := 2000000) (disch := first | omega | assumption | (simp only [Wv.Bx, simprocAttr] <;> omega) | fail) only [Wv.B, simprocAttr]
  refine T.wk ?_ ?_
  · exact (⟨Wk.refl _, trivial⟩ : WkL [.v (.string s)] [.v (.string s)])
  · exact (Wk.g (⟨Wk.refl _, Wk.refl _, Wk.refl _, Wk.nil 1, Wk.nil 5, trivial⟩ : WkL [.v (.int .i64 1), .v (.string s), .v (.int .i64 0), .v (.slice none 0 0), .v (.slice none 0 0)] [.v (.int .i64 1), .v (.string s), .v (.int .i64 0), .t 0 1 [], .t 0 5 []]))
set_option maxHeartbeats 400000 in
set_option maxRecDepth 100000 in
theorem ltwo_tc (k : Int) (a b : Ex) (ha : okE a) (hb : okE b) : TC Tryz.prog 44 [.v (.int .i64 k), .g (exC a), .g (exC b)] (.g (exC (twX k a b))) := by
  have T : TC Tryz.prog 44 [.v (.int .i64 k), .g (exC a), .g (exC b)] (.g [.v (.int .i64 k), .v (.string ⟨#[]⟩), .v (.int .i64 0), .v (.slice none 0 0), .t 2 5 (exC a ++ exC b)]) := by
    have h1 := exC_clo a
    have h2 := exC_clo b
    obtain ⟨k1, s1, n1, nl1, li1, na1, ar1, rfl⟩ := ok_mk ha
    obtain ⟨k2, s2, n2, nl2, li2, na2, ar2, rfl⟩ := ok_mk hb
    rw [exC_mk] at h1 h2 ⊢
    rw [exC_mk]
    simp only [List.cons_append, List.nil_append] at h1 h2 ⊢
    refine Wv.TC.by 12 [1, 2, 0, 4, 5, 6] [] [.cell 6 46] (by kernel_rfl) Tryz.func44 rfl rfl rfl (by kernel_rfl) (by kernel_rfl) (Nat.le_of_ble_eq_true rfl) rfl ?clo ?_
    case clo =>
      refine .g fun x hx => ?_
      simp only [List.mem_cons, List.not_mem_nil, or_false] at hx
      rcases hx with rfl | rfl | rfl | rfl | rfl
      · exact .v _
      · exact .v _
      · exact .v _
      · exact .v _
      · refine .t fun y hy => ?_
        rcases List.mem_append.1 (show y ∈ [_, _, _, _, _] ++ [_, _, _, _, _] from hy) with h | h
        · exact h1 y h
        · exact h2 y h
    simp (maxSteps := 2000000) (disch := first | omega | assumption | (simp only [Wv.Bx, simprocAttr] <;> omega) | fail) only [Wv.B, simprocAttr]
  refine T.wk ⟨Wk.refl _, Wk.refl _, Wk.refl _, trivial⟩ ?_
  have e : exC a ++ exC b = tabM 2 fun i => exC (match i with | 0 => a | 1 => b | _ => .nil) := by
    show _ = exC a ++ (exC b ++ [])
    rw [List.append_nil]
  rw [e]
  exact (Wk.g (⟨Wk.refl _, Wk.refl _, Wk.refl _, Wk.nil 1, Wk.refl _, trivial⟩ : WkL [.v (.int .i64 k), .v (.string ⟨#[]⟩), .v (.int .i64 0), .v (.slice none 0 0), _] [.v (.int .i64 k), .v (.string ⟨#[]⟩), .v (.int .i64 0), .t 0 1 [], _]))
set_option maxHeartbeats 400000 in
set_option maxRecDepth 100000 in
theorem lsame_tc (n : Nat) (f g : Nat → Int) (hn : n ≤ 140737488351232) (h : ∀ j, j < n → f j = g j) : TC Tryz.prog 45 [vcA n f, vcA n g] (.v (.bool true)) := by
  unfold vcA
  refine Wv.TC.by 26 [0, 1, 10, 5, 14, 25, 4] [(6, 8)] [.tmp 4] (by kernel_rfl) Tryz.func45 rfl rfl rfl (by kernel_rfl) (by kernel_rfl) (Nat.le_of_ble_eq_true rfl) rfl ?clo ?_
  case clo => simp only [Wv.BC]
  simp (maxSteps := 2000000) (disch := first | omega | assumption | (simp only [Wv.Bx, simprocAttr] <;> omega) | fail) only [Wv.B, simprocAttr]
  refine wfor (σ := Nat) (fun i => [(0, .t n 1 (tab n fun j => .v (.int .i64 (f j)))), (1, .t n 1 (tab n fun j => .v (.int .i64 (g j)))), (5, .v (.int .i64 i))]) (fun _ => []) (fun i => i ≤ n) (fun i => n - i) 0 (Nat.zero_le _) (by simp (maxSteps := 2000000) (disch := first | omega | assumption | (simp only [Wv.Bx, simprocAttr] <;> omega) | fail) only [Wv.B, simprocAttr]) (by simp (maxSteps := 2000000) (disch := first | omega | assumption | (simp only [Wv.Bx, simprocAttr] <;> omega) | fail) only [Wv.B, simprocAttr]) ?_
  intro i hi
  by_cases hlt : i < n
  · have e1 : (i : Int) < n := by omega
    have e2 := h i hlt
    simp (maxSteps := 2000000) (disch := first | omega | assumption | (simp only [Wv.Bx, simprocAttr] <;> omega) | fail) only [Wv.B, simprocAttr, decide_eq_true e1, e2]
    refine k_next (i + 1) (by omega) (by omega) rfl (by simp (maxSteps := 2000000) (disch := first | omega | assumption | (simp only [Wv.Bx, simprocAttr] <;> omega) | fail) only [Wv.B, simprocAttr, Int.natCast_add, Int.natCast_one])
  · obtain rfl : i = n := by omega
    simp (maxSteps := 2000000) (disch := first | omega | assumption | (simp only [Wv.Bx, simprocAttr] <;> omega) | fail) only [Wv.B, simprocAttr, Int.lt_irrefl, decide_false]
end Go.Proofs.YtljfgdlgmdcmfaaGreat
