/- Typing: rules of names, numbers, sums, products, powers (for TypingPowers). -/
import Derived.Test.YtljfgdlgmdcmfaaGreatTypO
namespace Go.Proofs.YtljfgdlgmdcmfaaGreat
open Go.RowKit Wv
set_option linter.unusedVariables false
set_option linter.unusedSimpArgs false

/-- What the rules of these kinds answer. -/
def ruP (t : Int) : Ex → Nat → Except Int Nat
  | .nil, _ => .ok 0
  | .mk k s n nl li na ar, unk => if k = 2 then (if balB t n = true then .ok 0 else .error 233) else if k = 7 then .ok (if unk < 2 then 0 else 1) else if k = 14 then (if powB n = true then .ok (stepsN n) else .error 233) else .ok 0
def ksP (e : Ex) : Prop := e.kind = 1 ∨ e.kind = 2 ∨ e.kind = 7 ∨ e.kind = 14
theorem bitAux_le : ∀ (f x : Nat), Lib.bitLenAux f x ≤ f
  | 0, x => Nat.le_refl _
  | f + 1, x => by
    unfold Lib.bitLenAux
    split
    · exact Nat.zero_le _
    · have := bitAux_le f (x / 2); omega
theorem steps_le (n : Int) : stepsN n ≤ 64 := by
  unfold stepsN
  split
  · exact Nat.zero_le _
  · exact bitAux_le 64 _
theorem form_in {k : Int} {s : ByteArray} {n : Int} {nl : Nat} {li : Nat → Int} {na : Nat} {ar : Nat → Ex} (h : formB (.mk k s n nl li na ar) = true) : inB n = true := by
  unfold formB at h
  simp only [Bool.and_eq_true] at h
  exact h.2.2.2.2.2.2.1
theorem rulesP (x : Par) (t : Int) (ns : Nms) (ht : 1 ≤ t) (ht' : t ≤ 4611686018427387904) : RulesOk x t ns (ruP t) ksP := by
  intro e unk hk ho hf hu
  obtain ⟨k, s, n, nl, li, na, ar, rfl⟩ := ok_mk ho
  have hin := form_in hf
  have hk' : k = 1 ∨ k = 2 ∨ k = 7 ∨ k = 14 := hk
  rcases hk' with rfl | rfl | rfl | rfl
  · exact ⟨fun m h => by injection h with h; subst h; exact Nat.zero_le _, rfl⟩
  · refine ⟨fun m h => ?_, pnumber_rule x t ns 2 s n nl li na ar unk hin ht ht'⟩
    have h' : (if balB t n = true then Except.ok 0 else .error 233) = (Except.ok m : Except Int Nat) := h
    split at h'
    · injection h' with h'; subst h'; exact Nat.zero_le _
    · cases h'
  · refine ⟨fun m h => ?_, pproduct_rule x t ns _ ho unk⟩
    have h' : (Except.ok (if unk < 2 then 0 else 1) : Except Int Nat) = .ok m := h
    injection h' with h'
    subst h'
    split <;> omega
  · refine ⟨fun m h => ?_, ppower_rule x t ns 14 s n nl li na ar unk⟩
    have h' : (if powB n = true then Except.ok (stepsN n) else .error 233) = (Except.ok m : Except Int Nat) := h
    split at h'
    · injection h' with h'; subst h'; exact Nat.le_trans (steps_le n) (by omega)
    · cases h'
/-- A name; a product. -/
def nmX (s : ByteArray) : Ex := .mk 1 s 0 0 (fun _ => 0) 0 fun _ => .nil
def muX (a b : Ex) : Ex := .mk 7 ⟨#[]⟩ 0 0 (fun _ => 0) 2 fun i => match i with | 0 => a | 1 => b | _ => .nil
set_option maxHeartbeats 400000 in
set_option maxRecDepth 100000 in
theorem lname_tc (s : ByteArray) : TC Tryz.prog 25 [.v (.string s)] (.g (exC (nmX s))) := by
  have T : TC Tryz.prog 25 [.v (.string s)] (.g [.v (.int .i64 1), .v (.string s), .v (.int .i64 0), .v (.slice none 0 0), .v (.slice none 0 0)]) := by
    refine Wv.TC.by 5 [0, 2] [] [.cell 2 46] Tryz.func25 rfl rfl rfl ?clo ?_
    case clo => simp only [Wv.BC]
    simp (disch := first | assumption | exact Wv.D | fail) only [Wv.B, simprocAttr]
  refine T.wk ?_ ?_
  · exact (⟨Wk.refl _, trivial⟩ : WkL [.v (.string s)] [.v (.string s)])
  · exact (Wk.g (⟨Wk.refl _, Wk.refl _, Wk.refl _, Wk.nil 1, Wk.nil 5, trivial⟩ : WkL [.v (.int .i64 1), .v (.string s), .v (.int .i64 0), .v (.slice none 0 0), .v (.slice none 0 0)] [.v (.int .i64 1), .v (.string s), .v (.int .i64 0), .t 0 1 [], .t 0 5 []]))
theorem nmX_ok (s : ByteArray) (h : s.size ≤ 140737488351232) : okE (nmX s) := ⟨h, by omega, by omega, fun i hi => by omega⟩
theorem muX_ok (a b : Ex) (ha : okE a) (hb : okE b) : okE (muX a b) := ⟨by decide, by omega, by omega, fun i hi => by
  match i, hi with
  | 0, _ => exact ha
  | 1, _ => exact hb⟩
set_option maxHeartbeats 400000 in
set_option maxRecDepth 100000 in
theorem ltimes_tc (a b : Ex) (ha : okE a) (hb : okE b) : TC Tryz.prog 26 [.g (exC a), .g (exC b)] (.g (exC (muX a b))) := by
  have T : TC Tryz.prog 26 [.g (exC a), .g (exC b)] (.g [.v (.int .i64 7), .v (.string ⟨#[]⟩), .v (.int .i64 0), .v (.slice none 0 0), .t 2 5 (exC a ++ exC b)]) := by
    have h1 := exC_clo a
    have h2 := exC_clo b
    obtain ⟨k1, s1, n1, nl1, li1, na1, ar1, rfl⟩ := ok_mk ha
    obtain ⟨k2, s2, n2, nl2, li2, na2, ar2, rfl⟩ := ok_mk hb
    rw [exC_mk] at h1 h2 ⊢
    rw [exC_mk]
    simp only [List.cons_append, List.nil_append] at h1 h2 ⊢
    refine Wv.TC.by 9 [0, 1, 2, 3, 4] [] [.cell 4 46] Tryz.func26 rfl rfl rfl ?clo ?_
    case clo =>
      refine .g fun x hx => ?_
      simp only [List.mem_cons, List.not_mem_nil, or_false] at hx
      rcases hx with rfl | rfl | rfl | rfl | rfl
      · exact .v _
      · exact .v _
      · exact .v _
      · exact .v _
      · refine .t fun y hy => ?_
        have hy' : y ∈ [AV.v (.int .i64 k1), .v (.string s1), .v (.int .i64 n1), .t nl1 1 (tab nl1 fun i => .v (.int .i64 (li1 i))), .t na1 5 (tabM na1 fun i => exC (ar1 i))] ++ [AV.v (.int .i64 k2), .v (.string s2), .v (.int .i64 n2), .t nl2 1 (tab nl2 fun i => .v (.int .i64 (li2 i))), .t na2 5 (tabM na2 fun i => exC (ar2 i))] := hy
        rcases List.mem_append.1 hy' with h | h
        · exact h1 y h
        · exact h2 y h
    simp (disch := first | assumption | exact Wv.D | fail) only [Wv.B, simprocAttr]
  refine T.wk ⟨Wk.refl _, Wk.refl _, trivial⟩ ?_
  have e : exC a ++ exC b = tabM 2 fun i => exC (match i with | 0 => a | 1 => b | _ => .nil) := by
    show _ = exC a ++ (exC b ++ [])
    rw [List.append_nil]
  rw [e]
  exact (Wk.g (⟨Wk.refl _, Wk.refl _, Wk.refl _, Wk.nil 1, Wk.refl _, trivial⟩ : WkL [.v (.int .i64 7), .v (.string ⟨#[]⟩), .v (.int .i64 0), .v (.slice none 0 0), _] [.v (.int .i64 7), .v (.string ⟨#[]⟩), .v (.int .i64 0), .t 0 1 [], _]))
end Go.Proofs.YtljfgdlgmdcmfaaGreat
