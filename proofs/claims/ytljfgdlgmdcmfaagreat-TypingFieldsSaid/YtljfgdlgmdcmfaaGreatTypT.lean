/- The law of Typing: lists of shapes; the parameters; what is shown. -/
import Derived.Test.YtljfgdlgmdcmfaaGreatTypS
import Derived.Test.YtljfgdlgmdcmfaaGreatXtA
namespace Go.Proofs.YtljfgdlgmdcmfaaGreat
open Go.RowKit Wv
set_option linter.unusedVariables false
set_option linter.unusedSimpArgs false

theorem shL_at : ∀ (ss : List (Bool × Nat)) (i : Nat), i < ss.length → ∃ (b : Bool) (d : Nat) (r : List AV), List.drop (i * 2) (shL ss) = .v (.bool b) :: .v (.int .i64 d) :: r
  | [], i, hi => absurd hi (Nat.not_lt_zero i)
  | p :: l, 0, _ => ⟨p.1, p.2, shL l, rfl⟩
  | p :: l, i + 1, hi => by
    obtain ⟨b, d, r, h⟩ := shL_at l i (by simpa using hi)
    refine ⟨b, d, r, ?_⟩
    rw [← h, Nat.add_mul, Nat.one_mul]
    show List.drop (i * 2 + 2) (_ :: _ :: shL l) = _
    rfl
set_option maxHeartbeats 400000 in
set_option maxRecDepth 100000 in
/-- Equal lists of shapes are the same. -/
theorem lsame_yes (ss : List (Bool × Nat)) (hn : ss.length ≤ 140737488351232) : TC Tryz.prog 21 [.t ss.length 2 (shL ss), .t ss.length 2 (shL ss)] (.v (.bool true)) := by
  have hat := shL_at ss
  have hlen := shL_len ss
  generalize shL ss = L at *
  generalize ss.length = n at *
  refine Wv.TC.by 32 [5, 0, 1, 15, 26, 4] [(4, 8)] [.tmp 4] (by kernel_rfl) Tryz.func21 rfl rfl rfl (by kernel_rfl) (by kernel_rfl) (Nat.le_of_ble_eq_true rfl) rfl ?clo ?_
  case clo => simp only [Wv.clo_v, Wv.clo_none, Wv.clo_e0, Wv.clo_t, Wv.clo_g, Wv.clo_tup, Wv.clo_fn, Wv.clo_ifc, Wv.clo_nil, Wv.clo_cons, Wv.clo_tab, Wv.clo_map, implies_true, and_self, true_and, and_true]
  simp (maxSteps := 2000000) (disch := first | omega | assumption | (simp only [Wv.Bx, simprocAttr, Wv.vcells, Value.cells, Wv.isAlloc] <;> omega) | fail) only [Wv.Ba, Wv.Bb, Wv.Bc, Wv.Bd, Wv.Be, Wv.Bf, Wv.Bg, Wv.Bh, Wv.Bi, Wv.Bz, simprocAttr, Option.some.injEq, Wv.isAlloc, Wv.vcells, Value.cells, Wv.froze]
  refine wfor (σ := Nat) (fun i => [(0, .t n 2 L), (1, .t n 2 L), (5, .v (.int .i64 i))]) (fun i => [])
    (fun i => i ≤ n) (fun i => n - i) 0 (Nat.zero_le _) (by simp (maxSteps := 2000000) (disch := first | omega | assumption | (simp only [Wv.Bx, simprocAttr, Wv.vcells, Value.cells, Wv.isAlloc] <;> omega) | fail) only [Wv.Ba, Wv.Bb, Wv.Bc, Wv.Bd, Wv.Be, Wv.Bf, Wv.Bg, Wv.Bh, Wv.Bi, Wv.Bz, simprocAttr, Option.some.injEq, Wv.isAlloc, Wv.vcells, Value.cells, Wv.froze]) (by simp (maxSteps := 2000000) (disch := first | omega | assumption | (simp only [Wv.Bx, simprocAttr, Wv.vcells, Value.cells, Wv.isAlloc] <;> omega) | fail) only [Wv.Ba, Wv.Bb, Wv.Bc, Wv.Bd, Wv.Be, Wv.Bf, Wv.Bg, Wv.Bh, Wv.Bi, Wv.Bz, simprocAttr, Option.some.injEq, Wv.isAlloc, Wv.vcells, Value.cells, Wv.froze]) ?_
  intro i hi
  by_cases hlt : i < n
  · have e1 : (i : Int) < n := by omega
    obtain ⟨b, d, r, hd⟩ := hat i hlt
    simp (maxSteps := 2000000) (disch := first | omega | assumption | (simp only [Wv.Bx, simprocAttr, Wv.vcells, Value.cells, Wv.isAlloc] <;> omega) | fail) only [Wv.Ba, Wv.Bb, Wv.Bc, Wv.Bd, Wv.Be, Wv.Bf, Wv.Bg, Wv.Bh, Wv.Bi, Wv.Bz, simprocAttr, Option.some.injEq, Wv.isAlloc, Wv.vcells, Value.cells, Wv.froze, decide_eq_true e1, hd, beq_self_eq_true, Bool.not_true]
    refine k_next (i + 1) (by omega) (by omega) (by simp (maxSteps := 2000000) (disch := first | omega | assumption | (simp only [Wv.Bx, simprocAttr, Wv.vcells, Value.cells, Wv.isAlloc] <;> omega) | fail) only [Wv.Ba, Wv.Bb, Wv.Bc, Wv.Bd, Wv.Be, Wv.Bf, Wv.Bg, Wv.Bh, Wv.Bi, Wv.Bz, simprocAttr, Option.some.injEq, Wv.isAlloc, Wv.vcells, Value.cells, Wv.froze]) (by simp (maxSteps := 2000000) (disch := first | omega | assumption | (simp only [Wv.Bx, simprocAttr, Wv.vcells, Value.cells, Wv.isAlloc] <;> omega) | fail) only [Wv.Ba, Wv.Bb, Wv.Bc, Wv.Bd, Wv.Be, Wv.Bf, Wv.Bg, Wv.Bh, Wv.Bi, Wv.Bz, simprocAttr, Option.some.injEq, Wv.isAlloc, Wv.vcells, Value.cells, Wv.froze, Int.natCast_add, Int.natCast_one])
  · have hin : i = n := by omega
    subst hin
    simp (maxSteps := 2000000) (disch := first | omega | assumption | (simp only [Wv.Bx, simprocAttr, Wv.vcells, Value.cells, Wv.isAlloc] <;> omega) | fail) only [Wv.Ba, Wv.Bb, Wv.Bc, Wv.Bd, Wv.Be, Wv.Bf, Wv.Bg, Wv.Bh, Wv.Bi, Wv.Bz, simprocAttr, Option.some.injEq, Wv.isAlloc, Wv.vcells, Value.cells, Wv.froze, Int.lt_irrefl, decide_false]

theorem plain_tc : TC Tryz.prog 27 [] (.g (parC plnP)) :=
  TC.reck (by kernel_rfl) 1000 100 tbTyp_ok (orcL_ok (l := []) fun q h => by cases h) (by kernel_rfl)
end Go.Proofs.YtljfgdlgmdcmfaaGreat
