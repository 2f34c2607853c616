/- TypingPowers: the walk. -/
import Derived.Test.YtljfgdlgmdcmfaaGreatTypU
namespace Go.Proofs.YtljfgdlgmdcmfaaGreat
open Go.RowKit Wv
set_option linter.unusedVariables false
set_option linter.unusedSimpArgs false

theorem pwB_says {m : Nat} {known : Bool} {q : List (Bool × Nat) × Int × Int} (h : pwB m known q = true) :
    (known = false ∧ 9 < min m 30 ∧ q.2.2 = 232 ∧ q.2.1 = 0) ∨ (¬ (known = false ∧ 9 < min m 30) ∧ 64 < m ∧ q.2.2 = 233 ∧ q.2.1 = 1) ∨ (¬ (known = false ∧ 9 < min m 30) ∧ ¬ 64 < m ∧ q.2.2 = 0 ∧ q.1 = pwW m known ∧ ∃ s, sN m = some s) := by
  unfold pwB at h
  by_cases h1 : known = false ∧ 9 < min m 30
  · rw [if_pos h1, Bool.and_eq_true] at h
    exact .inl ⟨h1.1, h1.2, of_decide_eq_true h.1, of_decide_eq_true h.2⟩
  · rw [if_neg h1] at h
    by_cases h2 : 64 < m
    · rw [if_pos h2, Bool.and_eq_true] at h
      exact .inr (.inl ⟨h1, h2, of_decide_eq_true h.1, of_decide_eq_true h.2⟩)
    · rw [if_neg h2, Bool.and_eq_true, Bool.and_eq_true] at h
      exact .inr (.inr ⟨h1, h2, of_decide_eq_true h.1.1, of_decide_eq_true h.1.2, Option.isSome_iff_exists.1 (of_decide_eq_true h.2)⟩)
theorem muC (a b : Ex) : exC (muX a b) = [.v (.int .i64 7), .v (.string ⟨#[]⟩), .v (.int .i64 0), .t 0 1 [], .t 2 5 (tabM 2 fun i => exC (match i with | 0 => a | 1 => b | _ => .nil))] := rfl
set_option maxHeartbeats 1600000 in
set_option maxRecDepth 100000 in
theorem tpowers_tc (n : Int) (known : Bool) (hn : -9223372036854775808 ≤ n) (hn' : n ≤ 9223372036854775807) : TC Tryz.prog 5 [.v (.int .i64 n), .v (.bool known)] (.v (.bool true)) := by
  refine Wv.TC.by 105 [17, 0, 23, 1, 25, 5, 7, 34, 6, 10, 44, 9, 11, 8, 73, 14, 13, 81, 94, 12, 15, 4] [(20, 7)] [.tmp 4] (by kernel_rfl) Tryz.func5 rfl rfl rfl (by kernel_rfl) (by kernel_rfl) (Nat.le_of_ble_eq_true rfl) rfl ?clo ?_
  case clo => simp only [Wv.clo_v, Wv.clo_none, Wv.clo_e0, Wv.clo_t, Wv.clo_g, Wv.clo_tup, Wv.clo_fn, Wv.clo_ifc, Wv.clo_nil, Wv.clo_cons, Wv.clo_tab, Wv.clo_map, implies_true, and_self, true_and, and_true]
  simp (maxSteps := 2000000) (disch := first | omega | assumption | (simp only [Wv.Bx, simprocAttr, Wv.vcells, Value.cells, Wv.isAlloc] <;> omega) | fail) only [Wv.Ba, Wv.Bb, Wv.Bc, Wv.Bd, Wv.Be, Wv.Bf, Wv.Bg, Wv.Bh, Wv.Bz, simprocAttr, Option.some.injEq, Wv.isAlloc, Wv.vcells, Value.cells, Wv.froze]
  refine call_TC shown_tc rfl (by simp only [Wv.clo_v, Wv.clo_none, Wv.clo_e0, Wv.clo_t, Wv.clo_g, Wv.clo_tup, Wv.clo_fn, Wv.clo_ifc, Wv.clo_nil, Wv.clo_cons, Wv.clo_tab, Wv.clo_map, implies_true, and_self, true_and, and_true]) (by simp only [Wv.clo_v, Wv.clo_none, Wv.clo_e0, Wv.clo_t, Wv.clo_g, Wv.clo_tup, Wv.clo_fn, Wv.clo_ifc, Wv.clo_nil, Wv.clo_cons, Wv.clo_tab, Wv.clo_map, implies_true, and_self, true_and, and_true]) ?_
  by_cases h1 : n < 1
  · simp (maxSteps := 2000000) (disch := first | omega | assumption | (simp only [Wv.Bx, simprocAttr, Wv.vcells, Value.cells, Wv.isAlloc] <;> omega) | fail) only [Wv.Ba, Wv.Bb, Wv.Bc, Wv.Bd, Wv.Be, Wv.Bf, Wv.Bg, Wv.Bh, Wv.Bz, simprocAttr, Option.some.injEq, Wv.isAlloc, Wv.vcells, Value.cells, Wv.froze, decide_eq_true h1]
  by_cases h2 : 70 < n
  · simp (maxSteps := 2000000) (disch := first | omega | assumption | (simp only [Wv.Bx, simprocAttr, Wv.vcells, Value.cells, Wv.isAlloc] <;> omega) | fail) only [Wv.Ba, Wv.Bb, Wv.Bc, Wv.Bd, Wv.Be, Wv.Bf, Wv.Bg, Wv.Bh, Wv.Bz, simprocAttr, Option.some.injEq, Wv.isAlloc, Wv.vcells, Value.cells, Wv.froze, decide_eq_false h1, decide_eq_true h2]
  obtain ⟨m, rfl⟩ : ∃ m : Nat, n = m := ⟨n.toNat, by omega⟩
  simp (maxSteps := 2000000) (disch := first | omega | assumption | (simp only [Wv.Bx, simprocAttr, Wv.vcells, Value.cells, Wv.isAlloc] <;> omega) | fail) only [Wv.Ba, Wv.Bb, Wv.Bc, Wv.Bd, Wv.Be, Wv.Bf, Wv.Bg, Wv.Bh, Wv.Bz, simprocAttr, Option.some.injEq, Wv.isAlloc, Wv.vcells, Value.cells, Wv.froze, decide_eq_false h1, decide_eq_false h2]
  refine call_TC (lname_tc ⟨#[120]⟩) rfl (by simp only [Wv.clo_v, Wv.clo_none, Wv.clo_e0, Wv.clo_t, Wv.clo_g, Wv.clo_tup, Wv.clo_fn, Wv.clo_ifc, Wv.clo_nil, Wv.clo_cons, Wv.clo_tab, Wv.clo_map, implies_true, and_self, true_and, and_true]) (by simp only [Wv.clo_v, Wv.clo_none, Wv.clo_e0, Wv.clo_t, Wv.clo_g, Wv.clo_tup, Wv.clo_fn, Wv.clo_ifc, Wv.clo_nil, Wv.clo_cons, Wv.clo_tab, Wv.clo_map, implies_true, and_self, true_and, and_true]; exact exC_clo _) ?_
  rw [show nmX ⟨#[120]⟩ = .mk 1 ⟨#[120]⟩ 0 0 (fun _ => 0) 0 fun _ => .nil from rfl, exC_mk]
  have hB := pwB_says (pwB_at known (n := m) (by omega) (by omega))
  have T := ptype_pw m known
  generalize typeS (pwC m known) = q at hB T
  unfold pwC at T
  obtain ⟨x, hX⟩ : ∃ x, xX known = x := ⟨_, rfl⟩
  have hx := xX_ok known
  rw [hX] at T hx
  obtain ⟨k2, s2, n2, nl2, li2, na2, ar2, hxe⟩ := ok_mk hx
  have hxC : exC x = [.v (.int .i64 k2), .v (.string s2), .v (.int .i64 n2), .t nl2 1 (tab nl2 fun i => .v (.int .i64 (li2 i))), .t na2 5 (tabM na2 fun i => exC (ar2 i))] := by rw [hxe, exC_mk]
  have hxg := exG_clo x
  obtain ⟨kn, hkn⟩ : ∃ kn, kn = known := ⟨_, rfl⟩
  rw [← hkn] at hB
  obtain ⟨hp, hhp⟩ : ∃ hp : Nat → Hp, hp = fun i => [some (.blk (exC x)), some (.blk (exC (rowX x i)))] := ⟨_, rfl⟩
  obtain ⟨env, henv⟩ : ∃ env : Nat → Ev, env = fun i => [(0, .v (.int .i64 m)), (1, .v (.bool kn)), (5, .ptr 0 0), (6, .ptr 1 0), (7, .v (.int .i64 ((i + 1 : Nat) : Int)))] := ⟨_, rfl⟩
  cases known
  simp (maxSteps := 2000000) (disch := first | omega | assumption | (simp only [Wv.Bx, simprocAttr, Wv.vcells, Value.cells, Wv.isAlloc] <;> omega) | fail) only [Wv.Ba, Wv.Bb, Wv.Bc, Wv.Bd, Wv.Be, Wv.Bf, Wv.Bg, Wv.Bh, Wv.Bz, simprocAttr, Option.some.injEq, Wv.isAlloc, Wv.vcells, Value.cells, Wv.froze]
  refine wforE (σ := Nat) env hp (fun i => i + 1 ≤ min m 30) (fun i => 70 - i) 0 (by omega) (by rw [hhp, ← hX]; exact Ent.fit (by rw [henv, hkn]; simp (maxSteps := 2000000) (disch := first | omega | assumption | (simp only [Wv.Bx, simprocAttr, Wv.vcells, Value.cells, Wv.isAlloc] <;> omega) | fail) only [Wv.Ba, Wv.Bb, Wv.Bc, Wv.Bd, Wv.Be, Wv.Bf, Wv.Bg, Wv.Bh, Wv.Bz, simprocAttr, Option.some.injEq, Wv.isAlloc, Wv.vcells, Value.cells, Wv.froze, Int.natCast_one])) ?_
  rotate_left
  simp (maxSteps := 2000000) (disch := first | omega | assumption | (simp only [Wv.Bx, simprocAttr, Wv.vcells, Value.cells, Wv.isAlloc] <;> omega) | fail) only [Wv.Ba, Wv.Bb, Wv.Bc, Wv.Bd, Wv.Be, Wv.Bf, Wv.Bg, Wv.Bh, Wv.Bz, simprocAttr, Option.some.injEq, Wv.isAlloc, Wv.vcells, Value.cells, Wv.froze]
  refine wforE (σ := Nat) env hp (fun i => i + 1 ≤ min m 30) (fun i => 70 - i) 0 (by omega) (by rw [hhp, ← hX]; exact
      (Ent.trans (Ent.cell 0 3 _ _ (.t 0 1 []) rfl rfl (Wk.nil 1)) (Ent.trans (Ent.cell 0 4 _ _ (.t 0 5 []) rfl rfl (Wk.nil 5)) (Ent.trans (Ent.cell 1 3 _ _ (.t 0 1 []) rfl rfl (Wk.nil 1)) (Ent.trans (Ent.cell 1 4 _ _ (.t 0 5 []) rfl rfl (Wk.nil 5)) (Ent.fit (by rw [henv, hkn]; simp (maxSteps := 2000000) (disch := first | omega | assumption | (simp only [Wv.Bx, simprocAttr, Wv.vcells, Value.cells, Wv.isAlloc] <;> omega) | fail) only [Wv.Ba, Wv.Bb, Wv.Bc, Wv.Bd, Wv.Be, Wv.Bf, Wv.Bg, Wv.Bh, Wv.Bz, simprocAttr, Option.some.injEq, Wv.isAlloc, Wv.vcells, Value.cells, Wv.froze, Int.natCast_one]))))))) ?_
  rotate_left
  all_goals
    clear hkn hX
    subst henv hhp
    intro i hi
    dsimp only
    have hrs : exC (rowX x (i + 1)) = exC (muX (rowX x i) x) := rfl
    have hro := row_ok hx i
    by_cases hlt : i + 1 < min m 30
    · have e1 : (((i + 1 : Nat) : Int)) < (m : Int) := by omega
      have e2 : (((i + 1 : Nat) : Int)) < 30 := by omega
      have Tt := ltimes_tc _ _ hro hx
      have hrg := exG_clo (rowX x i)
      have hmg := exG_clo (muX (rowX x i) x)
      rw [muC] at Tt hrs hmg
      clear T hB
      generalize hM : (tabM 2 fun j => exC (match j with | 0 => rowX x i | 1 => x | _ => .nil)) = M at Tt hrs hmg
      clear hM
      obtain ⟨k1, s1, n1, nl1, li1, na1, ar1, hre⟩ := ok_mk hro
      have hrC : exC (rowX x i) = [.v (.int .i64 k1), .v (.string s1), .v (.int .i64 n1), .t nl1 1 (tab nl1 fun i => .v (.int .i64 (li1 i))), .t na1 5 (tabM na1 fun i => exC (ar1 i))] := by rw [hre, exC_mk]
      rw [hxC, hrC] at Tt ⊢
      rw [hrC] at hrg
      rw [hxC] at hxg
      simp (maxSteps := 2000000) (disch := first | omega | assumption | (simp only [Wv.Bx, simprocAttr, Wv.vcells, Value.cells, Wv.isAlloc] <;> omega) | fail) only [Wv.Ba, Wv.Bb, Wv.Bc, Wv.Bd, Wv.Be, Wv.Bf, Wv.Bg, Wv.Bh, Wv.Bz, simprocAttr, Option.some.injEq, Wv.isAlloc, Wv.vcells, Value.cells, Wv.froze, decide_eq_true e1, decide_eq_true e2]
      refine call_TC Tt rfl (cloA2 hrg hxg) hmg ?_
      simp (maxSteps := 2000000) (disch := first | omega | assumption | (simp only [Wv.Bx, simprocAttr, Wv.vcells, Value.cells, Wv.isAlloc] <;> omega) | fail) only [Wv.Ba, Wv.Bb, Wv.Bc, Wv.Bd, Wv.Be, Wv.Bf, Wv.Bg, Wv.Bh, Wv.Bz, simprocAttr, Option.some.injEq, Wv.isAlloc, Wv.vcells, Value.cells, Wv.froze]
      refine k_next (i + 1) (by omega) (by omega) (by simp (maxSteps := 2000000) (disch := first | omega | assumption | (simp only [Wv.Bx, simprocAttr, Wv.vcells, Value.cells, Wv.isAlloc] <;> omega) | fail) only [Wv.Ba, Wv.Bb, Wv.Bc, Wv.Bd, Wv.Be, Wv.Bf, Wv.Bg, Wv.Bh, Wv.Bz, simprocAttr, Option.some.injEq, Wv.isAlloc, Wv.vcells, Value.cells, Wv.froze, hrs]) (by simp (maxSteps := 2000000) (disch := first | omega | assumption | (simp only [Wv.Bx, simprocAttr, Wv.vcells, Value.cells, Wv.isAlloc] <;> omega) | fail) only [Wv.Ba, Wv.Bb, Wv.Bc, Wv.Bd, Wv.Be, Wv.Bf, Wv.Bg, Wv.Bh, Wv.Bz, simprocAttr, Option.some.injEq, Wv.isAlloc, Wv.vcells, Value.cells, Wv.froze, Int.natCast_add, Int.natCast_one])
    · have him : i = min m 30 - 1 := by omega
      have e0 : ¬ ((((i + 1 : Nat) : Int)) < (m : Int) ∧ (((i + 1 : Nat) : Int)) < 30) := by omega
      rw [← him] at T
      obtain ⟨k1, s1, n1, nl1, li1, na1, ar1, hre⟩ := ok_mk hro
      have hrC : exC (rowX x i) = [.v (.int .i64 k1), .v (.string s1), .v (.int .i64 n1), .t nl1 1 (tab nl1 fun i => .v (.int .i64 (li1 i))), .t na1 5 (tabM na1 fun i => exC (ar1 i))] := by rw [hre, exC_mk]
      have hmin : (if (30 : Int) < (m : Int) then (30 : Int) else (m : Int)) = ((i + 1 : Nat) : Int) := by split <;> omega
      have hrg := exG_clo (rowX x i)
      rw [hxC, hrC]
      rw [hxC] at hxg
      rw [hrC] at hrg
      have hci : ciC (ciT (rowX x i) (poX m x) ⟨#[120]⟩) = [.v (.string ⟨#[99]⟩), .t 1 1 [.v (.string ⟨#[120]⟩)], .t 2 6 (.v (.string ⟨#[97]⟩) :: exC (rowX x i) ++ (.v (.string ⟨#[98]⟩) :: exC (poX m x))), .t 1 1 [.v (.string ⟨#[120]⟩)]] := rfl
      have hpo : exC (poX m x) = [.v (.int .i64 14), .v (.string ⟨#[]⟩), .v (.int .i64 m), .t 0 1 [], .t 1 5 (exC x)] := by
        show [_, _, _, _, AV.t 1 5 (exC x ++ [])] = _
        rw [List.append_nil]; rfl
      rw [hci, hpo, hxC, hrC] at T
      obtain ⟨ss, at_, er⟩ := q
      have hq : typeA (ss, at_, er) = .tup [.t ss.length 2 (shL ss), .v (.int .i64 at_), .v (.int .i64 er)] := rfl
      have hqc := typeA_clo (ss, at_, er)
      rw [hq] at T hqc
      have hLc := shL_clo ss
      simp only at hB
      have hxg2 : ∀ a, a ∈ exC x → Clo a := exC_clo x
      have hrg2 : ∀ a, a ∈ exC (rowX x i) → Clo a := exC_clo _
      rw [hxC] at hxg2
      rw [hrC] at hrg2
      clear hre hrC hci hpo hxe hxC hrs hq hro hx
      have key : ∀ (s : Nat), (∀ j, j < s → Nat.ble m (2 ^ j) = false) → (2 ^ s < m → s + 1 ≤ 7 ∧ ∀ j, j < s + 1 → Nat.ble m (2 ^ j) = false) ∧ (¬ 2 ^ s < m → s ≤ 7 → sN m = some s) := by
        intro s hs
        refine ⟨fun h => ⟨?_, fun j hj => ?_⟩, fun h h7 => findF_at (by omega) (Nat.ble_eq_true_of_le (by omega)) hs⟩
        · have h70 : m ≤ 70 := by omega
          have : ¬ 7 ≤ s := fun h7 => by
            have := Nat.pow_le_pow_right (show 0 < 2 by omega) h7
            omega
          omega
        · by_cases e : j = s
          · subst e
            cases hb : Nat.ble m (2 ^ j) with
            | false => rfl
            | true => have := Nat.le_of_ble_eq_true hb; omega
          · exact hs j (by omega)
      by_cases e1 : (((i + 1 : Nat) : Int)) < (m : Int)
      rotate_left
      simp (maxSteps := 2000000) (disch := first | omega | assumption | (simp only [Wv.Bx, simprocAttr, Wv.vcells, Value.cells, Wv.isAlloc] <;> omega) | fail) only [Wv.Ba, Wv.Bb, Wv.Bc, Wv.Bd, Wv.Be, Wv.Bf, Wv.Bg, Wv.Bh, Wv.Bz, simprocAttr, Option.some.injEq, Wv.isAlloc, Wv.vcells, Value.cells, Wv.froze, decide_eq_false e1, hmin]
      rotate_left
      have e2 : ¬ (((i + 1 : Nat) : Int)) < 30 := by omega
      simp (maxSteps := 2000000) (disch := first | omega | assumption | (simp only [Wv.Bx, simprocAttr, Wv.vcells, Value.cells, Wv.isAlloc] <;> omega) | fail) only [Wv.Ba, Wv.Bb, Wv.Bc, Wv.Bd, Wv.Be, Wv.Bf, Wv.Bg, Wv.Bh, Wv.Bz, simprocAttr, Option.some.injEq, Wv.isAlloc, Wv.vcells, Value.cells, Wv.froze, decide_eq_true e1, decide_eq_false e2, hmin]
      all_goals
        refine wfor (σ := Nat) (fun s => [(0, .v (.int .i64 m)), (1, .v (.bool kn)), (5, .ptr 0 0), (6, .ptr 1 0), (8, .v (.int .i64 ((i + 1 : Nat) : Int))), (9, .v (.int .i64 s)), (10, .v (.int .i64 ((2 ^ s : Nat) : Int)))])
          (fun _ => [some (.blk [.v (.int .i64 k2), .v (.string s2), .v (.int .i64 n2), .t nl2 1 (tab nl2 fun i => .v (.int .i64 (li2 i))), .t na2 5 (tabM na2 fun i => exC (ar2 i))]), some (.blk [.v (.int .i64 k1), .v (.string s1), .v (.int .i64 n1), .t nl1 1 (tab nl1 fun i => .v (.int .i64 (li1 i))), .t na1 5 (tabM na1 fun i => exC (ar1 i))])]) (fun s => s ≤ 7 ∧ ∀ j, j < s → Nat.ble m (2 ^ j) = false) (fun s => 8 - s) 0 ⟨by omega, fun j hj => by omega⟩ rfl (by simp (maxSteps := 2000000) (disch := first | omega | assumption | (simp only [Wv.Bx, simprocAttr, Wv.vcells, Value.cells, Wv.isAlloc] <;> omega) | fail) only [Wv.Ba, Wv.Bb, Wv.Bc, Wv.Bd, Wv.Be, Wv.Bf, Wv.Bg, Wv.Bh, Wv.Bz, simprocAttr, Option.some.injEq, Wv.isAlloc, Wv.vcells, Value.cells, Wv.froze, Nat.pow_zero, Int.natCast_one]) ?_
        rintro s ⟨hs7, hs⟩
        obtain ⟨key1, key2⟩ := key s hs
        have hp2 : 2 ^ (s + 1) = 2 * 2 ^ s := by rw [Nat.pow_succ]; omega
        have hpw : 2 ^ s ≤ 128 := Nat.pow_le_pow_right (show 0 < 2 by omega) hs7
        have hpp : (((2 ^ (s + 1) : Nat)) : Int) = 2 * ((2 ^ s : Nat) : Int) := by rw [hp2]; omega
        generalize 2 ^ s = p at *
        by_cases hlt2 : p < m
        · have e3 : (p : Int) < m := by omega
          obtain ⟨k7, kj⟩ := key1 hlt2
          simp (maxSteps := 2000000) (disch := first | omega | assumption | (simp only [Wv.Bx, simprocAttr, Wv.vcells, Value.cells, Wv.isAlloc] <;> omega) | fail) only [Wv.Ba, Wv.Bb, Wv.Bc, Wv.Bd, Wv.Be, Wv.Bf, Wv.Bg, Wv.Bh, Wv.Bz, simprocAttr, Option.some.injEq, Wv.isAlloc, Wv.vcells, Value.cells, Wv.froze, decide_eq_true e3]
          refine k_next (s + 1) ⟨k7, kj⟩ (by omega) rfl (by simp (maxSteps := 2000000) (disch := first | omega | assumption | (simp only [Wv.Bx, simprocAttr, Wv.vcells, Value.cells, Wv.isAlloc] <;> omega) | fail) only [Wv.Ba, Wv.Bb, Wv.Bc, Wv.Bd, Wv.Be, Wv.Bf, Wv.Bg, Wv.Bh, Wv.Bz, simprocAttr, Option.some.injEq, Wv.isAlloc, Wv.vcells, Value.cells, Wv.froze, hpp, Int.natCast_add, Int.natCast_one])
        · have e3 : ¬ (p : Int) < m := by omega
          have hsn := key2 hlt2 hs7
          clear key key1 key2 hs
          simp (maxSteps := 2000000) (disch := first | omega | assumption | (simp only [Wv.Bx, simprocAttr, Wv.vcells, Value.cells, Wv.isAlloc] <;> omega) | fail) only [Wv.Ba, Wv.Bb, Wv.Bc, Wv.Bd, Wv.Be, Wv.Bf, Wv.Bg, Wv.Bh, Wv.Bz, simprocAttr, Option.some.injEq, Wv.isAlloc, Wv.vcells, Value.cells, Wv.froze, decide_eq_false e3]
          refine calm_TC plain_tc rfl (by simp only [Wv.clo_v, Wv.clo_none, Wv.clo_e0, Wv.clo_t, Wv.clo_g, Wv.clo_tup, Wv.clo_fn, Wv.clo_ifc, Wv.clo_nil, Wv.clo_cons, Wv.clo_tab, Wv.clo_map, implies_true, and_self, true_and, and_true]) (.g (parC_clo plnP)) ?_
          simp (maxSteps := 2000000) (disch := first | omega | assumption | (simp only [Wv.Bx, simprocAttr, Wv.vcells, Value.cells, Wv.isAlloc] <;> omega) | fail) only [Wv.Ba, Wv.Bb, Wv.Bc, Wv.Bd, Wv.Be, Wv.Bf, Wv.Bg, Wv.Bh, Wv.Bz, simprocAttr, Option.some.injEq, Wv.isAlloc, Wv.vcells, Value.cells, Wv.froze]
          refine calm_vd (args2 := [.g (parC plnP), .g [.v (.string ⟨#[99]⟩), .t 1 1 [.v (.string ⟨#[120]⟩)], .t 2 6 [.v (.string ⟨#[97]⟩), .v (.int .i64 k1), .v (.string s1), .v (.int .i64 n1), .t nl1 1 (tab nl1 fun i => .v (.int .i64 (li1 i))), .t na1 5 (tabM na1 fun i => exC (ar1 i)), .v (.string ⟨#[98]⟩), .v (.int .i64 14), .v (.string ⟨#[]⟩), .v (.int .i64 m), .v (.slice none 0 0), .t 1 5 [.v (.int .i64 k2), .v (.string s2), .v (.int .i64 n2), .t nl2 1 (tab nl2 fun i => .v (.int .i64 (li2 i))), .t na2 5 (tabM na2 fun i => exC (ar2 i))]], .t 1 1 [.v (.string ⟨#[120]⟩)]]]) 4 T rfl ?_ ?_ hqc ?_
          · exact ⟨Wk.refl _, Wk.g ⟨Wk.refl _, Wk.refl _, Wk.t ⟨Wk.refl _, Wk.refl _, Wk.refl _, Wk.refl _, Wk.refl _, Wk.refl _, Wk.refl _, Wk.refl _, Wk.refl _, Wk.refl _, Wk.nil 1, Wk.refl _, trivial⟩, Wk.refl _, trivial⟩, trivial⟩
          · simp only [clo_cons, clo_nil, and_true, true_and] at hxg2 hrg2
            refine cloA2 (.g (parC_clo plnP)) ?_
            simp only [clo_cons, clo_nil, clo_g, clo_t, clo_v, and_true, true_and]
            simp only [clo_t, clo_v, true_and, and_true] at hxg2 hrg2
            exact ⟨hrg2.1, hrg2.2, hxg2⟩
          rcases hB with ⟨rfl, b1, rfl, rfl⟩ | ⟨b0, b1, rfl, rfl⟩ | ⟨b0, b1, rfl, rfl, s', hs'⟩
          · have e4 : (8 : Int) < ((i + 1 : Nat) : Int) - 1 := by omega
            simp (maxSteps := 2000000) (disch := first | omega | assumption | (simp only [Wv.Bx, simprocAttr, Wv.vcells, Value.cells, Wv.isAlloc] <;> omega) | fail) only [Wv.Ba, Wv.Bb, Wv.Bc, Wv.Bd, Wv.Be, Wv.Bf, Wv.Bg, Wv.Bh, Wv.Bz, simprocAttr, Option.some.injEq, Wv.isAlloc, Wv.vcells, Value.cells, Wv.froze, decide_eq_true e4]
          · have e4 : (64 : Int) < (m : Int) := by omega
            cases kn with
            | true => simp (maxSteps := 2000000) (disch := first | omega | assumption | (simp only [Wv.Bx, simprocAttr, Wv.vcells, Value.cells, Wv.isAlloc] <;> omega) | fail) only [Wv.Ba, Wv.Bb, Wv.Bc, Wv.Bd, Wv.Be, Wv.Bf, Wv.Bg, Wv.Bh, Wv.Bz, simprocAttr, Option.some.injEq, Wv.isAlloc, Wv.vcells, Value.cells, Wv.froze, decide_eq_true e4]
            | false =>
              have e5 : ¬ (8 : Int) < ((i + 1 : Nat) : Int) - 1 := fun h => b0 ⟨rfl, by omega⟩
              simp (maxSteps := 2000000) (disch := first | omega | assumption | (simp only [Wv.Bx, simprocAttr, Wv.vcells, Value.cells, Wv.isAlloc] <;> omega) | fail) only [Wv.Ba, Wv.Bb, Wv.Bc, Wv.Bd, Wv.Be, Wv.Bf, Wv.Bg, Wv.Bh, Wv.Bz, simprocAttr, Option.some.injEq, Wv.isAlloc, Wv.vcells, Value.cells, Wv.froze, decide_eq_true e4, decide_eq_false e5]
          · have e4 : ¬ (64 : Int) < (m : Int) := by omega
            have S := lsame_yes (pwW m kn) (by unfold pwW; split <;> (show 2 ≤ _; decide))
            rw [hsn] at hs'
            injection hs' with hs'
            subst hs'
            cases kn with
            | true =>
              have S' : TC Tryz.prog 21 [.t 2 2 [.v (.bool true), .v (.int .i64 0), .v (.bool true), .v (.int .i64 0)], .t 2 2 [.v (.bool true), .v (.int .i64 0), .v (.bool true), .v (.int .i64 0)]] (.v (.bool true)) := S
              simp (maxSteps := 2000000) (disch := first | omega | assumption | (simp only [Wv.Bx, simprocAttr, Wv.vcells, Value.cells, Wv.isAlloc] <;> omega) | fail) only [Wv.Ba, Wv.Bb, Wv.Bc, Wv.Bd, Wv.Be, Wv.Bf, Wv.Bg, Wv.Bh, Wv.Bz, simprocAttr, Option.some.injEq, Wv.isAlloc, Wv.vcells, Value.cells, Wv.froze, decide_eq_false e4]
              refine call_TC S' rfl (by simp only [Wv.clo_v, Wv.clo_none, Wv.clo_e0, Wv.clo_t, Wv.clo_g, Wv.clo_tup, Wv.clo_fn, Wv.clo_ifc, Wv.clo_nil, Wv.clo_cons, Wv.clo_tab, Wv.clo_map, implies_true, and_self, true_and, and_true]) (by simp only [Wv.clo_v, Wv.clo_none, Wv.clo_e0, Wv.clo_t, Wv.clo_g, Wv.clo_tup, Wv.clo_fn, Wv.clo_ifc, Wv.clo_nil, Wv.clo_cons, Wv.clo_tab, Wv.clo_map, implies_true, and_self, true_and, and_true]) ?_
              simp (maxSteps := 2000000) (disch := first | omega | assumption | (simp only [Wv.Bx, simprocAttr, Wv.vcells, Value.cells, Wv.isAlloc] <;> omega) | fail) only [Wv.Ba, Wv.Bb, Wv.Bc, Wv.Bd, Wv.Be, Wv.Bf, Wv.Bg, Wv.Bh, Wv.Bz, simprocAttr, Option.some.injEq, Wv.isAlloc, Wv.vcells, Value.cells, Wv.froze]
            | false =>
              have hi1 : ((i + 1 : Nat) : Int) - 1 = i := by omega
              have e5 : ¬ (8 : Int) < (i : Int) := fun h => b0 ⟨rfl, by omega⟩
              have hw : pwW m false = [(false, i), (false, s)] := by unfold pwW; rw [hsn, ← him]; rfl
              rw [hw] at S ⊢
              have S' : TC Tryz.prog 21 [.t 2 2 [.v (.bool false), .v (.int .i64 i), .v (.bool false), .v (.int .i64 s)], .t 2 2 [.v (.bool false), .v (.int .i64 i), .v (.bool false), .v (.int .i64 s)]] (.v (.bool true)) := S
              simp (maxSteps := 2000000) (disch := first | omega | assumption | (simp only [Wv.Bx, simprocAttr, Wv.vcells, Value.cells, Wv.isAlloc] <;> omega) | fail) only [Wv.Ba, Wv.Bb, Wv.Bc, Wv.Bd, Wv.Be, Wv.Bf, Wv.Bg, Wv.Bh, Wv.Bz, simprocAttr, Option.some.injEq, Wv.isAlloc, Wv.vcells, Value.cells, Wv.froze, decide_eq_false e4, hi1, decide_eq_false e5]
              refine call_TC S' rfl (by simp only [Wv.clo_v, Wv.clo_none, Wv.clo_e0, Wv.clo_t, Wv.clo_g, Wv.clo_tup, Wv.clo_fn, Wv.clo_ifc, Wv.clo_nil, Wv.clo_cons, Wv.clo_tab, Wv.clo_map, implies_true, and_self, true_and, and_true]) (by simp only [Wv.clo_v, Wv.clo_none, Wv.clo_e0, Wv.clo_t, Wv.clo_g, Wv.clo_tup, Wv.clo_fn, Wv.clo_ifc, Wv.clo_nil, Wv.clo_cons, Wv.clo_tab, Wv.clo_map, implies_true, and_self, true_and, and_true]) ?_
              simp (maxSteps := 2000000) (disch := first | omega | assumption | (simp only [Wv.Bx, simprocAttr, Wv.vcells, Value.cells, Wv.isAlloc] <;> omega) | fail) only [Wv.Ba, Wv.Bb, Wv.Bc, Wv.Bd, Wv.Be, Wv.Bf, Wv.Bg, Wv.Bh, Wv.Bz, simprocAttr, Option.some.injEq, Wv.isAlloc, Wv.vcells, Value.cells, Wv.froze]
/-- What a law's row asks. -/
theorem law_of {f : FuncId} {args : List AV} {b : Bool} (T : TC Tryz.prog f args (.v (.bool b))) {w : World} {vs : List Value} (hr : RepL ⟨w, fun _ => (none, 0), [], fun _ _ => False, []⟩ args vs) :
    Calls Tryz.prog f vs.toArray w fun e w' => e = .returned (.bool b) ∧ Below w.heap.size w w' := by
  refine (T.calls hr).mono ?_
  rintro e w' ⟨v, rfl, h1, h2⟩
  cases h2
  exact ⟨rfl, h1⟩
def repA (X : Cx) : List AV → List Value → Prop
  | [], [] => True
  | a :: l, v :: vs => Rep X a v ∧ repA X l vs
  | _, _ => False
theorem repL_of {X : Cx} : ∀ {l : List AV} {vs : List Value}, repA X l vs → RepL X l vs
  | [], [], _ => ⟨rfl, fun i a x h => by simp at h⟩
  | [], _ :: _, h => h.elim
  | _ :: _, [], h => h.elim
  | a :: l, v :: vs, h => by
    obtain ⟨h1, h2⟩ := repL_of h.2
    refine ⟨by simp [h1], fun i b x e1 e2 => ?_⟩
    cases i with
    | zero => simp at e1 e2; subst e1 e2; exact h.1
    | succ i => exact h2 i b x (by simpa using e1) (by simpa using e2)
end Go.Proofs.YtljfgdlgmdcmfaaGreat
