/- TypingFields: the walk. -/
import Derived.Test.YtljfgdlgmdcmfaaGreatFldE
import Derived.Test.YtljfgdlgmdcmfaaGreatRowT
namespace Go.Proofs.YtljfgdlgmdcmfaaGreat
open Go.RowKit Wv
set_option linter.unusedVariables false
set_option linter.unusedSimpArgs false

theorem typeQ_len (me : Int) (c : Ci) (ru : Ex → Nat → Except Int Nat) : (typeQ me c ru).1.length ≤ 60 := by
  unfold typeQ
  split
  · exact Nat.zero_le _
  · split
    · exact Nat.zero_le _
    · next h =>
      have hn : c.nl ≤ 60 := check_few (by simpa using h)
      have t1 : typeT c ru = match insT c.fi c.ni with | none => ([], -1, 230) | some ns => midT c (letT ns c.ln (fun ns i => shE ns ru (c.le i)) c.nl) := rfl
      rw [t1]
      cases insT c.fi c.ni with
      | none => exact Nat.zero_le _
      | some ns =>
        simp only
        have hl : ∀ n q, letT ns c.ln (fun ns i => shE ns ru (c.le i)) n = .ok q → q.2.length = n := by
          intro n
          induction n with
          | zero => intro q h; injection h with h; subst h; rfl
          | succ n ih =>
            intro q h
            rw [letT_next] at h
            cases h1 : letT ns c.ln (fun ns i => shE ns ru (c.le i)) n with
            | error e => rw [h1] at h; cases h
            | ok p =>
              obtain ⟨n1, s1⟩ := p
              rw [h1] at h
              have h' : (if (findN n1 (c.ln n)).isSome = true then Except.error (n, 230) else letS n1 s1 n (c.ln n) (shE n1 ru (c.le n))) = (Except.ok q : Except (Nat × Int) (Nms × List (Bool × Nat))) := h
              split at h'
              · cases h'
              · cases h2 : shE n1 ru (c.le n) with
                | error e => rw [h2] at h'; cases h'
                | ok r =>
                  rw [h2] at h'
                  have h3 : (Except.ok (n1 ++ [(c.ln n, r)], s1 ++ [r]) : Except (Nat × Int) (Nms × List (Bool × Nat))) = .ok q := h'
                  injection h3 with h3
                  subst h3
                  have := ih _ h1
                  simp only at this ⊢
                  rw [List.length_append, this]; rfl
        cases h1 : letT ns c.ln (fun ns i => shE ns ru (c.le i)) c.nl with
        | error p => exact Nat.zero_le _
        | ok q =>
          have := hl _ _ h1
          have m1 : midT c (.ok q) = lastT q.2 c.nl (outT q.1 c.fo c.no) := rfl
          rw [m1]
          cases outT q.1 c.fo c.no with
          | none => show q.2.length ≤ 60; omega
          | some e => exact Nat.zero_le _
set_option maxHeartbeats 1600000 in
set_option maxRecDepth 100000 in
theorem tfields_tc (c : Ci) (h : okC0 c) : TC Tryz.prog 6 [.g (ciC c)] (.v (.bool true)) := by
  have TB := lbeyond_tc c h 3000 (by omega) (by omega)
  have hCg := ciG_clo c
  obtain ⟨cc, hcc⟩ : ∃ cc, cc = ciC c := ⟨_, rfl⟩
  refine Wv.TC.by 88 [0, 14, 1, 21, 3, 12, 44, 11, 7, 62, 10, 5, 8, 71, 9, 6, 2] [(3, 7), (6, 7)] [.tmp 2] (by kernel_rfl) Tryz.func6 rfl rfl rfl (by kernel_rfl) (by kernel_rfl) (Nat.le_of_ble_eq_true rfl) rfl ?clo ?_
  case clo => simp only [Wv.clo_v, Wv.clo_none, Wv.clo_e0, Wv.clo_t, Wv.clo_g, Wv.clo_tup, Wv.clo_fn, Wv.clo_ifc, Wv.clo_nil, Wv.clo_cons, Wv.clo_tab, Wv.clo_map, implies_true, and_self, true_and, and_true]
  unfold ciC strsA at *
  simp (maxSteps := 2000000) (disch := first | omega | assumption | (simp only [Wv.Bx, simprocAttr, Wv.vcells, Value.cells, Wv.isAlloc] <;> omega) | fail) only [Wv.Ba, Wv.Bb, Wv.Bc, Wv.Bd, Wv.Be, Wv.Bf, Wv.Bg, Wv.Bh, Wv.Bi, Wv.Bz, simprocAttr, Option.some.injEq, Wv.isAlloc, Wv.vcells, Value.cells, Wv.froze]
  refine call_TC shown_tc rfl (by simp only [Wv.clo_v, Wv.clo_none, Wv.clo_e0, Wv.clo_t, Wv.clo_g, Wv.clo_tup, Wv.clo_fn, Wv.clo_ifc, Wv.clo_nil, Wv.clo_cons, Wv.clo_tab, Wv.clo_map, implies_true, and_self, true_and, and_true]) (by simp only [Wv.clo_v, Wv.clo_none, Wv.clo_e0, Wv.clo_t, Wv.clo_g, Wv.clo_tup, Wv.clo_fn, Wv.clo_ifc, Wv.clo_nil, Wv.clo_cons, Wv.clo_tab, Wv.clo_map, implies_true, and_self, true_and, and_true]) ?_
  simp (maxSteps := 2000000) (disch := first | omega | assumption | (simp only [Wv.Bx, simprocAttr, Wv.vcells, Value.cells, Wv.isAlloc] <;> omega) | fail) only [Wv.Ba, Wv.Bb, Wv.Bc, Wv.Bd, Wv.Be, Wv.Bf, Wv.Bg, Wv.Bh, Wv.Bi, Wv.Bz, simprocAttr, Option.some.injEq, Wv.isAlloc, Wv.vcells, Value.cells, Wv.froze]
  refine calm_TC TB rfl (clB2 hCg (.v _)) (by simp only [Wv.clo_v, Wv.clo_none, Wv.clo_e0, Wv.clo_t, Wv.clo_g, Wv.clo_tup, Wv.clo_fn, Wv.clo_ifc, Wv.clo_nil, Wv.clo_cons, Wv.clo_tab, Wv.clo_map, implies_true, and_self, true_and, and_true]) ?_
  cases hb : beyB c 3000 with
  | true => simp (maxSteps := 2000000) (disch := first | omega | assumption | (simp only [Wv.Bx, simprocAttr, Wv.vcells, Value.cells, Wv.isAlloc] <;> omega) | fail) only [Wv.Ba, Wv.Bb, Wv.Bc, Wv.Bd, Wv.Be, Wv.Bf, Wv.Bg, Wv.Bh, Wv.Bi, Wv.Bz, simprocAttr, Option.some.injEq, Wv.isAlloc, Wv.vcells, Value.cells, Wv.froze, hb]
  | false =>
  obtain ⟨hok, hnl, hcn⟩ := okC_of h (by omega) (by omega) hb
  have TH := lheavy_tc (parC plnP) (parC_clo plnP) 17 _ _ _ _ _ _ rfl (by omega) c h hnl fun i hi => by have := hcn i hi; omega
  have TA := ptype_A c hok
  have TQ := ptype_Q c hok
  have hL := fld_law c
  have l1 := typeQ_len 0 c (ruA plnP 17)
  have l2 := typeQ_len 0 c (ruA plnQ 289)
  have TD := pdef_q
  have hQc := parC_clo plnQ
  have hPc := parC_clo plnP
  have eq1 : parC plnQ = [.v (.int .i64 8), .v (.int .u32 17), .v (.int .i64 2), .t 1 1 [.v (.int .u32 2147417969)], .v (.int .u32 2147468833), .v (.int .i64 4), .v (.int .u32 2)] := rfl
  rw [eq1] at TD TQ hQc
  unfold ciC strsA at TH TA TQ
  generalize typeQ 0 c (ruA plnP 17) = q at *
  generalize typeQ 0 c (ruA plnQ 289) = r at *
  generalize heavB 17 c = hv at *
  obtain ⟨s1, at1, e1⟩ := q
  obtain ⟨s2, at2, e2⟩ := r
  have hqc := typeA_clo (s1, at1, e1)
  have hrc := typeA_clo (s2, at2, e2)
  have t1 : typeA (s1, at1, e1) = .tup [.t s1.length 2 (shL s1), .v (.int .i64 at1), .v (.int .i64 e1)] := rfl
  have t2 : typeA (s2, at2, e2) = .tup [.t s2.length 2 (shL s2), .v (.int .i64 at2), .v (.int .i64 e2)] := rfl
  rw [t1] at TA hqc
  rw [t2] at TQ hrc
  simp only at l1 l2
  simp (maxSteps := 2000000) (disch := first | omega | assumption | (simp only [Wv.Bx, simprocAttr, Wv.vcells, Value.cells, Wv.isAlloc] <;> omega) | fail) only [Wv.Ba, Wv.Bb, Wv.Bc, Wv.Bd, Wv.Be, Wv.Bf, Wv.Bg, Wv.Bh, Wv.Bi, Wv.Bz, simprocAttr, Option.some.injEq, Wv.isAlloc, Wv.vcells, Value.cells, Wv.froze, hb]
  refine calm_TC plain_tc rfl (by simp only [Wv.clo_v, Wv.clo_none, Wv.clo_e0, Wv.clo_t, Wv.clo_g, Wv.clo_tup, Wv.clo_fn, Wv.clo_ifc, Wv.clo_nil, Wv.clo_cons, Wv.clo_tab, Wv.clo_map, implies_true, and_self, true_and, and_true]) (.g hPc) ?_
  simp (maxSteps := 2000000) (disch := first | omega | assumption | (simp only [Wv.Bx, simprocAttr, Wv.vcells, Value.cells, Wv.isAlloc] <;> omega) | fail) only [Wv.Ba, Wv.Bb, Wv.Bc, Wv.Bd, Wv.Be, Wv.Bf, Wv.Bg, Wv.Bh, Wv.Bi, Wv.Bz, simprocAttr, Option.some.injEq, Wv.isAlloc, Wv.vcells, Value.cells, Wv.froze]
  refine calm_TC TH rfl (clB2 (.g hPc) hCg) (by simp only [Wv.clo_v, Wv.clo_none, Wv.clo_e0, Wv.clo_t, Wv.clo_g, Wv.clo_tup, Wv.clo_fn, Wv.clo_ifc, Wv.clo_nil, Wv.clo_cons, Wv.clo_tab, Wv.clo_map, implies_true, and_self, true_and, and_true]) ?_
  cases hv with
  | true => simp (maxSteps := 2000000) (disch := first | omega | assumption | (simp only [Wv.Bx, simprocAttr, Wv.vcells, Value.cells, Wv.isAlloc] <;> omega) | fail) only [Wv.Ba, Wv.Bb, Wv.Bc, Wv.Bd, Wv.Be, Wv.Bf, Wv.Bg, Wv.Bh, Wv.Bi, Wv.Bz, simprocAttr, Option.some.injEq, Wv.isAlloc, Wv.vcells, Value.cells, Wv.froze]
  | false =>
  simp (maxSteps := 2000000) (disch := first | omega | assumption | (simp only [Wv.Bx, simprocAttr, Wv.vcells, Value.cells, Wv.isAlloc] <;> omega) | fail) only [Wv.Ba, Wv.Bb, Wv.Bc, Wv.Bd, Wv.Be, Wv.Bf, Wv.Bg, Wv.Bh, Wv.Bi, Wv.Bz, simprocAttr, Option.some.injEq, Wv.isAlloc, Wv.vcells, Value.cells, Wv.froze]
  refine call_TC TD rfl (by simp only [Wv.clo_v, Wv.clo_none, Wv.clo_e0, Wv.clo_t, Wv.clo_g, Wv.clo_tup, Wv.clo_fn, Wv.clo_ifc, Wv.clo_nil, Wv.clo_cons, Wv.clo_tab, Wv.clo_map, implies_true, and_self, true_and, and_true]) (by simp only [Wv.clo_v, Wv.clo_none, Wv.clo_e0, Wv.clo_t, Wv.clo_g, Wv.clo_tup, Wv.clo_fn, Wv.clo_ifc, Wv.clo_nil, Wv.clo_cons, Wv.clo_tab, Wv.clo_map, implies_true, and_self, true_and, and_true]) ?_
  simp (maxSteps := 2000000) (disch := first | omega | assumption | (simp only [Wv.Bx, simprocAttr, Wv.vcells, Value.cells, Wv.isAlloc] <;> omega) | fail) only [Wv.Ba, Wv.Bb, Wv.Bc, Wv.Bd, Wv.Be, Wv.Bf, Wv.Bg, Wv.Bh, Wv.Bi, Wv.Bz, simprocAttr, Option.some.injEq, Wv.isAlloc, Wv.vcells, Value.cells, Wv.froze]
  refine calm_TC plain_tc rfl (by simp only [Wv.clo_v, Wv.clo_none, Wv.clo_e0, Wv.clo_t, Wv.clo_g, Wv.clo_tup, Wv.clo_fn, Wv.clo_ifc, Wv.clo_nil, Wv.clo_cons, Wv.clo_tab, Wv.clo_map, implies_true, and_self, true_and, and_true]) (.g hPc) ?_
  simp (maxSteps := 2000000) (disch := first | omega | assumption | (simp only [Wv.Bx, simprocAttr, Wv.vcells, Value.cells, Wv.isAlloc] <;> omega) | fail) only [Wv.Ba, Wv.Bb, Wv.Bc, Wv.Bd, Wv.Be, Wv.Bf, Wv.Bg, Wv.Bh, Wv.Bi, Wv.Bz, simprocAttr, Option.some.injEq, Wv.isAlloc, Wv.vcells, Value.cells, Wv.froze]
  refine calm_TC TA rfl (clB2 (.g hPc) hCg) hqc ?_
  simp (maxSteps := 2000000) (disch := first | omega | assumption | (simp only [Wv.Bx, simprocAttr, Wv.vcells, Value.cells, Wv.isAlloc] <;> omega) | fail) only [Wv.Ba, Wv.Bb, Wv.Bc, Wv.Bd, Wv.Be, Wv.Bf, Wv.Bg, Wv.Bh, Wv.Bi, Wv.Bz, simprocAttr, Option.some.injEq, Wv.isAlloc, Wv.vcells, Value.cells, Wv.froze]
  refine call_TC TQ rfl (clB2 (.g hQc) hCg) hrc ?_
  simp (maxSteps := 2000000) (disch := first | omega | assumption | (simp only [Wv.Bx, simprocAttr, Wv.vcells, Value.cells, Wv.isAlloc] <;> omega) | fail) only [Wv.Ba, Wv.Bb, Wv.Bc, Wv.Bd, Wv.Be, Wv.Bf, Wv.Bg, Wv.Bh, Wv.Bi, Wv.Bz, simprocAttr, Option.some.injEq, Wv.isAlloc, Wv.vcells, Value.cells, Wv.froze]
  clear TQ TA TD TH TB hqc hrc
  refine wfor (σ := Nat) (fun i => [(1, .ptr 0 0), (5, .t s1.length 2 (shL s1)), (6, .v (.int .i64 at1)), (7, .v (.int .i64 e1)), (8, .t s2.length 2 (shL s2)), (9, .v (.int .i64 at2)), (10, .v (.int .i64 e2)), (11, .v (.bool (anyN i fun i => hasE (c.le i)))), (12, .v (.int .i64 i))])
    (fun i => [some (.blk [.v (.string c.name), .t c.ni 1 (tab c.ni fun i => .v (.string (c.fi i))), .t c.nl 6 c.lets, .t c.no 1 (tab c.no fun i => .v (.string (c.fo i)))]), some (.blk [.v (.int .i64 8), .v (.int .u32 17), .v (.int .i64 2), .t 1 1 [.v (.int .u32 2147417969)], .v (.int .u32 2147468833), .v (.int .i64 4), .v (.int .u32 2)])])
    (fun i => i ≤ c.nl) (fun i => c.nl - i) 0 (Nat.zero_le _) rfl (by simp (maxSteps := 2000000) (disch := first | omega | assumption | (simp only [Wv.Bx, simprocAttr, Wv.vcells, Value.cells, Wv.isAlloc] <;> omega) | fail) only [Wv.Ba, Wv.Bb, Wv.Bc, Wv.Bd, Wv.Be, Wv.Bf, Wv.Bg, Wv.Bh, Wv.Bi, Wv.Bz, simprocAttr, Option.some.injEq, Wv.isAlloc, Wv.vcells, Value.cells, Wv.froze]; rfl) ?_
  intro i hi
  have hsu : (anyN (i + 1) fun i => hasE (c.le i)) = ((anyN i fun i => hasE (c.le i)) || hasE (c.le i)) := any_succ
  by_cases hlt : i < c.nl
  · have e1' : (i : Int) < (c.nl : Int) := by omega
    have T := lhas_tc (c.le i) (h.le i hlt)
    have hG := exG_clo (c.le i)
    have hoy := h.le i hlt
    have hLc := lets_clo c
    obtain ⟨rr, hd⟩ : ∃ r, List.drop (i * 6) c.lets = letC (c.ln i) (c.le i) ++ r := tabM_drop (f := fun i => letC (c.ln i) (c.le i)) (fun i => letC_len _ _) hlt
    unfold letC at hd
    have hnl2 := h.nl
    generalize hasE (c.le i) = hx at *
    generalize hle : c.le i = y at *
    obtain ⟨k', s', n', nl', li', na', ar', rfl⟩ := ok_mk hoy
    rw [exC_mk] at T hG hd
    simp only [List.cons_append, List.nil_append] at hd
    clear hL
    cases hany : (anyN i fun i => hasE (c.le i)) with
    | true =>
      rw [hany, Bool.true_or] at hsu
      simp (maxSteps := 2000000) (disch := first | omega | assumption | (simp only [Wv.Bx, simprocAttr, Wv.vcells, Value.cells, Wv.isAlloc] <;> omega) | fail) only [Wv.Ba, Wv.Bb, Wv.Bc, Wv.Bd, Wv.Be, Wv.Bf, Wv.Bg, Wv.Bh, Wv.Bi, Wv.Bz, simprocAttr, Option.some.injEq, Wv.isAlloc, Wv.vcells, Value.cells, Wv.froze, decide_eq_true e1']
      refine k_next (i + 1) (by omega) (by omega) rfl (by simp (maxSteps := 2000000) (disch := first | omega | assumption | (simp only [Wv.Bx, simprocAttr, Wv.vcells, Value.cells, Wv.isAlloc] <;> omega) | fail) only [Wv.Ba, Wv.Bb, Wv.Bc, Wv.Bd, Wv.Be, Wv.Bf, Wv.Bg, Wv.Bh, Wv.Bi, Wv.Bz, simprocAttr, Option.some.injEq, Wv.isAlloc, Wv.vcells, Value.cells, Wv.froze, hsu, Int.natCast_add, Int.natCast_one])
    | false =>
      rw [hany, Bool.false_or] at hsu
      simp (maxSteps := 2000000) (disch := first | omega | assumption | (simp only [Wv.Bx, simprocAttr, Wv.vcells, Value.cells, Wv.isAlloc] <;> omega) | fail) only [Wv.Ba, Wv.Bb, Wv.Bc, Wv.Bd, Wv.Be, Wv.Bf, Wv.Bg, Wv.Bh, Wv.Bi, Wv.Bz, simprocAttr, Option.some.injEq, Wv.isAlloc, Wv.vcells, Value.cells, Wv.froze, decide_eq_true e1', hd]
      refine call_TC T rfl (cloA1 hG) (by simp only [Wv.clo_v, Wv.clo_none, Wv.clo_e0, Wv.clo_t, Wv.clo_g, Wv.clo_tup, Wv.clo_fn, Wv.clo_ifc, Wv.clo_nil, Wv.clo_cons, Wv.clo_tab, Wv.clo_map, implies_true, and_self, true_and, and_true]) ?_
      simp (maxSteps := 2000000) (disch := first | omega | assumption | (simp only [Wv.Bx, simprocAttr, Wv.vcells, Value.cells, Wv.isAlloc] <;> omega) | fail) only [Wv.Ba, Wv.Bb, Wv.Bc, Wv.Bd, Wv.Be, Wv.Bf, Wv.Bg, Wv.Bh, Wv.Bi, Wv.Bz, simprocAttr, Option.some.injEq, Wv.isAlloc, Wv.vcells, Value.cells, Wv.froze]
      refine k_next (i + 1) (by omega) (by omega) rfl (by simp (maxSteps := 2000000) (disch := first | omega | assumption | (simp only [Wv.Bx, simprocAttr, Wv.vcells, Value.cells, Wv.isAlloc] <;> omega) | fail) only [Wv.Ba, Wv.Bb, Wv.Bc, Wv.Bd, Wv.Be, Wv.Bf, Wv.Bg, Wv.Bh, Wv.Bi, Wv.Bz, simprocAttr, Option.some.injEq, Wv.isAlloc, Wv.vcells, Value.cells, Wv.froze, hsu, Int.natCast_add, Int.natCast_one])
  · obtain rfl : i = c.nl := by omega
    obtain ⟨q1, q2, q3⟩ := hL
    simp only at q1 q2 q3
    clear hsu
    generalize (anyN c.nl fun i => hasE (c.le i)) = fld at *
    by_cases h1 : e1 = 0
    · cases fld with
      | false =>
        obtain ⟨r1, r2⟩ := q1 h1 rfl
        subst r2
        have S := lsame_yes s1 (by omega)
        have hsc := shL_clo s1
        simp (maxSteps := 2000000) (disch := first | omega | assumption | (simp only [Wv.Bx, simprocAttr, Wv.vcells, Value.cells, Wv.isAlloc] <;> omega) | fail) only [Wv.Ba, Wv.Bb, Wv.Bc, Wv.Bd, Wv.Be, Wv.Bf, Wv.Bg, Wv.Bh, Wv.Bi, Wv.Bz, simprocAttr, Option.some.injEq, Wv.isAlloc, Wv.vcells, Value.cells, Wv.froze, Int.lt_irrefl, decide_false, decide_eq_true h1, decide_eq_true r1]
        refine call_TC S rfl (clB2 (.t hsc) (.t hsc)) (by simp only [Wv.clo_v, Wv.clo_none, Wv.clo_e0, Wv.clo_t, Wv.clo_g, Wv.clo_tup, Wv.clo_fn, Wv.clo_ifc, Wv.clo_nil, Wv.clo_cons, Wv.clo_tab, Wv.clo_map, implies_true, and_self, true_and, and_true]) ?_
        simp (maxSteps := 2000000) (disch := first | omega | assumption | (simp only [Wv.Bx, simprocAttr, Wv.vcells, Value.cells, Wv.isAlloc] <;> omega) | fail) only [Wv.Ba, Wv.Bb, Wv.Bc, Wv.Bd, Wv.Be, Wv.Bf, Wv.Bg, Wv.Bh, Wv.Bi, Wv.Bz, simprocAttr, Option.some.injEq, Wv.isAlloc, Wv.vcells, Value.cells, Wv.froze]
      | true =>
        obtain ⟨r1, r2⟩ := q2 h1 rfl
        simp (maxSteps := 2000000) (disch := first | omega | assumption | (simp only [Wv.Bx, simprocAttr, Wv.vcells, Value.cells, Wv.isAlloc] <;> omega) | fail) only [Wv.Ba, Wv.Bb, Wv.Bc, Wv.Bd, Wv.Be, Wv.Bf, Wv.Bg, Wv.Bh, Wv.Bi, Wv.Bz, simprocAttr, Option.some.injEq, Wv.isAlloc, Wv.vcells, Value.cells, Wv.froze, Int.lt_irrefl, decide_false, decide_eq_true h1, decide_eq_true r1, decide_eq_true r2]
    · by_cases h2 : e2 = 0
      · obtain ⟨r1, r2⟩ := q3 h1 h2
        simp (maxSteps := 2000000) (disch := first | omega | assumption | (simp only [Wv.Bx, simprocAttr, Wv.vcells, Value.cells, Wv.isAlloc] <;> omega) | fail) only [Wv.Ba, Wv.Bb, Wv.Bc, Wv.Bd, Wv.Be, Wv.Bf, Wv.Bg, Wv.Bh, Wv.Bi, Wv.Bz, simprocAttr, Option.some.injEq, Wv.isAlloc, Wv.vcells, Value.cells, Wv.froze, Int.lt_irrefl, decide_false, decide_eq_false h1, decide_eq_true h2, decide_eq_true r1, decide_eq_true r2]
      · simp (maxSteps := 2000000) (disch := first | omega | assumption | (simp only [Wv.Bx, simprocAttr, Wv.vcells, Value.cells, Wv.isAlloc] <;> omega) | fail) only [Wv.Ba, Wv.Bb, Wv.Bc, Wv.Bd, Wv.Be, Wv.Bf, Wv.Bg, Wv.Bh, Wv.Bi, Wv.Bz, simprocAttr, Option.some.injEq, Wv.isAlloc, Wv.vcells, Value.cells, Wv.froze, Int.lt_irrefl, decide_false, decide_eq_false h1, decide_eq_false h2]
end Go.Proofs.YtljfgdlgmdcmfaaGreat
