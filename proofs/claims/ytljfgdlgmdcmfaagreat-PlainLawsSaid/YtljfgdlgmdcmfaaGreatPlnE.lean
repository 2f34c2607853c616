/- Plain values: Eval. -/
import Derived.Test.YtljfgdlgmdcmfaaGreatPlnD
import Derived.Test.YtljfgdlgmdcmfaaGreatTypO
namespace Go.Proofs.YtljfgdlgmdcmfaaGreat
open Go.RowKit Wv
set_option linter.unusedVariables false
set_option linter.unusedSimpArgs false

/-- Vectors. -/
def vsA (m : Nat) (ln : Nat → Nat) (vs : Nat → Nat → Int) : AV := .t m 1 (tab m fun i => vcA (ln i) (vs i))
/-- Is that no vector? -/
def badV (N : Nat) (t : Int) (n : Nat) (f : Nat → Int) : Bool := !decide ((n : Int) = N) || (decide (mxN f (n - 1) > (t - 1) / 2) || decide (mnN f (n - 1) < -((t - 1) / 2)))
def envI (fi : Nat → ByteArray) (vs : Nat → Nat → Int) : Nat → Env
  | 0 => []
  | i + 1 => putE (envI fi vs i) (fi i) (vs i)
def envL (N : Nat) (t : Int) (es : Env) (ln : Nat → ByteArray) (le : Nat → Ex) : Nat → Env
  | 0 => es
  | i + 1 => putE (envL N t es ln le i) (ln i) (evX N t (envL N t es ln le i) (le i))
/-- The values of all names. -/
def envC (N : Nat) (t : Int) (c : Ci) (vs : Nat → Nat → Int) (i : Nat) : Env := envL N t (envI c.fi vs c.ni) c.ln c.le i
def outF (N : Nat) (t : Int) (c : Ci) (vs : Nat → Nat → Int) (i : Nat) : Nat → Int := (lookN (envC N t c vs c.nl) (c.fo i)).getD fun _ => 0
/-- May a circuit be evaluated? -/
def goC (N : Nat) (t : Int) (c : Ci) (vs : Nat → Nat → Int) : Prop :=
  (∀ i, i < c.nl → okE (c.le i) ∧ formB (c.le i) = true ∧ goE N t (envC N t c vs i) (c.le i)) ∧ c.no ≤ 8 ∧ ∀ i, i < c.no → (lookN (envC N t c vs c.nl) (c.fo i)).isSome = true
def evalA (N : Nat) (t e : Int) (c : Ci) (m : Nat) (ln : Nat → Nat) (vs : Nat → Nat → Int) : AV :=
  if e ≠ 0 then .tup [.v (.slice none 0 0), .v (.int .i64 e)] else if m ≠ c.ni then .tup [.v (.slice none 0 0), .v (.int .i64 2)] else if anyN m (fun i => badV N t (ln i) (vs i)) = true then .tup [.v (.slice none 0 0), .v (.int .i64 2)]
  else .tup [.t c.no 1 (tab c.no fun i => vcA N (outF N t c vs i)), .v (.int .i64 0)]
theorem bad_in {N : Nat} {t : Int} {n : Nat} {f : Nat → Int} (h : badV N t n f = false) (h4 : 4 ≤ N) : n = N ∧ ∀ j, j < N → -((t - 1) / 2) ≤ f j ∧ f j ≤ (t - 1) / 2 := by
  unfold badV at h
  simp only [Bool.or_eq_false_iff, decide_eq_false_iff_not, Bool.not_eq_false', decide_eq_true_eq] at h
  obtain ⟨h1, h2, h3⟩ := h
  have h1' : n = N := by omega
  subst h1'
  refine ⟨rfl, fun j hj => ⟨?_, ?_⟩⟩
  · exact (mnN_ge (f := f) (h := -((t - 1) / 2)) (n - 1)).1 (by omega) j (by omega)
  · exact (mxN_le (f := f) (h := (t - 1) / 2) (n - 1)).1 (by omega) j (by omega)
set_option maxHeartbeats 1600000 in
set_option maxRecDepth 100000 in
theorem peval_tc (x : Par) (c : Ci) (N : Nat) (t e at_ : Int) (ss : List (Bool × Nat)) (hx : x.n = N) (ht : 3 ≤ t) (hodd : t % 2 = 1) (ht' : t ≤ 2147483647) (hN : 4 ≤ N) (hN2 : N ≤ 32) (hN3 : N % 2 = 0)
    (TT : TC Tryz.prog 19 [.g (parC x), .g (ciC c)] (typeA (ss, at_, e))) (TM : TC Tryz.prog 60 [.g (parC x), .v (.int .i64 x.r)] (.tup [.v (.int .i64 t), .v (.int .i64 0)])) (hok : okC c)
    (m : Nat) (ln : Nat → Nat) (vs : Nat → Nat → Int) (hm : m ≤ 140737488351232) (hln : ∀ i, i < m → ln i ≤ 140737488351232) (hgo : e = 0 → goC N t c vs) :
    TC Tryz.prog 33 [.g (parC x), .g (ciC c), vsA m ln vs] (evalA N t e c m ln vs) := by
  have hP := parC_clo x
  have hcc := ciC_clo c
  have hll := lets_len c
  have hlc := lets_clo c
  have hnl := hok.nl
  have hni := hok.ni
  have hA : evalA N t e c m ln vs = if e ≠ 0 then .tup [.v (.slice none 0 0), .v (.int .i64 e)] else if m ≠ c.ni then .tup [.v (.slice none 0 0), .v (.int .i64 2)] else if anyN m (fun i => badV N t (ln i) (vs i)) = true then .tup [.v (.slice none 0 0), .v (.int .i64 2)]
    else .tup [.t c.no 1 (tab c.no fun i => vcA N (outF N t c vs i)), .v (.int .i64 0)] := rfl
  have hclo : ∀ a, a = evalA N t e c m ln vs → Clo a := by
    rintro a rfl
    unfold evalA vcA
    split
    · simp only [Wv.BC]
    · split
      · simp only [Wv.BC]
      · split <;> simp only [Wv.BC]
  unfold vsA vcA
  unfold parC ciC strsA at *
  rw [hx] at *
  refine Wv.TC.by 127 [0, 1, 3, 4, 10, 29, 2, 43, 11, 52, 51, 53, 50, 15, 78, 13, 14, 93, 92, 94, 91, 17, 111, 110, 112, 109, 18, 20, 6, 7] [(13, 10), (18, 10)] [.tmp 6, .tmp 7] (by kernel_rfl) Tryz.func33 rfl rfl rfl (by kernel_rfl) (by kernel_rfl) (Nat.le_of_ble_eq_true rfl) rfl ?clo ?_
  case clo => exact hclo _ rfl
  unfold typeA at TT
  simp (maxSteps := 2000000) (disch := first | omega | assumption | (simp only [Wv.Bx, simprocAttr] <;> omega) | fail) only [Wv.B, simprocAttr]
  refine call_TC TT rfl (cloA2 (.g hP) (.g hcc)) (by simp only [Wv.BC]; exact shL_clo _) ?_
  by_cases he : e = 0
  · rw [if_neg (fun q => q he)] at hA
    simp (maxSteps := 2000000) (disch := first | omega | assumption | (simp only [Wv.Bx, simprocAttr] <;> omega) | fail) only [Wv.B, simprocAttr, decide_eq_true he]
    refine call_TC TM rfl (cloA2 (.g hP) (by simp only [Wv.BC])) (by simp only [Wv.BC]) ?_
    by_cases hmi : m = c.ni
    · rw [if_neg (fun q => q hmi)] at hA
      have e1 : (m : Int) = c.ni := by omega
      have hdr : ∀ i, i < c.nl → ∃ r, List.drop (i * 6) c.lets = letC (c.ln i) (c.le i) ++ r := fun i hi => tabM_drop (f := fun i => letC (c.ln i) (c.le i)) (fun i => letC_len _ _) hi
      generalize c.lets = L at hll hlc hdr ⊢
      obtain ⟨hgl, hgn, hgs⟩ := hgo he
      have hq : (t - 1).tdiv 2 = (t - 1) / 2 := Int.tdiv_eq_ediv_of_nonneg (by omega)
      have hq2 : (0 - (t - 1)).tdiv 2 = -((t - 1) / 2) := by rw [Int.zero_sub, Int.neg_tdiv, hq]
      have hput := put_en N
      simp (maxSteps := 2000000) (disch := first | omega | assumption | (simp only [Wv.Bx, simprocAttr] <;> omega) | fail) only [Wv.B, simprocAttr, decide_eq_true e1]
      refine wfor (σ := Nat) (fun i => [(3, .ptr 0 0), (4, .ptr 1 0), (11, .v (.int .i64 t)), (13, .ptr 3 0), (50, .t m 1 (tab m fun i => .t (ln i) 1 (tab (ln i) fun j => .v (.int .i64 (vs i j))))), (51, .v (.int .i64 m)), (52, .v (.int .i64 i))])
        (fun i => [some (.blk [.v (.int .i64 N), .v (.int .u32 x.p), .v (.int .i64 x.r), .t x.ch.length 1 (x.ch.map fun (c : Nat) => .v (.int .u32 c)), .v (.int .u32 x.sp), .v (.int .i64 x.wt), .v (.int .u32 x.er)]), some (.blk [.v (.string c.name), .t c.ni 1 (tab c.ni fun i => .v (.string (c.fi i))), .t c.nl 6 L, .t c.no 1 (tab c.no fun i => .v (.string (c.fo i)))]), some (.map (enE N (envI c.fi vs i))), some (.blk [.v (.int .i64 N), .v (.int .i64 t), .mp 2])])
        (fun i => i ≤ m ∧ ∀ a, a < i → badV N t (ln a) (vs a) = false) (fun i => m - i) 0 ⟨Nat.zero_le _, fun a h => absurd h (Nat.not_lt_zero a)⟩ (by simp (maxSteps := 2000000) (disch := first | omega | assumption | (simp only [Wv.Bx, simprocAttr] <;> omega) | fail) only [Wv.B, simprocAttr, envI, enE]) (by simp (maxSteps := 2000000) (disch := first | omega | assumption | (simp only [Wv.Bx, simprocAttr] <;> omega) | fail) only [Wv.B, simprocAttr]) ?_
      rintro i ⟨hi, hgood⟩
      by_cases hlt : i < m
      · have e2 : (i : Int) < m := by omega
        have hli := hln i hlt
        have hbv : badV N t (ln i) (vs i) = (!decide ((ln i : Int) = N) || (decide (mxN (vs i) (ln i - 1) > (t - 1) / 2) || decide (mnN (vs i) (ln i - 1) < -((t - 1) / 2)))) := rfl
        have hbad : badV N t (ln i) (vs i) = true → evalA N t e c m ln vs = .tup [.v (.slice none 0 0), .v (.int .i64 2)] := fun h => by
          rw [hA]; exact if_pos (by unfold anyN; exact List.any_eq_true.2 ⟨i, List.mem_range.2 hlt, h⟩)
        by_cases hL : (ln i : Int) = N
        · have Tx := pmax_tc (ln i) (vs i) (by omega) hli
          have Tn := pmin_tc (ln i) (vs i) (by omega) hli
          have hLn : ln i = N := by omega
          unfold vcA at Tx Tn
          rw [decide_eq_true hL, Bool.not_true, Bool.false_or] at hbv
          simp (maxSteps := 2000000) (disch := first | omega | assumption | (simp only [Wv.Bx, simprocAttr] <;> omega) | fail) only [Wv.B, simprocAttr, decide_eq_true e2, decide_eq_true hL, hq]
          refine call_TC Tx rfl (by simp only [Wv.BC]) (by simp only [Wv.BC]) ?_
          by_cases h1 : mxN (vs i) (ln i - 1) > (t - 1) / 2
          · rw [decide_eq_true h1, Bool.true_or] at hbv
            have hbd := hbad hbv
            simp (maxSteps := 2000000) (disch := first | omega | assumption | (simp only [Wv.Bx, simprocAttr] <;> omega) | fail) only [Wv.B, simprocAttr, hq, decide_eq_true h1, hbd]
          · rw [decide_eq_false h1, Bool.false_or] at hbv
            simp (maxSteps := 2000000) (disch := first | omega | assumption | (simp only [Wv.Bx, simprocAttr] <;> omega) | fail) only [Wv.B, simprocAttr, hq, decide_eq_false h1]
            refine call_TC Tn rfl (by simp only [Wv.BC]) (by simp only [Wv.BC]) ?_
            by_cases h2 : mnN (vs i) (ln i - 1) < -((t - 1) / 2)
            · rw [decide_eq_true h2] at hbv
              have hbd := hbad hbv
              simp (maxSteps := 2000000) (disch := first | omega | assumption | (simp only [Wv.Bx, simprocAttr] <;> omega) | fail) only [Wv.B, simprocAttr, hq2, decide_eq_true h2, hbd]
            · rw [decide_eq_false h2] at hbv
              have hput' := hput (c.fi i) (vs i) (envI c.fi vs i)
              unfold vcA at hput'
              rw [hLn] at h2 ⊢
              simp (maxSteps := 2000000) (disch := first | omega | assumption | (simp only [Wv.Bx, simprocAttr] <;> omega) | fail) only [Wv.B, simprocAttr, hq2, decide_eq_false h2, hput', kb_en]
              refine k_next (i + 1) ⟨by omega, fun a ha => by by_cases q : a = i; exact q ▸ hbv; exact hgood a (by omega)⟩ (by omega) (by simp (maxSteps := 2000000) (disch := first | omega | assumption | (simp only [Wv.Bx, simprocAttr] <;> omega) | fail) only [Wv.B, simprocAttr, hLn, envI]) (by simp (maxSteps := 2000000) (disch := first | omega | assumption | (simp only [Wv.Bx, simprocAttr] <;> omega) | fail) only [Wv.B, simprocAttr, Int.natCast_add, Int.natCast_one])
        · rw [decide_eq_false hL, Bool.not_false, Bool.true_or] at hbv
          have hbd := hbad hbv
          simp (maxSteps := 2000000) (disch := first | omega | assumption | (simp only [Wv.Bx, simprocAttr] <;> omega) | fail) only [Wv.B, simprocAttr, decide_eq_true e2, decide_eq_false hL, hbd]
      · obtain rfl : i = m := by omega
        have hnb : ¬ anyN i (fun i => badV N t (ln i) (vs i)) = true := by
          unfold anyN
          intro h
          obtain ⟨a, ha, hb⟩ := List.any_eq_true.1 h
          rw [hgood a (List.mem_range.1 ha)] at hb
          cases hb
        rw [if_neg hnb] at hA
        have hev : ∀ i, i ≤ c.nl → okV N t (envC N t c vs i) := by
          intro k
          induction k with
          | zero =>
            intro _
            show okV N t (envI c.fi vs c.ni)
            rw [← hmi]
            have : ∀ a, a ≤ i → okV N t (envI c.fi vs a) := by
              intro a
              induction a with
              | zero => intro _ s f h; cases h
              | succ a ih2 => intro ha; exact okV_put (ih2 (by omega)) (bad_in (hgood a (by omega)) hN).2
            exact this i (Nat.le_refl _)
          | succ k ih2 =>
            intro hk
            exact okV_put (ih2 (by omega)) (evX_in ht hodd (ih2 (by omega)) (c.le k) (hgl k (by omega)).2.2)
        simp (maxSteps := 2000000) (disch := first | omega | assumption | (simp only [Wv.Bx, simprocAttr] <;> omega) | fail) only [Wv.B, simprocAttr, Int.lt_irrefl, decide_false]
        clear hgood hi hlt hnb hln
        refine wfor (σ := Nat) (fun i => [(3, .ptr 0 0), (4, .ptr 1 0), (13, .ptr 3 0), (91, .t c.nl 6 L), (92, .v (.int .i64 c.nl)), (93, .v (.int .i64 i))])
          (fun i => [some (.blk [.v (.int .i64 N), .v (.int .u32 x.p), .v (.int .i64 x.r), .t x.ch.length 1 (x.ch.map fun (c : Nat) => .v (.int .u32 c)), .v (.int .u32 x.sp), .v (.int .i64 x.wt), .v (.int .u32 x.er)]), some (.blk [.v (.string c.name), .t c.ni 1 (tab c.ni fun i => .v (.string (c.fi i))), .t c.nl 6 L, .t c.no 1 (tab c.no fun i => .v (.string (c.fo i)))]), some (.map (enE N (envC N t c vs i))), some (.blk [.v (.int .i64 N), .v (.int .i64 t), .mp 2])])
          (fun i => i ≤ c.nl) (fun i => c.nl - i) 0 (Nat.zero_le _) (by simp (maxSteps := 2000000) (disch := first | omega | assumption | (simp only [Wv.Bx, simprocAttr] <;> omega) | fail) only [Wv.B, simprocAttr, envC, envL, hmi]) (by simp (maxSteps := 2000000) (disch := first | omega | assumption | (simp only [Wv.Bx, simprocAttr] <;> omega) | fail) only [Wv.B, simprocAttr]) ?_
        intro i hi
        by_cases hlt : i < c.nl
        · have e2 : (i : Int) < c.nl := by omega
          obtain ⟨r2, hd⟩ := hdr i hlt
          obtain ⟨ho1, hf1, hg1⟩ := hgl i hlt
          have TE := pev_rd N t (envC N t c vs i) ht hodd ht' hN hN2 hN3 (hev i hi) (c.le i) ho1 hf1 hg1
          have hG := exG_clo (c.le i)
          have hGl := letC_clo (c.ln i) (c.le i)
          obtain ⟨k', s', n', nl', li', na', ar', hy⟩ := ok_mk ho1
          have hy2 : exC (c.le i) = _ := (congrArg exC hy).trans (exC_mk k' s' n' nl' li' na' ar')
          unfold letC at hd hGl
          rw [hy2] at hd TE hG hGl
          simp only [List.cons_append, List.nil_append] at hd
          have hput' := put_en N (c.ln i) (evX N t (envC N t c vs i) (c.le i)) (envC N t c vs i)
          have hnx : envC N t c vs (i + 1) = putE (envC N t c vs i) (c.ln i) (evX N t (envC N t c vs i) (c.le i)) := rfl
          rw [← hnx] at hput'
          have hE := rdV TE
          unfold vcA at hput' hE
          simp (maxSteps := 2000000) (disch := first | omega | assumption | (simp only [Wv.Bx, simprocAttr] <;> omega) | fail) only [Wv.B, simprocAttr, decide_eq_true e2, hd]
          refine calm_HT (fst := []) (cap := []) (hE _ _ _ (cloA1 hG) (by rintro r rfl; simp only [Wv.BC]) (by rintro r h; exact h.elim)) ?_ (by rintro av h' ⟨h, _⟩; exact h.elim)
          simp (maxSteps := 2000000) (disch := first | omega | assumption | (simp only [Wv.Bx, simprocAttr] <;> omega) | fail) only [Wv.B, simprocAttr, hput', kb_en]
          refine Wv.k_cut (i + 1) 4 (by first | decide | exact Nat.le_of_ble_eq_true rfl) (by omega) (by omega) (by simp (maxSteps := 2000000) (disch := first | omega | assumption | (simp only [Wv.Bx, simprocAttr] <;> omega) | fail) only [Wv.B, simprocAttr, tab_snoc, hnx]) (by simp (maxSteps := 2000000) (disch := first | omega | assumption | (simp only [Wv.Bx, simprocAttr] <;> omega) | fail) only [Wv.B, simprocAttr, Int.natCast_add, Int.natCast_one, hnx]) (by simp only [↓reduceIte, List.take_zero, List.take_succ_cons, List.take_nil, Wv.BK, Nat.zero_lt_succ, Nat.lt_add_one, Nat.reduceLeDiff, Nat.lt_one_iff, Nat.one_lt_two, eq_true hlc, eq_true hlc, parL_lo, enE_lo] <;> omega) (by simp only [↓reduceIte, List.take_zero, List.take_succ_cons, List.take_nil, Wv.BK, Nat.zero_lt_succ, Nat.lt_add_one, Nat.reduceLeDiff, Nat.lt_one_iff, Nat.one_lt_two, eq_true hlc, eq_true hlc, parL_lo, enE_lo] <;> omega)
        · obtain rfl : i = c.nl := by omega
          simp (maxSteps := 2000000) (disch := first | omega | assumption | (simp only [Wv.Bx, simprocAttr] <;> omega) | fail) only [Wv.B, simprocAttr, Int.lt_irrefl, decide_false]
          refine wforE (σ := Nat) (fun i => [(4, .ptr 1 0), (13, .ptr 3 0), (18, .own 4 i), (109, .t c.no 1 (tab c.no fun i => .v (.string (c.fo i)))), (110, .v (.int .i64 c.no)), (111, .v (.int .i64 i))])
            (fun i => [some (.blk [.v (.int .i64 N), .v (.int .u32 x.p), .v (.int .i64 x.r), .t x.ch.length 1 (x.ch.map fun (c : Nat) => .v (.int .u32 c)), .v (.int .u32 x.sp), .v (.int .i64 x.wt), .v (.int .u32 x.er)]), some (.blk [.v (.string c.name), .t c.ni 1 (tab c.ni fun i => .v (.string (c.fi i))), .t c.nl 6 L, .t c.no 1 (tab c.no fun i => .v (.string (c.fo i)))]), some (.map (enE N (envC N t c vs c.nl))), some (.blk [.v (.int .i64 N), .v (.int .i64 t), .mp 2]), some (.arr 43 1 (tab i fun i => .t N 1 (tab N fun j => .v (.int .i64 (outF N t c vs i j)))) 0)])
            (fun i => i ≤ c.no) (fun i => c.no - i) 0 (Nat.zero_le _) ?_ ?_
          · refine Ent.trans (Ent.nil 18 43 1 (by omega) rfl) (Ent.fit ?_)
            simp (maxSteps := 2000000) (disch := first | omega | assumption | (simp only [Wv.Bx, simprocAttr] <;> omega) | fail) only [Wv.B, simprocAttr]
          intro i hi
          by_cases hlt : i < c.no
          · have e2 : (i : Int) < c.no := by omega
            have hlm := look_en N (c.fo i) (envC N t c vs c.nl)
            have hsm := hgs i hlt
            have hof : outF N t c vs i = (lookN (envC N t c vs c.nl) (c.fo i)).getD fun _ => 0 := rfl
            cases hq3 : lookN (envC N t c vs c.nl) (c.fo i) with
            | none => rw [hq3] at hsm; cases hsm
            | some f =>
            rw [hq3] at hlm hof
            have hof' : f = outF N t c vs i := hof.symm
            subst hof'
            simp only [Option.map_some, vcA] at hlm
            have TC1 := pclone_tc N (outF N t c vs i) (by omega) (by omega)
            unfold vcA at TC1
            simp (maxSteps := 2000000) (disch := first | omega | assumption | (simp only [Wv.Bx, simprocAttr] <;> omega) | fail) only [Wv.B, simprocAttr, decide_eq_true e2, kb_en, hlm]
            refine call_TC TC1 rfl (by simp only [Wv.BC]) (by simp only [Wv.BC]) ?_
            simp (maxSteps := 2000000) (disch := first | omega | assumption | (simp only [Wv.Bx, simprocAttr] <;> omega) | fail) only [Wv.B, simprocAttr]
            refine Wv.k_cut (i + 1) 5 (by first | decide | exact Nat.le_of_ble_eq_true rfl) (by omega) (by omega) (by simp (maxSteps := 2000000) (disch := first | omega | assumption | (simp only [Wv.Bx, simprocAttr] <;> omega) | fail) only [Wv.B, simprocAttr, tab_snoc]) (by simp (maxSteps := 2000000) (disch := first | omega | assumption | (simp only [Wv.Bx, simprocAttr] <;> omega) | fail) only [Wv.B, simprocAttr, Int.natCast_add, Int.natCast_one]) (by simp only [↓reduceIte, List.take_zero, List.take_succ_cons, List.take_nil, Wv.BK, Nat.zero_lt_succ, Nat.lt_add_one, Nat.reduceLeDiff, Nat.lt_one_iff, Nat.one_lt_two, eq_true hlc, parL_lo, enE_lo] <;> omega) (by simp only [↓reduceIte, List.take_zero, List.take_succ_cons, List.take_nil, Wv.BK, Nat.zero_lt_succ, Nat.lt_add_one, Nat.reduceLeDiff, Nat.lt_one_iff, Nat.one_lt_two, eq_true hlc, parL_lo, enE_lo] <;> omega)
          · obtain rfl : i = c.no := by omega
            unfold vcA at hA
            simp (maxSteps := 2000000) (disch := first | omega | assumption | (simp only [Wv.Bx, simprocAttr] <;> omega) | fail) only [Wv.B, simprocAttr, Int.lt_irrefl, decide_false, hA]
    · rw [if_pos hmi] at hA
      have e1 : ¬ (m : Int) = c.ni := by omega
      simp (maxSteps := 2000000) (disch := first | omega | assumption | (simp only [Wv.Bx, simprocAttr] <;> omega) | fail) only [Wv.B, simprocAttr, decide_eq_false e1, hA]
  · rw [if_pos he] at hA
    simp (maxSteps := 2000000) (disch := first | omega | assumption | (simp only [Wv.Bx, simprocAttr] <;> omega) | fail) only [Wv.B, simprocAttr, decide_eq_false he, hA]
end Go.Proofs.YtljfgdlgmdcmfaaGreat
