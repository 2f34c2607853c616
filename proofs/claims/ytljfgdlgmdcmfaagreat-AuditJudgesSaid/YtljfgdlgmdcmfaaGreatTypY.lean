/- Typing: rules of vectors, rotations, masks, equality (the program's side). -/
import Derived.Test.YtljfgdlgmdcmfaaGreatTypJ
import Derived.Test.YtljfgdlgmdcmfaaGreatTypC
namespace Go.Proofs.YtljfgdlgmdcmfaaGreat
open Go.RowKit Wv
set_option linter.unusedVariables false
set_option linter.unusedSimpArgs false

/-- Are the numbers of a list balanced, and are there neither too few nor too many? -/
def lstB (t : Int) (nl : Nat) (li : Nat → Int) (least most : Int) : Bool := decide (least ≤ (nl : Int)) && (decide ((nl : Int) ≤ most) && !anyN nl fun i => !balB t (li i))
set_option maxHeartbeats 400000 in
set_option maxRecDepth 100000 in
theorem plisted1_ht (x : Par) (t : Int) (ns : Nms) (n : Int) (hn : inB n = true) (ht : 1 ≤ t) (ht' : t ≤ 4611686018427387904) :
    HT Tryz.prog 239 [.v (.int .i64 n), .ptr 2 0] (hT x t ns ++ [some (.blk [.ptr 0 0])]) (fun r h' => r = .v (.bool (!balB t n)) ∧ h' = hT x t ns ++ [some (.blk [.ptr 0 0])]) := by
  have hE := RD.hT (pbal_rd x t ns n hn ht ht')
  generalize balB t n = b at *
  unfold hT tyC at *
  simp only [List.cons_append, List.nil_append] at *
  refine Wv.HT.by 8 [1, 0, 3] [(1000000, 3)] [.tmp 3] Tryz.func239 rfl rfl rfl ?base ?_
  case base => rfl
  simp (disch := first | assumption | exact Wv.D | fail) only [Wv.B, simprocAttr]
  refine call_HTP (fst := []) (cap := []) (hE _ (by simp only [Wv.BC]) (by rintro r rfl; simp only [Wv.BC]) (by rintro r h; exact h.elim)) ?_ (by rintro av h' ⟨h, _⟩; exact h.elim)
  rintro av h' ⟨rfl, rfl⟩
  simp (disch := first | assumption | exact Wv.D | fail) only [Wv.B, simprocAttr]
set_option maxHeartbeats 400000 in
set_option maxRecDepth 100000 in
theorem plisted_rd (x : Par) (t : Int) (ns : Nms) (nl : Nat) (li : Nat → Int) (least most : Int) (hn : nl ≤ 140737488351232) (hin : ∀ i, i < nl → inB (li i) = true) (ht : 1 ≤ t) (ht' : t ≤ 4611686018427387904) :
    RD Tryz.prog 213 [.ptr 0 0, .t nl 1 (tab nl fun i => .v (.int .i64 (li i))), .v (.int .i64 least), .v (.int .i64 most)] (hT x t ns) (fun r => lstB t nl li least most = true ∧ r = .tup []) (fun r => lstB t nl li least most = false ∧ r = stopA 233) := by
  refine RD.of ?_ (fun r q => q.2 ▸ .clo (by simp only [Wv.BC])) (fun r q => q.2 ▸ .clo (stop_clo 233)) (hT_lo x t ns)
  have hC := zcontf_ht (h := hT x t ns ++ [(some (Ob.blk [AV.ptr 0 0]) : Option Ob)]) nl li (fun i => !balB t (li i)) 239 [] [.ptr 2 0] hn (fun i hi => plisted1_ht x t ns (li i) (hin i hi) ht ht')
  have hL : lstB t nl li least most = (decide (least ≤ (nl : Int)) && (decide ((nl : Int) ≤ most) && !anyN nl fun i => !balB t (li i))) := rfl
  generalize (anyN nl fun i => !balB t (li i)) = b at *
  generalize lstB t nl li least most = B at *
  unfold hT tyC at *
  simp only [List.cons_append, List.nil_append] at *
  refine Wv.HTP.by 27 [0, 4, 1, 2, 3, 8] [(1000000, 2)] [] Tryz.func213 rfl rfl rfl ?base ?_
  case base => rfl
  cases h1 : decide (least ≤ (nl : Int))
  · rw [h1, Bool.false_and] at hL
    simp (disch := first | assumption | exact Wv.D | fail) only [Wv.B, simprocAttr, h1]
    refine call_HTP (fst := []) (cap := []) (demand_rd _ 233) (by rintro av h' ⟨hb, _⟩; cases hb) ?_
    rintro av h' ⟨_, rfl, rfl⟩
    simp (disch := first | assumption | exact Wv.D | fail) only [Wv.B, simprocAttr, stop_close]
    exact hL
  cases h2 : decide ((nl : Int) ≤ most)
  · rw [h1, h2, Bool.false_and, Bool.and_false] at hL
    simp (disch := first | assumption | exact Wv.D | fail) only [Wv.B, simprocAttr, h1, h2]
    refine call_HTP (fst := []) (cap := []) (demand_rd _ 233) (by rintro av h' ⟨hb, _⟩; cases hb) ?_
    rintro av h' ⟨_, rfl, rfl⟩
    simp (disch := first | assumption | exact Wv.D | fail) only [Wv.B, simprocAttr, stop_close]
    exact hL
  rw [h1, h2, Bool.true_and, Bool.true_and] at hL
  simp (disch := first | assumption | exact Wv.D | fail) only [Wv.B, simprocAttr, h1, h2]
  refine call_HT (fst := []) (cap := []) hC ?_
  rintro av h' ⟨rfl, rfl⟩
  simp (disch := first | assumption | exact Wv.D | fail) only [Wv.B, simprocAttr]
  refine call_HTP (fst := []) (cap := []) (demand_rd _ 233) ?_ ?_
  · rintro av h' ⟨hb, rfl, rfl⟩
    simp (disch := first | assumption | exact Wv.D | fail) only [Wv.B, simprocAttr]
    exact hL.trans hb
  · rintro av h' ⟨hb, rfl, rfl⟩
    simp (disch := first | assumption | exact Wv.D | fail) only [Wv.B, simprocAttr, stop_close]
    exact hL.trans hb


theorem demand_yes {h : Hp} (e : Int) : HTP Tryz.prog 66 [.v (.bool true), .v (.int .i64 e)] h (fun r h' => r = .tup [] ∧ h' = h) (fun _ _ => False) :=
  (demand_rd true e).mono (fun _ _ q => q.2) (fun _ _ q => by cases q.1)
theorem demand_no {h : Hp} (e : Int) (res : AV) : HTP Tryz.prog 66 [.v (.bool false), .v (.int .i64 e)] h (fun r h' => r = res ∧ h' = h) (fun r h' => r = stopA e ∧ h' = h) :=
  (demand_rd false e).mono (fun _ _ q => by cases q.1) (fun _ _ q => q.2)
/-- listed, beside other objects. -/
theorem plisted_yes (x : Par) (t : Int) (ns : Nms) (nl : Nat) (li : Nat → Int) (least most : Int) (hn : nl ≤ 140737488351232) (hin : ∀ i, i < nl → inB (li i) = true) (ht : 1 ≤ t) (ht' : t ≤ 4611686018427387904) (hb : lstB t nl li least most = true) (r : Hp) :
    HTP Tryz.prog 213 [.ptr 0 0, .t nl 1 (tab nl fun i => .v (.int .i64 (li i))), .v (.int .i64 least), .v (.int .i64 most)] (some (.blk (tyC x t)) :: some (.map (nsE ns)) :: r) (fun q h' => q = .tup [] ∧ h' = some (.blk (tyC x t)) :: some (.map (nsE ns)) :: r) (fun _ _ => False) :=
  (RD.hT (plisted_rd x t ns nl li least most hn hin ht ht') r (by simp only [Wv.BC]) (by rintro r ⟨_, rfl⟩; simp only [Wv.BC]) (by rintro r ⟨_, rfl⟩; exact stop_clo 233)).mono (fun _ _ q => ⟨q.1.2, q.2⟩) (fun _ _ q => by rw [hb] at q; cases q.1.1)
theorem plisted_no (x : Par) (t : Int) (ns : Nms) (nl : Nat) (li : Nat → Int) (least most : Int) (hn : nl ≤ 140737488351232) (hin : ∀ i, i < nl → inB (li i) = true) (ht : 1 ≤ t) (ht' : t ≤ 4611686018427387904) (hb : lstB t nl li least most = false) (res : AV) (r : Hp) :
    HTP Tryz.prog 213 [.ptr 0 0, .t nl 1 (tab nl fun i => .v (.int .i64 (li i))), .v (.int .i64 least), .v (.int .i64 most)] (some (.blk (tyC x t)) :: some (.map (nsE ns)) :: r) (fun q h' => q = res ∧ h' = some (.blk (tyC x t)) :: some (.map (nsE ns)) :: r) (fun q h' => q = stopA 233 ∧ h' = some (.blk (tyC x t)) :: some (.map (nsE ns)) :: r) :=
  (RD.hT (plisted_rd x t ns nl li least most hn hin ht ht') r (by simp only [Wv.BC]) (by rintro r ⟨_, rfl⟩; simp only [Wv.BC]) (by rintro r ⟨_, rfl⟩; exact stop_clo 233)).mono (fun _ _ q => by rw [hb] at q; cases q.1.1) (fun _ _ q => ⟨q.1.2, q.2⟩)
set_option maxHeartbeats 400000 in
set_option maxRecDepth 100000 in
theorem pvector_rule (x : Par) (t : Int) (ns : Nms) (k : Int) (s : ByteArray) (n : Int) (nl : Nat) (li : Nat → Int) (na : Nat) (ar : Nat → Ex) (unk : Nat) (hn : nl ≤ 140737488351232) (hin : ∀ i, i < nl → inB (li i) = true) (ht : 1 ≤ t) (ht' : t ≤ 4611686018427387904) :
    RuleC x t ns 165 (.mk k s n nl li na ar) unk (if lstB t nl li 0 x.n = true then .ok 0 else .error 233) := by
  refine RuleC.of ?_
  have hY := plisted_yes x t ns nl li 0 x.n hn hin ht ht'
  have hZ := plisted_no x t ns nl li 0 x.n hn hin ht ht'
  generalize lstB t nl li 0 x.n = b at *
  rw [exC_mk]
  have hM := tabM_clo (n := na) (f := fun i => exC (ar i)) fun i _ => exC_clo (ar i)
  generalize tabM na (fun i => exC (ar i)) = M at *
  unfold hT tyC at *
  obtain ⟨c, hc⟩ : ∃ c : Nat, c = if b = true then 0 else 1 := ⟨_, rfl⟩
  refine Wv.HTP.by 16 [1, 0, 4, 6] [(1, 9), (1000000, 2), (4000001, c)] [.tmp 6] Tryz.func165 rfl rfl rfl ?base ?_
  case base => rfl
  cases b with
  | false =>
    have hc1 : c = 1 := hc
    simp (disch := first | assumption | exact Wv.D | fail) only [Wv.B, simprocAttr]
    refine calm_HT (fst := []) (cap := []) (hZ rfl (.t 1 1 []) _) ?_ ?_
    · simp (disch := first | assumption | exact Wv.D | fail) only [Wv.B, simprocAttr, hc1]
      exact ⟨8, _, _, rfl, rfl, rfl, rfl, rfl⟩
    · rintro av h' ⟨rfl, rfl⟩
      simp (disch := first | assumption | exact Wv.D | fail) only [Wv.B, simprocAttr, stop_close]
      exact ⟨233, rfl, rfl⟩
  | true =>
    have hc1 : c = 0 := hc
    simp (disch := first | assumption | exact Wv.D | fail) only [Wv.B, simprocAttr]
    refine calm_HT (fst := []) (cap := []) (hY rfl _) ?_ (fun _ _ q => q.elim)
    simp (disch := first | assumption | exact Wv.D | fail) only [Wv.B, simprocAttr, hc1]
    exact ⟨0, rfl, rfl⟩
def mskB (n : Int) : Bool := !decide (n = 0) && !decide (n = 1)
set_option maxHeartbeats 400000 in
set_option maxRecDepth 100000 in
theorem pmask1_tc (n : Int) : TC Tryz.prog 214 [.v (.int .i64 n)] (.v (.bool (mskB n))) := by
  refine Wv.TC.by 9 [0, 2] [] [.tmp 2] Tryz.func214 rfl rfl rfl ?clo ?_
  case clo => simp only [Wv.BC]
  unfold mskB
  cases h1 : decide (n = 0)
  · simp (disch := first | assumption | exact Wv.D | fail) only [Wv.B, simprocAttr, h1]
  · simp (disch := first | assumption | exact Wv.D | fail) only [Wv.B, simprocAttr, h1]
def rotB (x : Par) (n : Int) : Bool := decide (0 ≤ n) && decide (n < x.n / 2)
set_option maxHeartbeats 400000 in
set_option maxRecDepth 100000 in
theorem prot_rule (x : Par) (t : Int) (ns : Nms) (k : Int) (s : ByteArray) (n : Int) (nl : Nat) (li : Nat → Int) (na : Nat) (ar : Nat → Ex) (unk : Nat) (hN : 0 ≤ x.n) (hN' : x.n ≤ 4611686018427387904) :
    RuleC x t ns 167 (.mk k s n nl li na ar) unk (if rotB x n = true then .ok 0 else .error 233) := by
  refine RuleC.of ?_
  have hb : rotB x n = (decide (0 ≤ n) && decide (n < x.n / 2)) := rfl
  generalize rotB x n = b at *
  rw [exC_mk]
  have hM := tabM_clo (n := na) (f := fun i => exC (ar i)) fun i _ => exC_clo (ar i)
  generalize tabM na (fun i => exC (ar i)) = M at *
  unfold hT tyC at *
  obtain ⟨c, hc⟩ : ∃ c : Nat, c = if b = true then 0 else 1 := ⟨_, rfl⟩
  refine Wv.HTP.by 22 [1, 4, 0, 6] [(1, 15), (1000000, 2), (4000001, c)] [.tmp 6] Tryz.func167 rfl rfl rfl ?base ?_
  case base => rfl
  have hq : x.n.tdiv 2 = x.n / 2 := Int.tdiv_eq_ediv_of_nonneg hN
  cases h1 : decide (0 ≤ n) <;> cases h2 : decide (n < x.n / 2)
  all_goals
    rw [h1, h2] at hb
    simp (disch := first | assumption | exact Wv.D | fail) only [Wv.B, simprocAttr, hq, h1, h2]
    first
    | (have hbt : b = true := hb
       subst hbt
       have hc1 : c = 0 := hc
       refine calm_HT (fst := []) (cap := []) (demand_yes 233) ?_ (fun _ _ q => q.elim)
       simp (disch := first | assumption | exact Wv.D | fail) only [Wv.B, simprocAttr, hc1]
       exact ⟨0, rfl, rfl⟩)
    | (have hbt : b = false := hb
       subst hbt
       have hc1 : c = 1 := hc
       refine calm_HT (fst := []) (cap := []) (demand_no 233 (.t 1 1 [])) ?_ ?_
       · simp (disch := first | assumption | exact Wv.D | fail) only [Wv.B, simprocAttr, hc1]
         exact ⟨14, _, _, rfl, rfl, rfl, rfl, rfl⟩
       · rintro av h' ⟨rfl, rfl⟩
         simp (disch := first | assumption | exact Wv.D | fail) only [Wv.B, simprocAttr, stop_close]
         exact ⟨233, rfl, rfl⟩)
def allMB (nl : Nat) (li : Nat → Int) : Bool := !anyN nl fun i => mskB (li i)
def maskB (x : Par) (nl : Nat) (li : Nat → Int) : Bool := decide ((nl : Int) ≤ x.n) && allMB nl li
set_option maxHeartbeats 400000 in
set_option maxRecDepth 100000 in
theorem pmask_rule (x : Par) (t : Int) (ns : Nms) (k : Int) (s : ByteArray) (n : Int) (nl : Nat) (li : Nat → Int) (na : Nat) (ar : Nat → Ex) (unk : Nat) (hn : nl ≤ 140737488351232) :
    RuleC x t ns 168 (.mk k s n nl li na ar) unk (if maskB x nl li = true then .ok 0 else .error 233) := by
  refine RuleC.of ?_
  have hb : maskB x nl li = (decide ((nl : Int) ≤ x.n) && !anyN nl fun i => mskB (li i)) := rfl
  have hC := fun h => (zcontf_ht (h := h) nl li (fun i => mskB (li i)) 214 [] [] hn (fun i hi => HT.of_TC (pmask1_tc (li i)) rfl (by simp only [Wv.BC]) (by simp only [Wv.BC]))).toP (fun _ _ => False)
  generalize maskB x nl li = b at *
  generalize (anyN nl fun i => mskB (li i)) = b2 at *
  rw [exC_mk]
  have hM := tabM_clo (n := na) (f := fun i => exC (ar i)) fun i _ => exC_clo (ar i)
  generalize tabM na (fun i => exC (ar i)) = M at *
  unfold hT tyC at *
  obtain ⟨c, hc⟩ : ∃ c : Nat, c = if b = true then 0 else 1 := ⟨_, rfl⟩
  refine Wv.HTP.by 25 [1, 4, 0, 7, 6] [(2, 17), (1000000, 2), (4000002, c)] [.tmp 6] Tryz.func168 rfl rfl rfl ?base ?_
  case base => rfl
  cases h1 : decide ((nl : Int) ≤ x.n)
  · rw [h1] at hb
    have hbt : b = false := hb
    subst hbt
    have hc1 : c = 1 := hc
    simp (disch := first | assumption | exact Wv.D | fail) only [Wv.B, simprocAttr, h1]
    refine calm_HT (fst := []) (cap := []) (demand_no 233 (.t 1 1 [])) ?_ ?_
    · simp (disch := first | assumption | exact Wv.D | fail) only [Wv.B, simprocAttr, hc1]
      exact ⟨16, _, _, rfl, rfl, rfl, rfl, rfl⟩
    · rintro av h' ⟨rfl, rfl⟩
      simp (disch := first | assumption | exact Wv.D | fail) only [Wv.B, simprocAttr, stop_close]
      exact ⟨233, rfl, rfl⟩
  · rw [h1] at hb
    simp (disch := first | assumption | exact Wv.D | fail) only [Wv.B, simprocAttr, h1]
    refine calm_HT (fst := []) (cap := []) (hC _) ?_ (fun _ _ q => q.elim)
    cases b2 with
    | false =>
      have hbt : b = true := hb
      subst hbt
      have hc1 : c = 0 := hc
      simp (disch := first | assumption | exact Wv.D | fail) only [Wv.B, simprocAttr]
      refine calm_HT (fst := []) (cap := []) (demand_yes 233) ?_ (fun _ _ q => q.elim)
      simp (disch := first | assumption | exact Wv.D | fail) only [Wv.B, simprocAttr, hc1]
      exact ⟨0, rfl, rfl⟩
    | true =>
      have hbt : b = false := hb
      subst hbt
      have hc1 : c = 1 := hc
      simp (disch := first | assumption | exact Wv.D | fail) only [Wv.B, simprocAttr]
      refine calm_HT (fst := []) (cap := []) (demand_no 233 (.t 1 1 [])) ?_ ?_
      · simp (disch := first | assumption | exact Wv.D | fail) only [Wv.B, simprocAttr, hc1]
        exact ⟨16, _, _, rfl, rfl, rfl, rfl, rfl⟩
      · rintro av h' ⟨rfl, rfl⟩
        simp (disch := first | assumption | exact Wv.D | fail) only [Wv.B, simprocAttr, stop_close]
        exact ⟨233, rfl, rfl⟩
set_option maxHeartbeats 400000 in
set_option maxRecDepth 100000 in
theorem pequal_rule (x : Par) (t : Int) (ns : Nms) (k : Int) (s : ByteArray) (n : Int) (nl : Nat) (li : Nat → Int) (na : Nat) (ar : Nat → Ex) (unk : Nat) (ht : 1 ≤ t) (ht' : t ≤ 4611686018427387904) :
    RuleC x t ns 172 (.mk k s n nl li na ar) unk (if x.r = 1 then .ok (stepsN (t - 1)) else .error 231) := by
  refine RuleC.of ?_
  rw [exC_mk]
  have hM := tabM_clo (n := na) (f := fun i => exC (ar i)) fun i _ => exC_clo (ar i)
  generalize tabM na (fun i => exC (ar i)) = M at *
  unfold hT tyC at *
  have T := psteps_tc (t - 1) (by omega)
  generalize stepsN (t - 1) = st at *
  refine Wv.HTP.by 20 [1, 0, 6] [(1000000, 2)] [.tmp 6] Tryz.func172 rfl rfl rfl ?base ?_
  case base => rfl
  by_cases hr : x.r = 1
  · simp (disch := first | assumption | exact Wv.D | fail) only [Wv.B, simprocAttr, decide_eq_true hr]
    refine call_HTP (fst := []) (cap := []) (demand_rd _ 231) ?_ (by rintro av h' ⟨hb, _⟩; simp [hr] at hb)
    rintro av h' ⟨_, rfl, rfl⟩
    simp (disch := first | assumption | exact Wv.D | fail) only [Wv.B, simprocAttr]
    refine call_TC T rfl (by simp only [Wv.BC]) (by simp only [Wv.BC]) ?_
    simp (disch := first | assumption | exact Wv.D | fail) only [Wv.B, simprocAttr, if_pos hr]
    exact ⟨_, rfl, rfl⟩
  · simp (disch := first | assumption | exact Wv.D | fail) only [Wv.B, simprocAttr, decide_eq_false hr]
    refine call_HTP (fst := []) (cap := []) (demand_rd _ 231) (by rintro av h' ⟨hb, _⟩; simp [hr] at hb) ?_
    rintro av h' ⟨_, rfl, rfl⟩
    simp (disch := first | assumption | exact Wv.D | fail) only [Wv.B, simprocAttr, stop_close, if_neg hr]
    exact ⟨_, rfl, rfl⟩
end Go.Proofs.YtljfgdlgmdcmfaaGreat
