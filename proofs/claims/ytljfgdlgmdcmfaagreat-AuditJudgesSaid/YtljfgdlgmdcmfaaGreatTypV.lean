/- Typing: rules of tables and comparisons; all rules (the program's side). -/
import Derived.Test.YtljfgdlgmdcmfaaGreatTypZ
import Derived.Test.YtljfgdlgmdcmfaaGreatTypP
namespace Go.Proofs.YtljfgdlgmdcmfaaGreat
open Go.RowKit Wv
set_option linter.unusedVariables false
set_option linter.unusedSimpArgs false

def fldB (x : Par) (t : Nat) : Bool := decide (x.r = 1) && decide ((t : Int) ≤ 256)
/-- What the rule of a table answers. -/
def tblR (x : Par) (t : Nat) (nl : Nat) (li : Nat → Int) : Except Int Nat := if fldB x t = true then (if lstB t nl li t t = true then .ok (degS t li) else .error 233) else .error 231
def lesB (t : Nat) (n : Int) : Bool := decide (0 ≤ n) && decide (n ≤ (t : Int))
def lesV (n : Int) (v : Nat) : Int := if (v : Int) < n then 1 else 0
def lesR (x : Par) (t : Nat) (n : Int) : Except Int Nat := if fldB x t = true then (if lesB t n = true then .ok (degS t (lesV n)) else .error 233) else .error 231
theorem lst_bal {t nl : Nat} {li : Nat → Int} (h : lstB t nl li t t = true) : nl = t ∧ ∀ i, i < t → balB t (li i) = true := by
  unfold lstB at h
  simp only [Bool.and_eq_true, decide_eq_true_eq, Bool.not_eq_true'] at h
  obtain ⟨h1, h2, h3⟩ := h
  have e : nl = t := by omega
  subst e
  refine ⟨rfl, fun i hi => ?_⟩
  unfold anyN at h3
  have := List.any_eq_false.1 h3 i (List.mem_range.2 hi)
  simpa using this
theorem bal_lo {t : Nat} {n : Int} (h : balB t n = true) : 0 ≤ n + t ∧ n ≤ t := by
  unfold balB at h
  have h' := of_decide_eq_true h
  split at h' <;> constructor <;> omega
theorem take2 {h : Hp} {a b c : Option Ob} (q : List.take 3 h = [a, b, c]) : List.take 2 h = [a, b] := by
  have : List.take 2 h = List.take 2 (List.take 3 h) := by rw [List.take_take]; rfl
  rw [this, q]; rfl
set_option maxHeartbeats 800000 in
set_option maxRecDepth 100000 in
theorem ptable_rule (x : Par) (t : Nat) (ns : Nms) (k : Int) (s : ByteArray) (n : Int) (nl : Nat) (li : Nat → Int) (na : Nat) (ar : Nat → Ex) (unk : Nat) (hn : nl ≤ 140737488351232) (hin : ∀ i, i < nl → inB (li i) = true) (ht : 2 ≤ t) (ht' : t ≤ 4611686018427387904) :
    RuleC x t ns 170 (.mk k s n nl li na ar) unk (tblR x t nl li) := by
  refine RuleC.of ?_
  have hR : tblR x t nl li = if fldB x t = true then (if lstB t nl li t t = true then .ok (degS t li) else .error 233) else .error 231 := rfl
  have hF : fldB x t = (decide (x.r = 1) && decide ((t : Int) ≤ 256)) := rfl
  have hY := plisted_yes x t ns nl li t t hn hin (by omega) (by omega)
  have hZ := plisted_no x t ns nl li t t hn hin (by omega) (by omega)
  have hB := lst_bal (t := t) (nl := nl) (li := li)
  rw [exC_mk]
  have hM := tabM_clo (n := na) (f := fun i => exC (ar i)) fun i _ => exC_clo (ar i)
  generalize tabM na (fun i => exC (ar i)) = M at *
  have hDeg := fun (h2 : t ≤ 256) (hb : lstB t nl li t t = true) => pdegree_ht x t ns [.v (.int .i64 k), .v (.string s), .v (.int .i64 n), .t nl 1 (tab nl fun i => .v (.int .i64 (li i))), .t na 5 M] 217 li ht h2
    (fun h hh v hv => ptable1_ht k s n nl li (.t na 5 M) (.t hM) hh v (by rw [(hB hb).1]; exact hv) hn) (fun v hv => (bal_lo ((hB hb).2 v hv)).1) (fun v hv => by have := (bal_lo ((hB hb).2 v hv)).2; omega)
  clear hB
  generalize hbb : lstB t nl li t t = b at *
  clear hbb
  generalize degS t li = dg at *
  generalize fldB x t = fb at *
  generalize tblR x t nl li = R at *
  unfold hT tyC at *
  simp only [List.cons_append, List.nil_append] at hDeg
  obtain ⟨c, hc⟩ : ∃ c : Nat, c = if b = true then 0 else 1 := ⟨_, rfl⟩
  refine Wv.HTP.by 36 [1, 0, 4, 6] [(2, 12), (1000000, 2), (4000002, c)] [.tmp 6] Tryz.func170 rfl rfl rfl ?base ?_
  case base => rfl
  cases h1 : decide (x.r = 1) <;> cases h2 : decide ((t : Int) ≤ 256)
  all_goals
    rw [h1, h2] at hF
    simp (disch := first | assumption | exact Wv.D | fail) only [Wv.B, simprocAttr, h1, h2]
    first
    | (have hfb : fb = false := hF
       subst hfb
       refine call_HTP (fst := []) (cap := []) (demand_rd _ 231) (by rintro av h' ⟨hb, _⟩; cases hb) ?_
       rintro av h' ⟨_, rfl, rfl⟩
       simp (disch := first | assumption | exact Wv.D | fail) only [Wv.B, simprocAttr, stop_close]
       exact ⟨231, hR, rfl⟩)
    | skip
  have hfb : fb = true := hF
  subst hfb
  have ht256 : t ≤ 256 := by have := of_decide_eq_true h2; omega
  refine call_HTP (fst := []) (cap := []) (demand_rd _ 231) ?_ (by rintro av h' ⟨hb, _⟩; cases hb)
  rintro av h' ⟨_, rfl, rfl⟩
  cases b with
  | false =>
    have hc1 : c = 1 := hc
    simp (disch := first | assumption | exact Wv.D | fail) only [Wv.B, simprocAttr]
    refine calm_HT (fst := []) (cap := []) (hZ rfl (.t 1 1 []) _) ?_ ?_
    · simp (disch := first | assumption | exact Wv.D | fail) only [Wv.B, simprocAttr, hc1]
      exact ⟨11, _, _, rfl, rfl, rfl, rfl, rfl⟩
    · rintro av h' ⟨rfl, rfl⟩
      simp (disch := first | assumption | exact Wv.D | fail) only [Wv.B, simprocAttr, stop_close]
      exact ⟨233, hR, rfl⟩
  | true =>
    have hc1 : c = 0 := hc
    simp (disch := first | assumption | exact Wv.D | fail) only [Wv.B, simprocAttr]
    refine calm_HT (fst := []) (cap := []) (hY rfl _) ?_ (fun _ _ q => q.elim)
    simp (disch := first | assumption | exact Wv.D | fail) only [Wv.B, simprocAttr, hc1]
    refine call_HT (fst := []) (cap := []) (hDeg ht256 rfl) ?_
    rintro av h' ⟨rfl, hh'⟩
    simp (disch := first | assumption | exact Wv.D | fail) only [Wv.B, simprocAttr]
    exact ⟨⟨dg, hR, rfl⟩, take2 hh'⟩
set_option maxHeartbeats 800000 in
set_option maxRecDepth 100000 in
theorem pless_rule (x : Par) (t : Nat) (ns : Nms) (k : Int) (s : ByteArray) (n : Int) (nl : Nat) (li : Nat → Int) (na : Nat) (ar : Nat → Ex) (unk : Nat) (ht : 2 ≤ t) :
    RuleC x t ns 171 (.mk k s n nl li na ar) unk (lesR x t n) := by
  refine RuleC.of ?_
  have hR : lesR x t n = if fldB x t = true then (if lesB t n = true then .ok (degS t (lesV n)) else .error 233) else .error 231 := rfl
  have hF : fldB x t = (decide (x.r = 1) && decide ((t : Int) ≤ 256)) := rfl
  have hB : lesB t n = (decide (0 ≤ n) && decide (n ≤ (t : Int))) := rfl
  rw [exC_mk]
  have hM := tabM_clo (n := na) (f := fun i => exC (ar i)) fun i _ => exC_clo (ar i)
  generalize tabM na (fun i => exC (ar i)) = M at *
  have hDeg := fun (h2 : t ≤ 256) => pdegree_ht x t ns [.v (.int .i64 k), .v (.string s), .v (.int .i64 n), .t nl 1 (tab nl fun i => .v (.int .i64 (li i))), .t na 5 M] 218 (lesV n) ht h2
    (fun h hh v hv => pless1_ht k s n (.t nl 1 (tab nl fun i => .v (.int .i64 (li i)))) (.t na 5 M) hh v) (fun v hv => by unfold lesV; split <;> omega) (fun v hv => by unfold lesV; split <;> omega)
  generalize degS t (lesV n) = dg at *
  generalize fldB x t = fb at *
  generalize lesB t n = b at *
  generalize lesR x t n = R at *
  unfold hT tyC at *
  simp only [List.cons_append, List.nil_append] at hDeg
  obtain ⟨c, hc⟩ : ∃ c : Nat, c = if b = true then 0 else 1 := ⟨_, rfl⟩
  refine Wv.HTP.by 37 [1, 0, 4, 6] [(2, 13), (1000000, 2), (4000002, c)] [.tmp 6] Tryz.func171 rfl rfl rfl ?base ?_
  case base => rfl
  cases h1 : decide (x.r = 1) <;> cases h2 : decide ((t : Int) ≤ 256)
  all_goals
    rw [h1, h2] at hF
    simp (disch := first | assumption | exact Wv.D | fail) only [Wv.B, simprocAttr, h1, h2]
    first
    | (have hfb : fb = false := hF
       subst hfb
       refine call_HTP (fst := []) (cap := []) (demand_rd _ 231) (by rintro av h' ⟨hb, _⟩; cases hb) ?_
       rintro av h' ⟨_, rfl, rfl⟩
       simp (disch := first | assumption | exact Wv.D | fail) only [Wv.B, simprocAttr, stop_close]
       exact ⟨231, hR, rfl⟩)
    | skip
  have hfb : fb = true := hF
  subst hfb
  have ht256 : t ≤ 256 := by have := of_decide_eq_true h2; omega
  refine call_HTP (fst := []) (cap := []) (demand_rd _ 231) ?_ (by rintro av h' ⟨hb, _⟩; cases hb)
  rintro av h' ⟨_, rfl, rfl⟩
  cases h3 : decide (0 ≤ n) <;> cases h4 : decide (n ≤ (t : Int))
  all_goals
    rw [h3, h4] at hB
    simp (disch := first | assumption | exact Wv.D | fail) only [Wv.B, simprocAttr, h3, h4]
    first
    | (have hbt : b = true := hB
       subst hbt
       have hc1 : c = 0 := hc
       refine calm_HT (fst := []) (cap := []) (demand_yes 233) ?_ (fun _ _ q => q.elim)
       simp (disch := first | assumption | exact Wv.D | fail) only [Wv.B, simprocAttr, hc1]
       refine call_HT (fst := []) (cap := []) (hDeg ht256) ?_
       rintro av h' ⟨rfl, hh'⟩
       simp (disch := first | assumption | exact Wv.D | fail) only [Wv.B, simprocAttr]
       exact ⟨⟨dg, hR, rfl⟩, take2 hh'⟩)
    | (have hbt : b = false := hB
       subst hbt
       have hc1 : c = 1 := hc
       refine calm_HT (fst := []) (cap := []) (demand_no 233 (.t 1 1 [])) ?_ ?_
       · simp (disch := first | assumption | exact Wv.D | fail) only [Wv.B, simprocAttr, hc1]
         exact ⟨12, _, _, rfl, rfl, rfl, rfl, rfl⟩
       · rintro av h' ⟨rfl, rfl⟩
         simp (disch := first | assumption | exact Wv.D | fail) only [Wv.B, simprocAttr, stop_close]
         exact ⟨233, hR, rfl⟩)
/-- What the rules answer. -/
def ruA (x : Par) (t : Nat) : Ex → Nat → Except Int Nat
  | .nil, _ => .ok 0
  | .mk k s n nl li na ar, unk =>
    if k = 2 then (if balB t n = true then .ok 0 else .error 233)
    else if k = 3 then (if lstB t nl li 0 x.n = true then .ok 0 else .error 233)
    else if k = 7 then .ok (if unk < 2 then 0 else 1)
    else if k = 8 then (if rotB x n = true then .ok 0 else .error 233)
    else if k = 10 then (if maskB x nl li = true then .ok 0 else .error 233)
    else if k = 14 then (if powB n = true then .ok (stepsN n) else .error 233)
    else if k = 11 then tblR x t nl li
    else if k = 13 then lesR x t n
    else if k = 12 then (if x.r = 1 then .ok (stepsN ((t : Int) - 1)) else .error 231)
    else .ok 0
def ksA (e : Ex) : Prop := True
theorem allK_A : ∀ (e : Ex), okE e → allK ksA e := by
  intro e
  induction e with
  | nil => intro h; exact h.elim
  | mk k s n nl li na ar ih => exact fun h => ⟨trivial, fun i hi => ih i (h.2.2.2 i hi)⟩
theorem form_list {k : Int} {s : ByteArray} {n : Int} {nl : Nat} {li : Nat → Int} {na : Nat} {ar : Nat → Ex} (h : formB (.mk k s n nl li na ar) = true) : ∀ i, i < nl → inB (li i) = true := by
  unfold formB at h
  simp only [Bool.and_eq_true, Bool.not_eq_true'] at h
  have h8 := h.2.2.2.2.2.2.2.1
  intro i hi
  unfold anyN at h8
  have := List.any_eq_false.1 h8 i (List.mem_range.2 hi)
  simpa using this
theorem degS_le (t : Nat) (f : Nat → Int) : degS t f ≤ 64 := steps_le _
theorem rulesA (x : Par) (t : Nat) (ns : Nms) (ht : 2 ≤ t) (ht' : t ≤ 4611686018427387904) (hN : 0 ≤ x.n) (hN' : x.n ≤ 4611686018427387904) : RulesOk x t ns (ruA x t) ksA := by
  intro e unk _ ho hf hu
  obtain ⟨k, s, n, nl, li, na, ar, rfl⟩ := ok_mk ho
  have hin := form_in hf
  have hli := form_list hf
  have hnl : nl ≤ 140737488351232 := ho.2.1
  obtain ⟨⟨hk1, hk2⟩, _⟩ := formB_args hf
  have hk : k = 1 ∨ k = 2 ∨ k = 3 ∨ k = 4 ∨ k = 5 ∨ k = 6 ∨ k = 7 ∨ k = 8 ∨ k = 9 ∨ k = 10 ∨ k = 11 ∨ k = 12 ∨ k = 13 ∨ k = 14 ∨ k = 15 := by omega
  have z : ∀ {b : Bool} {v : Nat} {er : Int} (m : Nat), v ≤ 64 → (if b = true then Except.ok v else .error er) = (Except.ok m : Except Int Nat) → m ≤ 4294967296 := fun {b v er} m hv h => by
    split at h
    · injection h with h; omega
    · cases h
  rcases hk with rfl | rfl | rfl | rfl | rfl | rfl | rfl | rfl | rfl | rfl | rfl | rfl | rfl | rfl | rfl
  · exact ⟨fun m h => by injection h with h; subst h; exact Nat.zero_le _, rfl⟩
  · exact ⟨fun m h => z m (Nat.zero_le _) h, pnumber_rule x t ns 2 s n nl li na ar unk hin (by omega) (by omega)⟩
  · exact ⟨fun m h => z m (Nat.zero_le _) h, pvector_rule x t ns 3 s n nl li na ar unk hnl hli (by omega) (by omega)⟩
  · exact ⟨fun m h => by injection h with h; subst h; exact Nat.zero_le _, rfl⟩
  · exact ⟨fun m h => by injection h with h; subst h; exact Nat.zero_le _, rfl⟩
  · exact ⟨fun m h => by injection h with h; subst h; exact Nat.zero_le _, rfl⟩
  · refine ⟨fun m h => ?_, pproduct_rule x t ns _ ho unk⟩
    have h' : (Except.ok (if unk < 2 then 0 else 1) : Except Int Nat) = .ok m := h
    injection h' with h'
    subst h'
    split <;> omega
  · exact ⟨fun m h => z m (Nat.zero_le _) h, prot_rule x t ns 8 s n nl li na ar unk hN hN'⟩
  · exact ⟨fun m h => by injection h with h; subst h; exact Nat.zero_le _, rfl⟩
  · exact ⟨fun m h => z m (Nat.zero_le _) h, pmask_rule x t ns 10 s n nl li na ar unk hnl⟩
  · refine ⟨fun m h => ?_, ptable_rule x t ns 11 s n nl li na ar unk hnl hli ht (by omega)⟩
    have h' : tblR x t nl li = .ok m := h
    unfold tblR at h'
    split at h'
    · exact z m (degS_le _ _) h'
    · cases h'
  · refine ⟨fun m h => ?_, pequal_rule x t ns 12 s n nl li na ar unk (by omega) (by omega)⟩
    have h' : (if x.r = 1 then Except.ok (stepsN ((t : Int) - 1)) else .error 231) = (.ok m : Except Int Nat) := h
    split at h'
    · injection h' with h'; subst h'; exact Nat.le_trans (steps_le _) (by omega)
    · cases h'
  · refine ⟨fun m h => ?_, pless_rule x t ns 13 s n nl li na ar unk ht⟩
    have h' : lesR x t n = .ok m := h
    unfold lesR at h'
    split at h'
    · exact z m (degS_le _ _) h'
    · cases h'
  · exact ⟨fun m h => z m (steps_le _) h, ppower_rule x t ns 14 s n nl li na ar unk⟩
  · exact ⟨fun m h => by injection h with h; subst h; exact Nat.zero_le _, rfl⟩
end Go.Proofs.YtljfgdlgmdcmfaaGreat
