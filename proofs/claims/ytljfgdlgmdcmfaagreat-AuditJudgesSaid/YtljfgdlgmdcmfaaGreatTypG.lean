/- Circuits: small, few, Check (the program's side). -/
import Derived.Test.YtljfgdlgmdcmfaaGreatTypF
namespace Go.Proofs.YtljfgdlgmdcmfaaGreat
open Go.RowKit Wv
set_option linter.unusedVariables false
set_option linter.unusedSimpArgs false

/-- A circuit: its name, inputs, lets, outputs. -/
structure Ci where
  name : ByteArray
  ni : Nat
  fi : Nat → ByteArray
  nl : Nat
  ln : Nat → ByteArray
  le : Nat → Ex
  no : Nat
  fo : Nat → ByteArray
def letC (s : ByteArray) (x : Ex) : List AV := .v (.string s) :: exC x
theorem letC_len (s : ByteArray) (x : Ex) : (letC s x).length = 6 := by cases x <;> rfl
theorem letC_clo (s : ByteArray) (x : Ex) : ∀ a, a ∈ letC s x → Clo a := by
  intro a ha
  rcases List.mem_cons.1 ha with rfl | h
  · simp only [Wv.BC]
  · exact exC_clo x a h
def Ci.lets (c : Ci) : List AV := tabM c.nl fun i => letC (c.ln i) (c.le i)
def ciC (c : Ci) : List AV := [.v (.string c.name), strsA c.ni c.fi, .t c.nl 6 c.lets, strsA c.no c.fo]
theorem lets_clo (c : Ci) : ∀ a, a ∈ c.lets → Clo a := tabM_clo fun i _ => letC_clo _ _
theorem lets_len (c : Ci) : c.lets.length = c.nl * 6 := tabM_len fun i => letC_len _ _
theorem ciC_clo (c : Ci) : ∀ a, a ∈ ciC c → Clo a := by
  unfold ciC
  simp only [Wv.BC, strs_clo]
  exact lets_clo c
theorem ciG_clo (c : Ci) : Clo (.g (ciC c)) := by simp only [Wv.BC]; exact ciC_clo c
/-- Its lists have lengths that lists can have. -/
structure okC (c : Ci) : Prop where
  name : c.name.size ≤ 140737488351232
  ni : c.ni ≤ 140737488351232
  nl : c.nl ≤ 140737488351232
  no : c.no ≤ 140737488351232
  fi : ∀ i, i < c.ni → (c.fi i).size ≤ 140737488351232
  fo : ∀ i, i < c.no → (c.fo i).size ≤ 140737488351232
  ln : ∀ i, i < c.nl → (c.ln i).size ≤ 140737488351232
  le : ∀ i, i < c.nl → okE (c.le i) ∧ cntE (c.le i) ≤ 4611686018427387904
def Ci.sum (c : Ci) (i : Nat) : Nat := accS 0 (fun i => cntE (c.le i)) i
def Ci.big (c : Ci) (i : Nat) : Bool := decide (400 < ((c.sum (i + 1) : Nat) : Int)) || (decide (40 < ((depE (c.le i) : Nat) : Int)) || lonE (c.le i))
def smallB (c : Ci) : Bool := !anyN c.nl c.big
def fewB (c : Ci) : Bool := decide ((c.ni : Int) ≤ 8) && (decide ((c.nl : Int) ≤ 60) && decide ((c.no : Int) ≤ 8))
def checkI (c : Ci) : Int :=
  if (!nameB c.name || (anyN c.ni (fun i => !nameB (c.fi i)) || (anyN c.no (fun i => !nameB (c.fo i)) || (decide ((c.no : Int) = 0) || !fewB c)))) = true then 2
  else if anyN c.nl (fun i => !nameB (c.ln i) || !formB (c.le i)) = true then 2 else if smallB c = true then 0 else 3

set_option maxHeartbeats 400000 in
set_option maxRecDepth 100000 in
theorem psmall_tc (c : Ci) (h : okC c) : TC Tryz.prog 109 [.g (ciC c)] (.v (.bool (smallB c))) := by
  refine Wv.TC.by 36 [0, 1, 12, 11, 13, 10, 5, 3, 6, 7, 8, 34, 2] [] [.tmp 2] Tryz.func109 rfl rfl rfl ?clo ?_
  case clo => simp only [Wv.BC]
  unfold ciC strsA
  simp (disch := first | assumption | exact Wv.D | fail) only [Wv.B, simprocAttr]
  refine wfor (σ := Nat) (fun i => [(1, .ptr 0 0), (3, .v (.int .i64 (c.sum i : Nat))), (10, .t c.nl 6 c.lets), (11, .v (.int .i64 c.nl)), (12, .v (.int .i64 i))])
    (fun i => [some (.blk [.v (.string c.name), .t c.ni 1 (tab c.ni fun i => .v (.string (c.fi i))), .t c.nl 6 c.lets, .t c.no 1 (tab c.no fun i => .v (.string (c.fo i)))])])
    (fun i => i ≤ c.nl ∧ ((c.sum i : Nat) : Int) ≤ 400 ∧ ∀ j, j < i → c.big j = false) (fun i => c.nl - i) 0 ⟨Nat.zero_le _, by show ((0 : Nat) : Int) ≤ 400; omega, fun j hj => by omega⟩ Wv.V (by simp (disch := first | assumption | exact Wv.D | fail) only [Wv.B, simprocAttr, Ci.sum, accS]) ?_
  rintro i ⟨hi, hsum, hb⟩
  by_cases hlt : i < c.nl
  · have e1 : (i : Int) < c.nl := by omega
    have hnl := h.nl
    have hL := lets_clo c
    obtain ⟨r, hd⟩ := tabM_drop (f := fun i => letC (c.ln i) (c.le i)) (fun i => letC_len _ _) hlt
    have T := psize_tc (c.le i) (h.le i hlt).1 (h.le i hlt).2
    have hc1' := (h.le i hlt).2
    have hG := exG_clo (c.le i)
    have hbig : c.big i = (decide (400 < ((c.sum (i + 1) : Nat) : Int)) || (decide (40 < ((depE (c.le i) : Nat) : Int)) || lonE (c.le i))) := rfl
    have hs1 : ((c.sum (i + 1) : Nat) : Int) = ((c.sum i : Nat) : Int) + ((cntE (c.le i) : Nat) : Int) := by
      show ((accS 0 (fun i => cntE (c.le i)) i + cntE (c.le i) : Nat) : Int) = _
      exact Int.natCast_add _ _
    change List.drop (i * 6) c.lets = letC (c.ln i) (c.le i) ++ r at hd
    generalize hle : c.le i = x at hd T hc1' hG hbig hs1
    generalize c.lets = L at *
    generalize cntE x = c1 at *
    generalize depE x = c2 at *
    generalize lonE x = c3 at *
    have hoy := (h.le i hlt).1
    rw [hle] at hoy
    obtain ⟨k', s', n', nl', li', na', ar', rfl⟩ := ok_mk hoy
    unfold letC at hd
    rw [exC_mk] at hd T hG
    simp only [List.cons_append, List.nil_append] at hd
    simp (disch := first | assumption | exact Wv.D | fail) only [Wv.B, simprocAttr, hd]
    refine call_TC T rfl (cloA1 hG) (by simp only [Wv.BC]) ?_
    simp (disch := first | assumption | exact Wv.D | fail) only [Wv.B, simprocAttr]
    have hbad : c.big i = true → smallB c = false := fun hq => by
      unfold smallB
      have : anyN c.nl c.big = true := by
        unfold anyN
        exact List.any_eq_true.2 ⟨i, List.mem_range.2 hlt, hq⟩
      rw [this]; rfl
    cases d1 : decide (400 < ((c.sum i : Nat) : Int) + (c1 : Int)) with
    | true =>
      have hsm := hbad (by rw [hbig, hs1, d1]; rfl)
      simp (disch := first | assumption | exact Wv.D | fail) only [Wv.B, simprocAttr, d1, hsm]
    | false =>
    cases d2 : decide (40 < (c2 : Int)) with
    | true =>
      have hsm := hbad (by rw [hbig, hs1, d1, d2]; rfl)
      simp (disch := first | assumption | exact Wv.D | fail) only [Wv.B, simprocAttr, d1, d2, hsm]
    | false =>
    cases c3 with
    | true =>
      have hsm := hbad (by rw [hbig, hs1, d1, d2]; rfl)
      simp (disch := first | assumption | exact Wv.D | fail) only [Wv.B, simprocAttr, d1, d2, hsm]
    | false =>
      have hbf : c.big i = false := by rw [hbig, hs1, d1, d2]; rfl
      have hsm1 := of_decide_eq_false d1
      simp (disch := first | assumption | exact Wv.D | fail) only [Wv.B, simprocAttr, d1, d2]
      refine Wv.k_cut (i + 1) 1 (by first | decide | exact Nat.le_of_ble_eq_true rfl) (⟨by omega, by omega, fun j hj => by by_cases e : j = i; exact e ▸ hbf; exact hb j (by omega)⟩) (by omega) (by simp (disch := first | assumption | exact Wv.D | fail) only [Wv.B, simprocAttr, tab_snoc, hs1]) (by simp (disch := first | assumption | exact Wv.D | fail) only [Wv.B, simprocAttr, Int.natCast_add, Int.natCast_one, hs1]) (by simp only [Wv.BL, ↓reduceIte, Nat.reduceLeDiff, hL] <;> omega) (by simp only [Wv.BL, ↓reduceIte, Nat.reduceLeDiff, hL] <;> omega)
  · have hin : i = c.nl := by omega
    have : smallB c = true := by
      unfold smallB
      have : anyN c.nl c.big = false := by
        unfold anyN
        refine List.any_eq_false.2 fun j hj => ?_
        rw [hb j (by have := List.mem_range.1 hj; omega)]; decide
      rw [this]; rfl
    simp (disch := first | assumption | exact Wv.D | fail) only [Wv.B, simprocAttr, this, hin]
set_option maxHeartbeats 400000 in
set_option maxRecDepth 100000 in
theorem pfew_tc (c : Ci) : TC Tryz.prog 105 [.g (ciC c)] (.v (.bool (fewB c))) := by
  refine Wv.TC.by 19 [0, 1, 2] [] [.tmp 2] Tryz.func105 rfl rfl rfl ?clo ?_
  case clo => simp only [Wv.BC]
  unfold ciC strsA
  have hN : fewB c = (decide ((c.ni : Int) ≤ 8) && (decide ((c.nl : Int) ≤ 60) && decide ((c.no : Int) ≤ 8))) := rfl
  cases h1 : decide ((c.ni : Int) ≤ 8) with
  | false => rw [h1, Bool.false_and] at hN; simp (disch := first | assumption | exact Wv.D | fail) only [Wv.B, simprocAttr, h1, hN]
  | true =>
  cases h2 : decide ((c.nl : Int) ≤ 60) with
  | false => rw [h1, h2, Bool.false_and, Bool.and_false] at hN; simp (disch := first | assumption | exact Wv.D | fail) only [Wv.B, simprocAttr, h1, h2, hN]
  | true => rw [h1, h2, Bool.true_and, Bool.true_and] at hN; simp (disch := first | assumption | exact Wv.D | fail) only [Wv.B, simprocAttr, h1, h2, hN]
set_option maxHeartbeats 400000 in
set_option maxRecDepth 100000 in
theorem pbad_tc (s : ByteArray) (hs : s.size ≤ 140737488351232) : TC Tryz.prog 102 [.v (.string s)] (.v (.bool (!nameB s))) := by
  refine Wv.TC.by 6 [0, 2] [] [.tmp 2] Tryz.func102 rfl rfl rfl ?clo ?_
  case clo => simp only [Wv.BC]
  simp (disch := first | assumption | exact Wv.D | fail) only [Wv.B, simprocAttr]
  refine call_TC (pname_tc s hs) rfl (by simp only [Wv.BC]) (by simp only [Wv.BC]) ?_
  simp (disch := first | assumption | exact Wv.D | fail) only [Wv.B, simprocAttr]
/-- A call that drops its own objects at its end. -/
theorem HT.rd {P : Program} {f : FuncId} {args : List AV} {h : Hp} {res : AV} (T : HT P f args h fun r h' => r = res ∧ h'.take h.length = h) (hr : lo h.length res) (hh : loH h.length h) : HT P f args h fun r h' => r = res ∧ h' = h :=
  (RD.of (R := fun r => r = res) (p := fun _ => False) (T.toP _) (fun r q => q ▸ hr) (fun r q => q.elim) hh).toT fun _ _ q => q.1
set_option maxHeartbeats 400000 in
set_option maxRecDepth 100000 in
theorem pbadl_ht {C : List AV} (hC : ∀ a, a ∈ C → Clo a) (s : ByteArray) (x : Ex) (hs : s.size ≤ 140737488351232) (hx : okE x) : HT Tryz.prog 107 [.g (letC s x), .ptr 1 0] [some (.blk C), some (.blk [.fn (.func 102) [] []])] (fun r h' => r = .v (.bool (!nameB s || !formB x)) ∧ h' = [some (.blk C), some (.blk [.fn (.func 102) [] []])]) := by
  have T := pformed_tc x hx
  have hG := exG_clo x
  generalize formB x = b at *
  obtain ⟨k', s', n', nl', li', na', ar', rfl⟩ := ok_mk hx
  unfold letC
  rw [exC_mk] at *
  refine HT.rd ?_ (by simp only [Wv.BL, ↓reduceIte, Nat.reduceLeDiff]) (by simp only [Wv.BL, ↓reduceIte, Nat.reduceLeDiff]; exact fun a ha => .clo (hC a ha))
  refine Wv.HT.by 14 [0, 1, 2, 3] [(1000000, 2)] [.tmp 3] Tryz.func107 rfl rfl rfl ?base ?_
  case base => rfl
  simp (disch := first | assumption | exact Wv.D | fail) only [Wv.B, simprocAttr]
  refine call_TC (pbad_tc s hs) rfl (by simp only [Wv.BC]) (by simp only [Wv.BC]) ?_
  cases h1 : nameB s with
  | false => simp (disch := first | assumption | exact Wv.D | fail) only [Wv.B, simprocAttr, Bool.true_or]
  | true =>
    simp (disch := first | assumption | exact Wv.D | fail) only [Wv.B, simprocAttr]
    refine call_TC T rfl (cloA1 hG) (by simp only [Wv.BC]) ?_
    simp (disch := first | assumption | exact Wv.D | fail) only [Wv.B, simprocAttr, Bool.false_or]
set_option maxHeartbeats 400000 in
set_option maxRecDepth 100000 in
theorem pcheckC_tc (c : Ci) (h : okC c) : TC Tryz.prog 61 [.g (ciC c)] (.v (.int .i64 (checkI c))) := by
  have hcl := ciG_clo c
  have hll := lets_len c
  have hla : ∀ i, i < c.nl → List.take 6 (List.drop (i * 6) c.lets) = letC (c.ln i) (c.le i) := tabM_at fun i => letC_len _ _
  have Tf := pfew_tc c
  have Ts := psmall_tc c h
  have hN : checkI c = if (!nameB c.name || (anyN c.ni (fun i => !nameB (c.fi i)) || (anyN c.no (fun i => !nameB (c.fo i)) || (decide ((c.no : Int) = 0) || !fewB c)))) = true then 2
    else if anyN c.nl (fun i => !nameB (c.ln i) || !formB (c.le i)) = true then 2 else if smallB c = true then 0 else 3 := rfl
  unfold ciC strsA at Tf Ts hcl ⊢
  refine Wv.TC.by 38 [0, 3, 1, 30, 34, 37, 2] [] [.tmp 2] Tryz.func61 rfl rfl rfl ?clo ?_
  case clo => simp only [Wv.BC]
  simp (disch := first | assumption | exact Wv.D | fail) only [Wv.B, simprocAttr]
  refine call_TC (pbad_tc c.name h.name) rfl (by simp only [Wv.BC]) (by simp only [Wv.BC]) ?_
  cases h1 : nameB c.name with
  | false => rw [h1] at hN; simp only [Bool.not_false, Bool.true_or, if_true] at hN; simp (disch := first | assumption | exact Wv.D | fail) only [Wv.B, simprocAttr, hN]
  | true =>
  simp (disch := first | assumption | exact Wv.D | fail) only [Wv.B, simprocAttr]
  refine call_HT (fst := []) (cap := []) (scontf_ht c.ni c.fi (fun i => !nameB (c.fi i)) _ [] [] h.ni fun i hi => (pbad_tc (c.fi i) (h.fi i hi)).ht (cloA1 (by simp only [Wv.BC])) (by simp only [Wv.BC]) _) ?_
  rintro av h' ⟨rfl, rfl⟩
  cases h2 : anyN c.ni (fun i => !nameB (c.fi i)) with
  | true => rw [h1, h2] at hN; simp only [Bool.not_true, Bool.false_or, Bool.true_or, if_true] at hN; simp (disch := first | assumption | exact Wv.D | fail) only [Wv.B, simprocAttr, hN]
  | false =>
  simp (disch := first | assumption | exact Wv.D | fail) only [Wv.B, simprocAttr]
  refine call_HT (fst := []) (cap := []) (scontf_ht c.no c.fo (fun i => !nameB (c.fo i)) _ [] [] h.no fun i hi => (pbad_tc (c.fo i) (h.fo i hi)).ht (cloA1 (by simp only [Wv.BC])) (by simp only [Wv.BC]) _) ?_
  rintro av h' ⟨rfl, rfl⟩
  cases h3 : anyN c.no (fun i => !nameB (c.fo i)) with
  | true => rw [h1, h2, h3] at hN; simp only [Bool.not_true, Bool.false_or, Bool.true_or, if_true] at hN; simp (disch := first | assumption | exact Wv.D | fail) only [Wv.B, simprocAttr, hN]
  | false =>
  cases h4 : decide ((c.no : Int) = 0) with
  | true => rw [h1, h2, h3, h4] at hN; simp only [Bool.not_true, Bool.false_or, Bool.true_or, if_true] at hN; simp (disch := first | assumption | exact Wv.D | fail) only [Wv.B, simprocAttr, h4, hN]
  | false =>
  simp (disch := first | assumption | exact Wv.D | fail) only [Wv.B, simprocAttr, h4]
  refine call_TC Tf rfl (cloA1 hcl) (by simp only [Wv.BC]) ?_
  cases h5 : fewB c with
  | false => rw [h1, h2, h3, h4, h5] at hN; simp only [Bool.not_true, Bool.not_false, Bool.false_or, Bool.true_or, if_true] at hN; simp (disch := first | assumption | exact Wv.D | fail) only [Wv.B, simprocAttr, hN]
  | true =>
  rw [h1, h2, h3, h4, h5] at hN; simp only [Bool.not_true, Bool.not_false, Bool.false_or, Bool.true_or, if_true, Bool.false_eq_true, if_false] at hN
  simp (disch := first | assumption | exact Wv.D | fail) only [Wv.B, simprocAttr]
  refine call_HT (fst := []) (cap := []) (lcontf_ht c.nl c.lets (fun i => letC (c.ln i) (c.le i)) hll hla (fun i => !nameB (c.ln i) || !formB (c.le i)) _ [] [.ptr 1 0] h.nl fun i hi => pbadl_ht (by simp only [Wv.BC]; exact lets_clo c) (c.ln i) (c.le i) (h.ln i hi) (h.le i hi).1) ?_
  rintro av h' ⟨rfl, rfl⟩
  cases h6 : anyN c.nl (fun i => !nameB (c.ln i) || !formB (c.le i)) with
  | true => rw [h6] at hN; simp only [if_true] at hN; simp (disch := first | assumption | exact Wv.D | fail) only [Wv.B, simprocAttr, hN]
  | false =>
  rw [h6] at hN; simp only [Bool.false_eq_true, if_false] at hN
  simp (disch := first | assumption | exact Wv.D | fail) only [Wv.B, simprocAttr]
  refine call_TC Ts rfl (cloA1 hcl) (by simp only [Wv.BC]) ?_
  cases h7 : smallB c with
  | true => rw [h7] at hN; simp only [if_true] at hN; simp (disch := first | assumption | exact Wv.D | fail) only [Wv.B, simprocAttr, hN]
  | false => rw [h7] at hN; simp only [Bool.false_eq_true, if_false] at hN; simp (disch := first | assumption | exact Wv.D | fail) only [Wv.B, simprocAttr, hN]
end Go.Proofs.YtljfgdlgmdcmfaaGreat
