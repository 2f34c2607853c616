/- Typing: Type (the program's side). -/
import Derived.Test.YtljfgdlgmdcmfaaGreatTypL
import Derived.Test.YtljfgdlgmdcmfaaGreatTypK
import Derived.Test.YtljfgdlgmdcmfaaGreatTypN
namespace Go.Proofs.YtljfgdlgmdcmfaaGreat
open Go.RowKit Wv
set_option linter.unusedVariables false
set_option linter.unusedSimpArgs false

def insT (f : Nat → ByteArray) : Nat → Option Nms
  | 0 => some []
  | n + 1 => (insT f n).bind fun ns => match findN ns (f n) with
    | some _ => none
    | none => some (ns ++ [(f n, false, 0)])
theorem insT_none {f : Nat → ByteArray} {i : Nat} (h : insT f i = none) : ∀ {n : Nat}, i ≤ n → insT f n = none
  | 0, q => by
    have : i = 0 := by omega
    subst this; exact h
  | n + 1, q => by
    by_cases e : i = n + 1
    · subst e; exact h
    · have := insT_none h (n := n) (by omega)
      simp only [insT, this, Option.bind_none]
theorem findN_app {s : ByteArray} {r r' : Bool × Nat} {s' : ByteArray} : ∀ {ns : Nms}, findN (ns ++ [(s', r')]) s = some r → findN ns s = some r ∨ r = r'
  | [], h => by
    unfold findN at h
    simp only [List.nil_append] at h
    split at h
    · injection h with h; exact .inr h.symm
    · cases h
  | p :: q, h => by
    have h' : (if s = p.1 then some p.2 else findN (q ++ [(s', r')]) s) = some r := h
    show (if s = p.1 then some p.2 else findN q s) = some r ∨ _
    by_cases e : s = p.1
    · rw [if_pos e] at h' ⊢; exact .inl h'
    · rw [if_neg e] at h' ⊢; exact findN_app h'
theorem insT_le {f : Nat → ByteArray} : ∀ {n : Nat} {ns : Nms} {s : ByteArray} {r : Bool × Nat}, insT f n = some ns → findN ns s = some r → r.2 ≤ 8
  | 0, ns, s, r, h, h2 => by injection h with h; subst h; cases h2
  | n + 1, ns, s, r, h, h2 => by
    cases hq : insT f n with
    | none => simp only [insT, hq, Option.bind_none] at h; cases h
    | some ns' =>
      simp only [insT, hq, Option.bind_some] at h
      cases hf : findN ns' (f n) with
      | some _ => rw [hf] at h; cases h
      | none =>
        rw [hf] at h
        injection h with h; subst h
        rcases findN_app h2 with q | q
        · exact insT_le hq q
        · subst q; exact Nat.zero_le _
def getL : Except (Nat × Int) (Nms × List (Bool × Nat)) → Nms × List (Bool × Nat)
  | .ok q => q
  | .error _ => ([], [])
def letS (ns : Nms) (ss : List (Bool × Nat)) (i : Nat) (s : ByteArray) : Except Int (Bool × Nat) → Except (Nat × Int) (Nms × List (Bool × Nat))
  | .error e => .error (i, e)
  | .ok r => .ok (ns ++ [(s, r)], ss ++ [r])
def letR (ln : Nat → ByteArray) (sh : Nms → Nat → Except Int (Bool × Nat)) (i : Nat) : Except (Nat × Int) (Nms × List (Bool × Nat)) → Except (Nat × Int) (Nms × List (Bool × Nat))
  | .error e => .error e
  | .ok (ns, ss) => if (findN ns (ln i)).isSome = true then .error (i, 230) else letS ns ss i (ln i) (sh ns i)
def letT (ns0 : Nms) (ln : Nat → ByteArray) (sh : Nms → Nat → Except Int (Bool × Nat)) : Nat → Except (Nat × Int) (Nms × List (Bool × Nat))
  | 0 => .ok (ns0, [])
  | i + 1 => letR ln sh i (letT ns0 ln sh i)
def outR : Option (Bool × Nat) → Option Int
  | none => some 230
  | some r => if r.1 = true then some 234 else none
def outT (ns : Nms) (fo : Nat → ByteArray) : Nat → Option Int
  | 0 => none
  | i + 1 => match outT ns fo i with
    | some e => some e
    | none => outR (findN ns (fo i))
theorem outT_some {ns : Nms} {fo : Nat → ByteArray} {i : Nat} {e : Int} (h : outT ns fo i = some e) : ∀ {n : Nat}, i ≤ n → outT ns fo n = some e
  | 0, q => by
    have : i = 0 := by omega
    subst this; exact h
  | n + 1, q => by
    by_cases e2 : i = n + 1
    · subst e2; exact h
    · have := outT_some h (n := n) (by omega)
      simp only [outT, this]
theorem letT_err {ns0 : Nms} {ln : Nat → ByteArray} {sh : Nms → Nat → Except Int (Bool × Nat)} {i : Nat} {q : Nat × Int} (h : letT ns0 ln sh i = .error q) : ∀ {n : Nat}, i ≤ n → letT ns0 ln sh n = .error q
  | 0, e => by
    have : i = 0 := by omega
    subst this; exact h
  | n + 1, e => by
    by_cases e2 : i = n + 1
    · subst e2; exact h
    · have := letT_err h (n := n) (by omega)
      show letR ln sh n (letT ns0 ln sh n) = _
      rw [this]; rfl
theorem check_few {c : Ci} (h : checkI c = 0) : c.nl ≤ 60 := by
  unfold checkI at h
  split at h
  · cases h
  · next h1 =>
    have h2 : fewB c = true := by
      cases hf : fewB c with
      | true => rfl
      | false => exact absurd (by rw [hf]; simp) h1
    unfold fewB at h2
    simp only [Bool.and_eq_true, decide_eq_true_eq] at h2
    omega
theorem check_form {c : Ci} (h : checkI c = 0) {i : Nat} (hi : i < c.nl) : formB (c.le i) = true := by
  unfold checkI at h
  split at h
  · cases h
  · split at h
    · cases h
    · next h2 =>
      cases hf : formB (c.le i) with
      | true => rfl
      | false =>
        refine absurd ?_ h2
        unfold anyN
        refine List.any_eq_true.2 ⟨i, List.mem_range.2 hi, ?_⟩
        rw [hf]; simp
/-- What Type answers where the parameters and the circuit are valid: shapes, place, error. -/
def lastT (ss : List (Bool × Nat)) (nl : Nat) : Option Int → List (Bool × Nat) × Int × Int
  | some e => ([], nl, e)
  | none => (ss, 0, 0)
def midT (c : Ci) : Except (Nat × Int) (Nms × List (Bool × Nat)) → List (Bool × Nat) × Int × Int
  | .error (i, e) => ([], i, e)
  | .ok (ns, ss) => lastT ss c.nl (outT ns c.fo c.no)
def typeT (c : Ci) (ru : Ex → Nat → Except Int Nat) : List (Bool × Nat) × Int × Int := match insT c.fi c.ni with
  | none => ([], -1, 230)
  | some ns => midT c (letT ns c.ln (fun ns i => shE ns ru (c.le i)) c.nl)
def shL (ss : List (Bool × Nat)) : List AV := ss.flatMap fun r => [.v (.bool r.1), .v (.int .i64 r.2)]
theorem shL_clo (ss : List (Bool × Nat)) : ∀ a, a ∈ shL ss → Clo a := by
  intro a ha
  obtain ⟨r, _, h⟩ := List.mem_flatMap.1 ha
  simp only [List.mem_cons, List.not_mem_nil, or_false] at h
  rcases h with rfl | rfl
  · exact .v _
  · exact .v _
theorem shL_len (ss : List (Bool × Nat)) : (shL ss).length = ss.length * 2 := by
  induction ss with
  | nil => rfl
  | cons r q ih =>
    show (_ :: _ :: shL q).length = _
    rw [List.length_cons, List.length_cons, ih, List.length_cons]; omega
theorem shL_app (ss : List (Bool × Nat)) (r : Bool × Nat) : shL (ss ++ [r]) = shL ss ++ [.v (.bool r.1), .v (.int .i64 r.2)] := by
  unfold shL
  rw [List.flatMap_append]; rfl
def typeA (q : List (Bool × Nat) × Int × Int) : AV := .tup [.t q.1.length 2 (shL q.1), .v (.int .i64 q.2.1), .v (.int .i64 q.2.2)]
/-- The answer of Type. -/
def typeQ (me : Int) (c : Ci) (ru : Ex → Nat → Except Int Nat) : List (Bool × Nat) × Int × Int :=
  if me ≠ 0 then ([], 0, 2) else if checkI c ≠ 0 then ([], 0, checkI c) else typeT c ru

theorem StepN.weak {n : Nat} {X Y : Cx} (S : StepN n X Y) : StepN 0 X Y :=
  ⟨S.os, S.tape, S.output, S.size, S.block, S.keep, Nat.zero_le _, fun _ _ _ _ _ h => absurd h (Nat.not_lt_zero _), fun _ _ h => absurd h (Nat.not_lt_zero _), S.own, S.badk, fun _ _ h => absurd h (Nat.not_lt_zero _), S.dse⟩
theorem StepN.defs {n : Nat} {X Y : Cx} {d d2 : List Deferred} (S : StepN n (X.def_ d2) Y) : StepN n (X.def_ d) (Y.def_ d) :=
  ⟨S.os, S.tape, S.output, S.size, S.block, S.keep, S.len, S.oarr, S.oblk, S.own, S.badk, S.omap, rfl⟩
theorem rep_v {X : Cx} {x y : Value} (h : Rep X (.v x) y) : y = x := by cases h; rfl
theorem stop_rep {X : Cx} {e : Int} {v : Value} (h : Rep X (stopA e) v) : v = .iface 98 (.agg #[.int .i64 e]) := by
  unfold stopA at h
  cases h with
  | ifc h =>
    cases h with
    | @g _ cvs hc hr =>
      match cvs, hc with
      | [c0], _ => rw [rep_v (hr 0 _ c0 rfl rfl)]
/-- A variable's only cell. -/
theorem blk_cell {X : Cx} (hX : Ok X) {id b : Nat} {a : AV} (h : X.h[id]? = some (some (.blk [a]))) (hb : (X.m id).1 = some b) : ∃ x, X.w.cell? ⟨b, 0, none⟩ = some x ∧ X.w.frozen? ⟨b, 0, none⟩ = false ∧ Rep X a x := by
  obtain ⟨b', cvs, T, h1, h2, h3, _, h5⟩ := hX.blk id _ h
  rw [hb] at h1
  injection h1 with h1
  subst h1
  have hs : 0 < cvs.size := by rw [h3]; exact Nat.one_pos
  refine ⟨cvs[0], ?_, ?_, h5 0 a _ rfl (Array.getElem?_eq_getElem hs)⟩
  · simp [World.cell?, h2, Array.getElem?_eq_getElem hs]
  · simp [World.frozen?, h2]
/-- The address of an object. -/
theorem ptr_rep {X : Cx} {id off : Nat} {v : Value} {c : List AV} (h : Rep X (.ptr id off) v) (hc : X.h[id]? = some (some (.blk c))) : ∃ b, (X.m id).1 = some b ∧ v = .pointer (some ⟨b, off, none⟩) := by
  cases h with
  | ptr hid h => exact h c hc
def tyL : List Nat := [0, 1, 2, 6, 28, 4, 5, 3, 8, 32, 9, 7, 43, 42, 44, 41, 10, 12, 58, 57, 59, 56, 13, 14, 15, 88, 87, 89, 86, 17, 19, 18]
def errA (i e : Int) : AV := .tup [.v (.slice none 0 0), .v (.int .i64 i), .v (.int .i64 e)]
def tyRs : Array ResultVar := #[.cell 4 34, .cell 5 3, .cell 6 35]
/-- What lies there when the closure is put off. -/
def midH (x : Par) (c : Ci) : Hp := [some (.blk (parC x)), some (.blk (ciC c)), some (.blk [.v (.slice none 0 0)]), some (.blk [.v (.int .i64 0)]), some (.blk [.v (.int .i64 0)]), some (.blk [.v (.int .i64 (-1))])]
def midE (t : Int) : Ev := [(2, .ptr 0 0), (3, .ptr 1 0), (4, .ptr 2 0), (5, .ptr 3 0), (6, .ptr 4 0), (9, .ptr 5 0), (7, .v (.int .i64 t))]
def MidP (mv : Nat) (me : Int) (x : Par) (c : Ci) (e : Ev) (h : Hp) : Prop := fitE (midE mv) e ∧ h = midH x c ∧ me = 0 ∧ checkI c = 0
def tyQA (mv : Nat) (me : Int) (x : Par) (c : Ci) (q : List (Bool × Nat) × Int × Int) : PostW := fun ex e h => match ex with
  | .normal => MidP mv me x c e h
  | .ret => FinP Tryz.prog tyRs (fun r _ => ∃ i e, q = ([], i, e) ∧ r = errA i e) (fun _ _ => False) .ret e h
  | _ => False
theorem tyQA_n {mv : Nat} {me : Int} {x : Par} {c : Ci} {q : List (Bool × Nat) × Int × Int} {e : Ev} {h : Hp} : tyQA mv me x c q .normal e h = MidP mv me x c e h := rfl
theorem tyQA_r {mv : Nat} {me : Int} {x : Par} {c : Ci} {q : List (Bool × Nat) × Int × Int} {e : Ev} {h : Hp} : tyQA mv me x c q .ret e h = FinP Tryz.prog tyRs (fun r _ => ∃ i e, q = ([], i, e) ∧ r = errA i e) (fun _ _ => False) .ret e h := rfl
def tyQB (x : Par) (c : Ci) (q : List (Bool × Nat) × Int × Int) : PostW := fun ex e_ h => match ex with
  | .ret => FinP Tryz.prog tyRs (fun r _ => q.2 = (0, 0) ∧ r = typeA q) (fun _ _ => False) .ret e_ h
  | .panic av => ∃ i e s0 i0 e0, q = ([], i, e) ∧ av = stopA e ∧ h[2]? = some (some (.blk [s0])) ∧ h[3]? = some (some (.blk [.v (.int .i64 i0)])) ∧ h[4]? = some (some (.blk [.v (.int .i64 e0)])) ∧ h[5]? = some (some (.blk [.v (.int .i64 i)])) ∧ getE e_ 4 = .ptr 2 0 ∧ getE e_ 5 = .ptr 3 0 ∧ getE e_ 6 = .ptr 4 0
  | _ => False
theorem tyQB_r {x : Par} {c : Ci} {q : List (Bool × Nat) × Int × Int} {e : Ev} {h : Hp} : tyQB x c q .ret e h = FinP Tryz.prog tyRs (fun r _ => q.2 = (0, 0) ∧ r = typeA q) (fun _ _ => False) .ret e h := rfl
theorem tyQB_p {x : Par} {c : Ci} {q : List (Bool × Nat) × Int × Int} {av : AV} {e_ : Ev} {h : Hp} : tyQB x c q (.panic av) e_ h = ∃ i e s0 i0 e0, q = ([], i, e) ∧ av = stopA e ∧ h[2]? = some (some (.blk [s0])) ∧ h[3]? = some (some (.blk [.v (.int .i64 i0)])) ∧ h[4]? = some (some (.blk [.v (.int .i64 e0)])) ∧ h[5]? = some (some (.blk [.v (.int .i64 i)])) ∧ getE e_ 4 = .ptr 2 0 ∧ getE e_ 5 = .ptr 3 0 ∧ getE e_ 6 = .ptr 4 0 := rfl
set_option maxHeartbeats 3200000 in
set_option maxRecDepth 100000 in
theorem ptype_tc (x : Par) (c : Ci) (ru : Ex → Nat → Except Int Nat) (ks : Ex → Prop) (mv : Nat) (me : Int) (T1 : TC Tryz.prog 60 [.g (parC x), .v (.int .i64 x.r)] (.tup [.v (.int .i64 mv), .v (.int .i64 me)])) (hc : okC c)
    (hR : me = 0 → ∀ ns, RulesOk x mv ns ru ks) (hks : ∀ i, i < c.nl → allK ks (c.le i)) :
    TC Tryz.prog 19 [.g (parC x), .g (ciC c)] (typeA (typeQ me c ru)) := by
  refine TC.of_HT ⟨by kernel_rfl, fun X0 vs hX0 hh hr => ?_⟩ ?_
  case refine_2 => unfold typeA; simp only [Wv.BC]; exact shL_clo _
  refine calls_of_wp_defers Tryz.func19 rfl ?_
  show (seqs [_, _, _, _] (.seq _ (.seq _ _))).wp _ _ _ _
  have hX1 : Ok (X0.def_ []) := hX0.def_
  have hr1 : RepL (X0.def_ []) [.g (parC x), .g (ciC c)] vs := ⟨hr.1, fun i a x h1 h2 => (hr.2 i a x h1 h2).def_⟩
  have hE1 := enter_ok (N := 109) rfl hr1 (by show 2 ≤ 109; omega)
  refine seqs_sound (N := 109) (L := tyL) (ks := []) (by kernel_rfl) (QA := tyQA mv me x c (typeQ me c ru)) (fun i e h q => q) (fun av e h q => q) [_, _, _, _] (X0.def_ []) _ _ ?_ (by kernel_rfl) (Nat.zero_le _) hX1 hE1 ?_ ?_ ?_
  · kernel_rfl
  · show wCode Tryz.prog 109 tyL [] _ _ _ X0.h
    rw [hh]
    have T2 := pcheckC_tc c hc
    have hQ : typeQ me c ru = if me ≠ 0 then ([], 0, 2) else if checkI c ≠ 0 then ([], 0, checkI c) else typeT c ru := rfl
    have hM : ∀ e h, MidP mv me x c e h = (fitE (midE mv) e ∧ h = midH x c ∧ me = 0 ∧ checkI c = 0) := fun _ _ => rfl
    have hG1 : Clo (.g (parC x)) := by simp only [Wv.BC]; exact parC_clo x
    have hG2 := ciG_clo c
    generalize me = e1 at *
    generalize mv = t1 at *
    generalize checkI c = e2 at *
    unfold midH at hM
    simp only [parC, ciC, strsA] at T1 T2 hG1 hG2 hM ⊢
    generalize c.lets = L at *
    simp only [seqs]
    simp (disch := first | assumption | exact Wv.D | fail) only [Wv.B, simprocAttr, tyL, argE]
    refine call_TC T1 rfl (cloA2 hG1 (by simp only [Wv.BC])) (by simp only [Wv.BC]) ?_
    by_cases h1 : e1 = 0
    · subst h1
      simp (disch := first | assumption | exact Wv.D | fail) only [Wv.B, simprocAttr, decide_true]
      refine call_TC T2 rfl (cloA1 hG2) (by simp only [Wv.BC]) ?_
      by_cases h2 : e2 = 0
      · subst h2
        simp (disch := first | assumption | exact Wv.D | fail) only [Wv.B, simprocAttr, tyQA_n, hM]
        simp (disch := first | assumption | exact Wv.D | fail) only [Wv.B, simprocAttr, midE]
      · rw [if_neg (by simp), if_pos h2] at hQ
        simp (disch := first | assumption | exact Wv.D | fail) only [Wv.B, simprocAttr, decide_eq_false h2, tyQA_r, tyRs, hQ]
        exact ⟨_, _, rfl, rfl⟩
    · rw [if_pos h1] at hQ
      simp (disch := first | assumption | exact Wv.D | fail) only [Wv.B, simprocAttr, decide_eq_false h1, tyQA_r, tyRs, hQ]
      exact ⟨_, _, rfl, rfl⟩
  · intro Y e a S hY hE hmid
    obtain ⟨hfit, hh2, hm0, hck⟩ := hmid
    have hEm : EnvOk Y 109 (midE mv) a := ⟨hE.defers, hE.size, fun d => by
      rcases fitE_get hfit d with q | q
      · rw [q]; exact hE.rep d
      · rw [q]; exact .none _⟩
    have hds : a.defers = [] := hE.defers.trans S.dse
    refine wp_seq (defer_region (by rw [hE.size]; decide) ?_)
    rw [hds]
    generalize hcv : Array.map a.eval _ = cv
    generalize hd : Deferred.mk _ _ = d
    show Code.wp _ _ _ _ _
    have hY2 : Ok (Y.def_ [d]) := hY.def_
    have hE2 : EnvOk (Y.def_ [d]) 109 (midE mv) { tmps := a.tmps.setIfInBounds 34 (.func (.func 62) #[] cv), defers := [d] } := by
      have h1 := (hEm.any (dst := some 34) (v := .func (.func 62) #[] cv) (fun d hd => by injection hd with hd; subst hd; rfl))
      exact ⟨rfl, h1.size, fun d => (h1.rep d).def_⟩
    refine wp_mono (code_sound (by kernel_rfl) (L := tyL) (ks := [(1000000, 6)]) _ (tyQB x c (typeQ me c ru)) (Y.def_ [d]) (midE mv) _ ?_ (by kernel_rfl) ?_ hY2 hE2 ?_) ?_
    · kernel_rfl
    · show 6 ≤ Y.h.length
      rw [hh2]; exact Nat.le_refl 6
    · show wCode _ _ _ _ _ _ _ Y.h
      rw [hh2]
      have hQ : typeQ me c ru = typeT c ru := by unfold typeQ; rw [if_neg (by simp [hm0]), if_neg (by simp [hck])]
      have hT0 : typeT c ru = match insT c.fi c.ni with
        | none => ([], -1, 230)
        | some ns => midT c (letT ns c.ln (fun ns i => shE ns ru (c.le i)) c.nl) := rfl
      rw [hQ]
      have hLc := lets_clo c
      have hdr : ∀ i, i < c.nl → ∃ r, List.drop (i * 6) c.lets = letC (c.ln i) (c.le i) ++ r := fun i hi => tabM_drop (f := fun i => letC (c.ln i) (c.le i)) (fun i => letC_len _ _) hi
      generalize hQQ : typeT c ru = QQ at hT0 ⊢
      have hR1 := hR hm0
      clear hR
      generalize ht : ((mv : Nat) : Int) = t at hR1 ⊢
      have hcc := ciC_clo c
      have hpc := parC_clo x
      simp only [ciC, strsA] at hcc
      simp only [parC] at hpc
      generalize hL : c.lets = L at *
      have hlo8 : ∀ (s0 : AV) (pl : Int) (ns : Nms) (r : Hp) (m : Nat), 8 ≤ m → lo m s0 → loH m r → loH m (some (.blk [.v (.int .i64 x.n), .v (.int .u32 x.p), .v (.int .i64 x.r), .t x.ch.length 1 (x.ch.map fun (c : Nat) => .v (.int .u32 c)), .v (.int .u32 x.sp), .v (.int .i64 x.wt), .v (.int .u32 x.er)]) ::
          some (.blk [.v (.string c.name), .t c.ni 1 (tab c.ni fun i => .v (.string (c.fi i))), .t c.nl 6 L, .t c.no 1 (tab c.no fun i => .v (.string (c.fo i)))]) ::
          some (.blk [s0]) :: some (.blk [.v (.int .i64 0)]) :: some (.blk [.v (.int .i64 0)]) :: some (.blk [.v (.int .i64 pl)]) :: some (.map (nsE ns)) :: some (.blk (tyP x t ++ [.mp 6])) :: r) := fun s0 pl ns r m hm hs0 hr => by
        have h1 : ∀ v : AV, lo m v → loL m [v] := fun v hv a ha => by rw [List.mem_singleton] at ha; subst ha; exact hv
        refine ⟨fun a ha => .clo (hpc a ha), fun a ha => .clo (hcc a ha), h1 _ hs0, h1 _ (.clo (.v _)), h1 _ (.clo (.v _)), h1 _ (.clo (.v _)), fun a ha => .clo (nsE_clo ns a ha), fun a ha => ?_, hr⟩
        rcases List.mem_append.1 ha with h | h
        · exact .clo (tyP_clo x t a h)
        · rw [List.mem_singleton] at h; subst h; exact .mp (by omega)
      simp only [midE, midH, parC, ciC, strsA, hL]
      simp (disch := first | assumption | exact Wv.D | fail) only [Wv.B, simprocAttr, tyL]
      refine wfor (σ := Nat) (fun i => [(3, .ptr 1 0), (4, .ptr 2 0), (5, .ptr 3 0), (6, .ptr 4 0), (9, .ptr 5 0), (10, .ptr 7 0), (41, .t c.ni 1 (tab c.ni fun i => .v (.string (c.fi i)))), (42, .v (.int .i64 c.ni)), (43, .v (.int .i64 i))])
        (fun i => [some (.blk [.v (.int .i64 x.n), .v (.int .u32 x.p), .v (.int .i64 x.r), .t x.ch.length 1 (x.ch.map fun (c : Nat) => .v (.int .u32 c)), .v (.int .u32 x.sp), .v (.int .i64 x.wt), .v (.int .u32 x.er)]),
          some (.blk [.v (.string c.name), .t c.ni 1 (tab c.ni fun i => .v (.string (c.fi i))), .t c.nl 6 L, .t c.no 1 (tab c.no fun i => .v (.string (c.fo i)))]),
          some (.blk [.v (.slice none 0 0)]), some (.blk [.v (.int .i64 0)]), some (.blk [.v (.int .i64 0)]), some (.blk [.v (.int .i64 (-1))]), some (.map (nsE ((insT c.fi i).getD []))), some (.blk (tyP x t ++ [.mp 6]))])
        (fun i => i ≤ c.ni ∧ insT c.fi i = some ((insT c.fi i).getD [])) (fun i => c.ni - i) 0 ⟨Nat.zero_le _, rfl⟩ (by simp (disch := first | assumption | exact Wv.D | fail) only [Wv.B, simprocAttr, insT, Option.getD_some, nsE, tyP]) Wv.V ?_
      rintro i ⟨hi, hns⟩
      have hni := hc.ni
      by_cases hlt : i < c.ni
      · have e1 : (i : Int) < c.ni := by omega
        obtain ⟨ns, hq⟩ : ∃ ns, insT c.fi i = some ns := ⟨_, hns⟩
        have hgd : (insT c.fi i).getD [] = ns := by rw [hq]; rfl
        have hP : (tyP x t).length = 8 := rfl
        have hPl : ∀ a, a ∈ tyP x t → Clo a := fun a ha => tyP_clo x t a ha
        simp (disch := first | assumption | exact Wv.D | fail) only [Wv.B, simprocAttr, hgd]
        refine call_HTP (fst := []) (cap := []) (rdT7 (pfresh_rd x t ns (c.fi i)) _ _ _ _ _ _ [] (cloA1 (by simp only [Wv.BC])) (by rintro r ⟨_, rfl⟩; simp only [Wv.BC]) (by rintro r ⟨_, rfl⟩; exact stop_clo 230)) ?_ ?_
        · rintro av h' ⟨⟨hfn, rfl⟩, rfl⟩
          simp (disch := first | assumption | exact Wv.D | fail) only [Wv.B, simprocAttr]
          refine call_HT (fst := []) (cap := []) (pdefine_ht _ _ _ _ _ _ [] (tyP x t) hP ns (c.fi i) (false, 0) hfn ?_) ?_
          · exact hlo8 (.v (.slice none 0 0)) (-1) ns [] 8 (Nat.le_refl _) (.clo (.v _)) trivial
          · rintro av h' ⟨rfl, rfl⟩
            have hnx : insT c.fi (i + 1) = some (ns ++ [(c.fi i, false, 0)]) := by
              simp only [insT, hq, Option.bind_some, hfn]
            have hgn : (insT c.fi (i + 1)).getD [] = ns ++ [(c.fi i, false, 0)] := by rw [hnx]; rfl
            simp (disch := first | assumption | exact Wv.D | fail) only [Wv.B, simprocAttr, froze]
            refine k_next (i + 1) ⟨by omega, by rw [hnx]; rfl⟩ (by omega) (by rw [hgn]) Wv.V2
        · rintro av h' ⟨⟨hfn, rfl⟩, rfl⟩
          have hnx : insT c.fi c.ni = none := insT_none (i := i + 1) (by
            cases hf : findN ns (c.fi i) with
            | none => exact absurd hf hfn
            | some r => simp only [insT, hq, Option.bind_some, hf]) (by omega)
          rw [hnx] at hT0
          simp only at hT0
          simp (disch := first | assumption | exact Wv.D | fail) only [Wv.B, simprocAttr, tyQB_p]
          exact ⟨_, _, _, _, _, hT0, rfl, rfl, rfl, rfl, rfl, rfl, rfl, rfl⟩
      · have hin : i = c.ni := by omega
        subst hin
        obtain ⟨ns, hq⟩ : ∃ ns, insT c.fi c.ni = some ns := ⟨_, hns⟩
        have hgd : (insT c.fi c.ni).getD [] = ns := by rw [hq]; rfl
        have hnb : ∀ s r, findN ns s = some r → r.2 ≤ 8 := fun s r h => insT_le hq h
        rw [hq] at hT0
        simp only at hT0
        simp (disch := first | assumption | exact Wv.D | fail) only [Wv.B, simprocAttr, hgd]
        clear hgd hns hi hlt hq
        generalize hsh : (fun (ns : Nms) (i : Nat) => shE ns ru (c.le i)) = sh at hT0
        refine wforE (σ := Nat) (fun i => [(3, .ptr 1 0), (4, .ptr 2 0), (5, .ptr 3 0), (6, .ptr 4 0), (9, .ptr 5 0), (10, .ptr 7 0), (56, .t c.nl 6 L), (57, .v (.int .i64 c.nl)), (58, .v (.int .i64 i))])
          (fun i => [some (.blk [.v (.int .i64 x.n), .v (.int .u32 x.p), .v (.int .i64 x.r), .t x.ch.length 1 (x.ch.map fun (c : Nat) => .v (.int .u32 c)), .v (.int .u32 x.sp), .v (.int .i64 x.wt), .v (.int .u32 x.er)]),
            some (.blk [.v (.string c.name), .t c.ni 1 (tab c.ni fun i => .v (.string (c.fi i))), .t c.nl 6 L, .t c.no 1 (tab c.no fun i => .v (.string (c.fo i)))]),
            some (.blk [.own 8 i]), some (.blk [.v (.int .i64 0)]), some (.blk [.v (.int .i64 0)]), some (.blk [.v (.int .i64 ((i : Int) - 1))]), some (.map (nsE (getL (letT ns c.ln sh i)).1)), some (.blk (tyP x t ++ [.mp 6])), some (.arr 42 2 (shL (getL (letT ns c.ln sh i)).2) (2 * (i - 1)))])
          (fun i => i ≤ c.nl ∧ letT ns c.ln sh i = .ok (getL (letT ns c.ln sh i)) ∧ (getL (letT ns c.ln sh i)).2.length = i ∧ ∀ s r, findN (getL (letT ns c.ln sh i)).1 s = some r → r.2 ≤ 8) (fun i => c.nl - i) 0 ⟨Nat.zero_le _, rfl, rfl, hnb⟩ ?_ ?_
        · refine Ent.trans (Ent.nilc 2 0 42 2 [.v (.slice none 0 0)] (by omega) rfl rfl) (Ent.fit ?_)
          simp (disch := first | assumption | exact Wv.D | fail) only [Wv.B, simprocAttr]
        rintro i ⟨hi, hok, hsl, hb⟩
        obtain ⟨⟨ns1, ss⟩, hg⟩ : ∃ q, getL (letT ns c.ln sh i) = q := ⟨_, rfl⟩
        rw [hg] at hok hsl hb
        simp only at hsl hb
        have hnl := hc.nl
        by_cases hlt : i < c.nl
        · have e1 : (i : Int) < c.nl := by omega
          obtain ⟨r, hd⟩ := hdr i hlt
          have hform : formB (c.le i) = true := check_form hck hlt
          have TE := pexp_rd x t ns1 ru ks hb (hR1 ns1) (c.le i) (hc.le i hlt).1 hform (hks i hlt)
          have hshi : sh ns1 i = shE ns1 ru (c.le i) := by rw [← hsh]
          have hG := exG_clo (c.le i)
          have hGl := letC_clo (c.ln i) (c.le i)
          unfold ShC at TE
          have hns8 : ∀ r, shE ns1 ru (c.le i) = .ok r → r.2 ≤ 8 := fun r h => shE_le hb (c.le i) h
          generalize shE ns1 ru (c.le i) = O at TE hshi hns8
          have hoy := (hc.le i hlt).1
          generalize c.le i = y at hd TE hG hGl hoy
          obtain ⟨k', s', n', nl', li', na', ar', rfl⟩ := ok_mk hoy
          unfold letC at hd hGl
          rw [exC_mk] at hd TE hG hGl
          simp only [List.cons_append, List.nil_append] at hd
          have hnx0 : letT ns c.ln sh (i + 1) = letR c.ln sh i (.ok (ns1, ss)) := by show letR c.ln sh i (letT ns c.ln sh i) = _; rw [hok]
          simp (disch := first | assumption | exact Wv.D | fail) only [Wv.B, simprocAttr, hg, hd]
          refine call_HTP (fst := []) (cap := []) (rdT7 (pfresh_rd x t ns1 (c.ln i)) _ _ _ _ _ _ [_, _] (cloA1 (by simp only [Wv.BC])) (by rintro r ⟨_, rfl⟩; simp only [Wv.BC]) (by rintro r ⟨_, rfl⟩; exact stop_clo 230)) ?_ ?_
          · rintro av h' ⟨⟨hfn, rfl⟩, rfl⟩
            simp (disch := first | assumption | exact Wv.D | fail) only [Wv.B, simprocAttr]
            refine call_HTP (fst := []) (cap := []) (rdT7 (args := [.g _]) TE _ _ _ _ _ _ [_, _] (cloA1 hG) (by rintro r ⟨s, _, rfl⟩; exact shA_clo s) (by rintro r ⟨e, _, rfl⟩; exact stop_clo e)) ?_ ?_
            · rintro av h' ⟨⟨⟨k2, d2⟩, hO, rfl⟩, rfl⟩
              have hnx : letT ns c.ln sh (i + 1) = .ok (ns1 ++ [(c.ln i, k2, d2)], ss ++ [(k2, d2)]) := by
                rw [hnx0]
                simp only [letR, hfn, Option.isSome_none, Bool.false_eq_true, if_false, hshi, hO, letS]
              have hgn : getL (letT ns c.ln sh (i + 1)) = (ns1 ++ [(c.ln i, k2, d2)], ss ++ [(k2, d2)]) := by rw [hnx]; rfl
              simp (disch := first | assumption | exact Wv.D | fail) only [Wv.B, simprocAttr, shA]
              refine call_HT (fst := []) (cap := []) (pdefine_ht _ _ _ _ _ _ [_, _, _] (tyP x t) rfl ns1 (c.ln i) (k2, d2) hfn ?_) ?_
              · exact hlo8 (.own 8 i) i ns1 _ 11 (by omega) (.own (by omega)) ⟨fun a ha => .clo (shL_clo ss a ha), fun a ha => .clo (hGl a ha), fun a ha => .clo (by
                  simp only [List.mem_cons, List.not_mem_nil, or_false] at ha
                  rcases ha with rfl | rfl
                  · exact .v _
                  · exact .v _), trivial⟩
              · rintro av h' ⟨rfl, rfl⟩
                have hnl60 := check_few hck
                have hsz := shL_len ss
                rw [hsl] at hsz
                have hca : ∀ (a0 a1 a2 a3 a4 a5 a6 a7 : Option Ob) (r : Hp) (fz : Nat), cellsA (a0 :: a1 :: a2 :: a3 :: a4 :: a5 :: a6 :: a7 :: some (.arr 42 2 (shL ss ++ [.v (.bool k2), .v (.int .i64 d2)]) fz) :: r) (.own 8 (i + 1)) = some [.own 8 (i + 1)] := fun a0 a1 a2 a3 a4 a5 a6 a7 r fz => by
                  have : liveA (a0 :: a1 :: a2 :: a3 :: a4 :: a5 :: a6 :: a7 :: some (.arr 42 2 (shL ss ++ [.v (.bool k2), .v (.int .i64 d2)]) fz) :: r) (.own 8 (i + 1)) = true := by
                    show decide ((shL ss ++ [AV.v (.bool k2), AV.v (.int .i64 d2)]).length = (i + 1) * 2) = true
                    rw [List.length_append, hsz]
                    exact decide_eq_true (by show i * 2 + 2 = _; omega)
                  exact if_pos this
                have hdc : decide (i * 2 + 2 = (i + 1) * 2) = true := decide_eq_true (by omega)
                simp (disch := first | assumption | exact Wv.D | fail) only [Wv.B, simprocAttr, froze, hsz, hca, hdc]
                have hpl : (i : Int) + 1 - 1 = i := by omega
                have hfz : 2 * (i + 1 - 1) = i * 2 := by omega
                refine Wv.k_cut (i + 1) 9 (by first | decide | exact Nat.le_of_ble_eq_true rfl) ⟨by omega, by rw [hnx]; rfl, by rw [hgn]; simp [hsl], ?_⟩ (by omega) (by simp (disch := first | assumption | exact Wv.D | fail) only [Wv.B, simprocAttr, hgn, hpl, hfz, Nat.mul_comm 2 i, shL_app, Int.natCast_add, Int.natCast_one]) Wv.V2 (by simp only [Wv.BL, ↓reduceIte, Nat.reduceLeDiff, eq_true hLc] <;> omega) ?_
                · rw [hgn]
                  intro s r h
                  rcases findN_app h with q | q
                  · exact hb s r q
                  · subst q; exact hns8 _ hO
                · rw [hgn]
                  exact hlo8 (.own 8 (i + 1)) _ _ _ 9 (by omega) (.own (by omega)) ⟨fun a ha => .clo (shL_clo _ a ha), trivial⟩
            · rintro av h' ⟨⟨e, hO, rfl⟩, rfl⟩
              have hnx : letT ns c.ln sh (i + 1) = .error (i, e) := by
                rw [hnx0]
                simp only [letR, hfn, Option.isSome_none, Bool.false_eq_true, if_false, hshi, hO, letS]
              rw [letT_err hnx (n := c.nl) (by omega)] at hT0
              simp only [midT] at hT0
              simp (disch := first | assumption | exact Wv.D | fail) only [Wv.B, simprocAttr, tyQB_p]
              exact ⟨_, _, _, _, _, hT0, rfl, rfl, rfl, rfl, rfl, rfl, rfl, rfl⟩
          · rintro av h' ⟨⟨hfn, rfl⟩, rfl⟩
            have hnx : letT ns c.ln sh (i + 1) = .error (i, 230) := by
              rw [hnx0]
              cases hf : findN ns1 (c.ln i) with
              | none => exact absurd hf hfn
              | some r => simp only [letR, hf, Option.isSome_some, if_true]
            rw [letT_err hnx (n := c.nl) (by omega)] at hT0
            simp only [midT] at hT0
            simp (disch := first | assumption | exact Wv.D | fail) only [Wv.B, simprocAttr, tyQB_p]
            exact ⟨_, _, _, _, _, hT0, rfl, rfl, rfl, rfl, rfl, rfl, rfl, rfl⟩
        · have hin : i = c.nl := by omega
          subst hin
          rw [hok] at hT0
          have hT1 : QQ = lastT ss c.nl (outT ns1 c.fo c.no) := hT0
          simp (disch := first | assumption | exact Wv.D | fail) only [Wv.B, simprocAttr, hg]
          have hno := hc.no
          refine wfor (σ := Nat) (fun i => [(3, .ptr 1 0), (4, .ptr 2 0), (5, .ptr 3 0), (6, .ptr 4 0), (9, .ptr 5 0), (10, .ptr 7 0), (86, .t c.no 1 (tab c.no fun i => .v (.string (c.fo i)))), (87, .v (.int .i64 c.no)), (88, .v (.int .i64 i))])
            (fun i => [some (.blk [.v (.int .i64 x.n), .v (.int .u32 x.p), .v (.int .i64 x.r), .t x.ch.length 1 (x.ch.map fun (c : Nat) => .v (.int .u32 c)), .v (.int .u32 x.sp), .v (.int .i64 x.wt), .v (.int .u32 x.er)]),
              some (.blk [.v (.string c.name), .t c.ni 1 (tab c.ni fun i => .v (.string (c.fi i))), .t c.nl 6 L, .t c.no 1 (tab c.no fun i => .v (.string (c.fo i)))]),
              some (.blk [.own 8 c.nl]), some (.blk [.v (.int .i64 0)]), some (.blk [.v (.int .i64 0)]), some (.blk [.v (.int .i64 c.nl)]), some (.map (nsE ns1)), some (.blk (tyP x t ++ [.mp 6])), some (.arr 42 2 (shL ss) (2 * (c.nl - 1)))])
            (fun i => i ≤ c.no ∧ outT ns1 c.fo i = none) (fun i => c.no - i) 0 ⟨Nat.zero_le _, rfl⟩ Wv.V Wv.V ?_
          rintro i ⟨hi, hout⟩
          have hout1 : outT ns1 c.fo (i + 1) = outR (findN ns1 (c.fo i)) := by simp only [outT, hout]
          by_cases hlt : i < c.no
          · have e1 : (i : Int) < c.no := by omega
            have hlm := look_ns (c.fo i) ns1
            have htyP : tyP x t ++ [.mp 6] = [.v (.int .i64 x.n), .v (.int .u32 x.p), .v (.int .i64 x.r), .t x.ch.length 1 (x.ch.map fun (c : Nat) => .v (.int .u32 c)), .v (.int .u32 x.sp), .v (.int .i64 x.wt), .v (.int .u32 x.er), .v (.int .i64 t), .mp 6] := rfl
            cases hq2 : findN ns1 (c.fo i) with
            | none =>
              rw [hq2] at hlm hout1
              simp only [Option.map_none] at hlm
              simp only [outR] at hout1
              simp (disch := first | assumption | exact Wv.D | fail) only [Wv.B, simprocAttr, kb_ns, hlm, htyP]
              refine call_HTP (fst := []) (cap := []) (demand_rd false 230) (by rintro av h' ⟨hb, _⟩; cases hb) ?_
              rintro av h' ⟨_, rfl, rfl⟩
              rw [outT_some hout1 (n := c.no) (by omega)] at hT1
              simp only [lastT] at hT1
              simp (disch := first | assumption | exact Wv.D | fail) only [Wv.B, simprocAttr, tyQB_p]
              exact ⟨_, _, _, _, _, hT1, rfl, rfl, rfl, rfl, rfl, rfl, rfl, rfl⟩
            | some r =>
              obtain ⟨k2, d2⟩ := r
              rw [hq2] at hlm hout1
              simp only [Option.map_some, shA] at hlm
              simp only [outR] at hout1
              simp (disch := first | assumption | exact Wv.D | fail) only [Wv.B, simprocAttr, kb_ns, hlm, htyP]
              refine call_HTP (fst := []) (cap := []) (demand_rd true 230) ?_ (by rintro av h' ⟨hb, _⟩; cases hb)
              rintro av h' ⟨_, rfl, rfl⟩
              simp (disch := first | assumption | exact Wv.D | fail) only [Wv.B, simprocAttr]
              refine call_HTP (fst := []) (cap := []) (demand_rd (!k2) 234) ?_ ?_
              · rintro av h' ⟨hk, rfl, rfl⟩
                have hk2 : k2 = false := by simpa using hk
                subst hk2
                simp only [Bool.false_eq_true, if_false] at hout1
                simp (disch := first | assumption | exact Wv.D | fail) only [Wv.B, simprocAttr]
                refine Wv.k_cut (i + 1) 9 (by first | decide | exact Nat.le_of_ble_eq_true rfl) ⟨by omega, hout1⟩ (by omega) (by simp (disch := first | assumption | exact Wv.D | fail) only [Wv.B, simprocAttr, htyP]) Wv.V2 (by simp only [Wv.BL, ↓reduceIte, Nat.reduceLeDiff, eq_true hLc] <;> omega) ?_
                exact hlo8 (.own 8 c.nl) _ _ _ 9 (by omega) (.own (by omega)) ⟨fun a ha => .clo (shL_clo _ a ha), trivial⟩
              · rintro av h' ⟨hk, rfl, rfl⟩
                have hk2 : k2 = true := by simpa using hk
                subst hk2
                simp only [if_true] at hout1
                rw [outT_some hout1 (n := c.no) (by omega)] at hT1
                simp only [lastT] at hT1
                simp (disch := first | assumption | exact Wv.D | fail) only [Wv.B, simprocAttr, tyQB_p]
                exact ⟨_, _, _, _, _, hT1, rfl, rfl, rfl, rfl, rfl, rfl, rfl, rfl⟩
          · have hin : i = c.no := by omega
            subst hin
            rw [hout] at hT1
            simp only [lastT] at hT1
            have hsz := shL_len ss
            rw [hsl] at hsz
            have hca : ∀ (a0 a1 a2 a3 a4 a5 a6 a7 : Option Ob) (r : Hp) (fz : Nat), cellsA (a0 :: a1 :: a2 :: a3 :: a4 :: a5 :: a6 :: a7 :: some (.arr 42 2 (shL ss) fz) :: r) (.own 8 c.nl) = some [.own 8 c.nl] := fun a0 a1 a2 a3 a4 a5 a6 a7 r fz => by
              have : liveA (a0 :: a1 :: a2 :: a3 :: a4 :: a5 :: a6 :: a7 :: some (.arr 42 2 (shL ss) fz) :: r) (.own 8 c.nl) = true := by
                show decide ((shL ss).length = c.nl * 2) = true
                rw [hsz]
                exact decide_eq_true rfl
              exact if_pos this
            simp (disch := first | assumption | exact Wv.D | fail) only [Wv.B, simprocAttr, tyQB_r, tyRs, hca, hsz]
            rw [hT1]
            exact ⟨rfl, by unfold typeA; rw [hsl]⟩
    · intro ex a' w' hpost
      have := hpost.elim
      cases this with
      | ok z ex Z e2 a2 S2 hZ hEZ h hx =>
        have hS6 : StepN 0 (X0.def_ []) Y := S
        rcases hx with ⟨rfl, rfl⟩ | ⟨i, rfl, rfl⟩ | ⟨rfl, rfl⟩ | ⟨v, av, rfl, rfl, hrv⟩
        · exact False.elim h
        · exact False.elim h
        · have hd2 : a'.defers = [d] := hEZ.defers.trans S2.dse
          show Leaves _ _ _ _ a'.defers .returning Z.w
          rw [hd2, ← hd]
          refine leaves_cons (f := 62) (args := cv) (by simp) (by simp [go_sem]) ?_
          obtain ⟨b5, g5⟩ := ptr_rep (hEm.rep 9) (by rw [hh2]; rfl)
          obtain ⟨b2, g2⟩ := ptr_rep (hEm.rep 4) (by rw [hh2]; rfl)
          obtain ⟨b3, g3⟩ := ptr_rep (hEm.rep 5) (by rw [hh2]; rfl)
          obtain ⟨b4, g4⟩ := ptr_rep (hEm.rep 6) (by rw [hh2]; rfl)
          have hcv2 : cv = #[.pointer (some ⟨b5, 0, none⟩), .pointer (some ⟨b2, 0, none⟩), .pointer (some ⟨b3, 0, none⟩), .pointer (some ⟨b4, 0, none⟩)] := by
            rw [← hcv]
            simp [Act.eval, g5.2, g2.2, g3.2, g4.2]
          rw [hcv2]
          refine (tyd_ok _ _ _ _ Z.w).mono ?_
          rintro e3 u' w'' ⟨rfl, rfl, rfl⟩
          obtain ⟨r, r', h', h1, h2, hq0, rfl⟩ := h
          obtain ⟨v, q1, q2⟩ := resA_ok (fn := Tryz.f19) hZ hEZ (by rw [Tryz.results19]; exact h1)
          obtain ⟨V, z1, z2, z3, z4, z5⟩ := close3_ok Z r _ h' v hZ h2 q2
          have SS : Step (X0.def_ [d]) Z := StepN.full (by show StepN X0.h.length _ _; rw [hh]; exact StepN.trans hX0.def_ (StepN.defs S) (StepN.weak S2))
          exact ⟨v, q1, v, V.def_ X0.ds, _, rfl, z1, (SS.trans hX0.def_ z2).undef, z3.def_, z5.def_, rfl⟩
        · have hd2 : a'.defers = [d] := hEZ.defers.trans S2.dse
          obtain ⟨i, e', s0, i0, e0, hq, rfl, t2, t3, t4, t5, u4, u5, u6⟩ := h
          have hv := stop_rep hrv
          subst hv
          show Leaves _ _ _ _ a'.defers (.panicking _) Z.w
          rw [hd2, ← hd]
          refine leaves_cons (f := 62) (args := cv) (by simp) (by simp [go_sem]) ?_
          obtain ⟨b5, g5⟩ := ptr_rep (hEm.rep 9) (by rw [hh2]; rfl)
          obtain ⟨b2, g2⟩ := ptr_rep (hEm.rep 4) (by rw [hh2]; rfl)
          obtain ⟨b3, g3⟩ := ptr_rep (hEm.rep 5) (by rw [hh2]; rfl)
          obtain ⟨b4, g4⟩ := ptr_rep (hEm.rep 6) (by rw [hh2]; rfl)
          have hcv2 : cv = #[.pointer (some ⟨b5, 0, none⟩), .pointer (some ⟨b2, 0, none⟩), .pointer (some ⟨b3, 0, none⟩), .pointer (some ⟨b4, 0, none⟩)] := by
            rw [← hcv]
            simp [Act.eval, g5.2, g2.2, g3.2, g4.2]
          rw [hcv2]
          have k2 : (Z.m 2).1 = some b2 := (S2.oblk 2 _ (by decide) t2).elim fun _ q => q.2.trans g2.1
          have k3 : (Z.m 3).1 = some b3 := (S2.oblk 3 _ (by decide) t3).elim fun _ q => q.2.trans g3.1
          have k4 : (Z.m 4).1 = some b4 := (S2.oblk 4 _ (by decide) t4).elim fun _ q => q.2.trans g4.1
          have k5 : (Z.m 5).1 = some b5 := (S2.oblk 5 _ (by decide) t5).elim fun _ q => q.2.trans g5.1
          obtain ⟨x2, c2, f2, _⟩ := blk_cell hZ t2 k2
          obtain ⟨x3, c3, f3, r3⟩ := blk_cell hZ t3 k3
          obtain ⟨x4, c4, f4, r4⟩ := blk_cell hZ t4 k4
          obtain ⟨x5, c5, f5, r5⟩ := blk_cell hZ t5 k5
          have y3 := rep_v r3
          have y4 := rep_v r4
          have y5 := rep_v r5
          subst y3 y4 y5
          have nn : ∀ {i j bi bj : Nat} {ci cj : List AV}, Z.h[i]? = some (some (.blk ci)) → Z.h[j]? = some (some (.blk cj)) → (Z.m i).1 = some bi → (Z.m j).1 = some bj → i ≠ j → bi ≠ bj := fun h1 h2 h3 h4 hn he => hn (hZ.inj _ _ _ ⟨_, h1⟩ ⟨_, h2⟩ h3 (he ▸ h4))
          have n52 := nn t5 t2 k5 k2 (by decide)
          have n53 := nn t5 t3 k5 k3 (by decide)
          have n54 := nn t5 t4 k5 k4 (by decide)
          have n23 := nn t2 t3 k2 k3 (by decide)
          have n24 := nn t2 t4 k2 k4 (by decide)
          have n34 := nn t3 t4 k3 k4 (by decide)
          refine (tyd_stop b5 b2 b3 b4 e' i x2 i0 e0 Z.w c5 c2 c3 c4 f2 f3 f4 n52 n53 n54 n23 n24 n34).mono ?_
          rintro e3 u' w'' ⟨rfl, rfl, hw⟩
          have SS : Step (X0.def_ [d]) Z := StepN.full (by show StepN X0.h.length _ _; rw [hh]; exact StepN.trans hX0.def_ (StepN.defs S) (StepN.weak S2))
          have hnm : ∀ b, ¬ (X0.def_ [d]).mine b := fun b ⟨i, ⟨o, ho⟩, _⟩ => by
            have ho' : X0.h[i]? = some (some o) := ho
            rw [hh] at ho'; simp at ho'
          have hB : Below X0.w.heap.size X0.w Z.w := SS.below hnm
          have ge : ∀ {i b : Nat} {c : List AV}, Z.h[i]? = some (some (.blk c)) → (Z.m i).1 = some b → X0.w.heap.size ≤ b := fun h1 h2 => (SS.own _ ⟨_, ⟨_, h1⟩, h2⟩).elim id fun q => absurd q (hnm _)
          have l2 := World.block_lt_of_cell? Z.w _ c2
          have l3 := World.block_lt_of_cell? Z.w _ c3
          have l4 := World.block_lt_of_cell? Z.w _ c4
          simp only at l2 l3 l4
          have hbel : Below X0.w.heap.size X0.w w'' := by
            rw [hw]
            exact ((((hB.alloc hB.size _).setCell (ge t2 k2) _).setCell (ge t3 k3) _).setCell (ge t4 k4) _).drew
          have p2 : w''.cell? ⟨b2, 0, none⟩ = some (.slice none 0 0) := by
            rw [hw]
            show World.cell? (World.setCell (World.setCell (World.setCell _ _ _) _ _) _ _) _ = _
            rw [World.cell?_setCell_far _ _ _ _ (fun q => n24 q.symm), World.cell?_setCell_far _ _ _ _ (fun q => n23 q.symm)]
            exact World.cell?_setCell_same _ _ _ (by simp [go_sem, l2]; exact c2)
          have p3 : w''.cell? ⟨b3, 0, none⟩ = some (.int .i64 i) := by
            rw [hw]
            show World.cell? (World.setCell (World.setCell (World.setCell _ _ _) _ _) _ _) _ = _
            rw [World.cell?_setCell_far _ _ _ _ (fun q => n34 q.symm)]
            exact World.cell?_setCell_same _ _ _ ((World.cell?_setCell_far _ _ _ _ n23).trans (by simp [go_sem, l3]; exact c3))
          have p4 : w''.cell? ⟨b4, 0, none⟩ = some (.int .i64 e') := by
            rw [hw]
            show World.cell? (World.setCell (World.setCell (World.setCell _ _ _) _ _) _ _) _ = _
            exact World.cell?_setCell_same _ _ _ ((World.cell?_setCell_far _ _ _ _ n34).trans ((World.cell?_setCell_far _ _ _ _ n24).trans (by simp [go_sem, l4]; exact c4)))
          have q4 := hEZ.rep 4
          have q5 := hEZ.rep 5
          have q6 := hEZ.rep 6
          rw [u4] at q4
          rw [u5] at q5
          rw [u6] at q6
          obtain ⟨d4, m4, w4⟩ := ptr_rep q4 t2
          obtain ⟨d5, m5, w5⟩ := ptr_rep q5 t3
          obtain ⟨d6, m6, w6⟩ := ptr_rep q6 t4
          rw [k2] at m4; injection m4 with m4; subst m4
          rw [k3] at m5; injection m5 with m5; subst m5
          rw [k4] at m6; injection m6 with m6; subst m6
          show Leaves _ _ _ _ [] (settle _) w''
          refine ⟨.tuple #[.slice none 0 0, .int .i64 i, .int .i64 e'], ?_, _, ⟨w'', fun _ => (none, 0), [], X0.bad, X0.ds⟩, typeA (typeQ me c ru), rfl, rfl, ?_, ?_, ?_, rfl⟩
          · rw [Array.getD_eq_getD_getElem?] at w4 w5 w6
            simp [results, Tryz.results19, go_sem, w4, w5, w6, p2, p3, p4]
          · have hlen0 : X0.h.length = 0 := by rw [hh]; rfl
            refine ⟨hbel.os, hbel.tape, hbel.output, hbel.size, fun b hb _ => hbel.block b hb, fun b o y h1 h2 => ⟨?_, h2⟩, by rw [hlen0]; exact Nat.zero_le _, fun i _ _ _ _ hi => by omega, fun i _ hi => by omega, fun b ⟨j, ⟨o, ho⟩, _⟩ => by simp at ho, fun b o h => .inl h, fun i _ hi => by omega, rfl⟩
            have hlt := cellAt_lt h1
            unfold cellAt World.cell? at h1 ⊢
            rw [hbel.block b hlt]; exact h1
          · exact ok_empty rfl fun b o h => Nat.lt_of_lt_of_le (hX0.badlt b o h) hbel.size
          · rw [hq]
            exact (show Wk (errA i e') (typeA ([], i, e')) from Wk.tup ⟨Wk.nil 2, Wk.refl _, Wk.refl _, trivial⟩) _ _ (.tup (cells := [.v (.slice none 0 0), .v (.int .i64 i), .v (.int .i64 e')]) (cvs := [_, _, _]) rfl (fun j a y h1 h2 => by
              match j with
              | 0 => simp at h1 h2; subst h1 h2; exact .v _
              | 1 => simp at h1 h2; subst h1 h2; exact .v _
              | 2 => simp at h1 h2; subst h1 h2; exact .v _
              | j + 3 => simp at h1))
  · intro Y e a S hY hE hq
    have hds : a.defers = [] := hE.defers.trans S.dse
    have S0 : Step (X0.def_ []) Y := StepN.full (by show StepN X0.h.length _ _; rw [hh]; exact S)
    show Leaves _ _ _ _ a.defers .returning Y.w
    rw [hds]
    obtain ⟨r, r', h', h1, h2, i, e', hq2, rfl⟩ := hq
    obtain ⟨v, q1, q2⟩ := resA_ok (fn := Tryz.f19) hY hE (by rw [Tryz.results19]; exact h1)
    obtain ⟨Z, z1, z2, z3, z4, z5⟩ := close3_ok Y r _ h' v hY h2 q2
    refine ⟨v, q1, v, Z.def_ X0.ds, _, rfl, z1, (S0.trans hX1 z2).undef, z3.def_, (show Wk (errA i e') (typeA (typeQ me c ru)) from ?_) _ _ z5.def_, rfl⟩
    rw [hq2]
    exact Wk.tup ⟨Wk.nil 2, Wk.refl _, Wk.refl _, trivial⟩
end Go.Proofs.YtljfgdlgmdcmfaaGreat
