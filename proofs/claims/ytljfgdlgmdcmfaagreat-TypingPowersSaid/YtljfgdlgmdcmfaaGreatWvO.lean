/- The machine of abstract values: what is asked of a region whose order is drawn. -/
import Derived.Test.YtljfgdlgmdcmfaaGreatWvN
import Derived.Test.YtljfgdlgmdcmfaaGreatRelA
namespace Go.Proofs.YtljfgdlgmdcmfaaGreat.Wv
open Go.RowKit
set_option linter.unusedVariables false
set_option autoImplicit false

def direct (ops : Array Oper) (j i : Nat) : Bool := match ops[i]? with
  | some o => o.after.any fun e => Region.binds .any e && decide (e.on = j)
  | none => false
/-- Is an operation behind another one, in one or two steps? -/
def reach (ops : Array Oper) (j i : Nat) : Bool := direct ops j i || (List.range ops.size).any fun m => direct ops j m && direct ops m i
def rdT (o : Oper) (t : Tmp) : Bool := o.op.operands.any fun x => match x with | .tmp d => d == t | _ => false
/-- Does an operation on numbers or words only reckon? -/
def pureB : BinOp → Bool
  | .eql | .neq => false
  | _ => true
def isPure (o : Oper) : Bool := o.guard.isNone && match o.op with | .binOp op _ _ _ _ => pureB op | .move _ | .extract _ _ | .pick .. | .unOp .. | .convert .. | .field .. => true | _ => false
def isAlloc (o : Oper) : Bool := o.guard.isNone && match o.op with | .alloc _ => true | _ => false

def pairB (N k : Nat) (ops : Array Oper) (i j : Nat) (o p : Oper) : Bool :=
  (decide (j = i) || (decide (k ≤ i) && decide (k ≤ j)) || p.dst.isNone || decide (p.dst ≠ o.dst)) &&
  (match p.dst with | none => true | some t => !rdT o t || (if j < k then decide (j < i) && direct ops j i && !(decide (i < k) && isAlloc p) else if i < k then direct ops i j else true)) &&
  (decide (i < k) || decide (i ≤ j) || (decide (j < k) && isPure p) || reach ops j i)
def drawB (N k : Nat) (ops : Array Oper) : Bool :=
  decide (k ≤ ops.size) && (List.range ops.size).all fun i => match ops[i]? with
  | none => false
  | some o => (o.after.all fun e => !Region.binds .any e || decide (e.on < i)) && okDst N o &&
    (match o.guard with | none => true | some (g, _) => decide (g < i) && decide (g < k) && direct ops g i && (match ops[g]? with | some q => !isAlloc q | none => false)) && (decide (k ≤ i) || o.dst.isSome) &&
    (List.range ops.size).all fun j => match ops[j]? with
      | none => false
      | some p => pairB N k ops i j o p

structure DrawOk (N k : Nat) (ops : Array Oper) : Prop where
  le : k ≤ ops.size
  aft : ∀ (i : Nat) (o : Oper), ops[i]? = some o → ∀ e, e ∈ o.after → Region.binds .any e = true → e.on < i
  dst : ∀ (i : Nat) (o : Oper), ops[i]? = some o → ∀ d, o.dst = some d → d < N
  grd : ∀ (i : Nat) (o : Oper), ops[i]? = some o → ∀ g b, o.guard = some (g, b) → g < i ∧ g < k ∧ direct ops g i = true ∧ ∀ q, ops[g]? = some q → isAlloc q = false
  hdst : ∀ (i : Nat) (o : Oper), ops[i]? = some o → i < k → ∃ d, o.dst = some d
  diff : ∀ (i j : Nat) (o p : Oper), ops[i]? = some o → ops[j]? = some p → j ≠ i → (i < k ∨ j < k) → ∀ d, p.dst = some d → o.dst ≠ some d
  rdh : ∀ (i j : Nat) (o p : Oper), ops[i]? = some o → ops[j]? = some p → ∀ t, p.dst = some t → rdT o t = true → j < k → j < i ∧ direct ops j i = true ∧ (i < k → isAlloc p = false)
  rdt : ∀ (i j : Nat) (o p : Oper), ops[i]? = some o → ops[j]? = some p → ∀ t, p.dst = some t → rdT o t = true → k ≤ j → i < k → direct ops i j = true
  tail : ∀ (i j : Nat) (o p : Oper), ops[i]? = some o → ops[j]? = some p → k ≤ i → j < i → (j < k ∧ isPure p = true) ∨ reach ops j i = true

theorem drawB_ok {N k : Nat} {ops : Array Oper} (h : drawB N k ops = true) : DrawOk N k ops := by
  unfold drawB at h
  simp only [Bool.and_eq_true, decide_eq_true_eq] at h
  obtain ⟨hle, hall⟩ := h
  have get : ∀ (i : Nat) (o : Oper), ops[i]? = some o → ((o.after.all fun e => !Region.binds .any e || decide (e.on < i)) = true ∧ okDst N o = true ∧
      (match o.guard with | none => true | some (g, _) => decide (g < i) && decide (g < k) && direct ops g i && (match ops[g]? with | some q => !isAlloc q | none => false)) = true ∧ (decide (k ≤ i) || o.dst.isSome) = true) ∧
      ∀ (j : Nat) (p : Oper), ops[j]? = some p → pairB N k ops i j o p = true := by
    intro i o ho
    have h1 := List.all_eq_true.1 hall i (List.mem_range.2 (Array.getElem?_eq_some_iff.1 ho).1)
    rw [ho] at h1
    simp only [Bool.and_eq_true] at h1
    obtain ⟨⟨⟨⟨p1, p2⟩, p3⟩, p4⟩, p5⟩ := h1
    refine ⟨⟨p1, p2, p3, p4⟩, fun j p hp => ?_⟩
    have h2 := List.all_eq_true.1 p5 j (List.mem_range.2 (Array.getElem?_eq_some_iff.1 hp).1)
    rw [hp] at h2
    exact h2
  refine ⟨hle, fun i o ho e he hb => ?_, fun i o ho => okDst_lt (get i o ho).1.2.1, fun i o ho g b hg => ?_, fun i o ho hi => ?_, fun i j o p ho hp hne hk d hd he => ?_, fun i j o p ho hp t ht hr hj => ?_, fun i j o p ho hp t ht hr hj hi => ?_, fun i j o p ho hp hi hj => ?_⟩
  · have := Array.all_eq_true_iff_forall_mem.1 (get i o ho).1.1 e he
    rw [hb] at this
    simpa using this
  · have := (get i o ho).1.2.2.1
    rw [hg] at this
    simp only [Bool.and_eq_true, decide_eq_true_eq] at this
    refine ⟨this.1.1.1, this.1.1.2, this.1.2, fun q hq => ?_⟩
    have h2 := this.2
    rw [hq] at h2
    simpa using h2
  · have := (get i o ho).1.2.2.2
    simp only [Bool.or_eq_true, decide_eq_true_eq] at this
    rcases this with h | h
    · omega
    · exact Option.isSome_iff_exists.1 h
  · have := (get i o ho).2 j p hp
    unfold pairB at this
    simp only [Bool.and_eq_true, Bool.or_eq_true, decide_eq_true_eq] at this
    obtain ⟨⟨h1, _⟩, _⟩ := this
    rcases h1 with ((h1 | h1) | h1) | h1
    · exact hne h1
    · omega
    · rw [hd] at h1; cases h1
    · exact h1 (by rw [hd, he])
  · have := (get i o ho).2 j p hp
    unfold pairB at this
    simp only [Bool.and_eq_true] at this
    obtain ⟨⟨_, h1⟩, _⟩ := this
    rw [ht] at h1
    simp only [hr, Bool.not_true, Bool.false_or, hj, if_true, Bool.and_eq_true, decide_eq_true_eq, Bool.not_eq_true', Bool.and_eq_false_iff, decide_eq_false_iff_not] at h1
    refine ⟨h1.1.1, h1.1.2, fun hi => ?_⟩
    rcases h1.2 with h | h
    · exact absurd hi h
    · exact h
  · have := (get i o ho).2 j p hp
    unfold pairB at this
    simp only [Bool.and_eq_true] at this
    obtain ⟨⟨_, h1⟩, _⟩ := this
    rw [ht] at h1
    simp only [hr, Bool.not_true, Bool.false_or, show ¬ j < k by omega, if_false, hi, if_true] at h1
    exact h1
  · have := (get i o ho).2 j p hp
    unfold pairB at this
    simp only [Bool.and_eq_true, Bool.or_eq_true, decide_eq_true_eq] at this
    obtain ⟨_, h1⟩ := this
    rcases h1 with ((h1 | h1) | h1) | h1
    · omega
    · omega
    · exact .inl h1
    · exact .inr h1

theorem direct_listed {ops : Array Oper} {listed : Array Bool} {i j : Nat} {o : Oper} (ho : ops[i]? = some o) (hall : ∀ e, e ∈ o.after → Region.binds .any e = true → listed.getD e.on false = true) (h : direct ops j i = true) : listed.getD j false = true := by
  unfold direct at h
  rw [ho] at h
  obtain ⟨e, he, h2⟩ := Array.any_eq_true'.1 h
  simp only [Bool.and_eq_true, decide_eq_true_eq] at h2
  have := hall e he h2.1
  rw [h2.2] at this; exact this

theorem rdT_mem {o : Oper} {t : Tmp} (h : .tmp t ∈ o.op.operands) : rdT o t = true := by
  unfold rdT
  exact Array.any_eq_true'.2 ⟨_, h, by simp⟩

/-- What is known of an operation of the head. -/
def HFact (P : Program) (p₀ : AV → Hp → Prop) (all : List Oper) (h : Hp) (o : Oper) (e : Ev) (v : AV) : Prop := match o.guard with
  | none => if isAlloc o = true then (∃ T z d, o.op = .alloc T ∧ o.dst = some d ∧ zeroP P T = some z) ∧ v = .none else cOp P p₀ o (opnd e) h (fun a => a = v)
  | some (j, want) => ∃ b, gB want (guardE all e j) = some b ∧ if b = true then cOp P p₀ o (opnd e) h (fun a => a = v) else v = .v undef

theorem rOp_split {P : Program} {o : Oper} {E : Operand → AV} {h : Hp} {K : AV → Prop} (hh : rOp P o E h K) : ∃ v, rOp P o E h (fun a => a = v) ∧ K v := by
  unfold rOp at hh ⊢
  split at hh
  · exact ⟨_, rfl, hh⟩
  · exact ⟨_, rfl, hh⟩
  · obtain ⟨t, h1, h2⟩ := hh; exact ⟨_, ⟨t, h1, rfl⟩, h2⟩
  · obtain ⟨l, h1, h2⟩ := hh; exact ⟨_, ⟨l, h1, rfl⟩, h2⟩
  · obtain ⟨h0, l, h1, h2⟩ := hh; exact ⟨_, ⟨h0, l, h1, rfl⟩, h2⟩
  · obtain ⟨h1, h2⟩ := hh; exact ⟨_, ⟨h1, rfl⟩, h2⟩
  · obtain ⟨l, h1, h2⟩ := hh; exact ⟨_, ⟨l, h1, rfl⟩, h2⟩
  · obtain ⟨l, h1, h2⟩ := hh; exact ⟨_, ⟨l, h1, rfl⟩, h2⟩
  · obtain ⟨l, h1, h2⟩ := hh; exact ⟨_, ⟨l, h1, rfl⟩, h2⟩
  · obtain ⟨h0, l, h1, h2⟩ := hh; exact ⟨_, ⟨h0, l, h1, rfl⟩, h2⟩
  · obtain ⟨l, h1, h2⟩ := hh; exact ⟨_, ⟨l, h1, rfl⟩, h2⟩
  · obtain ⟨l, h1, h2⟩ := hh; exact ⟨_, ⟨l, h1, rfl⟩, h2⟩
  · obtain ⟨z, l, h0, h1, h2⟩ := hh; exact ⟨_, ⟨z, l, h0, h1, rfl⟩, h2⟩
  · obtain ⟨z, l, h0, h1, h2⟩ := hh; exact ⟨_, ⟨z, l, h0, h1, rfl⟩, h2⟩
  · obtain ⟨l, h1, h2⟩ := hh; exact ⟨_, ⟨l, h1, rfl⟩, h2⟩
  · exact ⟨_, rfl, hh⟩
  · unfold rCall at hh ⊢
    split at hh
    · obtain ⟨h0, n, h1, h2, h3⟩ := hh; exact ⟨_, ⟨h0, n, h1, h2, rfl⟩, h3⟩
    · obtain ⟨l, h1, h2⟩ := hh; exact ⟨_, ⟨l, h1, rfl⟩, h2⟩
    · obtain ⟨l, h1, h2⟩ := hh; exact ⟨_, ⟨l, h1, rfl⟩, h2⟩
    · exact hh.elim
  · obtain ⟨h1, h2⟩ := hh; exact ⟨_, ⟨h1, rfl⟩, h2⟩
  · obtain ⟨l, h1, h2⟩ := hh; exact ⟨_, ⟨l, h1, rfl⟩, h2⟩
  · exact hh.elim
theorem cOp_split {P : Program} {p₀ : AV → Hp → Prop} {o : Oper} {E : Operand → AV} {h : Hp} {K : AV → Prop} (hh : cOp P p₀ o E h K) : ∃ v, cOp P p₀ o E h (fun a => a = v) ∧ K v := by
  unfold cOp at hh ⊢
  split at hh
  · obtain ⟨te, s, L, h1, h2⟩ := hh; exact ⟨_, ⟨te, s, L, h1, rfl⟩, h2⟩
  · next c ho =>
    split at hh
    · obtain ⟨fid, fst, cap, h1, res, h2, h6⟩ := hh
      exact ⟨_, ⟨fid, fst, cap, h1, res, h2, rfl⟩, h6⟩
    · obtain ⟨h0, h1, r, h2, h3⟩ := hh
      exact ⟨_, ⟨h0, h1, r, h2, rfl⟩, h3⟩
    · unfold rCall at hh ⊢
      split at hh
      · obtain ⟨h0, n, h1, h2, h3⟩ := hh; exact ⟨_, ⟨h0, n, h1, h2, rfl⟩, h3⟩
      · obtain ⟨l, h1, h2⟩ := hh; exact ⟨_, ⟨l, h1, rfl⟩, h2⟩
      · obtain ⟨l, h1, h2⟩ := hh; exact ⟨_, ⟨l, h1, rfl⟩, h2⟩
      · exact hh.elim
  · obtain ⟨r, h1, h2⟩ := hh; exact ⟨_, ⟨r, h1, rfl⟩, h2⟩
  · exact rOp_split hh

/-- The head of a region, in the order of its text. -/
def wHead (P : Program) (p₀ : AV → Hp → Prop) (all : List Oper) (h : Hp) : List Oper → Ev → List (Tmp × Value) → (Ev → List (Tmp × Value) → Prop) → Prop
  | [], e, al, K => K e al
  | o :: r, e, al, K => match o.guard with
    | none => if isAlloc o = true then ∃ T z d, o.op = .alloc T ∧ o.dst = some d ∧ zeroP P T = some z ∧ wHead P p₀ all h r (putE e o.dst .none) (al ++ [(d, z)]) K
      else cOp P p₀ o (opnd e) h fun a => wHead P p₀ all h r (putE e o.dst a) al K
    | some (j, want) => ∃ b, gB want (guardE all e j) = some b ∧ if b = true then cOp P p₀ o (opnd e) h (fun a => wHead P p₀ all h r (putE e o.dst a) al K) else wHead P p₀ all h r (putE e o.dst (.v undef)) al K

def envV (e : Ev) : List Oper → List AV → Ev
  | o :: r, v :: vs => envV (putE e o.dst v) r vs
  | _, _ => e
def allocsOf (P : Program) : List Oper → List (Tmp × Value)
  | [] => []
  | o :: r => match isAlloc o, o.op, o.dst with
    | true, .alloc T, some d => match zeroP P T with
      | some z => (d, z) :: allocsOf P r
      | none => allocsOf P r
    | _, _, _ => allocsOf P r

theorem wHead_data {P : Program} {p₀ : AV → Hp → Prop} {all : List Oper} {h : Hp} {K : Ev → List (Tmp × Value) → Prop} : ∀ (hd : List Oper) (e : Ev) (al : List (Tmp × Value)), wHead P p₀ all h hd e al K →
    ∃ vals : List AV, vals.length = hd.length ∧ (∀ (i : Nat) (o : Oper) (v : AV), hd[i]? = some o → vals[i]? = some v → HFact P p₀ all h o (envV e (hd.take i) (vals.take i)) v) ∧ K (envV e hd vals) (al ++ allocsOf P hd)
  | [], e, al, hw => ⟨[], rfl, fun i o v h1 => by simp at h1, by rw [allocsOf, List.append_nil]; exact hw⟩
  | o :: r, e, al, hw => by
    have cons : ∀ (v : AV) (al' : List (Tmp × Value)), wHead P p₀ all h r (putE e o.dst v) al' K → HFact P p₀ all h o e v → al' ++ allocsOf P r = al ++ allocsOf P (o :: r) →
        ∃ vals : List AV, vals.length = (o :: r).length ∧ (∀ (i : Nat) (o' : Oper) (v : AV), (o :: r)[i]? = some o' → vals[i]? = some v → HFact P p₀ all h o' (envV e ((o :: r).take i) (vals.take i)) v) ∧ K (envV e (o :: r) vals) (al ++ allocsOf P (o :: r)) := by
      intro v al' hw hf ha
      obtain ⟨vals, h1, h2, h3⟩ := wHead_data r (putE e o.dst v) al' hw
      refine ⟨v :: vals, by simp [h1], fun i o' u q1 q2 => ?_, by rw [← ha]; exact h3⟩
      cases i with
      | zero => simp at q1 q2; subst q1 q2; exact hf
      | succ i => exact h2 i o' u (by simpa using q1) (by simpa using q2)
    simp only [wHead] at hw
    split at hw
    · next hg =>
      split at hw
      · next hal =>
        obtain ⟨T, z, d, ho, hd, hz, hw⟩ := hw
        refine cons .none _ hw ?_ ?_
        · unfold HFact; rw [hg]; simp only [hal, if_true]; exact ⟨⟨T, z, d, ho, hd, hz⟩, trivial⟩
        · simp [allocsOf, hal, ho, hd, hz]
      · next hal =>
        obtain ⟨v, hv, hw⟩ := cOp_split hw
        refine cons v al hw ?_ ?_
        · unfold HFact; rw [hg]; simp only [hal]; exact hv
        · have : isAlloc o = false := by simpa using hal
          simp [allocsOf, this]
    · next j want hg =>
      obtain ⟨b, hb, hw⟩ := hw
      have hal : isAlloc o = false := by unfold isAlloc; rw [hg]; rfl
      split at hw
      · next e1 =>
        obtain ⟨v, hv, hw⟩ := cOp_split hw
        refine cons v al hw ?_ (by simp [allocsOf, hal])
        unfold HFact; rw [hg]; exact ⟨b, hb, by rw [if_pos e1]; exact hv⟩
      · next e1 =>
        refine cons (.v undef) al hw ?_ (by simp [allocsOf, hal])
        unfold HFact; rw [hg]; exact ⟨b, hb, by rw [if_neg e1]⟩
end Go.Proofs.YtljfgdlgmdcmfaaGreat.Wv
