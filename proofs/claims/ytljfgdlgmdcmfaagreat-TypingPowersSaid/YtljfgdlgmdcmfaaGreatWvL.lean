/- The machine of abstract values: regions, code, functions. -/
import Derived.Test.YtljfgdlgmdcmfaaGreatWvK
namespace Go.Proofs.YtljfgdlgmdcmfaaGreat.Wv
open Go.RowKit
set_option linter.unusedVariables false
set_option autoImplicit false

def guardE (all : List Oper) (e : Ev) (j : Nat) : AV := match (all[j]?).bind (·.dst) with
  | some d => getE e d
  | none => .none

/-- Does a guard let an operation run? -/
def gB (want : Bool) (g : AV) : Option Bool := match g with
  | .v (.bool b) => some (b == want)
  | .v (.tuple ⟨[]⟩) => some false
  | _ => none
/-- The operations of a region, in the order of the text. -/
def wOps (P : Program) (p : AV → Hp → Prop) (all : List Oper) : List Oper → Ev → Hp → (Ev → Hp → Prop) → Prop
  | [], e, h, K => K e h
  | o :: r, e, h, K => match o.guard with
    | none => wOp P p o (opnd e) h fun a h' => wOps P p all r (putE e o.dst a) h' K
    | some (j, want) => ∃ b, gB want (guardE all e j) = some b ∧ (if b = true then wOp P p o (opnd e) h fun a h' => wOps P p all r (putE e o.dst a) h' K else wOps P p all r (putE e o.dst (.v undef)) h K)

/-- What is known where a region is left by a panic. -/
def delE (ops : List Oper) (e : Ev) : Ev := e.filter fun x => !(ops.any fun o => decide (o.dst = some x.1))
theorem getE_del (ops : List Oper) : ∀ (e : Ev) (d : Nat), getE (delE ops e) d = if ops.any (fun o => decide (o.dst = some d)) = true then .none else getE e d
  | [], d => by simp [delE, getE]
  | (k, a) :: r, d => by
    have ih := getE_del ops r d
    unfold delE at ih ⊢
    rw [List.filter_cons]
    by_cases hk : (ops.any fun o => decide (o.dst = some k)) = true
    · simp only [hk, Bool.not_true, Bool.false_eq_true, if_false]
      rw [ih]
      by_cases e : k = d
      · subst e; rw [if_pos hk, if_pos hk]
      · simp [getE, e]
    · simp only [hk, Bool.not_false, if_true]
      simp only [getE]
      by_cases e : k = d
      · subst e; simp [hk]
      · simp only [if_neg e]; exact ih
theorem delE_out {ops : List Oper} {o : Oper} (ho : o ∈ ops) (e : Ev) : ∀ d, o.dst = some d → getE (delE ops e) d = .none := by
  intro d hd
  rw [getE_del, if_pos (List.any_eq_true.2 ⟨o, ho, by simp [hd]⟩)]
theorem EnvOk.del {X : Cx} {N : Nat} {e : Ev} {a : Act} (ops : List Oper) (h : EnvOk X N e a) : EnvOk X N (delE ops e) a := by
  refine ⟨h.defers, h.size, fun d => ?_⟩
  rw [getE_del]
  split
  · exact .none _
  · exact h.rep d
theorem EnvOk.any {X : Cx} {N : Nat} {e : Ev} {a : Act} {dst : Option Tmp} {v : Value} (h : EnvOk X N e a) (hd : ∀ d, dst = some d → getE e d = .none) : EnvOk X N e (a.put dst v) := by
  cases dst with
  | none => exact h
  | some d =>
    refine ⟨h.defers, by simp [Act.put, h.size], fun k => ?_⟩
    by_cases hk : d = k
    · subst hk; rw [hd _ rfl]; exact .none _
    · have := h.rep k
      simp only [Act.put, Array.getD_eq_getD_getElem?] at this ⊢
      rw [Array.getElem?_setIfInBounds_ne hk]
      exact this

def okDst (N : Nat) (o : Oper) : Bool := match o.dst with
  | some d => decide (d < N)
  | none => true

theorem okDst_lt {N : Nat} {o : Oper} (h : okDst N o = true) : ∀ d, o.dst = some d → d < N := by
  intro d hd
  unfold okDst at h
  rw [hd] at h
  exact of_decide_eq_true h

theorem yieldG {X : Cx} {ops : Array Oper} {tmps : Array Value} {g d : Nat} {q o : Oper} {want b : Bool} {av : AV} (hq : ops[g]? = some q) (hd : q.dst = some d) (hlt : d < tmps.size) (hr : Rep X av (tmps.getD d undef)) (hb : gB want av = some b) (hg : o.guard = some (g, want)) : Region.wanted o (yielded ops tmps) = b := by
  have hv : tmps[d]? = some (tmps.getD d undef) := by rw [Array.getElem?_eq_getElem hlt]; simp [Array.getD, hlt]
  generalize tmps.getD d undef = u at hr hv
  unfold gB at hb
  split at hb
  · next c =>
    injection hb with hb; subst hb
    cases hr
    have hy : yielded ops tmps g = some c := by unfold yielded; simp [hq, hd, hv]
    simp only [Region.wanted, hg, hy]
    cases c <;> cases want <;> rfl
  · injection hb with hb; subst hb
    cases hr
    have hy : yielded ops tmps g = none := by unfold yielded; simp [hq, hd, hv]
    simp only [Region.wanted, hg, hy]
    cases want <;> rfl
  · cases hb
theorem wanted_of {X : Cx} {N : Nat} {e : Ev} {a : Act} {ops : Array Oper} {j : Nat} {want b : Bool} {o : Oper} (hE : EnvOk X N e a) (hall : ops.toList.all (okDst N) = true) (h : gB want (guardE ops.toList e j) = some b) (hg : o.guard = some (j, want)) : Region.wanted o (yielded ops a.tmps) = b := by
  unfold guardE at h
  cases ho : ops[j]? with
  | none => rw [Array.getElem?_toList, ho] at h; cases h
  | some q =>
    rw [Array.getElem?_toList, ho] at h
    simp only [Option.bind_some] at h
    cases hd : q.dst with
    | none => rw [hd] at h; cases h
    | some d =>
      rw [hd] at h
      simp only at h
      have hdN := okDst_lt (List.all_eq_true.1 hall q (List.mem_of_getElem? (by rw [Array.getElem?_toList]; exact ho))) d hd
      exact yieldG ho hd (by rw [hE.size]; exact hdN) (hE.rep d) h hg

theorem goes_wp {P : Program} {X : Cx} {N : Nat} {e : Ev} {a : Act} {o : Oper} {p K : AV → Hp → Prop} {next : Act → World → Prop} {Q : Exit → Act → World → Prop} (hE : EnvOk X N e a) (hd : ∀ d, o.dst = some d → d < N) (h : Goes P X o a p K)
    (hp : ∀ (Y : Cx) (av : AV) (v : Value), Step X Y → Ok Y → Rep Y av v → p av Y.h → Q (.panic [{ v, recovered := false }]) a Y.w) (hX : Ok X)
    (hn : ∀ (Y : Cx) (av : AV) (v : Value), Step X Y → Ok Y → EnvOk Y N (putE e o.dst av) (a.put o.dst v) → K av Y.h → next (a.put o.dst v) Y.w) : o.wp P a X.w next Q := by
  unfold Oper.wp
  rcases h with ⟨v, Y, av, h1, h2, h3, h4, h5⟩ | ⟨Y, h1, h2, h3, h4⟩ | ⟨f, args, h1, h3⟩ | ⟨v, av, h1, h2, h3⟩
  · rw [h1, Oper.upon_value]
    exact hn Y av v h2 h3 ((hE.mono h2).put hd h4) h5
  · rw [h1, Oper.upon_skip]
    exact hn Y .none undef h2 h3 ((hE.mono h2).put hd (.none _)) h4
  · rw [h1, Oper.upon_enter]
    refine h3.mono ?_
    rintro en w' ⟨v, Y, av, rfl, q1, q2, q3, ⟨rfl, q4⟩ | ⟨rfl, q4⟩⟩
    · exact hn Y av v q1 q2 ((hE.mono q1).put hd q3) q4
    · exact hp Y av v q1 q2 q3 q4
  · rw [h1, Oper.upon_panic]
    exact hp X av v (Step.refl X) hX h2 h3

theorem wOps_wp {P : Program} {N : Nat} {ops : Array Oper} {Q : Exit → Act → World → Prop} {p : AV → Hp → Prop} {e1 : Ev} (hdel : ∀ o, o ∈ ops.toList → ∀ d, o.dst = some d → getE e1 d = .none) (hall : ops.toList.all (okDst N) = true) : ∀ (r : List Oper) (k : Nat) (X : Cx) (e : Ev) (a : Act) (K : Ev → Hp → Prop),
    (∀ (i : Nat), (ops.toList.drop k)[i]? = r[i]?) → Ok X → EnvOk X N e a → EnvOk X N e1 a → wOps P p ops.toList r e X.h K →
    (∀ (Y : Cx) (av : AV) (v : Value) (a' : Act), Step X Y → Ok Y → EnvOk Y N e1 a' → Rep Y av v → p av Y.h → Q (.panic [{ v, recovered := false }]) a' Y.w) → (∀ (Y : Cx) (e' : Ev) (a' : Act), Step X Y → Ok Y → EnvOk Y N e' a' → K e' Y.h → Q .normal a' Y.w) → wpOps P ops Q (List.range' k r.length) a X.w
  | [], k, X, e, a, K, _, hX, hE, _, h, _, hK => hK X e a (Step.refl X) hX hE h
  | o :: r, k, X, e, a, K, hr, hX, hE, hE1, h, hP, hK => by
    have hk : ops[k]? = some o := by
      have := hr 0
      rw [List.getElem?_drop] at this
      simpa using this
    have hrest : ∀ (i : Nat), (ops.toList.drop (k + 1))[i]? = r[i]? := fun i => by
      have := hr (i + 1)
      rw [List.getElem?_drop] at this ⊢
      rw [show k + 1 + i = k + (i + 1) by omega, this]; rfl
    have hout := hdel o (List.mem_of_getElem? (i := k) (by rw [Array.getElem?_toList]; exact hk))
    have hod := okDst_lt (List.all_eq_true.1 hall o (List.mem_of_getElem? (i := k) (by rw [Array.getElem?_toList]; exact hk)))
    have go : ∀ {L : AV → Hp → Prop}, (∀ av h', L av h' → wOps P p ops.toList r (putE e o.dst av) h' K) → wOp P p o (opnd e) X.h L → o.wp P a X.w (wpOps P ops Q (List.range' (k + 1) r.length)) Q := fun hL hw =>
      goes_wp hE hod (wOp_goes hX (fun x _ => hE.opnd x) hw) (fun Y av v S hY hr hp => hP Y av v a S hY (hE1.mono S) hr hp) hX fun Y av v S hY hEY hh => wOps_wp hdel hall r (k + 1) Y _ _ K hrest hY hEY ((hE1.mono S).any hout) (hL _ _ hh) (fun Z av v a' S2 hZ hEZ hr hp => hP Z av v a' (S.trans hX S2) hZ hEZ hr hp) fun Z e' a' S2 hZ hEZ hKZ => hK Z e' a' (S.trans hX S2) hZ hEZ hKZ
    rw [List.length_cons, List.range'_succ]
    simp only [wpOps, hk]
    simp only [wOps] at h
    split at h
    · next hg =>
      have hw : Region.wanted o (yielded ops a.tmps) = true := by simp [Region.wanted, hg]
      rw [if_pos hw]
      exact .inl (go (fun _ _ h => h) h)
    · next j want hg =>
      obtain ⟨b, hb, h⟩ := h
      have hw := wanted_of hE hall hb hg
      split at h
      · next e1 =>
        rw [if_pos (hw.trans e1)]
        exact .inl (go (fun _ _ h => h) h)
      · next e1 =>
        rw [if_neg (by rw [hw]; exact e1)]
        exact wOps_wp hdel hall r (k + 1) X _ _ K hrest hX (hE.put hod (.v _)) (hE1.any hout) h hP hK

/-- What is kept behind a region. -/
def keepE (L : List Nat) (e : Ev) : Ev := L.map fun d => (d, getE e d)
theorem keepE_get (L : List Nat) (e : Ev) (d : Nat) : getE (keepE L e) d = getE e d ∨ getE (keepE L e) d = .none := by
  induction L with
  | nil => exact .inr rfl
  | cons k r ih =>
    show (if k = d then getE e k else getE (keepE r e) d) = _ ∨ _
    by_cases h : k = d
    · subst h; left; rw [if_pos rfl]
    · rw [if_neg h]
      rcases ih with ih | ih
      · exact .inl ih
      · right; show (if k = d then getE e k else getE (keepE r e) d) = _; rw [if_neg h]; exact ih
theorem EnvOk.keep {X : Cx} {N : Nat} {e : Ev} {a : Act} (L : List Nat) (h : EnvOk X N e a) : EnvOk X N (keepE L e) a := by
  refine ⟨h.defers, h.size, fun d => ?_⟩
  rcases keepE_get L e d with q | q
  · rw [q]; exact h.rep d
  · rw [q]; exact .none _

inductive Ex where
  | normal
  | exit (id : Nat)
  | ret
  | panic (a : AV)
abbrev PostW := Ex → Ev → Hp → Prop

/-- A step from which the first n objects are followed. -/
structure StepN (n : Nat) (X Y : Cx) : Prop where
  os : Y.w.os = X.w.os
  tape : Y.w.tape = X.w.tape
  output : Y.w.output = X.w.output
  size : X.w.heap.size ≤ Y.w.heap.size
  block : ∀ b, b < X.w.heap.size → ¬ X.mine b → Y.w.heap[b]? = X.w.heap[b]?
  keep : ∀ b o x, cellAt X.w b o = some x → ¬ X.bad b o → cellAt Y.w b o = some x ∧ ¬ Y.bad b o
  len : n ≤ Y.h.length
  oarr : ∀ i T size cells fz, i < n → Y.h[i]? = some (some (.arr T size cells fz)) → ∃ cells' fz', X.h[i]? = some (some (.arr T size cells' fz')) ∧ cells'.length ≤ cells.length ∧ (cells.length = cells'.length → Y.m i = X.m i)
  oblk : ∀ i cells, i < n → Y.h[i]? = some (some (.blk cells)) → ∃ cells', X.h[i]? = some (some (.blk cells')) ∧ (Y.m i).1 = (X.m i).1
  own : ∀ b, Y.mine b → X.w.heap.size ≤ b ∨ X.mine b
  badk : ∀ b o, X.bad b o → Y.bad b o ∨ X.mine b
  omap : ∀ i es, i < n → Y.h[i]? = some (some (.map es)) → ∃ es', X.h[i]? = some (some (.map es')) ∧ (Y.m i).1 = (X.m i).1
  dse : Y.ds = X.ds
theorem Step.toN {X Y : Cx} {n : Nat} (S : Step X Y) (hn : n ≤ X.h.length) : StepN n X Y :=
  ⟨S.os, S.tape, S.output, S.size, S.block, S.keep, Nat.le_trans hn S.len, fun i T s c f hi => S.oarr i T s c f (Nat.lt_of_lt_of_le hi hn), fun i c hi => S.oblk i c (Nat.lt_of_lt_of_le hi hn), S.own, S.badk, fun i c hi => S.omap i c (Nat.lt_of_lt_of_le hi hn), S.dse⟩
theorem StepN.full {X Y : Cx} (S : StepN X.h.length X Y) : Step X Y := ⟨S.os, S.tape, S.output, S.size, S.block, S.keep, S.len, S.oarr, S.oblk, S.own, S.badk, S.omap, S.dse⟩
theorem StepN.trans {n : Nat} {X Y Z : Cx} (hX : Ok X) (S : StepN n X Y) (T : StepN n Y Z) : StepN n X Z := by
  have hno : ∀ b, b < X.w.heap.size → ¬ X.mine b → ¬ Y.mine b := fun b hb hm hy => by
    rcases S.own b hy with h | h
    · omega
    · exact hm h
  refine ⟨T.os.trans S.os, T.tape.trans S.tape, T.output.trans S.output, Nat.le_trans S.size T.size, fun b hb hm => ?_, fun b o x hx hb => ?_, T.len, fun i U s c f hi h => ?_, fun i c hi h => ?_, fun b hb => ?_, fun b o hb => ?_, fun i c hi h => ?_, T.dse.trans S.dse⟩
  · rw [T.block b (Nat.lt_of_lt_of_le hb S.size) (hno b hb hm), S.block b hb hm]
  · obtain ⟨h1, h2⟩ := S.keep b o x hx hb
    exact T.keep b o x h1 h2
  · obtain ⟨c1, f1, h1, l1, e1⟩ := T.oarr i U s c f hi h
    obtain ⟨c2, f2, h2, l2, e2⟩ := S.oarr i U s c1 f1 hi h1
    exact ⟨c2, f2, h2, Nat.le_trans l2 l1, fun e => by rw [e1 (by omega), e2 (by omega)]⟩
  · obtain ⟨c1, h1, e1⟩ := T.oblk i c hi h
    obtain ⟨c2, h2, e2⟩ := S.oblk i c1 hi h1
    exact ⟨c2, h2, e1.trans e2⟩
  · rcases T.own b hb with h | h
    · left; exact Nat.le_trans S.size h
    · exact S.own b h
  · rcases S.badk b o hb with h | h
    · rcases T.badk b o h with h | h
      · exact .inl h
      · rcases S.own b h with h | h
        · exact absurd (hX.badlt b o hb) (by omega)
        · exact .inr h
    · exact .inr h
  · obtain ⟨c1, h1, e1⟩ := T.omap i c hi h
    obtain ⟨c2, h2, e2⟩ := S.omap i c1 hi h1
    exact ⟨c2, h2, e1.trans e2⟩

/-- What may be forgotten, or turned, at a loop's head. -/
def Ent (n0 N : Nat) (e : Ev) (h : Hp) (e' : Ev) (h' : Hp) : Prop := ∀ (X : Cx) (a : Act), X.h = h → n0 ≤ h.length → Ok X → EnvOk X N e a → ∃ Y, Y.w = X.w ∧ Y.h = h' ∧ StepN n0 X Y ∧ Ok Y ∧ EnvOk Y N e' a
theorem Ent.refl (n0 N : Nat) (e : Ev) (h : Hp) : Ent n0 N e h e h := fun X a hh hn hX hE => ⟨X, rfl, hh, (Step.refl X).toN (hh ▸ hn), hX, hE⟩
theorem Ent.trans {n0 N : Nat} {e e1 e2 : Ev} {h h1 h2 : Hp} (p : Ent n0 N e h e1 h1) (q : Ent n0 N e1 h1 e2 h2) : Ent n0 N e h e2 h2 := fun X a hh hn hX hE => by
  obtain ⟨Y, y1, y2, y3, y4, y5⟩ := p X a hh hn hX hE
  obtain ⟨Z, z1, z2, z3, z4, z5⟩ := q Y a y2 (y2 ▸ y3.len) y4 y5
  exact ⟨Z, z1.trans y1, z2, y3.trans hX z3, z4, z5⟩

end Go.Proofs.YtljfgdlgmdcmfaaGreat.Wv
