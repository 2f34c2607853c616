/- The machine of abstract values: functions; what is handed out. -/
import Derived.Test.YtljfgdlgmdcmfaaGreatWvL
namespace Go.Proofs.YtljfgdlgmdcmfaaGreat.Wv
open Go.RowKit
set_option linter.unusedVariables false
set_option autoImplicit false

/-- An owned slice as one that nobody writes any more. -/
def close1 (h : Hp) (a : AV) : Option (AV × Hp) := match a with
  | .own id n => match h[id]? with
    | some (some (.arr T s cells fz)) => if cells.length = n * s then some (.t n s cells, h.set id (some (.arr T s cells cells.length))) else none
    | _ => none
  | .mp id => match h[id]? with
    | some (some (.map es)) => some (.tm es, h.set id none)
    | _ => none
  | a => some (a, h)
def closeWith (f : Hp → AV → Option (AV × Hp)) : Hp → List AV → Option (List AV × Hp)
  | h, [] => some ([], h)
  | h, a :: r => match f h a with
    | some (a', h1) => match closeWith f h1 r with
      | some (r', h2) => some (a' :: r', h2)
      | none => none
    | none => none
def close2 (h : Hp) (a : AV) : Option (AV × Hp) := match a with
  | .g l => (closeWith close1 h l).map fun p => (.g p.1, p.2)
  | a => close1 h a
def close3 (h : Hp) (a : AV) : Option (AV × Hp) := match a with
  | .tup l => (closeWith close2 h l).map fun p => (.tup p.1, p.2)
  | a => close2 h a

def Closes (f : Hp → AV → Option (AV × Hp)) : Prop := ∀ (X : Cx) (a a' : AV) (h' : Hp) (v : Value), Ok X → f X.h a = some (a', h') → Rep X a v → ∃ Y, Y.w = X.w ∧ Step X Y ∧ Ok Y ∧ Y.h = h' ∧ Rep Y a' v
/-- A map that nobody writes any more. -/
theorem map_tree {X : Cx} {id : Nat} {es : List (Value × AV)} {v : Value} (hX : Ok X) (h : X.h[id]? = some (some (.map es))) (hr : Rep X (.mp id) v) : ∃ Y, Y.w = X.w ∧ Step X Y ∧ Ok Y ∧ Y.h = X.h.set id none ∧ Rep Y (.tm es) v := by
  have hid : id < X.h.length := (List.getElem?_eq_some_iff.1 h).1
  have hY : ∃ Y : Cx, Y.w = X.w ∧ Y.m = X.m ∧ Y.h = X.h.set id none ∧ Y.bad = X.bad ∧ Y.ds = X.ds := ⟨⟨X.w, X.m, X.h.set id none, X.bad, X.ds⟩, rfl, rfl, rfl, rfl, rfl⟩
  obtain ⟨Y, y1, y2, y3, y4, y5⟩ := hY
  have get : ∀ i o, Y.h[i]? = some (some o) → i ≠ id ∧ X.h[i]? = some (some o) := by
    intro i o ho
    by_cases e : i = id
    · subst e
      rw [y3, List.getElem?_set_self hid] at ho
      injection ho with ho; cases ho
    · rw [y3, set_h e] at ho
      exact ⟨e, ho⟩
  have S : Step X Y := by
    refine ⟨by rw [y1], by rw [y1], by rw [y1], by rw [y1]; exact Nat.le_refl _, fun _ _ _ => by rw [y1], fun c o x h1 h2 => by rw [y1, y4]; exact ⟨h1, h2⟩, by rw [y3]; simp, fun i T s c f _ hi => ⟨c, f, (get i _ hi).2, Nat.le_refl _, fun _ => by rw [y2]⟩, fun i c _ hi => ⟨c, (get i _ hi).2, by rw [y2]⟩, fun b hb => ?_, fun _ _ hb => by rw [y4]; exact .inl hb, fun i c _ hi => ⟨c, (get i _ hi).2, by rw [y2]⟩, y5⟩
    obtain ⟨i, ⟨o, ho⟩, he⟩ := hb
    rw [y2] at he
    exact .inr ⟨i, ⟨o, (get i o ho).2⟩, he⟩
  obtain ⟨b, ents, clock, h1, h2, h3⟩ := hX.map id es h
  refine ⟨Y, y1, S, ⟨fun i c hi => ?_, fun i T s c fz hi => ?_, fun i j c hi hj => ?_, fun c o hc => by rw [y4] at hc; rw [y1]; exact hX.badlt c o hc, fun i q hi => ?_⟩, y3, ?_⟩
  · obtain ⟨g, cvs, T', k1, k2, k3, k4, k5⟩ := hX.blk i c (get i _ hi).2
    exact ⟨g, cvs, T', by rw [y2]; exact k1, by rw [y1]; exact k2, k3, fun o => by rw [y4]; exact k4 o, fun j a x q1 q2 => (k5 j a x q1 q2).mono S⟩
  · obtain ⟨g1, g2, n, g3, g4⟩ := hX.arr i T s c fz (get i _ hi).2
    refine ⟨g1, g2, n, g3, ?_⟩
    rcases g4 with g4 | ⟨g, cvs, g4⟩
    · exact .inl (by rw [y2]; exact g4)
    · exact .inr ⟨g, cvs, ⟨by rw [y2]; exact g4.at_, by rw [y1]; exact g4.blk, by rw [y2]; exact g4.cap, by rw [y2]; exact g4.capm, by rw [y2]; exact g4.sz, fun o ho => by rw [y4]; exact g4.bad o ho, fun j a x q1 q2 => (g4.rep j a x q1 q2).mono S, fun o ho => by rw [y4]; exact g4.good o ho⟩⟩
  · obtain ⟨o, ho⟩ := hi
    obtain ⟨o', ho'⟩ := hj
    rw [y2]
    exact hX.inj i j c ⟨o, (get i o ho).2⟩ ⟨o', (get j o' ho').2⟩
  · obtain ⟨g, en, cl, k1, k2, k3⟩ := hX.map i q (get i _ hi).2
    exact ⟨g, en, cl, by rw [y2]; exact k1, by rw [y1]; exact k2, k3.mono S⟩
  · cases hr with
    | mp hid' kk =>
    obtain ⟨b', e1, e2⟩ := kk es h
    rw [h1] at e1; injection e1 with e1; subst e1
    subst e2
    have := h3.mono S
    refine .tm (by rw [y1]; exact h2) (fun ⟨i, ⟨o, ho⟩, he⟩ => ?_) this.1 (fun i p e q1 q2 => (this.2 i p e q1 q2).1) (fun i p e q1 q2 => (this.2 i p e q1 q2).2)
    rw [y2] at he
    exact (get i o ho).1 (hX.inj i id b ⟨o, (get i o ho).2⟩ ⟨_, h⟩ he h1)
theorem close1_ok : Closes close1 := by
  intro X a a' h' v hX h hr
  unfold close1 at h
  split at h
  · next id n =>
    split at h
    · next T s cells fz hid =>
      split at h
      · next hl =>
        injection h with h; injection h with e1 e2; subst e1 e2
        obtain ⟨Y, y1, y2, y3, y4, y5⟩ := own_tree hX hid hl hr
        exact ⟨Y, y1, y2, y3, y4, y5⟩
      · cases h
    · cases h
  · next id =>
    split at h
    · next es hid =>
      injection h with h; injection h with e1 e2; subst e1 e2
      exact map_tree hX hid hr
    · cases h
  · injection h with h; injection h with e1 e2; subst e1 e2
    exact ⟨X, rfl, Step.refl X, hX, rfl, hr⟩
theorem closeWith_ok {f : Hp → AV → Option (AV × Hp)} (hf : Closes f) : ∀ (l : List AV) (X : Cx) (l' : List AV) (h' : Hp) (vs : List Value), Ok X → closeWith f X.h l = some (l', h') → RepL X l vs → ∃ Y, Y.w = X.w ∧ Step X Y ∧ Ok Y ∧ Y.h = h' ∧ RepL Y l' vs
  | [], X, l', h', vs, hX, h, hr => by
    simp only [closeWith] at h
    injection h with h; injection h with e1 e2; subst e1 e2
    exact ⟨X, rfl, Step.refl X, hX, rfl, hr⟩
  | a :: r, X, l', h', [], hX, h, hr => by have := hr.1; simp at this
  | a :: r, X, l', h', v :: vs, hX, h, hr => by
    simp only [closeWith] at h
    split at h
    · next a' h1 e1 =>
      split at h
      · next r' h2 e2 =>
        injection h with h; injection h with q1 q2; subst q1 q2
        obtain ⟨Y, y1, y2, y3, y4, y5⟩ := hf X a a' h1 v hX e1 (hr.2 0 a v rfl rfl)
        subst y4
        obtain ⟨Z, z1, z2, z3, z4, z5⟩ := closeWith_ok hf r Y r' _ vs y3 e2 ⟨by have := hr.1; simp at this; omega, fun i b u q1 q2 => (hr.2 (i + 1) b u (by simpa using q1) (by simpa using q2)).mono y2⟩
        refine ⟨Z, z1.trans y1, y2.trans hX z2, z3, z4, by have := z5.1; simp; omega, fun i b u q1 q2 => ?_⟩
        cases i with
        | zero => simp at q1 q2; subst q1 q2; exact y5.mono z2
        | succ i => exact z5.2 i b u (by simpa using q1) (by simpa using q2)
      · cases h
    · cases h
theorem close2_ok : Closes close2 := by
  intro X a a' h' v hX h hr
  unfold close2 at h
  split at h
  · next l =>
    cases hc : closeWith close1 X.h l with
    | none => rw [hc] at h; cases h
    | some p =>
      rw [hc] at h; injection h with h; injection h with e1 e2; subst e1 e2
      cases hr with
      | g hl hrr =>
      obtain ⟨Y, y1, y2, y3, y4, y5⟩ := closeWith_ok close1_ok l X p.1 p.2 _ hX hc ⟨hl, hrr⟩
      exact ⟨Y, y1, y2, y3, y4, .g y5.1 y5.2⟩
  · exact close1_ok X a a' h' v hX h hr
theorem close3_ok : Closes close3 := by
  intro X a a' h' v hX h hr
  unfold close3 at h
  split at h
  · next l =>
    cases hc : closeWith close2 X.h l with
    | none => rw [hc] at h; cases h
    | some p =>
      rw [hc] at h; injection h with h; injection h with e1 e2; subst e1 e2
      cases hr with
      | tup hl hrr =>
      obtain ⟨Y, y1, y2, y3, y4, y5⟩ := closeWith_ok close2_ok l X p.1 p.2 _ hX hc ⟨hl, hrr⟩
      exact ⟨Y, y1, y2, y3, y4, .tup y5.1 y5.2⟩
  · exact close2_ok X a a' h' v hX h hr

/-- What a function hands out. -/
def resL (P : Program) (h : Hp) (e : Ev) : List ResultVar → Option (List AV)
  | [] => some []
  | .tmp t :: r => (resL P h e r).map fun l => getE e t :: l
  | .cell t T :: r => if szP P T = some 0 then none else match loadA P h T (getE e t), resL P h e r with
    | some a, some l => some (a :: l)
    | _, _ => none
def resA (P : Program) (h : Hp) (e : Ev) (rs : Array ResultVar) : Option AV := match resL P h e rs.toList with
  | some [a] => some a
  | some l => some (.tup l)
  | none => none

def resOne (tmps : Array Value) : ResultVar → Sem Value
  | .tmp t => pure (tmps.getD t undef)
  | .cell a t => do loadVar t (← asAddr (tmps.getD a undef))

theorem resL_ok {P : Program} {X : Cx} {N : Nat} {e : Ev} {a : Act} (hX : Ok X) (hE : EnvOk X N e a) : ∀ (rs : List ResultVar) (l : List AV), resL P X.h e rs = some l → ∃ vs, (rs.mapM (resOne a.tmps)).run P X.w = .ok vs X.w ∧ RepL X l vs
  | [], l, h => by
    simp only [resL] at h; injection h with h; subst h
    exact ⟨[], by simp, rfl, fun i a x h1 => by simp at h1⟩
  | .tmp t :: r, l, h => by
    simp only [resL] at h
    cases hr : resL P X.h e r with
    | none => rw [hr] at h; cases h
    | some l' =>
      rw [hr] at h; injection h with h; subst h
      obtain ⟨vs, q1, q2⟩ := resL_ok hX hE r l' hr
      refine ⟨a.tmps.getD t undef :: vs, by rw [List.mapM_cons]; simp [resOne, q1], by simp [q2.1], fun i b u h1 h2 => ?_⟩
      cases i with
      | zero => simp only [List.getElem?_cons_zero, Option.some.injEq] at h1 h2; subst h1 h2; exact hE.rep t
      | succ i => exact q2.2 i b u (by simpa using h1) (by simpa using h2)
  | .cell t T :: r, l, h => by
    simp only [resL] at h
    split at h
    · cases h
    · next h0 =>
      split at h
      · next av l' e1 e2 =>
        injection h with h; subst h
        obtain ⟨vs, q1, q2⟩ := resL_ok hX hE r l' e2
        have hl := e1
        unfold loadA at hl
        cases hb : behind X.h (getE e t) with
        | none => rw [hb] at hl; cases hl
        | some cells =>
          rw [hb] at hl
          obtain ⟨b, off, cvs, hp, p1, p2, p3⟩ := behind_ok hX hb (hE.rep t) (takeA_pos hl h0)
          obtain ⟨v, r1, r2⟩ := load_cells (P := P) hl p1 p2 p3
          have r3 : (loadVar T ⟨b, off, none⟩).run P X.w = .ok v X.w := by simpa [Instr.loadAt, Instr.sureAddr] using r1
          refine ⟨v :: vs, by rw [List.mapM_cons]; simp [resOne, hp, asAddr, r3, q1], by simp [q2.1], fun i b u h1 h2 => ?_⟩
          cases i with
          | zero => simp only [List.getElem?_cons_zero, Option.some.injEq] at h1 h2; subst h1 h2; exact r2
          | succ i => exact q2.2 i b u (by simpa using h1) (by simpa using h2)
      · cases h

theorem results_eq (fn : Func) (tmps : Array Value) : results fn tmps = (do let vs ← fn.results.mapM (resOne tmps); pure (if h : vs.size = 1 then vs[0] else .tuple vs)) := by
  unfold results
  congr 2

theorem resA_ok {P : Program} {X : Cx} {N : Nat} {e : Ev} {a : Act} {fn : Func} {av : AV} (hX : Ok X) (hE : EnvOk X N e a) (h : resA P X.h e fn.results = some av) : ∃ v, (results fn a.tmps).run P X.w = .ok v X.w ∧ Rep X av v := by
  unfold resA at h
  cases hr : resL P X.h e fn.results.toList with
  | none => rw [hr] at h; cases h
  | some l =>
    rw [hr] at h
    obtain ⟨vs, q1, q2⟩ := resL_ok hX hE fn.results.toList l hr
    have hrun : ∀ {β : Type} (k : Array Value → Sem β), (do let vs ← fn.results.mapM (resOne a.tmps); k vs : Sem β).run P X.w = (k vs.toArray).run P X.w := by
      intro β k
      rw [Array.mapM_eq_mapM_toList, map_eq_pure_bind]
      simp [q1]
    rw [results_eq, hrun]
    split at h
    · next b e1 =>
      injection e1 with e1; subst e1
      injection h with h; subst h
      obtain ⟨u, rfl⟩ : ∃ u, vs = [u] := by
        have := q2.1
        match vs with
        | [u] => exact ⟨u, rfl⟩
        | [] => cases this
        | _ :: _ :: _ => simp at this
      exact ⟨u, by simp, q2.2 0 _ u rfl rfl⟩
    · next l2 hne e1 =>
      injection e1 with e1; subst e1
      injection h with h; subst h
      refine ⟨.tuple vs.toArray, ?_, .tup q2.1 q2.2⟩
      have hs : ¬ vs.length = 1 := fun hs => by
        have := q2.1
        rw [hs] at this
        match l, hne, this with
        | [b], hne, _ => exact hne b rfl
      simp [hs]
    · next e1 => cases e1

/-- The environment at the beginning. -/
def argE : Nat → List AV → Ev
  | _, [] => []
  | k, a :: r => (k, a) :: argE (k + 1) r
theorem argE_get : ∀ (l : List AV) (k d : Nat), getE (argE k l) d = if k ≤ d ∧ d < k + l.length then l.getD (d - k) .none else .none
  | [], k, d => by
    rw [if_neg (by simp only [List.length_nil]; omega)]; rfl
  | a :: r, k, d => by
    show (if k = d then a else getE (argE (k + 1) r) d) = _
    by_cases h : k = d
    · subst h
      rw [if_pos rfl, if_pos (by simp), Nat.sub_self]; rfl
    · rw [if_neg h, argE_get r (k + 1) d]
      simp only [List.length_cons]
      by_cases h2 : k + 1 ≤ d ∧ d < k + 1 + r.length
      · rw [if_pos h2, if_pos (by omega), show d - k = (d - (k + 1)) + 1 by omega]; rfl
      · rw [if_neg h2, if_neg (by omega)]

theorem enter_ok {X : Cx} {N : Nat} {args : List AV} {vs : List Value} (hds : X.ds = []) (hr : RepL X args vs) (hN : args.length ≤ N) : EnvOk X N (argE 0 args) { tmps := vs.toArray ++ Array.replicate (N - vs.toArray.size) undef, defers := [] } := by
  have hl := hr.1
  refine ⟨hds.symm, by simp; omega, fun d => ?_⟩
  rw [argE_get]
  split
  · next h =>
    have hd : d < args.length := by omega
    have e1 : args.getD (d - 0) .none = args[d] := by simp [hd]
    have e2 : (vs.toArray ++ Array.replicate (N - vs.toArray.size) undef).getD d undef = vs[d]'(by omega) := by
      rw [Array.getD_eq_getD_getElem?, Array.getElem?_append_left (by simp; omega)]
      simp [show d < vs.length by omega]
    rw [e1, e2]
    exact hr.2 d _ _ (List.getElem?_eq_getElem hd) (List.getElem?_eq_getElem (by omega))
  · exact .none _

/-- A contract over trees: the arguments are only read, what is handed out is read by nobody else. -/
def TC (P : Program) (f : FuncId) (args : List AV) (res : AV) : Prop :=
  bodyP P f = true ∧ ∀ (X : Cx) (vs : List Value), X.h = [] → (∀ b o, X.bad b o → b < X.w.heap.size) → RepL X args vs → Calls P f vs.toArray X.w fun e w' => ∃ v, e = .returned v ∧ Below X.w.heap.size X.w w' ∧ ∀ m, Rep ⟨w', m, [], X.bad, X.ds⟩ res v

theorem ok_empty {X : Cx} (h : X.h = []) (hb : ∀ b o, X.bad b o → b < X.w.heap.size) : Ok X :=
  ⟨fun id cells hh => by rw [h] at hh; simp at hh, fun id T s c f hh => by rw [h] at hh; simp at hh, fun i j b ⟨o, ho⟩ => by rw [h] at ho; simp at ho, hb, fun id es hh => by rw [h] at hh; simp at hh⟩

theorem TC.of_HT {P : Program} {f : FuncId} {args : List AV} {res : AV} (h : HT P f args [] fun r _ => r = res) (hc : Clo res) : TC P f args res := by
  refine ⟨h.1, fun X vs hh hb hr => ?_⟩
  refine (h.2 X vs (ok_empty hh hb) hh hr).mono ?_
  rintro e w' ⟨v, Y, av, rfl, rfl, S, hY, hv, rfl⟩
  have hm : ∀ b, ¬ X.mine b := fun b ⟨i, ⟨o, ho⟩, _⟩ => by rw [hh] at ho; simp at ho
  refine ⟨v, rfl, S.below hm, fun m => hv.clo hc fun b o u hu hbad => ⟨hu, fun hk => ?_⟩⟩
  rcases S.badk b o hk with q | q
  · exact hbad q
  · exact hm b q
/-- A contract over trees, used where things are owned. -/
theorem HT.of_TC {P : Program} {f : FuncId} {args args' : List AV} {h h' : Hp} {res : AV} (T : TC P f args' res) (hcl : closeWith close2 h args = some (args', h')) (hc : ∀ (a : AV), a ∈ args' → Clo a) (hres : Clo res) : HT P f args h fun r h2 => r = res ∧ h2 = h' := by
  refine ⟨T.1, fun X vs hX hh hr => ?_⟩
  subst hh
  obtain ⟨Y, y1, y2, y3, y4, y5⟩ := closeWith_ok close2_ok args X args' h' vs hX hcl hr
  have hclo : RepL ⟨Y.w, Y.m, [], Y.bad, Y.ds⟩ args' vs := ⟨y5.1, fun i a x h1 h2 => (y5.2 i a x h1 h2).clo (hc a (List.mem_of_getElem? h1)) fun b o u hu hb => ⟨hu, hb⟩⟩
  have hT := T.2 ⟨Y.w, Y.m, [], Y.bad, Y.ds⟩ vs rfl y3.badlt hclo
  rw [← y1]
  refine hT.mono ?_
  rintro e w' ⟨v, rfl, hbel, hv⟩
  have S : Step Y ⟨w', Y.m, Y.h, Y.bad, Y.ds⟩ := by
    refine ⟨hbel.os, hbel.tape, hbel.output, hbel.size, fun b hb _ => hbel.block b hb, fun b o x hx hb => ⟨?_, hb⟩, Nat.le_refl _, fun i T' s c f' _ hi => ⟨c, f', hi, Nat.le_refl _, fun _ => rfl⟩, fun i c _ hi => ⟨c, hi, rfl⟩, fun b hb => .inr hb, fun _ _ hb => .inl hb, fun i c _ hi => ⟨c, hi, rfl⟩, rfl⟩
    unfold cellAt at hx ⊢
    rw [hbel.cell (p := ⟨b, o, none⟩) (cellAt_lt hx)]; exact hx
  have hZ : Ok ⟨w', Y.m, Y.h, Y.bad, Y.ds⟩ := by
    refine ⟨fun id cells hi => ?_, fun id T' s cells fz hi => ?_, y3.inj, fun b o hb => Nat.lt_of_lt_of_le (y3.badlt b o hb) hbel.size, fun id es hi => ?_⟩
    · obtain ⟨b, cvs, T', h1, h2, h3, h4, h5⟩ := y3.blk id cells hi
      exact ⟨b, cvs, T', h1, by rw [← h2]; exact hbel.block b (y3.lt ⟨id, ⟨_, hi⟩, h1⟩), h3, h4, fun j a x q1 q2 => (h5 j a x q1 q2).mono S⟩
    · obtain ⟨g1, g2, n, g3, g4⟩ := y3.arr id T' s cells fz hi
      refine ⟨g1, g2, n, g3, ?_⟩
      rcases g4 with g4 | ⟨b, cvs, g4⟩
      · exact .inl g4
      · exact .inr ⟨b, cvs, ⟨g4.at_, by rw [← g4.blk]; exact hbel.block b (y3.lt ⟨id, ⟨_, hi⟩, g4.at_⟩), g4.cap, g4.capm, g4.sz, g4.bad, fun j a x q1 q2 => (g4.rep j a x q1 q2).mono S, g4.good⟩⟩
    · obtain ⟨b, ents, clock, h1, h2, h3⟩ := y3.map id es hi
      exact ⟨b, ents, clock, h1, by rw [← h2]; exact hbel.block b (y3.lt ⟨id, ⟨_, hi⟩, h1⟩), h3.mono S⟩
  exact ⟨v, ⟨w', Y.m, Y.h, Y.bad, Y.ds⟩, res, rfl, rfl, y2.trans hX S, hZ, (hv Y.m).clo hres fun b o u hu hb => ⟨hu, hb⟩, rfl, y4⟩
end Go.Proofs.YtljfgdlgmdcmfaaGreat.Wv
