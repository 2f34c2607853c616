/- The machine of abstract values: one operation. -/
import Derived.Test.YtljfgdlgmdcmfaaGreatWvY
namespace Go.Proofs.YtljfgdlgmdcmfaaGreat.Wv
open Go.RowKit
set_option linter.unusedVariables false
set_option autoImplicit false

def getE : Ev → Nat → AV
  | [], _ => .none
  | (k, a) :: r, d => if k = d then a else getE r d
def putE (e : Ev) (dst : Option Tmp) (a : AV) : Ev := match dst with
  | some d => (d, a) :: e
  | none => e
def opnd (e : Ev) : Operand → AV
  | .tmp t => getE e t
  | .const x => .v x
  | .global g => .v (.pointer (some ⟨g, 0, none⟩))
  | .func f => .fn (.func f) [] []

structure EnvOk (X : Cx) (N : Nat) (e : Ev) (a : Act) : Prop where
  defers : a.defers = X.ds
  size : a.tmps.size = N
  rep : ∀ d, Rep X (getE e d) (a.tmps.getD d undef)
theorem EnvOk.mono {X Y : Cx} {N : Nat} {e : Ev} {a : Act} (S : Step X Y) (h : EnvOk X N e a) : EnvOk Y N e a := ⟨h.defers.trans S.dse.symm, h.size, fun d => (h.rep d).mono S⟩
theorem EnvOk.opnd {X : Cx} {N : Nat} {e : Ev} {a : Act} (h : EnvOk X N e a) (x : Operand) : Rep X (opnd e x) (a.eval x) := by
  cases x with
  | tmp t => exact h.rep t
  | const x => exact .v x
  | global g => exact .v _
  | func f => exact .fn (v1 := []) (v2 := []) rfl rfl (fun i a x h1 => by simp at h1) (fun i a x h1 => by simp at h1)
theorem EnvOk.put {X : Cx} {N : Nat} {e : Ev} {a : Act} {dst : Option Tmp} {av : AV} {v : Value} (h : EnvOk X N e a) (hd : ∀ d, dst = some d → d < N) (hr : Rep X av v) : EnvOk X N (putE e dst av) (a.put dst v) := by
  cases dst with
  | none => exact h
  | some d =>
    have hdN := hd d rfl
    refine ⟨h.defers, by simp [Act.put, h.size], fun k => ?_⟩
    simp only [putE, getE, Act.put]
    by_cases e1 : d = k
    · subst e1
      rw [if_pos rfl]
      have : (a.tmps.setIfInBounds d v).getD d undef = v := by simp [Array.getD, h.size, hdN]
      rw [this]; exact hr
    · rw [if_neg e1]
      have : (a.tmps.setIfInBounds d v).getD k undef = a.tmps.getD k undef := by simp [Array.getD_eq_getD_getElem?, Array.getElem?_setIfInBounds_ne e1]
      rw [this]; exact h.rep k

def bodyP (P : Program) (f : FuncId) : Bool := match P.funcs[f]? with
  | some fn => fn.body.isSome && !(fn.name == "runtime.NumGoroutine")
  | none => false
theorem callFunc_run {P : Program} {f : FuncId} (h : bodyP P f = true) (args : Array Value) (w : World) : (callFunc f args).run P w = .ok (.enter f args) w := by
  unfold bodyP at h
  split at h
  · next fn hf =>
    simp only [Bool.and_eq_true, Bool.not_eq_true'] at h
    cases hb : fn.body with
    | none => rw [hb] at h; simp at h
    | some c =>
      have h2 : ¬ fn.name = "runtime.NumGoroutine" := by simpa using h.2
      simp [callFunc, hf, h2, hb]
  · cases h

/-- A contract over abstract values and what is owned. -/
def HT (P : Program) (f : FuncId) (args : List AV) (h : Hp) (R : AV → Hp → Prop) : Prop :=
  bodyP P f = true ∧ ∀ (X : Cx) (vs : List Value), Ok X → X.h = h → RepL X args vs → Calls P f vs.toArray X.w fun e w' => ∃ v Y av, e = .returned v ∧ Y.w = w' ∧ Step X Y ∧ Ok Y ∧ Rep Y av v ∧ R av Y.h

/-- The same, where it may panic with a value. -/
def HTP (P : Program) (f : FuncId) (args : List AV) (h : Hp) (R p : AV → Hp → Prop) : Prop :=
  bodyP P f = true ∧ ∀ (X : Cx) (vs : List Value), Ok X → X.h = h → RepL X args vs → Calls P f vs.toArray X.w fun e w' => ∃ v Y av, Y.w = w' ∧ Step X Y ∧ Ok Y ∧ Rep Y av v ∧ ((e = .returned v ∧ R av Y.h) ∨ (e = .panicked [{ v, recovered := false }] ∧ p av Y.h))
theorem HT.toP {P : Program} {f : FuncId} {args : List AV} {h : Hp} {R : AV → Hp → Prop} (T : HT P f args h R) (p : AV → Hp → Prop) : HTP P f args h R p :=
  ⟨T.1, fun X vs hX hh hr => (T.2 X vs hX hh hr).mono fun e w' ⟨v, Y, av, h1, h2, h3, h4, h5, h6⟩ => ⟨v, Y, av, h2, h3, h4, h5, .inl ⟨h1, h6⟩⟩⟩
theorem HTP.toT {P : Program} {f : FuncId} {args : List AV} {h : Hp} {R p : AV → Hp → Prop} (T : HTP P f args h R p) (hp : ∀ av h', ¬ p av h') : HT P f args h R :=
  ⟨T.1, fun X vs hX hh hr => (T.2 X vs hX hh hr).mono fun e w' ⟨v, Y, av, h2, h3, h4, h5, h6⟩ => by
    rcases h6 with ⟨h6, h7⟩ | ⟨_, h7⟩
    · exact ⟨v, Y, av, h6, h2, h3, h4, h5, h7⟩
    · exact absurd h7 (hp _ _)⟩
theorem HTP.mono {P : Program} {f : FuncId} {args : List AV} {h : Hp} {R p R' p' : AV → Hp → Prop} (T : HTP P f args h R p) (hr : ∀ av h', R av h' → R' av h') (hp : ∀ av h', p av h' → p' av h') : HTP P f args h R' p' :=
  ⟨T.1, fun X vs hX hh hrr => (T.2 X vs hX hh hrr).mono fun e w' ⟨v, Y, av, h2, h3, h4, h5, h6⟩ => ⟨v, Y, av, h2, h3, h4, h5, h6.imp (fun q => ⟨q.1, hr _ _ q.2⟩) (fun q => ⟨q.1, hp _ _ q.2⟩)⟩⟩

/-- What is appended: how many elements, their cells. -/
def srcA (P : Program) (h : Hp) (tx : TypeId) (s : Nat) (x : AV) : Option (Nat × List AV) := match x with
  | .t m s' cells => if s' = s ∧ (elemP P tx).isSome ∧ cells.all (oneA h) = true then some (m, cells) else none
  | .own id m => match h[id]? with
    | some (some (.arr _ s' cells _)) => if s' = s ∧ cells.length = m * s ∧ (elemP P tx).isSome ∧ cells.all (oneA h) = true then some (m, cells) else none
    | _ => none
  | .v (.string b) => if s = 1 ∧ isStrP P tx then some (b.size, b.data.toList.map fun c => .v (.int .u8 c.toNat)) else none
  | .v (.slice none 0 0) => if (elemP P tx).isSome then some (0, []) else none
  | _ => none

theorem all_one {X : Cx} {cells : List AV} {cvs : List Value} (h : cells.all (oneA X.h) = true) (hc : cvs.length = cells.length) (hr : ∀ (i : Nat) (a : AV) (x : Value), cells[i]? = some a → cvs[i]? = some x → Rep X a x) : ∀ u ∈ cvs, u.oneCell' = true :=
  repL_all h ⟨hc, hr⟩

theorem srcA_ok {P : Program} {X : Cx} {tx : TypeId} {s m : Nat} {x : AV} {newA : List AV} {v : Value} (hX : Ok X) (h : srcA P X.h tx s x = some (m, newA)) (hr : Rep X x v) :
    ∃ news, Src P s tx v m news X.w ∧ newA.length = news.length ∧ ∀ (i : Nat) (a : AV) (x : Value), newA[i]? = some a → news[i]? = some x → Rep X a x := by
  cases x with
  | t m' s' cells =>
    simp only [srcA] at h
    split at h
    · next hc =>
      obtain ⟨rfl, he, hall⟩ := hc
      injection h with h; injection h with e1 e2; subst e1 e2
      obtain ⟨e, he⟩ := Option.isSome_iff_exists.1 he
      cases hr with
      | @t _ _ _ p cap cvs hl hc hn hcap hp hrr =>
      rcases Nat.eq_zero_or_pos m' with rfl | hm
      · have hc0 : cvs = [] := List.eq_nil_of_length_eq_zero (by rw [hc, hl]; omega)
        subst hc0
        refine ⟨[], ?_, by rw [hl]; simp, fun i a x h1 h2 => by simp at h2⟩
        cases p with
        | none => exact Src.ofNil X.w (elemP_u he) cap
        | some ad => exact Src.ofSlice X.w (elemP_u he) ad 0 cap [] (by simp) (fun j u hu => by simp at hu) (fun u hu => by simp at hu)
      · obtain ⟨b, off, rfl, hq⟩ := hp hm
        exact ⟨cvs, Src.ofSlice X.w (elemP_u he) ⟨b, off, none⟩ m' cap cvs (by rw [hc, hl]) (fun j u hu => by rw [add_at]; exact (hq j u hu).1) (all_one hall hc hrr), hc.symm, hrr⟩
    · cases h
  | own id m' =>
    simp only [srcA] at h
    split at h
    · next T' s' cells fz hid =>
      split at h
      · next hc =>
        obtain ⟨rfl, hlen, he, hall⟩ := hc
        injection h with h; injection h with e1 e2; subst e1 e2
        obtain ⟨e, he⟩ := Option.isSome_iff_exists.1 he
        have hv := live_own (by simp [liveA, hid, hlen]) hr
        subst hv
        obtain ⟨g1, g2, n', g3, g4⟩ := hX.arr id T' s' cells fz hid
        have hnn : n' = m' := Nat.eq_of_mul_eq_mul_right g2 (by rw [← g3, ← hlen])
        subst hnn
        rcases g4 with ⟨g4, g5⟩ | ⟨b, cvs, g4⟩
        · have hm0 : n' = 0 := by
            rw [g5] at hlen
            rcases Nat.mul_eq_zero.1 hlen.symm with h0 | h0 <;> omega
          subst hm0
          refine ⟨[], ?_, by rw [g5]; rfl, fun i a x h1 h2 => by simp at h2⟩
          rw [g4]
          exact Src.ofNil X.w (elemP_u he) 0
        · have hle : cells.length ≤ cvs.size := by rw [g4.sz, g3]; exact Nat.mul_le_mul_right _ g4.cap
          have hrr : ∀ (i : Nat) (a : AV) (x : Value), cells[i]? = some a → (cvs.toList.take cells.length)[i]? = some x → Rep X a x := fun i a x h1 h2 => by
            rw [List.getElem?_take] at h2
            split at h2
            · exact g4.rep i a x h1 (by simpa using h2)
            · cases h2
          have hcl : (cvs.toList.take cells.length).length = cells.length := by simp; omega
          refine ⟨cvs.toList.take cells.length, ?_, hcl.symm, hrr⟩
          rw [show sliceVal (X.m id) n' = .slice (some ⟨b, 0, none⟩) n' (X.m id).2 by unfold sliceVal; rw [g4.at_]; rfl]
          refine Src.ofSlice X.w (elemP_u he) ⟨b, 0, none⟩ n' _ _ (by rw [hcl, hlen]) (fun j u hu => ?_) (all_one hall hcl hrr)
          rw [List.getElem?_take] at hu
          split at hu
          · rw [add_at, Nat.zero_add]
            have := cellAt_blk (off := j) g4.blk
            unfold cellAt at this
            rw [this]; simpa using hu
          · cases hu
      · cases h
    · cases h
  | v y =>
    cases y with
    | string b =>
      simp only [srcA] at h
      split at h
      · next hc =>
        obtain ⟨rfl, hs⟩ := hc
        injection h with h; injection h with e1 e2; subst e1 e2
        have hu : P.underlying tx = some .string := by
          unfold isStrP at hs
          split at hs
          · assumption
          · cases hs
        cases hr
        refine ⟨byteCells b, Src.ofString X.w hu b, by simp [byteCells], fun i a x h1 h2 => ?_⟩
        unfold byteCells at h2
        rw [List.getElem?_map] at h1 h2
        cases hb : b.data.toList[i]? with
        | none => rw [hb] at h1; cases h1
        | some c => rw [hb] at h1 h2; injection h1 with h1; injection h2 with h2; subst h1 h2; exact .v _
      · cases h
    | slice p n c =>
      cases p with
      | some ad => cases h
      | none =>
        cases n with
        | succ n => cases h
        | zero =>
          cases c with
          | succ c => cases h
          | zero =>
            simp only [srcA] at h
            split at h
            · next he =>
              injection h with h; injection h with e1 e2; subst e1 e2
              obtain ⟨e, he⟩ := Option.isSome_iff_exists.1 he
              cases hr
              exact ⟨[], Src.ofNil X.w (elemP_u he) 0, rfl, fun i a x h1 h2 => by simp at h2⟩
            · cases h
    | _ => cases h
  | _ => cases h

/-- A slice that is none, as an array that is owned. -/
def Cx.nilp (X : Cx) (T : TypeId) (s : Nat) : Cx := ⟨X.w, fun i => if i = X.h.length then (none, 0) else X.m i, X.h ++ [some (.arr T s [] 0)], X.bad, X.ds⟩
theorem nilp_m (X : Cx) (T : TypeId) (s : Nat) {i : Nat} (h : i < X.h.length) : (X.nilp T s).m i = X.m i := if_neg (by omega)
theorem nilp_new (X : Cx) (T : TypeId) (s : Nat) : (X.nilp T s).m X.h.length = (none, 0) := if_pos rfl
theorem nil_own {X : Cx} (hX : Ok X) (T : TypeId) (s : Nat) (hs : 0 < s) : ∃ Y, Y.w = X.w ∧ Step X Y ∧ Ok Y ∧ Y.h = X.h ++ [some (.arr T s [] 0)] ∧ Rep Y (.own X.h.length 0) (.slice none 0 0) := by
  have hm : ∀ i, i < X.h.length → (X.nilp T s).m i = X.m i := fun i hi => nilp_m X T s hi
  have hh : ∀ i, i < X.h.length → (X.h ++ [some (Ob.arr T s [] 0)])[i]? = X.h[i]? := fun i hi => List.getElem?_append_left hi
  have hnew : (X.h ++ [some (Ob.arr T s [] 0)])[X.h.length]? = some (some (.arr T s [] 0)) := by simp
  have hcase : ∀ i o, (X.h ++ [some (Ob.arr T s [] 0)])[i]? = some (some o) → (i = X.h.length ∧ o = .arr T s [] 0) ∨ (i < X.h.length ∧ X.h[i]? = some (some o)) := by
    intro i o ho
    have hl := (List.getElem?_eq_some_iff.1 ho).1
    simp only [List.length_append, List.length_singleton] at hl
    by_cases e : i = X.h.length
    · subst e
      rw [hnew] at ho
      injection ho with ho; injection ho with ho
      exact .inl ⟨rfl, ho.symm⟩
    · exact .inr ⟨by omega, by rw [← hh i (by omega)]; exact ho⟩
  have S : Step X (X.nilp T s) := by
    refine ⟨rfl, rfl, rfl, Nat.le_refl _, fun _ _ _ => rfl, fun _ _ _ h k => ⟨h, k⟩, by simp [Cx.nilp], fun i U s' c f hi ho => ?_, fun i c hi ho => ?_, fun b hb => ?_, fun _ _ h => .inl h, fun i c hi ho => ?_, rfl⟩
    · rcases hcase i _ ho with ⟨e, _⟩ | ⟨_, h1⟩
      · omega
      · exact ⟨c, f, h1, Nat.le_refl _, fun _ => hm i hi⟩
    · rcases hcase i _ ho with ⟨e, _⟩ | ⟨_, h1⟩
      · omega
      · exact ⟨c, h1, by rw [hm i hi]⟩
    · obtain ⟨i, ⟨o, ho⟩, he⟩ := hb
      rcases hcase i o ho with ⟨e, _⟩ | ⟨hi, h1⟩
      · subst e; rw [nilp_new] at he; cases he
      · rw [hm i hi] at he
        exact .inr ⟨i, ⟨o, h1⟩, he⟩
    · rcases hcase i _ ho with ⟨e, _⟩ | ⟨_, h1⟩
      · omega
      · exact ⟨c, h1, by rw [hm i hi]⟩
  refine ⟨X.nilp T s, rfl, S, ⟨fun id cells ho => ?_, fun id U s' cells fz ho => ?_, fun i j b hi hj ei ej => ?_, hX.badlt, fun id es ho => ?_⟩, rfl, .own (by simp [Cx.nilp]) fun U s' cells fz ho => ?_⟩
  · rcases hcase id _ ho with ⟨_, e⟩ | ⟨hi, h1⟩
    · cases e
    · obtain ⟨b, cvs, T', q1, q2, q3, q4, q5⟩ := hX.blk id cells h1
      exact ⟨b, cvs, T', by rw [hm id hi]; exact q1, q2, q3, q4, fun i a x r1 r2 => (q5 i a x r1 r2).mono S⟩
  · rcases hcase id _ ho with ⟨e, e2⟩ | ⟨hi, h1⟩
    · injection e2 with e1 e2 e3 e4; subst e1 e2 e3 e4
      exact ⟨Nat.le_refl _, hs, 0, by simp, .inl ⟨by rw [e]; exact nilp_new X _ _, rfl⟩⟩
    · obtain ⟨g1, g2, n, g3, g4⟩ := hX.arr id U s' cells fz h1
      refine ⟨g1, g2, n, g3, ?_⟩
      rcases g4 with ⟨g4, g5⟩ | ⟨b, cvs, g4⟩
      · exact .inl ⟨by rw [hm id hi]; exact g4, g5⟩
      · exact .inr ⟨b, cvs, ⟨by rw [hm id hi]; exact g4.at_, g4.blk, by rw [hm id hi]; exact g4.cap, by rw [hm id hi]; exact g4.capm, by rw [hm id hi]; exact g4.sz, g4.bad, fun i a x r1 r2 => (g4.rep i a x r1 r2).mono S, g4.good⟩⟩
  · obtain ⟨oi, ho⟩ := hi
    obtain ⟨oj, hp⟩ := hj
    rcases hcase i oi ho with ⟨e, _⟩ | ⟨hi, h1⟩
    · subst e; rw [nilp_new] at ei; cases ei
    · rcases hcase j oj hp with ⟨e, _⟩ | ⟨hj, h2⟩
      · subst e; rw [nilp_new] at ej; cases ej
      · rw [hm i hi] at ei; rw [hm j hj] at ej
        exact hX.inj i j b ⟨_, h1⟩ ⟨_, h2⟩ ei ej
  · rcases hcase id _ ho with ⟨_, e⟩ | ⟨hi, h1⟩
    · cases e
    · obtain ⟨b, ents, clock, q1, q2, q3⟩ := hX.map id es h1
      exact ⟨b, ents, clock, by rw [hm id hi]; exact q1, q2, q3.mono S⟩
  · rcases hcase _ _ ho with ⟨_, e⟩ | ⟨hi, _⟩
    · injection e with e1 e2 e3 e4; subst e1 e2 e3 e4
      exact ⟨by simp, fun _ => by rw [nilp_new]; rfl⟩
    · omega
end Go.Proofs.YtljfgdlgmdcmfaaGreat.Wv
