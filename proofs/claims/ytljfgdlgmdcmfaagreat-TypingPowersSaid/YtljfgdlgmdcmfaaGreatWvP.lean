/- The machine of abstract values: the law of a region whose order is drawn. -/
import Derived.Test.YtljfgdlgmdcmfaaGreatWvO
namespace Go.Proofs.YtljfgdlgmdcmfaaGreat.Wv
open Go.RowKit
set_option linter.unusedVariables false
set_option autoImplicit false

theorem getE_put_ne {e : Ev} {d : Option Tmp} {v : AV} {t : Nat} (h : d ≠ some t) : getE (putE e d v) t = getE e t := by
  cases d with
  | none => rfl
  | some k =>
    show (if k = t then v else getE e t) = _
    rw [if_neg (fun e => h (by rw [e]))]
theorem getE_put {e : Ev} {v : AV} {t : Nat} : getE (putE e (some t) v) t = v := by
  show (if t = t then v else getE e t) = _
  rw [if_pos rfl]
theorem envV_ne : ∀ (l : List Oper) (vs : List AV) (e : Ev) (t : Nat), (∀ o, o ∈ l → o.dst ≠ some t) → getE (envV e l vs) t = getE e t
  | [], vs, e, t, _ => by cases vs <;> rfl
  | o :: r, [], e, t, _ => rfl
  | o :: r, v :: vs, e, t, h => by
    show getE (envV (putE e o.dst v) r vs) t = _
    rw [envV_ne r vs _ t (fun o' ho => h o' (List.mem_cons_of_mem _ ho)), getE_put_ne (h o (List.mem_cons_self ..))]
theorem envV_app : ∀ (l1 : List Oper) (v1 : List AV) (e : Ev) (l2 : List Oper) (v2 : List AV), v1.length = l1.length → envV e (l1 ++ l2) (v1 ++ v2) = envV (envV e l1 v1) l2 v2
  | [], [], e, l2, v2, _ => rfl
  | [], v :: vs, _, _, _, h => by simp at h
  | o :: r, [], _, _, _, h => by simp at h
  | o :: r, v :: vs, e, l2, v2, h => envV_app r vs _ l2 v2 (by simpa using h)

structure Dat (P : Program) (p₀ : AV → Hp → Prop) (N k : Nat) (ops : Array Oper) (X0 : Cx) (e0 : Ev) (vals : List AV) : Prop where
  ok : DrawOk N k ops
  hX : Ok X0
  hF : FrzOk X0
  len : vals.length = k
  facts : ∀ (i : Nat) (o : Oper) (v : AV), i < k → ops[i]? = some o → vals[i]? = some v → HFact P p₀ ops.toList X0.h o (envV e0 ((ops.toList.take k).take i) (vals.take i)) v

section
variable {P : Program} {p₀ : AV → Hp → Prop} {N k : Nat} {ops : Array Oper} {X0 : Cx} {e0 : Ev} {vals : List AV}

def eHd (ops : Array Oper) (k : Nat) (e0 : Ev) (vals : List AV) : Ev := envV e0 (ops.toList.take k) vals

theorem Dat.envAt (D : Dat P p₀ N k ops X0 e0 vals) {i : Nat} (hi : i ≤ k) {t : Nat} (h : ∀ (j : Nat) (p : Oper), ops[j]? = some p → i ≤ j → j < k → p.dst ≠ some t) : getE (envV e0 ((ops.toList.take k).take i) (vals.take i)) t = getE (eHd ops k e0 vals) t := by
  have hk := D.ok.le
  have h1 : eHd ops k e0 vals = envV (envV e0 ((ops.toList.take k).take i) (vals.take i)) ((ops.toList.take k).drop i) (vals.drop i) := by
    rw [← envV_app _ _ _ _ _ (by simp [D.len]; omega), List.take_append_drop, List.take_append_drop]; rfl
  rw [h1]
  refine (envV_ne _ _ _ _ fun o ho => ?_).symm
  obtain ⟨j, hj, e⟩ := List.mem_iff_getElem.1 ho
  have hj' : i + j < k := by simp at hj; omega
  refine h (i + j) o ?_ (by omega) hj'
  have : ((ops.toList.take k).drop i)[j]? = some o := by rw [List.getElem?_eq_getElem hj, e]
  rw [List.getElem?_drop, List.getElem?_take, if_pos hj'] at this
  simpa using this
theorem Dat.val (D : Dat P p₀ N k ops X0 e0 vals) {i : Nat} (hi : i < k) {o : Oper} (ho : ops[i]? = some o) {d : Nat} (hd : o.dst = some d) {v : AV} (hv : vals[i]? = some v) : getE (eHd ops k e0 vals) d = v := by
  rw [← D.envAt (i := i + 1) (by omega) (fun j p hp h1 h2 he => D.ok.diff j i p o hp ho (by omega) (.inl h2) d hd he)]
  have h1 : (ops.toList.take k).take (i + 1) = (ops.toList.take k).take i ++ [o] := by
    rw [List.take_add_one]
    congr 1
    rw [List.getElem?_take, if_pos hi]
    simp [ho]
  have h2 : vals.take (i + 1) = vals.take i ++ [v] := by rw [List.take_add_one, hv]; rfl
  rw [h1, h2, envV_app _ _ _ _ _ (by have := D.ok.le; simp [D.len]; omega)]
  show getE (putE _ o.dst v) d = v
  rw [hd, getE_put]

/-- A place whose operation has yet to run. -/
def Pend (ops : Array Oper) (k : Nat) (L : Nat → Bool) (d : Nat) : Prop := ∃ (i : Nat) (o : Oper), i < k ∧ L i = false ∧ ops[i]? = some o ∧ o.dst = some d
def AllocAt (ops : Array Oper) (k : Nat) (d : Nat) : Prop := ∃ (i : Nat) (o : Oper), i < k ∧ ops[i]? = some o ∧ isAlloc o = true ∧ o.dst = some d

/-- A block that was made for a variable of this region. -/
structure Made (X0 X : Cx) (z : Value) (b : Nat) : Prop where
  new : X0.w.heap.size ≤ b
  cells : ∃ T, X.w.heap[b]? = some (.cells z.cells T (0, 0))
  bad : ∀ o, X.bad b o

def zOf (P : Program) (o : Oper) : Option Value := match o.op with
  | .alloc T => zeroP P T
  | _ => none

structure InvA (P : Program) (N k : Nat) (ops : Array Oper) (X0 : Cx) (e0 : Ev) (vals : List AV) (L : Nat → Bool) (a : Act) (X : Cx) (bs : Nat → Nat) : Prop where
  step : Step X0 X
  ok : Ok X
  frz : FrzOk X
  h : X.h = X0.h
  m : ∀ i, X.live i → (X.m i).1 = (X0.m i).1
  notl : ∀ j, k ≤ j → L j = false
  defers : a.defers = X.ds
  size : a.tmps.size = N
  e1 : EnvOk X N (delE ops.toList e0) a
  rep : ∀ d, Pend ops k L d ∨ AllocAt ops k d ∨ Rep X (getE (eHd ops k e0 vals) d) (a.tmps.getD d undef)
  al : ∀ (i : Nat) (o : Oper) (d : Nat) (z : Value), i < k → L i = true → ops[i]? = some o → isAlloc o = true → o.dst = some d → zOf P o = some z → a.tmps.getD d undef = .pointer (some ⟨bs i, 0, Option.none⟩) ∧ Made X0 X z (bs i)
  apart : ∀ (i j : Nat) (o p : Oper), i < k → j < k → i ≠ j → L i = true → L j = true → ops[i]? = some o → ops[j]? = some p → isAlloc o = true → isAlloc p = true → bs i ≠ bs j

structure InvB (P : Program) (N k : Nat) (ops : Array Oper) (X0 : Cx) (e0 : Ev) (vals : List AV) (p₀ : AV → Hp → Prop) (K : Ev → Hp → Prop) (L : Nat → Bool) (a : Act) (X : Cx) (e : Ev) (r : Nat) : Prop where
  step : Step X0 X
  ok : Ok X
  le : k + r ≤ ops.size
  tl : ∀ j, k ≤ j → (L j = true ↔ j < k + r)
  pure : ∀ (j : Nat) (o : Oper), j < k → ops[j]? = some o → L j = false → isPure o = true
  defers : a.defers = X.ds
  size : a.tmps.size = N
  e1 : EnvOk X N (delE ops.toList e0) a
  rep : ∀ d, Pend ops k L d ∨ Rep X (getE e d) (a.tmps.getD d undef)
  keep : ∀ (i : Nat) (o : Oper), i < k → ops[i]? = some o → L i = false → ∀ d, (o.dst = some d ∨ rdT o d = true) → getE e d = getE (eHd ops k e0 vals) d
  todo : wOps P p₀ ops.toList (ops.toList.drop (k + r)) e X.h K

theorem act_put_ne {a : Act} {dst : Option Tmp} {v : Value} {d : Nat} (h : dst ≠ some d) : (a.put dst v).tmps.getD d undef = a.tmps.getD d undef := by
  cases dst with
  | none => rfl
  | some t =>
    have : t ≠ d := fun e => h (by rw [e])
    simp [Act.put, Array.getD_eq_getD_getElem?, Array.getElem?_setIfInBounds_ne this]
theorem act_put_eq {a : Act} {v : Value} {d : Nat} (h : d < a.tmps.size) : (a.put (some d) v).tmps.getD d undef = v := by
  simp [Act.put, Array.getD, h]
theorem act_put_size (a : Act) (dst : Option Tmp) (v : Value) : (a.put dst v).tmps.size = a.tmps.size := by cases dst <;> simp [Act.put]
theorem act_put_defers (a : Act) (dst : Option Tmp) (v : Value) : (a.put dst v).defers = a.defers := by cases dst <;> rfl

/-- A value is known where its operation has run. -/
theorem yld {X : Cx} {a : Act} {g : Nat} {q : Oper} {d : Nat} {b : Bool} (hq : ops[g]? = some q) (hd : q.dst = some d) (hlt : d < a.tmps.size) (hr : Rep X (.v (.bool b)) (a.tmps.getD d undef)) : yielded ops a.tmps g = some b := by
  have hv : a.tmps.getD d undef = .bool b := by
    generalize a.tmps.getD d undef = u at hr
    cases hr; rfl
  have h2 : a.tmps[d]? = some (.bool b) := by
    rw [Array.getElem?_eq_getElem hlt, ← hv]
    simp [Array.getD, hlt]
  unfold yielded
  simp [hq, hd, h2]

theorem opnd_rep {X : Cx} {a : Act} {e : Ev} {o : Oper} (h : ∀ t, rdT o t = true → Rep X (getE e t) (a.tmps.getD t undef)) : ∀ x, x ∈ o.op.operands → Rep X (opnd e x) (a.eval x) := by
  intro x hx
  cases x with
  | tmp t => exact h t (rdT_mem hx)
  | const x => exact .v x
  | global g => exact .v _
  | func f => exact .fn (v1 := []) (v2 := []) rfl rfl (fun i a x h1 => by simp at h1) (fun i a x h1 => by simp at h1)

theorem Quiet.ctx {X : Cx} {w' : World} {v : AV} {u : Value} (hX : Ok X) (hq : Quiet X w' v u) : ∃ Y, Y.w = w' ∧ Step X Y ∧ Ok Y ∧ Y.h = X.h ∧ Rep Y v u := by
  obtain ⟨hbel, hr⟩ := hq
  obtain ⟨S, hZ⟩ := below_ctx hX hbel
  exact ⟨_, rfl, S, hZ, rfl, hr⟩

/-- An operation of the head that leaves what is owned as it is. -/
theorem InvA.reads (D : Dat P p₀ N k ops X0 e0 vals) {L : Nat → Bool} {a : Act} {X : Cx} {bs : Nat → Nat} (I : InvA P N k ops X0 e0 vals L a X bs) {i : Nat} {o : Oper} {v : AV} {u : Value} {Y : Cx} (hi : i < k) (ho : ops[i]? = some o) (hL : L i = false) (hv : vals[i]? = some v) (hal : isAlloc o = false)
    (S : Step X Y) (hZ : Ok Y) (hYh : Y.h = X.h) (hr : Rep Y v u) : InvA P N k ops X0 e0 vals (updL L i) (a.put o.dst u) Y bs := by
  have hlive : ∀ i, Y.live i → X.live i := fun i ⟨o', h⟩ => ⟨o', by rw [← hYh]; exact h⟩
  have hm1 : ∀ i, Y.live i → (Y.m i).1 = (X.m i).1 := by
    intro i ⟨o', h⟩
    have hi' : i < X.h.length := by rw [← hYh]; exact (List.getElem?_eq_some_iff.1 h).1
    have hx := h
    rw [hYh] at hx
    cases o' with
    | blk c => exact (S.oblk i c hi' h).elim fun _ q => q.2
    | map es => exact (S.omap i es hi' h).elim fun _ q => q.2
    | arr T s c fz =>
      obtain ⟨c', f', k1, _, k3⟩ := S.oarr i T s c fz hi' h
      rw [hx] at k1; injection k1 with k1; injection k1 with k1; injection k1 with e1 e2 e3 e4; subst e3
      rw [k3 rfl]
  have hnm : ∀ b, X0.w.heap.size ≤ b → ¬ X.mine b := by
    intro b hb ⟨i, ⟨o', h⟩, he⟩
    rw [I.m i ⟨o', h⟩] at he
    rw [I.h] at h
    exact absurd (D.hX.lt ⟨i, ⟨o', h⟩, he⟩) (by omega)
  have hEd : EnvOk Y N (delE ops.toList e0) (a.put o.dst u) := (I.e1.mono S).any (delE_out (List.mem_of_getElem? (i := i) (by rw [Array.getElem?_toList]; exact ho)) e0)
  obtain ⟨d, hd⟩ := D.ok.hdst i o ho hi
  have hdN := D.ok.dst i o ho d hd
  refine ⟨I.step.trans D.hX S, hZ, hZ.frzOk, hYh.trans I.h, fun i hi => ?_, fun j hj => ?_, by rw [act_put_defers, S.dse]; exact I.defers, by rw [act_put_size]; exact I.size, hEd, fun t => ?_, fun j p d' z hj hl hp hpa hpd hz => ?_, fun j l p q hj hl hne h1 h2 hp hq hpa hqa => ?_⟩
  · rw [hm1 i hi]; exact I.m i (hlive i hi)
  · simp only [updL, show j ≠ i by omega, if_false]; exact I.notl j hj
  · by_cases e : d = t
    · subst e
      right; right
      rw [hd, act_put_eq (by rw [I.size]; exact hdN), D.val hi ho hd hv]
      exact hr
    · rw [act_put_ne (by rw [hd]; exact fun h => e (Option.some.inj h))]
      rcases I.rep t with ⟨j, p, h1, h2, h3, h4⟩ | h | h
      · left
        refine ⟨j, p, h1, ?_, h3, h4⟩
        have : j ≠ i := fun q => by subst q; rw [ho] at h3; injection h3 with h3; subst h3; rw [hd] at h4; exact e (Option.some.inj h4)
        simp only [updL, this, if_false]; exact h2
      · exact .inr (.inl h)
      · exact .inr (.inr (h.mono S))
  · have hji : j ≠ i := fun q => by subst q; rw [ho] at hp; injection hp with hp; subst hp; rw [hal] at hpa; cases hpa
    simp only [updL, hji, if_false] at hl
    obtain ⟨h1, h2⟩ := I.al j p d' z hj hl hp hpa hpd hz
    refine ⟨?_, h2.new, ?_, fun q => (S.badk _ q (h2.bad q)).elim id fun h => absurd h (hnm _ h2.new)⟩
    · rw [act_put_ne]
      · exact h1
      · rw [hd]; intro q; injection q with q; subst q
        exact D.ok.diff i j o p ho hp (by omega) (.inl hi) d hpd hd
    · obtain ⟨T, hc⟩ := h2.cells
      refine ⟨T, ?_⟩
      rw [S.block _ (Array.getElem?_eq_some_iff.1 hc).1 (hnm _ h2.new)]; exact hc
  · have q1 : j ≠ i := fun q' => by subst q'; rw [ho] at hp; injection hp with hp; subst hp; rw [hal] at hpa; cases hpa
    have q2 : l ≠ i := fun q' => by subst q'; rw [ho] at hq; injection hq with hq; subst hq; rw [hal] at hqa; cases hqa
    simp only [updL, q1, q2, if_false] at h1 h2
    exact I.apart j l p q hj hl hne h1 h2 hp hq hpa hqa

theorem InvA.quiet (D : Dat P p₀ N k ops X0 e0 vals) {L : Nat → Bool} {a : Act} {X : Cx} {bs : Nat → Nat} (I : InvA P N k ops X0 e0 vals L a X bs) {i : Nat} {o : Oper} {v : AV} {u : Value} {w' : World} (hi : i < k) (ho : ops[i]? = some o) (hL : L i = false) (hv : vals[i]? = some v) (hal : isAlloc o = false)
    (hq : Quiet X w' v u) : ∃ Y, Y.w = w' ∧ InvA P N k ops X0 e0 vals (updL L i) (a.put o.dst u) Y bs := by
  obtain ⟨Y, y1, y2, y3, y4, y5⟩ := hq.ctx I.ok
  exact ⟨Y, y1, I.reads D hi ho hL hv hal y2 y3 y4 y5⟩

/-- A variable is made. -/
theorem InvA.alloc (D : Dat P p₀ N k ops X0 e0 vals) {L : Nat → Bool} {a : Act} {X : Cx} {bs : Nat → Nat} (I : InvA P N k ops X0 e0 vals L a X bs) {i : Nat} {o : Oper} {T : TypeId} {z : Value} (hi : i < k) (ho : ops[i]? = some o) (hL : L i = false) (hop : o.op = .alloc T) (hal : isAlloc o = true) (hz : zeroP P T = some z) :
    ∃ Y bs', Y.w = X.w.alloc (.cells z.cells T) ∧ InvA P N k ops X0 e0 vals (updL L i) (a.put o.dst (.pointer (some ⟨X.w.heap.size, 0, none⟩))) Y bs' := by
  have hcell : ∀ b q x, cellAt X.w b q = some x → cellAt (X.w.alloc (.cells z.cells T)) b q = some x := fun b q x hx => by
    have hlt := cellAt_lt hx
    unfold cellAt at hx ⊢
    rw [World.cell?_alloc_lt (h := hlt)]; exact hx
  have hY : ∃ Y : Cx, Y.w = X.w.alloc (.cells z.cells T) ∧ Y.m = X.m ∧ Y.h = X.h ∧ (Y.bad = fun b o => X.bad b o ∨ b = X.w.heap.size) ∧ Y.ds = X.ds := ⟨⟨_, X.m, X.h, _, X.ds⟩, rfl, rfl, rfl, rfl, rfl⟩
  obtain ⟨Y, y1, y2, y3, y4, y5⟩ := hY
  have S : Step X Y := by
    refine ⟨by rw [y1]; rfl, by rw [y1]; rfl, by rw [y1]; rfl, by rw [y1]; simp, fun b hb _ => by rw [y1]; exact Below.heap_alloc _ _ _ hb, fun b q x hx hb => ⟨by rw [y1]; exact hcell b q x hx, ?_⟩, by rw [y3]; exact Nat.le_refl _, fun i T' s c f' _ hi => ⟨c, f', by rw [← y3]; exact hi, Nat.le_refl _, fun _ => by rw [y2]⟩, fun i c _ hi => ⟨c, by rw [← y3]; exact hi, by rw [y2]⟩, fun b hb => ?_, fun b q hb => ?_, fun i c _ hi => ⟨c, by rw [← y3]; exact hi, by rw [y2]⟩, y5⟩
    · rw [y4]; rintro (h | h)
      · exact hb h
      · exact absurd (cellAt_lt hx) (by omega)
    · obtain ⟨j, ⟨o', h1⟩, h2⟩ := hb
      exact .inr ⟨j, ⟨o', by rw [← y3]; exact h1⟩, by rw [← y2]; exact h2⟩
    · rw [y4]; exact .inl (.inl hb)
  have hYok : Ok Y := by
    refine ⟨fun id cells hi => ?_, fun id T' s cells fz hi => ?_, fun i j b hi hj => ?_, fun b q hb => ?_, fun id es hi => ?_⟩
    · rw [y3] at hi
      obtain ⟨b, cvs, T', h1, h2, h3, h4, h5⟩ := I.ok.blk id cells hi
      exact ⟨b, cvs, T', by rw [y2]; exact h1, by rw [y1, Below.heap_alloc _ _ _ (I.ok.lt ⟨id, ⟨_, hi⟩, h1⟩)]; exact h2, h3, fun o => by rw [y4]; exact .inl (h4 o), fun j a x q1 q2 => (h5 j a x q1 q2).mono S⟩
    · rw [y3] at hi
      obtain ⟨g1, g2, n, g3, g4⟩ := I.ok.arr id T' s cells fz hi
      refine ⟨g1, g2, n, g3, ?_⟩
      rcases g4 with g4 | ⟨b, cvs, g4⟩
      · exact .inl (by rw [y2]; exact g4)
      · exact .inr ⟨b, cvs, ⟨by rw [y2]; exact g4.at_, by rw [y1, Below.heap_alloc _ _ _ (I.ok.lt ⟨id, ⟨_, hi⟩, g4.at_⟩)]; exact g4.blk, by rw [y2]; exact g4.cap, by rw [y2]; exact g4.capm, by rw [y2]; exact g4.sz, fun o ho => by rw [y4]; exact .inl (g4.bad o ho), fun j a x q1 q2 => (g4.rep j a x q1 q2).mono S, fun o ho hk => by
          rw [y4] at hk
          exact hk.elim (g4.good o ho) (fun e => absurd (I.ok.lt ⟨id, ⟨_, hi⟩, g4.at_⟩) (by omega))⟩⟩
    · have live : ∀ i, Y.live i → X.live i := fun i ⟨o', h⟩ => ⟨o', by rw [← y3]; exact h⟩
      rw [y2]; exact I.ok.inj i j b (live i hi) (live j hj)
    · rw [y4] at hb; rw [y1]
      rcases hb with hb | hb
      · exact Nat.lt_of_lt_of_le (I.ok.badlt b q hb) (by simp)
      · subst hb; simp
    · rw [y3] at hi
      obtain ⟨b, ents, clock, h1, h2, h3⟩ := I.ok.map id es hi
      exact ⟨b, ents, clock, by rw [y2]; exact h1, by rw [y1, Below.heap_alloc _ _ _ (I.ok.lt ⟨id, ⟨_, hi⟩, h1⟩)]; exact h2, h3.mono S⟩
  have hEd : EnvOk Y N (delE ops.toList e0) (a.put o.dst (.pointer (some ⟨X.w.heap.size, 0, none⟩))) := (I.e1.mono S).any (delE_out (List.mem_of_getElem? (i := i) (by rw [Array.getElem?_toList]; exact ho)) e0)
  have hFY : FrzOk Y := fun id U s cells b h1 h2 o' ho' hbad => by
    rw [y3] at h1; rw [y2] at h2; rw [y4] at hbad
    rcases hbad with hbad | hbad
    · exact I.frz id U s cells b h1 h2 o' ho' hbad
    · exact absurd (I.ok.lt ⟨id, ⟨_, h1⟩, h2⟩) (by omega)
  obtain ⟨d, hd⟩ := D.ok.hdst i o ho hi
  have hdN := D.ok.dst i o ho d hd
  refine ⟨Y, fun j => if j = i then X.w.heap.size else bs j, y1, ⟨I.step.trans D.hX S, hYok, hFY, by rw [y3]; exact I.h, fun i ⟨o', hl⟩ => by rw [y2]; exact I.m i ⟨o', by rw [← y3]; exact hl⟩, fun j hj => ?_, by rw [act_put_defers, y5]; exact I.defers, by rw [act_put_size]; exact I.size, hEd, fun t => ?_, fun j p d' z' hj hl hp hpa hpd hz' => ?_, fun j l p q hj hl hne h1 h2 hp hq hpa hqa => ?_⟩⟩
  · simp only [updL, show j ≠ i by omega, if_false]; exact I.notl j hj
  · by_cases e : d = t
    · subst e; exact .inr (.inl ⟨i, o, hi, ho, hal, hd⟩)
    · rw [act_put_ne (by rw [hd]; exact fun h => e (Option.some.inj h))]
      rcases I.rep t with ⟨j, p, h1, h2, h3, h4⟩ | h | h
      · left
        refine ⟨j, p, h1, ?_, h3, h4⟩
        have : j ≠ i := fun q => by subst q; rw [ho] at h3; injection h3 with h3; subst h3; rw [hd] at h4; exact e (Option.some.inj h4)
        simp only [updL, this, if_false]; exact h2
      · exact .inr (.inl h)
      · exact .inr (.inr (h.mono S))
  · by_cases e : j = i
    · subst e
      rw [ho] at hp; injection hp with hp; subst hp
      rw [hd] at hpd; injection hpd with hpd; subst hpd
      have hzz : z' = z := by unfold zOf at hz'; rw [hop] at hz'; simp only at hz'; rw [hz] at hz'; injection hz' with h; exact h.symm
      subst hzz
      rw [hd, act_put_eq (by rw [I.size]; exact hdN)]
      simp only [if_true]
      exact ⟨trivial, ⟨I.step.size, ⟨T, by rw [y1]; exact heap_alloc_new _ _⟩, fun q => by rw [y4]; exact .inr rfl⟩⟩
    · simp only [updL, e, if_false] at hl ⊢
      obtain ⟨h1, h2⟩ := I.al j p d' z' hj hl hp hpa hpd hz'
      refine ⟨?_, h2.new, ?_, fun q => by rw [y4]; exact .inl (h2.bad q)⟩
      · rw [act_put_ne]
        · exact h1
        · rw [hd]; intro q; injection q with q; subst q
          exact D.ok.diff i j o p ho hp e (.inl hi) d hpd hd
      · obtain ⟨U, hc⟩ := h2.cells
        exact ⟨U, by rw [y1, Below.heap_alloc _ _ _ (Array.getElem?_eq_some_iff.1 hc).1]; exact hc⟩
  · have old : ∀ j p, j < k → j ≠ i → updL L i j = true → ops[j]? = some p → isAlloc p = true → bs j < X.w.heap.size := by
      intro j p hj e hl hp hpa
      simp only [updL, e, if_false] at hl
      obtain ⟨d', hd'⟩ := D.ok.hdst j p hp hj
      have hzz : ∃ z', zOf P p = some z' := by
        have hf := D.facts j p _ hj hp (List.getElem?_eq_getElem (by rw [D.len]; exact hj))
        unfold HFact at hf
        have hg : p.guard = none := by
          unfold isAlloc at hpa
          simp only [Bool.and_eq_true, Option.isNone_iff_eq_none] at hpa
          exact hpa.1
        rw [hg] at hf
        simp only [hpa, if_true] at hf
        obtain ⟨⟨T', z', d2, q1, q2, q3⟩, _⟩ := hf
        exact ⟨z', by unfold zOf; rw [q1]; exact q3⟩
      obtain ⟨z', hz'⟩ := hzz
      obtain ⟨_, h2⟩ := I.al j p d' z' hj hl hp hpa hd' hz'
      obtain ⟨U, hc⟩ := h2.cells
      exact (Array.getElem?_eq_some_iff.1 hc).1
    by_cases e1 : j = i
    · by_cases e2 : l = i
      · exact absurd (e1.trans e2.symm) hne
      · simp only [e1, e2, if_true, if_false]
        have := old l q hl e2 h2 hq hqa
        omega
    · by_cases e2 : l = i
      · simp only [e1, e2, if_true, if_false]
        have := old j p hj e1 h1 hp hpa
        omega
      · simp only [e1, e2, if_false]
        simp only [updL, e1, e2, if_false] at h1 h2
        exact I.apart j l p q hj hl hne h1 h2 hp hq hpa hqa
end
end Go.Proofs.YtljfgdlgmdcmfaaGreat.Wv
