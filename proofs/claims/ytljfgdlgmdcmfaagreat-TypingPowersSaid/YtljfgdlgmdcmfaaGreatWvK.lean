/- The machine of abstract values: operations, regions, code. -/
import Derived.Test.YtljfgdlgmdcmfaaGreatWvJ
import Derived.Lib.ConvBytes
namespace Go.Proofs.YtljfgdlgmdcmfaaGreat.Wv
open Go.RowKit
set_option linter.unusedVariables false
set_option autoImplicit false

def appendA (P : Program) (h : Hp) (t tx : TypeId) (s x : AV) : Option (AV × Hp) :=
  (elemP P t).bind fun T => (szP P T).bind fun sz => (bytP P T).bind fun by_ => (zeroP P T).bind fun z => (srcA P h tx sz x).bind fun mn =>
    if z.cells.size = sz ∧ 0 < sz then
      match s with
      | .own id n => match h[id]? with
        | some (some (.arr T' s' cells fz)) => if T' = T ∧ s' = sz ∧ cells.length = n * sz ∧ n + mn.1 ≤ maxLen ∧ (n + mn.1) * by_ ≤ 140737488355328 then some (.own id (n + mn.1), h.set id (some (.arr T sz (cells ++ mn.2) fz))) else none
        | _ => none
      | .v (.slice none 0 0) => if mn.1 ≤ maxLen ∧ mn.1 * by_ ≤ 140737488355328 then some (.own h.length mn.1, h ++ [some (.arr T sz mn.2 0)]) else none
      | _ => none
    else none

theorem appendA_ok {P : Program} {X : Cx} {t tx ty : TypeId} {s x r : AV} {h' : Hp} {v u : Value} (hX : Ok X) (h : appendA P X.h t tx s x = some (r, h')) (hs : Rep X s v) (hx : Rep X x u) :
    ∃ v' Y, (Builtin.append_ #[t, tx] ty #[v, u]).run P X.w = .ok v' Y.w ∧ Step X Y ∧ Ok Y ∧ Rep Y r v' ∧ Y.h = h' := by
  unfold appendA at h
  cases h1 : elemP P t with
  | none => rw [h1] at h; cases h
  | some T =>
  rw [h1] at h
  simp only [Option.bind_some] at h
  cases h2 : szP P T with
  | none => rw [h2] at h; cases h
  | some sz =>
  rw [h2] at h
  simp only [Option.bind_some] at h
  cases h3 : bytP P T with
  | none => rw [h3] at h; cases h
  | some by_ =>
  rw [h3] at h
  simp only [Option.bind_some] at h
  cases h4 : zeroP P T with
  | none => rw [h4] at h; cases h
  | some z =>
  rw [h4] at h
  simp only [Option.bind_some] at h
  cases h5 : srcA P X.h tx sz x with
  | none => rw [h5] at h; cases h
  | some mn =>
  obtain ⟨m, newA⟩ := mn
  rw [h5] at h
  simp only [Option.bind_some] at h
  obtain ⟨i, hi, hsi⟩ := szP_i h2
  obtain ⟨i2, hi2, hz⟩ := zeroP_i h4
  have hii : i2 = i := by rw [hi] at hi2; injection hi2 with e; exact e.symm
  subst hii
  have hb : i2.bytes = by_ := by unfold bytP at h3; rw [hi] at h3; injection h3
  obtain ⟨news, q1, q2, q3⟩ := srcA_ok hX h5 hx
  split at h
  · next hzs =>
    split at h
    · next id n =>
      split at h
      · next T' s' cells fz hid =>
        split at h
        · next hc =>
          obtain ⟨rfl, rfl, hl, h63, hby⟩ := hc
          injection h with h; injection h with e1 e2; subst e1 e2
          obtain ⟨v', Y, y1, y2, y3, y4, y5⟩ := append_av (P := P) (ty := ty) hX hid hl (elemP_u h1) hi hz hsi hzs.1 q1 q2 q3 h63 (by rw [hb]; exact hby) hs
          exact ⟨v', Y, y1, y2, y3, y5, y4⟩
        · cases h
      · cases h
    · split at h
      · next hc =>
        injection h with h; injection h with e1 e2; subst e1 e2
        cases hs
        obtain ⟨Z, z1, z2, z3, z4, z5⟩ := nil_own hX T sz hzs.2
        have hidz : Z.h[X.h.length]? = some (some (.arr T sz [] 0)) := by rw [z4]; simp
        obtain ⟨v', Y, y1, y2, y3, y4, y5⟩ := append_av (P := P) (ty := ty) z3 hidz (n := 0) (by simp) (elemP_u h1) hi hz hsi hzs.1 (by rw [z1]; exact q1) q2 (fun i a x r1 r2 => (q3 i a x r1 r2).mono z2) (by rw [Nat.zero_add]; exact hc.1) (by rw [hb, Nat.zero_add]; exact hc.2) z5
        rw [Nat.zero_add] at y5
        rw [z1] at y1
        refine ⟨v', Y, y1, z2.trans hX y2, y3, y5, ?_⟩
        rw [y4, z4]
        simp
      · cases h
    · cases h
  · cases h

def mmA (isMax : Bool) : List AV → Option AV
  | [.v (.int k a), .v (.int _ b)] => some (.v (.int k (if isMax then (if b > a then b else a) else (if b < a then b else a))))
  | _ => none

def sliceT (P : Program) (T : TypeId) (x : AV) (lo hi : Option AV) : Option AV := match x with
  | .own _ _ => none
  | x => (sliceA P [] T x lo hi).map (·.1)

/-- Builtins that read. -/
def rCall (P : Program) (c : Call) (E : Operand → AV) (h : Hp) (K : AV → Prop) : Prop := match c.callee with
  | .builtin .len => c.args.size = 1 ∧ ∃ n, lenA P h (c.argTypes.getD 0 0) (E (c.args.getD 0 (.const undef))) = some n ∧ c.argTypes[0]? = some (c.argTypes.getD 0 0) ∧ K (.v (.int .i64 n))
  | .builtin .max => ∃ r, mmA true (c.args.toList.map E) = some r ∧ K r
  | .builtin .min => ∃ r, mmA false (c.args.toList.map E) = some r ∧ K r
  | _ => False

/-- Operations that read, or compute. -/
def rOp (P : Program) (o : Oper) (E : Operand → AV) (h : Hp) (K : AV → Prop) : Prop := match o.op with
  | .move x => K (E x)
  | .assign x => K (E x)
  | .pick c a b => ∃ t, E c = .v (.bool t) ∧ K (bif t then E a else E b)
  | .build T parts => ∃ l, buildA P h T (parts.toList.map fun p => (p.1, E p.2)) = some l ∧ K (.g l)
  | .load T a => szP P T ≠ some 0 ∧ ∃ l, loadA P h T (E a) = some l ∧ K l
  | .nilCheck x => nilPA h (E x) = some false ∧ K (E x)
  | .binOp op T x y _ => ∃ r, binA P h op T (E x) (E y) = some r ∧ K (.v r)
  | .unOp op _ x => ∃ r, unA op (E x) = some r ∧ K (.v r)
  | .convert s d x => ∃ r, convA P h s d (E x) = some r ∧ K (.v r)
  | .slice T x lo hi mx => mx.isNone = true ∧ ∃ r, sliceT P T (E x) (lo.map E) (hi.map E) = some r ∧ K r
  | .fieldAddr S x f => ∃ r, faddrA P h S (E x) f = some r ∧ K r
  | .field S x f => ∃ r, fieldA P S (E x) f = some r ∧ K r
  | .indexAddr T x i => ∃ z r, intA (E i) = some z ∧ idxA P h T (E x) z = some r ∧ K r
  | .index T x i => ∃ z r, intA (E i) = some z ∧ indexA P T (E x) z = some r ∧ K r
  | .extract x i => ∃ r, extrA (E x) i = some r ∧ K r
  | .makeFunc fn first cap => K (.fn fn (first.toList.map E) (cap.toList.map E))
  | .call c => rCall P c E h K
  | .makeInterface T x => ifcP P T = true ∧ K (.ifc T (E x))
  | .lookup T x k ok => ∃ r, lookupA P h T (E x) (E k) ok = some r ∧ K r
  | _ => False

def wCall (P : Program) (p : AV → Hp → Prop) (c : Call) (E : Operand → AV) (h : Hp) (K : AV → Hp → Prop) : Prop := match c.callee with
  | .builtin .append => c.args.size = 2 ∧ c.argTypes.size = 2 ∧ ∃ r h', appendA P h (c.argTypes.getD 0 0) (c.argTypes.getD 1 0) (E (c.args.getD 0 (.const undef))) (E (c.args.getD 1 (.const undef))) = some (r, h') ∧ K r h'
  | .value f => ∃ fid fst cap, E f = .fn (.func fid) fst cap ∧ HTP P fid (fst ++ c.args.toList.map E ++ cap) h K p
  | _ => rCall P c E h fun av => K av h

/-- The bytes of a string. -/
def bytA (b : ByteArray) : List AV := b.data.toList.map fun c => .v (.int .u8 c.toNat)
def cvX (P : Program) (h : Hp) (s d : TypeId) (b : ByteArray) : Option IntKind → Option AV
  | some .u8 => if (P.underlying s).isSome ∧ b.size ≤ 140737488351232 then some (.t b.size 1 (bytA b)) else none
  | _ => (convA P h s d (.v (.string b))).map .v
/-- What a conversion makes. -/
def cvA (P : Program) (h : Hp) (s d : TypeId) (x : AV) : Option AV := match x with
  | .v (.string b) => cvX P h s d b ((elemP P d).bind (intP P))
  | x => (convA P h s d x).map .v
def wOp (P : Program) (p : AV → Hp → Prop) (o : Oper) (E : Operand → AV) (h : Hp) (K : AV → Hp → Prop) : Prop := match o.op with
  | .alloc T => ∃ z, zeroP P T = some z ∧ K (.ptr h.length 0) (h ++ [some (.blk (vcells z))])
  | .box T x => ∃ l, cellsA h (E x) = some l ∧ K (.ptr h.length 0) (h ++ [some (.blk l)])
  | .buildSlice T len parts => ∃ te s L, litA P h T len (parts.toList.map fun p => (p.1, E p.2)) = some (te, s, L) ∧ K (.own h.length len) (h ++ [some (.arr te s L 0)])
  | .store T a x => ∃ h', storeA P h T (E a) (E x) = some h' ∧ K .none h'
  | .makeSlice T l c => ∃ zl zc te s L, intA (E l) = some zl ∧ intA (E c) = some zc ∧ makeA P T zl zc = some (te, s, L) ∧ K (.own h.length zl.toNat) (h ++ [some (.arr te s L 0)])
  | .slice T x lo hi mx => mx.isNone = true ∧ ∃ r h', sliceA P h T (E x) (lo.map E) (hi.map E) = some (r, h') ∧ K r h'
  | .convert s d x => ∃ r, cvA P h s d (E x) = some r ∧ K r h
  | .call c => wCall P p c E h K
  | .makeMap _ r => r.isNone = true ∧ K (.mp h.length) (h ++ [some (.map [])])
  | .mapUpdate T m k x => ∃ h', updateA P h T (E m) (E k) (E x) = some h' ∧ K .none h'
  | .insert T m k x => ∃ h', updateA P h T (E m) (E k) (E x) = some h' ∧ K .none h'
  | .panic x => ∃ T a, E x = .ifc T a ∧ p (.ifc T a) h
  | _ => rOp P o E h fun av => K av h

/-- What an operation leaves. -/
def Goes (P : Program) (X : Cx) (o : Oper) (a : Act) (p K : AV → Hp → Prop) : Prop :=
  (∃ v Y av, (execOp a.eval o).run P X.w = .ok (.value v) Y.w ∧ Step X Y ∧ Ok Y ∧ Rep Y av v ∧ K av Y.h) ∨
  (∃ Y, (execOp a.eval o).run P X.w = .ok .skip Y.w ∧ Step X Y ∧ Ok Y ∧ K .none Y.h) ∨
  (∃ (f : FuncId) (args : Array Value), (execOp a.eval o).run P X.w = .ok (.enter f args) X.w ∧
    Calls P f args X.w fun e w' => ∃ v Y av, Y.w = w' ∧ Step X Y ∧ Ok Y ∧ Rep Y av v ∧ ((e = .returned v ∧ K av Y.h) ∨ (e = .panicked [{ v, recovered := false }] ∧ p av Y.h))) ∨
  (∃ v av, (execOp a.eval o).run P X.w = .halt (.panic v) X.w ∧ Rep X av v ∧ p av X.h)

theorem goes_read {P : Program} {X : Cx} {o : Oper} {a : Act} {p K : AV → Hp → Prop} {s : Sem Value} {v : Value} {av : AV} (hX : Ok X) (he : (execOp a.eval o) = (do pure (.value (← s)) : Sem Next)) (hr : s.run P X.w = .ok v X.w) (h : Rep X av v) (hK : K av X.h) : Goes P X o a p K :=
  .inl ⟨v, X, av, by rw [he]; simp [hr], Step.refl X, hX, h, hK⟩
theorem goes_new {P : Program} {X : Cx} {o : Oper} {a : Act} {p K : AV → Hp → Prop} {s : Sem Value} {v : Value} {Y : Cx} {av : AV} (he : (execOp a.eval o) = (do pure (.value (← s)) : Sem Next)) (hr : s.run P X.w = .ok v Y.w) (S : Step X Y) (hY : Ok Y) (h : Rep Y av v) (hK : K av Y.h) : Goes P X o a p K :=
  .inl ⟨v, Y, av, by rw [he]; simp [hr], S, hY, h, hK⟩

theorem parts_rep {X : Cx} {E : Operand → AV} {a : Act} (parts : Array (Nat × Operand)) (hE : ∀ x, x ∈ (parts.toList.map (·.2)).toArray → Rep X (E x) (a.eval x)) : ∀ (i : Nat) (p : Nat × AV) (q : Nat × Value), (parts.toList.map fun p => (p.1, E p.2))[i]? = some p → (parts.map fun (i, x) => (i, a.eval x)).toList[i]? = some q → p.1 = q.1 ∧ Rep X p.2 q.2 := by
  intro i p q h1 h2
  rw [Array.toList_map, List.getElem?_map] at h2
  rw [List.getElem?_map] at h1
  cases hp : parts.toList[i]? with
  | none => rw [hp] at h1; cases h1
  | some y =>
    rw [hp] at h1 h2
    injection h1 with h1; injection h2 with h2; subst h1 h2
    exact ⟨rfl, hE _ (by simp only [List.mem_toArray, List.mem_map]; exact ⟨y, List.mem_of_getElem? hp, rfl⟩)⟩

theorem repO_map {X : Cx} {E : Operand → AV} {a : Act} (x : Option Operand) (hE : ∀ y, x = some y → Rep X (E y) (a.eval y)) : RepO X (x.map E) (x.map a.eval) := by
  cases x with
  | none => trivial
  | some x => exact hE x rfl
theorem args_rep {X : Cx} {E : Operand → AV} {a : Act} (args : Array Operand) (hE : ∀ x, x ∈ args → Rep X (E x) (a.eval x)) : RepL X (args.toList.map E) (args.toList.map a.eval) := by
  refine ⟨by simp, fun i av v h1 h2 => ?_⟩
  rw [List.getElem?_map] at h1 h2
  cases hp : args.toList[i]? with
  | none => rw [hp] at h1; cases h1
  | some y => rw [hp] at h1 h2; injection h1 with h1; injection h2 with h2; subst h1 h2; exact hE y (Array.mem_toList_iff.1 (List.mem_of_getElem? hp))
theorem repL_app {X : Cx} {a1 a2 : List AV} {v1 v2 : List Value} (h1 : RepL X a1 v1) (h2 : RepL X a2 v2) : RepL X (a1 ++ a2) (v1 ++ v2) := by
  refine ⟨by simp [h1.1, h2.1], fun i a v q1 q2 => ?_⟩
  by_cases e : i < a1.length
  · rw [List.getElem?_append_left e] at q1
    rw [List.getElem?_append_left (by rw [h1.1]; exact e)] at q2
    exact h1.2 i a v q1 q2
  · rw [List.getElem?_append_right (by omega)] at q1
    rw [List.getElem?_append_right (by rw [h1.1]; omega), h1.1] at q2
    exact h2.2 _ a v q1 q2

theorem mm_args {c : Call} {E : Operand → AV} {k x k2 y : AV} (hA : c.args.toList.map E = [x, y]) : ∃ y1 y2, c.args = #[y1, y2] ∧ E y1 = x ∧ E y2 = y := by
  match hm : c.args with
  | ⟨[y1, y2]⟩ =>
    rw [hm] at hA
    simp at hA
    exact ⟨y1, y2, rfl, hA.1, hA.2⟩
  | ⟨[]⟩ => rw [hm] at hA; simp at hA
  | ⟨[_]⟩ => rw [hm] at hA; simp at hA
  | ⟨_ :: _ :: _ :: _⟩ => rw [hm] at hA; simp at hA
theorem int_of {X : Cx} {k : IntKind} {x : Int} {v : Value} (h : Rep X (.v (.int k x)) v) : v = .int k x := by cases h; rfl

/-- What an operation that reads leaves. -/
def Reads (P : Program) (X : Cx) (o : Oper) (a : Act) (K : AV → Prop) : Prop := ∃ v av, (execOp a.eval o).run P X.w = .ok (.value v) X.w ∧ Rep X av v ∧ K av

theorem rCall_ok {P : Program} {X : Cx} {E : Operand → AV} {a : Act} {o : Oper} {c : Call} {K : AV → Prop} (hX : Ok X) (hE : ∀ x, x ∈ c.operands → Rep X (E x) (a.eval x)) (ho : o.op = .call c) (h : rCall P c E X.h K) : Reads P X o a K := by
  have hx : execOp a.eval o = (do let d ← resolve a.eval c o.type; invoke d.target d.args) := by simp [execOp, ho]
  have hA : ∀ x, x ∈ c.args → Rep X (E x) (a.eval x) := fun x hx => hE x (by unfold Call.operands; exact Array.mem_append.2 (.inr hx))
  unfold rCall at h
  split at h
  · next hc =>
    obtain ⟨hs, n, hn, ht, hK⟩ := h
    obtain ⟨y, hy⟩ : ∃ y, c.args = #[y] := by
      match hm : c.args with
      | ⟨[y]⟩ => exact ⟨y, rfl⟩
      | ⟨[]⟩ => rw [hm] at hs; cases hs
      | ⟨_ :: _ :: _⟩ => rw [hm] at hs; simp at hs
    rw [hy] at hn
    have hn : lenA P X.h (c.argTypes.getD 0 0) (E y) = some n := hn
    refine ⟨.int .i64 n, .v _, ?_, .v _, hK⟩
    have := lenA_ok (P := P) (ty := o.type) hn (hA y (by rw [hy]; simp)) ht
    rw [hx]
    simp [resolve, hc, hy, invoke, builtin, this]
  · next hc =>
    obtain ⟨r, hr, hK⟩ := h
    generalize hL : c.args.toList.map E = A at hr
    unfold mmA at hr
    split at hr
    · next k x k2 y =>
      injection hr with hr; subst hr
      obtain ⟨y1, y2, hy, q1, q2⟩ := mm_args (k := .none) (k2 := .none) hL
      have e1 := int_of (q1 ▸ hA y1 (by rw [hy]; simp))
      have e2 := int_of (q2 ▸ hA y2 (by rw [hy]; simp))
      refine ⟨_, _, ?_, .v _, hK⟩
      rw [hx]
      simp [resolve, hc, hy, invoke, builtin, e1, e2, Builtin.max_, Builtin.max2]
    · cases hr
  · next hc =>
    obtain ⟨r, hr, hK⟩ := h
    generalize hL : c.args.toList.map E = A at hr
    unfold mmA at hr
    split at hr
    · next k x k2 y =>
      injection hr with hr; subst hr
      obtain ⟨y1, y2, hy, q1, q2⟩ := mm_args (k := .none) (k2 := .none) hL
      have e1 := int_of (q1 ▸ hA y1 (by rw [hy]; simp))
      have e2 := int_of (q2 ▸ hA y2 (by rw [hy]; simp))
      refine ⟨_, _, ?_, .v _, hK⟩
      rw [hx]
      simp [resolve, hc, hy, invoke, builtin, e1, e2, Builtin.min_, Builtin.min2]
    · cases hr
  · exact h.elim

theorem reads_of {P : Program} {X : Cx} {o : Oper} {a : Act} {K : AV → Prop} {s : Sem Value} {v : Value} {av : AV} (he : (execOp a.eval o) = (do pure (.value (← s)) : Sem Next)) (hr : s.run P X.w = .ok v X.w) (h : Rep X av v) (hK : K av) : Reads P X o a K :=
  ⟨v, av, by rw [he]; simp [hr], h, hK⟩
theorem Reads.goes {P : Program} {X : Cx} {o : Oper} {a : Act} {p K : AV → Hp → Prop} (hX : Ok X) (h : Reads P X o a fun av => K av X.h) : Goes P X o a p K := by
  obtain ⟨v, av, h1, h2, h3⟩ := h
  exact .inl ⟨v, X, av, h1, Step.refl X, hX, h2, h3⟩

theorem sliceT_ok {P : Program} {X : Cx} {T : TypeId} {x r : AV} {lo hi : Option AV} {vlo vhi : Option Value} {v : Value} (hX : Ok X) (h : sliceT P T x lo hi = some r) (hr : Rep X x v) (hl : RepO X lo vlo) (hh : RepO X hi vhi) :
    ∃ u, (Instr.sliceAt T v vlo vhi none).run P X.w = .ok u X.w ∧ Rep X r u := by
  unfold sliceT at h
  split at h
  · cases h
  · next hne =>
    cases hs : sliceA P [] T x lo hi with
    | none => rw [hs] at h; cases h
    | some p =>
      obtain ⟨r', h'⟩ := p
      rw [hs] at h; injection h with h; subst h
      unfold sliceA at hs
      split at hs
      · next s =>
        split at hs
        · next hstr =>
          split at hs
          · next a b h1 h2 =>
            split at hs
            · next hc =>
              injection hs with hs; injection hs with e1 e2; subst e1
              cases hr
              have hu : P.underlying T = some .string := by
                unfold isStrP at hstr
                split at hstr
                · assumption
                · cases hstr
              have hbd := bounds_ok (P := P) (isS := false) (len := s.size) (cap := s.size) hl hh h1 h2 hc.1 hc.2 (Nat.le_refl _)
              refine ⟨.string (s.extract a b), ?_, .v _⟩
              rw [sliceAt_str hu]
              simp [Instr.slice, run_underlying hu, hbd]
            · cases hs
          · cases hs
        · cases hs
      · next n s cells =>
        split at hs
        · next a b h1 h2 =>
          split at hs
          · next hc =>
            injection hs with hs; injection hs with e1 e2; subst e1
            obtain ⟨e, he, hsz⟩ := elemSz hc.1
            exact slice_t hr he hsz hl hh h1 h2 hc.2.1 hc.2.2
          · cases hs
        · cases hs
      · next id n => exact absurd rfl (hne id n)
      · split at hs
        · unfold sliceP1 at hs; simp at hs
        · cases hs
      · cases hs

theorem rOp_ok {P : Program} {X : Cx} {E : Operand → AV} {a : Act} {o : Oper} {K : AV → Prop} (hX : Ok X) (hE : ∀ x, x ∈ o.op.operands → Rep X (E x) (a.eval x)) (h : rOp P o E X.h K) : Reads P X o a K := by
  unfold rOp at h
  split at h
  · next x ho => exact ⟨a.eval x, _, by simp [execOp, ho], hE x (by rw [ho]; simp [Op.operands]), h⟩
  · next x ho => exact ⟨a.eval x, _, by simp [execOp, ho], hE x (by rw [ho]; simp [Op.operands]), h⟩
  · next c x y ho =>
    obtain ⟨t, ht, hK⟩ := h
    have hc := hE c (by rw [ho]; simp [Op.operands])
    rw [ht] at hc
    have hcv : a.eval c = .bool t := by cases h1 : a.eval c <;> rw [h1] at hc <;> cases hc; rfl
    refine ⟨if t then a.eval x else a.eval y, _, by simp [execOp, ho, hcv, asBool], ?_, hK⟩
    cases t
    · exact hE y (by rw [ho]; simp [Op.operands])
    · exact hE x (by rw [ho]; simp [Op.operands])
  · next T parts ho =>
    obtain ⟨l, hl, hK⟩ := h
    obtain ⟨v, q1, q2⟩ := buildA_ok (P := P) hl (by simp) (parts_rep parts fun x hx => hE x (by rw [ho]; exact hx))
    exact reads_of (by simp [execOp, ho]) q1 q2 hK
  · next T x ho =>
    obtain ⟨h0, l, hl, hK⟩ := h
    obtain ⟨v, q1, q2⟩ := loadA_ok hX hl h0 (hE x (by rw [ho]; simp [Op.operands]))
    exact reads_of (by simp [execOp, ho]) q1 q2 hK
  · next x ho =>
    obtain ⟨hn, hK⟩ := h
    have hrx := hE x (by rw [ho]; simp [Op.operands])
    obtain ⟨p, hp, hb⟩ := nilPA_ok hn hrx
    cases p with
    | none => cases hb
    | some ad => exact ⟨a.eval x, _, by simp [execOp, ho, hp], hrx, hK⟩
  · next op T x y yt ho =>
    obtain ⟨r, hr, hK⟩ := h
    exact reads_of (by simp [execOp, ho]) (binA_ok (x := x) (y := y) hr (hE x (by rw [ho]; simp [Op.operands])) (hE y (by rw [ho]; simp [Op.operands]))) (.v r) hK
  · next op T x ho =>
    obtain ⟨r, hr, hK⟩ := h
    exact reads_of (by simp [execOp, ho]) (unA_ok hr (hE x (by rw [ho]; simp [Op.operands]))) (.v r) hK
  · next s d x ho =>
    obtain ⟨r, hr, hK⟩ := h
    exact reads_of (by simp [execOp, ho]) (convA_ok hX hr (hE x (by rw [ho]; simp [Op.operands]))) (.v r) hK
  · next T x lo hi mx ho =>
    obtain ⟨hm, r, hr, hK⟩ := h
    have hmx : mx = none := by simpa using hm
    subst hmx
    obtain ⟨u, q1, q2⟩ := sliceT_ok hX hr (hE x (by rw [ho]; simp [Op.operands])) (repO_map lo fun y hy => hE y (by rw [ho, hy]; simp [Op.operands])) (repO_map hi fun y hy => hE y (by rw [ho, hy]; simp [Op.operands]))
    exact reads_of (by simp [execOp, ho]) q1 q2 hK
  · next S x f ho =>
    obtain ⟨r, hr, hK⟩ := h
    obtain ⟨v, q1, q2⟩ := faddrA_ok hr (hE x (by rw [ho]; simp [Op.operands]))
    exact reads_of (by simp [execOp, ho]) q1 q2 hK
  · next S x f ho =>
    obtain ⟨r, hr, hK⟩ := h
    obtain ⟨v, q1, q2⟩ := fieldA_ok hr (hE x (by rw [ho]; simp [Op.operands]))
    exact reads_of (by simp [execOp, ho]) q1 q2 hK
  · next T x i ho =>
    obtain ⟨z, r, hz, hr, hK⟩ := h
    obtain ⟨v, q1, q2⟩ := idxA_ok hX hr (hE x (by rw [ho]; simp [Op.operands])) hz (hE i (by rw [ho]; simp [Op.operands]))
    exact reads_of (by simp [execOp, ho]) q1 q2 hK
  · next T x i ho =>
    obtain ⟨z, r, hz, hr, hK⟩ := h
    obtain ⟨v, q1, q2⟩ := indexA_ok hr (hE x (by rw [ho]; simp [Op.operands])) hz (hE i (by rw [ho]; simp [Op.operands]))
    exact reads_of (by simp [execOp, ho]) q1 q2 hK
  · next x i ho =>
    obtain ⟨r, hr, hK⟩ := h
    obtain ⟨v, q1, q2⟩ := extrA_ok (P := P) hr (hE x (by rw [ho]; simp [Op.operands]))
    exact reads_of (by simp [execOp, ho]) q1 q2 hK
  · next fn first cap ho =>
    have h1 := args_rep (E := E) (a := a) first fun x hx => hE x (by rw [ho]; exact Array.mem_append.2 (.inl hx))
    have h2 := args_rep (E := E) (a := a) cap fun x hx => hE x (by rw [ho]; exact Array.mem_append.2 (.inr hx))
    refine ⟨.func fn (first.map a.eval) (cap.map a.eval), _, by simp [execOp, ho, Instr.makeFunc], ?_, h⟩
    have := Rep.fn (X := X) (f := fn) h1.1 h2.1 h1.2 h2.2
    simpa [← Array.toList_map] using this
  · next c ho => exact rCall_ok hX (fun x hx => hE x (by rw [ho]; exact hx)) ho h
  · next T x ho =>
    obtain ⟨hi, hK⟩ := h
    exact reads_of (by simp [execOp, ho]) (ifc_run hi _ _) (.ifc (hE x (by rw [ho]; simp [Op.operands]))) hK
  · next T x k ok ho =>
    obtain ⟨r, hr, hK⟩ := h
    obtain ⟨v, q1, q2⟩ := lookupA_ok hX hr (hE x (by rw [ho]; simp [Op.operands])) (hE k (by rw [ho]; simp [Op.operands]))
    exact reads_of (by simp [execOp, ho]) q1 q2 hK
  · exact h.elim

/-- What a call leaves that only makes memory. -/
theorem below_ctx {X : Cx} {w' : World} (hX : Ok X) (hbel : Below X.w.heap.size X.w w') : Step X ⟨w', X.m, X.h, X.bad, X.ds⟩ ∧ Ok ⟨w', X.m, X.h, X.bad, X.ds⟩ := by
  have S : Step X ⟨w', X.m, X.h, X.bad, X.ds⟩ := by
    refine ⟨hbel.os, hbel.tape, hbel.output, hbel.size, fun b hb _ => hbel.block b hb, fun b o x hx hb => ⟨?_, hb⟩, Nat.le_refl _, fun i T' s c f' _ hi => ⟨c, f', hi, Nat.le_refl _, fun _ => rfl⟩, fun i c _ hi => ⟨c, hi, rfl⟩, fun b hb => .inr hb, fun _ _ hb => .inl hb, fun i c _ hi => ⟨c, hi, rfl⟩, rfl⟩
    unfold cellAt at hx ⊢
    rw [hbel.cell (p := ⟨b, o, none⟩) (cellAt_lt hx)]; exact hx
  have hZ : Ok ⟨w', X.m, X.h, X.bad, X.ds⟩ := by
    refine ⟨fun id cells hi => ?_, fun id T' s cells fz hi => ?_, hX.inj, fun b o hb => Nat.lt_of_lt_of_le (hX.badlt b o hb) hbel.size, fun id es hi => ?_⟩
    · obtain ⟨b, cvs, T', h1, h2, h3, h4, h5⟩ := hX.blk id cells hi
      exact ⟨b, cvs, T', h1, by rw [← h2]; exact hbel.block b (hX.lt ⟨id, ⟨_, hi⟩, h1⟩), h3, h4, fun j a x q1 q2 => (h5 j a x q1 q2).mono S⟩
    · obtain ⟨g1, g2, n, g3, g4⟩ := hX.arr id T' s cells fz hi
      refine ⟨g1, g2, n, g3, ?_⟩
      rcases g4 with g4 | ⟨b, cvs, g4⟩
      · exact .inl g4
      · exact .inr ⟨b, cvs, ⟨g4.at_, by rw [← g4.blk]; exact hbel.block b (hX.lt ⟨id, ⟨_, hi⟩, g4.at_⟩), g4.cap, g4.capm, g4.sz, g4.bad, fun j a x q1 q2 => (g4.rep j a x q1 q2).mono S, g4.good⟩⟩
    · obtain ⟨b, ents, clock, h1, h2, h3⟩ := hX.map id es hi
      exact ⟨b, ents, clock, h1, by rw [← h2]; exact hbel.block b (hX.lt ⟨id, ⟨_, hi⟩, h1⟩), h3.mono S⟩
  exact ⟨S, hZ⟩

theorem cvA_goes {P : Program} {X : Cx} {a : Act} {o : Oper} {p K : AV → Hp → Prop} {s d : TypeId} {y : Operand} {x r : AV} (hX : Ok X) (ho : o.op = .convert s d y) (h : cvA P X.h s d x = some r) (hr : Rep X x (a.eval y)) (hK : K r X.h) : Goes P X o a p K := by
  have old : ∀ {x : AV}, Rep X x (a.eval y) → (convA P X.h s d x).map .v = some r → Goes P X o a p K := fun {x} hr h => by
    cases hc : convA P X.h s d x with
    | none => rw [hc] at h; cases h
    | some v =>
      rw [hc] at h; injection h with h; subst h
      exact goes_read hX (by simp [execOp, ho]) (convA_ok hX hc hr) (.v v) hK
  unfold cvA at h
  split at h
  · next b =>
    unfold cvX at h
    split at h
    · next hk =>
      split at h
      · next hc =>
        injection h with h; subst h
        cases he : elemP P d with
        | none => rw [he] at hk; cases hk
        | some e =>
        rw [he] at hk
        simp only [Option.bind_some] at hk
        have hb : a.eval y = .string b := by generalize a.eval y = u at hr; cases hr; rfl
        obtain ⟨us, hus⟩ := Option.isSome_iff_exists.1 hc.1
        have hrun := Lib.run_convert_string_bytes (P := P) X.w s d e b hus (elemP_u he) (intP_u hk)
        have hbel : Below X.w.heap.size X.w (Lib.bytesWorld X.w e b) := ⟨rfl, rfl, rfl, by rw [Lib.bytesWorld_size]; omega, fun j hj => Lib.bytesWorld_at_old X.w e b j hj⟩
        obtain ⟨S, hY⟩ := below_ctx hX hbel
        refine goes_new (Y := ⟨Lib.bytesWorld X.w e b, X.m, X.h, X.bad, X.ds⟩) (s := convert s d (.string b)) (by simp [execOp, ho, hb]) hrun S hY ?_ hK
        have hm : b.size ≤ maxLen := by unfold maxLen; omega
        refine .t (cvs := b.data.toList.map fun c => .int .u8 c.toNat) (by simp [bytA]) (by simp [bytA]) (grownCap_ge _ _ _ _) (grownCap_le_maxLen _ _ _ _ hm) (fun _ => ⟨_, 0, rfl, fun i x hx => ⟨?_, fun q => absurd (hX.badlt _ _ q) (by omega)⟩⟩) (fun i av x h1 h2 => ?_)
        · rw [List.getElem?_map] at hx
          cases hi : b.data.toList[i]? with
          | none => rw [hi] at hx; cases hx
          | some c =>
            rw [hi] at hx; injection hx with hx; subst hx
            have hlt : i < b.size := by have := (List.getElem?_eq_some_iff.1 hi).1; simpa using this
            rw [Nat.zero_add]
            unfold cellAt
            rw [Lib.bytesWorld_cell X.w e b i hlt]
            simp [List.getD, hi]
        · simp only [bytA, List.getElem?_map] at h1 h2
          cases hi : b.data.toList[i]? with
          | none => rw [hi] at h1; cases h1
          | some c =>
            rw [hi] at h1 h2; injection h1 with h1; injection h2 with h2; subst h1 h2; exact .v _
      · cases h
    · exact old hr h
  · exact old hr h

theorem wCall_goes {P : Program} {X : Cx} {E : Operand → AV} {a : Act} {o : Oper} {c : Call} {p K : AV → Hp → Prop} (hX : Ok X) (hE : ∀ x, x ∈ c.operands → Rep X (E x) (a.eval x)) (ho : o.op = .call c) (h : wCall P p c E X.h K) : Goes P X o a p K := by
  have hx : execOp a.eval o = (do let d ← resolve a.eval c o.type; invoke d.target d.args) := by simp [execOp, ho]
  have hA : ∀ x, x ∈ c.args → Rep X (E x) (a.eval x) := fun x hx => hE x (by unfold Call.operands; exact Array.mem_append.2 (.inr hx))
  unfold wCall at h
  split at h
  · next hc =>
    obtain ⟨hs, ht, r, h', hr, hK⟩ := h
    obtain ⟨y, y2, hy⟩ : ∃ y y2, c.args = #[y, y2] := by
      match hm : c.args with
      | ⟨[y, y2]⟩ => exact ⟨y, y2, rfl⟩
      | ⟨[]⟩ => rw [hm] at hs; cases hs
      | ⟨[_]⟩ => rw [hm] at hs; cases hs
      | ⟨_ :: _ :: _ :: _⟩ => rw [hm] at hs; simp at hs
    obtain ⟨t, t2, hty⟩ : ∃ t t2, c.argTypes = #[t, t2] := by
      match hm : c.argTypes with
      | ⟨[y, y2]⟩ => exact ⟨y, y2, rfl⟩
      | ⟨[]⟩ => rw [hm] at ht; cases ht
      | ⟨[_]⟩ => rw [hm] at ht; cases ht
      | ⟨_ :: _ :: _ :: _⟩ => rw [hm] at ht; simp at ht
    rw [hy, hty] at hr
    have hr : appendA P X.h t t2 (E y) (E y2) = some (r, h') := hr
    obtain ⟨v', Y, q1, q2, q3, q4, q5⟩ := appendA_ok (P := P) (ty := o.type) hX hr (hA y (by rw [hy]; simp)) (hA y2 (by rw [hy]; simp))
    refine .inl ⟨v', Y, r, ?_, q2, q3, q4, by rw [q5]; exact hK⟩
    rw [hx]
    simp [resolve, hc, hy, hty, invoke, builtin, q1]
  · next f hc =>
    obtain ⟨fid, fst, cap, hf, ⟨hb, hT⟩⟩ := h
    have hrf := hE f (by unfold Call.operands; rw [hc]; simp)
    rw [hf] at hrf
    generalize hv : a.eval f = fv at hrf
    cases hrf with
    | @fn _ _ _ v1 v2 l1 l2 r1 r2 =>
    have hR := repL_app (repL_app ⟨l1, r1⟩ (args_rep c.args hA)) ⟨l2, r2⟩
    refine .inr (.inr (.inl ⟨fid, _, ?_, hT X _ hX rfl hR⟩))
    rw [hx]
    simp [resolve, hc, hv, Deferred.ofValue, invoke, callFunc_run hb]
  · exact (rCall_ok hX hE ho h).goes hX

theorem wOp_goes {P : Program} {X : Cx} {E : Operand → AV} {a : Act} {o : Oper} {p K : AV → Hp → Prop} (hX : Ok X) (hE : ∀ x, x ∈ o.op.operands → Rep X (E x) (a.eval x)) (h : wOp P p o E X.h K) : Goes P X o a p K := by
  unfold wOp at h
  split at h
  · next T ho =>
    obtain ⟨z, hz, hK⟩ := h
    obtain ⟨v, Y, q1, q2, q3, q4, q5⟩ := alloc_ok (P := P) hX hz
    exact goes_new (by simp [execOp, ho]) q1 q2 q3 q4 (by rw [q5]; exact hK)
  · next T x ho =>
    obtain ⟨l, hl, hK⟩ := h
    obtain ⟨v, Y, q1, q2, q3, q4, q5⟩ := box_ok (P := P) (T := T) hX hl (hE x (by rw [ho]; simp [Op.operands]))
    exact goes_new (by simp [execOp, ho]) q1 q2 q3 q4 (by rw [q5]; exact hK)
  · next T len parts ho =>
    obtain ⟨te, s, L, hl, hK⟩ := h
    have hp := litA_parts hl
    have hlen : len ≤ maxLen := by
      have h1 := hp.2.2.2.2.2.2
      have h2 : len * 1 ≤ len * s := Nat.mul_le_mul_left _ hp.2.2.2.2.2.1
      unfold maxLen; omega
    obtain ⟨v, Y, q1, q2, q3, q4, q5⟩ := lit_ok (P := P) hX hl (by simp) (parts_rep parts fun x hx => hE x (by rw [ho]; exact hx)) hlen
    exact goes_new (by simp [execOp, ho]) q1 q2 q3 q4 (by rw [q5]; exact hK)
  · next T x y ho =>
    obtain ⟨h', hl, hK⟩ := h
    obtain ⟨Y, q1, q2, q3, q4⟩ := storeA_ok hX hl (hE x (by rw [ho]; simp [Op.operands])) (hE y (by rw [ho]; simp [Op.operands]))
    exact .inr (.inl ⟨Y, by simp [execOp, ho, q1], q2, q3, by rw [q4]; exact hK⟩)
  · next T l c ho =>
    obtain ⟨zl, zc, te, s, L, h1, h2, h3, hK⟩ := h
    obtain ⟨k1, e1⟩ := intA_ok h1 (hE l (by rw [ho]; simp [Op.operands]))
    obtain ⟨k2, e2⟩ := intA_ok h2 (hE c (by rw [ho]; simp [Op.operands]))
    obtain ⟨v, Y, q1, q2, q3, q4, q5⟩ := make_ok (P := P) (kl := k1) (kc := k2) hX h3
    exact goes_new (s := Instr.makeSlice T (.int k1 zl) (.int k2 zc)) (by simp [execOp, ho, e1, e2]) q1 q2 q3 q4 (by rw [q5]; exact hK)
  · next T x lo hi mx ho =>
    obtain ⟨hm, r, h', hr, hK⟩ := h
    have hmx : mx = none := by simpa using hm
    subst hmx
    obtain ⟨u, Y, q1, q2, q3, q4, q5⟩ := sliceA_ok hX hr (hE x (by rw [ho]; simp [Op.operands])) (repO_map lo fun y hy => hE y (by rw [ho, hy]; simp [Op.operands])) (repO_map hi fun y hy => hE y (by rw [ho, hy]; simp [Op.operands]))
    exact goes_new (by simp [execOp, ho]) q1 q2 q3 q4 (by rw [q5]; exact hK)
  · next s d x ho =>
    obtain ⟨r, hr, hK⟩ := h
    exact cvA_goes hX ho hr (hE x (by rw [ho]; simp [Op.operands])) hK
  · next c ho => exact wCall_goes hX (fun x hx => hE x (by rw [ho]; exact hx)) ho h
  · next T r ho =>
    obtain ⟨hr, hK⟩ := h
    have hr : r = none := by simpa using hr
    subst hr
    obtain ⟨v, Y, q1, q2, q3, q4, q5⟩ := mkmap_ok (P := P) T hX
    exact goes_new (by simp [execOp, ho]) q1 q2 q3 q4 (by rw [q5]; exact hK)
  · next T m k x ho =>
    obtain ⟨h', hl, hK⟩ := h
    obtain ⟨Y, q1, q2, q3, q4⟩ := updateA_ok hX hl (hE m (by rw [ho]; simp [Op.operands])) (hE k (by rw [ho]; simp [Op.operands])) (hE x (by rw [ho]; simp [Op.operands]))
    exact .inr (.inl ⟨Y, by simp [execOp, ho, q1], q2, q3, by rw [q4]; exact hK⟩)
  · next T m k x ho =>
    obtain ⟨h', hl, hK⟩ := h
    obtain ⟨Y, q1, q2, q3, q4⟩ := updateA_ok hX hl (hE m (by rw [ho]; simp [Op.operands])) (hE k (by rw [ho]; simp [Op.operands])) (hE x (by rw [ho]; simp [Op.operands]))
    exact .inr (.inl ⟨Y, by simp [execOp, ho, q1], q2, q3, by rw [q4]; exact hK⟩)
  · next x ho =>
    obtain ⟨T, av, hx, hp⟩ := h
    have hr := hE x (by rw [ho]; simp [Op.operands])
    rw [hx] at hr
    refine .inr (.inr (.inr ⟨a.eval x, _, ?_, hr, hp⟩))
    cases hv : a.eval x <;> rw [hv] at hr <;> cases hr
    simp [execOp, ho, hv, Instr.panic]
  · exact (rOp_ok hX hE h).goes hX
end Go.Proofs.YtljfgdlgmdcmfaaGreat.Wv
