/- The machine of abstract values, run: a call whose arguments are given is carried out by reckoning. -/
import Derived.Test.YtljfgdlgmdcmfaaGreatWvZ
namespace Go.Proofs.YtljfgdlgmdcmfaaGreat.Wv
open Go.RowKit
set_option linter.unusedVariables false
set_option autoImplicit false

/-- How a call ends. -/
inductive XR where
  | ret (a : AV) (h : Hp)
  | pan (a : AV) (h : Hp)
abbrev XCall := FuncId → List AV → Hp → Option XR
def CallOk (P : Program) (c : XCall) : Prop := ∀ f args h r, c f args h = some r → HTP P f args h (fun a h' => r = .ret a h') (fun a h' => r = .pan a h')

def xRC (P : Program) (c : Call) (E : Operand → AV) (h : Hp) : Option AV := match c.callee with
  | .builtin .len => match c.args.size, c.argTypes[0]? with
    | 1, some T => (lenA P h T (E (c.args.getD 0 (.const undef)))).map fun (n : Nat) => .v (.int .i64 n)
    | _, _ => none
  | .builtin .max => mmA true (c.args.toList.map E)
  | .builtin .min => mmA false (c.args.toList.map E)
  | _ => none
def xR (P : Program) (o : Oper) (E : Operand → AV) (h : Hp) : Option AV := match o.op with
  | .move x => some (E x)
  | .assign x => some (E x)
  | .pick c a b => match E c with
    | .v (.bool true) => some (E a)
    | .v (.bool false) => some (E b)
    | _ => none
  | .build T parts => (buildA P h T (parts.toList.map fun p => (p.1, E p.2))).map .g
  | .load T a => match szP P T with
    | some 0 => none
    | _ => loadA P h T (E a)
  | .nilCheck x => match nilPA h (E x) with
    | some false => some (E x)
    | _ => none
  | .binOp op T x y _ => (binA P h op T (E x) (E y)).map .v
  | .unOp op _ x => (unA op (E x)).map .v
  | .convert s d x => (convA P h s d (E x)).map .v
  | .slice T x lo hi mx => if mx.isNone = true then sliceT P h T (E x) (lo.map E) (hi.map E) else none
  | .fieldAddr S x f => faddrA P h S (E x) f
  | .field S x f => fieldA P S (E x) f
  | .indexAddr T x i => (intA (E i)).bind fun z => idxA P h T (E x) z
  | .index T x i => (intA (E i)).bind fun z => indexA P T (E x) z
  | .extract x i => extrA (E x) i
  | .makeFunc fn first cap => some (.fn fn (first.toList.map E) (cap.toList.map E))
  | .call c => xRC P c E h
  | .makeInterface T x => if ifcP P T = true then some (.ifc T (E x)) else none
  | .lookup T x k ok => lookupA P h T (E x) (E k) ok
  | _ => none
theorem xRC_ok {P : Program} {c : Call} {E : Operand → AV} {h : Hp} {K : AV → Prop} {v : AV} (hx : xRC P c E h = some v) (hK : K v) : rCall P c E h K := by
  unfold xRC at hx
  unfold rCall
  split at hx
  · next hc =>
    simp only [hc]
    split at hx
    · next T h1 h2 =>
      obtain ⟨n, e1, rfl⟩ := Option.map_eq_some_iff.1 hx
      have : c.argTypes.getD 0 0 = T := by simp [Array.getD_eq_getD_getElem?, h2]
      exact ⟨h1, n, by rw [this]; exact e1, by rw [this]; exact h2, hK⟩
    · cases hx
  · next hc => simp only [hc]; exact ⟨_, hx, hK⟩
  · next hc => simp only [hc]; exact ⟨_, hx, hK⟩
  · cases hx
theorem xR_ok {P : Program} {o : Oper} {E : Operand → AV} {h : Hp} {K : AV → Prop} {v : AV} (hx : xR P o E h = some v) (hK : K v) : rOp P o E h K := by
  unfold xR at hx
  unfold rOp
  split at hx
  · next ho => simp only [ho]; injection hx with hx; rw [hx]; exact hK
  · next ho => simp only [ho]; injection hx with hx; rw [hx]; exact hK
  · next ho =>
    simp only [ho]
    split at hx
    · next hc => injection hx with hx; exact ⟨true, hc, by rw [cond_true, hx]; exact hK⟩
    · next hc => injection hx with hx; exact ⟨false, hc, by rw [cond_false, hx]; exact hK⟩
    · cases hx
  · next ho => simp only [ho]; obtain ⟨l, e1, rfl⟩ := Option.map_eq_some_iff.1 hx; exact ⟨l, e1, hK⟩
  · next ho =>
    simp only [ho]
    split at hx
    · cases hx
    · next hz => exact ⟨fun e => hz e, v, hx, hK⟩
  · next ho =>
    simp only [ho]
    split at hx
    · next hc => injection hx with hx; exact ⟨hc, by rw [hx]; exact hK⟩
    · cases hx
  · next ho => simp only [ho]; obtain ⟨l, e1, rfl⟩ := Option.map_eq_some_iff.1 hx; exact ⟨l, e1, hK⟩
  · next ho => simp only [ho]; obtain ⟨l, e1, rfl⟩ := Option.map_eq_some_iff.1 hx; exact ⟨l, e1, hK⟩
  · next ho => simp only [ho]; obtain ⟨l, e1, rfl⟩ := Option.map_eq_some_iff.1 hx; exact ⟨l, e1, hK⟩
  · next ho =>
    simp only [ho]
    split at hx
    · next hc => exact ⟨hc, v, hx, hK⟩
    · cases hx
  · next ho => simp only [ho]; exact ⟨v, hx, hK⟩
  · next ho => simp only [ho]; exact ⟨v, hx, hK⟩
  · next ho => simp only [ho]; obtain ⟨z, e1, e2⟩ := Option.bind_eq_some_iff.1 hx; exact ⟨z, v, e1, e2, hK⟩
  · next ho => simp only [ho]; obtain ⟨z, e1, e2⟩ := Option.bind_eq_some_iff.1 hx; exact ⟨z, v, e1, e2, hK⟩
  · next ho => simp only [ho]; exact ⟨v, hx, hK⟩
  · next ho => simp only [ho]; injection hx with hx; rw [hx]; exact hK
  · next ho => simp only [ho]; exact xRC_ok hx hK
  · next ho =>
    simp only [ho]
    split at hx
    · next hc => injection hx with hx; exact ⟨hc, by rw [hx]; exact hK⟩
    · cases hx
  · next ho => simp only [ho]; exact ⟨v, hx, hK⟩
  · cases hx

mutual
def cloB : AV → Bool
  | .v _ => true
  | .none => true
  | .e0 => true
  | .t _ _ l => cloBL l
  | .g l => cloBL l
  | .tup l => cloBL l
  | .tp l => cloBL l
  | .fn _ a b => cloBL a && cloBL b
  | .ifc _ a => cloB a
  | .own _ _ => false
  | .ptr _ _ => false
  | .ap _ _ _ => false
  | .mp _ => false
  | .tm _ => false
def cloBL : List AV → Bool
  | [] => true
  | a :: r => cloB a && cloBL r
end
mutual
theorem cloB_ok : ∀ (a : AV), cloB a = true → Clo a
  | .v _, _ => .v _
  | .none, _ => .none
  | .e0, _ => .e0
  | .t _ _ l, h => .t (cloBL_ok l (by rw [cloB] at h; exact h))
  | .g l, h => .g (cloBL_ok l (by rw [cloB] at h; exact h))
  | .tup l, h => .tup (cloBL_ok l (by rw [cloB] at h; exact h))
  | .tp l, h => .tp (cloBL_ok l (by rw [cloB] at h; exact h))
  | .fn _ a b, h => by
    rw [cloB, Bool.and_eq_true] at h
    exact .fn (cloBL_ok a h.1) (cloBL_ok b h.2)
  | .ifc _ a, h => .ifc (cloB_ok a (by rw [cloB] at h; exact h))
  | .own _ _, h => by rw [cloB] at h; cases h
  | .ptr _ _, h => by rw [cloB] at h; cases h
  | .ap _ _ _, h => by rw [cloB] at h; cases h
  | .mp _, h => by rw [cloB] at h; cases h
  | .tm _, h => by rw [cloB] at h; cases h
theorem cloBL_ok : ∀ (l : List AV), cloBL l = true → ∀ (a : AV), a ∈ l → Clo a
  | [], _ => fun a ha => by cases ha
  | b :: r, h => by
    rw [cloBL, Bool.and_eq_true] at h
    exact List.forall_mem_cons.2 ⟨cloB_ok b h.1, cloBL_ok r h.2⟩
end
mutual
def loB (m : Nat) : AV → Bool
  | .own id _ => Nat.blt id m
  | .ptr id _ => Nat.blt id m
  | .ap id _ _ => Nat.blt id m
  | .mp id => Nat.blt id m
  | .g l => loBL m l
  | .tup l => loBL m l
  | .fn _ a b => loBL m a && loBL m b
  | .ifc _ a => loB m a
  | .v _ => true
  | .none => true
  | .e0 => true
  | .t _ _ l => cloBL l
  | .tp l => cloBL l
  | .tm _ => false
def loBL (m : Nat) : List AV → Bool
  | [] => true
  | a :: r => loB m a && loBL m r
end
theorem blt_lt {a b : Nat} (h : Nat.blt a b = true) : a < b := Nat.le_of_ble_eq_true h
mutual
theorem loB_ok (m : Nat) : ∀ (a : AV), loB m a = true → lo m a
  | .own _ _, h => .own (blt_lt (by rw [loB] at h; exact h))
  | .ptr _ _, h => .ptr (blt_lt (by rw [loB] at h; exact h))
  | .ap _ _ _, h => .ap (blt_lt (by rw [loB] at h; exact h))
  | .mp _, h => .mp (blt_lt (by rw [loB] at h; exact h))
  | .g l, h => .g (loBL_ok m l (by rw [loB] at h; exact h))
  | .tup l, h => .tup (loBL_ok m l (by rw [loB] at h; exact h))
  | .fn _ a b, h => by
    rw [loB, Bool.and_eq_true] at h
    exact .fn (loBL_ok m a h.1) (loBL_ok m b h.2)
  | .ifc _ a, h => .ifc (loB_ok m a (by rw [loB] at h; exact h))
  | .v _, _ => .clo (.v _)
  | .none, _ => .clo .none
  | .e0, _ => .clo .e0
  | .t _ _ l, h => .clo (.t (cloBL_ok l (by rw [loB] at h; exact h)))
  | .tp l, h => .clo (.tp (cloBL_ok l (by rw [loB] at h; exact h)))
  | .tm l, h => by rw [loB] at h; cases h
theorem loBL_ok (m : Nat) : ∀ (l : List AV), loBL m l = true → ∀ (a : AV), a ∈ l → lo m a
  | [], _ => fun a ha => by cases ha
  | b :: r, h => by
    rw [loBL, Bool.and_eq_true] at h
    exact List.forall_mem_cons.2 ⟨loB_ok m b h.1, loBL_ok m r h.2⟩
end
def loHB (m : Nat) : Hp → Bool
  | [] => true
  | none :: r => loHB m r
  | some (.blk cells) :: r => loBL m cells && loHB m r
  | some (.arr _ _ cells _) :: r => loBL m cells && loHB m r
  | some (.map es) :: r => loBL m (es.map (·.2)) && loHB m r
theorem loHB_ok (m : Nat) : ∀ (h : Hp), loHB m h = true → loH m h
  | [], _ => trivial
  | none :: r, h => loHB_ok m r h
  | some (.blk cells) :: r, h => by
    simp only [loHB, Bool.and_eq_true] at h
    exact ⟨loBL_ok m cells h.1, loHB_ok m r h.2⟩
  | some (.arr _ _ cells _) :: r, h => by
    simp only [loHB, Bool.and_eq_true] at h
    exact ⟨loBL_ok m cells h.1, loHB_ok m r h.2⟩
  | some (.map es) :: r, h => by
    simp only [loHB, Bool.and_eq_true] at h
    exact ⟨loBL_ok m _ h.1, loHB_ok m r h.2⟩

/-- The same arguments, where arrays that nobody writes any more read as trees. -/
def viewD : Nat → Hp → AV → AV
  | 0, _, a => a
  | k + 1, h, .own id n => match h[id]? with
    | some (some (.arr _ s cells fz)) => bif Nat.beq cells.length (n * s) && Nat.beq fz cells.length then .t n s (cells.map (viewD k h)) else .own id n
    | _ => .own id n
  | k + 1, h, .g l => .g (l.map (viewD k h))
  | k + 1, h, .tup l => .tup (l.map (viewD k h))
  | k + 1, h, .ifc T a => .ifc T (viewD k h a)
  | _ + 1, _, a => a
theorem repL_mapped {X : Cx} {f : AV → AV} (hf : ∀ a v, Rep X a v → Rep X (f a) v) {l : List AV} {vs : List Value} (hr : ∀ (i : Nat) (a : AV) (x : Value), l[i]? = some a → vs[i]? = some x → Rep X a x) : ∀ (i : Nat) (a : AV) (x : Value), (l.map f)[i]? = some a → vs[i]? = some x → Rep X a x := by
  intro i a x h1 h2
  rw [List.getElem?_map] at h1
  obtain ⟨b, h3, rfl⟩ := Option.map_eq_some_iff.1 h1
  exact hf b x (hr i b x h3 h2)
theorem viewD_ok {X : Cx} (hX : Ok X) : ∀ (k : Nat) (a : AV) (v : Value), Rep X a v → Rep X (viewD k X.h a) v
  | 0, a, v, hr => hr
  | k + 1, a, v, hr => by
    have ih := viewD_ok hX k
    cases a with
    | own id n =>
      simp only [viewD]
      split
      · next T s cells fz hid =>
        cases hb : (Nat.beq cells.length (n * s) && Nat.beq fz cells.length) with
        | false => exact hr
        | true =>
          rw [Bool.and_eq_true] at hb
          have e1 := Nat.eq_of_beq_eq_true hb.1
          have e2 := Nat.eq_of_beq_eq_true hb.2
          subst e2
          have h1 := Rep.frozen hX hid (fun b hb o ho => hX.frzOk id T s cells b hid hb o ho) e1 hr
          cases h1 with
          | t hl hc hn hcap hp hrr => exact .t (by rw [List.length_map]; exact hl) (by rw [List.length_map]; exact hc) hn hcap hp (repL_mapped ih hrr)
      · exact hr
    | g l =>
      cases hr with
      | g hc hrr => exact .g (by rw [List.length_map]; exact hc) (repL_mapped ih hrr)
    | tup l =>
      cases hr with
      | tup hc hrr => exact .tup (by rw [List.length_map]; exact hc) (repL_mapped ih hrr)
    | ifc T a =>
      cases hr with
      | ifc h => exact .ifc (ih _ _ h)
    | _ => exact hr
theorem viewDL_ok {X : Cx} (hX : Ok X) (k : Nat) {l : List AV} {vs : List Value} (hr : RepL X l vs) : RepL X (l.map (viewD k X.h)) vs := ⟨by rw [List.length_map]; exact hr.1, repL_mapped (viewD_ok hX k) hr.2⟩
theorem HTP.pre {P : Program} {f : FuncId} {args args1 : List AV} {h h1 : Hp} {R p : AV → Hp → Prop} (hp : ∀ (X : Cx) (vs : List Value), Ok X → X.h = h → RepL X args vs → ∃ Y, Y.w = X.w ∧ Step X Y ∧ Ok Y ∧ Y.h = h1 ∧ RepL Y args1 vs) (T : HTP P f args1 h1 R p) : HTP P f args h R p := by
  refine ⟨T.1, fun X vs hX hh hr => ?_⟩
  obtain ⟨Y, y1, y2, y3, y4, y5⟩ := hp X vs hX hh hr
  rw [← y1]
  refine (T.2 Y vs y3 y4 y5).mono ?_
  rintro e w' ⟨v, Z, av, z1, z2, z3, z4, z5⟩
  exact ⟨v, Z, av, z1, y2.trans hX z2, z3, z4, z5⟩
theorem HTP.view {P : Program} {f : FuncId} {args : List AV} {h : Hp} {k : Nat} {R p : AV → Hp → Prop} (T : HTP P f (args.map (viewD k h)) h R p) : HTP P f args h R p :=
  HTP.pre (fun X vs hX hh hr => ⟨X, rfl, Step.refl X, hX, hh, hh ▸ viewDL_ok hX k hr⟩) T

/-- A call in a drawn head, where arrays lie in arrays. -/
theorem calm_vd {P : Program} {p₀ : AV → Hp → Prop} {K : AV → Prop} {h : Hp} {fid : FuncId} {args args' args2 : List AV} {res : AV} (k : Nat) (T : TC P fid args' res) (hv : args.map (viewD k h) = args2) (hw : WkL args2 args') (hc : ∀ (a : AV), a ∈ args2 → Clo a) (hres : Clo res) (hK : K res) : sCalm P p₀ K h (.fn (.func fid) [] []) args := by
  refine ⟨fid, [], [], rfl, res, ?_, hK⟩
  rw [List.nil_append, List.append_nil]
  refine HTP.view (k := k) ?_
  rw [hv]
  exact ((T.wk hw (Wk.refl _)).ht hc hres h).toP _
/-- The same elsewhere: all arrays are frozen first. -/
theorem call_vd {P : Program} {p₀ : AV → Hp → Prop} {K : AV → Hp → Prop} {h : Hp} {fid : FuncId} {args args' args2 : List AV} {res : AV} (k : Nat) (T : TC P fid args' res) (hv : args.map (viewD k (h.map froze)) = args2) (hw : WkL args2 args') (hc : ∀ (a : AV), a ∈ args2 → Clo a) (hres : Clo res) (hK : K res (h.map froze)) : sCall P p₀ K h (.fn (.func fid) [] []) args := by
  refine call_HTP (fst := []) (cap := []) (R := fun r h' => r = res ∧ h' = h.map froze) (p := fun _ _ => False) ?_ (by rintro av h' ⟨rfl, rfl⟩; exact hK) (fun _ _ q => q.elim)
  rw [List.nil_append, List.append_nil]
  refine HTP.pre (args1 := args2) (h1 := h.map froze) (fun X vs hX hh hr => ?_) (((T.wk hw (Wk.refl _)).ht hc hres (h.map froze)).toP _)
  obtain ⟨Y, y1, y2, y3, y4⟩ := freeze_some 0 hX
  rw [frzM_zero, hh] at y4
  refine ⟨Y, y1, y2, y3, y4, ?_⟩
  rw [← hv, ← y4]
  exact viewDL_ok y3 k ⟨hr.1, fun i a x q1 q2 => (hr.2 i a x q1 q2).mono y2⟩

abbrev XOrc := FuncId → List AV → Option AV
def OrcOk (P : Program) (o : XOrc) : Prop := ∀ f args a, o f args = some a → TC P f args a ∧ Clo a
/-- Another call: what it has made is dropped if nothing names it. -/
def xOwn (c : XCall) (f : FuncId) (args : List AV) (h : Hp) : Option XR := match c f args h with
  | some (.ret a h') => bif loB h.length a && loHB h.length (h'.take h.length) then some (.ret a (h'.take h.length)) else some (.ret a h')
  | some (.pan a h') => bif loB h.length a && loHB h.length (h'.take h.length) then some (.pan a (h'.take h.length)) else some (.pan a h')
  | none => none
/-- Only what is not closed. -/
def xBut (r : Option XR) : Option XR := match r with
  | some (.ret a h) => bif cloB a then none else some (.ret a h)
  | r => r
/-- A call whose arguments name nothing owned: nothing owned is seen, but where the answer names what the call has made. -/
def xClo (c : XCall) (f : FuncId) (args : List AV) (h : Hp) : Option XR := match c f args [] with
  | some (.ret a _) => bif cloB a then some (.ret a h) else xBut (xOwn c f args h)
  | some (.pan a _) => bif cloB a then some (.pan a h) else none
  | none => none
def xAsk (o : XOrc) (f : FuncId) (args : List AV) (h : Hp) (r : Option XR) : Option XR := bif cloBL args then match o f args with
    | some a => some (.ret a h)
    | none => r
  else r
def xVal (o : XOrc) (c : XCall) (f : FuncId) (args : List AV) (h : Hp) : Option XR :=
  bif cloBL args then xClo c f args h
  else bif cloBL (args.map (viewD 4 h)) then xClo c f (args.map (viewD 4 h)) h
  else xAsk o f (args.map (viewD 4 (h.map froze))) (h.map froze) (xOwn c f args h)
theorem clo_frame {P : Program} {f : FuncId} {args : List AV} {R p : AV → Prop} (T : HTP P f args [] (fun a _ => R a) (fun a _ => p a)) (ha : ∀ (a : AV), a ∈ args → Clo a) (hR : ∀ a, R a → Clo a) (hp : ∀ a, p a → Clo a) (h : Hp) : HTP P f args h (fun a h' => R a ∧ h' = h) (fun a h' => p a ∧ h' = h) := by
  have T1 : RD P f args [] R p := RD.of (T.mono (fun a h' q => ⟨q, rfl⟩) (fun a h' q => ⟨q, rfl⟩)) (fun r q => .clo (hR r q)) (fun r q => .clo (hp r q)) trivial
  exact RD.frame (σ := id) T1 ⟨fun i j hi => absurd hi (Nat.not_lt_zero i), fun i o ho => by simp at ho⟩ (RnL.clo ha) hR hp
/-- What an answer has to be worth. -/
def XR.Of (P : Program) (f : FuncId) (args : List AV) (h : Hp) (r : XR) : Prop := HTP P f args h (fun a h' => r = .ret a h') (fun a h' => r = .pan a h')
theorem xOwn_ok {P : Program} {c : XCall} (hc : CallOk P c) : CallOk P (xOwn c) := by
  intro f args h r hx
  unfold xOwn at hx
  split at hx
  · next a h' hq =>
    have T := hc f args h _ hq
    cases h2 : (loB h.length a && loHB h.length (h'.take h.length)) with
    | false => rw [h2] at hx; injection hx with hx; subst hx; exact T
    | true =>
      rw [h2, cond_true] at hx
      injection hx with hx
      subst hx
      rw [Bool.and_eq_true] at h2
      refine (T.cut (fun b k e => by injection e with e1 e2; subst e1 e2; exact ⟨loB_ok _ _ h2.1, loHB_ok _ _ h2.2⟩) (fun b k e => by cases e)).mono ?_ ?_
      · rintro b k ⟨k', e, rfl⟩; injection e with e1 e2; subst e1 e2; rfl
      · rintro b k ⟨k', e, rfl⟩; cases e
  · next a h' hq =>
    have T := hc f args h _ hq
    cases h2 : (loB h.length a && loHB h.length (h'.take h.length)) with
    | false => rw [h2] at hx; injection hx with hx; subst hx; exact T
    | true =>
      rw [h2, cond_true] at hx
      injection hx with hx
      subst hx
      rw [Bool.and_eq_true] at h2
      refine (T.cut (fun b k e => by cases e) (fun b k e => by injection e with e1 e2; subst e1 e2; exact ⟨loB_ok _ _ h2.1, loHB_ok _ _ h2.2⟩)).mono ?_ ?_
      · rintro b k ⟨k', e, rfl⟩; cases e
      · rintro b k ⟨k', e, rfl⟩; injection e with e1 e2; subst e1 e2; rfl
  · cases hx
theorem xClo_ok {P : Program} {c : XCall} (hc : CallOk P c) {f : FuncId} {args : List AV} {h : Hp} {r : XR} (h1 : cloBL args = true) (hx : xClo c f args h = some r) : r.Of P f args h ∧ ∀ a h', r = .ret a h' → cloB a = true → h' = h := by
  unfold xClo at hx
  have hcl := cloBL_ok args h1
  split at hx
  · next a h' hq =>
    cases h2 : cloB a with
    | false =>
      rw [h2, cond_false] at hx
      unfold xBut at hx
      split at hx
      · next b k hb =>
        cases h3 : cloB b with
        | true => rw [h3] at hx; cases hx
        | false =>
          rw [h3, cond_false] at hx
          injection hx with hx
          subst hx
          exact ⟨xOwn_ok hc f args h _ hb, fun b2 k2 e hq => by injection e with e1 e2; subst e1; rw [h3] at hq; cases hq⟩
      · next hno =>
        refine ⟨xOwn_ok hc f args h r hx, fun b2 k2 e hq => ?_⟩
        subst e
        exact absurd hx (hno b2 k2)
    | true =>
      rw [h2, cond_true] at hx
      injection hx with hx
      subst hx
      refine ⟨(clo_frame (R := fun b => b = a) (p := fun _ => False) ((hc f args [] _ hq).mono (fun b k e => by injection e with e1 e2; exact e1.symm) (fun b k e => by cases e)) hcl (fun b e => by rw [e]; exact cloB_ok a h2) (fun b e => e.elim) h).mono ?_ ?_, fun b k e _ => by injection e with e1 e2; exact e2.symm⟩
      · rintro b k ⟨rfl, rfl⟩; rfl
      · rintro b k ⟨q, _⟩; exact q.elim
  · next a h' hq =>
    cases h2 : cloB a with
    | false => rw [h2] at hx; cases hx
    | true =>
      rw [h2, cond_true] at hx
      injection hx with hx
      subst hx
      refine ⟨(clo_frame (R := fun _ => False) (p := fun b => b = a) ((hc f args [] _ hq).mono (fun b k e => by cases e) (fun b k e => by injection e with e1 e2; exact e1.symm)) hcl (fun b e => e.elim) (fun b e => by rw [e]; exact cloB_ok a h2) h).mono ?_ ?_, fun b k e _ => by cases e⟩
      · rintro b k ⟨q, _⟩; exact q.elim
      · rintro b k ⟨rfl, rfl⟩; rfl
  · cases hx
theorem xVal_ok {P : Program} {o : XOrc} {c : XCall} (ho : OrcOk P o) (hc : CallOk P c) : CallOk P (xVal o c) := by
  intro f args h r hx
  unfold xVal at hx
  cases h1 : cloBL args with
  | true => rw [h1, cond_true] at hx; exact (xClo_ok hc h1 hx).1
  | false =>
    rw [h1, cond_false] at hx
    cases h2 : cloBL (args.map (viewD 4 h)) with
    | true => rw [h2, cond_true] at hx; exact HTP.view (xClo_ok hc h2 hx).1
    | false =>
      rw [h2, cond_false] at hx
      unfold xAsk at hx
      cases h3 : cloBL (args.map (viewD 4 (h.map froze))) with
      | false => rw [h3] at hx; exact xOwn_ok hc f args h r hx
      | true =>
        rw [h3, cond_true] at hx
        split at hx
        · next a hq =>
          injection hx with hx
          subst hx
          obtain ⟨T, ha⟩ := ho f _ a hq
          refine HTP.pre (h1 := h.map froze) (fun X vs hX hh hr => ?_) (((T.ht (cloBL_ok _ h3) ha (h.map froze)).toP fun _ _ => False).mono (fun b k e => by rw [e.1, e.2]) (fun b k e => e.elim))
          obtain ⟨Y, y1, y2, y3, y4⟩ := freeze_some 0 hX
          rw [frzM_zero, hh] at y4
          refine ⟨Y, y1, y2, y3, y4, ?_⟩
          rw [← y4]
          exact viewDL_ok y3 4 ⟨hr.1, fun i a x q1 q2 => (hr.2 i a x q1 q2).mono y2⟩
        · exact xOwn_ok hc f args h r hx

def xWC (P : Program) (cl : XCall) (c : Call) (E : Operand → AV) (h : Hp) : Option XR := match c.callee with
  | .builtin .append => match c.args.size, c.argTypes.size with
    | 2, 2 => (appendA P h (c.argTypes.getD 0 0) (c.argTypes.getD 1 0) (E (c.args.getD 0 (.const undef))) (E (c.args.getD 1 (.const undef)))).map fun p => .ret p.1 p.2
    | _, _ => none
  | .builtin .copy => match c.args.size, c.argTypes.size with
    | 2, 2 => (copyA P h (c.argTypes.getD 0 0) (c.argTypes.getD 1 0) (E (c.args.getD 0 (.const undef))) (E (c.args.getD 1 (.const undef)))).map fun p => .ret p.1 p.2
    | _, _ => none
  | .value f => match E f with
    | .fn (.func fid) fst cap => cl fid (fst ++ c.args.toList.map E ++ cap) h
    | _ => none
  | _ => (xRC P c E h).map fun a => .ret a h
def xW (P : Program) (cl : XCall) (o : Oper) (E : Operand → AV) (h : Hp) : Option XR := match o.op with
  | .alloc T => (zeroP P T).map fun z => .ret (.ptr h.length 0) (h ++ [some (.blk (vcells z))])
  | .box T x => (cellsA h (E x)).map fun l => .ret (.ptr h.length 0) (h ++ [some (.blk l)])
  | .buildSlice T len parts => (litA P h T len (parts.toList.map fun p => (p.1, E p.2))).map fun q => .ret (.own h.length len) (h ++ [some (.arr q.1 q.2.1 q.2.2 0)])
  | .store T a x => (storeA P h T (E a) (E x)).map fun h' => .ret .none h'
  | .makeSlice T l c => match intA (E l), intA (E c) with
    | some zl, some zc => (makeA P T zl zc).map fun q => .ret (.own h.length zl.toNat) (h ++ [some (.arr q.1 q.2.1 q.2.2 0)])
    | _, _ => none
  | .slice T x lo hi mx => if mx.isNone = true then (sliceA P h T (E x) (lo.map E) (hi.map E)).map fun p => .ret p.1 p.2 else none
  | .convert s d x => (cvA P h s d (E x)).map fun r => .ret r h
  | .call c => xWC P cl c E h
  | .makeMap _ r => if r.isNone = true then some (.ret (.mp h.length) (h ++ [some (.map [])])) else none
  | .mapUpdate T m k x => (updateA P h T (E m) (E k) (E x)).map fun h' => .ret .none h'
  | .insert T m k x => (updateA P h T (E m) (E k) (E x)).map fun h' => .ret .none h'
  | .panic x => match E x with
    | .ifc T a => some (.pan (.ifc T a) h)
    | _ => none
  | _ => (xR P o E h).map fun a => .ret a h
/-- What an end has to say. -/
def XR.sat (r : XR) (K p : AV → Hp → Prop) : Prop := match r with
  | .ret a h => K a h
  | .pan a h => p a h
theorem xWC_ok {P : Program} {cl : XCall} (hcl : CallOk P cl) {c : Call} {E : Operand → AV} {h : Hp} {K p : AV → Hp → Prop} {r : XR} (hx : xWC P cl c E h = some r) (hK : r.sat K p) : wCall P p c E h K := by
  unfold xWC at hx
  unfold wCall
  split at hx
  · next hc =>
    simp only [hc]
    split at hx
    · next h1 h2 => obtain ⟨q, e1, rfl⟩ := Option.map_eq_some_iff.1 hx; exact ⟨h1, h2, q.1, q.2, e1, hK⟩
    · cases hx
  · next hc =>
    simp only [hc]
    split at hx
    · next h1 h2 => obtain ⟨q, e1, rfl⟩ := Option.map_eq_some_iff.1 hx; exact ⟨h1, h2, q.1, q.2, e1, hK⟩
    · cases hx
  · next f hc =>
    simp only [hc]
    split at hx
    · next fid fst cap he =>
      refine ⟨fid, fst, cap, he, (hcl _ _ _ _ hx).mono ?_ ?_⟩
      · rintro a h' rfl; exact hK
      · rintro a h' rfl; exact hK
    · cases hx
  · obtain ⟨a, e1, rfl⟩ := Option.map_eq_some_iff.1 hx
    split <;> first | exact xRC_ok e1 hK | (exfalso; simp_all; done)
theorem xW_ok {P : Program} {cl : XCall} (hcl : CallOk P cl) {o : Oper} {E : Operand → AV} {h : Hp} {K p : AV → Hp → Prop} {r : XR} (hx : xW P cl o E h = some r) (hK : r.sat K p) : wOp P p o E h K := by
  unfold xW at hx
  unfold wOp
  split at hx
  · next ho => simp only [ho]; obtain ⟨z, e1, rfl⟩ := Option.map_eq_some_iff.1 hx; exact ⟨z, e1, hK⟩
  · next ho => simp only [ho]; obtain ⟨z, e1, rfl⟩ := Option.map_eq_some_iff.1 hx; exact ⟨z, e1, hK⟩
  · next ho => simp only [ho]; obtain ⟨z, e1, rfl⟩ := Option.map_eq_some_iff.1 hx; exact ⟨_, _, _, e1, hK⟩
  · next ho => simp only [ho]; obtain ⟨z, e1, rfl⟩ := Option.map_eq_some_iff.1 hx; exact ⟨z, e1, hK⟩
  · next ho =>
    simp only [ho]
    split at hx
    · next zl zc h1 h2 => obtain ⟨z, e1, rfl⟩ := Option.map_eq_some_iff.1 hx; exact ⟨zl, zc, _, _, _, h1, h2, e1, hK⟩
    · cases hx
  · next ho =>
    simp only [ho]
    split at hx
    · next hc => obtain ⟨z, e1, rfl⟩ := Option.map_eq_some_iff.1 hx; exact ⟨hc, _, _, e1, hK⟩
    · cases hx
  · next ho => simp only [ho]; obtain ⟨z, e1, rfl⟩ := Option.map_eq_some_iff.1 hx; exact ⟨z, e1, hK⟩
  · next ho => simp only [ho]; exact xWC_ok hcl hx hK
  · next ho =>
    simp only [ho]
    split at hx
    · next hc => injection hx with hx; subst hx; exact ⟨hc, hK⟩
    · cases hx
  · next ho => simp only [ho]; obtain ⟨z, e1, rfl⟩ := Option.map_eq_some_iff.1 hx; exact ⟨z, e1, hK⟩
  · next ho => simp only [ho]; obtain ⟨z, e1, rfl⟩ := Option.map_eq_some_iff.1 hx; exact ⟨z, e1, hK⟩
  · next ho =>
    simp only [ho]
    split at hx
    · next T a he => injection hx with hx; subst hx; exact ⟨T, a, he, hK⟩
    · cases hx
  · obtain ⟨a, e1, rfl⟩ := Option.map_eq_some_iff.1 hx
    split <;> first | exact xR_ok e1 hK | (exfalso; simp_all; done) | (exfalso; simp_all; rename_i q _ _; exact q _ _ _ _ _ rfl rfl rfl rfl rfl) | (exfalso; simp_all; rename_i q _ _; exact q _ _ _ _ rfl rfl rfl rfl) | (exfalso; simp_all; rename_i q _; exact q _ _ _ _ rfl rfl rfl rfl) | (exfalso; simp_all; rename_i q _; exact q _ _ _ _ _ rfl rfl rfl rfl rfl)
end Go.Proofs.YtljfgdlgmdcmfaaGreat.Wv
