/- The machine of abstract values: regions whose order is drawn. -/
import Derived.Test.YtljfgdlgmdcmfaaGreatWvM
namespace Go.Proofs.YtljfgdlgmdcmfaaGreat.Wv
open Go.RowKit
set_option linter.unusedVariables false
set_option autoImplicit false

/-- A frozen array as a slice that nobody writes. -/
def view1 (h : Hp) (a : AV) : Option AV := match a with
  | .own id n => match h[id]? with
    | some (some (.arr _ s cells fz)) => if cells.length = n * s ∧ fz = cells.length then some (.t n s cells) else none
    | _ => none
  | a => some a
def mapO (f : AV → Option AV) : List AV → Option (List AV)
  | [] => some []
  | a :: r => match f a, mapO f r with
    | some a', some r' => some (a' :: r')
    | _, _ => none
def view2 (h : Hp) (a : AV) : Option AV := match a with
  | .g l => (mapO (view1 h) l).map .g
  | a => view1 h a
def viewL (h : Hp) (l : List AV) : Option (List AV) := mapO (view2 h) l

def FrzOk (X : Cx) : Prop := ∀ id T s cells b, X.h[id]? = some (some (.arr T s cells cells.length)) → (X.m id).1 = some b → ∀ o, o < cells.length → ¬ X.bad b o
theorem view1_ok {X : Cx} (hX : Ok X) (hF : FrzOk X) {a a' : AV} {v : Value} (h : view1 X.h a = some a') (hr : Rep X a v) : Rep X a' v := by
  unfold view1 at h
  split at h
  · next id n =>
    split at h
    · next T s cells fz hid =>
      split at h
      · next hc =>
        injection h with h; subst h
        obtain ⟨hl, rfl⟩ := hc
        exact Rep.frozen hX hid (fun b hb o ho => hF id T s cells b hid hb o ho) hl hr
      · cases h
    · cases h
  · injection h with h; subst h; exact hr
theorem mapO_ok {X : Cx} {f : AV → Option AV} (hf : ∀ a a' v, f a = some a' → Rep X a v → Rep X a' v) : ∀ (l l' : List AV) (vs : List Value), mapO f l = some l' → RepL X l vs → RepL X l' vs
  | [], l', vs, h, hr => by simp only [mapO] at h; injection h with h; subst h; exact hr
  | a :: r, l', [], h, hr => by have := hr.1; simp at this
  | a :: r, l', v :: vs, h, hr => by
    simp only [mapO] at h
    split at h
    · next a' r' e1 e2 =>
      injection h with h; subst h
      have ih := mapO_ok hf r r' vs e2 ⟨by have := hr.1; simp at this; omega, fun i b u q1 q2 => hr.2 (i + 1) b u (by simpa using q1) (by simpa using q2)⟩
      refine ⟨by have := ih.1; simp; omega, fun i b u q1 q2 => ?_⟩
      cases i with
      | zero => simp at q1 q2; subst q1 q2; exact hf a _ _ e1 (hr.2 0 a _ rfl rfl)
      | succ i => exact ih.2 i b u (by simpa using q1) (by simpa using q2)
    · cases h
theorem view2_ok {X : Cx} (hX : Ok X) (hF : FrzOk X) {a a' : AV} {v : Value} (h : view2 X.h a = some a') (hr : Rep X a v) : Rep X a' v := by
  unfold view2 at h
  split at h
  · next l =>
    cases hc : mapO (view1 X.h) l with
    | none => rw [hc] at h; cases h
    | some l' =>
      rw [hc] at h; injection h with h; subst h
      cases hr with
      | g hl hrr =>
      have := mapO_ok (fun a a' v h hr => view1_ok hX hF h hr) l l' _ hc ⟨hl, hrr⟩
      exact .g this.1 this.2
  · exact view1_ok hX hF h hr
theorem viewL_ok {X : Cx} (hX : Ok X) (hF : FrzOk X) {l l' : List AV} {vs : List Value} (h : viewL X.h l = some l') (hr : RepL X l vs) : RepL X l' vs := mapO_ok (fun a a' v h hr => view2_ok hX hF h hr) l l' vs h hr

def froze : Option Ob → Option Ob
  | some (.arr T s cells _) => some (.arr T s cells cells.length)
  | o => o
/-- All arrays are frozen, but those of which the bit is set. -/
def frzI (m k : Nat) (o : Option Ob) : Option Ob := if (m / 2 ^ k) % 2 = 1 then o else froze o
def frzM : Nat → Hp → Hp
  | _, [] => []
  | m, o :: r => (if m % 2 = 1 then o else froze o) :: frzM (m / 2) r
theorem frzM_get : ∀ (h : Hp) (m i : Nat), (frzM m h)[i]? = (h[i]?).map (frzI m i)
  | [], _, _ => by simp [frzM]
  | o :: r, m, 0 => by simp [frzM, frzI]
  | o :: r, m, i + 1 => by
    simp only [frzM, List.getElem?_cons_succ]
    rw [frzM_get r (m / 2) i]
    congr 1
    funext x
    unfold frzI
    rw [Nat.pow_succ, Nat.mul_comm (2 ^ i) 2, Nat.div_div_eq_div_mul]
theorem frzM_len : ∀ (h : Hp) (m : Nat), (frzM m h).length = h.length
  | [], _ => rfl
  | o :: r, m => by simp [frzM, frzM_len r]
theorem Ok.frzOk {X : Cx} (hX : Ok X) : FrzOk X := fun id T s cells b h1 h2 o ho hk => by
  obtain ⟨g1, g2, n, g3, g4⟩ := hX.arr id T s cells _ h1
  rcases g4 with g4 | ⟨b', cvs, g4⟩
  · rw [g4.1] at h2; cases h2
  · have := g4.at_
    rw [h2] at this; injection this with this; subst this
    exact g4.good o ho hk
theorem freeze_upto (m : Nat) {X : Cx} (hX : Ok X) : ∀ k, k ≤ X.h.length → ∃ Y, Y.w = X.w ∧ Step X Y ∧ Ok Y ∧ Y.h.length = X.h.length ∧ ∀ i, Y.h[i]? = if i < k then (X.h[i]?).map (frzI m i) else X.h[i]?
  | 0, _ => ⟨X, rfl, Step.refl X, hX, rfl, fun i => by simp⟩
  | k + 1, hk => by
    obtain ⟨Y, y1, y2, y3, y4, y5⟩ := freeze_upto m hX k (by omega)
    obtain ⟨o, ho⟩ : ∃ o, X.h[k]? = some o := ⟨_, List.getElem?_eq_getElem (by omega)⟩
    have hat : Y.h[k]? = some o := by rw [y5, if_neg (by omega)]; exact ho
    have same : frzI m k o = o → ∃ Z, Z.w = X.w ∧ Step X Z ∧ Ok Z ∧ Z.h.length = X.h.length ∧ ∀ i, Z.h[i]? = if i < k + 1 then (X.h[i]?).map (frzI m i) else X.h[i]? := fun e => by
      refine ⟨Y, y1, y2, y3, y4, fun i => ?_⟩
      rw [y5]
      by_cases hi : i = k
      · subst hi; rw [if_neg (by omega), if_pos (by omega), ho, Option.map_some, e]
      · by_cases h1 : i < k
        · rw [if_pos h1, if_pos (by omega)]
        · rw [if_neg h1, if_neg (by omega)]
    by_cases hm : (m / 2 ^ k) % 2 = 1
    · exact same (if_pos hm)
    · cases o with
      | none => exact same (by unfold frzI; rw [if_neg hm]; rfl)
      | some ob =>
        cases ob with
        | blk c => exact same (by unfold frzI; rw [if_neg hm]; rfl)
        | map es => exact same (by unfold frzI; rw [if_neg hm]; rfl)
        | arr T s cells fz =>
          refine ⟨Y.frz k T s cells, y1, y2.trans hX (Step.frz hat), Ok.frz y3 hat, by simp [Cx.frz, y4], fun i => ?_⟩
          simp only [Cx.frz]
          rw [List.getElem?_set]
          by_cases hi : k = i
          · subst hi
            rw [if_pos rfl, if_pos (by omega), if_pos (by omega), ho, Option.map_some]
            unfold frzI; rw [if_neg hm]; rfl
          · rw [if_neg hi, y5]
            by_cases h1 : i < k
            · rw [if_pos h1, if_pos (by omega)]
            · rw [if_neg h1, if_neg (by omega)]
theorem freeze_some (m : Nat) {X : Cx} (hX : Ok X) : ∃ Y, Y.w = X.w ∧ Step X Y ∧ Ok Y ∧ Y.h = frzM m X.h := by
  obtain ⟨Y, y1, y2, y3, y4, y5⟩ := freeze_upto m hX X.h.length (Nat.le_refl _)
  refine ⟨Y, y1, y2, y3, List.ext_getElem? fun i => ?_⟩
  rw [y5, frzM_get]
  split
  · rfl
  · next h => rw [List.getElem?_eq_none (by omega)]; rfl
theorem frzM_zero : ∀ (h : Hp), frzM 0 h = h.map froze
  | [] => rfl
  | o :: r => by simp [frzM, frzM_zero r]
/-- An operation that leaves all memory that is there as it is. -/
def appT (P : Program) (h : Hp) (t tx : TypeId) (s x : AV) : Option AV :=
  (elemP P t).bind fun T => (szP P T).bind fun sz => (bytP P T).bind fun by_ => (zeroP P T).bind fun z => (srcA P h tx sz x).bind fun mn =>
    if z.cells.size = sz ∧ 0 < sz ∧ mn.1 ≤ maxLen ∧ mn.1 * by_ ≤ 140737488355328 then
      match s with
      | .e0 => some (.t mn.1 sz mn.2)
      | .v (.slice none 0 0) => some (.t mn.1 sz mn.2)
      | _ => none
    else none
def cOp (P : Program) (p : AV → Hp → Prop) (o : Oper) (E : Operand → AV) (h : Hp) (K : AV → Prop) : Prop := match o.op with
  | .buildSlice T len parts => ∃ te s L, litA P h T len (parts.toList.map fun p => (p.1, E p.2)) = some (te, s, L) ∧ K (if len = 0 then .e0 else .t len s L)
  | .call c => match c.callee with
    | .value f => ∃ fid fst cap, E f = .fn (.func fid) fst cap ∧ ∃ res, HTP P fid (fst ++ c.args.toList.map E ++ cap) h (fun r h' => r = res ∧ h' = h) p ∧ K res
    | .builtin .append => c.args.size = 2 ∧ c.argTypes.size = 2 ∧ ∃ r, appT P h (c.argTypes.getD 0 0) (c.argTypes.getD 1 0) (E (c.args.getD 0 (.const undef))) (E (c.args.getD 1 (.const undef))) = some r ∧ K r
    | _ => rCall P c E h K
  | .convert s d x => ∃ r, convA P [] s d (E x) = some r ∧ K (.v r)
  | _ => rOp P o E h K

def Quiet (X : Cx) (w' : World) (av : AV) (v : Value) : Prop := Below X.w.heap.size X.w w' ∧ Rep ⟨w', X.m, X.h, X.bad, X.ds⟩ av v

def Calm (P : Program) (p : AV → Hp → Prop) (X : Cx) (o : Oper) (a : Act) (K : AV → Prop) : Prop := ∃ av, K av ∧
  ((∃ v w', (execOp a.eval o).run P X.w = .ok (.value v) w' ∧ Quiet X w' av v) ∨
   (∃ (f : FuncId) (args : Array Value), (execOp a.eval o).run P X.w = .ok (.enter f args) X.w ∧ Calls P f args X.w fun e w' => ∃ v Y a', Y.w = w' ∧ Step X Y ∧ Ok Y ∧ Rep Y a' v ∧ ((e = .returned v ∧ a' = av ∧ Y.h = X.h) ∨ (e = .panicked [{ v, recovered := false }] ∧ p a' Y.h))))

theorem Reads.calm {P : Program} {X : Cx} {o : Oper} {a : Act} {p : AV → Hp → Prop} {K : AV → Prop} (h : Reads P X o a K) : Calm P p X o a K := by
  obtain ⟨v, av, h1, h2, h3⟩ := h
  exact ⟨av, h3, .inl ⟨v, X.w, h1, Below.refl _ _, h2⟩⟩

theorem lit_tree {P : Program} {X : Cx} {T e : TypeId} {len s : Nat} {parts : List (Nat × AV)} {L : List AV} {vs : Array (Nat × Value)} (hX : Ok X) (hh : litA P X.h T len parts = some (e, s, L)) (hl : vs.size = parts.length)
    (hp : ∀ (i : Nat) (p : Nat × AV) (q : Nat × Value), parts[i]? = some p → vs.toList[i]? = some q → p.1 = q.1 ∧ Rep X p.2 q.2) (hmax : len ≤ maxLen) : ∃ v w', (Instr.buildSlice T len vs).run P X.w = .ok v w' ∧ Quiet X w' (if len = 0 then .e0 else .t len s L) v := by
  obtain ⟨h1, h2, ⟨z, h3⟩, h4, h5, h6, h7⟩ := litA_parts hh
  have hf := fun (c : Array Value) (hc : c.size = len * s) => fill_row parts vs.toList 0 c L h4 (by simpa using hl) hp (by rw [hc, h5, Nat.zero_add])
  obtain ⟨c', c, hc, hfc, hrun⟩ := buildSlice_run (P := P) (w := X.w) (c' := #[]) h1 h2 h3 h7 (fun c hc => by obtain ⟨c', q, _⟩ := hf c hc; exact ⟨c', q⟩)
  obtain ⟨c2, q1, q2, q3, q4, q5⟩ := hf c hc
  rw [hfc] at q1
  injection q1 with q1; subst q1
  have hcl : c'.toList.length = L.length := by rw [Array.length_toList, q2, hc, q5, h5]
  have S : ∀ b o x, cellAt X.w b o = some x → cellAt (X.w.alloc (.cells c' e)) b o = some x := fun b o x hx => by
    have hlt := cellAt_lt hx
    unfold cellAt at hx ⊢
    rw [World.cell?_alloc_lt (h := hlt)]; exact hx
  have SS : Step X ⟨X.w.alloc (.cells c' e), X.m, X.h, X.bad, X.ds⟩ := ⟨rfl, rfl, rfl, by simp, fun b hb _ => Below.heap_alloc _ _ _ hb, fun b o x hx hb => ⟨S b o x hx, hb⟩, Nat.le_refl _, fun i T' s c f' _ hi => ⟨c, f', hi, Nat.le_refl _, fun _ => rfl⟩, fun i c _ hi => ⟨c, hi, rfl⟩, fun b hb => .inr hb, fun _ _ hb => .inl hb, fun i c _ hi => ⟨c, hi, rfl⟩, rfl⟩
  refine ⟨_, _, hrun, ⟨(Below.refl _ _).alloc (Nat.le_refl _) _, ?_⟩⟩
  split
  · next h0 => subst h0; exact .e0 (some X.w.heap.size)
  refine .t (by rw [q5, h5]) hcl (Nat.le_refl _) hmax (fun _ => ⟨X.w.heap.size, 0, rfl, fun i x hx => ⟨?_, fun hk => ?_⟩⟩) (fun i a x r1 r2 => ?_)
  · rw [Nat.zero_add, cellAt_blk (heap_alloc_new X.w _)]; simpa using hx
  · exact absurd (hX.badlt _ _ hk) (by omega)
  · exact (q4 i a x r1 (by simpa using r2)).mono SS

theorem app_tree {P : Program} {X : Cx} {t tx ty : TypeId} {s x r : AV} {v u : Value} (hX : Ok X) (h : appT P X.h t tx s x = some r) (hs : Rep X s v) (hx : Rep X x u) :
    ∃ v' w', (Builtin.append_ #[t, tx] ty #[v, u]).run P X.w = .ok v' w' ∧ Quiet X w' r v' := by
  unfold appT at h
  cases h1 : elemP P t with
  | none => rw [h1] at h; cases h
  | some T =>
  rw [h1] at h
  simp only [Option.bind_some] at h
  cases h2 : szP P T with
  | none => rw [h2] at h; cases h
  | some sz =>
  rw [h2] at h
  simp only [Option.bind_some] at h
  cases h3 : bytP P T with
  | none => rw [h3] at h; cases h
  | some by_ =>
  rw [h3] at h
  simp only [Option.bind_some] at h
  cases h4 : zeroP P T with
  | none => rw [h4] at h; cases h
  | some z =>
  rw [h4] at h
  simp only [Option.bind_some] at h
  cases h5 : srcA P X.h tx sz x with
  | none => rw [h5] at h; cases h
  | some mn =>
  obtain ⟨m, newA⟩ := mn
  rw [h5] at h
  simp only [Option.bind_some] at h
  obtain ⟨i, hi, hsi⟩ := szP_i h2
  obtain ⟨i2, hi2, hz⟩ := zeroP_i h4
  have hii : i2 = i := by rw [hi] at hi2; injection hi2 with e; exact e.symm
  subst hii
  have hb : i2.bytes = by_ := by unfold bytP at h3; rw [hi] at h3; injection h3
  subst hsi
  obtain ⟨news, q1, q2, q3⟩ := srcA_ok hX h5 hx
  split at h
  · next hc =>
    obtain ⟨hzs, hs0, h63, hby⟩ := hc
    have key : ∃ b, v = sliceVal (b, 0) 0 ∧ r = .t m i2.size newA := by
      split at h
      · injection h with h; cases hs with | e0 b => exact ⟨b, rfl, h.symm⟩
      · injection h with h; cases hs; exact ⟨none, rfl, h.symm⟩
      · cases h
    obtain ⟨b, rfl, rfl⟩ := key
    have ht := elemP_u h1
    have hnewl : newA.length = m * i2.size := by rw [q2]; exact q1.newsLen
    rcases Nat.eq_zero_or_pos m with rfl | hm0
    · have hn0 : newA = [] := List.eq_nil_of_length_eq_zero (by rw [hnewl]; omega)
      have hw0 : news = [] := List.eq_nil_of_length_eq_zero (by rw [← q2, hnewl]; omega)
      subst hn0 hw0
      refine ⟨sliceVal (b, 0) 0, X.w, ?_, Below.refl _ _, .t (cvs := []) (by simp) rfl (Nat.le_refl _) (Nat.zero_le _) (fun h => absurd h (Nat.lt_irrefl _)) (fun i a x h1 => by simp at h1)⟩
      cases b with
      | none => rcases q1.kind with ⟨e', hk⟩ | hk <;> simp [sliceVal, Builtin.append_, run_underlying ht, run_underlying hk, sizeOf, typeInfo, hi, q1.len, q1.cells]
      | some b =>
        have hr := run_append_room_src (P := P) X.w t tx ty T i2 ht hi b 0 0 0 u 0 [] q1 (Nat.le_refl _) (by intro j hj; simp at hj) (by intro j hj; simp at hj)
        rw [show sliceVal (some b, 0) 0 = .slice (some ⟨b, 0, none⟩) 0 0 from rfl, hr]; rfl
    · have hfc : (Builtin.firstCells i2.size 0 (sliceVal (b, 0) 0)).run P X.w.drew = .ok ([] : List Value).toArray X.w.drew := by
        cases b with
        | none => exact run_firstCells_none X.w.drew i2.size 0 0 0
        | some b => exact run_firstCells_some X.w.drew i2.size 0 ⟨b, 0, none⟩ 0 0 [] (by simp) (fun j u hu => by simp at hu)
      have hr := run_append_grow_src (P := P) X.w t tx ty T i2 z ht hi hz (b.map fun b => ⟨b, 0, none⟩) 0 0 [] hfc u m news q1 (by omega) (by rw [Nat.zero_add]; unfold maxLen at h63; omega)
        (by rw [Nat.zero_add]; exact Nat.le_trans (Nat.mul_le_mul_right _ (nextcap_le (by omega))) (by rw [Nat.mul_assoc]; rw [hb]; omega))
      have hle := grownCap_ge X.w (0 + m) 0 T
      have hmx := grownCap_le_maxLen X.w (0 + m) 0 T (by rw [Nat.zero_add]; exact h63)
      simp only [show (0 + m : Nat) = m from Nat.zero_add m] at hr hle hmx
      generalize hC : grownCap X.w m 0 T = C at hr hle hmx
      have SS : Step X ⟨X.w.drew.alloc (.cells (([] ++ news).toArray ++ Builtin.zeroCells z.cells (C - m)) T), X.m, X.h, X.bad, X.ds⟩ := ⟨rfl, rfl, rfl, by simp, fun b hb _ => Below.heap_alloc X.w.drew _ b hb, fun b o y hy hb => ⟨by
        have hb' := cellAt_lt hy
        unfold cellAt at hy ⊢
        rw [World.cell?_alloc_lt (h := hb')]; exact hy, hb⟩, Nat.le_refl _, fun i T' s c f' _ hi => ⟨c, f', hi, Nat.le_refl _, fun _ => rfl⟩, fun i c _ hi => ⟨c, hi, rfl⟩, fun b hb => .inr hb, fun _ _ hb => .inl hb, fun i c _ hi => ⟨c, hi, rfl⟩, rfl⟩
      refine ⟨_, _, hr, ⟨?_, ?_⟩⟩
      · exact ⟨rfl, rfl, rfl, by simp, fun b hb => Below.heap_alloc X.w.drew _ b hb⟩
      · refine .t (cvs := news) hnewl q2.symm (by omega) hmx (fun _ => ⟨X.w.heap.size, 0, rfl, fun i x hx => ⟨?_, fun hk => ?_⟩⟩) (fun i a x r1 r2 => (q3 i a x r1 r2).mono SS)
        · have hi' := (List.getElem?_eq_some_iff.1 hx).1
          rw [Nat.zero_add]
          show cellAt (X.w.drew.alloc _) X.w.drew.heap.size i = some x
          rw [cellAt_blk (heap_alloc_new X.w.drew _), Array.getElem?_append_left (by simpa using hi')]
          simpa using hx
        · exact absurd (hX.badlt _ _ hk) (by omega)
  · cases h

theorem cOp_ok {P : Program} {X : Cx} {E : Operand → AV} {a : Act} {o : Oper} {p : AV → Hp → Prop} {K : AV → Prop} (hX : Ok X) (hF : FrzOk X) (hE : ∀ x, x ∈ o.op.operands → Rep X (E x) (a.eval x)) (h : cOp P p o E X.h K) : Calm P p X o a K := by
  unfold cOp at h
  split at h
  · next T len parts ho =>
    obtain ⟨te, s, L, hl, hK⟩ := h
    have hp := litA_parts hl
    have hlen : len ≤ maxLen := by
      have h1 := hp.2.2.2.2.2.2
      have h2 : len * 1 ≤ len * s := Nat.mul_le_mul_left _ hp.2.2.2.2.2.1
      unfold maxLen; omega
    obtain ⟨v, w', q1, q2⟩ := lit_tree (P := P) hX hl (by simp) (parts_rep parts fun x hx => hE x (by rw [ho]; exact hx)) hlen
    exact ⟨_, hK, .inl ⟨v, w', by simp [execOp, ho, q1], q2⟩⟩
  · next c ho =>
    split at h
    · next f hc =>
      obtain ⟨fid, fst, cap, hf, res, hT, hK⟩ := h
      have hx : execOp a.eval o = (do let d ← resolve a.eval c o.type; invoke d.target d.args) := by simp [execOp, ho]
      have hE' : ∀ x, x ∈ c.operands → Rep X (E x) (a.eval x) := fun x hx => hE x (by rw [ho]; exact hx)
      have hA : ∀ x, x ∈ c.args → Rep X (E x) (a.eval x) := fun x hx => hE' x (by unfold Call.operands; exact Array.mem_append.2 (.inr hx))
      have hrf := hE' f (by unfold Call.operands; rw [hc]; simp)
      rw [hf] at hrf
      generalize hv : a.eval f = fv at hrf
      cases hrf with
      | @fn _ _ _ v1 v2 l1 l2 r1 r2 =>
      have hR := repL_app (repL_app ⟨l1, r1⟩ (args_rep c.args hA)) ⟨l2, r2⟩
      have hcall := hT.2 X _ hX rfl hR
      refine ⟨res, hK, .inr ⟨fid, (v1 ++ c.args.toList.map a.eval ++ v2).toArray, ?_, ?_⟩⟩
      · rw [hx]
        simp [resolve, hc, hv, Deferred.ofValue, invoke, callFunc_run hT.1]
      · refine hcall.mono ?_
        rintro e w' ⟨v, Y, av, q1, q2, q3, q4, ⟨q5, q6, q7⟩ | ⟨q5, q6⟩⟩
        · exact ⟨v, Y, av, q1, q2, q3, q4, .inl ⟨q5, q6, q7⟩⟩
        · exact ⟨v, Y, av, q1, q2, q3, q4, .inr ⟨q5, q6⟩⟩
    · next hc =>
      obtain ⟨hs, ht, r, hr, hK⟩ := h
      have hx : execOp a.eval o = (do let d ← resolve a.eval c o.type; invoke d.target d.args) := by simp [execOp, ho]
      have hA : ∀ x, x ∈ c.args → Rep X (E x) (a.eval x) := fun x hx => hE x (by rw [ho]; exact Array.mem_append.2 (.inr hx))
      obtain ⟨y, y2, hy⟩ : ∃ y y2, c.args = #[y, y2] := by
        match hm : c.args with
        | ⟨[y, y2]⟩ => exact ⟨y, y2, rfl⟩
        | ⟨[]⟩ => rw [hm] at hs; cases hs
        | ⟨[_]⟩ => rw [hm] at hs; cases hs
        | ⟨_ :: _ :: _ :: _⟩ => rw [hm] at hs; simp at hs
      obtain ⟨t, t2, hty⟩ : ∃ t t2, c.argTypes = #[t, t2] := by
        match hm : c.argTypes with
        | ⟨[y, y2]⟩ => exact ⟨y, y2, rfl⟩
        | ⟨[]⟩ => rw [hm] at ht; cases ht
        | ⟨[_]⟩ => rw [hm] at ht; cases ht
        | ⟨_ :: _ :: _ :: _⟩ => rw [hm] at ht; simp at ht
      rw [hy, hty] at hr
      have hr : appT P X.h t t2 (E y) (E y2) = some r := hr
      obtain ⟨v', w', q1, q2⟩ := app_tree (P := P) (ty := o.type) hX hr (hA y (by rw [hy]; simp)) (hA y2 (by rw [hy]; simp))
      exact ⟨r, hK, .inl ⟨v', w', by rw [hx]; simp [resolve, hc, hy, hty, invoke, builtin, q1], q2⟩⟩
    · exact (rCall_ok hX (fun x hx => hE x (by rw [ho]; exact hx)) ho h).calm
  · next sx dx x ho =>
    obtain ⟨r, hr, hK⟩ := h
    refine (rOp_ok hX hE (K := K) ?_).calm
    unfold rOp
    rw [ho]
    exact ⟨r, convA_any _ hr, hK⟩
  · exact (rOp_ok hX hE h).calm
end Go.Proofs.YtljfgdlgmdcmfaaGreat.Wv
