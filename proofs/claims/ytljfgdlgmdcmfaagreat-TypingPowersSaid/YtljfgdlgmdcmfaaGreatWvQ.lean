/- The machine of abstract values: from the head of a drawn region to its tail. -/
import Derived.Test.YtljfgdlgmdcmfaaGreatWvP
namespace Go.Proofs.YtljfgdlgmdcmfaaGreat.Wv
open Go.RowKit
set_option linter.unusedVariables false
set_option autoImplicit false

theorem Rep.ext {X Y : Cx} {hs : Hp} (hw : Y.w = X.w) (hb : Y.bad = X.bad) (hh : Y.h = X.h ++ hs) (hm : ∀ i, i < X.h.length → Y.m i = X.m i) (hk : ∀ c, Y.mine c → X.mine c ∨ ∃ cvs T f, X.w.heap[c]? = some (.cells cvs T f)) {a : AV} {x : Value} (h : Rep X a x) : Rep Y a x := by
  have hat : ∀ {i : Nat}, i < X.h.length → Y.h[i]? = X.h[i]? := fun hi => by rw [hh, List.getElem?_append_left hi]
  have hlen : X.h.length ≤ Y.h.length := by rw [hh]; simp
  induction h with
  | v x => exact .v x
  | none x => exact .none x
  | t hl hc hn hcap hp hr ih =>
    refine .t hl hc hn hcap (fun h0 => ?_) ih
    obtain ⟨b, off, e, k⟩ := hp h0
    exact ⟨b, off, e, fun i x hx => by rw [hw, hb]; exact k i x hx⟩
  | g hc hr ih => exact .g hc ih
  | tup hc hr ih => exact .tup hc ih
  | tp hc hp hr ih => exact .tp hc (fun i x hx => by rw [hw, hb]; exact hp i x hx) ih
  | fn h1 h2 r1 r2 ih1 ih2 => exact .fn h1 h2 ih1 ih2
  | ifc h ih => exact .ifc ih
  | e0 b => exact .e0 b
  | own hid h => exact .own (Nat.lt_of_lt_of_le hid hlen) fun T size cells fz hk => by rw [hat hid] at hk; rw [hm _ hid]; exact h _ _ _ _ hk
  | ptr hid h => exact .ptr (Nat.lt_of_lt_of_le hid hlen) fun cells hk => by rw [hat hid] at hk; rw [hm _ hid]; exact h _ hk
  | ap hid h => exact .ap (Nat.lt_of_lt_of_le hid hlen) fun T size cells fz hk => by rw [hat hid] at hk; rw [hm _ hid]; exact h _ _ _ _ hk
  | mp hid h => exact .mp (Nat.lt_of_lt_of_le hid hlen) fun es hk => by rw [hat hid] at hk; rw [hm _ hid]; exact h _ hk
  | tm hb hn hl hk' hr ih =>
    refine .tm (by rw [hw]; exact hb) (fun hy => ?_) hl hk' ih
    rcases hk _ hy with h | ⟨cvs, T, f, h⟩
    · exact hn h
    · rw [hb] at h; cases h

def blkOf (p : Tmp × Value) : Option Ob := some (.blk (vcells p.2))

/-- A block that was made is taken among what is owned. -/
theorem adopt1 {X0 X : Cx} {p : Tmp × Value} {b : Nat} (hX : Ok X) (S : Step X0 X) (hM : Made X0 X p.2 b) (hno : ¬ X.mine b) :
    ∃ Y, Y.w = X.w ∧ Y.bad = X.bad ∧ Y.h = X.h ++ [blkOf p] ∧ Y.ds = X.ds ∧ (∀ i, i < X.h.length → Y.m i = X.m i) ∧ Step X0 Y ∧ Ok Y ∧ Rep Y (.ptr X.h.length 0) (.pointer (some ⟨b, 0, none⟩)) ∧ (∀ c, Y.mine c → c = b ∨ X.mine c) := by
  obtain ⟨T, hcell⟩ := hM.cells
  have hY : ∃ Y : Cx, Y.w = X.w ∧ Y.bad = X.bad ∧ Y.h = X.h ++ [blkOf p] ∧ (Y.m = fun i => if i = X.h.length then (some b, 0) else X.m i) ∧ Y.ds = X.ds := ⟨⟨X.w, fun i => if i = X.h.length then (some b, 0) else X.m i, X.h ++ [blkOf p], X.bad, X.ds⟩, rfl, rfl, rfl, rfl, rfl⟩
  obtain ⟨Y, y1, y2, y3, y4, y5⟩ := hY
  have hm : ∀ i, i < X.h.length → Y.m i = X.m i := fun i hi => by rw [y4]; exact if_neg (by omega)
  have hmn : Y.m X.h.length = (some b, 0) := by rw [y4]; exact if_pos rfl
  have hat : ∀ {i : Nat}, i < X.h.length → Y.h[i]? = X.h[i]? := fun hi => by rw [y3, List.getElem?_append_left hi]
  have hnew : Y.h[X.h.length]? = some (blkOf p) := by rw [y3]; simp
  have hcase : ∀ i o, Y.h[i]? = some (some o) → (i = X.h.length ∧ o = .blk (vcells p.2)) ∨ (i < X.h.length ∧ X.h[i]? = some (some o)) := by
    intro i o ho
    have hl := (List.getElem?_eq_some_iff.1 ho).1
    rw [y3] at hl
    simp only [List.length_append, List.length_singleton] at hl
    by_cases e : i = X.h.length
    · subst e
      rw [hnew] at ho
      injection ho with ho; injection ho with ho
      exact .inl ⟨rfl, ho.symm⟩
    · exact .inr ⟨by omega, by rw [← hat (by omega)]; exact ho⟩
  have hmine : ∀ c, Y.mine c → c = b ∨ X.mine c := by
    intro c ⟨i, ⟨o, ho⟩, he⟩
    rcases hcase i o ho with ⟨rfl, _⟩ | ⟨hi, h1⟩
    · rw [hmn] at he; injection he with he; exact .inl he.symm
    · rw [hm i hi] at he; exact .inr ⟨i, ⟨o, h1⟩, he⟩
  have tr : ∀ {a : AV} {x : Value}, Rep X a x → Rep Y a x := fun h => h.ext y1 y2 y3 hm fun c hc => (hmine c hc).symm.imp id fun e => ⟨_, _, _, e ▸ hcell⟩
  have S2 : Step X0 Y := by
    refine ⟨by rw [y1]; exact S.os, by rw [y1]; exact S.tape, by rw [y1]; exact S.output, by rw [y1]; exact S.size, fun c hc hk => by rw [y1]; exact S.block c hc hk, fun c o x hx hk => by rw [y1, y2]; exact S.keep c o x hx hk, by rw [y3]; have := S.len; simp; omega, fun i U s c f hi hk => ?_, fun i c hi hk => ?_, fun c hc => ?_, fun c o hk => by rw [y2]; exact S.badk c o hk, fun i c hi hk => ?_, y5.trans S.dse⟩
    · have hi' := Nat.lt_of_lt_of_le hi S.len
      rw [hat hi'] at hk
      rw [hm i hi']
      exact S.oarr i U s c f hi hk
    · have hi' := Nat.lt_of_lt_of_le hi S.len
      rw [hat hi'] at hk
      rw [hm i hi']
      exact S.oblk i c hi hk
    · rcases hmine c hc with rfl | h
      · exact .inl hM.new
      · exact S.own c h
    · have hi' := Nat.lt_of_lt_of_le hi S.len
      rw [hat hi'] at hk
      rw [hm i hi']
      exact S.omap i c hi hk
  refine ⟨Y, y1, y2, y3, y5, hm, S2, ⟨fun id cells ho => ?_, fun id U s cells fz ho => ?_, fun i j c hi hj ei ej => ?_, fun c o hk => by rw [y2] at hk; rw [y1]; exact hX.badlt c o hk, fun id es ho => ?_⟩, ?_, hmine⟩
  · rcases hcase id _ ho with ⟨rfl, e⟩ | ⟨hi, h1⟩
    · injection e with e; subst e
      exact ⟨b, p.2.cells, T, by rw [hmn], by rw [y1]; exact hcell, by simp [vcells], fun o => by rw [y2]; exact hM.bad o, vcells_rep p.2⟩
    · obtain ⟨c, cvs, T', q1, q2, q3, q4, q5⟩ := hX.blk id cells h1
      exact ⟨c, cvs, T', by rw [hm id hi]; exact q1, by rw [y1]; exact q2, q3, fun o => by rw [y2]; exact q4 o, fun i a x r1 r2 => tr (q5 i a x r1 r2)⟩
  · rcases hcase id _ ho with ⟨_, e⟩ | ⟨hi, h1⟩
    · cases e
    · obtain ⟨g1, g2, n, g3, g4⟩ := hX.arr id U s cells fz h1
      refine ⟨g1, g2, n, g3, ?_⟩
      rcases g4 with g4 | ⟨c, cvs, g4⟩
      · exact .inl (by rw [hm id hi]; exact g4)
      · exact .inr ⟨c, cvs, ⟨by rw [hm id hi]; exact g4.at_, by rw [y1]; exact g4.blk, by rw [hm id hi]; exact g4.cap, by rw [hm id hi]; exact g4.capm, by rw [hm id hi]; exact g4.sz, fun o ho => by rw [y2]; exact g4.bad o ho, fun i a x r1 r2 => tr (g4.rep i a x r1 r2), fun o ho => by rw [y2]; exact g4.good o ho⟩⟩
  · obtain ⟨oi, ho⟩ := hi
    obtain ⟨oj, hp⟩ := hj
    rcases hcase i oi ho with ⟨rfl, _⟩ | ⟨hi, h1⟩
    · rw [hmn] at ei; injection ei with ei; subst ei
      rcases hcase j oj hp with ⟨rfl, _⟩ | ⟨hj, h2⟩
      · rfl
      · rw [hm j hj] at ej; exact absurd ⟨j, ⟨_, h2⟩, ej⟩ hno
    · rcases hcase j oj hp with ⟨rfl, _⟩ | ⟨hj, h2⟩
      · rw [hmn] at ej; injection ej with ej; subst ej
        rw [hm i hi] at ei; exact absurd ⟨i, ⟨_, h1⟩, ei⟩ hno
      · rw [hm i hi] at ei; rw [hm j hj] at ej
        exact hX.inj i j c ⟨_, h1⟩ ⟨_, h2⟩ ei ej
  · rcases hcase id _ ho with ⟨_, e⟩ | ⟨hi, h1⟩
    · cases e
    · obtain ⟨c, ents, clock, q1, q2, q3, q4⟩ := hX.map id es h1
      exact ⟨c, ents, clock, by rw [hm id hi]; exact q1, by rw [y1]; exact q2, q3, fun i p e r1 r2 => ⟨(q4 i p e r1 r2).1, tr (q4 i p e r1 r2).2⟩⟩
  · refine .ptr (by rw [y3]; simp) fun cells hk => ⟨b, by rw [hmn], rfl⟩

theorem adopt {X0 : Cx} : ∀ (al : List (Tmp × Value)) (bl : List Nat) (X : Cx), Ok X → Step X0 X → al.length = bl.length → (∀ (r : Nat) (p : Tmp × Value) (b : Nat), al[r]? = some p → bl[r]? = some b → Made X0 X p.2 b ∧ ¬ X.mine b) → bl.Nodup →
    ∃ Y, Y.w = X.w ∧ Step X0 Y ∧ Ok Y ∧ Y.h = X.h ++ al.map blkOf ∧ Y.ds = X.ds ∧ (∀ (a : AV) (v : Value), Rep X a v → Rep Y a v) ∧ ∀ (r b : Nat), bl[r]? = some b → Rep Y (.ptr (X.h.length + r) 0) (.pointer (some ⟨b, 0, none⟩))
  | [], [], X, hX, S, _, _, _ => ⟨X, rfl, S, hX, by simp, rfl, fun _ _ h => h, fun r b h => by simp at h⟩
  | [], b :: bl, _, _, _, h, _, _ => by simp at h
  | p :: al, [], _, _, _, h, _, _ => by simp at h
  | p :: al, b :: bl, X, hX, S, hl, hM, hnd => by
    obtain ⟨m1, m2⟩ := hM 0 p b rfl rfl
    obtain ⟨Y, y1, y2, y3, y9, y4, y5, y6, y7, y8⟩ := adopt1 hX S m1 m2
    have hnd' := List.nodup_cons.1 hnd
    obtain ⟨Z, z1, z2, z3, z4, z7, z5, z6⟩ := adopt al bl Y y6 y5 (by simpa using hl) (fun r p' b' h1 h2 => by
      obtain ⟨q1, q2⟩ := hM (r + 1) p' b' (by simpa using h1) (by simpa using h2)
      refine ⟨⟨q1.new, ?_, fun o => by rw [y2]; exact q1.bad o⟩, fun hk => ?_⟩
      · obtain ⟨T, hT⟩ := q1.cells
        exact ⟨T, by rw [y1]; exact hT⟩
      · rcases y8 b' hk with rfl | h
        · exact hnd'.1 (List.mem_of_getElem? h2)
        · exact q2 h) hnd'.2
    refine ⟨Z, z1.trans y1, z2, z3, by rw [z4, y3]; simp, z7.trans y9, fun a v h => z5 a v (h.ext y1 y2 y3 y4 fun c hc => (y8 c hc).symm.imp id fun e => by
      obtain ⟨T, hT⟩ := m1.cells
      exact ⟨_, _, _, e ▸ hT⟩), fun r c hr => ?_⟩
    cases r with
    | zero => simp at hr; subst hr; exact z5 _ _ y7
    | succ r =>
      have := z6 r c (by simpa using hr)
      rw [y3] at this
      simp only [List.length_append, List.length_singleton] at this
      rw [show X.h.length + (r + 1) = X.h.length + 1 + r by omega]; exact this

def allocIdx (P : Program) : List Oper → Nat → List Nat
  | [], _ => []
  | o :: r, s => match isAlloc o, o.op, o.dst with
    | true, .alloc T, some _ => match zeroP P T with
      | some _ => s :: allocIdx P r (s + 1)
      | none => allocIdx P r (s + 1)
    | _, _, _ => allocIdx P r (s + 1)

theorem alloc_pair {P : Program} : ∀ (l : List Oper) (s : Nat), (allocsOf P l).length = (allocIdx P l s).length ∧ (∀ (r : Nat) (p : Tmp × Value) (i : Nat), (allocsOf P l)[r]? = some p → (allocIdx P l s)[r]? = some i → s ≤ i ∧ ∃ o, l[i - s]? = some o ∧ isAlloc o = true ∧ o.dst = some p.1 ∧ zOf P o = some p.2) ∧
    (allocIdx P l s).Pairwise (· < ·) ∧ (∀ i, i ∈ allocIdx P l s → s ≤ i) ∧ (∀ (i : Nat) (o : Oper) (d : Nat), l[i]? = some o → isAlloc o = true → o.dst = some d → (zOf P o).isSome = true → s + i ∈ allocIdx P l s)
  | [], s => ⟨rfl, fun r p i h => by simp [allocsOf] at h, List.Pairwise.nil, fun i h => by simp [allocIdx] at h, fun i o d h => by simp at h⟩
  | o :: l, s => by
    obtain ⟨h1, h2, h3, h4, h5⟩ := alloc_pair (P := P) l (s + 1)
    have skip : allocsOf P (o :: l) = allocsOf P l → allocIdx P (o :: l) s = allocIdx P l (s + 1) → (∀ d, isAlloc o = true → o.dst = some d → (zOf P o).isSome = true → False) →
        (allocsOf P (o :: l)).length = (allocIdx P (o :: l) s).length ∧ (∀ (r : Nat) (p : Tmp × Value) (i : Nat), (allocsOf P (o :: l))[r]? = some p → (allocIdx P (o :: l) s)[r]? = some i → s ≤ i ∧ ∃ o', (o :: l)[i - s]? = some o' ∧ isAlloc o' = true ∧ o'.dst = some p.1 ∧ zOf P o' = some p.2) ∧
        (allocIdx P (o :: l) s).Pairwise (· < ·) ∧ (∀ i, i ∈ allocIdx P (o :: l) s → s ≤ i) ∧ (∀ (i : Nat) (o' : Oper) (d : Nat), (o :: l)[i]? = some o' → isAlloc o' = true → o'.dst = some d → (zOf P o').isSome = true → s + i ∈ allocIdx P (o :: l) s) := by
      intro e1 e2 hno
      rw [e1, e2]
      refine ⟨h1, fun r p i q1 q2 => ?_, h3, fun i hi => by have := h4 i hi; omega, fun i o' d q1 q2 q3 q4 => ?_⟩
      · obtain ⟨q3, o', q4, q5⟩ := h2 r p i q1 q2
        refine ⟨by omega, o', ?_, q5⟩
        rw [show i - s = (i - (s + 1)) + 1 by omega]; simpa using q4
      · cases i with
        | zero => simp at q1; subst q1; exact (hno d q2 q3 q4).elim
        | succ i => rw [show s + (i + 1) = s + 1 + i by omega]; exact h5 i o' d (by simpa using q1) q2 q3 q4
    by_cases hal : isAlloc o = true
    · have hop : ∃ T, o.op = .alloc T := by
        unfold isAlloc at hal
        simp only [Bool.and_eq_true] at hal
        cases ho : o.op <;> rw [ho] at hal <;> simp at hal
        exact ⟨_, rfl⟩
      obtain ⟨T, hop⟩ := hop
      cases hd : o.dst with
      | none =>
        exact skip (by simp [allocsOf, hal, hop, hd]) (by simp [allocIdx, hal, hop, hd]) (fun d _ h => by rw [hd] at h; cases h)
      | some d =>
        cases hz : zeroP P T with
        | none =>
          exact skip (by simp [allocsOf, hal, hop, hd, hz]) (by simp [allocIdx, hal, hop, hd, hz]) (fun d _ _ h => by unfold zOf at h; rw [hop] at h; simp [hz] at h)
        | some z =>
          have e1 : allocsOf P (o :: l) = (d, z) :: allocsOf P l := by simp [allocsOf, hal, hop, hd, hz]
          have e2 : allocIdx P (o :: l) s = s :: allocIdx P l (s + 1) := by simp [allocIdx, hal, hop, hd, hz]
          rw [e1, e2]
          refine ⟨by simp [h1], fun r p i q1 q2 => ?_, List.Pairwise.cons (fun i hi => by have := h4 i hi; omega) h3, fun i hi => ?_, fun i o' d' q1 q2 q3 q4 => ?_⟩
          · cases r with
            | zero =>
              simp at q1 q2; subst q1 q2
              exact ⟨Nat.le_refl _, o, by simp, hal, hd, by unfold zOf; rw [hop]; exact hz⟩
            | succ r =>
              obtain ⟨q3, o', q4, q5⟩ := h2 r p i (by simpa using q1) (by simpa using q2)
              refine ⟨by omega, o', ?_, q5⟩
              rw [show i - s = (i - (s + 1)) + 1 by omega]; simpa using q4
          · rcases List.mem_cons.1 hi with rfl | hi
            · exact Nat.le_refl _
            · have := h4 i hi; omega
          · cases i with
            | zero => simp
            | succ i =>
              rw [show s + (i + 1) = s + 1 + i by omega]
              exact List.mem_cons_of_mem _ (h5 i o' d' (by simpa using q1) q2 q3 q4)
    · have hal : isAlloc o = false := by simpa using hal
      exact skip (by simp [allocsOf, hal]) (by simp [allocIdx, hal]) (fun d h => by rw [hal] at h; cases h)

/-- The variables that were made, named. -/
def allocEnv : Nat → List (Tmp × Value) → Ev → Ev
  | _, [], e => e
  | n, (d, _) :: r, e => (d, .ptr n 0) :: allocEnv (n + 1) r e
theorem allocEnv_ne : ∀ (al : List (Tmp × Value)) (n : Nat) (e : Ev) (t : Nat), (∀ p, p ∈ al → p.1 ≠ t) → getE (allocEnv n al e) t = getE e t
  | [], _, _, _, _ => rfl
  | (d, z) :: r, n, e, t, h => by
    show (if d = t then _ else getE (allocEnv (n + 1) r e) t) = _
    rw [if_neg (h (d, z) (List.mem_cons_self ..)), allocEnv_ne r (n + 1) e t (fun p hp => h p (List.mem_cons_of_mem _ hp))]
theorem allocEnv_at : ∀ (al : List (Tmp × Value)) (n : Nat) (e : Ev) (t : Nat), (∃ p, p ∈ al ∧ p.1 = t) → ∃ (r : Nat) (z : Value), al[r]? = some (t, z) ∧ getE (allocEnv n al e) t = .ptr (n + r) 0
  | [], _, _, _, h => by obtain ⟨p, hp, _⟩ := h; simp at hp
  | (d, z) :: r, n, e, t, h => by
    by_cases hd : d = t
    · subst hd
      exact ⟨0, z, rfl, by show (if d = d then _ else _) = _; rw [if_pos rfl, Nat.add_zero]⟩
    · obtain ⟨p, hp, he⟩ := h
      have hp' : p ∈ r := by
        rcases List.mem_cons.1 hp with rfl | hp
        · exact absurd he hd
        · exact hp
      obtain ⟨q, z', h1, h2⟩ := allocEnv_at r (n + 1) e t ⟨p, hp', he⟩
      refine ⟨q + 1, z', by simpa using h1, ?_⟩
      show (if d = t then _ else getE (allocEnv (n + 1) r e) t) = _
      rw [if_neg hd, h2, show n + 1 + q = n + (q + 1) by omega]

section
variable {P : Program} {p₀ : AV → Hp → Prop} {N k : Nat} {ops : Array Oper} {X0 : Cx} {e0 : Ev} {vals : List AV}

theorem pure_not_alloc {o : Oper} (h : isPure o = true) : isAlloc o = false := by
  unfold isPure at h
  simp only [Bool.and_eq_true] at h
  unfold isAlloc
  cases ho : o.op <;> rw [ho] at h <;> simp at h ⊢

/-- No call of the head has an answer that no value is. -/
def Alive (ops : Array Oper) (k : Nat) (e : Ev) : Prop := ∀ (i : Nat) (o : Oper) (d : Nat), i < k → ops[i]? = some o → isPure o = false → isAlloc o = false → o.dst = some d → isPz (getE e d) = false
/-- The head has run, but for what only computes. -/
theorem InvA.turn (D : Dat P p₀ N k ops X0 e0 vals) {L : Nat → Bool} {a : Act} {X : Cx} {bs : Nat → Nat} (I : InvA P N k ops X0 e0 vals L a X bs) {K : Ev → Hp → Prop} (hpure : ∀ (j : Nat) (o : Oper), j < k → ops[j]? = some o → L j = false → isPure o = true)
    (htodo : Alive ops k (eHd ops k e0 vals) → wOps P p₀ ops.toList (ops.toList.drop k) (allocEnv X0.h.length (allocsOf P (ops.toList.take k)) (eHd ops k e0 vals)) (X0.h ++ (allocsOf P (ops.toList.take k)).map blkOf) K) :
    ∃ Y e, Y.w = X.w ∧ InvB P N k ops X0 e0 vals p₀ K L a Y e 0 := by
  have halive : Alive ops k (eHd ops k e0 vals) := fun i o d hi ho hp ha hd => by
    cases hz : isPz (getE (eHd ops k e0 vals) d) with
    | false => rfl
    | true =>
      rcases I.rep d with ⟨i', o', h1, h2, h3, h4⟩ | ⟨i', o', h1, h2, h3, h4⟩ | h
      · by_cases e : i' = i
        · subst e
          rw [ho] at h3; injection h3 with h3; subst h3
          have := hpure i' o h1 ho h2
          rw [hp] at this; cases this
        · exact absurd h4 (D.ok.diff i' i o' o h3 ho (fun q => e q.symm) (.inl h1) d hd)
      · by_cases e : i' = i
        · subst e
          rw [ho] at h2; injection h2 with h2; subst h2
          rw [ha] at h3; cases h3
        · exact absurd h4 (D.ok.diff i' i o' o h2 ho (fun q => e q.symm) (.inl h1) d hd)
      · exact (pz_no hz h).elim
  obtain ⟨p1, p2, p3, p4, p5⟩ := alloc_pair (P := P) (ops.toList.take k) 0
  have hget : ∀ {i : Nat} {o : Oper}, (ops.toList.take k)[i]? = some o → i < k ∧ ops[i]? = some o := by
    intro i o h
    rw [List.getElem?_take] at h
    split at h
    · next hi => exact ⟨hi, by simpa using h⟩
    · cases h
  have hzs : ∀ (i : Nat) (o : Oper), i < k → ops[i]? = some o → isAlloc o = true → (zOf P o).isSome = true := by
    intro i o hi ho hal
    have hf := D.facts i o _ hi ho (List.getElem?_eq_getElem (by rw [D.len]; exact hi))
    unfold HFact at hf
    have hg : o.guard = none := by
      unfold isAlloc at hal
      simp only [Bool.and_eq_true, Option.isNone_iff_eq_none] at hal
      exact hal.1
    rw [hg] at hf
    simp only [hal, if_true] at hf
    obtain ⟨⟨T', z', d2, q1, q2, q3⟩, _⟩ := hf
    unfold zOf; rw [q1]; simp [q3]
  have hlisted : ∀ (i : Nat) (o : Oper), i < k → ops[i]? = some o → isAlloc o = true → L i = true := by
    intro i o hi ho hal
    cases hl : L i with
    | true => rfl
    | false => have := pure_not_alloc (hpure i o hi ho hl); rw [hal] at this; cases this
  have hbl : ∀ (r : Nat) (p : Tmp × Value) (b : Nat), (allocsOf P (ops.toList.take k))[r]? = some p → ((allocIdx P (ops.toList.take k) 0).map bs)[r]? = some b → ∃ i o, i < k ∧ ops[i]? = some o ∧ isAlloc o = true ∧ o.dst = some p.1 ∧ zOf P o = some p.2 ∧ b = bs i := by
    intro r p b h1 h2
    rw [List.getElem?_map] at h2
    cases hi : (allocIdx P (ops.toList.take k) 0)[r]? with
    | none => rw [hi] at h2; cases h2
    | some i =>
      rw [hi] at h2; injection h2 with h2
      obtain ⟨_, o, q1, q2, q3, q4⟩ := p2 r p i h1 hi
      rw [Nat.sub_zero] at q1
      obtain ⟨q5, q6⟩ := hget q1
      exact ⟨i, o, q5, q6, q2, q3, q4, h2.symm⟩
  have hnm : ∀ b, X0.w.heap.size ≤ b → ¬ X.mine b := by
    intro b hb ⟨i, ⟨o, ho⟩, he⟩
    rw [I.m i ⟨o, ho⟩] at he
    rw [I.h] at ho
    exact absurd (D.hX.lt ⟨i, ⟨o, ho⟩, he⟩) (by omega)
  obtain ⟨Y, y1, y2, y3, y4, y7, y5, y6⟩ := adopt (X0 := X0) (allocsOf P (ops.toList.take k)) ((allocIdx P (ops.toList.take k) 0).map bs) X I.ok I.step (by simp [p1]) (fun r p b h1 h2 => by
      obtain ⟨i, o, q1, q2, q3, q4, q5, rfl⟩ := hbl r p b h1 h2
      have := (I.al i o p.1 p.2 q1 (hlisted i o q1 q2 q3) q2 q3 q4 q5).2
      exact ⟨this, hnm _ this.new⟩)
    (by
      have hmem : ∀ i, i ∈ allocIdx P (ops.toList.take k) 0 → ∃ o, i < k ∧ ops[i]? = some o ∧ isAlloc o = true := fun i hi => by
        obtain ⟨r, hr, er⟩ := List.mem_iff_getElem.1 hi
        have hr' : r < (allocsOf P (ops.toList.take k)).length := by rw [p1]; exact hr
        obtain ⟨_, o, q1, q2, q3, q4⟩ := p2 r _ i (List.getElem?_eq_getElem hr') (by rw [List.getElem?_eq_getElem hr, er])
        rw [Nat.sub_zero] at q1
        obtain ⟨q5, q6⟩ := hget q1
        exact ⟨o, q5, q6, q2⟩
      unfold List.Nodup
      rw [List.pairwise_map]
      refine p3.imp_of_mem fun {i j} hi hj hlt => ?_
      obtain ⟨o, q1, q2, q3⟩ := hmem i hi
      obtain ⟨p, r1, r2, r3⟩ := hmem j hj
      exact I.apart i j o p q1 r1 (by omega) (hlisted i o q1 q2 q3) (hlisted j p r1 r2 r3) q2 r2 q3 r3)
  refine ⟨Y, allocEnv X0.h.length (allocsOf P (ops.toList.take k)) (eHd ops k e0 vals), y1, ⟨y2, y3, by have := D.ok.le; omega, fun j hj => ?_, hpure, I.defers.trans y7.symm, I.size, ⟨I.defers.trans y7.symm, I.size, fun d => y5 _ _ (I.e1.rep d)⟩, fun d => ?_, fun i o hi ho hl d hd => ?_, by rw [Nat.add_zero, y4, I.h]; exact htodo halive⟩⟩
  · rw [I.notl j hj, Nat.add_zero]; constructor
    · intro h; cases h
    · intro h; omega
  · by_cases hin : ∃ p, p ∈ allocsOf P (ops.toList.take k) ∧ p.1 = d
    · obtain ⟨r, z, h1, h2⟩ := allocEnv_at _ X0.h.length (eHd ops k e0 vals) d hin
      right
      rw [h2]
      have hr : r < (allocIdx P (ops.toList.take k) 0).length := by rw [← p1]; exact (List.getElem?_eq_some_iff.1 h1).1
      obtain ⟨i, hi⟩ : ∃ i, (allocIdx P (ops.toList.take k) 0)[r]? = some i := ⟨_, List.getElem?_eq_getElem hr⟩
      have hb : ((allocIdx P (ops.toList.take k) 0).map bs)[r]? = some (bs i) := by rw [List.getElem?_map, hi]; rfl
      obtain ⟨_, o, q1, q2, q3, q4⟩ := p2 r _ i h1 hi
      rw [Nat.sub_zero] at q1
      obtain ⟨q5, q6⟩ := hget q1
      rw [(I.al i o d z q5 (hlisted i o q5 q6 q2) q6 q2 q3 q4).1, ← I.h]
      exact y6 r _ hb
    · rw [allocEnv_ne _ _ _ _ fun p hp he => hin ⟨p, hp, he⟩]
      rcases I.rep d with h | h | h
      · exact .inl h
      · obtain ⟨i, o, h1, h2, h3, h4⟩ := h
        have hm := p5 i o d (by rw [List.getElem?_take, if_pos h1]; simpa using h2) h3 h4 (hzs i o h1 h2 h3)
        rw [Nat.zero_add] at hm
        obtain ⟨r, hr, er⟩ := List.mem_iff_getElem.1 hm
        have hr' : r < (allocsOf P (ops.toList.take k)).length := by rw [p1]; exact hr
        obtain ⟨_, o', q1, q2, q3, q4⟩ := p2 r _ i (List.getElem?_eq_getElem hr') (by rw [List.getElem?_eq_getElem hr, er])
        rw [Nat.sub_zero] at q1
        obtain ⟨_, q6⟩ := hget q1
        rw [h2] at q6; injection q6 with q6; subst q6
        rw [h4] at q3; injection q3 with q3
        exact absurd ⟨_, List.getElem_mem hr', q3.symm⟩ hin
      · exact .inr (y5 _ _ h)
  · refine allocEnv_ne _ _ _ _ fun p hp he => ?_
    obtain ⟨r, hr, er⟩ := List.mem_iff_getElem.1 hp
    have hr' : r < (allocIdx P (ops.toList.take k) 0).length := by rw [← p1]; exact hr
    obtain ⟨_, o', q1, q2, q3, q4⟩ := p2 r p _ (by rw [List.getElem?_eq_getElem hr, er]) (List.getElem?_eq_getElem hr')
    rw [Nat.sub_zero] at q1
    obtain ⟨q5, q6⟩ := hget q1
    subst he
    have hne : (allocIdx P (ops.toList.take k) 0)[r] ≠ i := fun e => by
      rw [e, ho] at q6; injection q6 with q6; subst q6
      have := pure_not_alloc (hpure i o hi ho hl); rw [q2] at this; cases this
    rcases hd with hd | hd
    · exact D.ok.diff i _ o o' ho q6 hne (.inl hi) _ q3 hd
    · have := (D.ok.rdh i _ o o' ho q6 _ q3 hd q5).2.2 hi
      rw [q2] at this; cases this
end
end Go.Proofs.YtljfgdlgmdcmfaaGreat.Wv
