/- The machine of abstract values: the law of a region whose order is drawn (its end). -/
import Derived.Test.YtljfgdlgmdcmfaaGreatWvQ
namespace Go.Proofs.YtljfgdlgmdcmfaaGreat.Wv
open Go.RowKit
set_option linter.unusedVariables false
set_option autoImplicit false

section
variable {P : Program} {p₀ : AV → Hp → Prop} {N k : Nat} {ops : Array Oper} {X0 : Cx} {e0 : Ev} {vals : List AV}

theorem binA_any {op : BinOp} (hp : pureB op = true) {T : TypeId} {h h' : Hp} {a b : AV} : binA P h op T a b = binA P h' op T a b := by
  have he : ∀ b, eqOp op b = none := fun b => by cases op <;> first | rfl | (cases hp; done)
  have hb : ∀ o : Option Bool, o.bind (eqOp op) = none := fun o => by cases o <;> simp [he]
  unfold binA
  split <;> simp only [hb]
theorem pure_rOp {o : Oper} {E : Operand → AV} {h h' : Hp} {K : AV → Prop} (hp : isPure o = true) (hc : cOp P p₀ o E h K) : rOp P o E h' K := by
  unfold isPure at hp
  simp only [Bool.and_eq_true] at hp
  unfold cOp at hc
  unfold rOp at hc ⊢
  cases ho : o.op <;> rw [ho] at hp hc <;> simp at hp <;> first | exact hc | (obtain ⟨r, h1, h2⟩ := hc; exact ⟨r, convA_any _ h1, h2⟩) | (obtain ⟨r, h1, h2⟩ := hc; exact ⟨r, (binA_any hp.2).symm.trans h1, h2⟩) | (obtain ⟨r, h1, h2⟩ := hc; exact ⟨r, (binA_any hp).symm.trans h1, h2⟩)

theorem Step.toEmb {X Y : Cx} (S : Step X Y) {a : AV} {v : Value} (h : Rep X a v) : Rep Y a v := h.mono S

/-- What only computes, run late. -/
theorem InvB.late (D : Dat P p₀ N k ops X0 e0 vals) {K : Ev → Hp → Prop} {L : Nat → Bool} {a : Act} {X : Cx} {e : Ev} {r : Nat} (I : InvB P N k ops X0 e0 vals p₀ K L a X e r) {i : Nat} {o : Oper} (hi : i < k) (ho : ops[i]? = some o) (hL : L i = false) (hrd : ∀ j, direct ops j i = true → L j = true) :
    ∃ u, (execOp a.eval o).run P X.w = .ok (.value u) X.w ∧ InvB P N k ops X0 e0 vals p₀ K (updL L i) (a.put o.dst u) X e r := by
  have hp := I.pure i o hi ho hL
  have hal := pure_not_alloc hp
  obtain ⟨v, hv⟩ : ∃ v, vals[i]? = some v := ⟨_, List.getElem?_eq_getElem (by rw [D.len]; exact hi)⟩
  have hf := D.facts i o v hi ho hv
  have hg : o.guard = none := by
    unfold isPure at hp
    simp only [Bool.and_eq_true, Option.isNone_iff_eq_none] at hp
    exact hp.1
  unfold HFact at hf
  rw [hg] at hf
  simp only [hal, Bool.false_eq_true, if_false] at hf
  have hr := pure_rOp (h' := X.h) hp hf
  obtain ⟨d, hd⟩ := D.ok.hdst i o ho hi
  have hdN := D.ok.dst i o ho d hd
  have hE : ∀ x, x ∈ o.op.operands → Rep X (opnd (envV e0 ((ops.toList.take k).take i) (vals.take i)) x) (a.eval x) := by
    refine opnd_rep fun t ht => ?_
    rw [D.envAt (by omega) (fun j p hpj h1 h2 he => by
      have := (D.ok.rdh i j o p ho hpj t he ht h2).1
      omega)]
    rw [← I.keep i o hi ho hL t (.inr ht)]
    rcases I.rep t with ⟨j, p, h1, h2, h3, h4⟩ | h
    · have := hrd j (D.ok.rdh i j o p ho h3 t h4 ht h1).2.1
      rw [h2] at this; cases this
    · exact h
  obtain ⟨u, av, q1, q2, q3⟩ := rOp_ok I.ok hE hr
  subst q3
  refine ⟨u, q1, ⟨I.step, I.ok, I.le, fun j hj => ?_, fun j p hj hp hl => ?_, by rw [act_put_defers]; exact I.defers, by rw [act_put_size]; exact I.size, I.e1.any (delE_out (List.mem_of_getElem? (i := i) (by rw [Array.getElem?_toList]; exact ho)) e0), fun t => ?_, fun j p hj hp hl t ht => ?_, I.todo⟩⟩
  · simp only [updL, show j ≠ i by omega, if_false]; exact I.tl j hj
  · have : j ≠ i := fun q => by subst q; simp [updL] at hl
    simp only [updL, this, if_false] at hl
    exact I.pure j p hj hp hl
  · by_cases e1 : d = t
    · subst e1
      right
      rw [hd, act_put_eq (by rw [I.size]; exact hdN), I.keep i o hi ho hL d (.inl hd), D.val hi ho hd hv]
      exact q2
    · rw [act_put_ne (by rw [hd]; exact fun h => e1 (Option.some.inj h))]
      rcases I.rep t with ⟨j, p, h1, h2, h3, h4⟩ | h
      · left
        refine ⟨j, p, h1, ?_, h3, h4⟩
        have : j ≠ i := fun q => by subst q; rw [ho] at h3; injection h3 with h3; subst h3; rw [hd] at h4; exact e1 (Option.some.inj h4)
        simp only [updL, this, if_false]; exact h2
      · exact .inr h
  · have : j ≠ i := fun q => by subst q; simp [updL] at hl
    simp only [updL, this, if_false] at hl
    exact I.keep j p hj hp hl t ht

/-- The next operation of the tail. -/
theorem InvB.next (D : Dat P p₀ N k ops X0 e0 vals) {K : Ev → Hp → Prop} {L : Nat → Bool} {a : Act} {X : Cx} {e : Ev} {r : Nat} {Q : Exit → Act → World → Prop} (I : InvB P N k ops X0 e0 vals p₀ K L a X e r) {o : Oper} (ho : ops[k + r]? = some o) (hrd : ∀ j, direct ops j (k + r) = true → L j = true)
    {nx : Act → World → Prop} (hP : ∀ (Y : Cx) (av : AV) (v : Value) (a' : Act), Step X0 Y → Ok Y → EnvOk Y N (delE ops.toList e0) a' → Rep Y av v → p₀ av Y.h → Q (.panic [{ v, recovered := false }]) a' Y.w)
    (hn : ∀ (Y : Cx) (e' : Ev) (u : Value), InvB P N k ops X0 e0 vals p₀ K (updL L (k + r)) (a.put o.dst u) Y e' (r + 1) → nx (a.put o.dst u) Y.w) :
    if Region.wanted o (yielded ops a.tmps) = true then o.wp P a X.w nx Q else nx (a.put o.dst undef) X.w := by
  have hlt : k + r < ops.size := (Array.getElem?_eq_some_iff.1 ho).1
  have hsplit : ops.toList.drop (k + r) = o :: ops.toList.drop (k + (r + 1)) := by
    rw [List.drop_eq_getElem_cons (by simpa using hlt)]
    congr 1
    have := (Array.getElem?_eq_some_iff.1 ho).2
    simpa using this
  have htodo := I.todo
  rw [hsplit] at htodo
  have hLi : L (k + r) = false := by
    cases h : L (k + r) with
    | false => rfl
    | true => have := (I.tl (k + r) (by omega)).1 h; omega
  have hrep : ∀ t, rdT o t = true → Rep X (getE e t) (a.tmps.getD t undef) := fun t ht => by
    rcases I.rep t with ⟨j, p, h1, h2, h3, h4⟩ | h
    · have := hrd j (D.ok.rdh (k + r) j o p ho h3 t h4 ht h1).2.1
      rw [h2] at this; cases this
    · exact h
  have mk : ∀ (Y : Cx) (av : AV) (u : Value), Step X Y → Ok Y → Rep Y av u → wOps P p₀ ops.toList (ops.toList.drop (k + (r + 1))) (putE e o.dst av) Y.h K → InvB P N k ops X0 e0 vals p₀ K (updL L (k + r)) (a.put o.dst u) Y (putE e o.dst av) (r + 1) := by
    intro Y av u S hY hav hw
    refine ⟨I.step.trans D.hX S, hY, by omega, fun j hj => ?_, fun j p hj hp hl => ?_, by rw [act_put_defers, S.dse]; exact I.defers, by rw [act_put_size]; exact I.size, (I.e1.mono S).any (delE_out (List.mem_of_getElem? (i := k + r) (by rw [Array.getElem?_toList]; exact ho)) e0), fun t => ?_, fun j p hj hp hl t ht => ?_, hw⟩
    · by_cases e1 : j = k + r
      · subst e1; simp [updL]
      · simp only [updL, e1, if_false]
        rw [I.tl j hj]; omega
    · simp only [updL, show j ≠ k + r by omega, if_false] at hl
      exact I.pure j p hj hp hl
    · by_cases e1 : o.dst = some t
      · right
        rw [e1, act_put_eq (by rw [I.size]; exact D.ok.dst _ o ho t e1), getE_put]
        exact hav
      · rw [act_put_ne e1, getE_put_ne e1]
        rcases I.rep t with ⟨j, p, h1, h2, h3, h4⟩ | h
        · left
          exact ⟨j, p, h1, by simp only [updL, show j ≠ k + r by omega, if_false]; exact h2, h3, h4⟩
        · exact .inr (h.mono S)
    · simp only [updL, show j ≠ k + r by omega, if_false] at hl
      rw [getE_put_ne, I.keep j p hj hp hl t ht]
      intro e1
      rcases ht with ht | ht
      · exact D.ok.diff (k + r) j o p ho hp (by omega) (.inr hj) t ht e1
      · have := hrd j (D.ok.rdt j (k + r) p o hp ho t e1 ht (by omega) hj)
        rw [hl] at this; cases this
  have go : ∀ {M : AV → Hp → Prop}, (∀ av h', M av h' → wOps P p₀ ops.toList (ops.toList.drop (k + (r + 1))) (putE e o.dst av) h' K) → wOp P p₀ o (opnd e) X.h M → o.wp P a X.w nx Q := by
    intro M hM hw
    have hG := wOp_goes I.ok (opnd_rep hrep) hw
    unfold Oper.wp
    rcases hG with ⟨v, Y, av, h1, h2, h3, h4, h5⟩ | ⟨Y, h1, h2, h3, h4⟩ | ⟨f, args, h1, h3⟩ | ⟨v, av, h1, h2, h3⟩
    · rw [h1, Oper.upon_value]
      exact hn Y _ v (mk Y av v h2 h3 h4 (hM _ _ h5))
    · rw [h1, Oper.upon_skip]
      exact hn Y _ undef (mk Y .none undef h2 h3 (.none _) (hM _ _ h4))
    · rw [h1, Oper.upon_enter]
      refine h3.mono ?_
      rintro en w' ⟨v, Y, av, rfl, q1, q2, q3, ⟨rfl, q4⟩ | ⟨rfl, q4⟩⟩
      · exact hn Y _ v (mk Y av v q1 q2 q3 (hM _ _ q4))
      · exact hP Y av v a (I.step.trans D.hX q1) q2 (I.e1.mono q1) q3 q4
    · rw [h1, Oper.upon_panic]
      exact hP X av v a I.step I.ok I.e1 h2 h3
  simp only [wOps] at htodo
  split at htodo
  · next hg =>
    have hw : Region.wanted o (yielded ops a.tmps) = true := by simp [Region.wanted, hg]
    rw [if_pos hw]
    exact go (fun _ _ h => h) htodo
  · next g want hg =>
    obtain ⟨b, hb, htodo⟩ := htodo
    obtain ⟨g1, g2, g3, g4⟩ := D.ok.grd _ o ho g want hg
    obtain ⟨q, hq⟩ : ∃ q, ops[g]? = some q := ⟨_, Array.getElem?_eq_getElem (by omega)⟩
    obtain ⟨d, hd⟩ := D.ok.hdst g q hq g2
    have hgl : L g = true := hrd g g3
    have hgd : guardE ops.toList e g = getE e d := by unfold guardE; rw [Array.getElem?_toList, hq]; simp [hd]
    rw [hgd] at hb
    have hrd2 : Rep X (getE e d) (a.tmps.getD d undef) := by
      rcases I.rep d with ⟨j, p, h1, h2, h3, h4⟩ | h
      · have : j = g := Classical.byContradiction fun hne => D.ok.diff g j q p hq h3 hne (.inl g2) d h4 hd
        subst this; rw [h2] at hgl; cases hgl
      · exact h
    have hw := yieldG (o := o) hq hd (by rw [I.size]; exact D.ok.dst g q hq d hd) hrd2 hb hg
    split at htodo
    · next e1 =>
      rw [if_pos (hw.trans e1)]
      exact go (fun _ _ h => h) htodo
    · next e1 =>
      rw [if_neg (by rw [hw]; exact e1)]
      exact hn X _ undef (mk X (.v undef) undef (Step.refl X) I.ok (.v _) htodo)

theorem InvA.head (D : Dat P p₀ N k ops X0 e0 vals) {L : Nat → Bool} {a : Act} {X : Cx} {bs : Nat → Nat} {Q : Exit → Act → World → Prop} (I : InvA P N k ops X0 e0 vals L a X bs) {i : Nat} {o : Oper} (hi : i < k) (ho : ops[i]? = some o) (hL : L i = false) (hrd : ∀ j, direct ops j i = true → L j = true)
    {nx : Act → World → Prop} (hP : ∀ (Y : Cx) (av : AV) (v : Value) (a' : Act), Step X0 Y → Ok Y → EnvOk Y N (delE ops.toList e0) a' → Rep Y av v → p₀ av Y.h → Q (.panic [{ v, recovered := false }]) a' Y.w)
    (hn : ∀ (Y : Cx) (bs' : Nat → Nat) (u : Value), InvA P N k ops X0 e0 vals (updL L i) (a.put o.dst u) Y bs' → nx (a.put o.dst u) Y.w) :
    if Region.wanted o (yielded ops a.tmps) = true then o.wp P a X.w nx Q else nx (a.put o.dst undef) X.w := by
  obtain ⟨v, hv⟩ : ∃ v, vals[i]? = some v := ⟨_, List.getElem?_eq_getElem (by rw [D.len]; exact hi)⟩
  have hf := D.facts i o v hi ho hv
  have hrep : ∀ t, rdT o t = true → Rep X (getE (envV e0 ((ops.toList.take k).take i) (vals.take i)) t) (a.tmps.getD t undef) := fun t ht => by
    rw [D.envAt (by omega) (fun j p hpj h1 h2 he => by
      have := (D.ok.rdh i j o p ho hpj t he ht h2).1
      omega)]
    rcases I.rep t with ⟨j, p, h1, h2, h3, h4⟩ | ⟨j, p, h1, h2, h3, h4⟩ | h
    · have := hrd j (D.ok.rdh i j o p ho h3 t h4 ht h1).2.1
      rw [h2] at this; cases this
    · have := (D.ok.rdh i j o p ho h2 t h4 ht h1).2.2 hi
      rw [h3] at this; cases this
    · exact h
  have go : isAlloc o = false → cOp P p₀ o (opnd (envV e0 ((ops.toList.take k).take i) (vals.take i))) X0.h (fun a => a = v) → o.wp P a X.w nx Q := by
    intro hal hc
    rw [← I.h] at hc
    obtain ⟨av, hav, hcalm⟩ := cOp_ok I.ok I.frz (opnd_rep hrep) hc
    subst hav
    unfold Oper.wp
    rcases hcalm with ⟨u, w', h1, h2⟩ | ⟨f, args, h1, h2⟩
    · rw [h1, Oper.upon_value]
      obtain ⟨Y, y1, y2⟩ := I.quiet D hi ho hL hv hal h2
      rw [← y1]; exact hn Y bs u y2
    · rw [h1, Oper.upon_enter]
      refine h2.mono ?_
      rintro en w' ⟨u, Y, a', rfl, q1, q2, q3, ⟨rfl, rfl, q5⟩ | ⟨rfl, q5⟩⟩
      · exact hn Y bs u (I.reads D hi ho hL hv hal q1 q2 q5 q3)
      · exact hP Y a' u a (I.step.trans D.hX q1) q2 (I.e1.mono q1) q3 q5
  unfold HFact at hf
  split at hf
  · next hg =>
    have hw : Region.wanted o (yielded ops a.tmps) = true := by simp [Region.wanted, hg]
    rw [if_pos hw]
    split at hf
    · next hal =>
      obtain ⟨⟨T, z, d, hop, hd, hz⟩, rfl⟩ := hf
      obtain ⟨Y, bs', y1, y2⟩ := I.alloc D hi ho hL hop hal hz
      obtain ⟨ti, hti, hzi⟩ := zeroP_i hz
      unfold Oper.wp
      have hrun : (execOp a.eval o).run P X.w = .ok (.value (.pointer (some ⟨X.w.heap.size, 0, none⟩))) (X.w.alloc (.cells z.cells T)) := by
        simp [execOp, hop, Instr.alloc, zeroValue, typeInfo, hti, hzi, newVar, newRow]
      rw [hrun, Oper.upon_value, ← y1]
      exact hn Y bs' _ y2
    · next hal => exact go (by simpa using hal) hf
  · next g want hg =>
    obtain ⟨b, hb, hf⟩ := hf
    have hal : isAlloc o = false := by unfold isAlloc; rw [hg]; rfl
    obtain ⟨g1, g2, g3, g4⟩ := D.ok.grd i o ho g want hg
    obtain ⟨q, hq⟩ : ∃ q, ops[g]? = some q := ⟨_, Array.getElem?_eq_getElem (by have := D.ok.le; omega)⟩
    obtain ⟨d, hd⟩ := D.ok.hdst g q hq g2
    have hgl : L g = true := hrd g g3
    have hgd : guardE ops.toList (envV e0 ((ops.toList.take k).take i) (vals.take i)) g = getE (envV e0 ((ops.toList.take k).take i) (vals.take i)) d := by unfold guardE; rw [Array.getElem?_toList, hq]; simp [hd]
    rw [hgd, D.envAt (by omega) (fun j p hpj h1 h2 he => D.ok.diff g j q p hq hpj (by omega) (.inl g2) d he hd)] at hb
    have hrd2 : Rep X (getE (eHd ops k e0 vals) d) (a.tmps.getD d undef) := by
      rcases I.rep d with ⟨j, p, h1, h2, h3, h4⟩ | ⟨j, p, h1, h2, h3, h4⟩ | h
      · have : j = g := Classical.byContradiction fun hne => D.ok.diff g j q p hq h3 hne (.inl g2) d h4 hd
        subst this; rw [h2] at hgl; cases hgl
      · have : j = g := Classical.byContradiction fun hne => D.ok.diff g j q p hq h2 hne (.inl g2) d h4 hd
        subst this
        have := g4 p h2
        rw [h3] at this; cases this
      · exact h
    have hw := yieldG (o := o) hq hd (by rw [I.size]; exact D.ok.dst g q hq d hd) hrd2 hb hg
    split at hf
    · next e1 =>
      rw [if_pos (hw.trans e1)]
      exact go hal hf
    · next e1 =>
      rw [if_neg (by rw [hw]; exact e1)]
      subst hf
      obtain ⟨Y, y1, y2⟩ := I.quiet D hi ho hL hv hal (w' := X.w) (u := undef) ⟨Below.refl _ _, .v _⟩
      rw [← y1]; exact hn Y bs undef y2

theorem InvB.end_ {K : Ev → Hp → Prop} {L : Nat → Bool} {a : Act} {X : Cx} {e : Ev} {r : Nat} {Q : Exit → Act → World → Prop} (I : InvB P N k ops X0 e0 vals p₀ K L a X e r) (hall : ∀ j, j < ops.size → L j = true)
    (hK : ∀ (Y : Cx) (e' : Ev) (a' : Act), Step X0 Y → Ok Y → EnvOk Y N e' a' → K e' Y.h → Q .normal a' Y.w) : Q .normal a X.w := by
  have hr : k + r = ops.size := by
    apply Nat.le_antisymm I.le
    apply Nat.le_of_not_lt
    intro hlt
    have := (I.tl (k + r) (by omega)).1 (hall _ hlt)
    omega
  have htodo := I.todo
  rw [hr, List.drop_eq_nil_of_le (by simp)] at htodo
  refine hK X e a I.step I.ok ⟨I.defers, I.size, fun d => ?_⟩ htodo
  rcases I.rep d with ⟨j, p, h1, h2, h3, h4⟩ | h
  · have := hall j (Array.getElem?_eq_some_iff.1 h3).1
    rw [h2] at this; cases this
  · exact h

theorem draw_any (D : Dat P p₀ N k ops X0 e0 vals) {K : Ev → Hp → Prop} {Q : Exit → Act → World → Prop}
    (htodo : Alive ops k (eHd ops k e0 vals) → wOps P p₀ ops.toList (ops.toList.drop k) (allocEnv X0.h.length (allocsOf P (ops.toList.take k)) (eHd ops k e0 vals)) (X0.h ++ (allocsOf P (ops.toList.take k)).map blkOf) K)
    (hP : ∀ (Y : Cx) (av : AV) (v : Value) (a' : Act), Step X0 Y → Ok Y → EnvOk Y N (delE ops.toList e0) a' → Rep Y av v → p₀ av Y.h → Q (.panic [{ v, recovered := false }]) a' Y.w)
    (hK : ∀ (Y : Cx) (e' : Ev) (a' : Act), Step X0 Y → Ok Y → EnvOk Y N e' a' → K e' Y.h → Q .normal a' Y.w) :
    ∀ (f : Nat) (listed : Array Bool) (a : Act) (w : World), listed.size = ops.size → (∀ m j, listed.getD m false = true → direct ops j m = true → listed.getD j false = true) → cntH (fun j => listed.getD j false) ops.size = f →
      ((∃ X bs, X.w = w ∧ InvA P N k ops X0 e0 vals (fun j => listed.getD j false) a X bs) ∨ (∃ X e r, X.w = w ∧ InvB P N k ops X0 e0 vals p₀ K (fun j => listed.getD j false) a X e r)) → wpAny P .any ops Q f listed a w
  | 0, listed, a, w, hs, hdn, hc, hI => by
    have hall := cnt_zero ops.size hc
    refine ⟨?_, ?_⟩
    · apply List.eq_nil_iff_forall_not_mem.2
      intro j hj
      obtain ⟨h1, o, h2, _⟩ := mem_ready.1 hj
      have := hall j (Array.getElem?_eq_some_iff.1 h2).1
      rw [getD_both h1] at this; cases this
    · rcases hI with ⟨X, bs, rfl, I⟩ | ⟨X, e, r, rfl, I⟩
      · obtain ⟨Y, e, y1, y2⟩ := I.turn D (K := K) (fun j o hj ho hl => by rw [hall j (Array.getElem?_eq_some_iff.1 ho).1] at hl; cases hl) htodo
        rw [← y1]; exact y2.end_ hall hK
      · exact I.end_ hall hK
  | f + 1, listed, a, w, hs, hdn, hc, hI => by
    obtain ⟨i0, hi0, hf0, hl0⟩ := cnt_least ops.size (show cntH (fun j => listed.getD j false) ops.size ≠ 0 by omega)
    refine ⟨fun h0 => ?_, fun i hi => ?_⟩
    · obtain ⟨o, ho⟩ : ∃ o, ops[i0]? = some o := ⟨_, Array.getElem?_eq_getElem hi0⟩
      have : i0 ∈ Region.ready .any ops listed := mem_ready.2 ⟨getD_in (by omega) hf0, o, ho, fun e he hb => hl0 e.on (D.ok.aft i0 o ho e he hb)⟩
      rw [h0] at this; cases this
    · obtain ⟨hun, o, ho, hall⟩ := mem_ready.1 hi
      have hin : i < ops.size := (Array.getElem?_eq_some_iff.1 ho).1
      have hLi : listed.getD i false = false := getD_both hun
      have hrd : ∀ j, direct ops j i = true → listed.getD j false = true := fun j hj => direct_listed ho hall hj
      have hL' : (fun j => (listed.setIfInBounds i true).getD j false) = updL (fun j => listed.getD j false) i := by
        funext j
        by_cases e : j = i
        · subst e
          have hlt : j < listed.size := by omega
          simp [updL, hlt]
        · rw [getD_set_ne false (fun h => e h.symm)]; simp [updL, e]
      have hrd2 : ∀ j, reach ops j i = true → listed.getD j false = true := fun j hj => by
        unfold reach at hj
        rw [Bool.or_eq_true] at hj
        rcases hj with hj | hj
        · exact hrd j hj
        · obtain ⟨m, _, hm⟩ := List.any_eq_true.1 hj
          rw [Bool.and_eq_true] at hm
          exact hdn m j (hrd m hm.2) hm.1
      have hdn2 : ∀ m j, (listed.setIfInBounds i true).getD m false = true → direct ops j m = true → (listed.setIfInBounds i true).getD j false = true := fun m j hm hj => by
        have h1 : (listed.setIfInBounds i true).getD m false = updL (fun j => listed.getD j false) i m := congrFun hL' m
        have h2 : (listed.setIfInBounds i true).getD j false = updL (fun j => listed.getD j false) i j := congrFun hL' j
        rw [h1] at hm
        rw [h2]
        unfold updL at hm ⊢
        split
        · rfl
        · by_cases e : m = i
          · subst e; exact hrd j hj
          · rw [if_neg e] at hm; exact hdn m j hm hj
      have hcnt : cntH (fun j => (listed.setIfInBounds i true).getD j false) ops.size = f := by
        rw [hL']
        have := (cnt_add (L := fun j => listed.getD j false) (i := i) hLi ops.size).1 hin
        omega
      have fin : ∀ {nx : Prop}, (if Region.wanted o (yielded ops a.tmps) = true then o.wp P a w (wpAny P .any ops Q f (listed.setIfInBounds i true)) Q else wpAny P .any ops Q f (listed.setIfInBounds i true) (a.put o.dst undef) w) → Go.wpOp P ops Q i (wpAny P .any ops Q f (listed.setIfInBounds i true)) a w := by
        intro _ h
        unfold Go.wpOp
        simp only [ho]
        split
        · next hw => rw [if_pos hw] at h; exact .inl h
        · next hw => rw [if_neg hw] at h; exact h
      have tailB : ∀ (X : Cx) (e : Ev) (r : Nat), X.w = w → k ≤ i → InvB P N k ops X0 e0 vals p₀ K (fun j => listed.getD j false) a X e r → Go.wpOp P ops Q i (wpAny P .any ops Q f (listed.setIfInBounds i true)) a w := by
        intro X e r hXw hki I
        have hir : i = k + r := by
          apply Nat.le_antisymm
          · apply Nat.le_of_not_lt
            intro hlt
            obtain ⟨p, hp⟩ : ∃ p, ops[k + r]? = some p := ⟨_, Array.getElem?_eq_getElem (by omega)⟩
            rcases D.ok.tail i (k + r) o p ho hp hki hlt with h | h
            · omega
            · have := (I.tl (k + r) (by omega)).1 (hrd2 _ h)
              omega
          · apply Nat.le_of_not_lt
            intro hlt
            have := (I.tl i hki).2 hlt
            rw [hLi] at this; cases this
        subst hir
        subst hXw
        refine fin (nx := True) (I.next D ho hrd (Q := Q) hP fun Y e' u hB => ?_)
        refine draw_any D htodo hP hK f _ _ _ (by simpa using hs) hdn2 hcnt (.inr ⟨Y, e', r + 1, rfl, ?_⟩)
        rw [hL']; exact hB
      rcases hI with ⟨X, bs, rfl, I⟩ | ⟨X, e, r, rfl, I⟩
      · by_cases hik : i < k
        · refine fin (nx := True) (I.head D hik ho hLi hrd (Q := Q) hP fun Y bs' u hA => ?_)
          refine draw_any D htodo hP hK f _ _ _ (by simpa using hs) hdn2 hcnt (.inl ⟨Y, bs', rfl, ?_⟩)
          rw [hL']; exact hA
        · obtain ⟨Y, e, y1, y2⟩ := I.turn D (K := K) (fun j p hj hp hl => by
            rcases D.ok.tail i j o p ho hp (by omega) (by omega) with h | h
            · exact h.2
            · have := hrd2 j h
              rw [hl] at this; cases this) htodo
          exact tailB Y e 0 y1 (by omega) y2
      · by_cases hik : i < k
        · obtain ⟨u, h1, h2⟩ := I.late D hik ho hLi hrd
          have hg : o.guard = none := by
            have := I.pure i o hik ho hLi
            unfold isPure at this
            simp only [Bool.and_eq_true, Option.isNone_iff_eq_none] at this
            exact this.1
          refine fin (nx := True) ?_
          have hw : Region.wanted o (yielded ops a.tmps) = true := by simp [Region.wanted, hg]
          rw [if_pos hw]
          unfold Oper.wp
          rw [h1, Oper.upon_value]
          refine draw_any D htodo hP hK f _ _ _ (by simpa using hs) hdn2 hcnt (.inr ⟨X, e, r, rfl, ?_⟩)
          rw [hL']; exact h2
        · exact tailB X e r rfl (by omega) I
end
end Go.Proofs.YtljfgdlgmdcmfaaGreat.Wv
