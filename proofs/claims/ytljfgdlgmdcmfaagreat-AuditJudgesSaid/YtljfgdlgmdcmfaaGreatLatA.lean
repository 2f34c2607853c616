/- The machine of abstract values: a region in which one operation of the head changes memory. -/
import Derived.Test.YtljfgdlgmdcmfaaGreatWvX
namespace Go.Proofs.YtljfgdlgmdcmfaaGreat.Wv
open Go.RowKit
set_option linter.unusedVariables false
set_option autoImplicit false

theorem envV_inj : ∀ {l : List Oper} {e e' : Ev} {vs vs' : List AV}, (∀ o, o ∈ l → ∃ d, o.dst = some d) → vs.length = l.length → vs'.length = l.length → envV e l vs = envV e' l vs' → e = e' ∧ vs = vs'
  | [], e, e', vs, vs', _, h1, h2, h => by
    have e1 := List.eq_nil_of_length_eq_zero h1
    have e2 := List.eq_nil_of_length_eq_zero h2
    subst e1 e2
    exact ⟨h, rfl⟩
  | o :: r, e, e', v :: vs, v' :: vs', hd, h1, h2, h => by
    obtain ⟨q1, q2⟩ := envV_inj (l := r) (e := putE e o.dst v) (e' := putE e' o.dst v') (fun o' ho => hd o' (List.mem_cons_of_mem _ ho)) (by simpa using h1) (by simpa using h2) h
    obtain ⟨d, hdd⟩ := hd o (List.mem_cons_self ..)
    rw [hdd] at q1
    have q3 : (d, v) :: e = (d, v') :: e' := q1
    injection q3 with q4 q5
    injection q4 with _ q6
    exact ⟨q5, by rw [q6, q2]⟩
  | o :: r, e, e', [], _, _, h1, _, _ => by simp at h1
  | o :: r, e, e', _ :: _, [], _, _, h2, _ => by simp at h2
section
variable (P : Program) (p₀ : AV → Hp → Prop) (all hd1 hd2 tl : List Oper) (os : Oper) (av : AV) (e : Ev) (h0 : Hp) (K : Ev → Hp → Prop)
def lateE (e2 : Ev) (h1 : Hp) : Ev → List (Tmp × Value) → Prop := fun e2' _ => e2' = e2 ∧ wOps P p₀ all tl e2 h1 K
def lateD (e1 e2 : Ev) (h1 : Hp) : Ev → List (Tmp × Value) → Prop := fun e1' _ => e1' = e1 ∧ wHead P p₀ all h1 hd2 (putE e1 os.dst av) [] (lateE P p₀ all tl K e2 h1)
def lateC (e1 e2 : Ev) : AV → Hp → Prop := fun av' h1 => av' = av ∧ wHead P p₀ all h1 hd1 e [] (lateD P p₀ all hd2 tl os av K e1 e2 h1)
def lateB (e1 : Ev) : Ev → List (Tmp × Value) → Prop := fun e2 _ => wOp P p₀ os (opnd e1) h0 (lateC P p₀ all hd1 hd2 tl os av e K e1 e2)
def lateA : Ev → List (Tmp × Value) → Prop := fun e1 _ => wHead P p₀ all h0 hd2 (putE e1 os.dst av) [] (lateB P p₀ all hd1 hd2 tl os av e h0 K e1)
end
section
variable {P : Program} {p₀ : AV → Hp → Prop} {all hd1 hd2 tl : List Oper} {os : Oper} {av : AV} {e : Ev} {h0 : Hp} {K : Ev → Hp → Prop}
theorem lateE_app {e2 e2' : Ev} {h1 : Hp} {al : List (Tmp × Value)} : lateE P p₀ all tl K e2 h1 e2' al = (e2' = e2 ∧ wOps P p₀ all tl e2 h1 K) := rfl
theorem lateD_app {e1 e2 e1' : Ev} {h1 : Hp} {al : List (Tmp × Value)} : lateD P p₀ all hd2 tl os av K e1 e2 h1 e1' al = (e1' = e1 ∧ wHead P p₀ all h1 hd2 (putE e1 os.dst av) [] (lateE P p₀ all tl K e2 h1)) := rfl
theorem lateC_app {e1 e2 : Ev} {h1 : Hp} {av' : AV} : lateC P p₀ all hd1 hd2 tl os av e K e1 e2 av' h1 = (av' = av ∧ wHead P p₀ all h1 hd1 e [] (lateD P p₀ all hd2 tl os av K e1 e2 h1)) := rfl
theorem lateB_app {e1 e2 : Ev} {al : List (Tmp × Value)} : lateB P p₀ all hd1 hd2 tl os av e h0 K e1 e2 al = wOp P p₀ os (opnd e1) h0 (lateC P p₀ all hd1 hd2 tl os av e K e1 e2) := rfl
theorem lateA_app {e1 : Ev} {al : List (Tmp × Value)} : lateA P p₀ all hd1 hd2 tl os av e h0 K e1 al = wHead P p₀ all h0 hd2 (putE e1 os.dst av) [] (lateB P p₀ all hd1 hd2 tl os av e h0 K e1) := rfl
end
/-- A region of which one operation of the head changes memory, answered for apart. -/
theorem esc_late {P : Program} (hmix : P.follows .mixedOrders = true) {N : Nat} {L : List Nat} {ks : List (Nat × Nat)} {id : Nat} {l : List Oper} {Q : PostW} {e : Ev} {h : Hp} (k s m : Nat) (av : AV) {os : Oper} (hB : drawB N k l.toArray = true) (hsk : Nat.blt s k = true) (hos : l[s]? = some os) (hg : os.guard = none) (hal : isAlloc os = false) (hpu : isPure os = false) (hap : ∃ c, os.op = .call c ∧ (c.callee = .builtin .append ∨ ∃ f, c.callee = .value f)) (hna : (l.take k).all (fun o => !isAlloc o) = true)
    (hw : wHead P (fun av h' => Q (.panic av) (delE l e) h') l (frzM m h) (l.take s) e [] (lateA P (fun av h' => Q (.panic av) (delE l e) h') l (l.take s) ((l.take k).drop (s + 1)) (l.drop k) os av e (frzM m h) (fun e' h' => Q .normal (keepE L e') h'))) : escE P N ks id l.toArray Q e h := by
  intro X a hn hh hX hE
  subst hh
  have hs : s < k := Nat.lt_of_lt_of_le (Nat.lt_succ_self _) (Nat.le_of_ble_eq_true hsk)
  obtain ⟨Y, y1, y2, y3, y4⟩ := drawn_up hX
  obtain ⟨Z, z1, z2, z3, z4⟩ := freeze_some m y4
  have z5 := z3.frzOk
  have S : Step X Z := y3.trans hX z2
  rw [y2] at z4
  rw [← z4] at hw
  have hok := drawB_ok hB
  have hle : k ≤ l.length := by have := hok.le; simpa using this
  have hdst : ∀ o, o ∈ l.take k → ∃ d, o.dst = some d := fun o ho => by
    obtain ⟨j, hj, e1⟩ := List.mem_iff_getElem.1 ho
    have hj' : j < k := by simp at hj; omega
    refine hok.hdst j o ?_ hj'
    have : (l.take k)[j]? = some o := by rw [List.getElem?_eq_getElem hj, e1]
    rw [List.getElem?_take, if_pos hj'] at this
    simpa using this
  have hts : (l.take k).take s = l.take s := by rw [List.take_take, Nat.min_eq_left (by omega)]
  have hsp : l.take k = l.take s ++ os :: (l.take k).drop (s + 1) := by
    have h1 : (l.take k)[s]? = some os := by rw [List.getElem?_take, if_pos hs]; exact hos
    have h2 := List.take_append_drop s (l.take k)
    rw [hts] at h2
    have h3 : (l.take k).drop s = os :: (l.take k).drop (s + 1) := by
      have hlt : s < (l.take k).length := by rw [List.length_take]; omega
      rw [List.drop_eq_getElem_cons hlt]
      congr 1
      rw [List.getElem?_eq_getElem hlt] at h1
      injection h1
    rw [← h3]; exact h2.symm
  generalize hd1e : l.take s = hd1 at *
  generalize hd2e : (l.take k).drop (s + 1) = hd2 at *
  have hl1 : hd1.length = s := by rw [← hd1e, List.length_take]; omega
  have hdst1 : ∀ o, o ∈ hd1 → ∃ d, o.dst = some d := fun o ho => hdst o (by rw [hsp]; exact List.mem_append_left _ ho)
  have hdst2 : ∀ o, o ∈ hd2 → ∃ d, o.dst = some d := fun o ho => hdst o (by rw [hsp]; exact List.mem_append_right _ (List.mem_cons_of_mem _ ho))
  obtain ⟨v1, a1, a2, a3⟩ := wHead_data _ _ _ hw
  rw [lateA_app] at a3
  obtain ⟨v2, b1, b2, b3⟩ := wHead_data _ _ _ a3
  rw [lateB_app] at b3
  have hlen : (v1 ++ av :: v2).length = k := by
    have := congrArg List.length hsp
    rw [List.length_take, List.length_append, List.length_cons] at this
    rw [List.length_append, List.length_cons, a1, b1]; omega
  have htk : ∀ i, i ≤ s → (l.take k).take i = hd1.take i := fun i hi => by rw [hsp, List.take_append_of_le_length (by omega)]
  have hvk : ∀ i, i ≤ s → (v1 ++ av :: v2).take i = v1.take i := fun i hi => by rw [List.take_append_of_le_length (by omega)]
  have he1 : envV e ((l.take k).take s) ((v1 ++ av :: v2).take s) = envV e hd1 v1 := by
    rw [htk s (Nat.le_refl _), hvk s (Nat.le_refl _), List.take_of_length_le (by omega), List.take_of_length_le (by omega)]
  have hel : ∀ j, envV e ((l.take k).take (s + 1 + j)) ((v1 ++ av :: v2).take (s + 1 + j)) = envV (putE (envV e hd1 v1) os.dst av) (hd2.take j) (v2.take j) := fun j => by
    have e3 : (l.take k).take (s + 1 + j) = hd1 ++ os :: hd2.take j := by
      rw [hsp, List.take_append, hl1, List.take_of_length_le (by omega), show s + 1 + j - s = j + 1 by omega, List.take_succ_cons]
    have e4 : (v1 ++ av :: v2).take (s + 1 + j) = v1 ++ av :: v2.take j := by
      rw [List.take_append, a1, hl1, List.take_of_length_le (by omega), show s + 1 + j - s = j + 1 by omega, List.take_succ_cons]
    rw [e3, e4, envV_app _ _ _ _ _ a1]
    rfl
  have hat : ∀ i o, i < k → l[i]? = some o → (l.take k)[i]? = some o := fun i o hi ho => by rw [List.getElem?_take, if_pos hi]; exact ho
  have facts : ∀ (hx : Hp), (∀ (i : Nat) (o : Oper) (v : AV), hd1[i]? = some o → v1[i]? = some v → HFact P (fun av h' => Q (.panic av) (delE l e) h') l hx o (envV e (hd1.take i) (v1.take i)) v) →
      (∀ (i : Nat) (o : Oper) (v : AV), hd2[i]? = some o → v2[i]? = some v → HFact P (fun av h' => Q (.panic av) (delE l e) h') l hx o (envV (putE (envV e hd1 v1) os.dst av) (hd2.take i) (v2.take i)) v) →
      ∀ (i : Nat) (o : Oper) (v : AV), i < k → decide (i = s) = false → l.toArray[i]? = some o → (v1 ++ av :: v2)[i]? = some v → HFact P (fun av h' => Q (.panic av) (delE l e) h') l.toArray.toList hx o (envV e ((l.toArray.toList.take k).take i) ((v1 ++ av :: v2).take i)) v := fun hx f1 f2 i o v hi his ho hv => by
    have his := of_decide_eq_false his
    have ho : l[i]? = some o := by simpa using ho
    have ht := hat i o hi ho
    rw [hsp] at ht
    show HFact P _ l hx o (envV e ((l.take k).take i) _) v
    by_cases hlt : i < s
    · rw [htk i (by omega), hvk i (by omega)]
      rw [List.getElem?_append_left (by omega)] at ht
      rw [List.getElem?_append_left (by omega)] at hv
      exact f1 i o v ht hv
    · obtain ⟨j, rfl⟩ : ∃ j, i = s + 1 + j := ⟨i - s - 1, by omega⟩
      rw [hel]
      rw [List.getElem?_append_right (by omega), hl1, show s + 1 + j - s = j + 1 by omega, List.getElem?_cons_succ] at ht
      rw [List.getElem?_append_right (by omega), a1, hl1, show s + 1 + j - s = j + 1 by omega, List.getElem?_cons_succ] at hv
      exact f2 j o v ht hv
  have hEd : eHd l.toArray k e (v1 ++ av :: v2) = envV (putE (envV e hd1 v1) os.dst av) hd2 v2 := by
    unfold eHd
    show envV e (l.take k) _ = _
    rw [hsp, envV_app _ _ _ _ _ a1]
    rfl
  have D : Dat P (fun av h' => Q (.panic av) (delE l e) h') N k l.toArray Z e (v1 ++ av :: v2) (fun i => decide (i = s)) := ⟨hok, z3, z5, hlen, fun i o hi ho => by
    have hi := of_decide_eq_true hi
    subst hi
    have ho : l[i]? = some o := by simpa using ho
    rw [hos] at ho; injection ho with ho; subst ho
    exact ⟨hal, hpu⟩, facts Z.h a2 b2⟩
  have hmono : ∀ {E : Operand → AV} {hx : Hp} {K1 K2 : AV → Hp → Prop}, (∀ a h', K1 a h' → K2 a h') → wOp P (fun av h' => Q (.panic av) (delE l e) h') os E hx K1 → wOp P (fun av h' => Q (.panic av) (delE l e) h') os E hx K2 := by
    obtain ⟨c, hc, hcb⟩ := hap
    intro E hx K1 K2 hk hq
    unfold wOp at hq ⊢
    rw [hc] at hq ⊢
    rcases hcb with hcb | ⟨f, hcb⟩
    · simp only [wCall, hcb] at hq ⊢
      obtain ⟨q1, q2, r, h', q3, q4⟩ := hq
      exact ⟨q1, q2, r, h', q3, hk _ _ q4⟩
    · simp only [wCall, hcb] at hq ⊢
      obtain ⟨fid, fst, cap, q1, q2⟩ := hq
      exact ⟨fid, fst, cap, q1, q2.mono hk fun _ _ q => q⟩
  have hEZ := hE.mono S
  have hL : ∀ j, (Array.replicate l.toArray.size false).getD j false = false := fun j => by
    simp only [Array.getD, Array.size_replicate, Array.getInternal_eq_getElem, Array.getElem_replicate]; split <;> rfl
  refine wp_region_any hmix ?_
  rw [← y1, ← z1]
  refine draw_late (K := fun e' h' => Q .normal (keepE L e') h') hs (by simpa using hos) hg D (fun i o hi ho => ?_) ?_ (fun V av v a' S2 hV hEV hr hp => ⟨v, av, V, _, rfl, rfl, (S.trans hX S2).toN hn, hV, hEV, hr, hp⟩) (fun V e' a' S2 hV hEV hq => (PostOf.intro ((S.trans hX S2).toN hn) hV (hEV.keep L)).1 hq) l.toArray.size _ a Z.w (hL s) (by simp) (fun m j hm => absurd (hm.symm.trans (hL m)) (by decide)) ?_ ⟨Z, fun _ => 0, rfl, ?_⟩
  · have ho : l[i]? = some o := by simpa using ho
    have := List.all_eq_true.1 hna o (List.mem_of_getElem? (hat i o hi ho))
    simpa using this
  · show wOp P _ os (opnd (envV e ((l.take k).take s) ((v1 ++ av :: v2).take s))) Z.h _
    rw [he1]
    refine hmono (fun a' h1 hq => ?_) b3
    rw [lateC_app] at hq
    obtain ⟨rfl, hq⟩ := hq
    obtain ⟨w1, c1, c2, c3⟩ := wHead_data _ _ _ hq
    rw [lateD_app] at c3
    obtain ⟨c3, c4⟩ := c3
    obtain ⟨_, rfl⟩ := envV_inj hdst1 c1 a1 c3
    obtain ⟨w2, d1, d2, d3⟩ := wHead_data _ _ _ c4
    rw [lateE_app] at d3
    obtain ⟨d3, d4⟩ := d3
    obtain ⟨_, rfl⟩ := envV_inj hdst2 d1 b1 d3
    refine ⟨?_, facts h1 c2 d2, fun _ => ?_⟩
    · rw [List.getElem?_append_right (by omega), a1, hl1, Nat.sub_self]; rfl
    · rw [hEd]; exact d4
  · rw [cnt_all l.toArray.size hL]
  · refine ⟨Step.refl Z, z3, z5, rfl, fun _ _ => rfl, fun j _ => hL j, hEZ.defers, hEZ.size, hEZ.del _, fun d => ?_, fun i o d z hi hl => absurd (hl.symm.trans (hL i)) (by decide), fun i j o p _ _ _ hl => absurd (hl.symm.trans (hL i)) (by decide)⟩
    by_cases hp : Pend l.toArray k (fun j => (Array.replicate l.toArray.size false).getD j false) d
    · exact .inl hp
    · right; right
      have : getE (eHd l.toArray k e (v1 ++ av :: v2)) d = getE e d := envV_ne _ _ _ _ fun o ho he => hp ?_
      · rw [this]; exact hEZ.rep d
      · obtain ⟨j, hj, e1⟩ := List.mem_iff_getElem.1 ho
        have hj' : j < k := by simp at hj; omega
        refine ⟨j, o, hj', hL j, ?_, he⟩
        have : (l.take k)[j]? = some o := by rw [List.getElem?_eq_getElem hj, e1]
        rw [List.getElem?_take, if_pos hj'] at this
        simpa using this
/-- The same, in the machine's words. -/
theorem esc_lt {P : Program} (hmix : P.follows .mixedOrders = true) {N : Nat} {L : List Nat} {ks : List (Nat × Nat)} {id : Nat} {l : List Oper} {Q : PostW} {e : Ev} {h : Hp} (k s m : Nat) (av : AV) {os : Oper} (hB : drawB N k l.toArray = true) (hsk : Nat.blt s k = true) (hos : l[s]? = some os) (hg : os.guard = none) (hal : isAlloc os = false) (hpu : isPure os = false) (hap : ∃ c, os.op = .call c ∧ c.callee = .builtin .append) (hna : (l.take k).all (fun o => !isAlloc o) = true)
    (hw : wHead P (kP l e Q) l (frzM m h) (l.take s) e [] (lateA P (kP l e Q) l (l.take s) ((l.take k).drop (s + 1)) (l.drop k) os av e (frzM m h) (kReg L Q))) : escE P N ks id l.toArray Q e h :=
  esc_late hmix k s m av hB hsk hos hg hal hpu (hap.elim fun c q => ⟨c, q.1, .inl q.2⟩) hna hw
end Go.Proofs.YtljfgdlgmdcmfaaGreat.Wv
