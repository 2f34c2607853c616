/- The machine of abstract values: code, functions. -/
import Derived.Test.YtljfgdlgmdcmfaaGreatMaC
import Derived.Test.YtljfgdlgmdcmfaaGreatMaD
import Derived.RangeFuncLeaves
import Derived.RangeFuncNested
namespace Go.Proofs.YtljfgdlgmdcmfaaGreat.Wv
open Go.RowKit
set_option linter.unusedVariables false
set_option autoImplicit false

theorem cnt_all {L : Nat → Bool} : ∀ k, (∀ j, L j = false) → cntH L k = k
  | 0, _ => rfl
  | k + 1, h => by simp [cntH, h, cnt_all k h]
theorem drawn_up {X : Cx} (hX : Ok X) : ∃ Y : Cx, Y.w = { X.w with drawn := X.w.drawn + 1 } ∧ Y.h = X.h ∧ Step X Y ∧ Ok Y := by
  have hcell : ∀ b o, cellAt { X.w with drawn := X.w.drawn + 1 } b o = cellAt X.w b o := fun _ _ => rfl
  have S : Step X ⟨{ X.w with drawn := X.w.drawn + 1 }, X.m, X.h, X.bad, X.ds⟩ := ⟨rfl, rfl, rfl, Nat.le_refl _, fun _ _ _ => rfl, fun _ _ _ h1 h2 => ⟨h1, h2⟩, Nat.le_refl _, fun i T s c f _ hi => ⟨c, f, hi, Nat.le_refl _, fun _ => rfl⟩, fun i c _ hi => ⟨c, hi, rfl⟩, fun b hb => .inr hb, fun _ _ hb => .inl hb, fun i c _ hi => ⟨c, hi, rfl⟩, rfl⟩
  refine ⟨⟨{ X.w with drawn := X.w.drawn + 1 }, X.m, X.h, X.bad, X.ds⟩, rfl, rfl, S, ?_⟩
  refine ⟨fun id cells hi => ?_, fun id T' s cells fz hi => ?_, hX.inj, hX.badlt, fun id es hi => ?_⟩
  · obtain ⟨b, cvs, T', h1, h2, h3, h4, h5⟩ := hX.blk id cells hi
    exact ⟨b, cvs, T', h1, h2, h3, h4, fun j a x q1 q2 => (h5 j a x q1 q2).mono S⟩
  · obtain ⟨g1, g2, n, g3, g4⟩ := hX.arr id T' s cells fz hi
    refine ⟨g1, g2, n, g3, ?_⟩
    rcases g4 with g4 | ⟨b, cvs, g4⟩
    · exact .inl g4
    · exact .inr ⟨b, cvs, ⟨g4.at_, g4.blk, g4.cap, g4.capm, g4.sz, g4.bad, fun j a x q1 q2 => (g4.rep j a x q1 q2).mono S, g4.good⟩⟩
  · obtain ⟨b, ents, clock, h1, h2, h3⟩ := hX.map id es hi
    exact ⟨b, ents, clock, h1, h2, h3.mono S⟩

/-- A call of the head never returns. -/
def DeadE (l : List Oper) (e : Ev) : Prop := ∃ (i : Nat) (o : Oper) (d : Nat), l[i]? = some o ∧ isPure o = false ∧ isAlloc o = false ∧ o.dst = some d ∧ isPz (getE e d) = true
theorem draw_pre {P : Program} (hmix : P.follows .mixedOrders = true) {N k id : Nat} {ops : Array Oper} {X : Cx} {e : Ev} {a : Act} (m m2 : Nat) {p : AV → Hp → Prop} {K : Ev → Hp → Prop} {Q : Exit → Act → World → Prop} (hB : drawB N k ops = true) (hX : Ok X) (hE : EnvOk X N e a)
    (h : wHead P p ops.toList (frzM m X.h) (ops.toList.take k) e [] fun e1 al => if m2 = 1 then DeadE (ops.toList.take k) e1 else wOps P p ops.toList (ops.toList.drop k) (allocEnv X.h.length al e1) (frzM m X.h ++ al.map blkOf) K)
    (hP : ∀ (Y : Cx) (av : AV) (v : Value) (a' : Act), Step X Y → Ok Y → EnvOk Y N (delE ops.toList e) a' → Rep Y av v → p av Y.h → Q (.panic [{ v, recovered := false }]) a' Y.w)
    (hQ : ∀ (Y : Cx) (e' : Ev) (a' : Act), Step X Y → Ok Y → EnvOk Y N e' a' → K e' Y.h → Q .normal a' Y.w) : wpAny P .any ops Q ops.size (Array.replicate ops.size false) a { X.w with drawn := X.w.drawn + 1 } := by
  obtain ⟨Y, y1, y2, y3, y4⟩ := drawn_up hX
  obtain ⟨Z, z1, z2, z3, z4⟩ := freeze_some m y4
  have z5 := z3.frzOk
  have S : Step X Z := y3.trans hX z2
  rw [y2] at z4
  obtain ⟨vals, v1, v2, v3⟩ := wHead_data _ _ _ h
  rw [List.nil_append] at v3
  have hok := drawB_ok hB
  have hlen : vals.length = k := by have := hok.le; rw [v1]; simp; omega
  have D : Dat P p N k ops Z e vals (fun _ => false) := ⟨hok, z3, z5, hlen, fun i o h => (by cases h), fun i o v hi _ ho hv => by
    rw [z4]
    exact v2 i o v (by rw [List.getElem?_take, if_pos hi]; simpa using ho) hv⟩
  have hEZ := hE.mono S
  rw [← y1, ← z1]
  have hL : ∀ j, (Array.replicate ops.size false).getD j false = false := fun j => by
    simp only [Array.getD, Array.size_replicate, Array.getInternal_eq_getElem, Array.getElem_replicate]; split <;> rfl
  refine draw_any D (p₀ := p) (K := K) ?_ (fun V av v a' S2 hV hEV hr hp => hP V av v a' (S.trans hX S2) hV hEV hr hp) (fun V e' a' S2 hV hEV hK => hQ V e' a' (S.trans hX S2) hV hEV hK) ops.size _ a Z.w (fun j h => by cases h) (by simp) (fun m j hm => absurd hm (by simp [hL])) ?_ (.inl ⟨Z, fun _ => 0, rfl, ?_⟩)
  · intro hal
    rw [z4, frzM_len]
    by_cases h1 : m2 = 1
    · rw [if_pos h1] at v3
      obtain ⟨i, o, d, q1, q2, q3, q4, q5⟩ := v3
      rw [List.getElem?_take] at q1
      split at q1
      · next hi =>
        have := hal i o d hi (by simpa using q1) q2 q3 q4
        unfold eHd at this
        rw [this] at q5; cases q5
      · cases q1
    · rw [if_neg h1] at v3; exact v3
  · rw [cnt_all ops.size hL]
  · refine ⟨Step.refl Z, z3, z5, rfl, fun _ _ => rfl, fun j _ => hL j, hEZ.defers, hEZ.size, hEZ.del _, fun d => ?_, fun i o d z hi hl => absurd hl (by simp [hL]), fun i j o p _ _ _ hl => absurd hl (by simp [hL])⟩
    by_cases hp : Pend ops k (fun j => (Array.replicate ops.size false).getD j false) d
    · exact .inl hp
    · right; right
      have : getE (eHd ops k e vals) d = getE e d := envV_ne _ _ _ _ fun o ho he => hp ?_
      · rw [this]; exact hEZ.rep d
      · obtain ⟨j, hj, e1⟩ := List.mem_iff_getElem.1 ho
        have hj' : j < k := by simp at hj; omega
        refine ⟨j, o, hj', hL j, ?_, he⟩
        have : (ops.toList.take k)[j]? = some o := by rw [List.getElem?_eq_getElem hj, e1]
        rw [List.getElem?_take, if_pos hj'] at this
        simpa using this
theorem draw_region {P : Program} (hmix : P.follows .mixedOrders = true) {N k id : Nat} {ops : Array Oper} {X : Cx} {e : Ev} {a : Act} (m m2 : Nat) {p : AV → Hp → Prop} {K : Ev → Hp → Prop} {Q : Exit → Act → World → Prop} (hB : drawB N k ops = true) (hX : Ok X) (hE : EnvOk X N e a)
    (h : wHead P p ops.toList (frzM m X.h) (ops.toList.take k) e [] fun e1 al => if m2 = 1 then DeadE (ops.toList.take k) e1 else wOps P p ops.toList (ops.toList.drop k) (allocEnv X.h.length al e1) (frzM m X.h ++ al.map blkOf) K)
    (hP : ∀ (Y : Cx) (av : AV) (v : Value) (a' : Act), Step X Y → Ok Y → EnvOk Y N (delE ops.toList e) a' → Rep Y av v → p av Y.h → Q (.panic [{ v, recovered := false }]) a' Y.w)
    (hQ : ∀ (Y : Cx) (e' : Ev) (a' : Act), Step X Y → Ok Y → EnvOk Y N e' a' → K e' Y.h → Q .normal a' Y.w) : (Code.region id ops true).wp P Q a X.w :=
  wp_region_any hmix (draw_pre (id := id) hmix m m2 hB hX hE h hP hQ)
def kOf : List (Nat × Nat) → Nat → Nat
  | [], _ => 0
  | (i, k) :: r, d => if i = d then k else kOf r d

def base (ks : List (Nat × Nat)) : Nat := kOf ks 1000000

/-- What the run's post says of an abstract post. -/
def PostOf (n0 : Nat) (X : Cx) (N : Nat) (Q : PostW) : Exit → Act → World → Prop
  | .normal, a, w => ∃ Y e, Y.w = w ∧ StepN n0 X Y ∧ Ok Y ∧ EnvOk Y N e a ∧ Q .normal e Y.h
  | .exit id, a, w => ∃ Y e, Y.w = w ∧ StepN n0 X Y ∧ Ok Y ∧ EnvOk Y N e a ∧ Q (.exit id) e Y.h
  | .ret, a, w => ∃ Y e, Y.w = w ∧ StepN n0 X Y ∧ Ok Y ∧ EnvOk Y N e a ∧ Q .ret e Y.h
  | .panic chain, a, w => ∃ v av Y e, chain = [{ v, recovered := false }] ∧ Y.w = w ∧ StepN n0 X Y ∧ Ok Y ∧ EnvOk Y N e a ∧ Rep Y av v ∧ Q (.panic av) e Y.h
  | _, _, _ => False
/-- What a post is made of. -/
inductive PostAt (n0 : Nat) (X : Cx) (N : Nat) (Q : PostW) : Exit → Act → World → Prop
  | ok (x : Ex) (ex : Exit) (Y : Cx) (e : Ev) (a : Act) (S : StepN n0 X Y) (hY : Ok Y) (hE : EnvOk Y N e a) (h : Q x e Y.h) (hx : (x = .normal ∧ ex = .normal) ∨ (∃ i, x = .exit i ∧ ex = .exit i) ∨ (x = .ret ∧ ex = .ret) ∨ ∃ v av, x = .panic av ∧ ex = .panic [{ v, recovered := false }] ∧ Rep Y av v) : PostAt n0 X N Q ex a Y.w
theorem PostOf.elim {n0 : Nat} {X : Cx} {N : Nat} {Q : PostW} {ex : Exit} {a : Act} {w : World} (h : PostOf n0 X N Q ex a w) : PostAt n0 X N Q ex a w := by
  cases ex with
  | normal => obtain ⟨Y, e, rfl, S, hY, hE, q⟩ := h; exact .ok .normal _ Y e a S hY hE q (.inl ⟨rfl, rfl⟩)
  | exit id => obtain ⟨Y, e, rfl, S, hY, hE, q⟩ := h; exact .ok (.exit id) _ Y e a S hY hE q (.inr (.inl ⟨id, rfl, rfl⟩))
  | ret => obtain ⟨Y, e, rfl, S, hY, hE, q⟩ := h; exact .ok .ret _ Y e a S hY hE q (.inr (.inr (.inl ⟨rfl, rfl⟩)))
  | panic c => obtain ⟨v, av, Y, e, rfl, rfl, S, hY, hE, hr, q⟩ := h; exact .ok (.panic av) _ Y e a S hY hE q (.inr (.inr (.inr ⟨v, av, rfl, rfl, hr⟩)))
  | _ => exact False.elim h
theorem PostAt.intro {n0 : Nat} {X : Cx} {N : Nat} {Q : PostW} {ex : Exit} {a : Act} {w : World} (h : PostAt n0 X N Q ex a w) : PostOf n0 X N Q ex a w := by
  cases h with
  | ok x ex Y e a S hY hE h hx =>
    rcases hx with ⟨rfl, rfl⟩ | ⟨i, rfl, rfl⟩ | ⟨rfl, rfl⟩ | ⟨v, av, rfl, rfl, hr⟩
    · exact ⟨Y, e, rfl, S, hY, hE, h⟩
    · exact ⟨Y, e, rfl, S, hY, hE, h⟩
    · exact ⟨Y, e, rfl, S, hY, hE, h⟩
    · exact ⟨v, av, Y, e, rfl, rfl, S, hY, hE, hr, h⟩
/-- A post as one sees it from further back, where what follows is answered for. -/
theorem PostOf.map {n0 : Nat} {X Y : Cx} {N : Nat} {Q Q' : PostW} {ex : Exit} {a : Act} {w : World} (hX : Ok X) (S : StepN n0 X Y) (h : PostOf n0 Y N Q ex a w) (hq : ∀ x e h, Q x e h → Q' x e h) : PostOf n0 X N Q' ex a w := by
  have := h.elim
  cases this with
  | ok x ex Z e a S2 hZ hE q hx => exact (PostAt.ok x ex Z e a (S.trans hX S2) hZ hE (hq _ _ _ q) hx).intro

/-- The mark that a loop over a function leaves among the deferred calls. -/
def markD (D : Nat) : Deferred := { target := .collected D, args := #[] }
structure Marks (n : Nat) (w : World) (l : List Nat) : Prop where
  dis : l.Nodup
  at_ : ∀ D, D ∈ l → n ≤ D ∧ w.heap[D]? = some (.deferred (some []))
/-- The same as PostOf, where such marks may have come. -/
def PostL (n0 : Nat) (X : Cx) (N : Nat) (Q : PostW) (ex : Exit) (a : Act) (w : World) : Prop := ∃ l, a.defers = l.map markD ++ X.ds ∧ Marks X.w.heap.size w l ∧ PostOf n0 X N Q ex { a with defers := X.ds } w
/-- A region that is answered for apart. -/
def escE (P : Program) (N : Nat) (ks : List (Nat × Nat)) (id : Nat) (ops : Array Oper) (Q : PostW) (e : Ev) (h : Hp) : Prop :=
  ∀ (X : Cx) (a : Act), base ks ≤ X.h.length → X.h = h → Ok X → EnvOk X N e a → (Code.region id ops true).wp P (PostOf (base ks) X N Q) a X.w
def wDraw (k : Nat) (E W : Prop) : Prop := if k = 1000000 then E else W
def wCode (P : Program) (N : Nat) (L : List Nat) (ks : List (Nat × Nat)) : Code → PostW → Ev → Hp → Prop
  | .skip, Q, e, h => Q .normal e h
  | .region _ ops false, Q, e, h => wOps P (fun av h' => Q (.panic av) (delE ops.toList e) h') ops.toList ops.toList e h fun e' h' => Q .normal (keepE L e') h'
  | .region id ops true, Q, e, h => wDraw (kOf ks id) (escE P N ks id ops Q e h) <| wHead P (fun av h' => Q (.panic av) (delE ops.toList e) h') ops.toList (frzM (kOf ks (3000000 + id)) h) (ops.toList.take (kOf ks id)) e [] fun e1 al =>
      if kOf ks (4000000 + id) = 1 then DeadE (ops.toList.take (kOf ks id)) e1 else wOps P (fun av h' => Q (.panic av) (delE ops.toList e) h') ops.toList (ops.toList.drop (kOf ks id)) (allocEnv h.length al e1) (frzM (kOf ks (3000000 + id)) h ++ al.map blkOf) fun e' h' => Q .normal (keepE L e') h'
  | .seq a b, Q, e, h => wCode P N L ks a (fun x e' h' => match x with | .normal => wCode P N L ks b Q e' h' | x => Q x e' h') e h
  | .cond c a b, Q, e, h => ∃ t, opnd e c = .v (.bool t) ∧ if t = true then wCode P N L ks a Q e h else wCode P N L ks b Q e h
  | .block id b, Q, e, h => wCode P N L ks b (fun x e' h' => match x with | .exit i => if i = id then Q .normal e' h' else Q (.exit i) e' h' | x => Q x e' h') e h
  | .exit id, Q, e, h => Q (.exit id) e h
  | .loop b, Q, e, h => ∃ (I : Nat → Ev → Hp → Prop) (n₀ : Nat) (e₀ : Ev) (h₀ : Hp), Ent (base ks) N e h e₀ h₀ ∧ I n₀ e₀ h₀ ∧
      ∀ n e' h', I n e' h' → wCode P N L ks b (fun x e'' h'' => match x with | .normal => ∃ n' e₁ h₁, Ent (base ks) N e'' h'' e₁ h₁ ∧ n' < n ∧ I n' e₁ h₁ | x => Q x e'' h'') e' h'
  | .ret, Q, e, h => Q .ret e h
  | .label _, Q, e, h => Q .normal e h
  | .scope b, Q, e, h => wCode P N L ks b Q e h
  | .rangeFunc f ps ag b, Q, e, h => ∀ (X : Cx) (a : Act), base ks ≤ X.h.length → X.h = h → Ok X → EnvOk X N e a → (Code.rangeFunc f ps ag b).wp P (PostL (base ks) X N Q) a X.w
  | _, _, _, _ => False

def okCode (N : Nat) (ks : List (Nat × Nat)) : Code → Bool
  | .region _ ops false => ops.toList.all (okDst N)
  | .region id ops true => drawB N (kOf ks id) ops || decide (kOf ks id = 1000000)
  | .seq a b => okCode N ks a && okCode N ks b
  | .cond _ a b => okCode N ks a && okCode N ks b
  | .block _ b => okCode N ks b
  | .loop b => okCode N ks b
  | .scope b => okCode N ks b
  | _ => true

theorem PostOf.intro {n0 : Nat} {X Y : Cx} {N : Nat} {Q : PostW} {e : Ev} {a : Act} (S : StepN n0 X Y) (hY : Ok Y) (hE : EnvOk Y N e a) : (Q .normal e Y.h → PostOf n0 X N Q .normal a Y.w) ∧ (∀ i, Q (.exit i) e Y.h → PostOf n0 X N Q (.exit i) a Y.w) ∧ (Q .ret e Y.h → PostOf n0 X N Q .ret a Y.w) :=
  ⟨fun h => ⟨Y, e, rfl, S, hY, hE, h⟩, fun _ h => ⟨Y, e, rfl, S, hY, hE, h⟩, fun h => ⟨Y, e, rfl, S, hY, hE, h⟩⟩

/-- Is there no loop over a function? -/
def noRF : Code → Bool
  | .seq a b => noRF a && noRF b
  | .cond _ a b => noRF a && noRF b
  | .block _ b => noRF b
  | .loop b => noRF b
  | .scope b => noRF b
  | .rangeFunc .. => false
  | _ => true
theorem code_sound {P : Program} (hmix : P.follows .mixedOrders = true) {N : Nat} {L : List Nat} {ks : List (Nat × Nat)} : ∀ (c : Code) (Q : PostW) (X : Cx) (e : Ev) (a : Act), okCode N ks c = true → noRF c = true → base ks ≤ X.h.length → Ok X → EnvOk X N e a → wCode P N L ks c Q e X.h → c.wp P (PostOf (base ks) X N Q) a X.w
  | .skip, Q, X, e, a, _, _, hn, hX, hE, h => wp_skip ((PostOf.intro ((Step.refl X).toN hn) hX hE).1 h)
  | .ret, Q, X, e, a, _, _, hn, hX, hE, h => wp_ret ((PostOf.intro ((Step.refl X).toN hn) hX hE).2.2 h)
  | .exit id, Q, X, e, a, _, _, hn, hX, hE, h => wp_exit ((PostOf.intro ((Step.refl X).toN hn) hX hE).2.1 id h)
  | .label l, Q, X, e, a, _, _, hn, hX, hE, h => wp_label ((PostOf.intro ((Step.refl X).toN hn) hX hE).1 h)
  | .scope b, Q, X, e, a, hk, hrf, hn, hX, hE, h => by
    refine wp_scope_straight (wp_mono (code_sound hmix b Q X e a hk hrf hn hX hE h) ?_)
    intro ex a' w' hp
    cases ex <;> first | exact hp | exact hp.elim
  | .rangeFunc f ps ag b, Q, X, e, a, hk, hrf, hn, hX, hE, h => by cases hrf
  | .region id ops false, Q, X, e, a, hk, hrf, hn, hX, hE, h => by
    refine wp_region ?_
    have := wOps_wp (P := P) (Q := PostOf (base ks) X N Q) (ops := ops) (e1 := delE ops.toList e) (fun o ho => delE_out ho e) hk ops.toList 0 X e a _ (fun i => by rw [List.drop_zero]) hX hE (hE.del _) h
      (fun Y av v a' S hY hEY hr hp => ⟨v, av, Y, _, rfl, rfl, S.toN hn, hY, hEY, hr, hp⟩) (fun Y e' a' S hY hEY hq => (PostOf.intro (S.toN hn) hY (hEY.keep L)).1 hq)
    rw [Array.length_toList, ← List.range_eq_range'] at this
    exact this
  | .region id ops true, Q, X, e, a, hk, hrf, hn, hX, hE, h => by
    by_cases hk2 : kOf ks id = 1000000
    · have h' : wDraw (kOf ks id) (escE P N ks id ops Q e X.h) _ := h
      unfold wDraw at h'
      rw [if_pos hk2] at h'
      exact h' X a hn rfl hX hE
    have h' : wDraw (kOf ks id) (escE P N ks id ops Q e X.h) _ := h
    unfold wDraw at h'
    rw [if_neg hk2] at h'
    have hk' : drawB N (kOf ks id) ops = true := by
      have h0 : (drawB N (kOf ks id) ops || decide (kOf ks id = 1000000)) = true := hk
      rw [decide_eq_false hk2, Bool.or_false] at h0; exact h0
    exact draw_region hmix _ _ hk' hX hE h' (fun Y av v a' S hY hEY hr hp => ⟨v, av, Y, _, rfl, rfl, S.toN hn, hY, hEY, hr, hp⟩) fun Y e' a' S hY hEY hq => (PostOf.intro (S.toN hn) hY (hEY.keep L)).1 hq
  | .seq x y, Q, X, e, a, hk, hrf, hn, hX, hE, h => by
    simp only [okCode, Bool.and_eq_true] at hk
    simp only [noRF, Bool.and_eq_true] at hrf
    refine wp_seq (wp_mono (code_sound hmix x _ X e a hk.1 hrf.1 hn hX hE h) ?_)
    intro ex a' w' hp
    have := hp.elim
    cases this with
    | ok z ex Y e' a' S hY hEY hq hx =>
      rcases hx with ⟨rfl, rfl⟩ | ⟨i, rfl, rfl⟩ | ⟨rfl, rfl⟩ | ⟨v, av, rfl, rfl, hr⟩
      · exact wp_mono (code_sound hmix y Q Y e' a' hk.2 hrf.2 S.len hY hEY hq) fun ex a2 w2 hp2 => hp2.map hX S fun _ _ _ q => q
      · exact (PostOf.intro S hY hEY).2.1 i hq
      · exact (PostOf.intro S hY hEY).2.2 hq
      · exact ⟨v, av, Y, e', rfl, rfl, S, hY, hEY, hr, hq⟩
  | .cond c x y, Q, X, e, a, hk, hrf, hn, hX, hE, h => by
    simp only [okCode, Bool.and_eq_true] at hk
    simp only [noRF, Bool.and_eq_true] at hrf
    obtain ⟨t, ht, h⟩ := h
    have hr := hE.opnd c
    rw [ht] at hr
    have hv : a.eval c = .bool t := by cases h1 : a.eval c <;> rw [h1] at hr <;> cases hr; rfl
    refine wp_cond hv ?_
    cases t
    · exact code_sound hmix y Q X e a hk.2 hrf.2 hn hX hE (by simpa using h)
    · exact code_sound hmix x Q X e a hk.1 hrf.1 hn hX hE (by simpa using h)
  | .block id b, Q, X, e, a, hk, hrf, hn, hX, hE, h => by
    refine wp_block (wp_mono (code_sound hmix b _ X e a hk hrf hn hX hE h) ?_)
    intro ex a' w' hp
    have := hp.elim
    cases this with
    | ok z ex Y e' a' S hY hEY hq hx =>
      rcases hx with ⟨rfl, rfl⟩ | ⟨i, rfl, rfl⟩ | ⟨rfl, rfl⟩ | ⟨v, av, rfl, rfl, hr⟩
      · exact (PostOf.intro S hY hEY).1 hq
      · simp only at hq
        show (if i = id then PostOf (base ks) X N Q .normal a' Y.w else PostOf (base ks) X N Q (.exit i) a' Y.w)
        split at hq
        · next ei => rw [if_pos ei]; exact (PostOf.intro S hY hEY).1 hq
        · next ei => rw [if_neg ei]; exact (PostOf.intro S hY hEY).2.1 i hq
      · exact (PostOf.intro S hY hEY).2.2 hq
      · exact ⟨v, av, Y, e', rfl, rfl, S, hY, hEY, hr, hq⟩
  | .loop b, Q, X, e, a, hk, hrf, hn, hX, hE, h => by
    obtain ⟨I, n₀, e₀, h₀, hent, hI, hround⟩ := h
    obtain ⟨Y₀, y1, y2, y3, y4, y5⟩ := hent X a rfl hn hX hE
    rw [← y1]
    refine wp_loop_ghost (fun n a' w' => ∃ Y e', Y.w = w' ∧ StepN (base ks) X Y ∧ Ok Y ∧ EnvOk Y N e' a' ∧ I n e' Y.h) n₀ ⟨Y₀, e₀, rfl, y3, y4, y5, by rw [y2]; exact hI⟩ ?_
    rintro n a' w' ⟨Y, e', rfl, S, hY, hEY, hIY⟩
    refine wp_mono (code_sound hmix b _ Y e' a' hk hrf S.len hY hEY (hround n e' Y.h hIY)) ?_
    intro ex a2 w2 hp
    have := hp.elim
    cases this with
    | ok z ex Z e2 a2 S2 hZ hEZ hq hx =>
      rcases hx with ⟨rfl, rfl⟩ | ⟨i, rfl, rfl⟩ | ⟨rfl, rfl⟩ | ⟨v, av, rfl, rfl, hr⟩
      · obtain ⟨n', e₁, h₁, hent2, hlt, hI2⟩ := hq
        obtain ⟨V, v1, v2, v3, v4, v5⟩ := hent2 Z a2 rfl S2.len hZ hEZ
        exact ⟨n', hlt, V, e₁, v1, (S.trans hX S2).trans hX v3, v4, v5, by rw [v2]; exact hI2⟩
      · exact (PostOf.intro (S.trans hX S2) hZ hEZ).2.1 i hq
      · exact (PostOf.intro (S.trans hX S2) hZ hEZ).2.2 hq
      · exact ⟨v, av, Z, e2, rfl, rfl, S.trans hX S2, hZ, hEZ, hr, hq⟩
  | .goto _, _, _, _, _, _, _, _, _, _, h => h.elim
  | .refuse _, _, _, _, _, _, _, _, _, _, h => h.elim
/-- What a body has to show. -/
def FinP (P : Program) (rs : Array ResultVar) (Q p : AV → Hp → Prop) : PostW := fun x e h => match x with
  | .exit _ => False
  | .panic av => ∃ r' h', close3 h av = some (r', h') ∧ p r' h'
  | _ => ∃ r r' h', resA P h e rs = some r ∧ close3 h r = some (r', h') ∧ Q r' h'
def Fin (P : Program) (rs : Array ResultVar) (Q : AV → Hp → Prop) : PostW := FinP P rs Q fun _ _ => False

/-- The same, with other calls put off. -/
def Cx.def_ (X : Cx) (d : List Deferred) : Cx := ⟨X.w, X.m, X.h, X.bad, d⟩
theorem Rep.def_ {X : Cx} {d : List Deferred} {a : AV} {x : Value} (h : Rep X a x) : Rep (X.def_ d) a x := Rep.ext (X := X) (Y := X.def_ d) (hs := []) rfl rfl (by simp [Cx.def_]) (fun _ _ => rfl) (fun c hc => .inl hc) h
theorem Ok.def_ {X : Cx} {d : List Deferred} (h : Ok X) : Ok (X.def_ d) :=
  ⟨fun id c hh => by
    obtain ⟨b, cvs, T, h1, h2, h3, h4, h5⟩ := h.blk id c hh
    exact ⟨b, cvs, T, h1, h2, h3, h4, fun i a x q1 q2 => (h5 i a x q1 q2).def_⟩,
   fun id T s c fz hh => by
    obtain ⟨g1, g2, n, g3, g4⟩ := h.arr id T s c fz hh
    refine ⟨g1, g2, n, g3, g4.imp (fun q => q) ?_⟩
    rintro ⟨b, cvs, g4⟩
    exact ⟨b, cvs, ⟨g4.at_, g4.blk, g4.cap, g4.capm, g4.sz, g4.bad, fun i a x q1 q2 => (g4.rep i a x q1 q2).def_, g4.good⟩⟩,
   h.inj, h.badlt, fun id es hh => by
    obtain ⟨b, ents, clock, h1, h2, h3, h4⟩ := h.map id es hh
    exact ⟨b, ents, clock, h1, h2, h3, fun i p e q1 q2 => ⟨(h4 i p e q1 q2).1, (h4 i p e q1 q2).2.def_⟩⟩⟩
theorem Step.undef {X Y : Cx} {d : List Deferred} (S : Step (X.def_ d) Y) : Step X (Y.def_ X.ds) :=
  ⟨S.os, S.tape, S.output, S.size, S.block, S.keep, S.len, S.oarr, S.oblk, S.own, S.badk, S.omap, rfl⟩

theorem StepN.re {n : Nat} {X Y : Cx} {d d2 : List Deferred} (S : StepN n (X.def_ d) Y) : StepN n (X.def_ d2) (Y.def_ d2) :=
  ⟨S.os, S.tape, S.output, S.size, S.block, S.keep, S.len, S.oarr, S.oblk, S.own, S.badk, S.omap, rfl⟩
theorem Ok.noD {X : Cx} (hX : Ok X) {D : Nat} {o : Option (List Deferred)} (h : X.w.heap[D]? = some (.deferred o)) : ¬ X.mine D := by
  rintro ⟨i, ⟨ob, ho⟩, hb⟩
  cases ob with
  | blk cells =>
    obtain ⟨b', cvs, T, h1, h2, _⟩ := hX.blk i cells ho
    rw [h1] at hb; injection hb with hb; subst hb; rw [h] at h2; cases h2
  | arr T size cells fz =>
    obtain ⟨_, _, n, _, h1 | ⟨b', cvs, h1⟩⟩ := hX.arr i T size cells fz ho
    · rw [h1.1] at hb; cases hb
    · have h2 := h1.at_
      rw [h2] at hb; injection hb with hb; subst hb
      have := h1.blk; rw [h] at this; cases this
  | map es =>
    obtain ⟨b', ents, clock, h1, h2, _⟩ := hX.map i es ho
    rw [h1] at hb; injection hb with hb; subst hb; rw [h] at h2; cases h2
theorem PostOf.toL {n0 : Nat} {X : Cx} {N : Nat} {Q : PostW} {ex : Exit} {a : Act} {w : World} (h : PostOf n0 X N Q ex a w) : PostL n0 X N Q ex a w := by
  have hd : a.defers = X.ds := by
    have := h.elim
    cases this with
    | ok x ex Y e a S hY hE hq hx => exact hE.defers.trans S.dse
  refine ⟨[], by simp [hd], ⟨List.nodup_nil, fun D h => by cases h⟩, ?_⟩
  rw [← hd]; exact h
theorem PostL.lift {n0 : Nat} {X Y : Cx} {N : Nat} {Q Q' : PostW} {ex : Exit} {a2 : Act} {w2 : World} {l : List Nat} (hX : Ok X) (S : StepN n0 X Y) (hY : Ok Y) (hM : Marks X.w.heap.size Y.w l) (h : PostL n0 (Y.def_ (l.map markD ++ X.ds)) N Q ex a2 w2) (hq : ∀ x e h, Q x e h → Q' x e h) : PostL n0 X N Q' ex a2 w2 := by
  obtain ⟨l2, e1, M2, hp⟩ := h
  obtain ⟨a3, ha3⟩ : ∃ a3, a3 = { a2 with defers := (Y.def_ (l.map markD ++ X.ds)).ds } := ⟨_, rfl⟩
  rw [← ha3] at hp
  have := hp.elim
  cases this with
  | ok x ex Z e a3 T hZ hE hQ hx =>
    have T1 : StepN n0 Y (Z.def_ Y.ds) := StepN.re (X := Y) (d := l.map markD ++ X.ds) (d2 := Y.ds) T
    have T2 : StepN n0 X (Z.def_ X.ds) := by
      have := S.trans hX T1
      rw [show Y.ds = X.ds from S.dse] at this; exact this
    refine ⟨l2 ++ l, ?_, ⟨?_, fun D hD => ?_⟩, ?_⟩
    · rw [e1, List.map_append, List.append_assoc]; rfl
    · rw [List.nodup_append]
      refine ⟨M2.dis, hM.dis, fun D1 h1 D2 h2 e => ?_⟩
      have g1 := (M2.at_ D1 h1).1
      have g2 := (Array.getElem?_eq_some_iff.1 (hM.at_ D2 h2).2).1
      subst e
      exact absurd g1 (by show ¬ Y.w.heap.size ≤ D1; omega)
    · rcases List.mem_append.1 hD with h1 | h1
      · exact ⟨Nat.le_trans S.size (M2.at_ D h1).1, (M2.at_ D h1).2⟩
      · obtain ⟨g1, g2⟩ := hM.at_ D h1
        refine ⟨g1, ?_⟩
        rw [T.block D (Array.getElem?_eq_some_iff.1 g2).1 (hY.noD g2)]; exact g2
    · have hE2 : EnvOk (Z.def_ X.ds) N e { a2 with defers := X.ds } := by
        have ht : a3.tmps = a2.tmps := by rw [ha3]
        refine ⟨rfl, by rw [← ht] ; exact hE.size, fun d => ?_⟩
        have := (hE.rep d).def_ (d := X.ds)
        rw [ht] at this; exact this
      refine PostAt.intro (.ok x ex (Z.def_ X.ds) e _ T2 hZ.def_ hE2 (hq _ _ _ hQ) ?_)
      rcases hx with h | h | h | ⟨v, av, h1, h2, h3⟩
      · exact .inl h
      · exact .inr (.inl h)
      · exact .inr (.inr (.inl h))
      · exact .inr (.inr (.inr ⟨v, av, h1, h2, h3.def_⟩))
/-- What a code leaves, taken apart. -/
theorem PostL.open {n0 : Nat} {X : Cx} {N : Nat} {Q : PostW} {ex : Exit} {a : Act} {w : World} (h : PostL n0 X N Q ex a w) :
    ∃ (x : Ex) (Y : Cx) (e : Ev) (l : List Nat), Y.w = w ∧ a.defers = l.map markD ++ X.ds ∧ Marks X.w.heap.size w l ∧ StepN n0 X Y ∧ Ok Y ∧ EnvOk Y N e { a with defers := X.ds } ∧ EnvOk (Y.def_ a.defers) N e a ∧ Q x e Y.h ∧ ((x = .normal ∧ ex = .normal) ∨ (∃ i, x = .exit i ∧ ex = .exit i) ∨ (x = .ret ∧ ex = .ret) ∨ ∃ v av, x = .panic av ∧ ex = .panic [{ v, recovered := false }] ∧ Rep Y av v) := by
  obtain ⟨l, e1, M, hp⟩ := h
  obtain ⟨a3, ha3⟩ : ∃ a3, a3 = { a with defers := X.ds } := ⟨_, rfl⟩
  rw [← ha3] at hp
  have := hp.elim
  cases this with
  | ok x ex Y e a3 T hY hE hQ hx =>
    have ht : a3.tmps = a.tmps := by rw [ha3]
    refine ⟨x, Y, e, l, rfl, e1, M, T, hY, by rw [← ha3]; exact hE, ⟨rfl, by rw [← ht]; exact hE.size, fun d => ?_⟩, hQ, hx⟩
    have := (hE.rep d).def_ (d := a.defers)
    rw [ht] at this; exact this
theorem PostL.close {n0 : Nat} {X Y : Cx} {N : Nat} {Q : PostW} {x : Ex} {ex : Exit} {a : Act} {e : Ev} {l : List Nat} (e1 : a.defers = l.map markD ++ X.ds) (M : Marks X.w.heap.size Y.w l) (S : StepN n0 X Y) (hY : Ok Y) (hE : EnvOk Y N e { a with defers := X.ds }) (hQ : Q x e Y.h)
    (hx : (x = .normal ∧ ex = .normal) ∨ (∃ i, x = .exit i ∧ ex = .exit i) ∨ (x = .ret ∧ ex = .ret) ∨ ∃ v av, x = .panic av ∧ ex = .panic [{ v, recovered := false }] ∧ Rep Y av v) : PostL n0 X N Q ex a Y.w :=
  ⟨l, e1, M, PostAt.intro (.ok x ex Y e _ S hY hE hQ hx)⟩
theorem code_soundL {P : Program} (hmix : P.follows .mixedOrders = true) {N : Nat} {L : List Nat} {ks : List (Nat × Nat)} : ∀ (c : Code) (Q : PostW) (X : Cx) (e : Ev) (a : Act), okCode N ks c = true → base ks ≤ X.h.length → Ok X → EnvOk X N e a → wCode P N L ks c Q e X.h → c.wp P (PostL (base ks) X N Q) a X.w
  | .skip, Q, X, e, a, hk, hn, hX, hE, h => wp_mono (code_sound hmix (L := L) (ks := ks) .skip Q X e a hk rfl hn hX hE h) fun _ _ _ q => q.toL
  | .ret, Q, X, e, a, hk, hn, hX, hE, h => wp_mono (code_sound hmix (L := L) (ks := ks) .ret Q X e a hk rfl hn hX hE h) fun _ _ _ q => q.toL
  | .exit id, Q, X, e, a, hk, hn, hX, hE, h => wp_mono (code_sound hmix (L := L) (ks := ks) (.exit id) Q X e a hk rfl hn hX hE h) fun _ _ _ q => q.toL
  | .label l, Q, X, e, a, hk, hn, hX, hE, h => wp_mono (code_sound hmix (L := L) (ks := ks) (.label l) Q X e a hk rfl hn hX hE h) fun _ _ _ q => q.toL
  | .region id ops d, Q, X, e, a, hk, hn, hX, hE, h => wp_mono (code_sound hmix (L := L) (ks := ks) (.region id ops d) Q X e a hk rfl hn hX hE h) fun _ _ _ q => q.toL
  | .scope b, Q, X, e, a, hk, hn, hX, hE, h => by
    refine wp_scope_straight (wp_mono (code_soundL hmix b Q X e a hk hn hX hE h) ?_)
    intro ex a' w' hp
    cases ex with
    | goto t => obtain ⟨_, _, _, hp⟩ := hp; exact False.elim hp
    | _ => exact hp
  | .rangeFunc f ps ag b, Q, X, e, a, hk, hn, hX, hE, h => h X a hn rfl hX hE
  | .seq x y, Q, X, e, a, hk, hn, hX, hE, h => by
    simp only [okCode, Bool.and_eq_true] at hk
    refine wp_seq (wp_mono (code_soundL hmix x _ X e a hk.1 hn hX hE h) ?_)
    intro ex a' w' hp
    obtain ⟨z, Y, e', l, rfl, e1, M, S, hY, hE1, hE2, hq, hx⟩ := hp.open
    rcases hx with ⟨rfl, rfl⟩ | ⟨i, rfl, rfl⟩ | ⟨rfl, rfl⟩ | ⟨v, av, rfl, rfl, hr⟩
    · refine wp_mono (code_soundL hmix y Q (Y.def_ a'.defers) e' a' hk.2 S.len hY.def_ hE2 hq) fun ex a2 w2 hp2 => ?_
      rw [e1] at hp2
      exact PostL.lift hX S hY M hp2 fun _ _ _ q => q
    · exact PostL.close e1 M S hY hE1 hq (.inr (.inl ⟨i, rfl, rfl⟩))
    · exact PostL.close e1 M S hY hE1 hq (.inr (.inr (.inl ⟨rfl, rfl⟩)))
    · exact PostL.close e1 M S hY hE1 hq (.inr (.inr (.inr ⟨v, av, rfl, rfl, hr⟩)))
  | .cond c x y, Q, X, e, a, hk, hn, hX, hE, h => by
    simp only [okCode, Bool.and_eq_true] at hk
    obtain ⟨t, ht, h⟩ := h
    have hr := hE.opnd c
    rw [ht] at hr
    have hv : a.eval c = .bool t := by cases h1 : a.eval c <;> rw [h1] at hr <;> cases hr; rfl
    refine wp_cond hv ?_
    cases t
    · exact code_soundL hmix y Q X e a hk.2 hn hX hE (by simpa using h)
    · exact code_soundL hmix x Q X e a hk.1 hn hX hE (by simpa using h)
  | .block id b, Q, X, e, a, hk, hn, hX, hE, h => by
    refine wp_block (wp_mono (code_soundL hmix b _ X e a hk hn hX hE h) ?_)
    intro ex a' w' hp
    obtain ⟨z, Y, e', l, rfl, e1, M, S, hY, hE1, hE2, hq, hx⟩ := hp.open
    rcases hx with ⟨rfl, rfl⟩ | ⟨i, rfl, rfl⟩ | ⟨rfl, rfl⟩ | ⟨v, av, rfl, rfl, hr⟩
    · exact PostL.close e1 M S hY hE1 hq (.inl ⟨rfl, rfl⟩)
    · simp only at hq
      show (if i = id then PostL (base ks) X N Q .normal a' Y.w else PostL (base ks) X N Q (.exit i) a' Y.w)
      split at hq
      · next ei => rw [if_pos ei]; exact PostL.close e1 M S hY hE1 hq (.inl ⟨rfl, rfl⟩)
      · next ei => rw [if_neg ei]; exact PostL.close e1 M S hY hE1 hq (.inr (.inl ⟨i, rfl, rfl⟩))
    · exact PostL.close e1 M S hY hE1 hq (.inr (.inr (.inl ⟨rfl, rfl⟩)))
    · exact PostL.close e1 M S hY hE1 hq (.inr (.inr (.inr ⟨v, av, rfl, rfl, hr⟩)))
  | .loop b, Q, X, e, a, hk, hn, hX, hE, h => by
    obtain ⟨I, n₀, e₀, h₀, hent, hI, hround⟩ := h
    obtain ⟨Y₀, y1, y2, y3, y4, y5⟩ := hent X a rfl hn hX hE
    rw [← y1]
    have hd0 : a.defers = X.ds := hE.defers
    refine wp_loop_ghost (fun n a' w' => ∃ Y e' l, Y.w = w' ∧ a'.defers = l.map markD ++ X.ds ∧ Marks X.w.heap.size w' l ∧ StepN (base ks) X Y ∧ Ok Y ∧ EnvOk Y N e' { a' with defers := X.ds } ∧ I n e' Y.h) n₀
      ⟨Y₀, e₀, [], rfl, by simp [hd0], ⟨List.nodup_nil, fun D h => by cases h⟩, y3, y4, by rw [← hd0]; exact y5, by rw [y2]; exact hI⟩ ?_
    rintro n a' w' ⟨Y, e', l, rfl, e1, M, S, hY, hEY, hIY⟩
    have hE2 : EnvOk (Y.def_ a'.defers) N e' a' := ⟨rfl, hEY.size, fun d => (hEY.rep d).def_⟩
    refine wp_mono (code_soundL hmix b _ (Y.def_ a'.defers) e' a' hk S.len hY.def_ hE2 (hround n e' Y.h hIY)) ?_
    intro ex a2 w2 hp
    rw [e1] at hp
    have hp' := PostL.lift (Q' := fun x e'' h'' => match x with | .normal => ∃ n' e₁ h₁, Ent (base ks) N e'' h'' e₁ h₁ ∧ n' < n ∧ I n' e₁ h₁ | x => Q x e'' h'') hX S hY M hp fun _ _ _ q => q
    obtain ⟨z, Z, e2, l2, rfl, e3, M2, S2, hZ, hEZ, _, hq, hx⟩ := hp'.open
    rcases hx with ⟨rfl, rfl⟩ | ⟨i, rfl, rfl⟩ | ⟨rfl, rfl⟩ | ⟨v, av, rfl, rfl, hr⟩
    · obtain ⟨n', e₁, h₁, hent2, hlt, hI2⟩ := hq
      obtain ⟨V, v1, v2, v3, v4, v5⟩ := hent2 Z { a2 with defers := X.ds } rfl S2.len hZ hEZ
      exact ⟨n', hlt, V, e₁, l2, v1, e3, M2, S2.trans hX v3, v4, v5, by rw [v2]; exact hI2⟩
    · exact PostL.close e3 M2 S2 hZ hEZ hq (.inr (.inl ⟨i, rfl, rfl⟩))
    · exact PostL.close e3 M2 S2 hZ hEZ hq (.inr (.inr (.inl ⟨rfl, rfl⟩)))
    · exact PostL.close e3 M2 S2 hZ hEZ hq (.inr (.inr (.inr ⟨v, av, rfl, rfl, hr⟩)))
  | .goto _, _, _, _, _, _, _, _, _, h => h.elim
  | .refuse _, _, _, _, _, _, _, _, _, h => h.elim

/-- The world where the marks' blocks are shut. -/
def shut (w : World) : List Nat → World
  | [] => w
  | D :: l => shut (w.putObj D (.deferred none)) l
theorem leaves_marks {P : Program} {fn : Func} {tmps : Array Value} {R : Ending → World → Prop} {n m : Nat} {u : FrameMode} (hu : u ≠ .run) : ∀ (l : List Nat) (w : World), Marks n w l → LeavesIn Fence.wide m P fn tmps R [] u (shut w l) → LeavesInM Fence.wide m P fn tmps R (l.map markD) u w
  | [], w, _, h => h
  | D :: l, w, M, h => by
    have hD := (M.at_ D (List.mem_cons_self ..)).2
    have hn := List.nodup_cons.1 M.dis
    refine ⟨hu, .inl ⟨D, _, rfl, run_takeDeferred hD, leaves_marks (n := n) hu l _ ⟨hn.2, fun D' h' => ?_⟩ h⟩⟩
    obtain ⟨g1, g2⟩ := M.at_ D' (List.mem_cons_of_mem _ h')
    have hne : D' ≠ D := fun e => by subst e; exact hn.1 h'
    exact ⟨g1, by rw [World.putObj_heap_other hne]; exact g2⟩
theorem cell_putObj {w : World} {D : Nat} {o : Option (List Deferred)} (h : w.heap[D]? = some (.deferred o)) (o' : Obj) {b off : Nat} {x : Value} (hx : cellAt w b off = some x) : cellAt (w.putObj D o') b off = some x := by
  have hne : b ≠ D := fun e => by
    subst e
    unfold cellAt World.cell? at hx
    simp [h] at hx
  unfold cellAt World.cell? at hx ⊢
  rw [World.putObj_heap_other hne]; exact hx
theorem Rep.shut {X : Cx} {D : Nat} {o : Option (List Deferred)} (hD : X.w.heap[D]? = some (.deferred o)) (o' : Obj) {a : AV} {x : Value} (h : Rep X a x) : Rep ⟨X.w.putObj D o', X.m, X.h, X.bad, X.ds⟩ a x := by
  induction h with
  | v x => exact .v x
  | none x => exact .none x
  | t hl hc hn hcap hp hr ih =>
    refine .t hl hc hn hcap (fun h0 => ?_) ih
    obtain ⟨b, off, e, k⟩ := hp h0
    exact ⟨b, off, e, fun i x hx => ⟨cell_putObj hD o' (k i x hx).1, (k i x hx).2⟩⟩
  | g hc hr ih => exact .g hc ih
  | tup hc hr ih => exact .tup hc ih
  | tp hc hp hr ih => exact .tp hc (fun i x hx => ⟨cell_putObj hD o' (hp i x hx).1, (hp i x hx).2⟩) ih
  | fn h1 h2 r1 r2 ih1 ih2 => exact .fn h1 h2 ih1 ih2
  | ifc h ih => exact .ifc ih
  | e0 b => exact .e0 b
  | own hid h => exact .own hid h
  | ptr hid h => exact .ptr hid h
  | ap hid h => exact .ap hid h
  | mp hid h => exact .mp hid h
  | tm hb hm hl hk hr ih =>
    refine .tm (by show (X.w.putObj D o').heap[_]? = _; rw [World.putObj_heap_other (fun e => by subst e; rw [hD] at hb; cases hb)]; exact hb) hm hl hk ih
theorem Ok.shut {X : Cx} (hX : Ok X) {D : Nat} {o : Option (List Deferred)} (hD : X.w.heap[D]? = some (.deferred o)) (o' : Obj) : Ok ⟨X.w.putObj D o', X.m, X.h, X.bad, X.ds⟩ := by
  have other : ∀ {b : Nat} {ob : Obj}, X.w.heap[b]? = some ob → (∀ q, ob ≠ .deferred q) → (X.w.putObj D o').heap[b]? = some ob := fun {b ob} h1 h2 => by
    rw [World.putObj_heap_other (fun e => by subst e; rw [hD] at h1; injection h1 with h1; exact h2 o h1.symm)]; exact h1
  refine ⟨fun id cells hh => ?_, fun id T size cells fz hh => ?_, fun i j b hi hj => hX.inj i j b hi hj, fun b o2 hb => ?_, fun id es hh => ?_⟩
  · obtain ⟨b, cvs, T, h1, h2, h3, h4, h5⟩ := hX.blk id cells hh
    exact ⟨b, cvs, T, h1, other h2 (fun q e => by cases e), h3, h4, fun i a x g1 g2 => (h5 i a x g1 g2).shut hD o'⟩
  · obtain ⟨g1, g2, n, g3, g4⟩ := hX.arr id T size cells fz hh
    refine ⟨g1, g2, n, g3, ?_⟩
    rcases g4 with g4 | ⟨b, cvs, g4⟩
    · exact .inl g4
    · exact .inr ⟨b, cvs, ⟨g4.at_, other g4.blk (fun q e => by cases e), g4.cap, g4.capm, g4.sz, g4.bad, fun i a x q1 q2 => (g4.rep i a x q1 q2).shut hD o', g4.good⟩⟩
  · have := hX.badlt b o2 hb
    show b < (X.w.putObj D o').heap.size
    simpa [World.putObj] using this
  · obtain ⟨b, ents, clock, h1, h2, h3, h4⟩ := hX.map id es hh
    exact ⟨b, ents, clock, h1, other h2 (fun q e => by cases e), h3, fun i p e q1 q2 => ⟨(h4 i p e q1 q2).1, (h4 i p e q1 q2).2.shut hD o'⟩⟩
theorem StepN.shut {k n : Nat} {X Y : Cx} (S : StepN k X Y) {D : Nat} {o : Option (List Deferred)} (hD : Y.w.heap[D]? = some (.deferred o)) (hn : X.w.heap.size ≤ D) (o' : Obj) : StepN k X ⟨Y.w.putObj D o', Y.m, Y.h, Y.bad, Y.ds⟩ :=
  ⟨S.os, S.tape, S.output, by show _ ≤ (Y.w.putObj D o').heap.size; simpa [World.putObj] using S.size, fun b hb hm => by
    show (Y.w.putObj D o').heap[b]? = _
    rw [World.putObj_heap_other (by omega)]; exact S.block b hb hm, fun b o2 x hx hb => ⟨cell_putObj hD o' (S.keep b o2 x hx hb).1, (S.keep b o2 x hx hb).2⟩, S.len, S.oarr, S.oblk, S.own, S.badk, S.omap, S.dse⟩
theorem shut_ctx {k : Nat} {X : Cx} : ∀ (l : List Nat) (Y : Cx), StepN k X Y → Ok Y → Marks X.w.heap.size Y.w l → ∃ Z, Z.w = shut Y.w l ∧ Z.h = Y.h ∧ Z.ds = Y.ds ∧ StepN k X Z ∧ Ok Z ∧ ∀ (a : AV) (v : Value), Rep Y a v → Rep Z a v
  | [], Y, S, hY, _ => ⟨Y, rfl, rfl, rfl, S, hY, fun _ _ h => h⟩
  | D :: l, Y, S, hY, M => by
    obtain ⟨g1, hD⟩ := M.at_ D (List.mem_cons_self ..)
    have hn := List.nodup_cons.1 M.dis
    obtain ⟨Z, z1, z2, z3, z4, z5, z6⟩ := shut_ctx l ⟨Y.w.putObj D (.deferred none), Y.m, Y.h, Y.bad, Y.ds⟩ (S.shut (n := k) hD g1 _) (hY.shut hD _) ⟨hn.2, fun D' h' => by
      obtain ⟨q1, q2⟩ := M.at_ D' (List.mem_cons_of_mem _ h')
      have hne : D' ≠ D := fun e => by subst e; exact hn.1 h'
      exact ⟨q1, by show (Y.w.putObj D _).heap[D']? = _; rw [World.putObj_heap_other hne]; exact q2⟩⟩
    exact ⟨Z, z1, z2, z3, z4, z5, fun a v h => z6 a v (h.shut hD _)⟩

theorem HTP.of {P : Program} {f : FuncId} {fn : Func} {body : Code} {args : List AV} {h : Hp} {L : List Nat} {ks : List (Nat × Nat)} {R p : AV → Hp → Prop} (hmix : P.follows .mixedOrders = true) (hf : P.funcs[f]? = some fn) (hb : fn.body = some body) (hp : bodyP P f = true) (hk : okCode fn.ntmps ks body = true) (hN : args.length ≤ fn.ntmps) (hbs : base ks = h.length)
    (hw : wCode P fn.ntmps L ks body (FinP P fn.results R p) (argE 0 args) h) : HTP P f args h R p := by
  refine ⟨hp, fun X vs hX hh hr => ?_⟩
  subst hh
  have hX' : Ok (X.def_ []) := hX.def_
  have hr' : RepL (X.def_ []) args vs := ⟨hr.1, fun i a x h1 h2 => (hr.2 i a x h1 h2).def_⟩
  refine (callsIn_wide (n := 0)).1 (callsIn_of_wp_marks hf hb trivial (wpIn_wide.2 (wp_mono (code_soundL hmix body _ (X.def_ []) _ _ hk (by rw [hbs]; exact Nat.le_refl _) hX' (enter_ok rfl hr' hN) hw) ?_)) rfl)
  intro ex a' w' hpost
  obtain ⟨z, Y, e', l, rfl, e1, M, SN, hY, hEY, _, hq, hx⟩ := hpost.open
  rw [hbs] at SN
  have hd : a'.defers = l.map markD := by rw [e1]; exact List.append_nil _
  obtain ⟨Z, z1, z2, z3, z4, z5, z6⟩ := shut_ctx l Y SN hY M
  have S := StepN.full (X := X.def_ []) z4
  have hEZ : EnvOk Z fn.ntmps e' { a' with defers := [] } := ⟨by rw [z3]; exact hEY.defers, hEY.size, fun d => z6 _ _ (hEY.rep d)⟩
  have key : (∃ r r' h', resA P Y.h e' fn.results = some r ∧ close3 Y.h r = some (r', h') ∧ R r' h') → LeavesIn Fence.wide 0 P fn a'.tmps (fun e w' => ∃ u V av, V.w = w' ∧ Step X V ∧ Ok V ∧ Rep V av u ∧ ((e = .returned u ∧ R av V.h) ∨ (e = .panicked [{ v := u, recovered := false }] ∧ p av V.h))) [] .returning (shut Y.w l) := by
    rintro ⟨r, r', h', h1, h2, h3⟩
    rw [← z2] at h1 h2
    obtain ⟨v, q1, q2⟩ := resA_ok (fn := fn) z5 hEZ h1
    obtain ⟨V, v1, v2, v3, v4, v5⟩ := close3_ok Z r r' h' v z5 h2 q2
    rw [← z1]
    exact ⟨v, q1, v, V.def_ X.ds, r', v1, (S.trans hX' v2).undef, v3.def_, v5.def_, .inl ⟨rfl, by show R r' V.h; rw [v4]; exact h3⟩⟩
  rcases hx with ⟨rfl, rfl⟩ | ⟨i, rfl, rfl⟩ | ⟨rfl, rfl⟩ | ⟨v, av, rfl, rfl, hrv⟩
  · show LeavesInM Fence.wide 0 P fn a'.tmps _ a'.defers .returning Y.w
    rw [hd]; exact leaves_marks (by simp) l _ M (key hq)
  · exact hq.elim
  · show LeavesInM Fence.wide 0 P fn a'.tmps _ a'.defers .returning Y.w
    rw [hd]; exact leaves_marks (by simp) l _ M (key hq)
  · obtain ⟨r', h', h2, h3⟩ := hq
    show LeavesInM Fence.wide 0 P fn a'.tmps _ a'.defers (.panicking _) Y.w
    rw [hd]
    refine leaves_marks (by simp) l _ M ?_
    rw [← z2] at h2
    obtain ⟨V, v1, v2, v3, v4, v5⟩ := close3_ok Z av r' h' v z5 h2 (z6 _ _ hrv)
    rw [← z1]
    exact ⟨v, V.def_ X.ds, r', v1, (S.trans hX' v2).undef, v3.def_, v5.def_, .inr ⟨rfl, by show p r' V.h; rw [v4]; exact h3⟩⟩
theorem HT.of {P : Program} {f : FuncId} {fn : Func} {body : Code} {args : List AV} {h : Hp} {L : List Nat} {ks : List (Nat × Nat)} {R : AV → Hp → Prop} (hmix : P.follows .mixedOrders = true) (hf : P.funcs[f]? = some fn) (hb : fn.body = some body) (hp : bodyP P f = true) (hk : okCode fn.ntmps ks body = true) (hN : args.length ≤ fn.ntmps) (hbs : base ks = h.length)
    (hw : wCode P fn.ntmps L ks body (Fin P fn.results R) (argE 0 args) h) : HT P f args h R :=
  HTP.toT (HTP.of hmix hf hb hp hk hN hbs hw) fun _ _ q => q

theorem TC.of {P : Program} {f : FuncId} {fn : Func} {body : Code} {args : List AV} {res : AV} (L : List Nat) (ks : List (Nat × Nat)) (hmix : P.follows .mixedOrders = true) (hf : P.funcs[f]? = some fn) (hb : fn.body = some body) (hp : bodyP P f = true) (hk : okCode fn.ntmps ks body = true) (hN : args.length ≤ fn.ntmps) (hbs : base ks = 0) (hc : Clo res)
    (hw : wCode P fn.ntmps L ks body (Fin P fn.results fun r _ => r = res) (argE 0 args) []) : TC P f args res := TC.of_HT (HT.of hmix hf hb hp hk hN hbs hw) hc

end Go.Proofs.YtljfgdlgmdcmfaaGreat.Wv
