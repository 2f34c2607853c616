/- The machine of abstract values: objects at the end are dropped; a contract about some objects holds beside others, under other numbers. -/
import Derived.Test.YtljfgdlgmdcmfaaGreatWvX
namespace Go.Proofs.YtljfgdlgmdcmfaaGreat.Wv
open Go.RowKit
set_option linter.unusedVariables false
set_option autoImplicit false

/-- Objects from m on are dropped. -/
theorem cut_ctx {X : Cx} {m : Nat} (hX : Ok X) (hm : m ≤ X.h.length) (hh : loH m (X.h.take m)) : ∃ Y, Y.w = X.w ∧ Y.h = X.h.take m ∧ StepN m X Y ∧ Ok Y ∧ ∀ (a : AV) (x : Value), lo m a → Rep X a x → Rep Y a x := by
  have hE : EnvOk X 0 [] { tmps := #[], defers := X.ds } := ⟨rfl, rfl, fun d => .none _⟩
  have := Ent.cut (n0 := m) (N := 0) (e := []) (e' := []) (h := X.h) m (Nat.le_refl _) trivial trivial hh X _ rfl hm hX hE
  obtain ⟨Y, y1, y2, y3, y4, y5⟩ := this
  refine ⟨⟨X.w, X.m, X.h.take m, X.bad, X.ds⟩, rfl, rfl, ?_, ?_, fun a x hl hr => hr.cut hl⟩
  · have sub : ∀ (i : Nat) (o : Option Ob), (X.h.take m)[i]? = some o → i < m ∧ X.h[i]? = some o := fun i o q => by
      rw [List.getElem?_take] at q
      split at q
      · next hi => exact ⟨hi, q⟩
      · cases q
    refine ⟨rfl, rfl, rfl, Nat.le_refl _, fun _ _ _ => rfl, fun _ _ _ h1 h2 => ⟨h1, h2⟩, (by simp; omega), fun i T s c f _ hi => ⟨c, f, (sub i _ hi).2, Nat.le_refl _, fun _ => rfl⟩, fun i c _ hi => ⟨c, (sub i _ hi).2, rfl⟩, fun b hb => ?_, fun _ _ hb => .inl hb, fun i c _ hi => ⟨c, (sub i _ hi).2, rfl⟩, rfl⟩
    obtain ⟨i, ⟨o, ho⟩, hb⟩ := hb
    exact .inr ⟨i, ⟨o, (sub i _ ho).2⟩, hb⟩
  · have sub : ∀ (i : Nat) (o : Option Ob), (X.h.take m)[i]? = some o → i < m ∧ X.h[i]? = some o := fun i o q => by
      rw [List.getElem?_take] at q
      split at q
      · next hi => exact ⟨hi, q⟩
      · cases q
    refine ⟨fun id cells hi => ?_, fun id T' s cells fz hi => ?_, fun i j b hi hj => ?_, hX.badlt, fun id es hi => ?_⟩
    · obtain ⟨b, cvs, T', h1, h2, h3, h4, h5⟩ := hX.blk id cells (sub id _ hi).2
      exact ⟨b, cvs, T', h1, h2, h3, h4, fun j a x q1 q2 => Rep.cut (h5 j a x q1 q2) ((loH_get hh id).1 cells hi a (List.mem_of_getElem? q1))⟩
    · obtain ⟨g1, g2, n, g3, g4⟩ := hX.arr id T' s cells fz (sub id _ hi).2
      refine ⟨g1, g2, n, g3, ?_⟩
      rcases g4 with g4 | ⟨b, cvs, g4⟩
      · exact .inl g4
      · exact .inr ⟨b, cvs, ⟨g4.at_, g4.blk, g4.cap, g4.capm, g4.sz, g4.bad, fun j a x q1 q2 => Rep.cut (g4.rep j a x q1 q2) ((loH_get hh id).2.1 T' s cells fz hi a (List.mem_of_getElem? q1)), g4.good⟩⟩
    · obtain ⟨o, ho⟩ := hi
      obtain ⟨o', ho'⟩ := hj
      exact hX.inj i j b ⟨o, (sub i _ ho).2⟩ ⟨o', (sub j _ ho').2⟩
    · obtain ⟨b, ents, clock, h1, h2, h3, h4⟩ := hX.map id es (sub id _ hi).2
      exact ⟨b, ents, clock, h1, h2, h3, fun j p e q1 q2 => ⟨(h4 j p e q1 q2).1, Rep.cut (h4 j p e q1 q2).2 ((loH_get hh id).2.2 es hi _ (List.mem_map.2 ⟨p, List.mem_of_getElem? q1, rfl⟩))⟩⟩

/-- What a call hands out, once its own objects are dropped. -/
theorem HTP.cut {P : Program} {f : FuncId} {args : List AV} {h : Hp} {R p : AV → Hp → Prop} (T : HTP P f args h R p) (hR : ∀ r h', R r h' → lo h.length r ∧ loH h.length (h'.take h.length)) (hp : ∀ r h', p r h' → lo h.length r ∧ loH h.length (h'.take h.length)) :
    HTP P f args h (fun r h2 => ∃ h', R r h' ∧ h2 = h'.take h.length) (fun r h2 => ∃ h', p r h' ∧ h2 = h'.take h.length) := by
  refine ⟨T.1, fun X vs hX hh hr => (T.2 X vs hX hh hr).mono ?_⟩
  subst hh
  rintro e w' ⟨v, Y, av, rfl, S, hY, hv, hq⟩
  have key : lo X.h.length av → loH X.h.length (Y.h.take X.h.length) → ∃ Z : Cx, Z.w = Y.w ∧ Step X Z ∧ Ok Z ∧ Rep Z av v ∧ Z.h = Y.h.take X.h.length := fun h1 h2 => by
    obtain ⟨Z, z1, z2, z3, z4, z5⟩ := cut_ctx hY S.len h2
    have S2 : StepN X.h.length X Z := (S.toN (Nat.le_refl _)).trans hX z3
    exact ⟨Z, z1, S2.full, z4, z5 _ _ h1 hv, z2⟩
  rcases hq with ⟨rfl, hq⟩ | ⟨rfl, hq⟩
  · obtain ⟨Z, z1, z2, z3, z4, z5⟩ := key (hR _ _ hq).1 (hR _ _ hq).2
    exact ⟨v, Z, av, z1, z2, z3, z4, .inl ⟨rfl, Y.h, hq, z5⟩⟩
  · obtain ⟨Z, z1, z2, z3, z4, z5⟩ := key (hp _ _ hq).1 (hp _ _ hq).2
    exact ⟨v, Z, av, z1, z2, z3, z4, .inr ⟨rfl, Y.h, hq, z5⟩⟩

/-- A call that only reads what is owned. -/
def RD (P : Program) (f : FuncId) (args : List AV) (h : Hp) (R p : AV → Prop) : Prop := HTP P f args h (fun r h' => R r ∧ h' = h) (fun r h' => p r ∧ h' = h)
theorem RD.of {P : Program} {f : FuncId} {args : List AV} {h : Hp} {R p : AV → Prop} (T : HTP P f args h (fun r h' => R r ∧ h'.take h.length = h) (fun r h' => p r ∧ h'.take h.length = h)) (hR : ∀ r, R r → lo h.length r) (hp : ∀ r, p r → lo h.length r) (hh : loH h.length h) : RD P f args h R p := by
  refine (T.cut (fun r h' q => ⟨hR r q.1, by rw [q.2]; exact hh⟩) (fun r h' q => ⟨hp r q.1, by rw [q.2]; exact hh⟩)).mono ?_ ?_
  · rintro r h2 ⟨h', ⟨q1, q2⟩, rfl⟩; exact ⟨q1, q2⟩
  · rintro r h2 ⟨h', ⟨q1, q2⟩, rfl⟩; exact ⟨q1, q2⟩

/-- The same value, where objects have other numbers. -/
inductive Rn (σ : Nat → Nat) (n : Nat) : AV → AV → Prop
  | clo {a : AV} (h : Clo a) : Rn σ n a a
  | own {id k : Nat} (h : id < n) : Rn σ n (.own id k) (.own (σ id) k)
  | ptr {id o : Nat} (h : id < n) : Rn σ n (.ptr id o) (.ptr (σ id) o)
  | ap {id k o : Nat} (h : id < n) : Rn σ n (.ap id k o) (.ap (σ id) k o)
  | mp {id : Nat} (h : id < n) : Rn σ n (.mp id) (.mp (σ id))
  | g {l l' : List AV} (hl : l.length = l'.length) (h : ∀ (i : Nat) (a b : AV), l[i]? = some a → l'[i]? = some b → Rn σ n a b) : Rn σ n (.g l) (.g l')
  | fn {f : Fn} {l l' k k' : List AV} (hl : l.length = l'.length) (hk : k.length = k'.length) (h1 : ∀ (i : Nat) (a b : AV), l[i]? = some a → l'[i]? = some b → Rn σ n a b) (h2 : ∀ (i : Nat) (a b : AV), k[i]? = some a → k'[i]? = some b → Rn σ n a b) : Rn σ n (.fn f l k) (.fn f l' k')
def RnL (σ : Nat → Nat) (n : Nat) : List AV → List AV → Prop
  | [], [] => True
  | a :: l, b :: l' => Rn σ n a b ∧ RnL σ n l l'
  | _, _ => False
theorem RnL.len {σ : Nat → Nat} {n : Nat} : ∀ {l l' : List AV}, RnL σ n l l' → l.length = l'.length
  | [], [], _ => rfl
  | _ :: _, _ :: _, h => by simp [RnL.len h.2]
  | [], _ :: _, h => h.elim
  | _ :: _, [], h => h.elim
theorem RnL.get {σ : Nat → Nat} {n : Nat} : ∀ {l l' : List AV} (h : RnL σ n l l') (i : Nat) (a b : AV), l[i]? = some a → l'[i]? = some b → Rn σ n a b
  | _ :: _, _ :: _, h, 0, a, b, h1, h2 => by simp at h1 h2; subst h1 h2; exact h.1
  | _ :: _, _ :: _, h, i + 1, a, b, h1, h2 => RnL.get h.2 i a b (by simpa using h1) (by simpa using h2)
  | [], [], _, _, _, _, h1, _ => by simp at h1
  | [], _ :: _, h, _, _, _, _, _ => h.elim
  | _ :: _, [], h, _, _, _, _, _ => h.elim
theorem RnL.clo {σ : Nat → Nat} {n : Nat} : ∀ {l : List AV}, (∀ (a : AV), a ∈ l → Clo a) → RnL σ n l l
  | [], _ => trivial
  | a :: r, h => ⟨.clo (h a (List.mem_cons_self ..)), RnL.clo fun b hb => h b (List.mem_cons_of_mem _ hb)⟩
def RnO (σ : Nat → Nat) (n : Nat) : Ob → Ob → Prop
  | .blk c, .blk c' => RnL σ n c c'
  | .arr T s c fz, .arr T' s' c' fz' => T = T' ∧ s = s' ∧ fz = fz' ∧ RnL σ n c c'
  | .map es, .map es' => es.map (·.1) = es'.map (·.1) ∧ RnL σ n (es.map (·.2)) (es'.map (·.2))
  | _, _ => False
structure Br (σ : Nat → Nat) (A B : Cx) : Prop where
  w : A.w = B.w
  bad : A.bad = B.bad
  inj : ∀ i j, i < A.h.length → j < A.h.length → σ i = σ j → i = j
  lt : ∀ i, i < A.h.length → σ i < B.h.length
  obj : ∀ i o, A.h[i]? = some (some o) → ∃ o', B.h[σ i]? = some (some o') ∧ RnO σ A.h.length o o'
  bk : ∀ i o', i < A.h.length → B.h[σ i]? = some (some o') → ∃ o, A.h[i]? = some (some o)
  fst : ∀ i, A.live i → (A.m i).1 = (B.m (σ i)).1
  arr : ∀ i T s c fz, A.h[i]? = some (some (.arr T s c fz)) → A.m i = B.m (σ i)

theorem Br.mine {σ : Nat → Nat} {A B : Cx} (h : Br σ A B) {b : Nat} (hb : A.mine b) : B.mine b := by
  obtain ⟨i, ⟨o, ho⟩, he⟩ := hb
  obtain ⟨o', h1, _⟩ := h.obj i o ho
  exact ⟨σ i, ⟨o', h1⟩, by rw [← h.fst i ⟨o, ho⟩]; exact he⟩
theorem Br.down {σ : Nat → Nat} {A B : Cx} (h : Br σ A B) {a b : AV} {v : Value} (hn : Rn σ A.h.length a b) (hr : Rep B b v) : Rep A a v := by
  induction hn generalizing v with
  | clo hc => exact hr.clo hc fun c o u hu hb => ⟨by rw [h.w]; exact hu, by rw [h.bad]; exact hb⟩
  | own hid =>
    cases hr with
    | own hid' k =>
    refine .own hid fun T s c fz hh => ?_
    obtain ⟨o', h1, h2⟩ := h.obj _ _ hh
    cases o' <;> simp only [RnO] at h2 <;> try exact h2.elim
    obtain ⟨rfl, rfl, rfl, h2⟩ := h2
    obtain ⟨k1, k2⟩ := k _ _ _ _ h1
    rw [h.arr _ _ _ _ _ hh, h2.len]
    exact ⟨k1, k2⟩
  | ptr hid =>
    cases hr with
    | ptr hid' k =>
    refine .ptr hid fun c hh => ?_
    obtain ⟨o', h1, h2⟩ := h.obj _ _ hh
    cases o' <;> simp only [RnO] at h2 <;> try exact h2.elim
    rw [h.fst _ ⟨_, hh⟩]
    exact k _ h1
  | ap hid =>
    cases hr with
    | ap hid' k =>
    refine .ap hid fun T s c fz hh => ?_
    obtain ⟨o', h1, h2⟩ := h.obj _ _ hh
    cases o' <;> simp only [RnO] at h2 <;> try exact h2.elim
    obtain ⟨rfl, rfl, rfl, h2⟩ := h2
    obtain ⟨k1, k2⟩ := k _ _ _ _ h1
    rw [h.arr _ _ _ _ _ hh, h2.len]
    exact ⟨k1, k2⟩
  | mp hid =>
    cases hr with
    | mp hid' k =>
    refine .mp hid fun c hh => ?_
    obtain ⟨o', h1, h2⟩ := h.obj _ _ hh
    cases o' <;> simp only [RnO] at h2 <;> try exact h2.elim
    rw [h.fst _ ⟨_, hh⟩]
    exact k _ h1
  | @g l l' hl hh ih =>
    cases hr with
    | g hc hr =>
    refine .g (by omega) fun i a x h1 h2 => ?_
    obtain ⟨b, hb⟩ : ∃ b, l'[i]? = some b := ⟨_, List.getElem?_eq_getElem (by have := (List.getElem?_eq_some_iff.1 h1).1; omega)⟩
    exact ih i a b h1 hb (hr i b x hb h2)
  | @fn f l l' k k' hl hk h1 h2 ih1 ih2 =>
    cases hr with
    | fn q1 q2 r1 r2 =>
    refine .fn (by omega) (by omega) (fun i a x e1 e2 => ?_) (fun i a x e1 e2 => ?_)
    · obtain ⟨b, hb⟩ : ∃ b, l'[i]? = some b := ⟨_, List.getElem?_eq_getElem (by have := (List.getElem?_eq_some_iff.1 e1).1; omega)⟩
      exact ih1 i a b e1 hb (r1 i b x hb e2)
    · obtain ⟨b, hb⟩ : ∃ b, k'[i]? = some b := ⟨_, List.getElem?_eq_getElem (by have := (List.getElem?_eq_some_iff.1 e1).1; omega)⟩
      exact ih2 i a b e1 hb (r2 i b x hb e2)
theorem Br.up {σ : Nat → Nat} {A B : Cx} (h : Br σ A B) {a b : AV} {v : Value} (hn : Rn σ A.h.length a b) (hr : Rep A a v) : Rep B b v := by
  induction hn generalizing v with
  | clo hc => exact hr.clo hc fun c o u hu hb => ⟨by rw [← h.w]; exact hu, by rw [← h.bad]; exact hb⟩
  | own hid =>
    cases hr with
    | own hid' k =>
    refine .own (h.lt _ hid) fun T s c fz hh => ?_
    obtain ⟨o, ho⟩ := h.bk _ _ hid hh
    obtain ⟨o', h1, h2⟩ := h.obj _ _ ho
    rw [hh] at h1; injection h1 with h1; injection h1 with h1; subst h1
    cases o <;> simp only [RnO] at h2 <;> try exact h2.elim
    obtain ⟨rfl, rfl, rfl, h2⟩ := h2
    obtain ⟨k1, k2⟩ := k _ _ _ _ ho
    rw [← h.arr _ _ _ _ _ ho, ← h2.len]
    exact ⟨k1, k2⟩
  | ptr hid =>
    cases hr with
    | ptr hid' k =>
    refine .ptr (h.lt _ hid) fun c hh => ?_
    obtain ⟨o, ho⟩ := h.bk _ _ hid hh
    obtain ⟨o', h1, h2⟩ := h.obj _ _ ho
    rw [hh] at h1; injection h1 with h1; injection h1 with h1; subst h1
    cases o <;> simp only [RnO] at h2 <;> try exact h2.elim
    rw [← h.fst _ ⟨_, ho⟩]
    exact k _ ho
  | ap hid =>
    cases hr with
    | ap hid' k =>
    refine .ap (h.lt _ hid) fun T s c fz hh => ?_
    obtain ⟨o, ho⟩ := h.bk _ _ hid hh
    obtain ⟨o', h1, h2⟩ := h.obj _ _ ho
    rw [hh] at h1; injection h1 with h1; injection h1 with h1; subst h1
    cases o <;> simp only [RnO] at h2 <;> try exact h2.elim
    obtain ⟨rfl, rfl, rfl, h2⟩ := h2
    obtain ⟨k1, k2⟩ := k _ _ _ _ ho
    rw [← h.arr _ _ _ _ _ ho, ← h2.len]
    exact ⟨k1, k2⟩
  | mp hid =>
    cases hr with
    | mp hid' k =>
    refine .mp (h.lt _ hid) fun c hh => ?_
    obtain ⟨o, ho⟩ := h.bk _ _ hid hh
    obtain ⟨o', h1, h2⟩ := h.obj _ _ ho
    rw [hh] at h1; injection h1 with h1; injection h1 with h1; subst h1
    cases o <;> simp only [RnO] at h2 <;> try exact h2.elim
    rw [← h.fst _ ⟨_, ho⟩]
    exact k _ ho
  | @g l l' hl hh ih =>
    cases hr with
    | g hc hr =>
    refine .g (by omega) fun i b x h1 h2 => ?_
    obtain ⟨a, ha⟩ : ∃ a, l[i]? = some a := ⟨_, List.getElem?_eq_getElem (by have := (List.getElem?_eq_some_iff.1 h1).1; omega)⟩
    exact ih i a b ha h1 (hr i a x ha h2)
  | @fn f l l' k k' hl hk h1 h2 ih1 ih2 =>
    cases hr with
    | fn q1 q2 r1 r2 =>
    refine .fn (by omega) (by omega) (fun i b x e1 e2 => ?_) (fun i b x e1 e2 => ?_)
    · obtain ⟨a, ha⟩ : ∃ a, l[i]? = some a := ⟨_, List.getElem?_eq_getElem (by have := (List.getElem?_eq_some_iff.1 e1).1; omega)⟩
      exact ih1 i a b ha e1 (r1 i a x ha e2)
    · obtain ⟨a, ha⟩ : ∃ a, k[i]? = some a := ⟨_, List.getElem?_eq_getElem (by have := (List.getElem?_eq_some_iff.1 e1).1; omega)⟩
      exact ih2 i a b ha e1 (r2 i a x ha e2)

theorem Br.repL {σ : Nat → Nat} {A B : Cx} (h : Br σ A B) {l l' : List AV} {vs : List Value} (hn : RnL σ A.h.length l l') (hr : RepL B l' vs) : RepL A l vs := by
  refine ⟨by rw [hn.len]; exact hr.1, fun i a x h1 h2 => ?_⟩
  obtain ⟨b, hb⟩ : ∃ b, l'[i]? = some b := ⟨_, List.getElem?_eq_getElem (by have := (List.getElem?_eq_some_iff.1 h1).1; have := hn.len; omega)⟩
  exact h.down (hn.get i a b h1 hb) (hr.2 i b x hb h2)
theorem ents_down {σ : Nat → Nat} {A B : Cx} (h : Br σ A B) {es es' : List (Value × AV)} {ents : Array MapEntry} (h1 : es.map (·.1) = es'.map (·.1)) (h2 : RnL σ A.h.length (es.map (·.2)) (es'.map (·.2))) (hE : EntOk B es' ents) : EntOk A es ents := by
  have hl : es.length = es'.length := by simpa using congrArg List.length h1
  refine ⟨by rw [hE.1, hl], fun i p e q1 q2 => ?_⟩
  obtain ⟨p', hp'⟩ : ∃ p', es'[i]? = some p' := ⟨_, List.getElem?_eq_getElem (by have := (List.getElem?_eq_some_iff.1 q1).1; omega)⟩
  obtain ⟨k1, k2⟩ := hE.2 i p' e hp' q2
  have e1 : p.1 = p'.1 := by
    have := congrArg (fun l => l[i]?) h1
    simp only [List.getElem?_map, q1, hp', Option.map_some, Option.some.injEq] at this
    exact this
  exact ⟨k1.trans e1.symm, h.down (h2.get i _ _ (by rw [List.getElem?_map, q1]; rfl) (by rw [List.getElem?_map, hp']; rfl)) k2⟩
theorem ents_up {σ : Nat → Nat} {A B : Cx} (h : Br σ A B) {es es' : List (Value × AV)} {ents : Array MapEntry} (h1 : es.map (·.1) = es'.map (·.1)) (h2 : RnL σ A.h.length (es.map (·.2)) (es'.map (·.2))) (hE : EntOk A es ents) : EntOk B es' ents := by
  have hl : es.length = es'.length := by simpa using congrArg List.length h1
  refine ⟨by rw [hE.1, hl], fun i p' e q1 q2 => ?_⟩
  obtain ⟨p, hp⟩ : ∃ p, es[i]? = some p := ⟨_, List.getElem?_eq_getElem (by have := (List.getElem?_eq_some_iff.1 q1).1; omega)⟩
  obtain ⟨k1, k2⟩ := hE.2 i p e hp q2
  have e1 : p.1 = p'.1 := by
    have := congrArg (fun l => l[i]?) h1
    simp only [List.getElem?_map, q1, hp, Option.map_some, Option.some.injEq] at this
    exact this
  exact ⟨k1.trans e1, h.up (h2.get i _ _ (by rw [List.getElem?_map, hp]; rfl) (by rw [List.getElem?_map, q1]; rfl)) k2⟩
theorem Br.ok {σ : Nat → Nat} {A B : Cx} (h : Br σ A B) (hB : Ok B) : Ok A := by
  refine ⟨fun id c hh => ?_, fun id T s c fz hh => ?_, fun i j b hi hj ei ej => ?_, fun b o hb => ?_, fun id es hh => ?_⟩
  · obtain ⟨o', h1, h2⟩ := h.obj _ _ hh
    cases o' with
    | blk c' =>
      simp only [RnO] at h2
      obtain ⟨b, cvs, T, k1, k2, k3, k4, k5⟩ := hB.blk _ _ h1
      refine ⟨b, cvs, T, by rw [h.fst _ ⟨_, hh⟩]; exact k1, by rw [h.w]; exact k2, by rw [h2.len]; exact k3, fun o => by rw [h.bad]; exact k4 o, fun i a x q1 q2 => ?_⟩
      obtain ⟨a', ha'⟩ : ∃ a', c'[i]? = some a' := ⟨_, List.getElem?_eq_getElem (by have := (List.getElem?_eq_some_iff.1 q1).1; have := h2.len; omega)⟩
      exact h.down (h2.get i a a' q1 ha') (k5 i a' x ha' q2)
    | _ => exact h2.elim
  · obtain ⟨o', h1, h2⟩ := h.obj _ _ hh
    cases o' with
    | arr T' s' c' fz' =>
      simp only [RnO] at h2
      obtain ⟨rfl, rfl, rfl, h2⟩ := h2
      obtain ⟨g1, g2, n, g3, g4⟩ := hB.arr _ _ _ _ _ h1
      rw [← h2.len] at g1 g3
      refine ⟨g1, g2, n, g3, ?_⟩
      rcases g4 with ⟨g4, g5⟩ | ⟨b, cvs, g4⟩
      · exact .inl ⟨by rw [h.arr _ _ _ _ _ hh]; exact g4, List.eq_nil_of_length_eq_zero (by rw [h2.len, g5]; rfl)⟩
      · refine .inr ⟨b, cvs, ⟨by rw [h.arr _ _ _ _ _ hh]; exact g4.at_, by rw [h.w]; exact g4.blk, by rw [h.arr _ _ _ _ _ hh]; exact g4.cap, by rw [h.arr _ _ _ _ _ hh]; exact g4.capm, by rw [h.arr _ _ _ _ _ hh]; exact g4.sz, fun o ho => by rw [h.bad]; exact g4.bad o ho, fun i a x q1 q2 => ?_, fun o ho => by rw [h.bad]; exact g4.good o ho⟩⟩
        obtain ⟨a', ha'⟩ : ∃ a', c'[i]? = some a' := ⟨_, List.getElem?_eq_getElem (by have := (List.getElem?_eq_some_iff.1 q1).1; have := h2.len; omega)⟩
        exact h.down (h2.get i a a' q1 ha') (g4.rep i a' x ha' q2)
    | _ => exact h2.elim
  · obtain ⟨o, ho⟩ := hi
    obtain ⟨o', ho'⟩ := hj
    obtain ⟨q, h1, _⟩ := h.obj i o ho
    obtain ⟨q', h1', _⟩ := h.obj j o' ho'
    exact h.inj i j (List.getElem?_eq_some_iff.1 ho).1 (List.getElem?_eq_some_iff.1 ho').1 (hB.inj _ _ b ⟨q, h1⟩ ⟨q', h1'⟩ (by rw [← h.fst i ⟨o, ho⟩]; exact ei) (by rw [← h.fst j ⟨o', ho'⟩]; exact ej))
  · rw [h.bad] at hb; rw [h.w]; exact hB.badlt b o hb
  · obtain ⟨o', h1, h2⟩ := h.obj _ _ hh
    cases o' with
    | map es' =>
      simp only [RnO] at h2
      obtain ⟨b, ents, clock, k1, k2, k3⟩ := hB.map _ _ h1
      exact ⟨b, ents, clock, by rw [h.fst _ ⟨_, hh⟩]; exact k1, by rw [h.w]; exact k2, ents_down h h2.1 h2.2 k3⟩
    | _ => exact h2.elim

/-- How some objects lie among others. -/
structure Emb (σ : Nat → Nat) (h0 h : Hp) : Prop where
  inj : ∀ i j, i < h0.length → j < h0.length → σ i = σ j → i = j
  obj : ∀ i o, h0[i]? = some o → ∃ o' o2, o = some o' ∧ h[σ i]? = some (some o2) ∧ RnO σ h0.length o' o2

/-- A contract about some objects, beside others. -/
theorem RD.frame {P : Program} {f : FuncId} {args0 args : List AV} {h0 h : Hp} {R p : AV → Prop} {σ : Nat → Nat} (T : RD P f args0 h0 R p) (hE : Emb σ h0 h) (ha : RnL σ h0.length args0 args) (hR : ∀ r, R r → Clo r) (hp : ∀ r, p r → Clo r) : RD P f args h R p := by
  refine ⟨T.1, fun X vs hX hh hr => ?_⟩
  subst hh
  have hlt : ∀ i, i < h0.length → σ i < X.h.length := fun i hi => by
    obtain ⟨o', o2, _, h2, _⟩ := hE.obj i _ (List.getElem?_eq_getElem hi)
    exact (List.getElem?_eq_some_iff.1 h2).1
  have hobj : ∀ i o, h0[i]? = some (some o) → ∃ o', X.h[σ i]? = some (some o') ∧ RnO σ h0.length o o' := fun i o ho => by
    obtain ⟨o', o2, h1, h2, h3⟩ := hE.obj i _ ho
    injection h1 with h1; subst h1
    exact ⟨o2, h2, h3⟩
  have hbk : ∀ i o', i < h0.length → X.h[σ i]? = some (some o') → ∃ o, h0[i]? = some (some o) := fun i o' hi _ => by
    obtain ⟨o, o2, h1, _⟩ := hE.obj i _ (List.getElem?_eq_getElem hi)
    exact ⟨o, by rw [List.getElem?_eq_getElem hi, h1]⟩
  have B : Br σ ⟨X.w, fun i => X.m (σ i), h0, X.bad, X.ds⟩ X := ⟨rfl, rfl, hE.inj, hlt, hobj, hbk, fun _ _ => rfl, fun _ _ _ _ _ _ => rfl⟩
  refine (T.2 ⟨X.w, fun i => X.m (σ i), h0, X.bad, X.ds⟩ vs (B.ok hX) rfl (B.repL ha hr)).mono ?_
  rintro e w' ⟨v, Y, av, rfl, S, hY, hv, hq⟩
  have fin : Y.h = h0 → Clo av → ∃ Z : Cx, Z.w = Y.w ∧ Step X Z ∧ Ok Z ∧ Rep Z av v ∧ Z.h = X.h := fun hYh hc => by
    have fst : ∀ i, Y.live i → (Y.m i).1 = (X.m (σ i)).1 := by
      intro i ⟨o', h⟩
      have hx := h
      rw [hYh] at hx
      have hi : i < h0.length := (List.getElem?_eq_some_iff.1 hx).1
      cases o' with
      | blk c => exact (S.oblk i c hi h).elim fun _ q => q.2
      | map es => exact (S.omap i es hi h).elim fun _ q => q.2
      | arr T s c fz =>
        obtain ⟨c', f', k1, _, k3⟩ := S.oarr i T s c fz hi h
        simp only at k1
        rw [hx] at k1; injection k1 with k1; injection k1 with k1; injection k1 with e1 e2 e3 e4; subst e3
        rw [k3 rfl]
    have arr : ∀ i T s c fz, Y.h[i]? = some (some (.arr T s c fz)) → Y.m i = X.m (σ i) := by
      intro i T s c fz h
      have hx := h
      rw [hYh] at hx
      have hi : i < h0.length := (List.getElem?_eq_some_iff.1 hx).1
      obtain ⟨c', f', k1, _, k3⟩ := S.oarr i T s c fz hi h
      simp only at k1
      rw [hx] at k1; injection k1 with k1; injection k1 with k1; injection k1 with e1 e2 e3 e4; subst e3
      rw [k3 rfl]
    have BY : Br σ Y ⟨Y.w, X.m, X.h, Y.bad, X.ds⟩ := ⟨rfl, rfl, by rw [hYh]; exact hE.inj, by rw [hYh]; exact hlt, by rw [hYh]; exact hobj, by rw [hYh]; exact hbk, fst, arr⟩
    have hbl : ∀ b, b < X.w.heap.size → ¬ Cx.mine ⟨X.w, fun i => X.m (σ i), h0, X.bad, X.ds⟩ b → Y.w.heap[b]? = X.w.heap[b]? := fun b hb hm => S.block b hb hm
    have SZ : Step X ⟨Y.w, X.m, X.h, Y.bad, X.ds⟩ :=
      ⟨S.os, S.tape, S.output, S.size, fun b hb hm => hbl b hb fun q => hm (B.mine q), S.keep, Nat.le_refl _, fun i T s c fz _ hi => ⟨c, fz, hi, Nat.le_refl _, fun _ => rfl⟩, fun i c _ hi => ⟨c, hi, rfl⟩, fun b hb => .inr hb, fun b o hb => (S.badk b o hb).imp id B.mine, fun i c _ hi => ⟨c, hi, rfl⟩, rfl⟩
    have other : ∀ j o, X.h[j]? = some (some o) → (∀ i, i < h0.length → σ i ≠ j) → ∀ b, (X.m j).1 = some b → Y.w.heap[b]? = X.w.heap[b]? ∧ ¬ Cx.mine ⟨X.w, fun i => X.m (σ i), h0, X.bad, X.ds⟩ b := by
      intro j o hj hne b hb
      have hnm : ¬ Cx.mine ⟨X.w, fun i => X.m (σ i), h0, X.bad, X.ds⟩ b := by
        rintro ⟨i, ⟨q, hq⟩, he⟩
        obtain ⟨q', h1, _⟩ := hobj i q hq
        exact hne i (List.getElem?_eq_some_iff.1 hq).1 (hX.inj _ _ b ⟨q', h1⟩ ⟨o, hj⟩ he hb)
      exact ⟨hbl b (hX.lt ⟨j, ⟨o, hj⟩, hb⟩) hnm, hnm⟩
    have bado : ∀ b o, X.bad b o → ¬ Cx.mine ⟨X.w, fun i => X.m (σ i), h0, X.bad, X.ds⟩ b → Y.bad b o := fun b o hb hm => (S.badk b o hb).elim id fun q => absurd q hm
    refine ⟨⟨Y.w, X.m, X.h, Y.bad, X.ds⟩, rfl, SZ, ⟨fun id c hi => ?_, fun id T s c fz hi => ?_, hX.inj, hY.badlt, fun id es hi => ?_⟩, hv.clo hc (fun b o u hu hb => ⟨hu, hb⟩), rfl⟩
    · by_cases hin : ∃ i, i < h0.length ∧ σ i = id
      · obtain ⟨i, hi0, rfl⟩ := hin
        obtain ⟨o, ho⟩ := hbk i _ hi0 hi
        obtain ⟨o', h1, h2⟩ := hobj i o ho
        simp only at hi
        rw [hi] at h1; injection h1 with h1; injection h1 with h1; subst h1
        cases o with
        | blk c0 =>
          simp only [RnO] at h2
          have hY0 : Y.h[i]? = some (some (.blk c0)) := by rw [hYh]; exact ho
          obtain ⟨b, cvs, T, k1, k2, k3, k4, k5⟩ := hY.blk i c0 hY0
          refine ⟨b, cvs, T, by rw [← fst i ⟨_, hY0⟩]; exact k1, k2, by rw [← h2.len]; exact k3, k4, fun j a x q1 q2 => ?_⟩
          obtain ⟨a0, ha0⟩ : ∃ a0, c0[j]? = some a0 := ⟨_, List.getElem?_eq_getElem (by have := (List.getElem?_eq_some_iff.1 q1).1; have := h2.len; omega)⟩
          exact BY.up (by rw [hYh]; exact h2.get j a0 a ha0 q1) (k5 j a0 x ha0 q2)
        | _ => exact h2.elim
      · obtain ⟨b, cvs, T, k1, k2, k3, k4, k5⟩ := hX.blk id c hi
        obtain ⟨q1, q2⟩ := other id _ hi (fun i hi0 e => hin ⟨i, hi0, e⟩) b k1
        exact ⟨b, cvs, T, k1, q1.trans k2, k3, fun o => bado b o (k4 o) q2, fun j a x r1 r2 => (k5 j a x r1 r2).mono SZ⟩
    · by_cases hin : ∃ i, i < h0.length ∧ σ i = id
      · obtain ⟨i, hi0, rfl⟩ := hin
        obtain ⟨o, ho⟩ := hbk i _ hi0 hi
        obtain ⟨o', h1, h2⟩ := hobj i o ho
        simp only at hi
        rw [hi] at h1; injection h1 with h1; injection h1 with h1; subst h1
        cases o with
        | arr T0 s0 c0 fz0 =>
          simp only [RnO] at h2
          obtain ⟨rfl, rfl, rfl, h2⟩ := h2
          have hY0 : Y.h[i]? = some (some (.arr T0 s0 c0 fz0)) := by rw [hYh]; exact ho
          obtain ⟨g1, g2, n, g3, g4⟩ := hY.arr i _ _ _ _ hY0
          have hme := arr i _ _ _ _ hY0
          refine ⟨by rw [← h2.len]; exact g1, g2, n, by rw [← h2.len]; exact g3, ?_⟩
          rcases g4 with ⟨g4, g5⟩ | ⟨b, cvs, g4⟩
          · exact .inl ⟨by rw [← hme]; exact g4, List.eq_nil_of_length_eq_zero (by rw [← h2.len, g5]; rfl)⟩
          · refine .inr ⟨b, cvs, ⟨by rw [← hme]; exact g4.at_, g4.blk, by rw [← hme]; exact g4.cap, by rw [← hme]; exact g4.capm, by rw [← hme]; exact g4.sz, g4.bad, fun j a x q1 q2 => ?_, g4.good⟩⟩
            obtain ⟨a0, ha0⟩ : ∃ a0, c0[j]? = some a0 := ⟨_, List.getElem?_eq_getElem (by have := (List.getElem?_eq_some_iff.1 q1).1; have := h2.len; omega)⟩
            exact BY.up (by rw [hYh]; exact h2.get j a0 a ha0 q1) (g4.rep j a0 x ha0 q2)
        | _ => exact h2.elim
      · obtain ⟨g1, g2, n, g3, g4⟩ := hX.arr id T s c fz hi
        refine ⟨g1, g2, n, g3, ?_⟩
        rcases g4 with g4 | ⟨b, cvs, g4⟩
        · exact .inl g4
        · obtain ⟨q1, q2⟩ := other id _ hi (fun i hi0 e => hin ⟨i, hi0, e⟩) b g4.at_
          refine .inr ⟨b, cvs, ⟨g4.at_, q1.trans g4.blk, g4.cap, g4.capm, g4.sz, fun o ho => bado b o (g4.bad o ho) q2, fun j a x r1 r2 => (g4.rep j a x r1 r2).mono SZ, fun o ho hk => ?_⟩⟩
          have hcell : ∃ u, cellAt X.w b o = some u := by
            rw [cellAt_blk g4.blk]
            exact ⟨_, Array.getElem?_eq_getElem (by rw [g4.sz]; have := Nat.mul_le_mul_right s g4.cap; omega)⟩
          obtain ⟨u, hu⟩ := hcell
          exact (S.keep b o u hu (g4.good o ho)).2 hk
    · by_cases hin : ∃ i, i < h0.length ∧ σ i = id
      · obtain ⟨i, hi0, rfl⟩ := hin
        obtain ⟨o, ho⟩ := hbk i _ hi0 hi
        obtain ⟨o', h1, h2⟩ := hobj i o ho
        simp only at hi
        rw [hi] at h1; injection h1 with h1; injection h1 with h1; subst h1
        cases o with
        | map es0 =>
          simp only [RnO] at h2
          have hY0 : Y.h[i]? = some (some (.map es0)) := by rw [hYh]; exact ho
          obtain ⟨b, ents, clock, k1, k2, k3⟩ := hY.map i es0 hY0
          exact ⟨b, ents, clock, by rw [← fst i ⟨_, hY0⟩]; exact k1, k2, ents_up BY h2.1 (by rw [hYh]; exact h2.2) k3⟩
        | _ => exact h2.elim
      · obtain ⟨b, ents, clock, k1, k2, k3⟩ := hX.map id es hi
        obtain ⟨q1, q2⟩ := other id _ hi (fun i hi0 e => hin ⟨i, hi0, e⟩) b k1
        exact ⟨b, ents, clock, k1, q1.trans k2, k3.mono SZ⟩
  rcases hq with ⟨rfl, h1, h2⟩ | ⟨rfl, h1, h2⟩
  · obtain ⟨Z, z1, z2, z3, z4, z5⟩ := fin h2 (hR _ h1)
    exact ⟨v, Z, av, z1, z2, z3, z4, .inl ⟨rfl, h1, z5⟩⟩
  · obtain ⟨Z, z1, z2, z3, z4, z5⟩ := fin h2 (hp _ h1)
    exact ⟨v, Z, av, z1, z2, z3, z4, .inr ⟨rfl, h1, z5⟩⟩

theorem view1_clo {h : Hp} {a : AV} (hc : Clo a) : view1 h a = some a := by cases hc <;> rfl
theorem mapO_clo {f : AV → Option AV} : ∀ (l : List AV), (∀ (a : AV), a ∈ l → f a = some a) → mapO f l = some l
  | [], _ => rfl
  | a :: r, h => by simp only [mapO, h a (List.mem_cons_self ..), mapO_clo r fun b hb => h b (List.mem_cons_of_mem _ hb)]
theorem view2_clo {h : Hp} {a : AV} (hc : Clo a) : view2 h a = some a := by
  cases hc with
  | g hc => simp only [view2, mapO_clo _ fun a ha => view1_clo (hc a ha), Option.map_some]
  | _ => rfl
/-- A contract over trees, whatever is owned. -/
theorem TC.ht {P : Program} {f : FuncId} {args : List AV} {res : AV} (T : TC P f args res) (hc : ∀ (a : AV), a ∈ args → Clo a) (hres : Clo res) (h : Hp) : HT P f args h fun r h' => r = res ∧ h' = h :=
  HT.of_TC T (map_close (f := close2) (g := view2 h) (fun a a' => view2_close) args args (mapO_clo _ fun a ha => view2_clo (hc a ha)) hc) hc hres
theorem TC.rd {P : Program} {f : FuncId} {args : List AV} {res : AV} (T : TC P f args res) (hc : ∀ (a : AV), a ∈ args → Clo a) (hres : Clo res) (h : Hp) (p : AV → Hp → Prop) : HTP P f args h (fun r h' => r = res ∧ h' = h) p := (T.ht hc hres h).toP p

/-- The first place of which something holds. -/
def findF (p : Nat → Bool) (n : Nat) : Option Nat := (List.range n).find? p
theorem findF_at {p : Nat → Bool} {n i : Nat} (hi : i < n) (hp : p i = true) (hb : ∀ j, j < i → p j = false) : findF p n = some i := by
  unfold findF
  rw [List.find?_eq_some_iff_getElem]
  refine ⟨hp, i, by simpa using hi, by simp, fun j hj => ?_⟩
  simp [hb j hj]
theorem findF_none {p : Nat → Bool} {n : Nat} (hb : ∀ j, j < n → p j = false) : findF p n = none := by
  unfold findF
  rw [List.find?_eq_none]
  intro x hx
  simp [hb x (List.mem_range.1 hx)]
def idxO : Option Nat → Int
  | some i => i
  | none => -1
def anyN (n : Nat) (p : Nat → Bool) : Bool := (List.range n).any p
theorem idxO_any {p : Nat → Bool} {n : Nat} : decide (0 ≤ idxO (findF p n)) = anyN n p := by
  unfold anyN
  cases hf : findF p n with
  | none =>
    unfold findF at hf
    rw [List.find?_eq_none] at hf
    have : (List.range n).any p = false := by
      rw [List.any_eq_false]; exact hf
    rw [this]; rfl
  | some i =>
    unfold findF at hf
    have h1 := List.find?_some hf
    have h2 := List.mem_of_find?_eq_some hf
    have : (List.range n).any p = true := List.any_eq_true.2 ⟨i, h2, h1⟩
    rw [this]
    simp [idxO]
theorem anyN_congr {n : Nat} {p q : Nat → Bool} (h : ∀ i, i < n → p i = q i) : anyN n p = anyN n q := by
  unfold anyN
  rw [Bool.eq_iff_iff, List.any_eq_true, List.any_eq_true]
  constructor
  · rintro ⟨i, h1, h2⟩; exact ⟨i, h1, by rw [← h i (List.mem_range.1 h1)]; exact h2⟩
  · rintro ⟨i, h1, h2⟩; exact ⟨i, h1, by rw [h i (List.mem_range.1 h1)]; exact h2⟩
end Go.Proofs.YtljfgdlgmdcmfaaGreat.Wv
