/- The machine of abstract values: what may be forgotten; calls; what a row of numbers reads as. -/
import Derived.Test.YtljfgdlgmdcmfaaGreatWvV
namespace Go.Proofs.YtljfgdlgmdcmfaaGreat.Wv
open Go.RowKit
set_option linter.unusedVariables false
set_option autoImplicit false

/-- Whatever reads as the one reads as the other. -/
def Wk (a b : AV) : Prop := ∀ (X : Cx) (v : Value), Rep X a v → Rep X b v
theorem Wk.refl (a : AV) : Wk a a := fun _ _ h => h
theorem Wk.trans {a b c : AV} (h : Wk a b) (h' : Wk b c) : Wk a c := fun X v q => h' X v (h X v q)
theorem Wk.nil (s : Nat) : Wk (.v (.slice none 0 0)) (.t 0 s []) := fun X v h => by
  cases h
  exact .t (cvs := []) (by simp) rfl (Nat.le_refl _) (Nat.zero_le _) (fun h => absurd h (Nat.lt_irrefl _)) (fun i a x h1 => by simp at h1)
theorem Wk.e0 (s : Nat) : Wk .e0 (.t 0 s []) := fun X v h => by
  cases h
  exact .t (cvs := []) (by simp) rfl (Nat.le_refl _) (Nat.zero_le _) (fun h => absurd h (Nat.lt_irrefl _)) (fun i a x h1 => by simp at h1)
theorem Wk.agg {l : List Value} : Wk (.v (.agg l.toArray)) (.g (l.map .v)) := fun X v h => by
  cases h
  exact .g (by simp) (fun i a x h1 h2 => by
    rw [List.getElem?_map, h2] at h1
    injection h1 with h1; subst h1; exact .v x)
def WkL : List AV → List AV → Prop
  | [], [] => True
  | a :: r, b :: s => Wk a b ∧ WkL r s
  | _, _ => False
theorem WkL.len : ∀ {l m : List AV}, WkL l m → l.length = m.length
  | [], [], _ => rfl
  | _ :: _, _ :: _, h => by simp [WkL.len h.2]
  | [], _ :: _, h => h.elim
  | _ :: _, [], h => h.elim
theorem WkL.get : ∀ {l m : List AV} (h : WkL l m) (i : Nat) (b : AV), m[i]? = some b → ∃ a, l[i]? = some a ∧ Wk a b
  | a :: r, b :: s, h, 0, b', hb => by simp at hb; subst hb; exact ⟨a, by simp, h.1⟩
  | a :: r, b :: s, h, i + 1, b', hb => by
    obtain ⟨c, h1, h2⟩ := WkL.get h.2 i b' (by simpa using hb)
    exact ⟨c, by simpa using h1, h2⟩
  | [], [], h, i, b, hb => by simp at hb
  | [], _ :: _, h, _, _, _ => h.elim
  | _ :: _, [], h, _, _, _ => h.elim
theorem Wk.g {l m : List AV} (h : WkL l m) : Wk (.g l) (.g m) := fun X v q => by
  cases q with
  | g hc hr =>
    refine .g (hc.trans h.len) fun i a x h1 h2 => ?_
    obtain ⟨b, e1, e2⟩ := h.get i a h1
    exact e2 X x (hr i b x e1 h2)
theorem Wk.tup {l m : List AV} (h : WkL l m) : Wk (.tup l) (.tup m) := fun X v q => by
  cases q with
  | tup hc hr =>
    refine .tup (hc.trans h.len) fun i a x h1 h2 => ?_
    obtain ⟨b, e1, e2⟩ := h.get i a h1
    exact e2 X x (hr i b x e1 h2)
theorem RepL.wk {X : Cx} {l m : List AV} {vs : List Value} (h : WkL l m) (q : RepL X l vs) : RepL X m vs := ⟨q.1.trans h.len, fun i a x h1 h2 => by
  obtain ⟨b, e1, e2⟩ := h.get i a h1
  exact e2 X x (q.2 i b x e1 h2)⟩
theorem TC.wk {P : Program} {f : FuncId} {args args' : List AV} {res res' : AV} (T : TC P f args' res) (ha : WkL args args') (hr : Wk res res') : TC P f args res' := by
  refine ⟨T.1, fun X vs hh hb q => ?_⟩
  refine (T.2 X vs hh hb (q.wk ha)).mono ?_
  rintro e w' ⟨v, h1, h2, h3⟩
  exact ⟨v, h1, h2, fun m => hr _ _ (h3 m)⟩
theorem TC.res {P : Program} {f : FuncId} {args : List AV} {res res' : AV} (T : TC P f args res) (hr : Wk res res') : TC P f args res' := by
  refine ⟨T.1, fun X vs hh hb q => ?_⟩
  refine (T.2 X vs hh hb q).mono ?_
  rintro e w' ⟨v, h1, h2, h3⟩
  exact ⟨v, h1, h2, fun m => hr _ _ (h3 m)⟩

/-- A variable that is nil owns an empty row. -/
theorem Ent.nil {n0 N : Nat} {e : Ev} {h : Hp} (d : Nat) (T : TypeId) (s : Nat) (hs : 0 < s) (hd : getE e d = .v (.slice none 0 0)) : Ent n0 N e h ((d, .own h.length 0) :: e) (h ++ [some (.arr T s [] 0)]) := fun X a hh hn hX hE => by
  obtain ⟨Y, y1, y2, y3, y4, y5⟩ := nil_own hX T s hs
  rw [hh] at y4 y5
  refine ⟨Y, y1, y4, y2.toN (hh ▸ hn), y3, hE.defers.trans y2.dse.symm, hE.size, fun k => ?_⟩
  show Rep Y (if d = k then .own h.length 0 else getE e k) _
  by_cases hk : d = k
  · subst hk
    rw [if_pos rfl]
    have := hE.rep d
    rw [hd] at this
    generalize a.tmps.getD d undef = u at this ⊢
    cases this
    exact y5
  · rw [if_neg hk]; exact (hE.rep k).mono y2
theorem wforE {P : Program} {N : Nat} {L : List Nat} {ks : List (Nat × Nat)} {σ : Type} (env : σ → Ev) (hp : σ → Hp) (inv : σ → Prop) (ms : σ → Nat) (s0 : σ) {b : Code} {Q : PostW} {e : Ev} {h : Hp} (hi : inv s0) (he : Ent (base ks) N e h (env s0) (hp s0))
    (hr : ∀ s, inv s → wCode P N L ks b (kFor ks N env hp inv ms (ms s) Q) (env s) (hp s)) : wCode P N L ks (.loop b) Q e h := by
  refine ⟨fun n e h => ∃ s, e = env s ∧ h = hp s ∧ inv s ∧ n = ms s, ms s0, _, _, he, ⟨s0, rfl, rfl, hi, rfl⟩, ?_⟩
  rintro n e' h' ⟨s, rfl, rfl, hs, rfl⟩
  exact hr s hs

theorem clo_v {x : Value} : Clo (.v x) = True := eq_true (.v x)
theorem clo_none : Clo .none = True := eq_true .none
theorem clo_e0 : Clo .e0 = True := eq_true .e0
theorem clo_t {n s : Nat} {l : List AV} : Clo (.t n s l) = ∀ a, a ∈ l → Clo a := propext ⟨fun h => by cases h with | t h => exact h, fun h => .t h⟩
theorem clo_g {l : List AV} : Clo (.g l) = ∀ a, a ∈ l → Clo a := propext ⟨fun h => by cases h with | g h => exact h, fun h => .g h⟩
theorem clo_tup {l : List AV} : Clo (.tup l) = ∀ a, a ∈ l → Clo a := propext ⟨fun h => by cases h with | tup h => exact h, fun h => .tup h⟩
theorem clo_fn {f : Fn} {l1 l2 : List AV} : Clo (.fn f l1 l2) = ((∀ a, a ∈ l1 → Clo a) ∧ ∀ a, a ∈ l2 → Clo a) := propext ⟨fun h => by cases h with | fn h1 h2 => exact ⟨h1, h2⟩, fun h => .fn h.1 h.2⟩
theorem clo_ifc {T : TypeId} {a : AV} : Clo (.ifc T a) = Clo a := propext ⟨fun h => by cases h with | ifc h => exact h, fun h => .ifc h⟩
theorem clo_nil : (∀ a, a ∈ ([] : List AV) → Clo a) = True := eq_true (fun a h => by cases h)
theorem clo_cons {b : AV} {l : List AV} : (∀ a, a ∈ b :: l → Clo a) = (Clo b ∧ ∀ a, a ∈ l → Clo a) := propext ⟨fun h => ⟨h b (List.mem_cons_self ..), fun a ha => h a (List.mem_cons_of_mem _ ha)⟩, fun h a ha => by
  rcases List.mem_cons.1 ha with rfl | ha
  · exact h.1
  · exact h.2 a ha⟩
theorem clo_tab {n : Nat} {f : Nat → AV} : (∀ a, a ∈ tab n f → Clo a) = ∀ i, i < n → Clo (f i) := propext ⟨fun h i hi => h _ (List.mem_map.2 ⟨i, List.mem_range.2 hi, rfl⟩), fun h a ha => by
  obtain ⟨i, hi, rfl⟩ := List.mem_map.1 ha
  exact h i (List.mem_range.1 hi)⟩
theorem clo_map {α : Type} {l : List α} {f : α → AV} : (∀ a, a ∈ l.map f → Clo a) = ∀ x, x ∈ l → Clo (f x) := propext ⟨fun h x hx => h _ (List.mem_map.2 ⟨x, hx, rfl⟩), fun h a ha => by
  obtain ⟨x, hx, rfl⟩ := List.mem_map.1 ha
  exact h x hx⟩
/-- What lies in a variable may be read as something else. -/
theorem recell {X : Cx} (hX : Ok X) {id off : Nat} {cells : List AV} {a b : AV} (h : X.h[id]? = some (some (.blk cells))) (ha : cells[off]? = some a) (hab : ∀ x, Rep X a x → Rep X b x) :
    ∃ Y, Y.w = X.w ∧ Y.m = X.m ∧ Y.h = X.h.set id (some (.blk (cells.set off b))) ∧ Step X Y ∧ Ok Y := by
  have hid : id < X.h.length := (List.getElem?_eq_some_iff.1 h).1
  have S : Step X ⟨X.w, X.m, X.h.set id (some (.blk (cells.set off b))), X.bad, X.ds⟩ := by
    refine ⟨rfl, rfl, rfl, Nat.le_refl _, fun _ _ _ => rfl, fun _ _ _ h1 h2 => ⟨h1, h2⟩, by simp, fun i T s c f _ hi => ?_, fun i c _ hi => ?_, fun c hc => ?_, fun _ _ hb => .inl hb, fun i c _ hi => ?_, rfl⟩
    · by_cases e : i = id
      · subst e; simp only at hi; rw [List.getElem?_set_self hid] at hi; injection hi with hi; cases hi
      · simp only at hi; rw [set_h e] at hi; exact ⟨c, f, hi, Nat.le_refl _, fun _ => rfl⟩
    · by_cases e : i = id
      · subst e; exact ⟨cells, h, rfl⟩
      · simp only at hi; rw [set_h e] at hi; exact ⟨c, hi, rfl⟩
    · obtain ⟨i, ⟨o, ho⟩, hc⟩ := hc
      by_cases e : i = id
      · subst e; exact .inr ⟨i, ⟨_, h⟩, hc⟩
      · simp only at ho; rw [set_h e] at ho; exact .inr ⟨i, ⟨o, ho⟩, hc⟩
    · by_cases e : i = id
      · subst e; simp only at hi; rw [List.getElem?_set_self hid] at hi; injection hi with hi; cases hi
      · simp only at hi; rw [set_h e] at hi; exact ⟨c, hi, rfl⟩
  have live : ∀ i, Cx.live ⟨X.w, X.m, X.h.set id (some (.blk (cells.set off b))), X.bad, X.ds⟩ i → X.live i := fun i ⟨o, ho⟩ => by
    by_cases e : i = id
    · subst e; exact ⟨_, h⟩
    · simp only at ho; rw [set_h e] at ho; exact ⟨o, ho⟩
  refine ⟨⟨X.w, X.m, X.h.set id (some (.blk (cells.set off b))), X.bad, X.ds⟩, rfl, rfl, rfl, S, fun i c hi => ?_, fun i T' s c fz hi => ?_, fun i j c hi hj => hX.inj i j c (live i hi) (live j hj), hX.badlt, fun i es hi => ?_⟩
  · by_cases e : i = id
    · subst e
      simp only at hi
      rw [List.getElem?_set_self hid] at hi
      injection hi with hi; injection hi with hi; injection hi with hi; subst hi
      obtain ⟨g, cvs, T', h1, h2, h3, h4, h5⟩ := hX.blk i cells h
      refine ⟨g, cvs, T', h1, h2, by simpa using h3, h4, fun j a' x q1 q2 => ?_⟩
      suffices hx : Rep X a' x from hx.mono S
      rw [List.getElem?_set] at q1
      split at q1
      · next hj =>
        subst hj
        split at q1
        · injection q1 with q1; subst q1; exact hab x (h5 _ a x ha q2)
        · cases q1
      · exact h5 j a' x q1 q2
    · simp only at hi
      rw [set_h e] at hi
      obtain ⟨g, cvs, T', h1, h2, h3, h4, h5⟩ := hX.blk i c hi
      exact ⟨g, cvs, T', h1, h2, h3, h4, fun j a' x q1 q2 => (h5 j a' x q1 q2).mono S⟩
  · by_cases e : i = id
    · subst e; simp only at hi; rw [List.getElem?_set_self hid] at hi; injection hi with hi; cases hi
    · simp only at hi
      rw [set_h e] at hi
      obtain ⟨g1, g2, n, g3, g4⟩ := hX.arr i T' s c fz hi
      refine ⟨g1, g2, n, g3, ?_⟩
      rcases g4 with g4 | ⟨g, cvs, g4⟩
      · exact .inl g4
      · exact .inr ⟨g, cvs, ⟨g4.at_, g4.blk, g4.cap, g4.capm, g4.sz, g4.bad, fun j a' x q1 q2 => (g4.rep j a' x q1 q2).mono S, g4.good⟩⟩
  · by_cases e : i = id
    · subst e; simp only at hi; rw [List.getElem?_set_self hid] at hi; injection hi with hi; cases hi
    · simp only at hi
      rw [set_h e] at hi
      obtain ⟨g, ents, clock, h1, h2, h3⟩ := hX.map i es hi
      exact ⟨g, ents, clock, h1, h2, h3.mono S⟩
/-- A nil row in a variable's cell as an owned empty one. -/
theorem Ent.nilc {n0 N : Nat} {e : Ev} {h : Hp} (id off : Nat) (T : TypeId) (s : Nat) (cells : List AV) (hs : 0 < s) (hc : h[id]? = some (some (.blk cells))) (hd : cells[off]? = some (.v (.slice none 0 0))) :
    Ent n0 N e h e ((h ++ [some (Ob.arr T s [] 0)]).set id (some (.blk (cells.set off (.own h.length 0))))) := fun X a hh hn hX hE => by
  obtain ⟨Y, y1, y2, y3, y4, y5⟩ := nil_own hX T s hs
  rw [hh] at y4 y5
  have hid : id < h.length := (List.getElem?_eq_some_iff.1 hc).1
  obtain ⟨Z, z1, z2, z3, z4, z5⟩ := recell (a := .v (.slice none 0 0)) (b := .own h.length 0) y3 (id := id) (off := off) (cells := cells) (by rw [y4, List.getElem?_append_left hid]; exact hc) hd (fun x q => by cases q; exact y5)
  exact ⟨Z, z1.trans y1, by rw [z3, y4], (y2.trans hX z4).toN (hh ▸ hn), z5, hE.mono (y2.trans hX z4)⟩
/-- A cell, forgotten in part. -/
theorem Ent.cell {n0 N : Nat} {e : Ev} {h : Hp} (id off : Nat) (cells : List AV) (a b : AV) (hc : h[id]? = some (some (.blk cells))) (ha : cells[off]? = some a) (hw : Wk a b) :
    Ent n0 N e h e (h.set id (some (.blk (cells.set off b)))) := fun X a' hh hn hX hE => by
  subst hh
  obtain ⟨Z, z1, z2, z3, z4, z5⟩ := recell hX (id := id) (off := off) (cells := cells) hc ha (fun x q => hw _ _ q)
  exact ⟨Z, z1, z3, z4.toN hn, z5, hE.mono z4⟩

/-- What does not name an object from m on. -/
inductive lo (m : Nat) : AV → Prop
  | clo {a : AV} (h : Clo a) : lo m a
  | own {id n : Nat} (h : id < m) : lo m (.own id n)
  | ptr {id n : Nat} (h : id < m) : lo m (.ptr id n)
  | ap {id n o : Nat} (h : id < m) : lo m (.ap id n o)
  | mp {id : Nat} (h : id < m) : lo m (.mp id)
  | g {l : List AV} (h : ∀ (a : AV), a ∈ l → lo m a) : lo m (.g l)
  | tup {l : List AV} (h : ∀ (a : AV), a ∈ l → lo m a) : lo m (.tup l)
  | fn {f : Fn} {l1 l2 : List AV} (h1 : ∀ (a : AV), a ∈ l1 → lo m a) (h2 : ∀ (a : AV), a ∈ l2 → lo m a) : lo m (.fn f l1 l2)
  | ifc {T : TypeId} {a : AV} (h : lo m a) : lo m (.ifc T a)
  | tm {es : List (Value × AV)} (h : ∀ (p : Value × AV), p ∈ es → lo m p.2) : lo m (.tm es)
def loE (m : Nat) : Ev → Prop
  | [] => True
  | (_, a) :: r => lo m a ∧ loE m r
def loL (m : Nat) (l : List AV) : Prop := ∀ a, a ∈ l → lo m a
def loH (m : Nat) : Hp → Prop
  | [] => True
  | none :: r => loH m r
  | some (.blk cells) :: r => loL m cells ∧ loH m r
  | some (.arr _ _ cells _) :: r => loL m cells ∧ loH m r
  | some (.map es) :: r => loL m (es.map (·.2)) ∧ loH m r
theorem lo_own {m id n : Nat} : lo m (.own id n) = (id < m) := propext ⟨fun h => (by cases h with | own h => exact h | clo h => cases h), .own⟩
theorem lo_ptr {m id n : Nat} : lo m (.ptr id n) = (id < m) := propext ⟨fun h => (by cases h with | ptr h => exact h | clo h => cases h), .ptr⟩
theorem lo_ap {m id n o : Nat} : lo m (.ap id n o) = (id < m) := propext ⟨fun h => (by cases h with | ap h => exact h | clo h => cases h), .ap⟩
theorem lo_mp {m id : Nat} : lo m (.mp id) = (id < m) := propext ⟨fun h => (by cases h with | mp h => exact h | clo h => cases h), .mp⟩
theorem lo_v {m : Nat} {x : Value} : lo m (.v x) = True := eq_true (.clo (.v x))
theorem lo_none {m : Nat} : lo m .none = True := eq_true (.clo .none)
theorem lo_e0 {m : Nat} : lo m .e0 = True := eq_true (.clo .e0)
theorem lo_t {m n s : Nat} {l : List AV} : lo m (.t n s l) = ∀ a, a ∈ l → Clo a := propext ⟨fun h => by cases h with | clo h => cases h with | t h => exact h, fun h => .clo (.t h)⟩
theorem lo_g {m : Nat} {l : List AV} : lo m (.g l) = loL m l := propext ⟨fun h => by
  cases h with
  | g h => exact h
  | clo h => cases h with | g h => exact fun a ha => .clo (h a ha), .g⟩
theorem lo_tup {m : Nat} {l : List AV} : lo m (.tup l) = loL m l := propext ⟨fun h => by
  cases h with
  | tup h => exact h
  | clo h => cases h with | tup h => exact fun a ha => .clo (h a ha), .tup⟩
theorem lo_fn {m : Nat} {f : Fn} {l1 l2 : List AV} : lo m (.fn f l1 l2) = (loL m l1 ∧ loL m l2) := propext ⟨fun h => by
  cases h with
  | fn h1 h2 => exact ⟨h1, h2⟩
  | clo h => cases h with | fn h1 h2 => exact ⟨fun a ha => .clo (h1 a ha), fun a ha => .clo (h2 a ha)⟩, fun h => .fn h.1 h.2⟩
theorem lo_ifc {m : Nat} {T : TypeId} {a : AV} : lo m (.ifc T a) = lo m a := propext ⟨fun h => by
  cases h with
  | ifc h => exact h
  | clo h => cases h with | ifc h => exact .clo h, .ifc⟩
theorem lo_tm {m : Nat} {es : List (Value × AV)} : lo m (.tm es) = loL m (es.map (·.2)) := by
  refine propext ⟨fun h => ?_, fun h => .tm fun p hp => h _ (List.mem_map.2 ⟨p, hp, rfl⟩)⟩
  cases h with
  | tm h => exact fun a ha => by obtain ⟨p, hp, rfl⟩ := List.mem_map.1 ha; exact h p hp
  | clo h => cases h
theorem loL_clo {m : Nat} {l : List AV} (h : ∀ a, a ∈ l → Clo a) : loL m l := fun a ha => .clo (h a ha)
theorem loE_nil {m : Nat} : loE m [] = True := Eq.trans rfl rfl
theorem loE_cons {m d : Nat} {a : AV} {r : Ev} : loE m ((d, a) :: r) = (lo m a ∧ loE m r) := Eq.trans rfl rfl
theorem loL_nil {m : Nat} : loL m [] = True := eq_true fun a h => by cases h
theorem loL_cons {m : Nat} {b : AV} {l : List AV} : loL m (b :: l) = (lo m b ∧ loL m l) := propext ⟨fun h => ⟨h b (List.mem_cons_self ..), fun a ha => h a (List.mem_cons_of_mem _ ha)⟩, fun h a ha => by
  rcases List.mem_cons.1 ha with rfl | ha
  · exact h.1
  · exact h.2 a ha⟩
theorem loL_tab {m n : Nat} {f : Nat → AV} : loL m (tab n f) = ∀ i, i < n → lo m (f i) := propext ⟨fun h i hi => h _ (List.mem_map.2 ⟨i, List.mem_range.2 hi, rfl⟩), fun h a ha => by
  obtain ⟨i, hi, rfl⟩ := List.mem_map.1 ha
  exact h i (List.mem_range.1 hi)⟩
theorem loH_nil {m : Nat} : loH m [] = True := Eq.trans rfl rfl
theorem loH_none {m : Nat} {r : Hp} : loH m (none :: r) = loH m r := Eq.trans rfl rfl
theorem loH_blk {m : Nat} {l : List AV} {r : Hp} : loH m (some (.blk l) :: r) = (loL m l ∧ loH m r) := Eq.trans rfl rfl
theorem loH_arr {m s fz : Nat} {T : TypeId} {l : List AV} {r : Hp} : loH m (some (.arr T s l fz) :: r) = (loL m l ∧ loH m r) := Eq.trans rfl rfl
theorem loH_map {m : Nat} {es : List (Value × AV)} {r : Hp} : loH m (some (.map es) :: r) = (loL m (es.map (·.2)) ∧ loH m r) := Eq.trans rfl rfl
theorem loL_map {α : Type} {m : Nat} {l : List α} {f : α → AV} : loL m (l.map f) = ∀ x, x ∈ l → lo m (f x) := propext ⟨fun h x hx => h _ (List.mem_map.2 ⟨x, hx, rfl⟩), fun h a ha => by
  obtain ⟨x, hx, rfl⟩ := List.mem_map.1 ha
  exact h x hx⟩
theorem loE_get {m : Nat} : ∀ {e : Ev} (h : loE m e) (d : Nat), lo m (getE e d)
  | [], _, d => .clo .none
  | (k, a) :: r, h, d => by
    show lo m (if k = d then a else getE r d)
    split
    · exact h.1
    · exact loE_get h.2 d
theorem loH_get {m : Nat} : ∀ {h : Hp} (hl : loH m h) (i : Nat), (∀ cells, h[i]? = some (some (.blk cells)) → loL m cells) ∧ (∀ T s cells fz, h[i]? = some (some (.arr T s cells fz)) → loL m cells) ∧ (∀ es, h[i]? = some (some (.map es)) → loL m (es.map (·.2)))
  | [], _, i => ⟨fun _ hh => by simp at hh, fun _ _ _ _ hh => by simp at hh, fun _ hh => by simp at hh⟩
  | o :: r, hl, 0 => ⟨fun c hh => by
      simp at hh; subst hh; exact hl.1, fun T s c f hh => by
      simp at hh; subst hh; exact hl.1, fun es hh => by
      simp at hh; subst hh; exact hl.1⟩
  | o :: r, hl, i + 1 => by
    have hr : loH m r := by
      cases o with
      | none => exact hl
      | some o => cases o <;> exact hl.2
    have := loH_get hr i
    exact ⟨fun c hh => this.1 c (by simpa using hh), fun T s c f hh => this.2.1 T s c f (by simpa using hh), fun es hh => this.2.2 es (by simpa using hh)⟩
theorem Rep.cut {X : Cx} {a : AV} {x : Value} {m : Nat} (h : Rep X a x) (hl : lo m a) : Rep ⟨X.w, X.m, X.h.take m, X.bad, X.ds⟩ a x := by
  have look : ∀ id, id < m → (X.h.take m)[id]? = X.h[id]? := fun id hi => by rw [List.getElem?_take, if_pos hi]
  induction hl generalizing x with
  | clo hc => exact h.clo hc fun b o u hu hb => ⟨hu, hb⟩
  | own hl =>
    cases h with
    | own hid hh =>
    refine .own (by rw [List.length_take]; exact Nat.lt_min.2 ⟨hl, hid⟩) fun T s c f q => hh T s c f ?_
    rw [← look _ hl]; exact q
  | ptr hl =>
    cases h with
    | ptr hid hh =>
    refine .ptr (by rw [List.length_take]; exact Nat.lt_min.2 ⟨hl, hid⟩) fun c q => hh c ?_
    rw [← look _ hl]; exact q
  | ap hl =>
    cases h with
    | ap hid hh =>
    refine .ap (by rw [List.length_take]; exact Nat.lt_min.2 ⟨hl, hid⟩) fun T s c f q => hh T s c f ?_
    rw [← look _ hl]; exact q
  | mp hl =>
    cases h with
    | mp hid hh =>
    refine .mp (by rw [List.length_take]; exact Nat.lt_min.2 ⟨hl, hid⟩) fun es q => hh es ?_
    rw [← look _ hl]; exact q
  | g hl ih => cases h with | g hc hr => exact .g hc fun i a x h1 h2 => ih a (List.mem_of_getElem? h1) (hr i a x h1 h2)
  | tup hl ih => cases h with | tup hc hr => exact .tup hc fun i a x h1 h2 => ih a (List.mem_of_getElem? h1) (hr i a x h1 h2)
  | fn q1 q2 ih1 ih2 => cases h with | fn h1 h2 r1 r2 => exact .fn h1 h2 (fun i a x k1 k2 => ih1 a (List.mem_of_getElem? k1) (r1 i a x k1 k2)) (fun i a x k1 k2 => ih2 a (List.mem_of_getElem? k1) (r2 i a x k1 k2))
  | ifc hl ih => cases h with | ifc h => exact .ifc (ih h)
  | tm hl ih =>
    cases h with
    | tm hb hn hl hk hr =>
    refine .tm hb (fun ⟨i, ⟨o, ho⟩, he⟩ => hn ⟨i, ⟨o, ?_⟩, he⟩) hl hk fun i p e h1 h2 => ih p (List.mem_of_getElem? h1) (hr i p e h1 h2)
    simp only at ho
    rw [List.getElem?_take] at ho
    split at ho
    · exact ho
    · cases ho
theorem Ent.cut {n0 N : Nat} {e e' : Ev} {h : Hp} (m : Nat) (hm : n0 ≤ m) (hf : fitE e' e) (he : loE m e') (hh : loH m (h.take m)) : Ent n0 N e h e' (h.take m) := fun X a hX0 hn hX hE => by
  subst hX0
  have sub : ∀ (i : Nat) (o : Option Ob), (X.h.take m)[i]? = some o → i < m ∧ X.h[i]? = some o := fun i o q => by
    rw [List.getElem?_take] at q
    split at q
    · next hi => exact ⟨hi, q⟩
    · cases q
  refine ⟨⟨X.w, X.m, X.h.take m, X.bad, X.ds⟩, rfl, rfl, ?_, ?_, hE.defers, hE.size, fun d => ?_⟩
  · refine ⟨rfl, rfl, rfl, Nat.le_refl _, fun _ _ _ => rfl, fun _ _ _ h1 h2 => ⟨h1, h2⟩, (by simp; exact Nat.le_min.2 ⟨hm, hn⟩), fun i T s c f _ hi => ⟨c, f, (sub i _ hi).2, Nat.le_refl _, fun _ => rfl⟩, fun i c _ hi => ⟨c, (sub i _ hi).2, rfl⟩, fun b hb => ?_, fun _ _ hb => .inl hb, fun i c _ hi => ⟨c, (sub i _ hi).2, rfl⟩, rfl⟩
    · obtain ⟨i, ⟨o, ho⟩, hb⟩ := hb
      exact .inr ⟨i, ⟨o, (sub i _ ho).2⟩, hb⟩
  · refine ⟨fun id cells hi => ?_, fun id T' s cells fz hi => ?_, fun i j b hi hj => ?_, hX.badlt, fun id es hi => ?_⟩
    · obtain ⟨b, cvs, T', h1, h2, h3, h4, h5⟩ := hX.blk id cells (sub id _ hi).2
      exact ⟨b, cvs, T', h1, h2, h3, h4, fun j a x q1 q2 => Rep.cut (h5 j a x q1 q2) ((loH_get hh id).1 cells hi a (List.mem_of_getElem? q1))⟩
    · obtain ⟨g1, g2, n, g3, g4⟩ := hX.arr id T' s cells fz (sub id _ hi).2
      refine ⟨g1, g2, n, g3, ?_⟩
      rcases g4 with g4 | ⟨b, cvs, g4⟩
      · exact .inl g4
      · exact .inr ⟨b, cvs, ⟨g4.at_, g4.blk, g4.cap, g4.capm, g4.sz, g4.bad, fun j a x q1 q2 => Rep.cut (g4.rep j a x q1 q2) ((loH_get hh id).2.1 T' s cells fz hi a (List.mem_of_getElem? q1)), g4.good⟩⟩
    · obtain ⟨o, ho⟩ := hi
      obtain ⟨o', ho'⟩ := hj
      exact hX.inj i j b ⟨o, (sub i _ ho).2⟩ ⟨o', (sub j _ ho').2⟩
    · obtain ⟨b, ents, clock, h1, h2, h3, h4⟩ := hX.map id es (sub id _ hi).2
      exact ⟨b, ents, clock, h1, h2, h3, fun j p e q1 q2 => ⟨(h4 j p e q1 q2).1, Rep.cut (h4 j p e q1 q2).2 ((loH_get hh id).2.2 es hi _ (List.mem_map.2 ⟨p, List.mem_of_getElem? q1, rfl⟩))⟩⟩
  · rcases fitE_get hf d with q | q
    · have := hE.rep d
      rw [← q] at this
      exact Rep.cut this (loE_get he d)
    · rw [q]; exact .none _
theorem k_cut {ks : List (Nat × Nat)} {N : Nat} {σ : Type} {env : σ → Ev} {hp : σ → Hp} {inv : σ → Prop} {ms : σ → Nat} {n : Nat} {Q : PostW} {e : Ev} {h : Hp} (s : σ) (m : Nat) (hb : base ks ≤ m) (hi : inv s) (hm : ms s < n) (hh : h.take m = hp s) (he : fitE (env s) e) (hl : loE m (env s)) (hL : loH m (hp s)) : kFor ks N env hp inv ms n Q .normal e h :=
  k_turn s (hh ▸ Ent.cut m hb he hl (hh ▸ hL)) hi hm

/-- A call, by a contract. -/
theorem call_HTP {P : Program} {p₀ K : AV → Hp → Prop} {h : Hp} {fid : FuncId} {fst args cap : List AV} {R p : AV → Hp → Prop} (T : HTP P fid (fst ++ args ++ cap) h R p) (hK : ∀ av h', R av h' → K av h') (hp : ∀ av h', p av h' → p₀ av h') : sCall P p₀ K h (.fn (.func fid) fst cap) args :=
  ⟨fid, fst, cap, rfl, T.mono hK hp⟩
theorem call_HT {P : Program} {p₀ K : AV → Hp → Prop} {h : Hp} {fid : FuncId} {fst args cap : List AV} {R : AV → Hp → Prop} (T : HT P fid (fst ++ args ++ cap) h R) (hK : ∀ av h', R av h' → K av h') : sCall P p₀ K h (.fn (.func fid) fst cap) args :=
  ⟨fid, fst, cap, rfl, (T.toP p₀).mono hK fun _ _ q => q⟩
/-- A call, by a contract over trees. -/
theorem call_TC {P : Program} {p₀ : AV → Hp → Prop} {K : AV → Hp → Prop} {h h' : Hp} {fid : FuncId} {args args' : List AV} {res : AV} (T : TC P fid args' res) (hcl : closeWith close2 h args = some (args', h')) (hc : ∀ (a : AV), a ∈ args' → Clo a) (hres : Clo res) (hK : K res h') : sCall P p₀ K h (.fn (.func fid) [] []) args := by
  refine call_HT (R := fun r h2 => r = res ∧ h2 = h') ?_ ?_
  · rw [List.nil_append, List.append_nil]; exact HT.of_TC T hcl hc hres
  · rintro av h2 ⟨rfl, rfl⟩; exact hK
def sCl (args' : List AV) (K : Hp → Prop) (o : Option (List AV × Hp)) : Prop := ∃ a h, o = some (a, h) ∧ a = args' ∧ K h
theorem sCl_some {args' a : List AV} {K : Hp → Prop} {h : Hp} (ha : a = args') (hK : K h) : sCl args' K (some (a, h)) := ⟨a, h, rfl, ha, hK⟩
/-- The same, where what is owned is closed by rules. -/
theorem call_cl {P : Program} {p₀ : AV → Hp → Prop} {K : AV → Hp → Prop} {h : Hp} {fid : FuncId} {args args' : List AV} {res : AV} (T : TC P fid args' res) (hc : ∀ (a : AV), a ∈ args' → Clo a) (hres : Clo res) (hcl : sCl args' (K res) (closeWith close2 h args)) : sCall P p₀ K h (.fn (.func fid) [] []) args := by
  obtain ⟨a, h', e, rfl, hK⟩ := hcl
  exact call_TC T e hc hres hK
/-- The same, where what is handed over reads as what the contract asks. -/
theorem call_wk {P : Program} {p₀ : AV → Hp → Prop} {K : AV → Hp → Prop} {h h' : Hp} {fid : FuncId} {args args' args2 : List AV} {res : AV} (T : TC P fid args' res) (hcl : closeWith close2 h args = some (args2, h')) (hw : WkL args2 args') (hc : ∀ (a : AV), a ∈ args2 → Clo a) (hres : Clo res) (hK : K res h') : sCall P p₀ K h (.fn (.func fid) [] []) args :=
  call_TC (T.wk hw (Wk.refl _)) hcl hc hres hK
theorem calm_HT {P : Program} {p₀ : AV → Hp → Prop} {K : AV → Prop} {h : Hp} {fid : FuncId} {fst args cap : List AV} {res : AV} {p : AV → Hp → Prop} (T : HTP P fid (fst ++ args ++ cap) h (fun r h' => r = res ∧ h' = h) p) (hK : K res) (hp : ∀ av h', p av h' → p₀ av h') : sCalm P p₀ K h (.fn (.func fid) fst cap) args :=
  ⟨fid, fst, cap, rfl, res, T.mono (fun _ _ q => q) hp, hK⟩
theorem view1_close {h : Hp} {a a' : AV} (hv : view1 h a = some a') (hc : Clo a') : close1 h a = some (a', h) := by
  unfold view1 at hv
  split at hv
  · next id n =>
    split at hv
    · next T s cells fz hh =>
      split at hv
      · next hcond =>
        injection hv with hv; subst hv
        unfold close1
        simp only [hh, hcond.1, if_true]
        rw [set_same (by rw [hh, hcond.2, hcond.1])]
      · cases hv
    · cases hv
  · next hne =>
    injection hv with hv; subst hv
    cases hc <;> rfl
theorem map_close {f : Hp → AV → Option (AV × Hp)} {g : AV → Option AV} {h : Hp} (hf : ∀ a a', g a = some a' → Clo a' → f h a = some (a', h)) : ∀ (l l' : List AV), mapO g l = some l' → (∀ (a : AV), a ∈ l' → Clo a) → closeWith f h l = some (l', h)
  | [], l', hm, _ => by
    simp only [mapO] at hm
    injection hm with hm; subst hm; rfl
  | a :: r, l', hm, hc => by
    simp only [mapO] at hm
    split at hm
    · next a' r' h1 h2 =>
      injection hm with hm; subst hm
      have i1 := hf a a' h1 (hc a' (List.mem_cons_self ..))
      have i2 := map_close hf r r' h2 fun b hb => hc b (List.mem_cons_of_mem _ hb)
      simp only [closeWith, i1, i2]
    · cases hm
theorem view2_close {h : Hp} {a a' : AV} (hv : view2 h a = some a') (hc : Clo a') : close2 h a = some (a', h) := by
  unfold view2 at hv
  split at hv
  · next l =>
    cases hl : mapO (view1 h) l with
    | none => rw [hl] at hv; cases hv
    | some l' =>
      rw [hl] at hv; injection hv with hv; subst hv
      cases hc with
      | g hc =>
      unfold close2
      simp only [map_close (f := close1) (g := view1 h) (h := h) (fun a a' => view1_close) l l' hl hc, Option.map_some]
  · next hne =>
    have := view1_close hv hc
    unfold close2
    split
    · next l => exact absurd rfl (hne l)
    · exact this
theorem calm_TC {P : Program} {p₀ : AV → Hp → Prop} {K : AV → Prop} {h : Hp} {fid : FuncId} {args args' : List AV} {res : AV} (T : TC P fid args' res) (hv : viewL h args = some args') (hc : ∀ (a : AV), a ∈ args' → Clo a) (hres : Clo res) (hK : K res) : sCalm P p₀ K h (.fn (.func fid) [] []) args := by
  refine calm_HT (p := fun _ _ => False) ?_ hK (fun _ _ q => q.elim)
  rw [List.nil_append, List.append_nil]
  exact (HT.of_TC T (map_close (f := close2) (g := view2 h) (fun a a' => view2_close) args args' hv hc) hc hres).toP _
theorem calm_wk {P : Program} {p₀ : AV → Hp → Prop} {K : AV → Prop} {h : Hp} {fid : FuncId} {args args' args2 : List AV} {res : AV} (T : TC P fid args' res) (hv : viewL h args = some args2) (hw : WkL args2 args') (hc : ∀ (a : AV), a ∈ args2 → Clo a) (hres : Clo res) (hK : K res) : sCalm P p₀ K h (.fn (.func fid) [] []) args :=
  calm_TC (T.wk hw (Wk.refl _)) hv hc hres hK

/-- A contract over trees, for the walks in the old style. -/
theorem TC.calls {P : Program} {f : FuncId} {args : List AV} {res : AV} (T : TC P f args res) {w : World} {vs : List Value} (hr : RepL ⟨w, fun _ => (none, 0), [], fun _ _ => False, []⟩ args vs) :
    Calls P f vs.toArray w fun e w' => ∃ v, e = .returned v ∧ Below w.heap.size w w' ∧ Rep ⟨w', fun _ => (none, 0), [], fun _ _ => False, []⟩ res v := by
  refine (T.2 ⟨w, fun _ => (none, 0), [], fun _ _ => False, []⟩ vs rfl (fun _ _ h => h.elim) hr).mono ?_
  rintro e w' ⟨v, h1, h2, h3⟩
  exact ⟨v, h1, h2, h3 _⟩

theorem Clo.tab_v {n s : Nat} {m : Nat} {f : Nat → Value} : Clo (.t n s (tab m fun i => .v (f i))) := .t fun a ha => by
  obtain ⟨i, _, rfl⟩ := List.mem_map.1 ha
  exact .v _
end Go.Proofs.YtljfgdlgmdcmfaaGreat.Wv
