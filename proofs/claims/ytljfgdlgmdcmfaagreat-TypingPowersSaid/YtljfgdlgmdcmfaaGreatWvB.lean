/- The machine of abstract values: stores, freezing, appending. -/
import Derived.Test.YtljfgdlgmdcmfaaGreatWvA
namespace Go.Proofs.YtljfgdlgmdcmfaaGreat.Wv
open Go.RowKit
set_option linter.unusedVariables false
set_option autoImplicit false

theorem heap_set_same {w : World} {b off : Nat} {c : Array Value} {T : TypeId} {fr : Nat × Nat} (h : w.heap[b]? = some (.cells c T fr)) (x : Value) :
    (w.setCell ⟨b, off, none⟩ x).heap[b]? = some (.cells (c.setIfInBounds off x) T fr) := by
  simp [World.setCell, Array.getElem?_modify, h]
theorem cellAt_blk {w : World} {b off : Nat} {c : Array Value} {T : TypeId} {fr : Nat × Nat} (h : w.heap[b]? = some (.cells c T fr)) : cellAt w b off = c[off]? := by
  simp [cellAt, World.cell?, h]

def Ob.set (o : Ob) (off : Nat) (a : AV) : Ob := match o with
  | .blk cells => .blk (cells.set off a)
  | .arr T s cells fz => .arr T s (cells.set off a) fz
  | .map es => .map es
def Ob.wr (o : Ob) (off : Nat) : Prop := match o with
  | .blk _ => True
  | .arr _ _ _ fz => fz ≤ off
  | .map _ => False
def Ob.cells (o : Ob) : List AV := match o with
  | .blk cells => cells
  | .arr _ _ cells _ => cells
  | .map _ => []
def Cx.put (X : Cx) (id b off : Nat) (x : Value) (o : Ob) (a : AV) : Cx := { X with w := X.w.setCell ⟨b, off, none⟩ x, h := X.h.set id (some (o.set off a)) }

/-- What is known of an owned thing. -/
theorem Ok.obj {X : Cx} (hX : Ok X) {id : Nat} {o : Ob} (h : X.h[id]? = some (some o)) {off : Nat} (hoff : off < o.cells.length) :
    ∃ b cvs T, (X.m id).1 = some b ∧ X.w.heap[b]? = some (.cells cvs T (0, 0)) ∧ o.cells.length ≤ cvs.size ∧ (∀ off, o.wr off → X.bad b off) ∧
      ∀ (i : Nat) (a : AV) (x : Value), o.cells[i]? = some a → cvs[i]? = some x → Rep X a x := by
  cases o with
  | blk cells =>
    obtain ⟨b, cvs, T, h1, h2, h3, h4, h5⟩ := hX.blk id cells h
    exact ⟨b, cvs, T, h1, h2, by rw [h3]; exact Nat.le_refl _, fun off _ => h4 off, h5⟩
  | arr T s cells fz =>
    obtain ⟨_, hs, n, hn, h1 | ⟨b, cvs, h1⟩⟩ := hX.arr id T s cells fz h
    · rw [h1.2] at hoff; simp [Ob.cells] at hoff
    · exact ⟨b, cvs, T, h1.at_, h1.blk, by rw [h1.sz]; simp only [Ob.cells]; rw [hn]; exact Nat.mul_le_mul_right _ h1.cap, fun off ho => h1.bad off ho, h1.rep⟩
  | map es => simp [Ob.cells] at hoff

theorem set_h {X : Cx} {id : Nat} {o : Option Ob} {i : Nat} (h : i ≠ id) : (X.h.set id o)[i]? = X.h[i]? := by rw [List.getElem?_set_ne (by omega)]

theorem Step.put {X : Cx} {id b off : Nat} {o : Ob} (x : Value) (a : AV) (hX : Ok X) (h : X.h[id]? = some (some o)) (hb : (X.m id).1 = some b) (hoff : off < o.cells.length) (hw : o.wr off) : Step X (X.put id b off x o a) := by
  obtain ⟨b', cvs, T, e1, h2, h3, h4, h5⟩ := hX.obj h hoff
  rw [hb] at e1; injection e1 with e1; subst e1
  have hid : id < X.h.length := (List.getElem?_eq_some_iff.1 h).1
  refine ⟨rfl, rfl, rfl, by simp [Cx.put, World.setCell], fun c hc hm => ?_, fun c o' y hy hbad => ⟨?_, hbad⟩, by simp [Cx.put], fun i U s c f hi hh => ?_, fun i c hi hh => ?_, fun c hc => ?_, fun _ _ h => .inl h, fun i c hi hh => ?_, rfl⟩
  · exact Below.heap_setCell _ _ _ _ (fun e => hm ⟨id, ⟨o, h⟩, by rw [hb]; exact congrArg some e.symm⟩)
  · have hne : (⟨b, off, none⟩ : Addr) ≠ ⟨c, o', none⟩ := by
      intro e; injection e with e1 e2; subst e1 e2
      exact hbad (h4 off hw)
    unfold cellAt at hy ⊢
    rw [show (X.put id b off x o a).w = X.w.setCell ⟨b, off, none⟩ x from rfl, World.cell?_setCell_other (h := hne)]; exact hy
  · by_cases e : i = id
    · subst e
      simp only [Cx.put] at hh
      rw [List.getElem?_set_self hid] at hh
      injection hh with hh; injection hh with hh
      cases o with
      | blk cells => cases hh
      | arr T' s' cells fz =>
        injection hh with e1 e2 e3 e4; subst e1 e2 e3 e4
        exact ⟨cells, fz, h, by simp, fun _ => rfl⟩
      | map es => cases hh
    · simp only [Cx.put] at hh
      rw [set_h e] at hh
      exact ⟨c, f, hh, Nat.le_refl _, fun _ => rfl⟩
  · by_cases e : i = id
    · subst e
      simp only [Cx.put] at hh
      rw [List.getElem?_set_self hid] at hh
      injection hh with hh; injection hh with hh
      cases o with
      | blk cells => exact ⟨cells, h, rfl⟩
      | arr T' s' cells fz => cases hh
      | map es => cases hh
    · simp only [Cx.put] at hh
      rw [set_h e] at hh
      exact ⟨c, hh, rfl⟩
  · obtain ⟨i, ⟨o', ho⟩, he⟩ := hc
    right
    by_cases e : i = id
    · subst e; exact ⟨i, ⟨o, h⟩, he⟩
    · simp only [Cx.put] at ho
      rw [set_h e] at ho
      exact ⟨i, ⟨o', ho⟩, he⟩
  · by_cases e : i = id
    · subst e
      simp only [Cx.put] at hh
      rw [List.getElem?_set_self hid] at hh
      injection hh with hh; injection hh with hh
      cases o with
      | map es => exact ⟨es, h, rfl⟩
      | _ => cases hh
    · simp only [Cx.put] at hh
      rw [set_h e] at hh
      exact ⟨c, hh, rfl⟩

theorem getSet {l : List AV} {off i : Nat} {a b : AV} (h : (l.set off b)[i]? = some a) : (i = off ∧ a = b) ∨ (i ≠ off ∧ l[i]? = some a) := by
  rw [List.getElem?_set] at h
  split at h
  · next e => subst e; split at h <;> simp_all
  · next e => exact .inr ⟨fun e' => e e'.symm, h⟩
theorem getSetA {l : Array Value} {off i : Nat} {a b : Value} (h : (l.setIfInBounds off b)[i]? = some a) : (i = off ∧ a = b) ∨ (i ≠ off ∧ l[i]? = some a) := by
  rw [Array.getElem?_setIfInBounds] at h
  split at h
  · next e => subst e; split at h <;> simp_all
  · next e => exact .inr ⟨fun e' => e e'.symm, h⟩

theorem Ok.put {X : Cx} {id b off : Nat} {o : Ob} {x : Value} {a : AV} (hX : Ok X) (h : X.h[id]? = some (some o)) (hb : (X.m id).1 = some b) (hoff : off < o.cells.length) (hw : o.wr off) (hr : Rep X a x) : Ok (X.put id b off x o a) := by
  have S := Step.put x a hX h hb hoff hw
  have hid : id < X.h.length := (List.getElem?_eq_some_iff.1 h).1
  have hlive : ∀ i, (X.put id b off x o a).live i → X.live i := by
    intro i ⟨o', ho⟩
    by_cases e : i = id
    · subst e; exact ⟨o, h⟩
    · simp only [Cx.put] at ho
      rw [set_h e] at ho
      exact ⟨o', ho⟩
  have hfar : ∀ i c, i ≠ id → X.live i → (X.m i).1 = some c → c ≠ b := fun i c hi hl hc e => hi (hX.inj i id b hl ⟨o, h⟩ (by rw [hc, e]) hb)
  refine ⟨fun i cells hh => ?_, fun i U s cells fz hh => ?_, fun i j c hi hj => hX.inj i j c (hlive i hi) (hlive j hj), fun c o' hc => Nat.lt_of_lt_of_le (hX.badlt c o' hc) S.size, fun i es hh => ?_⟩
  · by_cases e : i = id
    · subst e
      simp only [Cx.put] at hh
      rw [List.getElem?_set_self hid] at hh
      injection hh with hh; injection hh with hh
      cases o with
      | arr T' s' cells' fz => cases hh
      | map es => cases hh
      | blk cells' =>
        injection hh with hh; subst hh
        obtain ⟨b', cvs, T, h1, h2, h3, h4, h5⟩ := hX.blk i cells' h
        rw [hb] at h1; injection h1 with h1; subst h1
        refine ⟨b, cvs.setIfInBounds off x, T, hb, heap_set_same h2 x, by simp [h3], h4, fun j a' y h6 h7 => ?_⟩
        rcases getSet h6 with ⟨e1, e2⟩ | ⟨e1, e2⟩
        · rcases getSetA h7 with ⟨e3, e4⟩ | ⟨e3, e4⟩
          · rw [e2, e4]; exact hr.mono S
          · exact absurd e1 e3
        · rcases getSetA h7 with ⟨e3, e4⟩ | ⟨e3, e4⟩
          · exact absurd e3 e1
          · exact (h5 j a' y e2 e4).mono S
    · simp only [Cx.put] at hh
      rw [set_h e] at hh
      obtain ⟨b', cvs, T, h1, h2, h3, h4, h5⟩ := hX.blk i cells hh
      refine ⟨b', cvs, T, h1, ?_, h3, h4, fun j a' y h6 h7 => (h5 j a' y h6 h7).mono S⟩
      rw [show (X.put id b off x o a).w = X.w.setCell ⟨b, off, none⟩ x from rfl, Below.heap_setCell _ _ _ _ (hfar i b' e ⟨_, hh⟩ h1)]; exact h2
  · by_cases e : i = id
    · subst e
      simp only [Cx.put] at hh
      rw [List.getElem?_set_self hid] at hh
      injection hh with hh; injection hh with hh
      cases o with
      | blk cells' => cases hh
      | map es => cases hh
      | arr T' s' cells' fz' =>
        injection hh with e1 e2 e3 e4; subst e1 e2 e3 e4
        obtain ⟨g1, g2, n, g3, g4⟩ := hX.arr i T' s' cells' fz' h
        refine ⟨by simpa using g1, g2, n, by simpa using g3, ?_⟩
        rcases g4 with ⟨g4, g5⟩ | ⟨b', cvs, g4⟩
        · rw [g5] at hoff; simp [Ob.cells] at hoff
        · have h1 := g4.at_
          rw [hb] at h1; injection h1 with h1; subst h1
          refine .inr ⟨b, cvs.setIfInBounds off x, ⟨hb, heap_set_same g4.blk x, g4.cap, g4.capm, by simp [Cx.put, g4.sz], g4.bad, fun j a' y h6 h7 => ?_, g4.good⟩⟩
          rcases getSet h6 with ⟨e1, e2⟩ | ⟨e1, e2⟩
          · rcases getSetA h7 with ⟨e3, e4⟩ | ⟨e3, e4⟩
            · rw [e2, e4]; exact hr.mono S
            · exact absurd e1 e3
          · rcases getSetA h7 with ⟨e3, e4⟩ | ⟨e3, e4⟩
            · exact absurd e3 e1
            · exact (g4.rep j a' y e2 e4).mono S
    · simp only [Cx.put] at hh
      rw [set_h e] at hh
      obtain ⟨g1, g2, n, g3, g4⟩ := hX.arr i U s cells fz hh
      refine ⟨g1, g2, n, g3, ?_⟩
      rcases g4 with g4 | ⟨b', cvs, g4⟩
      · exact .inl g4
      · refine .inr ⟨b', cvs, ⟨g4.at_, ?_, g4.cap, g4.capm, g4.sz, g4.bad, fun j a' y h6 h7 => (g4.rep j a' y h6 h7).mono S, g4.good⟩⟩
        rw [show (X.put id b off x o a).w = X.w.setCell ⟨b, off, none⟩ x from rfl, Below.heap_setCell _ _ _ _ (hfar i b' e ⟨_, hh⟩ g4.at_)]; exact g4.blk
  · by_cases e : i = id
    · subst e
      cases o with
      | map es' => exact hw.elim
      | _ =>
        simp only [Cx.put] at hh
        rw [List.getElem?_set_self hid] at hh
        injection hh with hh; injection hh with hh
        cases hh
    · simp only [Cx.put] at hh
      rw [set_h e] at hh
      obtain ⟨b', ents, clock, h1, h2, h3⟩ := hX.map i es hh
      refine ⟨b', ents, clock, h1, ?_, h3.mono S⟩
      rw [show (X.put id b off x o a).w = X.w.setCell ⟨b, off, none⟩ x from rfl, Below.heap_setCell _ _ _ _ (hfar i b' e ⟨_, hh⟩ h1)]; exact h2

/-- The first cells of an array are not written any more. -/
def Cx.frz (X : Cx) (id : Nat) (T : TypeId) (s : Nat) (cells : List AV) : Cx :=
  { X with h := X.h.set id (some (.arr T s cells cells.length)), bad := fun b o => X.bad b o ∧ ¬ ((X.m id).1 = some b ∧ o < cells.length) }
theorem Step.frz {X : Cx} {id : Nat} {T : TypeId} {s : Nat} {cells : List AV} {fz : Nat} (h : X.h[id]? = some (some (.arr T s cells fz))) : Step X (X.frz id T s cells) := by
  have hid : id < X.h.length := (List.getElem?_eq_some_iff.1 h).1
  have hlive : ∀ i, (X.frz id T s cells).live i → X.live i := by
    intro i ⟨o', ho⟩
    by_cases e : i = id
    · subst e; exact ⟨_, h⟩
    · simp only [Cx.frz] at ho
      rw [set_h e] at ho
      exact ⟨o', ho⟩
  refine ⟨rfl, rfl, rfl, Nat.le_refl _, fun _ _ _ => rfl, fun c o' y hy hbad => ⟨hy, fun hk => hbad hk.1⟩, by simp [Cx.frz], fun i U s' c f hi hh => ?_, fun i c hi hh => ?_, fun c hc => ?_, fun c o' hb => ?_, fun i c hi hh => ?_, rfl⟩
  · by_cases e : i = id
    · subst e
      simp only [Cx.frz] at hh
      rw [List.getElem?_set_self hid] at hh
      injection hh with hh; injection hh with hh
      injection hh with e1 e2 e3 e4; subst e1 e2 e3 e4
      exact ⟨cells, fz, h, Nat.le_refl _, fun _ => rfl⟩
    · simp only [Cx.frz] at hh
      rw [set_h e] at hh
      exact ⟨c, f, hh, Nat.le_refl _, fun _ => rfl⟩
  · by_cases e : i = id
    · subst e
      simp only [Cx.frz] at hh
      rw [List.getElem?_set_self hid] at hh
      injection hh with hh; cases hh
    · simp only [Cx.frz] at hh
      rw [set_h e] at hh
      exact ⟨c, hh, rfl⟩
  · obtain ⟨i, hi, he⟩ := hc
    exact .inr ⟨i, hlive i hi, he⟩
  · by_cases e : (X.m id).1 = some c
    · exact .inr ⟨id, ⟨_, h⟩, e⟩
    · exact .inl ⟨hb, fun hk => e hk.1⟩
  · by_cases e : i = id
    · subst e
      simp only [Cx.frz] at hh
      rw [List.getElem?_set_self hid] at hh
      injection hh with hh; cases hh
    · simp only [Cx.frz] at hh
      rw [set_h e] at hh
      exact ⟨c, hh, rfl⟩
theorem Ok.frz {X : Cx} {id : Nat} {T : TypeId} {s : Nat} {cells : List AV} {fz : Nat} (hX : Ok X) (h : X.h[id]? = some (some (.arr T s cells fz))) : Ok (X.frz id T s cells) := by
  have S := Step.frz h
  have hid : id < X.h.length := (List.getElem?_eq_some_iff.1 h).1
  have hlive : ∀ i, (X.frz id T s cells).live i → X.live i := by
    intro i ⟨o', ho⟩
    by_cases e : i = id
    · subst e; exact ⟨_, h⟩
    · simp only [Cx.frz] at ho
      rw [set_h e] at ho
      exact ⟨o', ho⟩
  have hfar : ∀ i c, i ≠ id → X.live i → (X.m i).1 = some c → ¬ (X.m id).1 = some c := fun i c hi hl hc e => hi (hX.inj i id c hl ⟨_, h⟩ hc e)
  refine ⟨fun i c hh => ?_, fun i U s' c f hh => ?_, fun i j c hi hj => hX.inj i j c (hlive i hi) (hlive j hj), fun c o' hc => hX.badlt c o' hc.1, fun i es hh => ?_⟩
  · by_cases e : i = id
    · subst e
      simp only [Cx.frz] at hh
      rw [List.getElem?_set_self hid] at hh
      injection hh with hh; cases hh
    · simp only [Cx.frz] at hh
      rw [set_h e] at hh
      obtain ⟨b', cvs, T', h1, h2, h3, h4, h5⟩ := hX.blk i c hh
      exact ⟨b', cvs, T', h1, h2, h3, fun o => ⟨h4 o, fun hk => hfar i b' e ⟨_, hh⟩ h1 hk.1⟩, fun j a' y h6 h7 => (h5 j a' y h6 h7).mono S⟩
  · by_cases e : i = id
    · subst e
      simp only [Cx.frz] at hh
      rw [List.getElem?_set_self hid] at hh
      injection hh with hh; injection hh with hh
      injection hh with e1 e2 e3 e4; subst e1 e2 e3 e4
      obtain ⟨g1, g2, n, g3, g4⟩ := hX.arr i T s cells fz h
      refine ⟨Nat.le_refl _, g2, n, g3, ?_⟩
      rcases g4 with g4 | ⟨b', cvs, g4⟩
      · exact .inl g4
      · exact .inr ⟨b', cvs, ⟨g4.at_, g4.blk, g4.cap, g4.capm, g4.sz, fun o ho => ⟨g4.bad o (by omega), fun hk => by omega⟩, fun j a' y h6 h7 => (g4.rep j a' y h6 h7).mono S, fun o ho hk => hk.2 ⟨g4.at_, ho⟩⟩⟩
    · simp only [Cx.frz] at hh
      rw [set_h e] at hh
      obtain ⟨g1, g2, n, g3, g4⟩ := hX.arr i U s' c f hh
      refine ⟨g1, g2, n, g3, ?_⟩
      rcases g4 with g4 | ⟨b', cvs, g4⟩
      · exact .inl g4
      · exact .inr ⟨b', cvs, ⟨g4.at_, g4.blk, g4.cap, g4.capm, g4.sz, fun o ho => ⟨g4.bad o ho, fun hk => hfar i b' e ⟨_, hh⟩ g4.at_ hk.1⟩, fun j a' y h6 h7 => (g4.rep j a' y h6 h7).mono S, fun o ho hk => g4.good o ho hk.1⟩⟩
  · by_cases e : i = id
    · subst e
      simp only [Cx.frz] at hh
      rw [List.getElem?_set_self hid] at hh
      injection hh with hh; cases hh
    · simp only [Cx.frz] at hh
      rw [set_h e] at hh
      obtain ⟨b', ents, clock, h1, h2, h3⟩ := hX.map i es hh
      exact ⟨b', ents, clock, h1, h2, h3.mono S⟩

/-- A frozen array as a slice that nobody writes. -/
theorem Rep.frozen {X : Cx} {id n : Nat} {T : TypeId} {s : Nat} {cells : List AV} {x : Value} (hX : Ok X) (h : X.h[id]? = some (some (.arr T s cells cells.length))) (hbad : ∀ b, (X.m id).1 = some b → ∀ o, o < cells.length → ¬ X.bad b o) (hn : cells.length = n * s) (hr : Rep X (.own id n) x) : Rep X (.t n s cells) x := by
  cases hr with
  | own hid hh =>
  obtain ⟨_, e⟩ := hh _ _ _ _ h
  rw [e hn]
  obtain ⟨g1, g2, n', g3, g4⟩ := hX.arr id T s cells _ h
  have hnn : n' = n := Nat.eq_of_mul_eq_mul_right g2 (by rw [← g3, ← hn])
  subst hnn
  rcases g4 with ⟨g4, g5⟩ | ⟨b', cvs, g4⟩
  · subst g5
    have hn0 : n' = 0 := by
      rcases Nat.mul_eq_zero.1 hn.symm with h0 | h0
      · exact h0
      · omega
    subst hn0
    rw [g4]
    exact Rep.t (p := Option.none) (cap := 0) (cvs := []) (by simp) rfl (Nat.le_refl _) (Nat.zero_le _) (fun h => absurd h (by omega)) (fun i a x h1 h2 => by simp at h2)
  · have hle : cells.length ≤ cvs.size := by rw [g4.sz, g3]; exact Nat.mul_le_mul_right _ g4.cap
    refine Rep.t (cvs := cvs.toList.take cells.length) hn (by simp; omega) g4.cap g4.capm (fun _ => ⟨b', 0, by rw [g4.at_]; rfl, fun i x hx => ?_⟩) (fun i a x h1 h2 => ?_)
    · rw [List.getElem?_take] at hx
      split at hx
      · next hi =>
        rw [Nat.zero_add]
        exact ⟨by rw [cellAt_blk g4.blk]; simpa using hx, hbad _ g4.at_ _ hi⟩
      · cases hx
    · rw [List.getElem?_take] at h2
      split at h2
      · exact g4.rep i a x h1 (by simpa using h2)
      · cases h2
end Go.Proofs.YtljfgdlgmdcmfaaGreat.Wv
