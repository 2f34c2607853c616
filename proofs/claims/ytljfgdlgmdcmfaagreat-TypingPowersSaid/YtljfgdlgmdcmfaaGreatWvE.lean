/- The machine of abstract values: addresses, stores, new blocks, slices. -/
import Derived.Test.YtljfgdlgmdcmfaaGreatWvD
namespace Go.Proofs.YtljfgdlgmdcmfaaGreat.Wv
open Go.RowKit
set_option linter.unusedVariables false
set_option autoImplicit false

def setLA (l : List AV) : Nat → List AV → List AV
  | _, [] => l
  | o, a :: r => setLA (l.set o a) (o + 1) r
def Ob.setL (o : Ob) : Nat → List AV → Ob
  | _, [] => o
  | off, a :: r => (o.set off a).setL (off + 1) r
theorem setL_blk : ∀ (l : List AV) (cells : List AV) (off : Nat), (Ob.blk cells).setL off l = .blk (setLA cells off l)
  | [], _, _ => rfl
  | a :: r, cells, off => by rw [Ob.setL, setLA]; exact setL_blk r _ _
theorem setL_arr (T : TypeId) (s fz : Nat) : ∀ (l : List AV) (cells : List AV) (off : Nat), (Ob.arr T s cells fz).setL off l = .arr T s (setLA cells off l) fz
  | [], _, _ => rfl
  | a :: r, cells, off => by rw [Ob.setL, setLA]; exact setL_arr T s fz r _ _
theorem cells_set (o : Ob) (off : Nat) (a : AV) : (o.set off a).cells.length = o.cells.length := by cases o <;> simp [Ob.set, Ob.cells]
theorem wr_set (o : Ob) (off k : Nat) (a : AV) (h : o.wr k) : (o.set off a).wr k := by cases o <;> exact h

theorem Ok.putL {id b : Nat} : ∀ (xs : List Value) (as : List AV) (off : Nat) (X : Cx) (o : Ob), Ok X → X.h[id]? = some (some o) → (X.m id).1 = some b → off + xs.length ≤ o.cells.length → (∀ k, off ≤ k → o.wr k) → RepL X as xs →
    ∃ Y : Cx, Y.w = X.w.setCells b off xs ∧ Y.h = X.h.set id (some (o.setL off as)) ∧ Step X Y ∧ Ok Y
  | [], as, off, X, o, hX, h, hb, hl, hw, hr => by
    have : as = [] := List.eq_nil_of_length_eq_zero (by have := hr.1; simp at this; omega)
    subst this
    exact ⟨X, rfl, by rw [Ob.setL, set_same h], Step.refl X, hX⟩
  | x :: xs, [], off, X, o, hX, h, hb, hl, hw, hr => by have := hr.1; simp at this
  | x :: xs, a :: as, off, X, o, hX, h, hb, hl, hw, hr => by
    simp only [List.length_cons] at hl
    have hid : id < X.h.length := (List.getElem?_eq_some_iff.1 h).1
    have hra : Rep X a x := hr.2 0 a x rfl rfl
    have S := Step.put x a hX h hb (by omega) (hw off (Nat.le_refl _))
    have K := Ok.put hX h hb (by omega) (hw off (Nat.le_refl _)) hra
    obtain ⟨Y, e1, e2, S2, K2⟩ := Ok.putL xs as (off + 1) (X.put id b off x o a) (o.set off a) K (by simp only [Cx.put]; rw [List.getElem?_set_self hid]) hb (by rw [cells_set]; omega) (fun k hk => wr_set _ _ _ _ (hw k (by omega)))
      ⟨by have := hr.1; simp at this; omega, fun i a' y h1 h2 => (hr.2 (i + 1) a' y (by simpa using h1) (by simpa using h2)).mono S⟩
    refine ⟨Y, e1, ?_, S.trans hX S2, K2⟩
    rw [e2, Ob.setL]
    simp only [Cx.put, List.set_set]

/-- One cell, for certain. -/
def oneA (h : Hp) : AV → Bool
  | .v x => x.oneCell'
  | .g _ | .tup _ | .none => false
  | a => liveA h a
theorem oneA_ok {X : Cx} {a : AV} {x : Value} (h : oneA X.h a = true) (hr : Rep X a x) : x.oneCell' = true := by
  have hr' := hr
  cases hr with
  | v x => exact h
  | none x => cases h
  | tup hc hr => cases h
  | g hc hr => cases h
  | own hid k => rw [live_own h hr']; rfl
  | ptr hid k => obtain ⟨b, e⟩ := live_ptr h hr'; rw [e]; rfl
  | ap hid k => obtain ⟨b, e⟩ := live_ap h hr'; rw [e]; rfl
  | mp hid k => obtain ⟨b, e⟩ := live_mp h hr'; rw [e]; rfl
  | _ => rfl

def storeA (P : Program) (h : Hp) (T : TypeId) (a x : AV) : Option Hp :=
  (cellsA h x).bind fun l =>
    if szP P T = some l.length ∧ l.all (oneA h) = true then
      match a with
      | .ptr id off => match h[id]? with
        | some (some (.blk cells)) => if off + l.length ≤ cells.length then some (h.set id (some (.blk (setLA cells off l)))) else none
        | _ => none
      | .ap id n off => match h[id]? with
        | some (some (.arr T s cells fz)) => if cells.length = n * s ∧ fz ≤ off ∧ off + l.length ≤ cells.length then some (h.set id (some (.arr T s (setLA cells off l) fz))) else none
        | _ => none
      | _ => none
    else none

theorem store_run {P : Program} {w : World} {T : TypeId} {b off : Nat} {v : Value} {cvs : Array Value} {T2 : TypeId} (hs : szP P T = some v.cells.toList.length) (hb : w.heap[b]? = some (.cells cvs T2 (0, 0))) (hl : off + v.cells.toList.length ≤ cvs.size)
    (h1 : ∀ u ∈ v.cells.toList, u.oneCell' = true) : (Instr.storeAt T (.pointer (some ⟨b, off, none⟩)) v).run P w = .ok () (w.setCells b off v.cells.toList) := by
  obtain ⟨i, hi, hsi⟩ := szP_i hs
  have hst := run_storeCells_cells (P := P) b off v.cells.toList 0 w (fun j hj => by
      have : w.cell? ⟨b, off + 0 + j, none⟩ = cvs[off + 0 + j]? := cellAt_blk hb
      rw [this, Array.getElem?_eq_getElem (by omega)]; rfl) (fun j hj => by simp [World.frozen?, hb]) h1
  rw [Nat.add_zero] at hst
  simp only [Array.length_toList] at hsi
  simp only [Instr.storeAt, Instr.sureAddr, storeVar, Sem.run_bind, Sem.run_pure, Result.andThen_ok, sizeOf, typeInfo]
  simp [hi, hsi, hst]

theorem repL_all {X : Cx} {l : List AV} {xs : List Value} (h : l.all (oneA X.h) = true) (hr : RepL X l xs) : ∀ u ∈ xs, u.oneCell' = true := by
  intro u hu
  obtain ⟨i, hi, e⟩ := List.mem_iff_getElem.1 hu
  have h1 : i < l.length := by rw [← hr.1]; exact hi
  exact oneA_ok (List.all_eq_true.1 h l[i] (List.getElem_mem h1)) (hr.2 i l[i] u (List.getElem?_eq_getElem h1) (by rw [List.getElem?_eq_getElem hi, e]))

theorem storeA_ok {P : Program} {X : Cx} {T : TypeId} {a x : AV} {p v : Value} {h' : Hp} (hX : Ok X) (h : storeA P X.h T a x = some h') (ha : Rep X a p) (hx : Rep X x v) :
    ∃ Y, (Instr.storeAt T p v).run P X.w = .ok () Y.w ∧ Step X Y ∧ Ok Y ∧ Y.h = h' := by
  unfold storeA at h
  cases hc : cellsA X.h x with
  | none => rw [hc] at h; cases h
  | some l =>
    rw [hc] at h
    simp only [Option.bind_some] at h
    split at h
    · next hcond =>
      obtain ⟨hsz, hall⟩ := hcond
      have hR := cellsA_ok hc hx
      have hone := repL_all hall hR
      have hlen : v.cells.toList.length = l.length := hR.1
      cases a with
      | ptr id off =>
        simp only at h
        split at h
        · next cells hh =>
          split at h
          · next hle =>
            injection h with h; subst h
            obtain ⟨b, cvs, T2, h1, h2, h3, h4, h5⟩ := hX.blk id cells hh
            cases ha with
            | ptr hid k =>
            obtain ⟨b', e1, e2⟩ := k _ hh
            rw [h1] at e1; injection e1 with e1; subst e1
            obtain ⟨Y, y1, y2, y3, y4⟩ := Ok.putL (id := id) (b := b) v.cells.toList l off X (.blk cells) hX hh h1 (by simp only [Ob.cells]; omega) (fun k _ => trivial) hR
            refine ⟨Y, ?_, y3, y4, by rw [y2, setL_blk]⟩
            rw [y1, e2]
            exact store_run (by rw [hsz, hlen]) h2 (by omega) hone
          · cases h
        · cases h
      | ap id n off =>
        simp only at h
        split at h
        · next T' s cells fz hh =>
          split at h
          · next hle =>
            injection h with h; subst h
            obtain ⟨g1, g2, n', g3, g4⟩ := hX.arr id T' s cells fz hh
            cases ha with
            | ap hid k =>
            obtain ⟨b', e1, e2⟩ := (k _ _ _ _ hh).2 hle.1
            rcases g4 with g4 | ⟨b, cvs, g4⟩
            · rw [g4.1] at e1; cases e1
            · rw [g4.at_] at e1; injection e1 with e1; subst e1
              have hle2 : cells.length ≤ cvs.size := by rw [g4.sz, g3]; exact Nat.mul_le_mul_right _ g4.cap
              obtain ⟨Y, y1, y2, y3, y4⟩ := Ok.putL (id := id) (b := b) v.cells.toList l off X (.arr T' s cells fz) hX hh g4.at_ (by simp only [Ob.cells]; omega) (fun k hk => by show fz ≤ k; omega) hR
              refine ⟨Y, ?_, y3, y4, by rw [y2, setL_arr]⟩
              rw [y1, e2]
              exact store_run (by rw [hsz, hlen]) g4.blk (by omega) hone
          · cases h
        · cases h
      | _ => cases h
    · cases h

/-- An address further on. -/
def shiftA (h : Hp) (a : AV) (o : Nat) : Option AV := if liveA h a then
  match a with
  | .ptr id off => some (.ptr id (off + o))
  | .ap id n off => some (.ap id n (off + o))
  | .tp cells => some (.tp (cells.drop o))
  | _ => none
  else none
theorem shiftA_ok {X : Cx} {a r : AV} {o : Nat} {p : Value} (h : shiftA X.h a o = some r) (hr : Rep X a p) : ∃ b off, p = .pointer (some ⟨b, off, none⟩) ∧ Rep X r (.pointer (some ⟨b, off + o, none⟩)) := by
  unfold shiftA at h
  split at h
  · next hl =>
    cases a with
    | ptr id off =>
      injection h with h; subst h
      have hl2 := hl
      simp only [liveA] at hl2
      split at hl2
      · next cells hh =>
        cases hr with
        | ptr hid k =>
        obtain ⟨b, e1, e2⟩ := k _ hh
        exact ⟨b, off, e2, .ptr hid fun c hc => ⟨b, e1, rfl⟩⟩
      · cases hl2
    | ap id n off =>
      injection h with h; subst h
      have hl2 := hl
      simp only [liveA] at hl2
      split at hl2
      · next T s cells fz hh =>
        cases hr with
        | ap hid k =>
        obtain ⟨b, e1, e2⟩ := (k _ _ _ _ hh).2 (of_decide_eq_true hl2)
        refine ⟨b, off, e2, .ap hid fun T' s' c f hc => ?_⟩
        obtain ⟨q1, q2⟩ := k _ _ _ _ hc
        exact ⟨q1, fun hn => ⟨b, e1, rfl⟩⟩
      · cases hl2
    | tp cells =>
      injection h with h; subst h
      cases hr with
      | @tp _ b off cvs hc hp k =>
      refine ⟨b, off, rfl, .tp (cvs := cvs.drop o) (by simp [hc]) (fun i x hx => ?_) (fun i a x h1 h2 => ?_)⟩
      · rw [List.getElem?_drop] at hx
        rw [Nat.add_assoc]; exact hp _ x hx
      · rw [List.getElem?_drop] at h1 h2
        exact k _ a x h1 h2
    | _ => cases h
  · cases h

def faddrA (P : Program) (h : Hp) (S : TypeId) (a : AV) (f : Nat) : Option AV := (fldP P S f).bind fun ot => if szP P ot.2 = some 0 then none else (szP P ot.2).bind fun _ => shiftA h a ot.1
theorem faddrA_ok {P : Program} {X : Cx} {S : TypeId} {a r : AV} {f : Nat} {p : Value} (h : faddrA P X.h S a f = some r) (hr : Rep X a p) : ∃ v, (Instr.fieldAt S p f).run P X.w = .ok v X.w ∧ Rep X r v := by
  unfold faddrA at h
  cases hf : fldP P S f with
  | none => rw [hf] at h; cases h
  | some ot =>
    obtain ⟨o, T⟩ := ot
    rw [hf] at h
    simp only [Option.bind_some] at h
    split at h
    · cases h
    · next h0 =>
      cases hs : szP P T with
      | none => rw [hs] at h; cases h
      | some s =>
        rw [hs] at h h0
        simp only [Option.bind_some] at h
        obtain ⟨b, off, rfl, hr2⟩ := shiftA_ok h hr
        obtain ⟨fs, x, hu, hx, e1, e2⟩ := fldP_u hf
        obtain ⟨i, hi, hsi⟩ := szP_i hs
        have hi0 : ¬ i.size = 0 := fun e => h0 (by rw [hsi] at e; rw [e])
        refine ⟨_, ?_, hr2⟩
        subst e1 e2
        simp [Instr.fieldAt, run_underlying hu, hx, Instr.sureAddr, fieldPlace, sizeOf, typeInfo, hi, hi0, add_at]

def intA : AV → Option Int
  | .v (.int _ z) => some z
  | _ => none
theorem intA_ok {X : Cx} {a : AV} {z : Int} {v : Value} (h : intA a = some z) (hr : Rep X a v) : ∃ k, v = .int k z := by
  cases a with
  | v x =>
    cases hr with
    | v _ =>
      cases v <;> simp [intA] at h
      exact ⟨_, by rw [h]⟩
  | _ => cases h

/-- The address of an element. -/
def idxA (P : Program) (h : Hp) (T : TypeId) (a : AV) (z : Int) : Option AV :=
  match elemP P T with
  | some e => (szP P e).bind fun s => match a with
    | .t n s' cells => if s' = s ∧ 0 ≤ z ∧ z < n then some (.tp (cells.drop (z.toNat * s))) else none
    | .own id n => if liveA h (.own id n) ∧ 0 ≤ z ∧ z < n then some (.ap id n (z.toNat * s)) else none
    | _ => none
  | none => match arrP P T with
    | some (n, e) => (szP P e).bind fun s => if 0 ≤ z ∧ z < n then shiftA h a (z.toNat * s) else none
    | none => none
theorem idxA_ok {P : Program} {X : Cx} {T : TypeId} {a r ia : AV} {z : Int} {p iv : Value} (hX : Ok X) (h : idxA P X.h T a z = some r) (hr : Rep X a p) (hi : intA ia = some z) (hri : Rep X ia iv) :
    ∃ v, (Instr.indexAt T p iv).run P X.w = .ok v X.w ∧ Rep X r v := by
  obtain ⟨k, rfl⟩ := intA_ok hi hri
  unfold idxA at h
  split at h
  · next e he =>
    have hu := elemP_u he
    cases hs : szP P e with
    | none => rw [hs] at h; cases h
    | some s =>
      obtain ⟨i, hii, hsi⟩ := szP_i hs
      rw [hs] at h
      simp only [Option.bind_some] at h
      cases a with
      | t n s' cells =>
        simp only at h
        split at h
        · next hc =>
          obtain ⟨rfl, h0, h1⟩ := hc
          injection h with h; subst h
          cases hr with
          | @t _ _ _ pa cap cvs hl hc hn hcap hp hrr =>
          obtain ⟨b, off, e1, hq⟩ := hp (by omega)
          subst e1
          refine ⟨.pointer (some ⟨b, off + z.toNat * s', none⟩), ?_, .tp (cvs := cvs.drop (z.toNat * s')) (by simp [hc]) (fun j x hx => ?_) (fun j a x q1 q2 => ?_)⟩
          · simp [Instr.indexAt, asIntOf, run_underlying hu, h0, h1, sizeOf, typeInfo, hii, hsi, add_at]
          · rw [List.getElem?_drop] at hx
            rw [Nat.add_assoc]; exact hq _ x hx
          · rw [List.getElem?_drop] at q1 q2
            exact hrr _ a x q1 q2
        · cases h
      | own id n =>
        simp only at h
        split at h
        · next hc =>
          obtain ⟨hl, h0, h1⟩ := hc
          injection h with h; subst h
          have e2 := live_own hl hr
          simp only [liveA] at hl
          split at hl
          · next T' s' cells fz hh =>
            have hn := of_decide_eq_true hl
            obtain ⟨g1, g2, n', g3, g4⟩ := hX.arr id T' s' cells fz hh
            have hnn : n' = n := Nat.eq_of_mul_eq_mul_right g2 (by rw [← g3, ← hn])
            subst hnn
            rcases g4 with ⟨_, g4⟩ | ⟨b, cvs, g4⟩
            · rw [g4] at hn
              rcases Nat.mul_eq_zero.1 hn.symm with q | q <;> omega
            · cases hr with
              | own hid kk =>
              refine ⟨.pointer (some ⟨b, z.toNat * s, none⟩), ?_, .ap hid fun T2 s2 c2 f2 hc2 => ⟨(kk _ _ _ _ hc2).1, fun hn2 => ⟨b, g4.at_, rfl⟩⟩⟩
              rw [e2]
              simp [sliceVal, g4.at_, Instr.indexAt, asIntOf, run_underlying hu, h0, h1, sizeOf, typeInfo, hii, hsi, add_at]
          · cases hl
        · cases h
      | _ => cases h
  · split at h
    · next n e ha =>
      have hu := arrP_u ha
      cases hs : szP P e with
      | none => rw [hs] at h; cases h
      | some s =>
        obtain ⟨i, hii, hsi⟩ := szP_i hs
        rw [hs] at h
        simp only [Option.bind_some] at h
        split at h
        · next hc =>
          obtain ⟨b, off, rfl, hr2⟩ := shiftA_ok h hr
          refine ⟨_, ?_, hr2⟩
          simp [Instr.indexAt, asIntOf, run_underlying hu, Instr.sureAddr, hc.1, hc.2, sizeOf, typeInfo, hii, hsi, add_at]
        · cases h
    · cases h
end Go.Proofs.YtljfgdlgmdcmfaaGreat.Wv
