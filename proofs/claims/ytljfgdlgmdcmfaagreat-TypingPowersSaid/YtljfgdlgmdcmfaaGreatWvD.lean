/- The machine of abstract values: operations that read or compute. -/
import Derived.Test.YtljfgdlgmdcmfaaGreatWvC
import Derived.Deep.MidRow
namespace Go.Proofs.YtljfgdlgmdcmfaaGreat.Wv
open Go.RowKit
set_option linter.unusedVariables false
set_option autoImplicit false

def szP (P : Program) (T : TypeId) : Option Nat := (P.info? T).map (·.size)
def aggP (P : Program) (T : TypeId) : Option Bool := (P.underlying T).map (·.isRow)
def zeroP (P : Program) (T : TypeId) : Option Value := (P.info? T).bind (·.zero)
def elemP (P : Program) (T : TypeId) : Option TypeId := (P.underlying T).bind fun | .slice e => some e | _ => none
def arrP (P : Program) (T : TypeId) : Option (Nat × TypeId) := (P.underlying T).bind fun | .array n e => some (n, e) | _ => none
/-- Where a field lies, and how many cells it has, if it has any. -/
def fldP (P : Program) (S : TypeId) (f : Nat) : Option (Nat × TypeId) := (P.underlying S).bind fun | .struct fs => (fs[f]?).map (fun x => (x.offset, x.type)) | _ => none
def isStrP (P : Program) (T : TypeId) : Bool := match P.underlying T with | some .string => true | _ => false
def isBoolP (P : Program) (T : TypeId) : Bool := match P.underlying T with | some .bool => true | _ => false
def intP (P : Program) (T : TypeId) : Option IntKind := (P.underlying T).bind fun | .int k => some k | _ => none

theorem elemP_u {P : Program} {T e : TypeId} (h : elemP P T = some e) : P.underlying T = some (.slice e) := by
  unfold elemP at h
  cases hu : P.underlying T with
  | none => rw [hu] at h; cases h
  | some d => rw [hu] at h; cases d <;> simp_all
theorem szP_i {P : Program} {T : TypeId} {s : Nat} (h : szP P T = some s) : ∃ i, P.info? T = some i ∧ i.size = s := by
  unfold szP at h
  cases hi : P.info? T with
  | none => rw [hi] at h; cases h
  | some i => rw [hi] at h; injection h with h; exact ⟨i, rfl, h⟩
theorem aggP_u {P : Program} {T : TypeId} {b : Bool} (h : aggP P T = some b) : ∃ d, P.underlying T = some d ∧ d.isRow = b := by
  unfold aggP at h
  cases hu : P.underlying T with
  | none => rw [hu] at h; cases h
  | some d => rw [hu] at h; injection h with h; exact ⟨d, rfl, h⟩
theorem fldP_u {P : Program} {S : TypeId} {f o : Nat} {T : TypeId} (h : fldP P S f = some (o, T)) : ∃ fs x, P.underlying S = some (.struct fs) ∧ fs[f]? = some x ∧ x.offset = o ∧ x.type = T := by
  unfold fldP at h
  cases hu : P.underlying S with
  | none => rw [hu] at h; cases h
  | some d =>
    rw [hu] at h
    cases d with
    | struct fs =>
      simp only [Option.bind_some] at h
      cases hx : fs[f]? with
      | none => rw [hx] at h; cases h
      | some x => rw [hx] at h; simp at h; exact ⟨fs, x, rfl, hx, h.1, h.2⟩
    | _ => simp at h
theorem arrP_u {P : Program} {T : TypeId} {n : Nat} {e : TypeId} (h : arrP P T = some (n, e)) : P.underlying T = some (.array n e) := by
  unfold arrP at h
  cases hu : P.underlying T with
  | none => rw [hu] at h; cases h
  | some d => rw [hu] at h; cases d <;> simp_all

/-- The cells that a value of a type takes, as one value. -/
def takeA (P : Program) (T : TypeId) (cells : List AV) : Option AV :=
  match aggP P T, szP P T with
  | some false, some _ => cells[0]?
  | some true, some s => if s ≤ cells.length then some (.g (cells.take s)) else none
  | _, _ => none

theorem isRow_agg {P : Program} {T : TypeId} {d : TypeDesc} (h : P.underlying T = some d) (w : World) : (isAgg T).run P w = .ok d.isRow w := by
  cases d <;> simp [isAgg, run_underlying h, TypeDesc.isRow]

theorem add_at (b off i : Nat) : (⟨b, off, none⟩ : Addr).add i = ⟨b, off + i, none⟩ := by unfold Addr.add; split <;> simp_all

theorem load_cells {P : Program} {X : Cx} {T : TypeId} {cells : List AV} {l : AV} {b off : Nat} {cvs : List Value} (ht : takeA P T cells = some l) (hc : cvs.length = cells.length)
    (hp : ∀ (i : Nat) (x : Value), cvs[i]? = some x → cellAt X.w b (off + i) = some x) (hr : ∀ (i : Nat) (a : AV) (x : Value), cells[i]? = some a → cvs[i]? = some x → Rep X a x) :
    ∃ v, (Instr.loadAt T (.pointer (some ⟨b, off, none⟩))).run P X.w = .ok v X.w ∧ Rep X l v := by
  unfold takeA at ht
  cases ha : aggP P T with
  | none => rw [ha] at ht; cases ht
  | some ab =>
    cases hs : szP P T with
    | none => rw [ha, hs] at ht; cases ab <;> cases ht
    | some s =>
      obtain ⟨d, hu, hd⟩ := aggP_u ha
      rw [ha, hs] at ht
      cases ab with
      | false =>
        simp only at ht
        have h0 := (List.getElem?_eq_some_iff.1 ht).1
        obtain ⟨x, hx⟩ : ∃ x, cvs[0]? = some x := ⟨_, List.getElem?_eq_getElem (by omega)⟩
        refine ⟨x, ?_, hr 0 l x ht hx⟩
        have h1 := hp 0 x hx
        unfold cellAt at h1
        rw [Nat.add_zero] at h1
        have h2 := isRow_agg hu X.w
        rw [hd] at h2
        simp only [Instr.loadAt, Instr.sureAddr, loadVar, Sem.run_bind, Sem.run_pure, Result.andThen_ok, h2]
        simp [load, Sem.run, h1]
      | true =>
        simp only at ht
        split at ht
        · next hle =>
          injection ht with ht; subst ht
          refine ⟨.agg (cvs.take s).toArray, ?_, .g (by simp; omega) (fun i a x h1 h2 => ?_)⟩
          · exact run_loadAt_mid X.w b off T (cvs.take s) d (fun j v hv => by
              rw [List.getElem?_take] at hv
              split at hv
              · exact hp j v hv
              · cases hv) hu hd (by
              obtain ⟨i, hi, hs'⟩ := szP_i hs
              rw [hi]; simp [hs']; omega)
          · rw [List.getElem?_take] at h1 h2
            split at h1
            · next hi => rw [if_pos hi] at h2; exact hr i a x h1 h2
            · cases h1
        · cases ht

/-- What lies behind an address. -/
def behind (h : Hp) : AV → Option (List AV)
  | .ptr id off => match h[id]? with
    | some (some (.blk cells)) => some (cells.drop off)
    | _ => none
  | .ap id n off => match h[id]? with
    | some (some (.arr _ s cells _)) => if cells.length = n * s then some (cells.drop off) else none
    | _ => none
  | .tp cells => some cells
  | _ => none

theorem behind_ok {X : Cx} {a : AV} {x : Value} {cells : List AV} (hX : Ok X) (hb : behind X.h a = some cells) (hr : Rep X a x) (h0 : 0 < cells.length) :
    ∃ (b off : Nat) (cvs : List Value), x = .pointer (some ⟨b, off, none⟩) ∧ cvs.length = cells.length ∧ (∀ (i : Nat) (y : Value), cvs[i]? = some y → cellAt X.w b (off + i) = some y) ∧
      ∀ (i : Nat) (a : AV) (y : Value), cells[i]? = some a → cvs[i]? = some y → Rep X a y := by
  cases a with
  | ptr id off =>
    simp only [behind] at hb
    split at hb
    · next cs hh =>
      injection hb with hb; subst hb
      obtain ⟨b, cvs, T, h1, h2, h3, h4, h5⟩ := hX.blk id cs hh
      cases hr with
      | ptr hid k =>
      obtain ⟨b', e1, e2⟩ := k cs hh
      rw [h1] at e1; injection e1 with e1; subst e1
      refine ⟨b, off, cvs.toList.drop off, e2, by simp [h3], fun i y hy => ?_, fun i a y h6 h7 => ?_⟩
      · rw [cellAt_blk h2]; simpa using hy
      · rw [List.getElem?_drop] at h6 h7
        exact h5 _ a y h6 (by simpa using h7)
    · cases hb
  | ap id n off =>
    simp only [behind] at hb
    split at hb
    · next T s cs fz hh =>
      split at hb
      · next hl =>
        injection hb with hb; subst hb
        cases hr with
        | ap hid k =>
        obtain ⟨_, k⟩ := k T s cs fz hh
        obtain ⟨b', e1, e2⟩ := k hl
        obtain ⟨g1, g2, n', g3, g4⟩ := hX.arr id T s cs fz hh
        rcases g4 with g4 | ⟨b, cvs, g4⟩
        · rw [g4.1] at e1; cases e1
        · rw [g4.at_] at e1; injection e1 with e1; subst e1
          have hle : cs.length ≤ cvs.size := by rw [g4.sz, g3]; exact Nat.mul_le_mul_right _ g4.cap
          refine ⟨b, off, (cvs.toList.take cs.length).drop off, e2, by simp; omega, fun i y hy => ?_, fun i a y h6 h7 => ?_⟩
          · rw [List.getElem?_drop, List.getElem?_take] at hy
            split at hy
            · rw [cellAt_blk g4.blk]; simpa using hy
            · cases hy
          · rw [List.getElem?_drop] at h6 h7
            rw [List.getElem?_take] at h7
            split at h7
            · exact g4.rep _ a y h6 (by simpa using h7)
            · cases h7
      · cases hb
    · cases hb
  | tp cs =>
    simp only [behind] at hb
    injection hb with hb; subst hb
    cases hr with
    | tp hc hp k => exact ⟨_, _, _, rfl, hc, fun i y hy => (hp i y hy).1, k⟩
  | _ => cases hb

def loadA (P : Program) (h : Hp) (T : TypeId) (a : AV) : Option AV := (behind h a).bind (takeA P T)

theorem takeA_pos {P : Program} {T : TypeId} {cells : List AV} {l : AV} (h : takeA P T cells = some l) (hs : szP P T ≠ some 0) : 0 < cells.length := by
  unfold takeA at h
  split at h
  · exact (List.getElem?_eq_some_iff.1 h).1
  · next s e1 e2 =>
    split at h
    · next hle =>
      rcases Nat.eq_zero_or_pos s with h0 | h0
      · rw [h0] at e2; exact absurd e2 hs
      · omega
    · cases h
  · cases h

theorem loadA_ok {P : Program} {X : Cx} {T : TypeId} {a l : AV} {x : Value} (hX : Ok X) (h : loadA P X.h T a = some l) (hs : szP P T ≠ some 0) (hr : Rep X a x) : ∃ v, (Instr.loadAt T x).run P X.w = .ok v X.w ∧ Rep X l v := by
  unfold loadA at h
  cases hb : behind X.h a with
  | none => rw [hb] at h; cases h
  | some cells =>
    rw [hb] at h
    obtain ⟨b, off, cvs, rfl, h1, h2, h3⟩ := behind_ok hX hb hr (takeA_pos h hs)
    exact load_cells h h1 h2 h3

/-- Does a value that names an owned thing still hold? -/
def liveA (h : Hp) : AV → Bool
  | .own id n => match h[id]? with
    | some (some (.arr _ s cells _)) => decide (cells.length = n * s)
    | _ => false
  | .ap id n _ => match h[id]? with
    | some (some (.arr _ s cells _)) => decide (cells.length = n * s)
    | _ => false
  | .ptr id _ => match h[id]? with
    | some (some (.blk _)) => true
    | _ => false
  | .mp id => match h[id]? with
    | some (some (.map _)) => true
    | _ => false
  | _ => true
theorem live_own {X : Cx} {id n : Nat} {x : Value} (h : liveA X.h (.own id n) = true) (hr : Rep X (.own id n) x) : x = sliceVal (X.m id) n := by
  simp only [liveA] at h
  split at h
  · next T s cells fz hh =>
    cases hr with
    | own hid k => exact (k _ _ _ _ hh).2 (of_decide_eq_true h)
  · cases h
theorem live_ptr {X : Cx} {id off : Nat} {x : Value} (h : liveA X.h (.ptr id off) = true) (hr : Rep X (.ptr id off) x) : ∃ b, x = .pointer (some ⟨b, off, none⟩) := by
  simp only [liveA] at h
  split at h
  · next cells hh =>
    cases hr with
    | ptr hid k => obtain ⟨b, _, e⟩ := k _ hh; exact ⟨b, e⟩
  · cases h
theorem live_ap {X : Cx} {id n off : Nat} {x : Value} (h : liveA X.h (.ap id n off) = true) (hr : Rep X (.ap id n off) x) : ∃ b, x = .pointer (some ⟨b, off, none⟩) := by
  simp only [liveA] at h
  split at h
  · next T s cells fz hh =>
    cases hr with
    | ap hid k => obtain ⟨b, _, e⟩ := (k _ _ _ _ hh).2 (of_decide_eq_true h); exact ⟨b, e⟩
  · cases h

theorem live_mp {X : Cx} {id : Nat} {x : Value} (h : liveA X.h (.mp id) = true) (hr : Rep X (.mp id) x) : ∃ b, x = .map (some b) := by
  simp only [liveA] at h
  split at h
  · next es hh =>
    cases hr with
    | mp hid k => obtain ⟨b, _, e⟩ := k _ hh; exact ⟨b, e⟩
  · cases h

/-- The cells of a value that is stored. -/
def cellsA (h : Hp) : AV → Option (List AV)
  | .g l => some l
  | .v (.agg cs) => some (cs.toList.map .v)
  | .none | .tup _ => none
  | a => if liveA h a then some [a] else none
theorem repL_one {X : Cx} {a : AV} {x : Value} (h : Rep X a x) (hx : x.cells = #[x]) : RepL X [a] x.cells.toList := by
  rw [hx]
  refine ⟨rfl, fun i a' y h1 h2 => ?_⟩
  cases i with
  | zero => simp at h1 h2; subst h1 h2; exact h
  | succ i => simp at h1
theorem cellsA_ok {X : Cx} {a : AV} {l : List AV} {x : Value} (h : cellsA X.h a = some l) (hr : Rep X a x) : RepL X l x.cells.toList := by
  have hr' := hr
  cases hr with
  | v x =>
    cases x with
    | agg cs =>
      simp only [cellsA] at h
      injection h with h; subst h
      refine ⟨by simp [Value.cells], fun i a y h1 h2 => ?_⟩
      simp only [Value.cells] at h2
      rw [List.getElem?_map, h2] at h1
      injection h1 with h1; subst h1
      exact .v y
    | _ =>
      simp only [cellsA, liveA, if_true] at h
      injection h with h; subst h
      exact repL_one hr' rfl
  | none x => cases h
  | tup hc hr => cases h
  | g hc hr =>
    simp only [cellsA] at h
    injection h with h; subst h
    exact ⟨by simp [Value.cells, hc], fun i a y h1 h2 => hr i a y h1 (by simpa [Value.cells] using h2)⟩
  | t hl hc hn hcap hp hr =>
    simp only [cellsA, liveA, if_true] at h
    injection h with h; subst h
    exact repL_one hr' rfl
  | tp hc hp hr =>
    simp only [cellsA, liveA, if_true] at h
    injection h with h; subst h
    exact repL_one hr' rfl
  | fn h1 h2 r1 r2 =>
    simp only [cellsA, liveA, if_true] at h
    injection h with h; subst h
    exact repL_one hr' rfl
  | ifc k =>
    simp only [cellsA, liveA, if_true] at h
    injection h with h; subst h
    exact repL_one hr' rfl
  | e0 b =>
    simp only [cellsA, liveA, if_true] at h
    injection h with h; subst h
    exact repL_one hr' rfl
  | @own id n x hid k =>
    simp only [cellsA] at h
    split at h
    · next hl =>
      injection h with h; subst h
      have e := live_own hl hr'
      subst e
      exact repL_one hr' rfl
    · cases h
  | @ptr id off x hid k =>
    simp only [cellsA] at h
    split at h
    · next hl =>
      injection h with h; subst h
      obtain ⟨b, e⟩ := live_ptr hl hr'
      subst e
      exact repL_one hr' rfl
    · cases h
  | @ap id n off x hid k =>
    simp only [cellsA] at h
    split at h
    · next hl =>
      injection h with h; subst h
      obtain ⟨b, e⟩ := live_ap hl hr'
      subst e
      exact repL_one hr' rfl
    · cases h
  | @mp id x hid k =>
    simp only [cellsA] at h
    split at h
    · next hl =>
      injection h with h; subst h
      obtain ⟨b, e⟩ := live_mp hl hr'
      subst e
      exact repL_one hr' rfl
    · cases h
  | tm hb hm hl hk k =>
    simp only [cellsA, liveA, if_true] at h
    injection h with h; subst h
    exact repL_one hr' rfl
end Go.Proofs.YtljfgdlgmdcmfaaGreat.Wv
