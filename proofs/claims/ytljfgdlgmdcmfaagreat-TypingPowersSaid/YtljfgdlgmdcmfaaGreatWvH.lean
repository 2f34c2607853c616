/- The machine of abstract values: slices of slices, lengths, numbers, parts. -/
import Derived.Test.YtljfgdlgmdcmfaaGreatWvG
namespace Go.Proofs.YtljfgdlgmdcmfaaGreat.Wv
open Go.RowKit
set_option linter.unusedVariables false
set_option autoImplicit false

def boundA (o : Option AV) (d : Nat) : Option Nat := match o with
  | .none => some d
  | some (.v (.int _ z)) => if 0 ≤ z then some z.toNat else .none
  | _ => .none

def RepO (X : Cx) (a : Option AV) (v : Option Value) : Prop := match a, v with
  | .none, .none => True
  | some a, some v => Rep X a v
  | _, _ => False

theorem bounds_ok {P : Program} {X : Cx} {lo hi : Option AV} {vlo vhi : Option Value} {isS : Bool} {len cap a b : Nat} (hl : RepO X lo vlo) (hh : RepO X hi vhi) (h1 : boundA lo 0 = some a) (h2 : boundA hi len = some b) (hab : a ≤ b) (hb : b ≤ len) (hc : len ≤ cap) :
    (Instr.sliceBounds isS len cap vlo vhi none).run P X.w = .ok (a, b, cap) X.w := by
  have hhi : vhi = none ∧ b = len ∨ ∃ k z, vhi = some (.int k z) ∧ 0 ≤ z ∧ z.toNat = b := by
    cases hi with
    | none =>
      cases vhi with
      | none => simp only [boundA] at h2; injection h2 with h2; exact .inl ⟨rfl, h2.symm⟩
      | some v => exact hh.elim
    | some x =>
      cases vhi with
      | none => exact hh.elim
      | some v =>
        have hh' : Rep X x v := hh
        cases x with
        | v y =>
          cases y with
          | int k z =>
            simp only [boundA] at h2
            split at h2
            · next h0 => injection h2 with h2; cases hh'; exact .inr ⟨k, z, rfl, h0, h2⟩
            · cases h2
          | _ => simp [boundA] at h2
        | _ => simp [boundA] at h2
  have hlo : vlo = none ∧ a = 0 ∨ ∃ k z, vlo = some (.int k z) ∧ 0 ≤ z ∧ z.toNat = a := by
    cases lo with
    | none =>
      cases vlo with
      | none => simp only [boundA] at h1; injection h1 with h1; exact .inl ⟨rfl, h1.symm⟩
      | some v => exact hl.elim
    | some x =>
      cases vlo with
      | none => exact hl.elim
      | some v =>
        have hl' : Rep X x v := hl
        cases x with
        | v y =>
          cases y with
          | int k z =>
            simp only [boundA] at h1
            split at h1
            · next h0 => injection h1 with h1; cases hl'; exact .inr ⟨k, z, rfl, h0, h1⟩
            · cases h1
          | _ => simp [boundA] at h1
        | _ => simp [boundA] at h1
  rcases hhi with ⟨rfl, rfl⟩ | ⟨k, z, rfl, hz0, rfl⟩
  · rcases hlo with ⟨rfl, rfl⟩ | ⟨k, z, rfl, hz0, rfl⟩
    · simp [Instr.sliceBounds]
    · simp [Instr.sliceBounds, run_sliceBound (P := P) X.w k z b _ hz0 (by omega)]
  · rcases hlo with ⟨rfl, rfl⟩ | ⟨k2, z2, rfl, hz2, rfl⟩
    · cases isS <;> simp [Instr.sliceBounds, run_sliceBound (P := P) X.w k z cap _ hz0 (by omega)]
    · cases isS <;> simp [Instr.sliceBounds, run_sliceBound (P := P) X.w k z cap _ hz0 (by omega), run_sliceBound (P := P) X.w k2 z2 z.toNat _ hz2 (by omega)]

theorem sliceAt_slice {P : Program} {T e : TypeId} (hu : P.underlying T = some (.slice e)) (x : Value) (lo hi mx : Option Value) (w : World) : (Instr.sliceAt T x lo hi mx).run P w = (Instr.slice T x lo hi mx).run P w := by
  simp [Instr.sliceAt, run_underlying hu]
theorem sliceAt_str {P : Program} {T : TypeId} (hu : P.underlying T = some .string) (x : Value) (lo hi mx : Option Value) (w : World) : (Instr.sliceAt T x lo hi mx).run P w = (Instr.slice T x lo hi mx).run P w := by
  simp [Instr.sliceAt, run_underlying hu]

theorem slice_t {P : Program} {X : Cx} {T e : TypeId} {n s a b : Nat} {cells : List AV} {v : Value} {lo hi : Option AV} {vlo vhi : Option Value} (hr : Rep X (.t n s cells) v) (he : elemP P T = some e) (hs : szP P e = some s)
    (hl : RepO X lo vlo) (hh : RepO X hi vhi) (h1 : boundA lo 0 = some a) (h2 : boundA hi n = some b) (hab : a ≤ b) (hb : b ≤ n) :
    ∃ u, (Instr.sliceAt T v vlo vhi none).run P X.w = .ok u X.w ∧ Rep X (.t (b - a) s ((cells.take (b * s)).drop (a * s))) u := by
  obtain ⟨i, hi, hsi⟩ := szP_i hs
  cases hr with
  | @t _ _ _ p cap cvs hlen hc hn hcap hp hrr =>
  have hbd := bounds_ok (P := P) (isS := true) hl hh h1 h2 hab hb hn
  have hbs : b * s ≤ n * s := Nat.mul_le_mul_right _ hb
  have has : a * s ≤ b * s := Nat.mul_le_mul_right _ hab
  refine ⟨.slice (if cap = a then p else p.map (·.add (a * s))) (b - a) (cap - a), ?_, .t (cvs := (cvs.take (b * s)).drop (a * s)) ?_ ?_ (by omega) (by omega) (fun h0 => ?_) (fun j c x q1 q2 => ?_)⟩
  · rw [sliceAt_slice (elemP_u he)]
    simp [Instr.slice, run_underlying (elemP_u he), hbd, sizeOf, typeInfo, hi, hsi]
  · rw [List.length_drop, List.length_take, hlen, Nat.min_eq_left hbs, Nat.sub_mul]
  · simp [hc]
  · obtain ⟨bb, off, e1, hq⟩ := hp (by omega)
    subst e1
    rw [if_neg (by omega)]
    refine ⟨bb, off + a * s, by simp [add_at], fun j x hx => ?_⟩
    rw [List.getElem?_drop, List.getElem?_take] at hx
    split at hx
    · rw [Nat.add_assoc]; exact hq _ x hx
    · cases hx
  · rw [List.getElem?_drop, List.getElem?_take] at q1 q2
    split at q1
    · next hlt => rw [if_pos hlt] at q2; exact hrr _ c x q1 q2
    · cases q1

def sliceP2 (h : Hp) (id : Nat) (cells : List AV) (n : Nat) : Option Nat → Option (AV × Hp)
  | some s => if cells.length = n * s ∧ n ≤ 1000000 then some (.t n s cells, h.set id none) else none
  | none => none
def sliceP1 (P : Program) (h : Hp) (id : Nat) : Option (Option Ob) → Option (Nat × TypeId) → Option (AV × Hp)
  | some (some (.blk cells)), some ne => sliceP2 h id cells ne.1 (szP P ne.2)
  | _, _ => none
def sliceA (P : Program) (h : Hp) (T : TypeId) (x : AV) (lo hi : Option AV) : Option (AV × Hp) :=
  match x with
  | .v (.string s) => if isStrP P T then
      match boundA lo 0, boundA hi s.size with
      | some a, some b => if a ≤ b ∧ b ≤ s.size then some (.v (.string (s.extract a b)), h) else none
      | _, _ => none
    else none
  | .t n s cells => match boundA lo 0, boundA hi n with
    | some a, some b => if (elemP P T).bind (szP P) = some s ∧ a ≤ b ∧ b ≤ n then some (.t (b - a) s ((cells.take (b * s)).drop (a * s)), h) else none
    | _, _ => none
  | .own id n => match h[id]? with
    | some (some (.arr T' s cells fz)) => match boundA lo 0, boundA hi n with
      | some a, some b => if (elemP P T).bind (szP P) = some s ∧ cells.length = n * s ∧ a ≤ b ∧ b ≤ n then some (.t (b - a) s ((cells.take (b * s)).drop (a * s)), h.set id (some (.arr T' s cells cells.length))) else none
      | _, _ => none
    | _ => none
  | .ptr id off => if off = 0 ∧ lo.isNone = true ∧ hi.isNone = true then sliceP1 P h id h[id]? (arrP P T) else none
  | _ => none

theorem elemSz {P : Program} {T : TypeId} {s : Nat} (h : (elemP P T).bind (szP P) = some s) : ∃ e, elemP P T = some e ∧ szP P e = some s := by
  cases he : elemP P T with
  | none => rw [he] at h; cases h
  | some e => rw [he] at h; exact ⟨e, rfl, h⟩

theorem RepO.mono {X Y : Cx} (S : Step X Y) {a : Option AV} {v : Option Value} (h : RepO X a v) : RepO Y a v := by
  cases a <;> cases v
  · trivial
  · exact h.elim
  · exact h.elim
  · exact Rep.mono S h

/-- An array is frozen, and read as a slice that nobody writes. -/
theorem own_tree {X : Cx} {id n : Nat} {T : TypeId} {s fz : Nat} {cells : List AV} {v : Value} (hX : Ok X) (h : X.h[id]? = some (some (.arr T s cells fz))) (hn : cells.length = n * s) (hr : Rep X (.own id n) v) :
    ∃ Y, Y.w = X.w ∧ Step X Y ∧ Ok Y ∧ Y.h = X.h.set id (some (.arr T s cells cells.length)) ∧ Rep Y (.t n s cells) v := by
  have S := Step.frz h
  have hid : id < X.h.length := (List.getElem?_eq_some_iff.1 h).1
  refine ⟨X.frz id T s cells, rfl, S, Ok.frz hX h, rfl, ?_⟩
  exact Rep.frozen (Ok.frz hX h) (T := T) (by simp only [Cx.frz]; rw [List.getElem?_set_self hid]) (fun b hb o ho hk => hk.2 ⟨hb, ho⟩) hn (hr.mono S)

/-- A variable's array, read as a slice that nobody writes. -/
theorem blk_tree {X : Cx} {id n s : Nat} {cells : List AV} {v : Value} (hX : Ok X) (h : X.h[id]? = some (some (.blk cells))) (hn : cells.length = n * s) (hm : n ≤ 1000000) (hr : Rep X (.ptr id 0) v) :
    ∃ Y b, Y.w = X.w ∧ Step X Y ∧ Ok Y ∧ Y.h = X.h.set id none ∧ v = .pointer (some ⟨b, 0, none⟩) ∧ Rep Y (.t n s cells) (.slice (some ⟨b, 0, none⟩) n n) := by
  have hid : id < X.h.length := (List.getElem?_eq_some_iff.1 h).1
  obtain ⟨b, cvs, T, h1, h2, h3, h4, h5⟩ := hX.blk id cells h
  have hY : ∃ Y : Cx, Y.w = X.w ∧ Y.m = X.m ∧ Y.h = X.h.set id none ∧ Y.ds = X.ds ∧ (Y.bad = fun c o => X.bad c o ∧ c ≠ b) := ⟨⟨X.w, X.m, X.h.set id none, fun c o => X.bad c o ∧ c ≠ b, X.ds⟩, rfl, rfl, rfl, rfl, rfl⟩
  obtain ⟨Y, y1, y2, y3, y5, y4⟩ := hY
  have get : ∀ i o, Y.h[i]? = some (some o) → i ≠ id ∧ X.h[i]? = some (some o) := by
    intro i o ho
    by_cases e : i = id
    · subst e
      rw [y3, List.getElem?_set_self hid] at ho
      injection ho with ho; cases ho
    · rw [y3, set_h e] at ho
      exact ⟨e, ho⟩
  have S : Step X Y := by
    refine ⟨by rw [y1], by rw [y1], by rw [y1], by rw [y1]; exact Nat.le_refl _, fun _ _ _ => by rw [y1], fun c o x k1 k2 => by rw [y1, y4]; exact ⟨k1, fun q => k2 q.1⟩, by rw [y3]; simp, fun i T s c f _ hi => ⟨c, f, (get i _ hi).2, Nat.le_refl _, fun _ => by rw [y2]⟩, fun i c _ hi => ⟨c, (get i _ hi).2, by rw [y2]⟩, fun c hc => ?_, fun c o hc => ?_, fun i c _ hi => ⟨c, (get i _ hi).2, by rw [y2]⟩, y5⟩
    · obtain ⟨i, ⟨o, ho⟩, he⟩ := hc
      rw [y2] at he
      exact .inr ⟨i, ⟨o, (get i o ho).2⟩, he⟩
    · rw [y4]
      by_cases e : c = b
      · exact .inr ⟨id, ⟨_, h⟩, by rw [h1, e]⟩
      · exact .inl ⟨hc, e⟩
  have far : ∀ i o c, Y.h[i]? = some (some o) → (X.m i).1 = some c → c ≠ b := fun i o c ho hc e => (get i o ho).1 (hX.inj i id c ⟨o, (get i o ho).2⟩ ⟨_, h⟩ hc (by rw [h1, e]))
  refine ⟨Y, b, y1, S, ⟨fun i c hi => ?_, fun i T s c fz hi => ?_, fun i j c hi hj => ?_, fun c o hc => by rw [y4] at hc; rw [y1]; exact hX.badlt c o hc.1, fun i q hi => ?_⟩, y3, ?_, ?_⟩
  · obtain ⟨g, cv, T', k1, k2, k3, k4, k5⟩ := hX.blk i c (get i _ hi).2
    exact ⟨g, cv, T', by rw [y2]; exact k1, by rw [y1]; exact k2, k3, fun o => by rw [y4]; exact ⟨k4 o, far i _ g hi k1⟩, fun j a x q1 q2 => (k5 j a x q1 q2).mono S⟩
  · obtain ⟨g1, g2, n, g3, g4⟩ := hX.arr i T s c fz (get i _ hi).2
    refine ⟨g1, g2, n, g3, ?_⟩
    rcases g4 with g4 | ⟨g, cv, g4⟩
    · exact .inl (by rw [y2]; exact g4)
    · exact .inr ⟨g, cv, ⟨by rw [y2]; exact g4.at_, by rw [y1]; exact g4.blk, by rw [y2]; exact g4.cap, by rw [y2]; exact g4.capm, by rw [y2]; exact g4.sz, fun o ho => by rw [y4]; exact ⟨g4.bad o ho, far i _ g hi g4.at_⟩, fun j a x q1 q2 => (g4.rep j a x q1 q2).mono S, fun o ho => by rw [y4]; exact fun q => g4.good o ho q.1⟩⟩
  · obtain ⟨o, ho⟩ := hi
    obtain ⟨o', ho'⟩ := hj
    rw [y2]
    exact hX.inj i j c ⟨o, (get i o ho).2⟩ ⟨o', (get j o' ho').2⟩
  · obtain ⟨g, en, cl, k1, k2, k3⟩ := hX.map i q (get i _ hi).2
    exact ⟨g, en, cl, by rw [y2]; exact k1, by rw [y1]; exact k2, k3.mono S⟩
  · cases hr with
    | ptr hid' kk =>
    obtain ⟨b', e1, e2⟩ := kk cells h
    rw [h1] at e1; injection e1 with e1; subst e1
    exact e2
  · refine .t (cvs := cvs.toList) hn (by simpa using h3) (Nat.le_refl _) (by unfold maxLen; omega) (fun _ => ⟨b, 0, rfl, fun i x hx => ?_⟩) (fun i a x q1 q2 => (h5 i a x q1 (by simpa using q2)).mono S)
    rw [y1, y4, Nat.zero_add, cellAt_blk h2]
    exact ⟨by simpa using hx, fun q => q.2 rfl⟩
theorem sliceA_ok {P : Program} {X : Cx} {T : TypeId} {x r : AV} {lo hi : Option AV} {vlo vhi : Option Value} {v : Value} {h' : Hp} (hX : Ok X) (h : sliceA P X.h T x lo hi = some (r, h')) (hr : Rep X x v) (hl : RepO X lo vlo) (hh : RepO X hi vhi) :
    ∃ u Y, (Instr.sliceAt T v vlo vhi none).run P X.w = .ok u Y.w ∧ Step X Y ∧ Ok Y ∧ Rep Y r u ∧ Y.h = h' := by
  unfold sliceA at h
  cases x with
  | v y =>
    cases y with
    | string s =>
      simp only at h
      split at h
      · next hs =>
        split at h
        · next a b h1 h2 =>
          split at h
          · next hc =>
            injection h with h; injection h with e1 e2; subst e1 e2
            cases hr
            have hu : P.underlying T = some .string := by
              unfold isStrP at hs
              split at hs
              · assumption
              · cases hs
            have hbd := bounds_ok (P := P) (isS := false) (len := s.size) (cap := s.size) hl hh h1 h2 hc.1 hc.2 (Nat.le_refl _)
            refine ⟨.string (s.extract a b), X, ?_, Step.refl X, hX, .v _, rfl⟩
            rw [sliceAt_str hu]
            simp [Instr.slice, run_underlying hu, hbd]
          · cases h
        · cases h
      · cases h
    | _ => cases h
  | t n s cells =>
    simp only at h
    split at h
    · next a b h1 h2 =>
      split at h
      · next hc =>
        injection h with h; injection h with e1 e2; subst e1 e2
        obtain ⟨e, he, hs⟩ := elemSz hc.1
        obtain ⟨u, q1, q2⟩ := slice_t hr he hs hl hh h1 h2 hc.2.1 hc.2.2
        exact ⟨u, X, q1, Step.refl X, hX, q2, rfl⟩
      · cases h
    · cases h
  | own id n =>
    simp only at h
    split at h
    · next T' s cells fz hid =>
      split at h
      · next a b h1 h2 =>
        split at h
        · next hc =>
          injection h with h; injection h with e1 e2; subst e1 e2
          obtain ⟨e, he, hs⟩ := elemSz hc.1
          obtain ⟨Y, y1, y2, y3, y4, y5⟩ := own_tree hX hid hc.2.1 hr
          obtain ⟨u, q1, q2⟩ := slice_t (P := P) y5 he hs (hl.mono y2) (hh.mono y2) h1 h2 hc.2.2.1 hc.2.2.2
          exact ⟨u, Y, by rw [y1] at q1 ⊢; exact q1, y2, y3, q2, y4⟩
        · cases h
      · cases h
    · cases h
  | ptr id off =>
    simp only at h
    split at h
    · next hc =>
      obtain ⟨rfl, hl0, hh0⟩ := hc
      unfold sliceP1 at h
      split at h
      · next cells ne hid ha =>
        obtain ⟨n, e⟩ := ne
        have hu := arrP_u ha
        unfold sliceP2 at h
        split at h
        · next s hs =>
          obtain ⟨i, hii, hsi⟩ := szP_i hs
          split at h
          · next hcond =>
            injection h with h; injection h with e1 e2; subst e1 e2
            obtain ⟨Y, b, y1, y2, y3, y4, rfl, y5⟩ := blk_tree hX hid hcond.1 hcond.2 hr
            cases lo with
            | some _ => cases hl0
            | none =>
            cases hi with
            | some _ => cases hh0
            | none =>
            cases vlo with
            | some _ => exact hl.elim
            | none =>
            cases vhi with
            | some _ => exact hh.elim
            | none =>
            refine ⟨_, Y, ?_, y2, y3, y5, y4⟩
            rw [y1]
            simp [Instr.sliceAt, run_underlying hu, Instr.sureAddr, Instr.sliceBounds, sizeOf, typeInfo, hii, add_at]
          · cases h
        · cases h
      · cases h
    · cases h
  | _ => cases h

def lenA (P : Program) (h : Hp) (T : TypeId) (x : AV) : Option Nat :=
  match arrP P T with
  | some (n, _) => some n
  | none => match x with
    | .v (.string s) => if isStrP P T then some s.size else none
    | .t n _ _ => (elemP P T).map fun _ => n
    | .own id n => if liveA h (.own id n) then (elemP P T).map fun _ => n else none
    | .v (.slice _ n _) => (elemP P T).map fun _ => n
    | _ => none
theorem lenA_ok {P : Program} {X : Cx} {T ty : TypeId} {x : AV} {n : Nat} {v : Value} {ts : Array TypeId} (h : lenA P X.h T x = some n) (hr : Rep X x v) (ht : ts[0]? = some T) : (Builtin.len_ ts ty #[v]).run P X.w = .ok (.int .i64 n) X.w := by
  unfold lenA at h
  split at h
  · next m e ha =>
    injection h with h; subst h
    simp [Builtin.len_, ht, run_underlying (arrP_u ha), goInt]
  · next ha =>
    split at h
    · next s =>
      split at h
      · next hs =>
        injection h with h; subst h
        have hu : P.underlying T = some .string := by
          unfold isStrP at hs
          split at hs
          · assumption
          · cases hs
        cases hr
        simp [Builtin.len_, ht, run_underlying hu, goInt]
      · cases h
    · cases he : elemP P T with
      | none => rw [he] at h; cases h
      | some e =>
        rw [he] at h; injection h with h; subst h
        cases hr
        simp [Builtin.len_, ht, run_underlying (elemP_u he), goInt]
    · split at h
      · next hl =>
        cases he : elemP P T with
        | none => rw [he] at h; cases h
        | some e =>
          rw [he] at h; injection h with h; subst h
          rw [live_own hl hr]
          simp [sliceVal, Builtin.len_, ht, run_underlying (elemP_u he), goInt]
      · cases h
    · cases he : elemP P T with
      | none => rw [he] at h; cases h
      | some e =>
        rw [he] at h; injection h with h; subst h
        cases hr
        simp [Builtin.len_, ht, run_underlying (elemP_u he), goInt]
    · cases h

/-- Numbers, strings. -/
def binV (op : BinOp) : Value → Value → Option Value
  | .int k a, .int k' b => match op with
    | .shl => if 0 ≤ b then some (.int k (k.wrap (a * 2 ^ (min b.toNat k.bits)))) else none
    | .shr => if 0 ≤ b then some (.int k (a.fdiv (2 ^ (min b.toNat k.bits)))) else none
    | .add => if k = k' then some (.int k (k.wrap (a + b))) else none
    | .sub => if k = k' then some (.int k (k.wrap (a - b))) else none
    | .mul => if k = k' then some (.int k (k.wrap (a * b))) else none
    | .quo => if k = k' ∧ b ≠ 0 then some (.int k (k.wrap (a.tdiv b))) else none
    | .rem => if k = k' ∧ b ≠ 0 then some (.int k (a.tmod b)) else none
    | .and => if k = k' then some (.int k (k.wrap (BitVec.ofInt k.bits a &&& BitVec.ofInt k.bits b).toNat)) else none
    | .or => if k = k' then some (.int k (k.wrap (BitVec.ofInt k.bits a ||| BitVec.ofInt k.bits b).toNat)) else none
    | .xor => if k = k' then some (.int k (k.wrap (BitVec.ofInt k.bits a ^^^ BitVec.ofInt k.bits b).toNat)) else none
    | .andNot => if k = k' then some (.int k (k.wrap (BitVec.ofInt k.bits a &&& ~~~(BitVec.ofInt k.bits b)).toNat)) else none
    | .eql => if k = k' then some (.bool (decide (a = b))) else none
    | .neq => if k = k' then some (.bool (!decide (a = b))) else none
    | .lss => if k = k' then some (.bool (decide (a < b))) else none
    | .leq => if k = k' then some (.bool (decide (a ≤ b))) else none
    | .gtr => if k = k' then some (.bool (decide (b < a))) else none
    | .geq => if k = k' then some (.bool (decide (b ≤ a))) else none
  | .string a, .string b => match op with
    | .add => if a.size + b.size ≤ 9223372036854775807 then some (.string (a ++ b)) else none
    | .eql => some (.bool (decide (a = b)))
    | .neq => some (.bool (!decide (a = b)))
    | _ => none
  | _, _ => none

theorem str_eq (a b : ByteArray) : (a.toList == b.toList) = decide (a = b) := by
  rw [ByteArray.toList_eq, ByteArray.toList_eq]
  by_cases h : a = b
  · subst h; simp
  · rw [decide_eq_false h, beq_eq_false_iff_ne]
    intro e; apply h
    cases a; cases b
    congr
    exact Array.ext' e
theorem int_beq (a b : Int) : (a == b) = decide (a = b) := by by_cases h : a = b <;> simp [h]
theorem i64_max : IntKind.i64.max = 9223372036854775807 := by decide
theorem binV_ok {P : Program} {op : BinOp} {T : TypeId} {x y : Operand} {a b r : Value} (h : binV op a b = some r) (w : World) : (do eqGuard op T x y a b; binOp op T a b : Sem Value).run P w = .ok r w := by
  cases a with
  | int k a =>
    cases b with
    | int k' b =>
      cases op <;> simp only [binV] at h
      case shl =>
        split at h
        · next h0 => injection h with h; subst h; have : ¬ b < 0 := by omega
                     simp [eqGuard, binOp, Op.shift, this]
        · cases h
      case shr =>
        split at h
        · next h0 => injection h with h; subst h; have : ¬ b < 0 := by omega
                     simp [eqGuard, binOp, Op.shift, this]
        · cases h
      case quo =>
        split at h
        · next h0 => injection h with h; subst h; obtain ⟨rfl, h1⟩ := h0; simp [eqGuard, binOp, Op.intDiv, h1]
        · cases h
      case rem =>
        split at h
        · next h0 => injection h with h; subst h; obtain ⟨rfl, h1⟩ := h0; simp [eqGuard, binOp, Op.intDiv, h1]
        · cases h
      case eql =>
        split at h
        · next h0 => injection h with h; subst h; subst h0; simp [eqGuard, binOp, Op.intCmp, int_beq]
        · cases h
      case neq =>
        split at h
        · next h0 => injection h with h; subst h; subst h0; simp [eqGuard, binOp, Op.intCmp, bne, int_beq]
        · cases h
      all_goals
        split at h
        · next h0 =>
          injection h with h; subst h; subst h0
          first
            | (simp [eqGuard, binOp, Op.intArith]; done)
            | (simp [eqGuard, binOp, Op.intBits]; done)
            | (simp [eqGuard, binOp, Op.intCmp]; done)
        · cases h
    | _ => simp [binV] at h
  | string a =>
    cases b with
    | string b =>
      cases op <;> simp only [binV] at h
      case add =>
        split at h
        · next h0 =>
          injection h with h; subst h
          have : ¬ (9223372036854775807 < (a.size : Int) + (b.size : Int)) := by omega
          simp [eqGuard, binOp, Op.stringOp, this]
        · cases h
      case eql => injection h with h; subst h; simp [eqGuard, binOp, Op.stringOp, str_eq]
      case neq => injection h with h; subst h; simp [eqGuard, binOp, Op.stringOp, str_eq]
      all_goals cases h
    | _ => simp [binV] at h
  | _ => simp [binV] at h
end Go.Proofs.YtljfgdlgmdcmfaaGreat.Wv
