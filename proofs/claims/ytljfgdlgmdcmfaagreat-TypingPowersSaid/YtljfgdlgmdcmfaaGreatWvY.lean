/- The machine of abstract values: maps that a call owns; interface values; a function against none. -/
import Derived.Test.YtljfgdlgmdcmfaaGreatWvI
import Derived.MapKept
namespace Go.Proofs.YtljfgdlgmdcmfaaGreat.Wv
open Go.RowKit
set_option linter.unusedVariables false
set_option autoImplicit false

def mapP (P : Program) (T : TypeId) : Option (TypeId × TypeId) := (P.underlying T).bind fun | .map k e => some (k, e) | _ => none
theorem mapP_u {P : Program} {T K E : TypeId} (h : mapP P T = some (K, E)) : P.underlying T = some (.map K E) := by
  unfold mapP at h
  cases hu : P.underlying T with
  | none => rw [hu] at h; cases h
  | some d => rw [hu] at h; cases d <;> simp_all
/-- Keys that can be told apart at once. -/
inductive KK where
  | int (q : IntKind)
  | str
deriving DecidableEq
def kkP (P : Program) (K : TypeId) : Option KK := match P.underlying K with
  | some (.int q) => some (.int q)
  | some .string => some .str
  | _ => none
def keyK : KK → Value → Bool
  | .int q, .int q' _ => decide (q' = q)
  | .str, .string _ => true
  | _, _ => false
def keyE : Value → Value → Bool
  | .int _ a, .int _ b => decide (a = b)
  | .string a, .string b => decide (a = b)
  | _, _ => false
def lookM (k : Value) : List (Value × AV) → Option AV
  | [] => none
  | p :: r => if keyE k p.1 = true then some p.2 else lookM k r
def putM (k : Value) (a : AV) : List (Value × AV) → List (Value × AV)
  | [] => [(k, a)]
  | p :: r => if keyE k p.1 = true then (k, a) :: r else p :: putM k a r
def keysB (q : KK) (es : List (Value × AV)) : Bool := es.all fun p => keyK q p.1

theorem ba_eq (a b : ByteArray) : (a == b) = decide (a = b) := by
  by_cases h : a = b
  · subst h; simp
    cases a
    rename_i d
    show (d == d) = true
    simp
  · rw [decide_eq_false h]
    cases a; cases b
    rename_i d e
    show (d == e) = false
    rw [beq_eq_false_iff_ne]
    intro he; apply h; rw [he]
theorem getm_run {P : Program} {w : World} {r : Nat} {es : Array MapEntry} {clock : Nat} (hb : w.heap[r]? = some (.map es clock)) : (getObj r).run P w = .ok (.map es clock) w := by
  simp [getObj, Sem.run, hb]
theorem setm_run {P : Program} {w : World} {r : Nat} {es : Array MapEntry} {clock : Nat} (hb : w.heap[r]? = some (.map es clock)) (o : Obj) : (setObj r o).run P w = .ok () { w with heap := w.heap.setIfInBounds r o } := by
  simp [setObj, Sem.run, hb]
theorem keyE_eq {q : KK} {k k' : Value} (h : keyK q k = true) (h' : keyK q k' = true) (he : keyE k k' = true) : k = k' := by
  cases q <;> cases k <;> simp [keyK] at h <;> cases k' <;> simp [keyK] at h' <;> simp [keyE] at he <;> simp_all
theorem sameNow_key {P : Program} {K : TypeId} {d : TypeDesc} {q : KK} {k k' : Value} (hu : P.underlying K = some d) (hk : kkP P K = some q) (h : keyK q k = true) (h' : keyK q k' = true) : Instr.sameNow d k k' = some (keyE k k') := by
  unfold kkP at hk
  rw [hu] at hk
  cases d <;> simp at hk <;> subst hk
  · cases k <;> simp [keyK] at h
    cases k' <;> simp [keyK] at h'
    simp [Instr.sameNow, keyE, h, h', Bool.beq_eq_decide_eq]
  · cases k <;> simp [keyK] at h
    cases k' <;> simp [keyK] at h'
    simp only [Instr.sameNow, keyE, ba_eq]
theorem keyE_refl {q : KK} {k : Value} (h : keyK q k = true) : keyE k k = true := by
  cases q <;> cases k <;> simp [keyK] at h <;> simp [keyE]
theorem checkKey_at {P : Program} {K : TypeId} {k : Value} {b : Bool} {w : World} (h : ∀ n, (Instr.checkKey b (n + 1) K k).run P w = .ok () w) : (Instr.checkKey b 10000 K k).run P w = .ok () w := h 9999
theorem checkKey_run {P : Program} {K : TypeId} {q : KK} {k : Value} (b : Bool) (hk : kkP P K = some q) (h : keyK q k = true) (w : World) : (Instr.checkKey b 10000 K k).run P w = .ok () w := by
  refine checkKey_at fun n => ?_
  unfold kkP at hk
  split at hk
  · next q' hu =>
    injection hk with hk; subst hk
    cases k <;> simp [keyK] at h
    simp [Instr.checkKey, run_underlying hu]
  · next hu =>
    injection hk with hk; subst hk
    cases k <;> simp [keyK] at h
    simp [Instr.checkKey, run_underlying hu]
  · cases hk

/-- Where an entry stands. -/
def placeM (k : Value) : List (Value × AV) → Nat → Option Nat
  | [], _ => none
  | p :: r, i => if keyE k p.1 = true then some i else placeM k r (i + 1)
theorem findNow_run {P : Program} {K : TypeId} {d : TypeDesc} {q : KK} {k : Value} (hu : P.underlying K = some d) (hk : kkP P K = some q) (h : keyK q k = true) : ∀ (es : List (Value × AV)) (L : List MapEntry) (i : Nat), keysB q es = true → L.map (·.key) = es.map (·.1) →
    Instr.findNow d k L i = some ((placeM k es i).bind fun j => (L[j - i]?).map fun e => (j, e.val))
  | [], [], i, _, _ => rfl
  | [], _ :: _, _, _, h2 => by simp at h2
  | _ :: _, [], _, _, h2 => by simp at h2
  | p :: es, e :: L, i, hb, h2 => by
    simp only [List.map_cons, List.cons.injEq] at h2
    simp only [keysB, List.all_cons, Bool.and_eq_true] at hb
    have hs := sameNow_key hu hk h (k' := e.key) (by rw [h2.1]; exact hb.1)
    rw [Instr.findNow, hs, h2.1]
    by_cases hq : keyE k p.1 = true
    · simp [hq, placeM]
    · have hq' : keyE k p.1 = false := by simpa using hq
      simp only [hq', placeM, Bool.false_eq_true, if_false]
      rw [findNow_run hu hk h es L (i + 1) hb.2 h2.2]
      congr 1
      have hge : ∀ (es : List (Value × AV)) (i j : Nat), placeM k es i = some j → i ≤ j := by
        intro es
        induction es with
        | nil => intro i j hj; cases hj
        | cons p r ih =>
          intro i j hj
          unfold placeM at hj
          split at hj
          · injection hj with hj; omega
          · have := ih _ _ hj; omega
      cases hp : placeM k es (i + 1) with
      | none => rfl
      | some j =>
        have := hge _ _ _ hp
        simp only [Option.bind_some]
        rw [show j - i = (j - (i + 1)) + 1 by omega, List.getElem?_cons_succ]
theorem place_look (k : Value) : ∀ (es : List (Value × AV)) (i : Nat), (placeM k es i = none ∧ lookM k es = none) ∨ ∃ j p, placeM k es i = some (i + j) ∧ es[j]? = some p ∧ keyE k p.1 = true ∧ lookM k es = some p.2
  | [], i => .inl ⟨rfl, rfl⟩
  | p :: r, i => by
    by_cases h : keyE k p.1 = true
    · exact .inr ⟨0, p, by simp [placeM, h], rfl, h, by simp [lookM, h]⟩
    · rcases place_look k r (i + 1) with ⟨h1, h2⟩ | ⟨j, p', h1, h2, h3, h4⟩
      · exact .inl ⟨by simp [placeM, h, h1], by simp [lookM, h, h2]⟩
      · exact .inr ⟨j + 1, p', by simp [placeM, h, h1]; omega, by simpa using h2, h3, by simp [lookM, h, h4]⟩
theorem ent_keys {X : Cx} {es : List (Value × AV)} {ents : Array MapEntry} (h : EntOk X es ents) : ents.toList.map (·.key) = es.map (·.1) := by
  apply List.ext_getElem?
  intro i
  rw [List.getElem?_map, List.getElem?_map]
  rcases Nat.lt_or_ge i es.length with hi | hi
  · have h1 : ents.toList[i]? = some (ents[i]'(by rw [h.1]; exact hi)) := by simp [h.1, hi]
    have h2 : es[i]? = some es[i] := List.getElem?_eq_getElem hi
    rw [h1, h2]
    have := (h.2 i _ (ents[i]'(by rw [h.1]; exact hi)) h2 (by simp)).1
    simp [this]
  · rw [List.getElem?_eq_none hi, List.getElem?_eq_none (by simp [h.1]; exact hi)]
    rfl
theorem findKey_run {P : Program} {X : Cx} {K : TypeId} {q : KK} {k : Value} {es : List (Value × AV)} {ents : Array MapEntry} (hk : kkP P K = some q) (h : keyK q k = true) (hb : keysB q es = true) (hE : EntOk X es ents) (w : World) :
    (lookM k es = none ∧ placeM k es 0 = none ∧ (Instr.findKey K k ents.toList).run P w = .ok none w) ∨
    ∃ j a e p, lookM k es = some a ∧ placeM k es 0 = some j ∧ ents[j]? = some e ∧ es[j]? = some p ∧ e.key = k ∧ p.2 = a ∧ Rep X a e.val ∧ (Instr.findKey K k ents.toList).run P w = .ok (some (j, e.val)) w := by
  obtain ⟨d, hu⟩ : ∃ d, P.underlying K = some d := by
    unfold kkP at hk
    cases hu : P.underlying K with
    | none => rw [hu] at hk; cases hk
    | some d => exact ⟨d, rfl⟩
  have hf := findNow_run hu hk h es ents.toList 0 hb (ent_keys hE)
  rcases place_look k es 0 with ⟨h1, h2⟩ | ⟨j, p, h1, h2, h3, h4⟩
  · left
    refine ⟨h2, h1, ?_⟩
    rw [h1] at hf
    simp [Instr.findKey, run_underlying hu, hf]
  · right
    have hj : j < ents.size := by rw [hE.1]; exact (List.getElem?_eq_some_iff.1 h2).1
    obtain ⟨q1, q2⟩ := hE.2 j p ents[j] h2 (by simp [hj])
    refine ⟨j, p.2, ents[j], p, h4, by rw [h1, Nat.zero_add], by simp [hj], h2, ?_, rfl, q2, ?_⟩
    · rw [q1]; exact (keyE_eq h (List.all_eq_true.1 hb p (List.mem_of_getElem? h2)) h3).symm
    · rw [h1, Nat.zero_add] at hf
      simp [hj] at hf
      simp [Instr.findKey, run_underlying hu, hf]

/-- What a lookup says. -/
def lkRes (ok : Bool) (z : Value) : Option AV → AV
  | some a => if ok = true then .tup [a, .v (.bool true)] else a
  | none => if ok = true then .tup [.v z, .v (.bool false)] else .v z
def lookupA (P : Program) (h : Hp) (T : TypeId) (x k : AV) (ok : Bool) : Option AV :=
  (mapP P T).bind fun KE => (kkP P KE.1).bind fun q => (zeroP P KE.2).bind fun z => match k with
    | .v kv => if keyK q kv = true then match x with
      | .mp id => match h[id]? with
        | some (some (.map es)) => if keysB q es = true then some (lkRes ok z (lookM kv es)) else none
        | _ => none
      | .tm es => if keysB q es = true then some (lkRes ok z (lookM kv es)) else none
      | .v (.map none) => some (lkRes ok z none)
      | _ => none
      else none
    | _ => none
theorem tup2_rep {X : Cx} {a b : AV} {x y : Value} (h1 : Rep X a x) (h2 : Rep X b y) : Rep X (.tup [a, b]) (.tuple #[x, y]) := by
  refine Rep.tup (cvs := [x, y]) rfl fun i a' x' q1 q2 => ?_
  match i with
  | 0 => simp at q1 q2; subst q1 q2; exact h1
  | 1 => simp at q1 q2; subst q1 q2; exact h2
  | n + 2 => simp at q1
theorem look_run {P : Program} {X : Cx} {T K E : TypeId} {q : KK} {z : Value} {zi : TypeInfo} {u : Value} {ok : Bool} {es : List (Value × AV)} {b clock : Nat} {ents : Array MapEntry} (hu : P.underlying T = some (.map K E)) (hq : kkP P K = some q) (hi : P.info? E = some zi) (hzi : zi.zero = some z) (hkk : keyK q u = true) (hkb : keysB q es = true) (h2 : X.w.heap[b]? = some (.map ents clock)) (h3 : EntOk X es ents) :
    ∃ y, (Instr.lookup T (.map (some b)) u ok).run P X.w = .ok y X.w ∧ Rep X (lkRes ok z (lookM u es)) y := by
  have hck := fun bb => checkKey_run (P := P) (b := bb) hq hkk X.w
  rcases findKey_run hq hkk hkb h3 X.w with ⟨q1, _, q3⟩ | ⟨j, a, e, p, q1, _, q3, q4, q5, q6, q7, q8⟩
  · refine ⟨if ok then .tuple #[z, .bool false] else z, ?_, ?_⟩
    · simp [Instr.lookup, run_underlying hu, getm_run h2, hck, q3, zeroValue, typeInfo, hi, hzi]
    · rw [q1]
      cases ok
      · exact .v z
      · exact tup2_rep (.v z) (.v _)
  · refine ⟨if ok then .tuple #[e.val, .bool true] else e.val, ?_, ?_⟩
    · simp [Instr.lookup, run_underlying hu, getm_run h2, hck, q8]
    · rw [q1]
      cases ok
      · exact q7
      · exact tup2_rep q7 (.v _)
theorem lookupA_ok {P : Program} {X : Cx} {T : TypeId} {x k r : AV} {ok : Bool} {v u : Value} (hX : Ok X) (h : lookupA P X.h T x k ok = some r) (hr : Rep X x v) (hk : Rep X k u) : ∃ y, (Instr.lookup T v u ok).run P X.w = .ok y X.w ∧ Rep X r y := by
  unfold lookupA at h
  cases hm : mapP P T with
  | none => rw [hm] at h; cases h
  | some KE =>
  obtain ⟨K, E⟩ := KE
  have hu := mapP_u hm
  rw [hm] at h
  simp only [Option.bind_some] at h
  cases hq : kkP P K with
  | none => rw [hq] at h; cases h
  | some q =>
  rw [hq] at h
  simp only [Option.bind_some] at h
  cases hz : zeroP P E with
  | none => rw [hz] at h; cases h
  | some z =>
  rw [hz] at h
  simp only [Option.bind_some] at h
  obtain ⟨zi, hi, hzi⟩ := zeroP_i hz
  split at h
  · next kv =>
    cases hk
    split at h
    · next hkk =>
      split at h
      · next id =>
        split at h
        · next es hh =>
          split at h
          · next hkb =>
            injection h with h; subst h
            obtain ⟨b, ents, clock, h1, h2, h3⟩ := hX.map id es hh
            cases hr with
            | mp hid kk =>
            obtain ⟨b', e1, e2⟩ := kk es hh
            rw [h1] at e1; injection e1 with e1; subst e1
            subst e2
            exact look_run hu hq hi hzi hkk hkb h2 h3
          · cases h
        · cases h
      · next es =>
        split at h
        · next hkb =>
          injection h with h; subst h
          cases hr with
          | tm hb hm hl hk hr => exact look_run hu hq hi hzi hkk hkb hb ⟨hl, fun i p e h1 h2 => ⟨hk i p e h1 h2, hr i p e h1 h2⟩⟩
        · cases h
      · injection h with h; subst h
        cases hr
        have hck := fun bb => checkKey_run (P := P) (b := bb) hq hkk X.w
        have hf : (Instr.findKey K u []).run P X.w = .ok none X.w := by
          obtain ⟨d, hd⟩ : ∃ d, P.underlying K = some d := by
            unfold kkP at hq
            cases hu : P.underlying K with
            | none => rw [hu] at hq; cases hq
            | some d => exact ⟨d, rfl⟩
          simp [Instr.findKey, run_underlying hd, Instr.findNow]
        refine ⟨if ok then .tuple #[z, .bool false] else z, ?_, ?_⟩
        · simp [Instr.lookup, run_underlying hu, hck, hf, zeroValue, typeInfo, hi, hzi]
        · cases ok
          · exact .v z
          · exact tup2_rep (.v z) (.v _)
      · cases h
    · cases h
  · cases h

/-- A map's object is written. -/
def Cx.putm (X : Cx) (id b : Nat) (o : Obj) (es : List (Value × AV)) : Cx := { X with w := { X.w with heap := X.w.heap.setIfInBounds b o }, h := X.h.set id (some (.map es)) }
theorem putm_heap (X : Cx) (id b : Nat) (o : Obj) (es : List (Value × AV)) {c : Nat} (h : c ≠ b) : (X.putm id b o es).w.heap[c]? = X.w.heap[c]? := by
  simp only [Cx.putm]; rw [Array.getElem?_setIfInBounds_ne (fun e => h e.symm)]
theorem Step.putm {X : Cx} {id b : Nat} {es es' : List (Value × AV)} {ents : Array MapEntry} {clock : Nat} (o : Obj) (h : X.h[id]? = some (some (.map es))) (hb : (X.m id).1 = some b) (h2 : X.w.heap[b]? = some (.map ents clock)) : Step X (X.putm id b o es') := by
  have hid : id < X.h.length := (List.getElem?_eq_some_iff.1 h).1
  refine ⟨rfl, rfl, rfl, by simp [Cx.putm], fun c hc hm => ?_, fun c q y hy hbad => ⟨?_, hbad⟩, by simp [Cx.putm], fun i U s c f hi hh => ?_, fun i c hi hh => ?_, fun c hc => ?_, fun _ _ h => .inl h, fun i c hi hh => ?_, rfl⟩
  · exact putm_heap _ _ _ _ _ fun e => hm ⟨id, ⟨_, h⟩, by rw [hb, e]⟩
  · have hne : c ≠ b := by
      rintro rfl
      unfold cellAt World.cell? at hy
      rw [h2] at hy; cases hy
    unfold cellAt at hy ⊢
    rw [World.cell?_of_block (w := X.w) (putm_heap X id b o es' hne)]; exact hy
  · by_cases e : i = id
    · subst e
      simp only [Cx.putm] at hh
      rw [List.getElem?_set_self hid] at hh
      injection hh with hh; cases hh
    · simp only [Cx.putm] at hh
      rw [set_h e] at hh
      exact ⟨c, f, hh, Nat.le_refl _, fun _ => rfl⟩
  · by_cases e : i = id
    · subst e
      simp only [Cx.putm] at hh
      rw [List.getElem?_set_self hid] at hh
      injection hh with hh; cases hh
    · simp only [Cx.putm] at hh
      rw [set_h e] at hh
      exact ⟨c, hh, rfl⟩
  · obtain ⟨i, ⟨o', ho⟩, he⟩ := hc
    right
    by_cases e : i = id
    · subst e; exact ⟨i, ⟨_, h⟩, he⟩
    · simp only [Cx.putm] at ho
      rw [set_h e] at ho
      exact ⟨i, ⟨o', ho⟩, he⟩
  · by_cases e : i = id
    · subst e
      exact ⟨es, h, rfl⟩
    · simp only [Cx.putm] at hh
      rw [set_h e] at hh
      exact ⟨c, hh, rfl⟩
theorem Ok.putm {X : Cx} {id b : Nat} {es es' : List (Value × AV)} {ents ents' : Array MapEntry} {clock clock' : Nat} (hX : Ok X) (h : X.h[id]? = some (some (.map es))) (hb : (X.m id).1 = some b) (h2 : X.w.heap[b]? = some (.map ents clock)) (hE : EntOk X es' ents') :
    Ok (X.putm id b (.map ents' clock') es') := by
  have S := Step.putm (es' := es') (.map ents' clock') h hb h2
  have hid : id < X.h.length := (List.getElem?_eq_some_iff.1 h).1
  have hbl := (Array.getElem?_eq_some_iff.1 h2).1
  have hlive : ∀ i, (X.putm id b (.map ents' clock') es').live i → X.live i := by
    intro i ⟨o', ho⟩
    by_cases e : i = id
    · subst e; exact ⟨_, h⟩
    · simp only [Cx.putm] at ho
      rw [set_h e] at ho
      exact ⟨o', ho⟩
  have hfar : ∀ i c, i ≠ id → X.live i → (X.m i).1 = some c → c ≠ b := fun i c hi hl hc e => hi (hX.inj i id b hl ⟨_, h⟩ (by rw [hc, e]) hb)
  refine ⟨fun i cells hh => ?_, fun i U s cells fz hh => ?_, fun i j c hi hj => hX.inj i j c (hlive i hi) (hlive j hj), fun c o' hc => Nat.lt_of_lt_of_le (hX.badlt c o' hc) S.size, fun i q hh => ?_⟩
  · by_cases e : i = id
    · subst e
      simp only [Cx.putm] at hh
      rw [List.getElem?_set_self hid] at hh
      injection hh with hh; cases hh
    · simp only [Cx.putm] at hh
      rw [set_h e] at hh
      obtain ⟨b', cvs, T, h1, h3, h4, h5, h6⟩ := hX.blk i cells hh
      exact ⟨b', cvs, T, h1, by rw [putm_heap _ _ _ _ _ (hfar i b' e ⟨_, hh⟩ h1)]; exact h3, h4, h5, fun j a' y h7 h8 => (h6 j a' y h7 h8).mono S⟩
  · by_cases e : i = id
    · subst e
      simp only [Cx.putm] at hh
      rw [List.getElem?_set_self hid] at hh
      injection hh with hh; cases hh
    · simp only [Cx.putm] at hh
      rw [set_h e] at hh
      obtain ⟨g1, g2, n, g3, g4⟩ := hX.arr i U s cells fz hh
      refine ⟨g1, g2, n, g3, ?_⟩
      rcases g4 with g4 | ⟨b', cvs, g4⟩
      · exact .inl g4
      · exact .inr ⟨b', cvs, ⟨g4.at_, by rw [putm_heap _ _ _ _ _ (hfar i b' e ⟨_, hh⟩ g4.at_)]; exact g4.blk, g4.cap, g4.capm, g4.sz, g4.bad, fun j a' y h6 h7 => (g4.rep j a' y h6 h7).mono S, g4.good⟩⟩
  · by_cases e : i = id
    · subst e
      simp only [Cx.putm] at hh
      rw [List.getElem?_set_self hid] at hh
      injection hh with hh; injection hh with hh; injection hh with hh; subst hh
      exact ⟨b, ents', clock', hb, by simp [Cx.putm, hbl], hE.mono S⟩
    · simp only [Cx.putm] at hh
      rw [set_h e] at hh
      obtain ⟨b', en, cl, h1, h3, h4⟩ := hX.map i q hh
      exact ⟨b', en, cl, h1, by rw [putm_heap _ _ _ _ _ (hfar i b' e ⟨_, hh⟩ h1)]; exact h3, h4.mono S⟩

/-- One value of a map's entry, for certain. -/
def updateA (P : Program) (h : Hp) (T : TypeId) (x k a : AV) : Option Hp :=
  (mapP P T).bind fun KE => (kkP P KE.1).bind fun q => match k with
    | .v kv => if keyK q kv = true then match x with
      | .mp id => match h[id]? with
        | some (some (.map es)) => if keysB q es = true then some (h.set id (some (.map (putM kv a es)))) else none
        | _ => none
      | _ => none
      else none
    | _ => none
theorem putM_none (k : Value) (a : AV) : ∀ (es : List (Value × AV)) (i : Nat), placeM k es i = none → putM k a es = es ++ [(k, a)]
  | [], _, _ => rfl
  | p :: r, i, h => by
    unfold placeM at h
    split at h
    · cases h
    · next hn => simp [putM, hn, putM_none k a r (i + 1) h]
theorem putM_some (k : Value) (a : AV) : ∀ (es : List (Value × AV)) (i j : Nat), placeM k es i = some j → i ≤ j ∧ putM k a es = es.set (j - i) (k, a)
  | [], _, _, h => by cases h
  | p :: r, i, j, h => by
    unfold placeM at h
    split at h
    · next hn =>
      injection h with h; subst h
      exact ⟨Nat.le_refl _, by simp [putM, hn]⟩
    · next hn =>
      obtain ⟨h1, h2⟩ := putM_some k a r (i + 1) j h
      refine ⟨by omega, ?_⟩
      simp only [putM, hn, if_false, h2, Bool.false_eq_true]
      rw [show j - i = (j - (i + 1)) + 1 by omega, List.set_cons_succ]
theorem keyStays {P : Program} {q : KK} {k : Value} (h : keyK q k = true) (w : World) : (Instr.keyThatStays k k).run P w = .ok k w := by
  cases q <;> cases k <;> simp [keyK] at h <;> simp [Instr.keyThatStays, Instr.sameBits, ba_eq]
theorem updateA_ok {P : Program} {X : Cx} {T : TypeId} {x k a : AV} {v u y : Value} {h' : Hp} (hX : Ok X) (h : updateA P X.h T x k a = some h') (hr : Rep X x v) (hk : Rep X k u) (ha : Rep X a y) :
    ∃ Y, (Instr.mapUpdate T v u y).run P X.w = .ok () Y.w ∧ Step X Y ∧ Ok Y ∧ Y.h = h' := by
  unfold updateA at h
  cases hm : mapP P T with
  | none => rw [hm] at h; cases h
  | some KE =>
  obtain ⟨K, E⟩ := KE
  have hu := mapP_u hm
  rw [hm] at h
  simp only [Option.bind_some] at h
  cases hq : kkP P K with
  | none => rw [hq] at h; cases h
  | some q =>
  rw [hq] at h
  simp only [Option.bind_some] at h
  split at h
  · next kv =>
    cases hk
    split at h
    · next hkk =>
      split at h
      · next id =>
        split at h
        · next es hh =>
          split at h
          · next hkb =>
            injection h with h; subst h
            obtain ⟨b, ents, clock, h1, h2, h3⟩ := hX.map id es hh
            cases hr with
            | mp hid kk =>
            obtain ⟨b', e1, e2⟩ := kk es hh
            rw [h1] at e1; injection e1 with e1; subst e1
            subst e2
            have hck := fun bb => checkKey_run (P := P) (b := bb) hq hkk X.w
            have hset := fun o => setm_run (P := P) h2 o
            rcases findKey_run hq hkk hkb h3 X.w with ⟨q1, q2, q3⟩ | ⟨j, a', e, p, q1, q2, q3, q4, q5, q6, q7, q8⟩
            · refine ⟨X.putm id b (.map (ents.push { key := u, val := y, born := clock }) (clock + 1)) (putM u a es), ?_, Step.putm _ hh h1 h2, Ok.putm hX hh h1 h2 ?_, rfl⟩
              · simp [Instr.mapUpdate, run_underlying hu, getm_run h2, hck, q3, hset, Cx.putm]
              · rw [putM_none u a es 0 q2]
                refine ⟨by simp [h3.1], fun i p e g1 g2 => ?_⟩
                by_cases hi : i < es.length
                · rw [List.getElem?_append_left hi] at g1
                  rw [Array.getElem?_push_lt (by rw [h3.1]; exact hi)] at g2
                  exact h3.2 i p e g1 (by rw [Array.getElem?_eq_getElem (by rw [h3.1]; exact hi)]; exact g2)
                · have hil := (List.getElem?_eq_some_iff.1 g1).1
                  simp at hil
                  have hie : i = es.length := by omega
                  subst hie
                  rw [← h3.1, Array.getElem?_push_size] at g2
                  simp at g1 g2
                  subst g1 g2
                  exact ⟨rfl, ha⟩
            · obtain ⟨_, hps⟩ := putM_some u a es 0 j q2
              have hj := (Array.getElem?_eq_some_iff.1 q3).1
              refine ⟨X.putm id b (.map (ents.modify j fun e => { e with key := u, val := y }) clock) (putM u a es), ?_, Step.putm _ hh h1 h2, Ok.putm hX hh h1 h2 ?_, rfl⟩
              · have hks := keyStays (P := P) hkk X.w
                simp [Instr.mapUpdate, run_underlying hu, getm_run h2, hck, q8, hset, Cx.putm, q3, q5, hks]
              · rw [hps, Nat.sub_zero]
                refine ⟨by simp [h3.1], fun i p e g1 g2 => ?_⟩
                rw [List.getElem?_set] at g1
                rw [Array.getElem?_modify] at g2
                by_cases hi : j = i
                · subst hi
                  rw [if_pos rfl] at g1 g2
                  rw [q3] at g2
                  simp at g2
                  split at g1
                  · injection g1 with g1; subst g1 g2
                    exact ⟨rfl, ha⟩
                  · cases g1
                · rw [if_neg hi] at g1 g2
                  exact h3.2 i p e g1 g2
          · cases h
        · cases h
      · cases h
    · cases h
  · cases h

/-- A new map. -/
theorem mkmap_ok {P : Program} {X : Cx} (T : TypeId) (hX : Ok X) : ∃ v Y, (Instr.makeMap T none).run P X.w = .ok v Y.w ∧ Step X Y ∧ Ok Y ∧ Rep Y (.mp X.h.length) v ∧ Y.h = X.h ++ [some (.map [])] := by
  refine ⟨.map (some X.w.heap.size), X.push (.map #[] 0) 0 (.map []), by simp [Instr.makeMap, Cx.push], Step.push hX _ _ _, Ok.pushG hX (fun _ e => by cases e) (fun _ _ _ _ e => by cases e) (fun es e => by injection e with e; subst e; exact ⟨#[], 0, rfl, rfl, fun i p e h => by simp at h⟩), ?_, rfl⟩
  exact .mp (by simp [Cx.push]) fun es hes => ⟨X.w.heap.size, by rw [push_at], rfl⟩

def ifcP (P : Program) (T : TypeId) : Bool := match P.underlying T with
  | some (.interface _) => false
  | some _ => true
  | none => false
theorem ifc_run {P : Program} {T : TypeId} (h : ifcP P T = true) (x : Value) (w : World) : (Instr.makeInterface T x).run P w = .ok (.iface T x) w := by
  unfold ifcP at h
  cases hu : P.underlying T with
  | none => rw [hu] at h; cases h
  | some d => rw [hu] at h; cases d <;> simp at h <;> simp [Instr.makeInterface, run_underlying hu]

end Go.Proofs.YtljfgdlgmdcmfaaGreat.Wv
