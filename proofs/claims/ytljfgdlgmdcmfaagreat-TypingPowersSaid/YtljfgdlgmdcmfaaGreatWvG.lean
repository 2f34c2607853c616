/- The machine of abstract values: rows, slices, lengths, numbers, conversions. -/
import Derived.Test.YtljfgdlgmdcmfaaGreatWvF
namespace Go.Proofs.YtljfgdlgmdcmfaaGreat.Wv
open Go.RowKit
set_option linter.unusedVariables false
set_option autoImplicit false

def bytP (P : Program) (T : TypeId) : Option Nat := (P.info? T).map (·.bytes)
/-- The elements of a literal, one behind the other. -/
def rowA (h : Hp) (s : Nat) : Nat → List (Nat × AV) → Option (List AV)
  | _, [] => some []
  | k, (j, a) :: r => match cellsA h a, rowA h s (k + 1) r with
    | some l, some L => if j = k ∧ l.length = s then some (l ++ L) else none
    | _, _ => none

theorem fill_row {X : Cx} {s : Nat} : ∀ (parts : List (Nat × AV)) (vs : List (Nat × Value)) (k : Nat) (c : Array Value) (L : List AV), rowA X.h s k parts = some L → vs.length = parts.length →
    (∀ (i : Nat) (p : Nat × AV) (q : Nat × Value), parts[i]? = some p → vs[i]? = some q → p.1 = q.1 ∧ Rep X p.2 q.2) → c.size = (k + parts.length) * s →
    ∃ c' : Array Value, Instr.fill (fun i => some (i * s, s)) c vs = some c' ∧ c'.size = c.size ∧ (∀ idx, idx < k * s → c'[idx]? = c[idx]?) ∧ (∀ (i : Nat) (a : AV) (x : Value), L[i]? = some a → c'[k * s + i]? = some x → Rep X a x) ∧ L.length = parts.length * s
  | [], [], k, c, L, h, _, _, _ => by
    simp only [rowA] at h
    injection h with h; subst h
    exact ⟨c, rfl, rfl, fun _ _ => rfl, fun i a x h1 => by simp at h1, by simp⟩
  | [], q :: vs, _, _, _, _, hl, _, _ => by simp at hl
  | p :: parts, [], _, _, _, _, hl, _, _ => by simp at hl
  | (j, a) :: parts, (j', v) :: vs, k, c, L, h, hl, hp, hc => by
    obtain ⟨e, hr⟩ := hp 0 (j, a) (j', v) rfl rfl
    simp only at e; subst e
    simp only [rowA] at h
    split at h
    · next l L' e1 e2 =>
      split at h
      · next hcond =>
        obtain ⟨rfl, hls⟩ := hcond
        injection h with h; subst h
        have hR := cellsA_ok e1 hr
        have hvl : v.cells.size = s := by have := hR.1; simp at this; omega
        have hks : j * s + s ≤ c.size := by
          rw [hc, List.length_cons, show j + (parts.length + 1) = (j + 1) + parts.length by omega, Nat.add_mul, Nat.succ_mul]; omega
        have hsp : ∀ idx, (splice c (j * s) v.cells.toList)[idx]? = if j * s ≤ idx ∧ idx < j * s + s then v.cells.toList[idx - j * s]? else c[idx]? := fun idx => by
          rw [splice_get _ _ _ _ (by rw [Array.length_toList, hvl]; exact hks), Array.length_toList, hvl]
        obtain ⟨c', h1, h2, h3, h4, h5⟩ := fill_row parts vs (j + 1) (splice c (j * s) v.cells.toList) L' e2 (by simpa using hl) (fun i p q h1 h2 => hp (i + 1) p q (by simpa using h1) (by simpa using h2))
          (by rw [splice_size, hc, List.length_cons]; congr 1; omega)
        have hj1 : (j + 1) * s = j * s + s := Nat.succ_mul j s
        refine ⟨c', ?_, by rw [h2, splice_size], fun idx hi => ?_, fun i b x q1 q2 => ?_, by rw [List.length_append, h5, hls, List.length_cons, Nat.succ_mul]; omega⟩
        · simp only [Instr.fill]
          rw [if_neg (by simp [hvl]; omega)]
          have hz : (v.cells.zipIdx.foldl (fun cs (p : Value × Nat) => cs.setIfInBounds (j * s + p.2) p.1) c) = splice c (j * s) v.cells.toList := by
            rw [← Array.foldl_toList, Array.toList_zipIdx, fold_splice, Nat.add_zero]
          rw [hz]; exact h1
        · rw [h3 idx (by omega), hsp, if_neg (by omega)]
        · by_cases hi : i < s
          · rw [List.getElem?_append_left (by omega)] at q1
            rw [h3 _ (by omega), hsp, if_pos (by omega), show j * s + i - j * s = i by omega] at q2
            exact hR.2 i b x q1 q2
          · rw [List.getElem?_append_right (by omega)] at q1
            refine h4 (i - s) b x (by rw [← hls]; exact q1) ?_
            rw [hj1, show j * s + s + (i - s) = j * s + i by omega]; exact q2
      · cases h
    · cases h

theorem buildSlice_run {P : Program} {w : World} {T e : TypeId} {s len : Nat} {z : Value} {vs : Array (Nat × Value)} {c' : Array Value} (he : elemP P T = some e) (hs : szP P e = some s) (hz : zeroP P e = some z) (h24 : len * s ≤ 16777216)
    (hf : ∀ c : Array Value, c.size = len * s → ∃ c', Instr.fill (fun i => some (i * s, s)) c vs.toList = some c') :
    ∃ c' c : Array Value, c.size = len * s ∧ Instr.fill (fun i => some (i * s, s)) c vs.toList = some c' ∧ (Instr.buildSlice T len vs).run P w = .ok (.slice (some ⟨w.heap.size, 0, none⟩) len len) (w.alloc (.cells c' e)) := by
  obtain ⟨i, hi, hsi⟩ := szP_i hs
  obtain ⟨i2, hi2, hz2⟩ := zeroP_i hz
  have hii : i2 = i := by rw [hi] at hi2; injection hi2 with e; exact e.symm
  subst hii
  have hu := elemP_u he
  have hn : ¬ (len * s > 2 ^ 24) := by simp; omega
  have hn2 : ¬ (16777216 < len * s) := by omega
  by_cases h0 : len * s = 0
  · obtain ⟨c', hc'⟩ := hf ((Array.range (len * s)).map (#[][· % 0]!)) (by simp)
    refine ⟨c', _, by simp, hc', ?_⟩
    simp only [h0] at hc'
    rw [Array.range_zero', Array.map_empty] at hc'
    simp [Instr.buildSlice, run_underlying hu, sizeOf, typeInfo, hi, hsi, h0, newRow, hc', Array.range_zero']
  · obtain ⟨c', hc'⟩ := hf ((Array.range (len * s)).map (z.cells[· % z.cells.size]!)) (by simp)
    refine ⟨c', _, by simp, hc', ?_⟩
    simp [Instr.buildSlice, run_underlying hu, sizeOf, typeInfo, hi, hsi, h0, newRow, hc', hn2, zeroValue, hz2]

/-- A literal of a slice. -/
def litA (P : Program) (h : Hp) (T : TypeId) (len : Nat) (parts : List (Nat × AV)) : Option (TypeId × Nat × List AV) :=
  (elemP P T).bind fun e => (szP P e).bind fun s => (zeroP P e).bind fun _ => (rowA h s 0 parts).bind fun L =>
    if parts.length = len ∧ 0 < s ∧ len * s ≤ 16777216 then some (e, s, L) else none

theorem litA_parts {P : Program} {h : Hp} {T e : TypeId} {len s : Nat} {parts : List (Nat × AV)} {L : List AV} (hh : litA P h T len parts = some (e, s, L)) :
    elemP P T = some e ∧ szP P e = some s ∧ (∃ z, zeroP P e = some z) ∧ rowA h s 0 parts = some L ∧ parts.length = len ∧ 0 < s ∧ len * s ≤ 16777216 := by
  unfold litA at hh
  cases h1 : elemP P T with
  | none => rw [h1] at hh; cases hh
  | some e' =>
    rw [h1] at hh
    simp only [Option.bind_some] at hh
    cases h2 : szP P e' with
    | none => rw [h2] at hh; cases hh
    | some s' =>
      rw [h2] at hh
      simp only [Option.bind_some] at hh
      cases h3 : zeroP P e' with
      | none => rw [h3] at hh; cases hh
      | some z =>
        rw [h3] at hh
        simp only [Option.bind_some] at hh
        cases h4 : rowA h s' 0 parts with
        | none => rw [h4] at hh; cases hh
        | some L' =>
          rw [h4] at hh
          simp only [Option.bind_some] at hh
          split at hh
          · next hc =>
            injection hh with hh; injection hh with e1 e2; injection e2 with e2 e3
            subst e1 e2 e3
            exact ⟨rfl, h2, ⟨z, h3⟩, h4, hc⟩
          · cases hh

theorem lit_ok {P : Program} {X : Cx} {T e : TypeId} {len s : Nat} {parts : List (Nat × AV)} {L : List AV} {vs : Array (Nat × Value)} (hX : Ok X) (hh : litA P X.h T len parts = some (e, s, L)) (hl : vs.size = parts.length)
    (hp : ∀ (i : Nat) (p : Nat × AV) (q : Nat × Value), parts[i]? = some p → vs.toList[i]? = some q → p.1 = q.1 ∧ Rep X p.2 q.2) (hmax : len ≤ maxLen) :
    ∃ v Y, (Instr.buildSlice T len vs).run P X.w = .ok v Y.w ∧ Step X Y ∧ Ok Y ∧ Rep Y (.own X.h.length len) v ∧ Y.h = X.h ++ [some (.arr e s L 0)] := by
  obtain ⟨h1, h2, ⟨z, h3⟩, h4, h5, h6, h7⟩ := litA_parts hh
  have hf := fun (c : Array Value) (hc : c.size = len * s) => fill_row parts vs.toList 0 c L h4 (by simpa using hl) hp (by rw [hc, h5, Nat.zero_add])
  obtain ⟨c', c, hc, hfc, hrun⟩ := buildSlice_run (P := P) (w := X.w) (c' := #[]) h1 h2 h3 h7 (fun c hc => by obtain ⟨c', q, _⟩ := hf c hc; exact ⟨c', q⟩)
  obtain ⟨c2, q1, q2, q3, q4, q5⟩ := hf c hc
  rw [hfc] at q1
  injection q1 with q1; subst q1
  have hrep : ∀ (i : Nat) (a : AV) (x : Value), L[i]? = some a → c'[i]? = some x → Rep X a x := fun i a x r1 r2 => q4 i a x r1 (by simpa using r2)
  refine ⟨_, X.push (.cells c' e) len (.arr e s L 0), hrun, Step.push hX _ _ _, Ok.push hX (.inr ⟨s, L, len, rfl, h6, by rw [q5, h5], Nat.le_refl _, hmax, by rw [q2, hc], hrep⟩), push_own _ _ _ _ _ _ _ (by rw [q5, h5]), rfl⟩

/-- The elements of a slice that is made. -/
def zrowA (z : Value) (k : Nat) : List AV := if z.cells.size = 1 then List.replicate k (.v z.cells[0]!) else (List.range k).map fun i => .v (z.cells[i % z.cells.size]!)
theorem zrowA_len (z : Value) (k : Nat) : (zrowA z k).length = k := by unfold zrowA; split <;> simp
theorem zrowA_rep {X : Cx} (z : Value) (k m : Nat) : ∀ (i : Nat) (a : AV) (x : Value), (zrowA z k)[i]? = some a → (madeCells z.cells m)[i]? = some x → Rep X a x := by
  intro i a x h1 h2
  have hx : x = z.cells[i % z.cells.size]! := by
    unfold madeCells at h2
    rw [Array.getElem?_map] at h2
    cases hr : (Array.range m)[i]? with
    | none => rw [hr] at h2; cases h2
    | some j =>
      rw [hr] at h2
      have hj : j = i := by
        have := Array.getElem?_eq_some_iff.1 hr
        obtain ⟨q, e⟩ := this
        simpa using e.symm
      subst hj
      injection h2 with h2; exact h2.symm
  unfold zrowA at h1
  split at h1
  · next hs =>
    rw [List.getElem?_replicate] at h1
    split at h1
    · injection h1 with h1; subst h1
      rw [hx, hs, Nat.mod_one]
      exact .v _
    · cases h1
  · rw [List.getElem?_map] at h1
    cases hr : (List.range k)[i]? with
    | none => rw [hr] at h1; cases h1
    | some j =>
      rw [hr] at h1
      have hj : j = i := by
        have := List.getElem?_eq_some_iff.1 hr
        obtain ⟨q, e⟩ := this
        simpa using e.symm
      subst hj
      injection h1 with h1; subst h1
      rw [hx]; exact .v _

/-- make: how many elements, and of which kind. -/
def makeA (P : Program) (T : TypeId) (zl zc : Int) : Option (TypeId × Nat × List AV) :=
  (elemP P T).bind fun e => (szP P e).bind fun s => (zeroP P e).bind fun z => (bytP P e).bind fun by_ =>
    if 0 < s ∧ 0 ≤ zl ∧ zl ≤ zc ∧ zc ≤ 9223372036854775807 ∧ (by_ : Int) * zc ≤ 140737488355328 then some (e, s, zrowA z (zl.toNat * s)) else none

theorem make_ok {P : Program} {X : Cx} {T e : TypeId} {s : Nat} {zl zc : Int} {L : List AV} {kl kc : IntKind} (hX : Ok X) (hh : makeA P T zl zc = some (e, s, L)) :
    ∃ v Y, (Instr.makeSlice T (.int kl zl) (.int kc zc)).run P X.w = .ok v Y.w ∧ Step X Y ∧ Ok Y ∧ Rep Y (.own X.h.length zl.toNat) v ∧ Y.h = X.h ++ [some (.arr e s L 0)] := by
  unfold makeA at hh
  cases h1 : elemP P T with
  | none => rw [h1] at hh; cases hh
  | some e' =>
    rw [h1] at hh
    simp only [Option.bind_some] at hh
    cases h2 : szP P e' with
    | none => rw [h2] at hh; cases hh
    | some s' =>
      rw [h2] at hh
      simp only [Option.bind_some] at hh
      cases h3 : zeroP P e' with
      | none => rw [h3] at hh; cases hh
      | some z =>
        rw [h3] at hh
        simp only [Option.bind_some] at hh
        cases h4 : bytP P e' with
        | none => rw [h4] at hh; cases hh
        | some by_ =>
          rw [h4] at hh
          simp only [Option.bind_some] at hh
          split at hh
          · next hc =>
            obtain ⟨c0, c1, c2, c3, c4⟩ := hc
            injection hh with hh; injection hh with e1 e2; injection e2 with e2 e3
            subst e1 e2 e3
            obtain ⟨i, hi, hsi⟩ := szP_i h2
            obtain ⟨i2, hi2, hz⟩ := zeroP_i h3
            have hii : i2 = i := by rw [hi] at hi2; injection hi2 with e; exact e.symm
            subst hii
            have hb : i2.bytes = by_ := by
              unfold bytP at h4; rw [hi] at h4; injection h4
            have hr := run_make (P := P) X.w T e' i2 z (elemP_u h1) hi hz kl kc zl zc c1 c2 (by rw [hb]; omega) c3
            rw [hsi] at hr
            refine ⟨_, X.push (.cells (madeCells z.cells (zc.toNat * s')) e') zc.toNat (.arr e' s' (zrowA z (zl.toNat * s')) 0), hr, Step.push hX _ _ _,
              Ok.push hX (.inr ⟨s', _, zl.toNat, rfl, c0, zrowA_len _ _, by omega, by unfold maxLen; omega, size_madeCells _ _, zrowA_rep _ _ _⟩), push_own _ _ _ _ _ _ _ (zrowA_len _ _), rfl⟩
          · cases hh
end Go.Proofs.YtljfgdlgmdcmfaaGreat.Wv
