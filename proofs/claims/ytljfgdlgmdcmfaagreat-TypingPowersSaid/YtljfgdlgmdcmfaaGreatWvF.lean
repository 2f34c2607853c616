/- The machine of abstract values: new blocks, structs, slices of slices, numbers. -/
import Derived.Test.YtljfgdlgmdcmfaaGreatWvE
import Derived.Lib.OwnBridge
namespace Go.Proofs.YtljfgdlgmdcmfaaGreat.Wv
open Go.RowKit
set_option linter.unusedVariables false
set_option autoImplicit false

def vcells (z : Value) : List AV := z.cells.toList.map .v
theorem vcells_rep {X : Cx} (z : Value) : ∀ (i : Nat) (a : AV) (x : Value), (vcells z)[i]? = some a → z.cells[i]? = some x → Rep X a x := by
  intro i a x h1 h2
  unfold vcells at h1
  rw [List.getElem?_map, Array.getElem?_toList, h2] at h1
  injection h1 with h1; subst h1
  exact .v x

theorem zeroP_i {P : Program} {T : TypeId} {z : Value} (h : zeroP P T = some z) : ∃ i, P.info? T = some i ∧ i.zero = some z := by
  unfold zeroP at h
  cases hi : P.info? T with
  | none => rw [hi] at h; cases h
  | some i => rw [hi] at h; exact ⟨i, rfl, h⟩

/-- A new variable. -/
theorem push_ptr {X : Cx} (o : Obj) (cap : Nat) (cells : List AV) : Rep (X.push o cap (.blk cells)) (.ptr X.h.length 0) (.pointer (some ⟨X.w.heap.size, 0, none⟩)) := by
  refine .ptr (by simp [Cx.push]) fun c hc => ⟨X.w.heap.size, by rw [push_at], rfl⟩
theorem push_own {X : Cx} (o : Obj) (cap n : Nat) (T : TypeId) (s fz : Nat) (cells : List AV) (hl : cells.length = n * s) : Rep (X.push o cap (.arr T s cells fz)) (.own X.h.length n) (.slice (some ⟨X.w.heap.size, 0, none⟩) n cap) := by
  refine .own (by simp [Cx.push]) fun T2 s2 c2 f2 hc => ?_
  rw [push_new] at hc
  injection hc with hc; injection hc with hc
  injection hc with e1 e2 e3 e4; subst e1 e2 e3 e4
  exact ⟨by omega, fun _ => by rw [push_at]; rfl⟩

theorem alloc_ok {P : Program} {X : Cx} {T : TypeId} {z : Value} (hX : Ok X) (h : zeroP P T = some z) :
    ∃ v Y, (Instr.alloc T true (.tuple #[])).run P X.w = .ok v Y.w ∧ Step X Y ∧ Ok Y ∧ Rep Y (.ptr X.h.length 0) v ∧ Y.h = X.h ++ [some (.blk (vcells z))] := by
  obtain ⟨i, hi, hz⟩ := zeroP_i h
  refine ⟨.pointer (some ⟨X.w.heap.size, 0, none⟩), X.push (.cells z.cells T) 0 (.blk (vcells z)), ?_, Step.push hX _ _ _, Ok.push hX (.inl ⟨_, rfl, by simp [vcells], vcells_rep z⟩), push_ptr _ _ _, rfl⟩
  simp [Instr.alloc, zeroValue, typeInfo, hi, hz, newVar, newRow, Cx.push]

theorem box_ok {P : Program} {X : Cx} {T : TypeId} {a : AV} {l : List AV} {v : Value} (hX : Ok X) (h : cellsA X.h a = some l) (hr : Rep X a v) :
    ∃ u Y, (Instr.box T v).run P X.w = .ok u Y.w ∧ Step X Y ∧ Ok Y ∧ Rep Y (.ptr X.h.length 0) u ∧ Y.h = X.h ++ [some (.blk l)] := by
  have hR := cellsA_ok h hr
  refine ⟨.pointer (some ⟨X.w.heap.size, 0, none⟩), X.push (.cells v.cells T) 0 (.blk l), ?_, Step.push hX _ _ _, Ok.push hX (.inl ⟨_, rfl, by have := hR.1; simpa using this, fun i a x h1 h2 => hR.2 i a x h1 (by simpa using h2)⟩), push_ptr _ _ _, rfl⟩
  simp [Instr.box, newVar, newRow, Cx.push]

/-- Parts put into a row of cells. -/
def fillA (h : Hp) (place : Nat → Option (Nat × Nat)) : List AV → List (Nat × AV) → Option (List AV)
  | cells, [] => some cells
  | cells, (i, a) :: r => match place i, cellsA h a with
    | some (o, n), some l => if l.length = n ∧ o + n ≤ cells.length then fillA h place (setLA cells o l) r else none
    | _, _ => none

theorem setLA_len : ∀ (l cells : List AV) (o : Nat), (setLA cells o l).length = cells.length
  | [], _, _ => rfl
  | a :: r, cells, o => by rw [setLA, setLA_len r]; simp
theorem setLA_rep {X : Cx} : ∀ (xs : List Value) (l cells : List AV) (o : Nat) (c : Array Value), RepL X l xs → (∀ (i : Nat) (a : AV) (x : Value), cells[i]? = some a → c[i]? = some x → Rep X a x) →
    ∀ (i : Nat) (a : AV) (x : Value), (setLA cells o l)[i]? = some a → (splice c o xs)[i]? = some x → Rep X a x
  | [], [], _, _, _, _, h => h
  | x :: xs, [], _, _, _, hr, _ => by have := hr.1; simp at this
  | [], a :: l, _, _, _, hr, _ => by have := hr.1; simp at this
  | x :: xs, a :: l, cells, o, c, hr, h => by
    refine setLA_rep xs l _ (o + 1) _ ⟨by have := hr.1; simp at this; omega, fun i a' y h1 h2 => hr.2 (i + 1) a' y (by simpa using h1) (by simpa using h2)⟩ (fun i a' y h1 h2 => ?_)
    rcases getSet h1 with ⟨e1, e2⟩ | ⟨e1, e2⟩
    · rcases getSetA h2 with ⟨e3, e4⟩ | ⟨e3, e4⟩
      · rw [e2, e4]; exact hr.2 0 a x rfl rfl
      · exact absurd e1 e3
    · rcases getSetA h2 with ⟨e3, e4⟩ | ⟨e3, e4⟩
      · exact absurd e3 e1
      · exact h i a' y e2 e4
theorem fold_splice : ∀ (xs : List Value) (k o : Nat) (c : Array Value), (xs.zipIdx k).foldl (fun cs (p : Value × Nat) => cs.setIfInBounds (o + p.2) p.1) c = splice c (o + k) xs
  | [], _, _, _ => rfl
  | x :: xs, k, o, c => by
    rw [List.zipIdx_cons, List.foldl_cons, splice, fold_splice xs (k + 1) o]
    rfl

theorem fillA_ok {X : Cx} {place : Nat → Option (Nat × Nat)} : ∀ (parts : List (Nat × AV)) (vs : List (Nat × Value)) (cells : List AV) (c : Array Value) (l : List AV), fillA X.h place cells parts = some l → c.size = cells.length →
    vs.length = parts.length → (∀ (i : Nat) (p : Nat × AV) (q : Nat × Value), parts[i]? = some p → vs[i]? = some q → p.1 = q.1 ∧ Rep X p.2 q.2) → (∀ (i : Nat) (a : AV) (x : Value), cells[i]? = some a → c[i]? = some x → Rep X a x) →
    ∃ c' : Array Value, Instr.fill place c vs = some c' ∧ c'.size = l.length ∧ ∀ (i : Nat) (a : AV) (x : Value), l[i]? = some a → c'[i]? = some x → Rep X a x
  | [], [], cells, c, l, h, hs, _, _, hc => by
    simp only [fillA] at h
    injection h with h; subst h
    exact ⟨c, rfl, hs, hc⟩
  | [], q :: vs, _, _, _, _, _, hl, _, _ => by simp at hl
  | p :: parts, [], _, _, _, _, _, hl, _, _ => by simp at hl
  | (j, a) :: parts, (j', v) :: vs, cells, c, l, h, hs, hl, hp, hc => by
    obtain ⟨e, hr⟩ := hp 0 (j, a) (j', v) rfl rfl
    simp only at e; subst e
    simp only [fillA] at h
    split at h
    · next o n la e1 e2 =>
      split at h
      · next hcond =>
        have hR := cellsA_ok e2 hr
        have hvl : v.cells.size = n := by have := hR.1; simp at this; omega
        have hsz : (splice c o v.cells.toList).size = (setLA cells o la).length := by rw [splice_size, setLA_len, hs]
        obtain ⟨c', h1, h2, h3⟩ := fillA_ok parts vs (setLA cells o la) (splice c o v.cells.toList) l h hsz (by simpa using hl)
          (fun i p q h1 h2 => hp (i + 1) p q (by simpa using h1) (by simpa using h2)) (setLA_rep v.cells.toList la cells o c hR hc)
        refine ⟨c', ?_, h2, h3⟩
        simp only [Instr.fill, e1]
        rw [if_neg (by simp [hvl]; omega)]
        have hz : (v.cells.zipIdx.foldl (fun cs (p : Value × Nat) => cs.setIfInBounds (o + p.2) p.1) c) = splice c o v.cells.toList := by
          rw [← Array.foldl_toList, Array.toList_zipIdx, fold_splice, Nat.add_zero]
        rw [hz]; exact h1
      · cases h
    · cases h

theorem mapM_run {P : Program} {α β : Type} (f : α → Sem β) (g : α → β) (w : World) : ∀ (l : List α), (∀ a ∈ l, (f a).run P w = .ok (g a) w) → (l.mapM f).run P w = .ok (l.map g) w
  | [], _ => by simp [Sem.run_pure]
  | a :: l, h => by
    rw [List.mapM_cons]
    have h1 := h a (List.mem_cons_self ..)
    have h2 := mapM_run f g w l (fun b hb => h b (List.mem_cons_of_mem _ hb))
    simp [Sem.run_bind, h1, h2, Result.andThen]

/-- Where the fields of a struct lie. -/
def placesP (P : Program) (T : TypeId) : Option (Nat → Option (Nat × Nat)) :=
  match P.underlying T with
  | some (.struct fs) => if fs.toList.all (fun f => (P.info? f.type).isSome) then some (fun i => (fs[i]?).map fun f => (f.offset, ((P.info? f.type).map (·.size)).getD 0)) else none
  | some (.array n e) => (szP P e).map fun s => fun i => ((List.range n).map fun i => (i * s, s))[i]?
  | _ => none

def buildA (P : Program) (h : Hp) (T : TypeId) (parts : List (Nat × AV)) : Option (List AV) :=
  match zeroP P T, placesP P T with
  | some z, some pl => fillA h pl (vcells z) parts
  | _, _ => none

theorem fill_mono {pl pl' : Nat → Option (Nat × Nat)} (hp : ∀ i x, pl i = some x → pl' i = some x) : ∀ (vs : List (Nat × Value)) (c l : Array Value), Instr.fill pl c vs = some l → Instr.fill pl' c vs = some l
  | [], c, l, q => q
  | (i, a) :: r, c, l, q => by
    simp only [Instr.fill] at q ⊢
    cases e : pl i with
    | none => rw [e] at q; cases q
    | some x =>
      rw [e] at q; rw [hp i x e]
      revert q
      simp only
      split
      · exact id
      · exact fill_mono hp r _ l
theorem buildA_ok {P : Program} {X : Cx} {T : TypeId} {parts : List (Nat × AV)} {vs : Array (Nat × Value)} {l : List AV} (h : buildA P X.h T parts = some l) (hl : vs.size = parts.length)
    (hp : ∀ (i : Nat) (p : Nat × AV) (q : Nat × Value), parts[i]? = some p → vs.toList[i]? = some q → p.1 = q.1 ∧ Rep X p.2 q.2) : ∃ v, (Instr.build T vs).run P X.w = .ok v X.w ∧ Rep X (.g l) v := by
  unfold buildA at h
  split at h
  · next z pl hz hpl =>
    obtain ⟨i, hi, hzi⟩ := zeroP_i hz
    obtain ⟨c', h1, h2, h3⟩ := fillA_ok parts vs.toList (vcells z) z.cells l h (by simp [vcells]) (by simpa using hl) hp (vcells_rep z)
    refine ⟨.agg c', ?_, ?_⟩
    · unfold placesP at hpl
      split at hpl
      · next fs hu =>
        split at hpl
        · next hall =>
          injection hpl with hpl; subst hpl
          have hm : (fs.mapM fun f => (do pure (f.offset, ← sizeOf f.type) : Sem (Nat × Nat))).run P X.w = .ok (fs.map fun f => (f.offset, ((P.info? f.type).map (·.size)).getD 0)) X.w := by
            rw [Array.mapM_eq_mapM_toList]
            have := mapM_run (P := P) (fun f : Field => (do pure (f.offset, ← sizeOf f.type) : Sem (Nat × Nat))) (fun f => (f.offset, ((P.info? f.type).map (·.size)).getD 0)) X.w fs.toList (fun f hf => by
              obtain ⟨fi, hfi⟩ := Option.isSome_iff_exists.1 (List.all_eq_true.1 hall f hf)
              simp [sizeOf, typeInfo, hfi])
            rw [map_eq_pure_bind]
            simp only [Sem.run_bind, this, Result.andThen_ok, Sem.run_pure]
            congr 1
            apply Array.ext'
            simp
          simp only [Instr.build, zeroValue, typeInfo, Sem.run_bind, run_underlying hu, Result.andThen_ok]
          simp only [program, Sem.run, hi, Sem.run_pure, Result.andThen_ok, hzi, hm]
          have e : (fun (x : Nat) => (fs.map fun (f : Field) => (f.offset, ((P.info? f.type).map (·.size)).getD 0))[x]?) = fun (i : Nat) => (fs[i]?).map fun (f : Field) => (f.offset, ((P.info? f.type).map (·.size)).getD 0) := by
            funext x; simp
          rw [e, h1]
          rfl
        · cases hpl
      · next n e hu =>
        cases hs : szP P e with
        | none => rw [hs] at hpl; cases hpl
        | some s =>
          rw [hs] at hpl
          injection hpl with hpl; subst hpl
          obtain ⟨ei, hei, hsi⟩ := szP_i hs
          have h4 := fill_mono (pl' := fun i => some (i * s, s)) (fun i x q => by
            simp only [List.getElem?_map] at q
            by_cases hin : i < n
            · rw [List.getElem?_range hin] at q; exact q
            · rw [List.getElem?_eq_none (by simp; omega)] at q; cases q) _ _ _ h1
          simp only [Instr.build, zeroValue, typeInfo, Sem.run_bind, run_underlying hu, Result.andThen_ok, Sem.run_pure, sizeOf]
          simp only [program, Sem.run, hi, hei, hsi, Sem.run_pure, Result.andThen_ok, hzi]
          rw [h4]
          rfl
      · cases hpl
    · have := Rep.g (X := X) (cells := l) (cvs := c'.toList) (by simpa using h2) (fun i a x q1 q2 => h3 i a x q1 (by simpa using q2))
      simpa using this
  · cases h
end Go.Proofs.YtljfgdlgmdcmfaaGreat.Wv
