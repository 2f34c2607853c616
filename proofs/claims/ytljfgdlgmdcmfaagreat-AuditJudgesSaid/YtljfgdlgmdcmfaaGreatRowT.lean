/- What arguments read as: trees of truth values, numbers, strings, slices and structs. -/
import Derived.Test.YtljfgdlgmdcmfaaGreatWvX
import Derived.Test.YtljfgdlgmdcmfaaGreatWvZ
import Derived.Test.YtljfgdlgmdcmfaaGreatProg
import Derived.ProofKit
import Derived.Deep.Slices
import Derived.ChangeArms
import Derived.SizedLaws
namespace Go.Proofs.YtljfgdlgmdcmfaaGreat
open Go.ChangeShapes Go.WideShapes Go.ChangeAt Go.RowKit Go.Deep Wv
set_option linter.unusedVariables false

/-- A tree of a type. -/
inductive Sh (P : Program) : TypeId → List AV → Prop
  | bool {t : TypeId} (ht : P.underlying t = some .bool) (b : Bool) : Sh P t [.v (.bool b)]
  | int {t : TypeId} {k : IntKind} {z : Int} (ht : P.underlying t = some (.int k)) (hz : (Lit.int k z).wf = true) : Sh P t [.v (.int k z)]
  | str {t : TypeId} {s : ByteArray} (ht : P.underlying t = some .string) (hs : s.size ≤ reachBytes) : Sh P t [.v (.string s)]
  | slice {t e : TypeId} {n : Nat} {f : Nat → List AV} (ht : P.underlying t = some (.slice e)) (hn : n * P.bytesOf e ≤ reachBytes) (hl : ∀ i, i < n → (f i).length = P.cellsOf e) (hf : ∀ i, i < n → Sh P e (f i)) :
      Sh P t [.t n (P.cellsOf e) ((List.range n).flatMap f)]
  | struct {t : TypeId} {fs : Array Field} {l : List AV} (ht : P.underlying t = some (.struct fs)) (hl : l.length = P.cellsOf t)
      (hf : ∀ (i : Nat) (f : Field), fs[i]? = some f → Sh P f.type ((l.drop f.offset).take (P.cellsOf f.type))) : Sh P t l

/-- Fields laid one behind the other. -/
def layB (P : Program) : Nat → List Field → Option Nat
  | o, [] => some o
  | o, f :: r => if f.offset = o then layB P (o + P.cellsOf f.type) r else none
/-- Types of such trees, closed under their parts. -/
def setB (P : Program) (S : List TypeId) : Bool := S.all fun t => match P.underlying t with
  | some .bool => true
  | some (.int _) => true
  | some .string => true
  | some (.slice e) => S.contains e && decide (0 < P.cellsOf e)
  | some (.struct fs) => fs.toList.all (fun f => S.contains f.type) && (layB P 0 fs.toList == some (P.cellsOf t))
  | _ => false
theorem flat_get {α : Type} {m : Nat} {f : Nat → List α} : ∀ {n : Nat}, (∀ i, i < n → (f i).length = m) → ∀ q r, q < n → r < m → ((List.range n).flatMap f)[q * m + r]? = (f q)[r]?
  | 0, h, q, r, hq, hr => by omega
  | n + 1, h, q, r, hq, hr => by
    have hl : ∀ k, k ≤ n → ((List.range k).flatMap f).length = k * m := fun k hk => by
      induction k with
      | zero => simp
      | succ k ih => rw [List.range_succ, List.flatMap_append, List.length_append, ih (by omega)]; simp [h k (by omega), Nat.add_mul]
    rw [List.range_succ, List.flatMap_append]
    by_cases e : q = n
    · subst e
      rw [List.getElem?_append_right (by rw [hl q (Nat.le_refl _)]; omega), hl q (Nat.le_refl _), Nat.add_sub_cancel_left]
      simp
    · have : q * m + m ≤ n * m := by rw [← Nat.succ_mul]; exact Nat.mul_le_mul_right _ (by omega)
      rw [List.getElem?_append_left (by rw [hl n (Nat.le_refl _)]; omega)]
      exact flat_get (fun i hi => h i (by omega)) q r (by omega) hr
theorem flat_len {α : Type} {m : Nat} {f : Nat → List α} : ∀ {n : Nat}, (∀ i, i < n → (f i).length = m) → ((List.range n).flatMap f).length = n * m
  | 0, h => by simp
  | n + 1, h => by rw [List.range_succ, List.flatMap_append, List.length_append, flat_len (n := n) fun i hi => h i (by omega)]; simp [h n (by omega), Nat.add_mul]

section
variable {H : Type} {enc : TypeId × Value → H} {P : Program} {w : World} {base : Nat} {spare : Nat → Bool} {held : Bool}
def LightP (P : Program) (t : TypeId) (d : DataW H) : Prop := ∀ n, n ∈ d.weights P t → n ≤ reachBytes
theorem weights_allP {e : TypeId} {ds : List (DataW H)} {d : DataW H} (hd : d ∈ ds) : ∀ n, n ∈ d.weights P e → n ∈ DataW.weightsAll P e ds := by
  induction ds with
  | nil => cases hd
  | cons a r ih =>
    intro n hn
    rw [DataW.weightsAll, List.mem_append]
    rcases List.mem_cons.1 hd with rfl | h
    · exact .inl hn
    · exact .inr (ih h n hn)
theorem weights_eachP : ∀ {ts : List TypeId} {ds : List (DataW H)} {i : Nat} {t : TypeId} {d : DataW H}, ts[i]? = some t → ds[i]? = some d → ∀ n, n ∈ d.weights P t → n ∈ DataW.weightsEach P ts ds
  | [], _, i, t, d, h1, _ => by simp at h1
  | _ :: _, [], i, t, d, _, h2 => by simp at h2
  | a :: ts, b :: ds, 0, t, d, h1, h2 => by
    simp only [List.getElem?_cons_zero, Option.some.injEq] at h1 h2
    subst h1 h2
    intro n hn
    rw [DataW.weightsEach]
    exact List.mem_append_left _ hn
  | a :: ts, b :: ds, i + 1, t, d, h1, h2 => by
    intro n hn
    rw [DataW.weightsEach]
    exact List.mem_append_right _ (weights_eachP (by simpa using h1) (by simpa using h2) n hn)
/-- A world, nothing owned. -/
def bareX (w : World) : Cx := ⟨w, fun _ => (none, 0), [], fun _ _ => False, []⟩
theorem repL_app {X : Cx} {l1 l2 : List AV} {c1 c2 : List Value} (h1 : RepL X l1 c1) (h2 : RepL X l2 c2) : RepL X (l1 ++ l2) (c1 ++ c2) := by
  refine ⟨by simp [h1.1, h2.1], fun i a x ha hx => ?_⟩
  by_cases hi : i < l1.length
  · rw [List.getElem?_append_left hi] at ha
    rw [List.getElem?_append_left (by rw [h1.1]; exact hi)] at hx
    exact h1.2 i a x ha hx
  · rw [List.getElem?_append_right (by omega)] at ha
    rw [List.getElem?_append_right (by rw [h1.1]; omega)] at hx
    rw [h1.1] at hx
    exact h2.2 _ a x ha hx
/-- What a type's cells read as. -/
def ReadsP (P : Program) (w : World) (t : TypeId) (cs : List Value) : Prop := ∃ l, Sh P t l ∧ RepL (bareX w) l cs ∧ ∀ a, a ∈ l → Clo a
theorem reads_fields (t : TypeId) : ∀ (fs : List Field) (o : Nat) (cs : List Value), layB P o fs = some cs.length → o ≤ cs.length → (∀ (i : Nat) (f : Field), fs[i]? = some f → ReadsP P w f.type ((cs.drop f.offset).take (P.cellsOf f.type))) →
    ∃ l : List AV, RepL (bareX w) l (cs.drop o) ∧ (∀ a, a ∈ l → Clo a) ∧ ∀ (i : Nat) (f : Field), fs[i]? = some f → o ≤ f.offset ∧ Sh P f.type ((l.drop (f.offset - o)).take (P.cellsOf f.type))
  | [], o, cs, h, ho, _ => by
    simp only [layB, Option.some.injEq] at h
    subst h
    refine ⟨[], ?_, fun a h => (List.not_mem_nil h).elim, fun i f h => by simp at h⟩
    rw [List.drop_length]
    exact ⟨rfl, fun i a x h => by simp at h⟩
  | f :: r, o, cs, h, ho, hf => by
    simp only [layB] at h
    split at h
    · next e =>
      subst e
      have mono : ∀ (fs : List Field) (o n : Nat), layB P o fs = some n → o ≤ n := by
        intro fs
        induction fs with
        | nil => intro o n h; simp only [layB, Option.some.injEq] at h; omega
        | cons f r ih =>
          intro o n h
          simp only [layB] at h
          split at h
          · have := ih _ _ h; omega
          · cases h
      have hle := mono r _ _ h
      obtain ⟨l1, s1, r1, c1⟩ := hf 0 f rfl
      obtain ⟨l2, r2, c2, g2⟩ := reads_fields t r (f.offset + P.cellsOf f.type) cs h hle fun i f' h' => hf (i + 1) f' (by simpa using h')
      have hl1 : l1.length = P.cellsOf f.type := by
        rw [← r1.1, List.length_take, List.length_drop]; omega
      have split : cs.drop f.offset = (cs.drop f.offset).take (P.cellsOf f.type) ++ cs.drop (f.offset + P.cellsOf f.type) := by
        rw [← List.drop_drop]; exact (List.take_append_drop _ _).symm
      refine ⟨l1 ++ l2, ?_, fun a ha => ?_, fun i f' h' => ?_⟩
      · rw [split]; exact repL_app r1 r2
      · rcases List.mem_append.1 ha with h | h
        · exact c1 a h
        · exact c2 a h
      · cases i with
        | zero =>
          simp only [List.getElem?_cons_zero, Option.some.injEq] at h'
          subst h'
          refine ⟨Nat.le_refl _, ?_⟩
          rw [Nat.sub_self, List.drop_zero, List.take_append_of_le_length (by omega), ← hl1, List.take_length]
          exact s1
        | succ i =>
          obtain ⟨q1, q2⟩ := g2 i f' (by simpa using h')
          refine ⟨by omega, ?_⟩
          rw [show f'.offset - f.offset = l1.length + (f'.offset - (f.offset + P.cellsOf f.type)) by omega, ← List.drop_drop, List.drop_left]
          exact q2
    · cases h
theorem reads {S : List TypeId} (hS : setB P S = true) : ∀ (fuel : Nat) (t : TypeId) (cs : List Value) (x : DataW H × List MemPlace), t ∈ S → DataW.trod enc P w base spare held fuel t cs = some x → LightP P t x.1 → ReadsP P w t cs := by
  intro fuel
  induction fuel with
  | zero => intro t cs x _ h; simp [DataW.trod] at h
  | succ fuel ih =>
    intro t cs x ht h hw
    have hb := List.all_eq_true.1 hS t ht
    cases hu : P.underlying t with
    | none => simp [hu] at hb
    | some u =>
    have one : ∀ {a : AV} {v : Value}, Rep (bareX w) a v → RepL (bareX w) [a] [v] := fun {a v} h => ⟨rfl, fun i b x h1 h2 => by
      cases i with
      | zero => simp at h1 h2; subst h1 h2; exact h
      | succ i => simp at h1⟩
    cases u with
    | bool =>
      obtain ⟨b, rfl, rfl⟩ := DataW.trod_bool hu h
      exact ⟨_, .bool hu b, one (.v _), fun a ha => by rw [List.mem_singleton] at ha; subst ha; exact .v _⟩
    | int k =>
      obtain ⟨z, rfl, rfl, hz⟩ := DataW.trod_int hu h
      exact ⟨_, .int hu hz, one (.v _), fun a ha => by rw [List.mem_singleton] at ha; subst ha; exact .v _⟩
    | string =>
      obtain ⟨s, rfl, rfl, hs⟩ := DataW.trod_string hu h
      refine ⟨_, .str (s := s) hu ?_, one (.v _), fun a ha => by rw [List.mem_singleton] at ha; subst ha; exact .v _⟩
      exact hw s.size (by show s.size ∈ [s.data.toList.length]; rw [List.mem_singleton]; rfl)
    | slice e =>
      simp only [hu, Bool.and_eq_true, decide_eq_true_eq, List.contains_iff_mem] at hb
      obtain ⟨he, hc⟩ := hb
      have mt : ∀ b, b ∈ [AV.t 0 (P.cellsOf e) ((List.range 0).flatMap fun _ => [])] → Clo b := fun b hb => by
        rw [List.mem_singleton] at hb
        subst hb
        exact .t fun b hb => by simp at hb
      rcases DataW.trod_slice hu h with ⟨rfl, rfl⟩ | ⟨a, len, cap, elems, rest, n, e', rfl, rfl, _, hl, hcap, hlen, hel, _, _⟩
      · exact ⟨[.t 0 (P.cellsOf e) ((List.range 0).flatMap fun _ => [])], .slice hu (by rw [Nat.zero_mul]; exact Nat.zero_le _) (fun i hi => by omega) (fun i hi => by omega), one (.t (cvs := []) (by simp) rfl (Nat.le_refl _) (Nat.zero_le _) (fun h => by omega) (fun i a x h => by simp at h)), mt⟩
      · obtain rfl : n = fuel := by omega
        simp only [LightP, DataW.weights, hu] at hw
        have each : ∀ i, i < len → ∃ q : List Value × List AV, w.cells? base (a.add (i * P.cellsOf e)) (P.cellsOf e) = some q.1 ∧ Sh P e q.2 ∧ RepL (bareX w) q.2 q.1 ∧ ∀ a, a ∈ q.2 → Clo a := fun i hi => by
          have h0 := hel i hi
          rw [List.getElem?_eq_getElem (by omega)] at h0
          obtain ⟨C, h1, h2⟩ := Option.bind_eq_some_iff.1 h0
          obtain ⟨F, s1, s2, s3⟩ := ih e C _ he h2 fun q hq => hw q (List.mem_cons_of_mem _ (List.mem_append_left _ (weights_allP (List.mem_map_of_mem (List.getElem_mem (by omega : i < elems.length))) q hq)))
          exact ⟨(C, F), h1, s1, s2, s3⟩
        obtain ⟨Q, hQ⟩ := choose_lt each
        have hcl : ∀ i, i < len → (Q i).1.length = P.cellsOf e := fun i hi => (World.cells?_some (hQ i hi).1).2.1
        have hal : ∀ i, i < len → (Q i).2.length = P.cellsOf e := fun i hi => by rw [← (hQ i hi).2.2.1.1]; exact hcl i hi
        have hcell : ∀ i, i < len → ∀ j, j < P.cellsOf e → w.cell? ((a.add (i * P.cellsOf e)).add j) = (Q i).1[j]? := fun i hi => (World.cells?_some (hQ i hi).1).2.2
        have hsplit : ∀ j, j < len * P.cellsOf e → j / P.cellsOf e < len ∧ j % P.cellsOf e < P.cellsOf e ∧ j = j / P.cellsOf e * P.cellsOf e + j % P.cellsOf e := fun j hj =>
          ⟨(Nat.div_lt_iff_lt_mul hc).2 hj, Nat.mod_lt _ hc, by rw [Nat.mul_comm]; exact (Nat.div_add_mod _ _).symm⟩
        refine ⟨[.t len (P.cellsOf e) ((List.range len).flatMap fun i => (Q i).2)], .slice hu ?_ hal fun i hi => (hQ i hi).2.1, one (.t (cvs := (List.range len).flatMap fun i => (Q i).1) (flat_len hal) ?_ hl hcap ?_ ?_), fun b hb => ?_⟩
        · have h1 := hw _ (List.mem_cons_self ..)
          simp only [List.length_map] at h1
          refine Nat.le_trans (Nat.mul_le_mul_right _ ?_) h1
          omega
        · rw [flat_len hal, flat_len hcl]
        · intro h0
          have hs := hcell 0 h0 0 hc
          rw [List.getElem?_eq_getElem (by rw [hcl 0 h0]; exact hc)] at hs
          obtain ⟨b, off, spot⟩ := a
          have hspot : spot = none := by simpa [Addr.add] using World.cell?_spot hs
          subst hspot
          refine ⟨b, off, rfl, fun j x hj => ⟨?_, fun h => h⟩⟩
          have hj' : j < len * P.cellsOf e := by
            have := (List.getElem?_eq_some_iff.1 hj).1
            rwa [flat_len hcl] at this
          obtain ⟨q1, q2, q3⟩ := hsplit j hj'
          rw [q3, flat_get hcl _ _ q1 q2] at hj
          have := hcell _ q1 _ q2
          rw [Go.WideShapes.add_plain, Go.WideShapes.add_plain, hj, Nat.add_assoc, ← q3] at this
          exact this
        · intro j b x hb hx
          have hj' : j < len * P.cellsOf e := by
            have := (List.getElem?_eq_some_iff.1 hx).1
            rwa [flat_len hcl] at this
          obtain ⟨q1, q2, q3⟩ := hsplit j hj'
          rw [q3, flat_get hcl _ _ q1 q2] at hx
          rw [q3, flat_get hal _ _ q1 q2] at hb
          exact (hQ _ q1).2.2.1.2 _ b x hb hx
        · rw [List.mem_singleton] at hb
          subst hb
          refine .t fun b hb => ?_
          obtain ⟨i, h1, h2⟩ := List.mem_flatMap.1 hb
          exact (hQ i (List.mem_range.1 h1)).2.2.2 b h2
    | struct fs =>
      simp only [hu, Bool.and_eq_true, List.all_eq_true, List.contains_iff_mem, beq_iff_eq] at hb
      obtain ⟨hb1, hb2⟩ := hb
      obtain ⟨xs, n, e, rfl, hcl, hlen, hf⟩ := DataW.trod_struct hu h
      obtain rfl : n = fuel := by omega
      have each : ∀ (i : Nat) (f : Field), fs.toList[i]? = some f → ReadsP P w f.type ((cs.drop f.offset).take (P.cellsOf f.type)) := fun i f hi => by
        have hi' : fs[i]? = some f := by simpa using hi
        have hlt : i < xs.length := by rw [hlen]; exact (Array.getElem?_eq_some_iff.1 hi').1
        have h1 := hf i f hi'
        rw [List.getElem?_eq_getElem hlt] at h1
        refine ih _ _ _ (hb1 f (List.mem_of_getElem? hi)) h1 fun q hq => hw q ?_
        simp only [DataW.weights, hu]
        exact weights_eachP (i := i) (t := f.type) (d := xs[i].1) (by rw [List.getElem?_map, hi]; rfl) (by rw [List.getElem?_map, List.getElem?_eq_getElem hlt]; rfl) q hq
      obtain ⟨l, r1, c1, g1⟩ := reads_fields t fs.toList 0 cs (by rw [hb2, hcl]) (Nat.zero_le _) each
      rw [List.drop_zero] at r1
      refine ⟨l, .struct hu (by rw [← r1.1, hcl]) (fun i f hi => ?_), r1, c1⟩
      have := (g1 i f (by simpa using hi)).2
      rwa [Nat.sub_zero] at this
    | _ => simp [hu] at hb
end
/-- What a law's row asks. -/
theorem law_of {f : FuncId} {args : List AV} {b : Bool} (T : TC Tryz.prog f args (.v (.bool b))) {w : World} {vs : List Value} (hr : RepL ⟨w, fun _ => (none, 0), [], fun _ _ => False, []⟩ args vs) :
    Calls Tryz.prog f vs.toArray w fun e w' => e = .returned (.bool b) ∧ Below w.heap.size w w' := by
  refine (T.calls hr).mono ?_
  rintro e w' ⟨v, rfl, h1, h2⟩
  cases h2
  exact ⟨rfl, h1⟩
def repA (X : Cx) : List AV → List Value → Prop
  | [], [] => True
  | a :: l, v :: vs => Rep X a v ∧ repA X l vs
  | _, _ => False
theorem repL_of {X : Cx} : ∀ {l : List AV} {vs : List Value}, repA X l vs → RepL X l vs
  | [], [], _ => ⟨rfl, fun i a x h => by simp at h⟩
  | [], _ :: _, h => h.elim
  | _ :: _, [], h => h.elim
  | a :: l, v :: vs, h => by
    obtain ⟨h1, h2⟩ := repL_of h.2
    refine ⟨by simp [h1], fun i b x e1 e2 => ?_⟩
    cases i with
    | zero => simp at e1 e2; subst e1 e2; exact h.1
    | succ i => exact h2 i b x (by simpa using e1) (by simpa using e2)
end Go.Proofs.YtljfgdlgmdcmfaaGreat
