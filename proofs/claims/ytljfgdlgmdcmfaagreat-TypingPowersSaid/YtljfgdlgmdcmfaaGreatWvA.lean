/- A machine of abstract values: what a value in memory reads as; how memory may change. -/
import Derived.Orders
import Derived.Maps.AppendAt
import Derived.Laws.MakeOwn
import Derived.Deep.LoopGhost
import Derived.WalkKit
namespace Go.Proofs.YtljfgdlgmdcmfaaGreat.Wv
open Go.RowKit
set_option linter.unusedVariables false
set_option autoImplicit false

/-- An abstract value: an exact value; a slice that nobody writes; a struct; a tuple; a slice that is owned; addresses; a function; an interface value; unknown. -/
inductive AV where
  | v (x : Value)
  | t (n size : Nat) (cells : List AV)
  | g (cells : List AV)
  | tup (l : List AV)
  | own (id n : Nat)
  | ptr (id off : Nat)
  | ap (id n off : Nat)
  | mp (id : Nat)
  | tp (cells : List AV)
  | tm (es : List (Value × AV))
  | fn (f : Fn) (first captured : List AV)
  | ifc (T : TypeId) (x : AV)
  | e0
  | none

/-- What is owned: a variable's block; a slice's array, of which the first cells are not written any more. -/
inductive Ob where
  | blk (cells : List AV)
  | arr (T : TypeId) (size : Nat) (cells : List AV) (fz : Nat)
  | map (es : List (Value × AV))

structure Cx where
  w : World
  m : Nat → Option Nat × Nat
  h : List (Option Ob)
  bad : Nat → Nat → Prop
  ds : List Deferred

abbrev Hp := List (Option Ob)
abbrev Ev := List (Nat × AV)

def cellAt (w : World) (b o : Nat) : Option Value := w.cell? ⟨b, o, none⟩
def sliceVal (l : Option Nat × Nat) (n : Nat) : Value := .slice (l.1.map fun b => ⟨b, 0, none⟩) n l.2

def Cx.live (X : Cx) (i : Nat) : Prop := ∃ o, X.h[i]? = some (some o)
/-- A block that an owned thing lies in. -/
def Cx.mine (X : Cx) (b : Nat) : Prop := ∃ i, X.live i ∧ (X.m i).1 = some b

inductive Rep (X : Cx) : AV → Value → Prop
  | v (x : Value) : Rep X (.v x) x
  | none (x : Value) : Rep X .none x
  | t {n size : Nat} {cells : List AV} {p : Option Addr} {cap : Nat} {cvs : List Value} (hl : cells.length = n * size) (hc : cvs.length = cells.length) (hn : n ≤ cap) (hcap : cap ≤ maxLen)
      (hp : 0 < n → ∃ b off, p = some ⟨b, off, Option.none⟩ ∧ ∀ (i : Nat) (x : Value), cvs[i]? = some x → cellAt X.w b (off + i) = some x ∧ ¬ X.bad b (off + i))
      (hr : ∀ (i : Nat) (a : AV) (x : Value), cells[i]? = some a → cvs[i]? = some x → Rep X a x) : Rep X (.t n size cells) (.slice p n cap)
  | g {cells : List AV} {cvs : List Value} (hc : cvs.length = cells.length) (hr : ∀ (i : Nat) (a : AV) (x : Value), cells[i]? = some a → cvs[i]? = some x → Rep X a x) : Rep X (.g cells) (.agg cvs.toArray)
  | tup {cells : List AV} {cvs : List Value} (hc : cvs.length = cells.length) (hr : ∀ (i : Nat) (a : AV) (x : Value), cells[i]? = some a → cvs[i]? = some x → Rep X a x) : Rep X (.tup cells) (.tuple cvs.toArray)
  | tp {cells : List AV} {b off : Nat} {cvs : List Value} (hc : cvs.length = cells.length) (hp : ∀ (i : Nat) (x : Value), cvs[i]? = some x → cellAt X.w b (off + i) = some x ∧ ¬ X.bad b (off + i))
      (hr : ∀ (i : Nat) (a : AV) (x : Value), cells[i]? = some a → cvs[i]? = some x → Rep X a x) : Rep X (.tp cells) (.pointer (some ⟨b, off, Option.none⟩))
  | fn {f : Fn} {a1 a2 : List AV} {v1 v2 : List Value} (h1 : v1.length = a1.length) (h2 : v2.length = a2.length) (r1 : ∀ (i : Nat) (a : AV) (x : Value), a1[i]? = some a → v1[i]? = some x → Rep X a x)
      (r2 : ∀ (i : Nat) (a : AV) (x : Value), a2[i]? = some a → v2[i]? = some x → Rep X a x) : Rep X (.fn f a1 a2) (.func f v1.toArray v2.toArray)
  | ifc {T : TypeId} {a : AV} {x : Value} (h : Rep X a x) : Rep X (.ifc T a) (.iface T x)
  | e0 (b : Option Nat) : Rep X .e0 (sliceVal (b, 0) 0)
  | own {id n : Nat} {x : Value} (hid : id < X.h.length) (h : ∀ T size cells fz, X.h[id]? = some (some (.arr T size cells fz)) → n * size ≤ cells.length ∧ (cells.length = n * size → x = sliceVal (X.m id) n)) : Rep X (.own id n) x
  | ptr {id off : Nat} {x : Value} (hid : id < X.h.length) (h : ∀ cells, X.h[id]? = some (some (.blk cells)) → ∃ b, (X.m id).1 = some b ∧ x = .pointer (some ⟨b, off, Option.none⟩)) : Rep X (.ptr id off) x
  | ap {id n off : Nat} {x : Value} (hid : id < X.h.length) (h : ∀ T size cells fz, X.h[id]? = some (some (.arr T size cells fz)) → n * size ≤ cells.length ∧ (cells.length = n * size → ∃ b, (X.m id).1 = some b ∧ x = .pointer (some ⟨b, off, Option.none⟩))) : Rep X (.ap id n off) x
  | tm {es : List (Value × AV)} {b clock : Nat} {ents : Array MapEntry} (hb : X.w.heap[b]? = some (.map ents clock)) (hm : ¬ X.mine b) (hl : ents.size = es.length) (hk : ∀ (i : Nat) (p : Value × AV) (e : MapEntry), es[i]? = some p → ents[i]? = some e → e.key = p.1)
      (hr : ∀ (i : Nat) (p : Value × AV) (e : MapEntry), es[i]? = some p → ents[i]? = some e → Rep X p.2 e.val) : Rep X (.tm es) (.map (some b))
  | mp {id : Nat} {x : Value} (hid : id < X.h.length) (h : ∀ es, X.h[id]? = some (some (.map es)) → ∃ b, (X.m id).1 = some b ∧ x = .map (some b)) : Rep X (.mp id) x

def RepL (X : Cx) (as : List AV) (xs : List Value) : Prop := xs.length = as.length ∧ ∀ (i : Nat) (a : AV) (x : Value), as[i]? = some a → xs[i]? = some x → Rep X a x

structure ArrOk (X : Cx) (id : Nat) (T : TypeId) (size : Nat) (cells : List AV) (fz n : Nat) (b : Nat) (cvs : Array Value) : Prop where
  at_ : (X.m id).1 = some b
  blk : X.w.heap[b]? = some (.cells cvs T (0, 0))
  cap : n ≤ (X.m id).2
  capm : (X.m id).2 ≤ maxLen
  sz : cvs.size = (X.m id).2 * size
  bad : ∀ o, fz ≤ o → X.bad b o
  rep : ∀ (i : Nat) (a : AV) (x : Value), cells[i]? = some a → cvs[i]? = some x → Rep X a x
  good : ∀ o, o < fz → ¬ X.bad b o

/-- A map's entries. -/
def EntOk (X : Cx) (es : List (Value × AV)) (ents : Array MapEntry) : Prop := ents.size = es.length ∧ ∀ (i : Nat) (p : Value × AV) (e : MapEntry), es[i]? = some p → ents[i]? = some e → e.key = p.1 ∧ Rep X p.2 e.val

structure Ok (X : Cx) : Prop where
  blk : ∀ id cells, X.h[id]? = some (some (.blk cells)) → ∃ b cvs T, (X.m id).1 = some b ∧ X.w.heap[b]? = some (.cells cvs T (0, 0)) ∧ cvs.size = cells.length ∧ (∀ o, X.bad b o) ∧
    ∀ (i : Nat) (a : AV) (x : Value), cells[i]? = some a → cvs[i]? = some x → Rep X a x
  arr : ∀ id T size cells fz, X.h[id]? = some (some (.arr T size cells fz)) → fz ≤ cells.length ∧ 0 < size ∧ ∃ n, cells.length = n * size ∧
    ((X.m id = (none, 0) ∧ cells = []) ∨ ∃ b cvs, ArrOk X id T size cells fz n b cvs)
  inj : ∀ i j b, X.live i → X.live j → (X.m i).1 = some b → (X.m j).1 = some b → i = j
  badlt : ∀ b o, X.bad b o → b < X.w.heap.size
  map : ∀ id es, X.h[id]? = some (some (.map es)) → ∃ b ents clock, (X.m id).1 = some b ∧ X.w.heap[b]? = some (.map ents clock) ∧ EntOk X es ents

structure Step (X Y : Cx) : Prop where
  os : Y.w.os = X.w.os
  tape : Y.w.tape = X.w.tape
  output : Y.w.output = X.w.output
  size : X.w.heap.size ≤ Y.w.heap.size
  block : ∀ b, b < X.w.heap.size → ¬ X.mine b → Y.w.heap[b]? = X.w.heap[b]?
  keep : ∀ b o x, cellAt X.w b o = some x → ¬ X.bad b o → cellAt Y.w b o = some x ∧ ¬ Y.bad b o
  len : X.h.length ≤ Y.h.length
  oarr : ∀ i T size cells fz, i < X.h.length → Y.h[i]? = some (some (.arr T size cells fz)) → ∃ cells' fz', X.h[i]? = some (some (.arr T size cells' fz')) ∧ cells'.length ≤ cells.length ∧ (cells.length = cells'.length → Y.m i = X.m i)
  oblk : ∀ i cells, i < X.h.length → Y.h[i]? = some (some (.blk cells)) → ∃ cells', X.h[i]? = some (some (.blk cells')) ∧ (Y.m i).1 = (X.m i).1
  own : ∀ b, Y.mine b → X.w.heap.size ≤ b ∨ X.mine b
  badk : ∀ b o, X.bad b o → Y.bad b o ∨ X.mine b
  omap : ∀ i es, i < X.h.length → Y.h[i]? = some (some (.map es)) → ∃ es', X.h[i]? = some (some (.map es')) ∧ (Y.m i).1 = (X.m i).1
  dse : Y.ds = X.ds

theorem Step.refl (X : Cx) : Step X X :=
  ⟨rfl, rfl, rfl, Nat.le_refl _, fun _ _ _ => rfl, fun _ _ _ h k => ⟨h, k⟩, Nat.le_refl _, fun _ _ _ _ _ _ h => ⟨_, _, h, Nat.le_refl _, fun _ => rfl⟩, fun _ _ _ h => ⟨_, h, rfl⟩, fun _ h => .inr h, fun _ _ h => .inl h, fun _ _ _ h => ⟨_, h, rfl⟩, rfl⟩

theorem Rep.mono {X Y : Cx} (S : Step X Y) {a : AV} {x : Value} (h : Rep X a x) : Rep Y a x := by
  induction h with
  | v x => exact .v x
  | none x => exact .none x
  | t hl hc hn hcap hp hr ih =>
    refine .t hl hc hn hcap (fun h0 => ?_) ih
    obtain ⟨b, off, e, k⟩ := hp h0
    exact ⟨b, off, e, fun i x hx => S.keep _ _ _ (k i x hx).1 (k i x hx).2⟩
  | g hc hr ih => exact .g hc ih
  | tup hc hr ih => exact .tup hc ih
  | tp hc hp hr ih => exact .tp hc (fun i x hx => S.keep _ _ _ (hp i x hx).1 (hp i x hx).2) ih
  | fn h1 h2 r1 r2 ih1 ih2 => exact .fn h1 h2 ih1 ih2
  | ifc h ih => exact .ifc ih
  | e0 b => exact .e0 b
  | own hid h =>
    refine .own (Nat.lt_of_lt_of_le hid S.len) fun T size cells fz hh => ?_
    obtain ⟨c', f', h1, h2, h3⟩ := S.oarr _ _ _ _ _ hid hh
    obtain ⟨h4, h5⟩ := h _ _ _ _ h1
    exact ⟨Nat.le_trans h4 h2, fun hl => by rw [h3 (by omega)]; exact h5 (by omega)⟩
  | ptr hid h =>
    refine .ptr (Nat.lt_of_lt_of_le hid S.len) fun cells hh => ?_
    obtain ⟨c', h1, h2⟩ := S.oblk _ _ hid hh
    rw [h2]
    exact h _ h1
  | ap hid h =>
    refine .ap (Nat.lt_of_lt_of_le hid S.len) fun T size cells fz hh => ?_
    obtain ⟨c', f', h1, h2, h3⟩ := S.oarr _ _ _ _ _ hid hh
    obtain ⟨h4, h5⟩ := h _ _ _ _ h1
    exact ⟨Nat.le_trans h4 h2, fun hl => by rw [h3 (by omega)]; exact h5 (by omega)⟩
  | mp hid h =>
    refine .mp (Nat.lt_of_lt_of_le hid S.len) fun es hh => ?_
    obtain ⟨c', h1, h2⟩ := S.omap _ _ hid hh
    rw [h2]
    exact h _ h1
  | tm hb hm hl hk hr ih =>
    have hlt := (Array.getElem?_eq_some_iff.1 hb).1
    refine .tm (by rw [S.block _ hlt hm]; exact hb) (fun hy => ?_) hl hk ih
    rcases S.own _ hy with h | h
    · omega
    · exact hm h

theorem Step.trans {X Y Z : Cx} (hX : Ok X) (S : Step X Y) (T : Step Y Z) : Step X Z := by
  have hno : ∀ b, b < X.w.heap.size → ¬ X.mine b → ¬ Y.mine b := fun b hb hm hy => by
    rcases S.own b hy with h | h
    · omega
    · exact hm h
  refine ⟨T.os.trans S.os, T.tape.trans S.tape, T.output.trans S.output, Nat.le_trans S.size T.size, fun b hb hm => ?_, fun b o x hx hb => ?_, Nat.le_trans S.len T.len, fun i U s c f hi h => ?_, fun i c hi h => ?_, fun b hb => ?_, fun b o hb => ?_, fun i c hi h => ?_, T.dse.trans S.dse⟩
  · rw [T.block b (Nat.lt_of_lt_of_le hb S.size) (hno b hb hm), S.block b hb hm]
  · obtain ⟨h1, h2⟩ := S.keep b o x hx hb
    exact T.keep b o x h1 h2
  · obtain ⟨c1, f1, h1, l1, e1⟩ := T.oarr i U s c f (Nat.lt_of_lt_of_le hi S.len) h
    obtain ⟨c2, f2, h2, l2, e2⟩ := S.oarr i U s c1 f1 hi h1
    exact ⟨c2, f2, h2, Nat.le_trans l2 l1, fun e => by rw [e1 (by omega), e2 (by omega)]⟩
  · obtain ⟨c1, h1, e1⟩ := T.oblk i c (Nat.lt_of_lt_of_le hi S.len) h
    obtain ⟨c2, h2, e2⟩ := S.oblk i c1 hi h1
    exact ⟨c2, h2, e1.trans e2⟩
  · rcases T.own b hb with h | h
    · left; exact Nat.le_trans S.size h
    · exact S.own b h
  · rcases S.badk b o hb with h | h
    · rcases T.badk b o h with h | h
      · exact .inl h
      · rcases S.own b h with h | h
        · exact absurd (hX.badlt b o hb) (by omega)
        · exact .inr h
    · exact .inr h
  · obtain ⟨c1, h1, e1⟩ := T.omap i c (Nat.lt_of_lt_of_le hi S.len) h
    obtain ⟨c2, h2, e2⟩ := S.omap i c1 hi h1
    exact ⟨c2, h2, e1.trans e2⟩

theorem EntOk.mono {X Y : Cx} (S : Step X Y) {es : List (Value × AV)} {ents : Array MapEntry} (h : EntOk X es ents) : EntOk Y es ents := ⟨h.1, fun i p e h1 h2 => ⟨(h.2 i p e h1 h2).1, (h.2 i p e h1 h2).2.mono S⟩⟩

theorem Step.below {X Y : Cx} (S : Step X Y) (h : ∀ b, ¬ X.mine b) : Below X.w.heap.size X.w Y.w := ⟨S.os, S.tape, S.output, S.size, fun b hb => S.block b hb (h b)⟩

/-- A value that names nothing owned. -/
inductive Clo : AV → Prop
  | v (x : Value) : Clo (.v x)
  | none : Clo .none
  | t {n size : Nat} {cells : List AV} (h : ∀ (a : AV), a ∈ cells → Clo a) : Clo (.t n size cells)
  | g {cells : List AV} (h : ∀ (a : AV), a ∈ cells → Clo a) : Clo (.g cells)
  | tup {cells : List AV} (h : ∀ (a : AV), a ∈ cells → Clo a) : Clo (.tup cells)
  | tp {cells : List AV} (h : ∀ (a : AV), a ∈ cells → Clo a) : Clo (.tp cells)
  | fn {f : Fn} {a1 a2 : List AV} (h1 : ∀ (a : AV), a ∈ a1 → Clo a) (h2 : ∀ (a : AV), a ∈ a2 → Clo a) : Clo (.fn f a1 a2)
  | ifc {T : TypeId} {a : AV} (h : Clo a) : Clo (.ifc T a)
  | e0 : Clo .e0

theorem Rep.clo {X Y : Cx} {a : AV} {x : Value} (h : Rep X a x) (hc : Clo a) (K : ∀ b o u, cellAt X.w b o = some u → ¬ X.bad b o → cellAt Y.w b o = some u ∧ ¬ Y.bad b o) : Rep Y a x := by
  induction h with
  | v x => exact .v x
  | none x => exact .none x
  | t hl hc' hn hcap hp hr ih =>
    cases hc with
    | t h =>
    refine .t hl hc' hn hcap (fun h0 => ?_) (fun i a x h1 h2 => ih i a x h1 h2 (h a (List.mem_of_getElem? h1)))
    obtain ⟨b, off, e, k⟩ := hp h0
    exact ⟨b, off, e, fun i x hx => K _ _ _ (k i x hx).1 (k i x hx).2⟩
  | g hc' hr ih => cases hc with | g h => exact .g hc' (fun i a x h1 h2 => ih i a x h1 h2 (h a (List.mem_of_getElem? h1)))
  | tup hc' hr ih => cases hc with | tup h => exact .tup hc' (fun i a x h1 h2 => ih i a x h1 h2 (h a (List.mem_of_getElem? h1)))
  | tp hc' hp hr ih => cases hc with | tp h => exact .tp hc' (fun i x hx => K _ _ _ (hp i x hx).1 (hp i x hx).2) (fun i a x h1 h2 => ih i a x h1 h2 (h a (List.mem_of_getElem? h1)))
  | fn h1 h2 r1 r2 ih1 ih2 => cases hc with | fn k1 k2 => exact .fn h1 h2 (fun i a x h1 h2 => ih1 i a x h1 h2 (k1 a (List.mem_of_getElem? h1))) (fun i a x h1 h2 => ih2 i a x h1 h2 (k2 a (List.mem_of_getElem? h1)))
  | ifc h ih => cases hc with | ifc k => exact .ifc (ih k)
  | e0 b => exact .e0 b
  | own hid h => cases hc
  | ptr hid h => cases hc
  | ap hid h => cases hc
  | mp hid h => cases hc
  | tm hb hm hl hk hr ih => cases hc

theorem Ok.lt {X : Cx} (h : Ok X) {b : Nat} (hm : X.mine b) : b < X.w.heap.size := by
  obtain ⟨i, ⟨o, ho⟩, hb⟩ := hm
  cases o with
  | blk cells =>
    obtain ⟨b', cvs, T, h1, h2, _⟩ := h.blk i cells ho
    rw [h1] at hb; injection hb with hb; subst hb
    exact (Array.getElem?_eq_some_iff.1 h2).1
  | arr T size cells fz =>
    obtain ⟨_, _, n, _, h1 | ⟨b', cvs, h1⟩⟩ := h.arr i T size cells fz ho
    · rw [h1.1] at hb; cases hb
    · have h2 := h1.at_
      rw [h2] at hb; injection hb with hb; subst hb
      exact (Array.getElem?_eq_some_iff.1 h1.blk).1
  | map es =>
    obtain ⟨b', ents, clock, h1, h2, _⟩ := h.map i es ho
    rw [h1] at hb; injection hb with hb; subst hb
    exact (Array.getElem?_eq_some_iff.1 h2).1
theorem cellAt_lt {w : World} {b o : Nat} {x : Value} (h : cellAt w b o = some x) : b < w.heap.size := World.block_lt_of_cell? w ⟨b, o, none⟩ h

/-- A new block. -/
def Cx.push (X : Cx) (o : Obj) (cap : Nat) (ob : Ob) : Cx where
  w := X.w.alloc o
  m := fun i => if i = X.h.length then (some X.w.heap.size, cap) else X.m i
  h := X.h ++ [some ob]
  bad := fun b o => X.bad b o ∨ b = X.w.heap.size
  ds := X.ds

theorem push_at (X : Cx) (o : Obj) (cap : Nat) (ob : Ob) : (X.push o cap ob).m X.h.length = (some X.w.heap.size, cap) := by simp [Cx.push]
theorem push_m (X : Cx) (o : Obj) (cap : Nat) (ob : Ob) {i : Nat} (h : i < X.h.length) : (X.push o cap ob).m i = X.m i := by
  simp only [Cx.push]; rw [if_neg (by omega)]
theorem push_h (X : Cx) (o : Obj) (cap : Nat) (ob : Ob) {i : Nat} (h : i < X.h.length) : (X.push o cap ob).h[i]? = X.h[i]? := by
  simp only [Cx.push]; rw [List.getElem?_append_left h]
theorem push_new (X : Cx) (o : Obj) (cap : Nat) (ob : Ob) : (X.push o cap ob).h[X.h.length]? = some (some ob) := by
  simp [Cx.push]
theorem live_lt {X : Cx} {i : Nat} (h : X.live i) : i < X.h.length := by
  obtain ⟨o, ho⟩ := h
  exact (List.getElem?_eq_some_iff.1 ho).1
theorem push_live {X : Cx} {o : Obj} {cap : Nat} {ob : Ob} {i : Nat} (h : (X.push o cap ob).live i) : i = X.h.length ∨ X.live i := by
  have hl := live_lt h
  simp only [Cx.push, List.length_append, List.length_singleton] at hl
  by_cases e : i = X.h.length
  · exact .inl e
  · right
    obtain ⟨o', ho⟩ := h
    rw [push_h X _ _ _ (by omega)] at ho
    exact ⟨o', ho⟩
theorem Step.push {X : Cx} (hX : Ok X) (o : Obj) (cap : Nat) (ob : Ob) : Step X (X.push o cap ob) := by
  refine ⟨rfl, rfl, rfl, by simp [Cx.push], fun b hb _ => Below.heap_alloc _ _ _ hb, fun b o' x hx hb => ⟨?_, ?_⟩, by simp [Cx.push], fun i T s c f hi h => ?_, fun i c hi h => ?_, fun b hb => ?_, fun b o' h => .inl (.inl h), fun i c hi h => ?_, rfl⟩
  · have := cellAt_lt hx
    unfold cellAt at hx ⊢
    rw [show (X.push o cap ob).w = X.w.alloc o from rfl, World.cell?_alloc_lt (h := this)]; exact hx
  · rintro (h | h)
    · exact hb h
    · exact absurd (cellAt_lt hx) (by omega)
  · rw [push_h X _ _ _ hi] at h
    exact ⟨c, f, h, Nat.le_refl _, fun _ => push_m X _ _ _ hi⟩
  · rw [push_h X _ _ _ hi] at h
    exact ⟨c, h, by rw [push_m X _ _ _ hi]⟩
  · obtain ⟨i, hi, he⟩ := hb
    rcases push_live hi with rfl | hi
    · rw [push_at] at he; injection he with he; left; omega
    · rw [push_m X _ _ _ (live_lt hi)] at he
      exact .inr ⟨i, hi, he⟩
  · rw [push_h X _ _ _ hi] at h
    exact ⟨c, h, by rw [push_m X _ _ _ hi]⟩

theorem Ok.pushG {X : Cx} (hX : Ok X) {o : Obj} {cap : Nat} {ob : Ob}
    (hb : ∀ cells, ob = .blk cells → ∃ cvs T, o = .cells cvs T (0, 0) ∧ cvs.size = cells.length ∧ ∀ (i : Nat) (a : AV) (x : Value), cells[i]? = some a → cvs[i]? = some x → Rep X a x)
    (ha : ∀ T size cells fz, ob = .arr T size cells fz → fz = 0 ∧ ∃ cvs n, o = .cells cvs T (0, 0) ∧ 0 < size ∧ cells.length = n * size ∧ n ≤ cap ∧ cap ≤ maxLen ∧ cvs.size = cap * size ∧ ∀ (i : Nat) (a : AV) (x : Value), cells[i]? = some a → cvs[i]? = some x → Rep X a x)
    (hm : ∀ es, ob = .map es → ∃ ents clock, o = .map ents clock ∧ EntOk X es ents) :
    Ok (X.push o cap ob) := by
  have S := Step.push hX o cap ob
  have hnew : (X.push o cap ob).w.heap[X.w.heap.size]? = some o := heap_alloc_new _ _
  have hold : ∀ id, ¬ id = X.h.length → ∀ q, (X.push o cap ob).h[id]? = some q → id < X.h.length := by
    intro id e q hh
    have := (List.getElem?_eq_some_iff.1 hh).1
    simp only [Cx.push, List.length_append, List.length_singleton] at this
    omega
  have hheap : ∀ b, X.mine b → (X.push o cap ob).w.heap[b]? = X.w.heap[b]? := fun b h => by
    rw [show (X.push o cap ob).w = X.w.alloc o from rfl, Below.heap_alloc _ _ _ (hX.lt h)]
  refine ⟨fun id cells hh => ?_, fun id U size cells fz hh => ?_, fun i j b hi hj ei ej => ?_, fun b o hb => ?_, fun id es hh => ?_⟩
  · by_cases e : id = X.h.length
    · subst e
      rw [push_new] at hh
      injection hh with hh; injection hh with hh
      obtain ⟨cvs, T, rfl, h1, h2⟩ := hb _ hh
      exact ⟨X.w.heap.size, cvs, T, by rw [push_at], hnew, h1, fun o => .inr rfl, fun i a x h3 h4 => (h2 i a x h3 h4).mono S⟩
    · have hl := hold id e _ hh
      rw [push_h X _ _ _ hl] at hh
      obtain ⟨b, c2, T2, h1, h2, h3, h4, h5⟩ := hX.blk id cells hh
      exact ⟨b, c2, T2, by rw [push_m X _ _ _ hl]; exact h1, by rw [hheap b ⟨id, ⟨_, hh⟩, h1⟩]; exact h2, h3, fun o => .inl (h4 o), fun i a x h6 h7 => (h5 i a x h6 h7).mono S⟩
  · by_cases e : id = X.h.length
    · subst e
      rw [push_new] at hh
      injection hh with hh; injection hh with hh
      obtain ⟨rfl, cvs, n, rfl, h0, h1, h2, h3, h4, h5⟩ := ha _ _ _ _ hh
      refine ⟨Nat.zero_le _, h0, n, h1, .inr ⟨X.w.heap.size, cvs, ?_⟩⟩
      exact ⟨by rw [push_at], hnew, by rw [push_at]; exact h2, by rw [push_at]; exact h3, by rw [push_at]; exact h4, fun o _ => .inr rfl, fun i a x h6 h7 => (h5 i a x h6 h7).mono S, fun o ho => absurd ho (Nat.not_lt_zero o)⟩
    · have hl := hold id e _ hh
      have hm := push_m X o cap ob hl
      rw [push_h X _ _ _ hl] at hh
      obtain ⟨h1, h2, n, h3, h4⟩ := hX.arr id U size cells fz hh
      refine ⟨h1, h2, n, h3, ?_⟩
      rcases h4 with ⟨h4, h5⟩ | ⟨b, c2, h4⟩
      · exact .inl ⟨by rw [hm]; exact h4, h5⟩
      · exact .inr ⟨b, c2, ⟨by rw [hm]; exact h4.at_, by rw [hheap b ⟨id, ⟨_, hh⟩, h4.at_⟩]; exact h4.blk, by rw [hm]; exact h4.cap, by rw [hm]; exact h4.capm, by rw [hm]; exact h4.sz, fun o ho => .inl (h4.bad o ho), fun i a x h6 h7 => (h4.rep i a x h6 h7).mono S, fun o ho hk => hk.elim (h4.good o ho) (fun e => absurd (hX.lt ⟨id, ⟨_, hh⟩, h4.at_⟩) (by omega))⟩⟩
  · rcases push_live hi with rfl | hi
    · rw [push_at] at ei; injection ei with ei
      rcases push_live hj with rfl | hj
      · rfl
      · rw [push_m X _ _ _ (live_lt hj)] at ej
        exact absurd (hX.lt ⟨j, hj, ej⟩) (by omega)
    · rw [push_m X _ _ _ (live_lt hi)] at ei
      rcases push_live hj with rfl | hj
      · rw [push_at] at ej; injection ej with ej
        exact absurd (hX.lt ⟨i, hi, ei⟩) (by omega)
      · rw [push_m X _ _ _ (live_lt hj)] at ej
        exact hX.inj i j b hi hj ei ej
  · rcases hb with hb | hb
    · exact Nat.lt_of_lt_of_le (hX.badlt b o hb) S.size
    · subst hb; simp [Cx.push]
  · by_cases e : id = X.h.length
    · subst e
      rw [push_new] at hh
      injection hh with hh; injection hh with hh
      obtain ⟨ents, clock, rfl, h2⟩ := hm _ hh
      exact ⟨X.w.heap.size, ents, clock, by rw [push_at], hnew, h2.mono S⟩
    · have hl := hold id e _ hh
      rw [push_h X _ _ _ hl] at hh
      obtain ⟨b, ents, clock, h1, h2, h3⟩ := hX.map id es hh
      exact ⟨b, ents, clock, by rw [push_m X _ _ _ hl]; exact h1, by rw [hheap b ⟨id, ⟨_, hh⟩, h1⟩]; exact h2, h3.mono S⟩

theorem Ok.push {X : Cx} (hX : Ok X) {cvs : Array Value} {T : TypeId} {cap : Nat} {ob : Ob}
    (h : (∃ cells, ob = .blk cells ∧ cvs.size = cells.length ∧ ∀ (i : Nat) (a : AV) (x : Value), cells[i]? = some a → cvs[i]? = some x → Rep X a x) ∨
      (∃ size cells n, ob = .arr T size cells 0 ∧ 0 < size ∧ cells.length = n * size ∧ n ≤ cap ∧ cap ≤ maxLen ∧ cvs.size = cap * size ∧ ∀ (i : Nat) (a : AV) (x : Value), cells[i]? = some a → cvs[i]? = some x → Rep X a x)) :
    Ok (X.push (.cells cvs T) cap ob) := by
  rcases h with ⟨c, rfl, h1, h2⟩ | ⟨s, c, n, rfl, h0, h1, h2, h3, h4, h5⟩
  · exact Ok.pushG hX (fun cells e => by injection e with e; subst e; exact ⟨cvs, T, rfl, h1, h2⟩) (fun _ _ _ _ e => by cases e) (fun _ e => by cases e)
  · exact Ok.pushG hX (fun cells e => by cases e) (fun T' s' c' fz e => by injection e with e1 e2 e3 e4; subst e1 e2 e3 e4; exact ⟨rfl, cvs, n, rfl, h0, h1, h2, h3, h4, h5⟩) (fun _ e => by cases e)
end Go.Proofs.YtljfgdlgmdcmfaaGreat.Wv
