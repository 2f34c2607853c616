/- Memory of the call's own, block by block; slices of integers by their lists. Walks of the layer of keys: secrets: SameSecret, secret, CheckSecret (both), Automorphism. Walks of the layer of keys: CheckSecret, the reference's CheckSecret and Automorphism. -/
import Derived.Test.YtjfjbkocopaehaaDoorParY
import Derived.Test.YtjfjbkocopaehaaDoorMthA
import Derived.Test.YtjfjbkocopaehaaDoorParF
/-! Memory of the call's own, block by block; slices of integers by their lists. -/
namespace Go.Proofs.YtjfjbkocopaehaaDoor
open Go.RowKit

/-- Block g consists of these cells. -/
def Blk (w : World) (g : Nat) (cs : List Value) (T : TypeId) : Prop := w.heap[g]? = some (.cells cs.toArray T (0, 0))

theorem Blk.lt {w : World} {g : Nat} {cs : List Value} {T : TypeId} (h : Blk w g cs T) : g < w.heap.size := lt_of_block h
theorem Blk.cell {w : World} {g : Nat} {cs : List Value} {T : TypeId} (h : Blk w g cs T) (i : Nat) (hi : i < cs.length) : w.cell? ⟨g, i, none⟩ = some cs[i] := by
  unfold Blk at h
  simp only [World.cell?, h, Option.isSome_none, Bool.false_eq_true, if_false]
  simp [hi]
theorem Blk.free {w : World} {g : Nat} {cs : List Value} {T : TypeId} (h : Blk w g cs T) (i : Nat) : w.frozen? ⟨g, i, none⟩ = false := by
  unfold Blk at h
  simp [World.frozen?, h]
theorem Blk.below {w w' : World} {g B : Nat} {cs : List Value} {T : TypeId} (h : Blk w g cs T) (hb : Below B w w') (hg : g < B) : Blk w' g cs T := (hb.block g hg).trans h
theorem Blk.new (w : World) (cs : Array Value) (T : TypeId) : Blk (w.alloc (.cells cs T)) w.heap.size cs.toList T := by
  unfold Blk
  show (w.heap.push _)[w.heap.size]? = _
  rw [Array.getElem?_push_size]
theorem Blk.alloc {w : World} {g : Nat} {cs : List Value} {T : TypeId} (h : Blk w g cs T) (o : Obj) : Blk (w.alloc o) g cs T := (Below.heap_alloc w o g h.lt).trans h
theorem Blk.drew {w : World} {g : Nat} {cs : List Value} {T : TypeId} (h : Blk w g cs T) : Blk w.drew g cs T := h
theorem Blk.drewN {w : World} {g : Nat} {cs : List Value} {T : TypeId} (h : Blk w g cs T) (n : Nat) : Blk (w.drewN n) g cs T := h
theorem Blk.other {w : World} {g : Nat} {cs : List Value} {T : TypeId} (h : Blk w g cs T) {a : Addr} (ha : g ≠ a.block) (u : Value) : Blk (w.setCell a u) g cs T := (Below.heap_setCell w a u g ha).trans h
theorem Blk.set {w : World} {g : Nat} {cs : List Value} {T : TypeId} (h : Blk w g cs T) (i : Nat) (u : Value) : Blk (w.setCell ⟨g, i, none⟩ u) g (cs.set i u) T := by
  have hlt := h.lt
  unfold Blk at h ⊢
  have h' : w.heap[g] = .cells cs.toArray T (0, 0) := by rw [Array.getElem?_eq_getElem hlt] at h; exact Option.some.inj h
  show (w.heap.modify g _)[g]? = _
  rw [Array.getElem?_eq_getElem (by simpa using hlt), Array.getElem_modify_self, h']
  simp

theorem below_at {w w' : World} {B k i : Nat} (h : Below B w w') (hk : k < B) : w'.cell? ⟨k, i, none⟩ = w.cell? ⟨k, i, none⟩ := h.cell (p := ⟨k, i, none⟩) hk

/-- The integers of a kind in a row of memory. -/
structure RowZ (k : IntKind) (w : World) (b off : Nat) (l : List Int) : Prop where
  blk : b < w.heap.size
  cell : ∀ i (h : i < l.length), w.cell? ⟨b, off + i, none⟩ = some (.int k l[i])
  rng : ∀ q, q ∈ l → (Lit.int k q).wf = true

theorem RowZ.below {k : IntKind} {w w' : World} {b off B : Nat} {l : List Int} (h : RowZ k w b off l) (hb : Below B w w') (ha : b < B) : RowZ k w' b off l :=
  ⟨Nat.lt_of_lt_of_le h.blk hb.size, fun i hi => by rw [hb.cell (p := ⟨b, _, none⟩) ha]; exact h.cell i hi, h.rng⟩

/-- A slice of integers: its value, its list. -/
def SliceZ (k : IntKind) (w : World) (v : Value) (l : List Int) : Prop :=
  ∃ (p : Option Addr) (cap : Nat), v = .slice p l.length cap ∧ l.length ≤ cap ∧ l.length ≤ 140737488351232 ∧ (l ≠ [] → ∃ b off, p = some ⟨b, off, none⟩ ∧ RowZ k w b off l)

theorem SliceZ.below {k : IntKind} {w w' : World} {v : Value} {l : List Int} (h : SliceZ k w v l) (hb : Below w.heap.size w w') : SliceZ k w' v l := by
  obtain ⟨p, cap, h1, h2, h3, h4⟩ := h
  exact ⟨p, cap, h1, h2, h3, fun hne => by obtain ⟨b, off, e, hr⟩ := h4 hne; exact ⟨b, off, e, hr.below hb hr.blk⟩⟩

theorem SliceAt.below {w w' : World} {v : Value} {l : List Nat} (h : SliceAt w v l) (hb : Below w.heap.size w w') : SliceAt w' v l := by
  obtain ⟨p, cap, h1, h2, h3, h4⟩ := h
  exact ⟨p, cap, h1, h2, h3, fun hne => by obtain ⟨b, off, e, hr⟩ := h4 hne; exact ⟨b, off, e, hr.below hb hr.blk⟩⟩

theorem SliceZ.nil (k : IntKind) (w : World) : SliceZ k w (.slice none 0 0) [] := ⟨none, 0, rfl, Nat.le_refl _, by simp, fun h => absurd rfl h⟩

/-- A block that the call owns, as a slice. -/
theorem SliceZ.ofBlk {k : IntKind} {w : World} {g : Nat} {l : List Int} {T : TypeId} (h : Blk w g (l.map (Value.int k)) T) (hl : l.length ≤ 140737488351232) (hr : ∀ q, q ∈ l → (Lit.int k q).wf = true) :
    SliceZ k w (.slice (some ⟨g, 0, none⟩) l.length l.length) l :=
  ⟨_, _, rfl, Nat.le_refl _, hl, fun _ => ⟨g, 0, rfl, h.lt, fun i hi => by
    have := h.cell i (by rw [List.length_map]; exact hi)
    rw [Nat.zero_add, this, List.getElem_map], hr⟩⟩

/-- A row that the call owns, as a slice. -/
theorem SliceZ.ofOwns {k : IntKind} {w : World} {base : Nat} {e : TypeId} {v : Value} {n : Nat} {l : List Int} (h : w.ownsRow base e 1 v n (l.map (Value.int k))) (hl : l.length ≤ 140737488351232) (hr : ∀ q, q ∈ l → (Lit.int k q).wf = true) : SliceZ k w v l := by
  have hn : l.length = n := by simpa using h.1
  rcases h.2 with ⟨rfl, h0⟩ | ⟨g, cap, cur, rfl, hb, hg, hnc, hm, hs, ht⟩
  · have : l = [] := List.length_eq_zero_iff.1 (by omega)
    subst this; exact SliceZ.nil k w
  · subst hn
    refine ⟨_, cap, rfl, hnc, hl, fun _ => ⟨g, 0, rfl, lt_of_block hg, fun i hi => ?_, hr⟩⟩
    have e1 : (cur.toList.take (l.length * 1))[i]? = (l.map (Value.int k))[i]? := by rw [ht]
    rw [List.getElem?_take, if_pos (by omega), Array.getElem?_toList, List.getElem?_map, List.getElem?_eq_getElem hi] at e1
    simp only [World.cell?, hg, Nat.zero_add, Option.isSome_none, Bool.false_eq_true, if_false]
    rw [e1]; rfl

theorem wf_i8 {z : Int} (h : (Lit.int .i8 z).wf = true) : -128 ≤ z ∧ z ≤ 127 := by
  simp [Lit.wf, IntKind.min, IntKind.max, IntKind.bits, IntKind.signed] at h; omega
theorem wf_i8_mk {z : Int} (h : -128 ≤ z ∧ z ≤ 127) : (Lit.int .i8 z).wf = true := by
  simp [Lit.wf, IntKind.min, IntKind.max, IntKind.bits, IntKind.signed]; omega
end Go.Proofs.YtjfjbkocopaehaaDoor

/-! Walks of the layer of keys: secrets: SameSecret, secret, CheckSecret (both), Automorphism. -/
namespace Go.Proofs.YtjfjbkocopaehaaDoor
open Go.RowKit

/-- A boxed struct of one slice. -/
theorem box1_cell (w : World) (v : Value) (T : TypeId) : (w.alloc (.cells #[v] T)).cell? ⟨w.heap.size, 0, none⟩ = some v := by simp [go_sem]

theorem getD_lt {l : List Int} {i : Nat} (h : i < l.length) : l.getD i 0 = l[i] := by rw [List.getD_eq_getElem?_getD, List.getElem?_eq_getElem h]; rfl

theorem list_ne_at {l m : List Int} {i : Nat} (h1 : i < l.length) (h2 : i < m.length) (h : l[i] ≠ m[i]) : l ≠ m := by
  intro e; subst e; exact h rfl

theorem list_eq_of {l m : List Int} (hl : l.length = m.length) (h : ∀ j (h1 : j < l.length) (h2 : j < m.length), l[j] = m[j]) : l = m :=
  List.ext_getElem hl (fun i h1 h2 => h i h1 h2)

end Go.Proofs.YtjfjbkocopaehaaDoor

/-! Walks of the layer of keys: CheckSecret, the reference's CheckSecret and Automorphism. -/
namespace Go.Proofs.YtjfjbkocopaehaaDoor
open Go.RowKit

theorem csec_no {pr : Nat → Bool} {x : Par} {l : List Int} (h : okB pr x = false ∨ secB x l = false) : csec pr x l = 2 := by
  unfold csec; rcases h with h | h <;> rw [h] <;> simp
theorem csec_yes {pr : Nat → Bool} {x : Par} {l : List Int} (h : okB pr x = true) (h2 : secB x l = true) : csec pr x l = 0 := by
  unfold csec; rw [h, h2]; rfl

end Go.Proofs.YtjfjbkocopaehaaDoor
