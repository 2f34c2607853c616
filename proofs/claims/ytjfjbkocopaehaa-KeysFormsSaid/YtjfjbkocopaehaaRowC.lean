/- What arguments read as: slices of one-cell elements, elements of the ring, public keys. -/
import Derived.Test.YtjfjbkocopaehaaRowA
import Derived.Test.YtjfjbkocopaehaaRngI
import Derived.Deep.Slices
namespace Go.Proofs.Ytjfjbkocopaehaa
open Go.ChangeShapes Go.WideShapes Go.ChangeAt Go.RowKit Go.Deep

section
variable {H : Type} {enc : TypeId × Value → H} {w : World} {base : Nat} {spare : Nat → Bool} {held : Bool} {fuel : Nat} {cs : List Value} {x : DataW H × List MemPlace}

theorem weights_all {P : Program} {e : TypeId} {ds : List (DataW H)} {d : DataW H} (hd : d ∈ ds) : ∀ n, n ∈ d.weights P e → n ∈ DataW.weightsAll P e ds := by
  induction ds with
  | nil => cases hd
  | cons a r ih =>
    intro n hn
    rw [DataW.weightsAll, List.mem_append]
    rcases List.mem_cons.1 hd with rfl | h
    · exact .inl hn
    · exact .inr (ih h n hn)
theorem light_elem {T E : TypeId} {es sp : List (DataW H)} (ht : Try.prog.underlying T = some (.slice E)) (h : Light T (.slice es sp)) {d : DataW H} (hd : d ∈ es) : Light E d := by
  intro n hn
  refine h n ?_
  simp only [DataW.weights, ht]
  exact List.mem_cons_of_mem _ (List.mem_append_left _ (weights_all hd n hn))

/-- A slice whose elements are one cell each, element by element. -/
theorem slice1_of {T E : TypeId} (ht : Try.prog.underlying T = some (.slice E)) (hc : Try.prog.cellsOf E = 1) (hn : 1 ≤ Try.prog.bytesOf E)
    (h : DataW.trod enc Try.prog w base spare held fuel T cs = some x) (hsz : Light T x.1) {α : Type} [Inhabited α] (R : Value → α → Prop)
    (hel : ∀ (v : Value) (y : DataW H × List MemPlace) (n : Nat), DataW.trod enc Try.prog w base spare held n E [v] = some y → Light E y.1 → ∃ a, R v a) :
    ∃ (p : Option Addr) (ls : List α) (cap : Nat), cs = [.slice p ls.length cap] ∧ ls.length ≤ cap ∧ ls.length ≤ 140737488351232 ∧
      (ls ≠ [] → ∃ b off, p = some ⟨b, off, none⟩ ∧ b < w.heap.size ∧ ∀ i (h : i < ls.length), ∃ u, w.cell? ⟨b, off + i, none⟩ = some u ∧ R u ls[i]) := by
  rcases open_slice1 ht hc h with ⟨rfl, _⟩ | ⟨a, len, cap, m, n, V, D, Pl, rfl, _, hl, _, hm, rfl, hx⟩
  · exact ⟨none, [], 0, rfl, Nat.le_refl _, by simp, fun h => absurd rfl h⟩
  · have hle : len ≤ m := by rw [hm]; split <;> omega
    have hbig : len ≤ 140737488351232 := by
      have := hsz ((((List.range len).map D).length + ((List.range (m - len)).map fun j => D (len + j)).length) * Try.prog.bytesOf E) (by simp [DataW.weights, ht])
      simp only [List.length_map, List.length_range] at this
      have h1 : len * 1 ≤ (len + (m - len)) * Try.prog.bytesOf E := Nat.mul_le_mul (by omega) hn
      have h2 : reachBytes ≤ 140737488351232 := by decide
      omega
    have each : ∀ i, i < len → ∃ a : α, R (V i) a := fun i hi =>
      hel (V i) _ n (hx i (by omega)).2 (light_elem ht hsz (List.mem_map.2 ⟨i, List.mem_range.2 hi, rfl⟩))
    obtain ⟨L, hL⟩ := choose_lt each
    refine ⟨some a, (List.range len).map L, cap, by simp, by simpa using hl, by simpa using hbig, fun hne => ?_⟩
    have h0 : 0 < len := by
      rcases Nat.eq_zero_or_pos len with h0 | h0
      · subst h0; exact absurd rfl hne
      · exact h0
    obtain ⟨b, off, spot⟩ := a
    have hspot : spot = none := by simpa [Addr.add] using World.cell?_spot (hx 0 (by omega)).1
    subst hspot
    refine ⟨b, off, rfl, ?_, fun i hi => ?_⟩
    · have := (hx 0 (by omega)).1
      rw [Go.WideShapes.add_plain] at this
      exact World.block_lt_of_cell? w ⟨b, off + 0, none⟩ this
    · have hi' : i < len := by simpa using hi
      have := (hx i (by omega)).1
      rw [Go.WideShapes.add_plain] at this
      exact ⟨_, this, by simpa using hL i hi'⟩

theorem sliceR_of (h : DataW.trod enc Try.prog w base spare held fuel 49 cs = some x) (hsz : Light 49 x.1) : ∃ v l, cs = [v] ∧ SliceR w v l := by
  obtain ⟨p, ls, cap, rfl, h2, h3, h4⟩ := slice1_of (E := 23) Try.underlying49 (by kernel_rfl) (Nat.le_of_ble_eq_true (by kernel_rfl)) h hsz (α := List Nat) (SliceAt w) (fun v y n hy hl => by
    obtain ⟨v', l, e, hs⟩ := sliceZ_of (k := .u32) Try.underlying23 Try.underlying22 (by kernel_rfl) (Nat.le_of_ble_eq_true (by kernel_rfl)) hy hl
    simp only [List.cons.injEq, and_true] at e
    subst e
    exact ⟨_, hs.asAt⟩)
  exact ⟨_, ls, rfl, p, cap, rfl, h2, h3, h4⟩

theorem six_of {α : Type} {l : List α} (h : l.length = 6) : ∃ a b c d e f, l = [a, b, c, d, e, f] := by
  match l, h with
  | [a, b, c, d, e, f], _ => exact ⟨a, b, c, d, e, f, rfl⟩
/-- An element of the ring. -/
theorem elem_of (h : DataW.trod enc Try.prog w base spare held fuel 51 cs = some x) (hsz : Light 51 x.1) :
    ∃ (a : El) (u : Value), cs = [.int .i64 a.lv, .bool a.sp, u] ∧ SliceR w u a.rows ∧ (-9223372036854775808 ≤ a.lv ∧ a.lv ≤ 9223372036854775807) := by
  obtain ⟨c0, c1, c2, y0, y1, y2, n, rfl, hx, g0, g1, g2⟩ := trod_agg3 Try.underlying51 (by kernel_rfl) (by kernel_rfl) h
  rw [hx] at hsz
  have l2 : Light 49 y2.1 := light_field Try.underlying51 hsz 2 rfl rfl
  obtain ⟨n0, e0, _, w0⟩ := DataW.trod_int Try.underlying3 g0
  obtain ⟨b1, e1, _⟩ := DataW.trod_bool Try.underlying4 g1
  obtain ⟨v, l, e2, hs⟩ := sliceR_of g2 l2
  simp only [List.cons.injEq, and_true] at e0 e1 e2
  subst e0 e1 e2
  exact ⟨⟨n0, b1, l⟩, c2, rfl, hs, wf_int w0⟩

/-- A public key. -/
theorem pub_of (h : DataW.trod enc Try.prog w base spare held fuel 53 cs = some x) (hsz : Light 53 x.1) :
    ∃ (a b : El) (u v : Value), cs = (pubVal a b u v).cells.toList ∧ SliceR w u a.rows ∧ SliceR w v b.rows := by
  obtain ⟨y0, y1, n, rfl, hl, g0, g1⟩ := trod_struct2 Try.underlying53 h
  have l0 : Light 51 y0.1 := light_field Try.underlying53 hsz 0 rfl rfl
  have l1 : Light 51 y1.1 := light_field Try.underlying53 hsz 1 rfl rfl
  obtain ⟨a, u, e0, h0, _⟩ := elem_of g0 l0
  obtain ⟨b, v, e1, h1, _⟩ := elem_of g1 l1
  have hc : Try.prog.cellsOf 53 = 6 := by kernel_rfl
  have hc2 : Try.prog.cellsOf 51 = 3 := by kernel_rfl
  rw [hc] at hl
  rw [hc2] at e0 e1
  refine ⟨a, b, u, v, ?_, h0, h1⟩
  obtain ⟨c0, c1, c2, c3, c4, c5, rfl⟩ := six_of hl
  have f0 : [c0, c1, c2] = [Value.int .i64 a.lv, Value.bool a.sp, u] := e0
  have f1 : [c3, c4, c5] = [Value.int .i64 b.lv, Value.bool b.sp, v] := e1
  simp only [List.cons.injEq, and_true] at f0 f1
  obtain ⟨rfl, rfl, rfl⟩ := f0
  obtain ⟨rfl, rfl, rfl⟩ := f1
  rfl
end
end Go.Proofs.Ytjfjbkocopaehaa
