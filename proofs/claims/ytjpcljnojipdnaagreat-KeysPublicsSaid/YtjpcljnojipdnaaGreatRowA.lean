/- What arguments read as: slices of integers, parameters, secrets. -/
import Derived.Test.YtjpcljnojipdnaaGreatKeyX
import Derived.ProofKit
import Derived.SizedLaws
import Derived.Deep.Fields
namespace Go.Proofs.YtjpcljnojipdnaaGreat
open Go.ChangeShapes Go.WideShapes Go.ChangeAt Go.RowKit Go.Deep

/-- All that a datum weighs is within the reach. -/
def Light {H : Type} (T : TypeId) (d : DataW H) : Prop := ∀ n, n ∈ d.weights Tryz.prog T → n ≤ reachBytes

theorem light_arg {H : Type} {ts : List TypeId} {ds : List (DataW H)} (h : (DataW.weightsEach Tryz.prog ts ds).all (· ≤ reachBytes) = true) {j : Nat} {t : TypeId} {d : DataW H} (ht : ts[j]? = some t) (hd : ds[j]? = some d) : Light t d := by
  intro n hn
  have := List.all_eq_true.1 h _ (DataW.weights_mem_each ht hd n hn)
  simpa using this
theorem light_field {H : Type} {T : TypeId} {fs : Array Field} {parts : List (DataW H)} (hu : Tryz.prog.underlying T = some (.struct fs)) (h : Light T (.agg parts)) (j : Nat) {f : Field} {d : DataW H} (hf : fs[j]? = some f) (hd : parts[j]? = some d) : Light f.type d := by
  intro n hn
  refine h n ?_
  simp only [DataW.weights, hu]
  exact DataW.weights_mem_each (j := j) (t := f.type) (by simp [hf]) hd n hn

section
variable {H : Type} {enc : TypeId × Value → H} {P : Program} {w : World} {base : Nat} {spare : Nat → Bool} {held : Bool} {fuel : Nat} {cs : List Value} {x : DataW H × List MemPlace}
/-! A struct's fields, each read by itself. (Printed by gen_RowA.py.) -/
theorem trod_agg1 {t : TypeId} {f0 : Field} (hs : P.underlying t = some (.struct #[f0])) (hone : oneCellFields P #[f0] = true) (hC : P.cellsOf t = 1)
    (h : DataW.trod enc P w base spare held fuel t cs = some x) :
    ∃ (c0 : Value) (y0 : DataW H × List MemPlace) (n : Nat), cs = [c0] ∧ x.1 = .agg [y0.1] ∧ DataW.trod enc P w base spare held n f0.type [c0] = some y0 := by
  obtain ⟨xs, n, _, rfl, hcl, hlen, hg⟩ := DataW.trod_struct hs h
  rw [hC] at hcl
  match cs, hcl with
  | [c0], _ =>
    obtain ⟨o0, k0⟩ := hone_of hone 0 f0 rfl
    match xs, hlen with
    | [y0], _ =>
      exact ⟨c0, y0, n, rfl, by simp, by simpa [o0, k0] using hg 0 f0 rfl⟩
theorem trod_agg3 {t : TypeId} {f0 f1 f2 : Field} (hs : P.underlying t = some (.struct #[f0, f1, f2])) (hone : oneCellFields P #[f0, f1, f2] = true) (hC : P.cellsOf t = 3)
    (h : DataW.trod enc P w base spare held fuel t cs = some x) :
    ∃ (c0 c1 c2 : Value) (y0 y1 y2 : DataW H × List MemPlace) (n : Nat), cs = [c0, c1, c2] ∧ x.1 = .agg [y0.1, y1.1, y2.1] ∧ DataW.trod enc P w base spare held n f0.type [c0] = some y0 ∧ DataW.trod enc P w base spare held n f1.type [c1] = some y1 ∧ DataW.trod enc P w base spare held n f2.type [c2] = some y2 := by
  obtain ⟨xs, n, _, rfl, hcl, hlen, hg⟩ := DataW.trod_struct hs h
  rw [hC] at hcl
  match cs, hcl with
  | [c0, c1, c2], _ =>
    obtain ⟨o0, k0⟩ := hone_of hone 0 f0 rfl
    obtain ⟨o1, k1⟩ := hone_of hone 1 f1 rfl
    obtain ⟨o2, k2⟩ := hone_of hone 2 f2 rfl
    match xs, hlen with
    | [y0, y1, y2], _ =>
      exact ⟨c0, c1, c2, y0, y1, y2, n, rfl, by simp, by simpa [o0, k0] using hg 0 f0 rfl, by simpa [o1, k1] using hg 1 f1 rfl, by simpa [o2, k2] using hg 2 f2 rfl⟩
theorem trod_agg7 {t : TypeId} {f0 f1 f2 f3 f4 f5 f6 : Field} (hs : P.underlying t = some (.struct #[f0, f1, f2, f3, f4, f5, f6])) (hone : oneCellFields P #[f0, f1, f2, f3, f4, f5, f6] = true) (hC : P.cellsOf t = 7)
    (h : DataW.trod enc P w base spare held fuel t cs = some x) :
    ∃ (c0 c1 c2 c3 c4 c5 c6 : Value) (y0 y1 y2 y3 y4 y5 y6 : DataW H × List MemPlace) (n : Nat), cs = [c0, c1, c2, c3, c4, c5, c6] ∧ x.1 = .agg [y0.1, y1.1, y2.1, y3.1, y4.1, y5.1, y6.1] ∧ DataW.trod enc P w base spare held n f0.type [c0] = some y0 ∧ DataW.trod enc P w base spare held n f1.type [c1] = some y1 ∧ DataW.trod enc P w base spare held n f2.type [c2] = some y2 ∧ DataW.trod enc P w base spare held n f3.type [c3] = some y3 ∧ DataW.trod enc P w base spare held n f4.type [c4] = some y4 ∧ DataW.trod enc P w base spare held n f5.type [c5] = some y5 ∧ DataW.trod enc P w base spare held n f6.type [c6] = some y6 := by
  obtain ⟨xs, n, _, rfl, hcl, hlen, hg⟩ := DataW.trod_struct hs h
  rw [hC] at hcl
  match cs, hcl with
  | [c0, c1, c2, c3, c4, c5, c6], _ =>
    obtain ⟨o0, k0⟩ := hone_of hone 0 f0 rfl
    obtain ⟨o1, k1⟩ := hone_of hone 1 f1 rfl
    obtain ⟨o2, k2⟩ := hone_of hone 2 f2 rfl
    obtain ⟨o3, k3⟩ := hone_of hone 3 f3 rfl
    obtain ⟨o4, k4⟩ := hone_of hone 4 f4 rfl
    obtain ⟨o5, k5⟩ := hone_of hone 5 f5 rfl
    obtain ⟨o6, k6⟩ := hone_of hone 6 f6 rfl
    match xs, hlen with
    | [y0, y1, y2, y3, y4, y5, y6], _ =>
      exact ⟨c0, c1, c2, c3, c4, c5, c6, y0, y1, y2, y3, y4, y5, y6, n, rfl, by simp, by simpa [o0, k0] using hg 0 f0 rfl, by simpa [o1, k1] using hg 1 f1 rfl, by simpa [o2, k2] using hg 2 f2 rfl, by simpa [o3, k3] using hg 3 f3 rfl, by simpa [o4, k4] using hg 4 f4 rfl, by simpa [o5, k5] using hg 5 f5 rfl, by simpa [o6, k6] using hg 6 f6 rfl⟩

/-- An argument that is a struct. -/
theorem trod_cells {b0 : Nat} {r : Reach} {t : TypeId} {fs : Array Field} {v : Value} {d : DataW H} {p : List MemPlace} (hs : P.underlying t = some (.struct fs))
    (hv : Value.okWide P w r b0 t v) (h : DataW.Trod enc P w base spare held t v d p) : ∃ (cs : List Value) (fuel : Nat), v = .agg cs.toArray ∧ DataW.trod enc P w base spare held fuel t cs = some (d, p) := by
  obtain ⟨cs, rfl, _⟩ := okWide_struct hs hv
  obtain ⟨fuel, hf⟩ := h
  exact ⟨cs.toList, fuel, rfl, hf⟩
end

section
variable {H : Type} {enc : TypeId × Value → H} {w : World} {base : Nat} {spare : Nat → Bool} {held : Bool} {fuel : Nat} {cs : List Value} {x : DataW H × List MemPlace}

/-- A slice of integers, as a list. -/
theorem sliceZ_of {k : IntKind} {T E : TypeId} (ht : Tryz.prog.underlying T = some (.slice E)) (he : Tryz.prog.underlying E = some (.int k)) (hc : Tryz.prog.cellsOf E = 1) (hn : 1 ≤ Tryz.prog.bytesOf E)
    (h : DataW.trod enc Tryz.prog w base spare held fuel T cs = some x) (hsz : Light T x.1) : ∃ v l, cs = [v] ∧ SliceZ k w v l := by
  rcases open_ints ht he hc h with ⟨rfl, rfl⟩ | ⟨a, len, cap, zs, rfl, _, hl, hm, hz, rfl, hcell, hwz⟩
  · exact ⟨_, [], rfl, SliceZ.nil _ _⟩
  · have hlz : len ≤ zs.length := by rw [hz]; split <;> omega
    have hbig : (zs.length) * Tryz.prog.bytesOf E ≤ reachBytes := by
      have := hsz (((lits k (zs.take len) : List (DataW H)).length + (lits k (zs.drop len) : List (DataW H)).length) * Tryz.prog.bytesOf E) (by simp [DataW.weights, ht])
      simp only [lits, List.length_map, List.length_take, List.length_drop] at this
      rwa [Nat.min_eq_left hlz, Nat.add_sub_cancel' hlz] at this
    have hlen : zs.length ≤ 140737488351232 := Nat.le_trans (Nat.le_trans (by simpa using Nat.mul_le_mul_left zs.length hn) hbig) (by decide)
    refine ⟨_, zs.take len, rfl, some a, cap, by rw [List.length_take, Nat.min_eq_left hlz], by rw [List.length_take, Nat.min_eq_left hlz]; exact hl, by rw [List.length_take, Nat.min_eq_left hlz]; omega, fun hne => ?_⟩
    have h0 : 0 < zs.length := by
      rcases Nat.eq_zero_or_pos zs.length with h0 | h0
      · exact absurd (by rw [List.length_eq_zero_iff.1 h0]; simp) hne
      · exact h0
    obtain ⟨b, off, rfl, hcc⟩ := ints_at hcell h0
    refine ⟨b, off, rfl, ?_, fun i hi => ?_, fun q hq => hwz q (List.mem_of_mem_take hq)⟩
    · have := hcc 0 h0
      exact World.block_lt_of_cell? w ⟨b, off + 0, none⟩ this
    · have hi' : i < len := by simpa using Nat.lt_of_lt_of_le hi (by rw [List.length_take]; omega)
      rw [hcc i (by omega), List.getElem_take, List.getD_eq_getElem?_getD, List.getElem?_eq_getElem (by omega)]; rfl

theorem SliceZ.asAt {v : Value} {l : List Int} (h : SliceZ .u32 w v l) : SliceAt w v (l.map Int.toNat) := by
  obtain ⟨p, cap, rfl, h2, h3, h4⟩ := h
  refine ⟨p, cap, by rw [List.length_map], by rw [List.length_map]; exact h2, by rw [List.length_map]; exact h3, fun hne => ?_⟩
  obtain ⟨b, off, rfl, hr⟩ := h4 (by intro e; apply hne; rw [e]; rfl)
  have hwf : ∀ q, q ∈ l → 0 ≤ q ∧ q < 4294967296 := fun q hq => by
    have := hr.rng q hq
    simp [Lit.wf, IntKind.min, IntKind.max, IntKind.bits, IntKind.signed] at this
    omega
  refine ⟨b, off, rfl, hr.blk, fun i hi => ?_, fun q hq => ?_⟩
  · have hi' : i < l.length := by simpa using hi
    rw [hr.cell i hi', List.getElem_map, Int.toNat_of_nonneg (hwf _ (List.getElem_mem hi')).1]
  · obtain ⟨z, hz, rfl⟩ := List.mem_map.1 hq
    have := hwf z hz
    omega

theorem wf_u32 {z : Int} (h : (Lit.int .u32 z).wf = true) : 0 ≤ z ∧ z < 4294967296 := by
  simp [Lit.wf, IntKind.min, IntKind.max, IntKind.bits, IntKind.signed] at h; omega
theorem wf_int {z : Int} (h : (Lit.int .i64 z).wf = true) : -9223372036854775808 ≤ z ∧ z ≤ 9223372036854775807 := by
  simp [Lit.wf, IntKind.min, IntKind.max, IntKind.bits, IntKind.signed] at h; omega

/-- Parameters. -/
theorem par_of (h : DataW.trod enc Tryz.prog w base spare held fuel 25 cs = some x) (hsz : Light 25 x.1) :
    ∃ y cv, cs = (Par.val y cv).cells.toList ∧ ParOk y ∧ SliceAt w cv y.ch ∧ (-9223372036854775808 ≤ y.wt ∧ y.wt ≤ 9223372036854775807 ∧ y.er < 4294967296) := by
  obtain ⟨c0, c1, c2, c3, c4, c5, c6, y0, y1, y2, y3, y4, y5, y6, n, rfl, hx, g0, g1, g2, g3, g4, g5, g6⟩ := trod_agg7 Tryz.underlying25 (by kernel_rfl) (by kernel_rfl) h
  rw [hx] at hsz
  have l3 : Light 23 y3.1 := light_field Tryz.underlying25 hsz 3 rfl rfl
  obtain ⟨n0, e0, _, w0⟩ := DataW.trod_int Tryz.underlying3 g0
  obtain ⟨n1, e1, _, w1⟩ := DataW.trod_int Tryz.underlying22 g1
  obtain ⟨n2, e2, _, w2⟩ := DataW.trod_int Tryz.underlying3 g2
  obtain ⟨v3, l, e3, hs3⟩ := sliceZ_of (k := .u32) Tryz.underlying23 Tryz.underlying22 (by kernel_rfl) (Nat.le_of_ble_eq_true (by kernel_rfl)) g3 l3
  obtain ⟨n4, e4, _, w4⟩ := DataW.trod_int Tryz.underlying22 g4
  obtain ⟨n5, e5, _, w5⟩ := DataW.trod_int Tryz.underlying3 g5
  obtain ⟨n6, e6, _, w6⟩ := DataW.trod_int Tryz.underlying22 g6
  clear g0 g1 g2 g3 g4 g5 g6 h hx hsz l3
  simp only [List.cons.injEq, and_true] at e0 e1 e2 e3 e4 e5 e6
  subst e0 e1 e2 e3 e4 e5 e6
  have b0 := wf_int w0; have b1 := wf_u32 w1; have b2 := wf_int w2; have b4 := wf_u32 w4; have b5 := wf_int w5; have b6 := wf_u32 w6
  refine ⟨{ n := n0, p := n1.toNat, r := n2, ch := l.map Int.toNat, sp := n4.toNat, wt := n5, er := n6.toNat }, c3, ?_, ⟨b0.1, b0.2, by show n1.toNat < _; omega, b2.1, b2.2, by show n4.toNat < _; omega⟩, hs3.asAt, b5.1, b5.2, by show n6.toNat < _; omega⟩
  simp only [Par.val, Value.cells, Int.toNat_of_nonneg b1.1, Int.toNat_of_nonneg b4.1, Int.toNat_of_nonneg b6.1]

/-- A secret. -/
theorem sec_of (h : DataW.trod enc Tryz.prog w base spare held fuel 28 cs = some x) (hsz : Light 28 x.1) :
    ∃ v l, cs = [v] ∧ SliceZ .i8 w v l := by
  obtain ⟨c0, y0, n, rfl, hx, g0⟩ := trod_agg1 Tryz.underlying28 (by kernel_rfl) (by kernel_rfl) h
  rw [hx] at hsz
  have l0 : Light 26 y0.1 := light_field Tryz.underlying28 hsz 0 rfl rfl
  exact sliceZ_of (k := .i8) Tryz.underlying26 Tryz.underlying76 (by kernel_rfl) (Nat.le_of_ble_eq_true (by kernel_rfl)) g0 l0
end

end Go.Proofs.YtjpcljnojipdnaaGreat
