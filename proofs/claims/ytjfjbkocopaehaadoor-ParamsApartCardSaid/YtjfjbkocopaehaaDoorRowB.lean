/- What arguments read as: pairs of integers. -/
import Derived.Test.YtjfjbkocopaehaaDoorRowA
import Derived.OpenShut
namespace Go.Proofs.YtjfjbkocopaehaaDoor
open Go.ChangeShapes Go.WideShapes Go.ChangeAt Go.RowKit Go.Deep

section
variable {H : Type} {enc : TypeId × Value → H} {P : Program} {w : World} {base : Nat} {spare : Nat → Bool} {held : Bool} {fuel : Nat} {cs : List Value} {x : DataW H × List MemPlace}
theorem trod_two {t e : TypeId} (ht : P.underlying t = some (.array 2 e)) (he : P.cellsOf e = 1) (hC : P.cellsOf t = 2) (h : DataW.trod enc P w base spare held fuel t cs = some x) :
    ∃ (c0 c1 : Value) (y0 y1 : DataW H × List MemPlace) (n : Nat), cs = [c0, c1] ∧ DataW.trod enc P w base spare held n e [c0] = some y0 ∧ DataW.trod enc P w base spare held n e [c1] = some y1 := by
  obtain ⟨xs, n, _, _, hcl, hlen, hg⟩ := DataW.trod_array ht h
  rw [hC] at hcl
  match cs, hcl with
  | [c0, c1], _ =>
    match xs, hlen with
    | [y0, y1], _ => exact ⟨c0, c1, y0, y1, n, rfl, by simpa [he] using hg 0 (by decide), by simpa [he] using hg 1 (by decide)⟩
theorem trod_cells2 {b0 n : Nat} {r : Reach} {t e : TypeId} {v : Value} {d : DataW H} {p : List MemPlace} (hs : P.underlying t = some (.array n e))
    (hv : Value.okWide P w r b0 t v) (h : DataW.Trod enc P w base spare held t v d p) : ∃ (cs : List Value) (fuel : Nat), v = .agg cs.toArray ∧ DataW.trod enc P w base spare held fuel t cs = some (d, p) := by
  simp only [Value.okWide, hs] at hv
  obtain ⟨cs, rfl, _, _⟩ := hv
  obtain ⟨fuel, hf⟩ := h
  exact ⟨cs.toList, fuel, rfl, hf⟩
end

set_option maxRecDepth 100000 in
theorem pair_of {H : Type} {enc : TypeId × Value → H} {w : World} {base b0 : Nat} {spare : Nat → Bool} {held : Bool} {r : Reach} {v : Value} {d : DataW H} {p : List MemPlace}
    (hv : Value.okWide Tryd.prog w r b0 115 v) (h : DataW.Trod enc Tryd.prog w base spare held 115 v d p) :
    ∃ a b : Int, v = .agg #[.int .i64 a, .int .i64 b] ∧ (Lit.int .i64 a).wf = true ∧ (Lit.int .i64 b).wf = true := by
  obtain ⟨cs, fuel, rfl, hf⟩ := trod_cells2 Tryd.underlying115 hv h
  obtain ⟨c0, c1, y0, y1, n, rfl, g0, g1⟩ := trod_two Tryd.underlying115 (by kernel_rfl) (by kernel_rfl) hf
  obtain ⟨a, e0, _, wa⟩ := DataW.trod_int Tryd.underlying3 g0
  obtain ⟨b, e1, _, wb⟩ := DataW.trod_int Tryd.underlying3 g1
  simp only [List.cons.injEq, and_true] at e0 e1
  subst e0 e1
  exact ⟨a, b, rfl, wa, wb⟩
end Go.Proofs.YtjfjbkocopaehaaDoor
