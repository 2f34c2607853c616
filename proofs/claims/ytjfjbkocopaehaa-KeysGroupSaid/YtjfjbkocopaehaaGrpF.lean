/- KeysGroup: all ways; what its argument reads as. -/
import Derived.Test.YtjfjbkocopaehaaGrpE
import Derived.Test.YtjfjbkocopaehaaRowA
namespace Go.Proofs.Ytjfjbkocopaehaa
open Go.ChangeShapes Go.WideShapes Go.ChangeAt Go.RowKit Go.Deep

theorem chk_vals (pr : Nat → Bool) (x : Par) : chk pr x = 0 ∨ chk pr x = 2 := by unfold chk; split <;> simp
theorem kgroup_any (x : Par) (cv sv : Value) (l : List Int) (a b : Int) (w : World) (hx : ParOk x) (hcv : SliceAt w cv x.ch) (hs : SliceZ .i8 w sv l) :
    Calls Try.prog 4 #[.agg #[.int .i64 x.n, .int .u32 x.p, .int .i64 x.r, cv, .int .u32 x.sp, .int .i64 x.wt, .int .u32 x.er, sv], .int .i64 a, .int .i64 b] w fun r w' => r = .returned (.bool true) ∧ Below w.heap.size w w' := by
  by_cases h : 200 < l.length
  · exact kgroup_long x cv sv l a b w hx hcv hs h
  · rcases chk_vals rPrime x with hc | hc
    · rcases csec_vals mPrime x l with hz | hz
      · exact kgroup_main x cv sv l a b w hx hcv hs (by omega) hc hz
      · exact kgroup_sec x cv sv l a b w hx hcv hs (by omega) hc hz
    · exact kgroup_bad x cv sv l a b w hx hcv hs (by omega) hc

section
variable {H : Type} {enc : TypeId × Value → H} {P : Program} {w : World} {base : Nat} {spare : Nat → Bool} {held : Bool} {fuel : Nat} {cs : List Value} {x : DataW H × List MemPlace}
/-- A struct of seven cells and one. -/
theorem trod_seven_one {t : TypeId} {f0 f1 : Field} (hs : P.underlying t = some (.struct #[f0, f1])) (o0 : f0.offset = 0) (o1 : f1.offset = 7) (k0 : P.cellsOf f0.type = 7) (k1 : P.cellsOf f1.type = 1) (hC : P.cellsOf t = 8)
    (h : DataW.trod enc P w base spare held fuel t cs = some x) :
    ∃ (cs0 : List Value) (c1 : Value) (y0 y1 : DataW H × List MemPlace) (n : Nat), cs = cs0 ++ [c1] ∧ x.1 = .agg [y0.1, y1.1] ∧ DataW.trod enc P w base spare held n f0.type cs0 = some y0 ∧ DataW.trod enc P w base spare held n f1.type [c1] = some y1 := by
  obtain ⟨xs, n, _, rfl, hcl, hlen, hg⟩ := DataW.trod_struct hs h
  rw [hC] at hcl
  match cs, hcl with
  | [c0, c1, c2, c3, c4, c5, c6, c7], _ =>
    match xs, hlen with
    | [y0, y1], _ => exact ⟨[c0, c1, c2, c3, c4, c5, c6], c7, y0, y1, n, rfl, by simp, by simpa [o0, k0] using hg 0 f0 rfl, by simpa [o1, k1] using hg 1 f1 rfl⟩
end
set_option maxRecDepth 100000 in
theorem own_of {H : Type} {enc : TypeId × Value → H} {w : World} {base : Nat} {spare : Nat → Bool} {held : Bool} {fuel : Nat} {cs : List Value} {y : DataW H × List MemPlace}
    (h : DataW.trod enc Try.prog w base spare held fuel 36 cs = some y) (hsz : Light 36 y.1) :
    ∃ x cv sv l, cs = [.int .i64 x.n, .int .u32 x.p, .int .i64 x.r, cv, .int .u32 x.sp, .int .i64 x.wt, .int .u32 x.er, sv] ∧ ParOk x ∧ SliceAt w cv x.ch ∧ SliceZ .i8 w sv l := by
  obtain ⟨cs0, c1, y0, y1, n, rfl, hx, g0, g1⟩ := trod_seven_one Try.underlying36 rfl rfl (by kernel_rfl) (by kernel_rfl) (by kernel_rfl) h
  rw [hx] at hsz
  have l0 : Light 25 y0.1 := light_field Try.underlying36 hsz 0 rfl rfl
  have l1 : Light 28 y1.1 := light_field Try.underlying36 hsz 1 rfl rfl
  obtain ⟨x, cv, rfl, hx1, hcv, _⟩ := par_of g0 l0
  obtain ⟨sv, l, e, hs⟩ := sec_of g1 l1
  simp only [List.cons.injEq, and_true] at e
  subst e
  exact ⟨x, cv, c1, l, rfl, hx1, hcv, hs⟩
end Go.Proofs.Ytjfjbkocopaehaa
