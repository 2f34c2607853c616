/- For every input KeysForms returns true and leaves its arguments as they are. No conditions. -/
import Derived.Test.YtjfjbkocopaehaaRows
import Derived.Test.YtjfjbkocopaehaaRowA
import Derived.Test.YtjfjbkocopaehaaRowC
import Derived.Test.YtjfjbkocopaehaaRngK
import Derived.OpenShut
import Derived.ChangeOld
namespace Go.Proofs.Ytjfjbkocopaehaa
open Go.ChangeShapes Go.WideShapes Go.ChangeAt Go.RowKit
set_option linter.unusedVariables false

theorem keysForms_own : ownKnob Try.prog.godebug = none := by kernel_rfl
theorem keysForms_laidOut : laidOutB Try.prog = true := by kernel_rfl

set_option maxRecDepth 100000 in
theorem keysForms_lifted (os : Os) (started : os.Started) (H : Type) (enc : TypeId × Value → H) :
    ReturnsInHanded {} Try.checked os 6 .any (Rows.keysFormsSpec.pre6 enc Try.prog Try.f6 Rows.keysFormsRow.domain false) (Rows.keysFormsSpec.post enc Try.prog Try.f6 false true false false) := by
  refine returnsInHanded_of_change_sized (C := Try.checked) keysForms_own started (by kernel_rfl) Try.func6
    (ChangeSpec.witness6 (enc := enc) (C := Try.checked) false ⟨#[], #[.agg #[.int .i64 0, .int .u32 0, .int .i64 0, .slice none 0 0, .int .u32 0, .int .i64 0, .int .u32 0], .agg #[.int .i64 0, .bool false, .slice none 0 0, .int .i64 0, .bool false, .slice none 0 0]], []⟩ 8 (by kernel_rfl) (by kernel_rfl) (by kernel_rfl) (by kernel_rfl)) ?_
  intro W base args ds gs before hval0 hW hcnd hsz0 _
  have hval : ∀ (j : Nat) t v, Try.f6.params[j]? = some t → args[j]? = some v → Value.okWide Try.prog W .any base t v := hval0
  have hsz1 : (DataW.weightsEach Try.prog (Try.f6.params.toList ++ Rows.keysFormsSpec.plain.varTypes Try.prog) (ds ++ gs)).all (· ≤ reachBytes) = true := hsz0
  have hW' := hW
  obtain ⟨p, q, hA0, hV, rfl, hfz, hnd⟩ := hW
  have hA : DataW.TrodAll enc Try.prog W 0 (fun _ => true) true Try.f6.params.toList args.toList ds p := hA0
  rw [Try.params6] at hA hval hsz1
  obtain ⟨v0, vs0, d0, ds0, p0, q0, hargs, rfl, rfl, h0, r0⟩ := trodAll_cons hA
  obtain ⟨v1, vs1, d1, ds1, p1, q1, rfl, rfl, rfl, h1, r1⟩ := trodAll_cons r0
  obtain ⟨rfl, rfl, rfl⟩ := trodAll_nil r1
  obtain rfl : args = #[v0, v1] := by cases args; simp_all
  obtain ⟨rfl, rfl⟩ := trodVars_none hV
  have hsz : (DataW.weightsEach Try.prog [25, 53] [d0, d1]).all (· ≤ reachBytes) = true := hsz1
  have k0 := h0
  have lt0 : ∀ x ∈ p0, x.block < W.heap.size := by obtain ⟨m, hm⟩ := k0; exact DataW.trod_lt m _ _ _ hm
  have k1 := h1
  have lt1 : ∀ x ∈ p1, x.block < W.heap.size := by obtain ⟨m, hm⟩ := k1; exact DataW.trod_lt m _ _ _ hm
  obtain ⟨cs0, fu0, rfl, ht0⟩ := trod_cells Try.underlying25 (hval 0 25 v0 rfl rfl) h0
  obtain ⟨x0, cv0, rfl, hx0, hcv0, hb0⟩ := par_of ht0 (light_arg hsz (j := 0) rfl rfl)
  obtain ⟨cs1, fu1, rfl, ht1⟩ := trod_cells Try.underlying53 (hval 1 53 v1 rfl rfl) h1
  obtain ⟨ea1, eb1, ua1, ub1, rfl, hu1, hv1⟩ := pub_of ht1 (light_arg hsz (j := 1) rfl rfl)
  clear hA0 hval0
  refine (kforms_any x0 cv0 ua1 ub1 ea1 eb1 W hx0 hcv0 hu1 hv1).mono fun e W' ⟨he, bel⟩ => ?_
  subst he
  exact ⟨_, rfl, _, _, _, [], _, [], hW', trodAll_mk1 (shut_bool Try.underlying4 _), (trodAll_cons_mk (Below.trod keysForms_laidOut (by kernel_rfl) (of_decide_eq_true (by kernel_rfl)) k0 bel lt0) (trodAll_cons_mk (Below.trod keysForms_laidOut (by kernel_rfl) (of_decide_eq_true (by kernel_rfl)) k1 bel lt1) trodAll_mk0)), rfl, bel.frame _, fun h => by cases h⟩

theorem keysForms_over : Rows.keysFormsRow.holds Try.pinned (OpenSpec.ofChange Rows.keysFormsSpec) :=
  OpenClaim.holds_of_wide 6 Try.f6 rfl rfl rfl rfl rfl rfl rfl ⟨rfl, rfl, rfl, rfl, rfl⟩ rfl rfl rfl rfl rfl (by kernel_rfl) Try.func6 (by kernel_rfl)
    (of_decide_eq_true (by kernel_rfl)) (by unfold Func.isWrapper; first | (rw [if_pos (by decide +kernel)]; kernel_rfl) | (rw [if_neg (by decide +kernel)]; exact ⟨rfl, rfl⟩))
    (fun os started H enc _ => keysForms_lifted os started H enc)

/-- The statement. -/
theorem keysForms_holds : Rows.KeysFormsSaid := keysForms_over
#print axioms keysForms_holds
end Go.Proofs.Ytjfjbkocopaehaa
