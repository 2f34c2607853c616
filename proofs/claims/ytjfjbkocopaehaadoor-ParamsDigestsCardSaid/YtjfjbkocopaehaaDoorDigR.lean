/- For every input ParamsDigests returns true and leaves its argument as it is. No conditions but those of the row: the tables of strconv and math/bits lie as the program text lays them (the card ties them). -/
import Derived.Test.YtjfjbkocopaehaaDoorRows
import Derived.Test.YtjfjbkocopaehaaDoorRowA
import Derived.Test.YtjfjbkocopaehaaDoorRowB
import Derived.Test.YtjfjbkocopaehaaDoorDigE
import Derived.Test.YtjfjbkocopaehaaDoorDigF
import Derived.OpenShut
import Derived.Test.YtjfjbkocopaehaaDoorTie
import Derived.Test.YtjfjbkocopaehaaDoorCards
import Derived.Stop.LaidErr
import Derived.SevenTiedAt
import Derived.Lib.LaidTab
import Derived.ChangeOld
namespace Go.Proofs.YtjfjbkocopaehaaDoor
open Go.ChangeShapes Go.WideShapes Go.ChangeAt Go.RowKit
set_option linter.unusedVariables false

theorem paramsDigests_own : ownKnob Tryd.prog.godebug = none := by kernel_rfl
theorem paramsDigests_laidOut : laidOutB Tryd.prog = true := by kernel_rfl

/-- The settled world, the three tables holding what their initialisers lay: the witness. -/
noncomputable def paramsDigests_world (os : Os) : World :=
  { World.holding Tryd.prog os ⟨#[], #[], []⟩ with heap := ((((World.holding Tryd.prog os ⟨#[], #[], []⟩).heap.modify 0 fun
      | .cells _ t frozen => .cells (Lib.pow10Tab.map fun z => Value.int .u64 z).toArray t frozen
      | o => o).modify 1 fun
      | .cells _ t frozen => .cells (tab32.map fun z => Value.int .u8 z).toArray t frozen
      | o => o).modify 2 fun
      | .cells _ t frozen => .cells (tab64.map fun z => Value.int .u8 z).toArray t frozen
      | o => o) }
theorem paramsDigests_met (os : Os) (args : Array Value) : laidMet Tryd.prog Rows.paramsDigestsRow.laid ((paramsDigests_world os).forCall (fun _ _ => 0) ⟨#[], args, []⟩).memory :=
  laidMet_of_run' 8 (by kernel_rfl) (by kernel_rfl)
theorem paramsDigests_tab {W : World} (hL : laidMet Tryd.prog Rows.paramsDigestsRow.laid W) : Tab W :=
  Lib.tabIs_of_head (g := 0) (by kernel_rfl) (by kernel_rfl) Tryd.underlying104 Tryd.underlying68 (by kernel_rfl) (by kernel_rfl) hL.tail.tail

set_option maxRecDepth 100000 in
theorem paramsDigests_lifted (os : Os) (started : os.Started) (H : Type) (enc : TypeId × Value → H) :
    ReturnsInHanded {} Tryd.checked os 3 .any (fun w args => (Rows.paramsDigestsSpec.pre enc Tryd.prog Tryd.f3 Rows.paramsDigestsRow.domain false w args ∧ laidMet Tryd.prog Rows.paramsDigestsRow.laid w) ∧ sizedMet enc Tryd.prog Tryd.f3 (OpenSpec.ofChange Rows.paramsDigestsSpec) false w args) (Rows.paramsDigestsSpec.post enc Tryd.prog Tryd.f3 false true false false) := by
  refine returnsInHanded_of_change_and (C := Tryd.checked) (X := fun w _ => laidMet Tryd.prog Rows.paramsDigestsRow.laid w) (fun _ _ _ hh h => h.of_heap hh) paramsDigests_own started (by kernel_rfl) Tryd.func3
    (ChangeSpec.witness_at (enc := enc) (C := Tryd.checked) (os := os) (X := fun w _ => laidMet Tryd.prog Rows.paramsDigestsRow.laid w) false (paramsDigests_world os) #[.agg #[.int .i64 0, .int .u32 0, .int .i64 0, .slice none 0 0, .int .u32 0, .int .i64 0, .int .u32 0]] 8 rfl (by kernel_rfl) (by kernel_rfl) (by kernel_rfl) (by kernel_rfl) (by kernel_rfl) (paramsDigests_met os _)) ?_
  intro W base args ds gs before hval0 hW hcnd hsz0 hL _
  have ht := paramsDigests_tab hL
  have hval : ∀ (j : Nat) t v, Tryd.f3.params[j]? = some t → args[j]? = some v → Value.okWide Tryd.prog W .any base t v := hval0
  have hsz1 : (DataW.weightsEach Tryd.prog (Tryd.f3.params.toList ++ Rows.paramsDigestsSpec.plain.varTypes Tryd.prog) (ds ++ gs)).all (· ≤ reachBytes) = true := hsz0
  have hW' := hW
  obtain ⟨p, q, hA0, hV, rfl, hfz, hnd⟩ := hW
  have hA : DataW.TrodAll enc Tryd.prog W 0 (fun _ => true) true Tryd.f3.params.toList args.toList ds p := hA0
  rw [Tryd.params3] at hA hval hsz1
  obtain ⟨v0, vs0, d0, ds0, p0, q0, hargs, rfl, rfl, h0, r0⟩ := trodAll_cons hA
  obtain ⟨rfl, rfl, rfl⟩ := trodAll_nil r0
  obtain rfl : args = #[v0] := by cases args; simp_all
  obtain ⟨rfl, rfl⟩ := trodVars_none hV
  have hsz : (DataW.weightsEach Tryd.prog [25] [d0]).all (· ≤ reachBytes) = true := hsz1
  have k0 := h0
  have lt0 : ∀ x ∈ p0, x.block < W.heap.size := by obtain ⟨m, hm⟩ := k0; exact DataW.trod_lt m _ _ _ hm
  obtain ⟨cs0, fu0, rfl, ht0⟩ := trod_cells Tryd.underlying25 (hval 0 25 v0 rfl rfl) h0
  obtain ⟨x0, cv0, rfl, hx0, hcv0, hb0⟩ := par_of ht0 (light_arg hsz (j := 0) rfl rfl)
  clear hA0 hval0
  refine (pdigests_any x0 cv0 W hx0 hcv0 ht).mono fun e W' ⟨he, bel⟩ => ?_
  subst he
  exact ⟨_, rfl, _, _, _, [], _, [], hW', trodAll_mk1 (shut_bool Tryd.underlying4 _), (trodAll_cons_mk (Below.trod paramsDigests_laidOut (by kernel_rfl) (of_decide_eq_true (by kernel_rfl)) k0 bel lt0) trodAll_mk0), rfl, bel.frame _, fun h => by cases h⟩

theorem paramsDigests_over : Rows.paramsDigestsRow.holds Tryd.pinned (OpenSpec.ofChange Rows.paramsDigestsSpec) :=
  OpenClaim.holds_of_wide 3 Tryd.f3 rfl rfl rfl rfl rfl rfl rfl ⟨rfl, rfl, rfl, rfl, rfl⟩ rfl rfl rfl rfl rfl (by kernel_rfl) Tryd.func3 (by kernel_rfl)
    (of_decide_eq_true (by kernel_rfl)) (by unfold Func.isWrapper; first | (rw [if_pos (by decide +kernel)]; kernel_rfl) | (rw [if_neg (by decide +kernel)]; exact ⟨rfl, rfl⟩))
    (fun os started H enc _ => paramsDigests_lifted os started H enc)

/-- The statement: the tied card. -/
theorem paramsDigests_holds : Rows.ParamsDigestsCardSaid :=
  Claim7.holds_tied_plain_at .later [] [.data, .data, .data] true (Rows.paramsDigestsCard.stood.harness) false
    paramsDigests_over (fun _ h => by cases h) (by kernel_rfl) (fun _ h => by cases h) paramsDigests_row_tie rfl ⟨rfl, rfl⟩ (by kernel_rfl) rfl
    (fun f fn hf hfn => by
      obtain rfl : f = 3 := Option.some.inj ((show Tryd.prog.funcNamed "obscura/obscuralaw12.ParamsDigests" = some 3 by kernel_rfl).symm.trans hf) |>.symm
      obtain rfl : fn = Tryd.f3 := (Option.some.inj (Tryd.func3.symm.trans hfn)).symm
      exact ⟨by kernel_rfl, fun j t ht => by
        rw [Tryd.params3] at ht
        have h3 : t = 25 := by
          rcases j with _ | j
          · simpa using ht.symm
          · simp at ht
        subst h3
        exact (show Tryd.prog.wantsStandIn 25 = false by kernel_rfl)⟩)
    (by kernel_rfl)
#print axioms paramsDigests_holds
end Go.Proofs.YtjfjbkocopaehaaDoor
