/- For every input ParamsApart returns true and leaves its arguments as they are. No conditions but those of the row: the tables of strconv and math/bits lie as the program text lays them (the card ties them). -/
import Derived.Test.YtjfjbkocopaehaaDoorRows
import Derived.Test.YtjfjbkocopaehaaDoorRowA
import Derived.Test.YtjfjbkocopaehaaDoorRowB
import Derived.Test.YtjfjbkocopaehaaDoorDigG
import Derived.Test.YtjfjbkocopaehaaDoorDigF
import Derived.OpenShut
import Derived.Test.YtjfjbkocopaehaaDoorTie
import Derived.Test.YtjfjbkocopaehaaDoorCards
import Derived.Stop.LaidErr
import Derived.SevenTiedAt
import Derived.Lib.LaidTab
import Derived.ChangeOld
namespace Go.Proofs.YtjfjbkocopaehaaDoor
open Go.ChangeShapes Go.WideShapes Go.ChangeAt Go.RowKit
set_option linter.unusedVariables false

theorem paramsApart_own : ownKnob Tryd.prog.godebug = none := by kernel_rfl
theorem paramsApart_laidOut : laidOutB Tryd.prog = true := by kernel_rfl

/-- The settled world, the three tables holding what their initialisers lay: the witness. -/
noncomputable def paramsApart_world (os : Os) : World :=
  { World.holding Tryd.prog os ⟨#[], #[], []⟩ with heap := ((((World.holding Tryd.prog os ⟨#[], #[], []⟩).heap.modify 0 fun
      | .cells _ t frozen => .cells (Lib.pow10Tab.map fun z => Value.int .u64 z).toArray t frozen
      | o => o).modify 1 fun
      | .cells _ t frozen => .cells (tab32.map fun z => Value.int .u8 z).toArray t frozen
      | o => o).modify 2 fun
      | .cells _ t frozen => .cells (tab64.map fun z => Value.int .u8 z).toArray t frozen
      | o => o) }
theorem paramsApart_met (os : Os) (args : Array Value) : laidMet Tryd.prog Rows.paramsApartRow.laid ((paramsApart_world os).forCall (fun _ _ => 0) ⟨#[], args, []⟩).memory :=
  laidMet_of_run' 8 (by kernel_rfl) (by kernel_rfl)
theorem paramsApart_tab {W : World} (hL : laidMet Tryd.prog Rows.paramsApartRow.laid W) : Tab W :=
  Lib.tabIs_of_head (g := 0) (by kernel_rfl) (by kernel_rfl) Tryd.underlying104 Tryd.underlying68 (by kernel_rfl) (by kernel_rfl) hL.tail.tail

set_option maxRecDepth 100000 in
theorem paramsApart_lifted (os : Os) (started : os.Started) (H : Type) (enc : TypeId × Value → H) :
    ReturnsInHanded {} Tryd.checked os 4 .any (fun w args => (Rows.paramsApartSpec.pre enc Tryd.prog Tryd.f4 Rows.paramsApartRow.domain false w args ∧ laidMet Tryd.prog Rows.paramsApartRow.laid w) ∧ sizedMet enc Tryd.prog Tryd.f4 (OpenSpec.ofChange Rows.paramsApartSpec) false w args) (Rows.paramsApartSpec.post enc Tryd.prog Tryd.f4 false true false false) := by
  refine returnsInHanded_of_change_and (C := Tryd.checked) (X := fun w _ => laidMet Tryd.prog Rows.paramsApartRow.laid w) (fun _ _ _ hh h => h.of_heap hh) paramsApart_own started (by kernel_rfl) Tryd.func4
    (ChangeSpec.witness_at (enc := enc) (C := Tryd.checked) (os := os) (X := fun w _ => laidMet Tryd.prog Rows.paramsApartRow.laid w) false (paramsApart_world os) #[.agg #[.int .i64 0, .int .u32 0, .int .i64 0, .slice none 0 0, .int .u32 0, .int .i64 0, .int .u32 0], .agg #[.int .i64 0, .int .u32 0, .int .i64 0, .slice none 0 0, .int .u32 0, .int .i64 0, .int .u32 0]] 8 rfl (by kernel_rfl) (by kernel_rfl) (by kernel_rfl) (by kernel_rfl) (by kernel_rfl) (paramsApart_met os _)) ?_
  intro W base args ds gs before hval0 hW hcnd hsz0 hL _
  have ht := paramsApart_tab hL
  have hval : ∀ (j : Nat) t v, Tryd.f4.params[j]? = some t → args[j]? = some v → Value.okWide Tryd.prog W .any base t v := hval0
  have hsz1 : (DataW.weightsEach Tryd.prog (Tryd.f4.params.toList ++ Rows.paramsApartSpec.plain.varTypes Tryd.prog) (ds ++ gs)).all (· ≤ reachBytes) = true := hsz0
  have hW' := hW
  obtain ⟨p, q, hA0, hV, rfl, hfz, hnd⟩ := hW
  have hA : DataW.TrodAll enc Tryd.prog W 0 (fun _ => true) true Tryd.f4.params.toList args.toList ds p := hA0
  rw [Tryd.params4] at hA hval hsz1
  obtain ⟨v0, vs0, d0, ds0, p0, q0, hargs, rfl, rfl, h0, r0⟩ := trodAll_cons hA
  obtain ⟨v1, vs1, d1, ds1, p1, q1, rfl, rfl, rfl, h1, r1⟩ := trodAll_cons r0
  obtain ⟨rfl, rfl, rfl⟩ := trodAll_nil r1
  obtain rfl : args = #[v0, v1] := by cases args; simp_all
  obtain ⟨rfl, rfl⟩ := trodVars_none hV
  have hsz : (DataW.weightsEach Tryd.prog [25, 25] [d0, d1]).all (· ≤ reachBytes) = true := hsz1
  have k0 := h0
  have lt0 : ∀ x ∈ p0, x.block < W.heap.size := by obtain ⟨m, hm⟩ := k0; exact DataW.trod_lt m _ _ _ hm
  have k1 := h1
  have lt1 : ∀ x ∈ p1, x.block < W.heap.size := by obtain ⟨m, hm⟩ := k1; exact DataW.trod_lt m _ _ _ hm
  obtain ⟨cs0, fu0, rfl, ht0⟩ := trod_cells Tryd.underlying25 (hval 0 25 v0 rfl rfl) h0
  obtain ⟨x0, cv0, rfl, hx0, hcv0, hb0⟩ := par_of ht0 (light_arg hsz (j := 0) rfl rfl)
  obtain ⟨cs1, fu1, rfl, ht1⟩ := trod_cells Tryd.underlying25 (hval 1 25 v1 rfl rfl) h1
  obtain ⟨x1, cv1, rfl, hx1, hcv1, hb1⟩ := par_of ht1 (light_arg hsz (j := 1) rfl rfl)
  clear hA0 hval0
  refine (papart_any x0 x1 cv0 cv1 W hx0 hx1 hcv0 hcv1 ht).mono fun e W' ⟨he, bel⟩ => ?_
  subst he
  exact ⟨_, rfl, _, _, _, [], _, [], hW', trodAll_mk1 (shut_bool Tryd.underlying4 _), (trodAll_cons_mk (Below.trod paramsApart_laidOut (by kernel_rfl) (of_decide_eq_true (by kernel_rfl)) k0 bel lt0) (trodAll_cons_mk (Below.trod paramsApart_laidOut (by kernel_rfl) (of_decide_eq_true (by kernel_rfl)) k1 bel lt1) trodAll_mk0)), rfl, bel.frame _, fun h => by cases h⟩

theorem paramsApart_over : Rows.paramsApartRow.holds Tryd.pinned (OpenSpec.ofChange Rows.paramsApartSpec) :=
  OpenClaim.holds_of_wide 4 Tryd.f4 rfl rfl rfl rfl rfl rfl rfl ⟨rfl, rfl, rfl, rfl, rfl⟩ rfl rfl rfl rfl rfl (by kernel_rfl) Tryd.func4 (by kernel_rfl)
    (of_decide_eq_true (by kernel_rfl)) (by unfold Func.isWrapper; first | (rw [if_pos (by decide +kernel)]; kernel_rfl) | (rw [if_neg (by decide +kernel)]; exact ⟨rfl, rfl⟩))
    (fun os started H enc _ => paramsApart_lifted os started H enc)

/-- The statement: the tied card. -/
theorem paramsApart_holds : Rows.ParamsApartCardSaid :=
  Claim7.holds_tied_plain_at .later [] [.data, .data, .data] true (Rows.paramsApartCard.stood.harness) false
    paramsApart_over (fun _ h => by cases h) (by kernel_rfl) (fun _ h => by cases h) paramsApart_row_tie rfl ⟨rfl, rfl⟩ (by kernel_rfl) rfl
    (fun f fn hf hfn => by
      obtain rfl : f = 4 := Option.some.inj ((show Tryd.prog.funcNamed "obscura/obscuralaw12.ParamsApart" = some 4 by kernel_rfl).symm.trans hf) |>.symm
      obtain rfl : fn = Tryd.f4 := (Option.some.inj (Tryd.func4.symm.trans hfn)).symm
      exact ⟨by kernel_rfl, fun j t ht => by
        rw [Tryd.params4] at ht
        have h3 : t = 25 := by
          rcases j with _ | j
          · simpa using ht.symm
          · rcases j with _ | j
            · simpa using ht.symm
            · simp at ht
        subst h3
        exact (show Tryd.prog.wantsStandIn 25 = false by kernel_rfl)⟩)
    (by kernel_rfl)
#print axioms paramsApart_holds
end Go.Proofs.YtjfjbkocopaehaaDoor
