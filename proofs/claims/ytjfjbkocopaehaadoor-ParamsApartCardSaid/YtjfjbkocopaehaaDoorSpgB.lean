/- The sponge: one round (package sponge). -/
import Derived.Test.YtjfjbkocopaehaaDoorSpgA
import Derived.Lib.Hide
namespace Go.Proofs.YtjfjbkocopaehaaDoor
open Go.RowKit
set_option linter.unusedVariables false

theorem rot_amount : ∀ k : Fin 64, bits .and .u64 (IntKind.u64.wrap (-(k.val : Int))) 63 = if k.val = 0 then 0 else 64 - (k.val : Int) := by decide +kernel
set_option maxHeartbeats 1000000 in
set_option maxRecDepth 100000 in
theorem rotl_any (x : Int) (k : Nat) (w : World) (hx : W64 x) (hk0 : 1 ≤ k) (hk1 : k ≤ 63) :
    Calls Tryd.prog 94 #[.int .u64 x, .int .i64 (-(k : Int))] w fun e w' => e = .returned (.int .u64 (rr x k)) ∧ w' = w := by
  have ha := rot_amount ⟨k, by omega⟩
  simp only at ha
  rw [if_neg (by omega)] at ha
  obtain ⟨s, hs⟩ : ∃ s : Nat, s = 64 - k := ⟨_, rfl⟩
  have hs2 : (64 : Int) - (k : Int) = (s : Int) := by omega
  rw [hs2] at ha
  have hw : IntKind.u64.wrap (64 - (s : Int)) = (k : Int) := by rw [IntKind.wrap_u64]; omega
  have h1 : (0 : Int) ≤ (s : Int) := by omega
  have h2 : (s : Int) ≤ 64 := by omega
  have h3 : (0 : Int) ≤ (k : Int) := by omega
  have h4 : (k : Int) ≤ 64 := by omega
  have HE : Hid (rr x k = orr (IntKind.u64.wrap (x * 2 ^ s)) (x / 2 ^ k)) := by show _ = _; unfold rr shl; rw [hs]
  clear hs hs2
  go_enter Tryd.func94, Tryd.ntmps94
  go_wp2_with fail
  go_ret
  exact ⟨by rw [HE.out]; rfl, rfl⟩

set_option maxHeartbeats 1000000 in
set_option maxRecDepth 100000 in
theorem turn_any (x : Int) (a b : Nat) (w : World) (hx : W64 x) (ha0 : 1 ≤ a) (ha1 : a ≤ 63) (hb0 : 1 ≤ b) (hb1 : b ≤ 63) :
    Calls Tryd.prog 93 #[.int .u64 x, .int .i64 a, .int .i64 b] w fun e w' => e = .returned (.int .u64 (tn x a b)) ∧ w' = w := by
  have ka : IntKind.i64.wrap (-(a : Int)) = -(a : Int) := by rw [IntKind.wrap_i64]; omega
  have kb : IntKind.i64.wrap (-(b : Int)) = -(b : Int) := by rw [IntKind.wrap_i64]; omega
  go_enter Tryd.func93, Tryd.ntmps93
  go_wp2_with fail
  trace_state
  refine (rotl_any x a _ hx ha0 ha1).mono ?_
  rintro e W ⟨rfl, rfl⟩
  go_wp2_with fail
  refine (rotl_any x b _ hx hb0 hb1).mono ?_
  rintro e W ⟨rfl, rfl⟩
  go_wp2_with fail
  go_ret
  exact ⟨rfl, rfl⟩
end Go.Proofs.YtjfjbkocopaehaaDoor
