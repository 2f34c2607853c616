/- obscuralaw12.same, shown. (Printed by gen_DefE.py.) -/
import Derived.Test.YtjpcljnojipdnaaGreatDefD
namespace Go.Proofs.YtjpcljnojipdnaaGreat
open Go.RowKit

def sameB (x y : Par) : Bool := decide (x.n = y.n ∧ x.p = y.p ∧ x.r = y.r ∧ x.sp = y.sp ∧ x.wt = y.wt ∧ x.er = y.er ∧ x.ch = y.ch)
theorem sameB_self (x : Par) : sameB x x = true := decide_eq_true ⟨rfl, rfl, rfl, rfl, rfl, rfl, rfl⟩
theorem cast_inj (l m : List Nat) : decide (l.map (fun q => ((q : Nat) : Int)) = m.map (fun q => ((q : Nat) : Int))) = decide (l = m) := by
  have h : (l.map (fun q => ((q : Nat) : Int)) = m.map (fun q => ((q : Nat) : Int))) ↔ l = m :=
    ⟨fun h => by
      have := congrArg (List.map Int.toNat) h
      simpa [List.map_map, Function.comp_def] using this, fun h => by rw [h]⟩
  rw [Bool.eq_iff_iff, decide_eq_true_eq, decide_eq_true_eq]; exact h

theorem eightP_val (v : Value) : eightP.val v = .agg #[.int .i64 8, .int .u32 17, .int .i64 3, v, .int .u32 2146941697, .int .i64 4, .int .u32 2] := rfl
theorem zeroP_val (v : Value) : zeroP.val v = .agg #[.int .i64 0, .int .u32 0, .int .i64 0, v, .int .u32 0, .int .i64 0, .int .u32 0] := rfl
theorem sliceAt_shape {w : World} {v : Value} {l : List Nat} (h : SliceAt w v l) : ∃ (p : Option Addr) (cap : Nat), v = .slice p l.length cap := by obtain ⟨p, cap, e, _⟩ := h; exact ⟨p, cap, e⟩

end Go.Proofs.YtjpcljnojipdnaaGreat
