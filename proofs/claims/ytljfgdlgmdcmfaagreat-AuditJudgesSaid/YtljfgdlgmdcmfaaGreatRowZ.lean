/- What arguments read as: numbers. -/
import Derived.ProofKit
import Derived.SizedLaws
import Derived.Deep.Fields
namespace Go.Proofs.YtljfgdlgmdcmfaaGreat
theorem wz_u32 {z : Int} (h : (Lit.int .u32 z).wf = true) : 0 ≤ z ∧ z < 4294967296 := by
  simp [Lit.wf, IntKind.min, IntKind.max, IntKind.bits, IntKind.signed] at h; omega
theorem wz_int {z : Int} (h : (Lit.int .i64 z).wf = true) : -9223372036854775808 ≤ z ∧ z ≤ 9223372036854775807 := by
  simp [Lit.wf, IntKind.min, IntKind.max, IntKind.bits, IntKind.signed] at h; omega
end Go.Proofs.YtljfgdlgmdcmfaaGreat
