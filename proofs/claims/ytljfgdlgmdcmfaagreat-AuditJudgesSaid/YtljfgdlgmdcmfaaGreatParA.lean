/- The parameters of the service. -/
import Derived.ProofKit
namespace Go.Proofs.YtljfgdlgmdcmfaaGreat

/-- Parameters. -/
structure Par where
  n : Int
  p : Nat
  r : Int
  ch : List Nat
  sp : Nat
  wt : Int
  er : Nat
end Go.Proofs.YtljfgdlgmdcmfaaGreat
