/- The parameters of the law of Typing: Default(8, 17, 1, 1). -/
import Derived.Test.YtljfgdlgmdcmfaaGreatTypP
import Derived.Test.YtljfgdlgmdcmfaaGreatXtA
namespace Go.Proofs.YtljfgdlgmdcmfaaGreat
open Go.RowKit Wv
set_option linter.unusedVariables false
set_option linter.unusedSimpArgs false

def plnP : Par := { n := 8, p := 17, r := 1, ch := [2147477809], sp := 2147483249, wt := 4, er := 2 }
set_option maxRecDepth 100000 in
theorem pmod_pln : TC Tryz.prog 60 [.g (parC plnP), .v (.int .i64 1)] (.tup [.v (.int .i64 17), .v (.int .i64 0)]) :=
  TC.reck (by kernel_rfl) 1000 100 tbTyp_ok (orcL_ok (l := []) fun q h => by cases h) (by kernel_rfl)
/-- Type with the parameters of the law, where only names, numbers, products and powers occur. -/
theorem ptype_pln (c : Ci) (hc : okC c) (hks : ∀ i, i < c.nl → allK ksP (c.le i)) : TC Tryz.prog 19 [.g (parC plnP), .g (ciC c)] (typeA (typeQ 0 c (ruP 17))) :=
  ptype_tc plnP c (ruP 17) ksP 17 0 pmod_pln hc (fun _ ns => rulesP plnP 17 ns (by omega) (by omega)) hks
end Go.Proofs.YtljfgdlgmdcmfaaGreat
