/- The law of Typing: the parameters of TypingFields; Type with them. -/
import Derived.Test.YtljfgdlgmdcmfaaGreatTypV
import Derived.Test.YtljfgdlgmdcmfaaGreatTypU
import Derived.Test.YtljfgdlgmdcmfaaGreatFldA
namespace Go.Proofs.YtljfgdlgmdcmfaaGreat
open Go.RowKit Wv
set_option linter.unusedVariables false
set_option linter.unusedSimpArgs false

def plnQ : Par := { n := 8, p := 17, r := 2, ch := [2147417969], sp := 2147468833, wt := 4, er := 2 }
set_option maxRecDepth 100000 in
theorem pdef_q : TC Tryz.prog 28 [.v (.int .i64 8), .v (.int .u32 17), .v (.int .i64 2), .v (.int .i64 1)] (.tup [.g (parC plnQ), .v (.int .i64 0)]) :=
  TC.reck (by kernel_rfl) 1000 100 tbTyp_ok (orcL_ok (l := []) fun q h => by cases h) (by kernel_rfl)
set_option maxRecDepth 100000 in
theorem pmod_q : TC Tryz.prog 60 [.g (parC plnQ), .v (.int .i64 2)] (.tup [.v (.int .i64 289), .v (.int .i64 0)]) :=
  TC.reck (by kernel_rfl) 1000 100 tbTyp_ok (orcL_ok (l := []) fun q h => by cases h) (by kernel_rfl)
theorem ptype_A (c : Ci) (hc : okC c) : TC Tryz.prog 19 [.g (parC plnP), .g (ciC c)] (typeA (typeQ 0 c (ruA plnP 17))) :=
  ptype_tc plnP c (ruA plnP 17) ksA 17 0 pmod_pln hc (fun _ ns => rulesA plnP 17 ns (by omega) (by omega) (by decide) (by decide)) fun i hi => allK_A _ (hc.le i hi).1
theorem ptype_Q (c : Ci) (hc : okC c) : TC Tryz.prog 19 [.g (parC plnQ), .g (ciC c)] (typeA (typeQ 0 c (ruA plnQ 289))) :=
  ptype_tc plnQ c (ruA plnQ 289) ksA 289 0 pmod_q hc (fun _ ns => rulesA plnQ 289 ns (by omega) (by omega) (by decide) (by decide)) fun i hi => allK_A _ (hc.le i hi).1
end Go.Proofs.YtljfgdlgmdcmfaaGreat
