/- What the laws of Audit show of themselves, for the calls of Needs, Closed, Plant, Expect and Judge in it. -/
import Derived.Test.YtljfgdlgmdcmfaaGreatTypV
import Derived.Test.YtljfgdlgmdcmfaaGreatTypR
import Derived.Test.YtljfgdlgmdcmfaaGreatXtD
namespace Go.Proofs.YtljfgdlgmdcmfaaGreat
open Go.RowKit Wv
set_option linter.unusedVariables false
set_option linter.unusedSimpArgs false

def auX : ByteArray := ⟨#[120]⟩
def auA : ByteArray := ⟨#[97]⟩
def auN : Ex := .mk 1 auX 0 0 (fun _ => 0) 0 (fun _ => .nil)
/-- rot(x, 1), mask(rot(x, 1), [1]) -/
def auR : Ex := .mk 8 ⟨#[]⟩ 1 0 (fun _ => 0) 1 (fun _ => auN)
def auM : Ex := .mk 10 ⟨#[]⟩ 0 1 (fun _ => 1) 1 (fun _ => auR)
def auC (e : Ex) : Ci := { name := ⟨#[99]⟩, ni := 1, fi := fun _ => auX, nl := 1, ln := fun _ => auA, le := fun _ => e, no := 1, fo := fun _ => auA }
theorem auN_ok : okE auN := ⟨by decide, by omega, by omega, fun i hi => absurd hi (Nat.not_lt_zero i)⟩
theorem auR_ok : okE auR := ⟨by decide, by omega, by omega, fun _ _ => auN_ok⟩
theorem auM_ok : okE auM := ⟨by decide, by omega, by omega, fun _ _ => auR_ok⟩
theorem auC_ok {e : Ex} (h : okE e) (hc : cntE e ≤ 4611686018427387904) : okC (auC e) where
  name := show 1 ≤ _ by decide
  ni := show 1 ≤ _ by decide
  nl := show 1 ≤ _ by decide
  no := show 1 ≤ _ by decide
  fi := fun _ _ => show 1 ≤ _ by decide
  fo := fun _ _ => show 1 ≤ _ by decide
  ln := fun _ _ => show 1 ≤ _ by decide
  le := fun _ _ => ⟨h, hc⟩
theorem ptype_au {e : Ex} (h : okE e) (hc : cntE e ≤ 4611686018427387904) : TC Tryz.prog 19 [.g (parC plnP), .g (ciC (auC e))] (typeA (typeQ 0 (auC e) (ruA plnP 17))) :=
  ptype_tc plnP (auC e) (ruA plnP 17) ksA 17 0 pmod_pln (auC_ok h hc) (fun _ ns => rulesA plnP 17 ns (by omega) (by omega) (by decide) (by decide)) (fun _ _ => allK_A _ h)
set_option maxRecDepth 100000 in
theorem default_au : TC Tryz.prog 28 [.v (.int .i64 8), .v (.int .u32 17), .v (.int .i64 1), .v (.int .i64 1)] (.tup [.g (parC plnP), .v (.int .i64 0)]) :=
  TC.reck (by kernel_rfl) 1000 100 tbTyp_ok (orcL_ok (l := []) fun q h => by cases h) (by kernel_rfl)
def auT : List (FuncId × List AV × AV) := [(19, [.g (parC plnP), .g (ciC (auC auR))], typeA (typeQ 0 (auC auR) (ruA plnP 17))), (19, [.g (parC plnP), .g (ciC (auC auM))], typeA (typeQ 0 (auC auM) (ruA plnP 17))),
  (60, [.g (parC plnP), .v (.int .i64 1)], .tup [.v (.int .i64 17), .v (.int .i64 0)])]
theorem typeA_cloA (q : List (Bool × Nat) × Int × Int) : Clo (typeA q) := by
  unfold typeA
  simp only [Wv.BC]
  exact shL_clo _
theorem auT_all : ∀ q, q ∈ auT → TC Tryz.prog q.1 q.2.1 q.2.2 ∧ Clo q.2.2 := fun q h => by
  simp only [auT, List.mem_cons, List.not_mem_nil, or_false] at h
  rcases h with rfl | rfl | rfl
  · exact ⟨ptype_au auR_ok (by decide), typeA_cloA _⟩
  · exact ⟨ptype_au auM_ok (by decide), typeA_cloA _⟩
  · exact ⟨pmod_pln, cloB_ok _ rfl⟩
def auRow (l : List Int) : AV := .t 8 1 (l.map fun z => .v (.int .i64 z))
def auSl : AV := .t 4 1 [.v (.int .i64 4), .v (.int .i64 5), .v (.int .i64 6), .v (.int .i64 7)]
set_option maxRecDepth 100000 in
theorem expect_au : TC Tryz.prog 48 [.g (parC plnP), .g (ciC (auC auR)), .t 1 1 [auRow [1, 2, 3, 4, 5, 6, 7, 8]], auSl] (.tup [.t 1 1 [auRow [0, 0, 0, 0, 6, 7, 8, 5]], .v (.int .i64 0)]) :=
  TC.reckU (by kernel_rfl) 1000 100 tbAud_ok (orcL_ok auT_all) (by kernel_rfl)
def auO : List (FuncId × List AV × AV) := (48, [.g (parC plnP), .g (ciC (auC auR)), .t 1 1 [auRow [1, 2, 3, 4, 5, 6, 7, 8]], auSl], .tup [.t 1 1 [auRow [0, 0, 0, 0, 6, 7, 8, 5]], .v (.int .i64 0)]) :: (28, [.v (.int .i64 8), .v (.int .u32 17), .v (.int .i64 1), .v (.int .i64 1)], .tup [.g (parC plnP), .v (.int .i64 0)]) :: auT
theorem auO_all : ∀ q, q ∈ auO → TC Tryz.prog q.1 q.2.1 q.2.2 ∧ Clo q.2.2 := fun q h => by
  rcases List.mem_cons.1 h with rfl | h
  · exact ⟨expect_au, cloB_ok _ rfl⟩
  rcases List.mem_cons.1 h with rfl | h
  · exact ⟨default_au, .tup (List.forall_mem_cons.2 ⟨.g (parC_clo plnP), List.forall_mem_cons.2 ⟨.v _, fun _ h => by cases h⟩⟩)⟩
  · exact auT_all q h
set_option maxRecDepth 100000 in
theorem shown38_tc : TC Tryz.prog 46 [] (.v (.bool true)) :=
  TC.reck (by kernel_rfl) 1000 100 tbAud_ok (orcL_ok auO_all) (by kernel_rfl)
end Go.Proofs.YtljfgdlgmdcmfaaGreat
