/- Plain values: the parameters and circuits of PlainLaws; what Type says of them. -/
import Derived.Test.YtljfgdlgmdcmfaaGreatPlnG
import Derived.Test.YtljfgdlgmdcmfaaGreatTypY
import Derived.Test.YtljfgdlgmdcmfaaGreatTypP
import Derived.Test.YtljfgdlgmdcmfaaGreatXtC
namespace Go.Proofs.YtljfgdlgmdcmfaaGreat
open Go.RowKit Wv
set_option linter.unusedVariables false
set_option linter.unusedSimpArgs false

/-- What the rules answer. -/
def ruL (x : Par) (t : Int) : Ex → Nat → Except Int Nat
  | .nil, _ => .ok 0
  | .mk k s n nl li na ar, unk => if k = 7 then .ok (if unk < 2 then 0 else 1) else if k = 8 then (if rotB x n = true then .ok 0 else .error 233) else if k = 12 then (if x.r = 1 then .ok (stepsN (t - 1)) else .error 231)
    else if k = 14 then (if powB n = true then .ok (stepsN n) else .error 233) else .ok 0
def ksL (e : Ex) : Prop := e.kind = 1 ∨ e.kind = 4 ∨ e.kind = 7 ∨ e.kind = 8 ∨ e.kind = 12 ∨ e.kind = 14
theorem if_le {c : Prop} [Decidable c] {a b e : Int} {m : Nat} {v : Nat} (h : (if c then (.ok v : Except Int Nat) else .error e) = .ok m) (hv : v ≤ 4294967296) : m ≤ 4294967296 := by
  split at h
  · injection h with h; omega
  · cases h
theorem rulesL (x : Par) (t : Int) (ns : Nms) (ht : 1 ≤ t) (ht' : t ≤ 4611686018427387904) (hN : 0 ≤ x.n) (hN' : x.n ≤ 4611686018427387904) : RulesOk x t ns (ruL x t) ksL := by
  intro e unk hk ho hf hu
  obtain ⟨k, s, n, nl, li, na, ar, rfl⟩ := ok_mk ho
  have hk' : k = 1 ∨ k = 4 ∨ k = 7 ∨ k = 8 ∨ k = 12 ∨ k = 14 := hk
  rcases hk' with rfl | rfl | rfl | rfl | rfl | rfl
  · exact ⟨fun m h => by injection h with h; subst h; exact Nat.zero_le _, rfl⟩
  · exact ⟨fun m h => by injection h with h; subst h; exact Nat.zero_le _, rfl⟩
  · refine ⟨fun m h => ?_, pproduct_rule x t ns _ ho unk⟩
    have h' : (Except.ok (if unk < 2 then 0 else 1) : Except Int Nat) = .ok m := h
    injection h' with h'
    subst h'
    split <;> omega
  · exact ⟨fun m h => if_le (a := 0) (b := 0) (show (if rotB x n = true then (.ok 0 : Except Int Nat) else .error 233) = .ok m from h) (by omega), prot_rule x t ns 8 s n nl li na ar unk hN hN'⟩
  · exact ⟨fun m h => if_le (a := 0) (b := 0) (show (if x.r = 1 then (.ok (stepsN (t - 1)) : Except Int Nat) else .error 231) = .ok m from h) (Nat.le_trans (steps_le _) (by omega)), pequal_rule x t ns 12 s n nl li na ar unk ht ht'⟩
  · exact ⟨fun m h => if_le (a := 0) (b := 0) (show (if powB n = true then (.ok (stepsN n) : Except Int Nat) else .error 233) = .ok m from h) (Nat.le_trans (steps_le _) (by omega)), ppower_rule x t ns 14 s n nl li na ar unk⟩
def parL (N t sp q : Nat) : Par := { n := N, p := t, r := 1, ch := [q], sp := sp, wt := 4, er := 2 }
/-- The parameters that there are for primes up to 64. -/
def isL (N t sp q : Nat) : Prop := (N = 8 ∧ t = 17 ∧ sp = 2147483249 ∧ q = 2147477809) ∨ (N = 4 ∧ t = 17 ∧ sp = 2147483249 ∧ q = 2147481209) ∨ (N = 4 ∧ t = 41 ∧ sp = 2147478649 ∧ q = 2147468809)
theorem pmodL {N t sp q : Nat} (h : isL N t sp q) : TC Tryz.prog 60 [.g (parC (parL N t sp q)), .v (.int .i64 1)] (.tup [.v (.int .i64 t), .v (.int .i64 0)]) := by
  rcases h with ⟨rfl, rfl, rfl, rfl⟩ | ⟨rfl, rfl, rfl, rfl⟩ | ⟨rfl, rfl, rfl, rfl⟩
  · exact TC.reck (by kernel_rfl) 1000 100 tbPln_ok (orcL_ok (l := []) fun q h => by cases h) (by kernel_rfl)
  · exact TC.reck (by kernel_rfl) 1000 100 tbPln_ok (orcL_ok (l := []) fun q h => by cases h) (by kernel_rfl)
  · exact TC.reck (by kernel_rfl) 1000 100 tbPln_ok (orcL_ok (l := []) fun q h => by cases h) (by kernel_rfl)
theorem dfL1 : dfA 8 17 = .tup [.g (parC (parL 8 17 2147483249 2147477809)), .v (.int .i64 0)] := by kernel_rfl
theorem dfL2 : dfA 4 17 = .tup [.g (parC (parL 4 17 2147483249 2147481209)), .v (.int .i64 0)] := by kernel_rfl
theorem dfL3 : dfA 4 41 = .tup [.g (parC (parL 4 41 2147478649 2147468809)), .v (.int .i64 0)] := by kernel_rfl
end Go.Proofs.YtljfgdlgmdcmfaaGreat
