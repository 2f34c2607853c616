/- The law of Typing: its circuits; what is shown. -/
import Derived.Test.YtljfgdlgmdcmfaaGreatTypT
namespace Go.Proofs.YtljfgdlgmdcmfaaGreat
open Go.RowKit Wv
set_option linter.unusedVariables false
set_option linter.unusedSimpArgs false

def poX (n : Int) (e : Ex) : Ex := .mk 14 ⟨#[]⟩ n 0 (fun _ => 0) 1 fun _ => e
def inX (n : Int) : Ex := .mk 2 ⟨#[]⟩ n 0 (fun _ => 0) 0 fun _ => .nil
/-- The circuits of the law: an input x, lets a and b, an output. -/
def ciT (e1 e2 : Ex) (o : ByteArray) : Ci := { name := ⟨#[99]⟩, ni := 1, fi := fun _ => ⟨#[120]⟩, nl := 2, ln := fun i => match i with | 0 => ⟨#[97]⟩ | _ => ⟨#[98]⟩, le := fun i => match i with | 0 => e1 | _ => e2, no := 1, fo := fun _ => o }
theorem ciT_ok {e1 e2 : Ex} {o : ByteArray} (h1 : okE e1 ∧ cntE e1 ≤ 4611686018427387904) (h2 : okE e2 ∧ cntE e2 ≤ 4611686018427387904) (ho : o.size ≤ 140737488351232) : okC (ciT e1 e2 o) where
  name := show 1 ≤ _ by decide
  ni := show 1 ≤ _ by decide
  nl := show 2 ≤ _ by decide
  no := show 1 ≤ _ by decide
  fi := fun i _ => show 1 ≤ _ by decide
  fo := fun i _ => ho
  ln := fun i _ => by
    cases i with
    | zero => show 1 ≤ _; decide
    | succ i => show 1 ≤ _; decide
  le := fun i _ => by
    cases i with
    | zero => exact h1
    | succ i => exact h2
theorem ciT_all {e1 e2 : Ex} {o : ByteArray} {ks : Ex → Prop} (h1 : allK ks e1) (h2 : allK ks e2) : ∀ i, i < (ciT e1 e2 o).nl → allK ks ((ciT e1 e2 o).le i) := fun i _ => by
  cases i with
  | zero => exact h1
  | succ i => exact h2
theorem poX_ok {n : Int} {e : Ex} (h : okE e) : okE (poX n e) := ⟨by decide, by omega, by omega, fun i hi => h⟩
theorem poX_all {n : Int} {e : Ex} (h : allK ksP e) : allK ksP (poX n e) := ⟨.inr (.inr (.inr rfl)), fun i _ => h⟩
theorem nmX_all (s : ByteArray) : allK ksP (nmX s) := ⟨.inl rfl, fun i hi => by omega⟩
theorem inX_all (n : Int) : allK ksP (inX n) := ⟨.inr (.inl rfl), fun i hi => by omega⟩
/-- What Type answers where the parameters are valid. -/
def typeS (c : Ci) : List (Bool × Nat) × Int × Int := if checkI c ≠ 0 then ([], 0, checkI c) else typeT c (ruP 17)
theorem typeS_eq (c : Ci) : typeQ 0 c (ruP 17) = typeS c := by
  unfold typeQ typeS
  rw [if_neg (by simp)]
theorem ptype_ciT {e1 e2 : Ex} {o : ByteArray} (h1 : okE e1 ∧ cntE e1 ≤ 4611686018427387904) (h2 : okE e2 ∧ cntE e2 ≤ 4611686018427387904) (ho : o.size ≤ 140737488351232) (k1 : allK ksP e1) (k2 : allK ksP e2) :
    TC Tryz.prog 19 [.g (parC plnP), .g (ciC (ciT e1 e2 o))] (typeA (typeS (ciT e1 e2 o))) := by
  rw [← typeS_eq]
  exact ptype_pln _ (ciT_ok h1 h2 ho) (ciT_all k1 k2)
def shC (o : ByteArray) : Ci := ciT (muX (nmX ⟨#[120]⟩) (nmX ⟨#[120]⟩)) (poX 5 (nmX ⟨#[120]⟩)) o
theorem ptype_sh (o : ByteArray) (ho : o.size ≤ 140737488351232) : TC Tryz.prog 19 [.g (parC plnP), .g (ciC (shC o))] (typeA (typeS (shC o))) :=
  ptype_ciT ⟨muX_ok _ _ (nmX_ok _ (by decide)) (nmX_ok _ (by decide)), by decide⟩ ⟨poX_ok (nmX_ok _ (by decide)), by decide⟩ ho
    ⟨.inr (.inr (.inl rfl)), fun i hi => by
      match i, hi with
      | 0, _ => exact nmX_all _
      | 1, _ => exact nmX_all _⟩ (poX_all (nmX_all _))
theorem typeA_clo (q : List (Bool × Nat) × Int × Int) : Clo (typeA q) := by
  unfold typeA
  simp only [Wv.clo_v, Wv.clo_none, Wv.clo_e0, Wv.clo_t, Wv.clo_g, Wv.clo_tup, Wv.clo_fn, Wv.clo_ifc, Wv.clo_nil, Wv.clo_cons, Wv.clo_tab, Wv.clo_map, implies_true, and_self, true_and, and_true]
  exact shL_clo _
def shOrc : List (FuncId × List AV × AV) := [(27, [], .g (parC plnP)), (19, [.g (parC plnP), .g (ciC (shC ⟨#[97]⟩))], typeA (typeS (shC ⟨#[97]⟩))), (19, [.g (parC plnP), .g (ciC (shC ⟨#[121]⟩))], typeA (typeS (shC ⟨#[121]⟩)))]
theorem shOrc_ok : OrcOk Tryz.prog (orcL shOrc) := orcL_ok fun q h => by
  simp only [shOrc, List.mem_cons, List.not_mem_nil, or_false] at h
  rcases h with rfl | rfl | rfl
  · exact ⟨plain_tc, .g (parC_clo plnP)⟩
  · exact ⟨ptype_sh _ (by decide), typeA_clo _⟩
  · exact ⟨ptype_sh _ (by decide), typeA_clo _⟩
theorem shown_tc : TC Tryz.prog 15 [] (.v (.bool true)) :=
  TC.reck (by kernel_rfl) 1000 100 tbTyp_ok shOrc_ok (by kernel_rfl)
def xX (known : Bool) : Ex := if known = true then inX 2 else nmX ⟨#[120]⟩
def sN (n : Nat) : Option Nat := findF (fun s => Nat.ble n (2 ^ s)) 8
def pwC (n : Nat) (known : Bool) : Ci := ciT (rowX (xX known) (min n 30 - 1)) (poX n (xX known)) ⟨#[120]⟩
def pwW (n : Nat) (known : Bool) : List (Bool × Nat) := if known = true then [(true, 0), (true, 0)] else [(false, min n 30 - 1), (false, (sN n).getD 9)]
/-- What the law says of what Type answers. -/
def pwB (n : Nat) (known : Bool) (q : List (Bool × Nat) × Int × Int) : Bool :=
  if known = false ∧ 9 < min n 30 then decide (q.2.2 = 232) && decide (q.2.1 = 0) else if 64 < n then decide (q.2.2 = 233) && decide (q.2.1 = 1) else decide (q.2.2 = 0) && decide (q.1 = pwW n known) && decide ((sN n).isSome = true)
theorem pwB_all : ((List.range 70).all fun k => pwB (k + 1) true (typeS (pwC (k + 1) true)) && pwB (k + 1) false (typeS (pwC (k + 1) false))) = true := by kernel_rfl
theorem pwB_at {n : Nat} (known : Bool) (h1 : 1 ≤ n) (h2 : n ≤ 70) : pwB n known (typeS (pwC n known)) = true := by
  have := List.all_eq_true.1 pwB_all (n - 1) (List.mem_range.2 (by omega))
  rw [show n - 1 + 1 = n by omega, Bool.and_eq_true] at this
  cases known
  · exact this.2
  · exact this.1
theorem xX_ok (known : Bool) : okE (xX known) := by
  cases known
  · exact nmX_ok _ (by decide)
  · exact ⟨by decide, by omega, by omega, fun i hi => by omega⟩
theorem xX_cnt (known : Bool) : cntE (xX known) = 1 := by cases known <;> rfl
theorem xX_all (known : Bool) : allK ksP (xX known) := by
  cases known
  · exact nmX_all _
  · exact inX_all _
theorem ptype_pw (n : Nat) (known : Bool) : TC Tryz.prog 19 [.g (parC plnP), .g (ciC (pwC n known))] (typeA (typeS (pwC n known))) :=
  ptype_ciT ⟨row_ok (xX_ok known) _, by rw [row_cnt (xX_cnt known)]; omega⟩ ⟨poX_ok (xX_ok known), by show 1 + cntE (xX known) ≤ _; rw [xX_cnt]; omega⟩ (by decide) (row_all (xX_all known) _) (poX_all (xX_all known))
end Go.Proofs.YtljfgdlgmdcmfaaGreat
