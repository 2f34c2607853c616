/- Plain law of TypingPowers: shapes of rows of factors. -/
import Derived.Test.YtljfgdlgmdcmfaaGreatTypR
namespace Go.Proofs.YtljfgdlgmdcmfaaGreat
open Wv
set_option linter.unusedVariables false
set_option linter.unusedSimpArgs false

/-- x times x .. times x: m products. -/
def rowX (x : Ex) : Nat → Ex
  | 0 => x
  | m + 1 => muX (rowX x m) x
theorem sh_mu (ns : Nms) (t : Int) (a b : Ex) : shE ns (ruP t) (muX a b) = nodeE (ruP t (muX a b)) (foldE (fun i => shE ns (ruP t) (match i with | 0 => a | 1 => b | _ => .nil)) 2) := rfl
theorem sh_mu2 {ns : Nms} {t : Int} {a b : Ex} {k1 k2 : Bool} {d1 d2 : Nat} (h1 : shE ns (ruP t) a = .ok (k1, d1)) (h2 : shE ns (ruP t) b = .ok (k2, d2)) :
    shE ns (ruP t) (muX a b) = finE (k1 && k2) (max d1 d2) (.ok (if k1 = false ∧ k2 = false then 1 else 0)) := by
  rw [sh_mu]
  simp only [foldE, h1, h2]
  cases k1 <;> cases k2 <;> simp [nodeE, ruP, muX]
theorem row_known {ns : Nms} {t : Int} {x : Ex} (h : shE ns (ruP t) x = .ok (true, 0)) : ∀ m, shE ns (ruP t) (rowX x m) = .ok (true, 0)
  | 0 => h
  | m + 1 => (sh_mu2 (row_known h m) h).trans rfl
theorem row_unknown {ns : Nms} {t : Int} {x : Ex} (h : shE ns (ruP t) x = .ok (false, 0)) : ∀ m, m ≤ 8 → shE ns (ruP t) (rowX x m) = .ok (false, m)
  | 0, _ => h
  | m + 1, hm => by
    rw [show rowX x (m + 1) = muX (rowX x m) x from rfl, sh_mu2 (row_unknown h m (by omega)) h]
    simp [finE]; omega
theorem sh_mu_err {ns : Nms} {t : Int} {a b : Ex} {e : Int} (h1 : shE ns (ruP t) a = .error e) : shE ns (ruP t) (muX a b) = .error e := by
  rw [sh_mu]
  simp only [foldE, h1, nodeE]
theorem row_deep {ns : Nms} {t : Int} {x : Ex} (h : shE ns (ruP t) x = .ok (false, 0)) : ∀ m, shE ns (ruP t) (rowX x (m + 9)) = .error 232
  | 0 => by
    rw [show rowX x (0 + 9) = muX (rowX x 8) x from rfl, sh_mu2 (row_unknown h 8 (Nat.le_refl _)) h]
    rfl
  | m + 1 => by
    rw [show rowX x (m + 1 + 9) = muX (rowX x (m + 9)) x from rfl]
    exact sh_mu_err (row_deep h m)
theorem row_cnt {x : Ex} (h : cntE x = 1) : ∀ m, cntE (rowX x m) = 2 * m + 1
  | 0 => h
  | m + 1 => by
    show 1 + cntE (rowX x m) + cntE x = _
    rw [row_cnt h m, h]; omega
theorem row_dep {x : Ex} (h : depE x = 1) : ∀ m, depE (rowX x m) = m + 1
  | 0 => h
  | m + 1 => by
    show max (max 0 (depE (rowX x m))) (depE x) + 1 = _
    rw [row_dep h m, h]; omega
theorem row_ok {x : Ex} (h : okE x) : ∀ m, okE (rowX x m)
  | 0 => h
  | m + 1 => muX_ok _ _ (row_ok h m) h
theorem row_lon {x : Ex} (h : lonE x = false) : ∀ m, lonE (rowX x m) = false
  | 0 => h
  | m + 1 => by
    show ((decide (600 < ((0 : Nat) : Int)) || lonE (rowX x m)) || lonE x) = false
    rw [row_lon h m, h]; rfl
theorem row_all {x : Ex} (h : allK ksP x) : ∀ m, allK ksP (rowX x m)
  | 0 => h
  | m + 1 => ⟨.inr (.inr (.inl rfl)), fun i hi => by
    match i, hi with
    | 0, _ => exact row_all h m
    | 1, _ => exact h⟩
theorem mu_form {a b : Ex} (ha : formB a = true) (hb : formB b = true) : formB (muX a b) = true := by
  have : anyN 2 (fun i => !formB (match i with | 0 => a | 1 => b | _ => .nil)) = false := by
    unfold anyN
    refine List.any_eq_false.2 fun i hi => ?_
    have hi2 := List.mem_range.1 hi
    match i, hi2 with
    | 0, _ => simp [ha]
    | 1, _ => simp [hb]
  unfold muX formB
  simp [argN, numK, lisK, inB, anyN]
  intro i hi2
  match i, hi2 with
  | 0, _ => exact ha
  | 1, _ => exact hb
theorem row_form {x : Ex} (h : formB x = true) : ∀ m, formB (rowX x m) = true
  | 0 => h
  | m + 1 => mu_form (row_form h m) h
end Go.Proofs.YtljfgdlgmdcmfaaGreat
