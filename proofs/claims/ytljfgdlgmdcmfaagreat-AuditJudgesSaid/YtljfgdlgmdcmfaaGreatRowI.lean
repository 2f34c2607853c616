/- What arguments read as: a list of numbers. -/
import Derived.Test.YtljfgdlgmdcmfaaGreatRowS
namespace Go.Proofs.YtljfgdlgmdcmfaaGreat
open Go.ChangeShapes Go.WideShapes Go.ChangeAt Go.RowKit Go.Deep Wv
set_option linter.unusedVariables false

def inTs : List TypeId := [3, 80]
theorem inTs_ok : setB Tryz.prog inTs = true := by kernel_rfl
set_option maxRecDepth 100000 in
/-- A list of numbers that is handed over. -/
theorem ints_of {H : Type} {enc : TypeId × Value → H} {w : World} {base b0 : Nat} {spare : Nat → Bool} {held : Bool} {r : Reach} {v : Value} {d : DataW H} {p : List MemPlace}
    (hv : Value.okWide Tryz.prog w r b0 80 v) (h : DataW.Trod enc Tryz.prog w base spare held 80 v d p) (hl : LightP Tryz.prog 80 d) :
    ∃ (n : Nat) (f : Nat → Int), Rep (bareX w) (.t n 1 (tab n fun j => .v (.int .i64 (f j)))) v ∧ n ≤ 140737488351232 := by
  have hs : ∃ a n c, v = .slice a n c := by
    cases v <;> simp [Value.okWide, Cell.okWide, Cell.ok, Tryz.underlying80] at hv ⊢
  obtain ⟨a, n, c, rfl⟩ := hs
  obtain ⟨fuel, hf⟩ := h
  obtain ⟨l, s1, s2, s3⟩ := reads inTs_ok fuel _ _ _ (by unfold inTs; simp) hf hl
  have hr : reachBytes = 140737488351232 := rfl
  obtain ⟨n, g, rfl, w, o⟩ := sh_ints Tryz.underlying80 Tryz.underlying3 (Nat.le_of_ble_eq_true (by kernel_rfl)) (by kernel_rfl) s1
  exact ⟨n, g, s2.2 0 _ _ rfl rfl, by omega⟩
end Go.Proofs.YtljfgdlgmdcmfaaGreat
