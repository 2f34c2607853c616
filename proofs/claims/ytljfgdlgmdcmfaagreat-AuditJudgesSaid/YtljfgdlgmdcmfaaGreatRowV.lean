/- What arguments read as: rows of rows of numbers. -/
import Derived.Test.YtljfgdlgmdcmfaaGreatRowS
namespace Go.Proofs.YtljfgdlgmdcmfaaGreat
open Go.ChangeShapes Go.WideShapes Go.ChangeAt Go.RowKit Go.Deep Wv
set_option linter.unusedVariables false

def loTs : List TypeId := [2, 43, 59]
theorem loTs_ok : setB Tryz.prog loTs = true := by kernel_rfl
instance : Inhabited (Nat × (Nat → Int)) := ⟨(0, fun _ => 0)⟩
theorem wz_i64 {z : Int} (h : (Lit.int .i64 z).wf = true) : -9223372036854775808 ≤ z ∧ z ≤ 9223372036854775807 := by
  simp [Lit.wf, IntKind.min, IntKind.max, IntKind.bits, IntKind.signed] at h; omega
set_option maxRecDepth 100000 in
theorem rows_sh {l : List AV} (h : Sh Tryz.prog 59 l) : ∃ (m : Nat) (ln : Nat → Nat) (vs : Nat → Nat → Int), l = [.t m 1 (tab m fun i => .t (ln i) 1 (tab (ln i) fun j => .v (.int .i64 (vs i j))))] ∧ m ≤ 140737488351232 ∧ (∀ i, i < m → ln i ≤ 140737488351232) ∧ ∀ i, i < m → ∀ j, j < ln i → -9223372036854775808 ≤ vs i j ∧ vs i j ≤ 9223372036854775807 := by
  obtain ⟨m, f, rfl, hm, hf⟩ := sh_slice Tryz.underlying59 (Nat.le_of_ble_eq_true (by kernel_rfl)) h
  have hc : Tryz.prog.cellsOf 43 = 1 := by kernel_rfl
  have hr : reachBytes = 140737488351232 := rfl
  obtain ⟨L, hL⟩ := choose_lt (α := Nat × (Nat → Int)) (p := fun i q => f i = [.t q.1 1 (tab q.1 fun j => .v (.int .i64 (q.2 j)))] ∧ q.1 ≤ 140737488351232 ∧ ∀ j, j < q.1 → -9223372036854775808 ≤ q.2 j ∧ q.2 j ≤ 9223372036854775807) fun i hi => by
    obtain ⟨n, g, e, w, o⟩ := sh_ints Tryz.underlying43 Tryz.underlying2 (Nat.le_of_ble_eq_true (by kernel_rfl)) (by kernel_rfl) (hf i hi)
    exact ⟨(n, g), e, by omega, fun j hj => wz_i64 (o j hj)⟩
  refine ⟨m, fun i => (L i).1, fun i => (L i).2, ?_, by omega, fun i hi => (hL i hi).2.1, fun i hi => (hL i hi).2.2⟩
  rw [hc, flat_one fun i hi => (hL i hi).1]; rfl
set_option maxRecDepth 100000 in
/-- Rows of numbers that are handed over. -/
theorem rows_of {H : Type} {enc : TypeId × Value → H} {w : World} {base b0 : Nat} {spare : Nat → Bool} {held : Bool} {r : Reach} {v : Value} {d : DataW H} {p : List MemPlace}
    (hv : Value.okWide Tryz.prog w r b0 59 v) (h : DataW.Trod enc Tryz.prog w base spare held 59 v d p) (hl : LightP Tryz.prog 59 d) :
    ∃ (m : Nat) (ln : Nat → Nat) (vs : Nat → Nat → Int), Rep (bareX w) (.t m 1 (tab m fun i => .t (ln i) 1 (tab (ln i) fun j => .v (.int .i64 (vs i j))))) v ∧ m ≤ 140737488351232 ∧ (∀ i, i < m → ln i ≤ 140737488351232) ∧ ∀ i, i < m → ∀ j, j < ln i → -9223372036854775808 ≤ vs i j ∧ vs i j ≤ 9223372036854775807 := by
  have hs : ∃ a n c, v = .slice a n c := by
    cases v <;> simp [Value.okWide, Cell.okWide, Cell.ok, Tryz.underlying59] at hv ⊢
  obtain ⟨a, n, c, rfl⟩ := hs
  obtain ⟨fuel, hf⟩ := h
  obtain ⟨l, s1, s2, s3⟩ := reads loTs_ok fuel _ _ _ (by unfold loTs; simp) hf hl
  obtain ⟨m, ln, vs, rfl, h1, h2, h3⟩ := rows_sh s1
  exact ⟨m, ln, vs, s2.2 0 _ _ rfl rfl, h1, h2, h3⟩
end Go.Proofs.YtljfgdlgmdcmfaaGreat
