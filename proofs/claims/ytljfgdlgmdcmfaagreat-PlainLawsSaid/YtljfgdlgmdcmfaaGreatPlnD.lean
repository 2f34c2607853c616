/- Plain values: Max, Min, Clone; the evaluator beside other objects. -/
import Derived.Test.YtljfgdlgmdcmfaaGreatPlnC
namespace Go.Proofs.YtljfgdlgmdcmfaaGreat
open Go.RowKit Wv
set_option linter.unusedVariables false
set_option linter.unusedSimpArgs false

def mxN (f : Nat → Int) : Nat → Int
  | 0 => f 0
  | i + 1 => if f (i + 1) > mxN f i then f (i + 1) else mxN f i
def mnN (f : Nat → Int) : Nat → Int
  | 0 => f 0
  | i + 1 => if f (i + 1) < mnN f i then f (i + 1) else mnN f i
theorem mxN_le {f : Nat → Int} {h : Int} : ∀ n, mxN f n ≤ h ↔ ∀ i, i ≤ n → f i ≤ h
  | 0 => ⟨fun q i hi => by obtain rfl : i = 0 := by omega
                           exact q, fun q => q 0 (Nat.le_refl _)⟩
  | n + 1 => by
    have ih := mxN_le (f := f) (h := h) n
    unfold mxN
    constructor
    · intro q i hi
      by_cases e : i = n + 1
      · subst e; split at q <;> omega
      · exact ih.1 (by split at q <;> omega) i (by omega)
    · intro q
      have h1 := ih.2 fun i hi => q i (by omega)
      have h2 := q (n + 1) (Nat.le_refl _)
      split <;> omega
theorem mnN_ge {f : Nat → Int} {h : Int} : ∀ n, h ≤ mnN f n ↔ ∀ i, i ≤ n → h ≤ f i
  | 0 => ⟨fun q i hi => by obtain rfl : i = 0 := by omega
                           exact q, fun q => q 0 (Nat.le_refl _)⟩
  | n + 1 => by
    have ih := mnN_ge (f := f) (h := h) n
    unfold mnN
    constructor
    · intro q i hi
      by_cases e : i = n + 1
      · subst e; split at q <;> omega
      · exact ih.1 (by split at q <;> omega) i (by omega)
    · intro q
      have h1 := ih.2 fun i hi => q i (by omega)
      have h2 := q (n + 1) (Nat.le_refl _)
      split <;> omega
set_option maxHeartbeats 400000 in
set_option maxRecDepth 100000 in
theorem pmax_tc (n : Nat) (f : Nat → Int) (h1 : 1 ≤ n) (h2 : n ≤ 140737488351232) : TC Tryz.prog 77 [vcA n f] (.v (.int .i64 (mxN f (n - 1)))) := by
  unfold vcA
  refine Wv.TC.by 25 [0, 7, 4, 15, 3, 2] [] [.tmp 2] (by kernel_rfl) Tryz.func77 rfl rfl rfl (by kernel_rfl) (by kernel_rfl) (Nat.le_of_ble_eq_true rfl) rfl ?clo ?_
  case clo => simp only [Wv.BC]
  simp (maxSteps := 2000000) (disch := first | omega | assumption | (simp only [Wv.Bx, simprocAttr] <;> omega) | fail) only [Wv.B, simprocAttr]
  refine wfor (σ := Nat) (fun i => [(0, .t n 1 (tab n fun j => .v (.int .i64 (f j)))), (3, .v (.int .i64 (mxN f i))), (4, .v (.int .i64 (i + 1 : Nat)))]) (fun _ => []) (fun i => i ≤ n - 1) (fun i => n - i) 0 (Nat.zero_le _) (by simp (maxSteps := 2000000) (disch := first | omega | assumption | (simp only [Wv.Bx, simprocAttr] <;> omega) | fail) only [Wv.B, simprocAttr]) (by simp (maxSteps := 2000000) (disch := first | omega | assumption | (simp only [Wv.Bx, simprocAttr] <;> omega) | fail) only [Wv.B, simprocAttr, mxN]) ?_
  intro i hi
  by_cases hlt : i + 1 < n
  · have e1 : ((i + 1 : Nat) : Int) < n := by omega
    have hm : mxN f (i + 1) = if f (i + 1) > mxN f i then f (i + 1) else mxN f i := rfl
    simp (maxSteps := 2000000) (disch := first | omega | assumption | (simp only [Wv.Bx, simprocAttr] <;> omega) | fail) only [Wv.B, simprocAttr, decide_eq_true e1]
    refine k_next (i + 1) (by omega) (by omega) rfl (by simp (maxSteps := 2000000) (disch := first | omega | assumption | (simp only [Wv.Bx, simprocAttr] <;> omega) | fail) only [Wv.B, simprocAttr, hm, Int.natCast_add, Int.natCast_one])
  · obtain rfl : i = n - 1 := by omega
    have e1 : ¬ ((n - 1 + 1 : Nat) : Int) < n := by omega
    simp (maxSteps := 2000000) (disch := first | omega | assumption | (simp only [Wv.Bx, simprocAttr] <;> omega) | fail) only [Wv.B, simprocAttr, decide_eq_false e1]
set_option maxHeartbeats 400000 in
set_option maxRecDepth 100000 in
theorem pmin_tc (n : Nat) (f : Nat → Int) (h1 : 1 ≤ n) (h2 : n ≤ 140737488351232) : TC Tryz.prog 78 [vcA n f] (.v (.int .i64 (mnN f (n - 1)))) := by
  unfold vcA
  refine Wv.TC.by 25 [0, 7, 4, 15, 3, 2] [] [.tmp 2] (by kernel_rfl) Tryz.func78 rfl rfl rfl (by kernel_rfl) (by kernel_rfl) (Nat.le_of_ble_eq_true rfl) rfl ?clo ?_
  case clo => simp only [Wv.BC]
  simp (maxSteps := 2000000) (disch := first | omega | assumption | (simp only [Wv.Bx, simprocAttr] <;> omega) | fail) only [Wv.B, simprocAttr]
  refine wfor (σ := Nat) (fun i => [(0, .t n 1 (tab n fun j => .v (.int .i64 (f j)))), (3, .v (.int .i64 (mnN f i))), (4, .v (.int .i64 (i + 1 : Nat)))]) (fun _ => []) (fun i => i ≤ n - 1) (fun i => n - i) 0 (Nat.zero_le _) (by simp (maxSteps := 2000000) (disch := first | omega | assumption | (simp only [Wv.Bx, simprocAttr] <;> omega) | fail) only [Wv.B, simprocAttr]) (by simp (maxSteps := 2000000) (disch := first | omega | assumption | (simp only [Wv.Bx, simprocAttr] <;> omega) | fail) only [Wv.B, simprocAttr, mnN]) ?_
  intro i hi
  by_cases hlt : i + 1 < n
  · have e1 : ((i + 1 : Nat) : Int) < n := by omega
    have hm : mnN f (i + 1) = if f (i + 1) < mnN f i then f (i + 1) else mnN f i := rfl
    simp (maxSteps := 2000000) (disch := first | omega | assumption | (simp only [Wv.Bx, simprocAttr] <;> omega) | fail) only [Wv.B, simprocAttr, decide_eq_true e1]
    refine k_next (i + 1) (by omega) (by omega) rfl (by simp (maxSteps := 2000000) (disch := first | omega | assumption | (simp only [Wv.Bx, simprocAttr] <;> omega) | fail) only [Wv.B, simprocAttr, hm, Int.natCast_add, Int.natCast_one])
  · obtain rfl : i = n - 1 := by omega
    have e1 : ¬ ((n - 1 + 1 : Nat) : Int) < n := by omega
    simp (maxSteps := 2000000) (disch := first | omega | assumption | (simp only [Wv.Bx, simprocAttr] <;> omega) | fail) only [Wv.B, simprocAttr, decide_eq_false e1]
set_option maxHeartbeats 400000 in
set_option maxRecDepth 100000 in
theorem pclone_tc (n : Nat) (f : Nat → Int) (h1 : 1 ≤ n) (h2 : n ≤ 100000) : TC Tryz.prog 80 [vcA n f] (vcA n f) := by
  unfold vcA
  refine Wv.TC.by 8 [0, 4, 2] [] [.tmp 2] (by kernel_rfl) Tryz.func80 rfl rfl rfl (by kernel_rfl) (by kernel_rfl) (Nat.le_of_ble_eq_true rfl) rfl ?clo ?_
  case clo => simp only [Wv.BC]
  have hnil : ∀ (h : Hp) (c : List AV), nilSA h (.t n 1 c) = some false := fun _ _ => if_pos h1
  simp (maxSteps := 2000000) (disch := first | omega | assumption | (simp only [Wv.Bx, simprocAttr] <;> omega) | fail) only [Wv.B, simprocAttr, hnil]
/-- A name gets a value. -/
def putE : Env → ByteArray → (Nat → Int) → Env
  | [], s, f => [(s, f)]
  | p :: r, s, f => if s = p.1 then (s, f) :: r else p :: putE r s f
theorem put_en (N : Nat) (s : ByteArray) (f : Nat → Int) : ∀ es : Env, putM (.string s) (vcA N f) (enE N es) = enE N (putE es s f)
  | [] => rfl
  | p :: q => by
    have ih := put_en N s f q
    show (if keyE (.string s) (.string p.1) = true then _ else (Value.string p.1, vcA N p.2) :: putM (.string s) (vcA N f) (enE N q)) = enE N (if s = p.1 then _ else _)
    rw [ih]
    have : keyE (.string s) (.string p.1) = decide (s = p.1) := ke_str
    rw [this]
    by_cases e : s = p.1
    · rw [if_pos (decide_eq_true e), if_pos e, e]; rfl
    · rw [if_neg (by simp [e]), if_neg e]; rfl
theorem look_put (s s' : ByteArray) (f : Nat → Int) : ∀ es : Env, lookN (putE es s f) s' = if s' = s then some f else lookN es s'
  | [] => rfl
  | p :: q => by
    have ih := look_put s s' f q
    unfold putE
    by_cases e : s = p.1
    · rw [if_pos e]
      show (if s' = s then some f else lookN q s') = if s' = s then some f else (if s' = p.1 then some p.2 else lookN q s')
      by_cases e2 : s' = s
      · rw [if_pos e2, if_pos e2]
      · rw [if_neg e2, if_neg e2, if_neg (by rw [← e]; exact e2)]
    · rw [if_neg e]
      show (if s' = p.1 then some p.2 else lookN (putE q s f) s') = if s' = s then some f else (if s' = p.1 then some p.2 else lookN q s')
      rw [ih]
      by_cases e2 : s' = p.1
      · rw [if_pos e2, if_neg (by rw [e2]; exact fun h => e h.symm), if_pos e2]
      · rw [if_neg e2, if_neg e2]
theorem okV_put {N : Nat} {t : Int} {es : Env} {s : ByteArray} {f : Nat → Int} (h : okV N t es) (hf : ∀ j, j < N → -((t - 1) / 2) ≤ f j ∧ f j ≤ (t - 1) / 2) : okV N t (putE es s f) := by
  intro s' f' h'
  rw [look_put] at h'
  split at h'
  · injection h' with h'; subst h'; exact hf
  · exact h s' f' h'
/-- The evaluator has the number 3, its map the number 2. -/
theorem rdV {N : Nat} {t : Int} {es : Env} {f : FuncId} {args : List AV} {R p : AV → Prop} (T : RD Tryz.prog f (.ptr 0 0 :: args) (hV N t es) R p) (o0 o1 : Option Ob) (r : Hp) (ha : ∀ (a : AV), a ∈ args → Clo a) (hR : ∀ r, R r → Clo r) (hp : ∀ r, p r → Clo r) :
    RD Tryz.prog f (.ptr 3 0 :: args) (o0 :: o1 :: some (.map (enE N es)) :: some (.blk [.v (.int .i64 N), .v (.int .i64 t), .mp 2]) :: r) R p := by
  refine RD.frame (σ := fun i => if i = 0 then 3 else 2) T ⟨fun i j hi hj e => ?_, fun i o ho => ?_⟩ ⟨.ptr (by show 0 < 2; omega), RnL.clo ha⟩ hR hp
  · have hi' : i < 2 := hi
    have hj' : j < 2 := hj
    have e' : (if i = 0 then 3 else 2) = (if j = 0 then 3 else 2) := e
    split at e' <;> split at e' <;> omega
  · unfold hV at ho ⊢
    match i with
    | 0 =>
      simp at ho; subst ho
      exact ⟨_, _, rfl, rfl, .clo (.v _), .clo (.v _), .mp (by show 1 < 2; omega), trivial⟩
    | 1 =>
      simp at ho; subst ho
      exact ⟨_, _, rfl, rfl, rfl, RnL.clo (enE_clo N es)⟩
    | i + 2 => simp at ho
end Go.Proofs.YtljfgdlgmdcmfaaGreat
