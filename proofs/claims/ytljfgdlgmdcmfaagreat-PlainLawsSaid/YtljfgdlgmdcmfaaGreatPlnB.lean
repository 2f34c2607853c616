/- Plain values: a slot of an expression. -/
import Derived.Test.YtljfgdlgmdcmfaaGreatPlnA
namespace Go.Proofs.YtljfgdlgmdcmfaaGreat
open Go.RowKit Wv
set_option linter.unusedVariables false
set_option linter.unusedSimpArgs false

theorem t1_sz : szP Tryz.prog 163 = some 1 := by kernel_rfl
theorem t1_z : zeroP Tryz.prog 163 = some .nilFunc := by kernel_rfl
theorem t1_ag : aggP Tryz.prog 163 = some false := by kernel_rfl
theorem t1_f : isFnP Tryz.prog 163 = true := by kernel_rfl
/-- A number as a residue. -/
def resN (t n : Int) : Int := (n + t).tmod t
set_option maxHeartbeats 400000 in
set_option maxRecDepth 100000 in
theorem pone_ht (h : Hp) (b : Bool) : TC Tryz.prog 121 [.v (.bool b)] (.v (.int .i64 (if b = true then 1 else 0))) := by
  refine Wv.TC.by 4 [0, 3, 2] [] [.tmp 2] (by kernel_rfl) Tryz.func121 rfl rfl rfl (by kernel_rfl) (by kernel_rfl) (Nat.le_of_ble_eq_true rfl) rfl ?clo ?_
  case clo => simp only [Wv.BC]
  cases b <;> simp (maxSteps := 2000000) (disch := first | omega | assumption | (simp only [Wv.Bx, simprocAttr] <;> omega) | fail) only [Wv.B, simprocAttr]
/-- The slot from which a rotation takes; the sum of the first ones. -/
def rotN (N : Nat) (n : Int) (j : Nat) : Nat := j / (N / 2) * (N / 2) + (j % (N / 2) + n.toNat) % (N / 2)
def sumN (f : Nat → Int) : Nat → Int
  | 0 => 0
  | i + 1 => sumN f i + f i
/-- A slot, not yet balanced. -/
def slZ (N : Nat) (t k n : Int) (li ls : Nat → Int) (A : Nat → Nat → Int) (j : Nat) : Int :=
  if k = 2 then n else if k = 3 then ls j else if k = 4 then A 0 j + A 1 j else if k = 5 then A 0 j - A 1 j else if k = 6 then 0 - A 0 j else if k = 7 then A 0 j * A 1 j
  else if k = 8 then A 0 (rotN N n j) else if k = 9 then A 0 ((j + N / 2) % N) else if k = 10 then ls j * A 0 j else if k = 11 then li (resN t (A 0 j)).toNat
  else if k = 12 then (if A 0 j = A 1 j then 1 else 0) else if k = 13 then (if resN t (A 0 j) < n then 1 else 0) else if k = 14 then powZ t (A 0 j) n else sumN (A 0) N
theorem res_in {t a : Int} (ht : 3 ≤ t) (ha : -((t - 1) / 2) ≤ a ∧ a ≤ (t - 1) / 2) : 0 ≤ resN t a ∧ resN t a < t := by
  unfold resN
  exact ⟨Int.tmod_nonneg _ (by omega), Int.tmod_lt_of_pos _ (by omega)⟩
theorem lsm {t l a : Int} (hl : inB l = true) (ht : t ≤ 2147483647) (ha : -((t - 1) / 2) ≤ a ∧ a ≤ (t - 1) / 2) : -4611686018427387904 ≤ l * a ∧ l * a ≤ 4611686018427387904 := by
  unfold inB at hl
  rw [Bool.and_eq_true] at hl
  have q1 := of_decide_eq_true hl.1
  have q2 := of_decide_eq_true hl.2
  have h1 : l.natAbs ≤ 4294967296 := by omega
  have h2 : a.natAbs ≤ 1073741824 := by omega
  have h3 := Nat.mul_le_mul h1 h2
  rw [← Int.natAbs_mul] at h3
  omega
theorem sum_in {t : Int} {f : Nat → Int} {N : Nat} (ht : t ≤ 2147483647) (hf : ∀ j, j < N → -((t - 1) / 2) ≤ f j ∧ f j ≤ (t - 1) / 2) : ∀ i, i ≤ N → -(1073741824 * i) ≤ sumN f i ∧ sumN f i ≤ 1073741824 * i
  | 0, _ => by show _ ≤ (0 : Int) ∧ (0 : Int) ≤ _; omega
  | i + 1, h => by
    have ih := sum_in ht hf i (by omega)
    have := hf i (by omega)
    show _ ≤ sumN f i + f i ∧ sumN f i + f i ≤ _
    rw [Int.natCast_add]
    omega
def hS (N : Nat) (t : Int) (es : Env) (k : Int) (s : ByteArray) (n : Int) (nl : Nat) (li : Nat → Int) (na : Nat) (L : List AV) (A : Nat → Nat → Int) (ls : Nat → Int) : Hp :=
  [some (.blk [.v (.int .i64 N), .v (.int .i64 t), .mp 1]), some (.map (enE N es)), some (.blk [.ptr 0 0]), some (.blk [.v (.int .i64 k), .v (.string s), .v (.int .i64 n), .t nl 1 (tab nl fun i => .v (.int .i64 (li i))), .t na 5 L]),
    some (.arr 43 1 (tab na fun i => .t N 1 (tab N fun j => .v (.int .i64 (A i j)))) 0), some (.blk [.own 4 na]), some (.blk [.v (.int .i64 (N / 2 : Nat))]), some (.blk [.t N 1 (tab N fun j => .v (.int .i64 (ls j)))]), some (.blk [.fn (.func 121) [] []]), some (.blk [.fn (.func 122) [] [.ptr 2 0]])]
set_option maxHeartbeats 400000 in
set_option maxRecDepth 100000 in
theorem pres_ht (N : Nat) (t : Int) (es : Env) (k : Int) (s : ByteArray) (n : Int) (nl : Nat) (li : Nat → Int) (na : Nat) (L : List AV) (A : Nat → Nat → Int) (ls : Nat → Int) (m : Int) (ht : 3 ≤ t) (ht' : t ≤ 2147483647) (hm : -((t - 1) / 2) ≤ m ∧ m ≤ (t - 1) / 2) :
    HT Tryz.prog 122 [.v (.int .i64 m), .ptr 2 0] (hS N t es k s n nl li na L A ls) (fun r h' => r = .v (.int .i64 (resN t m)) ∧ h' = hS N t es k s n nl li na L A ls) := by
  have hR : (m + t).tmod t = resN t m := rfl
  unfold hS
  refine Wv.HT.by 15 [0, 1, 3] [(1, 11), (1000000, 10), (3000001, 16)] [.tmp 3] (by kernel_rfl) Tryz.func122 rfl rfl rfl (by kernel_rfl) (by kernel_rfl) (Nat.le_of_ble_eq_true rfl) ?base ?_
  case base => rfl
  simp (maxSteps := 2000000) (disch := first | omega | assumption | (simp only [Wv.Bx, simprocAttr] <;> omega) | fail) only [Wv.B, simprocAttr, hR]
set_option maxHeartbeats 1600000 in
set_option maxRecDepth 100000 in
theorem pslot_ht (N : Nat) (t : Int) (es : Env) (k : Int) (s : ByteArray) (n : Int) (nl : Nat) (li : Nat → Int) (na : Nat) (L : List AV) (A : Nat → Nat → Int) (ls : Nat → Int) (j : Nat) (ht : 3 ≤ t) (ho : t % 2 = 1) (ht' : t ≤ 2147483647) (hN : 4 ≤ N) (hN2 : N ≤ 32) (hN3 : N % 2 = 0) (hj : j < N)
    (hA : ∀ i, i < na → ∀ j, j < N → -((t - 1) / 2) ≤ A i j ∧ A i j ≤ (t - 1) / 2) (hk : 2 ≤ k ∧ k ≤ 15) (hna : (na : Int) = argN k.toNat) (hn : inB n = true) (hls : ∀ j, j < N → inB (ls j) = true) (h8 : k = 8 → 0 ≤ n) (h11 : k = 11 → t ≤ nl) (h14 : k = 14 → 0 ≤ n) :
    HT Tryz.prog 123 [.v (.int .i64 j), .ptr 3 0, .ptr 7 0, .ptr 5 0, .ptr 6 0, .ptr 2 0, .ptr 9 0, .ptr 8 0] (hS N t es k s n nl li na L A ls) (fun r h' => r = .v (.int .i64 (slZ N t k n li ls A j)) ∧ h' = hS N t es k s n nl li na L A ls) := by
  have hn' : -4294967295 ≤ n ∧ n ≤ 4294967295 := by
    unfold inB at hn
    rw [Bool.and_eq_true] at hn
    exact ⟨of_decide_eq_true hn.1, of_decide_eq_true hn.2⟩
  have hE := pres_ht N t es k s n nl li na L A ls
  have hP := fun a h1 h2 h3 => RD.hV (ppow_rd N t es a n ht ho ht' h1 h2 h3)
  obtain ⟨Z, hZ⟩ : ∃ Z, slZ N t k n li ls A j = Z := ⟨_, rfl⟩
  rw [hZ]
  unfold slZ at hZ
  unfold hV evC at hP
  have hkk : k = 2 ∨ k = 3 ∨ k = 4 ∨ k = 5 ∨ k = 6 ∨ k = 7 ∨ k = 8 ∨ k = 9 ∨ k = 10 ∨ k = 11 ∨ k = 12 ∨ k = 13 ∨ k = 14 ∨ k = 15 := by omega
  unfold hS at *
  refine Wv.HT.by 199 [1, 14, 15, 19, 2, 0, 25, 3, 40, 55, 64, 79, 4, 100, 5, 115, 128, 6, 142, 7, 159, 174, 190, 189, 191, 188, 10, 12, 9] [(7, 13), (9, 13), (13, 13), (15, 19), (17, 13), (19, 11), (21, 12), (23, 15), (25, 13), (27, 10), (1000000, 10), (3000007, 16), (3000009, 16), (3000013, 16), (3000015, 16), (3000017, 16), (3000019, 16), (3000021, 16), (3000023, 16), (3000025, 16), (3000027, 16)] [.tmp 9] (by kernel_rfl) Tryz.func123 rfl rfl rfl (by kernel_rfl) (by kernel_rfl) (Nat.le_of_ble_eq_true rfl) ?base ?_
  case base => rfl
  rcases hkk with rfl | rfl | rfl | rfl | rfl | rfl | rfl | rfl | rfl | rfl | rfl | rfl | rfl | rfl <;> simp only [Int.reduceEq, ↓reduceIte] at hZ
  · simp (maxSteps := 2000000) (disch := first | omega | assumption | (simp only [Wv.Bx, simprocAttr] <;> omega) | fail) only [Wv.B, simprocAttr]
    rw [hZ]
  · simp (maxSteps := 2000000) (disch := first | omega | assumption | (simp only [Wv.Bx, simprocAttr] <;> omega) | fail) only [Wv.B, simprocAttr]
    rw [hZ]
  · have hna' : na = 2 := by have : argN (4 : Int).toNat = 2 := rfl; omega
    subst hna'
    have a0 := hA 0 (by omega) j hj
    have a1 := hA 1 (by omega) j hj
    simp (maxSteps := 2000000) (disch := first | omega | assumption | (simp only [Wv.Bx, simprocAttr] <;> omega) | fail) only [Wv.B, simprocAttr]
    rw [hZ]
  · have hna' : na = 2 := by have : argN (5 : Int).toNat = 2 := rfl; omega
    subst hna'
    have a0 := hA 0 (by omega) j hj
    have a1 := hA 1 (by omega) j hj
    simp (maxSteps := 2000000) (disch := first | omega | assumption | (simp only [Wv.Bx, simprocAttr] <;> omega) | fail) only [Wv.B, simprocAttr]
    rw [hZ]
  · have hna' : na = 1 := by have : argN (6 : Int).toNat = 1 := rfl; omega
    subst hna'
    have a0 := hA 0 (by omega) j hj
    simp (maxSteps := 2000000) (disch := first | omega | assumption | (simp only [Wv.Bx, simprocAttr] <;> omega) | fail) only [Wv.B, simprocAttr]
    rw [hZ]
  · have hna' : na = 2 := by have : argN (7 : Int).toNat = 2 := rfl; omega
    subst hna'
    have a0 := mul_in ht' (hA 0 (by omega) j hj) (hA 1 (by omega) j hj)
    simp (maxSteps := 2000000) (disch := first | omega | assumption | (simp only [Wv.Bx, simprocAttr] <;> omega) | fail) only [Wv.B, simprocAttr]
    rw [hZ]
  · have hna' : na = 1 := by have : argN (8 : Int).toNat = 1 := rfl; omega
    subst hna'
    obtain ⟨m, rfl⟩ := Int.eq_ofNat_of_zero_le (h8 rfl)
    have e0 : ((m : Int)).toNat = m := rfl
    unfold rotN at hZ
    rw [e0] at hZ
    generalize hh : N / 2 = h at *
    have hp : 0 < h := by omega
    have e1 : (j : Int).tdiv (h : Int) = ((j / h : Nat) : Int) := rfl
    have e2 : (j : Int).tmod (h : Int) = ((j % h : Nat) : Int) := rfl
    have e3 : (((j % h : Nat) : Int) + (m : Int)).tmod (h : Int) = (((j % h + m) % h : Nat) : Int) := rfl
    have e4 : ((j / h : Nat) : Int) * (h : Int) = ((j / h * h : Nat) : Int) := (Int.natCast_mul _ _).symm
    have e5 : ((j / h * h : Nat) : Int) + (((j % h + m) % h : Nat) : Int) = ((j / h * h + (j % h + m) % h : Nat) : Int) := (Int.natCast_add _ _).symm
    have b1 : j / h * h ≤ j := Nat.div_mul_le_self j h
    have b2 := Nat.mod_lt j hp
    have b3 := Nat.mod_lt (j % h + m) hp
    have b4 : j / h * h + (j % h + m) % h < N := by
      have : j / h < 2 := Nat.div_lt_of_lt_mul (by omega)
      have : j / h = 0 ∨ j / h = 1 := (show ∀ q : Nat, q < 2 → q = 0 ∨ q = 1 by omega) _ this
      rcases this with q | q <;> rw [q] <;> omega
    have b5 : j / h ≤ j := Nat.div_le_self j h
    generalize (j % h + m) % h = q3 at *
    generalize j % h = q2 at *
    generalize j / h = q1 at *
    generalize q1 * h = q4 at *
    simp (maxSteps := 2000000) (disch := first | omega | assumption | (simp only [Wv.Bx, simprocAttr] <;> omega) | fail) only [Wv.B, simprocAttr, e1, e2, e3, e4, e5]
    rw [hZ]
  · have hna' : na = 1 := by have : argN (9 : Int).toNat = 1 := rfl; omega
    subst hna'
    have e1 : ((j : Int) + ((N / 2 : Nat) : Int)).tmod (N : Int) = (((j + N / 2) % N : Nat) : Int) := rfl
    have b1 := Nat.mod_lt (j + N / 2) (show N > 0 by omega)
    simp (maxSteps := 2000000) (disch := first | omega | assumption | (simp only [Wv.Bx, simprocAttr] <;> omega) | fail) only [Wv.B, simprocAttr, e1]
    rw [hZ]
  · have hna' : na = 1 := by have : argN (10 : Int).toNat = 1 := rfl; omega
    subst hna'
    have a0 := hA 0 (by omega) j hj
    have a1 := lsm (hls j hj) ht' a0
    simp (maxSteps := 2000000) (disch := first | omega | assumption | (simp only [Wv.Bx, simprocAttr] <;> omega) | fail) only [Wv.B, simprocAttr]
    rw [hZ]
  · have hna' : na = 1 := by have : argN (11 : Int).toNat = 1 := rfl; omega
    subst hna'
    have a0 := hA 0 (by omega) j hj
    have b1 := res_in ht a0
    have h11' := h11 rfl
    have hE' := hE (A 0 j) ht ht' a0
    generalize resN t (A 0 j) = q at *
    obtain ⟨m, rfl⟩ := Int.eq_ofNat_of_zero_le b1.1
    have e0 : ((m : Int)).toNat = m := rfl
    rw [e0] at hZ
    simp (maxSteps := 2000000) (disch := first | omega | assumption | (simp only [Wv.Bx, simprocAttr] <;> omega) | fail) only [Wv.B, simprocAttr]
    refine calm_HT (fst := []) (cap := [.ptr 2 0]) (hE'.toP (fun _ _ => False)) ?_ (fun _ _ q => q.elim)
    simp (maxSteps := 2000000) (disch := first | omega | assumption | (simp only [Wv.Bx, simprocAttr] <;> omega) | fail) only [Wv.B, simprocAttr]
    rw [hZ]
  · have hna' : na = 2 := by have : argN (12 : Int).toNat = 2 := rfl; omega
    subst hna'
    have T := pone_ht (hS N t es 12 s n nl li 2 L A ls) (decide (A 0 j = A 1 j))
    have e : (if decide (A 0 j = A 1 j) = true then (1 : Int) else 0) = Z := by
      rw [← hZ]
      by_cases q : A 0 j = A 1 j
      · rw [if_pos q, if_pos (decide_eq_true q)]
      · rw [if_neg q, if_neg (by simp [q])]
    rw [e] at T
    simp (maxSteps := 2000000) (disch := first | omega | assumption | (simp only [Wv.Bx, simprocAttr] <;> omega) | fail) only [Wv.B, simprocAttr, t1_sz, t1_z, t1_ag, t1_f]
    refine calm_TC T rfl (by simp only [Wv.BC]) (by simp only [Wv.BC]) ?_
    simp (maxSteps := 2000000) (disch := first | omega | assumption | (simp only [Wv.Bx, simprocAttr] <;> omega) | fail) only [Wv.B, simprocAttr, t1_sz, t1_z, t1_ag, t1_f]
  · have hna' : na = 1 := by have : argN (13 : Int).toNat = 1 := rfl; omega
    subst hna'
    have a0 := hA 0 (by omega) j hj
    have b1 := res_in ht a0
    have hE' := hE (A 0 j) ht ht' a0
    generalize resN t (A 0 j) = q at *
    have T := pone_ht (hS N t es 13 s n nl li 1 L A ls) (decide (q < n))
    have e : (if decide (q < n) = true then (1 : Int) else 0) = Z := by
      rw [← hZ]
      by_cases r : q < n
      · rw [if_pos r, if_pos (decide_eq_true r)]
      · rw [if_neg r, if_neg (by simp [r])]
    rw [e] at T
    simp (maxSteps := 2000000) (disch := first | omega | assumption | (simp only [Wv.Bx, simprocAttr] <;> omega) | fail) only [Wv.B, simprocAttr, t1_sz, t1_z, t1_ag, t1_f]
    refine calm_HT (fst := []) (cap := [.ptr 2 0]) (hE'.toP (fun _ _ => False)) ?_ (fun _ _ q => q.elim)
    simp (maxSteps := 2000000) (disch := first | omega | assumption | (simp only [Wv.Bx, simprocAttr] <;> omega) | fail) only [Wv.B, simprocAttr, t1_sz, t1_z, t1_ag, t1_f]
    refine calm_TC T rfl (by simp only [Wv.BC]) (by simp only [Wv.BC]) ?_
    simp (maxSteps := 2000000) (disch := first | omega | assumption | (simp only [Wv.Bx, simprocAttr] <;> omega) | fail) only [Wv.B, simprocAttr, t1_sz, t1_z, t1_ag, t1_f]
  · have hna' : na = 1 := by have : argN (14 : Int).toNat = 1 := rfl; omega
    subst hna'
    have a0 := hA 0 (by omega) j hj
    have h14' := h14 rfl
    have hP' := hP (A 0 j) a0 h14' (by omega)
    simp (maxSteps := 2000000) (disch := first | omega | assumption | (simp only [Wv.Bx, simprocAttr] <;> omega) | fail) only [Wv.B, simprocAttr, t1_sz, t1_z, t1_ag, t1_f]
    refine calm_HT (fst := []) (cap := []) (hP' _ (by simp only [Wv.BC]) (by rintro r rfl; simp only [Wv.BC]) (by rintro r h; exact h.elim)) ?_ (by rintro av h' ⟨h, _⟩; exact h.elim)
    simp (maxSteps := 2000000) (disch := first | omega | assumption | (simp only [Wv.Bx, simprocAttr] <;> omega) | fail) only [Wv.B, simprocAttr, t1_sz, t1_z, t1_ag, t1_f]
    rw [hZ]
  · have hna' : na = 1 := by have : argN (15 : Int).toNat = 1 := rfl; omega
    subst hna'
    have hA0 : ∀ j, j < N → -((t - 1) / 2) ≤ A 0 j ∧ A 0 j ≤ (t - 1) / 2 := hA 0 (by omega)
    have hs := sum_in (f := A 0) ht' hA0
    simp (maxSteps := 2000000) (disch := first | omega | assumption | (simp only [Wv.Bx, simprocAttr] <;> omega) | fail) only [Wv.B, simprocAttr, t1_sz, t1_z, t1_ag, t1_f]
    refine wfor (σ := Nat) (fun i => [(188, .t N 1 (tab N fun j => .v (.int .i64 (A 0 j)))), (189, .v (.int .i64 N)), (190, .v (.int .i64 i)), (10, .v (.int .i64 (sumN (A 0) i)))]) (fun _ => _)
      (fun i => i ≤ N) (fun i => N - i) 0 (Nat.zero_le _) rfl (by simp (maxSteps := 2000000) (disch := first | omega | assumption | (simp only [Wv.Bx, simprocAttr] <;> omega) | fail) only [Wv.B, simprocAttr, sumN, Int.natCast_zero]) ?_
    intro i hi
    by_cases hlt : i < N
    · have e1 : (i : Int) < N := by omega
      have b1 := hs i (by omega)
      have b2 := hA0 i hlt
      simp (maxSteps := 2000000) (disch := first | omega | assumption | (simp only [Wv.Bx, simprocAttr] <;> omega) | fail) only [Wv.B, simprocAttr, decide_eq_true e1]
      refine k_next (i + 1) (by omega) (by omega) rfl (by simp (maxSteps := 2000000) (disch := first | omega | assumption | (simp only [Wv.Bx, simprocAttr] <;> omega) | fail) only [Wv.B, simprocAttr, sumN, Int.natCast_add, Int.natCast_one])
    · obtain rfl : i = N := by omega
      simp (maxSteps := 2000000) (disch := first | omega | assumption | (simp only [Wv.Bx, simprocAttr] <;> omega) | fail) only [Wv.B, simprocAttr, Int.lt_irrefl, decide_false]
      rw [hZ]
end Go.Proofs.YtljfgdlgmdcmfaaGreat
