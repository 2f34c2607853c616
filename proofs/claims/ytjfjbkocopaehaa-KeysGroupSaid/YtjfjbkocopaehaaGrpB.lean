/- Plain numbers: the square of a secret. -/
import Derived.Test.YtjfjbkocopaehaaGrpA
namespace Go.Proofs.Ytjfjbkocopaehaa

theorem mulStep_get {n c i f : Nat} {l cur nxt : List Int} (hc : c < n) (hlen : nxt.length = 32) (hn : n ≤ 32) :
    (mulStep n l cur nxt i f).getD c 0 = nxt.getD c 0 + chi n c (f + i) * (cur.getD i 0 * l.getD f 0) := by
  unfold mulStep chi
  rw [Nat.mod_eq_of_lt (show c < 2 * n by omega), Nat.mod_eq_of_lt (show c + n < 2 * n by omega)]
  have hlt : (f + i) % (2 * n) < 2 * n := Nat.mod_lt _ (by omega)
  by_cases h : (f + i) % (2 * n) < n
  · rw [if_pos h, getD_set _ _ _ _ (by omega)]
    by_cases e : (f + i) % (2 * n) = c
    · rw [if_pos e, if_pos e, e, Int.one_mul, Int.one_mul]
    · rw [if_neg e, if_neg e, if_neg (by omega), Int.zero_mul, Int.add_zero]
  · rw [if_neg h, getD_set _ _ _ _ (by omega)]
    by_cases e : (f + i) % (2 * n) = c + n
    · rw [if_pos (by omega), if_neg (by omega), if_pos e, e, Nat.add_sub_cancel, Int.mul_assoc]
    · rw [if_neg (by omega), if_neg (by omega), if_neg e, Int.zero_mul, Int.add_zero]
theorem mulRow_get {n c i : Nat} {l cur nxt : List Int} (hc : c < n) (hlen : nxt.length = 32) (hn : n ≤ 32) : ∀ F,
    (mulRow n l cur nxt i F).getD c 0 = nxt.getD c 0 + sumTo (fun f => chi n c (f + i) * (cur.getD i 0 * l.getD f 0)) F := by
  intro F
  induction F with
  | zero => simp [mulRow, sumTo]
  | succ F ih => rw [mulRow, mulStep_get hc (by rw [mulRow_length]; exact hlen) hn, ih, sumTo, Int.add_assoc]
theorem mulTo_get {n c : Nat} {l cur : List Int} (hc : c < n) (hn : n ≤ 32) : ∀ I,
    (mulTo n l cur I).getD c 0 = sumTo (fun i => sumTo (fun f => chi n c (f + i) * (cur.getD i 0 * l.getD f 0)) n) I := by
  intro I
  induction I with
  | zero =>
    rw [mulTo, List.getD_eq_getElem?_getD, List.getElem?_replicate]
    split <;> rfl
  | succ I ih => rw [mulTo, mulRow_get hc (mulTo_length _ _ _ _) hn, ih, sumTo]
theorem chi_self {n c f : Nat} (hc : c < n) (hf : f < n) : chi n c f = if f = c then 1 else 0 := by
  unfold chi
  rw [Nat.mod_eq_of_lt (show c < 2 * n by omega), Nat.mod_eq_of_lt (show c + n < 2 * n by omega), Nat.mod_eq_of_lt (show f < 2 * n by omega)]
  by_cases e : f = c
  · rw [if_pos e, if_pos e]
  · rw [if_neg e, if_neg e, if_neg (by omega)]
theorem pow1_get {n c : Nat} {l : List Int} (hc : c < n) (hn : n ≤ 32) : (powTo n l 1).getD c 0 = l.getD c 0 := by
  show (mulTo n l (powTo n l 0) n).getD c 0 = _
  rw [mulTo_get hc hn]
  have h0 : ∀ i, i < n → i ≠ 0 → (powTo n l 0).getD i 0 = 0 := by
    intro i hi h
    obtain ⟨j, rfl⟩ : ∃ j, i = j + 1 := ⟨i - 1, by omega⟩
    show (1 :: List.replicate 31 0).getD (j + 1) 0 = 0
    rw [List.getD_eq_getElem?_getD, List.getElem?_cons_succ, List.getElem?_replicate]
    split <;> rfl
  rw [sumTo_one (c := 0) (by omega) (fun i hi h => by
    rw [sumTo_congr (h := fun _ => 0) (fun f _ => by rw [h0 i hi h, Int.zero_mul, Int.mul_zero]), sumTo_zero])]
  rw [sumTo_one (c := c) hc (fun f hf h => by rw [Nat.add_zero, chi_self hc hf, if_neg h, Int.zero_mul])]
  rw [Nat.add_zero, chi_self hc hc, if_pos rfl, Int.one_mul]
  show 1 * _ = _
  rw [Int.one_mul]

/-- A coefficient of the square. -/
def sq (n : Nat) (l : List Int) (c : Nat) : Int := sumTo (fun i => sumTo (fun f => chi n c (f + i) * (l.getD i 0 * l.getD f 0)) n) n
theorem pow2_get {n c : Nat} {l : List Int} (hc : c < n) (hn : n ≤ 32) : (powTo n l 2).getD c 0 = sq n l c := by
  show (mulTo n l (powTo n l 1) n).getD c 0 = _
  rw [mulTo_get hc hn]
  unfold sq
  exact sumTo_congr fun i hi => sumTo_congr fun f _ => by rw [pow1_get hi hn]

/-- The sign at places that an automorphism has turned. -/
theorem chi_pos {n k : Nat} (hn : Dim n) (hk : k % 2 = 1) (j f i : Nat) : chi n (pos n k j) (pos n k f + pos n k i) * (sgn n k i * sgn n k f) = sgn n k j * chi n j (f + i) := by
  have hp : ∀ a, ∃ b, b = pos n k a ∧ ((sgn n k a = 1 ∧ a * k % (2 * n) = b) ∨ (sgn n k a = -1 ∧ a * k % (2 * n) = b + n)) := by
    intro a
    refine ⟨_, rfl, ?_⟩
    unfold pos sgn
    by_cases h : a * k % (2 * n) < n
    · rw [if_pos h, if_pos h]; exact .inl ⟨rfl, rfl⟩
    · rw [if_neg h, if_neg h]; exact .inr ⟨rfl, by omega⟩
  have hmain : chi n (j * k % (2 * n)) (f * k % (2 * n) + i * k % (2 * n)) = chi n j (f + i) := by
    rw [← chi_mod n (j * k % (2 * n)), Nat.mod_mod, ← Nat.add_mod, chi_mod, ← Nat.add_mul, chi_mul hn hk]
  obtain ⟨pj, ej, hj⟩ := hp j
  obtain ⟨pf, ef, hf⟩ := hp f
  obtain ⟨pi, ei, hi⟩ := hp i
  rw [← ej, ← ef, ← ei, ← hmain]
  have e1 : ∀ a b : Nat, chi n pj (a + n + b) = - chi n pj (a + b) := fun a b => by rw [show a + n + b = a + b + n by omega]; exact chi_u hn _ _
  have e2 : ∀ a b : Nat, chi n pj (a + (b + n)) = - chi n pj (a + b) := fun a b => by rw [show a + (b + n) = a + b + n by omega]; exact chi_u hn _ _
  rcases hj with ⟨sj, mj⟩ | ⟨sj, mj⟩ <;> rcases hf with ⟨sf, mf⟩ | ⟨sf, mf⟩ <;> rcases hi with ⟨si, mi⟩ | ⟨si, mi⟩ <;>
    (rw [sj, sf, si, mj, mf, mi]; try rw [chi_c hn]) <;> simp only [e1, e2, Int.mul_one, Int.one_mul, Int.neg_mul, Int.mul_neg, Int.neg_neg]
theorem sq_turn {n k j : Nat} {l : List Int} (hn : Dim n) (hk : k % 2 = 1) : sq n (turnTo n k l n) (pos n k j) = sgn n k j * sq n l j := by
  unfold sq
  rw [← sumTo_mul, ← sumTo_re (pos_perm hn hk)]
  refine sumTo_congr fun i hi => ?_
  rw [← sumTo_mul, ← sumTo_re (pos_perm hn hk)]
  refine sumTo_congr fun f hf => ?_
  rw [turn_at hn hk hi, turn_at hn hk hf, ← Int.mul_assoc (sgn n k j), ← chi_pos hn hk]
  rw [Int.mul_assoc, Int.mul_assoc]
  congr 1
  rw [Int.mul_assoc, Int.mul_left_comm (l.getD i 0)]

/-- The absolute values of the square. -/
theorem ab_mul_small {c a b : Int} (ha : a = -1 ∨ a = 0 ∨ a = 1) (hb : b = -1 ∨ b = 0 ∨ b = 1) : ab (c * (a * b)) = ab c * (ab a * ab b) := by
  have e1 : ab 1 = 1 := by decide
  have e2 : ab (-1) = 1 := by decide
  have e0 : ab 0 = 0 := by decide
  have e3 : ∀ z, ab (-z) = ab z := fun z => by unfold ab; omega
  rcases ha with rfl | rfl | rfl <;> rcases hb with rfl | rfl | rfl <;> simp [e0, e1, e2, e3]
theorem sq_sum {n : Nat} {l : List Int} (hn : Dim n) (hl : l.length = n) (hs : ∀ z, z ∈ l → small1 z = true) : sumTo (fun j => ab (sq n l j)) n ≤ ((weight l : Nat) : Int) * ((weight l : Nat) : Int) := by
  have hw : ((weight l : Nat) : Int) = sumTo (fun i => ab (l.getD i 0)) n := by
    rw [weight_all, hl]
    refine sumTo_congr fun i _ => ?_
    rcases getD_small hs i with h | h | h <;> rw [h] <;> decide
  have h1 : sumTo (fun j => ab (sq n l j)) n ≤ sumTo (fun j => sumTo (fun i => sumTo (fun f => ab (chi n j (f + i)) * (ab (l.getD i 0) * ab (l.getD f 0))) n) n) n := by
    refine sumTo_le fun j _ => Int.le_trans (ab_sum _ n) (sumTo_le fun i _ => Int.le_trans (ab_sum _ n) (sumTo_le fun f _ => ?_))
    rw [ab_mul_small (getD_small hs i) (getD_small hs f)]; exact Int.le_refl _
  refine Int.le_trans h1 ?_
  rw [sumTo_swap]
  have h2 : ∀ i, i < n → sumTo (fun j => sumTo (fun f => ab (chi n j (f + i)) * (ab (l.getD i 0) * ab (l.getD f 0))) n) n = ab (l.getD i 0) * sumTo (fun f => ab (l.getD f 0)) n := by
    intro i _
    rw [sumTo_swap, ← sumTo_mul]
    refine sumTo_congr fun f _ => ?_
    rw [sumTo_congr (h := fun j => (ab (l.getD i 0) * ab (l.getD f 0)) * ab (chi n j (f + i))) (fun j _ => Int.mul_comm _ _), sumTo_mul, chi_one hn, Int.mul_one]
  rw [sumTo_congr h2, hw]
  rw [sumTo_congr (h := fun i => sumTo (fun f => ab (l.getD f 0)) n * ab (l.getD i 0)) (fun i _ => Int.mul_comm _ _), sumTo_mul]
  exact Int.le_refl _
end Go.Proofs.Ytjfjbkocopaehaa
