/- Plain numbers: secrets under automorphisms, their squares. -/
import Derived.Test.YtjpcljnojipdnaaGreatMthA
namespace Go.Proofs.YtjpcljnojipdnaaGreat

/-! Sums. -/
def sumTo (g : Nat → Int) : Nat → Int
  | 0 => 0
  | n + 1 => sumTo g n + g n
theorem sumTo_congr {g h : Nat → Int} : ∀ {n : Nat}, (∀ i, i < n → g i = h i) → sumTo g n = sumTo h n := by
  intro n
  induction n with
  | zero => intro _; rfl
  | succ n ih => intro H; simp only [sumTo]; rw [ih (fun i hi => H i (by omega)), H n (by omega)]
theorem sumTo_list (g : Nat → Int) (n : Nat) : sumTo g n = ((List.range n).map g).sum := by
  induction n with
  | zero => rfl
  | succ n ih => rw [List.range_succ, List.map_append, List.sum_append, ← ih]; simp [sumTo]
theorem perm_sum {l m : List Nat} (g : Nat → Int) (h : l.Perm m) : (l.map g).sum = (m.map g).sum := by
  induction h with
  | nil => rfl
  | cons x _ ih => simp [ih]
  | swap x y l => simp; omega
  | trans _ _ ih1 ih2 => exact ih1.trans ih2
theorem sumTo_re {pos : Nat → Nat} {n : Nat} (hp : ((List.range n).map pos).Perm (List.range n)) (g : Nat → Int) : sumTo (fun i => g (pos i)) n = sumTo g n := by
  rw [sumTo_list, sumTo_list, ← perm_sum g hp, List.map_map]; rfl
theorem sumTo_zero (n : Nat) : sumTo (fun _ => 0) n = 0 := by induction n with
  | zero => rfl
  | succ n ih => simp [sumTo, ih]
theorem sumTo_add (g h : Nat → Int) (n : Nat) : sumTo (fun i => g i + h i) n = sumTo g n + sumTo h n := by
  induction n with
  | zero => rfl
  | succ n ih => simp only [sumTo, ih]; omega
theorem sumTo_mul (c : Int) (g : Nat → Int) (n : Nat) : sumTo (fun i => c * g i) n = c * sumTo g n := by
  induction n with
  | zero => simp [sumTo]
  | succ n ih => simp only [sumTo, ih, Int.mul_add]
theorem sumTo_swap (g : Nat → Nat → Int) (n m : Nat) : sumTo (fun i => sumTo (fun j => g i j) m) n = sumTo (fun j => sumTo (fun i => g i j) n) m := by
  induction n with
  | zero => simp only [sumTo]; rw [sumTo_zero]
  | succ n ih => simp only [sumTo]; rw [ih, ← sumTo_add]
theorem sumTo_one {g : Nat → Int} {n c : Nat} (hc : c < n) (h : ∀ i, i < n → i ≠ c → g i = 0) : sumTo g n = g c := by
  induction n with
  | zero => omega
  | succ n ih =>
    simp only [sumTo]
    by_cases e : c = n
    · subst e
      rw [sumTo_congr (h := fun _ => 0) (fun i hi => h i (by omega) (by omega)), sumTo_zero]; omega
    · rw [ih (by omega) (fun i hi => h i (by omega)), h n (by omega) (fun e' => e e'.symm)]; omega
def ab (z : Int) : Int := max z (-z)
theorem ab_nonneg (z : Int) : 0 ≤ ab z := by unfold ab; omega
theorem ab_add (a b : Int) : ab (a + b) ≤ ab a + ab b := by unfold ab; omega
theorem ab_sum (g : Nat → Int) (n : Nat) : ab (sumTo g n) ≤ sumTo (fun i => ab (g i)) n := by
  induction n with
  | zero => show ab 0 ≤ 0; decide
  | succ n ih => simp only [sumTo]; have := ab_add (sumTo g n) (g n); omega
theorem sumTo_le {g h : Nat → Int} : ∀ {n : Nat}, (∀ i, i < n → g i ≤ h i) → sumTo g n ≤ sumTo h n := by
  intro n
  induction n with
  | zero => intro _; exact Int.le_refl _
  | succ n ih => intro H; simp only [sumTo]; have := ih (fun i hi => H i (by omega)); have := H n (by omega); omega

/-! The sign with which a place stands for another. -/
def chi (n c u : Nat) : Int := if u % (2 * n) = c % (2 * n) then 1 else if u % (2 * n) = (c + n) % (2 * n) then -1 else 0
def Dim (n : Nat) : Prop := n = 4 ∨ n = 8 ∨ n = 16 ∨ n = 32
theorem chi_u {n : Nat} (hn : Dim n) (c u : Nat) : chi n c (u + n) = - chi n c u := by
  unfold chi
  rcases hn with rfl | rfl | rfl | rfl <;> (split <;> split <;> (try split) <;> (try split) <;> omega)
theorem chi_c {n : Nat} (hn : Dim n) (c u : Nat) : chi n (c + n) u = - chi n c u := by
  unfold chi
  rcases hn with rfl | rfl | rfl | rfl <;> (split <;> split <;> (try split) <;> (try split) <;> omega)
theorem chi_mod (n c u : Nat) : chi n (c % (2 * n)) (u % (2 * n)) = chi n c u := by
  unfold chi
  rw [Nat.mod_mod, Nat.mod_mod, Nat.mod_add_mod]
theorem chi_one {n : Nat} (hn : Dim n) (u : Nat) : sumTo (fun j => ab (chi n j u)) n = 1 := by
  have h0 : ∃ j, j < n ∧ ab (chi n j u) = 1 ∧ ∀ i, i < n → i ≠ j → ab (chi n i u) = 0 := by
    by_cases h : u % (2 * n) < n
    · refine ⟨u % (2 * n), h, ?_, fun i hi hne => ?_⟩
      · unfold chi; rw [if_pos (by rw [Nat.mod_mod])]; decide
      · unfold chi
        rw [Nat.mod_eq_of_lt (show i < 2 * n by omega), Nat.mod_eq_of_lt (show i + n < 2 * n by omega), if_neg (by omega), if_neg (by omega)]; decide
    · have h2 : u % (2 * n) < 2 * n := Nat.mod_lt _ (by rcases hn with h | h | h | h <;> omega)
      refine ⟨u % (2 * n) - n, by omega, ?_, fun i hi hne => ?_⟩
      · unfold chi
        rw [Nat.mod_eq_of_lt (show u % (2 * n) - n < 2 * n by omega), Nat.sub_add_cancel (by omega), Nat.mod_mod, if_neg (by omega), if_pos rfl]; decide
      · unfold chi
        rw [Nat.mod_eq_of_lt (show i < 2 * n by omega), Nat.mod_eq_of_lt (show i + n < 2 * n by omega), if_neg (by omega), if_neg (by omega)]; decide
  obtain ⟨j, hj, h1, h2⟩ := h0
  rw [sumTo_one hj h2]; exact h1

/-! Odd numbers modulo a power of two. -/
theorem odd_inv {n k : Nat} (hn : Dim n) (hk : k % 2 = 1) : ∃ v, k * v % (2 * n) = 1 := by
  have h64 : ∀ r, r < 64 → r % 2 = 1 → r * (r ^ 15 % 64) % 64 = 1 := by decide +kernel
  have h := h64 (k % 64) (Nat.mod_lt _ (by decide)) (by omega)
  refine ⟨(k % 64) ^ 15 % 64, ?_⟩
  have h2 : k * ((k % 64) ^ 15 % 64) % 64 = 1 := by rw [Nat.mul_mod, Nat.mod_mod]; exact h
  have h3 : k * ((k % 64) ^ 15 % 64) % (2 * n) = 1 % (2 * n) := by
    have : (2 * n) ∣ 64 := by rcases hn with rfl | rfl | rfl | rfl <;> decide
    rw [← Nat.mod_mod_of_dvd _ this, h2]
  rw [h3]; rcases hn with rfl | rfl | rfl | rfl <;> rfl
theorem mul_cancel {n k u v : Nat} (hn : Dim n) (hk : k % 2 = 1) (h : u * k % (2 * n) = v * k % (2 * n)) : u % (2 * n) = v % (2 * n) := by
  obtain ⟨i, hi⟩ := odd_inv hn hk
  have e : ∀ x : Nat, x * k * i % (2 * n) = x % (2 * n) := fun x => by
    have h1 : (2 * n) ≠ 1 := by rcases hn with rfl | rfl | rfl | rfl <;> decide
    rw [Nat.mul_assoc, Nat.mul_mod, hi, Nat.mul_one, Nat.mod_mod]
  rw [← e u, ← e v, Nat.mul_mod, h, ← Nat.mul_mod]
theorem mul_iff {n k u v : Nat} (hn : Dim n) (hk : k % 2 = 1) : u * k % (2 * n) = v * k % (2 * n) ↔ u % (2 * n) = v % (2 * n) :=
  ⟨mul_cancel hn hk, fun h => by rw [Nat.mul_mod, h, ← Nat.mul_mod]⟩
theorem half_odd {n k : Nat} (hk : k % 2 = 1) (j : Nat) : (j + n) * k % (2 * n) = (j * k + n) % (2 * n) := by
  obtain ⟨m, rfl⟩ : ∃ m, k = 2 * m + 1 := ⟨k / 2, by omega⟩
  have : (j + n) * (2 * m + 1) = (j * (2 * m + 1) + n) + 2 * n * m := by
    rw [Nat.add_mul, Nat.mul_add n, Nat.mul_one]
    have : n * (2 * m) = 2 * n * m := by rw [Nat.mul_comm 2 n, Nat.mul_assoc]
    omega
  rw [this, Nat.add_mul_mod_self_left]
theorem chi_mul {n k : Nat} (hn : Dim n) (hk : k % 2 = 1) (j u : Nat) : chi n (j * k) (u * k) = chi n j u := by
  unfold chi
  have h1 := mul_iff (u := u) (v := j) hn hk
  have h2 : u * k % (2 * n) = (j * k + n) % (2 * n) ↔ u % (2 * n) = (j + n) % (2 * n) := by
    rw [← half_odd hk j]; exact mul_iff hn hk
  by_cases a : u % (2 * n) = j % (2 * n)
  · rw [if_pos (h1.2 a), if_pos a]
  · rw [if_neg (fun h => a (h1.1 h)), if_neg a]
    by_cases b : u % (2 * n) = (j + n) % (2 * n)
    · rw [if_pos (h2.2 b), if_pos b]
    · rw [if_neg (fun h => b (h2.1 h)), if_neg b]

/-! Where an automorphism brings a place, and with which sign. -/
def pos (n k i : Nat) : Nat := if i * k % (2 * n) < n then i * k % (2 * n) else i * k % (2 * n) - n
def sgn (n k i : Nat) : Int := if i * k % (2 * n) < n then 1 else -1
theorem sgn_cases (n k i : Nat) : sgn n k i = 1 ∨ sgn n k i = -1 := by unfold sgn; split <;> simp
theorem pos_lt {n : Nat} (hn : Dim n) (k i : Nat) : pos n k i < n := by
  have h : i * k % (2 * n) < 2 * n := Nat.mod_lt _ (by rcases hn with h | h | h | h <;> omega)
  unfold pos; split <;> omega
theorem pos_mod (n k i : Nat) : pos n (k % (2 * n)) i = pos n k i ∧ sgn n (k % (2 * n)) i = sgn n k i := by
  have h : i * (k % (2 * n)) % (2 * n) = i * k % (2 * n) := by rw [Nat.mul_mod, Nat.mod_mod, ← Nat.mul_mod]
  unfold pos sgn; rw [h]; exact ⟨rfl, rfl⟩
theorem pos_perm_small : ∀ n, n = 4 ∨ n = 8 ∨ n = 16 ∨ n = 32 → ∀ k, k < 2 * n → k % 2 = 1 → ((List.range n).map (pos n k)).isPerm (List.range n) = true := by
  intro n hn
  rcases hn with rfl | rfl | rfl | rfl <;> decide +kernel
theorem pos_perm {n k : Nat} (hn : Dim n) (hk : k % 2 = 1) : ((List.range n).map (pos n k)).Perm (List.range n) := by
  have h := List.isPerm_iff.1 (pos_perm_small n hn (k % (2 * n)) (Nat.mod_lt _ (by rcases hn with h | h | h | h <;> omega)) (by rcases hn with rfl | rfl | rfl | rfl <;> omega))
  rwa [List.map_congr_left (fun i _ => (pos_mod n k i).1)] at h
theorem pos_inj {n k i j : Nat} (hn : Dim n) (hk : k % 2 = 1) (hi : i < n) (hj : j < n) (h : pos n k i = pos n k j) : i = j := by
  have hnd : ((List.range n).map (pos n k)).Nodup := (pos_perm hn hk).nodup_iff.2 List.nodup_range
  have hw := List.pairwise_iff_getElem.1 hnd
  rcases Nat.lt_trichotomy i j with hl | hl | hl
  · exact absurd (by rw [List.getElem_map, List.getElem_map, List.getElem_range, List.getElem_range]; exact h) (hw i j (by simpa using hi) (by simpa using hj) hl)
  · exact hl
  · exact absurd (by rw [List.getElem_map, List.getElem_map, List.getElem_range, List.getElem_range]; exact h.symm) (hw j i (by simpa using hj) (by simpa using hi) hl)
theorem pos_sur {n k j : Nat} (hn : Dim n) (hk : k % 2 = 1) (hj : j < n) : ∃ i, i < n ∧ pos n k i = j := by
  have : j ∈ (List.range n).map (pos n k) := (pos_perm hn hk).mem_iff.2 (List.mem_range.2 hj)
  obtain ⟨i, hi, e⟩ := List.mem_map.1 this
  exact ⟨i, List.mem_range.1 hi, e⟩

/-! The secret under an automorphism. -/
theorem getD_set (l : List Int) (i p : Nat) (v : Int) (hp : p < l.length) : (l.set i v).getD p 0 = if i = p then v else l.getD p 0 := by
  rw [List.getD_eq_getElem?_getD, List.getD_eq_getElem?_getD, List.getElem?_set]
  by_cases e : i = p
  · subst e; rw [if_pos rfl, if_pos hp, if_pos rfl]; rfl
  · rw [if_neg e, if_neg e]
theorem turn_get {n k : Nat} {l : List Int} (hn : Dim n) (hk : k % 2 = 1) : ∀ I, I ≤ n → ∀ i, i < I → (turnTo n k l I).getD (pos n k i) 0 = sgn n k i * l.getD i 0 := by
  intro I
  induction I with
  | zero => intro _ i hi; omega
  | succ I ih =>
    intro hI i hi
    have hl : pos n k i < (turnTo n k l I).length := by rw [turnTo_length]; exact pos_lt hn k i
    rw [turnTo]
    have hst : turnStep n k l (turnTo n k l I) I = (turnTo n k l I).set (pos n k I) (sgn n k I * l.getD I 0) := by
      unfold turnStep pos sgn
      by_cases h : I * k % (2 * n) < n
      · rw [if_pos h, if_pos h, if_pos h, Int.one_mul]
      · rw [if_neg h, if_neg h, if_neg h, Int.neg_one_mul]
    rw [hst, getD_set _ _ _ _ hl]
    by_cases e : i = I
    · subst e; rw [if_pos rfl]
    · rw [if_neg (fun h => e (pos_inj hn hk (by omega) (by omega) h.symm)), ih (by omega) i (by omega)]
theorem turn_at {n k : Nat} {l : List Int} (hn : Dim n) (hk : k % 2 = 1) {i : Nat} (hi : i < n) : (turnTo n k l n).getD (pos n k i) 0 = sgn n k i * l.getD i 0 := turn_get hn hk n (Nat.le_refl _) i hi

/-- One automorphism after the other. -/
theorem pos_comp {n k m : Nat} (hn : Dim n) (hm : m % 2 = 1) (i : Nat) : pos n m (pos n k i) = pos n (k * m % (2 * n)) i ∧ sgn n m (pos n k i) * sgn n k i = sgn n (k * m % (2 * n)) i := by
  have h0 : i * (k * m % (2 * n)) % (2 * n) = i * k % (2 * n) * m % (2 * n) := by
    rw [Nat.mul_mod, Nat.mod_mod, ← Nat.mul_mod, ← Nat.mul_assoc, Nat.mul_mod (i * k % (2 * n)), Nat.mod_mod, ← Nat.mul_mod]
  have hlt : i * k % (2 * n) < 2 * n := Nat.mod_lt _ (by rcases hn with h | h | h | h <;> omega)
  unfold pos sgn
  rw [h0]
  by_cases h : i * k % (2 * n) < n
  · rw [if_pos h, if_pos h]; exact ⟨rfl, by rw [Int.mul_one]⟩
  · rw [if_neg h, if_neg h]
    obtain ⟨r, hr⟩ : ∃ r, i * k % (2 * n) = r + n := ⟨i * k % (2 * n) - n, by omega⟩
    rw [hr, Nat.add_sub_cancel, half_odd hm]
    have h1 : r * m % (2 * n) < 2 * n := Nat.mod_lt _ (by omega)
    have h2 : (r * m + n) % (2 * n) = if r * m % (2 * n) < n then r * m % (2 * n) + n else r * m % (2 * n) - n := by
      rw [← Nat.mod_add_mod]
      split
      · exact Nat.mod_eq_of_lt (by omega)
      · rw [Nat.mod_eq_sub_mod (by omega), Nat.mod_eq_of_lt (by omega)]; omega
    rw [h2]
    by_cases h3 : r * m % (2 * n) < n
    · rw [if_pos h3, if_pos h3, if_neg (by omega), if_pos h3, if_neg (by omega)]; exact ⟨by omega, rfl⟩
    · rw [if_neg h3, if_neg h3, if_pos (by omega), if_neg h3, if_pos (by omega)]; exact ⟨rfl, rfl⟩
theorem list_get_eq {n : Nat} {a b : List Int} (ha : a.length = n) (hb : b.length = n) (h : ∀ j, j < n → a.getD j 0 = b.getD j 0) : a = b := by
  refine List.ext_getElem (by omega) fun j h1 h2 => ?_
  have := h j (by omega)
  rwa [List.getD_eq_getElem?_getD, List.getD_eq_getElem?_getD, List.getElem?_eq_getElem h1, List.getElem?_eq_getElem h2] at this
theorem turn_comp {n k m : Nat} {l : List Int} (hn : Dim n) (hk : k % 2 = 1) (hm : m % 2 = 1) : turnTo n m (turnTo n k l n) n = turnTo n (k * m % (2 * n)) l n := by
  have hkm : k * m % (2 * n) % 2 = 1 := by
    have h1 : k * m % 2 = 1 := by rw [Nat.mul_mod, hk, hm]
    rw [Nat.mod_mod_of_dvd _ ⟨n, rfl⟩]; exact h1
  refine list_get_eq (turnTo_length _ _ _ _) (turnTo_length _ _ _ _) fun j hj => ?_
  obtain ⟨i, hi, rfl⟩ := pos_sur hn hkm hj
  rw [turn_at hn hkm hi, ← (pos_comp hn hm i).1, turn_at hn hm (pos_lt hn k i), turn_at hn hk hi, ← Int.mul_assoc, (pos_comp hn hm i).2]

/-- The weight stays. -/
theorem weight_sum (l : List Int) : ∀ j, j ≤ l.length → ((weight (l.take j) : Nat) : Int) = sumTo (fun i => if l.getD i 0 = 0 then 0 else 1) j := by
  intro j
  induction j with
  | zero => intro _; rfl
  | succ j ih =>
    intro hj
    have hg : l.getD j 0 = l[j] := by rw [List.getD_eq_getElem?_getD, List.getElem?_eq_getElem (by omega)]; rfl
    rw [take_snoc l j (by omega), weight_snoc, sumTo, ← ih (by omega), hg]
    split <;> simp
theorem weight_all (l : List Int) : ((weight l : Nat) : Int) = sumTo (fun i => if l.getD i 0 = 0 then 0 else 1) l.length := by
  have := weight_sum l l.length (Nat.le_refl _)
  rwa [List.take_length] at this
theorem turn_weight {n k : Nat} {l : List Int} (hn : Dim n) (hk : k % 2 = 1) (hl : l.length = n) : weight (turnTo n k l n) = weight l := by
  have h : ((weight (turnTo n k l n) : Nat) : Int) = ((weight l : Nat) : Int) := by
    rw [weight_all, weight_all, turnTo_length, hl, ← sumTo_re (pos_perm hn hk)]
    refine sumTo_congr fun i hi => ?_
    rw [turn_at hn hk hi]
    rcases sgn_cases n k i with e | e <;> rw [e]
    · rw [Int.one_mul]
    · rw [Int.neg_one_mul]
      by_cases h : l.getD i 0 = 0
      · rw [if_pos h, if_pos (by omega)]
      · rw [if_neg h, if_neg (by omega)]
  omega
end Go.Proofs.YtjpcljnojipdnaaGreat
