/- Numbers as texts: obscuraref12.decimal, params.texts. -/
import Derived.Test.YtjfjbkocopaehaaDoorSpgK
import Derived.Test.YtjfjbkocopaehaaDoorShelfB
import Derived.Test.YtjfjbkocopaehaaDoorDefE
import Derived.Lib.ItoaNum
import Derived.Deep.RegionWith
namespace Go.Proofs.YtjfjbkocopaehaaDoor
open Go.RowKit
set_option linter.unusedVariables false

/-- A number in decimal. -/
def dec (n : Nat) : ByteArray := ⟨(Lib.decDigits n).toArray⟩
/-- One digit. -/
def oneB (d : Nat) : ByteArray := ⟨#[UInt8.ofNat (48 + d)]⟩
theorem dec_small {n : Nat} (h : n < 10) : dec n = oneB n := by unfold dec oneB; rw [Lib.decDigits_one h]
theorem dec_step {n : Nat} (h : ¬ n < 10) : dec n = dec (n / 10) ++ oneB (n % 10) := by
  unfold dec oneB
  rw [Lib.decDigits, dif_neg h]
  apply ByteArray.ext
  simp
theorem dec_size : ∀ (k n : Nat), n < 10 ^ (k + 1) → (dec n).size ≤ k + 1 := by
  intro k
  induction k with
  | zero => intro n h; rw [dec_small (by simpa using h)]; exact Nat.le_refl _
  | succ k ih =>
    intro n h
    by_cases hn : n < 10
    · rw [dec_small hn]; show 1 ≤ _; omega
    · have h1 := ih (n / 10) (by rw [Nat.div_lt_iff_lt_mul (by decide), ← Nat.pow_succ]; exact h)
      have h2 : (dec n).size = (dec (n / 10)).size + 1 := by
        rw [dec_step hn, ByteArray.size_append]; rfl
      omega
theorem dec_size63 {n : Nat} (h : n < 9223372036854775808) : (dec n).size ≤ 19 := dec_size 18 n (Nat.lt_of_lt_of_le h (by decide))

theorem conv_at (W : World) (g d : Nat) (hd : d < 10) (hc : W.cell? ⟨g, 0, none⟩ = some (.int .u8 (48 + (d : Int)))) : (convert 53 9 (.slice (some ⟨g, 0, none⟩) 1 1)).run Tryd.prog W = .ok (.string (oneB d)) W := by
  have h := conv_by8 W g 1 [48 + (d : Int)] (fun i hi => by
    have hi0 : i = 0 := by simp [by8] at hi; omega
    subst hi0
    exact hc) (fun z hz => by simp at hz; omega)
  have e : bsOf [48 + (d : Int)] = oneB d := by
    show (⟨#[UInt8.ofNat (48 + (d : Int)).toNat]⟩ : ByteArray) = _
    rw [show (48 + (d : Int)).toNat = 48 + d by omega]; rfl
  rw [e] at h
  exact h
theorem conv_one (W : World) (d : Nat) (hd : d < 10) : (convert 53 9 (.slice (some ⟨W.heap.size, 0, none⟩) 1 1)).run Tryd.prog (W.alloc (.cells #[.int .u8 (48 + (d : Int))] 5)) = .ok (.string (oneB d)) (W.alloc (.cells #[.int .u8 (48 + (d : Int))] 5)) := by
  have h := conv_by8 (W.alloc (.cells #[.int .u8 (48 + (d : Int))] 5)) W.heap.size 1 [48 + (d : Int)] (fun i hi => by
    have hi0 : i = 0 := by simp [by8] at hi; omega
    subst hi0
    exact (Blk.new W #[.int .u8 (48 + (d : Int))] 5).cell 0 (by simp)) (fun z hz => by simp at hz; omega)
  have e : bsOf [48 + (d : Int)] = oneB d := by
    show (⟨#[UInt8.ofNat (48 + (d : Int)).toNat]⟩ : ByteArray) = _
    rw [show (48 + (d : Int)).toNat = 48 + d by omega]; rfl
  rw [e] at h
  exact h

set_option maxHeartbeats 2000000 in
set_option maxRecDepth 100000 in
theorem rdec_any (n : Nat) : ∀ (w : World), n < 9223372036854775808 →
    Calls Tryd.prog 15 #[.int .i64 n] w fun e w' => e = .returned (.string (dec n)) ∧ Below w.heap.size w w' := by
  induction n using Nat.strongRecOn with
  | _ n ih =>
    intro w hn
    by_cases h10 : n < 10
    · have d1 : decide ((n : Int) < 10) = true := decide_eq_true (by omega)
      have hcv := fun W => conv_one W n h10
      have HD := Lib.hid (dec_small h10)
      clear ih
      go_enter Tryd.func15, Tryd.ntmps15
      go_wp2_with fail
      go_ret
      exact ⟨by rw [HD.out]; rfl, (Below.refl _ _).alloc (Nat.le_refl _) _⟩
    · have d1 : decide ((n : Int) < 10) = false := decide_eq_false (by omega)
      obtain ⟨q, hq⟩ : ∃ q, n / 10 = q := ⟨_, rfl⟩
      obtain ⟨r, hr⟩ : ∃ r, n % 10 = r := ⟨_, rfl⟩
      have IH : Hid (∀ (W : World) (k : Int), k = (q : Int) → Calls Tryd.prog 15 #[.int .i64 k] W fun e w' => e = .returned (.string (dec q)) ∧ Below W.heap.size W w') := by
        rintro W k rfl
        exact ih q (by omega) W (by omega)
      have HD := Lib.hid (dec_step h10)
      rw [hq, hr] at HD
      have hr10 : r < 10 := by omega
      have hcv := fun W => conv_one W r hr10
      have hqi : (n : Int) / 10 = (q : Int) := by omega
      have hri : (n : Int) % 10 = (r : Int) := by omega
      have hq63 : q < 9223372036854775808 := by omega
      have hw1 : IntKind.i64.wrap (q : Int) = (q : Int) := by rw [IntKind.wrap_i64]; omega
      have htm : (n : Int).tmod 10 = (r : Int) := by rw [Int.tmod_eq_emod_of_nonneg (by omega)]; exact hri
      have hw2 : IntKind.i64.wrap (48 + (r : Int)) = 48 + (r : Int) := by rw [IntKind.wrap_i64]; omega
      have hw3 : IntKind.u8.wrap (48 + (r : Int)) = 48 + (r : Int) := by rw [IntKind.wrap_u8]; omega
      have hsz : (dec q).size + (oneB r).size ≤ 9223372036854775807 := by have h1 := dec_size63 hq63; have h2 : (oneB r).size = 1 := rfl; omega
      clear ih hq hr
      have HB := Lib.hid (Below.refl w.heap.size w)
      go_enter Tryd.func15, Tryd.ntmps15
      go_wp2_with fail
      have HCA : Hid (∀ (W' : World), Below ((w.alloc (.cells #[.int .u8 (48 + (r : Int))] 5)).drew).heap.size ((w.alloc (.cells #[.int .u8 (48 + (r : Int))] 5)).drew) W' → (convert 53 9 (.slice (some ⟨w.heap.size, 0, none⟩) 1 1)).run Tryd.prog W' = .ok (.string (oneB r)) W') := by
        intro W' hb
        refine conv_at W' w.heap.size r hr10 ((below_at hb (by simp)).trans ?_)
        exact (Blk.new w #[.int .u8 (48 + (r : Int))] 5).cell 0 (by simp)
      have hcd := HCA.out _ (Below.refl _ _)
      go_region_with (first
        | (go_at_call 15; (with_reducible refine (IH.out _ _ (by first | rfl | exact hqi | exact hw1)).mono ?_); rintro ev W3 ⟨rfl, hb3⟩; first | (have hcx := HCA.out _ hb3) | skip))
      all_goals
        clear hcd hcv HCA
        go_wp2_with fail
        go_ret
        refine ⟨by rw [HD.out]; rfl, ?_⟩
        first
          | exact bel_then hb3 (((Below.refl _ w).alloc (Nat.le_refl _) _).drew) (by simp)
          | (have h := bel_then hb3 (Below.refl w.heap.size w).drew (Nat.le_refl _); exact h.alloc h.size _)
end Go.Proofs.YtjfjbkocopaehaaDoor
