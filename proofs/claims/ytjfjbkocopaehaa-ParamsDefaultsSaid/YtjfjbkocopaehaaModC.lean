/- Walks of the tests for primes: modular.Prime and obscuraref01.Prime. -/
import Derived.Test.YtjfjbkocopaehaaModB
namespace Go.Proofs.Ytjfjbkocopaehaa
open Go.RowKit

theorem seven0 (w : World) : (Instr.index 125 (.agg #[.int .u32 2, .int .u32 3, .int .u32 5, .int .u32 7, .int .u32 11, .int .u32 13, .int .u32 61]) (.int .i64 0)).run Try.prog w = .ok (.int .u32 2) w := by kernel_rfl
theorem seven1 (w : World) : (Instr.index 125 (.agg #[.int .u32 2, .int .u32 3, .int .u32 5, .int .u32 7, .int .u32 11, .int .u32 13, .int .u32 61]) (.int .i64 1)).run Try.prog w = .ok (.int .u32 3) w := by kernel_rfl
theorem seven2 (w : World) : (Instr.index 125 (.agg #[.int .u32 2, .int .u32 3, .int .u32 5, .int .u32 7, .int .u32 11, .int .u32 13, .int .u32 61]) (.int .i64 2)).run Try.prog w = .ok (.int .u32 5) w := by kernel_rfl
theorem seven3 (w : World) : (Instr.index 125 (.agg #[.int .u32 2, .int .u32 3, .int .u32 5, .int .u32 7, .int .u32 11, .int .u32 13, .int .u32 61]) (.int .i64 3)).run Try.prog w = .ok (.int .u32 7) w := by kernel_rfl
theorem seven4 (w : World) : (Instr.index 125 (.agg #[.int .u32 2, .int .u32 3, .int .u32 5, .int .u32 7, .int .u32 11, .int .u32 13, .int .u32 61]) (.int .i64 4)).run Try.prog w = .ok (.int .u32 11) w := by kernel_rfl
theorem seven5 (w : World) : (Instr.index 125 (.agg #[.int .u32 2, .int .u32 3, .int .u32 5, .int .u32 7, .int .u32 11, .int .u32 13, .int .u32 61]) (.int .i64 5)).run Try.prog w = .ok (.int .u32 13) w := by kernel_rfl
theorem seven6 (w : World) : (Instr.index 125 (.agg #[.int .u32 2, .int .u32 3, .int .u32 5, .int .u32 7, .int .u32 11, .int .u32 13, .int .u32 61]) (.int .i64 6)).run Try.prog w = .ok (.int .u32 61) w := by kernel_rfl
theorem three0 (w : World) : (Instr.index 126 (.agg #[.int .u32 2, .int .u32 7, .int .u32 61]) (.int .i64 0)).run Try.prog w = .ok (.int .u32 2) w := by kernel_rfl
theorem three1 (w : World) : (Instr.index 126 (.agg #[.int .u32 2, .int .u32 7, .int .u32 61]) (.int .i64 1)).run Try.prog w = .ok (.int .u32 7) w := by kernel_rfl
theorem three2 (w : World) : (Instr.index 126 (.agg #[.int .u32 2, .int .u32 7, .int .u32 61]) (.int .i64 2)).run Try.prog w = .ok (.int .u32 61) w := by kernel_rfl

theorem mpasses_int (a : Int) (n : Nat) (w : World) (ha0 : 0 ≤ a) (ha : a < 4294967296) (hn : 3 ≤ n) (hn2 : n < 4294967296) (hodd : n % 2 = 1) :
    Calls Try.prog 96 #[.int .u32 a, .int .u32 n] w fun r w' => r = .returned (.bool (SP a.toNat n)) ∧ Below w.heap.size w w' := by
  obtain ⟨b, rfl⟩ := Int.eq_ofNat_of_zero_le ha0
  exact mpasses_any b n w (by omega) hn hn2 hodd

/-- None of the first k small primes divides n. -/
def NoSmall (n k : Nat) : Prop := ∀ p, p ∈ smalls.take k → n % p ≠ 0

theorem noSmall_step {n k p : Nat} (h : NoSmall n k) (hp : smalls[k]? = some p) (hd : n % p ≠ 0) : NoSmall n (k + 1) := by
  intro q hq
  rw [List.take_add_one] at hq
  rcases List.mem_append.1 hq with h1 | h1
  · exact h q h1
  · rw [hp] at h1; simp at h1; subst h1; exact hd

theorem mPrime_small {n k p : Nat} (h2 : ¬ n < 2) (h : NoSmall n k) (hp : smalls[k]? = some p) (hd : n % p = 0) : mPrime n = (n == p) := by
  have hf : smalls.find? (fun p => n % p == 0) = some p := by
    have hk : k < smalls.length := (List.getElem?_eq_some_iff.1 hp).1
    have e : smalls = smalls.take k ++ p :: smalls.drop (k + 1) := by
      have hpk : smalls[k] = p := (List.getElem?_eq_some_iff.1 hp).2
      rw [← hpk, List.getElem_cons_drop, List.take_append_drop]
    rw [e, List.find?_append, List.find?_eq_none.2 (by intro q hq; simpa using h q hq)]
    simp [hd]
  unfold mPrime
  rw [if_neg h2, hf]

theorem mPrime_none {n : Nat} (h2 : ¬ n < 2) (h : NoSmall n 7) : mPrime n = (SP 2 n && (SP 7 n && SP 61 n)) := by
  have hf : smalls.find? (fun p => n % p == 0) = none := List.find?_eq_none.2 (by intro q hq; simpa using h q (by simpa [smalls] using hq))
  unfold mPrime
  rw [if_neg h2, hf]

set_option maxHeartbeats 1000000 in
theorem mPrime_any (n : Nat) (w : World) (hn2 : n < 4294967296) :
    Calls Try.prog 64 #[.int .u32 n] w fun r w' => r = .returned (.bool (mPrime n)) ∧ Below w.heap.size w w' := by
  by_cases h2 : n < 2
  · go_enter Try.func64, Try.ntmps64
    go_wp2_with fail
    go_ret
    exact ⟨ret_bool (by unfold mPrime; rw [if_pos h2]), Below.refl _ _⟩
  · go_enter Try.func64, Try.ntmps64
    go_wp2_with fail
    go_loop [4, 10] (fun _ vk => ∃ k : Nat, vk = .int .i64 k ∧ k ≤ 7 ∧ Hid (NoSmall n k)) (fun _ vk => 7 - (intOf vk).toNat)
    case atStart => exact ⟨0, rfl, by omega, by intro p hp; simp at hp⟩
    case round =>
      obtain ⟨k, rfl, hk, hno⟩ := hrel
      rcases (show k = 0 ∨ k = 1 ∨ k = 2 ∨ k = 3 ∨ k = 4 ∨ k = 5 ∨ k = 6 ∨ k = 7 by omega) with rfl | rfl | rfl | rfl | rfl | rfl | rfl | rfl
      · have hix := seven0
        by_cases hd : n % 2 = 0
        · have hM := Lib.hid (mPrime_small h2 hno.out (show smalls[0]? = some 2 from rfl) hd)
          have hb : ((n : Int) % 2 == 0) = true := beq_iff_eq.2 (by omega)
          by_cases he : n = 2
          · have hq : ((n : Int) == 2) = true := beq_iff_eq.2 (by omega)
            have HE := Lib.hid he
            clear he hd
            go_wp2_with fail
            go_ret
            exact ⟨ret_bool (by rw [hM.out, HE.out]; rfl), Below.refl _ _⟩
          · have hq : ((n : Int) == 2) = false := beq_eq_false_iff_ne.2 (by omega)
            clear hd
            go_wp2_with fail
            go_ret
            exact ⟨ret_bool (by rw [hM.out, beq_eq_false_iff_ne.2 he]), Below.refl _ _⟩
        · have hb : ((n : Int) % 2 == 0) = false := beq_eq_false_iff_ne.2 (by omega)
          have hN := Lib.hid (noSmall_step hno.out (show smalls[0]? = some 2 from rfl) hd)
          go_wp2_with fail
          go_round
          case rel => exact ⟨1, rfl, by omega, hN⟩
          case measure => simp [intOf]
      · have hix := seven1
        by_cases hd : n % 3 = 0
        · have hM := Lib.hid (mPrime_small h2 hno.out (show smalls[1]? = some 3 from rfl) hd)
          have hb : ((n : Int) % 3 == 0) = true := beq_iff_eq.2 (by omega)
          by_cases he : n = 3
          · have hq : ((n : Int) == 3) = true := beq_iff_eq.2 (by omega)
            have HE := Lib.hid he
            clear he hd
            go_wp2_with fail
            go_ret
            exact ⟨ret_bool (by rw [hM.out, HE.out]; rfl), Below.refl _ _⟩
          · have hq : ((n : Int) == 3) = false := beq_eq_false_iff_ne.2 (by omega)
            clear hd
            go_wp2_with fail
            go_ret
            exact ⟨ret_bool (by rw [hM.out, beq_eq_false_iff_ne.2 he]), Below.refl _ _⟩
        · have hb : ((n : Int) % 3 == 0) = false := beq_eq_false_iff_ne.2 (by omega)
          have hN := Lib.hid (noSmall_step hno.out (show smalls[1]? = some 3 from rfl) hd)
          go_wp2_with fail
          go_round
          case rel => exact ⟨2, rfl, by omega, hN⟩
          case measure => simp [intOf]
      · have hix := seven2
        by_cases hd : n % 5 = 0
        · have hM := Lib.hid (mPrime_small h2 hno.out (show smalls[2]? = some 5 from rfl) hd)
          have hb : ((n : Int) % 5 == 0) = true := beq_iff_eq.2 (by omega)
          by_cases he : n = 5
          · have hq : ((n : Int) == 5) = true := beq_iff_eq.2 (by omega)
            have HE := Lib.hid he
            clear he hd
            go_wp2_with fail
            go_ret
            exact ⟨ret_bool (by rw [hM.out, HE.out]; rfl), Below.refl _ _⟩
          · have hq : ((n : Int) == 5) = false := beq_eq_false_iff_ne.2 (by omega)
            clear hd
            go_wp2_with fail
            go_ret
            exact ⟨ret_bool (by rw [hM.out, beq_eq_false_iff_ne.2 he]), Below.refl _ _⟩
        · have hb : ((n : Int) % 5 == 0) = false := beq_eq_false_iff_ne.2 (by omega)
          have hN := Lib.hid (noSmall_step hno.out (show smalls[2]? = some 5 from rfl) hd)
          go_wp2_with fail
          go_round
          case rel => exact ⟨3, rfl, by omega, hN⟩
          case measure => simp [intOf]
      · have hix := seven3
        by_cases hd : n % 7 = 0
        · have hM := Lib.hid (mPrime_small h2 hno.out (show smalls[3]? = some 7 from rfl) hd)
          have hb : ((n : Int) % 7 == 0) = true := beq_iff_eq.2 (by omega)
          by_cases he : n = 7
          · have hq : ((n : Int) == 7) = true := beq_iff_eq.2 (by omega)
            have HE := Lib.hid he
            clear he hd
            go_wp2_with fail
            go_ret
            exact ⟨ret_bool (by rw [hM.out, HE.out]; rfl), Below.refl _ _⟩
          · have hq : ((n : Int) == 7) = false := beq_eq_false_iff_ne.2 (by omega)
            clear hd
            go_wp2_with fail
            go_ret
            exact ⟨ret_bool (by rw [hM.out, beq_eq_false_iff_ne.2 he]), Below.refl _ _⟩
        · have hb : ((n : Int) % 7 == 0) = false := beq_eq_false_iff_ne.2 (by omega)
          have hN := Lib.hid (noSmall_step hno.out (show smalls[3]? = some 7 from rfl) hd)
          go_wp2_with fail
          go_round
          case rel => exact ⟨4, rfl, by omega, hN⟩
          case measure => simp [intOf]
      · have hix := seven4
        by_cases hd : n % 11 = 0
        · have hM := Lib.hid (mPrime_small h2 hno.out (show smalls[4]? = some 11 from rfl) hd)
          have hb : ((n : Int) % 11 == 0) = true := beq_iff_eq.2 (by omega)
          by_cases he : n = 11
          · have hq : ((n : Int) == 11) = true := beq_iff_eq.2 (by omega)
            have HE := Lib.hid he
            clear he hd
            go_wp2_with fail
            go_ret
            exact ⟨ret_bool (by rw [hM.out, HE.out]; rfl), Below.refl _ _⟩
          · have hq : ((n : Int) == 11) = false := beq_eq_false_iff_ne.2 (by omega)
            clear hd
            go_wp2_with fail
            go_ret
            exact ⟨ret_bool (by rw [hM.out, beq_eq_false_iff_ne.2 he]), Below.refl _ _⟩
        · have hb : ((n : Int) % 11 == 0) = false := beq_eq_false_iff_ne.2 (by omega)
          have hN := Lib.hid (noSmall_step hno.out (show smalls[4]? = some 11 from rfl) hd)
          go_wp2_with fail
          go_round
          case rel => exact ⟨5, rfl, by omega, hN⟩
          case measure => simp [intOf]
      · have hix := seven5
        by_cases hd : n % 13 = 0
        · have hM := Lib.hid (mPrime_small h2 hno.out (show smalls[5]? = some 13 from rfl) hd)
          have hb : ((n : Int) % 13 == 0) = true := beq_iff_eq.2 (by omega)
          by_cases he : n = 13
          · have hq : ((n : Int) == 13) = true := beq_iff_eq.2 (by omega)
            have HE := Lib.hid he
            clear he hd
            go_wp2_with fail
            go_ret
            exact ⟨ret_bool (by rw [hM.out, HE.out]; rfl), Below.refl _ _⟩
          · have hq : ((n : Int) == 13) = false := beq_eq_false_iff_ne.2 (by omega)
            clear hd
            go_wp2_with fail
            go_ret
            exact ⟨ret_bool (by rw [hM.out, beq_eq_false_iff_ne.2 he]), Below.refl _ _⟩
        · have hb : ((n : Int) % 13 == 0) = false := beq_eq_false_iff_ne.2 (by omega)
          have hN := Lib.hid (noSmall_step hno.out (show smalls[5]? = some 13 from rfl) hd)
          go_wp2_with fail
          go_round
          case rel => exact ⟨6, rfl, by omega, hN⟩
          case measure => simp [intOf]
      · have hix := seven6
        by_cases hd : n % 61 = 0
        · have hM := Lib.hid (mPrime_small h2 hno.out (show smalls[6]? = some 61 from rfl) hd)
          have hb : ((n : Int) % 61 == 0) = true := beq_iff_eq.2 (by omega)
          by_cases he : n = 61
          · have hq : ((n : Int) == 61) = true := beq_iff_eq.2 (by omega)
            have HE := Lib.hid he
            clear he hd
            go_wp2_with fail
            go_ret
            exact ⟨ret_bool (by rw [hM.out, HE.out]; rfl), Below.refl _ _⟩
          · have hq : ((n : Int) == 61) = false := beq_eq_false_iff_ne.2 (by omega)
            clear hd
            go_wp2_with fail
            go_ret
            exact ⟨ret_bool (by rw [hM.out, beq_eq_false_iff_ne.2 he]), Below.refl _ _⟩
        · have hb : ((n : Int) % 61 == 0) = false := beq_eq_false_iff_ne.2 (by omega)
          have hN := Lib.hid (noSmall_step hno.out (show smalls[6]? = some 61 from rfl) hd)
          go_wp2_with fail
          go_round
          case rel => exact ⟨7, rfl, by omega, hN⟩
          case measure => simp [intOf]
      · have hodd : n % 2 = 1 := by have := hno.out 2 (by simp [smalls]); omega
        have hM := Lib.hid (mPrime_none h2 hno.out)
        go_wp2_with fail
        go_loopw [6, 22] (fun _ vk wr => ∃ k : Nat, vk = .int .i64 k ∧ k ≤ 3 ∧ Hid (∀ p, p ∈ [2, 7, 61].take k → SP p n = true) ∧ Below w.heap.size w wr) (fun _ vk _ => 3 - (intOf vk).toNat)
        case atStart => exact ⟨0, rfl, by omega, by intro p hp; simp at hp, Below.refl _ _⟩
        case round =>
          obtain ⟨k, rfl, hk, hall, hbel⟩ := hrel
          have hbs := hbel.size
          rcases (show k = 0 ∨ k = 1 ∨ k = 2 ∨ k = 3 by omega) with rfl | rfl | rfl | rfl
          · have hix := three0
            by_cases hs : SP 2 n = true
            · have HA : Hid (∀ p, p ∈ [2, 7, 61].take 1 → SP p n = true) := by
                intro p hp; rw [List.take_add_one] at hp
                rcases List.mem_append.1 hp with h1 | h1
                · exact hall.out p h1
                · simp at h1; subst h1; exact hs
              go_wp2_with (go_at_call 96; refine (mpasses_int _ _ _ (by omega) (by omega) (by omega) (by omega) (by omega)).mono ?_; rintro e w1 ⟨rfl, hb1⟩)
              go_roundw
              case rel => exact ⟨1, rfl, by omega, HA, hbel.trans (hb1.mono hbs)⟩
              case measure => simp [intOf]
            · have hs' : SP 2 n = false := by simpa using hs
              clear hs
              have HR : Hid (mPrime n = false) := by show _ = _; rw [hM.out, hs']; simp
              go_wp2_with (go_at_call 96; refine (mpasses_int _ _ _ (by omega) (by omega) (by omega) (by omega) (by omega)).mono ?_; rintro e w1 ⟨rfl, hb1⟩)
              go_ret
              exact ⟨ret_bool (by rw [HR.out]), hbel.trans (hb1.mono hbs)⟩
          · have hix := three1
            by_cases hs : SP 7 n = true
            · have HA : Hid (∀ p, p ∈ [2, 7, 61].take 2 → SP p n = true) := by
                intro p hp; rw [List.take_add_one] at hp
                rcases List.mem_append.1 hp with h1 | h1
                · exact hall.out p h1
                · simp at h1; subst h1; exact hs
              go_wp2_with (go_at_call 96; refine (mpasses_int _ _ _ (by omega) (by omega) (by omega) (by omega) (by omega)).mono ?_; rintro e w1 ⟨rfl, hb1⟩)
              go_roundw
              case rel => exact ⟨2, rfl, by omega, HA, hbel.trans (hb1.mono hbs)⟩
              case measure => simp [intOf]
            · have hs' : SP 7 n = false := by simpa using hs
              clear hs
              have HR : Hid (mPrime n = false) := by show _ = _; rw [hM.out, hs']; simp
              go_wp2_with (go_at_call 96; refine (mpasses_int _ _ _ (by omega) (by omega) (by omega) (by omega) (by omega)).mono ?_; rintro e w1 ⟨rfl, hb1⟩)
              go_ret
              exact ⟨ret_bool (by rw [HR.out]), hbel.trans (hb1.mono hbs)⟩
          · have hix := three2
            by_cases hs : SP 61 n = true
            · have HA : Hid (∀ p, p ∈ [2, 7, 61].take 3 → SP p n = true) := by
                intro p hp; rw [List.take_add_one] at hp
                rcases List.mem_append.1 hp with h1 | h1
                · exact hall.out p h1
                · simp at h1; subst h1; exact hs
              go_wp2_with (go_at_call 96; refine (mpasses_int _ _ _ (by omega) (by omega) (by omega) (by omega) (by omega)).mono ?_; rintro e w1 ⟨rfl, hb1⟩)
              go_roundw
              case rel => exact ⟨3, rfl, by omega, HA, hbel.trans (hb1.mono hbs)⟩
              case measure => simp [intOf]
            · have hs' : SP 61 n = false := by simpa using hs
              clear hs
              have HR : Hid (mPrime n = false) := by show _ = _; rw [hM.out, hs']; simp
              go_wp2_with (go_at_call 96; refine (mpasses_int _ _ _ (by omega) (by omega) (by omega) (by omega) (by omega)).mono ?_; rintro e w1 ⟨rfl, hb1⟩)
              go_ret
              exact ⟨ret_bool (by rw [HR.out]), hbel.trans (hb1.mono hbs)⟩
          · have HR : Hid (mPrime n = true) := by show _ = _; rw [hM.out, hall.out 2 (by simp), hall.out 7 (by simp), hall.out 61 (by simp)]; rfl
            go_wp2_with fail
            go_ret
            exact ⟨ret_bool (by rw [HR.out]), hbel⟩

theorem rstrong_int (a : Int) (n : Nat) (w : World) (ha0 : 0 ≤ a) (ha : a < 4294967296) (hn : 3 ≤ n) (hn2 : n < 4294967296) (hodd : n % 2 = 1) :
    Calls Try.prog 100 #[.int .u32 a, .int .u32 n] w fun r w' => r = .returned (.bool (SP a.toNat n)) ∧ w = w' := by
  obtain ⟨b, rfl⟩ := Int.eq_ofNat_of_zero_le ha0
  exact rstrong_any b n w (by omega) hn hn2 hodd

set_option maxHeartbeats 1000000 in
theorem rPrime_any (n : Nat) (w : World) (hn2 : n < 4294967296) :
    Calls Try.prog 76 #[.int .u32 n] w fun r w' => r = .returned (.bool (rPrime n)) ∧ w = w' := by
  by_cases h2 : n = 2
  · subst h2
    go_enter Try.func76, Try.ntmps76
    go_wp2_with fail
    go_ret
    exact ⟨ret_bool (by rfl), rfl⟩
  have e2 : ((n : Int) == 2) = false := beq_eq_false_iff_ne.2 (by omega)
  by_cases h7 : n = 7
  · subst h7
    go_enter Try.func76, Try.ntmps76
    go_wp2_with fail
    go_ret
    exact ⟨ret_bool (by rfl), rfl⟩
  have e7 : ((n : Int) == 7) = false := beq_eq_false_iff_ne.2 (by omega)
  by_cases h61 : n = 61
  · subst h61
    go_enter Try.func76, Try.ntmps76
    go_wp2_with fail
    go_ret
    exact ⟨ret_bool (by rfl), rfl⟩
  have e61 : ((n : Int) == 61) = false := beq_eq_false_iff_ne.2 (by omega)
  have hR : rPrime n = (decide (2 < n) && decide (n % 2 = 1) && decide (0 < n % 7) && decide (0 < n % 61) && SP 2 n && SP 7 n && SP 61 n) := by
    unfold rPrime
    rw [beq_eq_false_iff_ne.2 h2, beq_eq_false_iff_ne.2 h7, beq_eq_false_iff_ne.2 h61]; rfl
  by_cases c1 : 2 < n
  case neg =>
    have HR : Hid (rPrime n = false) := by show _ = _; rw [hR, decide_eq_false c1]; rfl
    clear hR
    go_enter Try.func76, Try.ntmps76
    go_wp2_with fail
    go_ret
    exact ⟨ret_bool (by rw [HR.out]), rfl⟩
  by_cases c2 : n % 2 = 1
  case neg =>
    have d2 : ((n : Int) % 2 == 1) = false := beq_eq_false_iff_ne.2 (by omega)
    have HR : Hid (rPrime n = false) := by show _ = _; rw [hR, decide_eq_true c1, decide_eq_false c2]; rfl
    clear hR
    go_enter Try.func76, Try.ntmps76
    go_wp2_with fail
    go_ret
    exact ⟨ret_bool (by rw [HR.out]), rfl⟩
  have d2 : ((n : Int) % 2 == 1) = true := beq_iff_eq.2 (by omega)
  by_cases c3 : 0 < n % 7
  case neg =>
    have d3 : ¬ 0 < (n : Int) % 7 := by omega
    have d3' : decide (0 < (n : Int) % 7) = false := by simpa using d3
    have HR : Hid (rPrime n = false) := by show _ = _; rw [hR, decide_eq_true c1, decide_eq_true c2, decide_eq_false c3]; rfl
    clear hR
    go_enter Try.func76, Try.ntmps76
    go_wp2_with fail
    go_ret
    exact ⟨ret_bool (by rw [HR.out]), rfl⟩
  have d3 : decide (0 < (n : Int) % 7) = true := by simp; omega
  by_cases c4 : 0 < n % 61
  case neg =>
    have d4' : decide (0 < (n : Int) % 61) = false := by simp; omega
    have HR : Hid (rPrime n = false) := by show _ = _; rw [hR, decide_eq_true c1, decide_eq_true c2, decide_eq_true c3, decide_eq_false c4]; rfl
    clear hR
    go_enter Try.func76, Try.ntmps76
    go_wp2_with fail
    go_ret
    exact ⟨ret_bool (by rw [HR.out]), rfl⟩
  have d4 : decide (0 < (n : Int) % 61) = true := by simp; omega
  rw [decide_eq_true c1, decide_eq_true c2, decide_eq_true c3, decide_eq_true c4] at hR
  by_cases s2 : SP 2 n = true
  case neg =>
    have s2' : SP 2 n = false := by simpa using s2
    clear s2
    have HR : Hid (rPrime n = false) := by show _ = _; rw [hR, s2']; rfl
    clear hR
    go_enter Try.func76, Try.ntmps76
    go_wp2_with (go_at_call 100; refine (rstrong_int _ _ _ (by omega) (by omega) (by omega) (by omega) (by omega)).mono ?_; rintro e w1 ⟨rfl, rfl⟩)
    go_ret
    exact ⟨ret_bool (by rw [HR.out]), rfl⟩
  by_cases s7 : SP 7 n = true
  case neg =>
    have s7' : SP 7 n = false := by simpa using s7
    clear s7
    have HR : Hid (rPrime n = false) := by show _ = _; rw [hR, s2, s7']; rfl
    clear hR
    go_enter Try.func76, Try.ntmps76
    go_wp2_with (go_at_call 100; refine (rstrong_int _ _ _ (by omega) (by omega) (by omega) (by omega) (by omega)).mono ?_; rintro e w1 ⟨rfl, rfl⟩)
    go_ret
    exact ⟨ret_bool (by rw [HR.out]), rfl⟩
  by_cases s61 : SP 61 n = true
  case neg =>
    have s61' : SP 61 n = false := by simpa using s61
    clear s61
    have HR : Hid (rPrime n = false) := by show _ = _; rw [hR, s2, s7, s61']; rfl
    clear hR
    go_enter Try.func76, Try.ntmps76
    go_wp2_with (go_at_call 100; refine (rstrong_int _ _ _ (by omega) (by omega) (by omega) (by omega) (by omega)).mono ?_; rintro e w1 ⟨rfl, rfl⟩)
    go_ret
    exact ⟨ret_bool (by rw [HR.out]), rfl⟩
  have HR : Hid (rPrime n = true) := by show _ = _; rw [hR, s2, s7, s61]; rfl
  clear hR
  go_enter Try.func76, Try.ntmps76
  go_wp2_with (go_at_call 100; refine (rstrong_int _ _ _ (by omega) (by omega) (by omega) (by omega) (by omega)).mono ?_; rintro e w1 ⟨rfl, rfl⟩)
  go_ret
  exact ⟨ret_bool (by rw [HR.out]), rfl⟩
end Go.Proofs.Ytjfjbkocopaehaa
