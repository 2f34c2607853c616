/- obscuraref03.Chain: the walk. -/
import Derived.Test.YtjfjbkocopaehaaKeyH
namespace Go.Proofs.Ytjfjbkocopaehaa
open Go.RowKit

def u32s (l : List Nat) : List Value := l.map (fun q => Value.int .u32 (q : Nat))
theorem own_slice {w : World} {base : Nat} {e : TypeId} {v : Value} {n : Nat} {xs : List Value} (h : w.ownsRow base e 1 v n xs) : ∃ p cap, v = .slice p n cap := by
  rcases h.2 with ⟨rfl, h0⟩ | ⟨g, cap, cur, rfl, _⟩
  · exact ⟨none, 0, by rw [show n = 0 by have := h.1; simp_all]⟩
  · exact ⟨_, _, rfl⟩
theorem own_ge {w : World} {base : Nat} {e : TypeId} {v : Value} {n : Nat} {xs : List Value} (h : w.ownsRow base e 1 v n xs) : ∀ q, v.ownBlock = some q → base ≤ q := by
  intro q hq
  rcases h.2 with ⟨rfl, h0⟩ | ⟨g, cap, cur, rfl, hb, _⟩
  · cases hq
  · have : some g = some q := hq
    cases this; exact hb

/-- What the call answers. -/
def chainRet (w0 w' : World) (L : List Nat) (c : Nat) (r : Ending) : Prop :=
  Below w0.heap.size w0 w' ∧ ((L.length < c ∧ r = .returned (.tuple #[.slice none 0 0, .int .i64 4])) ∨ (L.length = c ∧ ∃ v, r = .returned (.tuple #[v, .int .i64 0]) ∧ SliceAt w' v L))

set_option maxHeartbeats 1000000 in
set_option maxRecDepth 100000 in
theorem rchain_any (N t c s : Nat) (w : World) (hN : isDim (N : Int) = true) (hN4 : 4 ≤ N) (hN32 : N ≤ 32) (ht3 : 3 ≤ t) (ht : t ≤ 2147483647) (hodd : t % 2 = 1) (hc1 : 1 ≤ c) (hc2 : c ≤ 25) (hs : s = 2 * N * t) :
    Calls Try.prog 52 #[.int .i64 N, .int .u32 t, .int .i64 c] w fun r w' => chainRet w w' (chainOf rPrime s c) c r := by
  have d1 : decide ((t : Int) < 3) = false := decide_eq_false (by omega)
  have d2 : ((t : Int) % 2 == 0) = false := beq_eq_false_iff_ne.2 (by omega)
  have d3 : decide ((2147483647 : Int) < t) = false := decide_eq_false (by omega)
  have d4 : decide ((c : Int) < 1) = false := decide_eq_false (by omega)
  have d5 : decide ((25 : Int) < c) = false := decide_eq_false (by omega)
  have hNt : N * t ≤ 32 * 2147483647 := Nat.mul_le_mul hN32 ht
  have hNt0 : 4 * 3 ≤ N * t := Nat.mul_le_mul hN4 ht3
  have hs2 : s = 2 * (N * t) := by rw [hs, Nat.mul_assoc]
  have hs0 : 0 < s := by omega
  have hsb : s ≤ 137438953472 := by omega
  have hwr : IntKind.u64.wrap ((2 : Int) * (N : Int) * (t : Int)) = s := by
    rw [show (2 : Int) * (N : Int) * (t : Int) = s by rw [hs2, Int.mul_assoc]; simp]
    simp [IntKind.wrap, IntKind.bits, IntKind.signed]; omega
  have hS := Lib.hid hs
  clear hs
  obtain ⟨i0, hi0, hz0, hz1, hz2⟩ := info_parts infoU32
  have HN := Lib.hid hN
  clear hN
  obtain ⟨K, hK⟩ : ∃ K : Nat, K = 2147483646 / s := ⟨_, rfl⟩
  have hk0 : K * s ≤ 2147483646 := by rw [hK]; exact Nat.div_mul_le_self _ _
  have hkI : (2147483646 : Int) / (s : Int) = (K : Int) := by rw [hK]; simp
  have hk1 : K ≤ 2147483646 := by rw [hK]; exact Nat.div_le_self _ _
  have HT : Hid (chainOf rPrime s c = chainGo rPrime s K c) := by show _ = _; unfold chainOf; rw [hK]
  clear hK
  have HKI := Lib.hid hkI
  clear hkI
  have HS2 := Lib.hid hs2
  clear hs2
  have HLT : Hid (∀ q, q ∈ chainOf rPrime s c → 1073741824 < q ∧ q ≤ 2147483647 ∧ rPrime q = true ∧ ∃ j, q = j * s + 1) := fun q h => chainOf_lt h
  have HLL : Hid ((chainOf rPrime s c).length ≤ c) := chainGo_len _ _ _ _
  go_enter Try.func52, Try.ntmps52
  go_wp2_with (go_at_call 79; refine (rdim3_any _ _).mono ?_; rintro e w1 ⟨rfl, rfl⟩; rw [HN.out])
  go_loopw [9, 10] (fun v vk wr => ∃ (k : Nat) (acc : List Nat) (p : Option Addr) (cap : Nat), v = .slice p acc.length cap ∧ vk = .int .u64 k ∧ k ≤ K ∧ Hid (wr.ownsRow w.heap.size 22 1 (.slice p acc.length cap) acc.length (u32s acc)) ∧ Hid (acc ++ chainGo rPrime s k (c - acc.length) = chainOf rPrime s c) ∧ acc.length ≤ c ∧ Hid (Below w.heap.size w wr)) (fun _ vk _ => (intOf vk).toNat)
  case atStart => exact ⟨K, [], none, 0, rfl, congrArg _ HKI.out, Nat.le_refl _, World.ownsRow_nil _ _ _ _, by show _ = _; rw [HT.out]; rfl, by simp, Below.refl _ _⟩
  case round =>
    obtain ⟨k, acc, p, cap, rfl, rfl, hk, hown, htot, hacc, hbel⟩ := hrel
    have hks : k * s ≤ 2147483646 := Nat.le_trans (Nat.mul_le_mul_right _ hk) hk0
    have hksI : (k : Int) * (s : Int) ≤ 2147483646 := by rw [← Int.natCast_mul]; exact Int.ofNat_le.2 hks
    have hks0 : (0 : Int) ≤ (k : Int) * (s : Int) := by rw [← Int.natCast_mul]; exact Int.natCast_nonneg _
    by_cases hb : 1073741824 < k * s + 1
    · have hbI : (1073741824 : Int) < (k : Int) * (s : Int) + 1 := by rw [← Int.natCast_mul]; omega
      have hk1 : 1 ≤ k := by
        rcases Nat.eq_zero_or_pos k with h | h
        · subst h; simp at hb
        · exact h
      by_cases hc : acc.length < c
      · have hcI : ((acc.length : Nat) : Int) < (c : Int) := by omega
        have HP := fun (h : rPrime (k * s + 1) = true) => chainGo_yes (c := c - acc.length) hb (by omega) h
        have HQ := fun (h : rPrime (k * s + 1) = false) => chainGo_no (c := c - acc.length) hb (by omega) h
        have HP' := Lib.hid HP
        have HQ' := Lib.hid HQ
        clear HP HQ
        have hb' := Lib.hid hb
        clear hb
        cases hp : rPrime (k * s + 1) with
        | true =>
          have HPP := Lib.hid hp
          clear hp
          go_wp2_with (first
            | (go_at_call 76; rw [show ((k : Int) * (s : Int) + 1) = ((k * s + 1 : Nat) : Int) by simp]; refine (rPrime_any _ _ (by omega)).mono ?_; rintro e w1 ⟨rfl, rfl⟩; rw [HPP.out])
            | (at_builtin; refine wpList_append_own _ rfl _ _ 23 rfl w.heap.size 22 i0 (.int .u32 0) 1 4 Try.underlying23 hi0 hz0 hz1 hz2 rfl (by decide) _ _ _ rfl (hown.out.alloc _) ⟨wr.heap.size, 0, none⟩ 1 1 [.int .u32 ((k : Int) * (s : Int) + 1)] rfl rfl ?c1 ?c2 ?c3 ?c4 ?c5 ?_))
          case c1 => exact cell_one_new _ _ _
          case c2 => intro u hu; simp at hu; subst hu; rfl
          case c3 => unfold maxLen; omega
          case c4 => omega
          case c5 => exact (hbel.out.alloc hbel.out.size _).size
          intro v' w' hown' hgrow _
          have hbel' : Hid (Below w.heap.size w w') := (hbel.out.alloc hbel.out.size _).grown hgrow (hbel.out.alloc hbel.out.size _).size (own_ge hown.out)
          have hown2 : Hid (w'.ownsRow w.heap.size 22 1 v' (acc ++ [k * s + 1]).length (u32s (acc ++ [k * s + 1]))) := by
            show World.ownsRow _ _ _ _ _ _ _
            unfold u32s at hown' ⊢
            simpa using hown'
          have htot2 : Hid ((acc ++ [k * s + 1]) ++ chainGo rPrime s (k - 1) (c - (acc ++ [k * s + 1]).length) = chainOf rPrime s c) := by
            show _ = _
            rw [← htot.out, HP'.out HPP.out, List.append_assoc, List.length_append, List.length_singleton, Nat.sub_sub]; rfl
          clear hown' hgrow
          obtain ⟨p', cap', rfl⟩ := own_slice hown2.out
          go_wp2_with fail
          go_roundw
          case rel => exact ⟨k - 1, acc ++ [k * s + 1], p', cap', by simp, by go_num, by omega, hown2, htot2, by simp; omega, hbel'⟩
          case measure => simp [intOf]; omega
        | false =>
          have HPP := Lib.hid hp
          clear hp
          go_wp2_with (go_at_call 76; rw [show ((k : Int) * (s : Int) + 1) = ((k * s + 1 : Nat) : Int) by simp]; refine (rPrime_any _ _ (by omega)).mono ?_; rintro e w1 ⟨rfl, rfl⟩; rw [HPP.out])
          have htot2 : Hid (acc ++ chainGo rPrime s (k - 1) (c - acc.length) = chainOf rPrime s c) := by
            show _ = _
            rw [← htot.out, HQ'.out HPP.out]
          go_roundw
          case rel =>
            exact ⟨k - 1, acc, p, cap, rfl, by go_num, by omega, hown, htot2, hacc, hbel⟩
          case measure => simp [intOf]; omega
      · have hfin : Hid (acc = chainOf rPrime s c) := by
          show _ = _; rw [← htot.out, chainGo_stop (by omega), List.append_nil]
        have hcI : ¬ ((acc.length : Nat) : Int) < (c : Int) := by omega
        have hcc : acc.length = c := by omega
        have HCC := Lib.hid hcc
        clear hcc
        go_wp2_with fail
        go_ret2
        exact ⟨hbel.out, .inr ⟨by rw [← hfin.out]; exact HCC.out, _, rfl, by rw [← hfin.out]; exact SliceAt.ofOwns hown.out (by omega) (fun q hq => by have := HLT.out q (by rw [← hfin.out]; exact hq); omega)⟩⟩
    · have hfin : Hid (acc = chainOf rPrime s c) := by
        show _ = _; rw [← htot.out, chainGo_stop (by omega), List.append_nil]
      have hbI : ¬ (1073741824 : Int) < (k : Int) * (s : Int) + 1 := by rw [← Int.natCast_mul]; omega
      have hb' := Lib.hid hb
      clear hb
      by_cases hc : acc.length < c
      · have hcI : ((acc.length : Nat) : Int) < (c : Int) := by omega
        go_wp2_with fail
        go_ret2
        exact ⟨hbel.out, .inl ⟨by rw [← hfin.out]; exact hc, rfl⟩⟩
      · have hcI : ¬ ((acc.length : Nat) : Int) < (c : Int) := by omega
        have hcc : acc.length = c := by omega
        have HCC := Lib.hid hcc
        clear hcc
        go_wp2_with fail
        go_ret2
        exact ⟨hbel.out, .inr ⟨by rw [← hfin.out]; exact HCC.out, _, rfl, by rw [← hfin.out]; exact SliceAt.ofOwns hown.out (by omega) (fun q hq => by have := HLT.out q (by rw [← hfin.out]; exact hq); omega)⟩⟩
end Go.Proofs.Ytjfjbkocopaehaa
