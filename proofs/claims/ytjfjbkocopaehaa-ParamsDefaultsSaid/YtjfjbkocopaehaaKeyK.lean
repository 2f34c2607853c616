/- obscurakit: SameLongs, SameWords. (Printed by gen_KeyK.py.) -/
import Derived.Test.YtjfjbkocopaehaaKeyJ
namespace Go.Proofs.Ytjfjbkocopaehaa
open Go.RowKit

theorem SliceAt.asZ {w : World} {v : Value} {l : List Nat} (h : SliceAt w v l) : SliceZ .u32 w v (l.map (fun q => ((q : Nat) : Int))) := by
  obtain ⟨p, cap, rfl, h2, h3, h4⟩ := h
  refine ⟨p, cap, by rw [List.length_map], by rw [List.length_map]; exact h2, by rw [List.length_map]; exact h3, fun hne => ?_⟩
  obtain ⟨b, off, rfl, hr⟩ := h4 (by intro e; apply hne; rw [e]; rfl)
  refine ⟨b, off, rfl, hr.blk, fun i hi => ?_, fun q hq => ?_⟩
  · rw [hr.cell i (by simpa using hi), List.getElem_map]
  · obtain ⟨z, hz, rfl⟩ := List.mem_map.1 hq
    have := hr.rng z hz
    simp [Lit.wf, IntKind.min, IntKind.max, IntKind.bits, IntKind.signed]; omega

set_option maxHeartbeats 1000000 in
theorem samel_any (w : World) (v1 v2 : Value) (l m : List Int) (h1 : SliceZ .i64 w v1 l) (h2 : SliceZ .i64 w v2 m) :
    Calls Try.prog 33 #[v1, v2] w fun r w' => r = .returned (.bool (decide (l = m))) ∧ Below w.heap.size w w' := by
  obtain ⟨p, cap, rfl, hc, hc2, hrow⟩ := h1
  obtain ⟨p2, cap2, rfl, hd, hd2, hrow2⟩ := h2
  by_cases hlen : l.length = m.length
  case neg =>
    have e1 : ((l.length : Int) != (m.length : Int)) = true := bne_iff_ne.2 (by omega)
    have hR : Hid (decide (l = m) = false) := decide_eq_false (fun e => hlen (by rw [e]))
    clear hlen
    go_enter Try.func33, Try.ntmps33
    go_wp2_with fail
    go_ret
    exact ⟨ret_bool (by rw [hR.out]), Below.refl _ _⟩
  case pos =>
    have e1 : ((l.length : Int) != (m.length : Int)) = false := by rw [hlen]; simp
    have HL := Lib.hid hlen
    have hl1 : l.length ≤ m.length := by omega
    have hl2 : m.length ≤ l.length := by omega
    clear hlen
    by_cases hnil : l = []
    · subst hnil
      obtain rfl : m = [] := List.length_eq_zero_iff.1 (by have := HL.out; simp at this; omega)
      clear HL hl1 hl2 e1
      go_enter Try.func33, Try.ntmps33
      go_wp2_with fail
      go_rounds 1
      go_ret
      exact ⟨rfl, Below.refl _ _⟩
    · have hnil2 : m ≠ [] := by intro e; subst e; have := HL.out; simp at this; exact hnil this
      obtain ⟨b, off, rfl, hrW⟩ := hrow hnil
      obtain ⟨b2, off2, rfl, hrW2⟩ := hrow2 hnil2
      clear hnil hnil2
      go_enter Try.func33, Try.ntmps33
      go_wp2_with fail
      go_loopw [5] (fun vi wr => ∃ i : Nat, vi = .int .i64 i ∧ i ≤ l.length ∧ Hid (∀ j (hj : j < i) (h1 : j < l.length) (h2 : j < m.length), l[j] = m[j]) ∧ Below w.heap.size w wr) (fun vi _ => l.length - (intOf vi).toNat)
      case atStart => exact ⟨0, rfl, by omega, by intro j hj; omega, Below.refl _ _⟩
      case round =>
        obtain ⟨i, rfl, hi, heq, hbel⟩ := hrel
        by_cases hlt : i < l.length
        · have x1 := (hrW.below hbel hrW.blk).cell i hlt
          have x2 := (hrW2.below hbel hrW2.blk).cell i (by omega)
          have i0 : (0 : Int) ≤ i := by omega
          have i1 : (i : Int) < l.length := by omega
          have i2 : (i : Int) < m.length := by omega
          obtain ⟨z1, hz1⟩ : ∃ z, z = l[i] := ⟨_, rfl⟩
          obtain ⟨z2, hz2⟩ : ∃ z, z = m[i]'(by omega) := ⟨_, rfl⟩
          rw [← hz1] at x1
          rw [← hz2] at x2
          have HZ1 := Lib.hid hz1; have HZ2 := Lib.hid hz2
          clear hz1 hz2
          by_cases he : z1 = z2
          · have e2 : (z1 != z2) = false := by rw [he]; simp
            have heq' : Hid (∀ j (hj : j < i + 1) (h1 : j < l.length) (h2 : j < m.length), l[j] = m[j]) := by
              intro j hj h1 h2
              by_cases e : j = i
              · subst e; rw [← HZ1.out, ← HZ2.out]; exact he
              · exact heq.out j (by omega) h1 h2
            clear heq he
            go_wp2_with fail
            go_quiet (fail)
            go_wp2_with fail
            go_roundw
            case rel => exact ⟨i + 1, by go_num, by omega, heq', below_drewN hbel _⟩
            case measure => simp [intOf]; omega
          · have e2 : (z1 != z2) = true := bne_iff_ne.2 he
            have hR : Hid (decide (l = m) = false) := decide_eq_false (list_ne_at hlt (by omega) (by rw [← HZ1.out, ← HZ2.out]; exact he))
            clear heq he
            go_wp2_with fail
            go_quiet (fail)
            go_wp2_with fail
            go_ret
            exact ⟨ret_bool (by rw [hR.out]), below_drewN hbel _⟩
        · have hR : Hid (decide (l = m) = true) := decide_eq_true (list_eq_of HL.out (fun j h1 h2 => heq.out j (by omega) h1 h2))
          clear heq
          go_wp2_with fail
          go_ret
          exact ⟨ret_bool (by rw [hR.out]), hbel⟩

set_option maxHeartbeats 1000000 in
theorem samew_any (w : World) (v1 v2 : Value) (l m : List Int) (h1 : SliceZ .u32 w v1 l) (h2 : SliceZ .u32 w v2 m) :
    Calls Try.prog 53 #[v1, v2] w fun r w' => r = .returned (.bool (decide (l = m))) ∧ Below w.heap.size w w' := by
  obtain ⟨p, cap, rfl, hc, hc2, hrow⟩ := h1
  obtain ⟨p2, cap2, rfl, hd, hd2, hrow2⟩ := h2
  by_cases hlen : l.length = m.length
  case neg =>
    have e1 : ((l.length : Int) != (m.length : Int)) = true := bne_iff_ne.2 (by omega)
    have hR : Hid (decide (l = m) = false) := decide_eq_false (fun e => hlen (by rw [e]))
    clear hlen
    go_enter Try.func53, Try.ntmps53
    go_wp2_with fail
    go_ret
    exact ⟨ret_bool (by rw [hR.out]), Below.refl _ _⟩
  case pos =>
    have e1 : ((l.length : Int) != (m.length : Int)) = false := by rw [hlen]; simp
    have HL := Lib.hid hlen
    have hl1 : l.length ≤ m.length := by omega
    have hl2 : m.length ≤ l.length := by omega
    clear hlen
    by_cases hnil : l = []
    · subst hnil
      obtain rfl : m = [] := List.length_eq_zero_iff.1 (by have := HL.out; simp at this; omega)
      clear HL hl1 hl2 e1
      go_enter Try.func53, Try.ntmps53
      go_wp2_with fail
      go_rounds 1
      go_ret
      exact ⟨rfl, Below.refl _ _⟩
    · have hnil2 : m ≠ [] := by intro e; subst e; have := HL.out; simp at this; exact hnil this
      obtain ⟨b, off, rfl, hrW⟩ := hrow hnil
      obtain ⟨b2, off2, rfl, hrW2⟩ := hrow2 hnil2
      clear hnil hnil2
      go_enter Try.func53, Try.ntmps53
      go_wp2_with fail
      go_loopw [5] (fun vi wr => ∃ i : Nat, vi = .int .i64 i ∧ i ≤ l.length ∧ Hid (∀ j (hj : j < i) (h1 : j < l.length) (h2 : j < m.length), l[j] = m[j]) ∧ Below w.heap.size w wr) (fun vi _ => l.length - (intOf vi).toNat)
      case atStart => exact ⟨0, rfl, by omega, by intro j hj; omega, Below.refl _ _⟩
      case round =>
        obtain ⟨i, rfl, hi, heq, hbel⟩ := hrel
        by_cases hlt : i < l.length
        · have x1 := (hrW.below hbel hrW.blk).cell i hlt
          have x2 := (hrW2.below hbel hrW2.blk).cell i (by omega)
          have i0 : (0 : Int) ≤ i := by omega
          have i1 : (i : Int) < l.length := by omega
          have i2 : (i : Int) < m.length := by omega
          obtain ⟨z1, hz1⟩ : ∃ z, z = l[i] := ⟨_, rfl⟩
          obtain ⟨z2, hz2⟩ : ∃ z, z = m[i]'(by omega) := ⟨_, rfl⟩
          rw [← hz1] at x1
          rw [← hz2] at x2
          have HZ1 := Lib.hid hz1; have HZ2 := Lib.hid hz2
          clear hz1 hz2
          by_cases he : z1 = z2
          · have e2 : (z1 != z2) = false := by rw [he]; simp
            have heq' : Hid (∀ j (hj : j < i + 1) (h1 : j < l.length) (h2 : j < m.length), l[j] = m[j]) := by
              intro j hj h1 h2
              by_cases e : j = i
              · subst e; rw [← HZ1.out, ← HZ2.out]; exact he
              · exact heq.out j (by omega) h1 h2
            clear heq he
            go_wp2_with fail
            go_quiet (fail)
            go_wp2_with fail
            go_roundw
            case rel => exact ⟨i + 1, by go_num, by omega, heq', below_drewN hbel _⟩
            case measure => simp [intOf]; omega
          · have e2 : (z1 != z2) = true := bne_iff_ne.2 he
            have hR : Hid (decide (l = m) = false) := decide_eq_false (list_ne_at hlt (by omega) (by rw [← HZ1.out, ← HZ2.out]; exact he))
            clear heq he
            go_wp2_with fail
            go_quiet (fail)
            go_wp2_with fail
            go_ret
            exact ⟨ret_bool (by rw [hR.out]), below_drewN hbel _⟩
        · have hR : Hid (decide (l = m) = true) := decide_eq_true (list_eq_of HL.out (fun j h1 h2 => heq.out j (by omega) h1 h2))
          clear heq
          go_wp2_with fail
          go_ret
          exact ⟨ret_bool (by rw [hR.out]), hbel⟩

end Go.Proofs.Ytjfjbkocopaehaa
