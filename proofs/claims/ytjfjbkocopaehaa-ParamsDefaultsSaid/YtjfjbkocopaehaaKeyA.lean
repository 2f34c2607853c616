/- Walks of the layer of keys: secrets: SameSecret, secret, CheckSecret (both), Automorphism. -/
import Derived.Test.YtjfjbkocopaehaaMemA
import Derived.Test.YtjfjbkocopaehaaMathH
import Derived.Test.YtjfjbkocopaehaaParF
namespace Go.Proofs.Ytjfjbkocopaehaa
open Go.RowKit

/-- A boxed struct of one slice. -/
theorem box1_cell (w : World) (v : Value) (T : TypeId) : (w.alloc (.cells #[v] T)).cell? ⟨w.heap.size, 0, none⟩ = some v := by simp [go_sem]

theorem getD_lt {l : List Int} {i : Nat} (h : i < l.length) : l.getD i 0 = l[i] := by rw [List.getD_eq_getElem?_getD, List.getElem?_eq_getElem h]; rfl

theorem list_ne_at {l m : List Int} {i : Nat} (h1 : i < l.length) (h2 : i < m.length) (h : l[i] ≠ m[i]) : l ≠ m := by
  intro e; subst e; exact h rfl

theorem list_eq_of {l m : List Int} (hl : l.length = m.length) (h : ∀ j (h1 : j < l.length) (h2 : j < m.length), l[j] = m[j]) : l = m :=
  List.ext_getElem hl (fun i h1 h2 => h i h1 h2)

set_option maxHeartbeats 1000000 in
theorem sames_any (w : World) (v1 v2 : Value) (l m : List Int) (h1 : SliceZ .i8 w v1 l) (h2 : SliceZ .i8 w v2 m) :
    Calls Try.prog 13 #[.agg #[v1], .agg #[v2]] w fun r w' => r = .returned (.bool (decide (l = m))) ∧ Below w.heap.size w w' := by
  obtain ⟨p, cap, rfl, hc, hc2, hrow⟩ := h1
  obtain ⟨p2, cap2, rfl, hd, hd2, hrow2⟩ := h2
  by_cases hlen : l.length = m.length
  case neg =>
    have e1 : ((l.length : Int) != (m.length : Int)) = true := bne_iff_ne.2 (by omega)
    have hR : Hid (decide (l = m) = false) := decide_eq_false (fun e => hlen (by rw [e]))
    clear hlen
    go_enter Try.func13, Try.ntmps13
    go_wp2_with fail
    go_ret
    exact ⟨ret_bool (by rw [hR.out]), ((Below.refl _ _).alloc (Nat.le_refl _) _).alloc (by simp) _⟩
  case pos =>
    have e1 : ((l.length : Int) != (m.length : Int)) = false := by rw [hlen]; simp
    have HL := Lib.hid hlen
    have hl1 : l.length ≤ m.length := by omega
    have hl2 : m.length ≤ l.length := by omega
    clear hlen
    by_cases hnil : l = []
    · subst hnil
      obtain rfl : m = [] := List.length_eq_zero_iff.1 (by have := HL.out; simp at this; omega)
      clear HL hl1 hl2 e1
      go_enter Try.func13, Try.ntmps13
      go_wp2_with fail
      go_rounds 1
      go_ret
      exact ⟨rfl, ((Below.refl _ _).alloc (Nat.le_refl _) _).alloc (by simp) _⟩
    · have hnil2 : m ≠ [] := by intro e; subst e; have := HL.out; simp at this; exact hnil this
      obtain ⟨b, off, rfl, hr⟩ := hrow hnil
      obtain ⟨b2, off2, rfl, hr2⟩ := hrow2 hnil2
      clear hnil hnil2
      go_enter Try.func13, Try.ntmps13
      go_wp2_with fail
      have hbW : Below w.heap.size w ((w.alloc (.cells #[.slice (some ⟨b, off, none⟩) l.length cap] 28)).alloc (.cells #[.slice (some ⟨b2, off2, none⟩) m.length cap2] 28)) := ((Below.refl _ _).alloc (Nat.le_refl _) _).alloc (by simp) _
      have c1 : ((w.alloc (.cells #[.slice (some ⟨b, off, none⟩) l.length cap] 28)).alloc (.cells #[.slice (some ⟨b2, off2, none⟩) m.length cap2] 28)).cell? ⟨w.heap.size, 0, none⟩ = some (.slice (some ⟨b, off, none⟩) l.length cap) := by simp [go_sem]
      have c2 : ((w.alloc (.cells #[.slice (some ⟨b, off, none⟩) l.length cap] 28)).alloc (.cells #[.slice (some ⟨b2, off2, none⟩) m.length cap2] 28)).cell? ⟨w.heap.size + 1, 0, none⟩ = some (.slice (some ⟨b2, off2, none⟩) m.length cap2) := by simp [go_sem]
      have hsz : w.heap.size + 1 + 1 ≤ ((w.alloc (.cells #[.slice (some ⟨b, off, none⟩) l.length cap] 28)).alloc (.cells #[.slice (some ⟨b2, off2, none⟩) m.length cap2] 28)).heap.size := by simp
      generalize (w.alloc (.cells #[.slice (some ⟨b, off, none⟩) l.length cap] 28)).alloc (.cells #[.slice (some ⟨b2, off2, none⟩) m.length cap2] 28) = W at hbW c1 c2 hsz ⊢
      have hrW := hr.below hbW hr.blk
      have hrW2 := hr2.below hbW hr2.blk
      have C1 := Lib.hid c1; have C2 := Lib.hid c2
      clear c1 c2
      go_loopw [5] (fun vi wr => ∃ i : Nat, vi = .int .i64 i ∧ i ≤ l.length ∧ Hid (∀ j (hj : j < i) (h1 : j < l.length) (h2 : j < m.length), l[j] = m[j]) ∧ Below W.heap.size W wr) (fun vi _ => l.length - (intOf vi).toNat)
      case atStart => exact ⟨0, rfl, by omega, by intro j hj; omega, Below.refl _ _⟩
      case round =>
        obtain ⟨i, rfl, hi, heq, hbel⟩ := hrel
        have k1 : wr.cell? ⟨w.heap.size, 0, none⟩ = some (.slice (some ⟨b, off, none⟩) l.length cap) := by rw [hbel.cell (p := ⟨_, _, none⟩) (by show w.heap.size < _; omega)]; exact C1.out
        have k2 : wr.cell? ⟨w.heap.size + 1, 0, none⟩ = some (.slice (some ⟨b2, off2, none⟩) m.length cap2) := by rw [hbel.cell (p := ⟨_, _, none⟩) (by show w.heap.size + 1 < _; omega)]; exact C2.out
        by_cases hlt : i < l.length
        · have x1 := (hrW.below hbel hrW.blk).cell i hlt
          have x2 := (hrW2.below hbel hrW2.blk).cell i (by omega)
          have i0 : (0 : Int) ≤ i := by omega
          have i1 : (i : Int) < l.length := by omega
          have i2 : (i : Int) < m.length := by omega
          obtain ⟨z1, hz1⟩ : ∃ z, z = l[i] := ⟨_, rfl⟩
          obtain ⟨z2, hz2⟩ : ∃ z, z = m[i]'(by omega) := ⟨_, rfl⟩
          rw [← hz1] at x1
          rw [← hz2] at x2
          have HZ1 := Lib.hid hz1; have HZ2 := Lib.hid hz2
          clear hz1 hz2
          by_cases he : z1 = z2
          · have e2 : (z1 != z2) = false := by rw [he]; simp
            have heq' : Hid (∀ j (hj : j < i + 1) (h1 : j < l.length) (h2 : j < m.length), l[j] = m[j]) := by
              intro j hj h1 h2
              by_cases e : j = i
              · subst e; rw [← HZ1.out, ← HZ2.out]; exact he
              · exact heq.out j (by omega) h1 h2
            clear heq he
            go_wp2_with fail
            go_quiet (fail)
            go_wp2_with fail
            go_roundw
            case rel => exact ⟨i + 1, by go_num, by omega, heq', below_drewN hbel _⟩
            case measure => simp [intOf]; omega
          · have e2 : (z1 != z2) = true := bne_iff_ne.2 he
            have hR : Hid (decide (l = m) = false) := decide_eq_false (list_ne_at hlt (by omega) (by rw [← HZ1.out, ← HZ2.out]; exact he))
            clear heq he
            go_wp2_with fail
            go_quiet (fail)
            go_wp2_with fail
            go_ret
            exact ⟨ret_bool (by rw [hR.out]), hbW.trans ((below_drewN hbel _).mono (by omega))⟩
        · have hR : Hid (decide (l = m) = true) := decide_eq_true (list_eq_of HL.out (fun j h1 h2 => heq.out j (by omega) h1 h2))
          clear heq
          go_wp2_with fail
          go_ret
          exact ⟨ret_bool (by rw [hR.out]), hbW.trans (hbel.mono (by omega))⟩

set_option maxHeartbeats 1000000 in
theorem secret_any (x : Par) (cv sv : Value) (l : List Int) (w : World) (hs : SliceZ .i8 w sv l) (hlen : l.length ≤ 140737488351232) :
    Calls Try.prog 47 #[x.val cv, .agg #[sv]] w fun r w' => r = .returned (.bool (secB x l)) ∧ Below w.heap.size w w' := by
  obtain ⟨p, cap, rfl, hc, hc2, hrow⟩ := hs
  unfold Par.val
  by_cases hnil : l = []
  · subst hnil
    by_cases hn : (0 : Int) = x.n
    case neg =>
      have e1 : ((0 : Int) == x.n) = false := beq_eq_false_iff_ne.2 hn
      have hR : Hid (secB x [] = false) := secB_no (.inr (.inl (by simpa using hn)))
      clear hn
      go_enter Try.func47, Try.ntmps47
      go_wp2_with fail
      go_rounds 1
      go_ret
      exact ⟨ret_bool (by rw [hR.out]), ((Below.refl _ _).alloc (Nat.le_refl _) _).alloc (by simp) _⟩
    have e1 : ((0 : Int) == x.n) = true := beq_iff_eq.2 hn
    by_cases hw : (0 : Int) = x.wt
    case neg =>
      have e2 : ((0 : Int) == x.wt) = false := beq_eq_false_iff_ne.2 hw
      have hR : Hid (secB x [] = false) := secB_no (.inr (.inr (by simpa [weight] using hw)))
      clear hw hn
      go_enter Try.func47, Try.ntmps47
      go_wp2_with fail
      go_rounds 1
      go_ret
      exact ⟨ret_bool (by rw [hR.out]), ((Below.refl _ _).alloc (Nat.le_refl _) _).alloc (by simp) _⟩
    have e2 : ((0 : Int) == x.wt) = true := beq_iff_eq.2 hw
    have hR : Hid (secB x [] = true) := secB_yes (by simp) (by simpa using hn) (by simpa [weight] using hw)
    clear hw hn
    go_enter Try.func47, Try.ntmps47
    go_wp2_with fail
    go_rounds 1
    go_ret
    exact ⟨ret_bool (by rw [hR.out]), ((Below.refl _ _).alloc (Nat.le_refl _) _).alloc (by simp) _⟩
  · obtain ⟨b, off, rfl, hr⟩ := hrow hnil
    clear hnil
    go_enter Try.func47, Try.ntmps47
    go_wp2_with fail
    have hl0 : l.length ≤ 9223372036854775807 := by omega
    have hbW : Below w.heap.size w ((w.alloc (.cells #[.int .i64 x.n, .int .u32 x.p, .int .i64 x.r, cv, .int .u32 x.sp, .int .i64 x.wt, .int .u32 x.er] 25)).alloc (.cells #[.slice (some ⟨b, off, none⟩) l.length cap] 28)) := ((Below.refl _ _).alloc (Nat.le_refl _) _).alloc (by simp) _
    go_loop [5, 7, 11] (fun vw _ vk => ∃ k : Nat, vk = .int .i64 k ∧ k ≤ l.length ∧ vw = .int .i64 (weight (l.take k)) ∧ Hid (∀ j (hj : j < k) (h1 : j < l.length), small1 l[j] = true)) (fun _ _ vk => l.length - (intOf vk).toNat)
    case atStart => exact ⟨0, rfl, by omega, rfl, by intro j hj; omega⟩
    case round =>
      obtain ⟨k, rfl, hk, rfl, hall⟩ := hrel
      by_cases hlt : k < l.length
      · have hx : ((w.alloc (.cells #[.int .i64 x.n, .int .u32 x.p, .int .i64 x.r, cv, .int .u32 x.sp, .int .i64 x.wt, .int .u32 x.er] 25)).alloc (.cells #[.slice (some ⟨b, off, none⟩) l.length cap] 28)).cell? ⟨b, off + k, none⟩ = some (.int .i8 l[k]) := (hr.below hbW hr.blk).cell k hlt
        have hwk := weight_snoc (l.take k) l[k]
        rw [← take_snoc l k hlt] at hwk
        have hwl := weight_le (l.take k)
        have htl : (l.take k).length ≤ k := List.length_take_le _ _
        have hnew := fun (hs : small1 l[k] = true) => (show Hid (∀ j (hj : j < k + 1) (h1 : j < l.length), small1 l[j] = true) from by
          intro j hj h1
          by_cases e : j = k
          · subst e; exact hs
          · exact hall.out j (by omega) h1)
        have hbadk := fun (hs : small1 l[k] = false) => (show Hid (secB x l = false) from secB_no (.inl ⟨l[k], List.getElem_mem hlt, hs⟩))
        have i0 : (0 : Int) ≤ k := by omega
        have i1 : (k : Int) < l.length := by omega
        have HN := Lib.hid hnew; have HB := Lib.hid hbadk; have HWK := Lib.hid hwk
        clear hnew hbadk hwk
        generalize l[k] = z at *
        by_cases z1 : z = -1
        · subst z1
          go_wp2_with fail
          go_round
          case rel => exact ⟨k + 1, by go_num, by omega, by rw [HWK.out]; go_num, HN.out rfl⟩
          case measure => simp [intOf]; omega
        · have f1 : (z == -1) = false := beq_eq_false_iff_ne.2 z1
          by_cases z2 : z = 1
          · subst z2
            clear f1 z1
            go_wp2_with fail
            go_round
            case rel => exact ⟨k + 1, by go_num, by omega, by rw [HWK.out]; go_num, HN.out rfl⟩
            case measure => simp [intOf]; omega
          · have f2 : (z == 1) = false := beq_eq_false_iff_ne.2 z2
            by_cases z3 : z = 0
            · subst z3
              clear f1 z1 f2 z2
              go_wp2_with fail
              go_round
              case rel => exact ⟨k + 1, by go_num, by omega, by rw [HWK.out]; go_num, HN.out rfl⟩
              case measure => simp [intOf]; omega
            · have f3 : (z == 0) = false := beq_eq_false_iff_ne.2 z3
              have hR := HB.out (by unfold small1; rw [f1, f2, f3]; rfl)
              clear z1 z2 z3
              go_wp2_with fail
              go_ret
              exact ⟨ret_bool (by rw [hR.out]), hbW⟩
      · obtain rfl : k = l.length := by omega
        have htk : Hid (weight (l.take l.length) = weight l) := by show _ = _; rw [List.take_length]
        rw [htk.out]
        by_cases hn : (l.length : Int) = x.n
        case neg =>
          have e1 : ((l.length : Int) == x.n) = false := beq_eq_false_iff_ne.2 hn
          have hR : Hid (secB x l = false) := secB_no (.inr (.inl (by simpa using hn)))
          clear hn
          go_wp2_with fail
          go_ret
          exact ⟨ret_bool (by rw [hR.out]), ((Below.refl _ _).alloc (Nat.le_refl _) _).alloc (by simp) _⟩
        have e1 : ((l.length : Int) == x.n) = true := beq_iff_eq.2 hn
        by_cases hw : (weight l : Int) = x.wt
        case neg =>
          have e2 : ((weight l : Int) == x.wt) = false := beq_eq_false_iff_ne.2 hw
          have hR : Hid (secB x l = false) := secB_no (.inr (.inr (by simpa using hw)))
          clear hw hn
          go_wp2_with fail
          go_ret
          exact ⟨ret_bool (by rw [hR.out]), ((Below.refl _ _).alloc (Nat.le_refl _) _).alloc (by simp) _⟩
        have e2 : ((weight l : Int) == x.wt) = true := beq_iff_eq.2 hw
        have hR : Hid (secB x l = true) := secB_yes (fun z hz => by
            obtain ⟨j, hj, rfl⟩ := List.mem_iff_getElem.1 hz
            exact hall.out j (by omega) hj) hn hw
        clear hw hn hall
        go_wp2_with fail
        go_ret
        exact ⟨ret_bool (by rw [hR.out]), ((Below.refl _ _).alloc (Nat.le_refl _) _).alloc (by simp) _⟩
end Go.Proofs.Ytjfjbkocopaehaa
