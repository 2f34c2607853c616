/- Walks of the layer of keys: CheckSecret, the reference's CheckSecret and Automorphism. -/
import Derived.Test.YtjfjbkocopaehaaKeyA
namespace Go.Proofs.Ytjfjbkocopaehaa
open Go.RowKit

theorem csec_no {pr : Nat → Bool} {x : Par} {l : List Int} (h : okB pr x = false ∨ secB x l = false) : csec pr x l = 2 := by
  unfold csec; rcases h with h | h <;> rw [h] <;> simp
theorem csec_yes {pr : Nat → Bool} {x : Par} {l : List Int} (h : okB pr x = true) (h2 : secB x l = true) : csec pr x l = 0 := by
  unfold csec; rw [h, h2]; rfl

set_option maxHeartbeats 1000000 in
theorem csecret_any (x : Par) (cv sv : Value) (l : List Int) (w : World) (hx : ParOk x) (hcv : SliceAt w cv x.ch) (hs : SliceZ .i8 w sv l) (hlen : l.length ≤ 140737488351232) :
    Calls Try.prog 15 #[x.val cv, .agg #[sv]] w fun r w' => r = .returned (.int .i64 (csec mPrime x l)) ∧ Below w.heap.size w w' := by
  have hbW : Below w.heap.size w ((w.alloc (.cells #[.int .i64 x.n, .int .u32 x.p, .int .i64 x.r, cv, .int .u32 x.sp, .int .i64 x.wt, .int .u32 x.er] 25)).alloc (.cells #[sv] 28)) := ((Below.refl _ _).alloc (Nat.le_refl _) _).alloc (by simp) _
  have hcv1 := Lib.hid (hcv.below hbW)
  have hs1 := Lib.hid (hs.below hbW)
  have hB : BoxP ((w.alloc (.cells #[.int .i64 x.n, .int .u32 x.p, .int .i64 x.r, cv, .int .u32 x.sp, .int .i64 x.wt, .int .u32 x.er] 25)).alloc (.cells #[sv] 28)) w.heap.size x cv := by constructor <;> simp [go_sem]
  have hS : ((w.alloc (.cells #[.int .i64 x.n, .int .u32 x.p, .int .i64 x.r, cv, .int .u32 x.sp, .int .i64 x.wt, .int .u32 x.er] 25)).alloc (.cells #[sv] 28)).cell? ⟨w.heap.size + 1, 0, none⟩ = some sv := by simp [go_sem]
  have hsz : w.heap.size + 1 + 1 ≤ ((w.alloc (.cells #[.int .i64 x.n, .int .u32 x.p, .int .i64 x.r, cv, .int .u32 x.sp, .int .i64 x.wt, .int .u32 x.er] 25)).alloc (.cells #[sv] 28)).heap.size := by simp
  have HB := Lib.hid hB; have HS := Lib.hid hS
  clear hB hS
  unfold Par.val
  cases hok : okB mPrime x with
  | false =>
    have hR : Hid (csec mPrime x l = 2) := csec_no (.inl hok)
    have hC : Hid (chk mPrime x = 2) := chk_two hok
    clear hok
    go_enter Try.func15, Try.ntmps15
    go_wp2_with fail
    refine (pcheck_any x cv _ hx hcv1.out).mono ?_
    rintro e w1 ⟨rfl, hb1⟩
    rw [hC.out]
    go_wp2_with fail
    go_ret
    exact ⟨ret_int (by rw [hR.out]), hbW.trans (hb1.mono (by omega))⟩
  | true =>
    have hC : Hid (chk mPrime x = 0) := chk_ok hok
    go_enter Try.func15, Try.ntmps15
    go_wp2_with fail
    refine (pcheck_any x cv _ hx hcv1.out).mono ?_
    rintro e w1 ⟨rfl, hb1⟩
    rw [hC.out]
    have hB1 := HB.out.below hb1 (by omega)
    have k0 := hB1.n; have k1 := hB1.p; have k2 := hB1.r; have k3 := hB1.ch; have k4 := hB1.sp; have k5 := hB1.wt; have k6 := hB1.er
    have ks : w1.cell? ⟨w.heap.size + 1, 0, none⟩ = some sv := by rw [hb1.cell (p := ⟨_, _, none⟩) (by show w.heap.size + 1 < _; omega)]; exact HS.out
    clear hB1
    have hs2 := Lib.hid (hs1.out.below hb1)
    go_wp2_with fail
    refine (secret_any x cv sv l _ hs2.out hlen).mono ?_
    rintro e w2 ⟨rfl, hb2⟩
    cases hsec : secB x l with
    | false =>
      have hR : Hid (csec mPrime x l = 2) := csec_no (.inr hsec)
      go_wp2_with fail
      go_ret
      exact ⟨ret_int (by rw [hR.out]), (hbW.trans (hb1.mono (by omega))).trans (hb2.mono (by have := hb1.size; omega))⟩
    | true =>
      have hR : Hid (csec mPrime x l = 0) := csec_yes hok hsec
      go_wp2_with fail
      go_ret
      exact ⟨ret_int (by rw [hR.out]), (hbW.trans (hb1.mono (by omega))).trans (hb2.mono (by have := hb1.size; omega))⟩

set_option maxHeartbeats 1000000 in
theorem rcsecret_any (x : Par) (cv sv : Value) (l : List Int) (w : World) (hx : ParOk x) (hcv : SliceAt w cv x.ch) (hs : SliceZ .i8 w sv l) (hlen : l.length ≤ 140737488351232) :
    Calls Try.prog 31 #[x.val cv, .agg #[sv]] w fun r w' => r = .returned (.int .i64 (csec rPrime x l)) ∧ Below w.heap.size w w' := by
  obtain ⟨p, cap, rfl, hc, hc2, hrow⟩ := hs
  have hl0 : l.length ≤ 9223372036854775807 := by omega
  have hbW : Below w.heap.size w ((w.alloc (.cells #[.int .i64 x.n, .int .u32 x.p, .int .i64 x.r, cv, .int .u32 x.sp, .int .i64 x.wt, .int .u32 x.er] 25)).alloc (.cells #[.slice p l.length cap] 28)) := ((Below.refl _ _).alloc (Nat.le_refl _) _).alloc (by simp) _
  have hcv1 := Lib.hid (hcv.below hbW)
  have hB : BoxP ((w.alloc (.cells #[.int .i64 x.n, .int .u32 x.p, .int .i64 x.r, cv, .int .u32 x.sp, .int .i64 x.wt, .int .u32 x.er] 25)).alloc (.cells #[.slice p l.length cap] 28)) w.heap.size x cv := by constructor <;> simp [go_sem]
  have hS : ((w.alloc (.cells #[.int .i64 x.n, .int .u32 x.p, .int .i64 x.r, cv, .int .u32 x.sp, .int .i64 x.wt, .int .u32 x.er] 25)).alloc (.cells #[.slice p l.length cap] 28)).cell? ⟨w.heap.size + 1, 0, none⟩ = some (.slice p l.length cap) := by simp [go_sem]
  have hsz : w.heap.size + 1 + 1 ≤ ((w.alloc (.cells #[.int .i64 x.n, .int .u32 x.p, .int .i64 x.r, cv, .int .u32 x.sp, .int .i64 x.wt, .int .u32 x.er] 25)).alloc (.cells #[.slice p l.length cap] 28)).heap.size := by simp
  have HB := Lib.hid hB; have HS := Lib.hid hS
  clear hB hS
  unfold Par.val
  cases hok : okB rPrime x with
  | false =>
    have hR : Hid (csec rPrime x l = 2) := csec_no (.inl hok)
    have hC : Hid (chk rPrime x = 2) := chk_two hok
    clear hok
    go_enter Try.func31, Try.ntmps31
    go_wp2_with fail
    refine (rcheck_any x cv _ hx hcv1.out).mono ?_
    rintro e w1 ⟨rfl, hb1⟩
    rw [hC.out]
    go_wp2_with fail
    go_ret
    exact ⟨ret_int (by rw [hR.out]), hbW.trans (hb1.mono (by omega))⟩
  | true =>
    have hC : Hid (chk rPrime x = 0) := chk_ok hok
    by_cases hn : (l.length : Int) = x.n
    case neg =>
      have hR : Hid (csec rPrime x l = 2) := csec_no (.inr (secB_no (.inr (.inl hn))))
      have e1 : ((l.length : Int) != x.n) = true := bne_iff_ne.2 hn
      clear hn
      go_enter Try.func31, Try.ntmps31
      go_wp2_with fail
      refine (rcheck_any x cv _ hx hcv1.out).mono ?_
      rintro e w1 ⟨rfl, hb1⟩
      rw [hC.out]
      have hB1 := HB.out.below hb1 (by omega)
      have k0 := hB1.n
      have ks : w1.cell? ⟨w.heap.size + 1, 0, none⟩ = some (.slice p l.length cap) := by rw [hb1.cell (p := ⟨_, _, none⟩) (by show w.heap.size + 1 < _; omega)]; exact HS.out
      clear hB1
      go_wp2_with fail
      go_ret
      exact ⟨ret_int (by rw [hR.out]), hbW.trans (hb1.mono (by omega))⟩
    have e1 : ((l.length : Int) != x.n) = false := by rw [hn]; simp
    have HN := Lib.hid hn
    have hne : l ≠ [] := by
      intro e
      have hd : isDim x.n = true := by
        rw [okB_conds] at hok; simp only [Bool.and_eq_true] at hok; exact hok.1
      have := isDim_cases hd
      rw [e] at hn; simp at hn; omega
    obtain ⟨b, off, rfl, hr⟩ := hrow hne
    clear hn hne
    go_enter Try.func31, Try.ntmps31
    go_wp2_with fail
    refine (rcheck_any x cv _ hx hcv1.out).mono ?_
    rintro e w1 ⟨rfl, hb1⟩
    rw [hC.out]
    have hB1 := HB.out.below hb1 (by omega)
    have k0 := hB1.n; have k5 := hB1.wt
    have ks : w1.cell? ⟨w.heap.size + 1, 0, none⟩ = some (.slice (some ⟨b, off, none⟩) l.length cap) := by rw [hb1.cell (p := ⟨_, _, none⟩) (by show w.heap.size + 1 < _; omega)]; exact HS.out
    clear hB1
    have hbT : Below w.heap.size w w1 := hbW.trans (hb1.mono (by omega))
    have hrT := hr.below hbT hr.blk
    clear hb1
    go_wp2_with fail
    go_loop [5, 6] (fun vw vk => ∃ k : Nat, vk = .int .i64 k ∧ k ≤ l.length ∧ vw = .int .i64 (weight (l.take k)) ∧ Hid (∀ j (hj : j < k) (h1 : j < l.length), small1 l[j] = true)) (fun _ vk => l.length - (intOf vk).toNat)
    case atStart => exact ⟨0, rfl, by omega, rfl, by intro j hj; omega⟩
    case round =>
      obtain ⟨k, rfl, hk, rfl, hall⟩ := hrel
      by_cases hlt : k < l.length
      · have hxk := hrT.cell k hlt
        have hwk := weight_snoc (l.take k) l[k]
        rw [← take_snoc l k hlt] at hwk
        have hwl := weight_le (l.take k)
        have htl : (l.take k).length ≤ k := List.length_take_le _ _
        have hnew := fun (hs : small1 l[k] = true) => (show Hid (∀ j (hj : j < k + 1) (h1 : j < l.length), small1 l[j] = true) from by
          intro j hj h1
          by_cases e : j = k
          · subst e; exact hs
          · exact hall.out j (by omega) h1)
        have hbadk := fun (hs : small1 l[k] = false) => (show Hid (csec rPrime x l = 2) from csec_no (.inr (secB_no (.inl ⟨l[k], List.getElem_mem hlt, hs⟩))))
        have i0 : (0 : Int) ≤ k := by omega
        have i1 : (k : Int) < l.length := by omega
        have HNW := Lib.hid hnew; have HBD := Lib.hid hbadk; have HWK := Lib.hid hwk
        clear hnew hbadk hwk
        generalize l[k] = z at *
        by_cases z1 : z < -1
        · have f1 : decide (z < -1) = true := decide_eq_true z1
          have hR := HBD.out (by rw [← Bool.not_eq_true, small1_iff]; omega)
          go_wp2_with fail
          go_ret
          exact ⟨ret_int (by rw [hR.out]), hbT⟩
        have f1 : decide (z < -1) = false := decide_eq_false z1
        by_cases z2 : 1 < z
        · have f2 : decide (1 < z) = true := decide_eq_true z2
          have hR := HBD.out (by rw [← Bool.not_eq_true, small1_iff]; omega)
          go_wp2_with fail
          go_ret
          exact ⟨ret_int (by rw [hR.out]), hbT⟩
        have f2 : decide (1 < z) = false := decide_eq_false z2
        have hnew := HNW.out (by rw [small1_iff]; omega)
        by_cases z3 : z = 0
        · have f3 : (z != 0) = false := by rw [z3]; rfl
          have hw2 : Hid (weight (l.take (k + 1)) = weight (l.take k)) := by show _ = _; rw [HWK.out, if_pos z3]; rfl
          clear z3 z1 z2
          go_wp2_with fail
          go_round
          case rel => exact ⟨k + 1, by go_num, by omega, by rw [hw2.out], hnew⟩
          case measure => simp [intOf]; omega
        · have f3 : (z != 0) = true := bne_iff_ne.2 z3
          have hw2 : Hid (weight (l.take (k + 1)) = weight (l.take k) + 1) := by show _ = _; rw [HWK.out, if_neg z3]
          clear z3 z1 z2
          go_wp2_with fail
          go_round
          case rel => exact ⟨k + 1, by go_num, by omega, by rw [hw2.out]; go_num, hnew⟩
          case measure => simp [intOf]; omega
      · obtain rfl : k = l.length := by omega
        have htk : Hid (weight (l.take l.length) = weight l) := by show _ = _; rw [List.take_length]
        rw [htk.out]
        by_cases hw : (weight l : Int) = x.wt
        · have e2 : ((weight l : Int) != x.wt) = false := by rw [hw]; simp
          have hR : Hid (csec rPrime x l = 0) := csec_yes hok (secB_yes (fun z hz => by
            obtain ⟨j, hj, rfl⟩ := List.mem_iff_getElem.1 hz
            exact hall.out j (by omega) hj) HN.out hw)
          clear hw hall
          go_wp2_with fail
          go_ret
          exact ⟨ret_int (by rw [hR.out]), hbT⟩
        · have e2 : ((weight l : Int) != x.wt) = true := bne_iff_ne.2 hw
          have hR : Hid (csec rPrime x l = 2) := csec_no (.inr (secB_no (.inr (.inr hw))))
          clear hw hall
          go_wp2_with fail
          go_ret
          exact ⟨ret_int (by rw [hR.out]), hbT⟩

set_option maxHeartbeats 1000000 in
theorem raut_any (x : Par) (cv : Value) (k : Int) (w : World) (hn4 : 4 ≤ x.n) (hn : x.n ≤ 32) :
    Calls Try.prog 43 #[x.val cv, .int .i64 k] w fun r w' => r = .returned (.bool (autB x k)) ∧ Below w.heap.size w w' := by
  unfold Par.val
  by_cases h1 : 1 ≤ k
  case neg =>
    have d1 : decide (1 ≤ k) = false := decide_eq_false h1
    have hR : Hid (autB x k = false) := by show _ = _; unfold autB; rw [d1]; rfl
    go_enter Try.func43, Try.ntmps43
    go_wp2_with fail
    go_ret
    exact ⟨ret_bool (by rw [hR.out]), (Below.refl _ _).alloc (Nat.le_refl _) _⟩
  have d1 : decide (1 ≤ k) = true := decide_eq_true h1
  by_cases h2 : k < 2 * x.n
  case neg =>
    have d2 : decide (k < 2 * x.n) = false := decide_eq_false h2
    have hR : Hid (autB x k = false) := by show _ = _; unfold autB; rw [d2]; simp
    go_enter Try.func43, Try.ntmps43
    go_wp2_with fail
    go_ret
    exact ⟨ret_bool (by rw [hR.out]), (Below.refl _ _).alloc (Nat.le_refl _) _⟩
  have d2 : decide (k < 2 * x.n) = true := decide_eq_true h2
  by_cases h3 : k % 2 = 1
  case neg =>
    have d3 : (k % 2 == 1) = false := beq_eq_false_iff_ne.2 h3
    have hR : Hid (autB x k = false) := by show _ = _; unfold autB; rw [decide_eq_false h3]; simp
    clear h3
    go_enter Try.func43, Try.ntmps43
    go_wp2_with fail
    go_ret
    exact ⟨ret_bool (by rw [hR.out]), (Below.refl _ _).alloc (Nat.le_refl _) _⟩
  have d3 : (k % 2 == 1) = true := beq_iff_eq.2 h3
  have hR : Hid (autB x k = true) := by show _ = _; unfold autB; rw [d1, d2, decide_eq_true h3]; rfl
  clear h3
  go_enter Try.func43, Try.ntmps43
  go_wp2_with fail
  go_ret
  exact ⟨ret_bool (by rw [hR.out]), (Below.refl _ _).alloc (Nat.le_refl _) _⟩
end Go.Proofs.Ytjfjbkocopaehaa
