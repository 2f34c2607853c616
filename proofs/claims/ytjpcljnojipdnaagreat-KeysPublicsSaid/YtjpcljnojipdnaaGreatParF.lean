/- obscuraref12.Check. -/
import Derived.Test.YtjpcljnojipdnaaGreatParY
import Derived.Deep.QuietTactic
import Derived.BigQuiet
namespace Go.Proofs.YtjpcljnojipdnaaGreat
open Go.RowKit

theorem rgood_quiet (n : Int) (t q : Nat) (w : World) (hn4 : 4 ≤ n) (hn : n ≤ 32) (ht0 : 0 < t) (ht : t ≤ 2147483647) (hq : q < 4294967296) :
    Calls Tryz.prog 70 #[.int .i64 n, .int .i64 t, .int .u32 q] w fun r w' => r = .returned (.bool (goodS rPrime ((2 * n).toNat * t) q)) ∧ w' = w :=
  (rgood_any n t q w hn4 hn ht0 ht hq).mono fun _ _ ⟨h1, h2⟩ => ⟨h1, h2.symm⟩

theorem okB_no {pr : Nat → Bool} {x : Par} (h : isDim x.n = false ∨ lenB x.ch.length = false ∨ wtB x = false ∨ ¬ 0 < x.t pr ∨ goodS pr (stepOf pr x) x.sp = false ∨ (∃ q, q ∈ x.ch ∧ badB pr (stepOf pr x) x.sp q = true) ∨ ¬ x.ch.Nodup) : chk pr x = 2 := by
  have : okB pr x = false := by
    rw [okB_conds]
    rcases h with h | h | h | h | h | ⟨q, hq, h⟩ | h
    · rw [h]; rfl
    · unfold conds; rw [h]; simp
    · unfold conds; rw [h]; simp
    · unfold conds; rw [decide_eq_false h]; simp
    · unfold conds; rw [h]; simp
    · have : x.ch.any (badB pr (stepOf pr x) x.sp) = true := List.any_eq_true.2 ⟨q, hq, h⟩
      unfold conds; rw [this]; simp
    · unfold conds; rw [decide_eq_false h]; simp
  unfold chk; rw [this]; rfl

theorem okB_yes {pr : Nat → Bool} {x : Par} (h1 : isDim x.n = true) (h2 : lenB x.ch.length = true) (h3 : wtB x = true) (h4 : 0 < x.t pr) (h5 : goodS pr (stepOf pr x) x.sp = true)
    (h6 : ∀ q, q ∈ x.ch → badB pr (stepOf pr x) x.sp q = false) (h7 : x.ch.Nodup) : chk pr x = 0 := by
  have : okB pr x = true := by
    have hb : x.ch.any (badB pr (stepOf pr x) x.sp) = false := by
      rw [List.any_eq_false]; intro q hq; rw [h6 q hq]; simp
    rw [okB_conds, h1]
    unfold conds
    rw [h2, h3, h5, hb, decide_eq_true h4, decide_eq_true h7]; rfl
  unfold chk; rw [this]; rfl

theorem nodup_snoc {l : List Nat} {i : Nat} (hi : i < l.length) (h : (l.take i).Nodup) (hne : ∀ j (hj : j < i), l[j]'(by omega) ≠ l[i]) : (l.take (i + 1)).Nodup := by
  rw [List.take_succ_eq_append_getElem hi, List.nodup_append]
  refine ⟨h, by simp, ?_⟩
  intro a ha b hb
  simp at hb; subst hb
  obtain ⟨j, hj, rfl⟩ := List.mem_iff_getElem.1 ha
  rw [List.getElem_take]
  exact hne j (by simp at hj; omega)

theorem dup_no {l : List Nat} {i j : Nat} (hi : i < l.length) (hj : j < i) (h : l[j]'(by omega) = l[i]) : ¬ l.Nodup := by
  intro hn
  exact (List.pairwise_iff_getElem.1 hn) j i (by omega) hi hj h

set_option maxHeartbeats 1000000 in
theorem rcheck_early (x : Par) (p : Option Addr) (cap : Nat) (w : World) (h : isDim x.n = false ∨ lenB x.ch.length = false ∨ wtB x = false) :
    Calls Tryz.prog 28 #[x.val (.slice p x.ch.length cap)] w fun r w' => r = .returned (.int .i64 (chk rPrime x)) ∧ Below w.heap.size w w' := by
  have hR : Hid (chk rPrime x = 2) := okB_no (by rcases h with h | h | h <;> simp [h])
  have call := fun wx => (rdim_any x.n wx)
  have CALL := Lib.hid call
  clear call
  unfold Par.val
  cases hd : isDim x.n with
  | false =>
    clear h
    go_enter Tryz.func28, Tryz.ntmps28
    go_wp2_with fail
    refine (CALL.out _).mono ?_
    rintro e w1 ⟨rfl, rfl⟩
    rw [hd]
    go_wp2_with fail
    go_ret
    exact ⟨ret_int (by rw [hR.out]), (Below.refl _ _).alloc (Nat.le_refl _) _⟩
  | true =>
    by_cases l1 : 1 ≤ x.ch.length
    case neg =>
      have d1 : decide ((x.ch.length : Int) < 1) = true := decide_eq_true (by omega)
      clear h
      go_enter Tryz.func28, Tryz.ntmps28
      go_wp2_with fail
      refine (CALL.out _).mono ?_
      rintro e w1 ⟨rfl, rfl⟩
      rw [hd]
      go_wp2_with fail
      go_ret
      exact ⟨ret_int (by rw [hR.out]), (Below.refl _ _).alloc (Nat.le_refl _) _⟩
    have d1 : decide ((x.ch.length : Int) < 1) = false := decide_eq_false (by omega)
    by_cases l2 : x.ch.length ≤ 24
    case neg =>
      have d2 : decide ((24 : Int) < x.ch.length) = true := decide_eq_true (by omega)
      clear h
      go_enter Tryz.func28, Tryz.ntmps28
      go_wp2_with fail
      refine (CALL.out _).mono ?_
      rintro e w1 ⟨rfl, rfl⟩
      rw [hd]
      go_wp2_with fail
      go_ret
      exact ⟨ret_int (by rw [hR.out]), (Below.refl _ _).alloc (Nat.le_refl _) _⟩
    have d2 : decide ((24 : Int) < x.ch.length) = false := decide_eq_false (by omega)
    have hw3 : wtB x = false := by
      rcases h with h | h | h
      · rw [h] at hd; simp at hd
      · unfold lenB at h; simp at h; omega
      · exact h
    clear h
    by_cases m1 : x.wt < 1
    · have e1 : decide (x.wt < 1) = true := decide_eq_true m1
      clear hw3
      go_enter Tryz.func28, Tryz.ntmps28
      go_wp2_with fail
      refine (CALL.out _).mono ?_
      rintro e w1 ⟨rfl, rfl⟩
      rw [hd]
      go_wp2_with fail
      go_ret
      exact ⟨ret_int (by rw [hR.out]), (Below.refl _ _).alloc (Nat.le_refl _) _⟩
    have e1 : decide (x.wt < 1) = false := decide_eq_false m1
    by_cases m2 : x.n < x.wt
    · have e2 : decide (x.n < x.wt) = true := decide_eq_true m2
      clear hw3
      go_enter Tryz.func28, Tryz.ntmps28
      go_wp2_with fail
      refine (CALL.out _).mono ?_
      rintro e w1 ⟨rfl, rfl⟩
      rw [hd]
      go_wp2_with fail
      go_ret
      exact ⟨ret_int (by rw [hR.out]), (Below.refl _ _).alloc (Nat.le_refl _) _⟩
    have e2 : decide (x.n < x.wt) = false := decide_eq_false m2
    have e3 : decide ((64 : Int) < x.er) = true := by
      apply decide_eq_true
      unfold wtB at hw3
      have := of_decide_eq_false hw3
      omega
    clear hw3
    go_enter Tryz.func28, Tryz.ntmps28
    go_wp2_with fail
    refine (CALL.out _).mono ?_
    rintro e w1 ⟨rfl, rfl⟩
    rw [hd]
    go_wp2_with fail
    go_ret
    exact ⟨ret_int (by rw [hR.out]), (Below.refl _ _).alloc (Nat.le_refl _) _⟩

set_option maxHeartbeats 1000000 in
theorem rcheck_late (x : Par) (b off cap : Nat) (w : World) (hx : ParOk x) (hr : RowAt w b off x.ch) (hd : isDim x.n = true) (hl : lenB x.ch.length = true) (hw : wtB x = true) :
    Calls Tryz.prog 28 #[x.val (.slice (some ⟨b, off, none⟩) x.ch.length cap)] w fun r w' => r = .returned (.int .i64 (chk rPrime x)) ∧ Below w.heap.size w w' := by
  obtain ⟨l1, l2⟩ := of_decide_eq_true hl
  obtain ⟨m1, m2, m3⟩ := of_decide_eq_true hw
  have HL := Lib.hid hl
  have HW := Lib.hid hw
  clear hl hw
  have hn4 : 4 ≤ x.n ∧ x.n ≤ 32 := by have := isDim_cases hd; omega
  obtain ⟨hn4, hn32⟩ := hn4
  unfold Par.val
  go_enter Tryz.func28, Tryz.ntmps28
  go_wp2_with fail
  refine (rdim_any _ _).mono ?_
  rintro e w1 ⟨rfl, rfl⟩
  rw [hd]
  go_wp2_with fail
  refine (rplain_any _ _ _ _ hn4 hn32 hx.p1 hx.r0 hx.r1).mono ?_
  rintro e w1 ⟨rfl, rfl⟩
  have htl := powv_le rPrime x.n x.p x.r
  have hT : Hid (x.t rPrime = powv rPrime x.n x.p x.r) := rfl
  generalize powv rPrime x.n x.p x.r = t at htl hT ⊢
  by_cases t0 : t = 0
  · have hR : Hid (chk rPrime x = 2) := okB_no (by rw [hT.out, t0]; simp)
    have e0 : ((t : Int) == 0) = true := beq_iff_eq.2 (by omega)
    clear t0
    go_wp2_with fail
    go_ret
    exact ⟨ret_int (by rw [hR.out]), (Below.refl _ _).alloc (Nat.le_refl _) _⟩
  have e0 : ((t : Int) == 0) = false := beq_eq_false_iff_ne.2 (by omega)
  have hst : Hid (stepOf rPrime x = (2 * x.n).toNat * t) := by show _ = _; unfold stepOf; rw [hT.out]
  have tpos : 0 < t := by omega
  have htp : Hid (0 < x.t rPrime) := by show _ < _; rw [hT.out]; exact tpos
  clear t0
  cases hg : goodS rPrime ((2 * x.n).toNat * t) x.sp with
  | false =>
    have hR : Hid (chk rPrime x = 2) := okB_no (by rw [hst.out, hg]; simp)
    go_wp2_with (go_at_call 70; refine (rgood_any _ _ _ _ hn4 hn32 tpos htl hx.sp1).mono ?_; rintro e w1 ⟨rfl, rfl⟩; rw [hg])
    go_ret
    exact ⟨ret_int (by rw [hR.out]), (Below.refl _ _).alloc (Nat.le_refl _) _⟩
  | true =>
    have HG := Lib.hid hg
    go_wp2_with (go_at_call 70; refine (rgood_any _ _ _ _ hn4 hn32 tpos htl hx.sp1).mono ?_; rintro e w1 ⟨rfl, rfl⟩; rw [hg])
    clear hg
    have hB : BoxP (w.alloc (.cells #[.int .i64 x.n, .int .u32 x.p, .int .i64 x.r, .slice (some ⟨b, off, none⟩) x.ch.length cap, .int .u32 x.sp, .int .i64 x.wt, .int .u32 x.er] 25)) w.heap.size x (.slice (some ⟨b, off, none⟩) x.ch.length cap) := by
      constructor <;> simp [go_sem]
    have hbW : Below w.heap.size w (w.alloc (.cells #[.int .i64 x.n, .int .u32 x.p, .int .i64 x.r, .slice (some ⟨b, off, none⟩) x.ch.length cap, .int .u32 x.sp, .int .i64 x.wt, .int .u32 x.er] 25)) := (Below.refl _ _).alloc (Nat.le_refl _) _
    have hsW : w.heap.size < (w.alloc (.cells #[.int .i64 x.n, .int .u32 x.p, .int .i64 x.r, .slice (some ⟨b, off, none⟩) x.ch.length cap, .int .u32 x.sp, .int .i64 x.wt, .int .u32 x.er] 25)).heap.size := by simp
    generalize w.alloc (.cells #[.int .i64 x.n, .int .u32 x.p, .int .i64 x.r, .slice (some ⟨b, off, none⟩) x.ch.length cap, .int .u32 x.sp, .int .i64 x.wt, .int .u32 x.er] 25) = W at hB hbW hsW ⊢
    have hrW := hr.below hbW hr.blk
    have HB := Lib.hid hB
    clear hB
    go_loopw [4, 5] (fun vi _ wr => ∃ i : Nat, vi = .int .i64 i ∧ i ≤ x.ch.length ∧ Hid (∀ j (hj : j < i) (hj2 : j < x.ch.length), badB rPrime ((2 * x.n).toNat * t) x.sp x.ch[j] = false) ∧ Hid ((x.ch.take i).Nodup) ∧ Below W.heap.size W wr) (fun vi _ _ => x.ch.length - (intOf vi).toNat)
    case atStart => exact ⟨0, rfl, by omega, by intro j hj; omega, by simp [Hid], Below.refl _ _⟩
    case round =>
      obtain ⟨i, rfl, hi, hgd, hnd, hbel⟩ := hrel
      have hB := HB.out.below hbel hsW
      have k0 := hB.n
      have k3 := hB.ch
      have k4 := hB.sp
      clear hB
      by_cases hlt : i < x.ch.length
      · have hq := hr.rng x.ch[i] (List.getElem_mem hlt)
        have hci := (hrW.below hbel hrW.blk).cell i hlt
        obtain ⟨q, hqe⟩ : ∃ q, q = x.ch[i] := ⟨_, rfl⟩
        rw [← hqe] at hq hci
        have HQ := Lib.hid hqe
        clear hqe
        have i0 : (0 : Int) ≤ i := by omega
        have i1 : (i : Int) < x.ch.length := by omega
        cases hg : goodS rPrime ((2 * x.n).toNat * t) q with
        | false =>
          have hR : Hid (chk rPrime x = 2) := okB_no (by
            right; right; right; right; right; left
            exact ⟨x.ch[i], List.getElem_mem hlt, by rw [hst.out, ← HQ.out]; unfold badB; rw [hg]; simp⟩)
          go_wp2_with fail
          go_quiet ((go_at_call 70; exact Calls.quiet_of_same (rgood_quiet _ _ _ _ hn4 hn32 tpos htl hq)))
          go_wp2_with fail
          go_ret
          exact ⟨ret_int (by rw [hR.out]), hbW.trans ((below_drewN hbel _).mono (by omega))⟩
        | true =>
          by_cases hsp : q < x.sp
          case neg =>
            have s1 : decide ((x.sp : Int) ≤ q) = true := decide_eq_true (by omega)
            have s2 : decide (x.sp ≤ q) = true := decide_eq_true (by omega)
            have hR : Hid (chk rPrime x = 2) := okB_no (by
              right; right; right; right; right; left
              exact ⟨x.ch[i], List.getElem_mem hlt, by rw [← HQ.out]; unfold badB; rw [decide_eq_false hsp]; simp⟩)
            go_wp2_with fail
            go_quiet ((go_at_call 70; exact Calls.quiet_of_same (rgood_quiet _ _ _ _ hn4 hn32 tpos htl hq)))
            go_wp2_with fail
            go_ret
            exact ⟨ret_int (by rw [hR.out]), hbW.trans ((below_drewN hbel _).mono (by omega))⟩
          have s1 : decide ((x.sp : Int) ≤ q) = false := decide_eq_false (by omega)
          have s2 : decide (x.sp ≤ q) = false := decide_eq_false (by omega)
          have hgd' : Hid (∀ j (hj : j < i + 1) (hj2 : j < x.ch.length), badB rPrime ((2 * x.n).toNat * t) x.sp x.ch[j] = false) := by
            intro j hj hj2
            by_cases e : j = i
            · subst e; rw [← HQ.out]; unfold badB; rw [hg, decide_eq_true hsp]; rfl
            · exact hgd.out j (by omega) hj2
          clear hgd
          go_wp2_with fail
          go_quiet ((go_at_call 70; exact Calls.quiet_of_same (rgood_quiet _ _ _ _ hn4 hn32 tpos htl hq)))
          go_wp2_with fail
          have hbel2 := below_drewN hbel nq
          clear hbel hg
          generalize wr.drewN nq = wr2 at hbel2 ⊢
          go_loopw [5] (fun vk w2 => ∃ k : Nat, vk = .int .i64 k ∧ k ≤ i ∧ Hid (∀ j (hj : j < k) (hj2 : j < x.ch.length), x.ch[j] ≠ q) ∧ Below W.heap.size W w2) (fun vk _ => i - (intOf vk).toNat)
          case atStart => exact ⟨0, rfl, by omega, by intro j hj; omega, hbel2⟩
          case round =>
            obtain ⟨k, rfl, hk, hne, hbel3⟩ := hrel
            have hB3 := HB.out.below hbel3 hsW
            have j3 := hB3.ch
            clear hB3
            by_cases hlk : k < i
            · have hck := (hrW.below hbel3 hrW.blk).cell k (by omega)
              have hci3 := (hrW.below hbel3 hrW.blk).cell i (by omega)
              rw [← HQ.out] at hci3
              obtain ⟨qk, hqk⟩ : ∃ q, q = x.ch[k] := ⟨_, rfl⟩
              rw [← hqk] at hck
              have HQK := Lib.hid hqk
              clear hqk
              have k0 : (0 : Int) ≤ k := by omega
              have k1 : (k : Int) < x.ch.length := by omega
              by_cases he : qk = q
              · have e1 : ((qk : Int) == (q : Int)) = true := beq_iff_eq.2 (by omega)
                have hR : Hid (chk rPrime x = 2) := okB_no (by
                  right; right; right; right; right; right
                  exact dup_no hlt hlk (by rw [← HQK.out, ← HQ.out]; exact he))
                clear he
                go_wp2_with fail
                go_quiet (fail)
                go_wp2_with fail
                go_ret
                exact ⟨ret_int (by rw [hR.out]), hbW.trans ((below_drewN hbel3 _).mono (by omega))⟩
              · have e1 : ((qk : Int) == (q : Int)) = false := beq_eq_false_iff_ne.2 (by omega)
                have hne' : Hid (∀ j (hj : j < k + 1) (hj2 : j < x.ch.length), x.ch[j] ≠ q) := by
                  intro j hj hj2
                  by_cases e : j = k
                  · subst e; rw [← HQK.out]; exact he
                  · exact hne.out j (by omega) hj2
                clear hne he
                go_wp2_with fail
                go_quiet (fail)
                go_wp2_with fail
                go_roundw
                case rel => exact ⟨k + 1, by go_num, by omega, hne', below_drewN hbel3 _⟩
                case measure => simp [intOf]; omega
            · have hnd' : Hid ((x.ch.take (i + 1)).Nodup) := nodup_snoc hlt hnd.out (fun j hj => by rw [← HQ.out]; exact hne.out j (by omega) (by omega))
              clear hnd hne
              go_wp2_with fail
              go_roundw
              case rel => exact ⟨i + 1, by go_num, by omega, hgd', hnd', hbel3⟩
              case measure => simp [intOf]; omega
      · obtain rfl : i = x.ch.length := by omega
        have hR : Hid (chk rPrime x = 0) := okB_yes hd HL.out HW.out htp.out (by rw [hst.out]; exact HG.out) (by
            intro q hq
            obtain ⟨j, hj, rfl⟩ := List.mem_iff_getElem.1 hq
            rw [hst.out]; exact hgd.out j hj hj) (by have := hnd.out; rwa [List.take_length] at this)
        clear hgd hnd
        go_wp2_with fail
        go_ret
        exact ⟨ret_int (by rw [hR.out]), hbW.trans (hbel.mono (by omega))⟩

theorem rcheck_any (x : Par) (cv : Value) (w : World) (hx : ParOk x) (hcv : SliceAt w cv x.ch) :
    Calls Tryz.prog 28 #[x.val cv] w fun r w' => r = .returned (.int .i64 (chk rPrime x)) ∧ Below w.heap.size w w' := by
  obtain ⟨p, cap, rfl, hcap, hcap2, hrow⟩ := hcv
  cases hd : isDim x.n with
  | false => exact rcheck_early x p cap w (.inl hd)
  | true =>
    cases hl : lenB x.ch.length with
    | false => exact rcheck_early x p cap w (.inr (.inl hl))
    | true =>
      cases hw : wtB x with
      | false => exact rcheck_early x p cap w (.inr (.inr hw))
      | true =>
        have hne : x.ch ≠ [] := by
          intro h
          have := of_decide_eq_true hl
          rw [h] at this
          simp at this
        obtain ⟨b, off, rfl, hr⟩ := hrow hne
        exact rcheck_late x b off cap w hx hr hd hl hw
end Go.Proofs.YtjpcljnojipdnaaGreat
