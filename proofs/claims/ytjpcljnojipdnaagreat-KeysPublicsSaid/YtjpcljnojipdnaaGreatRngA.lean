/- ring: modulus, valid, place, at valid parameters. -/
import Derived.Test.YtjpcljnojipdnaaGreatKeyX
import Derived.Test.YtjpcljnojipdnaaGreatShelfB
import Derived.Deep.QuietTactic
import Derived.BigQuiet
namespace Go.Proofs.YtjpcljnojipdnaaGreat
open Go.RowKit

/-- What valid parameters' primes are. -/
structure Good (x : Par) : Prop where
  dim : isDim x.n = true
  l1 : 1 ≤ x.ch.length
  l2 : x.ch.length ≤ 24
  ch : ∀ q, q ∈ x.ch → 1073741824 < q ∧ q ≤ 2147483647 ∧ q % 2 = 1 ∧ q < x.sp
  sp : 1073741824 < x.sp ∧ x.sp ≤ 2147483647 ∧ x.sp % 2 = 1
  nd : x.ch.Nodup
theorem good_of {pr : Nat → Bool} {x : Par} (h : okB pr x = true) : Good x := by
  unfold okB at h
  simp only [Bool.and_eq_true] at h
  obtain ⟨h1, h2, h3, _, h5, h6, h7⟩ := h
  unfold lenB at h3
  rw [decide_eq_true_eq] at h2 h3 h7
  have hodd : ∀ q, goodS pr (stepOf pr x) q = true → 1073741824 < q ∧ q ≤ 2147483647 ∧ q % 2 = 1 := by
    intro q hq
    unfold goodS at hq
    simp only [Bool.and_eq_true, decide_eq_true_eq] at hq
    refine ⟨hq.1, hq.2.1, ?_⟩
    have e := hq.2.2.1
    have hs : ∃ m, stepOf pr x = 2 * m := ⟨x.n.toNat * x.t pr, by
      unfold stepOf
      have := isDim_cases h1
      rw [show (2 * x.n).toNat = 2 * x.n.toNat by omega, Nat.mul_assoc]⟩
    obtain ⟨m, hm⟩ := hs
    have h8 := Nat.div_add_mod q (stepOf pr x)
    rw [e, hm, Nat.mul_assoc] at h8
    omega
  refine ⟨h1, h3.1, h3.2, fun q hq => ?_, hodd _ h5, h7⟩
  have hb : badB pr (stepOf pr x) x.sp q = false := by
    cases hbb : badB pr (stepOf pr x) x.sp q with
    | false => rfl
    | true =>
      have : x.ch.any (badB pr (stepOf pr x) x.sp) = true := List.any_eq_true.2 ⟨q, hq, hbb⟩
      rw [this] at h6; cases h6
  unfold badB at hb
  simp only [Bool.not_eq_false', Bool.and_eq_true, decide_eq_true_eq] at hb
  have := hodd q hb.2
  exact ⟨this.1, this.2.1, this.2.2, hb.1⟩

theorem rmodulus_yes (q : Nat) (w : World) (h1 : 3 ≤ q) (h2 : q ≤ 2147483647) (h3 : q % 2 = 1) :
    Calls Tryz.prog 131 #[.int .u32 q] w fun r w' => r = .returned (.bool true) ∧ w' = w := by
  have d1 : decide ((3 : Int) ≤ (q : Int)) = true := decide_eq_true (by omega)
  have d2 : decide ((q : Int) ≤ 2147483647) = true := decide_eq_true (by omega)
  have d3 : ((q : Int) % 2 == 1) = true := beq_iff_eq.2 (by omega)
  go_enter Tryz.func131, Tryz.ntmps131
  go_wp2_with fail
  go_ret
  exact ⟨rfl, rfl⟩
theorem contains_no (b off n cap v : Nat) (l : List Nat) (w : World) (hl : RowAt w b off l) (hn : n ≤ l.length) (hbig : n ≤ 9223372036854775807) (hv : v ∉ l.take n) :
    Calls Tryz.prog 132 #[.slice (some ⟨b, off, none⟩) n cap, .int .u32 v] w fun r w' => r = .returned (.bool false) ∧ w' = w := by
  refine (Tryz.slices_Contains (Value.int .u32) (fun x y => decide (x = y)) (EqlAt.intD _ _ _) b off n cap (l.map Int.ofNat) (v : Int) w (by simpa using hn) hbig (fun j hj => ?_)).mono ?_
  · have hj' : j < l.length := by simpa using hj
    rw [hl.cell j hj', getElem!_pos (l.map Int.ofNat) j hj, List.getElem_map]; rfl
  · rintro r w' ⟨rfl, rfl⟩
    refine ⟨ret_bool ?_, rfl⟩
    rw [List.any_eq_false]
    intro z hz
    rw [← List.map_take] at hz
    obtain ⟨y, hy, rfl⟩ := List.mem_map.1 hz
    simp only [decide_eq_true_eq]
    intro e
    have : v = y := by have : (v : Int) = (y : Int) := e; omega
    exact hv (this ▸ hy)
theorem nodup_take {l : List Nat} {i : Nat} (h : l.Nodup) (hi : i < l.length) : l[i] ∉ l.take i := by
  intro hm
  obtain ⟨j, hj, e⟩ := List.getElem_of_mem hm
  rw [List.length_take] at hj
  rw [List.getElem_take] at e
  exact List.pairwise_iff_getElem.1 h j i (by omega) hi (by omega) e

set_option maxHeartbeats 2000000 in
set_option maxRecDepth 100000 in
theorem rvalid_yes (x : Par) (cv : Value) (g : Nat) (w : World) (hx : Good x) (hx2 : ParOk x) (hB : BoxP w g x cv) (hcv : SliceAt w cv x.ch) :
    Calls Tryz.prog 82 #[.pointer (some ⟨g, 0, none⟩)] w fun r w' => r = .returned (.bool true) ∧ ∃ n, w' = w.drewN n := by
  obtain ⟨p, cap, rfl, hc1, hc2, hrow⟩ := hcv
  have hL1 := hx.l1
  have hL2 := hx.l2
  obtain ⟨b, off, rfl, hr⟩ := hrow (by intro e; rw [e] at hL1; simp at hL1)
  have hsp := hx.sp
  have hs1 := hx2.sp1
  have y0 := hB.n; have y3 := hB.ch; have y4 := hB.sp
  have HR := Lib.hid hr; have HG := Lib.hid hx
  have d1 : decide ((x.ch.length : Int) < 1) = false := decide_eq_false (by omega)
  have d2 : decide ((24 : Int) < (x.ch.length : Int)) = false := decide_eq_false (by omega)
  have d3 : ((x.sp : Int) != 0) = true := by rw [bne_iff_ne]; omega
  have M1 := Lib.hid (fun W => rmodulus_yes x.sp W (by omega) hsp.2.1 hsp.2.2)
  have C1 := Lib.hid (fun W (h : RowAt W b off x.ch) => contains_no b off x.ch.length cap x.sp x.ch W h (Nat.le_refl _) (by omega) (by rw [List.take_length]; intro hm; have := (hx.ch _ hm).2.2.2; omega))
  have hdm := isDim_cases hx.dim
  clear hr hrow hx hB hsp
  rcases hdm with h | h | h | h
  all_goals
    rw [h] at y0
    clear h
    go_enter Tryz.func82, Tryz.ntmps82
    go_wp2_with fail
    go_quiet ((first | (go_at_call 131; exact Calls.quiet_of_same (M1.out _)) | (go_at_call 132; exact Calls.quiet_of_same (C1.out _ (HR.out.below (below_drewN (Below.refl _ _) _) HR.out.blk)))))
    go_wp2_with fail
    go_loop [59] (fun vi => ∃ i : Nat, vi = .int .i64 i ∧ i ≤ x.ch.length) (fun vi => x.ch.length - (intOf vi).toNat)
    case atStart => exact ⟨0, rfl, by omega⟩
    case round =>
      obtain ⟨i, rfl, hi⟩ := hrel
      by_cases hlt : i < x.ch.length
      · have xq := HR.out.cell i hlt
        have hq := HG.out.ch _ (List.getElem_mem hlt)
        have hnd := nodup_take HG.out.nd hlt
        obtain ⟨q, hqq⟩ : ∃ q, x.ch[i] = q := ⟨_, rfl⟩
        rw [hqq] at xq hq hnd
        have C2 := Lib.hid (fun W (h : RowAt W b off x.ch) => contains_no b off i cap q x.ch W h (by omega) (by omega) hnd)
        have M2 := Lib.hid (fun W => rmodulus_yes q W (by omega) hq.2.1 hq.2.2.1)
        have i0 : (0 : Int) ≤ (i : Int) := by omega
        have i1 : (i : Int) < (x.ch.length : Int) := by omega
        have i2 : i ≤ cap := by omega
        have i3 : (i : Int) ≤ (cap : Int) := by omega
        clear hqq hnd hq
        go_wp2_with (first | (go_at_call 131; refine (M2.out _).mono ?_; rintro e w' ⟨rfl, rfl⟩) | (go_at_call 132; refine (C2.out _ (HR.out.below (below_drewN (Below.refl _ _) _) HR.out.blk)).mono ?_; rintro e w' ⟨rfl, rfl⟩))
        exact ⟨⟨i + 1, by go_num, by omega⟩, by simp [intOf]; omega⟩
      · have i1 : ¬ ((i : Int) < (x.ch.length : Int)) := by omega
        go_wp2_with fail
        go_ret
        exact ⟨rfl, _, rfl⟩

theorem rplace_any (x : Par) (cv : Value) (g : Nat) (lv : Int) (sp : Bool) (w : World) (hx : Good x) (hB : BoxP w g x cv) (hcv : SliceAt w cv x.ch) :
    Calls Tryz.prog 83 #[.pointer (some ⟨g, 0, none⟩), .int .i64 lv, .bool sp] w fun r w' => r = .returned (.bool (decide (1 ≤ lv) && decide (lv ≤ x.ch.length))) ∧ ∃ n, w' = w.drewN n := by
  obtain ⟨p, cap, rfl, hc1, hc2, hrow⟩ := hcv
  have hsp := hx.sp
  have y3 := hB.ch; have y4 := hB.sp
  have d3 : ((x.sp : Int) != 0) = true := by rw [bne_iff_ne]; omega
  have hL2 := hx.l2
  clear hrow hx hB hsp
  by_cases h1 : 1 ≤ lv
  · by_cases h2 : lv ≤ x.ch.length
    · have e1 : decide (1 ≤ lv) = true := decide_eq_true h1
      have e2 : decide (lv ≤ (x.ch.length : Int)) = true := decide_eq_true h2
      have hR : Hid ((decide (1 ≤ lv) && decide (lv ≤ (x.ch.length : Int))) = true) := by show _ = _; rw [e1, e2]; rfl
      cases sp
      all_goals
        go_enter Tryz.func83, Tryz.ntmps83
        go_wp2_with fail
        go_ret
        exact ⟨ret_bool (by first | exact hR.out.symm | rfl), 0, rfl⟩
    · have e1 : decide (1 ≤ lv) = true := decide_eq_true h1
      have e2 : decide (lv ≤ (x.ch.length : Int)) = false := decide_eq_false h2
      have hR : Hid ((decide (1 ≤ lv) && decide (lv ≤ (x.ch.length : Int))) = false) := by show _ = _; rw [e1, e2]; rfl
      go_enter Tryz.func83, Tryz.ntmps83
      go_wp2_with fail
      go_ret
      exact ⟨ret_bool (by first | exact hR.out.symm | rfl), 0, rfl⟩
  · have e1 : decide (1 ≤ lv) = false := decide_eq_false h1
    have hR : Hid ((decide (1 ≤ lv) && decide (lv ≤ (x.ch.length : Int))) = false) := by show _ = _; rw [e1]; rfl
    go_enter Tryz.func83, Tryz.ntmps83
    go_wp2_with fail
    go_ret
    exact ⟨ret_bool (by first | exact hR.out.symm | rfl), 0, rfl⟩
end Go.Proofs.YtjpcljnojipdnaaGreat
