/- The reference's wide layer: Valid, Mul. -/
import Derived.Test.YtjfjbkocopaehaaWidI
namespace Go.Proofs.Ytjfjbkocopaehaa
open Go.RowKit
set_option linter.unusedVariables false

set_option maxHeartbeats 1000000 in
theorem rvalid_any (v n : Nat) (w : World) (hv : ND 256 v n) (hn : n ≤ 256) :
    Calls Try.prog 93 #[.agg #[.bool false, .string (beS v n)]] w fun e w' => e = .returned (.bool true) ∧ Below w.heap.size w w' := by
  rcases Nat.eq_zero_or_pos n with rfl | hpos
  · rw [beS_zero]
    go_enter Try.func93, Try.ntmps93
    go_wp2_with fail
    go_ret
    exact ⟨rfl, (Below.refl _ _).alloc (Nat.le_refl _) _⟩
  · have hne := beS_ne (v := v) hpos
    have hsz := beS_size v n
    have h0 : ((beS v n)[0]'(by rw [hsz]; exact hpos)).toNat = dig 256 v (n - 1 - 0) := beS_at v n 0 (by rw [hsz]; exact hpos)
    have htop : dig 256 v (n - 1) ≠ 0 := by
      intro h
      have h1 := dig_zero (B := 256) (n := n - 1) (by decide) (by rw [Nat.sub_add_cancel hpos]; exact hv.1) h
      rcases hv.2 with h2 | h2 <;> omega
    obtain ⟨S, hS⟩ : ∃ S, beS v n = S := ⟨_, rfl⟩
    have hb : ∃ (h : 0 < S.size), (S[0]).toNat ≠ 0 := by
      subst hS
      exact ⟨by rw [hsz]; exact hpos, by rw [h0]; simpa using htop⟩
    rw [hS] at hne hsz ⊢
    obtain ⟨hp, hb⟩ := hb
    have HB := Lib.hid hb
    have HNE := Lib.hid hne
    have hle : S.size ≤ 256 := by omega
    clear hS h0 htop hv hsz hb hne hn hpos
    have e1 : (((S[0]).toNat : Int) != 0) = true := by rw [bne_iff_ne]; have := HB.out; omega
    have e3 : S.toList.isEmpty = false := by
      rw [ByteArray.toList_eq]
      cases h : S.data.toList with
      | nil => exact absurd h HNE.out
      | cons _ _ => rfl
    have e4 : decide ((S.size : Int) ≤ 256) = true := decide_eq_true (by omega)
    go_enter Try.func93, Try.ntmps93
    go_wp2_with fail
    go_ret
    exact ⟨rfl, (Below.refl _ _).alloc (Nat.le_refl _) _⟩

theorem nd_len {B v k M : Nat} (hB : 0 < B) (h : ND B v k) (hv : v < B ^ M) : k ≤ M := by
  rcases h.2 with h1 | h1
  · omega
  · apply Classical.byContradiction
    intro hk
    have : B ^ M ≤ B ^ (k - 1) := Nat.pow_le_pow_right hB (by omega)
    omega
theorem bytes_halves {v n : Nat} (h : v < 256 ^ n) : v < HW ^ ((n + 1) / 2) := by
  rw [HW_pow]; exact Nat.lt_of_lt_of_le h (Nat.pow_le_pow_right (by decide) (by omega))
theorem row_drew {W : World} {b o : Nat} {l : List Nat} (h : RowAt W b o l) : RowAt W.drew b o l := h.below (Below.refl _ _).drew h.blk
theorem rin_st {w W : World} {v n u m v' n' : Nat} (h : MuB w W v n u m) (hv : v' < 256 ^ n') (hn : n' ≤ 256) :
    Calls Try.prog 95 #[.agg #[.bool false, .string (beS v' n')]] W fun e w' => (∃ pv, e = .returned (.agg #[.bool false, pv]) ∧ SliceAt w' pv (digs HW v' ((n' + 1) / 2))) ∧ MuB w w' v n u m ∧ Below W.heap.size W w' :=
  (rin_any v' n' W hv hn).mono fun e w' ⟨h1, hb⟩ => ⟨h1, h.below hb, hb⟩
theorem rmul_st {w W : World} {v n u m k1 k2 : Nat} {p1 p2 : Value} (h : MuB w W v n u m) (h1 : SliceAt W p1 (digs HW v k1)) (h2 : SliceAt W p2 (digs HW u k2)) (hv : v < HW ^ k1) (hu : u < HW ^ k2) (l1 : k1 ≤ 256) (l2 : k2 ≤ 256) (hp : 0 < v * u) (h0 : 0 < k1 + k2) :
    Calls Try.prog 94 #[.agg #[.bool false, p1], .agg #[.bool false, p2]] W fun e w' => (∃ g k c, e = .returned (.agg #[.bool false, .slice (some ⟨g, 0, none⟩) k c]) ∧ ND HW (v * u) k ∧ k ≤ c ∧ RowAt w' g 0 (digs HW (v * u) k)) ∧ MuB w w' v n u m :=
  (rmul_any v u k1 k2 p1 p2 W h1 h2 hv hu l1 l2 hp h0).mono fun e w' ⟨h1, hb⟩ => ⟨h1, h.below hb⟩
theorem rout_st {w W : World} {v n u m z k g c : Nat} (h : MuB w W v n u m) (hr : RowAt W g 0 (digs HW z k)) (hnd : ND HW z k) (hkc : k ≤ c) (hk : k ≤ 1000) (hpos : 0 < z) (h256 : z < 256 ^ 256) :
    Calls Try.prog 92 #[.agg #[.bool false, .slice (some ⟨g, 0, none⟩) k c]] W fun e w' => (∃ n, e = .returned (.tuple #[.agg #[.bool false, .string (beS z n)], .int .i64 0]) ∧ ND 256 z n) ∧ MuB w w' v n u m :=
  (rout_any z k g c W hr hnd hkc hk hpos h256).mono fun e w' ⟨h1, hb⟩ => ⟨h1, h.below hb⟩

set_option maxHeartbeats 4000000 in
set_option maxRecDepth 100000 in
theorem rMul_any (v n u m : Nat) (w : World) (hv : ND 256 v n) (hn : n ≤ 256) (hu : ND 256 u m) (hm : m ≤ 256) (hpos : 0 < v * u) (h256 : v * u < 256 ^ 256) :
    Calls Try.prog 62 #[.agg #[.bool false, .string (beS v n)], .agg #[.bool false, .string (beS u m)]] w fun e w' => (∃ k, e = .returned (.tuple #[.agg #[.bool false, .string (beS (v * u) k)], .int .i64 0]) ∧ ND 256 (v * u) k) ∧ Below w.heap.size w w' := by
  have HV := Lib.hid hv; have HU := Lib.hid hu; have H256 := Lib.hid h256; have HPV := Lib.hid hpos
  have H128 : Hid (v * u < HW ^ 128) := bytes_halves h256
  have HN0 : 0 < n := hv.pos (Nat.pos_of_mul_pos_right hpos)
  clear hv hu h256 hpos
  have hW : MuB w (((w.alloc (.cells #[.bool false, .string (beS v n)] 69)).alloc (.cells #[.bool false, .string (beS u m)] 69)).alloc (.cells #[.bool false, .string ⟨#[]⟩] 69)) v n u m := by
    refine ⟨by simp [go_sem], by simp [go_sem], by simp [go_sem], by simp [go_sem], ?_, (((Below.refl _ _).alloc (Nat.le_refl _) _).alloc (by simp) _).alloc (by simp; omega) _⟩
    have h := (Blk.new ((w.alloc (.cells #[.bool false, .string (beS v n)] 69)).alloc (.cells #[.bool false, .string (beS u m)] 69)) #[.bool false, .string ⟨#[]⟩] 69)
    simpa using h
  have HW0 := Lib.hid hW
  clear hW
  go_enter Try.func62, Try.ntmps62
  go_wp2_with fail
  refine (rvalid_any v n _ HV.out hn).mono ?_
  rintro e w1 ⟨rfl, hb1⟩
  have HH := Lib.hid (HW0.out.below hb1)
  clear hb1 HW0
  have y2 := HH.out.b0; have y3 := HH.out.b1
  go_wp2_with (go_at_call 93; refine (rvalid_any u m _ HU.out hm).mono ?_; rintro e w1 ⟨rfl, hb1⟩; have HH := Lib.hid (HH.out.below hb1); clear hb1 y2 y3)
  have y0 := HH.out.a0; have y1 := HH.out.a1; have y2 := HH.out.b0; have y3 := HH.out.b1; have r0 := HH.out.r0; have r1 := HH.out.r1; have q0 := HH.out.r.free 0; have q1 := HH.out.r.free 1
  have ne1 : ¬ (w.heap.size + 1 + 1 = w.heap.size) := by omega
  have ne2 : ¬ (w.heap.size = w.heap.size + 1 + 1) := by omega
  go_region_held3 (fun w' => w'.cell? ⟨w.heap.size, 0, none⟩ = some (.bool false) ∧ w'.cell? ⟨w.heap.size, 1, none⟩ = some (.string (beS v n)) ∧ w'.cell? ⟨w.heap.size + 1, 0, none⟩ = some (.bool false) ∧ w'.cell? ⟨w.heap.size + 1, 1, none⟩ = some (.string (beS u m))) (go_keep)
    (first
      | (go_at_call 94; (with_reducible refine (rmul_st (by first | exact HH.out | exact HH.out.drew) (by first | exact HSA.out | exact slice_drew HSA.out) (by first | exact HSB.out | exact slice_drew HSB.out) (bytes_halves HV.out.lt) (bytes_halves HU.out.lt) HLA.out HLB.out HPV.out HPA.out).mono ?_); rintro e W3 ⟨⟨g3, k3, c3, rfl, hn3, hc3, hs3⟩, h3⟩; have HH := Lib.hid h3; have HSC := Lib.hid hs3; have HNC := Lib.hid hn3; have HCC := Lib.hid hc3; have HKC := Lib.hid (show k3 ≤ 1000 by have := nd_len (by decide) hn3 H128.out; omega); clear h3 hs3 hn3 hc3; have y0 := HH.out.a0; have y1 := HH.out.a1; have y2 := HH.out.b0; have y3 := HH.out.b1; have r0 := HH.out.r0; have r1 := HH.out.r1; have q0 := HH.out.r.free 0; have q1 := HH.out.r.free 1)
      | (go_at_call 92; (with_reducible refine (rout_st (by first | exact HH.out | exact HH.out.drew) (by first | exact HSC.out | exact row_drew HSC.out) HNC.out HCC.out HKC.out HPV.out H256.out).mono ?_); rintro e W3 ⟨⟨k4, rfl, hn4⟩, h3⟩; have HH := Lib.hid h3; have HND := Lib.hid hn4; clear h3 hn4; have y0 := HH.out.a0; have y1 := HH.out.a1; have y2 := HH.out.b0; have y3 := HH.out.b1; have r0 := HH.out.r0; have r1 := HH.out.r1; have q0 := HH.out.r.free 0; have q1 := HH.out.r.free 1)
      | (go_at_call 95; (with_reducible refine (rin_st (v' := v) (n' := n) (by first | exact HH.out | exact HH.out.drew) HV.out.lt hn).mono ?_); rintro e W3 ⟨⟨pv1, rfl, hs1⟩, h3, _⟩; have HH := Lib.hid h3; have HSA := Lib.hid hs1; have HLA := Lib.hid (show (n + 1) / 2 ≤ 256 by omega); clear h3 hs1; have y0 := HH.out.a0; have y1 := HH.out.a1; have y2 := HH.out.b0; have y3 := HH.out.b1; have r0 := HH.out.r0; have r1 := HH.out.r1; have q0 := HH.out.r.free 0; have q1 := HH.out.r.free 1)
      | (go_at_call 95; (with_reducible refine (rin_st (v' := u) (n' := m) (by first | exact HH.out | exact HH.out.drew) HU.out.lt hm).mono ?_); rintro e W3 ⟨⟨pv2, rfl, hs2⟩, h3, hbb⟩; have HH := Lib.hid h3; have HSB := Lib.hid hs2; have HLB := Lib.hid (show (m + 1) / 2 ≤ 256 by omega); have HSA := Lib.hid (SliceAt.below (by first | exact HSA.out | exact slice_drew HSA.out) hbb); have HPA := Lib.hid (show 0 < (n + 1) / 2 + (m + 1) / 2 by omega); clear h3 hs2 hbb; have y0 := HH.out.a0; have y1 := HH.out.a1; have y2 := HH.out.b0; have y3 := HH.out.b1; have r0 := HH.out.r0; have r1 := HH.out.r1; have q0 := HH.out.r.free 0; have q1 := HH.out.r.free 1))
  all_goals
    have hZ : Blk ((W3.setCell ⟨w.heap.size + 1 + 1, 0, none⟩ (.bool false)).setCell ⟨w.heap.size + 1 + 1, 1, none⟩ (.string (beS (v * u) k4))) (w.heap.size + 1 + 1) [.bool false, .string (beS (v * u) k4)] 69 := (HH.out.r.set 0 (.bool false)).set 1 (.string (beS (v * u) k4))
    have z0 := hZ.cell 0 (by simp)
    have z1 := hZ.cell 1 (by simp)
    simp only [List.getElem_cons_zero, List.getElem_cons_succ] at z0 z1
    have HBF := Lib.hid ((HH.out.bel.setCell (p := ⟨w.heap.size + 1 + 1, 0, none⟩) (by show w.heap.size ≤ w.heap.size + 1 + 1; omega) (.bool false)).setCell (p := ⟨w.heap.size + 1 + 1, 1, none⟩) (by show w.heap.size ≤ w.heap.size + 1 + 1; omega) (.string (beS (v * u) k4)))
    go_wp2_with fail
    refine bodyPost_ret (v := .tuple #[.agg #[.bool false, .string (beS (v * u) k4)], .int .i64 0]) (by simp [results, Try.results62, go_sem, z0, z1]) rfl ⟨⟨k4, rfl, HND.out⟩, HBF.out⟩
end Go.Proofs.Ytjfjbkocopaehaa
