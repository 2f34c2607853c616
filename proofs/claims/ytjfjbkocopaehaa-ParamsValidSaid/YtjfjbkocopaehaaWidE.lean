/- The wide layer: Of, Mul, at numbers from 0 on. -/
import Derived.Test.YtjfjbkocopaehaaWidD
import Derived.Deep.RegionHeld3
namespace Go.Proofs.Ytjfjbkocopaehaa
open Go.RowKit
set_option linter.unusedVariables false

theorem digs_two (v : Nat) (h : v < WB ^ 2) : digs WB v 2 = [v % 4294967296, v / 4294967296] := by
  have e0 : dig WB v 0 = v % 4294967296 := by unfold dig; simp [WB]
  have e1 : dig WB v 1 = v / 4294967296 := by
    unfold dig
    rw [Nat.pow_one]
    have : v / WB < WB := Nat.div_lt_of_lt_mul (by rw [Nat.pow_two] at h; exact h)
    rw [Nat.mod_eq_of_lt this]; rfl
  show [dig WB v 0, dig WB v 1] = _
  rw [e0, e1]

set_option maxHeartbeats 2000000 in
set_option maxRecDepth 100000 in
theorem wOf_any (v : Nat) (w : World) (hv : v < 9223372036854775808) :
    Calls Try.prog 59 #[.int .i64 v] w fun e w' => (∃ n, e = .returned (.agg #[.bool false, .string (beS v n)]) ∧ ND 256 v n) ∧ Below w.heap.size w w' := by
  have HV : Hid (v < WB ^ 2) := by show v < WB ^ 2; rw [show WB ^ 2 = 18446744073709551616 from rfl]; omega
  have HV2 : Hid (v < 256 ^ 256) := by
    have : (256 : Nat) ^ 8 ≤ 256 ^ 256 := Nat.pow_le_pow_right (by decide) (by decide)
    have h8 : (256 : Nat) ^ 8 = 18446744073709551616 := by decide
    show v < 256 ^ 256
    omega
  have HV0 := Lib.hid hv
  have e1 : IntKind.u64.wrap (v : Int) = (v : Int) := by rw [IntKind.wrap_u64]; omega
  have e2 : decide ((v : Int) < 0) = false := decide_eq_false (by omega)
  clear hv
  go_enter Try.func59, Try.ntmps59
  go_wp2_with fail
  have em1 : (v : Int) % 4294967296 = ((v % 4294967296 : Nat) : Int) := by omega
  have em2 : (v : Int) / 4294967296 % 4294967296 = ((v / 4294967296 : Nat) : Int) := by have := HV0.out; omega
  rw [em1, em2]
  have hk : Blk ((w.alloc (.cells #[.bool false, .string ⟨#[]⟩] 69)).alloc (.cells #[.int .u32 (v % 4294967296 : Nat), .int .u32 (v / 4294967296 : Nat)] 22)) (w.heap.size + 1) (u32s (digs WB v 2)) 22 := by
    have h := Blk.new (w.alloc (.cells #[.bool false, .string ⟨#[]⟩] 69)) #[.int .u32 (v % 4294967296 : Nat), .int .u32 (v / 4294967296 : Nat)] 22
    rw [digs_two v HV.out]
    simpa [u32s] using h
  have hx : Blk ((w.alloc (.cells #[.bool false, .string ⟨#[]⟩] 69)).alloc (.cells #[.int .u32 (v % 4294967296 : Nat), .int .u32 (v / 4294967296 : Nat)] 22)) w.heap.size [.bool false, .string ⟨#[]⟩] 69 := (Blk.new w #[.bool false, .string ⟨#[]⟩] 69).alloc _
  have hb : Below w.heap.size w ((w.alloc (.cells #[.bool false, .string ⟨#[]⟩] 69)).alloc (.cells #[.int .u32 (v % 4294967296 : Nat), .int .u32 (v / 4294967296 : Nat)] 22)) := ((Below.refl _ _).alloc (Nat.le_refl _) _).alloc (by simp) _
  have HK := Lib.hid hk; have HX := Lib.hid hx; have HB := Lib.hid hb
  clear hk hx hb e1 e2 em1 em2
  generalize ((w.alloc (.cells #[.bool false, .string ⟨#[]⟩] 69)).alloc (.cells #[.int .u32 (v % 4294967296 : Nat), .int .u32 (v / 4294967296 : Nat)] 22)) = W at HK HX HB ⊢
  refine (form_any v 2 (w.heap.size + 1) 0 2 _ (fun _ => RowAt.ofBlk HK.out (digs_bd (by decide))) (Nat.le_refl _) HV.out (by omega) HV2.out).mono ?_
  rintro e w1 ⟨⟨n, rfl, hnd⟩, hb1⟩
  have HND := Lib.hid hnd
  have HX1 := Lib.hid (HX.out.below hb1 HX.out.lt)
  have HB1 := Lib.hid (HB.out.trans (hb1.mono HB.out.size))
  obtain ⟨S, hS⟩ : ∃ S, beS v n = S := ⟨_, rfl⟩
  have HS := Lib.hid hS
  rw [hS]
  clear hnd hb1 HK HX HB hS
  have c0 := HX1.out.cell 0 (by decide)
  have c1 := HX1.out.cell 1 (by decide)
  simp only [List.getElem_cons_zero, List.getElem_cons_succ] at c0 c1
  have f0 := HX1.out.free 0
  have f1 := HX1.out.free 1
  have hlt := HX1.out.lt
  have hne : w.heap.size ≠ w1.heap.size := by omega
  have HBF := Lib.hid (((HB1.out.setCell (p := ⟨w.heap.size, 0, none⟩) (Nat.le_refl _) (.bool false)).setCell (p := ⟨w.heap.size, 1, none⟩) (Nat.le_refl _) (.string S)).alloc (by simpa using HB1.out.size) (.cells #[.bool false, .string S] 69))
  go_wp2_with fail
  have hZ : Blk (((w1.setCell ⟨w.heap.size, 0, none⟩ (.bool false)).setCell ⟨w.heap.size, 1, none⟩ (.string S)).alloc (.cells #[.bool false, .string S] 69)) w.heap.size [.bool false, .string S] 69 := ((HX1.out.set 0 (.bool false)).set 1 (.string S)).alloc _
  have z0 := hZ.cell 0 (by simp)
  have z1 := hZ.cell 1 (by simp)
  simp only [List.getElem_cons_zero, List.getElem_cons_succ] at z0 z1
  generalize (((w1.setCell ⟨w.heap.size, 0, none⟩ (.bool false)).setCell ⟨w.heap.size, 1, none⟩ (.string S)).alloc (.cells #[.bool false, .string S] 69)) = Z at z0 z1 HBF ⊢
  refine bodyPost_ret (v := .agg #[.bool false, .string S]) (by simp [results, Try.results59, go_sem, z0, z1]) rfl ⟨⟨n, by rw [HS.out], HND.out⟩, HBF.out⟩

/-- What Mul holds. -/
structure MuB (w W : World) (v n u m : Nat) : Prop where
  a0 : W.cell? ⟨w.heap.size, 0, none⟩ = some (.bool false)
  a1 : W.cell? ⟨w.heap.size, 1, none⟩ = some (.string (beS v n))
  b0 : W.cell? ⟨w.heap.size + 1, 0, none⟩ = some (.bool false)
  b1 : W.cell? ⟨w.heap.size + 1, 1, none⟩ = some (.string (beS u m))
  r : Blk W (w.heap.size + 1 + 1) [.bool false, .string ⟨#[]⟩] 69
  bel : Below w.heap.size w W
theorem MuB.below {w W W' : World} {v n u m : Nat} (h : MuB w W v n u m) (hb : Below W.heap.size W W') : MuB w W' v n u m := by
  have h1 := h.r.lt
  exact ⟨(below_at hb (by omega)).trans h.a0, (below_at hb (by omega)).trans h.a1, (below_at hb (by omega)).trans h.b0, (below_at hb (by omega)).trans h.b1, h.r.below hb h1, h.bel.trans (hb.mono h.bel.size)⟩
theorem MuB.r0 {w W : World} {v n u m : Nat} (h : MuB w W v n u m) : W.cell? ⟨w.heap.size + 1 + 1, 0, none⟩ = some (.bool false) := h.r.cell 0 (by decide)
theorem MuB.r1 {w W : World} {v n u m : Nat} (h : MuB w W v n u m) : W.cell? ⟨w.heap.size + 1 + 1, 1, none⟩ = some (.string ⟨#[]⟩) := h.r.cell 1 (by decide)
theorem MuB.drew {w W : World} {v n u m : Nat} (h : MuB w W v n u m) : MuB w W.drew v n u m := h.below (Below.refl _ _).drew
theorem slice_drew {W : World} {v : Value} {l : List Nat} (h : SliceAt W v l) : SliceAt W.drew v l := h.below (Below.refl _ _).drew
theorem of_st {w W : World} {v n u m v' n' : Nat} (h : MuB w W v n u m) (hv : v' < 256 ^ n') (hn : n' ≤ 256) :
    Calls Try.prog 91 #[.agg #[.bool false, .string (beS v' n')]] W fun e w' => (∃ g k cap, e = .returned (.slice (some ⟨g, 0, none⟩) k cap) ∧ ND WB v' k ∧ k ≤ (n' + 3) / 4 ∧ SliceAt w' (.slice (some ⟨g, 0, none⟩) k cap) (digs WB v' k)) ∧ MuB w w' v n u m ∧ Below W.heap.size W w' :=
  (of_any v' n' false W hv hn).mono fun e w' ⟨⟨g, k, cap, h1, h2, h3, h4, _⟩, hb⟩ => ⟨⟨g, k, cap, h1, h2, h3, h4⟩, h.below hb, hb⟩
theorem times_st {w W : World} {v n u m k1 k2 : Nat} {p1 p2 : Value} (h : MuB w W v n u m) (h1 : SliceAt W p1 (digs WB v k1)) (h2 : SliceAt W p2 (digs WB u k2)) (hv : v < WB ^ k1) (hu : u < WB ^ k2) (l1 : k1 ≤ 64) (l2 : k2 ≤ 64) (h0 : 0 < k1 + k2) :
    Calls Try.prog 90 #[p1, p2] W fun e w' => (∃ g k cap, e = .returned (.slice (some ⟨g, 0, none⟩) k cap) ∧ ND WB (v * u) k ∧ SliceAt w' (.slice (some ⟨g, 0, none⟩) k cap) (digs WB (v * u) k)) ∧ MuB w w' v n u m :=
  (times_any v u k1 k2 p1 p2 W h1 h2 hv hu l1 l2 h0).mono fun e w' ⟨h1, hb⟩ => ⟨h1, h.below hb⟩
theorem form_st {w W : World} {v n u m z k g cap : Nat} (h : MuB w W v n u m) (hs : SliceAt W (.slice (some ⟨g, 0, none⟩) k cap) (digs WB z k)) (hz : z < WB ^ k) (hk : k ≤ 130) (h256 : z < 256 ^ 256) :
    Calls Try.prog 88 #[.slice (some ⟨g, 0, none⟩) k cap, .bool false] W fun e w' => (∃ n, e = .returned (.tuple #[.agg #[.bool false, .string (beS z n)], .int .i64 0]) ∧ ND 256 z n) ∧ MuB w w' v n u m := by
  obtain ⟨p, c, e, h2, h3, h4⟩ := hs
  injection e with e1 e2 e3
  rw [digs_length] at e2 h2
  subst e3
  exact (form_any z k g 0 cap W (fun hp => by
    obtain ⟨b, off, e, hr⟩ := h4 (by intro h; have := congrArg List.length h; rw [digs_length] at this; simp at this; omega)
    rw [e] at e1; injection e1 with e1; injection e1 with e5 e6; rw [e5, e6]; exact hr) h2 hz hk h256).mono fun e w' ⟨h1, hb⟩ => ⟨h1, h.below hb⟩

theorem pow_mono_lt {x a b : Nat} (h : x < 256 ^ a) (hab : a ≤ b) : x < 256 ^ b := Nat.lt_of_lt_of_le h (Nat.pow_le_pow_right (by decide) hab)
theorem lt_wb {x a k : Nat} (h : x < 256 ^ a) (hk : a ≤ 4 * k) : x < WB ^ k := by rw [WB_pow]; exact pow_mono_lt h hk
theorem ND.lt {B v n : Nat} (h : ND B v n) : v < B ^ n := h.1
theorem bytes_words {v n : Nat} (h : v < 256 ^ n) : v < WB ^ ((n + 3) / 4) := by
  rw [WB_pow]; exact Nat.lt_of_lt_of_le h (Nat.pow_le_pow_right (by decide) (by omega))
theorem ND.le {v k M : Nat} (h : ND WB v k) (hv : v < WB ^ M) : k ≤ M := by
  rcases h.2 with h1 | h1
  · omega
  · apply Classical.byContradiction
    intro hk
    have : WB ^ M ≤ WB ^ (k - 1) := Nat.pow_le_pow_right (by decide) (by omega)
    omega

set_option maxHeartbeats 4000000 in
set_option maxRecDepth 100000 in
theorem wMul_any (v n u m : Nat) (w : World) (hv : ND 256 v n) (hn : n ≤ 256) (hu : ND 256 u m) (hm : m ≤ 256) (hpos : 0 < v) (h256 : v * u < 256 ^ 256) :
    Calls Try.prog 60 #[.agg #[.bool false, .string (beS v n)], .agg #[.bool false, .string (beS u m)]] w fun e w' => (∃ k, e = .returned (.tuple #[.agg #[.bool false, .string (beS (v * u) k)], .int .i64 0]) ∧ ND 256 (v * u) k) ∧ Below w.heap.size w w' := by
  have HV := Lib.hid hv; have HU := Lib.hid hu; have H256 := Lib.hid h256
  have H128 : Hid (v * u < WB ^ 128) := lt_wb h256 (by decide)
  clear hv hu h256
  have hW : MuB w ((((w.alloc (.cells #[.bool false, .string (beS v n)] 69)).alloc (.cells #[.bool false, .string (beS u m)] 69)).alloc (.cells #[.bool false, .string ⟨#[]⟩] 69)).alloc (.cells #[.bool false, .string (beS v n), .bool false, .string (beS u m)] 69)) v n u m := by
    refine ⟨by simp [go_sem], by simp [go_sem], by simp [go_sem], by simp [go_sem], ?_, ((((Below.refl _ _).alloc (Nat.le_refl _) _).alloc (by simp) _).alloc (by simp; omega) _).alloc (by simp; omega) _⟩
    have h := (Blk.new ((w.alloc (.cells #[.bool false, .string (beS v n)] 69)).alloc (.cells #[.bool false, .string (beS u m)] 69)) #[.bool false, .string ⟨#[]⟩] 69).alloc (.cells #[.bool false, .string (beS v n), .bool false, .string (beS u m)] 69)
    simpa using h
  have d0 : ((((w.alloc (.cells #[.bool false, .string (beS v n)] 69)).alloc (.cells #[.bool false, .string (beS u m)] 69)).alloc (.cells #[.bool false, .string ⟨#[]⟩] 69)).alloc (.cells #[.bool false, .string (beS v n), .bool false, .string (beS u m)] 69)).cell? ⟨w.heap.size + 1 + 1 + 1, 0, none⟩ = some (.bool false) := by simp [go_sem]
  have d1 : ((((w.alloc (.cells #[.bool false, .string (beS v n)] 69)).alloc (.cells #[.bool false, .string (beS u m)] 69)).alloc (.cells #[.bool false, .string ⟨#[]⟩] 69)).alloc (.cells #[.bool false, .string (beS v n), .bool false, .string (beS u m)] 69)).cell? ⟨w.heap.size + 1 + 1 + 1, 1, none⟩ = some (.string (beS v n)) := by simp [go_sem]
  have d2 : ((((w.alloc (.cells #[.bool false, .string (beS v n)] 69)).alloc (.cells #[.bool false, .string (beS u m)] 69)).alloc (.cells #[.bool false, .string ⟨#[]⟩] 69)).alloc (.cells #[.bool false, .string (beS v n), .bool false, .string (beS u m)] 69)).cell? ⟨w.heap.size + 1 + 1 + 1, 2, none⟩ = some (.bool false) := by simp [go_sem]
  have d3 : ((((w.alloc (.cells #[.bool false, .string (beS v n)] 69)).alloc (.cells #[.bool false, .string (beS u m)] 69)).alloc (.cells #[.bool false, .string ⟨#[]⟩] 69)).alloc (.cells #[.bool false, .string (beS v n), .bool false, .string (beS u m)] 69)).cell? ⟨w.heap.size + 1 + 1 + 1, 3, none⟩ = some (.string (beS u m)) := by simp [go_sem]
  have HW := Lib.hid hW
  have D0 := Lib.hid d0; have D1 := Lib.hid d1; have D2 := Lib.hid d2; have D3 := Lib.hid d3
  clear hW d0 d1 d2 d3
  go_enter Try.func60, Try.ntmps60
  go_wp2_with fail
  refine (wvalid2_any v n u m _ _ HV.out hn HU.out hm D0.out D1.out D2.out D3.out).mono ?_
  rintro e w1 ⟨rfl, hb1⟩
  have HH := Lib.hid (HW.out.below hb1)
  clear hb1 HW D0 D1 D2 D3
  go_wp2_with fail
  have y0 := HH.out.a0; have y1 := HH.out.a1; have y2 := HH.out.b0; have y3 := HH.out.b1; have r0 := HH.out.r0; have r1 := HH.out.r1; have q0 := HH.out.r.free 0; have q1 := HH.out.r.free 1
  have ne1 : ¬ (w.heap.size + 1 + 1 = w.heap.size) := by omega
  have ne2 : ¬ (w.heap.size = w.heap.size + 1 + 1) := by omega
  go_region_held3 (fun w' => w'.cell? ⟨w.heap.size, 0, none⟩ = some (.bool false) ∧ w'.cell? ⟨w.heap.size, 1, none⟩ = some (.string (beS v n)) ∧ w'.cell? ⟨w.heap.size + 1, 0, none⟩ = some (.bool false) ∧ w'.cell? ⟨w.heap.size + 1, 1, none⟩ = some (.string (beS u m))) (go_keep)
    (first
      | (go_at_call 90; (with_reducible refine (times_st (by first | exact HH.out | exact HH.out.drew) (by first | exact HSA.out | exact slice_drew HSA.out) (by first | exact HSB.out | exact slice_drew HSB.out) HNA.out.lt HNB.out.lt HLA.out HLB.out HPA.out).mono ?_); rintro e W3 ⟨⟨g3, k3, c3, rfl, hn3, hs3⟩, h3⟩; have HH := Lib.hid h3; have HSC := Lib.hid hs3; have HNC := Lib.hid hn3; have HKC := Lib.hid (show k3 ≤ 130 by have := hn3.le H128.out; omega); clear h3 hs3 hn3; have y0 := HH.out.a0; have y1 := HH.out.a1; have y2 := HH.out.b0; have y3 := HH.out.b1; have r0 := HH.out.r0; have r1 := HH.out.r1; have q0 := HH.out.r.free 0; have q1 := HH.out.r.free 1)
      | (go_at_call 88; (with_reducible refine (form_st (by first | exact HH.out | exact HH.out.drew) (by first | exact HSC.out | exact slice_drew HSC.out) HNC.out.lt HKC.out H256.out).mono ?_); rintro e W3 ⟨⟨k4, rfl, hn4⟩, h3⟩; have HH := Lib.hid h3; have HND := Lib.hid hn4; clear h3 hn4; have y0 := HH.out.a0; have y1 := HH.out.a1; have y2 := HH.out.b0; have y3 := HH.out.b1; have r0 := HH.out.r0; have r1 := HH.out.r1; have q0 := HH.out.r.free 0; have q1 := HH.out.r.free 1)
      | (go_at_call 91; (with_reducible refine (of_st (v' := v) (n' := n) (by first | exact HH.out | exact HH.out.drew) HV.out.lt hn).mono ?_); rintro e W3 ⟨⟨g1, k1, c1, rfl, hn1, hl1, hs1⟩, h3, _⟩; have HH := Lib.hid h3; have HSA := Lib.hid hs1; have HNA := Lib.hid hn1; have HLA := Lib.hid (show k1 ≤ 64 by omega); clear h3 hs1 hn1; have y0 := HH.out.a0; have y1 := HH.out.a1; have y2 := HH.out.b0; have y3 := HH.out.b1; have r0 := HH.out.r0; have r1 := HH.out.r1; have q0 := HH.out.r.free 0; have q1 := HH.out.r.free 1)
      | (go_at_call 91; (with_reducible refine (of_st (v' := u) (n' := m) (by first | exact HH.out | exact HH.out.drew) HU.out.lt hm).mono ?_); rintro e W3 ⟨⟨g2, k2, c2, rfl, hn2, hl2, hs2⟩, h3, hbb⟩; have HH := Lib.hid h3; have HSB := Lib.hid hs2; have HNB := Lib.hid hn2; have HLB := Lib.hid (show k2 ≤ 64 by omega); have HSA := Lib.hid (SliceAt.below (by first | exact HSA.out | exact slice_drew HSA.out) hbb); have HPA := Lib.hid (show 0 < k1 + k2 by have := HNA.out.pos hpos; omega); clear h3 hs2 hn2 hbb; have y0 := HH.out.a0; have y1 := HH.out.a1; have y2 := HH.out.b0; have y3 := HH.out.b1; have r0 := HH.out.r0; have r1 := HH.out.r1; have q0 := HH.out.r.free 0; have q1 := HH.out.r.free 1))
  all_goals
    have hZ : Blk ((W3.setCell ⟨w.heap.size + 1 + 1, 0, none⟩ (.bool false)).setCell ⟨w.heap.size + 1 + 1, 1, none⟩ (.string (beS (v * u) k4))) (w.heap.size + 1 + 1) [.bool false, .string (beS (v * u) k4)] 69 := (HH.out.r.set 0 (.bool false)).set 1 (.string (beS (v * u) k4))
    have z0 := hZ.cell 0 (by simp)
    have z1 := hZ.cell 1 (by simp)
    simp only [List.getElem_cons_zero, List.getElem_cons_succ] at z0 z1
    have HBF := Lib.hid ((HH.out.bel.setCell (p := ⟨w.heap.size + 1 + 1, 0, none⟩) (by show w.heap.size ≤ w.heap.size + 1 + 1; omega) (.bool false)).setCell (p := ⟨w.heap.size + 1 + 1, 1, none⟩) (by show w.heap.size ≤ w.heap.size + 1 + 1; omega) (.string (beS (v * u) k4)))
    go_wp2_with fail
    refine bodyPost_ret (v := .tuple #[.agg #[.bool false, .string (beS (v * u) k4)], .int .i64 0]) (by simp [results, Try.results60, go_sem, z0, z1]) rfl ⟨⟨k4, rfl, HND.out⟩, HBF.out⟩
end Go.Proofs.Ytjfjbkocopaehaa
