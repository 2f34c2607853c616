/- Walks of the layer of keys: powers of secrets: the closure, each. -/
import Derived.Test.YtjfjbkocopaehaaKeyE
import Derived.Test.YtjfjbkocopaehaaMathI
namespace Go.Proofs.Ytjfjbkocopaehaa
open Go.RowKit

def i64s (l : List Int) : List Value := l.map (Value.int .i64)

theorem Blk.icell {w : World} {g : Nat} {l : List Int} {T : TypeId} (h : Blk w g (i64s l) T) (i : Nat) (hi : i < l.length) : w.cell? ⟨g, i, none⟩ = some (.int .i64 (l.getD i 0)) := by
  have := h.cell i (by unfold i64s; rw [List.length_map]; exact hi)
  rw [this]; unfold i64s; rw [List.getElem_map, getD_lt hi]
theorem Blk.iset {w : World} {g : Nat} {l : List Int} {T : TypeId} (h : Blk w g (i64s l) T) (i : Nat) (z : Int) : Blk (w.setCell ⟨g, i, none⟩ (.int .i64 z)).drew g (i64s (l.set i z)) T := by
  have h := h.set i (.int .i64 z)
  unfold i64s at h ⊢
  rw [List.map_set]; exact h.drew

set_option maxHeartbeats 1000000 in
theorem pow1_any (w : World) (d c ob sb b off cap fr to i : Nat) (sgn : Int) (l cur nxt : List Int) (M B : Int) (hd : Blk w d (i64s nxt) 83) (hc : Blk w c (i64s cur) 83)
    (ho : w.cell? ⟨ob, 0, none⟩ = some (.int .i64 i)) (hs : w.cell? ⟨sb, 0, none⟩ = some (.slice (some ⟨b, off, none⟩) l.length cap)) (hz : w.cell? ⟨b, off + fr, none⟩ = some (.int .i8 (l.getD fr 0)))
    (hn1 : nxt.length = 32) (hn2 : cur.length = 32) (hfr : fr < l.length) (hto : to < 32) (hi : i < 32) (hs0 : sgn = 1 ∨ sgn = -1) (hl : l.getD fr 0 = -1 ∨ l.getD fr 0 = 0 ∨ l.getD fr 0 = 1)
    (hB0 : 0 ≤ B) (hB : B ≤ 1048576) (hM0 : 0 ≤ M) (hM : M ≤ 1099511627776) (bc : Bd B cur) (bn : Bd M nxt) :
    Calls Try.prog 48 #[.int .i64 fr, .int .i64 to, .int .i64 sgn, .pointer (some ⟨d, 0, none⟩), .pointer (some ⟨c, 0, none⟩), .pointer (some ⟨ob, 0, none⟩), .pointer (some ⟨sb, 0, none⟩)] w fun e w' =>
      e = .returned (.tuple #[]) ∧ Blk w' d (i64s (nxt.set to (nxt.getD to 0 + sgn * cur.getD i 0 * l.getD fr 0))) 83 ∧ w.grownBy w' (some d) := by
  have cd := hd.icell to (by omega)
  have fd := hd.free to
  have cc := hc.icell i (by omega)
  have HD := Lib.hid hd
  obtain ⟨⟨p0, p1⟩, p2, p3⟩ := sg_bd hs0 (bc.getD hB0 i) hl
  obtain ⟨p4, p5⟩ := bn.getD hM0 to
  have i0 : (0 : Int) ≤ fr := by omega
  have i1 : (fr : Int) < l.length := by omega
  have i2 : (0 : Int) ≤ to := by omega
  have i3 : (to : Int) < 32 := by omega
  have i4 : (0 : Int) ≤ i := by omega
  have i5 : (i : Int) < 32 := by omega
  have i6 : -1 ≤ l.getD fr 0 := by omega
  have i7 : l.getD fr 0 ≤ 1 := by omega
  generalize hv1 : nxt.getD to 0 = v1 at *
  generalize hv2 : cur.getD i 0 = v2 at *
  generalize hv3 : l.getD fr 0 = v3 at *
  clear hd hc hn1 hn2 hs0 hl bc bn hv1 hv2 hv3
  go_enter Try.func48, Try.ntmps48
  go_wp2
  go_region
  all_goals go_end0
  all_goals exact ⟨rfl, HD.out.iset to _, grown_set0 w d to _⟩

set_option maxHeartbeats 1000000 in
theorem eachp_any (w : World) (d c ob sb b off cap N i : Nat) (l cur nxt : List Int) (M B : Int) (hd : Blk w d (i64s nxt) 83) (hc : Blk w c (i64s cur) 83)
    (ho : w.cell? ⟨ob, 0, none⟩ = some (.int .i64 i)) (hs : w.cell? ⟨sb, 0, none⟩ = some (.slice (some ⟨b, off, none⟩) l.length cap)) (hr : RowZ .i8 w b off l) (hl : l.length = N) (hN0 : 1 ≤ N) (hN : N ≤ 32)
    (hn1 : nxt.length = 32) (hn2 : cur.length = 32) (hi : i < N) (hsm : ∀ z, z ∈ l → small1 z = true)
    (hB0 : 0 ≤ B) (hB : B ≤ 1048576) (hM0 : 0 ≤ M) (hM : M + 32 * B ≤ 1099511627776) (bc : Bd B cur) (bn : Bd M nxt)
    (n1 : c ≠ d) (n2 : ob ≠ d) (n3 : sb ≠ d) (n4 : b ≠ d) (m2 : ob < w.heap.size) (m3 : sb < w.heap.size) :
    Calls Try.prog 41 #[.int .i64 N, .int .i64 1, .int .i64 i, .func (.func 48) #[] #[.pointer (some ⟨d, 0, none⟩), .pointer (some ⟨c, 0, none⟩), .pointer (some ⟨ob, 0, none⟩), .pointer (some ⟨sb, 0, none⟩)]] w fun e w' =>
      e = .returned (.tuple #[]) ∧ Blk w' d (i64s (mulRow N l cur nxt i N)) 83 ∧ w.grownBy w' (some d) := by
  have HD := Lib.hid hd; have HC := Lib.hid hc; have HO := Lib.hid ho; have HS := Lib.hid hs; have HL := Lib.hid hl; have HSM := Lib.hid hsm; have HN1 := Lib.hid hn1; have HN2 := Lib.hid hn2
  have hcw := hc.lt
  have BC := Lib.hid bc; have BN := Lib.hid bn
  clear hd hc ho hs hl hsm hn1 hn2 bc bn
  go_enter Try.func41, Try.ntmps41
  go_wp2_with fail
  go_loopw [8, 9, 11] (fun _ _ vf wr => ∃ f : Nat, vf = .int .i64 f ∧ f ≤ N ∧ Hid (Blk wr d (i64s (mulRow N l cur nxt i f)) 83) ∧ w.grownBy wr (some d)) (fun _ _ vf _ => N - (intOf vf).toNat)
  case atStart => exact ⟨0, rfl, by omega, HD.out, grown_refl _ _⟩
  case round =>
    obtain ⟨f, rfl, hf, hblk, hgr⟩ := hrel
    by_cases hlt : f < N
    · have il : f < l.length := by rw [HL.out]; exact hlt
      have hcr : Hid (Blk wr c (i64s cur) 83) := (hgr.block c hcw (by simpa using n1)).trans HC.out
      have hor : Hid (wr.cell? ⟨ob, 0, none⟩ = some (.int .i64 i)) := by show _ = _; rw [grown_cell hgr m2 n2]; exact HO.out
      have hsr : Hid (wr.cell? ⟨sb, 0, none⟩ = some (.slice (some ⟨b, off, none⟩) l.length cap)) := by show _ = _; rw [grown_cell hgr m3 n3]; exact HS.out
      have hzr : Hid (wr.cell? ⟨b, off + f, none⟩ = some (.int .i8 (l.getD f 0))) := by show _ = _; rw [grown_cell hgr hr.blk n4, getD_lt il]; exact hr.cell f il
      have hsmf := Lib.hid (getD_small HSM.out f)
      have hlen : Hid ((mulRow N l cur nxt i f).length = 32) := by show _ = _; rw [mulRow_length]; exact HN1.out
      have hfB : 0 ≤ (f : Int) * B := Int.mul_nonneg (by omega) hB0
      have hfB2 : (f : Int) * B ≤ 32 * B := Int.mul_le_mul_of_nonneg_right (by omega) hB0
      have hbd := Lib.hid (mulRow_bd (n := N) (i := i) HSM.out hB0 hM0 BC.out BN.out f)
      have hM1 : 0 ≤ M + (f : Int) * B := by omega
      have hM2 : M + (f : Int) * B ≤ 1099511627776 := by omega
      have hq : Hid (((f : Int) + (i : Int)) % (2 * (N : Int)) = (((f + i) % (2 * N) : Nat) : Int)) := by show _ = _; rw [Int.natCast_emod, Int.natCast_mul, Int.natCast_add]; rfl
      have hqlt : (f + i) % (2 * N) < 2 * N := Nat.mod_lt _ (by omega)
      by_cases hcs : (f + i) % (2 * N) < N
      · have ht : ((f : Int) + (i : Int)) % (2 * (N : Int)) < N := by rw [hq.out]; omega
        have hst : Hid (mulRow N l cur nxt i (f + 1) = (mulRow N l cur nxt i f).set ((f + i) % (2 * N)) ((mulRow N l cur nxt i f).getD ((f + i) % (2 * N)) 0 + 1 * cur.getD i 0 * l.getD f 0)) := by
          show mulStep N l cur (mulRow N l cur nxt i f) i f = _
          unfold mulStep; rw [if_pos hcs]
        go_wp2_with (go_at_call 48; rw [hq.out]; refine (pow1_any _ _ _ _ _ _ _ _ _ _ _ _ l cur (mulRow N l cur nxt i f) (M + (f : Int) * B) B hblk.out hcr.out hor.out hsr.out hzr.out hlen.out HN2.out il (by omega) (by omega) (.inl rfl) hsmf.out hB0 hB hM1 hM2 BC.out hbd.out).mono ?_; rintro e w1 ⟨rfl, hb1, hg1⟩)
        go_roundw
        case rel => exact ⟨f + 1, by go_num, by omega, (by show Blk _ _ _ _; rw [hst.out]; exact hb1), grown_trans hgr hg1⟩
        case measure => simp [intOf]; omega
      · have ht : ¬ ((f : Int) + (i : Int)) % (2 * (N : Int)) < N := by rw [hq.out]; omega
        have hst : Hid (mulRow N l cur nxt i (f + 1) = (mulRow N l cur nxt i f).set ((f + i) % (2 * N) - N) ((mulRow N l cur nxt i f).getD ((f + i) % (2 * N) - N) 0 + -1 * cur.getD i 0 * l.getD f 0)) := by
          show mulStep N l cur (mulRow N l cur nxt i f) i f = _
          unfold mulStep; rw [if_neg hcs]
        have hq2 : Hid (((f : Int) + (i : Int)) % (2 * (N : Int)) - N = (((f + i) % (2 * N) - N : Nat) : Int)) := by show _ = _; rw [hq.out]; omega
        have hmb : ((f : Int) + (i : Int)) % (2 * (N : Int)) ≤ 64 := by rw [hq.out]; omega
        go_wp2_with (go_at_call 48; rw [hq2.out]; refine (pow1_any _ _ _ _ _ _ _ _ _ _ _ _ l cur (mulRow N l cur nxt i f) (M + (f : Int) * B) B hblk.out hcr.out hor.out hsr.out hzr.out hlen.out HN2.out il (show (f + i) % (2 * N) - N < 32 by omega) (by omega) (.inr rfl) hsmf.out hB0 hB hM1 hM2 BC.out hbd.out).mono ?_; rintro e w1 ⟨rfl, hb1, hg1⟩)
        go_roundw
        case rel => exact ⟨f + 1, by go_num, by omega, (by show Blk _ _ _ _; rw [hst.out]; exact hb1), grown_trans hgr hg1⟩
        case measure => simp [intOf]; omega
    · obtain rfl : f = N := by omega
      go_wp2_with fail
      go_end0
      exact ⟨rfl, hblk.out, hgr⟩
end Go.Proofs.Ytjfjbkocopaehaa
