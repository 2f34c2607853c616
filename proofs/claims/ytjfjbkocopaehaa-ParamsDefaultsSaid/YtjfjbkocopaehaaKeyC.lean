/- Walks of the layer of keys: automorphisms of secrets: the closure, each, Turned; the reference's Turned. -/
import Derived.Test.YtjfjbkocopaehaaKeyB
import Derived.Deep.OwnRows
namespace Go.Proofs.Ytjfjbkocopaehaa
open Go.RowKit

def i8s (l : List Int) : List Value := l.map (Value.int .i8)

theorem grown_set0 (w : World) (g i : Nat) (u : Value) : w.grownBy (w.setCell ⟨g, i, none⟩ u).drew (some g) :=
  ⟨rfl, rfl, rfl, by simp [World.setCell, World.drew], fun k _ hne => Below.heap_setCell _ _ _ _ (fun e => hne (by rw [e]))⟩

set_option maxHeartbeats 1000000 in
theorem turn1_any (w : World) (sb o g b off cap c N fr to : Nat) (sgn z : Int) (l cur : List Int) (hs : w.cell? ⟨sb, 0, none⟩ = some (.slice (some ⟨b, off, none⟩) l.length cap))
    (ho : w.cell? ⟨o, 0, none⟩ = some (.slice (some ⟨g, 0, none⟩) N c)) (hz : w.cell? ⟨b, off + fr, none⟩ = some (.int .i8 z)) (hfr : fr < l.length) (hto : to < N) (_hlen : l.length ≤ 140737488351232) (_hN : N ≤ 32)
    (hb : Blk w g (i8s cur) 75) (hcur : cur.length = N) (hs0 : sgn = 1 ∨ sgn = -1) (hz0 : -1 ≤ z) (hz1 : z ≤ 1) :
    Calls Try.prog 42 #[.int .i64 fr, .int .i64 to, .int .i64 sgn, .pointer (some ⟨sb, 0, none⟩), .pointer (some ⟨o, 0, none⟩)] w fun e w' =>
      e = .returned (.tuple #[]) ∧ Blk w' g (i8s (cur.set to (z * sgn))) 75 ∧ w.grownBy w' (some g) := by
  have hcl : w.cell? ⟨g, to, none⟩ = some (.int .i8 (cur.getD to 0)) := by
    have := hb.cell to (by unfold i8s; rw [List.length_map]; omega)
    rw [this]; unfold i8s; rw [List.getElem_map, getD_lt (by omega)]
  have hfz : w.frozen? ⟨g, to, none⟩ = false := hb.free to
  have hB := Lib.hid hb
  clear hb
  have i0 : (0 : Int) ≤ fr := by omega
  have i1 : (fr : Int) < l.length := by omega
  have i2 : (0 : Int) ≤ to := by omega
  have i3 : (to : Int) < N := by omega
  have p0 : -1 ≤ z * sgn := by rcases hs0 with rfl | rfl <;> omega
  have p1 : z * sgn ≤ 1 := by rcases hs0 with rfl | rfl <;> omega
  have s0 : -1 ≤ sgn := by omega
  have s1 : sgn ≤ 1 := by omega
  have HC := Lib.hid hcur
  clear hcur hs0
  go_enter Try.func42, Try.ntmps42
  go_wp2
  go_region
  all_goals go_end0
  all_goals
    refine ⟨rfl, ?_, ?_⟩
    · have h := hB.out.set to (.int .i8 (z * sgn))
      unfold i8s at h ⊢
      rw [List.map_set]; exact h.drew
    · exact grown_set0 w g to _

theorem grown_trans {a b c : World} {g : Nat} (h : a.grownBy b (some g)) (k : b.grownBy c (some g)) : a.grownBy c (some g) :=
  ⟨k.os.trans h.os, k.tape.trans h.tape, k.output.trans h.output, Nat.le_trans h.size k.size, fun i hi hne => (k.block i (Nat.lt_of_lt_of_le hi h.size) hne).trans (h.block i hi hne)⟩
theorem grown_refl (w : World) (g : Nat) : w.grownBy w (some g) := ⟨rfl, rfl, rfl, Nat.le_refl _, fun _ _ _ => rfl⟩
theorem grown_cell {a b : World} {g : Nat} (h : a.grownBy b (some g)) {k i : Nat} (hk : k < a.heap.size) (hne : k ≠ g) : b.cell? ⟨k, i, none⟩ = a.cell? ⟨k, i, none⟩ :=
  World.cell?_of_block (a := ⟨k, i, none⟩) (h.block k hk (by simpa using hne))

set_option maxHeartbeats 1000000 in
theorem eacht_any (w : World) (sb o g b off cap c N k : Nat) (l : List Int) (hs : w.cell? ⟨sb, 0, none⟩ = some (.slice (some ⟨b, off, none⟩) l.length cap))
    (ho : w.cell? ⟨o, 0, none⟩ = some (.slice (some ⟨g, 0, none⟩) N c)) (hr : RowZ .i8 w b off l) (hl : l.length = N) (hN0 : 1 ≤ N) (hN : N ≤ 32) (hk0 : 1 ≤ k) (hk1 : k < 2 * N) (hsm : ∀ z, z ∈ l → small1 z = true)
    (hb : Blk w g (i8s (List.replicate N 0)) 75) (n1 : sb ≠ g) (n2 : o ≠ g) (n3 : b ≠ g) (m1 : sb < w.heap.size) (m2 : o < w.heap.size) :
    Calls Try.prog 41 #[.int .i64 N, .int .i64 k, .int .i64 0, .func (.func 42) #[] #[.pointer (some ⟨sb, 0, none⟩), .pointer (some ⟨o, 0, none⟩)]] w fun e w' =>
      e = .returned (.tuple #[]) ∧ Blk w' g (i8s (turnTo N k l N)) 75 ∧ w.grownBy w' (some g) := by
  have HS := Lib.hid hs; have HO := Lib.hid ho; have HBK := Lib.hid hb; have HLN := Lib.hid hl; have HSM := Lib.hid hsm
  clear hs ho hb hl hsm
  go_enter Try.func41, Try.ntmps41
  go_wp2_with fail
  go_loopw [8, 9, 11] (fun _ _ vi wr => ∃ i : Nat, vi = .int .i64 i ∧ i ≤ N ∧ Hid (Blk wr g (i8s (turnTo N k l i)) 75) ∧ w.grownBy wr (some g)) (fun _ _ vi _ => N - (intOf vi).toNat)
  case atStart => exact ⟨0, rfl, by omega, HBK.out, grown_refl _ _⟩
  case round =>
    obtain ⟨i, rfl, hi, hblk, hgr⟩ := hrel
    by_cases hlt : i < N
    · have il : i < l.length := by rw [HLN.out]; exact hlt
      have hsi : Hid (wr.cell? ⟨sb, 0, none⟩ = some (.slice (some ⟨b, off, none⟩) l.length cap)) := by show _ = _; rw [grown_cell hgr m1 n1]; exact HS.out
      have hoi : Hid (wr.cell? ⟨o, 0, none⟩ = some (.slice (some ⟨g, 0, none⟩) N c)) := by show _ = _; rw [grown_cell hgr m2 n2]; exact HO.out
      have hzi : Hid (wr.cell? ⟨b, off + i, none⟩ = some (.int .i8 l[i])) := by show _ = _; rw [grown_cell hgr hr.blk n3]; exact hr.cell i il
      have hz := small1_iff.1 (HSM.out l[i] (List.getElem_mem il))
      have hz0 : -1 ≤ l[i] := by omega
      have hz1 : l[i] ≤ 1 := by omega
      have hgd : Hid (l.getD i 0 = l[i]) := getD_lt il
      have hik0 : (0 : Int) ≤ (i : Int) * (k : Int) := Int.mul_nonneg (by omega) (by omega)
      have hik1 : (i : Int) * (k : Int) ≤ 32 * 64 := Int.mul_le_mul (by omega) (by omega) (by omega) (by omega)
      have hq : Hid ((i : Int) * (k : Int) % (2 * (N : Int)) = ((i * k % (2 * N) : Nat) : Int)) := by show _ = _; rw [Int.natCast_emod, Int.natCast_mul, Int.natCast_mul]; rfl
      have hqlt : i * k % (2 * N) < 2 * N := Nat.mod_lt _ (by omega)
      have hlen2 : (turnTo N k l i).length = N := turnTo_length _ _ _ _
      have HL2 := Lib.hid hlen2
      clear hlen2 hz
      have hll : l.length ≤ 140737488351232 := by rw [HLN.out]; omega
      by_cases hc : i * k % (2 * N) < N
      · have ht : (i : Int) * (k : Int) % (2 * (N : Int)) < N := by rw [hq.out]; omega
        have hst : Hid (turnTo N k l (i + 1) = (turnTo N k l i).set (i * k % (2 * N)) (l[i] * 1)) := by
          show turnStep N k l (turnTo N k l i) i = _
          unfold turnStep; rw [if_pos hc, hgd.out, Int.mul_one]
        clear hgd
        go_wp2_with (go_at_call 42; rw [hq.out]; refine (turn1_any _ _ _ _ _ _ _ _ _ _ _ _ _ _ _ hsi.out hoi.out hzi.out il hc hll hN hblk.out HL2.out (.inl rfl) hz0 hz1).mono ?_; rintro e w1 ⟨rfl, hb1, hg1⟩)
        go_roundw
        case rel => exact ⟨i + 1, by go_num, by omega, (by show Blk _ _ _ _; rw [hst.out]; exact hb1), grown_trans hgr hg1⟩
        case measure => simp [intOf]; omega
      · have ht : ¬ (i : Int) * (k : Int) % (2 * (N : Int)) < N := by rw [hq.out]; omega
        have hst : Hid (turnTo N k l (i + 1) = (turnTo N k l i).set (i * k % (2 * N) - N) (l[i] * -1)) := by
          show turnStep N k l (turnTo N k l i) i = _
          unfold turnStep; rw [if_neg hc, hgd.out]; congr 1; omega
        clear hgd
        have hq2 : Hid ((i : Int) * (k : Int) % (2 * (N : Int)) - N = ((i * k % (2 * N) - N : Nat) : Int)) := by show _ = _; rw [hq.out]; omega
        have hmb : (i : Int) * (k : Int) % (2 * (N : Int)) ≤ 64 := by rw [hq.out]; omega
        go_wp2_with (go_at_call 42; rw [hq2.out]; refine (turn1_any _ _ _ _ _ _ _ _ _ _ _ _ _ _ _ hsi.out hoi.out hzi.out il (show i * k % (2 * N) - N < N by omega) hll hN hblk.out HL2.out (.inr rfl) hz0 hz1).mono ?_; rintro e w1 ⟨rfl, hb1, hg1⟩)
        go_roundw
        case rel => exact ⟨i + 1, by go_num, by omega, (by show Blk _ _ _ _; rw [hst.out]; exact hb1), grown_trans hgr hg1⟩
        case measure => simp [intOf]; omega
    · obtain rfl : i = N := by omega
      go_wp2_with fail
      go_end0
      exact ⟨rfl, hblk.out, hgr⟩

theorem infoI8 : (Try.prog.info? 75).map (fun i => (i.zero, i.size, i.bytes)) = some (some (.int .i8 0), 1, 1) := by kernel_rfl
theorem made_list (z : Value) (n : Nat) : (madeCells #[z] n).toList = List.replicate n z := by
  apply List.ext_getElem
  · simp [size_madeCells]
  · intro i h1 h2
    simp [madeCells, Nat.mod_one]

theorem turn_no {pr : Nat → Bool} {x : Par} {l : List Int} {k : Int} (h : csec pr x l ≠ 0 ∨ autB x k = false) : turnOk pr x l k = false := by
  unfold turnOk
  rcases h with h | h
  · have : (okB pr x && secB x l) = false := by
      cases hc : (okB pr x && secB x l) with
      | false => rfl
      | true => exfalso; apply h; unfold csec; rw [hc]; rfl
    rw [this]; rfl
  · rw [h]; simp
theorem csec_vals (pr : Nat → Bool) (x : Par) (l : List Int) : csec pr x l = 0 ∨ csec pr x l = 2 := by unfold csec; split <;> simp
theorem csec_zero {pr : Nat → Bool} {x : Par} {l : List Int} (h : csec pr x l = 0) : okB pr x = true ∧ secB x l = true := by
  unfold csec at h
  cases h1 : (okB pr x && secB x l) with
  | false => rw [h1] at h; simp at h
  | true => simpa using h1
theorem okB_dim {pr : Nat → Bool} {x : Par} (h : okB pr x = true) : 4 ≤ x.n ∧ x.n ≤ 32 := by
  have hd : isDim x.n = true := by rw [okB_conds] at h; simp only [Bool.and_eq_true] at h; exact h.1
  have := isDim_cases hd; omega
theorem secB_parts {x : Par} {l : List Int} (h : secB x l = true) : (∀ z, z ∈ l → small1 z = true) ∧ (l.length : Int) = x.n ∧ (weight l : Int) = x.wt := by
  unfold secB at h
  simp only [Bool.and_eq_true, decide_eq_true_eq] at h
  exact ⟨fun z hz => List.all_eq_true.1 h.1 z hz, h.2.1, h.2.2⟩

end Go.Proofs.Ytjfjbkocopaehaa
