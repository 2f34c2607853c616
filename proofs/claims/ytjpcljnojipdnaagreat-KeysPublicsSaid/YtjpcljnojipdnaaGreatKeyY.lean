/- Walks of the layer of keys: automorphisms of secrets: the closure, each, Turned; the reference's Turned. keys.Turned. obscuraref13.Turned. -/
import Derived.Test.YtjpcljnojipdnaaGreatKeyX
import Derived.Deep.OwnRows
/-! Walks of the layer of keys: automorphisms of secrets: the closure, each, Turned; the reference's Turned. -/
namespace Go.Proofs.YtjpcljnojipdnaaGreat
open Go.RowKit

def i8s (l : List Int) : List Value := l.map (Value.int .i8)

theorem grown_set0 (w : World) (g i : Nat) (u : Value) : w.grownBy (w.setCell ⟨g, i, none⟩ u).drew (some g) :=
  ⟨rfl, rfl, rfl, by simp [World.setCell, World.drew], fun k _ hne => Below.heap_setCell _ _ _ _ (fun e => hne (by rw [e]))⟩

set_option maxHeartbeats 1000000 in
theorem turn1_any (w : World) (sb o g b off cap c N fr to : Nat) (sgn z : Int) (l cur : List Int) (hs : w.cell? ⟨sb, 0, none⟩ = some (.slice (some ⟨b, off, none⟩) l.length cap))
    (ho : w.cell? ⟨o, 0, none⟩ = some (.slice (some ⟨g, 0, none⟩) N c)) (hz : w.cell? ⟨b, off + fr, none⟩ = some (.int .i8 z)) (hfr : fr < l.length) (hto : to < N) (_hlen : l.length ≤ 140737488351232) (_hN : N ≤ 32)
    (hb : Blk w g (i8s cur) 76) (hcur : cur.length = N) (hs0 : sgn = 1 ∨ sgn = -1) (hz0 : -1 ≤ z) (hz1 : z ≤ 1) :
    Calls Tryz.prog 75 #[.int .i64 fr, .int .i64 to, .int .i64 sgn, .pointer (some ⟨sb, 0, none⟩), .pointer (some ⟨o, 0, none⟩)] w fun e w' =>
      e = .returned (.tuple #[]) ∧ Blk w' g (i8s (cur.set to (z * sgn))) 76 ∧ w.grownBy w' (some g) := by
  have hcl : w.cell? ⟨g, to, none⟩ = some (.int .i8 (cur.getD to 0)) := by
    have := hb.cell to (by unfold i8s; rw [List.length_map]; omega)
    rw [this]; unfold i8s; rw [List.getElem_map, getD_lt (by omega)]
  have hfz : w.frozen? ⟨g, to, none⟩ = false := hb.free to
  have hB := Lib.hid hb
  clear hb
  have i0 : (0 : Int) ≤ fr := by omega
  have i1 : (fr : Int) < l.length := by omega
  have i2 : (0 : Int) ≤ to := by omega
  have i3 : (to : Int) < N := by omega
  have p0 : -1 ≤ z * sgn := by rcases hs0 with rfl | rfl <;> omega
  have p1 : z * sgn ≤ 1 := by rcases hs0 with rfl | rfl <;> omega
  have s0 : -1 ≤ sgn := by omega
  have s1 : sgn ≤ 1 := by omega
  have HC := Lib.hid hcur
  clear hcur hs0
  go_enter Tryz.func75, Tryz.ntmps75
  go_wp2
  go_region
  all_goals go_end0
  all_goals
    refine ⟨rfl, ?_, ?_⟩
    · have h := hB.out.set to (.int .i8 (z * sgn))
      unfold i8s at h ⊢
      rw [List.map_set]; exact h.drew
    · exact grown_set0 w g to _

theorem grown_trans {a b c : World} {g : Nat} (h : a.grownBy b (some g)) (k : b.grownBy c (some g)) : a.grownBy c (some g) :=
  ⟨k.os.trans h.os, k.tape.trans h.tape, k.output.trans h.output, Nat.le_trans h.size k.size, fun i hi hne => (k.block i (Nat.lt_of_lt_of_le hi h.size) hne).trans (h.block i hi hne)⟩
theorem grown_refl (w : World) (g : Nat) : w.grownBy w (some g) := ⟨rfl, rfl, rfl, Nat.le_refl _, fun _ _ _ => rfl⟩
theorem grown_cell {a b : World} {g : Nat} (h : a.grownBy b (some g)) {k i : Nat} (hk : k < a.heap.size) (hne : k ≠ g) : b.cell? ⟨k, i, none⟩ = a.cell? ⟨k, i, none⟩ :=
  World.cell?_of_block (a := ⟨k, i, none⟩) (h.block k hk (by simpa using hne))

set_option maxHeartbeats 1000000 in
theorem eacht_any (w : World) (sb o g b off cap c N k : Nat) (l : List Int) (hs : w.cell? ⟨sb, 0, none⟩ = some (.slice (some ⟨b, off, none⟩) l.length cap))
    (ho : w.cell? ⟨o, 0, none⟩ = some (.slice (some ⟨g, 0, none⟩) N c)) (hr : RowZ .i8 w b off l) (hl : l.length = N) (hN0 : 1 ≤ N) (hN : N ≤ 32) (hk0 : 1 ≤ k) (hk1 : k < 2 * N) (hsm : ∀ z, z ∈ l → small1 z = true)
    (hb : Blk w g (i8s (List.replicate N 0)) 76) (n1 : sb ≠ g) (n2 : o ≠ g) (n3 : b ≠ g) (m1 : sb < w.heap.size) (m2 : o < w.heap.size) :
    Calls Tryz.prog 73 #[.int .i64 N, .int .i64 k, .int .i64 0, .func (.func 75) #[] #[.pointer (some ⟨sb, 0, none⟩), .pointer (some ⟨o, 0, none⟩)]] w fun e w' =>
      e = .returned (.tuple #[]) ∧ Blk w' g (i8s (turnTo N k l N)) 76 ∧ w.grownBy w' (some g) := by
  have HS := Lib.hid hs; have HO := Lib.hid ho; have HBK := Lib.hid hb; have HLN := Lib.hid hl; have HSM := Lib.hid hsm
  clear hs ho hb hl hsm
  go_enter Tryz.func73, Tryz.ntmps73
  go_wp2_with fail
  go_loopw [8, 9, 11] (fun _ _ vi wr => ∃ i : Nat, vi = .int .i64 i ∧ i ≤ N ∧ Hid (Blk wr g (i8s (turnTo N k l i)) 76) ∧ w.grownBy wr (some g)) (fun _ _ vi _ => N - (intOf vi).toNat)
  case atStart => exact ⟨0, rfl, by omega, HBK.out, grown_refl _ _⟩
  case round =>
    obtain ⟨i, rfl, hi, hblk, hgr⟩ := hrel
    by_cases hlt : i < N
    · have il : i < l.length := by rw [HLN.out]; exact hlt
      have hsi : Hid (wr.cell? ⟨sb, 0, none⟩ = some (.slice (some ⟨b, off, none⟩) l.length cap)) := by show _ = _; rw [grown_cell hgr m1 n1]; exact HS.out
      have hoi : Hid (wr.cell? ⟨o, 0, none⟩ = some (.slice (some ⟨g, 0, none⟩) N c)) := by show _ = _; rw [grown_cell hgr m2 n2]; exact HO.out
      have hzi : Hid (wr.cell? ⟨b, off + i, none⟩ = some (.int .i8 l[i])) := by show _ = _; rw [grown_cell hgr hr.blk n3]; exact hr.cell i il
      have hz := small1_iff.1 (HSM.out l[i] (List.getElem_mem il))
      have hz0 : -1 ≤ l[i] := by omega
      have hz1 : l[i] ≤ 1 := by omega
      have hgd : Hid (l.getD i 0 = l[i]) := getD_lt il
      have hik0 : (0 : Int) ≤ (i : Int) * (k : Int) := Int.mul_nonneg (by omega) (by omega)
      have hik1 : (i : Int) * (k : Int) ≤ 32 * 64 := Int.mul_le_mul (by omega) (by omega) (by omega) (by omega)
      have hq : Hid ((i : Int) * (k : Int) % (2 * (N : Int)) = ((i * k % (2 * N) : Nat) : Int)) := by show _ = _; rw [Int.natCast_emod, Int.natCast_mul, Int.natCast_mul]; rfl
      have hqlt : i * k % (2 * N) < 2 * N := Nat.mod_lt _ (by omega)
      have hlen2 : (turnTo N k l i).length = N := turnTo_length _ _ _ _
      have HL2 := Lib.hid hlen2
      clear hlen2 hz
      have hll : l.length ≤ 140737488351232 := by rw [HLN.out]; omega
      by_cases hc : i * k % (2 * N) < N
      · have ht : (i : Int) * (k : Int) % (2 * (N : Int)) < N := by rw [hq.out]; omega
        have hst : Hid (turnTo N k l (i + 1) = (turnTo N k l i).set (i * k % (2 * N)) (l[i] * 1)) := by
          show turnStep N k l (turnTo N k l i) i = _
          unfold turnStep; rw [if_pos hc, hgd.out, Int.mul_one]
        clear hgd
        go_wp2_with (go_at_call 75; rw [hq.out]; refine (turn1_any _ _ _ _ _ _ _ _ _ _ _ _ _ _ _ hsi.out hoi.out hzi.out il hc hll hN hblk.out HL2.out (.inl rfl) hz0 hz1).mono ?_; rintro e w1 ⟨rfl, hb1, hg1⟩)
        go_roundw
        case rel => exact ⟨i + 1, by go_num, by omega, (by show Blk _ _ _ _; rw [hst.out]; exact hb1), grown_trans hgr hg1⟩
        case measure => simp [intOf]; omega
      · have ht : ¬ (i : Int) * (k : Int) % (2 * (N : Int)) < N := by rw [hq.out]; omega
        have hst : Hid (turnTo N k l (i + 1) = (turnTo N k l i).set (i * k % (2 * N) - N) (l[i] * -1)) := by
          show turnStep N k l (turnTo N k l i) i = _
          unfold turnStep; rw [if_neg hc, hgd.out]; congr 1; omega
        clear hgd
        have hq2 : Hid ((i : Int) * (k : Int) % (2 * (N : Int)) - N = ((i * k % (2 * N) - N : Nat) : Int)) := by show _ = _; rw [hq.out]; omega
        have hmb : (i : Int) * (k : Int) % (2 * (N : Int)) ≤ 64 := by rw [hq.out]; omega
        go_wp2_with (go_at_call 75; rw [hq2.out]; refine (turn1_any _ _ _ _ _ _ _ _ _ _ _ _ _ _ _ hsi.out hoi.out hzi.out il (show i * k % (2 * N) - N < N by omega) hll hN hblk.out HL2.out (.inr rfl) hz0 hz1).mono ?_; rintro e w1 ⟨rfl, hb1, hg1⟩)
        go_roundw
        case rel => exact ⟨i + 1, by go_num, by omega, (by show Blk _ _ _ _; rw [hst.out]; exact hb1), grown_trans hgr hg1⟩
        case measure => simp [intOf]; omega
    · obtain rfl : i = N := by omega
      go_wp2_with fail
      go_end0
      exact ⟨rfl, hblk.out, hgr⟩

theorem infoI8 : (Tryz.prog.info? 76).map (fun i => (i.zero, i.size, i.bytes)) = some (some (.int .i8 0), 1, 1) := by kernel_rfl
theorem made_list (z : Value) (n : Nat) : (madeCells #[z] n).toList = List.replicate n z := by
  apply List.ext_getElem
  · simp [size_madeCells]
  · intro i h1 h2
    simp [madeCells, Nat.mod_one]

theorem turn_no {pr : Nat → Bool} {x : Par} {l : List Int} {k : Int} (h : csec pr x l ≠ 0 ∨ autB x k = false) : turnOk pr x l k = false := by
  unfold turnOk
  rcases h with h | h
  · have : (okB pr x && secB x l) = false := by
      cases hc : (okB pr x && secB x l) with
      | false => rfl
      | true => exfalso; apply h; unfold csec; rw [hc]; rfl
    rw [this]; rfl
  · rw [h]; simp
theorem csec_vals (pr : Nat → Bool) (x : Par) (l : List Int) : csec pr x l = 0 ∨ csec pr x l = 2 := by unfold csec; split <;> simp
theorem csec_zero {pr : Nat → Bool} {x : Par} {l : List Int} (h : csec pr x l = 0) : okB pr x = true ∧ secB x l = true := by
  unfold csec at h
  cases h1 : (okB pr x && secB x l) with
  | false => rw [h1] at h; simp at h
  | true => simpa using h1
theorem okB_dim {pr : Nat → Bool} {x : Par} (h : okB pr x = true) : 4 ≤ x.n ∧ x.n ≤ 32 := by
  have hd : isDim x.n = true := by rw [okB_conds] at h; simp only [Bool.and_eq_true] at h; exact h.1
  have := isDim_cases hd; omega
theorem secB_parts {x : Par} {l : List Int} (h : secB x l = true) : (∀ z, z ∈ l → small1 z = true) ∧ (l.length : Int) = x.n ∧ (weight l : Int) = x.wt := by
  unfold secB at h
  simp only [Bool.and_eq_true, decide_eq_true_eq] at h
  exact ⟨fun z hz => List.all_eq_true.1 h.1 z hz, h.2.1, h.2.2⟩

end Go.Proofs.YtjpcljnojipdnaaGreat

/-! keys.Turned. -/
namespace Go.Proofs.YtjpcljnojipdnaaGreat
open Go.RowKit

set_option maxHeartbeats 1000000 in
theorem turned_no (x : Par) (cv sv : Value) (l : List Int) (k : Int) (w : World) (hx : ParOk x) (hcv : SliceAt w cv x.ch) (hs : SliceZ .i8 w sv l) (hlen : l.length ≤ 140737488351232) (hno : turnOk mPrime x l k = false) :
    Calls Tryz.prog 33 #[x.val cv, .agg #[sv], .int .i64 k] w fun r w' => r = .returned (.tuple #[.agg #[.slice none 0 0], .int .i64 2]) ∧ Below w.heap.size w w' := by
  have hbW : Below w.heap.size w (((w.alloc (.cells #[.int .i64 x.n, .int .u32 x.p, .int .i64 x.r, cv, .int .u32 x.sp, .int .i64 x.wt, .int .u32 x.er] 25)).alloc (.cells #[sv] 28)).alloc (.cells #[.slice none 0 0] 28)) := (((Below.refl _ _).alloc (Nat.le_refl _) _).alloc (by simp) _).alloc (by simp; omega) _
  have hcv1 := Lib.hid (hcv.below hbW)
  have hs1 := Lib.hid (hs.below hbW)
  have hB : BoxP (((w.alloc (.cells #[.int .i64 x.n, .int .u32 x.p, .int .i64 x.r, cv, .int .u32 x.sp, .int .i64 x.wt, .int .u32 x.er] 25)).alloc (.cells #[sv] 28)).alloc (.cells #[.slice none 0 0] 28)) w.heap.size x cv := by constructor <;> simp [go_sem]
  have hS : (((w.alloc (.cells #[.int .i64 x.n, .int .u32 x.p, .int .i64 x.r, cv, .int .u32 x.sp, .int .i64 x.wt, .int .u32 x.er] 25)).alloc (.cells #[sv] 28)).alloc (.cells #[.slice none 0 0] 28)).cell? ⟨w.heap.size + 1, 0, none⟩ = some (sv) := by simp [go_sem]
  have hsz : w.heap.size + 1 + 1 + 1 ≤ (((w.alloc (.cells #[.int .i64 x.n, .int .u32 x.p, .int .i64 x.r, cv, .int .u32 x.sp, .int .i64 x.wt, .int .u32 x.er] 25)).alloc (.cells #[sv] 28)).alloc (.cells #[.slice none 0 0] 28)).heap.size := by simp
  have hRB : Blk (((w.alloc (.cells #[.int .i64 x.n, .int .u32 x.p, .int .i64 x.r, cv, .int .u32 x.sp, .int .i64 x.wt, .int .u32 x.er] 25)).alloc (.cells #[sv] 28)).alloc (.cells #[.slice none 0 0] 28)) (w.heap.size + 1 + 1) [.slice none 0 0] 28 := by
    have h := Blk.new ((w.alloc (.cells #[.int .i64 x.n, .int .u32 x.p, .int .i64 x.r, cv, .int .u32 x.sp, .int .i64 x.wt, .int .u32 x.er] 25)).alloc (.cells #[sv] 28)) #[.slice none 0 0] 28
    simpa using h
  have HB := Lib.hid hB; have HS := Lib.hid hS; have HRB := Lib.hid hRB
  clear hB hS hRB
  unfold Par.val
  have fin : ∀ w1, Below (((w.alloc (.cells #[.int .i64 x.n, .int .u32 x.p, .int .i64 x.r, cv, .int .u32 x.sp, .int .i64 x.wt, .int .u32 x.er] 25)).alloc (.cells #[sv] 28)).alloc (.cells #[.slice none 0 0] 28)).heap.size (((w.alloc (.cells #[.int .i64 x.n, .int .u32 x.p, .int .i64 x.r, cv, .int .u32 x.sp, .int .i64 x.wt, .int .u32 x.er] 25)).alloc (.cells #[sv] 28)).alloc (.cells #[.slice none 0 0] 28)) w1 → w1.cell? ⟨w.heap.size + 1 + 1, 0, none⟩ = some (.slice none 0 0) ∧ w1.frozen? ⟨w.heap.size + 1 + 1, 0, none⟩ = false ∧ w.heap.size + 1 + 1 < w1.heap.size ∧ Below w.heap.size w (w1.setCell ⟨w.heap.size + 1 + 1, 0, none⟩ (.slice none 0 0)) := by
    intro w1 hb1
    have hB2 := HRB.out.below hb1 (by omega)
    exact ⟨hB2.cell 0 (by decide), hB2.free 0, hB2.lt, (hbW.trans (hb1.mono (by omega))).setCell (by show w.heap.size ≤ w.heap.size + 1 + 1; omega) _⟩
  have FIN := Lib.hid fin
  clear fin
  rcases csec_vals mPrime x l with hc | hc
  · have hok := okB_dim (csec_zero hc).1
    have hn4 := hok.1
    have hn32 := hok.2
    have HC := Lib.hid hc
    have hcond : k < 1 ∨ (1 ≤ k ∧ 2 * x.n ≤ k) ∨ (1 ≤ k ∧ k < 2 * x.n ∧ k % 2 = 0) := by
      apply Classical.byContradiction
      intro hcc
      have h1 := csec_zero hc
      have : turnOk mPrime x l k = true := by
        unfold turnOk autB
        rw [h1.1, h1.2, decide_eq_true (show 1 ≤ k by omega), decide_eq_true (show k < 2 * x.n by omega), decide_eq_true (show k % 2 = 1 by omega)]; rfl
      rw [this] at hno; cases hno
    clear hc hok
    rcases hcond with h | ⟨h1, h2⟩ | ⟨h1, h2, h3⟩
    · have d1 : decide (k < 1) = true := decide_eq_true h
      go_enter Tryz.func33, Tryz.ntmps33
      go_wp2_with fail
      refine (csecret_any x cv sv l _ hx hcv1.out hs1.out hlen).mono ?_
      rintro e w1 ⟨rfl, hb1⟩
      rw [HC.out]
      obtain ⟨r1, r2, r3, r4⟩ := FIN.out w1 hb1
      have k0 := (HB.out.below hb1 (by omega)).n
      have R4 := Lib.hid r4
      clear r4 hb1
      go_wp2_with fail
      refine bodyPost_ret (v := .tuple #[.agg #[.slice none 0 0], .int .i64 2]) (by simp [results, Tryz.results33, go_sem, r1]) rfl ⟨rfl, R4.out⟩
    · have d1 : decide (k < 1) = false := decide_eq_false (by omega)
      have d2 : decide (2 * x.n ≤ k) = true := decide_eq_true h2
      go_enter Tryz.func33, Tryz.ntmps33
      go_wp2_with fail
      refine (csecret_any x cv sv l _ hx hcv1.out hs1.out hlen).mono ?_
      rintro e w1 ⟨rfl, hb1⟩
      rw [HC.out]
      obtain ⟨r1, r2, r3, r4⟩ := FIN.out w1 hb1
      have k0 := (HB.out.below hb1 (by omega)).n
      have R4 := Lib.hid r4
      clear r4 hb1
      go_wp2_with fail
      refine bodyPost_ret (v := .tuple #[.agg #[.slice none 0 0], .int .i64 2]) (by simp [results, Tryz.results33, go_sem, r1]) rfl ⟨rfl, R4.out⟩
    · have d1 : decide (k < 1) = false := decide_eq_false (by omega)
      have d2 : decide (2 * x.n ≤ k) = false := decide_eq_false (by omega)
      have d3 : (k % 2 == 0) = true := beq_iff_eq.2 h3
      clear h3
      go_enter Tryz.func33, Tryz.ntmps33
      go_wp2_with fail
      refine (csecret_any x cv sv l _ hx hcv1.out hs1.out hlen).mono ?_
      rintro e w1 ⟨rfl, hb1⟩
      rw [HC.out]
      obtain ⟨r1, r2, r3, r4⟩ := FIN.out w1 hb1
      have k0 := (HB.out.below hb1 (by omega)).n
      have R4 := Lib.hid r4
      clear r4 hb1
      go_wp2_with fail
      refine bodyPost_ret (v := .tuple #[.agg #[.slice none 0 0], .int .i64 2]) (by simp [results, Tryz.results33, go_sem, r1]) rfl ⟨rfl, R4.out⟩
  · have HC := Lib.hid hc
    clear hc
    go_enter Tryz.func33, Tryz.ntmps33
    go_wp2_with fail
    refine (csecret_any x cv sv l _ hx hcv1.out hs1.out hlen).mono ?_
    rintro e w1 ⟨rfl, hb1⟩
    rw [HC.out]
    obtain ⟨r1, r2, r3, r4⟩ := FIN.out w1 hb1
    have k0 := (HB.out.below hb1 (by omega)).n
    have R4 := Lib.hid r4
    clear r4 hb1
    go_wp2_with fail
    refine bodyPost_ret (v := .tuple #[.agg #[.slice none 0 0], .int .i64 2]) (by simp [results, Tryz.results33, go_sem, r1]) rfl ⟨rfl, R4.out⟩

set_option maxHeartbeats 1000000 in
set_option maxRecDepth 100000 in
theorem turned_yes (x : Par) (cv : Value) (b off cap N k : Nat) (l : List Int) (w : World) (hx : ParOk x) (hcv : SliceAt w cv x.ch) (hr : RowZ .i8 w b off l) (hcap : l.length ≤ cap) (hcap2 : l.length ≤ 140737488351232) (hok : turnOk mPrime x l k = true) (hN : x.n = (N : Int)) :
    Calls Tryz.prog 33 #[x.val cv, .agg #[.slice (some ⟨b, off, none⟩) l.length cap], .int .i64 k] w fun r w' => ∃ g, r = .returned (.tuple #[.agg #[.slice (some ⟨g, 0, none⟩) N N], .int .i64 0]) ∧ Blk w' g (i8s (turnTo N k l N)) 76 ∧ w.heap.size ≤ g ∧ Below w.heap.size w w' := by
  have hs : SliceZ .i8 w (.slice (some ⟨b, off, none⟩) l.length cap) l := ⟨_, _, rfl, hcap, hcap2, fun _ => ⟨b, off, rfl, hr⟩⟩
  have hbW : Below w.heap.size w (((w.alloc (.cells #[.int .i64 x.n, .int .u32 x.p, .int .i64 x.r, cv, .int .u32 x.sp, .int .i64 x.wt, .int .u32 x.er] 25)).alloc (.cells #[.slice (some ⟨b, off, none⟩) l.length cap] 28)).alloc (.cells #[.slice none 0 0] 28)) := (((Below.refl _ _).alloc (Nat.le_refl _) _).alloc (by simp) _).alloc (by simp; omega) _
  have hcv1 := Lib.hid (hcv.below hbW)
  have hs1 := Lib.hid (hs.below hbW)
  have hB : BoxP (((w.alloc (.cells #[.int .i64 x.n, .int .u32 x.p, .int .i64 x.r, cv, .int .u32 x.sp, .int .i64 x.wt, .int .u32 x.er] 25)).alloc (.cells #[.slice (some ⟨b, off, none⟩) l.length cap] 28)).alloc (.cells #[.slice none 0 0] 28)) w.heap.size x cv := by constructor <;> simp [go_sem]
  have hS : (((w.alloc (.cells #[.int .i64 x.n, .int .u32 x.p, .int .i64 x.r, cv, .int .u32 x.sp, .int .i64 x.wt, .int .u32 x.er] 25)).alloc (.cells #[.slice (some ⟨b, off, none⟩) l.length cap] 28)).alloc (.cells #[.slice none 0 0] 28)).cell? ⟨w.heap.size + 1, 0, none⟩ = some (.slice (some ⟨b, off, none⟩) l.length cap) := by simp [go_sem]
  have hsz : w.heap.size + 1 + 1 + 1 ≤ (((w.alloc (.cells #[.int .i64 x.n, .int .u32 x.p, .int .i64 x.r, cv, .int .u32 x.sp, .int .i64 x.wt, .int .u32 x.er] 25)).alloc (.cells #[.slice (some ⟨b, off, none⟩) l.length cap] 28)).alloc (.cells #[.slice none 0 0] 28)).heap.size := by simp
  have hRB : Blk (((w.alloc (.cells #[.int .i64 x.n, .int .u32 x.p, .int .i64 x.r, cv, .int .u32 x.sp, .int .i64 x.wt, .int .u32 x.er] 25)).alloc (.cells #[.slice (some ⟨b, off, none⟩) l.length cap] 28)).alloc (.cells #[.slice none 0 0] 28)) (w.heap.size + 1 + 1) [.slice none 0 0] 28 := by
    have h := Blk.new ((w.alloc (.cells #[.int .i64 x.n, .int .u32 x.p, .int .i64 x.r, cv, .int .u32 x.sp, .int .i64 x.wt, .int .u32 x.er] 25)).alloc (.cells #[.slice (some ⟨b, off, none⟩) l.length cap] 28)) #[.slice none 0 0] 28
    simpa using h
  have HB := Lib.hid hB; have HS := Lib.hid hS; have HRB := Lib.hid hRB
  clear hB hS hRB
  have hr1 := Lib.hid (hr.below hbW hr.blk)
  have hbw := hr.blk
  have hlen : l.length ≤ 140737488351232 := by omega
  unfold turnOk at hok
  simp only [Bool.and_eq_true] at hok
  obtain ⟨⟨ok1, ok2⟩, ok3⟩ := hok
  have hdim := okB_dim ok1
  have hn4 : 4 ≤ N := by omega
  have hn32 : N ≤ 32 := by omega
  obtain ⟨hsm, hlN, _⟩ := secB_parts ok2
  unfold autB at ok3
  simp only [Bool.and_eq_true, decide_eq_true_eq] at ok3
  obtain ⟨a1, a2, a3⟩ := ok3
  have hc0 : Hid (csec mPrime x l = 0) := csec_yes ok1 ok2
  have hlN' : Hid (l.length = N) := by show _ = _; omega
  have d1 : decide ((k : Int) < 1) = false := decide_eq_false (by omega)
  have d2 : decide (2 * (N : Int) ≤ k) = false := decide_eq_false (by omega)
  have d3 : ((k : Int) % 2 == 0) = false := beq_eq_false_iff_ne.2 (by omega)
  have b1 : 1 ≤ k := by omega
  have b2 : k < 2 * N := by omega
  have HSM := Lib.hid hsm
  have HNN := Lib.hid hN
  clear ok1 ok2 a1 a2 a3 hdim hsm hlN hN
  have hmk := fun wx => run_make_row' (P := Tryz.prog) 26 76 (.int .i8 0) 1 Tryz.underlying26 infoI8 rfl .i64 .i64 N (by omega) (by omega) wx
  unfold Par.val
  go_enter Tryz.func33, Tryz.ntmps33
  go_wp2_with fail
  refine (csecret_any x cv _ l _ hx hcv1.out hs1.out hlen).mono ?_
  rintro e w1 ⟨rfl, hb1⟩
  rw [hc0.out]
  have k0 := (HB.out.below hb1 (by omega)).n
  rw [HNN.out] at k0
  have kS : w1.cell? ⟨w.heap.size + 1, 0, none⟩ = some (.slice (some ⟨b, off, none⟩) l.length cap) := by rw [hb1.cell (p := ⟨_, _, none⟩) (by show w.heap.size + 1 < _; omega)]; exact HS.out
  have hRB1 := HRB.out.below hb1 (by omega)
  have HRB1 := Lib.hid hRB1
  have hr2 := Lib.hid (hr1.out.below hb1 (by omega))
  have hlt : w.heap.size + 1 + 1 < w1.heap.size := hRB1.lt
  have hlt0 : w.heap.size < w1.heap.size := by omega
  have hlt1 : w.heap.size + 1 < w1.heap.size := by omega
  have hbT : Hid (Below w.heap.size w w1) := hbW.trans (hb1.mono (by omega))
  clear hRB1 hb1
  go_wp2_with fail
  have hW5 : Below w1.heap.size w1 ((w1.alloc (.cells (madeCells #[.int .i8 0] N) 76)).alloc (.cells #[.slice (some ⟨w1.heap.size, 0, none⟩) N N] 26)) := ((Below.refl _ _).alloc (Nat.le_refl _) _).alloc (by simp) _
  have hg5 : Blk ((w1.alloc (.cells (madeCells #[.int .i8 0] N) 76)).alloc (.cells #[.slice (some ⟨w1.heap.size, 0, none⟩) N N] 26)) w1.heap.size (i8s (List.replicate N 0)) 76 := by
    have h := (Blk.new w1 (madeCells #[.int .i8 0] N) 76).alloc (.cells #[.slice (some ⟨w1.heap.size, 0, none⟩) N N] 26)
    rw [made_list] at h
    unfold i8s; rw [List.map_replicate]; exact h
  have HR5 := Lib.hid (HRB1.out.below hW5 hlt)
  have hsz5 : w1.heap.size + 1 + 1 ≤ ((w1.alloc (.cells (madeCells #[.int .i8 0] N) 76)).alloc (.cells #[.slice (some ⟨w1.heap.size, 0, none⟩) N N] 26)).heap.size := by simp
  refine (eacht_any _ (w.heap.size + 1) (w1.heap.size + 1) w1.heap.size b off cap N N k l ?_ ?_ (hr2.out.below hW5 (by omega)) hlN'.out (by omega) hn32 b1 b2 HSM.out hg5 (by omega) (by omega) (by omega) (by omega) (by omega)).mono ?_
  · rw [hW5.cell (p := ⟨_, _, none⟩) hlt1]; exact kS
  · simp [go_sem]
  · rintro e w6 ⟨rfl, hb6, hg6⟩
    have c6 : w6.cell? ⟨w1.heap.size + 1, 0, none⟩ = some (.slice (some ⟨w1.heap.size, 0, none⟩) N N) := by
      rw [grown_cell hg6 (by omega) (by omega)]; simp [go_sem]
    have r6 : w6.cell? ⟨w.heap.size + 1 + 1, 0, none⟩ = some (.slice none 0 0) := by
      rw [grown_cell hg6 (by omega) (by omega)]; exact HR5.out.cell 0 (by decide)
    have f6 : w6.frozen? ⟨w.heap.size + 1 + 1, 0, none⟩ = false := by
      have := hg6.block (w.heap.size + 1 + 1) (by omega) (by simp; omega)
      rw [World.frozen?_of_block (a := ⟨_, _, none⟩) this]; exact HR5.out.free 0
    have s6 : w.heap.size + 1 + 1 < w6.heap.size := by have := hg6.size; omega
    have hbF : Hid (Below w.heap.size w w6) := ((hbT.out.trans (hW5.mono (by omega))).grown hg6 (by omega) (by intro q hq; cases hq; omega))
    have HB6 := Lib.hid hb6
    clear hg6 hb6 hg5 hW5 kS hmk
    go_wp2_with fail
    refine bodyPost_ret (v := .tuple #[.agg #[.slice (some ⟨w1.heap.size, 0, none⟩) N N], .int .i64 0]) (by simp [results, Tryz.results33, go_sem, r6]) rfl ⟨w1.heap.size, rfl, HB6.out.other (by show w1.heap.size ≠ w.heap.size + 1 + 1; omega) _, by omega, hbF.out.setCell (by show w.heap.size ≤ w.heap.size + 1 + 1; omega) _⟩
end Go.Proofs.YtjpcljnojipdnaaGreat

/-! obscuraref13.Turned. -/
namespace Go.Proofs.YtjpcljnojipdnaaGreat
open Go.RowKit

end Go.Proofs.YtjpcljnojipdnaaGreat
