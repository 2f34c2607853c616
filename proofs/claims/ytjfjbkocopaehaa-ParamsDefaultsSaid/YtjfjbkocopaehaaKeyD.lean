/- keys.Turned. -/
import Derived.Test.YtjfjbkocopaehaaKeyC
namespace Go.Proofs.Ytjfjbkocopaehaa
open Go.RowKit

set_option maxHeartbeats 1000000 in
theorem turned_no (x : Par) (cv sv : Value) (l : List Int) (k : Int) (w : World) (hx : ParOk x) (hcv : SliceAt w cv x.ch) (hs : SliceZ .i8 w sv l) (hlen : l.length ≤ 140737488351232) (hno : turnOk mPrime x l k = false) :
    Calls Try.prog 11 #[x.val cv, .agg #[sv], .int .i64 k] w fun r w' => r = .returned (.tuple #[.agg #[.slice none 0 0], .int .i64 2]) ∧ Below w.heap.size w w' := by
  have hbW : Below w.heap.size w (((w.alloc (.cells #[.int .i64 x.n, .int .u32 x.p, .int .i64 x.r, cv, .int .u32 x.sp, .int .i64 x.wt, .int .u32 x.er] 25)).alloc (.cells #[sv] 28)).alloc (.cells #[.slice none 0 0] 28)) := (((Below.refl _ _).alloc (Nat.le_refl _) _).alloc (by simp) _).alloc (by simp; omega) _
  have hcv1 := Lib.hid (hcv.below hbW)
  have hs1 := Lib.hid (hs.below hbW)
  have hB : BoxP (((w.alloc (.cells #[.int .i64 x.n, .int .u32 x.p, .int .i64 x.r, cv, .int .u32 x.sp, .int .i64 x.wt, .int .u32 x.er] 25)).alloc (.cells #[sv] 28)).alloc (.cells #[.slice none 0 0] 28)) w.heap.size x cv := by constructor <;> simp [go_sem]
  have hS : (((w.alloc (.cells #[.int .i64 x.n, .int .u32 x.p, .int .i64 x.r, cv, .int .u32 x.sp, .int .i64 x.wt, .int .u32 x.er] 25)).alloc (.cells #[sv] 28)).alloc (.cells #[.slice none 0 0] 28)).cell? ⟨w.heap.size + 1, 0, none⟩ = some (sv) := by simp [go_sem]
  have hsz : w.heap.size + 1 + 1 + 1 ≤ (((w.alloc (.cells #[.int .i64 x.n, .int .u32 x.p, .int .i64 x.r, cv, .int .u32 x.sp, .int .i64 x.wt, .int .u32 x.er] 25)).alloc (.cells #[sv] 28)).alloc (.cells #[.slice none 0 0] 28)).heap.size := by simp
  have hRB : Blk (((w.alloc (.cells #[.int .i64 x.n, .int .u32 x.p, .int .i64 x.r, cv, .int .u32 x.sp, .int .i64 x.wt, .int .u32 x.er] 25)).alloc (.cells #[sv] 28)).alloc (.cells #[.slice none 0 0] 28)) (w.heap.size + 1 + 1) [.slice none 0 0] 28 := by
    have h := Blk.new ((w.alloc (.cells #[.int .i64 x.n, .int .u32 x.p, .int .i64 x.r, cv, .int .u32 x.sp, .int .i64 x.wt, .int .u32 x.er] 25)).alloc (.cells #[sv] 28)) #[.slice none 0 0] 28
    simpa using h
  have HB := Lib.hid hB; have HS := Lib.hid hS; have HRB := Lib.hid hRB
  clear hB hS hRB
  unfold Par.val
  have fin : ∀ w1, Below (((w.alloc (.cells #[.int .i64 x.n, .int .u32 x.p, .int .i64 x.r, cv, .int .u32 x.sp, .int .i64 x.wt, .int .u32 x.er] 25)).alloc (.cells #[sv] 28)).alloc (.cells #[.slice none 0 0] 28)).heap.size (((w.alloc (.cells #[.int .i64 x.n, .int .u32 x.p, .int .i64 x.r, cv, .int .u32 x.sp, .int .i64 x.wt, .int .u32 x.er] 25)).alloc (.cells #[sv] 28)).alloc (.cells #[.slice none 0 0] 28)) w1 → w1.cell? ⟨w.heap.size + 1 + 1, 0, none⟩ = some (.slice none 0 0) ∧ w1.frozen? ⟨w.heap.size + 1 + 1, 0, none⟩ = false ∧ w.heap.size + 1 + 1 < w1.heap.size ∧ Below w.heap.size w (w1.setCell ⟨w.heap.size + 1 + 1, 0, none⟩ (.slice none 0 0)) := by
    intro w1 hb1
    have hB2 := HRB.out.below hb1 (by omega)
    exact ⟨hB2.cell 0 (by decide), hB2.free 0, hB2.lt, (hbW.trans (hb1.mono (by omega))).setCell (by show w.heap.size ≤ w.heap.size + 1 + 1; omega) _⟩
  have FIN := Lib.hid fin
  clear fin
  rcases csec_vals mPrime x l with hc | hc
  · have hok := okB_dim (csec_zero hc).1
    have hn4 := hok.1
    have hn32 := hok.2
    have HC := Lib.hid hc
    have hcond : k < 1 ∨ (1 ≤ k ∧ 2 * x.n ≤ k) ∨ (1 ≤ k ∧ k < 2 * x.n ∧ k % 2 = 0) := by
      apply Classical.byContradiction
      intro hcc
      have h1 := csec_zero hc
      have : turnOk mPrime x l k = true := by
        unfold turnOk autB
        rw [h1.1, h1.2, decide_eq_true (show 1 ≤ k by omega), decide_eq_true (show k < 2 * x.n by omega), decide_eq_true (show k % 2 = 1 by omega)]; rfl
      rw [this] at hno; cases hno
    clear hc hok
    rcases hcond with h | ⟨h1, h2⟩ | ⟨h1, h2, h3⟩
    · have d1 : decide (k < 1) = true := decide_eq_true h
      go_enter Try.func11, Try.ntmps11
      go_wp2_with fail
      refine (csecret_any x cv sv l _ hx hcv1.out hs1.out hlen).mono ?_
      rintro e w1 ⟨rfl, hb1⟩
      rw [HC.out]
      obtain ⟨r1, r2, r3, r4⟩ := FIN.out w1 hb1
      have k0 := (HB.out.below hb1 (by omega)).n
      have R4 := Lib.hid r4
      clear r4 hb1
      go_wp2_with fail
      refine bodyPost_ret (v := .tuple #[.agg #[.slice none 0 0], .int .i64 2]) (by simp [results, Try.results11, go_sem, r1]) rfl ⟨rfl, R4.out⟩
    · have d1 : decide (k < 1) = false := decide_eq_false (by omega)
      have d2 : decide (2 * x.n ≤ k) = true := decide_eq_true h2
      go_enter Try.func11, Try.ntmps11
      go_wp2_with fail
      refine (csecret_any x cv sv l _ hx hcv1.out hs1.out hlen).mono ?_
      rintro e w1 ⟨rfl, hb1⟩
      rw [HC.out]
      obtain ⟨r1, r2, r3, r4⟩ := FIN.out w1 hb1
      have k0 := (HB.out.below hb1 (by omega)).n
      have R4 := Lib.hid r4
      clear r4 hb1
      go_wp2_with fail
      refine bodyPost_ret (v := .tuple #[.agg #[.slice none 0 0], .int .i64 2]) (by simp [results, Try.results11, go_sem, r1]) rfl ⟨rfl, R4.out⟩
    · have d1 : decide (k < 1) = false := decide_eq_false (by omega)
      have d2 : decide (2 * x.n ≤ k) = false := decide_eq_false (by omega)
      have d3 : (k % 2 == 0) = true := beq_iff_eq.2 h3
      clear h3
      go_enter Try.func11, Try.ntmps11
      go_wp2_with fail
      refine (csecret_any x cv sv l _ hx hcv1.out hs1.out hlen).mono ?_
      rintro e w1 ⟨rfl, hb1⟩
      rw [HC.out]
      obtain ⟨r1, r2, r3, r4⟩ := FIN.out w1 hb1
      have k0 := (HB.out.below hb1 (by omega)).n
      have R4 := Lib.hid r4
      clear r4 hb1
      go_wp2_with fail
      refine bodyPost_ret (v := .tuple #[.agg #[.slice none 0 0], .int .i64 2]) (by simp [results, Try.results11, go_sem, r1]) rfl ⟨rfl, R4.out⟩
  · have HC := Lib.hid hc
    clear hc
    go_enter Try.func11, Try.ntmps11
    go_wp2_with fail
    refine (csecret_any x cv sv l _ hx hcv1.out hs1.out hlen).mono ?_
    rintro e w1 ⟨rfl, hb1⟩
    rw [HC.out]
    obtain ⟨r1, r2, r3, r4⟩ := FIN.out w1 hb1
    have k0 := (HB.out.below hb1 (by omega)).n
    have R4 := Lib.hid r4
    clear r4 hb1
    go_wp2_with fail
    refine bodyPost_ret (v := .tuple #[.agg #[.slice none 0 0], .int .i64 2]) (by simp [results, Try.results11, go_sem, r1]) rfl ⟨rfl, R4.out⟩

set_option maxHeartbeats 1000000 in
set_option maxRecDepth 100000 in
theorem turned_yes (x : Par) (cv : Value) (b off cap N k : Nat) (l : List Int) (w : World) (hx : ParOk x) (hcv : SliceAt w cv x.ch) (hr : RowZ .i8 w b off l) (hcap : l.length ≤ cap) (hcap2 : l.length ≤ 140737488351232) (hok : turnOk mPrime x l k = true) (hN : x.n = (N : Int)) :
    Calls Try.prog 11 #[x.val cv, .agg #[.slice (some ⟨b, off, none⟩) l.length cap], .int .i64 k] w fun r w' => ∃ g, r = .returned (.tuple #[.agg #[.slice (some ⟨g, 0, none⟩) N N], .int .i64 0]) ∧ Blk w' g (i8s (turnTo N k l N)) 75 ∧ w.heap.size ≤ g ∧ Below w.heap.size w w' := by
  have hs : SliceZ .i8 w (.slice (some ⟨b, off, none⟩) l.length cap) l := ⟨_, _, rfl, hcap, hcap2, fun _ => ⟨b, off, rfl, hr⟩⟩
  have hbW : Below w.heap.size w (((w.alloc (.cells #[.int .i64 x.n, .int .u32 x.p, .int .i64 x.r, cv, .int .u32 x.sp, .int .i64 x.wt, .int .u32 x.er] 25)).alloc (.cells #[.slice (some ⟨b, off, none⟩) l.length cap] 28)).alloc (.cells #[.slice none 0 0] 28)) := (((Below.refl _ _).alloc (Nat.le_refl _) _).alloc (by simp) _).alloc (by simp; omega) _
  have hcv1 := Lib.hid (hcv.below hbW)
  have hs1 := Lib.hid (hs.below hbW)
  have hB : BoxP (((w.alloc (.cells #[.int .i64 x.n, .int .u32 x.p, .int .i64 x.r, cv, .int .u32 x.sp, .int .i64 x.wt, .int .u32 x.er] 25)).alloc (.cells #[.slice (some ⟨b, off, none⟩) l.length cap] 28)).alloc (.cells #[.slice none 0 0] 28)) w.heap.size x cv := by constructor <;> simp [go_sem]
  have hS : (((w.alloc (.cells #[.int .i64 x.n, .int .u32 x.p, .int .i64 x.r, cv, .int .u32 x.sp, .int .i64 x.wt, .int .u32 x.er] 25)).alloc (.cells #[.slice (some ⟨b, off, none⟩) l.length cap] 28)).alloc (.cells #[.slice none 0 0] 28)).cell? ⟨w.heap.size + 1, 0, none⟩ = some (.slice (some ⟨b, off, none⟩) l.length cap) := by simp [go_sem]
  have hsz : w.heap.size + 1 + 1 + 1 ≤ (((w.alloc (.cells #[.int .i64 x.n, .int .u32 x.p, .int .i64 x.r, cv, .int .u32 x.sp, .int .i64 x.wt, .int .u32 x.er] 25)).alloc (.cells #[.slice (some ⟨b, off, none⟩) l.length cap] 28)).alloc (.cells #[.slice none 0 0] 28)).heap.size := by simp
  have hRB : Blk (((w.alloc (.cells #[.int .i64 x.n, .int .u32 x.p, .int .i64 x.r, cv, .int .u32 x.sp, .int .i64 x.wt, .int .u32 x.er] 25)).alloc (.cells #[.slice (some ⟨b, off, none⟩) l.length cap] 28)).alloc (.cells #[.slice none 0 0] 28)) (w.heap.size + 1 + 1) [.slice none 0 0] 28 := by
    have h := Blk.new ((w.alloc (.cells #[.int .i64 x.n, .int .u32 x.p, .int .i64 x.r, cv, .int .u32 x.sp, .int .i64 x.wt, .int .u32 x.er] 25)).alloc (.cells #[.slice (some ⟨b, off, none⟩) l.length cap] 28)) #[.slice none 0 0] 28
    simpa using h
  have HB := Lib.hid hB; have HS := Lib.hid hS; have HRB := Lib.hid hRB
  clear hB hS hRB
  have hr1 := Lib.hid (hr.below hbW hr.blk)
  have hbw := hr.blk
  have hlen : l.length ≤ 140737488351232 := by omega
  unfold turnOk at hok
  simp only [Bool.and_eq_true] at hok
  obtain ⟨⟨ok1, ok2⟩, ok3⟩ := hok
  have hdim := okB_dim ok1
  have hn4 : 4 ≤ N := by omega
  have hn32 : N ≤ 32 := by omega
  obtain ⟨hsm, hlN, _⟩ := secB_parts ok2
  unfold autB at ok3
  simp only [Bool.and_eq_true, decide_eq_true_eq] at ok3
  obtain ⟨a1, a2, a3⟩ := ok3
  have hc0 : Hid (csec mPrime x l = 0) := csec_yes ok1 ok2
  have hlN' : Hid (l.length = N) := by show _ = _; omega
  have d1 : decide ((k : Int) < 1) = false := decide_eq_false (by omega)
  have d2 : decide (2 * (N : Int) ≤ k) = false := decide_eq_false (by omega)
  have d3 : ((k : Int) % 2 == 0) = false := beq_eq_false_iff_ne.2 (by omega)
  have b1 : 1 ≤ k := by omega
  have b2 : k < 2 * N := by omega
  have HSM := Lib.hid hsm
  have HNN := Lib.hid hN
  clear ok1 ok2 a1 a2 a3 hdim hsm hlN hN
  have hmk := fun wx => run_make_row' (P := Try.prog) 26 75 (.int .i8 0) 1 Try.underlying26 infoI8 rfl .i64 .i64 N (by omega) (by omega) wx
  unfold Par.val
  go_enter Try.func11, Try.ntmps11
  go_wp2_with fail
  refine (csecret_any x cv _ l _ hx hcv1.out hs1.out hlen).mono ?_
  rintro e w1 ⟨rfl, hb1⟩
  rw [hc0.out]
  have k0 := (HB.out.below hb1 (by omega)).n
  rw [HNN.out] at k0
  have kS : w1.cell? ⟨w.heap.size + 1, 0, none⟩ = some (.slice (some ⟨b, off, none⟩) l.length cap) := by rw [hb1.cell (p := ⟨_, _, none⟩) (by show w.heap.size + 1 < _; omega)]; exact HS.out
  have hRB1 := HRB.out.below hb1 (by omega)
  have HRB1 := Lib.hid hRB1
  have hr2 := Lib.hid (hr1.out.below hb1 (by omega))
  have hlt : w.heap.size + 1 + 1 < w1.heap.size := hRB1.lt
  have hlt0 : w.heap.size < w1.heap.size := by omega
  have hlt1 : w.heap.size + 1 < w1.heap.size := by omega
  have hbT : Hid (Below w.heap.size w w1) := hbW.trans (hb1.mono (by omega))
  clear hRB1 hb1
  go_wp2_with fail
  have hW5 : Below w1.heap.size w1 ((w1.alloc (.cells (madeCells #[.int .i8 0] N) 75)).alloc (.cells #[.slice (some ⟨w1.heap.size, 0, none⟩) N N] 26)) := ((Below.refl _ _).alloc (Nat.le_refl _) _).alloc (by simp) _
  have hg5 : Blk ((w1.alloc (.cells (madeCells #[.int .i8 0] N) 75)).alloc (.cells #[.slice (some ⟨w1.heap.size, 0, none⟩) N N] 26)) w1.heap.size (i8s (List.replicate N 0)) 75 := by
    have h := (Blk.new w1 (madeCells #[.int .i8 0] N) 75).alloc (.cells #[.slice (some ⟨w1.heap.size, 0, none⟩) N N] 26)
    rw [made_list] at h
    unfold i8s; rw [List.map_replicate]; exact h
  have HR5 := Lib.hid (HRB1.out.below hW5 hlt)
  have hsz5 : w1.heap.size + 1 + 1 ≤ ((w1.alloc (.cells (madeCells #[.int .i8 0] N) 75)).alloc (.cells #[.slice (some ⟨w1.heap.size, 0, none⟩) N N] 26)).heap.size := by simp
  refine (eacht_any _ (w.heap.size + 1) (w1.heap.size + 1) w1.heap.size b off cap N N k l ?_ ?_ (hr2.out.below hW5 (by omega)) hlN'.out (by omega) hn32 b1 b2 HSM.out hg5 (by omega) (by omega) (by omega) (by omega) (by omega)).mono ?_
  · rw [hW5.cell (p := ⟨_, _, none⟩) hlt1]; exact kS
  · simp [go_sem]
  · rintro e w6 ⟨rfl, hb6, hg6⟩
    have c6 : w6.cell? ⟨w1.heap.size + 1, 0, none⟩ = some (.slice (some ⟨w1.heap.size, 0, none⟩) N N) := by
      rw [grown_cell hg6 (by omega) (by omega)]; simp [go_sem]
    have r6 : w6.cell? ⟨w.heap.size + 1 + 1, 0, none⟩ = some (.slice none 0 0) := by
      rw [grown_cell hg6 (by omega) (by omega)]; exact HR5.out.cell 0 (by decide)
    have f6 : w6.frozen? ⟨w.heap.size + 1 + 1, 0, none⟩ = false := by
      have := hg6.block (w.heap.size + 1 + 1) (by omega) (by simp; omega)
      rw [World.frozen?_of_block (a := ⟨_, _, none⟩) this]; exact HR5.out.free 0
    have s6 : w.heap.size + 1 + 1 < w6.heap.size := by have := hg6.size; omega
    have hbF : Hid (Below w.heap.size w w6) := ((hbT.out.trans (hW5.mono (by omega))).grown hg6 (by omega) (by intro q hq; cases hq; omega))
    have HB6 := Lib.hid hb6
    clear hg6 hb6 hg5 hW5 kS hmk
    go_wp2_with fail
    refine bodyPost_ret (v := .tuple #[.agg #[.slice (some ⟨w1.heap.size, 0, none⟩) N N], .int .i64 0]) (by simp [results, Try.results11, go_sem, r6]) rfl ⟨w1.heap.size, rfl, HB6.out.other (by show w1.heap.size ≠ w.heap.size + 1 + 1; omega) _, by omega, hbF.out.setCell (by show w.heap.size ≤ w.heap.size + 1 + 1; omega) _⟩
end Go.Proofs.Ytjfjbkocopaehaa
