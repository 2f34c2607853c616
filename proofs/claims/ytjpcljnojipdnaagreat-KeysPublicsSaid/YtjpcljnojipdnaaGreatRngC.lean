/- obscuraref09.Valid, at valid parameters. -/
import Derived.Test.YtjpcljnojipdnaaGreatRngB
namespace Go.Proofs.YtjpcljnojipdnaaGreat
open Go.RowKit

theorem all_nd {x : Par} (hx : Good x) : (qsOf x x.ch.length true).Nodup := by
  unfold qsOf
  rw [List.take_length, if_pos rfl]
  refine List.nodup_append.2 ⟨hx.nd, by simp, fun a ha b hb => ?_⟩
  simp at hb
  subst hb
  have := (hx.ch a ha).2.2.2
  omega
theorem all_ok {x : Par} (hx : Good x) : ∀ q, q ∈ qsOf x x.ch.length true → 1073741824 < q ∧ q ≤ 2147483647 ∧ q % 2 = 1 := by
  intro q hq
  unfold qsOf at hq
  rcases List.mem_append.1 hq with h | h
  · have := hx.ch q (List.mem_of_mem_take h); exact ⟨this.1, this.2.1, this.2.2.1⟩
  · simp at h; subst h; exact hx.sp

set_option maxHeartbeats 4000000 in
set_option maxRecDepth 100000 in
theorem rvalid9_yes (x : Par) (cv : Value) (w : World) (hx : Good x) (hcv : SliceAt w cv x.ch) :
    Calls Tryz.prog 94 #[x.val cv] w fun r w' => r = .returned (.bool true) ∧ Below w.heap.size w w' := by
  obtain ⟨p, cap, rfl, hc1, hc2, hrow⟩ := hcv
  have hl1 := hx.l1
  have hl2 := hx.l2
  obtain ⟨b, off, rfl, hr⟩ := hrow (by intro e; rw [e] at hl1; simp at hl1)
  obtain ⟨i0, hi0, hz0, hz1, hz2⟩ := info_parts infoU32
  have hbW : Hid (Below w.heap.size w (w.alloc (.cells #[.int .i64 x.n, .int .u32 x.p, .int .i64 x.r, .slice (some ⟨b, off, none⟩) x.ch.length cap, .int .u32 x.sp, .int .i64 x.wt, .int .u32 x.er] 25))) := (Below.refl _ _).alloc (Nat.le_refl _) _
  have hR := Lib.hid (hr.below hbW.out hr.blk)
  have HX := Lib.hid hx
  have hsp := hx.sp
  have hs1 : ((x.sp : Int) != 0) = true := by rw [bne_iff_ne]; omega
  have d1 : decide ((x.ch.length : Int) < 1) = false := decide_eq_false (by omega)
  have d2 : decide ((24 : Int) < (x.ch.length : Int)) = false := decide_eq_false (by omega)
  have hdm := isDim_cases hx.dim
  obtain ⟨n, hn⟩ : ∃ n, x.n = n := ⟨_, rfl⟩
  rw [hn] at hdm
  have b4 : (n != 4) = false ∨ ((n != 4) = true ∧ (n != 8) = false) ∨ ((n != 4) = true ∧ (n != 8) = true ∧ (n != 16) = false) ∨ ((n != 4) = true ∧ (n != 8) = true ∧ (n != 16) = true ∧ (n != 32) = false) := by
    rcases hdm with rfl | rfl | rfl | rfl <;> decide
  clear hrow hr hx hsp hdm
  unfold Par.val
  rw [hn] at hbW hR ⊢
  clear hn
  rcases b4 with b4 | ⟨b4, b8⟩ | ⟨b4, b8, b16⟩ | ⟨b4, b8, b16, b32⟩
  all_goals
    go_enter Tryz.func94, Tryz.ntmps94
    go_wp2_with (at_builtin; refine wpList_append_own _ rfl _ _ 23 rfl w.heap.size 22 i0 (.int .u32 0) 1 4 Tryz.underlying23 hi0 hz0 hz1 hz2 rfl (by decide) _ 0 [] rfl (World.ownsRow_nil _ _ _ _) ⟨b, off, none⟩ x.ch.length cap (u32s x.ch) rfl ?c1 (row_cells hR.out) (u32s_one _) ?c4 ?c5 ?c6 ?_)
    case c1 => simp [u32s]
    case c4 => unfold maxLen; omega
    case c5 => omega
    case c6 => simp
    intro v' w1 hown hgrow _
    have hB : Hid (Below w.heap.size w w1) := hbW.out.grown hgrow (by simp) (by intro q hq; cases hq)
    have hsz : w.heap.size ≤ w1.heap.size := hB.out.size
    have y4 : w1.cell? ⟨w.heap.size, 4, none⟩ = some (.int .u32 x.sp) := by
      have hb1 : Below (w.alloc (.cells #[.int .i64 n, .int .u32 x.p, .int .i64 x.r, .slice (some ⟨b, off, none⟩) x.ch.length cap, .int .u32 x.sp, .int .i64 x.wt, .int .u32 x.er] 25)).heap.size (w.alloc (.cells #[.int .i64 n, .int .u32 x.p, .int .i64 x.r, .slice (some ⟨b, off, none⟩) x.ch.length cap, .int .u32 x.sp, .int .i64 x.wt, .int .u32 x.er] 25)) w1 := (Below.refl _ _).grown hgrow (Nat.le_refl _) (by intro q hq; cases hq)
      exact (below_at hb1 (by simp)).trans (by simp [go_sem])
    have HO := Lib.hid hown
    clear hown hgrow
    go_wp2_with (at_builtin; refine wpList_append_own _ rfl _ _ 23 rfl w.heap.size 22 i0 (.int .u32 0) 1 4 Tryz.underlying23 hi0 hz0 hz1 hz2 rfl (by decide) _ _ _ rfl (HO.out.alloc _) ⟨w1.heap.size, 0, none⟩ 1 1 [.int .u32 x.sp] rfl rfl ?d1 ?d2 ?d3 ?d4 ?d5 ?_)
    case d1 => exact cell_one_new _ _ _
    case d2 => intro u hu; simp at hu; subst hu; rfl
    case d3 => unfold maxLen; omega
    case d4 => omega
    case d5 => simp; omega
    intro v2 w2 hown2 hgrow2 _
    have hB2 : Hid (Below w.heap.size w w2) := (hB.out.alloc hB.out.size _).grown hgrow2 (by simp; omega) (own_ge HO.out)
    have hS : Hid (SliceAt w2 v2 (qsOf x x.ch.length true)) := SliceAt.ofOwns (l := qsOf x x.ch.length true) (n := 0 + x.ch.length + 1) (by unfold qsOf; simpa [u32s] using hown2) (by rw [qs_len (Nat.le_refl _)]; simp; omega) (fun q hq => by have := qs_mem HX.out q hq; omega)
    have hND := Lib.hid (all_nd HX.out)
    have hOK := Lib.hid (all_ok HX.out)
    have hLN : Hid ((qsOf x x.ch.length true).length = x.ch.length + 1) := qs_len (Nat.le_refl _)
    clear hown2 hgrow2 HO y4 hB hbW hR HX
    generalize qsOf x x.ch.length true = A at hS hND hOK hLN
    obtain ⟨pa, ca, rfl, ha1, ha2, hra⟩ := hS.out
    obtain ⟨ga, oa, rfl, hRA⟩ := hra (by intro e; have := hLN.out; rw [e] at this; simp at this)
    have HRA := Lib.hid hRA
    have hA26 : A.length ≤ 26 := by have := hLN.out; omega
    clear hra hRA hS hLN
    go_wp2_with fail
    go_loopw [4] (fun vi wr => ∃ i : Nat, vi = .int .i64 i ∧ i ≤ A.length ∧ Hid (Below w2.heap.size w2 wr)) (fun vi _ => A.length - (intOf vi).toNat)
    case atStart => exact ⟨0, rfl, by omega, Below.refl _ _⟩
    case round =>
      obtain ⟨i, rfl, hi, hbi⟩ := hrel
      by_cases hlt : i < A.length
      · have xq := (HRA.out.below hbi.out HRA.out.blk).cell i hlt
        have hq := hOK.out _ (List.getElem_mem hlt)
        obtain ⟨q, hqq⟩ : ∃ q, A[i] = q := ⟨_, rfl⟩
        have hND2 : Hid (∀ k (hk : k < i), A[k]'(by omega) ≠ q) := fun k hk e => by
          have := List.pairwise_iff_getElem.1 hND.out k i (by omega) hlt hk
          exact this (e.trans hqq.symm)
        rw [hqq] at xq hq
        have f1 : decide ((q : Int) < 3) = false := decide_eq_false (by omega)
        have f2 : decide ((2147483647 : Int) < (q : Int)) = false := decide_eq_false (by omega)
        have f3 : ((q : Int) % 2 == 0) = false := beq_eq_false_iff_ne.2 (by omega)
        have i0 : (0 : Int) ≤ (i : Int) := by omega
        have i1 : (i : Int) < (A.length : Int) := by omega
        obtain ⟨wo, hwo⟩ : ∃ wo : World, wo = wr := ⟨_, rfl⟩
        rw [← hwo] at xq hbi ⊢
        have HQQ := Lib.hid hqq
        clear hqq hq hwo
        go_wp2_with fail
        go_loopw [5] (fun vk wr => ∃ k : Nat, vk = .int .i64 k ∧ k ≤ i ∧ Hid (Below w2.heap.size w2 wr)) (fun vk _ => i - (intOf vk).toNat)
        case atStart => exact ⟨0, rfl, by omega, hbi⟩
        case round =>
          obtain ⟨k, rfl, hk, hbk⟩ := hrel
          by_cases hlk : k < i
          · have xk := (HRA.out.below hbk.out HRA.out.blk).cell k (by omega)
            have xi := (HRA.out.below hbk.out HRA.out.blk).cell i hlt
            rw [HQQ.out] at xi
            have hne := hND2.out k hlk
            obtain ⟨q2, hq2⟩ : ∃ q2, A[k]'(by omega) = q2 := ⟨_, rfl⟩
            rw [hq2] at xk hne
            have fe : ((q2 : Int) == (q : Int)) = false := beq_eq_false_iff_ne.2 (by omega)
            have k0 : (0 : Int) ≤ (k : Int) := by omega
            have k1 : (k : Int) < (A.length : Int) := by omega
            have k2 : (k : Int) < (i : Int) := by omega
            clear hq2 hne
            go_wp2_with fail
            go_quiet (fail)
            go_wp2_with fail
            go_roundw
            case rel => exact ⟨k + 1, by go_num, by omega, below_drewN hbk.out _⟩
            case measure => simp [intOf]; omega
          · have k2 : ¬ ((k : Int) < (i : Int)) := by omega
            go_wp2_with fail
            go_roundw
            case rel => exact ⟨i + 1, by go_num, by omega, hbk⟩
            case measure => simp [intOf]; omega
      · have i1 : ¬ ((i : Int) < (A.length : Int)) := by omega
        have hF : Hid (Below w.heap.size w wr) := hB2.out.trans (hbi.out.mono hB2.out.size)
        go_wp2_with fail
        go_ret
        exact ⟨rfl, hF.out⟩
end Go.Proofs.YtjpcljnojipdnaaGreat
