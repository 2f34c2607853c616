/- obscuraref09: place, Moduli, at valid parameters; elements in memory. -/
import Derived.Test.YtjpcljnojipdnaaGreatRngA
import Derived.Test.YtjpcljnojipdnaaGreatChnA
namespace Go.Proofs.YtjpcljnojipdnaaGreat
open Go.RowKit

/-- The moduli of a level. -/
def qsOf (x : Par) (L : Nat) (sp : Bool) : List Nat := x.ch.take L ++ (if sp then [x.sp] else [])
def plB (x : Par) (lv : Int) : Bool := decide (1 ≤ lv) && decide (lv ≤ x.ch.length)
theorem qs_len {x : Par} {L : Nat} {sp : Bool} (h : L ≤ x.ch.length) : (qsOf x L sp).length = L + (if sp then 1 else 0) := by
  unfold qsOf; rw [List.length_append, List.length_take, Nat.min_eq_left h]; cases sp <;> rfl
theorem qs_mem {x : Par} (hx : Good x) {L : Nat} {sp : Bool} : ∀ q, q ∈ qsOf x L sp → 1073741824 < q ∧ q ≤ 2147483647 := by
  intro q hq
  unfold qsOf at hq
  rcases List.mem_append.1 hq with h | h
  · have := hx.ch q (List.mem_of_mem_take h); exact ⟨this.1, this.2.1⟩
  · cases sp with
    | false => simp at h
    | true => simp at h; subst h; exact ⟨hx.sp.1, hx.sp.2.1⟩

theorem rplace9_any (x : Par) (cv : Value) (lv : Int) (sp : Bool) (w : World) (hx : Good x) (hcv : SliceAt w cv x.ch) :
    Calls Tryz.prog 95 #[x.val cv, .int .i64 lv, .bool sp] w fun r w' => r = .returned (.bool (plB x lv)) ∧ Below w.heap.size w w' := by
  obtain ⟨p, cap, rfl, hc1, hc2, hrow⟩ := hcv
  have hsp := hx.sp
  have hL2 := hx.l2
  have d3 : ((x.sp : Int) != 0) = true := by rw [bne_iff_ne]; omega
  have hbW : Hid (Below w.heap.size w (w.alloc (.cells #[.int .i64 x.n, .int .u32 x.p, .int .i64 x.r, .slice p x.ch.length cap, .int .u32 x.sp, .int .i64 x.wt, .int .u32 x.er] 25))) := (Below.refl _ _).alloc (Nat.le_refl _) _
  clear hrow hx hsp
  unfold Par.val
  by_cases h1 : 1 ≤ lv
  · by_cases h2 : lv ≤ x.ch.length
    · have e1 : decide (1 ≤ lv) = true := decide_eq_true h1
      have e2 : decide (lv ≤ (x.ch.length : Int)) = true := decide_eq_true h2
      have hR : Hid (plB x lv = true) := by show _ = _; unfold plB; rw [e1, e2]; rfl
      cases sp
      all_goals
        go_enter Tryz.func95, Tryz.ntmps95
        go_wp2_with fail
        go_ret
        exact ⟨ret_bool hR.out.symm, hbW.out⟩
    · have e1 : decide (1 ≤ lv) = true := decide_eq_true h1
      have e2 : decide (lv ≤ (x.ch.length : Int)) = false := decide_eq_false h2
      have hR : Hid (plB x lv = false) := by show _ = _; unfold plB; rw [e1, e2]; rfl
      go_enter Tryz.func95, Tryz.ntmps95
      go_wp2_with fail
      go_ret
      exact ⟨ret_bool hR.out.symm, hbW.out⟩
  · have e1 : decide (1 ≤ lv) = false := decide_eq_false h1
    have hR : Hid (plB x lv = false) := by show _ = _; unfold plB; rw [e1]; rfl
    go_enter Tryz.func95, Tryz.ntmps95
    go_wp2_with fail
    go_ret
    exact ⟨ret_bool hR.out.symm, hbW.out⟩

theorem row_cells {w : World} {b off : Nat} {l : List Nat} (h : RowAt w b off l) : ∀ (j : Nat) (u : Value), (u32s l)[j]? = some u → w.cell? ((⟨b, off, none⟩ : Addr).add j) = some u := by
  intro j u hu
  have hadd : (⟨b, off, none⟩ : Addr).add j = ⟨b, off + j, none⟩ := by unfold Addr.add; split <;> simp_all
  rw [hadd]
  unfold u32s at hu
  rw [List.getElem?_map] at hu
  by_cases hj : j < l.length
  · rw [List.getElem?_eq_getElem hj] at hu
    simp at hu
    rw [← hu]; exact h.cell j hj
  · rw [List.getElem?_eq_none (by omega)] at hu; simp at hu
theorem u32s_one (l : List Nat) : ∀ u, u ∈ u32s l → u.oneCell' = true := by intro u hu; obtain ⟨z, _, rfl⟩ := List.mem_map.1 hu; rfl
theorem RowAt.take {w : World} {b off : Nat} {l : List Nat} (h : RowAt w b off l) (n : Nat) : RowAt w b off (l.take n) :=
  ⟨h.blk, fun i hi => by rw [List.length_take] at hi; rw [h.cell i (by omega), List.getElem_take], fun q hq => h.rng q (List.mem_of_mem_take hq)⟩

set_option maxHeartbeats 2000000 in
set_option maxRecDepth 100000 in
theorem rmoduli9_any (x : Par) (cv : Value) (L : Nat) (sp : Bool) (w : World) (hx : Good x) (hcv : SliceAt w cv x.ch) (hL1 : 1 ≤ L) (hL : L ≤ x.ch.length) :
    Calls Tryz.prog 52 #[x.val cv, .int .i64 L, .bool sp] w fun r w' => (∃ v, r = .returned v ∧ SliceAt w' v (qsOf x L sp)) ∧ Below w.heap.size w w' := by
  obtain ⟨p, cap, rfl, hc1, hc2, hrow⟩ := hcv
  obtain ⟨b, off, rfl, hr⟩ := hrow (by intro e; rw [e] at hL; simp at hL; omega)
  have hl2 := hx.l2
  obtain ⟨i0, hi0, hz0, hz1, hz2⟩ := info_parts infoU32
  have hbW : Hid (Below w.heap.size w (w.alloc (.cells #[.int .i64 x.n, .int .u32 x.p, .int .i64 x.r, .slice (some ⟨b, off, none⟩) x.ch.length cap, .int .u32 x.sp, .int .i64 x.wt, .int .u32 x.er] 25))) := (Below.refl _ _).alloc (Nat.le_refl _) _
  have hR := Lib.hid ((hr.below hbW.out hr.blk).take L)
  have hlen : Hid ((x.ch.take L).length = L) := by show _ = _; rw [List.length_take]; omega
  have HX := Lib.hid hx
  have hLc : L ≤ cap := by omega
  clear hrow hr hx
  unfold Par.val
  cases sp
  case false =>
    go_enter Tryz.func52, Tryz.ntmps52
    go_wp2_with (at_builtin; refine wpList_append_own _ rfl _ _ 23 rfl w.heap.size 22 i0 (.int .u32 0) 1 4 Tryz.underlying23 hi0 hz0 hz1 hz2 rfl (by decide) _ 0 [] rfl (World.ownsRow_nil _ _ _ _) ⟨b, off, none⟩ L cap (u32s (x.ch.take L)) rfl ?c1 (row_cells hR.out) (u32s_one _) ?c4 ?c5 ?c6 ?_)
    case c1 => unfold u32s; rw [List.length_map, hlen.out, Nat.mul_one]
    case c4 => unfold maxLen; omega
    case c5 => omega
    case c6 => simp
    intro v' w1 hown hgrow _
    have hB : Hid (Below w.heap.size w w1) := hbW.out.grown hgrow (by simp) (by intro q hq; cases hq)
    have hS : Hid (SliceAt w1 v' (qsOf x L false)) := SliceAt.ofOwns (l := qsOf x L false) (n := 0 + L) (by unfold qsOf; simpa [u32s] using hown) (by rw [qs_len hL]; simp; omega) (fun q hq => by have := qs_mem HX.out q hq; omega)
    clear hown hgrow
    go_wp2_with fail
    go_ret
    exact ⟨⟨v', rfl, hS.out⟩, hB.out⟩
  case true =>
    go_enter Tryz.func52, Tryz.ntmps52
    go_wp2_with (at_builtin; refine wpList_append_own _ rfl _ _ 23 rfl w.heap.size 22 i0 (.int .u32 0) 1 4 Tryz.underlying23 hi0 hz0 hz1 hz2 rfl (by decide) _ 0 [] rfl (World.ownsRow_nil _ _ _ _) ⟨b, off, none⟩ L cap (u32s (x.ch.take L)) rfl ?c1 (row_cells hR.out) (u32s_one _) ?c4 ?c5 ?c6 ?_)
    case c1 => unfold u32s; rw [List.length_map, hlen.out, Nat.mul_one]
    case c4 => unfold maxLen; omega
    case c5 => omega
    case c6 => simp
    intro v' w1 hown hgrow _
    have hB : Hid (Below w.heap.size w w1) := hbW.out.grown hgrow (by simp) (by intro q hq; cases hq)
    have hsz : w.heap.size ≤ w1.heap.size := hB.out.size
    have y4 : w1.cell? ⟨w.heap.size, 4, none⟩ = some (.int .u32 x.sp) := by
      have hb1 : Below (w.alloc (.cells #[.int .i64 x.n, .int .u32 x.p, .int .i64 x.r, .slice (some ⟨b, off, none⟩) x.ch.length cap, .int .u32 x.sp, .int .i64 x.wt, .int .u32 x.er] 25)).heap.size (w.alloc (.cells #[.int .i64 x.n, .int .u32 x.p, .int .i64 x.r, .slice (some ⟨b, off, none⟩) x.ch.length cap, .int .u32 x.sp, .int .i64 x.wt, .int .u32 x.er] 25)) w1 := (Below.refl _ _).grown hgrow (Nat.le_refl _) (by intro q hq; cases hq)
      exact (below_at hb1 (by simp)).trans (by simp [go_sem])
    have HO := Lib.hid hown
    clear hown hgrow
    go_wp2_with (at_builtin; refine wpList_append_own _ rfl _ _ 23 rfl w.heap.size 22 i0 (.int .u32 0) 1 4 Tryz.underlying23 hi0 hz0 hz1 hz2 rfl (by decide) _ L _ rfl (HO.out.alloc _) ⟨w1.heap.size, 0, none⟩ 1 1 [.int .u32 x.sp] rfl rfl ?d1 ?d2 ?d3 ?d4 ?d5 ?_)
    case d1 => exact cell_one_new _ _ _
    case d2 => intro u hu; simp at hu; subst hu; rfl
    case d3 => unfold maxLen; omega
    case d4 => omega
    case d5 => simp; omega
    intro v2 w2 hown2 hgrow2 _
    have hB2 : Hid (Below w.heap.size w w2) := (hB.out.alloc hB.out.size _).grown hgrow2 (by simp; omega) (own_ge HO.out)
    have hS : Hid (SliceAt w2 v2 (qsOf x L true)) := SliceAt.ofOwns (l := qsOf x L true) (n := L + 1) (by unfold qsOf; simpa [u32s] using hown2) (by rw [qs_len hL]; simp; omega) (fun q hq => by have := qs_mem HX.out q hq; omega)
    clear hown2 hgrow2
    go_wp2_with fail
    go_ret
    exact ⟨⟨v2, rfl, hS.out⟩, hB2.out⟩
end Go.Proofs.YtjpcljnojipdnaaGreat
