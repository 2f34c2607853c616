/- obscuralaw13.Small at 1 level. -/
import Derived.Test.YtjfjbkocopaehaaKeyM
namespace Go.Proofs.Ytjfjbkocopaehaa
open Go.RowKit

theorem smallP_val (v : Value) : smallP.val v = .agg #[.int .i64 4, .int .u32 17, .int .i64 1, v, .int .u32 2147483249, .int .i64 4, .int .u32 2] := rfl
set_option maxHeartbeats 1000000 in
set_option maxRecDepth 100000 in
theorem small_any (w : World) :
    Calls Try.prog 39 #[.int .i64 1] w fun r w' => Below w.heap.size w w' ∧ ∃ v, r = .returned (smallP.val v) ∧ SliceAt w' v smallP.ch := by
  have hB := Blk.new w #[.int .i64 0, .int .u32 0, .int .i64 0, .slice none 0 0, .int .u32 0, .int .i64 0, .int .u32 0] 25
  have hbW : Below w.heap.size w (w.alloc (.cells #[.int .i64 0, .int .u32 0, .int .i64 0, .slice none 0 0, .int .u32 0, .int .i64 0, .int .u32 0] 25)) := (Below.refl _ _).alloc (Nat.le_refl _) _
  have HB := Lib.hid hB
  have HBW := Lib.hid hbW
  clear hB hbW
  go_enter Try.func39, Try.ntmps39
  go_wp2_with fail
  refine (rdefault_any 4 17 1 1 _ (by decide) (by decide) (by decide) (by decide) (by decide)).mono ?_
  rintro r W ⟨hb, v, rfl, hsl⟩
  rw [defPar_small, defErr_small, smallP_val]
  rw [defPar_small] at hsl
  obtain ⟨pa, cap, rfl⟩ : ∃ (pa : Option Addr) (cap : Nat), v = .slice pa 1 cap := by obtain ⟨pa, cap, e, _⟩ := hsl; exact ⟨pa, cap, e⟩
  have HBK := Lib.hid (HB.out.below hb HB.out.lt)
  have HBB := Lib.hid (HBW.out.trans (hb.mono HBW.out.size))
  have HSL := Lib.hid hsl
  clear hb hsl
  have hone : Hid ((#[.int .i64 4, .int .u32 17, .int .i64 1, .slice pa 1 cap, .int .u32 2147483249, .int .i64 4, .int .u32 2] : Array Value).all (·.oneCell') = true) := by show _ = _; simp; exact ⟨rfl, rfl, rfl, rfl, rfl, rfl, rfl⟩
  go_wp2_with (refine wpList_store_row rfl 25 _ _ rfl w.heap.size rfl 25 _ _ rfl (HBK.out.alloc _) infoP rfl hone.out ?_)
  have hF := (HBK.out.alloc (.cells #[.int .i64 4, .int .u32 17, .int .i64 1, .slice pa 1 cap, .int .u32 2147483249, .int .i64 4, .int .u32 2] 25)).row [.int .i64 4, .int .u32 17, .int .i64 1, .slice pa 1 cap, .int .u32 2147483249, .int .i64 4, .int .u32 2]
  have hbF : Below w.heap.size w ((W.alloc (.cells #[.int .i64 4, .int .u32 17, .int .i64 1, .slice pa 1 cap, .int .u32 2147483249, .int .i64 4, .int .u32 2] 25)).setRow w.heap.size #[.int .i64 4, .int .u32 17, .int .i64 1, .slice pa 1 cap, .int .u32 2147483249, .int .i64 4, .int .u32 2]) := below_row (HBB.out.alloc HBB.out.size _) (Nat.le_refl _) _
  have hR7 : BoxP ((W.alloc (.cells #[.int .i64 4, .int .u32 17, .int .i64 1, .slice pa 1 cap, .int .u32 2147483249, .int .i64 4, .int .u32 2] 25)).setRow w.heap.size #[.int .i64 4, .int .u32 17, .int .i64 1, .slice pa 1 cap, .int .u32 2147483249, .int .i64 4, .int .u32 2]) w.heap.size smallP (.slice pa 1 cap) := BoxP.ofBlk hF
  have k0 : ((W.alloc (.cells #[.int .i64 4, .int .u32 17, .int .i64 1, .slice pa 1 cap, .int .u32 2147483249, .int .i64 4, .int .u32 2] 25)).setRow w.heap.size #[.int .i64 4, .int .u32 17, .int .i64 1, .slice pa 1 cap, .int .u32 2147483249, .int .i64 4, .int .u32 2]).cell? ⟨w.heap.size, 0, none⟩ = some (.int .i64 4) := hR7.n
  have k1 : ((W.alloc (.cells #[.int .i64 4, .int .u32 17, .int .i64 1, .slice pa 1 cap, .int .u32 2147483249, .int .i64 4, .int .u32 2] 25)).setRow w.heap.size #[.int .i64 4, .int .u32 17, .int .i64 1, .slice pa 1 cap, .int .u32 2147483249, .int .i64 4, .int .u32 2]).cell? ⟨w.heap.size, 1, none⟩ = some (.int .u32 17) := hR7.p
  have k2 : ((W.alloc (.cells #[.int .i64 4, .int .u32 17, .int .i64 1, .slice pa 1 cap, .int .u32 2147483249, .int .i64 4, .int .u32 2] 25)).setRow w.heap.size #[.int .i64 4, .int .u32 17, .int .i64 1, .slice pa 1 cap, .int .u32 2147483249, .int .i64 4, .int .u32 2]).cell? ⟨w.heap.size, 2, none⟩ = some (.int .i64 1) := hR7.r
  have k3 : ((W.alloc (.cells #[.int .i64 4, .int .u32 17, .int .i64 1, .slice pa 1 cap, .int .u32 2147483249, .int .i64 4, .int .u32 2] 25)).setRow w.heap.size #[.int .i64 4, .int .u32 17, .int .i64 1, .slice pa 1 cap, .int .u32 2147483249, .int .i64 4, .int .u32 2]).cell? ⟨w.heap.size, 3, none⟩ = some (.slice pa 1 cap) := hR7.ch
  have k4 : ((W.alloc (.cells #[.int .i64 4, .int .u32 17, .int .i64 1, .slice pa 1 cap, .int .u32 2147483249, .int .i64 4, .int .u32 2] 25)).setRow w.heap.size #[.int .i64 4, .int .u32 17, .int .i64 1, .slice pa 1 cap, .int .u32 2147483249, .int .i64 4, .int .u32 2]).cell? ⟨w.heap.size, 4, none⟩ = some (.int .u32 2147483249) := hR7.sp
  have k5 : ((W.alloc (.cells #[.int .i64 4, .int .u32 17, .int .i64 1, .slice pa 1 cap, .int .u32 2147483249, .int .i64 4, .int .u32 2] 25)).setRow w.heap.size #[.int .i64 4, .int .u32 17, .int .i64 1, .slice pa 1 cap, .int .u32 2147483249, .int .i64 4, .int .u32 2]).cell? ⟨w.heap.size, 5, none⟩ = some (.int .i64 4) := hR7.wt
  have k6 : ((W.alloc (.cells #[.int .i64 4, .int .u32 17, .int .i64 1, .slice pa 1 cap, .int .u32 2147483249, .int .i64 4, .int .u32 2] 25)).setRow w.heap.size #[.int .i64 4, .int .u32 17, .int .i64 1, .slice pa 1 cap, .int .u32 2147483249, .int .i64 4, .int .u32 2]).cell? ⟨w.heap.size, 6, none⟩ = some (.int .u32 2) := hR7.er
  refine bodyPost_ret (v := .agg #[.int .i64 4, .int .u32 17, .int .i64 1, .slice pa 1 cap, .int .u32 2147483249, .int .i64 4, .int .u32 2]) (by simp [results, Try.results39, go_sem, k0, k1, k2, k3, k4, k5, k6]) rfl ⟨hbF, .slice pa 1 cap, rfl, ?_⟩
  obtain ⟨pa', cap', e, h2, h3, h4⟩ := HSL.out
  injection e with e1 e2 e3
  subst e1 e3
  obtain ⟨b, off, hp, hr⟩ := h4 (by decide)
  have hb : b ≠ w.heap.size := by
    intro hbe
    have hr0 := hr.cell 0 (by decide)
    rw [hbe, HBK.out.get] at hr0
    have h1 := List.mem_of_getElem? hr0
    simp [smallP] at h1
  exact ⟨pa, cap, rfl, h2, h3, fun _ => ⟨b, off, hp, hr.same ((setRow_other _ _ _ _ (by omega)).trans (Below.heap_alloc W _ b hr.blk))⟩⟩
end Go.Proofs.Ytjfjbkocopaehaa
