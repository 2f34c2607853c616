/- obscuralaw13.Small at 1 level. keys.Turned, obscuraref13.Turned: one contract each. obscuralaw13.awake. -/
import Derived.Test.YtjpcljnojipdnaaGreatKeyW
/-! obscuralaw13.Small at 1 level. -/
namespace Go.Proofs.YtjpcljnojipdnaaGreat
open Go.RowKit

theorem smallP_val (v : Value) : smallP.val v = .agg #[.int .i64 4, .int .u32 17, .int .i64 1, v, .int .u32 2147483249, .int .i64 4, .int .u32 2] := rfl
set_option maxHeartbeats 1000000 in
set_option maxRecDepth 100000 in
theorem small_any (w : World) :
    Calls Tryz.prog 30 #[.int .i64 1] w fun r w' => Below w.heap.size w w' ∧ ∃ v, r = .returned (smallP.val v) ∧ SliceAt w' v smallP.ch := by
  have hB := Blk.new w #[.int .i64 0, .int .u32 0, .int .i64 0, .slice none 0 0, .int .u32 0, .int .i64 0, .int .u32 0] 25
  have hbW : Below w.heap.size w (w.alloc (.cells #[.int .i64 0, .int .u32 0, .int .i64 0, .slice none 0 0, .int .u32 0, .int .i64 0, .int .u32 0] 25)) := (Below.refl _ _).alloc (Nat.le_refl _) _
  have HB := Lib.hid hB
  have HBW := Lib.hid hbW
  clear hB hbW
  go_enter Tryz.func30, Tryz.ntmps30
  go_wp2_with fail
  refine (rdefault_any 4 17 1 1 _ (by decide) (by decide) (by decide) (by decide) (by decide)).mono ?_
  rintro r W ⟨hb, v, rfl, hsl⟩
  rw [defPar_small, defErr_small, smallP_val]
  rw [defPar_small] at hsl
  obtain ⟨pa, cap, rfl⟩ : ∃ (pa : Option Addr) (cap : Nat), v = .slice pa 1 cap := by obtain ⟨pa, cap, e, _⟩ := hsl; exact ⟨pa, cap, e⟩
  have HBK := Lib.hid (HB.out.below hb HB.out.lt)
  have HBB := Lib.hid (HBW.out.trans (hb.mono HBW.out.size))
  have HSL := Lib.hid hsl
  clear hb hsl
  have hone : Hid ((#[.int .i64 4, .int .u32 17, .int .i64 1, .slice pa 1 cap, .int .u32 2147483249, .int .i64 4, .int .u32 2] : Array Value).all (·.oneCell') = true) := by show _ = _; simp; exact ⟨rfl, rfl, rfl, rfl, rfl, rfl, rfl⟩
  go_wp2_with (refine wpList_store_row rfl 25 _ _ rfl w.heap.size rfl 25 _ _ rfl (HBK.out.alloc _) infoP rfl hone.out ?_)
  have hF := (HBK.out.alloc (.cells #[.int .i64 4, .int .u32 17, .int .i64 1, .slice pa 1 cap, .int .u32 2147483249, .int .i64 4, .int .u32 2] 25)).row [.int .i64 4, .int .u32 17, .int .i64 1, .slice pa 1 cap, .int .u32 2147483249, .int .i64 4, .int .u32 2]
  have hbF : Below w.heap.size w ((W.alloc (.cells #[.int .i64 4, .int .u32 17, .int .i64 1, .slice pa 1 cap, .int .u32 2147483249, .int .i64 4, .int .u32 2] 25)).setRow w.heap.size #[.int .i64 4, .int .u32 17, .int .i64 1, .slice pa 1 cap, .int .u32 2147483249, .int .i64 4, .int .u32 2]) := below_row (HBB.out.alloc HBB.out.size _) (Nat.le_refl _) _
  have hR7 : BoxP ((W.alloc (.cells #[.int .i64 4, .int .u32 17, .int .i64 1, .slice pa 1 cap, .int .u32 2147483249, .int .i64 4, .int .u32 2] 25)).setRow w.heap.size #[.int .i64 4, .int .u32 17, .int .i64 1, .slice pa 1 cap, .int .u32 2147483249, .int .i64 4, .int .u32 2]) w.heap.size smallP (.slice pa 1 cap) := BoxP.ofBlk hF
  have k0 : ((W.alloc (.cells #[.int .i64 4, .int .u32 17, .int .i64 1, .slice pa 1 cap, .int .u32 2147483249, .int .i64 4, .int .u32 2] 25)).setRow w.heap.size #[.int .i64 4, .int .u32 17, .int .i64 1, .slice pa 1 cap, .int .u32 2147483249, .int .i64 4, .int .u32 2]).cell? ⟨w.heap.size, 0, none⟩ = some (.int .i64 4) := hR7.n
  have k1 : ((W.alloc (.cells #[.int .i64 4, .int .u32 17, .int .i64 1, .slice pa 1 cap, .int .u32 2147483249, .int .i64 4, .int .u32 2] 25)).setRow w.heap.size #[.int .i64 4, .int .u32 17, .int .i64 1, .slice pa 1 cap, .int .u32 2147483249, .int .i64 4, .int .u32 2]).cell? ⟨w.heap.size, 1, none⟩ = some (.int .u32 17) := hR7.p
  have k2 : ((W.alloc (.cells #[.int .i64 4, .int .u32 17, .int .i64 1, .slice pa 1 cap, .int .u32 2147483249, .int .i64 4, .int .u32 2] 25)).setRow w.heap.size #[.int .i64 4, .int .u32 17, .int .i64 1, .slice pa 1 cap, .int .u32 2147483249, .int .i64 4, .int .u32 2]).cell? ⟨w.heap.size, 2, none⟩ = some (.int .i64 1) := hR7.r
  have k3 : ((W.alloc (.cells #[.int .i64 4, .int .u32 17, .int .i64 1, .slice pa 1 cap, .int .u32 2147483249, .int .i64 4, .int .u32 2] 25)).setRow w.heap.size #[.int .i64 4, .int .u32 17, .int .i64 1, .slice pa 1 cap, .int .u32 2147483249, .int .i64 4, .int .u32 2]).cell? ⟨w.heap.size, 3, none⟩ = some (.slice pa 1 cap) := hR7.ch
  have k4 : ((W.alloc (.cells #[.int .i64 4, .int .u32 17, .int .i64 1, .slice pa 1 cap, .int .u32 2147483249, .int .i64 4, .int .u32 2] 25)).setRow w.heap.size #[.int .i64 4, .int .u32 17, .int .i64 1, .slice pa 1 cap, .int .u32 2147483249, .int .i64 4, .int .u32 2]).cell? ⟨w.heap.size, 4, none⟩ = some (.int .u32 2147483249) := hR7.sp
  have k5 : ((W.alloc (.cells #[.int .i64 4, .int .u32 17, .int .i64 1, .slice pa 1 cap, .int .u32 2147483249, .int .i64 4, .int .u32 2] 25)).setRow w.heap.size #[.int .i64 4, .int .u32 17, .int .i64 1, .slice pa 1 cap, .int .u32 2147483249, .int .i64 4, .int .u32 2]).cell? ⟨w.heap.size, 5, none⟩ = some (.int .i64 4) := hR7.wt
  have k6 : ((W.alloc (.cells #[.int .i64 4, .int .u32 17, .int .i64 1, .slice pa 1 cap, .int .u32 2147483249, .int .i64 4, .int .u32 2] 25)).setRow w.heap.size #[.int .i64 4, .int .u32 17, .int .i64 1, .slice pa 1 cap, .int .u32 2147483249, .int .i64 4, .int .u32 2]).cell? ⟨w.heap.size, 6, none⟩ = some (.int .u32 2) := hR7.er
  refine bodyPost_ret (v := .agg #[.int .i64 4, .int .u32 17, .int .i64 1, .slice pa 1 cap, .int .u32 2147483249, .int .i64 4, .int .u32 2]) (by simp [results, Tryz.results30, go_sem, k0, k1, k2, k3, k4, k5, k6]) rfl ⟨hbF, .slice pa 1 cap, rfl, ?_⟩
  obtain ⟨pa', cap', e, h2, h3, h4⟩ := HSL.out
  injection e with e1 e2 e3
  subst e1 e3
  obtain ⟨b, off, hp, hr⟩ := h4 (by decide)
  have hb : b ≠ w.heap.size := by
    intro hbe
    have hr0 := hr.cell 0 (by decide)
    rw [hbe, HBK.out.get] at hr0
    have h1 := List.mem_of_getElem? hr0
    simp [smallP] at h1
  exact ⟨pa, cap, rfl, h2, h3, fun _ => ⟨b, off, hp, hr.same ((setRow_other _ _ _ _ (by omega)).trans (Below.heap_alloc W _ b hr.blk))⟩⟩
end Go.Proofs.YtjpcljnojipdnaaGreat

/-! keys.Turned, obscuraref13.Turned: one contract each. -/
namespace Go.Proofs.YtjpcljnojipdnaaGreat
open Go.RowKit

theorem turnOk_parts {pr : Nat → Bool} {x : Par} {l : List Int} {k : Int} (h : turnOk pr x l k = true) : okB pr x = true ∧ secB x l = true ∧ autB x k = true := by
  unfold turnOk at h
  rw [Bool.and_eq_true, Bool.and_eq_true] at h
  exact ⟨h.1.1, h.1.2, h.2⟩
theorem secB_len {x : Par} {l : List Int} (h : secB x l = true) : (l.length : Int) = x.n ∧ ∀ z, z ∈ l → small1 z = true := by
  unfold secB at h
  rw [Bool.and_eq_true, Bool.and_eq_true] at h
  exact ⟨of_decide_eq_true h.2.1, fun z hz => List.all_eq_true.1 h.1 z hz⟩
theorem small1_wf {z : Int} (h : small1 z = true) : (Lit.int .i8 z).wf = true := by
  apply wf_i8_mk
  unfold small1 at h
  simp at h
  omega

theorem turned_any (x : Par) (cv sv : Value) (l : List Int) (k : Int) (w : World) (hx : ParOk x) (hcv : SliceAt w cv x.ch) (hs : SliceZ .i8 w sv l) :
    Calls Tryz.prog 33 #[x.val cv, .agg #[sv], .int .i64 k] w fun r w' => (∃ v, r = .returned (.tuple #[.agg #[v], .int .i64 (turnErr mPrime x l k)]) ∧ SliceZ .i8 w' v (turnList mPrime x l k)) ∧ Below w.heap.size w w' := by
  have hlen : l.length ≤ 140737488351232 := by obtain ⟨p, cap, _, _, h, _⟩ := hs; exact h
  cases hok : turnOk mPrime x l k with
  | false =>
    refine (turned_no x cv sv l k w hx hcv hs hlen hok).mono ?_
    rintro r w' ⟨rfl, hb⟩
    exact ⟨⟨_, by unfold turnErr; rw [hok]; rfl, by unfold turnList; rw [hok]; exact SliceZ.nil _ _⟩, hb⟩
  | true =>
    obtain ⟨h1, h2, h3⟩ := turnOk_parts hok
    have hd := okB_dim h1
    obtain ⟨hl, hsm⟩ := secB_len h2
    obtain ⟨N, hN⟩ : ∃ N : Nat, x.n = N := ⟨x.n.toNat, by omega⟩
    obtain ⟨K, rfl⟩ : ∃ K : Nat, k = K := ⟨k.toNat, by unfold autB at h3; simp at h3; omega⟩
    obtain ⟨p, cap, rfl, hc1, hc2, hrow⟩ := hs
    obtain ⟨b, off, rfl, hr⟩ := hrow (by intro e; subst e; simp at hl; omega)
    refine (turned_yes x cv b off cap N K l w hx hcv hr hc1 hlen hok hN).mono ?_
    rintro r w' ⟨g, rfl, hblk, _, hb⟩
    have hL : turnList mPrime x l K = turnTo N K l N := by unfold turnList; rw [hok, hN]; rfl
    have hS := SliceZ.ofBlk (k := .i8) (l := turnTo N K l N) hblk (by rw [turnTo_length]; omega) (fun q hq => small1_wf (turnTo_small hsm N q hq))
    rw [turnTo_length] at hS
    exact ⟨⟨_, by unfold turnErr; rw [hok]; rfl, by rw [hL]; exact hS⟩, hb⟩
theorem power_any (x : Par) (cv sv : Value) (l : List Int) (k : Int) (w : World) (hx : ParOk x) (hcv : SliceAt w cv x.ch) (hs : SliceZ .i8 w sv l) :
    Calls Tryz.prog 31 #[x.val cv, .agg #[sv], .int .i64 k] w fun r w' => (∃ v, r = .returned (.tuple #[v, .int .i64 (powErr mPrime x l k)]) ∧ SliceZ .i64 w' v (powList mPrime x l k)) ∧ Below w.heap.size w w' := by
  have hlen : l.length ≤ 140737488351232 := by obtain ⟨p, cap, _, _, h, _⟩ := hs; exact h
  cases hok : powOk mPrime x l k with
  | false =>
    refine (power_no x cv sv l k w hx hcv hs hlen hok).mono ?_
    rintro r w' ⟨rfl, hb⟩
    exact ⟨⟨_, by unfold powErr; rw [hok]; rfl, by unfold powList; rw [hok]; exact SliceZ.nil _ _⟩, hb⟩
  | true =>
    have hq := hok
    unfold powOk at hq
    simp only [Bool.and_eq_true, decide_eq_true_eq] at hq
    obtain ⟨⟨h1, h2⟩, h3, h4⟩ := hq
    have hd := okB_dim h1
    obtain ⟨hl, hsm⟩ := secB_len h2
    obtain ⟨N, hN⟩ : ∃ N : Nat, x.n = N := ⟨x.n.toNat, by omega⟩
    obtain ⟨K, rfl⟩ : ∃ K : Nat, k = K := ⟨k.toNat, by omega⟩
    obtain ⟨p, cap, rfl, hc1, hc2, hrow⟩ := hs
    obtain ⟨b, off, rfl, hr⟩ := hrow (by intro e; subst e; simp at hl; omega)
    refine (power_yes x cv b off cap N K l w hx hcv hr hc1 hlen hok hN).mono ?_
    rintro r w' ⟨v, rfl, hS, hb⟩
    have hL : powList mPrime x l K = (powTo N l K).take N := by unfold powList; rw [hok, hN]; rfl
    exact ⟨⟨v, by unfold powErr; rw [hok]; rfl, by rw [hL]; exact hS⟩, hb⟩
end Go.Proofs.YtjpcljnojipdnaaGreat

/-! obscuralaw13.awake. -/
namespace Go.Proofs.YtjpcljnojipdnaaGreat
open Go.RowKit

theorem smallP_ok : ParOk smallP := by constructor <;> decide
theorem okB_small : okB mPrime smallP = true := by
  have ht : smallP.t rPrime = 17 := powv_small
  have h1 : rPrime 2147483249 = true := by rw [rPrimeK_eq _ (by decide)]; decide +kernel
  have h2 : rPrime 2147481209 = true := by rw [rPrimeK_eq _ (by decide)]; decide +kernel
  have g1 : goodS rPrime 136 2147483249 = true := by unfold goodS; rw [h1]; decide
  have g2 : goodS rPrime 136 2147481209 = true := by unfold goodS; rw [h2]; decide
  have hs : stepOf rPrime smallP = 136 := by unfold stepOf; rw [ht]; rfl
  rw [okB_eq]; unfold okB
  rw [ht, hs, show smallP.sp = 2147483249 from rfl, show smallP.ch = [2147481209] from rfl, g1]
  simp only [List.any_cons, List.any_nil, badB, g2]
  decide
theorem turn_small : turnList mPrime smallP [1, 1, -1, 1] 3 = [1, 1, 1, 1] ∧ turnErr mPrime smallP [1, 1, -1, 1] 3 = 0 := by
  have h : turnOk mPrime smallP [1, 1, -1, 1] 3 = true := by unfold turnOk; rw [okB_small]; decide
  unfold turnList turnErr
  rw [h]; decide
theorem pow_small : powList mPrime smallP [1, 1, -1, 1] 2 = [-2, 4, -2, 0] ∧ powErr mPrime smallP [1, 1, -1, 1] 2 = 0 := by
  have h : powOk mPrime smallP [1, 1, -1, 1] 2 = true := by unfold powOk; rw [okB_small]; decide
  unfold powList powErr
  rw [h]; decide
theorem csec_small : csec mPrime smallP [1, 1, 1, 1] = 0 := by unfold csec; rw [okB_small]; decide
end Go.Proofs.YtjpcljnojipdnaaGreat
