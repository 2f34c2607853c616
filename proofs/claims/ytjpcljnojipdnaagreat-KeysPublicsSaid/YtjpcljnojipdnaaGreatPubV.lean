/- Equal lists, elements, public keys; keys.NewSecret, keys.NewPublic without a supply. keys.NewSecret, keys.NewPublic without a supply. (Printed by gen_PubS.py.) KeysPublics: the walk. (Printed by gen_PubT.py.) For every input KeysPublics returns true and leaves its arguments as they are. No conditions. -/
import Derived.Test.YtjpcljnojipdnaaGreatPubJ
import Derived.Test.YtjpcljnojipdnaaGreatPubW
import Derived.Test.YtjpcljnojipdnaaGreatRows
import Derived.Test.YtjpcljnojipdnaaGreatRowA
import Derived.OpenShut
import Derived.ChangeOld
import Derived.ChangeMaps5
/-! Equal lists, elements, public keys; keys.NewSecret, keys.NewPublic without a supply. -/
namespace Go.Proofs.YtjpcljnojipdnaaGreat
open Go.RowKit Go.Shelf
set_option linter.unusedVariables false

set_option maxHeartbeats 2000000 in
theorem same5_yes (l : List Nat) (av bv : Value) (w : World) (ha : SliceAt w av l) (hb : SliceAt w bv l) :
    Calls Tryz.prog 110 #[av, bv] w fun e w' => e = .returned (.bool true) ∧ Below w.heap.size w w' := by
  obtain ⟨p1, c1, rfl, h11, h12, h1⟩ := ha
  obtain ⟨p2, c2, rfl, h21, h22, h2⟩ := hb
  have H1 := Lib.hid h1; have H2 := Lib.hid h2
  clear h1 h2
  go_enter Tryz.func110, Tryz.ntmps110
  go_wp2_with fail
  go_loopw [5] (fun vk wr => ∃ k : Nat, vk = .int .i64 k ∧ k ≤ l.length ∧ Hid (Below w.heap.size w wr)) (fun vk _ => l.length - (intOf vk).toNat)
  case atStart => exact ⟨0, rfl, by omega, Below.refl _ _⟩
  case round =>
    obtain ⟨k, rfl, hk, hbl⟩ := hrel
    by_cases hlt : k < l.length
    · obtain ⟨b1, o1, rfl, r1⟩ := H1.out (by intro e; rw [e] at hlt; simp at hlt)
      obtain ⟨b2, o2, rfl, r2⟩ := H2.out (by intro e; rw [e] at hlt; simp at hlt)
      have z1 := (below_at hbl.out r1.blk).trans (r1.cell k hlt)
      have z2 := (below_at hbl.out r2.blk).trans (r2.cell k hlt)
      have k0 : (0 : Int) ≤ (k : Int) := by omega
      have k1 : (k : Int) < (l.length : Int) := by omega
      have HB2 : ∀ n, Hid (Below w.heap.size w (wr.drewN n)) := fun n => (⟨hbl.out.os, hbl.out.tape, hbl.out.output, hbl.out.size, hbl.out.block⟩ : Below w.heap.size w (wr.drewN n))
      clear r1 r2
      generalize l[k] = q at z1 z2
      go_wp2_with fail
      go_quiet (fail)
      go_wp2_with fail
      go_roundw
      case rel => exact ⟨k + 1, by go_num, by omega, HB2 _⟩
      case measure => simp [intOf]; omega
    · obtain rfl : k = l.length := by omega
      have k1 : ¬ ((l.length : Int) < (l.length : Int)) := by omega
      go_wp2_with fail
      go_ret
      exact ⟨rfl, hbl.out⟩

set_option maxHeartbeats 4000000 in
set_option maxRecDepth 100000 in
theorem same9_yes (lv : Int) (sp : Bool) (rows : List (List Nat)) (av bv : Value) (w : World) (ha : SliceR w av rows) (hb : SliceR w bv rows) :
    Calls Tryz.prog 64 #[elVal lv sp av, elVal lv sp bv] w fun e w' => e = .returned (.bool true) ∧ Below w.heap.size w w' := by
  obtain ⟨p1, c1, rfl, h11, h12, h1⟩ := ha
  obtain ⟨p2, c2, rfl, h21, h22, h2⟩ := hb
  have hbW : Below w.heap.size w ((w.alloc (.cells #[.int .i64 lv, .bool sp, .slice p1 rows.length c1] 32)).alloc (.cells #[.int .i64 lv, .bool sp, .slice p2 rows.length c2] 32)) := ((Below.refl _ _).alloc (Nat.le_refl _) _).alloc (by simp) _
  have hA : ((w.alloc (.cells #[.int .i64 lv, .bool sp, .slice p1 rows.length c1] 32)).alloc (.cells #[.int .i64 lv, .bool sp, .slice p2 rows.length c2] 32)).cell? ⟨w.heap.size, 2, none⟩ = some (.slice p1 rows.length c1) := by simp [go_sem]
  have hB : ((w.alloc (.cells #[.int .i64 lv, .bool sp, .slice p1 rows.length c1] 32)).alloc (.cells #[.int .i64 lv, .bool sp, .slice p2 rows.length c2] 32)).cell? ⟨w.heap.size + 1, 2, none⟩ = some (.slice p2 rows.length c2) := by simp [go_sem]
  have hS : ((w.alloc (.cells #[.int .i64 lv, .bool sp, .slice p1 rows.length c1] 32)).alloc (.cells #[.int .i64 lv, .bool sp, .slice p2 rows.length c2] 32)).heap.size = w.heap.size + 2 := by simp
  have H1 := Lib.hid h1; have H2 := Lib.hid h2; have HBW := Lib.hid hbW; have HA := Lib.hid hA; have HB := Lib.hid hB; have HS := Lib.hid hS
  clear h1 h2 hbW hA hB hS
  unfold elVal
  go_enter Tryz.func64, Tryz.ntmps64
  go_wp2_with fail
  generalize ((w.alloc (.cells #[.int .i64 lv, .bool sp, .slice p1 rows.length c1] 32)).alloc (.cells #[.int .i64 lv, .bool sp, .slice p2 rows.length c2] 32)) = W1 at HBW HA HB HS ⊢
  go_loopw [5] (fun vk wr => ∃ k : Nat, vk = .int .i64 k ∧ k ≤ rows.length ∧ Hid (Below W1.heap.size W1 wr)) (fun vk _ => rows.length - (intOf vk).toNat)
  case atStart => exact ⟨0, rfl, by omega, Below.refl _ _⟩
  case round =>
    obtain ⟨k, rfl, hk, hbl⟩ := hrel
    have x1 := (below_at hbl.out (show w.heap.size < _ by rw [HS.out]; omega)).trans HA.out
    have x2 := (below_at hbl.out (show w.heap.size + 1 < _ by rw [HS.out]; omega)).trans HB.out
    have hbw : Below w.heap.size w wr := HBW.out.trans (hbl.out.mono HBW.out.size)
    by_cases hlt : k < rows.length
    · obtain ⟨b1, o1, rfl, hb1, r1⟩ := H1.out (by intro e; rw [e] at hlt; simp at hlt)
      obtain ⟨b2, o2, rfl, hb2, r2⟩ := H2.out (by intro e; rw [e] at hlt; simp at hlt)
      obtain ⟨u1, hu1, hs1⟩ := r1 k hlt
      obtain ⟨u2, hu2, hs2⟩ := r2 k hlt
      have z1 := (below_at hbw hb1).trans hu1
      have z2 := (below_at hbw hb2).trans hu2
      have k0 : (0 : Int) ≤ (k : Int) := by omega
      have k1 : (k : Int) < (rows.length : Int) := by omega
      have HBW2 := Lib.hid hbw
      have HS1 := Lib.hid hs1; have HS2 := Lib.hid hs2
      obtain ⟨q1, d1, rfl, _⟩ := hs1
      obtain ⟨q2, d2, rfl, _⟩ := hs2
      have hwr : w.heap.size + 2 ≤ wr.heap.size := by have := hbl.out.size; rw [HS.out] at this; exact this
      have hb1w : b1 < wr.heap.size := by omega
      have hb2w : b2 < wr.heap.size := by omega
      clear r1 r2 hu1 hu2 hbw
      go_wp2_with fail
      go_region_held3 (fun w' => w'.cell? ⟨w.heap.size, 2, none⟩ = some (.slice (some ⟨b1, o1, none⟩) rows.length c1) ∧ w'.cell? ⟨b1, o1 + k, none⟩ = some (.slice q1 rows[k].length d1) ∧ w'.cell? ⟨w.heap.size + 1, 2, none⟩ = some (.slice (some ⟨b2, o2, none⟩) rows.length c2) ∧ w'.cell? ⟨b2, o2 + k, none⟩ = some (.slice q2 rows[k].length d2)) (go_keep)
        (first | (go_at_call 110; refine (same5_yes rows[k] _ _ _ ((HS1.out.below HBW2.out).below (Below.refl _ _).drew) ((HS2.out.below HBW2.out).below (Below.refl _ _).drew)).mono ?_; rintro e W4 ⟨rfl, hb4⟩; have h4 : Below wr.heap.size wr W4 := below_then hb4 (Below.refl _ _).drew (Nat.le_refl _); have n1 := (below_at h4 (show w.heap.size < _ by omega)).trans x1; have n2 := (below_at h4 hb1w).trans z1; have n3 := (below_at h4 (show w.heap.size + 1 < _ by omega)).trans x2; have n4 := (below_at h4 hb2w).trans z2; have H4 := Lib.hid h4; clear hb4 h4))
      have HB5 : Hid (Below W1.heap.size W1 W4) := hbl.out.trans (H4.out.mono hbl.out.size)
      clear H4 n1 n2 n3 n4 x1 x2 z1 z2
      go_wp2_with fail
      go_roundw
      case rel => exact ⟨k + 1, by go_num, by omega, HB5⟩
      case measure => simp [intOf]; omega
    · obtain rfl : k = rows.length := by omega
      have k1 : ¬ ((rows.length : Int) < (rows.length : Int)) := by omega
      go_wp2_with fail
      go_ret
      exact ⟨rfl, hbw⟩

set_option maxHeartbeats 4000000 in
set_option maxRecDepth 100000 in
theorem samepub_yes (a b : El) (u1 v1 u2 v2 : Value) (w : World) (h1 : SliceR w u1 a.rows) (h2 : SliceR w v1 b.rows) (h3 : SliceR w u2 a.rows) (h4 : SliceR w v2 b.rows) :
    Calls Tryz.prog 24 #[pubVal a b u1 v1, pubVal a b u2 v2] w fun e w' => e = .returned (.bool true) ∧ Below w.heap.size w w' := by
  have H1 := Lib.hid h1; have H2 := Lib.hid h2; have H3 := Lib.hid h3; have H4 := Lib.hid h4
  obtain ⟨p1, c1, rfl, _⟩ := h1
  obtain ⟨p2, c2, rfl, _⟩ := h2
  obtain ⟨p3, c3, rfl, _⟩ := h3
  obtain ⟨p4, c4, rfl, _⟩ := h4
  have hbW : Below w.heap.size w ((w.alloc (.cells #[.int .i64 a.lv, .bool a.sp, .slice p1 a.rows.length c1, .int .i64 b.lv, .bool b.sp, .slice p2 b.rows.length c2] 34)).alloc (.cells #[.int .i64 a.lv, .bool a.sp, .slice p3 a.rows.length c3, .int .i64 b.lv, .bool b.sp, .slice p4 b.rows.length c4] 34)) := ((Below.refl _ _).alloc (Nat.le_refl _) _).alloc (by simp) _
  have hA : Blk ((w.alloc (.cells #[.int .i64 a.lv, .bool a.sp, .slice p1 a.rows.length c1, .int .i64 b.lv, .bool b.sp, .slice p2 b.rows.length c2] 34)).alloc (.cells #[.int .i64 a.lv, .bool a.sp, .slice p3 a.rows.length c3, .int .i64 b.lv, .bool b.sp, .slice p4 b.rows.length c4] 34)) w.heap.size [.int .i64 a.lv, .bool a.sp, .slice p1 a.rows.length c1, .int .i64 b.lv, .bool b.sp, .slice p2 b.rows.length c2] 34 := (Blk.new w #[.int .i64 a.lv, .bool a.sp, .slice p1 a.rows.length c1, .int .i64 b.lv, .bool b.sp, .slice p2 b.rows.length c2] _).alloc _
  have hB : Blk ((w.alloc (.cells #[.int .i64 a.lv, .bool a.sp, .slice p1 a.rows.length c1, .int .i64 b.lv, .bool b.sp, .slice p2 b.rows.length c2] 34)).alloc (.cells #[.int .i64 a.lv, .bool a.sp, .slice p3 a.rows.length c3, .int .i64 b.lv, .bool b.sp, .slice p4 b.rows.length c4] 34)) (w.heap.size + 1) [.int .i64 a.lv, .bool a.sp, .slice p3 a.rows.length c3, .int .i64 b.lv, .bool b.sp, .slice p4 b.rows.length c4] 34 := by
    have h := Blk.new (w.alloc (.cells #[.int .i64 a.lv, .bool a.sp, .slice p1 a.rows.length c1, .int .i64 b.lv, .bool b.sp, .slice p2 b.rows.length c2] 34)) #[.int .i64 a.lv, .bool a.sp, .slice p3 a.rows.length c3, .int .i64 b.lv, .bool b.sp, .slice p4 b.rows.length c4] 34
    simpa using h
  have HBW := Lib.hid hbW; have HA := Lib.hid hA; have HB := Lib.hid hB
  clear hbW hA hB
  unfold pubVal
  go_enter Tryz.func24, Tryz.ntmps24
  go_wp2_with fail
  refine (same9_yes a.lv a.sp a.rows _ _ _ (H1.out.below HBW.out) (H3.out.below HBW.out)).mono ?_
  rintro e w1 ⟨rfl, hb1⟩
  have HBW1 := Lib.hid (HBW.out.trans (hb1.mono HBW.out.size))
  have hA1 := HA.out.below hb1 HA.out.lt
  have hB1 := HB.out.below hb1 HB.out.lt
  have a3 := hA1.cell 3 (by simp); have a4 := hA1.cell 4 (by simp); have a5 := hA1.cell 5 (by simp)
  have b3 := hB1.cell 3 (by simp); have b4 := hB1.cell 4 (by simp); have b5 := hB1.cell 5 (by simp)
  clear hb1 hA1 hB1
  go_wp2_with fail
  refine (same9_yes b.lv b.sp b.rows _ _ _ (H2.out.below HBW1.out) (H4.out.below HBW1.out)).mono ?_
  rintro e w2 ⟨rfl, hb2⟩
  have HBW2 := Lib.hid (HBW1.out.trans (hb2.mono HBW1.out.size))
  clear hb2
  go_wp2_with fail
  go_ret
  exact ⟨rfl, HBW2.out⟩

set_option maxHeartbeats 1000000 in
theorem ter_nil (n h : Int) (w : World) :
    Calls Tryz.prog 67 #[.pointer none, .int .i64 n, .int .i64 h] w fun e w' => e = .returned (.tuple #[.slice none 0 0, .int .i64 1]) ∧ Below w.heap.size w w' := by
  go_enter Tryz.func67, Tryz.ntmps67
  go_wp2_with fail
  refine (none_nil _).mono ?_
  rintro e wn ⟨rfl, rfl⟩
  go_wp2_with fail
  go_ret2
  refine ⟨rfl, ?_⟩
  first | exact ((Below.refl _ _).alloc (Nat.le_refl _) _).alloc (by simp) _ | exact (((Below.refl _ _).alloc (Nat.le_refl _) _).alloc (by simp) _).alloc (by simp; omega) _ | exact (Below.refl _ _).alloc (Nat.le_refl _) _
end Go.Proofs.YtjpcljnojipdnaaGreat

/-! keys.NewSecret, keys.NewPublic without a supply. (Printed by gen_PubS.py.) -/
namespace Go.Proofs.YtjpcljnojipdnaaGreat
open Go.RowKit Go.Shelf
set_option linter.unusedVariables false

def nilSec (x : Par) : Int := if okB mPrime x then 1 else 2
def nilPub (x : Par) (l : List Int) : Int := if csec mPrime x l = 0 then 1 else 2

set_option maxHeartbeats 2000000 in
set_option maxRecDepth 100000 in
theorem knewsec_nil (x : Par) (cv : Value) (w : World) (hxo : ParOk x) (hcv : SliceAt w cv x.ch) :
    Calls Tryz.prog 27 #[x.val cv, .pointer none] w fun e w' => e = .returned (.tuple #[.agg #[.slice none 0 0], .int .i64 (nilSec x)]) ∧ Below w.heap.size w w' := by
  obtain ⟨pc, ccv, rfl⟩ : ∃ pa ca, cv = .slice pa x.ch.length ca := by obtain ⟨p, c, e, _⟩ := hcv; exact ⟨p, c, e⟩
  have hbW : Below w.heap.size w ((w.alloc (.cells #[.int .i64 x.n, .int .u32 x.p, .int .i64 x.r, .slice pc x.ch.length ccv, .int .u32 x.sp, .int .i64 x.wt, .int .u32 x.er] 25)).alloc (.cells #[.slice none 0 0] 28)) := ((Below.refl _ _).alloc (Nat.le_refl _) _).alloc (by simp) _
  have hB : BoxP ((w.alloc (.cells #[.int .i64 x.n, .int .u32 x.p, .int .i64 x.r, .slice pc x.ch.length ccv, .int .u32 x.sp, .int .i64 x.wt, .int .u32 x.er] 25)).alloc (.cells #[.slice none 0 0] 28)) w.heap.size x (.slice pc x.ch.length ccv) := by constructor <;> simp [go_sem]
  have hR : Blk ((w.alloc (.cells #[.int .i64 x.n, .int .u32 x.p, .int .i64 x.r, .slice pc x.ch.length ccv, .int .u32 x.sp, .int .i64 x.wt, .int .u32 x.er] 25)).alloc (.cells #[.slice none 0 0] 28)) (w.heap.size + 1) [.slice none 0 0] 28 := by
    have h := Blk.new (w.alloc (.cells #[.int .i64 x.n, .int .u32 x.p, .int .i64 x.r, .slice pc x.ch.length ccv, .int .u32 x.sp, .int .i64 x.wt, .int .u32 x.er] 25)) #[.slice none 0 0] 28
    simpa using h
  have hS : ((w.alloc (.cells #[.int .i64 x.n, .int .u32 x.p, .int .i64 x.r, .slice pc x.ch.length ccv, .int .u32 x.sp, .int .i64 x.wt, .int .u32 x.er] 25)).alloc (.cells #[.slice none 0 0] 28)).heap.size = w.heap.size + 2 := by simp
  have HSL := Lib.hid (hcv.below hbW); have HBW := Lib.hid hbW; have HB := Lib.hid hB; have HR := Lib.hid hR; have HXO := Lib.hid hxo; have HS := Lib.hid hS
  clear hbW hB hR hxo hcv hS
  unfold Par.val nilSec
  cases hok : okB mPrime x with
  | false =>
    have HC := Lib.hid (chk_two hok)
    clear hok
    go_enter Tryz.func27, Tryz.ntmps27
    go_wp2_with fail
    refine (pcheck_any x _ _ HXO.out HSL.out).mono ?_
    rintro e w1 ⟨rfl, hb1⟩
    rw [HC.out]
    have hs1 : w.heap.size + 2 ≤ w1.heap.size := by have := hb1.size; rw [HS.out] at this; exact this
    have HR1 := Lib.hid (HR.out.below hb1 HR.out.lt)
    have HBW1 := Lib.hid (HBW.out.trans (hb1.mono HBW.out.size))
    have HB1 := HB.out.below hb1 (by rw [HS.out]; omega)
    have r1 := HR1.out.cell 0 (by simp); have f1 := HR1.out.free 0
    clear hb1 HB1
    go_wp2_with fail
    have q0 := (HR1.out.set 0 (.slice none 0 0)).cell 0 (by simp)
    refine bodyPost_ret (v := .tuple #[.agg #[.slice none 0 0], .int .i64 2]) (by simp [results, Tryz.results27, go_sem, q0]) rfl ⟨rfl, ?_⟩
    exact HBW1.out.setCell (p := ⟨w.heap.size + 1, 0, none⟩) (by show w.heap.size ≤ w.heap.size + 1; omega) _
  | true =>
    have HC := Lib.hid (chk_ok hok)
    clear hok
    go_enter Tryz.func27, Tryz.ntmps27
    go_wp2_with fail
    refine (pcheck_any x _ _ HXO.out HSL.out).mono ?_
    rintro e w1 ⟨rfl, hb1⟩
    rw [HC.out]
    have hs1 : w.heap.size + 2 ≤ w1.heap.size := by have := hb1.size; rw [HS.out] at this; exact this
    have HR1 := Lib.hid (HR.out.below hb1 HR.out.lt)
    have HBW1 := Lib.hid (HBW.out.trans (hb1.mono HBW.out.size))
    have HB1 := HB.out.below hb1 (by rw [HS.out]; omega)
    have y0 := HB1.n; have y5 := HB1.wt
    clear hb1 HB1
    go_wp2_with fail
    refine (ter_nil _ _ _).mono ?_
    rintro e w2 ⟨rfl, hb2⟩
    have HR2 := Lib.hid (HR1.out.below hb2 HR1.out.lt)
    have HBW2 := Lib.hid (HBW1.out.trans (hb2.mono HBW1.out.size))
    have r1 := HR2.out.cell 0 (by simp); have f1 := HR2.out.free 0
    clear hb2 y0 y5
    go_wp2_with fail
    have q0 := (HR2.out.set 0 (.slice none 0 0)).cell 0 (by simp)
    refine bodyPost_ret (v := .tuple #[.agg #[.slice none 0 0], .int .i64 1]) (by simp [results, Tryz.results27, go_sem, q0]) rfl ⟨rfl, ?_⟩
    exact HBW2.out.setCell (p := ⟨w.heap.size + 1, 0, none⟩) (by show w.heap.size ≤ w.heap.size + 1; omega) _

set_option maxHeartbeats 4000000 in
set_option maxRecDepth 100000 in
theorem knewpub_nil (x : Par) (cv sv : Value) (l : List Int) (w : World) (hxo : ParOk x) (hcv : SliceAt w cv x.ch) (hsv : SliceZ .i8 w sv l) (hlen : l.length ≤ 140737488351232) :
    Calls Tryz.prog 6 #[x.val cv, .agg #[sv], .pointer none] w fun e w' => e = .returned (.tuple #[.agg #[.int .i64 0, .bool false, .slice none 0 0, .int .i64 0, .bool false, .slice none 0 0], .int .i64 (nilPub x l)]) ∧ Below w.heap.size w w' := by
  obtain ⟨pc, ccv, rfl⟩ : ∃ pa ca, cv = .slice pa x.ch.length ca := by obtain ⟨p, c, e, _⟩ := hcv; exact ⟨p, c, e⟩
  have HCR : Hid (x.ch ≠ [] → ∃ b off, pc = some ⟨b, off, none⟩ ∧ RowAt w b off x.ch) := fun hne => by
    obtain ⟨p, c, e, _, _, h⟩ := hcv
    injection e with e1 _ _
    subst e1
    exact h hne
  obtain ⟨ps, cs, rfl⟩ : ∃ pa ca, sv = .slice pa l.length ca := by obtain ⟨p, c, e, _⟩ := hsv; exact ⟨p, c, e⟩
  have hbW : Below w.heap.size w (((w.alloc (.cells #[.int .i64 x.n, .int .u32 x.p, .int .i64 x.r, .slice pc x.ch.length ccv, .int .u32 x.sp, .int .i64 x.wt, .int .u32 x.er] 25)).alloc (.cells #[.slice ps l.length cs] 28)).alloc (.cells #[.int .i64 0, .bool false, .slice none 0 0, .int .i64 0, .bool false, .slice none 0 0] 34)) := (((Below.refl _ _).alloc (Nat.le_refl _) _).alloc (by simp) _).alloc (by simp; omega) _
  have hB : BoxP (((w.alloc (.cells #[.int .i64 x.n, .int .u32 x.p, .int .i64 x.r, .slice pc x.ch.length ccv, .int .u32 x.sp, .int .i64 x.wt, .int .u32 x.er] 25)).alloc (.cells #[.slice ps l.length cs] 28)).alloc (.cells #[.int .i64 0, .bool false, .slice none 0 0, .int .i64 0, .bool false, .slice none 0 0] 34)) w.heap.size x (.slice pc x.ch.length ccv) := by constructor <;> simp [go_sem]
  have hR : Blk (((w.alloc (.cells #[.int .i64 x.n, .int .u32 x.p, .int .i64 x.r, .slice pc x.ch.length ccv, .int .u32 x.sp, .int .i64 x.wt, .int .u32 x.er] 25)).alloc (.cells #[.slice ps l.length cs] 28)).alloc (.cells #[.int .i64 0, .bool false, .slice none 0 0, .int .i64 0, .bool false, .slice none 0 0] 34)) (w.heap.size + 1 + 1) [.int .i64 0, .bool false, .slice none 0 0, .int .i64 0, .bool false, .slice none 0 0] 34 := by
    have h := Blk.new ((w.alloc (.cells #[.int .i64 x.n, .int .u32 x.p, .int .i64 x.r, .slice pc x.ch.length ccv, .int .u32 x.sp, .int .i64 x.wt, .int .u32 x.er] 25)).alloc (.cells #[.slice ps l.length cs] 28)) #[.int .i64 0, .bool false, .slice none 0 0, .int .i64 0, .bool false, .slice none 0 0] 34
    simpa using h
  have hZ : (((w.alloc (.cells #[.int .i64 x.n, .int .u32 x.p, .int .i64 x.r, .slice pc x.ch.length ccv, .int .u32 x.sp, .int .i64 x.wt, .int .u32 x.er] 25)).alloc (.cells #[.slice ps l.length cs] 28)).alloc (.cells #[.int .i64 0, .bool false, .slice none 0 0, .int .i64 0, .bool false, .slice none 0 0] 34)).heap.size = w.heap.size + 3 := by simp
  have HX := Lib.hid hxo; have HCV := Lib.hid hcv; have HSV := Lib.hid hsv
  have HBW := Lib.hid hbW; have HB := Lib.hid hB; have HR := Lib.hid hR; have HZ := Lib.hid hZ
  clear hxo hcv hsv hbW hB hR hZ
  unfold Par.val nilPub
  rcases csec_vals mPrime x l with hk | hk
  case inr =>
    rw [hk]
    have HK := Lib.hid hk
    clear hk
    go_enter Tryz.func6, Tryz.ntmps6
    go_wp2_with fail
    refine (csecret_any x _ _ l _ HX.out (HCV.out.below HBW.out) (HSV.out.below HBW.out) hlen).mono ?_
    rintro e w1 ⟨rfl, hb1⟩
    rw [HK.out]
    have HR1 := Lib.hid (HR.out.below hb1 HR.out.lt)
    have HBW1 := Lib.hid (HBW.out.trans (hb1.mono HBW.out.size))
    have r0 := HR1.out.cell 0 (by simp); have r1 := HR1.out.cell 1 (by simp); have r2 := HR1.out.cell 2 (by simp); have r3 := HR1.out.cell 3 (by simp); have r4 := HR1.out.cell 4 (by simp); have r5 := HR1.out.cell 5 (by simp); have s0 := HR1.out.free 0; have s1 := HR1.out.free 1; have s2 := HR1.out.free 2; have s3 := HR1.out.free 3; have s4 := HR1.out.free 4; have s5 := HR1.out.free 5
    clear hb1
    go_wp2_with fail
    obtain ⟨f1, f2⟩ := set6 (.int .i64 0) (.bool false) (.slice none 0 0) (.int .i64 0) (.bool false) (.slice none 0 0) HR1.out
    have q0 := f1.cell 0 (by simp); have q1 := f1.cell 1 (by simp); have q2 := f1.cell 2 (by simp); have q3 := f1.cell 3 (by simp); have q4 := f1.cell 4 (by simp); have q5 := f1.cell 5 (by simp)
    refine bodyPost_ret (v := .tuple #[.agg #[.int .i64 0, .bool false, .slice none 0 0, .int .i64 0, .bool false, .slice none 0 0], .int .i64 2]) (by simp [results, Tryz.results6, go_sem, q0, q1, q2, q3, q4, q5]) rfl ?_
    exact ⟨rfl, below_gr HBW1.out f2 HBW1.out.size (by omega)⟩
  case inl =>
    rw [if_pos hk]
    obtain ⟨hok, _⟩ := csec_split hk
    have hg := good_of hok
    have hdim := okB_dim hok
    obtain ⟨N, hN⟩ : ∃ N : Nat, x.n = N := ⟨x.n.toNat, by omega⟩
    have hl1 := hg.l1
    have HK := Lib.hid hk; have HN := Lib.hid hN; have HG := Lib.hid hg
    obtain ⟨b0, off, rfl, hrow⟩ := HCR.out (by intro e; rw [e] at hl1; simp at hl1)
    have HROW := Lib.hid hrow
    clear hrow HCR hok hdim hN hk hg
    go_enter Tryz.func6, Tryz.ntmps6
    go_wp2_with fail
    refine (csecret_any x _ _ l _ HX.out (HCV.out.below HBW.out) (HSV.out.below HBW.out) hlen).mono ?_
    rintro e w1 ⟨rfl, hb1⟩
    rw [HK.out]
    have HB1 := Lib.hid (HB.out.below hb1 (by rw [HZ.out]; omega))
    have HR1 := Lib.hid (HR.out.below hb1 HR.out.lt)
    have HBW1 := Lib.hid (HBW.out.trans (hb1.mono HBW.out.size))
    have hs1 : w.heap.size + 3 ≤ w1.heap.size := by have := hb1.size; rw [HZ.out] at this; exact this
    have y3 := HB1.out.ch
    have hlt1 : w.heap.size < w1.heap.size := by omega
    clear hb1 HB HR HBW HZ
    have hbA : Below w1.heap.size w1 (w1.alloc (.cells #[.int .i64 x.ch.length, .bool false, .slice none 0 0] 32)) := (Below.refl _ _).alloc (Nat.le_refl _) _
    have HB2 := Lib.hid (HB1.out.below hbA hlt1); have HR2 := Lib.hid (HR1.out.below hbA HR1.out.lt); have HBW2 := Lib.hid (HBW1.out.trans (hbA.mono (by omega)))
    clear hbA
    go_wp2_with fail
    generalize (w1.alloc (.cells #[.int .i64 x.ch.length, .bool false, .slice none 0 0] 32)) = W1 at HB2 HR2 HBW2 ⊢
    clear y3 HB1 HR1 HBW1 hlt1
    go_loopw [10, 11, 12, 36] (fun _ _ _ vk wr => vk = .int .i64 0 ∧ Hid (wr = W1 ∨ False)) (fun _ _ _ vk _ => 0)
    case atStart => exact ⟨rfl, .inl rfl⟩
    case round =>
      obtain ⟨rfl, hw⟩ := hrel
      have hww : wr = W1 := hw.out.elim id False.elim
      clear hw
      subst hww
      have cel := (HROW.out.below HBW2.out HROW.out.blk).cell 0 (by omega)
      have y0 := HB2.out.n
      rw [HN.out] at y0
      have hqb := ch_at HG.out (i := 0) (by omega)
      rw [getD_at _ 0 (by omega)] at hqb
      generalize x.ch[0]'(by omega) = q at cel hqb
      have k1 : (0 : Int) < (x.ch.length : Int) := by omega
      have cel2 : wr.cell? ⟨b0, off, none⟩ = some (.int .u32 q) := cel
      go_wp2_with fail
      refine (uni_nil N q _).mono ?_
      rintro e w2 ⟨rfl, hb2⟩
      have HR3 := Lib.hid (HR2.out.below hb2 HR2.out.lt)
      have HBW3 := Lib.hid (HBW2.out.trans (hb2.mono HBW2.out.size))
      have r0 := HR3.out.cell 0 (by simp); have r1 := HR3.out.cell 1 (by simp); have r2 := HR3.out.cell 2 (by simp); have r3 := HR3.out.cell 3 (by simp); have r4 := HR3.out.cell 4 (by simp); have r5 := HR3.out.cell 5 (by simp); have s0 := HR3.out.free 0; have s1 := HR3.out.free 1; have s2 := HR3.out.free 2; have s3 := HR3.out.free 3; have s4 := HR3.out.free 4; have s5 := HR3.out.free 5
      clear hb2 cel cel2 y0
      go_wp2_with fail
      obtain ⟨f1, f2⟩ := set6 (.int .i64 0) (.bool false) (.slice none 0 0) (.int .i64 0) (.bool false) (.slice none 0 0) HR3.out
      have q0 := f1.cell 0 (by simp); have q1 := f1.cell 1 (by simp); have q2 := f1.cell 2 (by simp); have q3 := f1.cell 3 (by simp); have q4 := f1.cell 4 (by simp); have q5 := f1.cell 5 (by simp)
      refine bodyPost_ret (v := .tuple #[.agg #[.int .i64 0, .bool false, .slice none 0 0, .int .i64 0, .bool false, .slice none 0 0], .int .i64 1]) (by simp [results, Tryz.results6, go_sem, q0, q1, q2, q3, q4, q5]) rfl ?_
      exact ⟨rfl, below_gr HBW3.out f2 HBW3.out.size (by omega)⟩
end Go.Proofs.YtjpcljnojipdnaaGreat

/-! KeysPublics: the walk. (Printed by gen_PubT.py.) -/
namespace Go.Proofs.YtjpcljnojipdnaaGreat
open Go.RowKit Go.Shelf
set_option linter.unusedVariables false

def RowsOk (rows : List (List Nat)) : Prop := rows.length ≤ 4096 ∧ ∀ r, r ∈ rows → r.length ≤ 4096 ∧ ∀ q, q ∈ r → q < 4294967296
theorem rowsOk_nil : RowsOk [] := ⟨by simp, fun r hr => by simp at hr⟩
theorem OwnR.sliceO {base : Nat} {W : World} {v : Value} {rows : List (List Nat)} (h : OwnR base W v rows) (hr : RowsOk rows) : SliceR W v rows := by
  obtain ⟨vs, h1, h2⟩ := h
  exact h2.slice h1 hr.1 hr.2
theorem resr_ok {x : Par} {L N : Nat} {rows : List (List Nat)} (hx : Good x) (hR : ResR x L N rows) (hL : L ≤ x.ch.length) (hN : N ≤ 4096) : RowsOk rows := by
  have := hx.l2
  have h0 := hR.1
  refine ⟨by omega, fun r hr => ?_⟩
  obtain ⟨i, hi, rfl⟩ := List.getElem_of_mem hr
  have h3 := hR.2 i (by omega)
  rw [getD_at rows [] hi] at h3
  refine ⟨by omega, fun q hq => ?_⟩
  obtain ⟨k, hk, rfl⟩ := List.getElem_of_mem hq
  have h4 := h3.2 k
  rw [getD_at _ 0 hk] at h4
  have := (ch_at hx (i := i) (by omega)).2
  omega
theorem pubOut_ok (x : Par) (l : List Int) (s : ByteArray) (a : Nat) (ha : a ≤ 8 * s.size) :
    RowsOk (pubOut rPrime x l s a).a.rows ∧ RowsOk (pubOut rPrime x l s a).b.rows ∧ ((pubOut rPrime x l s a).er = 0 → nilPub x l = 1) := by
  rcases csec_vals rPrime x l with h | h
  case inr => rw [pubOut_no h]; exact ⟨rowsOk_nil, rowsOk_nil, fun e => by cases e⟩
  have hn : nilPub x l = 1 := by unfold nilPub; rw [csec_eq, if_pos h]
  obtain ⟨hok, _⟩ := csec_split h
  have hg := good_of hok
  have hdim := okB_dim hok
  obtain ⟨N, hN⟩ : ∃ N : Nat, x.n = N := ⟨x.n.toNat, by omega⟩
  rcases hr : rowsGo s N x.ch a x.ch.length with ⟨ok, rows, b⟩
  cases ok with
  | false => rw [pubOut_short h hN (Nat.le_refl _) hr]; exact ⟨rowsOk_nil, rowsOk_nil, fun e => by cases e⟩
  | true =>
    cases hz : numGo s (2 * x.er + 1) b N with
    | none => rw [pubOut_none h hN hr hz]; exact ⟨rowsOk_nil, rowsOk_nil, fun e => by cases e⟩
    | some p =>
      obtain ⟨z, c⟩ := p
      rw [pubOut_yes h hN hr hz]
      refine ⟨?_, resr_ok hg (ResR.of ha hg hr) (Nat.le_refl _) (by omega), fun _ => hn⟩
      show RowsOk (elRows _ _ _)
      rw [hN, Int.toNat_natCast]
      refine resr_ok hg (L := x.ch.length) (N := N) (res_of _ (fun i hi k => ?_) (fun i hi => ch_pos hg hi)) (Nat.le_refl _) (by omega)
      exact resZ_lt (ch_pos hg hi)

/-- What KeysPublics holds: boxes, supplies. -/
structure KpA (w W : World) (x : Par) (cv sv : Value) (g1 g2 : Nat) (s : ByteArray) (a1 a2 : Nat) : Prop where
  bx : BoxP W w.heap.size x cv
  cs : W.cell? ⟨w.heap.size + 1, 0, none⟩ = some sv
  bel : Below w.heap.size w W
  u : SupB W g1 s a1
  v : SupR W g2 s a2
  l1 : w.heap.size + 1 < g1
  l2 : g1 < g2
  l3 : g2 < W.heap.size
theorem boxp_gr {W W' : World} {B g : Nat} {x : Par} {cv : Value} (h : BoxP W B x cv) (hg : W.grownBy W' (some g)) (hB : B < W.heap.size) (hne : B ≠ g) : BoxP W' B x cv :=
  ⟨(gr_cell hg hB hne).trans h.n, (gr_cell hg hB hne).trans h.p, (gr_cell hg hB hne).trans h.r, (gr_cell hg hB hne).trans h.ch, (gr_cell hg hB hne).trans h.sp, (gr_cell hg hB hne).trans h.wt, (gr_cell hg hB hne).trans h.er⟩
theorem KpA.below {w W W' : World} {x : Par} {cv sv : Value} {g1 g2 : Nat} {s : ByteArray} {a1 a2 : Nat} (h : KpA w W x cv sv g1 g2 s a1 a2) (hb : Below W.heap.size W W') : KpA w W' x cv sv g1 g2 s a1 a2 := by
  have h1 := h.l1; have h2 := h.l2; have h3 := h.l3
  exact ⟨h.bx.below hb (by omega), (below_at hb (by omega)).trans h.cs, h.bel.trans (hb.mono h.bel.size), sup_below h.u hb, supr_below h.v hb, h1, h2, Nat.lt_of_lt_of_le h3 hb.size⟩
theorem KpA.grU {w W W' : World} {x : Par} {cv sv : Value} {g1 g2 : Nat} {s : ByteArray} {a1 a2 b : Nat} (h : KpA w W x cv sv g1 g2 s a1 a2) (hg : W.grownBy W' (some g1)) (hs : SupB W' g1 s b) : KpA w W' x cv sv g1 g2 s b a2 := by
  have h1 := h.l1; have h2 := h.l2; have h3 := h.l3; have h4 := h.bel.size
  exact ⟨boxp_gr h.bx hg (by omega) (by omega), (gr_cell hg (by omega) (by omega)).trans h.cs, h.bel.grown hg h4 (by intro k e; injection e with e; omega), hs, h.v.same (hg.block g2 h3 (by intro e; injection e with e; omega)), h1, h2, Nat.lt_of_lt_of_le h3 hg.size⟩
theorem KpA.grV {w W W' : World} {x : Par} {cv sv : Value} {g1 g2 : Nat} {s : ByteArray} {a1 a2 b : Nat} (h : KpA w W x cv sv g1 g2 s a1 a2) (hg : W.grownBy W' (some g2)) (hs : SupR W' g2 s b) : KpA w W' x cv sv g1 g2 s a1 b := by
  have h1 := h.l1; have h2 := h.l2; have h3 := h.l3; have h4 := h.bel.size
  exact ⟨boxp_gr h.bx hg (by omega) (by omega), (gr_cell hg (by omega) (by omega)).trans h.cs, h.bel.grown hg h4 (by intro k e; injection e with e; omega), h.u.same (hg.block g1 (by omega) (by intro e; injection e with e; omega)), hs, h1, h2, Nat.lt_of_lt_of_le h3 hg.size⟩
/-- .. a public key in a box. -/
structure KpB (w W : World) (x : Par) (cv sv : Value) (g1 g2 : Nat) (s : ByteArray) (a1 a2 : Nat) (o : PubO) (ga B : Nat) (u1 v1 : Value) : Prop where
  a : KpA w W x cv sv g1 g2 s a1 a2
  bk : Blk W ga [.int .i64 o.a.lv, .bool o.a.sp, u1, .int .i64 o.b.lv, .bool o.b.sp, v1] 34
  ou : OwnR B W u1 o.a.rows
  ov : OwnR B W v1 o.b.rows
  lB : g2 < B
  la : g2 < ga
theorem KpB.below {w W W' : World} {x : Par} {cv sv u1 v1 : Value} {g1 g2 ga B : Nat} {s : ByteArray} {a1 a2 : Nat} {o : PubO} (h : KpB w W x cv sv g1 g2 s a1 a2 o ga B u1 v1) (hb : Below W.heap.size W W') : KpB w W' x cv sv g1 g2 s a1 a2 o ga B u1 v1 :=
  ⟨h.a.below hb, h.bk.below hb h.bk.lt, h.ou.below hb, h.ov.below hb, h.lB, h.la⟩
theorem KpB.grV {w W W' : World} {x : Par} {cv sv u1 v1 : Value} {g1 g2 ga B : Nat} {s : ByteArray} {a1 a2 b : Nat} {o : PubO} (h : KpB w W x cv sv g1 g2 s a1 a2 o ga B u1 v1) (hg : W.grownBy W' (some g2)) (hs : SupR W' g2 s b) : KpB w W' x cv sv g1 g2 s a1 b o ga B u1 v1 :=
  ⟨h.a.grV hg hs, h.bk.gr hg (by have := h.la; omega), h.ou.grow hg h.lB, h.ov.grow hg h.lB, h.lB, h.la⟩
structure KpC (w W : World) (x : Par) (cv sv : Value) (g1 g2 : Nat) (s : ByteArray) (a1 a2 : Nat) (o : PubO) (ga B : Nat) (u1 v1 : Value) (gb B2 : Nat) (u2 v2 : Value) : Prop where
  b : KpB w W x cv sv g1 g2 s a1 a2 o ga B u1 v1
  bk : Blk W gb [.int .i64 o.a.lv, .bool o.a.sp, u2, .int .i64 o.b.lv, .bool o.b.sp, v2] 34
  ou : OwnR B2 W u2 o.a.rows
  ov : OwnR B2 W v2 o.b.rows
theorem KpC.below {w W W' : World} {x : Par} {cv sv u1 v1 u2 v2 : Value} {g1 g2 ga B gb B2 : Nat} {s : ByteArray} {a1 a2 : Nat} {o : PubO} (h : KpC w W x cv sv g1 g2 s a1 a2 o ga B u1 v1 gb B2 u2 v2) (hb : Below W.heap.size W W') : KpC w W' x cv sv g1 g2 s a1 a2 o ga B u1 v1 gb B2 u2 v2 :=
  ⟨h.b.below hb, h.bk.below hb h.bk.lt, h.ou.below hb, h.ov.below hb⟩

set_option maxHeartbeats 16000000 in
set_option maxRecDepth 100000 in
theorem kpublics_any (x : Par) (cv sv : Value) (l : List Int) (s : ByteArray) (w : World) (hx : ParOk x) (hcv : SliceAt w cv x.ch) (hs : SliceZ .i8 w sv l) :
    Calls Tryz.prog 4 #[x.val cv, .string s, .agg #[sv]] w fun e w' => e = .returned (.bool true) ∧ Below w.heap.size w w' := by
  have HO := Lib.hid (Owned.boxes hcv hs)
  obtain ⟨pc, ncv, ccv, rfl⟩ : ∃ pa na ca, cv = .slice pa na ca := by obtain ⟨p, c, e, _⟩ := hcv; exact ⟨p, _, c, e⟩
  obtain ⟨ps, cs, rfl⟩ : ∃ pa ca, sv = .slice pa l.length ca := by obtain ⟨p, c, e, _⟩ := hs; exact ⟨p, c, e⟩
  have hlen : l.length ≤ 140737488351232 := by obtain ⟨p, cap, _, _, h, _⟩ := hs; exact h
  have HCV := Lib.hid hcv; have HS := Lib.hid hs; have HX := Lib.hid hx
  clear hcv hs hx
  unfold Par.val
  by_cases hbig : 20000 < s.size ∨ 200 < l.length
  · by_cases h1 : 20000 < s.size
    · have d1 : decide (20000 < s.size) = true := decide_eq_true h1
      have d2 : decide ((20000 : Int) < (s.size : Int)) = true := decide_eq_true (by omega)
      clear hbig h1
      go_enter Tryz.func4, Tryz.ntmps4
      go_wp2_with fail
      refine (awake_any _).mono ?_
      rintro e w1 ⟨rfl, hb1⟩
      have HB := Lib.hid (HO.out.below hb1).bel
      clear hb1
      go_wp2_with fail
      go_ret
      exact ⟨rfl, HB.out⟩
    · have h2 : 200 < l.length := by omega
      have d1 : decide (20000 < s.size) = false := decide_eq_false h1
      have d2 : decide ((20000 : Int) < (s.size : Int)) = false := decide_eq_false (by omega)
      have d3 : decide (200 < l.length) = true := decide_eq_true h2
      have d4 : decide ((200 : Int) < (l.length : Int)) = true := decide_eq_true (by omega)
      clear hbig h1 h2
      go_enter Tryz.func4, Tryz.ntmps4
      go_wp2_with fail
      refine (awake_any _).mono ?_
      rintro e w1 ⟨rfl, hb1⟩
      have HB := Lib.hid (HO.out.below hb1).bel
      clear hb1
      go_wp2_with fail
      go_ret
      exact ⟨rfl, HB.out⟩
  have hsz : s.size ≤ 20000 := by omega
  have hl200 : l.length ≤ 200 := by omega
  have d1 : decide (20000 < s.size) = false := decide_eq_false (by omega)
  have d2 : decide ((20000 : Int) < (s.size : Int)) = false := decide_eq_false (by omega)
  have d3 : decide (200 < l.length) = false := decide_eq_false (by omega)
  have d4 : decide ((200 : Int) < (l.length : Int)) = false := decide_eq_false (by omega)
  clear hbig
  go_enter Tryz.func4, Tryz.ntmps4
  go_wp2_with fail
  refine (new_any s _ (by omega)).mono ?_
  rintro e w1 ⟨rfl, hu, hb1⟩
  have HO1 := Lib.hid (HO.out.below hb1)
  have HU := Lib.hid hu
  clear hu
  have hs0 : w.heap.size + 1 + 1 ≤ ((w.alloc (.cells #[.int .i64 x.n, .int .u32 x.p, .int .i64 x.r, .slice pc ncv ccv, .int .u32 x.sp, .int .i64 x.wt, .int .u32 x.er] 25)).alloc (.cells #[.slice ps l.length cs] 28)).heap.size := by simp
  generalize ((w.alloc (.cells #[.int .i64 x.n, .int .u32 x.p, .int .i64 x.r, .slice pc ncv ccv, .int .u32 x.sp, .int .i64 x.wt, .int .u32 x.er] 25)).alloc (.cells #[.slice ps l.length cs] 28)).heap.size = g1 at HU hs0 hb1 ⊢
  have hg1 : g1 < w1.heap.size := World.block_lt_of_cell? w1 ⟨g1, 0, none⟩ HU.out.c0
  clear hb1 d1 d2 d3 d4 HO
  go_wp2_with fail
  refine (rnew_any s _ (by omega)).mono ?_
  rintro e w2 ⟨rfl, hv, hb2⟩
  have HA : Hid (KpA w w2 x (.slice pc ncv ccv) (.slice ps l.length cs) g1 w1.heap.size s 0 0) :=
    ⟨(HO1.out.below hb2).box, (HO1.out.below hb2).cs, (HO1.out.below hb2).bel, sup_below HU.out hb2, hv, by omega, hg1, World.block_lt_of_cell? w2 ⟨w1.heap.size, 0, none⟩ hv.c0⟩
  clear hv hb2 HO1 HU hs0 hg1
  generalize w1.heap.size = g2 at HA ⊢
  have y0 := HA.out.bx.n; have y1 := HA.out.bx.p; have y2 := HA.out.bx.r; have y3 := HA.out.bx.ch; have y4 := HA.out.bx.sp; have y5 := HA.out.bx.wt; have y6 := HA.out.bx.er
  have yc := HA.out.cs
  have hg1w : w.heap.size ≤ g1 := by have := HA.out.l1; omega
  have hg2w : w.heap.size ≤ g2 := by have := HA.out.l2; omega
  obtain ⟨hoa, hob, hoe⟩ := pubOut_ok x l s 0 (by omega)
  have hmr := pubOut_eq x l s 0
  obtain ⟨o, ho⟩ : ∃ o, pubOut rPrime x l s 0 = o := ⟨_, rfl⟩
  rw [ho] at hoa hob hoe hmr
  have HOA := Lib.hid hoa; have HOB := Lib.hid hob; have HOE := Lib.hid hoe; have HMR := Lib.hid hmr; have HOO := Lib.hid ho
  clear hoa hob hoe hmr ho
  go_wp2_with fail
  refine (knewpub_any x _ _ l s g1 0 w _ HX.out HCV.out HS.out hlen HA.out.bel hg1w HA.out.u (by omega) (by omega)).mono ?_
  rintro e w3 ⟨u, v, rfl, hu, hv, hs3, hp3, hg3⟩
  rw [HMR.out] at hu hv hs3 hp3
  rw [HMR.out]
  obtain ⟨pu, nu, cu, rfl⟩ : ∃ p n c, u = .slice p n c := by obtain ⟨p, c, e⟩ := hu.val; exact ⟨p, _, c, e⟩
  obtain ⟨pv, nv, cv_, rfl⟩ : ∃ p n c, v = .slice p n c := by obtain ⟨p, c, e⟩ := hv.val; exact ⟨p, _, c, e⟩
  have HA3 := Lib.hid (HA.out.grU hg3 hs3)
  have hl23 := HA.out.l3
  have HBB : Hid (KpB w (w3.alloc (.cells #[.int .i64 o.a.lv, .bool o.a.sp, (.slice pu nu cu), .int .i64 o.b.lv, .bool o.b.sp, (.slice pv nv cv_)] 34)) x (.slice pc ncv ccv) (.slice ps l.length cs) g1 g2 s o.pos 0 o w3.heap.size w2.heap.size (.slice pu nu cu) (.slice pv nv cv_)) := by
    have hb : Below w3.heap.size w3 (w3.alloc (.cells #[.int .i64 o.a.lv, .bool o.a.sp, (.slice pu nu cu), .int .i64 o.b.lv, .bool o.b.sp, (.slice pv nv cv_)] 34)) := (Below.refl _ _).alloc (Nat.le_refl _) _
    exact ⟨HA3.out.below hb, Blk.new _ _ _, hu.below hb, hv.below hb, hl23, HA3.out.l3⟩
  obtain ⟨WA, hWA⟩ : ∃ WA, w3.alloc (.cells #[.int .i64 o.a.lv, .bool o.a.sp, (.slice pu nu cu), .int .i64 o.b.lv, .bool o.b.sp, (.slice pv nv cv_)] 34) = WA := ⟨_, rfl⟩
  rw [hWA] at HBB
  clear hu hv hs3 hg3 HA HA3 y0 y1 y2 y3 y4 y5 y6 yc
  have y0 := HBB.out.a.bx.n; have y1 := HBB.out.a.bx.p; have y2 := HBB.out.a.bx.r; have y3 := HBB.out.a.bx.ch; have y4 := HBB.out.a.bx.sp; have y5 := HBB.out.a.bx.wt; have y6 := HBB.out.a.bx.er
  have yc := HBB.out.a.cs
  unfold pubVal
  go_wp2_with fail
  clear hWA
  generalize w3.heap.size = ga at HBB ⊢
  generalize w2.heap.size = B at HBB hl23 ⊢
  refine (rnewpub_any x _ _ l s g2 0 w _ HX.out HCV.out HS.out hlen HBB.out.a.bel hg2w HBB.out.a.v (by omega) (by omega)).mono ?_
  rintro e w5 ⟨u, v, rfl, hu, hv, hs5, hp5, hg5⟩
  rw [HOO.out] at hu hv hs5 hp5
  rw [HOO.out]
  obtain ⟨qu, mu, du, rfl⟩ : ∃ p n c, u = .slice p n c := by obtain ⟨p, c, e⟩ := hu.val; exact ⟨p, _, c, e⟩
  obtain ⟨qv, mv, dv, rfl⟩ : ∃ p n c, v = .slice p n c := by obtain ⟨p, c, e⟩ := hv.val; exact ⟨p, _, c, e⟩
  have HB5 := Lib.hid (HBB.out.grV hg5 hs5)
  have HCC : Hid (KpC w (w5.alloc (.cells #[.int .i64 o.a.lv, .bool o.a.sp, (.slice qu mu du), .int .i64 o.b.lv, .bool o.b.sp, (.slice qv mv dv)] 34)) x (.slice pc ncv ccv) (.slice ps l.length cs) g1 g2 s o.pos o.pos o ga B (.slice pu nu cu) (.slice pv nv cv_) w5.heap.size WA.heap.size (.slice qu mu du) (.slice qv mv dv)) := by
    have hb : Below w5.heap.size w5 (w5.alloc (.cells #[.int .i64 o.a.lv, .bool o.a.sp, (.slice qu mu du), .int .i64 o.b.lv, .bool o.b.sp, (.slice qv mv dv)] 34)) := (Below.refl _ _).alloc (Nat.le_refl _) _
    exact ⟨HB5.out.below hb, Blk.new _ _ _, hu.below hb, hv.below hb⟩
  obtain ⟨WB, hWB⟩ : ∃ WB, w5.alloc (.cells #[.int .i64 o.a.lv, .bool o.a.sp, (.slice qu mu du), .int .i64 o.b.lv, .bool o.b.sp, (.slice qv mv dv)] 34) = WB := ⟨_, rfl⟩
  rw [hWB] at HCC
  clear hu hv hs5 hg5 HBB HB5 y0 y1 y2 y3 y4 y5 y6 yc
  have a0 := HCC.out.b.bk.cell 0 (by simp); have a1 := HCC.out.b.bk.cell 1 (by simp); have a2 := HCC.out.b.bk.cell 2 (by simp); have a3 := HCC.out.b.bk.cell 3 (by simp); have a4 := HCC.out.b.bk.cell 4 (by simp); have a5 := HCC.out.b.bk.cell 5 (by simp)
  have b0 := HCC.out.bk.cell 0 (by simp); have b1 := HCC.out.bk.cell 1 (by simp); have b2 := HCC.out.bk.cell 2 (by simp); have b3 := HCC.out.bk.cell 3 (by simp); have b4 := HCC.out.bk.cell 4 (by simp); have b5 := HCC.out.bk.cell 5 (by simp)
  unfold pubVal
  go_wp2_with fail
  clear hWB
  generalize w5.heap.size = gb at HCC ⊢
  generalize WA.heap.size = B2 at HCC ⊢
  refine (samepub_yes o.a o.b _ _ _ _ _ (HCC.out.b.ou.sliceO HOA.out) (HCC.out.b.ov.sliceO HOB.out) (HCC.out.ou.sliceO HOA.out) (HCC.out.ov.sliceO HOB.out)).mono ?_
  rintro e w7 ⟨rfl, hb7⟩
  have HC7 := Lib.hid (HCC.out.below hb7)
  obtain ⟨ke, hke⟩ : ∃ k, o.er = k := ⟨_, rfl⟩
  rw [hke]
  have HKE := Lib.hid hke
  clear hb7 HCC a0 a1 a2 a3 a4 a5 b0 b1 b2 b3 b4 b5 hke
  go_wp2_with fail
  refine (taken_any s g1 _ _ HC7.out.b.a.u).mono ?_
  rintro e w8 ⟨rfl, rfl⟩
  go_wp2_with fail
  refine (rtaken_any s g2 _ _ HC7.out.b.a.v).mono ?_
  rintro e w9 ⟨rfl, rfl⟩
  have y0 := HC7.out.b.a.bx.n; have y1 := HC7.out.b.a.bx.p; have y2 := HC7.out.b.a.bx.r; have y3 := HC7.out.b.a.bx.ch; have y4 := HC7.out.b.a.bx.sp; have y5 := HC7.out.b.a.bx.wt; have y6 := HC7.out.b.a.bx.er
  have yc := HC7.out.b.a.cs
  rcases (show (nilSec x = 1 ∧ chk rPrime x = 0) ∨ (nilSec x = 2 ∧ chk rPrime x = 2) by
    unfold nilSec
    rw [okB_eq]
    cases hok : okB rPrime x with
    | true => exact .inl ⟨rfl, chk_ok hok⟩
    | false => exact .inr ⟨rfl, chk_two hok⟩) with ⟨hn1, hc1⟩ | ⟨hn1, hc1⟩ <;>
  rcases (show (ke = 0 ∧ nilPub x l = 1) ∨ (ke ≠ 0 ∧ nilPub x l = nilPub x l) by
    by_cases h : ke = 0
    · exact .inl ⟨h, HOE.out (HKE.out.trans h)⟩
    · exact .inr ⟨h, rfl⟩) with ⟨hk1, hp1⟩ | ⟨hk1, hp1⟩
  all_goals
    (try subst hk1)
    have HN1 := Lib.hid hn1; have HC1 := Lib.hid hc1; have HP1 := Lib.hid hp1
    clear hn1 hc1 hp1
    go_wp2_with fail
    refine (knewsec_nil x _ _ HX.out (HCV.out.below HC7.out.b.a.bel)).mono ?_
    rintro e w10 ⟨rfl, hb10⟩
    rw [HN1.out]
    have HC10 := Lib.hid (HC7.out.below hb10)
    have HC11 := Lib.hid (HC7.out.below (hb10.alloc hb10.size (.cells #[.slice none 0 0] 28)))
    have hl10 : w.heap.size + 1 < w10.heap.size := by have := HC10.out.b.a.l1; have := HC10.out.b.a.l2; have := HC10.out.b.a.l3; omega
    have hl10b : w.heap.size < w10.heap.size := by omega
    clear hb10 y0 y1 y2 y3 y4 y5 y6 yc
    have y0 := HC10.out.b.a.bx.n; have y1 := HC10.out.b.a.bx.p; have y2 := HC10.out.b.a.bx.r; have y3 := HC10.out.b.a.bx.ch; have y4 := HC10.out.b.a.bx.sp; have y5 := HC10.out.b.a.bx.wt; have y6 := HC10.out.b.a.bx.er
    have yc := HC10.out.b.a.cs
    go_wp2_with fail
    generalize (w10.alloc (.cells #[.slice none 0 0] 28)) = w11 at HC11 ⊢
    clear HC10 y0 y1 y2 y3 y4 y5 y6 yc hl10 hl10b
    refine (knewpub_nil x _ _ l _ HX.out (HCV.out.below HC11.out.b.a.bel) (HS.out.below HC11.out.b.a.bel) hlen).mono ?_
    rintro e w12 ⟨rfl, hb12⟩
    (try rw [HP1.out])
    have HC12 := Lib.hid (HC11.out.below hb12)
    have HC13 := Lib.hid (HC11.out.below (hb12.alloc hb12.size (.cells #[.int .i64 0, .bool false, .slice none 0 0, .int .i64 0, .bool false, .slice none 0 0] 34)))
    have hl12 : w.heap.size < w12.heap.size := by have := HC12.out.b.a.l1; have := HC12.out.b.a.l2; have := HC12.out.b.a.l3; omega
    clear hb12
    have y0 := HC12.out.b.a.bx.n; have y1 := HC12.out.b.a.bx.p; have y2 := HC12.out.b.a.bx.r; have y3 := HC12.out.b.a.bx.ch; have y4 := HC12.out.b.a.bx.sp; have y5 := HC12.out.b.a.bx.wt; have y6 := HC12.out.b.a.bx.er
    go_wp2_with fail
    generalize (w12.alloc (.cells #[.int .i64 0, .bool false, .slice none 0 0, .int .i64 0, .bool false, .slice none 0 0] 34)) = w13 at HC13 ⊢
    clear HC12 y0 y1 y2 y3 y4 y5 y6 hl12
    refine (rcheck_any x _ _ HX.out (HCV.out.below HC13.out.b.a.bel)).mono ?_
    rintro e w14 ⟨rfl, hb14⟩
    rw [HC1.out]
    have HC14 := Lib.hid (HC13.out.below hb14)
    clear hb14 HC13 HC11
    have HLAY : Hid (∀ w', Below w14.heap.size w14 w' → w'.cell? ⟨w.heap.size, 0, none⟩ = some (.int .i64 x.n) ∧ w'.cell? ⟨w.heap.size, 1, none⟩ = some (.int .u32 x.p) ∧ w'.cell? ⟨w.heap.size, 2, none⟩ = some (.int .i64 x.r) ∧ w'.cell? ⟨w.heap.size, 3, none⟩ = some (.slice pc ncv ccv) ∧ w'.cell? ⟨w.heap.size, 4, none⟩ = some (.int .u32 x.sp) ∧ w'.cell? ⟨w.heap.size, 5, none⟩ = some (.int .i64 x.wt) ∧ w'.cell? ⟨w.heap.size, 6, none⟩ = some (.int .u32 x.er) ∧ w'.cell? ⟨ga, 0, none⟩ = some (.int .i64 o.a.lv) ∧ w'.cell? ⟨ga, 1, none⟩ = some (.bool o.a.sp) ∧ w'.cell? ⟨ga, 2, none⟩ = some (.slice pu nu cu) ∧ w'.cell? ⟨ga, 3, none⟩ = some (.int .i64 o.b.lv) ∧ w'.cell? ⟨ga, 4, none⟩ = some (.bool o.b.sp) ∧ w'.cell? ⟨ga, 5, none⟩ = some (.slice pv nv cv_) ∧ w'.cell? ⟨gb, 0, none⟩ = some (.int .i64 o.a.lv) ∧ w'.cell? ⟨gb, 1, none⟩ = some (.bool o.a.sp) ∧ w'.cell? ⟨gb, 2, none⟩ = some (.slice qu mu du) ∧ w'.cell? ⟨gb, 3, none⟩ = some (.int .i64 o.b.lv) ∧ w'.cell? ⟨gb, 4, none⟩ = some (.bool o.b.sp) ∧ w'.cell? ⟨gb, 5, none⟩ = some (.slice qv mv dv)) := fun W hW => by
      have hC := HC14.out.below hW
      obtain ⟨k0, k1, k2, k3, k4, k5, k6⟩ := hC.b.a.bx
      exact ⟨k0, k1, k2, k3, k4, k5, k6, hC.b.bk.cell 0 (by simp), hC.b.bk.cell 1 (by simp), hC.b.bk.cell 2 (by simp), hC.b.bk.cell 3 (by simp), hC.b.bk.cell 4 (by simp), hC.b.bk.cell 5 (by simp), hC.bk.cell 0 (by simp), hC.bk.cell 1 (by simp), hC.bk.cell 2 (by simp), hC.bk.cell 3 (by simp), hC.bk.cell 4 (by simp), hC.bk.cell 5 (by simp)⟩
    have HCV14 := Lib.hid (HCV.out.below HC14.out.b.a.bel)
    have HUA := Lib.hid (HC14.out.b.ou.sliceO HOA.out); have HVA := Lib.hid (HC14.out.b.ov.sliceO HOB.out); have HUB := Lib.hid (HC14.out.ou.sliceO HOA.out); have HVB := Lib.hid (HC14.out.ov.sliceO HOB.out)
    have HBF := Lib.hid HC14.out.b.a.bel
    clear HC14 HC7
    go_wp2_with fail
    go_region_held3 (fun w' => w'.cell? ⟨w.heap.size, 0, none⟩ = some (.int .i64 x.n) ∧ w'.cell? ⟨w.heap.size, 1, none⟩ = some (.int .u32 x.p) ∧ w'.cell? ⟨w.heap.size, 2, none⟩ = some (.int .i64 x.r) ∧ w'.cell? ⟨w.heap.size, 3, none⟩ = some (.slice pc ncv ccv) ∧ w'.cell? ⟨w.heap.size, 4, none⟩ = some (.int .u32 x.sp) ∧ w'.cell? ⟨w.heap.size, 5, none⟩ = some (.int .i64 x.wt) ∧ w'.cell? ⟨w.heap.size, 6, none⟩ = some (.int .u32 x.er) ∧ w'.cell? ⟨ga, 0, none⟩ = some (.int .i64 o.a.lv) ∧ w'.cell? ⟨ga, 1, none⟩ = some (.bool o.a.sp) ∧ w'.cell? ⟨ga, 2, none⟩ = some (.slice pu nu cu) ∧ w'.cell? ⟨ga, 3, none⟩ = some (.int .i64 o.b.lv) ∧ w'.cell? ⟨ga, 4, none⟩ = some (.bool o.b.sp) ∧ w'.cell? ⟨ga, 5, none⟩ = some (.slice pv nv cv_) ∧ w'.cell? ⟨gb, 0, none⟩ = some (.int .i64 o.a.lv) ∧ w'.cell? ⟨gb, 1, none⟩ = some (.bool o.a.sp) ∧ w'.cell? ⟨gb, 2, none⟩ = some (.slice qu mu du) ∧ w'.cell? ⟨gb, 3, none⟩ = some (.int .i64 o.b.lv) ∧ w'.cell? ⟨gb, 4, none⟩ = some (.bool o.b.sp) ∧ w'.cell? ⟨gb, 5, none⟩ = some (.slice qv mv dv)) (first | with_reducible exact HLAY.out _ HQ3.out | with_reducible exact HLAY.out _ HQ2.out | with_reducible exact HLAY.out _ HQ1.out | with_reducible exact HLAY.out _ (Below.refl _ _).drew)
      (first
        | (go_at_call 29; refine (kpub_any x _ _ _ o.a o.b _ HX.out (HCV14.out.below (Below.refl _ _).drew) (HUA.out.below (Below.refl _ _).drew) (HVA.out.below (Below.refl _ _).drew)).mono ?_; rintro e v1 ⟨rfl, hb1⟩; rw [pubE_eq]; have HQ1 : Hid (Below w14.heap.size w14 v1) := below_then hb1 (Below.refl _ _).drew (Nat.le_refl _); clear hb1)
        | (go_at_call 8; refine (rpub_any x _ _ _ o.a o.b _ HX.out (HCV14.out.below HQ1.out) (HUB.out.below HQ1.out) (HVB.out.below HQ1.out)).mono ?_; rintro e v2 ⟨rfl, hb2⟩; have HQ2 := Lib.hid (HQ1.out.trans (hb2.mono HQ1.out.size)); clear hb2)
        | (go_at_call 5; refine (awake_any _).mono ?_; rintro e v3 ⟨rfl, hb3⟩; have HQ3 := Lib.hid (HQ2.out.trans (hb3.mono HQ2.out.size)); clear hb3))
    have HFIN := Lib.hid (HBF.out.trans (HQ3.out.mono HBF.out.size))
    clear HLAY HCV14 HUA HVA HUB HVB HBF HQ1 HQ2 HQ3
    go_wp2_with fail
    go_ret
    exact ⟨rfl, HFIN.out⟩
end Go.Proofs.YtjpcljnojipdnaaGreat

/-! For every input KeysPublics returns true and leaves its arguments as they are. No conditions. -/
namespace Go.Proofs.YtjpcljnojipdnaaGreat
open Go.ChangeShapes Go.WideShapes Go.ChangeAt Go.RowKit
set_option linter.unusedVariables false

theorem keysPublics_own : ownKnob Tryz.prog.godebug = none := by kernel_rfl
theorem keysPublics_laidOut : laidOutB Tryz.prog = true := by kernel_rfl

set_option maxRecDepth 100000 in
theorem keysPublics_lifted (os : Os) (started : os.Started) (H : Type) (enc : TypeId × Value → H) :
    ReturnsInHanded {} Tryz.checked os 4 .any (Rows.keysPublicsSpec.pre6 enc Tryz.prog Tryz.f4 Rows.keysPublicsRow.domain false) (Rows.keysPublicsSpec.post enc Tryz.prog Tryz.f4 false true false false) := by
  refine returnsInHanded_of_change_sized (C := Tryz.checked) keysPublics_own started (by kernel_rfl) Tryz.func4
    (ChangeSpec.witness6 (enc := enc) (C := Tryz.checked) false ⟨#[], #[.agg #[.int .i64 0, .int .u32 0, .int .i64 0, .slice none 0 0, .int .u32 0, .int .i64 0, .int .u32 0], .string ⟨#[]⟩, .agg #[.slice none 0 0]], []⟩ 8 (by kernel_rfl) (by kernel_rfl) (by kernel_rfl) (by kernel_rfl)) ?_
  intro W base args ds gs before hval0 hW hcnd hsz0 _
  have hval : ∀ (j : Nat) t v, Tryz.f4.params[j]? = some t → args[j]? = some v → Value.okWide Tryz.prog W .any base t v := hval0
  have hsz1 : (DataW.weightsEach Tryz.prog (Tryz.f4.params.toList ++ Rows.keysPublicsSpec.plain.varTypes Tryz.prog) (ds ++ gs)).all (· ≤ reachBytes) = true := hsz0
  have hW' := hW
  obtain ⟨p, q, hA0, hV, rfl, hfz, hnd⟩ := hW
  have hA : DataW.TrodAll enc Tryz.prog W 0 (fun _ => true) true Tryz.f4.params.toList args.toList ds p := hA0
  rw [Tryz.params4] at hA hval hsz1
  obtain ⟨v0, vs0, d0, ds0, p0, q0, hargs, rfl, rfl, h0, r0⟩ := trodAll_cons hA
  obtain ⟨v1, vs1, d1, ds1, p1, q1, rfl, rfl, rfl, h1, r1⟩ := trodAll_cons r0
  obtain ⟨v2, vs2, d2, ds2, p2, q2, rfl, rfl, rfl, h2, r2⟩ := trodAll_cons r1
  obtain ⟨rfl, rfl, rfl⟩ := trodAll_nil r2
  obtain rfl : args = #[v0, v1, v2] := by cases args; simp_all
  obtain ⟨rfl, rfl⟩ := trodVars_none hV
  have hsz : (DataW.weightsEach Tryz.prog [25, 9, 28] [d0, d1, d2]).all (· ≤ reachBytes) = true := hsz1
  have k0 := h0
  have lt0 : ∀ x ∈ p0, x.block < W.heap.size := by obtain ⟨m, hm⟩ := k0; exact DataW.trod_lt m _ _ _ hm
  have k1 := h1
  have lt1 : ∀ x ∈ p1, x.block < W.heap.size := by obtain ⟨m, hm⟩ := k1; exact DataW.trod_lt m _ _ _ hm
  have k2 := h2
  have lt2 : ∀ x ∈ p2, x.block < W.heap.size := by obtain ⟨m, hm⟩ := k2; exact DataW.trod_lt m _ _ _ hm
  obtain ⟨cs0, fu0, rfl, ht0⟩ := trod_cells Tryz.underlying25 (hval 0 25 v0 rfl rfl) h0
  obtain ⟨x0, cv0, rfl, hx0, hcv0, hb0⟩ := par_of ht0 (light_arg hsz (j := 0) rfl rfl)
  obtain ⟨s1, rfl, rfl, rfl, _⟩ := Go.ChangeMaps.open_string Tryz.underlying9 (hval 1 9 v1 rfl rfl) h1
  obtain ⟨cs2, fu2, rfl, ht2⟩ := trod_cells Tryz.underlying28 (hval 2 28 v2 rfl rfl) h2
  obtain ⟨sv2, l2, rfl, hs2⟩ := sec_of ht2 (light_arg hsz (j := 2) rfl rfl)
  clear hA0 hval0
  refine (kpublics_any x0 cv0 sv2 l2 s1 W hx0 hcv0 hs2).mono fun e W' ⟨he, bel⟩ => ?_
  subst he
  exact ⟨_, rfl, _, _, _, [], _, [], hW', trodAll_mk1 (shut_bool Tryz.underlying4 _), (trodAll_cons_mk (Below.trod keysPublics_laidOut (by kernel_rfl) (of_decide_eq_true (by kernel_rfl)) k0 bel lt0) (trodAll_cons_mk (Below.trod keysPublics_laidOut (by kernel_rfl) (of_decide_eq_true (by kernel_rfl)) k1 bel lt1) (trodAll_cons_mk (Below.trod keysPublics_laidOut (by kernel_rfl) (of_decide_eq_true (by kernel_rfl)) k2 bel lt2) trodAll_mk0))), rfl, bel.frame _, fun h => by cases h⟩

theorem keysPublics_over : Rows.keysPublicsRow.holds Tryz.pinned (OpenSpec.ofChange Rows.keysPublicsSpec) :=
  OpenClaim.holds_of_wide 4 Tryz.f4 rfl rfl rfl rfl rfl rfl rfl ⟨rfl, rfl, rfl, rfl, rfl⟩ rfl rfl rfl rfl rfl (by kernel_rfl) Tryz.func4 (by kernel_rfl)
    (of_decide_eq_true (by kernel_rfl)) (by unfold Func.isWrapper; first | (rw [if_pos (by decide +kernel)]; kernel_rfl) | (rw [if_neg (by decide +kernel)]; exact ⟨rfl, rfl⟩))
    (fun os started H enc _ => keysPublics_lifted os started H enc)

/-- The statement. -/
theorem keysPublics_holds : Rows.KeysPublicsSaid := keysPublics_over
#print axioms keysPublics_holds
end Go.Proofs.YtjpcljnojipdnaaGreat
