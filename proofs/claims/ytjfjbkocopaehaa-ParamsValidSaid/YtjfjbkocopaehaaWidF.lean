/- The reference's wide layer: trim, mul. -/
import Derived.Test.YtjfjbkocopaehaaWidG
import Derived.Deep.RegionLaw
namespace Go.Proofs.Ytjfjbkocopaehaa
open Go.RowKit
set_option linter.unusedVariables false

/-- append(s, x..) where s has length and room 0, as one step of a region that draws. -/
theorem step_append_new {P : Program} {ops : Array Oper} {o : Oper} {a : Act} {w : World} {K : Act → World → Prop} {Q : Exit → Act → World → Prop} {E : Prop}
    (hg : o.guard = none) (s x : Operand) (t tx : TypeId) (ho : o.op = Op.call { callee := Callee.builtin Builtin.append, args := #[s, x], argTypes := #[t, tx] })
    (e : TypeId) (z : Value) (bytes : Nat) (ht : P.underlying t = some (.slice e)) (hinfo : (P.info? e).map (fun i => (i.zero, i.size, i.bytes)) = some (some z, 1, bytes))
    (base : Option Addr) (hs : a.eval s = .slice base 0 0) (xv : Value) (hx : a.eval x = xv) (n : Nat) (news : List Value) (hsrc : Src P 1 tx xv n news w) (hn : 0 < n) (hbig : n ≤ 1000000) (hby : bytes ≤ 8)
    (hK : ∀ (cap : Nat) (zs : Array Value), n ≤ cap → K (a.put o.dst (.slice (some ⟨w.heap.size, 0, none⟩) n cap)) (w.drew.alloc (.cells (news.toArray ++ zs) e))) :
    if Region.wanted o (yielded ops a.tmps) = true then Oper.wp P o a w K Q else E := by
  have hw : Region.wanted o (yielded ops a.tmps) = true := by simp [Region.wanted, hg]
  rw [if_pos hw]
  obtain ⟨i, hi, hzz⟩ := Option.map_eq_some_iff.1 hinfo
  simp only [Prod.mk.injEq] at hzz
  obtain ⟨hz1, hs1, hb1⟩ := hzz
  have hold : (Builtin.firstCells i.size 0 (.slice base 0 0)).run P w.drew = .ok ([] : List Value).toArray w.drew := by
    cases base with
    | none => exact run_firstCells_none w.drew i.size 0 0 0
    | some b => exact run_firstCells_some w.drew i.size 0 b 0 0 [] (by simp) (by simp)
  have hrun := run_append_grow_src (P := P) (w := w) t tx o.type e i z ht hi hz1 base 0 0 [] hold xv n news (by rw [hs1]; exact hsrc) (by omega) (by simp only [Nat.zero_add]; omega)
    (growslice_fits_wide (by omega) (by
      rw [hb1]
      have : (0 + n + (0 + n) / 4 + 192) * bytes ≤ 2000000 * 8 := Nat.mul_le_mul (by omega) hby
      omega))
  unfold Oper.wp
  simp only [Nat.zero_add, List.nil_append] at hrun
  simp [execOp, ho, resolve, invoke, builtin, hs, hx, hrun, Result.andThen]
  exact hK _ _ (grownCap_ge w n 0 e)

theorem row_src {W : World} {b off : Nat} {l : List Nat} (h : RowAt W b off l) (cap : Nat) : Src Try.prog 1 23 (.slice (some ⟨b, off, none⟩) l.length cap) l.length (u32s l) W :=
  Src.ofSlice _ Try.underlying23 ⟨b, off, none⟩ l.length cap _ (by rw [Nat.mul_one]; unfold u32s; rw [List.length_map]) (fun q u hq => by
    have hqK : q < l.length := by
      apply Classical.byContradiction
      intro h
      rw [List.getElem?_eq_none (by unfold u32s; rw [List.length_map]; omega)] at hq
      cases hq
    rw [addr_add, h.cell q hqK]
    unfold u32s at hq
    rw [List.getElem?_map, List.getElem?_eq_getElem hqK] at hq
    exact hq) (u32s_one1 _)
theorem row_new {W : World} {l : List Nat} {zs : Array Value} (hr : ∀ q, q ∈ l → q < 4294967296) : RowAt (W.alloc (.cells ((u32s l).toArray ++ zs) 22)) W.heap.size 0 l := by
  have hk3 := Blk.new W ((u32s l).toArray ++ zs) 22
  refine ⟨hk3.lt, fun i hi => ?_, hr⟩
  have h := hk3.cell i (by rw [Array.toList_append, List.length_append]; simp [u32s]; omega)
  rw [Nat.zero_add, h]
  congr 1
  have : ((u32s l).toArray ++ zs).toList = u32s l ++ zs.toList := by simp
  simp only [this]
  rw [List.getElem_append_left (by unfold u32s; rw [List.length_map]; exact hi)]
  unfold u32s; rw [List.getElem_map]

set_option maxHeartbeats 2000000 in
set_option maxRecDepth 100000 in
theorem rtrim_any (v N b off cap : Nat) (w : World) (hr : RowAt w b off (digs HW v N)) (hcap : N ≤ cap) (hN : N ≤ 1000) (hv : v < HW ^ N) (hpos : 0 < v) :
    Calls Try.prog 116 #[.agg #[.bool false, .slice (some ⟨b, off, none⟩) N cap]] w fun e w' => (∃ g k c, e = .returned (.agg #[.bool false, .slice (some ⟨g, 0, none⟩) k c]) ∧ ND HW v k ∧ k ≤ c ∧ RowAt w' g 0 (digs HW v k) ∧ w.heap.size ≤ g) ∧ Below w.heap.size w w' := by
  have hB0 : Below w.heap.size w ((w.alloc (.cells #[.bool false, .slice (some ⟨b, off, none⟩) N cap] 120)).alloc (.cells #[.bool false, .slice none 0 0] 120)) := ((Below.refl _ _).alloc (Nat.le_refl _) _).alloc (by simp) _
  have hk1 : Blk ((w.alloc (.cells #[.bool false, .slice (some ⟨b, off, none⟩) N cap] 120)).alloc (.cells #[.bool false, .slice none 0 0] 120)) w.heap.size [.bool false, .slice (some ⟨b, off, none⟩) N cap] 120 := (Blk.new w #[.bool false, .slice (some ⟨b, off, none⟩) N cap] 120).alloc _
  have hk2 : Blk ((w.alloc (.cells #[.bool false, .slice (some ⟨b, off, none⟩) N cap] 120)).alloc (.cells #[.bool false, .slice none 0 0] 120)) (w.heap.size + 1) [.bool false, .slice none 0 0] 120 := by
    have h := Blk.new (w.alloc (.cells #[.bool false, .slice (some ⟨b, off, none⟩) N cap] 120)) #[.bool false, .slice none 0 0] 120
    simpa using h
  have HR := Lib.hid (hr.below hB0 hr.blk)
  have HB0 := Lib.hid hB0; have HK1 := Lib.hid hk1; have HK2 := Lib.hid hk2
  have HV := Lib.hid hv
  clear hr hv hB0 hk1 hk2
  go_enter Try.func116, Try.ntmps116
  go_wp2_with fail
  generalize ((w.alloc (.cells #[.bool false, .slice (some ⟨b, off, none⟩) N cap] 120)).alloc (.cells #[.bool false, .slice none 0 0] 120)) = W at HR HB0 HK1 HK2 ⊢
  have c0 : W.cell? ⟨w.heap.size, 0, none⟩ = some (.bool false) := HK1.out.cell 0 (by simp)
  have c1 : W.cell? ⟨w.heap.size, 1, none⟩ = some (.slice (some ⟨b, off, none⟩) N cap) := HK1.out.cell 1 (by simp)
  go_loop [3] (fun v3 => ∃ n : Nat, v3 = .int .i64 n ∧ n ≤ N ∧ Hid (v < HW ^ n)) (fun v3 => (intOf v3).toNat)
  case atStart => exact ⟨N, rfl, Nat.le_refl _, HV⟩
  case round =>
    obtain ⟨n, rfl, hn, hlt⟩ := hrel
    rcases Nat.eq_zero_or_pos n with rfl | hnp
    · exact absurd hlt.out (by simp; omega)
    · obtain ⟨m, rfl⟩ : ∃ m, n = m + 1 := ⟨n - 1, by omega⟩
      have hc := HR.out.cell m (by rw [digs_length]; omega)
      rw [digs_getElem] at hc
      obtain ⟨d, hd⟩ : ∃ d, dig HW v m = d := ⟨_, rfl⟩
      rw [hd] at hc
      have m0 : (0 : Int) ≤ (m : Int) := by omega
      have m1 : (m : Int) < (N : Int) := by omega
      have m2 : (0 : Int) < (m : Int) + 1 := by omega
      by_cases hz : d = 0
      · subst hz
        have HL : Hid (v < HW ^ m) := dig_zero (by decide) hlt.out hd
        clear hd
        go_wp2_with fail
        exact ⟨⟨m, rfl, by omega, HL⟩, by simp [intOf]⟩
      · have HD : Hid (ND HW v (m + 1)) := dig_top (by decide) hlt.out (by rw [hd]; exact hz)
        have hz1 : ((d : Int) == 0) = false := by rw [beq_eq_false_iff_ne]; omega
        have hsrc : Hid (∀ W', Below W.heap.size W W' → Src Try.prog 1 23 (.slice (some ⟨b, off, none⟩) (m + 1) cap) (m + 1) (u32s (digs HW v (m + 1))) W') := fun W' hb => by
          have h1 := row_src (rowat_take (HR.out.below hb HR.out.blk) (m + 1)) cap
          rw [digs_take _ _ hn, digs_length] at h1
          exact h1
        have k1 : (m : Int) + 1 ≤ (cap : Int) := by omega
        have lt0 : w.heap.size < W.heap.size := HK1.out.lt
        have lt1 : w.heap.size + 1 < W.heap.size := HK2.out.lt
        have r0 : W.cell? ⟨w.heap.size + 1, 0, none⟩ = some (.bool false) := HK2.out.cell 0 (by simp)
        have r1 : W.cell? ⟨w.heap.size + 1, 1, none⟩ = some (.slice none 0 0) := HK2.out.cell 1 (by simp)
        have rf0 := HK2.out.free 0
        have rf1 := HK2.out.free 1
        have ne4 : ¬ w.heap.size + 1 = w.heap.size := by omega
        have ne0 : w.heap.size ≠ W.heap.size := by omega
        have ne1 : w.heap.size + 1 ≠ W.heap.size := by omega
        have ne2 : ¬ w.heap.size = W.heap.size + 1 := by omega
        have ne3 : ¬ w.heap.size + 1 = W.heap.size + 1 := by omega
        have k2 : (0 : Int) ≤ (m : Int) + 1 := by omega
        clear hd
        go_wp2_with fail
        have nn0 := World.new_ne W _ c0
        have nn1 := World.new_ne W _ c1
        have nn2 := World.new_ne W _ r0
        have nn3 := World.new_ne W _ r1
        have KEEP : Hid (∀ u1 u2 o1 o2, ((((W.setCell ⟨w.heap.size + 1, 0, none⟩ u1).setCell ⟨w.heap.size + 1, 1, none⟩ u2).alloc o1).alloc o2).drew.drew.cell? ⟨w.heap.size, 0, none⟩ = some (.bool false) ∧ ((((W.setCell ⟨w.heap.size + 1, 0, none⟩ u1).setCell ⟨w.heap.size + 1, 1, none⟩ u2).alloc o1).alloc o2).drew.drew.cell? ⟨w.heap.size, 1, none⟩ = some (.slice (some ⟨b, off, none⟩) N cap)) := by
          intro u1 u2 o1 o2
          have hb : Below (w.heap.size + 1) W ((((W.setCell ⟨w.heap.size + 1, 0, none⟩ u1).setCell ⟨w.heap.size + 1, 1, none⟩ u2).alloc o1).alloc o2).drew.drew :=
            ((((((Below.refl _ _).setCell (p := ⟨w.heap.size + 1, 0, none⟩) (Nat.le_refl _) u1).setCell (p := ⟨w.heap.size + 1, 1, none⟩) (Nat.le_refl _) u2).alloc (by simp; omega) o1).alloc (by simp; omega) o2).drew).drew
          exact ⟨(below_at hb (by omega)).trans c0, (below_at hb (by omega)).trans c1⟩
        have FIN : Hid (∀ (cap2 : Nat) (zs : Array Value), (((((W.setCell ⟨w.heap.size + 1, 0, none⟩ (.bool false)).setCell ⟨w.heap.size + 1, 1, none⟩ (.slice (some ⟨W.heap.size + 1, 0, none⟩) (m + 1) cap2)).alloc (.cells #[] 22)).alloc (.cells ((u32s (digs HW v (m + 1))).toArray ++ zs) 22)).drew.drew).cell? ⟨w.heap.size + 1, 0, none⟩ = some (.bool false) ∧ (((((W.setCell ⟨w.heap.size + 1, 0, none⟩ (.bool false)).setCell ⟨w.heap.size + 1, 1, none⟩ (.slice (some ⟨W.heap.size + 1, 0, none⟩) (m + 1) cap2)).alloc (.cells #[] 22)).alloc (.cells ((u32s (digs HW v (m + 1))).toArray ++ zs) 22)).drew.drew).cell? ⟨w.heap.size + 1, 1, none⟩ = some (.slice (some ⟨W.heap.size + 1, 0, none⟩) (m + 1) cap2) ∧ RowAt (((((W.setCell ⟨w.heap.size + 1, 0, none⟩ (.bool false)).setCell ⟨w.heap.size + 1, 1, none⟩ (.slice (some ⟨W.heap.size + 1, 0, none⟩) (m + 1) cap2)).alloc (.cells #[] 22)).alloc (.cells ((u32s (digs HW v (m + 1))).toArray ++ zs) 22)).drew.drew) (W.heap.size + 1) 0 (digs HW v (m + 1)) ∧ Below w.heap.size w (((((W.setCell ⟨w.heap.size + 1, 0, none⟩ (.bool false)).setCell ⟨w.heap.size + 1, 1, none⟩ (.slice (some ⟨W.heap.size + 1, 0, none⟩) (m + 1) cap2)).alloc (.cells #[] 22)).alloc (.cells ((u32s (digs HW v (m + 1))).toArray ++ zs) 22)).drew.drew)) := by
          intro cap2 zs
          have h1 := ((((HK2.out.set 0 (.bool false)).set 1 (.slice (some ⟨W.heap.size + 1, 0, none⟩) (m + 1) cap2)).alloc (.cells #[] 22)).alloc (.cells ((u32s (digs HW v (m + 1))).toArray ++ zs) 22)).drew.drew
          have h2 := row_new (W := ((W.setCell ⟨w.heap.size + 1, 0, none⟩ (.bool false)).setCell ⟨w.heap.size + 1, 1, none⟩ (.slice (some ⟨W.heap.size + 1, 0, none⟩) (m + 1) cap2)).alloc (.cells #[] 22)) (l := digs HW v (m + 1)) (zs := zs) (fun q hq => Nat.lt_of_lt_of_le (digs_bd (B := HW) (by decide) q hq) (by decide))
          rw [show (((W.setCell ⟨w.heap.size + 1, 0, none⟩ (.bool false)).setCell ⟨w.heap.size + 1, 1, none⟩ (.slice (some ⟨W.heap.size + 1, 0, none⟩) (m + 1) cap2)).alloc (.cells #[] 22)).heap.size = W.heap.size + 1 by simp] at h2
          refine ⟨h1.cell 0 (by simp), h1.cell 1 (by simp), ⟨h2.blk, h2.cell, h2.rng⟩, ?_⟩
          exact ((((HB0.out.setCell (p := ⟨w.heap.size + 1, 0, none⟩) (by show w.heap.size ≤ w.heap.size + 1; omega) (.bool false)).setCell (p := ⟨w.heap.size + 1, 1, none⟩) (by show w.heap.size ≤ w.heap.size + 1; omega) (.slice (some ⟨W.heap.size + 1, 0, none⟩) (m + 1) cap2)).alloc (by simp; omega) _).alloc (by simp; omega) _).drew.drew
        (first
          | (go_region_law ((refine step_append_new rfl (.tmp 26) (.tmp 30) 23 23 rfl 22 (.int .u32 0) 4 Try.underlying23 infoU32 (some ⟨W.heap.size, 0, none⟩) (by first | rfl | (simp [Act.eval]; done) | simp [Act.eval, Act.put]) (.slice (some ⟨b, off, none⟩) (m + 1) cap) (by first | rfl | (simp [Act.eval]; done) | simp [Act.eval, Act.put]) (m + 1) (u32s (digs HW v (m + 1))) (by first | exact hsrc.out _ ((Below.refl _ _).alloc (Nat.le_refl _) _) | exact hsrc.out _ ((Below.refl _ _).alloc (Nat.le_refl _) _).drew) (by omega) (by omega) (by decide) ?_; intro cap2 zs hc2)))
          | (go_region_law ((refine step_append_new rfl (.tmp 26) (.tmp 30) 23 23 rfl 22 (.int .u32 0) 4 Try.underlying23 infoU32 (some ⟨W.heap.size, 0, none⟩) (by first | rfl | (simp [Act.eval]; done) | simp [Act.eval, Act.put]) (.slice (some ⟨b, off, none⟩) (m + 1) cap) (by first | rfl | (simp [Act.eval]; done) | simp [Act.eval, Act.put]) (m + 1) (u32s (digs HW v (m + 1))) (by first | exact hsrc.out _ ((Below.refl _ _).alloc (Nat.le_refl _) _) | exact hsrc.out _ ((Below.refl _ _).alloc (Nat.le_refl _) _).drew) (by omega) (by omega) (by decide) ?_; intro cap2 zs hc2))))
        all_goals
          obtain ⟨s0, s1, s2, s3⟩ := FIN.out cap2 zs
          have HG := Lib.hid (show w.heap.size ≤ W.heap.size + 1 by omega)
          have S2 := Lib.hid s2; have S3 := Lib.hid s3
          clear s2 s3
          generalize ((((W.setCell ⟨w.heap.size + 1, 0, none⟩ (.bool false)).setCell ⟨w.heap.size + 1, 1, none⟩ (.slice (some ⟨W.heap.size + 1, 0, none⟩) (m + 1) cap2)).alloc (.cells #[] 22)).alloc (.cells ((u32s (digs HW v (m + 1))).toArray ++ zs) 22)).drew.drew = Z at s0 s1 S2 S3 ⊢
          clear FIN KEEP hsrc HR HB0 HK1 HK2 c0 c1 r0 r1 rf0 rf1 nn0 nn1 nn2 nn3 ne0 ne1 ne2 ne3 ne4 hc lt0 lt1 k1 k2 hz1 m0 m1 m2
          go_wp2_with fail
          refine bodyPost_ret (v := .agg #[.bool false, .slice (some ⟨W.heap.size + 1, 0, none⟩) (m + 1) cap2]) (by simp [results, Try.results116, go_sem, s0, s1]) rfl ⟨⟨_, _, _, rfl, HD.out, hc2, S2.out, HG.out⟩, S3.out⟩
end Go.Proofs.Ytjfjbkocopaehaa
