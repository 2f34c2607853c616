/- The reference: Ints, residue, Product. The reference: FromInts. (Printed by gen_PubL.py.) The reference: sum. (Printed by gen_PubL.py.) A region whose order is drawn: a load may be taken first where nobody but the last operation writes its cell. No program is named here. The reference: Mul, Sub. (Printed by gen_PubN.py.) The reference: MulInt; Of, Scale, Sub, Mul of keys. (Printed by gen_PubO.py.) The reference: Plain, Uniform of keys. (Printed by gen_PubP.py.) obscuraref13.NewPublic. (Printed by gen_PubQ.py.) -/
import Derived.Test.YtjpcljnojipdnaaGreatPubI
import Derived.Deep.RegionHeldLaw
import Derived.OrdersHeld
import Derived.StillTail
import Derived.Test.YtjpcljnojipdnaaGreatPubJ
/-! The reference: Ints, residue, Product. -/
namespace Go.Proofs.YtjpcljnojipdnaaGreat
open Go.RowKit Go.Shelf
set_option linter.unusedVariables false

set_option maxHeartbeats 4000000 in
set_option maxRecDepth 100000 in
theorem rints_any (sv : Value) (l : List Int) (w : World) (hs : SliceZ .i8 w sv l) (hlen : l.length ≤ 4096) :
    Calls Tryz.prog 19 #[.agg #[sv]] w fun e w' => ∃ v, e = .returned v ∧ SliceZ .i64 w' v l ∧ Below w.heap.size w w' := by
  obtain ⟨p, cap, rfl, hc, hc2, hrow⟩ := hs
  obtain ⟨i0, hi0, hz0, hz1, hz2⟩ := info_parts infoI64
  have HROW := Lib.hid hrow
  have hb : Below w.heap.size w (w.alloc (.cells #[.slice p l.length cap] 28)) := (Below.refl _ _).alloc (Nat.le_refl _) _
  have hy : (w.alloc (.cells #[.slice p l.length cap] 28)).cell? ⟨w.heap.size, 0, none⟩ = some (.slice p l.length cap) := by simp [go_sem]
  have hsz : (w.alloc (.cells #[.slice p l.length cap] 28)).heap.size = w.heap.size + 1 := by simp
  have HB := Lib.hid hb; have HY := Lib.hid hy; have HSZ := Lib.hid hsz
  clear hrow hb hy hsz
  go_enter Tryz.func19, Tryz.ntmps19
  go_wp2_with fail
  generalize (w.alloc (.cells #[.slice p l.length cap] 28)) = W1 at HB HY HSZ ⊢
  go_loopw [3, 4] (fun vo vi wr => ∃ k : Nat, vi = .int .i64 k ∧ k ≤ l.length ∧ Hid (Below (w.heap.size + 1) W1 wr) ∧ Hid (wr.ownsRow (w.heap.size + 1) 2 1 vo k ((l.take k).map (Value.int .i64)))) (fun _ vi _ => l.length - (intOf vi).toNat)
  case atStart => exact ⟨0, rfl, by omega, Below.refl _ _, World.ownsRow_nil _ _ _ _⟩
  case round =>
    obtain ⟨k, rfl, hk, hbl, hown⟩ := hrel
    have y0 := (below_at hbl.out (show w.heap.size < w.heap.size + 1 by omega)).trans HY.out
    have hbw : Below w.heap.size w wr := HB.out.trans (hbl.out.mono (by omega))
    obtain ⟨po, co, rfl⟩ := own_slice hown.out
    by_cases hlt : k < l.length
    · obtain ⟨b, off, rfl, hr⟩ := HROW.out (by intro e; rw [e] at hlt; simp at hlt)
      have cel := (below_at hbw hr.blk).trans (hr.cell k hlt)
      have hwf := wf_i8 (hr.rng _ (List.getElem_mem hlt))
      have htk : Hid ((l.take (k + 1)).map (Value.int .i64) = (l.take k).map (Value.int .i64) ++ [.int .i64 l[k]]) := by
        show _ = _
        rw [List.take_succ_eq_append_getElem hlt, List.map_append]; rfl
      have k0 : (0 : Int) ≤ (k : Int) := by omega
      have k1 : (k : Int) < (l.length : Int) := by omega
      have hs2 : w.heap.size + 1 ≤ wr.heap.size := by have := hbl.out.size; have := HSZ.out; omega
      clear hr hbw
      generalize l[k] = z at cel hwf htk
      have e1 : IntKind.i64.wrap z = z := by rw [IntKind.wrap_i64]; omega
      go_wp2_with (at_builtin; (refine wpList_append_own _ rfl _ _ 55 rfl (w.heap.size + 1) 2 i0 (.int .i64 0) 1 8 Tryz.underlying55 hi0 hz0 hz1 hz2 rfl (by decide) _ _ _ rfl (hown.out.alloc _) ⟨wr.heap.size, 0, none⟩ 1 1 [.int .i64 z] rfl rfl (cell_one_new _ _ _) (by simp [Value.oneCell']) (by unfold maxLen; omega) (by omega) (by simp; omega) ?_); intro v' W3 hown' hgrow _)
      have HO2 : Hid (W3.ownsRow (w.heap.size + 1) 2 1 v' (k + 1) ((l.take (k + 1)).map (Value.int .i64))) := by rw [htk.out]; exact hown'
      have HB2 : Hid (Below (w.heap.size + 1) W1 W3) := (hbl.out.alloc hs2 _).grown hgrow (by simp; omega) (own_ge hown.out)
      clear hown' hgrow
      go_wp2_with fail
      go_roundw
      case rel => exact ⟨k + 1, by go_num, by omega, HB2, HO2⟩
      case measure => simp [intOf]; omega
    · obtain rfl : k = l.length := by omega
      have k1 : ¬ ((l.length : Int) < (l.length : Int)) := by omega
      go_wp2_with fail
      go_ret
      refine ⟨_, rfl, SliceZ.ofOwns (by have h := hown.out; rw [List.take_length] at h; exact h) (by omega) (fun q hq => ?_), hbw⟩
      obtain ⟨j, hj, rfl⟩ := List.getElem_of_mem hq
      obtain ⟨b, off, _, hr⟩ := HROW.out (by intro e; rw [e] at hj; simp at hj)
      have hwf := wf_i8 (hr.rng _ (List.getElem_mem hj))
      simp [Lit.wf, IntKind.min, IntKind.max, IntKind.bits, IntKind.signed]; omega

set_option maxHeartbeats 2000000 in
theorem rres_any (z : Int) (q : Nat) (w : World) (hq : 1 ≤ q) (hq2 : q ≤ 2147483647) (hz : -9223372036854775808 ≤ z ∧ z ≤ 9223372036854775807) :
    Calls Tryz.prog 105 #[.int .i64 z, .int .u32 (q : Nat)] w fun e w' => e = .returned (.int .u64 (resZ z q : Nat)) ∧ w' = w := by
  have hres := resZ_tmod (z := z) (q := q) (by omega)
  have hrl := resZ_lt (z := z) (q := q) (by omega)
  have e1 : IntKind.i64.wrap (q : Int) = (q : Int) := by rw [IntKind.wrap_i64]; omega
  have hq0 : ¬ ((q : Int) = 0) := by omega
  by_cases hneg : z.tmod q < 0
  · rw [if_pos hneg] at hres
    have e2 : IntKind.i64.wrap (z.tmod (q : Int) + q) = z.tmod (q : Int) + q := by rw [IntKind.wrap_i64]; omega
    have e3 : IntKind.u64.wrap (z.tmod (q : Int) + q) = z.tmod (q : Int) + q := wraps_u64 _ (by omega) (by omega)
    have HRES := Lib.hid hres
    clear hres hrl
    go_enter Tryz.func105, Tryz.ntmps105
    go_wp2_with fail
    go_ret
    exact ⟨by rw [HRES.out]; rfl, rfl⟩
  · rw [if_neg hneg] at hres
    have e3 : IntKind.u64.wrap (z.tmod (q : Int)) = z.tmod (q : Int) := wraps_u64 _ (by omega) (by omega)
    have HRES := Lib.hid hres
    clear hres hrl
    go_enter Tryz.func105, Tryz.ntmps105
    go_wp2_with fail
    go_ret
    exact ⟨by rw [HRES.out]; rfl, rfl⟩

theorem Blk.ucell9 {w : World} {g : Nat} {L : List Nat} {T : TypeId} (h : Blk w g (u32s L) T) {i : Nat} (hi : i < L.length) : w.cell? ⟨g, i, none⟩ = some (.int .u32 (L.getD i 0 : Nat)) := by
  have := h.cell i (by unfold u32s; rw [List.length_map]; omega)
  rw [this]; unfold u32s; rw [List.getElem_map, List.getD_eq_getElem?_getD, List.getElem?_eq_getElem hi]; rfl
theorem Blk.uset9 {w : World} {g : Nat} {L : List Nat} {T : TypeId} (h : Blk w g (u32s L) T) (i d : Nat) : Blk (w.setCell ⟨g, i, none⟩ (.int .u32 d)) g (u32s (L.set i d)) T := by
  have := h.set i (.int .u32 d)
  unfold u32s at this ⊢
  rw [List.map_set]; exact this
/-- Rounds of the product. -/
def prodI (q N : Nat) (a b : List Nat) (i : Nat) : List Nat := rowOf N (fun k => resZ (mulS N a b k i) q)
theorem prodI_zero (q N : Nat) (a b : List Nat) : prodI q N a b 0 = List.replicate N 0 := by
  unfold prodI rowOf
  refine List.ext_getElem (by simp) fun k h1 h2 => ?_
  simp [mulS, resZ]
theorem prodI_end (q N : Nat) (a b : List Nat) : prodI q N a b N = rowOf N (mulF q N a b) := rfl
theorem prodI_row {q N i : Nat} (a b : List Nat) (hi : i < N) : prodRow q N a b i 0 = prodI q N a b i := rowOf_congr fun k hk => prodAt_zero q N a b i k hi hk
theorem prodI_next {q N i : Nat} (a b : List Nat) (hi : i < N) : prodRow q N a b i N = prodI q N a b (i + 1) := rowOf_congr fun k hk => prodAt_full q N a b i k hi hk
theorem sliceAt_row {w : World} {v : Value} {l : List Nat} {N : Nat} (h : SliceAt w v l) (hl : l.length = N) (hN : 1 ≤ N) : ∃ b o c, v = .slice (some ⟨b, o, none⟩) N c ∧ RowAt w b o l := by
  obtain ⟨p, c, rfl, _, _, h4⟩ := h
  obtain ⟨b, o, rfl, hr⟩ := h4 (by intro e; rw [e] at hl; simp at hl; omega)
  exact ⟨b, o, c, by rw [hl], hr⟩
theorem prodRow_len (q N : Nat) (a b : List Nat) (i j : Nat) : (prodRow q N a b i j).length = N := rowOf_len _ _

set_option maxHeartbeats 8000000 in
set_option maxRecDepth 100000 in
theorem rprod9_any (q N : Nat) (a b : List Nat) (av bv : Value) (w : World) (hav : SliceAt w av a) (hbv : SliceAt w bv b) (hla : a.length = N) (hlb : b.length = N) (hN1 : 1 ≤ N) (hN : N ≤ 32) (hq : 1 ≤ q) (hq2 : q ≤ 2147483647) (hab : ∀ k, a.getD k 0 < q) (hbb : ∀ k, b.getD k 0 < q) :
    Calls Tryz.prog 104 #[.int .u32 (q : Nat), av, bv] w fun e w' => ∃ v, e = .returned v ∧ w'.ownsRow w.heap.size 22 1 v N (u32s (rowOf N (mulF q N a b))) ∧ Below w.heap.size w w' := by
  obtain ⟨b1, o1, c1, rfl, ra⟩ := sliceAt_row hav hla hN1
  obtain ⟨b2, o2, c2, rfl, rb⟩ := sliceAt_row hbv hlb hN1
  have hmk := fun wx => run_make_row' (P := Tryz.prog) 23 22 (.int .u32 0) 4 Tryz.underlying23 infoU32 rfl .i64 .i64 N (by omega) (by omega) wx
  have HRA := Lib.hid ra; have HRB := Lib.hid rb; have HLA := Lib.hid hla; have HLB := Lib.hid hlb; have HAB := Lib.hid hab; have HBB := Lib.hid hbb
  have hb : Below w.heap.size w (w.alloc (.cells (madeCells #[.int .u32 0] N) 22)) := (Below.refl _ _).alloc (Nat.le_refl _) _
  have hk : Blk (w.alloc (.cells (madeCells #[.int .u32 0] N) 22)) w.heap.size (u32s (prodI q N a b 0)) 22 := by
    have h := Blk.new w (madeCells #[.int .u32 0] N) 22
    rw [made_list] at h
    rw [prodI_zero]
    unfold u32s
    rw [List.map_replicate]
    exact h
  have HB := Lib.hid hb; have HK := Lib.hid hk
  clear ra rb hla hlb hab hbb hb hk hav hbv
  go_enter Tryz.func104, Tryz.ntmps104
  go_wp2_with fail
  clear hmk
  go_loopw [8, 9, 10, 11] (fun vi _ _ _ wr => ∃ i : Nat, vi = .int .i64 i ∧ i ≤ N ∧ Hid (Below w.heap.size w wr) ∧ Hid (Blk wr w.heap.size (u32s (prodI q N a b i)) 22)) (fun vi _ _ _ _ => N - (intOf vi).toNat)
  case atStart => exact ⟨0, rfl, by omega, HB, HK⟩
  case round =>
    obtain ⟨i, rfl, hi, hbl, hbk⟩ := hrel
    by_cases hin : i < N
    case neg =>
      obtain rfl : N = i := by omega
      have i1 : ¬ ((N : Int) < (N : Int)) := by omega
      go_wp2_with fail
      go_ret
      refine ⟨_, rfl, ?_, hbl.out⟩
      have h := hbk.out
      rw [prodI_end] at h
      exact own_blk (w := w) h (by unfold u32s; rw [List.length_map, rowOf_len]) (Nat.le_refl _) (by omega)
    case pos =>
    have hinI : (i : Int) < (N : Int) := by omega
    have hbk0 : Hid (Blk wr w.heap.size (u32s (prodRow q N a b i 0)) 22) := by rw [prodI_row a b hin]; exact hbk
    go_wp2_with fail
    go_loopw [9, 10, 11] (fun vj _ _ wr2 => ∃ j : Nat, vj = .int .i64 j ∧ j ≤ N ∧ Hid (Below w.heap.size w wr2) ∧ Hid (Blk wr2 w.heap.size (u32s (prodRow q N a b i j)) 22)) (fun vj _ _ _ => N - (intOf vj).toNat)
    case atStart => exact ⟨0, rfl, by omega, hbl, hbk0⟩
    case round =>
      obtain ⟨j, rfl, hj, hbl2, hbk2⟩ := hrel
      by_cases hjn : j < N
      case neg =>
        obtain rfl : N = j := by omega
        have i1 : ¬ ((N : Int) < (N : Int)) := by omega
        have hbk3 : Hid (Blk wr w.heap.size (u32s (prodI q N a b (i + 1))) 22) := by rw [← prodI_next a b hin]; exact hbk2
        go_wp2_with fail
        go_roundw
        case rel => exact ⟨i + 1, by go_num, by omega, hbl2, hbk3⟩
        case measure => simp [intOf]; omega
      case pos =>
      have hjnI : (j : Int) < (N : Int) := by omega
      have hia : i < a.length := by rw [HLA.out]; exact hin
      have hjb : j < b.length := by rw [HLB.out]; exact hjn
      have z1 := (below_at hbl2.out HRA.out.blk).trans (HRA.out.cell i hia)
      have z2 := (below_at hbl2.out HRB.out.blk).trans (HRB.out.cell j hjb)
      have va := HAB.out i
      have vb := HBB.out j
      have hsame := fun h => prodRow_same (a := a) (b := b) (q := q) (n := N) (i := i) (j := j) (by omega) hin hjn h
      have hwrap := fun h => prodRow_wrap (a := a) (b := b) (q := q) (n := N) (i := i) (j := j) (by omega) hin hjn h
      have hpl := prodRow_len q N a b i j
      rw [getD_at a 0 hia] at va hsame hwrap
      rw [getD_at b 0 hjb] at vb hsame hwrap
      have HSA := Lib.hid hsame; have HWR := Lib.hid hwrap
      clear hsame hwrap
      generalize a[i] = y at z1 va HSA HWR
      generalize b[j] = z at z2 vb HSA HWR
      have i0 : (0 : Int) ≤ (i : Int) := by omega
      have j0 : (0 : Int) ≤ (j : Int) := by omega
      have hq0 : ¬ ((q : Int) = 0) := by omega
      have hq1 : ¬ (q = 0) := by omega
      have hyz : y * z ≤ 2147483647 * 2147483647 := Nat.mul_le_mul (by omega) (by omega)
      have e0 : ((y : Int) * (z : Int)) = ((y * z : Nat) : Int) := by rw [Int.natCast_mul]
      have e1 : IntKind.u64.wrap (y : Int) = (y : Int) := wraps_u64 _ (by omega) (by omega)
      have e2 : IntKind.u64.wrap (z : Int) = (z : Int) := wraps_u64 _ (by omega) (by omega)
      have e3 : IntKind.u64.wrap ((y : Int) * (z : Int)) = (y : Int) * (z : Int) := by rw [e0]; exact wraps_u64 _ (by omega) (by omega)
      have e4 : IntKind.u64.wrap (q : Int) = (q : Int) := wraps_u64 _ (by omega) (by omega)
      obtain ⟨xm, hxm⟩ : ∃ xm, xm = y * z % q := ⟨_, rfl⟩
      have hxl : xm < q := by rw [hxm]; exact Nat.mod_lt _ (by omega)
      have e5 : (y : Int) * (z : Int) % (q : Int) = (xm : Int) := by rw [hxm, Int.natCast_emod, Int.natCast_mul]
      have e5t : ((y : Int) * (z : Int)).tmod (q : Int) = (xm : Int) := by rw [Int.tmod_eq_emod_of_nonneg (Int.mul_nonneg (by omega) (by omega))]; exact e5
      have e6 : IntKind.i64.wrap ((i : Int) + (j : Int)) = (i : Int) + (j : Int) := by rw [IntKind.wrap_i64]; omega
      rw [← hxm] at HSA HWR
      clear e0 hyz hxm
      by_cases hs : i + j < N
      · have hb3 := HSA.out hs
        have co := hbk2.out.ucell9 (i := i + j) (by rw [hpl]; exact hs)
        have fo := hbk2.out.free (i + j)
        have hge : ¬ ((i : Int) + (j : Int) ≥ (N : Int)) := by omega
        have hov : (prodRow q N a b i j).getD (i + j) 0 = prodAt q N a b i j (i + j) := rowOf_getD _ hs
        have holt : prodAt q N a b i j (i + j) < q := resZ_lt (by omega)
        rw [hov] at co
        have HSET := fun n => Lib.hid ((hbk2.out.drewN n).uset9 (i + j) ((prodAt q N a b i j (i + j) + xm) % q))
        rw [hb3] at HSET
        generalize prodAt q N a b i j (i + j) = ov at co holt HSET
        have k0 : (0 : Int) ≤ (i : Int) + (j : Int) := by omega
        have k1 : (i : Int) + (j : Int) < (N : Int) := by omega
        have ek : ((i : Int) + (j : Int)).toNat = i + j := by omega
        have f1 : IntKind.u64.wrap (ov : Int) = (ov : Int) := wraps_u64 _ (by omega) (by omega)
        have f2 : IntKind.u64.wrap ((ov : Int) + (xm : Int)) = (ov : Int) + (xm : Int) := wraps_u64 _ (by omega) (by omega)
        have f3 : ((ov : Int) + (xm : Int)) % (q : Int) = (((ov + xm) % q : Nat) : Int) := by rw [Int.natCast_emod, Int.natCast_add]
        have f3t : ((ov : Int) + (xm : Int)).tmod (q : Int) = (((ov + xm) % q : Nat) : Int) := by rw [Int.tmod_eq_emod_of_nonneg (by omega)]; exact f3
        have hml : (ov + xm) % q < q := Nat.mod_lt _ (by omega)
        generalize (ov + xm) % q = rr at f3 f3t hml HSET
        have f4 : IntKind.u32.wrap (rr : Int) = (rr : Int) := by rw [IntKind.wrap_u32]; omega
        have f5 : (rr : Int) % 4294967296 = (rr : Int) := Int.emod_eq_of_lt (by omega) (by omega)
        have HB3 : ∀ n, Hid (Below w.heap.size w ((wr.drewN n).setCell ⟨w.heap.size, i + j, none⟩ (.int .u32 (rr : Nat)))) := fun n => (⟨hbl2.out.os, hbl2.out.tape, hbl2.out.output, hbl2.out.size, hbl2.out.block⟩ : Below w.heap.size w (wr.drewN n)).setCell (p := ⟨w.heap.size, i + j, none⟩) (Nat.le_refl _) _
        clear HSA HWR hb3 hov holt hml
        go_wp2_with fail
        go_quiet (fail)
        go_wp2_with fail
        go_roundw
        case rel => exact ⟨j + 1, by go_num, by omega, HB3 _, HSET _⟩
        case measure => simp [intOf]; omega
      · have hb3 := HWR.out hs
        have hkN : i + j - N < N := by omega
        have co := hbk2.out.ucell9 (i := i + j - N) (by rw [hpl]; exact hkN)
        have fo := hbk2.out.free (i + j - N)
        have hge : (i : Int) + (j : Int) ≥ (N : Int) := by omega
        have hov : (prodRow q N a b i j).getD (i + j - N) 0 = prodAt q N a b i j (i + j - N) := rowOf_getD _ hkN
        have holt : prodAt q N a b i j (i + j - N) < q := resZ_lt (by omega)
        rw [hov] at co
        have HSET := fun n => Lib.hid ((hbk2.out.drewN n).uset9 (i + j - N) ((prodAt q N a b i j (i + j - N) + (q - xm) % q) % q))
        rw [hb3] at HSET
        generalize prodAt q N a b i j (i + j - N) = ov at co holt HSET
        obtain ⟨kk, hkk⟩ : ∃ kk, kk = i + j - N := ⟨_, rfl⟩
        rw [← hkk] at co fo HSET
        have ek2 : IntKind.i64.wrap ((i : Int) + (j : Int) - (N : Int)) = (kk : Int) := by rw [IntKind.wrap_i64]; omega
        have k0 : (0 : Int) ≤ (kk : Int) := by omega
        have k1 : (kk : Int) < (N : Int) := by omega
        have g1 : IntKind.u64.wrap ((q : Int) - (xm : Int)) = (q : Int) - (xm : Int) := wraps_u64 _ (by omega) (by omega)
        obtain ⟨xn, hxn⟩ : ∃ xn, xn = (q - xm) % q := ⟨_, rfl⟩
        have hxnl : xn < q := by rw [hxn]; exact Nat.mod_lt _ (by omega)
        have g2 : ((q : Int) - (xm : Int)) % (q : Int) = (xn : Int) := by rw [hxn, Int.natCast_emod, show ((q - xm : Nat) : Int) = (q : Int) - (xm : Int) by omega]
        have g2t : ((q : Int) - (xm : Int)).tmod (q : Int) = (xn : Int) := by rw [Int.tmod_eq_emod_of_nonneg (by omega)]; exact g2
        rw [← hxn] at HSET
        have f1 : IntKind.u64.wrap (ov : Int) = (ov : Int) := wraps_u64 _ (by omega) (by omega)
        have f2 : IntKind.u64.wrap ((ov : Int) + (xn : Int)) = (ov : Int) + (xn : Int) := wraps_u64 _ (by omega) (by omega)
        have f3 : ((ov : Int) + (xn : Int)) % (q : Int) = (((ov + xn) % q : Nat) : Int) := by rw [Int.natCast_emod, Int.natCast_add]
        have f3t : ((ov : Int) + (xn : Int)).tmod (q : Int) = (((ov + xn) % q : Nat) : Int) := by rw [Int.tmod_eq_emod_of_nonneg (by omega)]; exact f3
        have hml : (ov + xn) % q < q := Nat.mod_lt _ (by omega)
        generalize (ov + xn) % q = rr at f3 f3t hml HSET
        have f4 : IntKind.u32.wrap (rr : Int) = (rr : Int) := by rw [IntKind.wrap_u32]; omega
        have f5 : (rr : Int) % 4294967296 = (rr : Int) := Int.emod_eq_of_lt (by omega) (by omega)
        have HB3 : ∀ n, Hid (Below w.heap.size w ((wr.drewN n).setCell ⟨w.heap.size, kk, none⟩ (.int .u32 (rr : Nat)))) := fun n => (⟨hbl2.out.os, hbl2.out.tape, hbl2.out.output, hbl2.out.size, hbl2.out.block⟩ : Below w.heap.size w (wr.drewN n)).setCell (p := ⟨w.heap.size, kk, none⟩) (Nat.le_refl _) _
        have ekk : (i : Int) + (j : Int) = (kk : Int) + (N : Int) := by omega
        have hgeN : N ≤ i + j := by omega
        clear HSA HWR hb3 hov holt hml hkk hxn ekk
        go_wp2_with fail
        go_quiet (fail)
        go_wp2_with fail
        go_roundw
        case rel => exact ⟨j + 1, by go_num, by omega, HB3 _, HSET _⟩
        case measure => simp [intOf]; omega
end Go.Proofs.YtjpcljnojipdnaaGreat

/-! The reference: FromInts. (Printed by gen_PubL.py.) -/
namespace Go.Proofs.YtjpcljnojipdnaaGreat
open Go.RowKit Go.Shelf
set_option linter.unusedVariables false

section
variable {P : Program} {ops : Array Oper} {o : Oper} {a : Act} {w : World} {K : Act → World → Prop} {Q : Exit → Act → World → Prop} {E : Prop}
/-- append onto a row of the call's own, as one step of a region. -/
theorem step_own9 (hgd : o.guard = none) (s x : Operand) (t : TypeId) (ho : o.op = .call { callee := .builtin .append, args := #[s, x], argTypes := #[t, t] })
    (base : Nat) (e : TypeId) (i : TypeInfo) (z : Value) (bytes : Nat) (ht : P.underlying t = some (.slice e)) (hi : P.info? e = some i) (hz : i.zero = some z)
    (hsize : i.size = 1) (hby : i.bytes = bytes) (hzs : z.cells.size = 1)
    (v : Value) (n : Nat) (xs : List Value) (hs : a.eval s = v) (hown : w.ownsRow base e 1 v n xs)
    (ad : Addr) (m c : Nat) (news : List Value) (hx : a.eval x = .slice (some ad) m c) (hl : news.length = m * 1) (hnews : ∀ j u, news[j]? = some u → w.cell? (ad.add j) = some u) (h1 : ∀ u ∈ news, u.oneCell' = true)
    (h63 : n + m ≤ maxLen) (hbytes : (n + m) * bytes ≤ 140737488355328) (hbase : base ≤ w.heap.size)
    (h : ∀ v' w', w'.ownsRow base e 1 v' (n + m) (xs ++ news) → w.grownBy w' v.ownBlock → K (a.put o.dst v') w') :
    if Region.wanted o (yielded ops a.tmps) = true then Oper.wp P o a w K Q else E := by
  have hw : Region.wanted o (yielded ops a.tmps) = true := by simp [Region.wanted, hgd]
  rw [if_pos hw]
  obtain ⟨v', w', hr, h2, h3, _⟩ := run_append_own (P := P) w base t o.type e i z 1 bytes ht hi hz hsize hby hzs (by decide) v n xs hown ad m c news hl hnews h1 h63 hbytes hbase
  unfold Oper.wp execOp
  simp only [ho, resolve, invoke, builtin, Sem.run_bind, Sem.run_pure, Result.andThen_ok, List.map_toArray, List.map_cons, List.map_nil, hs, hx, hr]
  exact h v' w' h2 h3
end

theorem RowAt.neEl {w : World} {b off o : Nat} {l : List Nat} {z : Int} {c : Bool} {p : Option Addr} {n k : Nat} {T : TypeId} (h : RowAt w b off l) (hl : 1 ≤ l.length) (hb : Blk w o [.int .i64 z, .bool c, .slice p n k] T) : b ≠ o := by
  rintro rfl
  have h1 := h.cell 0 (by omega)
  have h2 := hb.get (off + 0)
  rw [h1] at h2
  match off + 0, h2 with
  | 0, h2 => simp at h2
  | 1, h2 => simp at h2
  | 2, h2 => simp at h2
  | k + 3, h2 => simp at h2
theorem own_mono9 {base b2 n : Nat} {T : TypeId} {W : World} {v : Value} {xs : List Value} (h : W.ownsRow base T 1 v n xs) (hb : b2 ≤ base) : W.ownsRow b2 T 1 v n xs := by
  refine ⟨h.1, ?_⟩
  rcases h.2 with h5 | ⟨g, cap, cur, e, hb2, rest⟩
  · exact .inl h5
  · exact .inr ⟨g, cap, cur, e, Nat.le_trans hb hb2, rest⟩
theorem EaI.below {base o L : Nat} {W0 W W' : World} {rows : List (List Nat)} (h : EaI base o L W0 W rows) (hb : Below W.heap.size W W') (hbase : base ≤ W0.heap.size) : EaI base o L W0 W' rows := by
  obtain ⟨v, vs, h1, h2, h3, h4⟩ := h
  obtain ⟨vs', h1', h2'⟩ := OwnR.below (⟨vs, h1, h2⟩ : OwnR base W v rows) hb
  exact ⟨v, vs', h1', h2', h3.below hb h3.lt, h4.trans (BelX.ofB (hb.mono (Nat.le_trans hbase h4.size)))⟩
/-- A row appended and stored. -/
theorem EaI.push {base o L : Nat} {W0 W W3 : World} {v v' rv : Value} {vs : List Value} {rows : List (List Nat)} {r : List Nat} {tmp : Obj} (ht : tmp.isCells = true) (hbase : base ≤ W0.heap.size) (ho : o < base)
    (h1 : W.ownsRow base 23 1 v rows.length vs) (h2 : RowsV base W vs rows) (h3 : Blk W o [.int .i64 L, .bool false, v] 32) (h4 : BelX o base W0 W) (hr : W.ownsRow base 22 1 rv r.length (u32s r))
    (ha : (W.alloc tmp).grownBy W3 v.ownBlock) (hw : W3.ownsRow base 23 1 v' (rows.length + 1) (vs ++ [rv])) : EaI base o L W0 (W3.setCell ⟨o, 2, none⟩ v') (rows ++ [r]) := by
  obtain ⟨hO, hB⟩ := ownr_app (o := o) ht (Nat.le_trans hbase h4.size) h1 h2 hr ha hw
  obtain ⟨vs', h1', h2'⟩ := OwnR.low (i := 2) (u := v') hO ho
  exact ⟨v', vs', h1', h2', (h3.below hB ho).set 2 v', (h4.trans (BelX.ofB hB)).set 2 v'⟩

set_option maxHeartbeats 8000000 in
set_option maxRecDepth 100000 in
theorem rfint9_any (x : Par) (L N : Nat) (cv lv : Value) (l : List Int) (w : World) (hx : Good x) (hN : x.n = N) (hcv : SliceAt w cv x.ch) (hL1 : 1 ≤ L) (hL : L ≤ x.ch.length)
    (hl : SliceZ .i64 w lv l) (hlen : l.length = N) :
    Calls Tryz.prog 58 #[x.val cv, .int .i64 L, .bool false, lv] w fun e w' => ∃ v, e = .returned (.tuple #[elVal L false v, .int .i64 0]) ∧ OwnR w.heap.size w' v (elRows L N (fun i => intF l (x.ch.getD i 0))) ∧ Below w.heap.size w w' := by
  obtain ⟨pc, nc, ccv, rfl⟩ : ∃ pa na ca, cv = .slice pa na ca := by obtain ⟨p, c, e, _⟩ := hcv; exact ⟨p, _, c, e⟩
  have hdm := isDim_cases hx.dim
  have hN1 : 1 ≤ N := by omega
  have hN32 : N ≤ 32 := by omega
  obtain ⟨pl, cl, rfl, hlc, hlc2, hlr⟩ := hl
  rw [hlen]
  obtain ⟨bl, ol, rfl, hrow⟩ := hlr (by intro e; rw [e] at hlen; simp at hlen; omega)
  obtain ⟨i0, hi0, hz0, hz1, hz2⟩ := info_partsE infoRow
  obtain ⟨j0, hj0, hy0, hy1, hy2⟩ := info_parts infoU32
  have hbW : Below w.heap.size w ((w.alloc (.cells #[.int .i64 x.n, .int .u32 x.p, .int .i64 x.r, .slice pc nc ccv, .int .u32 x.sp, .int .i64 x.wt, .int .u32 x.er] 25)).alloc (.cells #[.int .i64 0, .bool false, .slice none 0 0] 32)) := ((Below.refl _ _).alloc (Nat.le_refl _) _).alloc (by simp) _
  have hB : BoxP ((w.alloc (.cells #[.int .i64 x.n, .int .u32 x.p, .int .i64 x.r, .slice pc nc ccv, .int .u32 x.sp, .int .i64 x.wt, .int .u32 x.er] 25)).alloc (.cells #[.int .i64 0, .bool false, .slice none 0 0] 32)) w.heap.size x (.slice pc nc ccv) := by constructor <;> simp [go_sem]
  have hR : Blk ((w.alloc (.cells #[.int .i64 x.n, .int .u32 x.p, .int .i64 x.r, .slice pc nc ccv, .int .u32 x.sp, .int .i64 x.wt, .int .u32 x.er] 25)).alloc (.cells #[.int .i64 0, .bool false, .slice none 0 0] 32)) (w.heap.size + 1) [.int .i64 0, .bool false, .slice none 0 0] 32 := by
    have h := Blk.new (w.alloc (.cells #[.int .i64 x.n, .int .u32 x.p, .int .i64 x.r, .slice pc nc ccv, .int .u32 x.sp, .int .i64 x.wt, .int .u32 x.er] 25)) #[.int .i64 0, .bool false, .slice none 0 0] 32
    simpa using h
  have hS : ((w.alloc (.cells #[.int .i64 x.n, .int .u32 x.p, .int .i64 x.r, .slice pc nc ccv, .int .u32 x.sp, .int .i64 x.wt, .int .u32 x.er] 25)).alloc (.cells #[.int .i64 0, .bool false, .slice none 0 0] 32)).heap.size = w.heap.size + 2 := by simp
  have HCV := Lib.hid hcv; have HROW := Lib.hid hrow; have HX := Lib.hid hx; have HBW := Lib.hid hbW; have HB := Lib.hid hB; have HR := Lib.hid hR; have HN := Lib.hid hN; have HLEN := Lib.hid hlen; have HS := Lib.hid hS
  have hl2 := hx.l2
  have hpl : plB x (L : Nat) = true := by unfold plB; simp; omega
  have HPL := Lib.hid hpl
  clear hcv hrow hx hbW hB hR hN hlen hS hdm hlr hlc2 hpl
  unfold Par.val
  go_enter Tryz.func58, Tryz.ntmps58
  go_wp2_with fail
  refine (rvalid9_yes x _ _ HX.out (HCV.out.below HBW.out)).mono ?_
  rintro e w1 ⟨rfl, hb1⟩
  have HB1 := Lib.hid (HB.out.below hb1 (by rw [HS.out]; omega))
  have HBW1 := Lib.hid (HBW.out.trans (hb1.mono HBW.out.size))
  have HR1 := Lib.hid (HR.out.below hb1 HR.out.lt)
  have hs1 : w.heap.size + 2 ≤ w1.heap.size := by have := hb1.size; rw [HS.out] at this; exact this
  clear hb1 HB HR HBW HS
  obtain ⟨y0, y1, y2, y3, y4, y5, y6⟩ := HB1.out
  go_wp2_with fail
  refine (rplace9_any x _ L false _ HX.out (HCV.out.below HBW1.out)).mono ?_
  rintro e w2 ⟨rfl, hb2⟩
  rw [HPL.out]
  have HB2 := Lib.hid (HB1.out.below hb2 (by omega))
  have HBW2 := Lib.hid (HBW1.out.trans (hb2.mono HBW1.out.size))
  have HR2 := Lib.hid (HR1.out.below hb2 HR1.out.lt)
  have hs2 : w.heap.size + 2 ≤ w2.heap.size := by have := hb2.size; omega
  clear hb2 HB1 HR1 HBW1 y0 y1 y2 y3 y4 y5 y6
  obtain ⟨y0, y1, y2, y3, y4, y5, y6⟩ := HB2.out
  have z0 : (N : Int) = x.n := HN.out.symm
  have hlt2 : w.heap.size < w2.heap.size := by omega
  have hX : Below w2.heap.size w2 (w2.alloc (.cells #[.int .i64 L, .bool false, .slice none 0 0] 32)) := (Below.refl _ _).alloc (Nat.le_refl _) _
  have HXX := Lib.hid hX
  clear hX
  go_wp2_with fail
  refine (rmoduli9_any x _ L false _ HX.out ((HCV.out.below HBW2.out).below HXX.out) hL1 hL).mono ?_
  rintro e W0 ⟨⟨mv, rfl, hmv⟩, hb3⟩
  obtain ⟨bm, om, cm, rfl, hrm⟩ := sliceAt_row hmv (N := L) (by rw [qs_len hL]; simp) hL1
  have HO0 : Hid (Blk W0 w2.heap.size [.int .i64 L, .bool false, .slice none 0 0] 32) := (Blk.new w2 #[.int .i64 L, .bool false, .slice none 0 0] _).below hb3 (by simp)
  have hb23 := HXX.out.trans (hb3.mono (by simp))
  have HB0 := Lib.hid (HB2.out.below hb23 (by omega))
  have HR0 := Lib.hid (HR2.out.below hb23 HR2.out.lt)
  have HBW0 := Lib.hid (HBW2.out.trans (hb23.mono HBW2.out.size))
  have HRM := Lib.hid hrm
  have hbm : bm ≠ w2.heap.size := hrm.neEl (by rw [qs_len hL]; simp; omega) HO0.out
  have HRL := Lib.hid (HROW.out.below HBW0.out HROW.out.blk)
  have hblw : bl < w.heap.size := HROW.out.blk
  have hbmw : bm < W0.heap.size := hrm.blk
  have hs0 : w2.heap.size < W0.heap.size := HO0.out.lt
  have HQS : Hid ((qsOf x L false).length = L) := by show _ = _; rw [qs_len hL]; simp
  have HEA : Hid (EaI W0.heap.size w2.heap.size L W0 W0 (elRows 0 N (fun i => intF l (x.ch.getD i 0)))) := ⟨.slice none 0 0, [], World.ownsRow_nil _ _ _ _, RowsV.nil _ _, HO0.out, BelX.refl _ _ _⟩
  clear hmv hb3 hb23 hrm HXX HB2 HBW2 HR2 HROW y0 y1 y2 y3 y4 y5 y6 z0 hlt2 HO0
  generalize w2.heap.size = o at hs2 hbm hs0 HEA ⊢
  go_wp2_with fail
  go_loopw [12, 13, 14] (fun vi _ _ wr => ∃ k : Nat, vi = .int .i64 k ∧ k ≤ L ∧ Hid (EaI W0.heap.size o L W0 wr (elRows k N (fun i => intF l (x.ch.getD i 0))))) (fun vi _ _ _ => L - (intOf vi).toNat)
  case atStart => exact ⟨0, rfl, by omega, HEA⟩
  case round =>
    clear HEA
    obtain ⟨k, rfl, hk, hea⟩ := hrel
    by_cases hkl : k < L
    case neg =>
      obtain rfl : L = k := by omega
      have i1 : ¬ ((L : Int) < (L : Int)) := by omega
      obtain ⟨v, vs, h1, h2, h3, h4⟩ := hea.out
      obtain ⟨pv, cvv, rfl⟩ := own_slice h1
      rw [elRows_len] at *
      have HOW : Hid (OwnR W0.heap.size wr (.slice pv L cvv) (elRows L N (fun i => intF l (x.ch.getD i 0)))) := ⟨vs, by rw [elRows_len]; exact h1, h2⟩
      have a0 := h3.cell 0 (by simp); have a1 := h3.cell 1 (by simp); have a2 := h3.cell 2 (by simp)
      have HRb : Hid (Blk wr (w.heap.size + 1) [.int .i64 0, .bool false, .slice none 0 0] 32) := (h4.block _ (by omega) (by omega)).trans HR0.out
      have r0 := HRb.out.cell 0 (by simp); have r1 := HRb.out.cell 1 (by simp); have r2 := HRb.out.cell 2 (by simp)
      have s0 := HRb.out.free 0; have s1 := HRb.out.free 1; have s2 := HRb.out.free 2
      have HBF : Hid (Below w.heap.size w wr) := HBW0.out.trans ((h4.mono (show o ≤ W0.heap.size by omega)).below (Nat.le_refl _) |>.mono (by omega))
      have hsw : W0.heap.size ≤ wr.heap.size := h4.size
      have HF := Lib.hid (ownr_set3 (.int .i64 L) (.bool false) (.slice pv L cvv) HOW.out HRb.out)
      clear h1 h2 h3 h4 hea
      go_wp2_with fail
      obtain ⟨f1, f0, f2⟩ := HF.out
      have q0 := f0.cell 0 (by simp); have q1 := f0.cell 1 (by simp); have q2 := f0.cell 2 (by simp)
      refine bodyPost_ret (v := .tuple #[.agg #[.int .i64 L, .bool false, .slice pv L cvv], .int .i64 0]) (by simp [results, Tryz.results58, go_sem, q0, q1, q2]) rfl ?_
      exact ⟨_, rfl, f1.mono (by omega), below_gr HBF.out f2 (by omega) (by omega)⟩
    case pos =>
    have hkI : (k : Int) < (L : Int) := by omega
    obtain ⟨B1, hB1⟩ : ∃ B1, B1 = wr.heap.size := ⟨_, rfl⟩
    have hsw : W0.heap.size ≤ B1 := by rw [hB1]; obtain ⟨_, _, _, _, _, h4⟩ := hea.out; exact h4.size
    have HBX : Hid (BelX o W0.heap.size W0 wr) := by obtain ⟨_, _, _, _, _, h4⟩ := hea.out; exact h4
    have hqq : x.ch.getD k 0 = x.ch[k]'(by omega) := getD_at _ 0 (by omega)
    have hqb := ch_at HX.out (i := k) (by omega)
    have hqs : (qsOf x L false)[k]'(by rw [HQS.out]; exact hkl) = x.ch.getD k 0 := by
      rw [← getD_at _ 0 (by rw [HQS.out]; exact hkl), qs_at hL hkl, hqq]
    have hcm := HRM.out.cell k (by rw [HQS.out]; exact hkl)
    rw [hqs] at hcm
    have HCM := Lib.hid ((HBX.out.cell hbmw hbm).trans hcm)
    have HBE : Hid (Below B1 wr wr) := Below.refl _ _
    go_wp2_with fail
    go_loopw [13, 14] (fun vr vj wr2 => ∃ j : Nat, vj = .int .i64 j ∧ j ≤ N ∧ Hid (Below B1 wr wr2) ∧ Hid (wr2.ownsRow B1 22 1 vr j (u32s (rowOf j (intF l (x.ch.getD k 0)))))) (fun _ vj _ => N - (intOf vj).toNat)
    case atStart => exact ⟨0, rfl, by omega, HBE, World.ownsRow_nil _ _ _ _⟩
    case round =>
      clear HBE
      obtain ⟨j, rfl, hj, hbe, hown⟩ := hrel
      have HP0 := (HBX.out.cell (k := w.heap.size) (i := 0) (by omega) (by omega)).trans HB0.out.n
      have y0 := (below_at hbe.out (by omega)).trans HP0
      rw [HN.out] at y0
      obtain ⟨pv, cvv, rfl⟩ := own_slice hown.out
      by_cases hjn : j < N
      case neg =>
        obtain rfl : N = j := by omega
        have i1 : ¬ ((N : Int) < (N : Int)) := by omega
        obtain ⟨v, vs, h1, h2, h3, h4⟩ := hea.out.below (hbe.out.mono (by omega)) (Nat.le_refl _)
        obtain ⟨p2, cc2, rfl⟩ := own_slice h1
        have hrl : (elRows k N (fun i => intF l (x.ch.getD i 0))).length = k := elRows_len _ _ _
        rw [hrl] at h1 h3
        have hszr : W0.heap.size ≤ wr.heap.size := h4.size
        have hrv : wr.ownsRow W0.heap.size 22 1 (.slice pv N cvv) (rowOf N (intF l (x.ch.getD k 0))).length (u32s (rowOf N (intF l (x.ch.getD k 0)))) := by rw [rowOf_len]; exact own_mono9 hown.out hsw
        have x2 := h3.cell 2 (by simp)
        have f2 := h3.free 2
        have H1 := Lib.hid h1; have H2 := Lib.hid h2; have H3 := Lib.hid h3; have H4 := Lib.hid h4; have HRV := Lib.hid hrv
        have hoW : o < wr.heap.size := h3.lt
        have HPUSH : Hid (∀ (W3 : World) (v' : Value), (wr.alloc (.cells #[.slice pv N cvv] 23)).grownBy W3 (Value.slice p2 k cc2).ownBlock → W3.ownsRow W0.heap.size 23 1 v' (k + 1) (vs ++ [.slice pv N cvv]) →
            EaI W0.heap.size o L W0 (W3.setCell ⟨o, 2, none⟩ v') (elRows (k + 1) N (fun i => intF l (x.ch.getD i 0))) ∧ W3.cell? ⟨o, 2, none⟩ = some (.slice p2 k cc2) ∧ W3.frozen? ⟨o, 2, none⟩ = false) := fun W3 v' hg hw => by
          have hb3 := (ownr_app (o := o) (r := rowOf N (intF l (x.ch.getD k 0))) (rows := elRows k N (fun i => intF l (x.ch.getD i 0))) rfl hszr (by rw [hrl]; exact h1) h2 hrv hg (by rw [hrl]; exact hw)).2
          have hp := EaI.push (L := L) (rows := elRows k N (fun i => intF l (x.ch.getD i 0))) (r := rowOf N (intF l (x.ch.getD k 0))) rfl (Nat.le_refl _) hs0 (by rw [hrl]; exact h1) h2 h3 h4 hrv hg (by rw [hrl]; exact hw)
          rw [elRows_succ]
          exact ⟨hp, (below_at (i := 2) hb3 hs0).trans x2, (hb3.frozen (p := ⟨o, 2, none⟩) hs0).trans f2⟩
        clear h1 h2 h3 h4 hrl hrv hown hea HP0
        go_wp2_with (at_builtin; (refine wpList_append_own _ rfl _ _ 30 rfl W0.heap.size 23 i0 (.slice none 0 0) 1 24 Tryz.underlying30 hi0 hz0 hz1 hz2 rfl (by decide) _ _ _ rfl (H1.out.alloc _) ⟨wr.heap.size, 0, none⟩ 1 1 [.slice pv N cvv] rfl rfl (cell_one_new _ _ _) (by simp [Value.oneCell']) (by unfold maxLen; omega) (by omega) (by simp; omega) ?_); intro v' W3 hown' hgrow _; obtain ⟨g', cap', rfl⟩ := ownsRow_succ hown'; obtain ⟨hp, c4, f4⟩ := HPUSH.out W3 _ hgrow hown'; have HPU := Lib.hid hp; clear hown' hgrow hp)
        go_roundw
        case rel => exact ⟨k + 1, by go_num, by omega, HPU⟩
        case measure => simp [intOf]; omega
      case pos =>
      have hjI : (j : Int) < (N : Int) := by omega
      have hjl : j < l.length := by rw [HLEN.out]; exact hjn
      have hzz : l.getD j 0 = l[j] := getD_lt hjl
      have c1 := (below_at hbe.out (by omega)).trans ((HBX.out.cell (k := bl) (i := ol + j) (by omega) (by omega)).trans (HRL.out.cell j hjl))
      have c2 := (below_at hbe.out (by omega)).trans HCM.out
      have hwf := wf_i64 (HRL.out.rng _ (List.getElem_mem hjl))
      have HF : Hid (intF l (x.ch.getD k 0) j = resZ (l.getD j 0) (x.ch.getD k 0)) := rfl
      rw [← hzz] at c1 hwf
      generalize l.getD j 0 = z at c1 hwf HF
      obtain ⟨q, hq⟩ : ∃ q, x.ch.getD k 0 = q := ⟨_, rfl⟩
      rw [hq] at c2 HF hqb
      have HQ := Lib.hid hq
      have hrl := resZ_lt (z := z) (q := q) (by omega)
      have e1 : IntKind.u32.wrap ((resZ z q : Nat) : Int) = ((resZ z q : Nat) : Int) := by rw [IntKind.wrap_u32]; omega
      have hsz : W0.heap.size ≤ wr.heap.size := by have := hbe.out.size; omega
      have HKP : Hid (∀ W, Below W0.heap.size wr W → W.cell? ⟨bl, ol + j, none⟩ = some (.int .i64 z) ∧ W.cell? ⟨bm, om + k, none⟩ = some (.int .u32 q)) := fun W hW => ⟨(below_at hW (by omega)).trans c1, (below_at hW (by omega)).trans c2⟩
      have HOD : Hid (wr.drew.ownsRow B1 22 1 (.slice pv j cvv) j (u32s (rowOf j (intF l (x.ch.getD k 0))))) := hown.out
      have hBw : B1 ≤ wr.heap.size := by have := hbe.out.size; omega
      clear hown hq hzz hqq hqs hcm
      go_wp2_with fail
      go_region_held_law (fun w' => w'.cell? ⟨bl, ol + j, none⟩ = some (.int .i64 z) ∧ w'.cell? ⟨bm, om + k, none⟩ = some (.int .u32 q)) (first | exact HKP.out _ (Below.refl _ _).drew | exact HKP.out _ ((Below.refl _ _).drew.alloc hsz _) | exact HKP.out _ HB3.out)
        (first
          | (go_at_call 105; refine (rres_any z q _ (by omega) (by omega) hwf).mono ?_; rintro e w4 ⟨rfl, rfl⟩)
          | (refine step_own9 rfl (.tmp 52) (.tmp 63) 23 rfl B1 22 j0 (.int .u32 0) 4 Tryz.underlying23 hj0 hy0 hy1 hy2 rfl _ _ _ rfl (HOD.out.alloc _) ⟨wr.heap.size, 0, none⟩ 1 1 [.int .u32 (resZ z q : Nat)] rfl rfl (cell_one_new _ _ _) (by simp [Value.oneCell']) (by unfold maxLen; omega) (by omega) (by simp; omega) ?_; intro v' W3 hown' hgrow; have HO3 := Lib.hid hown'; have HB3 := Lib.hid (((Below.refl W0.heap.size wr).drew.alloc hsz _).grown hgrow (by simp; omega) (fun q hq => by have := own_ge HOD.out q hq; omega)); have HB4 := Lib.hid (((Below.refl B1 wr).drew.alloc hBw _).grown hgrow (by simp; omega) (own_ge HOD.out)); clear hown' hgrow))
      have HO4 : Hid (W3.ownsRow B1 22 1 v' (j + 1) (u32s (rowOf (j + 1) (intF l (x.ch.getD k 0))))) := by
        have h := HO3.out
        show World.ownsRow _ _ _ _ _ _ _
        rw [rowOf_succ, HQ.out]
        rw [HQ.out] at h
        unfold u32s at h ⊢
        rw [List.map_append, HF.out]
        exact h
      have HB5 : Hid (Below B1 _ W3) := hbe.out.trans HB4.out
      clear HOD HKP HO3 HB3 HB4
      go_wp2_with fail
      go_roundw
      case rel => exact ⟨j + 1, by go_num, by omega, HB5, HO4⟩
      case measure => simp [intOf]; omega
end Go.Proofs.YtjpcljnojipdnaaGreat

/-! The reference: sum. (Printed by gen_PubL.py.) -/
namespace Go.Proofs.YtjpcljnojipdnaaGreat
open Go.RowKit Go.Shelf
set_option linter.unusedVariables false

theorem sliceR_in {w : World} {v : Value} {rows : List (List Nat)} {L N : Nat} (h : SliceR w v rows) (hl : rows.length = L) (hL : 1 ≤ L) (hN : 1 ≤ N) (hr : ∀ i, i < L → (rows.getD i []).length = N) :
    ∃ b o c, v = .slice (some ⟨b, o, none⟩) L c ∧ b < w.heap.size ∧ ∀ i, i < L → ∃ u p d, w.cell? ⟨b, o + i, none⟩ = some (.slice (some ⟨u, p, none⟩) N d) ∧ RowAt w u p (rows.getD i []) := by
  obtain ⟨p, cap, rfl, h2, h3, h4⟩ := h
  obtain ⟨b, off, rfl, hb, hrow⟩ := h4 (by intro e; rw [e] at hl; simp at hl; omega)
  refine ⟨b, off, cap, by rw [hl], hb, fun i hi => ?_⟩
  have hi2 : i < rows.length := by rw [hl]; exact hi
  obtain ⟨u, hu, hs⟩ := hrow i hi2
  have e : rows.getD i [] = rows[i] := getD_at _ _ _
  have hn := hr i hi
  rw [e] at hn ⊢
  obtain ⟨pu, cu, rfl, k2, k3, k4⟩ := hs
  obtain ⟨bu, ou, rfl, hru⟩ := k4 (by intro e; rw [e] at hn; simp at hn; omega)
  exact ⟨bu, ou, cu, by rw [← hn]; exact hu, hru⟩

set_option maxHeartbeats 8000000 in
set_option maxRecDepth 100000 in
theorem rsum9_any (x : Par) (L N : Nat) (c : Int) (cv av bv : Value) (ra rb : List (List Nat)) (w : World) (hx : Good x) (hN : x.n = N) (hcv : SliceAt w cv x.ch) (hL1 : 1 ≤ L) (hL : L ≤ x.ch.length)
    (hra : SliceR w av ra) (hRA : ResR x L N ra) (hrb : SliceR w bv rb) (hRB : ResR x L N rb) (hc : -9223372036854775808 ≤ c ∧ c ≤ 9223372036854775807) :
    Calls Tryz.prog 103 #[x.val cv, elVal L false av, elVal L false bv, .int .i64 c] w fun e w' => ∃ v, e = .returned (elVal L false v) ∧ OwnR w.heap.size w' v (elRows L N (fun i => sumF c (x.ch.getD i 0) (ra.getD i []) (rb.getD i []))) ∧ Below w.heap.size w w' := by
  obtain ⟨pc, nc, ccv, rfl⟩ : ∃ pa na ca, cv = .slice pa na ca := by obtain ⟨p, c, e, _⟩ := hcv; exact ⟨p, _, c, e⟩
  have hdm := isDim_cases hx.dim
  have hN1 : 1 ≤ N := by omega
  have hN32 : N ≤ 32 := by omega
  obtain ⟨b1, o1, c1, rfl, hb1w, hrow1⟩ := sliceR_in hra hRA.1 hL1 hN1 (fun i hi => (hRA.2 i hi).1)
  obtain ⟨b2, o2, c2, rfl, hb2w, hrow2⟩ := sliceR_in hrb hRB.1 hL1 hN1 (fun i hi => (hRB.2 i hi).1)
  obtain ⟨i0, hi0, hz0, hz1, hz2⟩ := info_partsE infoRow
  obtain ⟨j0, hj0, hy0, hy1, hy2⟩ := info_parts infoU32
  have hbW : Below w.heap.size w (((((w.alloc (.cells #[.int .i64 x.n, .int .u32 x.p, .int .i64 x.r, .slice pc nc ccv, .int .u32 x.sp, .int .i64 x.wt, .int .u32 x.er] 25)).alloc (.cells #[.int .i64 L, .bool false, .slice (some ⟨b1, o1, none⟩) L c1] 32)).alloc (.cells #[.int .i64 L, .bool false, .slice (some ⟨b2, o2, none⟩) L c2] 32)).alloc (.cells #[.int .i64 0, .bool false, .slice none 0 0] 32)).alloc (.cells #[.int .i64 L, .bool false, .slice none 0 0] 32)) := (((((Below.refl _ _).alloc (Nat.le_refl _) _).alloc (by simp) _).alloc (by simp; omega) _).alloc (by simp; omega) _).alloc (by simp; omega) _
  have hB : BoxP (((((w.alloc (.cells #[.int .i64 x.n, .int .u32 x.p, .int .i64 x.r, .slice pc nc ccv, .int .u32 x.sp, .int .i64 x.wt, .int .u32 x.er] 25)).alloc (.cells #[.int .i64 L, .bool false, .slice (some ⟨b1, o1, none⟩) L c1] 32)).alloc (.cells #[.int .i64 L, .bool false, .slice (some ⟨b2, o2, none⟩) L c2] 32)).alloc (.cells #[.int .i64 0, .bool false, .slice none 0 0] 32)).alloc (.cells #[.int .i64 L, .bool false, .slice none 0 0] 32)) w.heap.size x (.slice pc nc ccv) := by constructor <;> simp [go_sem]
  have hA2 : (((((w.alloc (.cells #[.int .i64 x.n, .int .u32 x.p, .int .i64 x.r, .slice pc nc ccv, .int .u32 x.sp, .int .i64 x.wt, .int .u32 x.er] 25)).alloc (.cells #[.int .i64 L, .bool false, .slice (some ⟨b1, o1, none⟩) L c1] 32)).alloc (.cells #[.int .i64 L, .bool false, .slice (some ⟨b2, o2, none⟩) L c2] 32)).alloc (.cells #[.int .i64 0, .bool false, .slice none 0 0] 32)).alloc (.cells #[.int .i64 L, .bool false, .slice none 0 0] 32)).cell? ⟨w.heap.size + 1, 2, none⟩ = some (.slice (some ⟨b1, o1, none⟩) L c1) := by simp [go_sem]
  have hB2 : (((((w.alloc (.cells #[.int .i64 x.n, .int .u32 x.p, .int .i64 x.r, .slice pc nc ccv, .int .u32 x.sp, .int .i64 x.wt, .int .u32 x.er] 25)).alloc (.cells #[.int .i64 L, .bool false, .slice (some ⟨b1, o1, none⟩) L c1] 32)).alloc (.cells #[.int .i64 L, .bool false, .slice (some ⟨b2, o2, none⟩) L c2] 32)).alloc (.cells #[.int .i64 0, .bool false, .slice none 0 0] 32)).alloc (.cells #[.int .i64 L, .bool false, .slice none 0 0] 32)).cell? ⟨w.heap.size + 1 + 1, 2, none⟩ = some (.slice (some ⟨b2, o2, none⟩) L c2) := by simp [go_sem]
  have hR : Blk (((((w.alloc (.cells #[.int .i64 x.n, .int .u32 x.p, .int .i64 x.r, .slice pc nc ccv, .int .u32 x.sp, .int .i64 x.wt, .int .u32 x.er] 25)).alloc (.cells #[.int .i64 L, .bool false, .slice (some ⟨b1, o1, none⟩) L c1] 32)).alloc (.cells #[.int .i64 L, .bool false, .slice (some ⟨b2, o2, none⟩) L c2] 32)).alloc (.cells #[.int .i64 0, .bool false, .slice none 0 0] 32)).alloc (.cells #[.int .i64 L, .bool false, .slice none 0 0] 32)) (w.heap.size + 1 + 1 + 1) [.int .i64 0, .bool false, .slice none 0 0] 32 := by
    have h := (Blk.new (((w.alloc (.cells #[.int .i64 x.n, .int .u32 x.p, .int .i64 x.r, .slice pc nc ccv, .int .u32 x.sp, .int .i64 x.wt, .int .u32 x.er] 25)).alloc (.cells #[.int .i64 L, .bool false, .slice (some ⟨b1, o1, none⟩) L c1] 32)).alloc (.cells #[.int .i64 L, .bool false, .slice (some ⟨b2, o2, none⟩) L c2] 32)) #[.int .i64 0, .bool false, .slice none 0 0] 32).alloc (.cells #[.int .i64 L, .bool false, .slice none 0 0] 32)
    simpa using h
  have hO : Blk (((((w.alloc (.cells #[.int .i64 x.n, .int .u32 x.p, .int .i64 x.r, .slice pc nc ccv, .int .u32 x.sp, .int .i64 x.wt, .int .u32 x.er] 25)).alloc (.cells #[.int .i64 L, .bool false, .slice (some ⟨b1, o1, none⟩) L c1] 32)).alloc (.cells #[.int .i64 L, .bool false, .slice (some ⟨b2, o2, none⟩) L c2] 32)).alloc (.cells #[.int .i64 0, .bool false, .slice none 0 0] 32)).alloc (.cells #[.int .i64 L, .bool false, .slice none 0 0] 32)) (w.heap.size + 1 + 1 + 1 + 1) [.int .i64 L, .bool false, .slice none 0 0] 32 := by
    have h := Blk.new ((((w.alloc (.cells #[.int .i64 x.n, .int .u32 x.p, .int .i64 x.r, .slice pc nc ccv, .int .u32 x.sp, .int .i64 x.wt, .int .u32 x.er] 25)).alloc (.cells #[.int .i64 L, .bool false, .slice (some ⟨b1, o1, none⟩) L c1] 32)).alloc (.cells #[.int .i64 L, .bool false, .slice (some ⟨b2, o2, none⟩) L c2] 32)).alloc (.cells #[.int .i64 0, .bool false, .slice none 0 0] 32)) #[.int .i64 L, .bool false, .slice none 0 0] 32
    simpa using h
  have hS : (((((w.alloc (.cells #[.int .i64 x.n, .int .u32 x.p, .int .i64 x.r, .slice pc nc ccv, .int .u32 x.sp, .int .i64 x.wt, .int .u32 x.er] 25)).alloc (.cells #[.int .i64 L, .bool false, .slice (some ⟨b1, o1, none⟩) L c1] 32)).alloc (.cells #[.int .i64 L, .bool false, .slice (some ⟨b2, o2, none⟩) L c2] 32)).alloc (.cells #[.int .i64 0, .bool false, .slice none 0 0] 32)).alloc (.cells #[.int .i64 L, .bool false, .slice none 0 0] 32)).heap.size = w.heap.size + 5 := by simp
  have HCV := Lib.hid hcv; have HROW1 := Lib.hid hrow1; have HROW2 := Lib.hid hrow2; have HX := Lib.hid hx; have HBW := Lib.hid hbW; have HB := Lib.hid hB; have HR := Lib.hid hR; have HN := Lib.hid hN; have HS := Lib.hid hS; have HA2 := Lib.hid hA2; have HB2 := Lib.hid hB2; have HO := Lib.hid hO; have HRA := Lib.hid hRA; have HRB := Lib.hid hRB
  have hl2 := hx.l2
  clear hcv hrow1 hrow2 hx hbW hB hR hN hS hdm hA2 hB2 hO hRA hRB hra hrb
  unfold Par.val elVal
  go_enter Tryz.func103, Tryz.ntmps103
  go_wp2_with fail
  refine (rmoduli9_any x _ L false _ HX.out (HCV.out.below HBW.out) hL1 hL).mono ?_
  rintro e W0 ⟨⟨mv, rfl, hmv⟩, hb3⟩
  obtain ⟨bm, om, cm, rfl, hrm⟩ := sliceAt_row hmv (N := L) (by rw [qs_len hL]; simp) hL1
  have HO0 : Hid (Blk W0 (w.heap.size + 1 + 1 + 1 + 1) [.int .i64 L, .bool false, .slice none 0 0] 32) := HO.out.below hb3 HO.out.lt
  have HB0 := Lib.hid (HB.out.below hb3 (by rw [HS.out]; omega))
  have HR0 := Lib.hid (HR.out.below hb3 HR.out.lt)
  have HA0 := Lib.hid ((below_at (i := 2) hb3 (show w.heap.size + 1 < _ by rw [HS.out]; omega)).trans HA2.out)
  have HC0 := Lib.hid ((below_at (i := 2) hb3 (show w.heap.size + 1 + 1 < _ by rw [HS.out]; omega)).trans HB2.out)
  have HBW0 := Lib.hid (HBW.out.trans (hb3.mono HBW.out.size))
  have HRM := Lib.hid hrm
  have hbm : bm ≠ (w.heap.size + 1 + 1 + 1 + 1) := hrm.neEl (by rw [qs_len hL]; simp; omega) HO0.out
  have hbmw : bm < W0.heap.size := hrm.blk
  have hs0 : (w.heap.size + 1 + 1 + 1 + 1) < W0.heap.size := HO0.out.lt
  have HQS : Hid ((qsOf x L false).length = L) := by show _ = _; rw [qs_len hL]; simp
  have HEA : Hid (EaI W0.heap.size (w.heap.size + 1 + 1 + 1 + 1) L W0 W0 (elRows 0 N (fun i => sumF c (x.ch.getD i 0) (ra.getD i []) (rb.getD i [])))) := ⟨.slice none 0 0, [], World.ownsRow_nil _ _ _ _, RowsV.nil _ _, HO0.out, BelX.refl _ _ _⟩
  clear hmv hb3 hrm HO0 HO HB HR HA2 HB2 HBW HS
  obtain ⟨o, ho⟩ : ∃ o, o = (w.heap.size + 1 + 1 + 1 + 1) := ⟨_, rfl⟩
  rw [← ho] at hbm hs0 HEA
  rw [show w.heap.size + 1 + 1 + 1 + 1 = o from ho.symm]
  have ho1 : o ≤ w.heap.size + 4 := by omega
  have ho2 : w.heap.size + 4 ≤ o := by omega
  clear ho
  go_wp2_with fail
  go_loopw [11, 12, 13] (fun vi _ _ wr => ∃ k : Nat, vi = .int .i64 k ∧ k ≤ L ∧ Hid (EaI W0.heap.size o L W0 wr (elRows k N (fun i => sumF c (x.ch.getD i 0) (ra.getD i []) (rb.getD i []))))) (fun vi _ _ _ => L - (intOf vi).toNat)
  case atStart => exact ⟨0, rfl, by omega, HEA⟩
  case round =>
    clear HEA
    obtain ⟨k, rfl, hk, hea⟩ := hrel
    by_cases hkl : k < L
    case neg =>
      obtain rfl : L = k := by omega
      have i1 : ¬ ((L : Int) < (L : Int)) := by omega
      obtain ⟨v, vs, h1, h2, h3, h4⟩ := hea.out
      obtain ⟨pv, cvv, rfl⟩ := own_slice h1
      rw [elRows_len] at *
      have HOW : Hid (OwnR W0.heap.size wr (.slice pv L cvv) (elRows L N (fun i => sumF c (x.ch.getD i 0) (ra.getD i []) (rb.getD i [])))) := ⟨vs, by rw [elRows_len]; exact h1, h2⟩
      have a0 := h3.cell 0 (by simp); have a1 := h3.cell 1 (by simp); have a2 := h3.cell 2 (by simp)
      have HRb : Hid (Blk wr (w.heap.size + 1 + 1 + 1) [.int .i64 0, .bool false, .slice none 0 0] 32) := (h4.block _ (by omega) (by omega)).trans HR0.out
      have r0 := HRb.out.cell 0 (by simp); have r1 := HRb.out.cell 1 (by simp); have r2 := HRb.out.cell 2 (by simp)
      have s0 := HRb.out.free 0; have s1 := HRb.out.free 1; have s2 := HRb.out.free 2
      have HBF : Hid (Below w.heap.size w wr) := HBW0.out.trans ((h4.mono (show o ≤ W0.heap.size by omega)).below (Nat.le_refl _) |>.mono (by omega))
      have hsw : W0.heap.size ≤ wr.heap.size := h4.size
      have HF := Lib.hid (ownr_set3 (.int .i64 L) (.bool false) (.slice pv L cvv) HOW.out HRb.out)
      clear h1 h2 h3 h4 hea
      go_wp2_with fail
      obtain ⟨f1, f0, f2⟩ := HF.out
      have q0 := f0.cell 0 (by simp); have q1 := f0.cell 1 (by simp); have q2 := f0.cell 2 (by simp)
      refine bodyPost_ret (v := .agg #[.int .i64 L, .bool false, .slice pv L cvv]) (by simp [results, Tryz.results103, go_sem, q0, q1, q2]) rfl ?_
      exact ⟨_, rfl, f1.mono (by omega), below_gr HBF.out f2 (by omega) (by omega)⟩
    case pos =>
    have hkI : (k : Int) < (L : Int) := by omega
    obtain ⟨B1, hB1⟩ : ∃ B1, B1 = wr.heap.size := ⟨_, rfl⟩
    have hsw : W0.heap.size ≤ B1 := by rw [hB1]; obtain ⟨_, _, _, _, _, h4⟩ := hea.out; exact h4.size
    have HBX : Hid (BelX o W0.heap.size W0 wr) := by obtain ⟨_, _, _, _, _, h4⟩ := hea.out; exact h4
    have hqq : x.ch.getD k 0 = x.ch[k]'(by omega) := getD_at _ 0 (by omega)
    have hqb := ch_at HX.out (i := k) (by omega)
    have hqs : (qsOf x L false)[k]'(by rw [HQS.out]; exact hkl) = x.ch.getD k 0 := by
      rw [← getD_at _ 0 (by rw [HQS.out]; exact hkl), qs_at hL hkl, hqq]
    have hcm := HRM.out.cell k (by rw [HQS.out]; exact hkl)
    rw [hqs] at hcm
    have HCM := Lib.hid ((HBX.out.cell hbmw hbm).trans hcm)
    have HBE : Hid (Below B1 wr wr) := Below.refl _ _
    go_wp2_with fail
    go_loopw [12, 13] (fun vr vj wr2 => ∃ j : Nat, vj = .int .i64 j ∧ j ≤ N ∧ Hid (Below B1 wr wr2) ∧ Hid (wr2.ownsRow B1 22 1 vr j (u32s (rowOf j (sumF c (x.ch.getD k 0) (ra.getD k []) (rb.getD k [])))))) (fun _ vj _ => N - (intOf vj).toNat)
    case atStart => exact ⟨0, rfl, by omega, HBE, World.ownsRow_nil _ _ _ _⟩
    case round =>
      clear HBE
      obtain ⟨j, rfl, hj, hbe, hown⟩ := hrel
      have HP0 := (HBX.out.cell (k := w.heap.size) (i := 0) (by omega) (by omega)).trans HB0.out.n
      have y0 := (below_at hbe.out (by omega)).trans HP0
      rw [HN.out] at y0
      obtain ⟨pv, cvv, rfl⟩ := own_slice hown.out
      by_cases hjn : j < N
      case neg =>
        obtain rfl : N = j := by omega
        have i1 : ¬ ((N : Int) < (N : Int)) := by omega
        obtain ⟨v, vs, h1, h2, h3, h4⟩ := hea.out.below (hbe.out.mono (by omega)) (Nat.le_refl _)
        obtain ⟨p2, cc2, rfl⟩ := own_slice h1
        have hrl : (elRows k N (fun i => sumF c (x.ch.getD i 0) (ra.getD i []) (rb.getD i []))).length = k := elRows_len _ _ _
        rw [hrl] at h1 h3
        have hszr : W0.heap.size ≤ wr.heap.size := h4.size
        have hrv : wr.ownsRow W0.heap.size 22 1 (.slice pv N cvv) (rowOf N (sumF c (x.ch.getD k 0) (ra.getD k []) (rb.getD k []))).length (u32s (rowOf N (sumF c (x.ch.getD k 0) (ra.getD k []) (rb.getD k [])))) := by rw [rowOf_len]; exact own_mono9 hown.out hsw
        have x2 := h3.cell 2 (by simp)
        have f2 := h3.free 2
        have H1 := Lib.hid h1; have H2 := Lib.hid h2; have H3 := Lib.hid h3; have H4 := Lib.hid h4; have HRV := Lib.hid hrv
        have hoW : o < wr.heap.size := h3.lt
        have HPUSH : Hid (∀ (W3 : World) (v' : Value), (wr.alloc (.cells #[.slice pv N cvv] 23)).grownBy W3 (Value.slice p2 k cc2).ownBlock → W3.ownsRow W0.heap.size 23 1 v' (k + 1) (vs ++ [.slice pv N cvv]) →
            EaI W0.heap.size o L W0 (W3.setCell ⟨o, 2, none⟩ v') (elRows (k + 1) N (fun i => sumF c (x.ch.getD i 0) (ra.getD i []) (rb.getD i []))) ∧ W3.cell? ⟨o, 2, none⟩ = some (.slice p2 k cc2) ∧ W3.frozen? ⟨o, 2, none⟩ = false) := fun W3 v' hg hw => by
          have hb3 := (ownr_app (o := o) (r := rowOf N (sumF c (x.ch.getD k 0) (ra.getD k []) (rb.getD k []))) (rows := elRows k N (fun i => sumF c (x.ch.getD i 0) (ra.getD i []) (rb.getD i []))) rfl hszr (by rw [hrl]; exact h1) h2 hrv hg (by rw [hrl]; exact hw)).2
          have hp := EaI.push (L := L) (rows := elRows k N (fun i => sumF c (x.ch.getD i 0) (ra.getD i []) (rb.getD i []))) (r := rowOf N (sumF c (x.ch.getD k 0) (ra.getD k []) (rb.getD k []))) rfl (Nat.le_refl _) hs0 (by rw [hrl]; exact h1) h2 h3 h4 hrv hg (by rw [hrl]; exact hw)
          rw [elRows_succ]
          exact ⟨hp, (below_at (i := 2) hb3 hs0).trans x2, (hb3.frozen (p := ⟨o, 2, none⟩) hs0).trans f2⟩
        clear h1 h2 h3 h4 hrl hrv hown hea HP0
        go_wp2_with (at_builtin; (refine wpList_append_own _ rfl _ _ 30 rfl W0.heap.size 23 i0 (.slice none 0 0) 1 24 Tryz.underlying30 hi0 hz0 hz1 hz2 rfl (by decide) _ _ _ rfl (H1.out.alloc _) ⟨wr.heap.size, 0, none⟩ 1 1 [.slice pv N cvv] rfl rfl (cell_one_new _ _ _) (by simp [Value.oneCell']) (by unfold maxLen; omega) (by omega) (by simp; omega) ?_); intro v' W3 hown' hgrow _; obtain ⟨g', cap', rfl⟩ := ownsRow_succ hown'; obtain ⟨hp, c4, f4⟩ := HPUSH.out W3 _ hgrow hown'; have HPU := Lib.hid hp; clear hown' hgrow hp)
        go_roundw
        case rel => exact ⟨k + 1, by go_num, by omega, HPU⟩
        case measure => simp [intOf]; omega
      case pos =>
      have hjI : (j : Int) < (N : Int) := by omega
      have hsz : W0.heap.size ≤ wr.heap.size := by have := hbe.out.size; omega
      obtain ⟨u1, p1, d1, hc1, hr1⟩ := HROW1.out k hkl
      obtain ⟨u2, p2, d2, hc2, hr2⟩ := HROW2.out k hkl
      have hj1 : j < (ra.getD k []).length := by rw [(HRA.out.2 k hkl).1]; exact hjn
      have hj2 : j < (rb.getD k []).length := by rw [(HRB.out.2 k hkl).1]; exact hjn
      have hu1 : u1 < w.heap.size := hr1.blk
      have hu2 : u2 < w.heap.size := hr2.blk
      have hw0 : w.heap.size ≤ W0.heap.size := HBW0.out.size
      have tr : ∀ (b i : Nat) (v : Value), b < W0.heap.size → b ≠ o → W0.cell? ⟨b, i, none⟩ = some v → wr.cell? ⟨b, i, none⟩ = some v := fun b i v h1 h2 h3 => (below_at hbe.out (by omega)).trans ((HBX.out.cell (k := b) (i := i) h1 h2).trans h3)
      have x1 := tr _ _ _ (by omega) (by omega) HA0.out
      have x2 := tr _ _ _ (by omega) (by omega) ((below_at HBW0.out hb1w).trans hc1)
      have x3 := tr _ _ _ (by omega) (by omega) ((below_at HBW0.out hu1).trans (hr1.cell j hj1))
      have x4 := tr _ _ _ (by omega) (by omega) HC0.out
      have x5 := tr _ _ _ (by omega) (by omega) ((below_at HBW0.out hb2w).trans hc2)
      have x6 := tr _ _ _ (by omega) (by omega) ((below_at HBW0.out hu2).trans (hr2.cell j hj2))
      have x7 := (below_at hbe.out (by omega)).trans HCM.out
      have va := (HRA.out.2 k hkl).2 j
      have vb := (HRB.out.2 k hkl).2 j
      have HF := Lib.hid (sumF_go (c := c) (ra.getD k []) (rb.getD k []) j (show 0 < x.ch.getD k 0 by omega))
      rw [getD_at _ 0 hj1] at va HF
      rw [getD_at _ 0 hj2] at vb HF
      generalize (ra.getD k [])[j] = y at x3 va HF
      generalize (rb.getD k [])[j] = z at x6 vb HF
      obtain ⟨q, hq⟩ : ∃ q, x.ch.getD k 0 = q := ⟨_, rfl⟩
      rw [hq] at x7 HF hqb va vb
      have HQ := Lib.hid hq
      have hrl := resZ_lt (z := c) (q := q) (by omega)
      generalize hrr : resZ c q = r at hrl HF
      have HRR := Lib.hid hrr
      have hq0 : ¬ ((q : Int) = 0) := by omega
      have hq1 : ¬ (q = 0) := by omega
      have hzr : z * r ≤ 2147483647 * 2147483647 := Nat.mul_le_mul (by omega) (by omega)
      have e0 : (z : Int) * (r : Int) = ((z * r : Nat) : Int) := by rw [Int.natCast_mul]
      have e1 : IntKind.u64.wrap (y : Int) = (y : Int) := wraps_u64 _ (by omega) (by omega)
      have e2 : IntKind.u64.wrap (z : Int) = (z : Int) := wraps_u64 _ (by omega) (by omega)
      have e3 : IntKind.u64.wrap ((z : Int) * (r : Int)) = (z : Int) * (r : Int) := by rw [e0]; exact wraps_u64 _ (by omega) (by omega)
      have e4 : IntKind.u64.wrap ((y : Int) + (z : Int) * (r : Int)) = (y : Int) + (z : Int) * (r : Int) := by rw [e0]; exact wraps_u64 _ (by omega) (by omega)
      have e5 : IntKind.u64.wrap (q : Int) = (q : Int) := wraps_u64 _ (by omega) (by omega)
      have e6 : ((y : Int) + (z : Int) * (r : Int)) % (q : Int) = (((y + z * r) % q : Nat) : Int) := by rw [Int.natCast_emod, Int.natCast_add, Int.natCast_mul]
      have e6t : ((y : Int) + (z : Int) * (r : Int)).tmod (q : Int) = (((y + z * r) % q : Nat) : Int) := by rw [Int.tmod_eq_emod_of_nonneg (by rw [e0]; omega)]; exact e6
      have hml : (y + z * r) % q < q := Nat.mod_lt _ (by omega)
      generalize (y + z * r) % q = t at e6 e6t hml HF
      have e7 : IntKind.u32.wrap (t : Int) = (t : Int) := by rw [IntKind.wrap_u32]; omega
      have e8 : (t : Int) % 4294967296 = (t : Int) := Int.emod_eq_of_lt (by omega) (by omega)
      have HKP : Hid (∀ W, Below W0.heap.size wr W → W.cell? ⟨w.heap.size + 1, 2, none⟩ = some (.slice (some ⟨b1, o1, none⟩) L c1) ∧ W.cell? ⟨b1, o1 + k, none⟩ = some (.slice (some ⟨u1, p1, none⟩) N d1) ∧ W.cell? ⟨u1, p1 + j, none⟩ = some (.int .u32 y) ∧ W.cell? ⟨w.heap.size + 1 + 1, 2, none⟩ = some (.slice (some ⟨b2, o2, none⟩) L c2) ∧ W.cell? ⟨b2, o2 + k, none⟩ = some (.slice (some ⟨u2, p2, none⟩) N d2) ∧ W.cell? ⟨u2, p2 + j, none⟩ = some (.int .u32 z) ∧ W.cell? ⟨bm, om + k, none⟩ = some (.int .u32 q)) :=
        fun W hW => ⟨(below_at hW (by omega)).trans x1, (below_at hW (by omega)).trans x2, (below_at hW (by omega)).trans x3, (below_at hW (by omega)).trans x4, (below_at hW (by omega)).trans x5, (below_at hW (by omega)).trans x6, (below_at hW (by omega)).trans x7⟩
      have HOD : Hid (wr.drew.ownsRow B1 22 1 (.slice pv j cvv) j (u32s (rowOf j (sumF c (x.ch.getD k 0) (ra.getD k []) (rb.getD k []))))) := hown.out
      have hBw : B1 ≤ wr.heap.size := by have := hbe.out.size; omega
      have k0I : (0 : Int) ≤ (k : Int) := by omega
      have j0I : (0 : Int) ≤ (j : Int) := by omega
      clear hown hq hqq hqs hcm hzr e0 hc1 hr1 hc2 hr2 tr hrr va vb hml
      go_wp2_with fail
      go_region_held_law (fun w' => w'.cell? ⟨w.heap.size + 1, 2, none⟩ = some (.slice (some ⟨b1, o1, none⟩) L c1) ∧ w'.cell? ⟨b1, o1 + k, none⟩ = some (.slice (some ⟨u1, p1, none⟩) N d1) ∧ w'.cell? ⟨u1, p1 + j, none⟩ = some (.int .u32 y) ∧ w'.cell? ⟨w.heap.size + 1 + 1, 2, none⟩ = some (.slice (some ⟨b2, o2, none⟩) L c2) ∧ w'.cell? ⟨b2, o2 + k, none⟩ = some (.slice (some ⟨u2, p2, none⟩) N d2) ∧ w'.cell? ⟨u2, p2 + j, none⟩ = some (.int .u32 z) ∧ w'.cell? ⟨bm, om + k, none⟩ = some (.int .u32 q)) (first | exact HKP.out _ (Below.refl _ _).drew | exact HKP.out _ ((Below.refl _ _).drew.alloc hsz _) | exact HKP.out _ HB3.out)
        (first
          | (go_at_call 105; refine (rres_any c q _ (by omega) (by omega) hc).mono ?_; rintro e w4 ⟨rfl, rfl⟩; rw [HRR.out])
          | (refine step_own9 rfl (.tmp 37) (.tmp 71) 23 rfl B1 22 j0 (.int .u32 0) 4 Tryz.underlying23 hj0 hy0 hy1 hy2 rfl _ _ _ rfl (HOD.out.alloc _) ⟨wr.heap.size, 0, none⟩ 1 1 [.int .u32 (t : Nat)] rfl rfl (cell_one_new _ _ _) (by simp [Value.oneCell']) (by unfold maxLen; omega) (by omega) (by simp; omega) ?_; intro v' W3 hown' hgrow; have HO3 := Lib.hid hown'; have HB3 := Lib.hid (((Below.refl W0.heap.size wr).drew.alloc hsz _).grown hgrow (by simp; omega) (fun q hq => by have := own_ge HOD.out q hq; omega)); have HB4 := Lib.hid (((Below.refl B1 wr).drew.alloc hBw _).grown hgrow (by simp; omega) (own_ge HOD.out)); clear hown' hgrow))
      have HO4 : Hid (W3.ownsRow B1 22 1 v' (j + 1) (u32s (rowOf (j + 1) (sumF c (x.ch.getD k 0) (ra.getD k []) (rb.getD k []))))) := by
        have h := HO3.out
        show World.ownsRow _ _ _ _ _ _ _
        rw [rowOf_succ, HQ.out]
        rw [HQ.out] at h
        unfold u32s at h ⊢
        rw [List.map_append, ← HF.out]
        exact h
      have HB5 : Hid (Below B1 _ W3) := hbe.out.trans HB4.out
      clear HOD HKP HO3 HB3 HB4
      go_wp2_with fail
      go_roundw
      case rel => exact ⟨j + 1, by go_num, by omega, HB5, HO4⟩
      case measure => simp [intOf]; omega
end Go.Proofs.YtjpcljnojipdnaaGreat

/-! A region whose order is drawn: a load may be taken first where nobody but the last operation writes its cell. No program is named here. -/
namespace Go.Proofs.YtjpcljnojipdnaaGreat
open Go
set_option linter.unusedVariables false

section
variable {P : Program} {ops : Array Oper} {Q : Exit → Act → World → Prop} {md : Region.Mode} {S : World → Prop} {m : Nat}

/-- Operation m waits for operation i. -/
def waitsB (md : Region.Mode) (ops : Array Oper) (m i : Nat) : Bool := match ops[m]? with
  | some o => o.after.any (fun e => Region.binds md e && e.on == i)
  | none => true
/-- Whatever order is picked, S holds behind each operation but number m. -/
def wpAnyL (P : Program) (md : Region.Mode) (ops : Array Oper) (Q : Exit → Act → World → Prop) (S : World → Prop) (m : Nat) : Nat → Array Bool → Act → World → Prop
  | 0, listed, a, w => Region.ready md ops listed = [] ∧ Q .normal a w
  | fuel + 1, listed, a, w =>
    (Region.ready md ops listed = [] → Q .normal a w) ∧
    ∀ i ∈ Region.ready md ops listed, wpOp P ops Q i (fun a' w' => (i ≠ m → S w') ∧ wpAnyL P md ops Q S m fuel (listed.setIfInBounds i true) a' w') a w
theorem wpAny_ofL : ∀ (fuel : Nat) (listed : Array Bool) (a : Act) (w : World), wpAnyL P md ops Q S m fuel listed a w → wpAny P md ops Q fuel listed a w
  | 0, _, _, _, h => h
  | fuel + 1, _, _, _, h => ⟨h.1, fun i hi => wpOp_mono (fun a' w' h' => wpAny_ofL fuel _ a' w' h'.2) (h.2 i hi)⟩
theorem waits_ready {i : Nat} {listed : Array Bool} (hw : waitsB md ops m i = true) (hm : m ∈ Region.ready md ops listed) : listed.getD i true = true := by
  obtain ⟨hun, om, hom, hall⟩ := mem_ready.1 hm
  unfold waitsB at hw
  rw [hom] at hw
  simp only [Array.any_eq_true, Bool.and_eq_true, beq_iff_eq] at hw
  obtain ⟨k, hk, hb, he⟩ := hw
  have := hall _ (Array.getElem_mem hk) hb
  rw [he] at this
  rcases Nat.lt_or_ge i listed.size with h' | h'
  · simp [h'] at this ⊢; exact this
  · simp [Array.getElem?_eq_none h']
theorem wpAnyL_first {i : Nat} {oi : Oper} {v : Value} (hi : ops[i]? = some oi) (hwm : waitsB md ops m i = true) (hsel : ∀ (j : Nat) (o : Oper) cs b, ops[j]? = some o → o.op ≠ .select cs b)
    (hQ : ∀ c a w, Q (.panic c) (a.put oi.dst v) w → Q (.panic c) a w) :
    ∀ (fuel : Nat) (listed : Array Bool) (a : Act) (w : World),
      (∀ j oj, ops[j]? = some oj → j ≠ i → listed.getD j true = false → (∀ e ∈ oj.after, Region.binds md e = true → e.on ≠ i) → oi.apart ops oj = true) →
      i ∈ Region.ready md ops listed → YieldsIf P ops S oi v a → S w →
      wpAnyL P md ops Q S m fuel (listed.setIfInBounds i true) (a.put oi.dst v) w → wpAnyL P md ops Q S m (fuel + 1) listed a w := by
  intro fuel
  induction fuel with
  | zero =>
    intro listed a w _ hr hy hS H
    refine ⟨fun h => (by rw [h] at hr; cases hr), fun j hj => ?_⟩
    by_cases hji : j = i
    · subst hji; exact hy.wpOp hi hS ⟨fun _ => hS, H⟩
    · have := ready_mono hj hji
      rw [H.1] at this
      cases this
  | succ fuel ih =>
    intro listed a w hfree hr hy hS H
    refine ⟨fun h => (by rw [h] at hr; cases hr), fun j hj => ?_⟩
    by_cases hji : j = i
    · subst hji; exact hy.wpOp hi hS ⟨fun _ => hS, H⟩
    · have hjm : j ≠ m := by
        rintro rfl
        have h0 := (mem_ready.1 hr).1
        have h1 := waits_ready hwm hj
        rw [h0] at h1; cases h1
      have h1 := H.2 j (ready_mono hj hji)
      obtain ⟨hjun, oj, hoj, hall⟩ := mem_ready.1 hj
      have hnot : ∀ e ∈ oj.after, Region.binds md e = true → e.on ≠ i := fun e he hb heq => by
        have h1 := hall e he hb
        have h0 := (mem_ready.1 hr).1
        rw [heq] at h1
        rcases Nat.lt_or_ge i listed.size with h' | h'
        · simp [h'] at h0 h1; rw [h0] at h1; cases h1
        · simp [Array.getElem?_eq_none h'] at h1
      have h2 := wpOp_putIf hoj (hfree j oj hoj hji hjun hnot) (fun cs b => hsel i oi cs b hi) (fun cs b => hsel j oj cs b hoj) hQ hy h1
      have hfree' : ∀ k ok, ops[k]? = some ok → k ≠ i → (listed.setIfInBounds j true).getD k true = false →
          (∀ e ∈ ok.after, Region.binds md e = true → e.on ≠ i) → oi.apart ops ok = true := fun k ok hk hki hun hno => by
        refine hfree k ok hk hki ?_ hno
        by_cases hjk : j = k
        · subst hjk; exact hjun
        · rw [getD_set_ne true hjk] at hun; exact hun
      refine wpOp_mono (fun a' w' h3 => ⟨h3.2.1, ih (listed.setIfInBounds j true) a' w' hfree' (ready_mono hr (Ne.symm hji)) h3.1 (h3.2.1 hjm) ?_⟩) h2
      rw [Array.setIfInBounds_comm _ _ hji]
      exact h3.2.2
/-- Take number i first. -/
theorem wpAnyL_take {i : Nat} {oi : Oper} {v : Value} {fuel : Nat} {listed : Array Bool} {a : Act} {w : World} (hi : ops[i]? = some oi) (hwm : waitsB md ops m i = true)
    (hs : Region.noSelect ops = true) (hf : Region.free md ops listed i = true) (hr : (Region.ready md ops listed).contains i = true)
    (hQ : ∀ c a w, Q (.panic c) (a.put oi.dst v) w → Q (.panic c) a w) (hw : Region.wanted oi (yielded ops a.tmps) = true) (hy : ∀ w, S w → (execOp a.eval oi).run P w = .ok (.value v) w) (hS : S w)
    (h : wpAnyL P md ops Q S m fuel (listed.setIfInBounds i true) (a.put oi.dst v) w) : wpAnyL P md ops Q S m (fuel + 1) listed a w :=
  wpAnyL_first hi hwm (Region.noSelect_spec hs) hQ fuel listed a w (Region.free_spec hi hf) (by simpa using hr) (.inl ⟨hw, hy⟩) hS h
/-- One may come up alone. -/
theorem wpAnyL_one {i : Nat} {oi : Oper} {fuel : Nat} {listed : Array Bool} {a : Act} {w : World} (hi : ops[i]? = some oi) (hr : Region.ready md ops listed = [i]) (hw : Region.wanted oi (yielded ops a.tmps) = true)
    (h : if Region.wanted oi (yielded ops a.tmps) = true then Oper.wp P oi a w (fun a' w' => (i ≠ m → S w') ∧ wpAnyL P md ops Q S m fuel (listed.setIfInBounds i true) a' w') Q else False) : wpAnyL P md ops Q S m (fuel + 1) listed a w := by
  rw [if_pos hw] at h
  refine ⟨fun h0 => absurd (hr ▸ h0) (by simp), fun j hj => ?_⟩
  rw [hr] at hj
  obtain rfl : j = i := by simpa using hj
  unfold wpOp
  simp only [hi, hw, if_true]
  exact .inl h
theorem wpAnyL_call {i : Nat} {oi : Oper} {fuel : Nat} {listed : Array Bool} {a : Act} {w : World} {f : FuncId} {args : Array Value} (hi : ops[i]? = some oi) (hr : Region.ready md ops listed = [i]) (hw : Region.wanted oi (yielded ops a.tmps) = true)
    (hv : (execOp a.eval oi).run P w = .ok (.enter f args) w)
    (h : Calls P f args w fun e w' => ∃ u, e = .returned u ∧ (i ≠ m → S w') ∧ wpAnyL P md ops Q S m fuel (listed.setIfInBounds i true) (a.put oi.dst u) w') : wpAnyL P md ops Q S m (fuel + 1) listed a w := by
  refine wpAnyL_one hi hr hw ?_
  rw [if_pos hw]
  unfold Oper.wp
  rw [hv]
  simp only [Oper.upon]
  exact h.mono fun e w' ⟨u, he, h2⟩ => by subst he; exact h2
theorem wpAnyL_val {i : Nat} {oi : Oper} {fuel : Nat} {listed : Array Bool} {a : Act} {w w2 : World} {v : Value} (hi : ops[i]? = some oi) (hr : Region.ready md ops listed = [i]) (hw : Region.wanted oi (yielded ops a.tmps) = true)
    (hv : (execOp a.eval oi).run P w = .ok (.value v) w2) (hS : i ≠ m → S w2)
    (h : wpAnyL P md ops Q S m fuel (listed.setIfInBounds i true) (a.put oi.dst v) w2) : wpAnyL P md ops Q S m (fuel + 1) listed a w := by
  refine wpAnyL_one hi hr hw ?_
  rw [if_pos hw]
  unfold Oper.wp
  rw [hv]
  simp only [Oper.upon]
  exact ⟨hS, h⟩
theorem wpAnyL_skip {i : Nat} {oi : Oper} {fuel : Nat} {listed : Array Bool} {a : Act} {w w2 : World} (hi : ops[i]? = some oi) (hr : Region.ready md ops listed = [i]) (hw : Region.wanted oi (yielded ops a.tmps) = true)
    (hv : (execOp a.eval oi).run P w = .ok .skip w2) (hS : i ≠ m → S w2)
    (h : wpAnyL P md ops Q S m fuel (listed.setIfInBounds i true) (a.put oi.dst undef) w2) : wpAnyL P md ops Q S m (fuel + 1) listed a w := by
  refine wpAnyL_one hi hr hw ?_
  rw [if_pos hw]
  unfold Oper.wp
  rw [hv]
  simp only [Oper.upon]
  exact ⟨hS, h⟩
theorem wpAnyL_done {listed : Array Bool} {a : Act} {w : World} (hr : Region.ready md ops listed = []) (h : Q .normal a w) : ∀ fuel, wpAnyL P md ops Q S m fuel listed a w
  | 0 => ⟨hr, h⟩
  | _ + 1 => ⟨fun _ => h, by rw [hr]; simp⟩
theorem wp_region_L {id : Nat} {a : Act} {w : World} (S : World → Prop) (m : Nat) (hm : P.follows .mixedOrders = true)
    (h : wpAnyL P .any ops Q S m ops.size (Array.replicate ops.size false) a w.drew) : (Code.region id ops true).wp P Q a w :=
  wp_region_any hm (wpAny_ofL _ _ _ _ h)
end
end Go.Proofs.YtjpcljnojipdnaaGreat

/-! The reference: Mul, Sub. (Printed by gen_PubN.py.) -/
namespace Go.Proofs.YtjpcljnojipdnaaGreat
open Go.RowKit Go.Shelf
set_option linter.unusedVariables false
set_option linter.unusedSimpArgs false

section
variable {P : Program} {ops : Array Oper} {o : Oper} {a : Act} {w : World} {K : Act → World → Prop} {Q : Exit → Act → World → Prop} {E : Prop}
/-- append of one element, as one step of a region. -/
theorem step_own1 (hgd : o.guard = none) (s x : Operand) (t : TypeId) (ho : o.op = .call { callee := .builtin .append, args := #[s, x], argTypes := #[t, t] })
    (base : Nat) (e : TypeId) (i : TypeInfo) (z : Value) (bytes : Nat) (ht : P.underlying t = some (.slice e)) (hi : P.info? e = some i) (hz : i.zero = some z)
    (hsize : i.size = 1) (hby : i.bytes = bytes) (hzs : z.cells.size = 1)
    (v : Value) (n : Nat) (xs : List Value) (hs : a.eval s = v) (hown : w.ownsRow base e 1 v n xs)
    (ad : Addr) (c : Nat) (news : List Value) (hx : a.eval x = .slice (some ad) 1 c) (hl : news.length = 1 * 1) (hnews : ∀ j u, news[j]? = some u → w.cell? (ad.add j) = some u) (h1 : ∀ u ∈ news, u.oneCell' = true)
    (h63 : n + 1 ≤ maxLen) (hbytes : (n + 1) * bytes ≤ 140737488355328) (hbase : base ≤ w.heap.size)
    (h : ∀ g' cap' w', w'.ownsRow base e 1 (.slice (some ⟨g', 0, none⟩) (n + 1) cap') (n + 1) (xs ++ news) → w.grownBy w' v.ownBlock → K (a.put o.dst (.slice (some ⟨g', 0, none⟩) (n + 1) cap')) w') :
    if Region.wanted o (yielded ops a.tmps) = true then Oper.wp P o a w K Q else E := by
  refine step_own9 hgd s x t ho base e i z bytes ht hi hz hsize hby hzs v n xs hs hown ad 1 c news hx hl hnews h1 h63 hbytes hbase (fun v' w' hw hg => ?_)
  obtain ⟨g', cap', rfl⟩ := ownsRow_succ hw
  exact h g' cap' w' hw hg
end
theorem sliceR_inA {w : World} {v : Value} {rows : List (List Nat)} {L N : Nat} (h : SliceR w v rows) (hl : rows.length = L) (hL : 1 ≤ L) (hN : 1 ≤ N) (hr : ∀ i, i < L → (rows.getD i []).length = N) :
    ∃ b o c, v = .slice (some ⟨b, o, none⟩) L c ∧ b < w.heap.size ∧ ∀ i, i < L → ∃ u p d, w.cell? ⟨b, o + i, none⟩ = some (.slice (some ⟨u, p, none⟩) N d) ∧ SliceAt w (.slice (some ⟨u, p, none⟩) N d) (rows.getD i []) := by
  obtain ⟨p, cap, rfl, h2, h3, h4⟩ := h
  obtain ⟨b, off, rfl, hb, hrow⟩ := h4 (by intro e; rw [e] at hl; simp at hl; omega)
  refine ⟨b, off, cap, by rw [hl], hb, fun i hi => ?_⟩
  have hi2 : i < rows.length := by rw [hl]; exact hi
  obtain ⟨u, hu, hs⟩ := hrow i hi2
  have e : rows.getD i [] = rows[i] := getD_at _ _ _
  have hn := hr i hi
  rw [e] at hn ⊢
  have hs0 := hs
  obtain ⟨pu, cu, rfl, k2, k3, k4⟩ := hs
  obtain ⟨bu, ou, rfl, hru⟩ := k4 (by intro e; rw [e] at hn; simp at hn; omega)
  rw [hn] at hu hs0
  exact ⟨bu, ou, cu, hu, hs0⟩

set_option maxHeartbeats 8000000 in
set_option maxRecDepth 100000 in
theorem rmul9_any (x : Par) (L N : Nat) (cv av bv : Value) (ra rb : List (List Nat)) (w : World) (hx : Good x) (hxo : ParOk x) (hN : x.n = N) (hcv : SliceAt w cv x.ch) (hL1 : 1 ≤ L) (hL : L ≤ x.ch.length)
    (hra : SliceR w av ra) (hRA : ResR x L N ra) (hrb : SliceR w bv rb) (hRB : ResR x L N rb) :
    Calls Tryz.prog 57 #[x.val cv, elVal L false av, elVal L false bv] w fun e w' => ∃ v, e = .returned (.tuple #[elVal L false v, .int .i64 0]) ∧ OwnR w.heap.size w' v (elRows L N (fun i => mulF (x.ch.getD i 0) N (ra.getD i []) (rb.getD i []))) ∧ Below w.heap.size w w' := by
  have HSA := Lib.hid hra; have HSB := Lib.hid hrb
  obtain ⟨pc, nc, ccv, rfl⟩ : ∃ pa na ca, cv = .slice pa na ca := by obtain ⟨p, c, e, _⟩ := hcv; exact ⟨p, _, c, e⟩
  have hdm := isDim_cases hx.dim
  have hN1 : 1 ≤ N := by omega
  have hN32 : N ≤ 32 := by omega
  obtain ⟨b1, o1, c1, rfl, hb1w, hrow1⟩ := sliceR_inA hra hRA.1 hL1 hN1 (fun i hi => (hRA.2 i hi).1)
  obtain ⟨b2, o2, c2, rfl, hb2w, hrow2⟩ := sliceR_inA hrb hRB.1 hL1 hN1 (fun i hi => (hRB.2 i hi).1)
  obtain ⟨i0, hi0, hz0, hz1, hz2⟩ := info_partsE infoRow
  have hbW : Below w.heap.size w ((((w.alloc (.cells #[.int .i64 x.n, .int .u32 x.p, .int .i64 x.r, .slice pc nc ccv, .int .u32 x.sp, .int .i64 x.wt, .int .u32 x.er] 25)).alloc (.cells #[.int .i64 L, .bool false, .slice (some ⟨b1, o1, none⟩) L c1] 32)).alloc (.cells #[.int .i64 L, .bool false, .slice (some ⟨b2, o2, none⟩) L c2] 32)).alloc (.cells #[.int .i64 0, .bool false, .slice none 0 0] 32)) := ((((Below.refl _ _).alloc (Nat.le_refl _) _).alloc (by simp) _).alloc (by simp; omega) _).alloc (by simp; omega) _
  have hB : BoxP ((((w.alloc (.cells #[.int .i64 x.n, .int .u32 x.p, .int .i64 x.r, .slice pc nc ccv, .int .u32 x.sp, .int .i64 x.wt, .int .u32 x.er] 25)).alloc (.cells #[.int .i64 L, .bool false, .slice (some ⟨b1, o1, none⟩) L c1] 32)).alloc (.cells #[.int .i64 L, .bool false, .slice (some ⟨b2, o2, none⟩) L c2] 32)).alloc (.cells #[.int .i64 0, .bool false, .slice none 0 0] 32)) w.heap.size x (.slice pc nc ccv) := by constructor <;> simp [go_sem]
  have hA2 : ((((w.alloc (.cells #[.int .i64 x.n, .int .u32 x.p, .int .i64 x.r, .slice pc nc ccv, .int .u32 x.sp, .int .i64 x.wt, .int .u32 x.er] 25)).alloc (.cells #[.int .i64 L, .bool false, .slice (some ⟨b1, o1, none⟩) L c1] 32)).alloc (.cells #[.int .i64 L, .bool false, .slice (some ⟨b2, o2, none⟩) L c2] 32)).alloc (.cells #[.int .i64 0, .bool false, .slice none 0 0] 32)).cell? ⟨w.heap.size + 1, 0, none⟩ = some (.int .i64 L) ∧ ((((w.alloc (.cells #[.int .i64 x.n, .int .u32 x.p, .int .i64 x.r, .slice pc nc ccv, .int .u32 x.sp, .int .i64 x.wt, .int .u32 x.er] 25)).alloc (.cells #[.int .i64 L, .bool false, .slice (some ⟨b1, o1, none⟩) L c1] 32)).alloc (.cells #[.int .i64 L, .bool false, .slice (some ⟨b2, o2, none⟩) L c2] 32)).alloc (.cells #[.int .i64 0, .bool false, .slice none 0 0] 32)).cell? ⟨w.heap.size + 1, 1, none⟩ = some (.bool false) ∧ ((((w.alloc (.cells #[.int .i64 x.n, .int .u32 x.p, .int .i64 x.r, .slice pc nc ccv, .int .u32 x.sp, .int .i64 x.wt, .int .u32 x.er] 25)).alloc (.cells #[.int .i64 L, .bool false, .slice (some ⟨b1, o1, none⟩) L c1] 32)).alloc (.cells #[.int .i64 L, .bool false, .slice (some ⟨b2, o2, none⟩) L c2] 32)).alloc (.cells #[.int .i64 0, .bool false, .slice none 0 0] 32)).cell? ⟨w.heap.size + 1, 2, none⟩ = some (.slice (some ⟨b1, o1, none⟩) L c1) := ⟨by simp [go_sem], by simp [go_sem], by simp [go_sem]⟩
  have hB2 : ((((w.alloc (.cells #[.int .i64 x.n, .int .u32 x.p, .int .i64 x.r, .slice pc nc ccv, .int .u32 x.sp, .int .i64 x.wt, .int .u32 x.er] 25)).alloc (.cells #[.int .i64 L, .bool false, .slice (some ⟨b1, o1, none⟩) L c1] 32)).alloc (.cells #[.int .i64 L, .bool false, .slice (some ⟨b2, o2, none⟩) L c2] 32)).alloc (.cells #[.int .i64 0, .bool false, .slice none 0 0] 32)).cell? ⟨w.heap.size + 1 + 1, 2, none⟩ = some (.slice (some ⟨b2, o2, none⟩) L c2) := by simp [go_sem]
  have hR : Blk ((((w.alloc (.cells #[.int .i64 x.n, .int .u32 x.p, .int .i64 x.r, .slice pc nc ccv, .int .u32 x.sp, .int .i64 x.wt, .int .u32 x.er] 25)).alloc (.cells #[.int .i64 L, .bool false, .slice (some ⟨b1, o1, none⟩) L c1] 32)).alloc (.cells #[.int .i64 L, .bool false, .slice (some ⟨b2, o2, none⟩) L c2] 32)).alloc (.cells #[.int .i64 0, .bool false, .slice none 0 0] 32)) (w.heap.size + 1 + 1 + 1) [.int .i64 0, .bool false, .slice none 0 0] 32 := by
    have h := Blk.new (((w.alloc (.cells #[.int .i64 x.n, .int .u32 x.p, .int .i64 x.r, .slice pc nc ccv, .int .u32 x.sp, .int .i64 x.wt, .int .u32 x.er] 25)).alloc (.cells #[.int .i64 L, .bool false, .slice (some ⟨b1, o1, none⟩) L c1] 32)).alloc (.cells #[.int .i64 L, .bool false, .slice (some ⟨b2, o2, none⟩) L c2] 32)) #[.int .i64 0, .bool false, .slice none 0 0] 32
    simpa using h
  have hS : ((((w.alloc (.cells #[.int .i64 x.n, .int .u32 x.p, .int .i64 x.r, .slice pc nc ccv, .int .u32 x.sp, .int .i64 x.wt, .int .u32 x.er] 25)).alloc (.cells #[.int .i64 L, .bool false, .slice (some ⟨b1, o1, none⟩) L c1] 32)).alloc (.cells #[.int .i64 L, .bool false, .slice (some ⟨b2, o2, none⟩) L c2] 32)).alloc (.cells #[.int .i64 0, .bool false, .slice none 0 0] 32)).heap.size = w.heap.size + 4 := by simp
  have HCV := Lib.hid hcv; have HROW1 := Lib.hid hrow1; have HROW2 := Lib.hid hrow2; have HX := Lib.hid hx; have HXO := Lib.hid hxo; have HBW := Lib.hid hbW; have HB := Lib.hid hB; have HR := Lib.hid hR; have HN := Lib.hid hN; have HS := Lib.hid hS; have HA2 := Lib.hid hA2; have HB2 := Lib.hid hB2; have HRA := Lib.hid hRA; have HRB := Lib.hid hRB
  have hl2 := hx.l2
  clear hcv hrow1 hrow2 hx hxo hbW hB hR hN hS hdm hA2 hB2 hRA hRB hra hrb
  unfold Par.val elVal
  go_enter Tryz.func57, Tryz.ntmps57
  go_wp2_with fail
  refine (rtwo_yes x L N _ _ _ ra rb _ HX.out HXO.out HN.out (HCV.out.below HBW.out) hL1 hL (HSA.out.below HBW.out) HRA.out (HSB.out.below HBW.out) HRB.out).mono ?_
  rintro e w1 ⟨rfl, hb1⟩
  have HB1 := Lib.hid (HB.out.below hb1 (by rw [HS.out]; omega))
  have HR1 := Lib.hid (HR.out.below hb1 HR.out.lt)
  have HA1 := Lib.hid ((below_at (i := 2) hb1 (show w.heap.size + 1 < _ by rw [HS.out]; omega)).trans HA2.out.2.2)
  have HC1 := Lib.hid ((below_at (i := 2) hb1 (show w.heap.size + 1 + 1 < _ by rw [HS.out]; omega)).trans HB2.out)
  have HBW1 := Lib.hid (HBW.out.trans (hb1.mono HBW.out.size))
  have hs1 : w.heap.size + 4 ≤ w1.heap.size := by have := hb1.size; rw [HS.out] at this; exact this
  have a0 := (below_at (i := 0) hb1 (show w.heap.size + 1 < _ by rw [HS.out]; omega)).trans HA2.out.1
  have a1 := (below_at (i := 1) hb1 (show w.heap.size + 1 < _ by rw [HS.out]; omega)).trans HA2.out.2.1
  clear hb1 HB HR HA2 HB2 HBW HS
  obtain ⟨y0, y1, y2, y3, y4, y5, y6⟩ := HB1.out
  have hlt1 : w.heap.size < w1.heap.size := by omega
  have hlt2 : w.heap.size + 1 < w1.heap.size := by omega
  have HXX : Hid (Below w1.heap.size w1 (w1.alloc (.cells #[.int .i64 L, .bool false, .slice none 0 0] 32))) := (Below.refl _ _).alloc (Nat.le_refl _) _
  go_wp2_with fail
  refine (rmoduli9_any x _ L false _ HX.out ((HCV.out.below HBW1.out).below HXX.out) hL1 hL).mono ?_
  rintro e W0 ⟨⟨mv, rfl, hmv⟩, hb3⟩
  obtain ⟨bm, om, cm, rfl, hrm⟩ := sliceAt_row hmv (N := L) (by rw [qs_len hL]; simp) hL1
  have HO0 : Hid (Blk W0 w1.heap.size [.int .i64 L, .bool false, .slice none 0 0] 32) := (Blk.new w1 #[.int .i64 L, .bool false, .slice none 0 0] _).below hb3 (by simp)
  have hb23 := HXX.out.trans (hb3.mono (by simp))
  have HR0 := Lib.hid (HR1.out.below hb23 HR1.out.lt)
  have HA0 := Lib.hid ((below_at hb23 hlt2).trans HA1.out)
  have HC0 := Lib.hid ((below_at hb23 (by omega)).trans HC1.out)
  have HBW0 := Lib.hid (HBW1.out.trans (hb23.mono HBW1.out.size))
  have HRM := Lib.hid hrm
  have hbm : bm ≠ w1.heap.size := hrm.neEl (by rw [qs_len hL]; simp; omega) HO0.out
  have hbmw : bm < W0.heap.size := hrm.blk
  have hs0 : w1.heap.size < W0.heap.size := HO0.out.lt
  have HQS : Hid ((qsOf x L false).length = L) := by show _ = _; rw [qs_len hL]; simp
  have HEA : Hid (EaI W0.heap.size w1.heap.size L W0 W0 (elRows 0 N (fun i => mulF (x.ch.getD i 0) N (ra.getD i []) (rb.getD i [])))) := ⟨.slice none 0 0, [], World.ownsRow_nil _ _ _ _, RowsV.nil _ _, HO0.out, BelX.refl _ _ _⟩
  clear hmv hb3 hb23 hrm HXX HB1 HBW1 HR1 y0 y1 y2 y3 y4 y5 y6 a0 a1 hlt1 hlt2 HO0 HA1 HC1
  generalize w1.heap.size = o at hs1 hbm hs0 HEA ⊢
  go_wp2_with fail
  go_loopw [10] (fun vi wr => ∃ k : Nat, vi = .int .i64 k ∧ k ≤ L ∧ Hid (EaI W0.heap.size o L W0 wr (elRows k N (fun i => mulF (x.ch.getD i 0) N (ra.getD i []) (rb.getD i []))))) (fun vi _ => L - (intOf vi).toNat)
  case atStart => exact ⟨0, rfl, by omega, HEA⟩
  case round =>
    clear HEA
    obtain ⟨k, rfl, hk, hea⟩ := hrel
    obtain ⟨v, vs, h1, h2, h3, h4⟩ := hea.out
    obtain ⟨pv, cvv, rfl⟩ := own_slice h1
    rw [elRows_len] at h1 h3
    have hsw : W0.heap.size ≤ wr.heap.size := h4.size
    by_cases hkl : k < L
    case neg =>
      obtain rfl : L = k := by omega
      have i1 : ¬ ((L : Int) < (L : Int)) := by omega
      have HOW : Hid (OwnR W0.heap.size wr (.slice pv L cvv) (elRows L N (fun i => mulF (x.ch.getD i 0) N (ra.getD i []) (rb.getD i [])))) := ⟨vs, by rw [elRows_len]; exact h1, h2⟩
      have a0 := h3.cell 0 (by simp); have a1 := h3.cell 1 (by simp); have a2 := h3.cell 2 (by simp)
      have HRb : Hid (Blk wr (w.heap.size + 1 + 1 + 1) [.int .i64 0, .bool false, .slice none 0 0] 32) := (h4.block _ (by omega) (by omega)).trans HR0.out
      have r0 := HRb.out.cell 0 (by simp); have r1 := HRb.out.cell 1 (by simp); have r2 := HRb.out.cell 2 (by simp)
      have s0 := HRb.out.free 0; have s1 := HRb.out.free 1; have s2 := HRb.out.free 2
      have HBF : Hid (Below w.heap.size w wr) := HBW0.out.trans ((h4.mono (show o ≤ W0.heap.size by omega)).below (Nat.le_refl _) |>.mono (by omega))
      have HF := Lib.hid (ownr_set3 (.int .i64 L) (.bool false) (.slice pv L cvv) HOW.out HRb.out)
      have hw0 : w.heap.size ≤ W0.heap.size := HBW0.out.size
      clear h1 h2 h3 h4 hea
      go_wp2_with fail
      obtain ⟨f1, f0, f2⟩ := HF.out
      have q0 := f0.cell 0 (by simp); have q1 := f0.cell 1 (by simp); have q2 := f0.cell 2 (by simp)
      refine bodyPost_ret (v := .tuple #[.agg #[.int .i64 L, .bool false, .slice pv L cvv], .int .i64 0]) (by simp [results, Tryz.results57, go_sem, q0, q1, q2]) rfl ?_
      exact ⟨_, rfl, f1.mono (by omega), below_gr HBF.out f2 (by omega) (by omega)⟩
    case pos =>
    have hkI : (k : Int) < (L : Int) := by omega
    have k0I : (0 : Int) ≤ (k : Int) := by omega
    have hqq : x.ch.getD k 0 = x.ch[k]'(by omega) := getD_at _ 0 (by omega)
    have hqb := ch_at HX.out (i := k) (by omega)
    have hqs : (qsOf x L false)[k]'(by rw [HQS.out]; exact hkl) = x.ch.getD k 0 := by
      rw [← getD_at _ 0 (by rw [HQS.out]; exact hkl), qs_at hL hkl, hqq]
    have hcm := HRM.out.cell k (by rw [HQS.out]; exact hkl)
    rw [hqs] at hcm
    obtain ⟨u1, p1, d1, hc1, hr1⟩ := HROW1.out k hkl
    obtain ⟨u2, p2, d2, hc2, hr2⟩ := HROW2.out k hkl
    have hw0 : w.heap.size ≤ W0.heap.size := HBW0.out.size
    have tr : ∀ (W : World), BelX o W0.heap.size wr W → ∀ (b i : Nat) (v : Value), b < W0.heap.size → b ≠ o → W0.cell? ⟨b, i, none⟩ = some v → W.cell? ⟨b, i, none⟩ = some v := fun W hW b i v k1 k2 k3 => ((h4.trans hW).cell (k := b) (i := i) k1 k2).trans k3
    have HKP : Hid (∀ w', BelX o W0.heap.size wr w' → w'.cell? ⟨w.heap.size + 1, 2, none⟩ = some (.slice (some ⟨b1, o1, none⟩) L c1) ∧ w'.cell? ⟨b1, o1 + k, none⟩ = some (.slice (some ⟨u1, p1, none⟩) N d1) ∧ w'.cell? ⟨w.heap.size + 1 + 1, 2, none⟩ = some (.slice (some ⟨b2, o2, none⟩) L c2) ∧ w'.cell? ⟨b2, o2 + k, none⟩ = some (.slice (some ⟨u2, p2, none⟩) N d2) ∧ w'.cell? ⟨bm, om + k, none⟩ = some (.int .u32 (x.ch.getD k 0 : Nat))) :=
      fun W hW => ⟨tr W hW _ _ _ (by omega) (by omega) HA0.out, tr W hW _ _ _ (by omega) (by omega) ((below_at HBW0.out hb1w).trans hc1), tr W hW _ _ _ (by omega) (by omega) HC0.out, tr W hW _ _ _ (by omega) (by omega) ((below_at HBW0.out hb2w).trans hc2), tr W hW _ _ _ (by omega) (by omega) hcm⟩
    have HTR : Hid (∀ W, BelX o W0.heap.size wr W → Below w.heap.size w W) := fun W hW => HBW0.out.trans (((h4.trans hW).mono (show w.heap.size ≤ W0.heap.size by omega)).below (by omega))
    have va := (HRA.out.2 k hkl).2
    have vb := (HRB.out.2 k hkl).2
    have HLA := Lib.hid (HRA.out.2 k hkl).1
    have HLB := Lib.hid (HRB.out.2 k hkl).1
    have HVA := Lib.hid va; have HVB := Lib.hid vb; have HR1 := Lib.hid hr1; have HR2 := Lib.hid hr2
    obtain ⟨q, hq⟩ : ∃ q, x.ch.getD k 0 = q := ⟨_, rfl⟩
    have hfk : ∀ (W W3 : World) (rv v' : Value), BelX o W0.heap.size wr W → Below wr.heap.size wr W → W.ownsRow W0.heap.size 22 1 rv N (u32s (rowOf N (mulF (x.ch.getD k 0) N (ra.getD k []) (rb.getD k [])))) → (W.alloc (.cells #[rv] 23)).grownBy W3 (Value.slice pv k cvv).ownBlock → W3.ownsRow W0.heap.size 23 1 v' (k + 1) (vs ++ [rv]) →
        EaI W0.heap.size o L W0 (W3.setCell ⟨o, 2, none⟩ v') (elRows (k + 1) N (fun i => mulF (x.ch.getD i 0) N (ra.getD i []) (rb.getD i []))) ∧ W3.cell? ⟨o, 2, none⟩ = some (.slice pv k cvv) ∧ W3.frozen? ⟨o, 2, none⟩ = false ∧ BelX o W0.heap.size wr W3 := by
      intro W W3 rv v' hX hB hrv hg hw
      have hrl : (elRows k N (fun i => mulF (x.ch.getD i 0) N (ra.getD i []) (rb.getD i []))).length = k := elRows_len _ _ _
      obtain ⟨vs', h1', h2'⟩ := OwnR.below (⟨vs, by rw [hrl]; exact h1, h2⟩ : OwnR W0.heap.size wr (.slice pv k cvv) (elRows k N (fun i => mulF (x.ch.getD i 0) N (ra.getD i []) (rb.getD i [])))) hB
      have hvs : W.ownsRow W0.heap.size 23 1 (.slice pv k cvv) k vs := h1.kept (gr_belowN hB) (by cases (Value.slice pv k cvv).ownBlock <;> simp)
      have hvv : RowsV W0.heap.size W vs (elRows k N (fun i => mulF (x.ch.getD i 0) N (ra.getD i []) (rb.getD i []))) := h2.other (gr_belowN hB) (fun r e => by cases e)
      have h3' := h3.below hB h3.lt
      have hsz : W0.heap.size ≤ W.heap.size := Nat.le_trans hsw hB.size
      have hrv' : W.ownsRow W0.heap.size 22 1 rv (rowOf N (mulF (x.ch.getD k 0) N (ra.getD k []) (rb.getD k []))).length (u32s (rowOf N (mulF (x.ch.getD k 0) N (ra.getD k []) (rb.getD k [])))) := by rw [rowOf_len]; exact hrv
      have hb3 := (ownr_app (o := o) (r := rowOf N (mulF (x.ch.getD k 0) N (ra.getD k []) (rb.getD k []))) (rows := elRows k N (fun i => mulF (x.ch.getD i 0) N (ra.getD i []) (rb.getD i []))) rfl hsz (by rw [hrl]; exact hvs) hvv hrv' hg (by rw [hrl]; exact hw)).2
      have hp := EaI.push (L := L) (rows := elRows k N (fun i => mulF (x.ch.getD i 0) N (ra.getD i []) (rb.getD i []))) (r := rowOf N (mulF (x.ch.getD k 0) N (ra.getD k []) (rb.getD k []))) rfl (Nat.le_refl _) hs0 (by rw [hrl]; exact hvs) hvv h3' (h4.trans hX) hrv' hg (by rw [hrl]; exact hw)
      rw [elRows_succ]
      exact ⟨hp, (below_at (i := 2) hb3 hs0).trans (h3'.cell 2 (by simp)), (hb3.frozen (p := ⟨o, 2, none⟩) hs0).trans (h3'.free 2), hX.trans (BelX.ofB hb3)⟩
    have HFK := Lib.hid hfk
    have x2 := h3.cell 2 (by simp)
    have hoW : o < wr.heap.size := h3.lt
    have HWB : Hid (∀ W, Below wr.heap.size wr W → W.ownsRow W0.heap.size 23 1 (.slice pv k cvv) k vs) := fun W hB => h1.kept (gr_belowN hB) (by cases (Value.slice pv k cvv).ownBlock <;> simp)
    have HXD : Hid (BelX o W0.heap.size wr wr.drew) := ⟨rfl, rfl, rfl, Nat.le_refl _, fun _ _ _ => rfl⟩
    rw [hq] at HKP hqb HVA HVB
    have HQ := Lib.hid hq
    clear h1 h2 h3 h4 hea tr va vb hr1 hr2 hc1 hc2 hq hqq hqs hcm hfk
    have hpr : Calls Tryz.prog 104 #[.int .u32 (q : Nat), .slice (some ⟨u1, p1, none⟩) N d1, .slice (some ⟨u2, p2, none⟩) N d2] wr.drew (fun e W4 => ∃ p cr, e = .returned (.slice p N cr) ∧ Below wr.heap.size wr W4 ∧ W4.ownsRow W0.heap.size 22 1 (.slice p N cr) N (u32s (rowOf N (mulF (x.ch.getD k 0) N (ra.getD k []) (rb.getD k []))))) := by
      refine (rprod9_any q N (ra.getD k []) (rb.getD k []) _ _ _ (HR1.out.below (HTR.out _ HXD.out)) (HR2.out.below (HTR.out _ HXD.out)) HLA.out HLB.out hN1 hN32 (by omega) (by omega) HVA.out HVB.out).mono ?_
      rintro e W4 ⟨rv, rfl, hrv, hb4⟩
      obtain ⟨prv, crv, rfl⟩ := own_slice hrv
      refine ⟨prv, crv, rfl, (Below.refl _ wr).drew.trans hb4, ?_⟩
      rw [HQ.out]
      exact own_mono9 hrv hsw
    have HPR := Lib.hid hpr
    clear hpr
    go_wp2_with fail
    have HKQ : Hid (∀ w', BelX o W0.heap.size wr w' → w'.cell? ⟨o, 2, none⟩ = some (.slice pv k cvv) → w'.cell? ⟨w.heap.size + 1, 2, none⟩ = some (.slice (some ⟨b1, o1, none⟩) L c1) ∧ w'.cell? ⟨b1, o1 + k, none⟩ = some (.slice (some ⟨u1, p1, none⟩) N d1) ∧ w'.cell? ⟨w.heap.size + 1 + 1, 2, none⟩ = some (.slice (some ⟨b2, o2, none⟩) L c2) ∧ w'.cell? ⟨b2, o2 + k, none⟩ = some (.slice (some ⟨u2, p2, none⟩) N d2) ∧ w'.cell? ⟨bm, om + k, none⟩ = some (.int .u32 q) ∧ w'.cell? ⟨o, 2, none⟩ = some (.slice pv k cvv)) := fun w' h1 h2 => by
      obtain ⟨k1, k2, k3, k4, k5⟩ := HKP.out w' h1
      exact ⟨k1, k2, k3, k4, k5, h2⟩
    refine wp_region_L (fun w' => (w'.cell? ⟨w.heap.size + 1, 2, none⟩ = some (.slice (some ⟨b1, o1, none⟩) L c1) ∧ w'.cell? ⟨b1, o1 + k, none⟩ = some (.slice (some ⟨u1, p1, none⟩) N d1) ∧ w'.cell? ⟨w.heap.size + 1 + 1, 2, none⟩ = some (.slice (some ⟨b2, o2, none⟩) L c2) ∧ w'.cell? ⟨b2, o2 + k, none⟩ = some (.slice (some ⟨u2, p2, none⟩) N d2) ∧ w'.cell? ⟨bm, om + k, none⟩ = some (.int .u32 q) ∧ w'.cell? ⟨o, 2, none⟩ = some (.slice pv k cvv))) 20 (by kernel_rfl) ?_
    have hS0 : (fun w' => (w'.cell? ⟨w.heap.size + 1, 2, none⟩ = some (.slice (some ⟨b1, o1, none⟩) L c1) ∧ w'.cell? ⟨b1, o1 + k, none⟩ = some (.slice (some ⟨u1, p1, none⟩) N d1) ∧ w'.cell? ⟨w.heap.size + 1 + 1, 2, none⟩ = some (.slice (some ⟨b2, o2, none⟩) L c2) ∧ w'.cell? ⟨b2, o2 + k, none⟩ = some (.slice (some ⟨u2, p2, none⟩) N d2) ∧ w'.cell? ⟨bm, om + k, none⟩ = some (.int .u32 q) ∧ w'.cell? ⟨o, 2, none⟩ = some (.slice pv k cvv))) wr.drew := HKQ.out _ HXD.out x2
    refine wpAnyL_take (i := 0) rfl (by kernel_rfl) (by kernel_rfl) (by kernel_rfl) (by kernel_rfl) (fun _ _ _ h => h) (by rfl) (by intro w' hSw; go_simp; with_reducible rfl) hS0 ?_; simp only [Act.put, List.setIfInBounds_toArray, List.set_cons_zero, List.set_cons_succ]
    refine wpAnyL_take (i := 1) rfl (by kernel_rfl) (by kernel_rfl) (by kernel_rfl) (by kernel_rfl) (fun _ _ _ h => h) (by rfl) (by intro w' hSw; go_simp; with_reducible rfl) hS0 ?_; simp only [Act.put, List.setIfInBounds_toArray, List.set_cons_zero, List.set_cons_succ]
    refine wpAnyL_take (i := 2) rfl (by kernel_rfl) (by kernel_rfl) (by kernel_rfl) (by kernel_rfl) (fun _ _ _ h => h) (by rfl) (by intro w' hSw; go_simp; with_reducible rfl) hS0 ?_; simp only [Act.put, List.setIfInBounds_toArray, List.set_cons_zero, List.set_cons_succ]
    refine wpAnyL_take (i := 3) rfl (by kernel_rfl) (by kernel_rfl) (by kernel_rfl) (by kernel_rfl) (fun _ _ _ h => h) (by rfl) (by intro w' hSw; go_simp; with_reducible rfl) hS0 ?_; simp only [Act.put, List.setIfInBounds_toArray, List.set_cons_zero, List.set_cons_succ]
    refine wpAnyL_take (i := 4) rfl (by kernel_rfl) (by kernel_rfl) (by kernel_rfl) (by kernel_rfl) (fun _ _ _ h => h) (by rfl) (by intro w' hSw; go_simp; with_reducible rfl) hS0 ?_; simp only [Act.put, List.setIfInBounds_toArray, List.set_cons_zero, List.set_cons_succ]
    refine wpAnyL_take (i := 5) rfl (by kernel_rfl) (by kernel_rfl) (by kernel_rfl) (by kernel_rfl) (fun _ _ _ h => h) (by rfl) (by intro w' hSw; go_simp; with_reducible rfl) hS0 ?_; simp only [Act.put, List.setIfInBounds_toArray, List.set_cons_zero, List.set_cons_succ]
    refine wpAnyL_take (i := 6) rfl (by kernel_rfl) (by kernel_rfl) (by kernel_rfl) (by kernel_rfl) (fun _ _ _ h => h) (by rfl) (by intro w' hSw; go_simp; with_reducible rfl) hS0 ?_; simp only [Act.put, List.setIfInBounds_toArray, List.set_cons_zero, List.set_cons_succ]
    refine wpAnyL_take (i := 7) rfl (by kernel_rfl) (by kernel_rfl) (by kernel_rfl) (by kernel_rfl) (fun _ _ _ h => h) (by rfl) (by intro w' hSw; go_simp; with_reducible rfl) hS0 ?_; simp only [Act.put, List.setIfInBounds_toArray, List.set_cons_zero, List.set_cons_succ]
    refine wpAnyL_take (i := 8) rfl (by kernel_rfl) (by kernel_rfl) (by kernel_rfl) (by kernel_rfl) (fun _ _ _ h => h) (by rfl) (by intro w' hSw; go_simp; with_reducible rfl) hS0 ?_; simp only [Act.put, List.setIfInBounds_toArray, List.set_cons_zero, List.set_cons_succ]
    refine wpAnyL_take (i := 9) rfl (by kernel_rfl) (by kernel_rfl) (by kernel_rfl) (by kernel_rfl) (fun _ _ _ h => h) (by rfl) (by intro w' hSw; go_simp; with_reducible rfl) hS0 ?_; simp only [Act.put, List.setIfInBounds_toArray, List.set_cons_zero, List.set_cons_succ]
    refine wpAnyL_take (i := 10) rfl (by kernel_rfl) (by kernel_rfl) (by kernel_rfl) (by kernel_rfl) (fun _ _ _ h => h) (by rfl) (by intro w' hSw; go_simp; with_reducible rfl) hS0 ?_; simp only [Act.put, List.setIfInBounds_toArray, List.set_cons_zero, List.set_cons_succ]
    refine wpAnyL_take (i := 11) rfl (by kernel_rfl) (by kernel_rfl) (by kernel_rfl) (by kernel_rfl) (fun _ _ _ h => h) (by rfl) (by intro w' hSw; go_simp; with_reducible rfl) hS0 ?_; simp only [Act.put, List.setIfInBounds_toArray, List.set_cons_zero, List.set_cons_succ]
    refine wpAnyL_take (i := 12) rfl (by kernel_rfl) (by kernel_rfl) (by kernel_rfl) (by kernel_rfl) (fun _ _ _ h => h) (by rfl) (by intro w' hSw; go_simp; with_reducible rfl) hS0 ?_; simp only [Act.put, List.setIfInBounds_toArray, List.set_cons_zero, List.set_cons_succ]
    refine wpAnyL_take (i := 13) rfl (by kernel_rfl) (by kernel_rfl) (by kernel_rfl) (by kernel_rfl) (fun _ _ _ h => h) (by rfl) (by intro w' hSw; go_simp; with_reducible rfl) hS0 ?_; simp only [Act.put, List.setIfInBounds_toArray, List.set_cons_zero, List.set_cons_succ]
    refine wpAnyL_take (i := 14) rfl (by kernel_rfl) (by kernel_rfl) (by kernel_rfl) (by kernel_rfl) (fun _ _ _ h => h) (by rfl) (by intro w' hSw; go_simp; with_reducible rfl) hS0 ?_; simp only [Act.put, List.setIfInBounds_toArray, List.set_cons_zero, List.set_cons_succ]
    refine wpAnyL_take (i := 15) rfl (by kernel_rfl) (by kernel_rfl) (by kernel_rfl) (by kernel_rfl) (fun _ _ _ h => h) (by rfl) (by intro w' hSw; go_simp; with_reducible rfl) hS0 ?_; simp only [Act.put, List.setIfInBounds_toArray, List.set_cons_zero, List.set_cons_succ]
    refine wpAnyL_call (i := 16) rfl (by kernel_rfl) (by rfl) (by first | (go_simp; done) | (go_simp; with_reducible rfl)) (HPR.out.mono ?_)
    rintro e W4 ⟨prv, crv, rfl, hb4, hrv⟩
    have HB4 := Lib.hid hb4
    have HX4 : Hid (BelX o W0.heap.size wr W4) := BelX.ofB (HB4.out.mono hsw)
    have hs4 : wr.heap.size ≤ W4.heap.size := HB4.out.size
    have x4 := (below_at (i := 2) HB4.out hoW).trans x2
    have hoW4 : o < W4.heap.size := Nat.lt_of_lt_of_le hoW hs4
    have hb4a : Below wr.heap.size wr (W4.alloc (.cells #[.slice prv N crv] 23)) := HB4.out.alloc hs4 _
    have HX4a : Hid (BelX o W0.heap.size wr (W4.alloc (.cells #[.slice prv N crv] 23))) := BelX.ofB (hb4a.mono hsw)
    have HRV := Lib.hid hrv
    have x4a := (below_at (i := 2) hb4a hoW).trans x2
    clear hrv hb4 hb4a
    refine ⟨_, rfl, fun _ => HKQ.out _ HX4.out x4, ?_⟩
    simp only [Act.put, List.setIfInBounds_toArray, List.set_cons_zero, List.set_cons_succ]
    refine wpAnyL_val (i := 17) rfl (by kernel_rfl) (by rfl) (by go_simp; with_reducible rfl) (fun _ => HKQ.out _ HX4a.out x4a) ?_
    simp only [Act.put, List.setIfInBounds_toArray, List.set_cons_zero, List.set_cons_succ]
    refine wpAnyL_one (i := 18) rfl (by kernel_rfl) (by rfl) ?_
    have hown4 := (HWB.out _ HB4.out).alloc (.cells #[.slice prv N crv] 23)
    have hbase4 : W0.heap.size ≤ (W4.alloc (.cells #[.slice prv N crv] 23)).heap.size := by simp; omega
    have hnew4 := cell_one_new W4 (.slice prv N crv) 23
    have hone4 : ∀ u ∈ [Value.slice prv N crv], u.oneCell' = true := by simp [Value.oneCell']
    have hmax4 : k + 1 ≤ maxLen := by unfold maxLen; omega
    have hby4 : (k + 1) * 24 ≤ 140737488355328 := by omega
    refine step_own1 rfl (.tmp 35) (.tmp 51) 30 rfl W0.heap.size 23 i0 (.slice none 0 0) 24 Tryz.underlying30 hi0 hz0 hz1 hz2 rfl (.slice pv k cvv) k vs ?hs hown4 ⟨W4.heap.size, 0, none⟩ 1 [.slice prv N crv] ?hx rfl hnew4 hone4 hmax4 hby4 hbase4 ?_
    case hs => with_reducible go_simp
    case hx => with_reducible go_simp
    clear hown4 hbase4 hnew4 hone4 hmax4 hby4
    intro g' cap' W5 hown' hgrow
    have hh := HFK.out W4 W5 (.slice prv N crv) _ HX4.out HB4.out HRV.out hgrow hown'
    have HPU := Lib.hid hh.1
    have c5 := hh.2.1
    have f5 := hh.2.2.1
    have HX5 := Lib.hid hh.2.2.2
    clear hh hown' hgrow
    refine ⟨fun _ => HKQ.out _ HX5.out c5, ?_⟩
    simp only [Act.put, List.setIfInBounds_toArray, List.set_cons_zero, List.set_cons_succ]
    have hS5 : (fun w' => (w'.cell? ⟨w.heap.size + 1, 2, none⟩ = some (.slice (some ⟨b1, o1, none⟩) L c1) ∧ w'.cell? ⟨b1, o1 + k, none⟩ = some (.slice (some ⟨u1, p1, none⟩) N d1) ∧ w'.cell? ⟨w.heap.size + 1 + 1, 2, none⟩ = some (.slice (some ⟨b2, o2, none⟩) L c2) ∧ w'.cell? ⟨b2, o2 + k, none⟩ = some (.slice (some ⟨u2, p2, none⟩) N d2) ∧ w'.cell? ⟨bm, om + k, none⟩ = some (.int .u32 q) ∧ w'.cell? ⟨o, 2, none⟩ = some (.slice pv k cvv))) W5 := HKQ.out _ HX5.out c5
    refine wpAnyL_take (i := 19) rfl (by kernel_rfl) (by kernel_rfl) (by kernel_rfl) (by kernel_rfl) (fun _ _ _ h => h) (by rfl) (by intro w' hSw; go_simp; with_reducible rfl) hS5 ?_; simp only [Act.put, List.setIfInBounds_toArray, List.set_cons_zero, List.set_cons_succ]
    refine wpAnyL_skip (i := 20) rfl (by kernel_rfl) (by rfl) (by go_simp; with_reducible rfl) (fun h => absurd rfl h) ?_
    refine wpAnyL_done (by kernel_rfl) ?_ _
    simp only [Act.put, List.setIfInBounds_toArray, List.set_cons_zero, List.set_cons_succ]
    clear HX4 HX4a HB4 HRV HX5 HXD HKP HTR HFK HWB HPR HKQ hS0 hS5
    go_wp2_with fail
    go_roundw
    case rel => exact ⟨k + 1, by go_num, by omega, HPU⟩
    case measure => simp [intOf]; omega

set_option maxHeartbeats 4000000 in
set_option maxRecDepth 100000 in
theorem rsub9_any (x : Par) (L N : Nat) (cv av bv : Value) (ra rb : List (List Nat)) (w : World) (hx : Good x) (hxo : ParOk x) (hN : x.n = N) (hcv : SliceAt w cv x.ch) (hL1 : 1 ≤ L) (hL : L ≤ x.ch.length)
    (hra : SliceR w av ra) (hRA : ResR x L N ra) (hrb : SliceR w bv rb) (hRB : ResR x L N rb) :
    Calls Tryz.prog 109 #[x.val cv, elVal L false av, elVal L false bv] w fun e w' => ∃ v, e = .returned (.tuple #[elVal L false v, .int .i64 0]) ∧ OwnR w.heap.size w' v (elRows L N (fun i => sumF (-1) (x.ch.getD i 0) (ra.getD i []) (rb.getD i []))) ∧ Below w.heap.size w w' := by
  have HSA := Lib.hid hra; have HSB := Lib.hid hrb
  obtain ⟨pc, nc, ccv, rfl⟩ : ∃ pa na ca, cv = .slice pa na ca := by obtain ⟨p, c, e, _⟩ := hcv; exact ⟨p, _, c, e⟩
  obtain ⟨b1, c1, rfl⟩ : ∃ p c, av = .slice p L c := by obtain ⟨p, c, e, _⟩ := hra; exact ⟨p, c, by rw [hRA.1] at e; exact e⟩
  obtain ⟨b2, c2, rfl⟩ : ∃ p c, bv = .slice p L c := by obtain ⟨p, c, e, _⟩ := hrb; exact ⟨p, c, by rw [hRB.1] at e; exact e⟩
  have hbW : Below w.heap.size w ((((w.alloc (.cells #[.int .i64 x.n, .int .u32 x.p, .int .i64 x.r, .slice pc nc ccv, .int .u32 x.sp, .int .i64 x.wt, .int .u32 x.er] 25)).alloc (.cells #[.int .i64 L, .bool false, .slice b1 L c1] 32)).alloc (.cells #[.int .i64 L, .bool false, .slice b2 L c2] 32)).alloc (.cells #[.int .i64 0, .bool false, .slice none 0 0] 32)) := ((((Below.refl _ _).alloc (Nat.le_refl _) _).alloc (by simp) _).alloc (by simp; omega) _).alloc (by simp; omega) _
  have hB : Bx2 ((((w.alloc (.cells #[.int .i64 x.n, .int .u32 x.p, .int .i64 x.r, .slice pc nc ccv, .int .u32 x.sp, .int .i64 x.wt, .int .u32 x.er] 25)).alloc (.cells #[.int .i64 L, .bool false, .slice b1 L c1] 32)).alloc (.cells #[.int .i64 L, .bool false, .slice b2 L c2] 32)).alloc (.cells #[.int .i64 0, .bool false, .slice none 0 0] 32)) w.heap.size x (.slice pc nc ccv) L (.slice b1 L c1) (.slice b2 L c2) := by refine ⟨by constructor <;> simp [go_sem], ?_, ?_, ?_, ?_, ?_, ?_, by simp⟩ <;> simp [go_sem]
  have hR : Blk ((((w.alloc (.cells #[.int .i64 x.n, .int .u32 x.p, .int .i64 x.r, .slice pc nc ccv, .int .u32 x.sp, .int .i64 x.wt, .int .u32 x.er] 25)).alloc (.cells #[.int .i64 L, .bool false, .slice b1 L c1] 32)).alloc (.cells #[.int .i64 L, .bool false, .slice b2 L c2] 32)).alloc (.cells #[.int .i64 0, .bool false, .slice none 0 0] 32)) (w.heap.size + 1 + 1 + 1) [.int .i64 0, .bool false, .slice none 0 0] 32 := by
    have h := Blk.new (((w.alloc (.cells #[.int .i64 x.n, .int .u32 x.p, .int .i64 x.r, .slice pc nc ccv, .int .u32 x.sp, .int .i64 x.wt, .int .u32 x.er] 25)).alloc (.cells #[.int .i64 L, .bool false, .slice b1 L c1] 32)).alloc (.cells #[.int .i64 L, .bool false, .slice b2 L c2] 32)) #[.int .i64 0, .bool false, .slice none 0 0] 32
    simpa using h
  have HCV := Lib.hid hcv; have HX := Lib.hid hx; have HXO := Lib.hid hxo; have HBW := Lib.hid hbW; have HB := Lib.hid hB; have HR := Lib.hid hR; have HN := Lib.hid hN; have HRA := Lib.hid hRA; have HRB := Lib.hid hRB
  clear hcv hx hxo hbW hB hR hN hRA hRB hra hrb
  unfold Par.val elVal
  go_enter Tryz.func109, Tryz.ntmps109
  go_wp2_with fail
  refine (rtwo_yes x L N _ _ _ ra rb _ HX.out HXO.out HN.out (HCV.out.below HBW.out) hL1 hL (HSA.out.below HBW.out) HRA.out (HSB.out.below HBW.out) HRB.out).mono ?_
  rintro e w1 ⟨rfl, hb1⟩
  have HB1 := Lib.hid (HB.out.below hb1)
  have HR1 := Lib.hid (HR.out.below hb1 HR.out.lt)
  have HBW1 := Lib.hid (HBW.out.trans (hb1.mono HBW.out.size))
  clear hb1
  obtain ⟨y0, y1, y2, y3, y4, y5, y6⟩ := HB1.out.bp
  have z0 := HB1.out.a0; have z1 := HB1.out.a1; have z2 := HB1.out.a2; have z3 := HB1.out.b0; have z4 := HB1.out.b1; have z5 := HB1.out.b2
  go_wp2_with fail
  refine (rsum9_any x L N (-1) _ _ _ ra rb _ HX.out HN.out (HCV.out.below HBW1.out) hL1 hL (HSA.out.below HBW1.out) HRA.out (HSB.out.below HBW1.out) HRB.out (by omega)).mono ?_
  rintro e w2 ⟨v, rfl, hv, hb2⟩
  obtain ⟨pv, cv2, rfl⟩ : ∃ p c, v = .slice p L c := by obtain ⟨p, c, e⟩ := hv.val; exact ⟨p, c, by rw [elRows_len] at e; exact e⟩
  unfold elVal at *
  have HR2 := Lib.hid (HR1.out.below hb2 HR1.out.lt)
  have HBW2 := Lib.hid (HBW1.out.trans (hb2.mono HBW1.out.size))
  have r0 := HR2.out.cell 0 (by simp); have r1 := HR2.out.cell 1 (by simp); have r2 := HR2.out.cell 2 (by simp)
  have s0 := HR2.out.free 0; have s1 := HR2.out.free 1; have s2 := HR2.out.free 2
  have HF := Lib.hid (ownr_set3 (.int .i64 L) (.bool false) (.slice pv L cv2) (hv.mono HBW1.out.size) HR2.out)
  clear hv hb2 y0 y1 y2 y3 y4 y5 y6 z0 z1 z2 z3 z4 z5
  go_wp2_with fail
  obtain ⟨f1, f0, f2⟩ := HF.out
  have q0 := f0.cell 0 (by simp); have q1 := f0.cell 1 (by simp); have q2 := f0.cell 2 (by simp)
  refine bodyPost_ret (v := .tuple #[.agg #[.int .i64 L, .bool false, .slice pv L cv2], .int .i64 0]) (by simp [results, Tryz.results109, go_sem, q0, q1, q2]) rfl ?_
  exact ⟨_, rfl, f1, below_gr HBW2.out f2 HBW2.out.size (by omega)⟩
end Go.Proofs.YtjpcljnojipdnaaGreat

/-! The reference: MulInt; Of, Scale, Sub, Mul of keys. (Printed by gen_PubO.py.) -/
namespace Go.Proofs.YtjpcljnojipdnaaGreat
open Go.RowKit Go.Shelf
set_option linter.unusedVariables false

theorem Blk.newN (w : World) (cs : List Value) (T : TypeId) (n : Nat) (h : w.heap.size = n) : Blk (w.alloc (.cells cs.toArray T)) n cs T := by subst h; exact Blk.new w cs.toArray T
/-- An element in a new box. -/
structure ElT (W Z : World) (L d : Nat) (vd : Value) (rd : List (List Nat)) : Prop where
  bel : Below W.heap.size W Z
  db : Blk Z d [.int .i64 L, .bool false, vd] 32
  own : OwnR W.heap.size Z vd rd
  le : W.heap.size ≤ d
theorem ElT.late {W W2 : World} {L : Nat} {vd : Value} {rd : List (List Nat)} (hb : Below W.heap.size W W2) (hv : OwnR W.heap.size W2 vd rd) : ElT W (W2.alloc (.cells #[.int .i64 L, .bool false, vd] 32)) L W2.heap.size vd rd :=
  ⟨hb.alloc hb.size _, Blk.new _ _ _, hv.below ((Below.refl _ _).alloc (Nat.le_refl _) _), hb.size⟩
theorem ElT.early {W W2 : World} {L d : Nat} {vd : Value} {rd : List (List Nat)} (hb : Below W.heap.size W W2) (hv : OwnR W.heap.size W2 vd rd) (hd : W.heap.size ≤ d) (hk : Blk W2 d [.int .i64 0, .bool false, .slice none 0 0] 32) :
    ElT W (((W2.setCell ⟨d, 0, none⟩ (.int .i64 L)).setCell ⟨d, 1, none⟩ (.bool false)).setCell ⟨d, 2, none⟩ vd) L d vd rd := by
  obtain ⟨h1, h2, h3⟩ := ownr_set3 (.int .i64 L) (.bool false) vd hv hk
  exact ⟨below_gr hb h3 hb.size hd, h2, h1, hd⟩

set_option maxHeartbeats 8000000 in
set_option maxRecDepth 100000 in
theorem rmulint_any (x : Par) (L N : Nat) (c : Int) (cv av : Value) (ra : List (List Nat)) (w : World) (hx : Good x) (hxo : ParOk x) (hN : x.n = N) (hcv : SliceAt w cv x.ch) (hL1 : 1 ≤ L) (hL : L ≤ x.ch.length)
    (hra : SliceR w av ra) (hRA : ResR x L N ra) (hc : -9223372036854775808 ≤ c ∧ c ≤ 9223372036854775807) :
    Calls Tryz.prog 108 #[x.val cv, elVal L false av, .int .i64 c] w fun e w' => ∃ v, e = .returned (.tuple #[elVal L false v, .int .i64 0]) ∧ OwnR w.heap.size w' v (elRows L N (fun i => sumF c (x.ch.getD i 0) ((elRows L N (fun i => intF (List.replicate N 0) (x.ch.getD i 0))).getD i []) (ra.getD i []))) ∧ Below w.heap.size w w' := by
  obtain ⟨pc, nc, ccv, rfl⟩ : ∃ pa na ca, cv = .slice pa na ca := by obtain ⟨p, c, e, _⟩ := hcv; exact ⟨p, _, c, e⟩
  have HSA := Lib.hid hra; have HRA := Lib.hid hRA
  obtain ⟨b1, c1, rfl⟩ : ∃ p c, av = .slice p L c := by obtain ⟨p, c, e, _⟩ := hra; exact ⟨p, c, by rw [hRA.1] at e; exact e⟩
  have hdm := isDim_cases hx.dim
  have hN1 : 1 ≤ N := by omega
  have hN32 : N ≤ 32 := by omega
  have hmk := fun wx => run_make_row' (P := Tryz.prog) 55 2 (.int .i64 0) 8 Tryz.underlying55 infoI64 rfl .i64 .i64 N (by omega) (by omega) wx
  rw [← hN] at hmk
  have hbW : Below w.heap.size w (((w.alloc (.cells #[.int .i64 x.n, .int .u32 x.p, .int .i64 x.r, .slice pc nc ccv, .int .u32 x.sp, .int .i64 x.wt, .int .u32 x.er] 25)).alloc (.cells #[.int .i64 L, .bool false, .slice b1 L c1] 32)).alloc (.cells #[.int .i64 0, .bool false, .slice none 0 0] 32)) := (((Below.refl _ _).alloc (Nat.le_refl _) _).alloc (by simp) _).alloc (by simp; omega) _
  have hB : BoxP (((w.alloc (.cells #[.int .i64 x.n, .int .u32 x.p, .int .i64 x.r, .slice pc nc ccv, .int .u32 x.sp, .int .i64 x.wt, .int .u32 x.er] 25)).alloc (.cells #[.int .i64 L, .bool false, .slice b1 L c1] 32)).alloc (.cells #[.int .i64 0, .bool false, .slice none 0 0] 32)) w.heap.size x (.slice pc nc ccv) := by constructor <;> simp [go_sem]
  have hA : Blk (((w.alloc (.cells #[.int .i64 x.n, .int .u32 x.p, .int .i64 x.r, .slice pc nc ccv, .int .u32 x.sp, .int .i64 x.wt, .int .u32 x.er] 25)).alloc (.cells #[.int .i64 L, .bool false, .slice b1 L c1] 32)).alloc (.cells #[.int .i64 0, .bool false, .slice none 0 0] 32)) (w.heap.size + 1) [.int .i64 L, .bool false, .slice b1 L c1] 32 := by
    have h := (Blk.new (w.alloc (.cells #[.int .i64 x.n, .int .u32 x.p, .int .i64 x.r, .slice pc nc ccv, .int .u32 x.sp, .int .i64 x.wt, .int .u32 x.er] 25)) #[.int .i64 L, .bool false, .slice b1 L c1] 32).alloc (.cells #[.int .i64 0, .bool false, .slice none 0 0] 32)
    simpa using h
  have hR : Blk (((w.alloc (.cells #[.int .i64 x.n, .int .u32 x.p, .int .i64 x.r, .slice pc nc ccv, .int .u32 x.sp, .int .i64 x.wt, .int .u32 x.er] 25)).alloc (.cells #[.int .i64 L, .bool false, .slice b1 L c1] 32)).alloc (.cells #[.int .i64 0, .bool false, .slice none 0 0] 32)) (w.heap.size + 1 + 1) [.int .i64 0, .bool false, .slice none 0 0] 32 := by
    have h := Blk.new ((w.alloc (.cells #[.int .i64 x.n, .int .u32 x.p, .int .i64 x.r, .slice pc nc ccv, .int .u32 x.sp, .int .i64 x.wt, .int .u32 x.er] 25)).alloc (.cells #[.int .i64 L, .bool false, .slice b1 L c1] 32)) #[.int .i64 0, .bool false, .slice none 0 0] 32
    simpa using h
  have hS : (((w.alloc (.cells #[.int .i64 x.n, .int .u32 x.p, .int .i64 x.r, .slice pc nc ccv, .int .u32 x.sp, .int .i64 x.wt, .int .u32 x.er] 25)).alloc (.cells #[.int .i64 L, .bool false, .slice b1 L c1] 32)).alloc (.cells #[.int .i64 0, .bool false, .slice none 0 0] 32)).heap.size = w.heap.size + 3 := by simp
  have HE0 : Hid (elemE x L false ra = 0) := res_elem hN hL1 hL hRA
  have HCV := Lib.hid hcv; have HX := Lib.hid hx; have HXO := Lib.hid hxo; have HBW := Lib.hid hbW; have HB := Lib.hid hB; have HA := Lib.hid hA; have HR := Lib.hid hR; have HN := Lib.hid hN; have HS := Lib.hid hS
  clear hra hRA hcv hx hxo hbW hB hA hR hS hN hdm
  unfold Par.val elVal
  go_enter Tryz.func108, Tryz.ntmps108
  go_wp2_with fail
  refine (rcheck9_any x _ _ L false ra _ HX.out (HCV.out.below HBW.out) (HSA.out.below HBW.out)).mono ?_
  rintro e W5 ⟨rfl, hb5⟩
  rw [HE0.out]
  have HB5 := Lib.hid (HB.out.below hb5 (by rw [HS.out]; omega))
  have HA5 := Lib.hid (HA.out.below hb5 HA.out.lt)
  have HR5 := Lib.hid (HR.out.below hb5 HR.out.lt)
  have HBW5 := Lib.hid (HBW.out.trans (hb5.mono HBW.out.size))
  have hs5 : w.heap.size + 3 ≤ W5.heap.size := by have := hb5.size; rw [HS.out] at this; exact this
  clear hb5 HB HA HR HBW HS HE0
  have HZ : Hid (∀ (X : World) (mb : Nat), Blk X mb (List.replicate N (.int .i64 0)) 2 → SliceZ .i64 X (.slice (some ⟨mb, 0, none⟩) N N) (List.replicate N 0)) := fun X mb h => by
    have h2 : Blk X mb ((List.replicate N (0 : Int)).map (Value.int .i64)) 2 := by rw [List.map_replicate]; exact h
    have h3 := SliceZ.ofBlk h2 (by rw [List.length_replicate]; omega) (fun q hq => by rw [(List.mem_replicate.1 hq).2]; rfl)
    rw [List.length_replicate] at h3
    exact h3
  have HM : Hid (∀ X : World, Blk (X.alloc (.cells (madeCells #[.int .i64 0] N) 2)) X.heap.size (List.replicate N (.int .i64 0)) 2) := fun X => by
    have h := Blk.new X (madeCells #[.int .i64 0] N) 2
    rw [made_list] at h; exact h
  have HCV5 := Lib.hid (HCV.out.below HBW5.out); have HSA5 := Lib.hid (HSA.out.below HBW5.out)
  have HLN : Hid ((List.replicate N (0 : Int)).length = N) := List.length_replicate
  obtain ⟨y0, y1, y2, y3, y4, y5, y6⟩ := HB5.out
  have y7 := HA5.out.cell 0 (by simp); have y8 := HA5.out.cell 1 (by simp)
  have eaA : w.heap.size ≠ W5.heap.size := (by omega); have ebA : W5.heap.size ≠ w.heap.size := (by omega); have ecA : w.heap.size + 1 ≠ W5.heap.size := (by omega); have edA : W5.heap.size ≠ w.heap.size + 1 := (by omega)
  have eaB : w.heap.size ≠ W5.heap.size + 1 := (by omega); have ebB : W5.heap.size + 1 ≠ w.heap.size := (by omega); have ecB : w.heap.size + 1 ≠ W5.heap.size + 1 := (by omega); have edB : W5.heap.size + 1 ≠ w.heap.size + 1 := (by omega)
  go_wp2_with fail
  refine region_via (fun a0 a1 Z => ∃ (db mb : Nat) (p2 : Option Addr) (c2 : Nat), Hid (ElT W5 Z L db (.slice p2 L c2) (elRows L N (fun i => intF (List.replicate N 0) (x.ch.getD i 0)))) ∧
    a1 = ((((((((((((((a0.put (some 16) (.agg #[.int .i64 x.n, .int .u32 x.p, .int .i64 x.r, .slice pc nc ccv, .int .u32 x.sp, .int .i64 x.wt, .int .u32 x.er])).put (some 17) (.pointer (some ⟨w.heap.size + 1, 0, none⟩))).put (some 18) (.int .i64 L)).put (some 19) (.pointer (some ⟨w.heap.size + 1, 1, none⟩))).put (some 20) (.bool false)).put (some 21) (.pointer (some ⟨w.heap.size, 0, none⟩))).put (some 22) (.int .i64 x.n)).put (some 23) (.slice (some ⟨mb, 0, none⟩) N N)).put (some 24) (.tuple #[.agg #[.int .i64 L, .bool false, .slice p2 L c2], .int .i64 0])).put (some 15) (.tuple #[.agg #[.int .i64 L, .bool false, .slice p2 L c2], .int .i64 0])).put (some 25) (.agg #[.int .i64 L, .bool false, .slice p2 L c2])).put (some 26) (.int .i64 0)).put (some 8) (.pointer (some ⟨db, 0, none⟩))).put (some 9) (.int .i64 0))) ?main ?keyp
  case main =>
    go_region_held3 (fun w' => w'.cell? ⟨w.heap.size, 0, none⟩ = some (.int .i64 x.n) ∧ w'.cell? ⟨w.heap.size, 1, none⟩ = some (.int .u32 x.p) ∧ w'.cell? ⟨w.heap.size, 2, none⟩ = some (.int .i64 x.r) ∧ w'.cell? ⟨w.heap.size, 3, none⟩ = some (.slice pc nc ccv) ∧ w'.cell? ⟨w.heap.size, 4, none⟩ = some (.int .u32 x.sp) ∧ w'.cell? ⟨w.heap.size, 5, none⟩ = some (.int .i64 x.wt) ∧ w'.cell? ⟨w.heap.size, 6, none⟩ = some (.int .u32 x.er) ∧ w'.cell? ⟨w.heap.size + 1, 0, none⟩ = some (.int .i64 L) ∧ w'.cell? ⟨w.heap.size + 1, 1, none⟩ = some (.bool false)) (go_keep)
      (first
        | (go_at_call 58; refine (rfint9_any x L N _ _ (List.replicate N 0) _ HX.out HN.out (by first | exact HCV5.out.below ((Below.refl _ _).drew.alloc (Nat.le_refl _) _) | exact HCV5.out.below (((Below.refl _ _).drew.alloc (Nat.le_refl _) _).alloc (by simp) _)) hL1 hL (by first | exact HZ.out _ _ (HM.out _) | exact HZ.out _ _ ((HM.out _).alloc _) | (refine HZ.out _ _ ?_; have h := (HM.out (W5.alloc (.cells #[.int .i64 0, .bool false, .slice none 0 0] 32))).drew; simpa using h)) HLN.out).mono ?_; rintro e W7 ⟨vd, rfl, hvd, hb7⟩; obtain ⟨pd, cd, rfl⟩ : ∃ p c, vd = .slice p L c := (by obtain ⟨p, c, e⟩ := hvd.val; exact ⟨p, c, by rw [elRows_len] at e; exact e⟩); unfold elVal; have q7 : Below W5.heap.size W5 W7 := below_then hb7 (by first | exact (Below.refl _ _).drew.alloc (Nat.le_refl _) _ | exact ((Below.refl _ _).drew.alloc (Nat.le_refl _) _).alloc (by simp) _) (by simp <;> omega); have HVD := Lib.hid (OwnR.mono (b2 := W5.heap.size) hvd (by simp <;> omega)); have NB7 := HB5.out.below q7 (by omega); obtain ⟨m0, m1, m2, m3, m4, m5, m6⟩ := NB7; have NA7 := HA5.out.below q7 HA5.out.lt; have m7 := NA7.cell 0 (by simp); have m8 := NA7.cell 1 (by simp); have hs7 := q7.size; have hz7 : W5.heap.size < W7.heap.size := (by have h := hb7.size; simp at h; omega); have eaC : w.heap.size ≠ W7.heap.size := (by omega); have ebC : W7.heap.size ≠ w.heap.size := (by omega); have ecC : w.heap.size + 1 ≠ W7.heap.size := (by omega); have edC : W7.heap.size ≠ w.heap.size + 1 := (by omega); obtain ⟨hc7, hf7⟩ := bcell hb7; (try (have hz71 : W5.heap.size + 1 < W7.heap.size := (by have h := hb7.size; simp at h; omega))); (try (have hbk7 : Hid (Blk W7 W5.heap.size [.int .i64 0, .bool false, .slice none 0 0] 32) := (by first | exact Blk.below (Blk.alloc (Blk.drew (Blk.new W5 #[.int .i64 0, .bool false, .slice none 0 0] _)) _) hb7 (by simp <;> omega) | exact Blk.below (Blk.drew (Blk.alloc (Blk.new W5 #[.int .i64 0, .bool false, .slice none 0 0] _) _)) hb7 (by simp <;> omega)))); (try (have hbm7 : Hid (Blk W7 (W5.heap.size + 1) [.int .i64 0, .bool false, .slice none 0 0] 32) := (by first | exact Blk.below (Blk.newN _ _ _ _ (by first | rfl | simp)) hb7 (by simp) | exact Blk.below (Blk.drew (Blk.newN _ _ _ _ (by first | rfl | simp))) hb7 (by simp)))); have HQ7 := Lib.hid q7; clear hvd hb7 q7 NA7))
    all_goals
      first
        | exact ⟨rfl, _, _, pd, cd, Lib.hid (ElT.late HQ7.out HVD.out), rfl⟩
        | exact ⟨rfl, _, _, pd, cd, Lib.hid (ElT.early HQ7.out HVD.out (by omega) hbm7.out), rfl⟩
        | exact ⟨rfl, _, _, pd, cd, Lib.hid (ElT.early HQ7.out HVD.out (Nat.le_refl _) hbk7.out), rfl⟩
  case keyp =>
    rintro a1 Z ⟨db, mb, pd, cd, HE, rfl⟩
    simp only [Act.put, List.setIfInBounds_toArray, List.set_cons_zero, List.set_cons_succ]
    clear y0 y1 y2 y3 y4 y5 y6 y7 y8 eaA ebA ecA edA eaB ebB ecB edB HZ HM HLN hmk
    have HBZ := Lib.hid (HB5.out.below HE.out.bel (by omega))
    have HAZ := Lib.hid (HA5.out.below HE.out.bel HA5.out.lt)
    have HRZ := Lib.hid (HR5.out.below HE.out.bel HR5.out.lt)
    have HBWZ := Lib.hid (HBW5.out.trans (HE.out.bel.mono HBW5.out.size))
    obtain ⟨y0, y1, y2, y3, y4, y5, y6⟩ := HBZ.out
    have a0 := HAZ.out.cell 0 (by simp); have a1 := HAZ.out.cell 1 (by simp); have a2 := HAZ.out.cell 2 (by simp)
    have d0 := HE.out.db.cell 0 (by simp); have d1 := HE.out.db.cell 1 (by simp); have d2 := HE.out.db.cell 2 (by simp)
    go_wp2_with fail
    refine (rsum9_any x L N c _ _ _ (elRows L N (fun i => intF (List.replicate N 0) (x.ch.getD i 0))) ra _ HX.out HN.out (HCV5.out.below HE.out.bel) hL1 hL (HE.out.own.sliceG HX.out (res_ints HX.out hL _) hL (by omega)) (res_ints HX.out hL _) (HSA5.out.below HE.out.bel) HRA.out hc).mono ?_
    rintro e w2 ⟨v, rfl, hv, hb2⟩
    obtain ⟨pv, cv2, rfl⟩ : ∃ p c, v = .slice p L c := by obtain ⟨p, c, e⟩ := hv.val; exact ⟨p, c, by rw [elRows_len] at e; exact e⟩
    unfold elVal at *
    have HR2 := Lib.hid (HRZ.out.below hb2 HRZ.out.lt)
    have HBW2 := Lib.hid (HBWZ.out.trans (hb2.mono HBWZ.out.size))
    have r0 := HR2.out.cell 0 (by simp); have r1 := HR2.out.cell 1 (by simp); have r2 := HR2.out.cell 2 (by simp)
    have s0 := HR2.out.free 0; have s1 := HR2.out.free 1; have s2 := HR2.out.free 2
    have HF := Lib.hid (ownr_set3 (.int .i64 L) (.bool false) (.slice pv L cv2) (hv.mono HBWZ.out.size) HR2.out)
    clear hv hb2 y0 y1 y2 y3 y4 y5 y6 a0 a1 a2 d0 d1 d2
    go_wp2_with fail
    obtain ⟨f1, f0, f2⟩ := HF.out
    have q0 := f0.cell 0 (by simp); have q1 := f0.cell 1 (by simp); have q2 := f0.cell 2 (by simp)
    refine bodyPost_ret (v := .tuple #[.agg #[.int .i64 L, .bool false, .slice pv L cv2], .int .i64 0]) (by simp [results, Tryz.results108, go_sem, q0, q1, q2]) rfl ?_
    exact ⟨_, rfl, f1, below_gr HBW2.out f2 HBW2.out.size (by omega)⟩

set_option maxHeartbeats 4000000 in
set_option maxRecDepth 100000 in
theorem wof_any (x : Par) (L N : Nat) (cv av lv : Value) (ra : List (List Nat)) (l : List Int) (w : World) (hx : Good x) (hxo : ParOk x) (hN : x.n = N) (hcv : SliceAt w cv x.ch) (hL1 : 1 ≤ L) (hL : L ≤ x.ch.length)
    (hra : SliceR w av ra) (hRA : ResR x L N ra) (hl : SliceZ .i64 w lv l) (hlen : l.length = N) :
    Calls Tryz.prog 18 #[x.val cv, elVal L false av, lv] w fun e w' => ∃ v, e = .returned (elVal L false v) ∧ OwnR w.heap.size w' v (elRows L N (fun i => intF l (x.ch.getD i 0))) ∧ Below w.heap.size w w' := by
  obtain ⟨pc, nc, ccv, rfl⟩ : ∃ pa na ca, cv = .slice pa na ca := by obtain ⟨p, c, e, _⟩ := hcv; exact ⟨p, _, c, e⟩
  have HLV := Lib.hid hl; have HLEN := Lib.hid hlen
  obtain ⟨b1, c1, rfl⟩ : ∃ p c, av = .slice p L c := by obtain ⟨p, c, e, _⟩ := hra; exact ⟨p, c, by rw [hRA.1] at e; exact e⟩
  obtain ⟨b2, c2, rfl⟩ : ∃ p c, lv = .slice p N c := by obtain ⟨p, c, e, _⟩ := hl; exact ⟨p, c, by rw [hlen] at e; exact e⟩
  clear hra hRA hl hlen
  have hbW : Below w.heap.size w (((w.alloc (.cells #[.int .i64 x.n, .int .u32 x.p, .int .i64 x.r, .slice pc nc ccv, .int .u32 x.sp, .int .i64 x.wt, .int .u32 x.er] 25)).alloc (.cells #[.int .i64 L, .bool false, .slice b1 L c1] 32)).alloc (.cells #[.int .i64 0, .bool false, .slice none 0 0] 32)) := (((Below.refl _ _).alloc (Nat.le_refl _) _).alloc (by simp) _).alloc (by simp; omega) _
  have hR : Blk (((w.alloc (.cells #[.int .i64 x.n, .int .u32 x.p, .int .i64 x.r, .slice pc nc ccv, .int .u32 x.sp, .int .i64 x.wt, .int .u32 x.er] 25)).alloc (.cells #[.int .i64 L, .bool false, .slice b1 L c1] 32)).alloc (.cells #[.int .i64 0, .bool false, .slice none 0 0] 32)) (w.heap.size + 1 + 1) [.int .i64 0, .bool false, .slice none 0 0] 32 := by
    have h := Blk.new ((w.alloc (.cells #[.int .i64 x.n, .int .u32 x.p, .int .i64 x.r, .slice pc nc ccv, .int .u32 x.sp, .int .i64 x.wt, .int .u32 x.er] 25)).alloc (.cells #[.int .i64 L, .bool false, .slice b1 L c1] 32)) #[.int .i64 0, .bool false, .slice none 0 0] 32
    simpa using h
  have HCV := Lib.hid hcv; have HX := Lib.hid hx; have HXO := Lib.hid hxo; have HBW := Lib.hid hbW; have HR := Lib.hid hR; have HN := Lib.hid hN
  clear hcv hx hxo hbW hR hN
  unfold Par.val elVal
  go_enter Tryz.func18, Tryz.ntmps18
  go_wp2_with fail
  refine (rfint9_any x L N _ _ l _ HX.out HN.out (HCV.out.below HBW.out) hL1 hL (HLV.out.below HBW.out) HLEN.out).mono ?_
  rintro e w2 ⟨v, rfl, hv, hb2⟩
  obtain ⟨pd, cd, rfl⟩ : ∃ p c, v = .slice p L c := by obtain ⟨p, c, e⟩ := hv.val; exact ⟨p, c, by rw [elRows_len] at e; exact e⟩
  unfold elVal at *
  have HE := Lib.hid (ElT.late (L := L) hb2 hv)
  have HR2 := Lib.hid (HR.out.below HE.out.bel HR.out.lt)
  have HBW2 := Lib.hid (HBW.out.trans (HE.out.bel.mono HBW.out.size))
  obtain ⟨WA, hWA⟩ : ∃ WA, w2.alloc (.cells #[.int .i64 L, .bool false, .slice pd L cd] 32) = WA := ⟨_, rfl⟩
  rw [hWA] at HE HR2 HBW2
  have d0 := HE.out.db.cell 0 (by simp); have d1 := HE.out.db.cell 1 (by simp); have d2 := HE.out.db.cell 2 (by simp)
  have r0 := HR2.out.cell 0 (by simp); have r1 := HR2.out.cell 1 (by simp); have r2 := HR2.out.cell 2 (by simp)
  have s0 := HR2.out.free 0; have s1 := HR2.out.free 1; have s2 := HR2.out.free 2
  have HF := Lib.hid (ownr_set3 (.int .i64 L) (.bool false) (.slice pd L cd) (HE.out.own.mono HBW.out.size) HR2.out)
  clear hv hb2
  go_wp2_with fail
  clear hWA
  obtain ⟨f1, f0, f2⟩ := HF.out
  have q0 := f0.cell 0 (by simp); have q1 := f0.cell 1 (by simp); have q2 := f0.cell 2 (by simp)
  refine bodyPost_ret (v := .agg #[.int .i64 L, .bool false, .slice pd L cd]) (by simp [results, Tryz.results18, go_sem, q0, q1, q2]) rfl ?_
  exact ⟨_, rfl, f1, below_gr HBW2.out f2 HBW2.out.size (by omega)⟩

set_option maxHeartbeats 4000000 in
set_option maxRecDepth 100000 in
theorem wscale_any (x : Par) (L N : Nat) (c : Int) (cv av : Value) (ra : List (List Nat)) (w : World) (hx : Good x) (hxo : ParOk x) (hN : x.n = N) (hcv : SliceAt w cv x.ch) (hL1 : 1 ≤ L) (hL : L ≤ x.ch.length)
    (hra : SliceR w av ra) (hRA : ResR x L N ra) (hc : -9223372036854775808 ≤ c ∧ c ≤ 9223372036854775807) :
    Calls Tryz.prog 62 #[x.val cv, elVal L false av, .int .i64 c] w fun e w' => ∃ v, e = .returned (elVal L false v) ∧ OwnR w.heap.size w' v (elRows L N (fun i => sumF c (x.ch.getD i 0) ((elRows L N (fun i => intF (List.replicate N 0) (x.ch.getD i 0))).getD i []) (ra.getD i []))) ∧ Below w.heap.size w w' := by
  obtain ⟨pc, nc, ccv, rfl⟩ : ∃ pa na ca, cv = .slice pa na ca := by obtain ⟨p, c, e, _⟩ := hcv; exact ⟨p, _, c, e⟩
  have HSA := Lib.hid hra; have HRA := Lib.hid hRA
  obtain ⟨b1, c1, rfl⟩ : ∃ p c, av = .slice p L c := by obtain ⟨p, c, e, _⟩ := hra; exact ⟨p, c, by rw [hRA.1] at e; exact e⟩
  clear hra hRA
  have hbW : Below w.heap.size w (((w.alloc (.cells #[.int .i64 x.n, .int .u32 x.p, .int .i64 x.r, .slice pc nc ccv, .int .u32 x.sp, .int .i64 x.wt, .int .u32 x.er] 25)).alloc (.cells #[.int .i64 L, .bool false, .slice b1 L c1] 32)).alloc (.cells #[.int .i64 0, .bool false, .slice none 0 0] 32)) := (((Below.refl _ _).alloc (Nat.le_refl _) _).alloc (by simp) _).alloc (by simp; omega) _
  have hR : Blk (((w.alloc (.cells #[.int .i64 x.n, .int .u32 x.p, .int .i64 x.r, .slice pc nc ccv, .int .u32 x.sp, .int .i64 x.wt, .int .u32 x.er] 25)).alloc (.cells #[.int .i64 L, .bool false, .slice b1 L c1] 32)).alloc (.cells #[.int .i64 0, .bool false, .slice none 0 0] 32)) (w.heap.size + 1 + 1) [.int .i64 0, .bool false, .slice none 0 0] 32 := by
    have h := Blk.new ((w.alloc (.cells #[.int .i64 x.n, .int .u32 x.p, .int .i64 x.r, .slice pc nc ccv, .int .u32 x.sp, .int .i64 x.wt, .int .u32 x.er] 25)).alloc (.cells #[.int .i64 L, .bool false, .slice b1 L c1] 32)) #[.int .i64 0, .bool false, .slice none 0 0] 32
    simpa using h
  have HCV := Lib.hid hcv; have HX := Lib.hid hx; have HXO := Lib.hid hxo; have HBW := Lib.hid hbW; have HR := Lib.hid hR; have HN := Lib.hid hN
  clear hcv hx hxo hbW hR hN
  unfold Par.val elVal
  go_enter Tryz.func62, Tryz.ntmps62
  go_wp2_with fail
  refine (rmulint_any x L N c _ _ ra _ HX.out HXO.out HN.out (HCV.out.below HBW.out) hL1 hL (HSA.out.below HBW.out) HRA.out hc).mono ?_
  rintro e w2 ⟨v, rfl, hv, hb2⟩
  obtain ⟨pd, cd, rfl⟩ : ∃ p c, v = .slice p L c := by obtain ⟨p, c, e⟩ := hv.val; exact ⟨p, c, by rw [elRows_len] at e; exact e⟩
  unfold elVal at *
  have HE := Lib.hid (ElT.late (L := L) hb2 hv)
  have HR2 := Lib.hid (HR.out.below HE.out.bel HR.out.lt)
  have HBW2 := Lib.hid (HBW.out.trans (HE.out.bel.mono HBW.out.size))
  obtain ⟨WA, hWA⟩ : ∃ WA, w2.alloc (.cells #[.int .i64 L, .bool false, .slice pd L cd] 32) = WA := ⟨_, rfl⟩
  rw [hWA] at HE HR2 HBW2
  have d0 := HE.out.db.cell 0 (by simp); have d1 := HE.out.db.cell 1 (by simp); have d2 := HE.out.db.cell 2 (by simp)
  have r0 := HR2.out.cell 0 (by simp); have r1 := HR2.out.cell 1 (by simp); have r2 := HR2.out.cell 2 (by simp)
  have s0 := HR2.out.free 0; have s1 := HR2.out.free 1; have s2 := HR2.out.free 2
  have HF := Lib.hid (ownr_set3 (.int .i64 L) (.bool false) (.slice pd L cd) (HE.out.own.mono HBW.out.size) HR2.out)
  clear hv hb2
  go_wp2_with fail
  clear hWA
  obtain ⟨f1, f0, f2⟩ := HF.out
  have q0 := f0.cell 0 (by simp); have q1 := f0.cell 1 (by simp); have q2 := f0.cell 2 (by simp)
  refine bodyPost_ret (v := .agg #[.int .i64 L, .bool false, .slice pd L cd]) (by simp [results, Tryz.results62, go_sem, q0, q1, q2]) rfl ?_
  exact ⟨_, rfl, f1, below_gr HBW2.out f2 HBW2.out.size (by omega)⟩

set_option maxHeartbeats 4000000 in
set_option maxRecDepth 100000 in
theorem wsub_any (x : Par) (L N : Nat) (cv av bv : Value) (ra rb : List (List Nat)) (w : World) (hx : Good x) (hxo : ParOk x) (hN : x.n = N) (hcv : SliceAt w cv x.ch) (hL1 : 1 ≤ L) (hL : L ≤ x.ch.length)
    (hra : SliceR w av ra) (hRA : ResR x L N ra) (hrb : SliceR w bv rb) (hRB : ResR x L N rb) :
    Calls Tryz.prog 63 #[x.val cv, elVal L false av, elVal L false bv] w fun e w' => ∃ v, e = .returned (elVal L false v) ∧ OwnR w.heap.size w' v (elRows L N (fun i => sumF (-1) (x.ch.getD i 0) (ra.getD i []) (rb.getD i []))) ∧ Below w.heap.size w w' := by
  obtain ⟨pc, nc, ccv, rfl⟩ : ∃ pa na ca, cv = .slice pa na ca := by obtain ⟨p, c, e, _⟩ := hcv; exact ⟨p, _, c, e⟩
  have HSA := Lib.hid hra; have HSB := Lib.hid hrb; have HRA := Lib.hid hRA; have HRB := Lib.hid hRB
  obtain ⟨b1, c1, rfl⟩ : ∃ p c, av = .slice p L c := by obtain ⟨p, c, e, _⟩ := hra; exact ⟨p, c, by rw [hRA.1] at e; exact e⟩
  obtain ⟨b2, c2, rfl⟩ : ∃ p c, bv = .slice p L c := by obtain ⟨p, c, e, _⟩ := hrb; exact ⟨p, c, by rw [hRB.1] at e; exact e⟩
  clear hra hrb hRA hRB
  have hbW : Below w.heap.size w ((((w.alloc (.cells #[.int .i64 x.n, .int .u32 x.p, .int .i64 x.r, .slice pc nc ccv, .int .u32 x.sp, .int .i64 x.wt, .int .u32 x.er] 25)).alloc (.cells #[.int .i64 L, .bool false, .slice b1 L c1] 32)).alloc (.cells #[.int .i64 L, .bool false, .slice b2 L c2] 32)).alloc (.cells #[.int .i64 0, .bool false, .slice none 0 0] 32)) := ((((Below.refl _ _).alloc (Nat.le_refl _) _).alloc (by simp) _).alloc (by simp; omega) _).alloc (by simp; omega) _
  have hR : Blk ((((w.alloc (.cells #[.int .i64 x.n, .int .u32 x.p, .int .i64 x.r, .slice pc nc ccv, .int .u32 x.sp, .int .i64 x.wt, .int .u32 x.er] 25)).alloc (.cells #[.int .i64 L, .bool false, .slice b1 L c1] 32)).alloc (.cells #[.int .i64 L, .bool false, .slice b2 L c2] 32)).alloc (.cells #[.int .i64 0, .bool false, .slice none 0 0] 32)) (w.heap.size + 1 + 1 + 1) [.int .i64 0, .bool false, .slice none 0 0] 32 := by
    have h := Blk.new (((w.alloc (.cells #[.int .i64 x.n, .int .u32 x.p, .int .i64 x.r, .slice pc nc ccv, .int .u32 x.sp, .int .i64 x.wt, .int .u32 x.er] 25)).alloc (.cells #[.int .i64 L, .bool false, .slice b1 L c1] 32)).alloc (.cells #[.int .i64 L, .bool false, .slice b2 L c2] 32)) #[.int .i64 0, .bool false, .slice none 0 0] 32
    simpa using h
  have HCV := Lib.hid hcv; have HX := Lib.hid hx; have HXO := Lib.hid hxo; have HBW := Lib.hid hbW; have HR := Lib.hid hR; have HN := Lib.hid hN
  clear hcv hx hxo hbW hR hN
  unfold Par.val elVal
  go_enter Tryz.func63, Tryz.ntmps63
  go_wp2_with fail
  refine (rsub9_any x L N _ _ _ ra rb _ HX.out HXO.out HN.out (HCV.out.below HBW.out) hL1 hL (HSA.out.below HBW.out) HRA.out (HSB.out.below HBW.out) HRB.out).mono ?_
  rintro e w2 ⟨v, rfl, hv, hb2⟩
  obtain ⟨pd, cd, rfl⟩ : ∃ p c, v = .slice p L c := by obtain ⟨p, c, e⟩ := hv.val; exact ⟨p, c, by rw [elRows_len] at e; exact e⟩
  unfold elVal at *
  have HE := Lib.hid (ElT.late (L := L) hb2 hv)
  have HR2 := Lib.hid (HR.out.below HE.out.bel HR.out.lt)
  have HBW2 := Lib.hid (HBW.out.trans (HE.out.bel.mono HBW.out.size))
  obtain ⟨WA, hWA⟩ : ∃ WA, w2.alloc (.cells #[.int .i64 L, .bool false, .slice pd L cd] 32) = WA := ⟨_, rfl⟩
  rw [hWA] at HE HR2 HBW2
  have d0 := HE.out.db.cell 0 (by simp); have d1 := HE.out.db.cell 1 (by simp); have d2 := HE.out.db.cell 2 (by simp)
  have r0 := HR2.out.cell 0 (by simp); have r1 := HR2.out.cell 1 (by simp); have r2 := HR2.out.cell 2 (by simp)
  have s0 := HR2.out.free 0; have s1 := HR2.out.free 1; have s2 := HR2.out.free 2
  have HF := Lib.hid (ownr_set3 (.int .i64 L) (.bool false) (.slice pd L cd) (HE.out.own.mono HBW.out.size) HR2.out)
  clear hv hb2
  go_wp2_with fail
  clear hWA
  obtain ⟨f1, f0, f2⟩ := HF.out
  have q0 := f0.cell 0 (by simp); have q1 := f0.cell 1 (by simp); have q2 := f0.cell 2 (by simp)
  refine bodyPost_ret (v := .agg #[.int .i64 L, .bool false, .slice pd L cd]) (by simp [results, Tryz.results63, go_sem, q0, q1, q2]) rfl ?_
  exact ⟨_, rfl, f1, below_gr HBW2.out f2 HBW2.out.size (by omega)⟩

set_option maxHeartbeats 4000000 in
set_option maxRecDepth 100000 in
theorem wmul_any (x : Par) (L N : Nat) (cv av bv : Value) (ra rb : List (List Nat)) (w : World) (hx : Good x) (hxo : ParOk x) (hN : x.n = N) (hcv : SliceAt w cv x.ch) (hL1 : 1 ≤ L) (hL : L ≤ x.ch.length)
    (hra : SliceR w av ra) (hRA : ResR x L N ra) (hrb : SliceR w bv rb) (hRB : ResR x L N rb) :
    Calls Tryz.prog 17 #[x.val cv, elVal L false av, elVal L false bv] w fun e w' => ∃ v, e = .returned (elVal L false v) ∧ OwnR w.heap.size w' v (elRows L N (fun i => mulF (x.ch.getD i 0) N (ra.getD i []) (rb.getD i []))) ∧ Below w.heap.size w w' := by
  obtain ⟨pc, nc, ccv, rfl⟩ : ∃ pa na ca, cv = .slice pa na ca := by obtain ⟨p, c, e, _⟩ := hcv; exact ⟨p, _, c, e⟩
  have HSA := Lib.hid hra; have HSB := Lib.hid hrb; have HRA := Lib.hid hRA; have HRB := Lib.hid hRB
  obtain ⟨b1, c1, rfl⟩ : ∃ p c, av = .slice p L c := by obtain ⟨p, c, e, _⟩ := hra; exact ⟨p, c, by rw [hRA.1] at e; exact e⟩
  obtain ⟨b2, c2, rfl⟩ : ∃ p c, bv = .slice p L c := by obtain ⟨p, c, e, _⟩ := hrb; exact ⟨p, c, by rw [hRB.1] at e; exact e⟩
  clear hra hrb hRA hRB
  have hbW : Below w.heap.size w ((((w.alloc (.cells #[.int .i64 x.n, .int .u32 x.p, .int .i64 x.r, .slice pc nc ccv, .int .u32 x.sp, .int .i64 x.wt, .int .u32 x.er] 25)).alloc (.cells #[.int .i64 L, .bool false, .slice b1 L c1] 32)).alloc (.cells #[.int .i64 L, .bool false, .slice b2 L c2] 32)).alloc (.cells #[.int .i64 0, .bool false, .slice none 0 0] 32)) := ((((Below.refl _ _).alloc (Nat.le_refl _) _).alloc (by simp) _).alloc (by simp; omega) _).alloc (by simp; omega) _
  have hR : Blk ((((w.alloc (.cells #[.int .i64 x.n, .int .u32 x.p, .int .i64 x.r, .slice pc nc ccv, .int .u32 x.sp, .int .i64 x.wt, .int .u32 x.er] 25)).alloc (.cells #[.int .i64 L, .bool false, .slice b1 L c1] 32)).alloc (.cells #[.int .i64 L, .bool false, .slice b2 L c2] 32)).alloc (.cells #[.int .i64 0, .bool false, .slice none 0 0] 32)) (w.heap.size + 1 + 1 + 1) [.int .i64 0, .bool false, .slice none 0 0] 32 := by
    have h := Blk.new (((w.alloc (.cells #[.int .i64 x.n, .int .u32 x.p, .int .i64 x.r, .slice pc nc ccv, .int .u32 x.sp, .int .i64 x.wt, .int .u32 x.er] 25)).alloc (.cells #[.int .i64 L, .bool false, .slice b1 L c1] 32)).alloc (.cells #[.int .i64 L, .bool false, .slice b2 L c2] 32)) #[.int .i64 0, .bool false, .slice none 0 0] 32
    simpa using h
  have HCV := Lib.hid hcv; have HX := Lib.hid hx; have HXO := Lib.hid hxo; have HBW := Lib.hid hbW; have HR := Lib.hid hR; have HN := Lib.hid hN
  clear hcv hx hxo hbW hR hN
  unfold Par.val elVal
  go_enter Tryz.func17, Tryz.ntmps17
  go_wp2_with fail
  refine (rmul9_any x L N _ _ _ ra rb _ HX.out HXO.out HN.out (HCV.out.below HBW.out) hL1 hL (HSA.out.below HBW.out) HRA.out (HSB.out.below HBW.out) HRB.out).mono ?_
  rintro e w2 ⟨v, rfl, hv, hb2⟩
  obtain ⟨pd, cd, rfl⟩ : ∃ p c, v = .slice p L c := by obtain ⟨p, c, e⟩ := hv.val; exact ⟨p, c, by rw [elRows_len] at e; exact e⟩
  unfold elVal at *
  have HE := Lib.hid (ElT.late (L := L) hb2 hv)
  have HR2 := Lib.hid (HR.out.below HE.out.bel HR.out.lt)
  have HBW2 := Lib.hid (HBW.out.trans (HE.out.bel.mono HBW.out.size))
  obtain ⟨WA, hWA⟩ : ∃ WA, w2.alloc (.cells #[.int .i64 L, .bool false, .slice pd L cd] 32) = WA := ⟨_, rfl⟩
  rw [hWA] at HE HR2 HBW2
  have d0 := HE.out.db.cell 0 (by simp); have d1 := HE.out.db.cell 1 (by simp); have d2 := HE.out.db.cell 2 (by simp)
  have r0 := HR2.out.cell 0 (by simp); have r1 := HR2.out.cell 1 (by simp); have r2 := HR2.out.cell 2 (by simp)
  have s0 := HR2.out.free 0; have s1 := HR2.out.free 1; have s2 := HR2.out.free 2
  have HF := Lib.hid (ownr_set3 (.int .i64 L) (.bool false) (.slice pd L cd) (HE.out.own.mono HBW.out.size) HR2.out)
  clear hv hb2
  go_wp2_with fail
  clear hWA
  obtain ⟨f1, f0, f2⟩ := HF.out
  have q0 := f0.cell 0 (by simp); have q1 := f0.cell 1 (by simp); have q2 := f0.cell 2 (by simp)
  refine bodyPost_ret (v := .agg #[.int .i64 L, .bool false, .slice pd L cd]) (by simp [results, Tryz.results17, go_sem, q0, q1, q2]) rfl ?_
  exact ⟨_, rfl, f1, below_gr HBW2.out f2 HBW2.out.size (by omega)⟩
end Go.Proofs.YtjpcljnojipdnaaGreat

/-! The reference: Plain, Uniform of keys. (Printed by gen_PubP.py.) -/
namespace Go.Proofs.YtjpcljnojipdnaaGreat
open Go.RowKit Go.Shelf
set_option linter.unusedVariables false

theorem plain_pow {pr : Nat → Bool} {x : Par} (h : okB pr x = true) : ∃ R : Nat, x.r = R ∧ modVal pr x x.r = x.p ^ R ∧ x.p ^ R ≤ 2147483647 ∧ 3 ≤ x.p := by
  have ho := h
  unfold okB at h
  simp only [Bool.and_eq_true] at h
  have h3 := h.2.1
  rw [decide_eq_true_eq] at h3
  unfold Par.t at h3
  have hc : 3 ≤ x.p ∧ x.p < 65536 ∧ pr x.p = true ∧ x.p % (2 * x.n).toNat = 1 ∧ 1 ≤ x.r := by
    refine Classical.byContradiction fun hh => ?_
    rw [powv_no hh] at h3; omega
  have hR : x.r = (x.r.toNat : Int) := by omega
  have hb : x.p ^ x.r.toNat ≤ 2147483647 := by
    refine Classical.byContradiction fun hh => ?_
    rw [powv_big (k := x.r.toNat) hc.1 (by omega) (by omega)] at h3; omega
  have hm : modB pr x x.r = true := by unfold modB; rw [ho]; simp; omega
  exact ⟨x.r.toNat, hR, by rw [(mod_yes hm).2, powv_yes hc hR.symm hb], hb, hc.1⟩

set_option maxHeartbeats 2000000 in
theorem plain13_any (x : Par) (cv : Value) (w : World) (hok : okB rPrime x = true) (hcv : SliceAt w cv x.ch) :
    Calls Tryz.prog 9 #[x.val cv, .int .i64 x.r] w fun e w' => e = .returned (.int .i64 (modVal rPrime x x.r : Nat)) ∧ Below w.heap.size w w' := by
  obtain ⟨pc, nc, ccv, rfl⟩ : ∃ pa na ca, cv = .slice pa na ca := by obtain ⟨p, c, e, _⟩ := hcv; exact ⟨p, _, c, e⟩
  obtain ⟨R, hR, hv, hb, hp⟩ := plain_pow hok
  have hRb : R < 2147483648 := by have := Nat.lt_pow_self (n := R) (show 1 < x.p by omega); omega
  rw [hv, hR]
  have hy : (w.alloc (.cells #[.int .i64 x.n, .int .u32 x.p, .int .i64 (R : Nat), .slice pc nc ccv, .int .u32 x.sp, .int .i64 x.wt, .int .u32 x.er] 25)).cell? ⟨w.heap.size, 1, none⟩ = some (.int .u32 x.p) := by simp [go_sem]
  have hbl : Below w.heap.size w (w.alloc (.cells #[.int .i64 x.n, .int .u32 x.p, .int .i64 (R : Nat), .slice pc nc ccv, .int .u32 x.sp, .int .i64 x.wt, .int .u32 x.er] 25)) := (Below.refl _ _).alloc (Nat.le_refl _) _
  have HBL := Lib.hid hbl; have HB := Lib.hid hb; have HY := Lib.hid hy
  clear hok hcv hv hbl hb hy
  unfold Par.val
  rw [hR]
  clear hR
  go_enter Tryz.func9, Tryz.ntmps9
  go_wp2_with fail
  generalize (w.alloc (.cells #[.int .i64 x.n, .int .u32 x.p, .int .i64 (R : Nat), .slice pc nc ccv, .int .u32 x.sp, .int .i64 x.wt, .int .u32 x.er] 25)) = W1 at HBL HY ⊢
  go_loopw [5, 6] (fun vt vi wr => ∃ k : Nat, vt = .int .i64 ((x.p ^ k : Nat)) ∧ vi = .int .i64 k ∧ k ≤ R ∧ Hid (Below (w.heap.size + 1) W1 wr)) (fun _ vi _ => R - (intOf vi).toNat)
  case atStart => exact ⟨0, by simp, rfl, by omega, Below.refl _ _⟩
  case round =>
    obtain ⟨k, rfl, rfl, hk, hw⟩ := hrel
    by_cases hlt : k < R
    · have y1 := (below_at hw.out (show w.heap.size < w.heap.size + 1 by omega)).trans HY.out
      have k1 : (k : Int) < (R : Int) := by omega
      have hb1 : x.p ^ (k + 1) ≤ 2147483647 := Nat.le_trans (Nat.pow_le_pow_right (by omega) (by omega)) HB.out
      have hpp : x.p ≤ x.p ^ (k + 1) := by
        rw [Nat.pow_succ]
        exact Nat.le_mul_of_pos_left _ (Nat.pow_pos (by omega))
      have HST : Hid (((x.p ^ (k + 1) : Nat) : Int) = ((x.p ^ k : Nat) : Int) * (x.p : Int)) := by show _ = _; rw [Nat.pow_succ, Int.natCast_mul]
      have hb1I : ((x.p ^ (k + 1) : Nat) : Int) ≤ 2147483647 := by omega
      have hb0I : (0 : Int) ≤ ((x.p ^ (k + 1) : Nat) : Int) := by omega
      rw [HST.out] at hb1I hb0I
      generalize x.p ^ k = t at HST hb1I hb0I ⊢
      have e1 : IntKind.i64.wrap (x.p : Int) = (x.p : Int) := by rw [IntKind.wrap_i64]; omega
      have e2 : IntKind.i64.wrap ((t : Int) * (x.p : Int)) = (t : Int) * (x.p : Int) := by rw [IntKind.wrap_i64]; omega
      clear hb1 hpp
      go_wp2_with fail
      go_roundw
      case rel => exact ⟨k + 1, by rw [HST.out], by go_num, by omega, hw⟩
      case measure => simp [intOf]; omega
    · obtain rfl : k = R := by omega
      have k1 : ¬ ((k : Int) < (k : Int)) := by omega
      go_wp2_with fail
      go_ret
      exact ⟨rfl, HBL.out.trans (hw.out.mono (by omega))⟩

/-- What Uniform holds. -/
structure NuB (w W : World) (x : Par) (cv : Value) (s : ByteArray) (g b o bm om : Nat) (v : Value) : Prop where
  sup : SupR W g s b
  pos : b ≤ 8 * s.size
  bx : BoxP W w.heap.size x cv
  res : Blk W (w.heap.size + 1) [.int .i64 0, .bool false, .slice none 0 0] 32
  el : Blk W o [.int .i64 x.ch.length, .bool false, v] 32
  md : RowAt W bm om x.ch
  gr : w.grownBy W (some g)
  gw : g < w.heap.size
  wo : w.heap.size + 2 ≤ o
  mo : bm < o
  mw : w.heap.size ≤ bm
theorem NuB.low {w W W' : World} {x : Par} {cv v : Value} {s : ByteArray} {g b o bm om : Nat} (h : NuB w W x cv s g b o bm om v) (hb : Below (o + 1) W W') : NuB w W' x cv s g b o bm om v := by
  have h1 := h.wo; have h2 := h.gw; have h3 := h.mo
  refine ⟨h.sup.same (hb.block g (by omega)), h.pos, h.bx.below hb (by omega), h.res.below hb (by omega), h.el.below hb (by omega), h.md.below hb (by omega), ?_, h2, h1, h3, h.mw⟩
  exact ⟨hb.os.trans h.gr.os, hb.tape.trans h.gr.tape, hb.output.trans h.gr.output, Nat.le_trans h.gr.size hb.size, fun k hk hne => (hb.block k (by omega)).trans (h.gr.block k hk hne)⟩
theorem NuB.lt {w W : World} {x : Par} {cv v : Value} {s : ByteArray} {g b o bm om : Nat} (h : NuB w W x cv s g b o bm om v) : o < W.heap.size := h.el.lt
theorem NuB.store {w W : World} {x : Par} {cv v : Value} {s : ByteArray} {g b o bm om : Nat} (h : NuB w W x cv s g b o bm om v) (v' : Value) : NuB w (W.setCell ⟨o, 2, none⟩ v') x cv s g b o bm om v' := by
  have h1 := h.wo; have h2 := h.gw; have h3 := h.mo
  have hs : ∀ k, k ≠ o → (W.setCell ⟨o, 2, none⟩ v').heap[k]? = W.heap[k]? := fun k hk => Below.heap_setCell W ⟨o, 2, none⟩ v' k hk
  have hb : Below o W (W.setCell ⟨o, 2, none⟩ v') := ⟨rfl, rfl, rfl, by simp, fun k hk => hs k (by omega)⟩
  refine ⟨h.sup.same (hs g (by omega)), h.pos, h.bx.below hb (by omega), h.res.below hb (by omega), h.el.set 2 v', h.md.below hb h3, ?_, h2, h1, h3, h.mw⟩
  exact ⟨hb.os.trans h.gr.os, hb.tape.trans h.gr.tape, hb.output.trans h.gr.output, Nat.le_trans h.gr.size hb.size, fun k hk hne => (hb.block k (by omega)).trans (h.gr.block k hk hne)⟩
theorem NuB.grow {w W W' : World} {x : Par} {cv v : Value} {s : ByteArray} {g b b' o bm om : Nat} (h : NuB w W x cv s g b o bm om v) (hg : W.grownBy W' (some g)) (hs : SupR W' g s b') (hp : b' ≤ 8 * s.size) : NuB w W' x cv s g b' o bm om v := by
  have h1 := h.wo; have h2 := h.gw; have h3 := h.mo; have h4 := h.lt; have h5 := h.mw
  have hc : ∀ k i, k < W.heap.size → k ≠ g → W'.cell? ⟨k, i, none⟩ = W.cell? ⟨k, i, none⟩ := fun k i hk hne => gr_cell hg hk hne
  obtain ⟨a0, a1, a2, a3, a4, a5, a6⟩ := h.bx
  refine ⟨hs, hp, ⟨(hc _ _ (by omega) (by omega)).trans a0, (hc _ _ (by omega) (by omega)).trans a1, (hc _ _ (by omega) (by omega)).trans a2, (hc _ _ (by omega) (by omega)).trans a3, (hc _ _ (by omega) (by omega)).trans a4, (hc _ _ (by omega) (by omega)).trans a5, (hc _ _ (by omega) (by omega)).trans a6⟩, h.res.gr hg (by omega), h.el.gr hg (by omega), h.md.same (hg.block bm (by omega) (by intro e; injection e with e; omega)), gr_trans h.gr hg, h2, h1, h3, h5⟩
/-- What Uniform answers. -/
def UniR (w w' : World) (g : Nat) (s : ByteArray) (x : Par) (N a : Nat) (e : Ending) : Prop :=
  ∃ ok rows b, rowsGo s N x.ch a x.ch.length = (ok, rows, b) ∧ SupR w' g s b ∧ b ≤ 8 * s.size ∧ w.grownBy w' (some g) ∧
    ((ok = true ∧ ∃ v, e = .returned (.tuple #[elVal x.ch.length false v, .int .i64 0]) ∧ OwnR w.heap.size w' v rows) ∨ (ok = false ∧ e = .returned (.tuple #[elVal 0 false (.slice none 0 0), .int .i64 4])))
theorem res3 {w W : World} {x : Par} {cv v : Value} {s : ByteArray} {g b o bm om : Nat} (h : NuB w W x cv s g b o bm om v) (u0 u1 u2 : Value) :
    Blk (((W.setCell ⟨w.heap.size + 1, 0, none⟩ u0).setCell ⟨w.heap.size + 1, 1, none⟩ u1).setCell ⟨w.heap.size + 1, 2, none⟩ u2) (w.heap.size + 1) [u0, u1, u2] 32
    ∧ SupR (((W.setCell ⟨w.heap.size + 1, 0, none⟩ u0).setCell ⟨w.heap.size + 1, 1, none⟩ u1).setCell ⟨w.heap.size + 1, 2, none⟩ u2) g s b
    ∧ w.grownBy (((W.setCell ⟨w.heap.size + 1, 0, none⟩ u0).setCell ⟨w.heap.size + 1, 1, none⟩ u1).setCell ⟨w.heap.size + 1, 2, none⟩ u2) (some g)
    ∧ W.grownBy (((W.setCell ⟨w.heap.size + 1, 0, none⟩ u0).setCell ⟨w.heap.size + 1, 1, none⟩ u1).setCell ⟨w.heap.size + 1, 2, none⟩ u2) (some (w.heap.size + 1)) := by
  have h2 : W.grownBy (((W.setCell ⟨w.heap.size + 1, 0, none⟩ u0).setCell ⟨w.heap.size + 1, 1, none⟩ u1).setCell ⟨w.heap.size + 1, 2, none⟩ u2) (some (w.heap.size + 1)) := gr_set (gr_set (gr_set (gr_refl _ _) 0 u0) 1 u1) 2 u2
  have hw := h.gw; have hl := h.lt; have ho := h.wo
  refine ⟨((h.res.set 0 u0).set 1 u1).set 2 u2, h.sup.same (h2.block g (by omega) (by intro e; injection e with e; omega)), ?_, h2⟩
  exact ⟨h2.os.trans h.gr.os, h2.tape.trans h.gr.tape, h2.output.trans h.gr.output, Nat.le_trans h.gr.size h2.size, fun k hk hne => (h2.block k (by omega) (by intro e; injection e with e; omega)).trans (h.gr.block k hk hne)⟩

set_option maxHeartbeats 8000000 in
set_option maxRecDepth 100000 in
theorem runi13_any (x : Par) (cv : Value) (s : ByteArray) (g a N : Nat) (w : World) (hx : Good x) (hN : x.n = N) (hcv : SliceAt w cv x.ch) (hsup : SupR w g s a) (ha : a ≤ 8 * s.size) (hs : s.size ≤ 1048576) :
    Calls Tryz.prog 60 #[x.val cv, .int .i64 x.ch.length, .bool false, .pointer (some ⟨g, 0, none⟩)] w fun e w' => UniR w w' g s x N a e := by
  have hgw : g < w.heap.size := World.block_lt_of_cell? w ⟨g, 0, none⟩ hsup.c0
  have hdm := isDim_cases hx.dim
  have hN1 : 1 ≤ N := by omega
  have hN32 : N ≤ 32 := by omega
  have hl1 := hx.l1; have hl2 := hx.l2
  obtain ⟨b0, off, ccv, rfl, hrow⟩ := sliceAt_row hcv rfl hl1
  have hcc : x.ch.length ≤ ccv := by obtain ⟨p, c, e, h, _⟩ := hcv; injection e with _ _ e3; omega
  obtain ⟨i0, hi0, hz0, hz1, hz2⟩ := info_partsE infoRow
  obtain ⟨j0, hj0, hy0, hy1, hy2⟩ := info_parts infoU32
  have hbW : Below w.heap.size w (((w.alloc (.cells #[.int .i64 x.n, .int .u32 x.p, .int .i64 x.r, .slice (some ⟨b0, off, none⟩) x.ch.length ccv, .int .u32 x.sp, .int .i64 x.wt, .int .u32 x.er] 25)).alloc (.cells #[.int .i64 0, .bool false, .slice none 0 0] 32)).alloc (.cells #[] 22)) := (((Below.refl _ _).alloc (Nat.le_refl _) _).alloc (by simp) _).alloc (by simp; omega) _
  have hB : BoxP (((w.alloc (.cells #[.int .i64 x.n, .int .u32 x.p, .int .i64 x.r, .slice (some ⟨b0, off, none⟩) x.ch.length ccv, .int .u32 x.sp, .int .i64 x.wt, .int .u32 x.er] 25)).alloc (.cells #[.int .i64 0, .bool false, .slice none 0 0] 32)).alloc (.cells #[] 22)) w.heap.size x (.slice (some ⟨b0, off, none⟩) x.ch.length ccv) := by constructor <;> simp [go_sem]
  have hR : Blk (((w.alloc (.cells #[.int .i64 x.n, .int .u32 x.p, .int .i64 x.r, .slice (some ⟨b0, off, none⟩) x.ch.length ccv, .int .u32 x.sp, .int .i64 x.wt, .int .u32 x.er] 25)).alloc (.cells #[.int .i64 0, .bool false, .slice none 0 0] 32)).alloc (.cells #[] 22)) (w.heap.size + 1) [.int .i64 0, .bool false, .slice none 0 0] 32 := by
    have h := (Blk.new (w.alloc (.cells #[.int .i64 x.n, .int .u32 x.p, .int .i64 x.r, .slice (some ⟨b0, off, none⟩) x.ch.length ccv, .int .u32 x.sp, .int .i64 x.wt, .int .u32 x.er] 25)) #[.int .i64 0, .bool false, .slice none 0 0] 32).alloc (.cells #[] 22)
    simpa using h
  have hS : (((w.alloc (.cells #[.int .i64 x.n, .int .u32 x.p, .int .i64 x.r, .slice (some ⟨b0, off, none⟩) x.ch.length ccv, .int .u32 x.sp, .int .i64 x.wt, .int .u32 x.er] 25)).alloc (.cells #[.int .i64 0, .bool false, .slice none 0 0] 32)).alloc (.cells #[] 22)).heap.size = w.heap.size + 3 := by simp
  have HROW := Lib.hid hrow; have HX := Lib.hid hx; have HBW := Lib.hid hbW; have HB := Lib.hid hB; have HR := Lib.hid hR; have HN := Lib.hid hN; have HS := Lib.hid hS; have HSU := Lib.hid hsup
  have hR3 := Lib.hid (HROW.out.below HBW.out HROW.out.blk)
  clear hcv hrow hx hbW hB hR hS hdm hsup hN
  unfold Par.val
  go_enter Tryz.func60, Tryz.ntmps60
  go_wp2_with (at_builtin; refine wpList_append_own _ rfl _ _ 23 rfl (w.heap.size + 1 + 1) 22 j0 (.int .u32 0) 1 4 Tryz.underlying23 hj0 hy0 hy1 hy2 rfl (by decide) (.slice (some ⟨w.heap.size + 1 + 1, 0, none⟩) 0 0) 0 [] rfl (owns_new _ _ _ _ (Nat.le_refl _) (by simp)) ⟨b0, off, none⟩ x.ch.length ccv (u32s x.ch) rfl ?c1 (row_cells hR3.out) (u32s_one _) ?c4 ?c5 ?c6 ?_)
  case c1 => unfold u32s; rw [List.length_map, Nat.mul_one]
  case c4 => unfold maxLen; omega
  case c5 => omega
  case c6 => simp
  intro v' w1 hown hgrow _
  have hb1 : Below (w.heap.size + 1 + 1) (((w.alloc (.cells #[.int .i64 x.n, .int .u32 x.p, .int .i64 x.r, .slice (some ⟨b0, off, none⟩) x.ch.length ccv, .int .u32 x.sp, .int .i64 x.wt, .int .u32 x.er] 25)).alloc (.cells #[.int .i64 0, .bool false, .slice none 0 0] 32)).alloc (.cells #[] 22)) w1 := (Below.refl _ _).grown hgrow (by simp) (by intro q hq; simp [Value.ownBlock] at hq; omega)
  have hms : SliceAt w1 v' x.ch := SliceAt.ofOwns (n := 0 + x.ch.length) (by simpa [u32s] using hown) (by omega) (fun q hq => by have := (HX.out.ch q hq).2.1; omega)
  obtain ⟨bm, om, cm, rfl, hrm⟩ := sliceAt_row hms rfl hl1
  have hmw : w.heap.size + 2 ≤ bm := by have := own_ge hown bm rfl; omega
  have HB1 := Lib.hid (HB.out.below hb1 (by omega)); have HR1 := Lib.hid (HR.out.below hb1 (by omega)); have HBW1 := Lib.hid (HBW.out.trans (hb1.mono (by omega)))
  have hs1 : w.heap.size + 3 ≤ w1.heap.size := by have := hb1.size; rw [HS.out] at this; exact this
  have HNP : Hid (NuB w (w1.alloc (.cells #[.int .i64 x.ch.length, .bool false, .slice none 0 0] 32)) x (.slice (some ⟨b0, off, none⟩) x.ch.length ccv) s g a w1.heap.size bm om (.slice none 0 0)) := by
    have h : Below w1.heap.size w1 (w1.alloc (.cells #[.int .i64 x.ch.length, .bool false, .slice none 0 0] 32)) := (Below.refl _ _).alloc (Nat.le_refl _) _
    have h2 := HBW1.out.trans (h.mono (by omega))
    exact ⟨supr_below HSU.out h2, ha, HB1.out.below h (by omega), HR1.out.below h HR1.out.lt, Blk.new _ _ _, hrm.below h hrm.blk, ⟨h2.os, h2.tape, h2.output, h2.size, fun k hk _ => h2.block k hk⟩, hgw, by omega, hrm.blk, by omega⟩
  clear hown hgrow hb1 hms hrm HB HR HBW HS HSU hR3 HB1 HR1 HBW1 HROW
  go_wp2_with fail
  generalize (w1.alloc (.cells #[.int .i64 x.ch.length, .bool false, .slice none 0 0] 32)) = W1 at HNP ⊢
  generalize w1.heap.size = o at HNP ⊢
  clear hs1
  go_loopw [12, 13, 14] (fun vi _ _ wr => ∃ (k b : Nat) (rows : List (List Nat)) (v : Value), vi = .int .i64 k ∧ k ≤ x.ch.length ∧ Hid (rowsGo s N x.ch a k = (true, rows, b)) ∧ Hid (NuB w wr x (.slice (some ⟨b0, off, none⟩) x.ch.length ccv) s g b o bm om v) ∧ Hid (OwnR (o + 1) wr v rows)) (fun vi _ _ _ => x.ch.length - (intOf vi).toNat)
  case atStart => exact ⟨0, a, [], .slice none 0 0, rfl, by omega, rfl, HNP, OwnR.nil _ _⟩
  case round =>
    obtain ⟨k, b, rows, v, rfl, hk, hgo, hnp, hown⟩ := hrel
    clear HNP
    have hgw' := hnp.out.gw; have hwo := hnp.out.wo; have hmo := hnp.out.mo; have hmw' := hnp.out.mw
    have hlo : o < wr.heap.size := hnp.out.lt
    by_cases hlt : k < x.ch.length
    · have cel := hnp.out.md.cell k hlt
      have y0 := hnp.out.bx.n
      rw [HN.out] at y0
      have hqq : x.ch.getD k 0 = x.ch[k] := getD_at _ 0 hlt
      have hqb := ch_at HX.out hlt
      have k0 : (0 : Int) ≤ (k : Int) := by omega
      have k1 : (k : Int) < (x.ch.length : Int) := by omega
      rw [hqq] at hqb
      have HQ := Lib.hid hqq
      clear hqq
      generalize x.ch[k] = q at cel hqb HQ
      have HSD : Hid (SupR wr.drew g s b) := hnp.out.sup.same rfl
      go_wp2_with fail
      go_region_held3 (fun w' => w'.cell? ⟨w.heap.size, 0, none⟩ = some (.int .i64 N) ∧ w'.cell? ⟨bm, om + k, none⟩ = some (.int .u32 q)) (go_keep)
        (first | (go_at_call 106; refine (runi_any s g N q b _ HSD.out (by omega) (by omega) (by omega) hnp.out.pos hs).mono ?_; rintro e w2 ⟨rv, rfl, hv2, hs2, hp2, hg2⟩; have hg3 : wr.grownBy w2 (some g) := ⟨hg2.os, hg2.tape, hg2.output, hg2.size, hg2.block⟩; have k20 := (gr_cell hg3 (k := w.heap.size) (i := 0) (by omega) (by omega)).trans y0; have k21 := (gr_cell hg3 (k := bm) (i := om + k) (by omega) (by omega)).trans cel; have HV2 := Lib.hid hv2; have HS2 := Lib.hid hs2; have HP2 := Lib.hid hp2; have HG2 := Lib.hid hg3; clear hv2 hs2 hp2 hg2 hg3))
      cases hz : numGo s q b N with
      | none =>
        have hs2 := HS2.out; have hp2 := HP2.out
        rw [numOut_none hz] at hs2 hp2
        rw [numOut_none hz]
        have HNP2 := Lib.hid (hnp.out.grow HG2.out hs2 hp2)
        have HO : Hid (rowsGo s N x.ch a x.ch.length = (false, rows, b)) := rowsGo_false (k + 1) _ _ (by omega) (rowsGo_stop hgo.out (by rw [HQ.out]; exact hz))
        have r0 := HNP2.out.res.cell 0 (by simp); have r1 := HNP2.out.res.cell 1 (by simp); have r2 := HNP2.out.res.cell 2 (by simp)
        have s0 := HNP2.out.res.free 0; have s1 := HNP2.out.res.free 1; have s2 := HNP2.out.res.free 2
        clear hs2 hp2 hz cel y0 hown k20 k21 HV2 HS2 HP2 HG2 HSD
        go_wp2_with fail
        obtain ⟨f1, f2, f3, f4⟩ := res3 HNP2.out (.int .i64 0) (.bool false) (.slice none 0 0)
        have q0 := f1.cell 0 (by simp); have q1 := f1.cell 1 (by simp); have q2 := f1.cell 2 (by simp)
        refine bodyPost_ret (v := .tuple #[.agg #[.int .i64 0, .bool false, .slice none 0 0], .int .i64 4]) (by simp [results, Tryz.results60, go_sem, q0, q1, q2]) rfl ?_
        exact ⟨false, rows, b, HO.out, f2, HNP2.out.pos, f3, .inr ⟨rfl, rfl⟩⟩
      | some r =>
        obtain ⟨z, c⟩ := r
        have hs2 := HS2.out; have hp2 := HP2.out; have hv2 := HV2.out
        rw [numOut_some hz] at hs2 hp2 hv2
        rw [numOut_some hz]
        have HNP2 := Lib.hid (hnp.out.grow HG2.out hs2 hp2)
        have hown2 := hown.out.grow HG2.out (by omega)
        have HRV := Lib.hid (own_mono hv2 (show o + 1 ≤ wr.drew.heap.size from hnp.out.lt))
        obtain ⟨pr, cr, rfl⟩ := own_slice hv2
        obtain ⟨vs, h1, h2⟩ := hown2
        obtain ⟨pv, cvv, rfl⟩ := own_slice h1
        have hrl : rows.length ≤ 24 := by have := (rowsGo_ok ha _ _ _ hgo.out).1; omega
        have c2 := HNP2.out.el.cell 2 (by simp)
        have hlo2 : o + 1 ≤ w2.heap.size := HNP2.out.lt
        have HGO2 : Hid (rowsGo s N x.ch a (k + 1) = (true, rows ++ [z], c)) := rowsGo_succ hgo.out (by rw [HQ.out]; exact hz)
        have H1 := Lib.hid h1; have H2 := Lib.hid h2
        clear hs2 hp2 hv2 hz cel y0 hown h1 h2 k20 k21 HV2 HS2 HP2 HG2 HSD
        go_wp2_with (at_builtin; (refine wpList_append_own _ rfl _ _ 30 rfl (o + 1) 23 i0 (.slice none 0 0) 1 24 Tryz.underlying30 hi0 hz0 hz1 hz2 rfl (by decide) _ _ _ rfl (H1.out.alloc _) ⟨w2.heap.size, 0, none⟩ 1 1 [.slice pr z.length cr] rfl rfl (cell_one_new _ _ _) (by simp [Value.oneCell']) (by unfold maxLen; omega) (by omega) (by simp; omega) ?_); intro v' W3 hown' hgrow _; obtain ⟨g', cap', rfl⟩ := ownsRow_succ hown'; obtain ⟨hO3, hB3⟩ := ownr_app (o := 0) (rv := .slice pr z.length cr) (r := z) (tmp := (.cells #[.slice pr z.length cr] 23)) rfl hlo2 H1.out H2.out HRV.out hgrow hown'; have HO3 := Lib.hid hO3; have HNP3 := Lib.hid (HNP2.out.low hB3); have c4 := HNP3.out.el.cell 2 (by simp); have f4 := HNP3.out.el.free 2; clear hown' hgrow hO3 hB3)
        go_roundw
        case rel => exact ⟨k + 1, c, rows ++ [z], _, by go_num, by omega, HGO2, HNP3.out.store _, HO3.out.low (by omega)⟩
        case measure => simp [intOf]; omega
    · obtain rfl : k = x.ch.length := by omega
      obtain ⟨pv, cvv, hve⟩ := hown.out.val
      subst hve
      have k1 : ¬ ((x.ch.length : Int) < (x.ch.length : Int)) := by omega
      have a0 := hnp.out.el.cell 0 (by simp); have a1 := hnp.out.el.cell 1 (by simp); have a2 := hnp.out.el.cell 2 (by simp)
      have r0 := hnp.out.res.cell 0 (by simp); have r1 := hnp.out.res.cell 1 (by simp); have r2 := hnp.out.res.cell 2 (by simp)
      have s0 := hnp.out.res.free 0; have s1 := hnp.out.res.free 1; have s2 := hnp.out.res.free 2
      go_wp2_with fail
      obtain ⟨f1, f2, f3, f4⟩ := res3 hnp.out (.int .i64 x.ch.length) (.bool false) (.slice pv rows.length cvv)
      have q0 := f1.cell 0 (by simp); have q1 := f1.cell 1 (by simp); have q2 := f1.cell 2 (by simp)
      refine bodyPost_ret (v := .tuple #[.agg #[.int .i64 x.ch.length, .bool false, .slice pv rows.length cvv], .int .i64 0]) (by simp [results, Tryz.results60, go_sem, q0, q1, q2]) rfl ?_
      exact ⟨true, rows, b, hgo.out, f2, hnp.out.pos, f3, .inl ⟨rfl, _, rfl, (hown.out.grow f4 (by omega)).mono (by omega)⟩⟩
end Go.Proofs.YtjpcljnojipdnaaGreat

/-! obscuraref13.NewPublic. (Printed by gen_PubQ.py.) -/
namespace Go.Proofs.YtjpcljnojipdnaaGreat
open Go.RowKit Go.Shelf
set_option linter.unusedVariables false

/-- What NewPublic holds: the supply, its boxes, the element. -/
structure NrB (w0 w W : World) (x : Par) (cv sv : Value) (s : ByteArray) (g b o : Nat) (v : Value) : Prop where
  sup : SupR W g s b
  pos : b ≤ 8 * s.size
  bx : BoxP W w.heap.size x cv
  sec : W.cell? ⟨w.heap.size + 1, 0, none⟩ = some sv
  res : Blk W (w.heap.size + 1 + 1) [.int .i64 0, .bool false, .slice none 0 0, .int .i64 0, .bool false, .slice none 0 0] 34
  el : Blk W o [.int .i64 x.ch.length, .bool false, v] 32
  old : Below w0.heap.size w0 W
  gr : w.grownBy W (some g)
  g0 : w0.heap.size ≤ g
  gw : g < w.heap.size
  wo : w.heap.size + 3 ≤ o
theorem NrB.low {w0 w W W' : World} {x : Par} {cv sv v : Value} {s : ByteArray} {g b o : Nat} (h : NrB w0 w W x cv sv s g b o v) (hb : Below (o + 1) W W') : NrB w0 w W' x cv sv s g b o v := by
  have h1 := h.wo; have h2 := h.gw; have h3 := h.g0
  refine ⟨h.sup.same (hb.block g (by omega)), h.pos, h.bx.below hb (by omega), (below_at hb (by omega)).trans h.sec, h.res.below hb (by omega), h.el.below hb (by omega), h.old.trans (hb.mono (by omega)), ?_, h3, h2, h1⟩
  exact ⟨hb.os.trans h.gr.os, hb.tape.trans h.gr.tape, hb.output.trans h.gr.output, Nat.le_trans h.gr.size hb.size, fun k hk hne => (hb.block k (by omega)).trans (h.gr.block k hk hne)⟩
theorem NrB.lt {w0 w W : World} {x : Par} {cv sv v : Value} {s : ByteArray} {g b o : Nat} (h : NrB w0 w W x cv sv s g b o v) : o < W.heap.size := h.el.lt
theorem NrB.below {w0 w W W' : World} {x : Par} {cv sv v : Value} {s : ByteArray} {g b o : Nat} (h : NrB w0 w W x cv sv s g b o v) (hb : Below W.heap.size W W') : NrB w0 w W' x cv sv s g b o v := h.low (hb.mono h.lt)
theorem NrB.grow {w0 w W W' : World} {x : Par} {cv sv v : Value} {s : ByteArray} {g b b' o : Nat} (h : NrB w0 w W x cv sv s g b o v) (hg : W.grownBy W' (some g)) (hs : SupR W' g s b') (hp : b' ≤ 8 * s.size) : NrB w0 w W' x cv sv s g b' o v := by
  have h1 := h.wo; have h2 := h.gw; have h3 := h.g0; have h4 := h.lt
  have hc : ∀ k i, k < W.heap.size → k ≠ g → W'.cell? ⟨k, i, none⟩ = W.cell? ⟨k, i, none⟩ := fun k i hk hne => gr_cell hg hk hne
  have hB := h.bx
  refine ⟨hs, hp, ?_, (hc _ _ (by omega) (by omega)).trans h.sec, h.res.gr hg (by omega), h.el.gr hg (by omega), ?_, ?_, h3, h2, h1⟩
  · obtain ⟨a0, a1, a2, a3, a4, a5, a6⟩ := hB
    exact ⟨(hc _ _ (by omega) (by omega)).trans a0, (hc _ _ (by omega) (by omega)).trans a1, (hc _ _ (by omega) (by omega)).trans a2, (hc _ _ (by omega) (by omega)).trans a3, (hc _ _ (by omega) (by omega)).trans a4, (hc _ _ (by omega) (by omega)).trans a5, (hc _ _ (by omega) (by omega)).trans a6⟩
  · exact ⟨hg.os.trans h.old.os, hg.tape.trans h.old.tape, hg.output.trans h.old.output, Nat.le_trans h.old.size hg.size, fun k hk => (hg.block k (Nat.lt_of_lt_of_le hk h.old.size) (by intro e; injection e with e; omega)).trans (h.old.block k hk)⟩
  · exact gr_trans h.gr hg
theorem NrB.out {w0 w W : World} {x : Par} {cv sv v : Value} {s : ByteArray} {g b o : Nat} (h : NrB w0 w W x cv sv s g b o v) (u0 u1 u2 u3 u4 u5 : Value) :
    Blk ((((((W.setCell ⟨w.heap.size + 1 + 1, 0, none⟩ u0).setCell ⟨w.heap.size + 1 + 1, 1, none⟩ u1).setCell ⟨w.heap.size + 1 + 1, 2, none⟩ u2).setCell ⟨w.heap.size + 1 + 1, 3, none⟩ u3).setCell ⟨w.heap.size + 1 + 1, 4, none⟩ u4).setCell ⟨w.heap.size + 1 + 1, 5, none⟩ u5) (w.heap.size + 1 + 1) [u0, u1, u2, u3, u4, u5] 34
    ∧ SupR ((((((W.setCell ⟨w.heap.size + 1 + 1, 0, none⟩ u0).setCell ⟨w.heap.size + 1 + 1, 1, none⟩ u1).setCell ⟨w.heap.size + 1 + 1, 2, none⟩ u2).setCell ⟨w.heap.size + 1 + 1, 3, none⟩ u3).setCell ⟨w.heap.size + 1 + 1, 4, none⟩ u4).setCell ⟨w.heap.size + 1 + 1, 5, none⟩ u5) g s b
    ∧ w.grownBy ((((((W.setCell ⟨w.heap.size + 1 + 1, 0, none⟩ u0).setCell ⟨w.heap.size + 1 + 1, 1, none⟩ u1).setCell ⟨w.heap.size + 1 + 1, 2, none⟩ u2).setCell ⟨w.heap.size + 1 + 1, 3, none⟩ u3).setCell ⟨w.heap.size + 1 + 1, 4, none⟩ u4).setCell ⟨w.heap.size + 1 + 1, 5, none⟩ u5) (some g)
    ∧ W.grownBy ((((((W.setCell ⟨w.heap.size + 1 + 1, 0, none⟩ u0).setCell ⟨w.heap.size + 1 + 1, 1, none⟩ u1).setCell ⟨w.heap.size + 1 + 1, 2, none⟩ u2).setCell ⟨w.heap.size + 1 + 1, 3, none⟩ u3).setCell ⟨w.heap.size + 1 + 1, 4, none⟩ u4).setCell ⟨w.heap.size + 1 + 1, 5, none⟩ u5) (some (w.heap.size + 1 + 1)) := by
  obtain ⟨h1, h2⟩ := set6 u0 u1 u2 u3 u4 u5 h.res
  have hw := h.gw; have hl := h.lt; have ho := h.wo
  refine ⟨h1, h.sup.same (h2.block g (by omega) (by intro e; injection e with e; omega)), ?_, h2⟩
  exact ⟨h2.os.trans h.gr.os, h2.tape.trans h.gr.tape, h2.output.trans h.gr.output, Nat.le_trans h.gr.size h2.size, fun k hk hne => (h2.block k (by omega) (by intro e; injection e with e; omega)).trans (h.gr.block k hk hne)⟩


def cenZ (x : Par) (z : List Nat) : List Int := z.map (fun v => ((v : Nat) : Int) - (x.er : Nat))
theorem cen_own {base N : Nat} {W : World} {v : Value} {z : List Nat} {x : Par} (hl : z.length = N) (hN : N ≤ 4096) (hz : ∀ v, v ∈ z → v < 2 * x.er + 1) (her : x.er ≤ 64)
    (h : W.ownsRow base 2 1 v z.length (z.map (fun v => Value.int .i64 (((v : Nat) : Int) - (x.er : Nat))))) : SliceZ .i64 W v (cenZ x z) := by
  refine SliceZ.ofOwns (base := base) (e := 2) (n := z.length) ?_ (by unfold cenZ; rw [List.length_map]; omega) (fun q hq => ?_)
  · unfold cenZ; rw [List.map_map]; exact h
  · unfold cenZ at hq
    obtain ⟨u, hu, rfl⟩ := List.mem_map.1 hq
    have := hz u hu
    simp [Lit.wf, IntKind.min, IntKind.max, IntKind.bits, IntKind.signed]; omega
theorem cen_len (x : Par) (z : List Nat) : (cenZ x z).length = z.length := by unfold cenZ; rw [List.length_map]
theorem pub_rows13 {x : Par} {N t : Nat} {z : List Nat} {l : List Int} {rows : List (List Nat)} (hx : Good x) (hN : x.n = N) (hz : z.length = N) (ht : modVal rPrime x x.r = t) :
    elRows x.ch.length N (fun i => sumF (-1) (x.ch.getD i 0) ((elRows x.ch.length N (fun i => sumF (t : Int) (x.ch.getD i 0) ((elRows x.ch.length N (fun i => intF (List.replicate N 0) (x.ch.getD i 0))).getD i []) ((elRows x.ch.length N (fun i => intF (cenZ x z) (x.ch.getD i 0))).getD i []))).getD i []) ((elRows x.ch.length N (fun i => mulF (x.ch.getD i 0) N (rows.getD i []) ((elRows x.ch.length N (fun i => intF l (x.ch.getD i 0))).getD i []))).getD i []))
    = elRows x.ch.length x.n.toNat (pubRow x (noiseZ rPrime x z) l rows) := by
  rw [hN, Int.toNat_natCast]
  refine elRows_congr fun i hi k hk => ?_
  unfold pubRow
  rw [hN, Int.toNat_natCast, elRows_getD _ hi, elRows_getD _ hi, elRows_getD _ hi, elRows_getD _ hi, elRows_getD _ hi]
  have e : rowOf N (sumF (t : Int) (x.ch.getD i 0) (rowOf N (intF (List.replicate N 0) (x.ch.getD i 0))) (rowOf N (intF (cenZ x z) (x.ch.getD i 0)))) = rowOf N (intF (noiseZ rPrime x z) (x.ch.getD i 0)) := by
    refine rowOf_congr fun j hj => ?_
    rw [sumF_scale _ (ch_pos hx hi) hj]
    unfold intF
    have hjz : j < z.length := by omega
    have e1 : (cenZ x z).getD j 0 = ((z[j] : Nat) : Int) - (x.er : Nat) := by
      rw [List.getD_eq_getElem?_getD]; unfold cenZ; rw [List.getElem?_map, List.getElem?_eq_getElem hjz]; rfl
    have e2 : (noiseZ rPrime x z).getD j 0 = (((z[j] : Nat) : Int) - (x.er : Nat)) * (t : Nat) := by
      rw [List.getD_eq_getElem?_getD]; unfold noiseZ; rw [List.getElem?_map, List.getElem?_eq_getElem hjz, ht]; rfl
    rw [e1, e2]
  rw [e]

set_option maxHeartbeats 16000000 in
set_option maxRecDepth 100000 in
theorem rnewpub_any (x : Par) (cv sv : Value) (l : List Int) (s : ByteArray) (g a : Nat) (w0 w : World) (hxo : ParOk x) (hcv : SliceAt w0 cv x.ch) (hsv : SliceZ .i8 w0 sv l) (hlen : l.length ≤ 140737488351232) (h0 : Below w0.heap.size w0 w) (hg0 : w0.heap.size ≤ g)
    (hsup : SupR w g s a) (ha : a ≤ 8 * s.size) (hs : s.size ≤ 1048576) :
    Calls Tryz.prog 23 #[x.val cv, .agg #[sv], .pointer (some ⟨g, 0, none⟩)] w fun e w' => PubR SupR w w' g s (pubOut rPrime x l s a) e := by
  have hgw : g < w.heap.size := World.block_lt_of_cell? w ⟨g, 0, none⟩ hsup.c0
  obtain ⟨pc, ccv, rfl⟩ : ∃ pa ca, cv = .slice pa x.ch.length ca := by obtain ⟨p, c, e, _⟩ := hcv; exact ⟨p, c, e⟩
  obtain ⟨ps, cs, rfl⟩ : ∃ pa ca, sv = .slice pa l.length ca := by obtain ⟨p, c, e, _⟩ := hsv; exact ⟨p, c, e⟩
  have hbW : Below w.heap.size w (((w.alloc (.cells #[.int .i64 x.n, .int .u32 x.p, .int .i64 x.r, .slice pc x.ch.length ccv, .int .u32 x.sp, .int .i64 x.wt, .int .u32 x.er] 25)).alloc (.cells #[.slice ps l.length cs] 28)).alloc (.cells #[.int .i64 0, .bool false, .slice none 0 0, .int .i64 0, .bool false, .slice none 0 0] 34)) := (((Below.refl _ _).alloc (Nat.le_refl _) _).alloc (by simp) _).alloc (by simp; omega) _
  have hB : BoxP (((w.alloc (.cells #[.int .i64 x.n, .int .u32 x.p, .int .i64 x.r, .slice pc x.ch.length ccv, .int .u32 x.sp, .int .i64 x.wt, .int .u32 x.er] 25)).alloc (.cells #[.slice ps l.length cs] 28)).alloc (.cells #[.int .i64 0, .bool false, .slice none 0 0, .int .i64 0, .bool false, .slice none 0 0] 34)) w.heap.size x (.slice pc x.ch.length ccv) := by constructor <;> simp [go_sem]
  have hS : (((w.alloc (.cells #[.int .i64 x.n, .int .u32 x.p, .int .i64 x.r, .slice pc x.ch.length ccv, .int .u32 x.sp, .int .i64 x.wt, .int .u32 x.er] 25)).alloc (.cells #[.slice ps l.length cs] 28)).alloc (.cells #[.int .i64 0, .bool false, .slice none 0 0, .int .i64 0, .bool false, .slice none 0 0] 34)).cell? ⟨w.heap.size + 1, 0, none⟩ = some (.slice ps l.length cs) := by simp [go_sem]
  have hR : Blk (((w.alloc (.cells #[.int .i64 x.n, .int .u32 x.p, .int .i64 x.r, .slice pc x.ch.length ccv, .int .u32 x.sp, .int .i64 x.wt, .int .u32 x.er] 25)).alloc (.cells #[.slice ps l.length cs] 28)).alloc (.cells #[.int .i64 0, .bool false, .slice none 0 0, .int .i64 0, .bool false, .slice none 0 0] 34)) (w.heap.size + 1 + 1) [.int .i64 0, .bool false, .slice none 0 0, .int .i64 0, .bool false, .slice none 0 0] 34 := by
    have h := Blk.new ((w.alloc (.cells #[.int .i64 x.n, .int .u32 x.p, .int .i64 x.r, .slice pc x.ch.length ccv, .int .u32 x.sp, .int .i64 x.wt, .int .u32 x.er] 25)).alloc (.cells #[.slice ps l.length cs] 28)) #[.int .i64 0, .bool false, .slice none 0 0, .int .i64 0, .bool false, .slice none 0 0] 34
    simpa using h
  have hZ : (((w.alloc (.cells #[.int .i64 x.n, .int .u32 x.p, .int .i64 x.r, .slice pc x.ch.length ccv, .int .u32 x.sp, .int .i64 x.wt, .int .u32 x.er] 25)).alloc (.cells #[.slice ps l.length cs] 28)).alloc (.cells #[.int .i64 0, .bool false, .slice none 0 0, .int .i64 0, .bool false, .slice none 0 0] 34)).heap.size = w.heap.size + 3 := by simp
  have HX := Lib.hid hxo; have HCV := Lib.hid hcv; have HSV := Lib.hid hsv; have H0 := Lib.hid h0; have HSU := Lib.hid hsup
  have HBW := Lib.hid hbW; have HB := Lib.hid hB; have HS := Lib.hid hS; have HR := Lib.hid hR; have HZ := Lib.hid hZ
  clear hxo hcv hsv h0 hsup hbW hB hS hR hZ
  unfold Par.val
  rcases csec_vals rPrime x l with hk | hk
  case inr =>
    have HO : Hid (pubOut rPrime x l s a = ⟨2, el0, el0, a⟩) := pubOut_no hk
    go_enter Tryz.func23, Tryz.ntmps23
    go_wp2_with fail
    refine (rcsecret_any x _ _ l _ HX.out ((HCV.out.below H0.out).below HBW.out) ((HSV.out.below H0.out).below HBW.out) hlen).mono ?_
    rintro e w1 ⟨rfl, hb1⟩
    rw [hk]
    have HR1 := Lib.hid (HR.out.below hb1 HR.out.lt)
    have HBW1 := Lib.hid (HBW.out.trans (hb1.mono HBW.out.size))
    have HSU1 := Lib.hid (supr_below HSU.out HBW1.out)
    have r0 := HR1.out.cell 0 (by simp); have r1 := HR1.out.cell 1 (by simp); have r2 := HR1.out.cell 2 (by simp); have r3 := HR1.out.cell 3 (by simp); have r4 := HR1.out.cell 4 (by simp); have r5 := HR1.out.cell 5 (by simp)
    have s0 := HR1.out.free 0; have s1 := HR1.out.free 1; have s2 := HR1.out.free 2; have s3 := HR1.out.free 3; have s4 := HR1.out.free 4; have s5 := HR1.out.free 5
    clear hb1 hk
    go_wp2_with fail
    obtain ⟨f1, f2⟩ := set6 (.int .i64 0) (.bool false) (.slice none 0 0) (.int .i64 0) (.bool false) (.slice none 0 0) HR1.out
    have q0 := f1.cell 0 (by simp); have q1 := f1.cell 1 (by simp); have q2 := f1.cell 2 (by simp); have q3 := f1.cell 3 (by simp); have q4 := f1.cell 4 (by simp); have q5 := f1.cell 5 (by simp)
    refine bodyPost_ret (v := .tuple #[.agg #[.int .i64 0, .bool false, .slice none 0 0, .int .i64 0, .bool false, .slice none 0 0], .int .i64 2]) (by simp [results, Tryz.results23, go_sem, q0, q1, q2, q3, q4, q5]) rfl ?_
    refine ⟨.slice none 0 0, .slice none 0 0, by rw [HO.out]; rfl, by rw [HO.out]; exact OwnR.nil _ _, by rw [HO.out]; exact OwnR.nil _ _, ?_, by rw [HO.out]; exact ha, ?_⟩
    · rw [HO.out]; exact HSU1.out.same (f2.block g (by have := HR1.out.lt; omega) (by intro e; injection e with e; omega))
    · exact ⟨f2.os.trans HBW1.out.os, f2.tape.trans HBW1.out.tape, f2.output.trans HBW1.out.output, Nat.le_trans HBW1.out.size f2.size, fun k hk hne => (f2.block k (by have := HR1.out.lt; omega) (by intro e; injection e with e; omega)).trans (HBW1.out.block k hk)⟩
  case inl =>
  obtain ⟨hok, hsec⟩ := csec_split hk
  have hg := good_of hok
  have hor := okB_rest hok
  have hdim := okB_dim hok
  have hsp := secB_parts hsec
  obtain ⟨N, hN⟩ : ∃ N : Nat, x.n = N := ⟨x.n.toNat, by omega⟩
  have hN4 : 4 ≤ N := by omega
  have hN32 : N ≤ 32 := by omega
  have hlN : l.length = N := by have := hsp.2.1; omega
  have hl1 := hg.l1; have hl2 := hg.l2
  have her := hor.1
  have HK := Lib.hid hk; have HG := Lib.hid hg; have HOR := Lib.hid hor; have HN := Lib.hid hN; have HLN := Lib.hid hlN; have HOK := Lib.hid hok
  clear hok hsec hg hor hdim hsp hN hlN
  go_enter Tryz.func23, Tryz.ntmps23
  go_wp2_with fail
  refine (rcsecret_any x _ _ l _ HX.out ((HCV.out.below H0.out).below HBW.out) ((HSV.out.below H0.out).below HBW.out) hlen).mono ?_
  rintro e w1 ⟨rfl, hb1⟩
  rw [HK.out]
  have HB1 := Lib.hid (HB.out.below hb1 (by rw [HZ.out]; omega))
  have HS1 := Lib.hid ((below_at hb1 (by rw [HZ.out]; omega)).trans HS.out)
  have HR1 := Lib.hid (HR.out.below hb1 HR.out.lt)
  have HBW1 := Lib.hid (HBW.out.trans (hb1.mono HBW.out.size))
  have HSU1 := Lib.hid (supr_below HSU.out HBW1.out)
  have hs1 : w.heap.size + 3 ≤ w1.heap.size := by have := hb1.size; rw [HZ.out] at this; exact this
  clear hb1 hk HB HS HR HBW HSU HZ
  obtain ⟨y0, y1, y2, y3, y4, y5, y6⟩ := HB1.out
  go_wp2_with fail
  refine (runi13_any x _ s g a N w1 HG.out HN.out ((HCV.out.below H0.out).below HBW1.out) HSU1.out ha hs).mono ?_
  rintro e w2 ⟨ok, rows, b, hgo, hs2, hp2, hg2, hcase⟩
  have hc2 : ∀ k i, k < w.heap.size + 3 → k ≠ g → w2.cell? ⟨k, i, none⟩ = w1.cell? ⟨k, i, none⟩ := fun k i hk hne => gr_cell hg2 (by omega) hne
  have HR2 : Hid (Blk w2 (w.heap.size + 1 + 1) [.int .i64 0, .bool false, .slice none 0 0, .int .i64 0, .bool false, .slice none 0 0] 34) := HR1.out.gr hg2 (by omega)
  have hs2w := hg2.size
  have HGO := Lib.hid hgo
  clear hgo y0 y1 y2 y3 y4 y5 y6
  have mk : ∀ (e0 : Array Value) (v : Value) (lv : Int), e0.toList = [.int .i64 lv, .bool false, v] → lv = x.ch.length → NrB w0 w (w2.alloc (.cells e0 32)) x (.slice pc x.ch.length ccv) (.slice ps l.length cs) s g b w2.heap.size v := fun e0 v lv he hlv => by
    subst hlv
    have h : Below w2.heap.size w2 (w2.alloc (.cells e0 32)) := (Below.refl _ _).alloc (Nat.le_refl _) _
    obtain ⟨a0, a1, a2, a3, a4, a5, a6⟩ := HB1.out
    have hbx : BoxP w2 w.heap.size x (.slice pc x.ch.length ccv) := ⟨(hc2 _ _ (by omega) (by omega)).trans a0, (hc2 _ _ (by omega) (by omega)).trans a1, (hc2 _ _ (by omega) (by omega)).trans a2, (hc2 _ _ (by omega) (by omega)).trans a3, (hc2 _ _ (by omega) (by omega)).trans a4, (hc2 _ _ (by omega) (by omega)).trans a5, (hc2 _ _ (by omega) (by omega)).trans a6⟩
    have hgr : w.grownBy w2 (some g) := ⟨hg2.os.trans HBW1.out.os, hg2.tape.trans HBW1.out.tape, hg2.output.trans HBW1.out.output, Nat.le_trans HBW1.out.size hg2.size, fun k hk hne => (hg2.block k (by omega) hne).trans (HBW1.out.block k hk)⟩
    have hold : Below w0.heap.size w0 w2 := ⟨hgr.os.trans H0.out.os, hgr.tape.trans H0.out.tape, hgr.output.trans H0.out.output, Nat.le_trans H0.out.size hgr.size, fun k hk => (hgr.block k (Nat.lt_of_lt_of_le hk H0.out.size) (by intro e; injection e with e; omega)).trans (H0.out.block k hk)⟩
    have hel := Blk.new w2 e0 32
    rw [he] at hel
    exact ⟨supr_below hs2 h, hp2, hbx.below h (by omega), (below_at h (by omega)).trans ((hc2 _ _ (by omega) (by omega)).trans HS1.out), HR2.out.below h HR2.out.lt, hel, hold.trans (h.mono hold.size), ⟨h.os.trans hgr.os, h.tape.trans hgr.tape, h.output.trans hgr.output, Nat.le_trans hgr.size h.size, fun k hk hne => (h.block k (by omega)).trans (hgr.block k hk hne)⟩, hg0, hgw, by omega⟩
  rcases hcase with ⟨rfl, v, rfl, hown⟩ | ⟨rfl, rfl⟩
  case inr =>
    have HO : Hid (pubOut rPrime x l s a = ⟨4, el0, el0, b⟩) := pubOut_short HK.out HN.out (i := x.ch.length) (Nat.le_refl _) HGO.out
    have h : Below w2.heap.size w2 (w2.alloc (.cells #[.int .i64 0, .bool false, .slice none 0 0] 32)) := (Below.refl _ _).alloc (Nat.le_refl _) _
    have HRA := Lib.hid (HR2.out.below h HR2.out.lt)
    have HSA := Lib.hid (supr_below hs2 h)
    have HGA : Hid (w.grownBy (w2.alloc (.cells #[.int .i64 0, .bool false, .slice none 0 0] 32)) (some g)) := ⟨hg2.os.trans HBW1.out.os, hg2.tape.trans HBW1.out.tape, hg2.output.trans HBW1.out.output, Nat.le_trans HBW1.out.size (Nat.le_trans hg2.size h.size), fun k hk hne => (h.block k (by omega)).trans ((hg2.block k (by omega) hne).trans (HBW1.out.block k hk))⟩
    have HDA : Hid (Blk (w2.alloc (.cells #[.int .i64 0, .bool false, .slice none 0 0] 32)) w2.heap.size [.int .i64 0, .bool false, .slice none 0 0] 32) := Blk.new _ _ _
    obtain ⟨WA, hWA⟩ : ∃ WA, w2.alloc (.cells #[.int .i64 0, .bool false, .slice none 0 0] 32) = WA := ⟨_, rfl⟩
    rw [hWA] at HRA HSA HGA HDA
    have d0 := HDA.out.cell 0 (by simp); have d1 := HDA.out.cell 1 (by simp); have d2 := HDA.out.cell 2 (by simp)
    have d3 := HDA.out.free 0; have d4 := HDA.out.free 1; have d5 := HDA.out.free 2
    have hgB : WA.grownBy (((WA.setCell ⟨w2.heap.size, 0, none⟩ (.int .i64 0)).setCell ⟨w2.heap.size, 1, none⟩ (.bool false)).setCell ⟨w2.heap.size, 2, none⟩ (.slice none 0 0)) (some w2.heap.size) := gr_set (gr_set (gr_set (gr_refl _ _) 0 _) 1 _) 2 _
    have HRB : Hid (Blk (((WA.setCell ⟨w2.heap.size, 0, none⟩ (.int .i64 0)).setCell ⟨w2.heap.size, 1, none⟩ (.bool false)).setCell ⟨w2.heap.size, 2, none⟩ (.slice none 0 0)) (w.heap.size + 1 + 1) [.int .i64 0, .bool false, .slice none 0 0, .int .i64 0, .bool false, .slice none 0 0] 34) := HRA.out.gr hgB (by omega)
    have HSB : Hid (SupR (((WA.setCell ⟨w2.heap.size, 0, none⟩ (.int .i64 0)).setCell ⟨w2.heap.size, 1, none⟩ (.bool false)).setCell ⟨w2.heap.size, 2, none⟩ (.slice none 0 0)) g s b) := HSA.out.same (hgB.block g (by have := HRA.out.lt; omega) (by intro e; injection e with e; omega))
    have HGB : Hid (w.grownBy (((WA.setCell ⟨w2.heap.size, 0, none⟩ (.int .i64 0)).setCell ⟨w2.heap.size, 1, none⟩ (.bool false)).setCell ⟨w2.heap.size, 2, none⟩ (.slice none 0 0)) (some g)) := ⟨hgB.os.trans HGA.out.os, hgB.tape.trans HGA.out.tape, hgB.output.trans HGA.out.output, Nat.le_trans HGA.out.size hgB.size, fun k hk hne => (hgB.block k (by have := HRA.out.lt; omega) (by intro e; injection e with e; omega)).trans (HGA.out.block k hk hne)⟩
    obtain ⟨WB, hWB⟩ : ∃ WB, (((WA.setCell ⟨w2.heap.size, 0, none⟩ (.int .i64 0)).setCell ⟨w2.heap.size, 1, none⟩ (.bool false)).setCell ⟨w2.heap.size, 2, none⟩ (.slice none 0 0)) = WB := ⟨_, rfl⟩
    rw [hWB] at HRB HSB HGB
    have r0 := HRB.out.cell 0 (by simp); have r1 := HRB.out.cell 1 (by simp); have r2 := HRB.out.cell 2 (by simp); have r3 := HRB.out.cell 3 (by simp); have r4 := HRB.out.cell 4 (by simp); have r5 := HRB.out.cell 5 (by simp)
    have s0 := HRB.out.free 0; have s1 := HRB.out.free 1; have s2 := HRB.out.free 2; have s3 := HRB.out.free 3; have s4 := HRB.out.free 4; have s5 := HRB.out.free 5
    unfold elVal
    clear h mk hc2 hs2 hg2 hgB HRA HSA HGA
    go_wp2_with fail
    clear hWA hWB
    obtain ⟨f1, f2⟩ := set6 (.int .i64 0) (.bool false) (.slice none 0 0) (.int .i64 0) (.bool false) (.slice none 0 0) HRB.out
    have q0 := f1.cell 0 (by simp); have q1 := f1.cell 1 (by simp); have q2 := f1.cell 2 (by simp); have q3 := f1.cell 3 (by simp); have q4 := f1.cell 4 (by simp); have q5 := f1.cell 5 (by simp)
    refine bodyPost_ret (v := .tuple #[.agg #[.int .i64 0, .bool false, .slice none 0 0, .int .i64 0, .bool false, .slice none 0 0], .int .i64 4]) (by simp [results, Tryz.results23, go_sem, q0, q1, q2, q3, q4, q5]) rfl ?_
    have hlR := HRB.out.lt
    exact ⟨.slice none 0 0, .slice none 0 0, by rw [HO.out]; rfl, by rw [HO.out]; exact OwnR.nil _ _, by rw [HO.out]; exact OwnR.nil _ _, by rw [HO.out]; exact HSB.out.same (f2.block g (by omega) (by intro e; injection e with e; omega)), by rw [HO.out]; exact hp2,
      ⟨f2.os.trans HGB.out.os, f2.tape.trans HGB.out.tape, f2.output.trans HGB.out.output, Nat.le_trans HGB.out.size f2.size, fun k hk hne => (f2.block k (by omega) (by intro e; injection e with e; omega)).trans (HGB.out.block k hk hne)⟩⟩
  case inl =>
  have hRR := ResR.of ha HG.out HGO.out
  obtain ⟨pv, cvv, rfl⟩ : ∃ p c, v = .slice p x.ch.length c := by obtain ⟨p, c, e⟩ := hown.val; exact ⟨p, c, by rw [hRR.1] at e; exact e⟩
  have HRR := Lib.hid hRR
  have HNA := Lib.hid (mk #[.int .i64 x.ch.length, .bool false, .slice pv x.ch.length cvv] _ _ rfl rfl)
  have HOA : Hid (OwnR (w.heap.size + 3) (w2.alloc (.cells #[.int .i64 x.ch.length, .bool false, .slice pv x.ch.length cvv] 32)) (.slice pv x.ch.length cvv) rows) := (hown.mono hs1).below ((Below.refl _ _).alloc (Nat.le_refl _) _)
  obtain ⟨WA, hWA⟩ : ∃ WA, w2.alloc (.cells #[.int .i64 x.ch.length, .bool false, .slice pv x.ch.length cvv] 32) = WA := ⟨_, rfl⟩
  rw [hWA] at HNA HOA
  have y0 := HNA.out.bx.n
  rw [HN.out] at y0
  have y6 := HNA.out.bx.er
  unfold elVal
  clear mk hc2 hs2 hp2 hg2 hown hRR
  go_wp2_with fail
  clear hWA
  generalize w2.heap.size = o at HNA hs2w ⊢
  refine (rbnd_any s g N x.er b WA HNA.out.sup (by omega) (by omega) HNA.out.pos hs).mono ?_
  rintro e w5 ⟨lv, rfl, hv5, hs5, hp5, hg5⟩
  cases hz : numGo s (2 * x.er + 1) b N with
  | none =>
    rw [numOut_none hz] at hs5 hp5
    rw [numOut_none hz]
    have HNP2 := Lib.hid (HNA.out.grow hg5 hs5 hp5)
    have HO : Hid (pubOut rPrime x l s a = ⟨4, el0, el0, b⟩) := pubOut_none HK.out HN.out HGO.out hz
    have r0 := HNP2.out.res.cell 0 (by simp); have r1 := HNP2.out.res.cell 1 (by simp); have r2 := HNP2.out.res.cell 2 (by simp); have r3 := HNP2.out.res.cell 3 (by simp); have r4 := HNP2.out.res.cell 4 (by simp); have r5 := HNP2.out.res.cell 5 (by simp)
    have s0 := HNP2.out.res.free 0; have s1 := HNP2.out.res.free 1; have s2 := HNP2.out.res.free 2; have s3 := HNP2.out.res.free 3; have s4 := HNP2.out.res.free 4; have s5 := HNP2.out.res.free 5
    clear hv5 hs5 hp5 hg5 hz y0 y6
    go_wp2_with fail
    obtain ⟨f1, f2, f3, f4⟩ := HNP2.out.out (.int .i64 0) (.bool false) (.slice none 0 0) (.int .i64 0) (.bool false) (.slice none 0 0)
    have q0 := f1.cell 0 (by simp); have q1 := f1.cell 1 (by simp); have q2 := f1.cell 2 (by simp); have q3 := f1.cell 3 (by simp); have q4 := f1.cell 4 (by simp); have q5 := f1.cell 5 (by simp)
    refine bodyPost_ret (v := .tuple #[.agg #[.int .i64 0, .bool false, .slice none 0 0, .int .i64 0, .bool false, .slice none 0 0], .int .i64 4]) (by simp [results, Tryz.results23, go_sem, q0, q1, q2, q3, q4, q5]) rfl ?_
    exact ⟨.slice none 0 0, .slice none 0 0, by rw [HO.out]; rfl, by rw [HO.out]; exact OwnR.nil _ _, by rw [HO.out]; exact OwnR.nil _ _, by rw [HO.out]; exact f2, by rw [HO.out]; exact HNP2.out.pos, f3⟩
  | some r =>
  obtain ⟨z, c⟩ := r
  rw [numOut_some hz] at hs5 hp5 hv5
  rw [numOut_some hz]
  have hzk := numGo_ok HNA.out.pos _ _ _ hz
  have HZL := Lib.hid hzk.1
  have HNP5 := Lib.hid (HNA.out.grow hg5 hs5 hp5)
  have HOW5 := Lib.hid (HOA.out.grow hg5 (by omega))
  have hsl := cen_own hzk.1 (by omega) hzk.2.1 her hv5
  obtain ⟨pl, cl, rfl⟩ : ∃ p c, lv = .slice p N c := by obtain ⟨p, c, e, _⟩ := hsl; exact ⟨p, c, by rw [cen_len, hzk.1] at e; exact e⟩
  have HSL := Lib.hid hsl
  have HY : Hid (pubOut rPrime x l s a = pubYes rPrime x l rows z c) := pubOut_yes HK.out HN.out HGO.out hz
  have HCL : Hid ((cenZ x z).length = N) := by show _ = _; rw [cen_len]; exact hzk.1
  obtain ⟨t, ht⟩ : ∃ t, modVal rPrime x x.r = t := ⟨_, rfl⟩
  have htb := HOR.out.2.2
  rw [ht] at htb
  have HT := Lib.hid ht
  have hwo := HNP5.out.wo
  have hlo : o < w5.heap.size := HNP5.out.lt
  clear hv5 hs5 hp5 hg5 hz hzk hsl y0 y6 HNA HOA HGO ht hs2w
  generalize w5 = W5 at HNP5 HOW5 HSL hlo ⊢
  have HSV5 := Lib.hid (HSV.out.below HNP5.out.old)
  have HCV5 := Lib.hid (HCV.out.below HNP5.out.old)
  have HSA5 : Hid (SliceR W5 (.slice pv x.ch.length cvv) rows) := HOW5.out.sliceG HG.out HRR.out (Nat.le_refl _) (by omega)
  obtain ⟨y0, y1, y2, y3, y4, y5, y6⟩ := HNP5.out.bx
  have y7 := HNP5.out.el.cell 0 (by simp); have y8 := HNP5.out.el.cell 1 (by simp); have y9 := HNP5.out.el.cell 2 (by simp)
  have eaW5 : w.heap.size ≠ W5.heap.size := (by omega); have ebW5 : W5.heap.size ≠ w.heap.size := (by omega); have eeW5 : o ≠ W5.heap.size := (by omega); have efW5 : W5.heap.size ≠ o := (by omega)
  go_wp2_with fail
  refine region_via (fun a0 a1 Z => ∃ (db : Nat) (p1 : Option Addr) (c1 : Nat) (p2 : Option Addr) (c2 : Nat), Hid (ElT W5 Z x.ch.length db (.slice p2 x.ch.length c2) (elRows x.ch.length N (fun i => sumF (t : Int) (x.ch.getD i 0) ((elRows x.ch.length N (fun i => intF (List.replicate N 0) (x.ch.getD i 0))).getD i []) ((elRows x.ch.length N (fun i => intF (cenZ x z) (x.ch.getD i 0))).getD i [])))) ∧
    a1 = (((((((((((a0.put (some 43) (.agg #[.int .i64 x.n, .int .u32 x.p, .int .i64 x.r, .slice pc x.ch.length ccv, .int .u32 x.sp, .int .i64 x.wt, .int .u32 x.er])).put (some 44) (.agg #[.int .i64 x.n, .int .u32 x.p, .int .i64 x.r, .slice pc x.ch.length ccv, .int .u32 x.sp, .int .i64 x.wt, .int .u32 x.er])).put (some 45) (.agg #[.int .i64 x.ch.length, .bool false, .slice pv x.ch.length cvv])).put (some 46) (.slice pl N cl)).put (some 47) (.agg #[.int .i64 x.ch.length, .bool false, .slice p1 x.ch.length c1])).put (some 48) (.agg #[.int .i64 x.n, .int .u32 x.p, .int .i64 x.r, .slice pc x.ch.length ccv, .int .u32 x.sp, .int .i64 x.wt, .int .u32 x.er])).put (some 49) (.pointer (some ⟨w.heap.size, 2, none⟩))).put (some 50) (.int .i64 x.r)).put (some 51) (.int .i64 (t : Nat))).put (some 52) (.agg #[.int .i64 x.ch.length, .bool false, .slice p2 x.ch.length c2])).put (some 11) (.pointer (some ⟨db, 0, none⟩)))) ?main ?keyp
  case main =>
    go_region_held3 (fun w' => w'.cell? ⟨w.heap.size, 0, none⟩ = some (.int .i64 x.n) ∧ w'.cell? ⟨w.heap.size, 1, none⟩ = some (.int .u32 x.p) ∧ w'.cell? ⟨w.heap.size, 2, none⟩ = some (.int .i64 x.r) ∧ w'.cell? ⟨w.heap.size, 3, none⟩ = some (.slice pc x.ch.length ccv) ∧ w'.cell? ⟨w.heap.size, 4, none⟩ = some (.int .u32 x.sp) ∧ w'.cell? ⟨w.heap.size, 5, none⟩ = some (.int .i64 x.wt) ∧ w'.cell? ⟨w.heap.size, 6, none⟩ = some (.int .u32 x.er) ∧ w'.cell? ⟨o, 0, none⟩ = some (.int .i64 x.ch.length) ∧ w'.cell? ⟨o, 1, none⟩ = some (.bool false) ∧ w'.cell? ⟨o, 2, none⟩ = some (.slice pv x.ch.length cvv)) (go_keep)
      (first
        | (go_at_call 18; refine (wof_any x x.ch.length N _ _ _ rows (cenZ x z) _ HG.out HX.out HN.out (by first | exact HCV5.out.below (Below.refl _ _).drew | exact HCV5.out.below ((Below.refl _ _).alloc (Nat.le_refl _) _).drew) hl1 (Nat.le_refl _) (by first | exact HSA5.out.below (Below.refl _ _).drew | exact HSA5.out.below ((Below.refl _ _).alloc (Nat.le_refl _) _).drew) HRR.out (by first | exact HSL.out.below (Below.refl _ _).drew | exact HSL.out.below ((Below.refl _ _).alloc (Nat.le_refl _) _).drew) HCL.out).mono ?_; rintro e W6 ⟨v1, rfl, hv1, hb6⟩; obtain ⟨p1, c1, rfl⟩ : ∃ p c, v1 = .slice p x.ch.length c := (by obtain ⟨p, c, e⟩ := hv1.val; exact ⟨p, c, by rw [elRows_len] at e; exact e⟩); unfold elVal; have q6 : Below W5.heap.size W5 W6 := below_then hb6 (by first | exact (Below.refl _ _).drew | exact ((Below.refl _ _).alloc (Nat.le_refl _) _).drew) (by simp); have HV1 := Lib.hid (OwnR.mono (b2 := W5.heap.size) hv1 (by simp)); have NB6 := Lib.hid (HNP5.out.below q6); obtain ⟨k0, k1, k2, k3, k4, k5, k6⟩ := NB6.out.bx; have k7 := NB6.out.el.cell 0 (by simp); have k8 := NB6.out.el.cell 1 (by simp); have k9 := NB6.out.el.cell 2 (by simp); have hs6 := q6.size; have eaW6 : w.heap.size ≠ W6.heap.size := (by omega); have ebW6 : W6.heap.size ≠ w.heap.size := (by omega); have eeW6 : o ≠ W6.heap.size := (by omega); have efW6 : W6.heap.size ≠ o := (by omega); obtain ⟨hc6, hf6⟩ := bcell hb6; (try (have hz56 : W5.heap.size < W6.heap.size := (by have h := hb6.size; first | omega | (simp at h; omega)))); (try (have hbk6 : Hid (Blk W6 W5.heap.size [.int .i64 0, .bool false, .slice none 0 0] 32) := (Blk.below (Blk.drew (Blk.new W5 #[.int .i64 0, .bool false, .slice none 0 0] _)) hb6 (by simp)))); have HQ6 := Lib.hid q6; clear hv1 hb6 q6)
        | (go_at_call 9; refine (plain13_any x _ _ HOK.out (by first | exact HCV5.out.below HQ6.out | exact HCV5.out.below (HQ6.out.alloc HQ6.out.size _))).mono ?_; rintro e W7 ⟨rfl, hb7⟩; rw [HT.out]; have q67 : Below W6.heap.size W6 W7 := below_then hb7 (by first | exact Below.refl _ _ | exact (Below.refl _ _).alloc (Nat.le_refl _) _) (by first | exact Nat.le_refl _ | simp); have q7 : Below W5.heap.size W5 W7 := HQ6.out.trans (q67.mono HQ6.out.size); have HV1b := Lib.hid (HV1.out.below q67); have NB7 := Lib.hid (HNP5.out.below q7); obtain ⟨m0, m1, m2, m3, m4, m5, m6⟩ := NB7.out.bx; have m7 := NB7.out.el.cell 0 (by simp); have m8 := NB7.out.el.cell 1 (by simp); have m9 := NB7.out.el.cell 2 (by simp); have hs7 := q7.size; have eaW7 : w.heap.size ≠ W7.heap.size := (by omega); have ebW7 : W7.heap.size ≠ w.heap.size := (by omega); have eeW7 : o ≠ W7.heap.size := (by omega); have efW7 : W7.heap.size ≠ o := (by omega); obtain ⟨hc7, hf7⟩ := bcell hb7; (try (have hz57 : W5.heap.size < W7.heap.size := (by have h := hb7.size; first | omega | (simp at h; omega)))); (try (have hz67 : W6.heap.size < W7.heap.size := (by have h := hb7.size; first | omega | (simp at h; omega)))); (try (have hbk7 := Lib.hid (hbk6.out.below q67 (by omega)))); (try (have hbm7 : Hid (Blk W7 W6.heap.size [.int .i64 0, .bool false, .slice none 0 0] 32) := (Blk.below (Blk.new W6 #[.int .i64 0, .bool false, .slice none 0 0] _) hb7 (by simp)))); have HQ7 := Lib.hid q7; clear hb7 q7 q67)
        | (go_at_call 62; refine (wscale_any x x.ch.length N (t : Int) _ _ (elRows x.ch.length N (fun i => intF (cenZ x z) (x.ch.getD i 0))) _ HG.out HX.out HN.out (by first | exact HCV5.out.below HQ7.out | exact HCV5.out.below (HQ7.out.alloc HQ7.out.size _)) hl1 (Nat.le_refl _) (by first | exact HV1b.out.sliceG HG.out (res_ints HG.out (Nat.le_refl _) _) (Nat.le_refl _) (by omega) | exact (HV1b.out.below ((Below.refl _ _).alloc (Nat.le_refl _) _)).sliceG HG.out (res_ints HG.out (Nat.le_refl _) _) (Nat.le_refl _) (by omega)) (res_ints HG.out (Nat.le_refl _) _) (by omega)).mono ?_; rintro e W8 ⟨v2, rfl, hv2, hb8⟩; obtain ⟨p2, c2, rfl⟩ : ∃ p c, v2 = .slice p x.ch.length c := (by obtain ⟨p, c, e⟩ := hv2.val; exact ⟨p, c, by rw [elRows_len] at e; exact e⟩); unfold elVal; have q78 : Below W7.heap.size W7 W8 := below_then hb8 (by first | exact Below.refl _ _ | exact (Below.refl _ _).alloc (Nat.le_refl _) _) (by first | exact Nat.le_refl _ | simp); have q8 : Below W5.heap.size W5 W8 := HQ7.out.trans (q78.mono HQ7.out.size); have HV2 := Lib.hid (OwnR.mono (b2 := W5.heap.size) hv2 (by first | exact HQ7.out.size | (simp; omega))); have NB8 := Lib.hid (HNP5.out.below q8); obtain ⟨n0, n1, n2, n3, n4, n5, n6⟩ := NB8.out.bx; have n7 := NB8.out.el.cell 0 (by simp); have n8 := NB8.out.el.cell 1 (by simp); have n9 := NB8.out.el.cell 2 (by simp); have hs8 := q8.size; have eaW8 : w.heap.size ≠ W8.heap.size := (by omega); have ebW8 : W8.heap.size ≠ w.heap.size := (by omega); have eeW8 : o ≠ W8.heap.size := (by omega); have efW8 : W8.heap.size ≠ o := (by omega); obtain ⟨hc8, hf8⟩ := bcell hb8; (try (have hz58 : W5.heap.size < W8.heap.size := (by have h := hb8.size; first | omega | (simp at h; omega)))); (try (have hz68 : W6.heap.size < W8.heap.size := (by have h := hb8.size; first | omega | (simp at h; omega)))); (try (have hz78 : W7.heap.size < W8.heap.size := (by have h := hb8.size; first | omega | (simp at h; omega)))); (try (have hbk8 := Lib.hid (hbk7.out.below q78 (by omega)))); (try (have hbm8 := Lib.hid (hbm7.out.below q78 (by omega)))); (try (have hbl8 : Hid (Blk W8 W7.heap.size [.int .i64 0, .bool false, .slice none 0 0] 32) := (Blk.below (Blk.new W7 #[.int .i64 0, .bool false, .slice none 0 0] _) hb8 (by simp)))); have HQ8 := Lib.hid q8; clear hv2 hb8 q8 q78))
    all_goals
      first
        | exact ⟨rfl, _, p1, c1, p2, c2, Lib.hid (ElT.late HQ8.out HV2.out), rfl⟩
        | exact ⟨rfl, _, p1, c1, p2, c2, Lib.hid (ElT.early HQ8.out HV2.out HQ7.out.size hbl8.out), rfl⟩
        | exact ⟨rfl, _, p1, c1, p2, c2, Lib.hid (ElT.early HQ8.out HV2.out HQ6.out.size hbm8.out), rfl⟩
        | exact ⟨rfl, _, p1, c1, p2, c2, Lib.hid (ElT.early HQ8.out HV2.out (Nat.le_refl _) hbk8.out), rfl⟩
  case keyp =>
    rintro a1 Z ⟨fb, p1, c1, pf, cf, HE, rfl⟩
    simp only [Act.put, List.setIfInBounds_toArray, List.set_cons_zero, List.set_cons_succ]
    have HNZ := Lib.hid (HNP5.out.below HE.out.bel)
    have HOZ := Lib.hid (HOW5.out.below HE.out.bel)
    have HFO : Hid (OwnR (w.heap.size + 3) Z (.slice pf x.ch.length cf) (elRows x.ch.length N (fun i => sumF (t : Int) (x.ch.getD i 0) ((elRows x.ch.length N (fun i => intF (List.replicate N 0) (x.ch.getD i 0))).getD i []) ((elRows x.ch.length N (fun i => intF (cenZ x z) (x.ch.getD i 0))).getD i [])))) := HE.out.own.mono (by omega)
    have HFB := Lib.hid HE.out.db
    have hfw : W5.heap.size ≤ fb := HE.out.le
    clear y0 y1 y2 y3 y4 y5 y6 y7 y8 y9 eaW5 ebW5 eeW5 efW5 HE HNP5 HOW5 HSV5 HCV5 HSA5 HSL
    have HSVZ := Lib.hid (HSV.out.below HNZ.out.old)
    have HCVZ := Lib.hid (HCV.out.below HNZ.out.old)
    have HSAZ : Hid (SliceR Z (.slice pv x.ch.length cvv) rows) := HOZ.out.sliceG HG.out HRR.out (Nat.le_refl _) (by omega)
    have HSFZ : Hid (SliceR Z (.slice pf x.ch.length cf) (elRows x.ch.length N (fun i => sumF (t : Int) (x.ch.getD i 0) ((elRows x.ch.length N (fun i => intF (List.replicate N 0) (x.ch.getD i 0))).getD i []) ((elRows x.ch.length N (fun i => intF (cenZ x z) (x.ch.getD i 0))).getD i [])))) := HFO.out.sliceG HG.out (res_sum HG.out (Nat.le_refl _) _ _ _) (Nat.le_refl _) (by omega)
    obtain ⟨y0, y1, y2, y3, y4, y5, y6⟩ := HNZ.out.bx
    have y7 := HNZ.out.el.cell 0 (by simp); have y8 := HNZ.out.el.cell 1 (by simp); have y9 := HNZ.out.el.cell 2 (by simp)
    have f0 := HFB.out.cell 0 (by simp); have f1 := HFB.out.cell 1 (by simp); have f2 := HFB.out.cell 2 (by simp)
    have ysec := HNZ.out.sec
    have nf1 : fb ≠ w.heap.size + 1 + 1 := by omega
    have nf2 : w.heap.size + 1 + 1 ≠ fb := by omega
    have no1 : o ≠ w.heap.size + 1 + 1 := by omega
    have no2 : w.heap.size + 1 + 1 ≠ o := by omega
    have r0 := HNZ.out.res.cell 0 (by simp); have r1 := HNZ.out.res.cell 1 (by simp); have r2 := HNZ.out.res.cell 2 (by simp); have r3 := HNZ.out.res.cell 3 (by simp); have r4 := HNZ.out.res.cell 4 (by simp); have r5 := HNZ.out.res.cell 5 (by simp)
    have s0 := HNZ.out.res.free 0; have s1 := HNZ.out.res.free 1; have s2 := HNZ.out.res.free 2; have s3 := HNZ.out.res.free 3; have s4 := HNZ.out.res.free 4; have s5 := HNZ.out.res.free 5
    have HLAY : Hid (∀ w', Below Z.heap.size Z w' → w'.cell? ⟨w.heap.size, 0, none⟩ = some (.int .i64 x.n) ∧ w'.cell? ⟨w.heap.size, 1, none⟩ = some (.int .u32 x.p) ∧ w'.cell? ⟨w.heap.size, 2, none⟩ = some (.int .i64 x.r) ∧ w'.cell? ⟨w.heap.size, 3, none⟩ = some (.slice pc x.ch.length ccv) ∧ w'.cell? ⟨w.heap.size, 4, none⟩ = some (.int .u32 x.sp) ∧ w'.cell? ⟨w.heap.size, 5, none⟩ = some (.int .i64 x.wt) ∧ w'.cell? ⟨w.heap.size, 6, none⟩ = some (.int .u32 x.er) ∧ w'.cell? ⟨o, 0, none⟩ = some (.int .i64 x.ch.length) ∧ w'.cell? ⟨o, 1, none⟩ = some (.bool false) ∧ w'.cell? ⟨o, 2, none⟩ = some (.slice pv x.ch.length cvv) ∧ w'.cell? ⟨fb, 0, none⟩ = some (.int .i64 x.ch.length) ∧ w'.cell? ⟨fb, 1, none⟩ = some (.bool false) ∧ w'.cell? ⟨fb, 2, none⟩ = some (.slice pf x.ch.length cf) ∧ w'.cell? ⟨w.heap.size + 1, 0, none⟩ = some (.slice ps l.length cs)) := fun W hW => by
      have hN := HNZ.out.below hW
      obtain ⟨k0, k1, k2, k3, k4, k5, k6⟩ := hN.bx
      have hF := HFB.out.below hW HFB.out.lt
      exact ⟨k0, k1, k2, k3, k4, k5, k6, hN.el.cell 0 (by simp), hN.el.cell 1 (by simp), hN.el.cell 2 (by simp), hF.cell 0 (by simp), hF.cell 1 (by simp), hF.cell 2 (by simp), hN.sec⟩
    have HFIN : Hid (∀ W9 p5 c5, Below Z.heap.size Z W9 → (fun w' => w'.cell? ⟨w.heap.size, 0, none⟩ = some (.int .i64 x.n) ∧ w'.cell? ⟨w.heap.size, 1, none⟩ = some (.int .u32 x.p) ∧ w'.cell? ⟨w.heap.size, 2, none⟩ = some (.int .i64 x.r) ∧ w'.cell? ⟨w.heap.size, 3, none⟩ = some (.slice pc x.ch.length ccv) ∧ w'.cell? ⟨w.heap.size, 4, none⟩ = some (.int .u32 x.sp) ∧ w'.cell? ⟨w.heap.size, 5, none⟩ = some (.int .i64 x.wt) ∧ w'.cell? ⟨w.heap.size, 6, none⟩ = some (.int .u32 x.er) ∧ w'.cell? ⟨o, 0, none⟩ = some (.int .i64 x.ch.length) ∧ w'.cell? ⟨o, 1, none⟩ = some (.bool false) ∧ w'.cell? ⟨o, 2, none⟩ = some (.slice pv x.ch.length cvv) ∧ w'.cell? ⟨fb, 0, none⟩ = some (.int .i64 x.ch.length) ∧ w'.cell? ⟨fb, 1, none⟩ = some (.bool false) ∧ w'.cell? ⟨fb, 2, none⟩ = some (.slice pf x.ch.length cf) ∧ w'.cell? ⟨w.heap.size + 1, 0, none⟩ = some (.slice ps l.length cs)) ((((((W9.setCell ⟨w.heap.size + 1 + 1, 0, none⟩ (.int .i64 x.ch.length)).setCell ⟨w.heap.size + 1 + 1, 1, none⟩ (.bool false)).setCell ⟨w.heap.size + 1 + 1, 2, none⟩ (.slice p5 x.ch.length c5)).setCell ⟨w.heap.size + 1 + 1, 3, none⟩ (.int .i64 x.ch.length)).setCell ⟨w.heap.size + 1 + 1, 4, none⟩ (.bool false)).setCell ⟨w.heap.size + 1 + 1, 5, none⟩ (.slice pv x.ch.length cvv))) := fun W9 p5 c5 hW => by
      have hN := HNZ.out.below hW
      obtain ⟨k0, k1, k2, k3, k4, k5, k6, k7, k8, k9, k10, k11, k12, k13⟩ := HLAY.out W9 hW
      have hgf := (hN.out (.int .i64 x.ch.length) (.bool false) (.slice p5 x.ch.length c5) (.int .i64 x.ch.length) (.bool false) (.slice pv x.ch.length cvv)).2.2.2
      have hl9 : o < W9.heap.size := hN.lt
      have hl9f : fb < W9.heap.size := (HFB.out.below hW HFB.out.lt).lt
      clear hN
      exact ⟨(gr_cell hgf (by omega) (by omega)).trans k0, (gr_cell hgf (by omega) (by omega)).trans k1, (gr_cell hgf (by omega) (by omega)).trans k2, (gr_cell hgf (by omega) (by omega)).trans k3, (gr_cell hgf (by omega) (by omega)).trans k4, (gr_cell hgf (by omega) (by omega)).trans k5, (gr_cell hgf (by omega) (by omega)).trans k6, (gr_cell hgf (by omega) (by omega)).trans k7, (gr_cell hgf (by omega) (by omega)).trans k8, (gr_cell hgf (by omega) (by omega)).trans k9, (gr_cell hgf (by omega) (by omega)).trans k10, (gr_cell hgf (by omega) (by omega)).trans k11, (gr_cell hgf (by omega) (by omega)).trans k12, (gr_cell hgf (by omega) (by omega)).trans k13⟩
    have HRES : Hid (∀ W, Below Z.heap.size Z W → Blk W (w.heap.size + 1 + 1) [.int .i64 0, .bool false, .slice none 0 0, .int .i64 0, .bool false, .slice none 0 0] 34) := fun W hW => HNZ.out.res.below hW HNZ.out.res.lt
    clear r0 r1 r2 r3 r4 r5 s0 s1 s2 s3 s4 s5
    go_wp2_with fail
    go_region_held3 (fun w' => w'.cell? ⟨w.heap.size, 0, none⟩ = some (.int .i64 x.n) ∧ w'.cell? ⟨w.heap.size, 1, none⟩ = some (.int .u32 x.p) ∧ w'.cell? ⟨w.heap.size, 2, none⟩ = some (.int .i64 x.r) ∧ w'.cell? ⟨w.heap.size, 3, none⟩ = some (.slice pc x.ch.length ccv) ∧ w'.cell? ⟨w.heap.size, 4, none⟩ = some (.int .u32 x.sp) ∧ w'.cell? ⟨w.heap.size, 5, none⟩ = some (.int .i64 x.wt) ∧ w'.cell? ⟨w.heap.size, 6, none⟩ = some (.int .u32 x.er) ∧ w'.cell? ⟨o, 0, none⟩ = some (.int .i64 x.ch.length) ∧ w'.cell? ⟨o, 1, none⟩ = some (.bool false) ∧ w'.cell? ⟨o, 2, none⟩ = some (.slice pv x.ch.length cvv) ∧ w'.cell? ⟨fb, 0, none⟩ = some (.int .i64 x.ch.length) ∧ w'.cell? ⟨fb, 1, none⟩ = some (.bool false) ∧ w'.cell? ⟨fb, 2, none⟩ = some (.slice pf x.ch.length cf) ∧ w'.cell? ⟨w.heap.size + 1, 0, none⟩ = some (.slice ps l.length cs)) (first | with_reducible exact HLAY.out _ HQ9.out | with_reducible exact HFIN.out _ _ _ HQ9.out | with_reducible exact HLAY.out _ HQ8.out | with_reducible exact HLAY.out _ HQ7.out | with_reducible exact HLAY.out _ HQ6.out | with_reducible exact HLAY.out _ (Below.refl _ _).drew)
      (first
        | (go_at_call 19; refine (rints_any _ l _ (HSVZ.out.below (Below.refl _ _).drew) (by have := HLN.out; omega)).mono ?_; rintro e W6 ⟨iv, rfl, hiv, hb6⟩; have q6 : Below Z.heap.size Z W6 := below_then hb6 (Below.refl _ _).drew (Nat.le_refl _); obtain ⟨pi, ci, rfl⟩ : ∃ p c, iv = .slice p l.length c := (by obtain ⟨p, c, e, _⟩ := hiv; exact ⟨p, c, e⟩); have HIV := Lib.hid hiv; have HQ6 := Lib.hid q6; clear hiv hb6 q6)
        | (go_at_call 18; refine (wof_any x x.ch.length N _ _ _ rows l _ HG.out HX.out HN.out (HCVZ.out.below HQ6.out) hl1 (Nat.le_refl _) (HSAZ.out.below HQ6.out) HRR.out HIV.out HLN.out).mono ?_; rintro e W7 ⟨v3, rfl, hv3, hb7⟩; obtain ⟨p3, c3, rfl⟩ : ∃ p c, v3 = .slice p x.ch.length c := (by obtain ⟨p, c, e⟩ := hv3.val; exact ⟨p, c, by rw [elRows_len] at e; exact e⟩); unfold elVal; have HQ7 := Lib.hid (HQ6.out.trans (hb7.mono HQ6.out.size)); have HV3 := Lib.hid hv3; clear hv3 hb7)
        | (go_at_call 17; refine (wmul_any x x.ch.length N _ _ _ rows (elRows x.ch.length N (fun i => intF l (x.ch.getD i 0))) _ HG.out HX.out HN.out (HCVZ.out.below HQ7.out) hl1 (Nat.le_refl _) (HSAZ.out.below HQ7.out) HRR.out (HV3.out.sliceG HG.out (res_ints HG.out (Nat.le_refl _) _) (Nat.le_refl _) (by omega)) (res_ints HG.out (Nat.le_refl _) _)).mono ?_; rintro e W8 ⟨v4, rfl, hv4, hb8⟩; obtain ⟨p4, c4, rfl⟩ : ∃ p c, v4 = .slice p x.ch.length c := (by obtain ⟨p, c, e⟩ := hv4.val; exact ⟨p, c, by rw [elRows_len] at e; exact e⟩); unfold elVal; have HQ8 := Lib.hid (HQ7.out.trans (hb8.mono HQ7.out.size)); have HV4 := Lib.hid hv4; clear hv4 hb8)
        | (go_at_call 63; refine (wsub_any x x.ch.length N _ _ _ (elRows x.ch.length N (fun i => sumF (t : Int) (x.ch.getD i 0) ((elRows x.ch.length N (fun i => intF (List.replicate N 0) (x.ch.getD i 0))).getD i []) ((elRows x.ch.length N (fun i => intF (cenZ x z) (x.ch.getD i 0))).getD i []))) (elRows x.ch.length N (fun i => mulF (x.ch.getD i 0) N (rows.getD i []) ((elRows x.ch.length N (fun i => intF l (x.ch.getD i 0))).getD i []))) _ HG.out HX.out HN.out (HCVZ.out.below HQ8.out) hl1 (Nat.le_refl _) (HSFZ.out.below HQ8.out) (res_sum HG.out (Nat.le_refl _) _ _ _) (HV4.out.sliceG HG.out (res_mul HG.out (Nat.le_refl _) _ _) (Nat.le_refl _) (by omega)) (res_mul HG.out (Nat.le_refl _) _ _)).mono ?_; rintro e W9 ⟨v5, rfl, hv5, hb9⟩; obtain ⟨p5, c5, rfl⟩ : ∃ p c, v5 = .slice p x.ch.length c := (by obtain ⟨p, c, e⟩ := hv5.val; exact ⟨p, c, by rw [elRows_len] at e; exact e⟩); unfold elVal; have HQ9 := Lib.hid (HQ8.out.trans (hb9.mono HQ8.out.size)); have hrs := HRES.out _ HQ9.out; have t0 := hrs.cell 0 (by simp); have v0_ := hrs.free 0; have t1 := hrs.cell 1 (by simp); have v1_ := hrs.free 1; have t2 := hrs.cell 2 (by simp); have v2_ := hrs.free 2; have t3 := hrs.cell 3 (by simp); have v3_ := hrs.free 3; have t4 := hrs.cell 4 (by simp); have v4_ := hrs.free 4; have t5 := hrs.cell 5 (by simp); have v5_ := hrs.free 5; have HV5 := Lib.hid (OwnR.mono (b2 := w.heap.size + 3) hv5 (by have := HQ8.out.size; have := HNZ.out.lt; omega)); clear hv5 hb9 hrs))
    have NB9 := Lib.hid (HNZ.out.below HQ9.out)
    obtain ⟨g1, g2, g3, g4⟩ := NB9.out.out (.int .i64 x.ch.length) (.bool false) (.slice p5 x.ch.length c5) (.int .i64 x.ch.length) (.bool false) (.slice pv x.ch.length cvv)
    have HW9 := Lib.hid (HOZ.out.below HQ9.out)
    go_wp2_with fail
    have q0 := g1.cell 0 (by simp); have q1 := g1.cell 1 (by simp); have q2 := g1.cell 2 (by simp); have q3 := g1.cell 3 (by simp); have q4 := g1.cell 4 (by simp); have q5 := g1.cell 5 (by simp)
    refine bodyPost_ret (v := .tuple #[.agg #[.int .i64 x.ch.length, .bool false, .slice p5 x.ch.length c5, .int .i64 x.ch.length, .bool false, .slice pv x.ch.length cvv], .int .i64 0]) (by simp [results, Tryz.results23, go_sem, q0, q1, q2, q3, q4, q5]) rfl ?_
    refine ⟨.slice p5 x.ch.length c5, .slice pv x.ch.length cvv, by rw [HY.out]; rfl, ?_, ?_, by rw [HY.out]; exact g2, by rw [HY.out]; exact NB9.out.pos, g3⟩
    · rw [HY.out]
      have h := (HV5.out.grow g4 (by omega)).mono (show w.heap.size ≤ w.heap.size + 3 by omega)
      rw [pub_rows13 HG.out HN.out HZL.out HT.out] at h
      exact h
    · rw [HY.out]; exact (HW9.out.grow g4 (by omega)).mono (by omega)
end Go.Proofs.YtjpcljnojipdnaaGreat
