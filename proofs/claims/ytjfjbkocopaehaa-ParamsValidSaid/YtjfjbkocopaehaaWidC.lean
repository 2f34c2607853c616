/- The wide layer: Valid, valid, times. -/
import Derived.Test.YtjfjbkocopaehaaWidB
import Derived.Deep.AppendSrc
import Derived.Deep.DeepAppendWide
namespace Go.Proofs.Ytjfjbkocopaehaa
open Go.RowKit
set_option linter.unusedVariables false

theorem beS_ne {v n : Nat} (hn : 0 < n) : ¬ ((beS v n).data.toList = []) := by
  intro h
  have : (beS v n).size = 0 := by show (beS v n).data.size = 0; rw [← Array.length_toList, h]; rfl
  rw [beS_size] at this; omega
theorem beS_zero (v : Nat) : beS v 0 = ⟨#[]⟩ := rfl

set_option maxHeartbeats 1000000 in
theorem wvalid_any (v n : Nat) (w : World) (hv : ND 256 v n) (hn : n ≤ 256) :
    Calls Try.prog 114 #[.agg #[.bool false, .string (beS v n)]] w fun e w' => e = .returned (.bool true) ∧ Below w.heap.size w w' := by
  rcases Nat.eq_zero_or_pos n with rfl | hpos
  · rw [beS_zero]
    go_enter Try.func114, Try.ntmps114
    go_wp2_with fail
    go_ret
    exact ⟨rfl, (Below.refl _ _).alloc (Nat.le_refl _) _⟩
  · have hne := beS_ne (v := v) hpos
    have hsz := beS_size v n
    have h0 : ((beS v n)[0]'(by rw [hsz]; exact hpos)).toNat = dig 256 v (n - 1 - 0) := beS_at v n 0 (by rw [hsz]; exact hpos)
    have htop : dig 256 v (n - 1) ≠ 0 := by
      intro h
      have h1 := dig_zero (B := 256) (n := n - 1) (by decide) (by rw [Nat.sub_add_cancel hpos]; exact hv.1) h
      rcases hv.2 with h2 | h2 <;> omega
    obtain ⟨S, hS⟩ : ∃ S, beS v n = S := ⟨_, rfl⟩
    have hb : ∃ (h : 0 < S.size), (S[0]).toNat ≠ 0 := by
      subst hS
      exact ⟨by rw [hsz]; exact hpos, by rw [h0]; simpa using htop⟩
    rw [hS] at hne hsz ⊢
    obtain ⟨hp, hb⟩ := hb
    have HB := Lib.hid hb
    have HNE := Lib.hid hne
    have hle : S.size ≤ 256 := by omega
    clear hS h0 htop hv hsz hb hne hn hpos
    have e1 : (((S[0]).toNat : Int) != 0) = true := by rw [bne_iff_ne]; have := HB.out; omega
    have e3 : S.toList.isEmpty = false := by
      rw [ByteArray.toList_eq]
      cases h : S.data.toList with
      | nil => exact absurd h HNE.out
      | cons _ _ => rfl
    have e4 : decide ((S.size : Int) ≤ 256) = true := decide_eq_true (by omega)
    go_enter Try.func114, Try.ntmps114
    go_wp2_with fail
    go_ret
    exact ⟨rfl, (Below.refl _ _).alloc (Nat.le_refl _) _⟩

set_option maxHeartbeats 1000000 in
theorem wvalid2_any (v n u m g : Nat) (w : World) (hv : ND 256 v n) (hn : n ≤ 256) (hu : ND 256 u m) (hm : m ≤ 256)
    (c0 : w.cell? ⟨g, 0, none⟩ = some (.bool false)) (c1 : w.cell? ⟨g, 1, none⟩ = some (.string (beS v n))) (c2 : w.cell? ⟨g, 2, none⟩ = some (.bool false)) (c3 : w.cell? ⟨g, 3, none⟩ = some (.string (beS u m))) :
    Calls Try.prog 89 #[.slice (some ⟨g, 0, none⟩) 2 2] w fun e w' => e = .returned (.bool true) ∧ Below w.heap.size w w' := by
  have C0 := Lib.hid c0; have C1 := Lib.hid c1; have C2 := Lib.hid c2; have C3 := Lib.hid c3
  have hgw : g < w.heap.size := World.block_lt_of_cell? w ⟨g, 0, none⟩ c0
  have HV := Lib.hid hv; have HU := Lib.hid hu
  clear c0 c1 c2 c3 hv hu
  go_enter Try.func89, Try.ntmps89
  go_wp2_with fail
  go_loopw [4, 7] (fun _ vi wr => ∃ i : Nat, vi = .int .i64 i ∧ i ≤ 2 ∧ Hid (Below w.heap.size w wr)) (fun _ vi _ => 2 - (intOf vi).toNat)
  case atStart => exact ⟨0, rfl, by omega, Below.refl _ _⟩
  case round =>
    obtain ⟨i, rfl, hi, hb⟩ := hrel
    have : i = 0 ∨ i = 1 ∨ i = 2 := by omega
    rcases this with rfl | rfl | rfl
    · have k0 := (below_at hb.out hgw).trans C0.out
      have k1 := (below_at hb.out hgw).trans C1.out
      go_wp2_with fail
      refine (wvalid_any v n _ HV.out hn).mono ?_
      rintro e w1 ⟨rfl, hb1⟩
      have hb2 := Lib.hid (hb.out.trans ((below_then hb1 ((Below.refl _ wr).alloc (Nat.le_refl _) _) (by simp)).mono hb.out.size))
      clear hb1 hb k0 k1
      go_wp2_with fail
      go_roundw
      case rel => exact ⟨1, rfl, by omega, hb2⟩
      case measure => simp [intOf]
    · have k0 := (below_at hb.out hgw).trans C2.out
      have k1 := (below_at hb.out hgw).trans C3.out
      go_wp2_with fail
      refine (wvalid_any u m _ HU.out hm).mono ?_
      rintro e w1 ⟨rfl, hb1⟩
      have hb2 := Lib.hid (hb.out.trans ((below_then hb1 ((Below.refl _ wr).alloc (Nat.le_refl _) _) (by simp)).mono hb.out.size))
      clear hb1 hb k0 k1
      go_wp2_with fail
      go_roundw
      case rel => exact ⟨2, rfl, by omega, hb2⟩
      case measure => simp [intOf]
    · go_wp2_with fail
      go_ret
      exact ⟨rfl, hb.out⟩

theorem len134 : Try.prog.arrayLen 145 = 134 := by kernel_rfl
theorem run_sliceAt134 (a : Addr) (N : Nat) (h : N ≤ 134) (w : World) : (Instr.sliceAt 145 (.pointer (some a)) none (some (.int .i64 N)) none).run Try.prog w = .ok (.slice (some a) N 134) w := by
  have ht : Try.prog.underlying 145 = some (.array (Try.prog.arrayLen 145) (Try.prog.elem 145)) := by kernel_rfl
  have he : Try.prog.elem 145 = 22 := by kernel_rfl
  rw [run_sliceAt_array_h (P := Try.prog) w 145 a ht .i64 (N : Int) (by omega) (by rw [len134]; omega), he, Try.sizeOf22, len134]
  simp [slicedAt, Addr.add]

/-- append(s, x..) where s has length and room 0: a new row. -/
theorem wpList_append_new {P : Program} {w : World} {ops : Array Oper} {rest : List Oper} {o : Oper} {a : Act} {Q : Exit → Act → World → Prop} (hgd : o.guard = none) (s x : Operand) (t tx : TypeId)
    (ho : o.op = .call { callee := .builtin .append, args := #[s, x], argTypes := #[t, tx] }) (e : TypeId) (z : Value) (bytes : Nat) (ht : P.underlying t = some (.slice e)) (hinfo : (P.info? e).map (fun i => (i.zero, i.size, i.bytes)) = some (some z, 1, bytes))
    (base : Option Addr) (hs : a.eval s = .slice base 0 0) (xv : Value) (hx : a.eval x = xv) (n : Nat) (news : List Value) (hsrc : Src P 1 tx xv n news w) (hn : 0 < n) (hbig : n ≤ 1000000) (hby : bytes ≤ 8)
    (hK : ∀ (cap : Nat) (zs : Array Value), n ≤ cap → wpList P ops Q rest (a.put o.dst (.slice (some ⟨w.heap.size, 0, none⟩) n cap)) (w.drew.alloc (.cells (news.toArray ++ zs) e))) : wpList P ops Q (o :: rest) a w := by
  obtain ⟨i, hi, hzz⟩ := Option.map_eq_some_iff.1 hinfo
  simp only [Prod.mk.injEq] at hzz
  obtain ⟨hz1, hs1, hb1⟩ := hzz
  refine wpList_plain hgd fun K hK' => ?_
  have hold : (Builtin.firstCells i.size 0 (.slice base 0 0)).run P w.drew = .ok ([] : List Value).toArray w.drew := by
    cases base with
    | none => exact run_firstCells_none w.drew i.size 0 0 0
    | some b => exact run_firstCells_some w.drew i.size 0 b 0 0 [] (by simp) (by simp)
  have hrun := run_append_grow_src (P := P) (w := w) t tx o.type e i z ht hi hz1 base 0 0 [] hold xv n news (by rw [hs1]; exact hsrc) (by omega) (by simp only [Nat.zero_add]; omega)
    (growslice_fits_wide (by omega) (by
      rw [hb1]
      have : (0 + n + (0 + n) / 4 + 192) * bytes ≤ 2000000 * 8 := Nat.mul_le_mul (by omega) hby
      omega))
  unfold Oper.wp
  simp only [Nat.zero_add, List.nil_append] at hrun
  simp [execOp, ho, resolve, invoke, builtin, hs, hx, hrun, Result.andThen]
  exact hK' _ _ (hK _ _ (grownCap_ge w n 0 e))

theorem u32s_one1 (l : List Nat) : ∀ u, u ∈ u32s l → u.oneCell' = true := by intro u hu; obtain ⟨z, _, rfl⟩ := List.mem_map.1 hu; rfl
theorem rowat_take {w : World} {b off : Nat} {l : List Nat} (h : RowAt w b off l) (n : Nat) : RowAt w b off (l.take n) :=
  ⟨h.blk, fun i hi => by
    have hi' : i < l.length := by rw [List.length_take] at hi; omega
    rw [h.cell i hi', List.getElem_take], fun q hq => h.rng q (List.mem_of_mem_take hq)⟩
theorem u32s_size (l : List Nat) : ((u32s l).toArray).size = l.length := by simp [u32s]
set_option maxHeartbeats 600000 in
set_option maxRecDepth 100000 in
theorem whole_any (L : List Nat) (K V : Nat) (w : World) (hl : L.length = 134) (hK0 : 0 < K) (hK : K ≤ 128) (hV : V < WB ^ K) (hg : ∀ p, p < 134 → L.getD p 0 = dig WB V p) :
    Calls Try.prog 115 #[.agg (u32s L).toArray, .int .i64 K] w fun e w' => (∃ g k cap, e = .returned (.slice (some ⟨g, 0, none⟩) k cap) ∧ ND WB V k ∧ SliceAt w' (.slice (some ⟨g, 0, none⟩) k cap) (digs WB V k)) ∧ Below w.heap.size w w' := by
  have hsl := fun wx => run_sliceAt134 ⟨w.heap.size, 0, none⟩ K (by omega) wx
  have HL := Lib.hid hl; have HV := Lib.hid hV; have HG := Lib.hid hg
  have hbk : Blk ((w.alloc (.cells (u32s L).toArray 145)).alloc (.cells #[] 22)) w.heap.size (u32s L) 145 := (Blk.new w (u32s L).toArray 145).alloc _
  have hbel : Below w.heap.size w ((w.alloc (.cells (u32s L).toArray 145)).alloc (.cells #[] 22)) := ((Below.refl _ _).alloc (Nat.le_refl _) _).alloc (by simp) _
  have hnews : Hid (∀ q u, (u32s (digs WB V K))[q]? = some u → ((w.alloc (.cells (u32s L).toArray 145)).alloc (.cells #[] 22)).cell? ((⟨w.heap.size, 0, none⟩ : Addr).add q) = some u) := by
    intro q u hq
    have hqK : q < K := by
      apply Classical.byContradiction
      intro h
      rw [List.getElem?_eq_none (by unfold u32s; rw [List.length_map, digs_length]; omega)] at hq
      cases hq
    rw [addr_add, Nat.zero_add, hbk.ucell (i := q) (by rw [hl]; omega), hg q (by omega)]
    unfold u32s at hq
    rw [List.getElem?_map, List.getElem?_eq_getElem (by rw [digs_length]; exact hqK), digs_getElem] at hq
    exact hq
  have HBE := Lib.hid hbel
  have hlen : Hid ((u32s (digs WB V K)).length = K) := by show _ = _; unfold u32s; rw [List.length_map, digs_length]
  obtain ⟨cs, hcs⟩ : ∃ cs, (u32s L).toArray = cs := ⟨_, rfl⟩
  rw [hcs] at hnews HBE ⊢
  clear hl hV hg hcs hbk hbel
  go_enter Try.func115, Try.ntmps115
  go_wp2_with (at_builtin; refine wpList_append_new rfl _ _ 115 23 rfl 22 (.int .u32 0) 4 Try.underlying115 infoU32 (some ⟨w.heap.size + 1, 0, none⟩) rfl (.slice (some ⟨w.heap.size, 0, none⟩) K 134) rfl K (u32s (digs WB V K)) ?c1 hK0 ?c2 (by decide) ?_)
  case c1 => exact Src.ofSlice _ Try.underlying23 ⟨w.heap.size, 0, none⟩ K 134 _ (by rw [hlen.out, Nat.mul_one]) hnews.out (u32s_one1 _)
  case c2 => omega
  intro cap zs hcap
  have hsz2 : ((w.alloc (.cells cs 145)).alloc (.cells #[] 22)).heap.size = w.heap.size + 1 + 1 := by simp
  have HBF : Hid (Below w.heap.size w (((w.alloc (.cells cs 145)).alloc (.cells #[] 22)).alloc (.cells ((u32s (digs WB V K)).toArray ++ zs) 22)).drew) := (HBE.out.alloc HBE.out.size _).drew
  have hk3 := Blk.new ((w.alloc (.cells cs 145)).alloc (.cells #[] 22)) ((u32s (digs WB V K)).toArray ++ zs) 22
  rw [hsz2] at hk3
  have HCELL : Hid (∀ i, i < K → (((w.alloc (.cells cs 145)).alloc (.cells #[] 22)).alloc (.cells ((u32s (digs WB V K)).toArray ++ zs) 22)).drew.cell? ⟨w.heap.size + 1 + 1, i, none⟩ = some (.int .u32 (dig WB V i : Nat))) := by
    intro i hi
    have h := hk3.drew.cell i (by rw [Array.toList_append, List.length_append]; simp [u32s, digs_length]; omega)
    rw [h]
    congr 1
    have : ((u32s (digs WB V K)).toArray ++ zs).toList = u32s (digs WB V K) ++ zs.toList := by simp
    simp only [this]
    rw [List.getElem_append_left (by unfold u32s; rw [List.length_map, digs_length]; exact hi)]
    unfold u32s; rw [List.getElem_map, digs_getElem]
  have hlt : w.heap.size + 1 + 1 < (((w.alloc (.cells cs 145)).alloc (.cells #[] 22)).alloc (.cells ((u32s (digs WB V K)).toArray ++ zs) 22)).drew.heap.size := hk3.drew.lt
  clear hk3 hsl hnews hlen HBE hsz2
  go_wp2_with fail
  generalize (((w.alloc (.cells cs 145)).alloc (.cells #[] 22)).alloc (.cells ((u32s (digs WB V K)).toArray ++ zs) 22)).drew = W3 at HBF HCELL hlt ⊢
  generalize w.heap.size + 1 + 1 = g3 at HCELL hlt ⊢
  have HR : Hid (RowAt W3 g3 0 (digs WB V K)) := ⟨hlt, fun i hi => by rw [digs_length] at hi; rw [Nat.zero_add, digs_getElem]; exact HCELL.out i hi, digs_bd (by decide)⟩
  refine (norm_any g3 0 cap K V _ (fun _ => HR.out) hcap (by omega) HV.out).mono ?_
  rintro e w' ⟨⟨k, rfl, hk, hnd⟩, rfl⟩
  have HND := Lib.hid hnd
  clear hnd
  go_wp2_with fail
  go_ret
  refine ⟨⟨g3, k, cap, rfl, HND.out, ?_⟩, HBF.out⟩
  have h1 : RowAt w' g3 0 ((digs WB V K).take k) := rowat_take HR.out k
  rw [digs_take _ _ hk] at h1
  exact ⟨some ⟨g3, 0, none⟩, cap, by rw [digs_length], by rw [digs_length]; omega, by rw [digs_length]; omega, fun _ => ⟨g3, 0, rfl, h1⟩⟩

set_option maxHeartbeats 4000000 in
set_option maxRecDepth 100000 in
theorem times_any (v u n m : Nat) (pv pu : Value) (w : World) (hv : SliceAt w pv (digs WB v n)) (hu : SliceAt w pu (digs WB u m)) (hvn : v < WB ^ n) (hum : u < WB ^ m) (hn : n ≤ 64) (hm : m ≤ 64) (h0 : 0 < n + m) :
    Calls Try.prog 90 #[pv, pu] w fun e w' => (∃ g k cap, e = .returned (.slice (some ⟨g, 0, none⟩) k cap) ∧ ND WB (v * u) k ∧ SliceAt w' (.slice (some ⟨g, 0, none⟩) k cap) (digs WB (v * u) k)) ∧ Below w.heap.size w w' := by
  have HVS := Lib.hid hv; have HUS := Lib.hid hu
  obtain ⟨pa, ca, rfl⟩ : ∃ p c, pv = .slice p n c := by obtain ⟨p, c, e, _⟩ := hv; rw [digs_length] at e; exact ⟨p, c, e⟩
  obtain ⟨pb, cb, rfl⟩ : ∃ p c, pu = .slice p m c := by obtain ⟨p, c, e, _⟩ := hu; rw [digs_length] at e; exact ⟨p, c, e⟩
  have HV := Lib.hid hvn; have HU := Lib.hid hum
  clear hv hu hvn hum
  go_enter Try.func90, Try.ntmps90
  go_wp2_with fail
  have hB : Below w.heap.size w (w.alloc (.cells Try.zeroCells145 145)) := (Below.refl _ _).alloc (Nat.le_refl _) _
  have hK : Blk (w.alloc (.cells Try.zeroCells145 145)) w.heap.size (u32s (List.replicate 134 0)) 145 := by
    have h := Blk.new w Try.zeroCells145 145
    have e : Try.zeroCells145.toList = u32s (List.replicate 134 0) := by kernel_rfl
    rw [e] at h; exact h
  have HB0 := Lib.hid hB
  have HK0 := Lib.hid hK
  clear hB hK
  generalize (w.alloc (.cells Try.zeroCells145 145)) = W at HB0 HK0 ⊢
  go_loopw [6, 7, 8, 11] (fun _ _ _ vi wr => ∃ (i : Nat) (L : List Nat), vi = .int .i64 i ∧ i ≤ n ∧ Hid (Blk wr w.heap.size (u32s L) 145) ∧ Hid (L.length = 134) ∧ Hid (∀ p, p < 134 → L.getD p 0 = dig WB (rowT WB v u i) p) ∧ Hid (Below w.heap.size w wr)) (fun _ _ _ vi _ => n - (intOf vi).toNat)
  case atStart => exact ⟨0, _, rfl, by omega, HK0, by simp [Hid], fun p hp => by
    rw [rowT_zero, List.getD_eq_getElem?_getD, List.getElem?_replicate]; simp [hp, dig], HB0⟩
  case round =>
    obtain ⟨i, L, rfl, hi, hk, hl, hg, hb⟩ := hrel
    by_cases hin : i < n
    case neg =>
      obtain rfl : n = i := by omega
      have hu := Lib.hid Try.underlying145
      have z1 := Lib.hid (show (Try.prog.info? 145).map (·.size) = some ((u32s L).toArray).size by rw [u32s_size, hl.out]; kernel_rfl)
      have hgg : Hid (∀ p, p < 134 → L.getD p 0 = dig WB (v * u) p) := fun p hp => by rw [hg.out p hp, rowT_full HV.out]
      have hvu : Hid (v * u < WB ^ (n + m)) := by show _ < _; rw [← rowT_full (b := u) HV.out]; exact rowT_lt (by decide) HU.out
      have hbk := hk.out
      unfold Blk at hbk
      obtain ⟨cs, hcs⟩ : ∃ cs, (u32s L).toArray = cs := ⟨_, rfl⟩
      have HCS := Lib.hid hcs
      rw [hcs] at hbk z1
      have HBK := Lib.hid hbk
      clear hbk hcs
      go_wp2_with (refine wpList_load_row rfl 145 _ rfl w.heap.size rfl 145 _ (0, 0) _ HBK.out hu.out rfl z1.out ?_)
      have eK : ((n : Int) + (m : Int)) = ((n + m : Nat) : Int) := by omega
      rw [eK, ← HCS.out]
      refine (whole_any L (n + m) (v * u) _ hl.out h0 (by omega) hvu.out hgg.out).mono ?_
      rintro e w' ⟨⟨g, k, cap, rfl, hnd, hs⟩, hbw⟩
      have HND := Lib.hid hnd; have HS := Lib.hid hs
      have HBW := Lib.hid (hb.out.trans (hbw.mono hb.out.size))
      clear hnd hs hbw eK
      go_wp2_with fail
      go_ret
      exact ⟨⟨g, k, cap, rfl, HND.out, HS.out⟩, HBW.out⟩
    case pos =>
    have i1 : (i : Int) < (n : Int) := by omega
    have i0 : (0 : Int) ≤ (i : Int) := by omega
    go_wp2_with fail
    go_loopw [7, 8, 16] (fun vc _ vk wr => ∃ (k : Nat) (L : List Nat), vk = .int .i64 k ∧ k ≤ m ∧ vc = .int .u64 (rowC WB v u i k : Nat) ∧ Hid (Blk wr w.heap.size (u32s L) 145) ∧ Hid (L.length = 134) ∧ Hid (∀ p, p < 134 → L.getD p 0 = rowF WB v u i k p) ∧ Hid (Below w.heap.size w wr)) (fun _ _ vk _ => m - (intOf vk).toNat)
    case atStart => exact ⟨0, L, rfl, by omega, by rw [rowC_zero]; rfl, hk, hl, fun p hp => by rw [rowF_zero]; exact hg.out p hp, hb⟩
    case round =>
      obtain ⟨k, L2, rfl, hk0, rfl, hk2, hl2, hg2, hb2⟩ := hrel
      by_cases hkm : k < m
      case neg =>
        obtain rfl : m = k := by omega
        have hc0 := rowC_lt (a := v) (b := u) (i := i) (k := m) (B := WB) (by decide)
        have HF : Hid (∀ p, dig WB (rowT WB v u (i + 1)) p = if p = i + m then rowC WB v u i m else rowF WB v u i m p) := fun p => rowF_last (by decide) HU.out
        generalize rowC WB v u i m = c at hc0 HF ⊢
        have hWB : WB = 4294967296 := rfl
        rw [hWB] at hc0
        have kt := hk2.out.ucell (i := i + m) (by rw [hl2.out]; omega)
        have kf := hk2.out.free (i + m)
        have q0 : (0 : Int) ≤ ((i + m : Nat) : Int) := by omega
        have q1 : ((i + m : Nat) : Int) < 134 := by omega
        have e1 : IntKind.i64.wrap ((i : Int) + (m : Int)) = ((i + m : Nat) : Int) := by rw [IntKind.wrap_i64]; omega
        have em : (c : Int) % 4294967296 = (c : Int) := by omega
        clear hWB
        go_wp2_with fail
        go_roundw
        case rel => exact ⟨i + 1, L2.set (i + m) c, by go_num, by omega, hk2.out.uset _ _, by show _ = _; rw [List.length_set]; exact hl2.out, fun p hp => by
          rw [ngetD_set _ _ _ _ (by rw [hl2.out]; exact hp), HF.out p]
          by_cases e : i + m = p
          · rw [if_pos e, if_pos e.symm]
          · rw [if_neg e, if_neg (fun h => e h.symm)]; exact hg2.out p hp, hb2.out.setCell (p := ⟨w.heap.size, i + m, none⟩) (Nat.le_refl _) _⟩
        case measure => simp [intOf]; omega
      case pos =>
      obtain ⟨_, _, ea, _, _, hca⟩ := HVS.out
      obtain ⟨_, _, eb, _, _, hcb⟩ := HUS.out
      obtain ⟨ba, oa, hpa, hra⟩ := hca (by intro h; have := congrArg List.length h; rw [digs_length] at this; simp at this; omega)
      obtain ⟨bb, ob, hpb, hrb⟩ := hcb (by intro h; have := congrArg List.length h; rw [digs_length] at this; simp at this; omega)
      injection ea with ea1 ea2 ea3
      injection eb with eb1 eb2 eb3
      clear ea2 ea3 eb2 eb3
      subst ea1 eb1 hpa hpb
      have ka := (below_at hb2.out hra.blk).trans (hra.cell i (by rw [digs_length]; exact hin))
      have kb := (below_at hb2.out hrb.blk).trans (hrb.cell k (by rw [digs_length]; exact hkm))
      rw [digs_getElem] at ka kb
      have kt := hk2.out.ucell (i := i + k) (by rw [hl2.out]; omega)
      have kf := hk2.out.free (i + k)
      rw [hg2.out (i + k) (by omega), rowF_at] at kt
      have hbd := row_bd (a := v) (b := u) (i := i) (k := k) (B := WB) (by decide)
      have hA := dig_lt (B := WB) (by decide) v i
      have hC := dig_lt (B := WB) (by decide) u k
      have hD := dig_lt (B := WB) (by decide) (rowT WB v u i) (i + k)
      have hc0 := rowC_lt (a := v) (b := u) (i := i) (k := k) (B := WB) (by decide)
      have HF : Hid (∀ p, rowF WB v u i (k + 1) p = if p = i + k then (rowC WB v u i k + dig WB (rowT WB v u i) (i + k) + dig WB v i * dig WB u k) % WB else rowF WB v u i k p) := fun p => rowF_step (by decide)
      have HCC : Hid (rowC WB v u i (k + 1) = (rowC WB v u i k + dig WB (rowT WB v u i) (i + k) + dig WB v i * dig WB u k) / WB) := row_carry (by decide)
      generalize dig WB v i = A at ka hA hbd HF HCC
      generalize dig WB u k = C at kb hC hbd HF HCC
      generalize dig WB (rowT WB v u i) (i + k) = D at kt hD hbd HF HCC
      generalize rowC WB v u i k = c at hc0 hbd HF HCC ⊢
      obtain ⟨P, hP⟩ : ∃ P, A * C = P := ⟨_, rfl⟩
      have eP : (A : Int) * (C : Int) = (P : Int) := by rw [← hP, Int.natCast_mul]
      rw [hP] at hbd HF HCC
      have hWB : WB = 4294967296 := rfl
      have hWW : WB * WB = 18446744073709551616 := rfl
      rw [hWW] at hbd
      rw [hWB] at hA hC hD hc0
      obtain ⟨s, hs⟩ : ∃ s, c + D + P = s := ⟨_, rfl⟩
      rw [hs] at hbd HF HCC
      have eS : (c : Int) + ((D : Int) + (P : Int)) = (s : Int) := by omega
      have e1 : IntKind.i64.wrap ((i : Int) + (k : Int)) = ((i + k : Nat) : Int) := by rw [IntKind.wrap_i64]; omega
      have q0 : (0 : Int) ≤ ((i + k : Nat) : Int) := by omega
      have q1 : ((i + k : Nat) : Int) < 134 := by omega
      have wA : IntKind.u64.wrap (A : Int) = (A : Int) := wraps_u64 _ (by omega) (by omega)
      have wC : IntKind.u64.wrap (C : Int) = (C : Int) := wraps_u64 _ (by omega) (by omega)
      have wD : IntKind.u64.wrap (D : Int) = (D : Int) := wraps_u64 _ (by omega) (by omega)
      have wP : IntKind.u64.wrap (P : Int) = (P : Int) := wraps_u64 _ (by omega) (by omega)
      have wDP : IntKind.u64.wrap ((D : Int) + (P : Int)) = (D : Int) + (P : Int) := wraps_u64 _ (by omega) (by omega)
      have wS : IntKind.u64.wrap (s : Int) = (s : Int) := wraps_u64 _ (by omega) (by omega)
      have k1 : (k : Int) < (m : Int) := by omega
      have k00 : (0 : Int) ≤ (k : Int) := by omega
      have HBD := Lib.hid hbd
      clear hP hs hWB hWW hca hcb hbd
      go_wp2_with fail
      go_quiet (fail)
      go_wp2_with fail
      have em : (s : Int) % 4294967296 = ((s % 4294967296 : Nat) : Int) := by omega
      have ed : (s : Int) / 4294967296 = ((s / 4294967296 : Nat) : Int) := by omega
      go_roundw
      case rel => exact ⟨k + 1, L2.set (i + k) (s % 4294967296), by go_num, by omega, by rw [HCC.out]; exact congrArg (Value.int .u64) ed, by rw [em]; exact (hk2.out.drewN _).uset _ _, by show _ = _; rw [List.length_set]; exact hl2.out, fun p hp => by
        rw [ngetD_set _ _ _ _ (by rw [hl2.out]; exact hp), HF.out p]
        by_cases e : i + k = p
        · rw [if_pos e, if_pos e.symm]; rfl
        · rw [if_neg e, if_neg (fun h => e h.symm)]; exact hg2.out p hp, (below_drewN hb2.out _).setCell (p := ⟨w.heap.size, i + k, none⟩) (Nat.le_refl _) _⟩
      case measure => simp [intOf]; omega

end Go.Proofs.Ytjfjbkocopaehaa
