/- The wide layer: bytes and words; norm, of. -/
import Derived.Test.YtjfjbkocopaehaaWidA
import Derived.Test.YtjfjbkocopaehaaKeyR
import Derived.Test.YtjfjbkocopaehaaSupB
import Derived.Deep.QuietTactic
import Derived.BigQuiet
import Derived.BigRegion
namespace Go.Proofs.Ytjfjbkocopaehaa
open Go.RowKit
set_option linter.unusedVariables false

/-- The bytes of a number, the highest first. -/
def beS (v n : Nat) : ByteArray := ⟨((List.range n).map (fun i => UInt8.ofNat (dig 256 v (n - 1 - i)))).toArray⟩
theorem beS_size (v n : Nat) : (beS v n).size = n := by
  show ((List.range n).map _).toArray.size = n
  simp
theorem beS_at (v n i : Nat) (h : i < (beS v n).size) : ((beS v n)[i]).toNat = dig 256 v (n - 1 - i) := by
  have hb := dig_lt (B := 256) (by decide) v (n - 1 - i)
  have e : (beS v n)[i] = UInt8.ofNat (dig 256 v (n - 1 - i)) := by
    show ((List.range n).map (fun i => UInt8.ofNat (dig 256 v (n - 1 - i)))).toArray[i]'(by simpa [beS_size] using h) = _
    simp
  rw [e]
  simp only [UInt8.toNat_ofNat']
  exact Nat.mod_eq_of_lt (by simpa using hb)
def WB : Nat := 4294967296
theorem WB_pow (j : Nat) : WB ^ j = 256 ^ (4 * j) := by rw [show WB = 256 ^ 4 from rfl, ← Nat.pow_mul]
theorem byte_word {v j t : Nat} (ht : t < 4) : dig WB v j / 256 ^ t % 256 = dig 256 v (4 * j + t) := by
  unfold dig
  rw [WB_pow, Nat.pow_add, ← Nat.div_div_eq_div_mul]
  generalize v / 256 ^ (4 * j) = y
  have : t = 0 ∨ t = 1 ∨ t = 2 ∨ t = 3 := by omega
  unfold WB
  rcases this with rfl | rfl | rfl | rfl <;> simp only [Nat.reducePow, Nat.div_one] <;> omega
/-- A word, its bytes from K on. -/
def wd (v K j : Nat) : Nat := dig WB v j / 256 ^ (min 4 (K - 4 * j)) * 256 ^ (min 4 (K - 4 * j))
theorem wd_zero (v j : Nat) : wd v 0 j = dig WB v j := by unfold wd; simp
theorem wd_start {v n j : Nat} (h : v < 256 ^ n) : wd v n j = 0 := by
  unfold wd
  have hlt : dig WB v j < 256 ^ (min 4 (n - 4 * j)) := by
    by_cases h4 : 4 ≤ n - 4 * j
    · rw [Nat.min_eq_left h4]; exact dig_lt (by decide) v j
    · rw [Nat.min_eq_right (by omega)]
      unfold dig
      rw [WB_pow]
      refine Nat.lt_of_le_of_lt (Nat.mod_le _ _) ?_
      by_cases hn : 4 * j ≤ n
      · rw [Nat.div_lt_iff_lt_mul (Nat.pow_pos (by decide)), ← Nat.pow_add, Nat.sub_add_cancel hn]; exact h
      · have : 256 ^ n ≤ 256 ^ (4 * j) := Nat.pow_le_pow_right (by decide) (by omega)
        rw [Nat.div_eq_of_lt (by omega)]; exact Nat.pow_pos (by decide)
  rw [Nat.div_eq_of_lt hlt]; simp
theorem wd_other {v k j : Nat} (h : j ≠ k / 4) : wd v k j = wd v (k + 1) j := by
  unfold wd
  have : min 4 (k - 4 * j) = min 4 (k + 1 - 4 * j) := by omega
  rw [this]
theorem wd_step {v k : Nat} : wd v k (k / 4) = wd v (k + 1) (k / 4) + dig 256 v k * 256 ^ (k % 4) ∧ wd v (k + 1) (k / 4) % 256 ^ (k % 4 + 1) = 0 ∧ wd v (k + 1) (k / 4) < 4294967296 := by
  have h1 : min 4 (k - 4 * (k / 4)) = k % 4 := by omega
  have h2 : min 4 (k + 1 - 4 * (k / 4)) = k % 4 + 1 := by omega
  have hb := byte_word (v := v) (j := k / 4) (t := k % 4) (by omega)
  rw [show 4 * (k / 4) + k % 4 = k by omega] at hb
  have hu := dig_lt (B := WB) (by decide) v (k / 4)
  unfold wd
  rw [h1, h2]
  refine ⟨?_, Nat.mul_mod_left _ _, ?_⟩
  · have h3 := Nat.div_add_mod (dig WB v (k / 4) / 256 ^ (k % 4)) 256
    rw [hb, Nat.div_div_eq_div_mul, ← Nat.pow_succ] at h3
    rw [← h3, Nat.add_mul]
    congr 1
    rw [Nat.mul_comm 256, Nat.mul_assoc, Nat.mul_comm 256, ← Nat.pow_succ]
  · have := Nat.div_mul_le_self (dig WB v (k / 4)) (256 ^ (k % 4 + 1))
    exact Nat.lt_of_le_of_lt this hu

set_option maxHeartbeats 1000000 in
theorem norm_any (b off cap N v : Nat) (w : World) (hr : 0 < N → RowAt w b off (digs WB v N)) (hcap : N ≤ cap) (hN : N ≤ 1000) (hv : v < WB ^ N) :
    Calls Try.prog 112 #[.slice (some ⟨b, off, none⟩) N cap] w fun e w' => (∃ n, e = .returned (.slice (some ⟨b, off, none⟩) n cap) ∧ n ≤ N ∧ ND WB v n) ∧ w' = w := by
  have HV := Lib.hid hv
  have HR := Lib.hid hr
  clear hv hr
  go_enter Try.func112, Try.ntmps112
  go_wp2_with fail
  go_loop [0] (fun v0 => ∃ n : Nat, v0 = .slice (some ⟨b, off, none⟩) n cap ∧ n ≤ N ∧ Hid (v < WB ^ n)) (fun v0 => match v0 with | .slice _ n _ => n | _ => 0)
  case atStart => exact ⟨N, rfl, Nat.le_refl _, HV⟩
  case round =>
    obtain ⟨n, rfl, hn, hlt⟩ := hrel
    rcases Nat.eq_zero_or_pos n with rfl | hpos
    · have HD : Hid (ND WB v 0) := ⟨hlt.out, .inl rfl⟩
      go_wp2_with fail
      go_ret
      exact ⟨⟨0, rfl, by omega, HD.out⟩, rfl⟩
    · obtain ⟨m, rfl⟩ : ∃ m, n = m + 1 := ⟨n - 1, by omega⟩
      have hc := (HR.out (by omega)).cell m (by rw [digs_length]; omega)
      rw [digs_getElem] at hc
      obtain ⟨d, hd⟩ : ∃ d, dig WB v m = d := ⟨_, rfl⟩
      rw [hd] at hc
      have m0 : (0 : Int) ≤ (m : Int) := by omega
      have m1 : (m : Int) < (m : Int) + 1 := by omega
      have m2 : (0 : Int) < (m : Int) + 1 := by omega
      by_cases hz : d = 0
      · subst hz
        have HL : Hid (v < WB ^ m) := dig_zero (by decide) hlt.out hd
        clear hd
        go_wp2_with fail
        exact ⟨⟨m, rfl, by omega, HL⟩, by show m < m + 1; omega⟩
      · have HD : Hid (ND WB v (m + 1)) := dig_top (by decide) hlt.out (by rw [hd]; exact hz)
        have hz1 : ((d : Int) == 0) = false := by rw [beq_eq_false_iff_ne]; omega
        clear hd
        go_wp2_with fail
        go_ret
        exact ⟨⟨m + 1, rfl, hn, HD.out⟩, rfl⟩

theorem u32_wf {d : Nat} (h : d < 4294967296) : (Lit.int .u32 (d : Int)).wf = true := by
  simp [Lit.wf, IntKind.min, IntKind.max, IntKind.bits, IntKind.signed]; omega
theorem SliceAt.ofBlk {w : World} {g n cap : Nat} {L : List Nat} {T : TypeId} (h : Blk w g (u32s L) T) (hn : n ≤ L.length) (hc : n ≤ cap) (hl : n ≤ 140737488351232) (hr : ∀ q, q ∈ L → q < 4294967296) : SliceAt w (.slice (some ⟨g, 0, none⟩) n cap) (L.take n) := by
  have hlen : (L.take n).length = n := by rw [List.length_take]; omega
  refine ⟨some ⟨g, 0, none⟩, cap, by rw [hlen], by rw [hlen]; exact hc, by rw [hlen]; exact hl, fun _ => ⟨g, 0, rfl, h.lt, fun i hi => ?_, fun q hq => hr q (List.mem_of_mem_take hq)⟩⟩
  have hi' : i < n := by omega
  have := h.cell i (by unfold u32s; rw [List.length_map]; omega)
  rw [Nat.zero_add, this, List.getElem_take]
  unfold u32s; rw [List.getElem_map]
theorem RowAt.ofBlk {w : World} {g : Nat} {L : List Nat} {T : TypeId} (h : Blk w g (u32s L) T) (hr : ∀ q, q ∈ L → q < 4294967296) : RowAt w g 0 L :=
  ⟨h.lt, fun i hi => by
    have := h.cell i (by unfold u32s; rw [List.length_map]; omega)
    rw [Nat.zero_add, this]; unfold u32s; rw [List.getElem_map], hr⟩
theorem digs_bd {B v n : Nat} (hB : 0 < B) : ∀ q, q ∈ digs B v n → q < B := by
  intro q hq
  obtain ⟨i, _, rfl⟩ := List.mem_map.1 hq
  exact dig_lt hB v i
theorem Blk.ucell {w : World} {g : Nat} {L : List Nat} {T : TypeId} (h : Blk w g (u32s L) T) {i : Nat} (hi : i < L.length) : w.cell? ⟨g, i, none⟩ = some (.int .u32 (L.getD i 0 : Nat)) := by
  have := h.cell i (by unfold u32s; rw [List.length_map]; omega)
  rw [this]; unfold u32s; rw [List.getElem_map, List.getD_eq_getElem?_getD, List.getElem?_eq_getElem hi]; rfl
theorem Blk.uset {w : World} {g : Nat} {L : List Nat} {T : TypeId} (h : Blk w g (u32s L) T) (i d : Nat) : Blk (w.setCell ⟨g, i, none⟩ (.int .u32 d)) g (u32s (L.set i d)) T := by
  have := h.set i (.int .u32 d)
  unfold u32s at this ⊢
  rw [List.map_set]; exact this
theorem ngetD_set (l : List Nat) (i p v : Nat) (hp : p < l.length) : (l.set i v).getD p 0 = if i = p then v else l.getD p 0 := by
  rw [List.getD_eq_getElem?_getD, List.getElem?_set, List.getD_eq_getElem?_getD]
  by_cases h : i = p
  · subst h; rw [if_pos rfl, if_pos rfl, if_pos hp]; rfl
  · rw [if_neg h, if_neg h]

theorem wraps_u32 (n : Int) (h₀ : 0 ≤ n) (h₁ : n < 2 ^ 32) : IntKind.u32.wrap n = n := by rw [IntKind.wrap_u32]; omega
theorem word_or {X b t : Nat} (hX : X < 4294967296) (hm : X % 256 ^ (t + 1) = 0) (hb : b < 256) (ht : t < 4) :
    bits .or .u32 (X : Int) ((b : Int) % 4294967296 * 2 ^ (8 * t) % 4294967296) = ((X + b * 256 ^ t : Nat) : Int) := by
  have : t = 0 ∨ t = 1 ∨ t = 2 ∨ t = 3 := by omega
  rcases this with rfl | rfl | rfl | rfl
  · simp only [Nat.reducePow, Nat.reduceAdd, Nat.reduceMul] at hm ⊢
    rw [bits_join .u32 32 (by decide) wraps_u32 8 _ _ (by omega) (by omega) (by omega) (by omega) (by omega) (by omega)]; omega
  · simp only [Nat.reducePow, Nat.reduceAdd, Nat.reduceMul] at hm ⊢
    rw [bits_join .u32 32 (by decide) wraps_u32 16 _ _ (by omega) (by omega) (by omega) (by omega) (by omega) (by omega)]; omega
  · simp only [Nat.reducePow, Nat.reduceAdd, Nat.reduceMul] at hm ⊢
    rw [bits_join .u32 32 (by decide) wraps_u32 24 _ _ (by omega) (by omega) (by omega) (by omega) (by omega) (by omega)]; omega
  · simp only [Nat.reducePow, Nat.reduceAdd, Nat.reduceMul] at hm ⊢
    rw [bits_join .u32 32 (by decide) wraps_u32 32 _ _ (by omega) (by omega) (by omega) (by omega) (by omega) (by omega)]; omega

set_option maxHeartbeats 2000000 in
set_option maxRecDepth 100000 in
theorem of_any (v n : Nat) (neg : Bool) (w : World) (hv : v < 256 ^ n) (hn : n ≤ 256) :
    Calls Try.prog 91 #[.agg #[.bool neg, .string (beS v n)]] w fun e w' => (∃ g m cap, e = .returned (.slice (some ⟨g, 0, none⟩) m cap) ∧ ND WB v m ∧ m ≤ (n + 3) / 4 ∧ SliceAt w' (.slice (some ⟨g, 0, none⟩) m cap) (digs WB v m) ∧ w.heap.size ≤ g) ∧ Below w.heap.size w w' := by
  obtain ⟨M, hM⟩ : ∃ M, M = (n + 3) / 4 := ⟨_, rfl⟩
  have hmk := fun wx => run_make_row' (P := Try.prog) 115 22 (.int .u32 0) 4 Try.underlying115 infoU32 rfl .i64 .i64 M (by omega) (by omega) wx
  obtain ⟨S, hS⟩ : ∃ S, beS v n = S := ⟨_, rfl⟩
  have hsz : S.size = n := by rw [← hS]; exact beS_size v n
  have HAT : Hid (∀ i (h : i < S.size), (S[i]).toNat = dig 256 v (n - 1 - i)) := by rw [← hS]; exact beS_at v n
  rw [hS]
  have e1 : IntKind.i64.wrap (((n : Int) + 3) / 4) = (M : Int) := by rw [hM, IntKind.wrap_i64]; omega
  have e2 : ((n : Int) + 3) / 4 = (M : Int) := by rw [hM]; omega
  have hM4 : M ≤ 64 := by omega
  have HV := Lib.hid hv
  have hM1 : n ≤ 4 * M := by omega
  have HM := Lib.hid hM
  subst hsz
  clear hS hv hM
  go_enter Try.func91, Try.ntmps91
  go_wp2_with fail
  have hb0 : Below w.heap.size w ((w.alloc (.cells #[.bool neg, .string S] 69)).alloc (.cells (madeCells #[.int .u32 0] M) 22)) := ((Below.refl _ _).alloc (Nat.le_refl _) _).alloc (by simp) _
  have hx1 : ((w.alloc (.cells #[.bool neg, .string S] 69)).alloc (.cells (madeCells #[.int .u32 0] M) 22)).cell? ⟨w.heap.size, 1, none⟩ = some (.string S) := by simp [go_sem]
  have hk0 : Blk ((w.alloc (.cells #[.bool neg, .string S] 69)).alloc (.cells (madeCells #[.int .u32 0] M) 22)) (w.heap.size + 1) (u32s (List.replicate M 0)) 22 := by
    have h := Blk.new (w.alloc (.cells #[.bool neg, .string S] 69)) (madeCells #[.int .u32 0] M) 22
    rw [made_list] at h
    unfold u32s; rw [List.map_replicate]; simpa using h
  have HB0 := Lib.hid hb0
  have HX := Lib.hid hx1
  have HK := Lib.hid hk0
  clear hb0 hx1 hk0 hmk e1 e2
  generalize ((w.alloc (.cells #[.bool neg, .string S] 69)).alloc (.cells (madeCells #[.int .u32 0] M) 22)) = W at HB0 HX HK ⊢
  go_loopw [4, 5, 15] (fun _ _ vi wr => ∃ (i : Nat) (L : List Nat), vi = .int .i64 i ∧ i ≤ S.size ∧ Hid (wr.cell? ⟨w.heap.size, 1, none⟩ = some (.string S)) ∧ Hid (Blk wr (w.heap.size + 1) (u32s L) 22) ∧ Hid (Below w.heap.size w wr) ∧ Hid (L.length = M) ∧ Hid (∀ j, j < M → L.getD j 0 = wd v (S.size - i) j)) (fun _ _ vi _ => S.size - (intOf vi).toNat)
  case atStart => exact ⟨0, _, rfl, by omega, HX, HK, HB0, by simp [Hid], fun j hj => by
    rw [Nat.sub_zero, wd_start HV.out, List.getD_eq_getElem?_getD, List.getElem?_replicate]; simp [hj]⟩
  case round =>
    obtain ⟨i, L, rfl, hi, hx, hk, hb, hl, hg⟩ := hrel
    by_cases hlt : i < S.size
    · obtain ⟨k, hk1⟩ : ∃ k, k = S.size - 1 - i := ⟨_, rfl⟩
      have x1 := hx.out
      have hK : S.size - i = k + 1 := by omega
      obtain ⟨j, hj⟩ : ∃ j, j = k / 4 := ⟨_, rfl⟩
      obtain ⟨t, ht⟩ : ∃ t, t = k % 4 := ⟨_, rfl⟩
      have hjM : j < M := by omega
      obtain ⟨b, hb0⟩ : ∃ b, (S[i]).toNat = b := ⟨_, rfl⟩
      have hbd : Hid (dig 256 v k = b) := by show _ = _; rw [← hb0, HAT.out i hlt, hk1]
      have hb256 : b < 256 := by rw [← hb0]; exact UInt8.toNat_lt _
      have hst := wd_step (v := v) (k := k)
      rw [← hj, ← ht, hbd.out, ← hK] at hst
      obtain ⟨X, hX⟩ : ∃ X, wd v (S.size - i) j = X := ⟨_, rfl⟩
      rw [hX] at hst
      have cj : wr.cell? ⟨w.heap.size + 1, j, none⟩ = some (.int .u32 (X : Nat)) := by
        have := hk.out.ucell (i := j) (by rw [hl.out]; exact hjM)
        rw [this, hg.out j hjM, hX]
      have fj := hk.out.free j
      have j0 : (0 : Int) ≤ (j : Int) := by omega
      have j1 : (j : Int) < (M : Int) := by omega
      have e1 : (S.size : Int) - 1 - (i : Int) = (k : Int) := by omega
      have e3 : (k : Int) / 4 = (j : Int) := by omega
      have e4 : (k : Int) % 4 = (t : Int) := by omega
      have HST := Lib.hid hst
      have i0 : (0 : Int) ≤ (i : Int) := by omega
      have i1 : (i : Int) < (S.size : Int) := by omega
      have t0 : (0 : Int) ≤ 8 * (t : Int) := by omega
      have t3 : t < 4 := by omega
      have e5 : IntKind.i64.wrap (8 * (t : Int)) = ((8 * t : Nat) : Int) := by rw [IntKind.wrap_i64]; omega
      have e6 : IntKind.i64.wrap ((k : Int) / 4) = (j : Int) := by rw [IntKind.wrap_i64]; omega
      have HJ := Lib.hid hj; have HK1 := Lib.hid hk1; have HKK := Lib.hid hK; have HXX := Lib.hid hX; have HB1 := Lib.hid hb0
      clear hj hk1 hK hst hX ht hb0
      go_wp2_with fail
      go_region
      rw [HB1.out, word_or HST.out.2.2 HST.out.2.1 hb256 t3, ← HST.out.1]
      have hjk : Hid (j = k / 4) := HJ.out
      have hg2 : Hid (∀ q, q < M → (L.set j (wd v k j)).getD q 0 = wd v (S.size - (i + 1)) q) := fun q hq => by
        rw [ngetD_set _ _ _ _ (by rw [hl.out]; exact hq), show S.size - (i + 1) = k by have := HK1.out; omega]
        by_cases e : j = q
        · rw [if_pos e, e]
        · rw [if_neg e, hg.out q hq, HKK.out]; exact (wd_other (by rw [← hjk.out]; omega)).symm
      have hl2 : Hid ((L.set j (wd v k j)).length = M) := by show _ = _; rw [List.length_set]; exact hl.out
      have hk2 := Lib.hid (hk.out.uset j (wd v k j)).drew
      have hb2 := Lib.hid (hb.out.setCell (p := ⟨w.heap.size + 1, j, none⟩) (by show w.heap.size ≤ w.heap.size + 1; omega) (.int .u32 (wd v k j : Nat))).drew
      have hx2 : Hid ((wr.setCell ⟨w.heap.size + 1, j, none⟩ (.int .u32 (wd v k j : Nat))).drew.cell? ⟨w.heap.size, 1, none⟩ = some (.string S)) := by
        show _ = _
        have := World.cell?_setCell_other wr ⟨w.heap.size + 1, j, none⟩ ⟨w.heap.size, 1, none⟩ (.int .u32 (wd v k j : Nat)) (by intro e; injection e with e; omega)
        exact this.trans hx.out
      clear x1 cj fj HST HXX HKK
      go_wp2_with fail
      go_roundw
      case rel => exact ⟨i + 1, _, by go_num, by omega, hx2, hk2, hb2, hl2, hg2⟩
      case measure => simp [intOf]; omega
    · obtain rfl : S.size = i := by omega
      have hL : Hid (L = digs WB v M) := list_digs hl.out (fun q hq => by rw [hg.out q hq, Nat.sub_self, wd_zero])
      have hkk : Hid (Blk wr (w.heap.size + 1) (u32s (digs WB v M)) 22) := by rw [← hL.out]; exact hk.out
      have hvM : Hid (v < WB ^ M) := by
        show v < WB ^ M
        rw [WB_pow]
        exact Nat.lt_of_lt_of_le HV.out (Nat.pow_le_pow_right (by decide) hM1)
      go_wp2_with fail
      refine (norm_any (w.heap.size + 1) 0 M M v _ (fun _ => RowAt.ofBlk hkk.out (digs_bd (by decide))) (Nat.le_refl _) (by omega) hvM.out).mono ?_
      rintro e w' ⟨⟨m, rfl, hm, hnd⟩, rfl⟩
      have HND := Lib.hid hnd
      clear hnd
      go_wp2_with fail
      go_ret
      refine ⟨⟨w.heap.size + 1, m, M, rfl, HND.out, by rw [← HM.out]; exact hm, ?_, by omega⟩, hb.out⟩
      have h1 := SliceAt.ofBlk (n := m) (cap := M) hkk.out (by rw [digs_length]; exact hm) hm (by omega) (digs_bd (by decide))
      rw [digs_take _ _ hm] at h1
      exact h1
end Go.Proofs.Ytjfjbkocopaehaa
