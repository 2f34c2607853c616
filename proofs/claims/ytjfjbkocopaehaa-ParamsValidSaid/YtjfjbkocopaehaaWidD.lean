/- The wide layer: form, Of, Mul. -/
import Derived.Test.YtjfjbkocopaehaaWidC
import Derived.Laws.BytesString
import Derived.Laws.IdiomStrings
namespace Go.Proofs.Ytjfjbkocopaehaa
open Go.RowKit
set_option linter.unusedVariables false

theorem wgr_cell {a b : World} {g : Nat} (h : a.grownBy b (some g)) {k i : Nat} (hk : k < a.heap.size) (hne : k ≠ g) : b.cell? ⟨k, i, none⟩ = a.cell? ⟨k, i, none⟩ :=
  World.cell?_of_block (a := ⟨k, i, none⟩) (h.block k hk (by simpa using hne))
theorem bitLen_spec {f x : Nat} (h : x < 2 ^ f) : x < 2 ^ lenF f x ∧ (0 < x → 2 ^ (lenF f x - 1) ≤ x ∧ 1 ≤ lenF f x) := by
  induction f generalizing x with
  | zero => simp at h; subst h; simp [lenF]
  | succ f ih =>
    simp only [lenF]
    by_cases hx : x = 0
    · subst hx; simp
    · rw [if_neg hx]
      have h2 : x / 2 < 2 ^ f := by rw [Nat.pow_succ] at h; omega
      obtain ⟨i1, i2⟩ := ih h2
      refine ⟨by rw [Nat.add_comm, Nat.pow_succ]; omega, fun _ => ⟨?_, by omega⟩⟩
      rw [Nat.add_sub_cancel_left]
      rcases Nat.eq_zero_or_pos (x / 2) with h0 | h0
      · rw [h0]; have : lenF f 0 = 0 := by cases f <;> simp [lenF]
        rw [this]; simp; omega
      · obtain ⟨j1, j2⟩ := i2 h0
        obtain ⟨c, hc⟩ : ∃ c, lenF f (x / 2) = c + 1 := ⟨lenF f (x / 2) - 1, by omega⟩
        rw [hc] at j1 ⊢
        simp only [Nat.add_sub_cancel] at j1
        rw [Nat.pow_succ]; omega
/-- How many bytes a number has whose top word is known. -/
theorem bytes_of {v k L : Nat} (hv : ND WB v (k + 1)) (hL : lenF 64 (dig WB v k) = L) : ND 256 v (4 * (k + 1) - (32 - L) / 8) ∧ 1 ≤ L ∧ L ≤ 32 := by
  have htop : dig WB v k = v / WB ^ k := by
    unfold dig
    refine Nat.mod_eq_of_lt ?_
    rw [Nat.div_lt_iff_lt_mul (Nat.pow_pos (by decide)), Nat.mul_comm, ← Nat.pow_succ]; exact hv.1
  have hlt : dig WB v k < 4294967296 := dig_lt (B := WB) (by decide) v k
  have hpos : 0 < dig WB v k := by
    rw [htop]
    have h1 : WB ^ k ≤ v := by rcases hv.2 with h | h; omega; exact h
    exact Nat.div_pos h1 (Nat.pow_pos (by decide))
  obtain ⟨s1, s2⟩ := bitLen_spec (f := 64) (x := dig WB v k) (by omega)
  obtain ⟨s3, s4⟩ := s2 hpos
  rw [hL] at s1 s3 s4
  have hL32 : L ≤ 32 := by
    apply Classical.byContradiction
    intro h
    have : 2 ^ 32 ≤ 2 ^ (L - 1) := Nat.pow_le_pow_right (by decide) (by omega)
    omega
  obtain ⟨c, hc⟩ : ∃ c, 4 - (32 - L) / 8 = c + 1 := ⟨4 - (32 - L) / 8 - 1, by omega⟩
  have hn : 4 * (k + 1) - (32 - L) / 8 = 4 * k + c + 1 := by omega
  have b1 : dig WB v k < 256 ^ (c + 1) := by
    have : 2 ^ L ≤ 2 ^ (8 * (c + 1)) := Nat.pow_le_pow_right (by decide) (by omega)
    rw [show 256 ^ (c + 1) = 2 ^ (8 * (c + 1)) by rw [show (256 : Nat) = 2 ^ 8 from rfl, ← Nat.pow_mul]]
    omega
  have b2 : 256 ^ c ≤ dig WB v k := by
    have : 2 ^ (8 * c) ≤ 2 ^ (L - 1) := Nat.pow_le_pow_right (by decide) (by omega)
    rw [show 256 ^ c = 2 ^ (8 * c) by rw [show (256 : Nat) = 2 ^ 8 from rfl, ← Nat.pow_mul]]
    omega
  rw [htop, WB_pow] at b1 b2
  refine ⟨⟨?_, .inr ?_⟩, s4, hL32⟩
  · rw [hn, show 4 * k + c + 1 = (c + 1) + 4 * k by omega, Nat.pow_add, Nat.mul_comm]
    rw [Nat.div_lt_iff_lt_mul (Nat.pow_pos (by decide)), Nat.mul_comm] at b1; exact b1
  · rw [hn, show 4 * k + c + 1 - 1 = c + 4 * k by omega, Nat.pow_add]
    rw [Nat.le_div_iff_mul_le (Nat.pow_pos (by decide))] at b2; exact b2

theorem infoU8 : (Try.prog.info? 5).map (fun i => (i.zero, i.size, i.bytes)) = some (some (.int .u8 0), 1, 1) := by kernel_rfl
def bys (l : List Nat) : List Value := l.map (fun q => Value.int .u8 (q : Nat))

set_option maxHeartbeats 4000000 in
set_option maxRecDepth 100000 in
theorem form_any (v m b off cap : Nat) (w : World) (hs : 0 < m → RowAt w b off (digs WB v m)) (hcap : m ≤ cap) (hv : v < WB ^ m) (hm : m ≤ 130) (h256 : v < 256 ^ 256) :
    Calls Try.prog 88 #[.slice (some ⟨b, off, none⟩) m cap, .bool false] w fun e w' => (∃ n, e = .returned (.tuple #[.agg #[.bool false, .string (beS v n)], .int .i64 0]) ∧ ND 256 v n) ∧ Below w.heap.size w w' := by
  have HS := Lib.hid hs; have HV := Lib.hid hv; have H256 := Lib.hid h256
  clear hs hv h256
  go_enter Try.func88, Try.ntmps88
  go_wp2_with fail
  have hb0 : Below w.heap.size w (w.alloc (.cells #[.bool false, .string ⟨#[]⟩] 69)) := (Below.refl _ _).alloc (Nat.le_refl _) _
  have hk0 : Blk (w.alloc (.cells #[.bool false, .string ⟨#[]⟩] 69)) w.heap.size [.bool false, .string ⟨#[]⟩] 69 := Blk.new w #[.bool false, .string ⟨#[]⟩] 69
  have HB0 := Lib.hid hb0
  have HK0 := Lib.hid hk0
  clear hb0 hk0
  have hr1 : Hid (0 < m → RowAt (w.alloc (.cells #[.bool false, .string ⟨#[]⟩] 69)) b off (digs WB v m)) := fun h => (HS.out h).below HB0.out (HS.out h).blk
  generalize (w.alloc (.cells #[.bool false, .string ⟨#[]⟩] 69)) = W at HB0 HK0 hr1 ⊢
  refine (norm_any b off cap m v _ hr1.out hcap (by omega) HV.out).mono ?_
  rintro e w1 ⟨⟨k, rfl, hk, hnd⟩, rfl⟩
  have HND := Lib.hid hnd
  clear hnd
  have c0 := HK0.out.cell 0 (by decide)
  have c1 := HK0.out.cell 1 (by decide)
  have f0 := HK0.out.free 0
  have f1 := HK0.out.free 1
  simp only [List.getElem_cons_zero, List.getElem_cons_succ] at c0 c1
  rcases Nat.eq_zero_or_pos k with rfl | hpos
  · have hv0 : Hid (v = 0) := by
      show _ = _
      have := HND.out.1; simp at this; exact this
    have HBF := Lib.hid ((HB0.out.setCell (p := ⟨w.heap.size, 0, none⟩) (Nat.le_refl _) (.bool false)).setCell (p := ⟨w.heap.size, 1, none⟩) (Nat.le_refl _) (.string ⟨#[]⟩))
    go_wp2_with fail
    refine bodyPost_ret (v := .tuple #[.agg #[.bool false, .string ⟨#[]⟩], .int .i64 0]) (by simp [results, Try.results88, go_sem, c0, c1]) rfl ⟨⟨0, rfl, by rw [hv0.out]; exact ND.zero⟩, HBF.out⟩
  · obtain ⟨j, rfl⟩ : ∃ j, k = j + 1 := ⟨k - 1, by omega⟩
    have hc := (hr1.out (by omega)).cell j (by rw [digs_length]; omega)
    rw [digs_getElem] at hc
    obtain ⟨L, hL⟩ : ∃ L, lenF 64 (dig WB v j) = L := ⟨_, rfl⟩
    obtain ⟨hn, hL1, hL2⟩ := bytes_of HND.out hL
    have hd : dig WB v j < 4294967296 := dig_lt (B := WB) (by decide) v j
    obtain ⟨d, hdd⟩ : ∃ d, dig WB v j = d := ⟨_, rfl⟩
    rw [hdd] at hc hd hL
    have HLL := Lib.hid hL
    have j0 : (0 : Int) ≤ (j : Int) := by omega
    obtain ⟨n, hnn⟩ : ∃ n, 4 * (j + 1) - (32 - L) / 8 = n := ⟨_, rfl⟩
    rw [hnn] at hn
    have HN := Lib.hid hn
    have hn256 : n ≤ 256 := by
      apply Classical.byContradiction
      intro h
      have h1 : 256 ^ 256 ≤ 256 ^ (n - 1) := Nat.pow_le_pow_right (by decide) (by omega)
      have h2 := H256.out
      rcases hn.2 with h3 | h3 <;> omega
    have hn1 : 1 ≤ n := by omega
    have HNN := Lib.hid hnn
    have hmk := fun wx => run_make_row' (P := Try.prog) 143 5 (.int .u8 0) 1 Try.underlying143 infoU8 rfl .i64 .i64 n (by omega) (by omega) wx
    clear hn hL hdd
    go_wp2_with fail
    refine (Try.bits_LeadingZeros32 _ _ (by omega) (by omega)).mono ?_
    rintro e w2 ⟨rfl, rfl⟩
    rw [Int.toNat_natCast, lenOf_lib]
    have hLL : Hid (lenOf d = L) := HLL.out
    rw [hLL.out]
    obtain ⟨q, hq⟩ : ∃ q, (32 - L) / 8 = q := ⟨_, rfl⟩
    have e1 : (32 - (L : Int)) / 8 = (q : Int) := by omega
    have hq3 : q ≤ 4 := by omega
    have e2 : (4 : Int) * ((j : Int) + 1) - (q : Int) = (n : Int) := by have := HNN.out; rw [hq] at this; omega
    clear hq
    have e3 : decide ((256 : Int) < (n : Int)) = false := decide_eq_false (by omega)
    go_wp2_with fail
    have hb2 : Below w.heap.size w (w2.alloc (.cells (madeCells #[.int .u8 0] n) 5)) := HB0.out.alloc HB0.out.size _
    have hk2 : Blk (w2.alloc (.cells (madeCells #[.int .u8 0] n) 5)) w2.heap.size (bys (List.replicate n 0)) 5 := by
      have h := Blk.new w2 (madeCells #[.int .u8 0] n) 5
      rw [made_list] at h
      unfold bys; rw [List.map_replicate]; exact h
    have hk3 : Blk (w2.alloc (.cells (madeCells #[.int .u8 0] n) 5)) w.heap.size [.bool false, .string ⟨#[]⟩] 69 := HK0.out.alloc _
    have hr3 : Hid (RowAt (w2.alloc (.cells (madeCells #[.int .u8 0] n) 5)) b off (digs WB v m)) := (hr1.out (by omega)).below ((Below.refl _ _).alloc (Nat.le_refl _) _) (hr1.out (by omega)).blk
    have hge : w.heap.size < w2.heap.size := HK0.out.lt
    have hbw : b < w2.heap.size := (hr1.out (by omega)).blk
    have HB2 := Lib.hid hb2; have HK2 := Lib.hid hk2; have HK3 := Lib.hid hk3
    have hsz2 : w2.heap.size < (w2.alloc (.cells (madeCells #[.int .u8 0] n) 5)).heap.size := by simp
    generalize w2.heap.size = gb at HK2 hge hbw hsz2 ⊢
    generalize (w2.alloc (.cells (madeCells #[.int .u8 0] n) 5)) = W2 at HB2 HK2 HK3 hr3 hsz2 ⊢
    clear hb2 hk2 hk3 c0 c1 f0 f1 HB0 HK0 hr1 hmk e1 e2 e3 hc
    have hn4 : n ≤ 4 * m := by have := HNN.out; omega
    clear hnn
    go_loopw [8, 9, 35] (fun _ _ vi wr => ∃ (i : Nat) (L' : List Nat), vi = .int .i64 i ∧ i ≤ n ∧ Hid (Blk wr gb (bys L') 5) ∧ Hid (L'.length = n) ∧ Hid (∀ p, p < i → L'.getD p 0 = dig 256 v (n - 1 - p)) ∧ Hid (W2.grownBy wr (some gb))) (fun _ _ vi _ => n - (intOf vi).toNat)
    case atStart => exact ⟨0, _, rfl, by omega, HK2, by simp [Hid], fun p hp => absurd hp (by omega), gr_refl _ _⟩
    case round =>
      obtain ⟨i, L', rfl, hi, hkb, hl, hg, hgr⟩ := hrel
      by_cases hlt : i < n
      · obtain ⟨k, hk1⟩ : ∃ k, k = n - 1 - i := ⟨_, rfl⟩
        obtain ⟨jj, hjj⟩ : ∃ jj, jj = k / 4 := ⟨_, rfl⟩
        obtain ⟨t, ht⟩ : ∃ t, t = k % 4 := ⟨_, rfl⟩
        have hjm : jj < m := by omega
        have cw := (wgr_cell hgr.out hr3.out.blk (by omega)).trans (hr3.out.cell jj (by rw [digs_length]; exact hjm))
        rw [digs_getElem] at cw
        have hby := byte_word (v := v) (j := jj) (t := t) (by omega)
        rw [show 4 * jj + t = k by omega] at hby
        obtain ⟨D, hD⟩ : ∃ D, dig WB v jj = D := ⟨_, rfl⟩
        rw [hD] at cw hby
        have hD32 : D < 4294967296 := by rw [← hD]; exact dig_lt (B := WB) (by decide) v jj
        have hbv : Hid ((D : Int) / 2 ^ (8 * t) % 256 = ((dig 256 v k : Nat) : Int)) := by
          show _ = _
          rw [← hby, show 256 ^ t = 2 ^ (8 * t) by rw [show (256 : Nat) = 2 ^ 8 from rfl, ← Nat.pow_mul]]
          simp
        have cg : wr.cell? ⟨gb, i, none⟩ = some (.int .u8 (L'.getD i 0 : Nat)) := by
          have := hkb.out.cell i (by unfold bys; rw [List.length_map, hl.out]; exact hlt)
          rw [this]; unfold bys; rw [List.getElem_map, List.getD_eq_getElem?_getD, List.getElem?_eq_getElem (by rw [hl.out]; exact hlt)]; rfl
        have fg := hkb.out.free i
        have i0 : (0 : Int) ≤ (i : Int) := by omega
        have i1 : (i : Int) < (n : Int) := by omega
        have e1 : (n : Int) - 1 - (i : Int) = (k : Int) := by omega
        have e3 : (k : Int) / 4 = (jj : Int) := by omega
        have e4 : (k : Int) % 4 = (t : Int) := by omega
        have jj0 : (0 : Int) ≤ (jj : Int) := by omega
        have jj1 : (jj : Int) < (j : Int) + 1 := by have := HNN.out; omega
        have t3 : t < 4 := by omega
        have HK1 := Lib.hid hk1
        clear hjj ht hD hby hk1
        go_wp2_with fail
        have hd8 := dig_lt (B := 256) (by decide) v k
        go_roundw
        case rel => exact ⟨i + 1, L'.set i (dig 256 v k), by go_num, by omega, by
            rw [hbv.out]
            show Blk _ _ _ _
            have h := hkb.out.set i (.int .u8 (dig 256 v k : Nat))
            unfold bys at h ⊢
            rw [List.map_set]; exact h, by show _ = _; rw [List.length_set]; exact hl.out, fun p hp => by
            rw [ngetD_set _ _ _ _ (by rw [hl.out]; omega)]
            by_cases e : i = p
            · rw [if_pos e, ← e, HK1.out]
            · rw [if_neg e]; exact hg.out p (by omega), gr_set hgr.out _ _⟩
        case measure => simp [intOf]; omega
      · obtain rfl : n = i := by omega
        have hcv := run_convert_bytes_back (P := Try.prog) wr 143 9 5 ⟨gb, 0, none⟩ n ((List.range n).map (fun i => UInt8.ofNat (dig 256 v (n - 1 - i)))) Try.underlying143 Try.underlying5 Try.underlying9 (fun p hp => by
          have hpn : p < n := by simpa using hp
          have := hkb.out.cell p (by unfold bys; rw [List.length_map, hl.out]; exact hpn)
          rw [addr_add, Nat.zero_add, this]
          unfold bys
          have h2 := hg.out p hpn
          rw [List.getD_eq_getElem?_getD, List.getElem?_eq_getElem (by rw [hl.out]; exact hpn)] at h2
          simp only [Option.getD_some] at h2
          have hd8 := dig_lt (B := 256) (by decide) v (n - 1 - p)
          rw [List.getElem_map, h2, List.getElem_map, List.getElem_range]
          congr 2
          simp only [UInt8.toNat_ofNat']
          rw [Nat.mod_eq_of_lt (by simpa using hd8)])
        rw [List.length_map, List.length_range] at hcv
        have hbe : (⟨((List.range n).map (fun i => UInt8.ofNat (dig 256 v (n - 1 - i)))).toArray⟩ : ByteArray) = beS v n := rfl
        rw [hbe] at hcv
        have c0 := (wgr_cell hgr.out (show w.heap.size < W2.heap.size by omega) (by omega)).trans (HK3.out.cell 0 (by decide))
        have c1 := (wgr_cell hgr.out (show w.heap.size < W2.heap.size by omega) (by omega)).trans (HK3.out.cell 1 (by decide))
        simp only [List.getElem_cons_zero, List.getElem_cons_succ] at c0 c1
        have f0 : wr.frozen? ⟨w.heap.size, 0, none⟩ = false := by
          rw [World.frozen?_of_block (a := ⟨w.heap.size, 0, none⟩) (hgr.out.block w.heap.size (by omega) (by simp; omega))]; exact HK3.out.free 0
        have f1 : wr.frozen? ⟨w.heap.size, 1, none⟩ = false := by
          rw [World.frozen?_of_block (a := ⟨w.heap.size, 1, none⟩) (hgr.out.block w.heap.size (by omega) (by simp; omega))]; exact HK3.out.free 1
        obtain ⟨S, hS⟩ : ∃ S, beS v n = S := ⟨_, rfl⟩
        rw [hS] at hcv
        have HSS := Lib.hid hS
        have HBW : Hid (Below w.heap.size w wr) := HB2.out.grown hgr.out (by omega) (by intro q e; injection e with e; omega)
        have HBF := Lib.hid ((HBW.out.setCell (p := ⟨w.heap.size, 0, none⟩) (Nat.le_refl _) (.bool false)).setCell (p := ⟨w.heap.size, 1, none⟩) (Nat.le_refl _) (.string S))
        clear hS hbe
        go_wp2_with fail
        refine bodyPost_ret (v := .tuple #[.agg #[.bool false, .string S], .int .i64 0]) (by simp [results, Try.results88, go_sem, c0, c1]) rfl ⟨⟨n, by rw [HSS.out], HN.out⟩, HBF.out⟩
end Go.Proofs.Ytjfjbkocopaehaa
