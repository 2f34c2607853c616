/- obscuraref13.Power. -/
import Derived.Test.YtjfjbkocopaehaaSupH
import Derived.Deep.QuietTactic
import Derived.BigQuiet
import Derived.BigRegion
namespace Go.Proofs.Ytjfjbkocopaehaa
open Go.RowKit
set_option linter.unusedVariables false

theorem take_getD {l : List Int} {n p : Nat} (h : p < n) : (l.take n).getD p 0 = l.getD p 0 := by
  rw [List.getD_eq_getElem?_getD, List.getD_eq_getElem?_getD, List.getElem?_take, if_pos h]
theorem tblk {w : World} {g n : Nat} {l : List Int} {T : TypeId} (h : Blk w g (i64s (l.take n)) T) (hl : l.length = 32) (hn : n ≤ 32) {p : Nat} (hp : p < n) : w.cell? ⟨g, p, none⟩ = some (.int .i64 (l.getD p 0)) := by
  rw [h.icell p (by rw [List.length_take]; omega), take_getD hp]
theorem tset {w : World} {g n : Nat} {l : List Int} {T : TypeId} (h : Blk w g (i64s (l.take n)) T) (p : Nat) (z : Int) : Blk (w.setCell ⟨g, p, none⟩ (.int .i64 z)) g (i64s ((l.set p z).take n)) T := by
  have := h.set p (.int .i64 z)
  rw [List.take_set]
  unfold i64s at this ⊢
  rw [List.map_set]; exact this
theorem step_lo {n : Nat} {l cur nxt : List Int} {i k : Nat} (h : i + k < n) : mulStep n l cur nxt i k = nxt.set (i + k) (nxt.getD (i + k) 0 + cur.getD i 0 * l.getD k 0) := by
  unfold mulStep
  have e : (k + i) % (2 * n) = i + k := by rw [Nat.mod_eq_of_lt (by omega)]; omega
  rw [e, if_pos h, Int.one_mul]
theorem step_hi {n : Nat} {l cur nxt : List Int} {i k : Nat} (h : n ≤ i + k) (hi : i < n) (hk : k < n) : mulStep n l cur nxt i k = nxt.set (i + k - n) (nxt.getD (i + k - n) 0 - cur.getD i 0 * l.getD k 0) := by
  unfold mulStep
  have e : (k + i) % (2 * n) = i + k := by rw [Nat.mod_eq_of_lt (by omega)]; omega
  rw [e, if_neg (by omega), Int.neg_mul, Int.one_mul, Int.neg_mul, ← Int.sub_eq_add_neg]
theorem zeros_take (n : Nat) (h : n ≤ 32) : (List.replicate 32 (0 : Int)).take n = List.replicate n 0 := by rw [List.take_replicate, Nat.min_eq_left h]
theorem one_take {n : Nat} (h : n ≤ 32) (h1 : 1 ≤ n) (l : List Int) : (powTo n l 0).take n = (List.replicate n 0).set 0 1 := by
  obtain ⟨m, rfl⟩ : ∃ m, n = m + 1 := ⟨n - 1, by omega⟩
  show (1 :: List.replicate 31 0).take (m + 1) = _
  rw [List.take_succ_cons, List.take_replicate, Nat.min_eq_left (by omega), List.replicate_succ]; rfl
theorem prod_bd {c z : Int} {B : Int} (hc : -B ≤ c ∧ c ≤ B) (hz : z = -1 ∨ z = 0 ∨ z = 1) : -B ≤ c * z ∧ c * z ≤ B := by
  rcases hz with rfl | rfl | rfl <;> simp <;> omega

/-- The world of the loops. -/
structure RpW (w1 W : World) (g : Nat) (N : Nat) (cur : List Int) : Prop where
  blk : Blk W g (i64s (cur.take N)) 2
  bel : Below w1.heap.size w1 W
  ge : w1.heap.size ≤ g
theorem RpW.more {w1 W W' : World} {g N : Nat} {cur : List Int} (h : RpW w1 W g N cur) (hb : Below W.heap.size W W') : RpW w1 W' g N cur := ⟨h.blk.below hb h.blk.lt, h.bel.trans (hb.mono h.bel.size), h.ge⟩
structure RpX (w1 W : World) (g g2 : Nat) (N : Nat) (cur nxt : List Int) : Prop where
  a : RpW w1 W g N cur
  b : RpW w1 W g2 N nxt
  ne : g ≠ g2
theorem RpX.set {w1 W : World} {g g2 N : Nat} {cur nxt : List Int} (h : RpX w1 W g g2 N cur nxt) (p : Nat) (z : Int) : RpX w1 (W.setCell ⟨g2, p, none⟩ (.int .i64 z)) g g2 N cur (nxt.set p z) := by
  have hb : Below w1.heap.size w1 (W.setCell ⟨g2, p, none⟩ (.int .i64 z)) := h.a.bel.setCell (p := ⟨g2, p, none⟩) h.b.ge _
  exact ⟨⟨h.a.blk.other (a := ⟨g2, p, none⟩) h.ne _, hb, h.a.ge⟩, ⟨tset h.b.blk p z, hb, h.b.ge⟩, h.ne⟩
theorem RpX.drewN {w1 W : World} {g g2 N : Nat} {cur nxt : List Int} (h : RpX w1 W g g2 N cur nxt) (k : Nat) : RpX w1 (W.drewN k) g g2 N cur nxt :=
  ⟨⟨h.a.blk, below_drewN h.a.bel k, h.a.ge⟩, ⟨h.b.blk, below_drewN h.b.bel k, h.b.ge⟩, h.ne⟩

set_option maxHeartbeats 4000000 in
set_option maxRecDepth 100000 in
theorem rpower_yes (x : Par) (cv : Value) (b off cap N K : Nat) (l : List Int) (w : World) (hx : ParOk x) (hcv : SliceAt w cv x.ch) (hr : RowZ .i8 w b off l) (hcap : l.length ≤ cap) (hcap2 : l.length ≤ 140737488351232) (hok : powOk rPrime x l K = true) (hN : x.n = (N : Int)) :
    Calls Try.prog 32 #[x.val cv, .agg #[.slice (some ⟨b, off, none⟩) l.length cap], .int .i64 K] w fun r w' => ∃ g, r = .returned (.tuple #[.slice (some ⟨g, 0, none⟩) N N, .int .i64 0]) ∧ Blk w' g (i64s ((powTo N l K).take N)) 2 ∧ Below w.heap.size w w' := by
  have hs : SliceZ .i8 w (.slice (some ⟨b, off, none⟩) l.length cap) l := ⟨_, _, rfl, hcap, hcap2, fun _ => ⟨b, off, rfl, hr⟩⟩
  have HO := Lib.hid (Owned.boxes hcv hs)
  obtain ⟨pc, ncv, ccv, rfl⟩ : ∃ pa na ca, cv = .slice pa na ca := by obtain ⟨p, c, e, _⟩ := hcv; exact ⟨p, _, c, e⟩
  have hbw := hr.blk
  unfold powOk at hok
  simp only [Bool.and_eq_true, decide_eq_true_eq] at hok
  obtain ⟨⟨ok1, ok2⟩, k0, k1⟩ := hok
  have hdim := okB_dim ok1
  have hn4 : 4 ≤ N := by omega
  have hn32 : N ≤ 32 := by omega
  obtain ⟨hsm, hlN, _⟩ := secB_parts ok2
  have HC : Hid (csec rPrime x l = 0) := csec_yes ok1 ok2
  have HLN : Hid (l.length = N) := by show _ = _; omega
  have HSM := Lib.hid hsm
  have HNN := Lib.hid hN
  have hK : K ≤ 2 := by omega
  have hmk := fun wx => run_make_row' (P := Try.prog) 40 2 (.int .i64 0) 8 Try.underlying40 info64 rfl .i64 .i64 N (by omega) (by omega) wx
  clear ok1 ok2 hdim hsm hlN hN hs hcv
  unfold Par.val
  go_enter Try.func32, Try.ntmps32
  go_wp2_with fail
  refine (rcsecret_any x _ _ l _ hx HO.out.sl HO.out.sz hcap2).mono ?_
  rintro e w1 ⟨rfl, hb1⟩
  rw [HC.out]
  have HO1 := Lib.hid (HO.out.below hb1)
  have y0 := HO1.out.box.n
  rw [HNN.out] at y0
  have ys := HO1.out.cs
  have HRW : Hid (RowZ .i8 w1 b off l) := hr.below HO1.out.bel hbw
  have hlp := HO1.out.lp
  have hls := HO1.out.ls
  clear hb1 HO hr
  have d3 : decide ((K : Int) < 0) = false := decide_eq_false (by omega)
  have d4 : decide ((2 : Int) < (K : Int)) = false := decide_eq_false (by omega)
  have d5 : decide (2 < K) = false := decide_eq_false (by omega)
  have i9 : (0 : Int) < (N : Int) := by omega
  have i8 : 0 < N := by omega
  have cz : (w1.alloc (.cells (madeCells #[.int .i64 0] N) 2)).cell? ⟨w1.heap.size, 0, none⟩ = some (.int .i64 0) := by
    have h := Blk.new w1 (madeCells #[.int .i64 0] N) 2
    rw [made_list] at h
    rw [h.cell 0 (by simp; omega)]; simp
  have cf : (w1.alloc (.cells (madeCells #[.int .i64 0] N) 2)).frozen? ⟨w1.heap.size, 0, none⟩ = false := by
    have h := Blk.new w1 (madeCells #[.int .i64 0] N) 2
    exact h.free 0
  have HW0 : Hid (RpW w1 (w1.alloc (.cells ((madeCells #[.int .i64 0] N).setIfInBounds 0 (.int .i64 1)) 2)) w1.heap.size N (powTo N l 0)) := by
    have h := Blk.new w1 ((madeCells #[.int .i64 0] N).setIfInBounds 0 (.int .i64 1)) 2
    rw [Array.toList_setIfInBounds, made_list] at h
    refine ⟨?_, (Below.refl _ _).alloc (Nat.le_refl _) _, Nat.le_refl _⟩
    rw [one_take hn32 (by omega)]
    unfold i64s; rw [List.map_set, List.map_replicate]; exact h
  go_wp2_with fail
  generalize (w1.alloc (.cells ((madeCells #[.int .i64 0] N).setIfInBounds 0 (.int .i64 1)) 2)) = W0 at HW0 ⊢
  have HB1 := Lib.hid HO1.out.bel
  obtain ⟨g0, hg0⟩ : ∃ g0, w1.heap.size = g0 := ⟨_, rfl⟩
  have HW1 : Hid (RpW w1 W0 g0 N (powTo N l 0)) := by rw [← hg0]; exact HW0
  rw [hg0]
  have PB := powTo_bd (n := N) (l := l) hn32 HSM.out
  have HPB := Lib.hid PB
  have HYS := Lib.hid ys
  have HY0 := Lib.hid y0
  clear HW0 cz cf d3 d4 d5 HO1 hg0 PB y0 ys k1 k0
  go_loopw [2, 8, 9, 10, 11, 12] (fun v2 v8 _ _ _ _ wr => ∃ j g : Nat, v2 = .int .i64 ((K - j : Nat)) ∧ j ≤ K ∧ v8 = .slice (some ⟨g, 0, none⟩) N N ∧ Hid (RpW w1 wr g N (powTo N l j))) (fun v2 _ _ _ _ _ _ => (intOf v2).toNat)
  case atStart => exact ⟨0, g0, rfl, by omega, rfl, HW1⟩
  case round =>
    obtain ⟨j, g, rfl, hj, rfl, hw⟩ := hrel
    obtain ⟨m, hm⟩ : ∃ m, K - j = m := ⟨_, rfl⟩
    rw [hm]
    by_cases hlt : 0 < m
    case neg =>
      obtain rfl : j = K := by omega
      have hneg : ¬ ((0 : Int) < (m : Int)) := by omega
      go_wp2_with fail
      go_ret2
      exact ⟨g, rfl, hw.out.blk, HB1.out.trans (hw.out.bel.mono HB1.out.size)⟩
    case pos =>
    have hpos : (0 : Int) < (m : Int) := by omega
    have hm1 : Hid (((m : Int) - 1) = ((K - (j + 1) : Nat) : Int)) := by show _ = _; omega
    have z0 := (below_at hw.out.bel hlp).trans HY0.out
    have hsz : w.heap.size ≤ w1.heap.size := HB1.out.size
    have hgl := hw.out.blk.lt
    obtain ⟨cur, hcur⟩ : ∃ cur, powTo N l j = cur := ⟨_, rfl⟩
    rw [hcur] at hw
    have hcl : Hid (cur.length = 32) := by rw [← hcur]; exact powTo_length N l j
    have hcb : Hid (Bd 1048576 cur) := by
      rw [← hcur]
      have : j = 0 ∨ j = 1 ∨ j = 2 := by omega
      rcases this with rfl | rfl | rfl
      · exact HPB.out.1.mono (by omega)
      · exact HPB.out.2.1.mono (by omega)
      · exact HPB.out.2.2
    have hnx : Hid (mulTo N l cur N = powTo N l (j + 1)) := by rw [← hcur]; rfl
    have hm2 : m ≤ 2 := by omega
    have hj1 : j + 1 ≤ K := by omega
    clear hcur hm
    go_wp2_with fail
    have HX0 : Hid (RpX w1 (wr.alloc (.cells (madeCells #[.int .i64 0] N) 2)) g wr.heap.size N cur (mulTo N l cur 0)) := by
      have hb : Below wr.heap.size wr (wr.alloc (.cells (madeCells #[.int .i64 0] N) 2)) := (Below.refl _ _).alloc (Nat.le_refl _) _
      have h := Blk.new wr (madeCells #[.int .i64 0] N) 2
      rw [made_list] at h
      refine ⟨hw.out.more hb, ⟨?_, (hw.out.more hb).bel, hw.out.bel.size⟩, by omega⟩
      show Blk _ _ (i64s ((List.replicate 32 0).take N)) _
      rw [zeros_take N hn32]; unfold i64s; rw [List.map_replicate]; exact h
    generalize wr.heap.size = g2 at HX0 hgl ⊢
    generalize (wr.alloc (.cells (madeCells #[.int .i64 0] N) 2)) = W2 at HX0 ⊢
    clear hw z0
    go_loopw [10, 11, 12] (fun vi _ _ wr => ∃ i : Nat, vi = .int .i64 i ∧ i ≤ N ∧ Hid (RpX w1 wr g g2 N cur (mulTo N l cur i))) (fun vi _ _ _ => N - (intOf vi).toNat)
    case atStart => exact ⟨0, rfl, by omega, HX0⟩
    case round =>
      obtain ⟨i, rfl, hi, hx1⟩ := hrel
      have z0 := (below_at hx1.out.a.bel hlp).trans HY0.out
      by_cases hin : i < N
      case neg =>
        obtain rfl : N = i := by omega
        have hpp : Hid (RpW w1 wr g2 N (powTo N l (j + 1))) := by rw [← hnx.out]; exact hx1.out.b
        go_wp2_with fail
        go_roundw
        case rel => exact ⟨j + 1, g2, by rw [← hm1.out], by omega, rfl, hpp⟩
        case measure => simp [intOf]; omega
      case pos =>
      obtain ⟨nx, hnxe⟩ : ∃ nx, mulTo N l cur i = nx := ⟨_, rfl⟩
      have hnl : Hid (nx.length = 32) := by rw [← hnxe]; exact mulTo_length N l cur i
      have hnb : Hid (Bd 1073741824 nx) := by
        rw [← hnxe]
        exact (mulTo_bd (n := N) hn32 HSM.out (by omega) hcb.out i).mono (by omega)
      have hnn : Hid (mulRow N l cur nx i N = mulTo N l cur (i + 1)) := by rw [← hnxe]; rfl
      rw [hnxe] at hx1
      have hinI : (i : Int) < (N : Int) := by omega
      clear hnxe
      go_wp2_with fail
      clear z0
      go_loopw [11, 12] (fun vk _ wr => ∃ k : Nat, vk = .int .i64 k ∧ k ≤ N ∧ Hid (RpX w1 wr g g2 N cur (mulRow N l cur nx i k))) (fun vk _ _ => N - (intOf vk).toNat)
      case atStart => exact ⟨0, rfl, by omega, hx1⟩
      case round =>
        obtain ⟨k, rfl, hk, hx2⟩ := hrel
        have z0 := (below_at hx2.out.a.bel hlp).trans HY0.out
        have zs := (below_at hx2.out.a.bel hls).trans HYS.out
        by_cases hkn : k < N
        case neg =>
          obtain rfl : N = k := by omega
          have hpp : Hid (RpX w1 wr g g2 N cur (mulTo N l cur (i + 1))) := by rw [← hnn.out]; exact hx2
          go_wp2_with fail
          go_roundw
          case rel => exact ⟨i + 1, by go_num, by omega, hpp⟩
          case measure => simp [intOf]; omega
        case pos =>
        obtain ⟨rw_, hrw⟩ : ∃ r, mulRow N l cur nx i k = r := ⟨_, rfl⟩
        have hrl : Hid (rw_.length = 32) := by rw [← hrw, mulRow_length]; exact hnl.out
        have hrb : Hid (Bd 1107296256 rw_) := by
          rw [← hrw]
          exact (mulRow_bd (n := N) (i := i) HSM.out (by omega) (by omega) hcb.out hnb.out k).mono (by omega)
        have hrn : Hid (mulRow N l cur nx i (k + 1) = mulStep N l cur rw_ i k) := by rw [← hrw]; rfl
        rw [hrw] at hx2
        clear hrw
        have kI : (k : Int) < (N : Int) := by omega
        have k00 : (0 : Int) ≤ (k : Int) := by omega
        have i00 : (0 : Int) ≤ (i : Int) := by omega
        have kl : (k : Int) < (l.length : Int) := by have := HLN.out; omega
        have cc := tblk hx2.out.a.blk hcl.out hn32 hin
        have cl := (HRW.out.below hx2.out.a.bel HRW.out.blk).cell k (by have := HLN.out; omega)
        rw [← getD_lt (by have := HLN.out; omega)] at cl
        have hz := getD_small HSM.out k
        have hc := hcb.out.getD (by omega) i
        have hp := prod_bd hc hz
        obtain ⟨c, hce⟩ : ∃ c, cur.getD i 0 = c := ⟨_, rfl⟩
        obtain ⟨z, hze⟩ : ∃ z, l.getD k 0 = z := ⟨_, rfl⟩
        rw [hce] at cc hc hp
        rw [hze] at cl hz hp
        have e1 : IntKind.i64.wrap z = z := by rw [IntKind.wrap_i64]; omega
        have e2 : IntKind.i64.wrap (c * z) = c * z := by rw [IntKind.wrap_i64]; omega
        have es : IntKind.i64.wrap ((i : Int) + (k : Int)) = (i : Int) + (k : Int) := by rw [IntKind.wrap_i64]; omega
        by_cases hik : i + k < N
        case pos =>
          have ht : ((i : Int) + (k : Int)) < (N : Int) := by omega
          have hst : Hid (mulStep N l cur rw_ i k = rw_.set (i + k) (rw_.getD (i + k) 0 + c * z)) := by rw [← hce, ← hze]; exact step_lo hik
          have ct := tblk hx2.out.b.blk hrl.out hn32 hik
          have cft := hx2.out.b.blk.free (i + k)
          have hrd := hrb.out.getD (by omega) (i + k)
          obtain ⟨r, hre⟩ : ∃ r, rw_.getD (i + k) 0 = r := ⟨_, rfl⟩
          rw [hre] at ct hst hrd
          have e3 : IntKind.i64.wrap (r + c * z) = r + c * z := by rw [IntKind.wrap_i64]; omega
          have ik0 : (0 : Int) ≤ (i : Int) + (k : Int) := by omega
          have ike : ((i : Int) + (k : Int)).toNat = i + k := by omega
          have HSX := Lib.hid (hx2.out.set (i + k) (r + c * z))
          clear hre hce hze
          go_wp2_with fail
          go_quiet (fail)
          go_wp2_with fail
          go_roundw
          case rel => exact ⟨k + 1, by go_num, by omega, by show RpX _ _ _ _ _ _ _; rw [hrn.out, hst.out]; exact (hx2.out.drewN _).set _ _⟩
          case measure => simp [intOf]; omega
        case neg =>
          have ht : ¬ ((i : Int) + (k : Int)) < (N : Int) := by omega
          obtain ⟨p, hp0⟩ : ∃ p, i + k - N = p := ⟨_, rfl⟩
          have hst : Hid (mulStep N l cur rw_ i k = rw_.set p (rw_.getD p 0 - c * z)) := by rw [← hce, ← hze, ← hp0]; exact step_hi (by omega) hin hkn
          have hpN : p < N := by omega
          have ct := tblk hx2.out.b.blk hrl.out hn32 hpN
          have cft := hx2.out.b.blk.free p
          have hrd := hrb.out.getD (by omega) p
          obtain ⟨r, hre⟩ : ∃ r, rw_.getD p 0 = r := ⟨_, rfl⟩
          rw [hre] at ct hst hrd
          have e3 : IntKind.i64.wrap (r - c * z) = r - c * z := by rw [IntKind.wrap_i64]; omega
          have e4 : IntKind.i64.wrap ((i : Int) + (k : Int) - (N : Int)) = (p : Int) := by rw [IntKind.wrap_i64]; omega
          have p0 : (0 : Int) ≤ (p : Int) := by omega
          have p1 : (p : Int) < (N : Int) := by omega
          clear hre hce hze hp0
          go_wp2_with fail
          go_quiet (fail)
          go_wp2_with fail
          go_region
          go_wp2_with fail
          go_roundw
          case rel => exact ⟨k + 1, by go_num, by omega, by show RpX _ _ _ _ _ _ _; rw [hrn.out, hst.out]; exact (hx2.out.drewN _).set _ _⟩
          case measure => simp [intOf]; omega

theorem powOk_eq (x : Par) (l : List Int) (k : Int) : powOk mPrime x l k = powOk rPrime x l k := by unfold powOk; rw [okB_eq]
theorem powList_eq (x : Par) (l : List Int) (k : Int) : powList mPrime x l k = powList rPrime x l k := by unfold powList; rw [powOk_eq]
theorem powErr_eq (x : Par) (l : List Int) (k : Int) : powErr mPrime x l k = powErr rPrime x l k := by unfold powErr; rw [powOk_eq]

set_option maxHeartbeats 2000000 in
set_option maxRecDepth 100000 in
theorem rpower_no (x : Par) (cv sv : Value) (l : List Int) (k : Int) (w : World) (hx : ParOk x) (hcv : SliceAt w cv x.ch) (hs : SliceZ .i8 w sv l) (hlen : l.length ≤ 140737488351232) (hno : powOk rPrime x l k = false) :
    Calls Try.prog 32 #[x.val cv, .agg #[sv], .int .i64 k] w fun r w' => r = .returned (.tuple #[.slice none 0 0, .int .i64 2]) ∧ Below w.heap.size w w' := by
  have HO := Lib.hid (Owned.boxes hcv hs)
  obtain ⟨pc, ncv, ccv, rfl⟩ : ∃ pa na ca, cv = .slice pa na ca := by obtain ⟨p, c, e, _⟩ := hcv; exact ⟨p, _, c, e⟩
  obtain ⟨ps, ns, cs, rfl⟩ : ∃ pa na ca, sv = .slice pa na ca := by obtain ⟨p, c, e, _⟩ := hs; exact ⟨p, _, c, e⟩
  clear hs hcv
  unfold Par.val
  rcases csec_vals rPrime x l with hc | hc
  · have hcond : k < 0 ∨ (0 ≤ k ∧ 2 < k) := by
      apply Classical.byContradiction
      intro hcc
      have h1 := csec_zero hc
      have : powOk rPrime x l k = true := by
        unfold powOk; rw [h1.1, h1.2, decide_eq_true (show 0 ≤ k by omega), decide_eq_true (show k ≤ 2 by omega)]; rfl
      rw [this] at hno; cases hno
    have HC := Lib.hid hc
    clear hc hno
    rcases hcond with h | ⟨h, h'⟩
    · have d1 : decide (k < 0) = true := decide_eq_true h
      clear h
      go_enter Try.func32, Try.ntmps32
      go_wp2_with fail
      refine (rcsecret_any x _ _ l _ hx HO.out.sl HO.out.sz hlen).mono ?_
      rintro e w1 ⟨rfl, hb1⟩
      rw [HC.out]
      have HB := Lib.hid (HO.out.below hb1).bel
      clear hb1
      go_wp2_with fail
      go_ret2
      exact ⟨rfl, HB.out⟩
    · have d1 : decide (k < 0) = false := decide_eq_false (by omega)
      have d2 : decide (2 < k) = true := decide_eq_true h'
      clear h h'
      go_enter Try.func32, Try.ntmps32
      go_wp2_with fail
      refine (rcsecret_any x _ _ l _ hx HO.out.sl HO.out.sz hlen).mono ?_
      rintro e w1 ⟨rfl, hb1⟩
      rw [HC.out]
      have HB := Lib.hid (HO.out.below hb1).bel
      clear hb1
      go_wp2_with fail
      go_ret2
      exact ⟨rfl, HB.out⟩
  · have HC := Lib.hid hc
    clear hc
    go_enter Try.func32, Try.ntmps32
    go_wp2_with fail
    refine (rcsecret_any x _ _ l _ hx HO.out.sl HO.out.sz hlen).mono ?_
    rintro e w1 ⟨rfl, hb1⟩
    rw [HC.out]
    have HB := Lib.hid (HO.out.below hb1).bel
    clear hb1
    go_wp2_with fail
    go_ret2
    exact ⟨rfl, HB.out⟩

theorem rspower_any (x : Par) (cv sv : Value) (l : List Int) (k : Int) (w : World) (hx : ParOk x) (hcv : SliceAt w cv x.ch) (hs : SliceZ .i8 w sv l) :
    Calls Try.prog 32 #[x.val cv, .agg #[sv], .int .i64 k] w fun r w' => (∃ v, r = .returned (.tuple #[v, .int .i64 (powErr rPrime x l k)]) ∧ SliceZ .i64 w' v (powList rPrime x l k)) ∧ Below w.heap.size w w' := by
  have hlen : l.length ≤ 140737488351232 := by obtain ⟨p, cap, _, _, h, _⟩ := hs; exact h
  cases hok : powOk rPrime x l k with
  | false =>
    refine (rpower_no x cv sv l k w hx hcv hs hlen hok).mono ?_
    rintro r w' ⟨rfl, hb⟩
    exact ⟨⟨_, by unfold powErr; rw [hok]; rfl, by unfold powList; rw [hok]; exact SliceZ.nil _ _⟩, hb⟩
  | true =>
    have hq := hok
    unfold powOk at hq
    simp only [Bool.and_eq_true, decide_eq_true_eq] at hq
    obtain ⟨⟨h1, h2⟩, h3, h4⟩ := hq
    have hd := okB_dim h1
    obtain ⟨hl, hsm⟩ := secB_len h2
    obtain ⟨N, hN⟩ : ∃ N : Nat, x.n = N := ⟨x.n.toNat, by omega⟩
    obtain ⟨K, rfl⟩ : ∃ K : Nat, k = K := ⟨k.toNat, by omega⟩
    obtain ⟨p, cap, rfl, hc1, hc2, hrow⟩ := hs
    obtain ⟨b, off, rfl, hr⟩ := hrow (by intro e; subst e; simp at hl; omega)
    refine (rpower_yes x cv b off cap N K l w hx hcv hr hc1 hlen hok hN).mono ?_
    rintro r w' ⟨g, rfl, hS, hb⟩
    have hL : powList rPrime x l K = (powTo N l K).take N := by unfold powList; rw [hok, hN]; rfl
    have hB : Bd 1048576 (powTo N l K) := by
      have PB := powTo_bd (n := N) (l := l) (by omega) hsm
      have : K = 0 ∨ K = 1 ∨ K = 2 := by omega
      rcases this with rfl | rfl | rfl
      · exact PB.1.mono (by omega)
      · exact PB.2.1.mono (by omega)
      · exact PB.2.2
    have hlt : ((powTo N l K).take N).length = N := by rw [List.length_take, powTo_length]; omega
    have h5 := SliceZ.ofBlk (k := .i64) hS (by rw [hlt]; omega) (fun q hq => by
      have := hB q (List.mem_of_mem_take hq)
      simp [Lit.wf, IntKind.min, IntKind.max, IntKind.bits, IntKind.signed]; omega)
    rw [hlt] at h5
    exact ⟨⟨_, by unfold powErr; rw [hok]; rfl, by rw [hL]; exact h5⟩, hb⟩
end Go.Proofs.Ytjfjbkocopaehaa
