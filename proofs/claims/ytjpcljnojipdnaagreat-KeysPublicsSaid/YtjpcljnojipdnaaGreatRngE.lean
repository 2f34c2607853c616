/- ring.moduli's iterator, at valid parameters. -/
import Derived.Test.YtjpcljnojipdnaaGreatRngD
import Derived.Test.YtjpcljnojipdnaaGreatDefX
import Derived.Shelf.RegionOpen
namespace Go.Proofs.YtjpcljnojipdnaaGreat
open Go.RowKit Go.Shelf
attribute [local go_sem] Oper.semAt_some

/-- A place below R. -/
abbrev Idx (R : Nat) := { i : Nat // i < R }
def ixs {R : Nat} (l : List (Idx R)) : List Nat := l.map (fun x => x.1)
theorem ixs_snoc {R : Nat} (l : List (Idx R)) (x : Idx R) : ixs (l ++ [x]) = ixs l ++ [x.1] := by simp [ixs]
theorem ixs_len {R : Nat} (l : List (Idx R)) : (ixs l).length = l.length := by simp [ixs]
def encQ (Q : List Nat) {R : Nat} (x : Idx R) : Array Value := #[.int .i64 (x.1 : Nat), .int .u32 (Q.getD x.1 0 : Nat)]
theorem abid_drewN {β : Type} {B : Nat} {J : β → World → Prop} (h : AbidesFrom B J) {s : β} {W : World} (hs : J s W) (k : Nat) : J s (W.drewN k) :=
  h s W (W.drewN k) none hs ⟨rfl, rfl, rfl, Nat.le_refl _, fun _ _ _ => rfl⟩ (fun r e => by cases e)
theorem abid_drew {β : Type} {B : Nat} {J : β → World → Prop} (h : AbidesFrom B J) {s : β} {W : World} (hs : J s W) : J s W.drew :=
  h s W W.drew none hs ⟨rfl, rfl, rfl, Nat.le_refl _, fun _ _ _ => rfl⟩ (fun r e => by cases e)

/-- What the iterator reads. -/
structure MoB (W : World) (Bp Bl Bs Pp b off len cap L : Nat) (sp : Bool) (x : Par) : Prop where
  p : W.cell? ⟨Bp, 0, none⟩ = some (.pointer (some ⟨Pp, 0, none⟩))
  l : W.cell? ⟨Bl, 0, none⟩ = some (.int .i64 L)
  s : W.cell? ⟨Bs, 0, none⟩ = some (.bool sp)
  c : W.cell? ⟨Pp, 3, none⟩ = some (.slice (some ⟨b, off, none⟩) len cap)
  sp : W.cell? ⟨Pp, 4, none⟩ = some (.int .u32 x.sp)
  row : RowAt W b off x.ch
  bp : Bp < W.heap.size
  bl : Bl < W.heap.size
  bs : Bs < W.heap.size
  pp : Pp < W.heap.size
theorem MoB.below {W W' : World} {Bp Bl Bs Pp b off len cap L : Nat} {sp : Bool} {x : Par} {n0 : Nat} (h : MoB W Bp Bl Bs Pp b off len cap L sp x) (hn : n0 = W.heap.size) (hb : Below n0 W W') : MoB W' Bp Bl Bs Pp b off len cap L sp x := by
  subst hn
  exact ⟨(below_at hb h.bp).trans h.p, (below_at hb h.bl).trans h.l, (below_at hb h.bs).trans h.s, (below_at hb h.pp).trans h.c, (below_at hb h.pp).trans h.sp, h.row.below hb h.row.blk,
    Nat.lt_of_lt_of_le h.bp hb.size, Nat.lt_of_lt_of_le h.bl hb.size, Nat.lt_of_lt_of_le h.bs hb.size, Nat.lt_of_lt_of_le h.pp hb.size⟩

theorem qs_at {x : Par} {L i : Nat} {sp : Bool} (hL : L ≤ x.ch.length) (hi : i < L) : (qsOf x L sp).getD i 0 = x.ch[i]'(by omega) := by
  unfold qsOf
  rw [List.getD_eq_getElem?_getD, List.getElem?_append_left (by rw [List.length_take]; omega), List.getElem?_take, if_pos hi, List.getElem?_eq_getElem (by omega)]; rfl
theorem qs_last {x : Par} {L : Nat} (hL : L ≤ x.ch.length) : (qsOf x L true).getD L 0 = x.sp := by
  unfold qsOf
  rw [List.getD_eq_getElem?_getD, List.getElem?_append_right (by rw [List.length_take]; omega), List.length_take, Nat.min_eq_left hL, Nat.sub_self]; rfl

set_option maxHeartbeats 2000000 in
set_option maxRecDepth 100000 in
theorem moduli_in (n : Nat) (l Bp Bl Bs Pp b off cap L R : Nat) (sp : Bool) (x : Par) (hL : L ≤ x.ch.length) (hL2 : x.ch.length ≤ 26) (hcap : x.ch.length ≤ cap) (hR : R = L + (if sp then 1 else 0))
    (J Jx : List (Idx R) → World → Prop) (w W : World) (hM : MoB w Bp Bl Bs Pp b off x.ch.length cap L sp x) (hW : Below w.heap.size w W) (hJ : AbidesFrom W.heap.size J)
    (hY : ∀ pre (y : Idx R) W, J pre W → pre.length < R → YieldAt Fence.wide (n - 1) Tryz.prog l (encQ (qsOf x L sp) y) W fun e W' =>
      (e = .returned (.bool true) ∧ J (pre ++ [y]) W' ∧ Below w.heap.size W W') ∨ (e = .returned (.bool false) ∧ Jx (pre ++ [y]) W'))
    (hn : 1 ≤ n) (h0 : J [] W) :
    CallsIn Fence.wide n Tryz.prog 148 #[.func (.yield l) #[] #[], .pointer (some ⟨Bp, 0, none⟩), .pointer (some ⟨Bl, 0, none⟩), .pointer (some ⟨Bs, 0, none⟩)] W fun e W' => (∃ v, e = .returned v) ∧
      ((∃ ys, ixs ys = List.range R ∧ J ys W') ∨ (∃ pre, True ∧ Jx pre W')) := by
  have hMW := hM.below rfl hW
  have z1 := hMW.p; have z2 := hMW.l; have z3 := hMW.s; have z4 := hMW.c; have z5 := hMW.sp
  have HW := Lib.hid hW
  have HJ := Lib.hid hJ
  have HM := Lib.hid hM
  have hLI : (0 : Int) ≤ (L : Int) := by omega
  have hLc : (L : Int) ≤ (cap : Int) := by omega
  clear hW hJ hM hMW
  refine callsIn_of_wp Tryz.func148 rfl trivial ?_ rfl
  simp only [Tryz.ntmps148, List.size_toArray, List.length_cons, List.length_nil, Nat.reduceAdd, Nat.reduceSub, Array.replicate_succ, Array.replicate_zero, List.push_toArray, List.append_toArray, List.nil_append, List.cons_append]
  gi_wp2
  refine wpIn_wide.2 ?_
  go_quiet (fail)
  gi_wp2
  gi_loopw [14] (fun vi wr => ∃ (i : Nat) (pre : List (Idx R)), vi = .int .i64 i ∧ i ≤ L ∧ Hid (ixs pre = List.range i) ∧ Hid (J pre wr) ∧ Hid (Below w.heap.size w wr)) (fun vi _ => L - (intOf vi).toNat)
  case atStart => exact ⟨0, [], rfl, by omega, rfl, abid_drewN HJ.out h0 _, below_drewN HW.out _⟩
  case round =>
    obtain ⟨i, pre, rfl, hi, hpre, hJr, hbr⟩ := hrel
    have hMr := HM.out.below rfl hbr.out
    have hpl : Hid (pre.length = i) := by show _ = _; rw [← ixs_len, hpre.out, List.length_range]
    by_cases hlt : i < L
    · have i0 : (0 : Int) ≤ (i : Int) := by omega
      have i1 : (i : Int) < (L : Int) := by omega
      have hiR : i < R := by rw [hR]; omega
      have hrow := hMr.row.cell i (by omega)
      have hq := qs_at (x := x) (sp := sp) hL hlt
      obtain ⟨fn, tmps, assign, body, hy, hRR⟩ := hY pre ⟨i, hiR⟩ wr hJr.out (by have := hpl.out; omega)
      simp only [encQ] at hy
      rw [hq] at hy
      have HBR := hbr
      clear hMr hq hJr h0 z1 z2 z3 z4 z5
      gi_wp2
      refine hRR.mono ?_
      clear hy hRR
      rintro e W' (⟨rfl, hJ', hk'⟩ | ⟨rfl, hJx'⟩)
      · have HJ' := Lib.hid hJ'
        have hb2 : Hid (Below w.heap.size w W') := HBR.out.trans hk'
        clear hJ' hk'
        gi_wp2
        go_roundw
        case rel => exact ⟨i + 1, pre ++ [⟨i, hiR⟩], by go_num, by omega, by show _ = _; rw [ixs_snoc, hpre.out, List.range_succ], HJ', hb2⟩
        case measure => simp [intOf]; omega
      · have HJ' := Lib.hid hJx'
        clear hJx'
        gi_wp2
        refine bodyPost_ret (results_none rfl _ _ _) rfl ?_
        exact ⟨⟨_, rfl⟩, .inr ⟨pre ++ [⟨i, hiR⟩], trivial, HJ'.out⟩⟩
    · have i1 : ¬ ((i : Int) < (L : Int)) := by omega
      obtain rfl : i = L := by omega
      have y1 := hMr.p; have y2 := hMr.l; have y3 := hMr.s; have y4 := hMr.c; have y5 := hMr.sp
      clear z1 z2 z3 z4 z5
      cases sp with
      | false =>
        have hRi : Hid (i = R) := by show _ = _; rw [hR]; rfl
        clear hR
        gi_wp2
        go_end0
        exact ⟨⟨_, rfl⟩, .inl ⟨pre, by rw [hpre.out, hRi.out], hJr.out⟩⟩
      | true =>
        have hiR : i < R := by rw [hR]; simp
        have hq := qs_last (x := x) hL
        obtain ⟨fn, tmps, assign, body, hy, hRR⟩ := hY pre ⟨i, hiR⟩ wr.drew (abid_drew HJ.out hJr.out) (by have := hpl.out; omega)
        simp only [encQ] at hy
        rw [hq] at hy
        clear hq hJr h0 hMr
        have hRi : Hid (i + 1 = R) := by show _ = _; rw [hR]; simp
        have hR2 := hRR.mono (R' := fun e W' => ∃ v : Bool, e = .returned (.bool v) ∧ (J (pre ++ [⟨i, hiR⟩]) W' ∨ Jx (pre ++ [⟨i, hiR⟩]) W')) (by
          rintro e W' (⟨rfl, h, _⟩ | ⟨rfl, h⟩)
          · exact ⟨true, rfl, .inl h⟩
          · exact ⟨false, rfl, .inr h⟩)
        have hmx : Tryz.prog.follows .mixedOrders = true := by kernel_rfl
        clear hRR hR
        gi_wp2
        gi_region_with_o (refine hR2.mono ?_; rintro e W' ⟨v, rfl, hpost⟩)
        all_goals
          go_end0
          refine ⟨⟨_, rfl⟩, ?_⟩
          rcases hpost with h | h
          · exact .inl ⟨pre ++ [⟨i, hiR⟩], by rw [ixs_snoc, hpre.out, ← List.range_succ]; exact congrArg _ hRi.out, h⟩
          · exact .inr ⟨_, trivial, h⟩

theorem moduli_stops (n : Nat) (hn : 1 ≤ n) (Bp Bl Bs Pp b off cap L R : Nat) (sp : Bool) (x : Par) (hL : L ≤ x.ch.length) (hL2 : x.ch.length ≤ 26) (hcap : x.ch.length ≤ cap) (hR : R = L + (if sp then 1 else 0))
    (w : World) (hM : MoB w Bp Bl Bs Pp b off x.ch.length cap L sp x) :
    SeqStopsK Fence.wide n Tryz.prog 148 #[.pointer (some ⟨Bp, 0, none⟩), .pointer (some ⟨Bl, 0, none⟩), .pointer (some ⟨Bs, 0, none⟩)] (encQ (R := R) (qsOf x L sp)) (Below w.heap.size) (fun ys => ixs ys = List.range R) (fun _ => True) R w :=
  fun l J Jx W hW hJ _ hY h0 => moduli_in n l Bp Bl Bs Pp b off cap L R sp x hL hL2 hcap hR J Jx w W hM hW hJ hY hn h0

theorem moduli_any (pv lv sv : Value) (Pp : Nat) (L : Nat) (sp : Bool) (w : World) (hp : pv = .pointer (some ⟨Pp, 0, none⟩)) (hl : lv = .int .i64 L) (hs : sv = .bool sp) :
    Calls Tryz.prog 133 #[pv, lv, sv] w fun r w' => r = .returned (.func (.func 148) #[] #[.pointer (some ⟨w.heap.size, 0, none⟩), .pointer (some ⟨w.heap.size + 1, 0, none⟩), .pointer (some ⟨w.heap.size + 1 + 1, 0, none⟩)]) ∧ ((w.alloc (.cells #[.pointer (some ⟨Pp, 0, none⟩)] 125)).alloc (.cells #[.int .i64 L] 3)).alloc (.cells #[.bool sp] 4) = w' := by
  subst hp hl hs
  go_enter Tryz.func133, Tryz.ntmps133
  go_wp2_with fail
  go_ret
  exact ⟨rfl, rfl⟩
end Go.Proofs.YtjpcljnojipdnaaGreat
