/- ring.moduli's iterator where one block of the caller's turns between the rounds; rows of rows that the call owns. (Printed by gen_PubD.py out of XRngE.) -/
import Derived.Test.YtjpcljnojipdnaaGreatRngG
import Derived.Test.YtjpcljnojipdnaaGreatPubC
namespace Go.Proofs.YtjpcljnojipdnaaGreat
open Go.RowKit Go.Shelf
attribute [local go_sem] Oper.semAt_some
set_option linter.unusedVariables false

/-- What lay below n lies as it lay, but for block o. -/
structure BelX (o n : Nat) (A B : World) : Prop where
  os : B.os = A.os
  tape : B.tape = A.tape
  output : B.output = A.output
  size : A.heap.size ≤ B.heap.size
  block : ∀ k, k < n → k ≠ o → B.heap[k]? = A.heap[k]?
theorem BelX.refl (o n : Nat) (w : World) : BelX o n w w := ⟨rfl, rfl, rfl, Nat.le_refl _, fun _ _ _ => rfl⟩
theorem BelX.trans {o n : Nat} {a b c : World} (h : BelX o n a b) (k : BelX o n b c) : BelX o n a c :=
  ⟨k.os.trans h.os, k.tape.trans h.tape, k.output.trans h.output, Nat.le_trans h.size k.size, fun i hi h1 => (k.block i hi h1).trans (h.block i hi h1)⟩
theorem BelX.ofB {o n : Nat} {a b : World} (h : Below n a b) : BelX o n a b := ⟨h.os, h.tape, h.output, h.size, fun k hk _ => h.block k hk⟩
theorem BelX.drewN {o n : Nat} {a b : World} (h : BelX o n a b) (k : Nat) : BelX o n a (b.drewN k) := ⟨h.os, h.tape, h.output, h.size, h.block⟩
theorem BelX.mono {o n m : Nat} {a b : World} (h : BelX o n a b) (hm : m ≤ n) : BelX o m a b := ⟨h.os, h.tape, h.output, h.size, fun k hk => h.block k (by omega)⟩
theorem BelX.below {o n : Nat} {a b : World} (h : BelX o n a b) (ho : n ≤ o) : Below n a b := ⟨h.os, h.tape, h.output, h.size, fun k hk => h.block k hk (by omega)⟩
theorem BelX.cell {o n k i : Nat} {a b : World} (h : BelX o n a b) (hk : k < n) (h1 : k ≠ o) : b.cell? ⟨k, i, none⟩ = a.cell? ⟨k, i, none⟩ := World.cell?_of_block (a := ⟨k, i, none⟩) (h.block k hk h1)
theorem BelX.gr {o n : Nat} {a b c : World} {row : Option Nat} (h : BelX o n a b) (hg : b.grownBy c row) (hb : n ≤ b.heap.size) (hr : ∀ q, row = some q → q = o ∨ n ≤ q) : BelX o n a c :=
  ⟨hg.os.trans h.os, hg.tape.trans h.tape, hg.output.trans h.output, Nat.le_trans h.size hg.size, fun k hk h1 => (hg.block k (by omega) (fun e => by rcases hr k e.symm with h2 | h2 <;> omega)).trans (h.block k hk h1)⟩
theorem BelX.set {o n : Nat} {a b : World} (h : BelX o n a b) (i : Nat) (u : Value) : BelX o n a (b.setCell ⟨o, i, none⟩ u) :=
  ⟨h.os, h.tape, h.output, by simpa using h.size, fun k hk h1 => (Below.heap_setCell b ⟨o, i, none⟩ u k h1).trans (h.block k hk h1)⟩
theorem ownFrom_belx {β : Type} {o n B : Nat} {w₀ : World} (hn : n ≤ w₀.heap.size) (hB : n ≤ B) : OwnFrom B (fun (_ : β) W => BelX o n w₀ W) := fun _ X Y row hs hg hr =>
  hs.gr hg (Nat.le_trans hn hs.size) (fun q e => .inr (Nat.le_trans hB (hr q e).1))
theorem belxK_b {o n : Nat} {w : World} (hn : n ≤ w.heap.size) (W : World) (l : Nat) (ob o' : Obj) (hl : w.heap.size ≤ l) (h : W.heap[l]? = some ob) (h1 : ob.isCells = false) (h2 : ob.isWalk = false) : BelX o n W (W.putObj l o') :=
  BelX.ofB (belowK_b hn W l ob o' hl h h1 h2)
/-- Block o is none of these. -/
structure NoX (o Bp Bl Bs Pp b : Nat) : Prop where
  p : Bp ≠ o
  l : Bl ≠ o
  s : Bs ≠ o
  q : Pp ≠ o
  b : b ≠ o
theorem MoB.belx {W W' : World} {o Bp Bl Bs Pp b off len cap L : Nat} {sp : Bool} {x : Par} {n0 : Nat} (h : MoB W Bp Bl Bs Pp b off len cap L sp x) (ho : NoX o Bp Bl Bs Pp b) (hn : n0 = W.heap.size) (hb : BelX o n0 W W') : MoB W' Bp Bl Bs Pp b off len cap L sp x := by
  subst hn
  exact ⟨(hb.cell h.bp ho.p).trans h.p, (hb.cell h.bl ho.l).trans h.l, (hb.cell h.bs ho.s).trans h.s, (hb.cell h.pp ho.q).trans h.c, (hb.cell h.pp ho.q).trans h.sp,
    ⟨Nat.lt_of_lt_of_le h.row.blk hb.size, fun i hi => (hb.cell h.row.blk ho.b).trans (h.row.cell i hi), h.row.rng⟩,
    Nat.lt_of_lt_of_le h.bp hb.size, Nat.lt_of_lt_of_le h.bl hb.size, Nat.lt_of_lt_of_le h.bs hb.size, Nat.lt_of_lt_of_le h.pp hb.size⟩

set_option maxHeartbeats 2000000 in
set_option maxRecDepth 100000 in
theorem modulx_in (n : Nat) (o l Bp Bl Bs Pp b off cap L R : Nat) (sp : Bool) (x : Par) (hL : L ≤ x.ch.length) (hL2 : x.ch.length ≤ 26) (hcap : x.ch.length ≤ cap) (hR : R = L + (if sp then 1 else 0))
    (J Jx : List (Idx R) → World → Prop) (w W : World) (hM : MoB w Bp Bl Bs Pp b off x.ch.length cap L sp x) (hW : BelX o w.heap.size w W) (ho : NoX o Bp Bl Bs Pp b) (hJ : AbidesFrom W.heap.size J)
    (hY : ∀ pre (y : Idx R) W, J pre W → pre.length < R → YieldAt Fence.wide (n - 1) Tryz.prog l (encQ (qsOf x L sp) y) W fun e W' =>
      (e = .returned (.bool true) ∧ J (pre ++ [y]) W' ∧ BelX o w.heap.size W W') ∨ (e = .returned (.bool false) ∧ Jx (pre ++ [y]) W'))
    (hn : 1 ≤ n) (h0 : J [] W) :
    CallsIn Fence.wide n Tryz.prog 148 #[.func (.yield l) #[] #[], .pointer (some ⟨Bp, 0, none⟩), .pointer (some ⟨Bl, 0, none⟩), .pointer (some ⟨Bs, 0, none⟩)] W fun e W' => (∃ v, e = .returned v) ∧
      ((∃ ys, ixs ys = List.range R ∧ J ys W') ∨ (∃ pre, True ∧ Jx pre W')) := by
  have hMW := hM.belx ho rfl hW
  have z1 := hMW.p; have z2 := hMW.l; have z3 := hMW.s; have z4 := hMW.c; have z5 := hMW.sp
  have HW := Lib.hid hW
  have HJ := Lib.hid hJ
  have HM := Lib.hid hM
  have hLI : (0 : Int) ≤ (L : Int) := by omega
  have hLc : (L : Int) ≤ (cap : Int) := by omega
  clear hW hJ hM hMW
  refine callsIn_of_wp Tryz.func148 rfl trivial ?_ rfl
  simp only [Tryz.ntmps148, List.size_toArray, List.length_cons, List.length_nil, Nat.reduceAdd, Nat.reduceSub, Array.replicate_succ, Array.replicate_zero, List.push_toArray, List.append_toArray, List.nil_append, List.cons_append]
  gi_wp2
  refine wpIn_wide.2 ?_
  go_quiet (fail)
  gi_wp2
  gi_loopw [14] (fun vi wr => ∃ (i : Nat) (pre : List (Idx R)), vi = .int .i64 i ∧ i ≤ L ∧ Hid (ixs pre = List.range i) ∧ Hid (J pre wr) ∧ Hid (BelX o w.heap.size w wr)) (fun vi _ => L - (intOf vi).toNat)
  case atStart => exact ⟨0, [], rfl, by omega, rfl, abid_drewN HJ.out h0 _, HW.out.drewN _⟩
  case round =>
    obtain ⟨i, pre, rfl, hi, hpre, hJr, hbr⟩ := hrel
    have hMr := HM.out.belx ho rfl hbr.out
    have hpl : Hid (pre.length = i) := by show _ = _; rw [← ixs_len, hpre.out, List.length_range]
    by_cases hlt : i < L
    · have i0 : (0 : Int) ≤ (i : Int) := by omega
      have i1 : (i : Int) < (L : Int) := by omega
      have hiR : i < R := by rw [hR]; omega
      have hrow := hMr.row.cell i (by omega)
      have hq := qs_at (x := x) (sp := sp) hL hlt
      obtain ⟨fn, tmps, assign, body, hy, hRR⟩ := hY pre ⟨i, hiR⟩ wr hJr.out (by have := hpl.out; omega)
      simp only [encQ] at hy
      rw [hq] at hy
      have HBR := hbr
      clear hMr hq hJr h0 z1 z2 z3 z4 z5
      gi_wp2
      refine hRR.mono ?_
      clear hy hRR
      rintro e W' (⟨rfl, hJ', hk'⟩ | ⟨rfl, hJx'⟩)
      · have HJ' := Lib.hid hJ'
        have hb2 : Hid (BelX o w.heap.size w W') := HBR.out.trans hk'
        clear hJ' hk'
        gi_wp2
        go_roundw
        case rel => exact ⟨i + 1, pre ++ [⟨i, hiR⟩], by go_num, by omega, by show _ = _; rw [ixs_snoc, hpre.out, List.range_succ], HJ', hb2⟩
        case measure => simp [intOf]; omega
      · have HJ' := Lib.hid hJx'
        clear hJx'
        gi_wp2
        refine bodyPost_ret (results_none rfl _ _ _) rfl ?_
        exact ⟨⟨_, rfl⟩, .inr ⟨pre ++ [⟨i, hiR⟩], trivial, HJ'.out⟩⟩
    · have i1 : ¬ ((i : Int) < (L : Int)) := by omega
      obtain rfl : i = L := by omega
      have y1 := hMr.p; have y2 := hMr.l; have y3 := hMr.s; have y4 := hMr.c; have y5 := hMr.sp
      clear z1 z2 z3 z4 z5
      cases sp with
      | false =>
        have hRi : Hid (i = R) := by show _ = _; rw [hR]; rfl
        clear hR
        gi_wp2
        go_end0
        exact ⟨⟨_, rfl⟩, .inl ⟨pre, by rw [hpre.out, hRi.out], hJr.out⟩⟩
      | true =>
        have hiR : i < R := by rw [hR]; simp
        have hq := qs_last (x := x) hL
        obtain ⟨fn, tmps, assign, body, hy, hRR⟩ := hY pre ⟨i, hiR⟩ wr.drew (abid_drew HJ.out hJr.out) (by have := hpl.out; omega)
        simp only [encQ] at hy
        rw [hq] at hy
        clear hq hJr h0 hMr
        have hRi : Hid (i + 1 = R) := by show _ = _; rw [hR]; simp
        have hR2 := hRR.mono (R' := fun e W' => ∃ v : Bool, e = .returned (.bool v) ∧ (J (pre ++ [⟨i, hiR⟩]) W' ∨ Jx (pre ++ [⟨i, hiR⟩]) W')) (by
          rintro e W' (⟨rfl, h, _⟩ | ⟨rfl, h⟩)
          · exact ⟨true, rfl, .inl h⟩
          · exact ⟨false, rfl, .inr h⟩)
        have hmx : Tryz.prog.follows .mixedOrders = true := by kernel_rfl
        clear hRR hR
        gi_wp2
        gi_region_with_o (refine hR2.mono ?_; rintro e W' ⟨v, rfl, hpost⟩)
        all_goals
          go_end0
          refine ⟨⟨_, rfl⟩, ?_⟩
          rcases hpost with h | h
          · exact .inl ⟨pre ++ [⟨i, hiR⟩], by rw [ixs_snoc, hpre.out, ← List.range_succ]; exact congrArg _ hRi.out, h⟩
          · exact .inr ⟨_, trivial, h⟩

theorem modulx_stops (n : Nat) (hn : 1 ≤ n) (o Bp Bl Bs Pp b off cap L R : Nat) (sp : Bool) (x : Par) (hL : L ≤ x.ch.length) (hL2 : x.ch.length ≤ 26) (hcap : x.ch.length ≤ cap) (hR : R = L + (if sp then 1 else 0))
    (w : World) (ho : NoX o Bp Bl Bs Pp b) (hM : MoB w Bp Bl Bs Pp b off x.ch.length cap L sp x) :
    SeqStopsK Fence.wide n Tryz.prog 148 #[.pointer (some ⟨Bp, 0, none⟩), .pointer (some ⟨Bl, 0, none⟩), .pointer (some ⟨Bs, 0, none⟩)] (encQ (R := R) (qsOf x L sp)) (BelX o w.heap.size) (fun ys => ixs ys = List.range R) (fun _ => True) R w :=
  fun l J Jx W hW hJ _ hY h0 => modulx_in n o l Bp Bl Bs Pp b off cap L R sp x hL hL2 hcap hR J Jx w W hM (BelX.ofB hW) ho hJ hY hn h0


/-- Rows that the call owns. -/
def RowsV (base : Nat) (W : World) (vs : List Value) (rows : List (List Nat)) : Prop :=
  vs.length = rows.length ∧ ∀ i (h : i < vs.length) (h2 : i < rows.length), W.ownsRow base 22 1 vs[i] rows[i].length (u32s rows[i])
theorem RowsV.nil (base : Nat) (W : World) : RowsV base W [] [] := ⟨rfl, fun i h => absurd h (by simp)⟩
theorem RowsV.mono {base b2 : Nat} {W : World} {vs : List Value} {rows : List (List Nat)} (h : RowsV base W vs rows) (hb : b2 ≤ base) : RowsV b2 W vs rows := by
  refine ⟨h.1, fun i h1 h2 => ?_⟩
  obtain ⟨k1, k2⟩ := h.2 i h1 h2
  refine ⟨k1, ?_⟩
  rcases k2 with h3 | ⟨g, cap, cur, e, hg, rest⟩
  · exact .inl h3
  · exact .inr ⟨g, cap, cur, e, Nat.le_trans hb hg, rest⟩
/-- Words in a row of their own type: a block of another type, or none of cells, is none of theirs. -/
theorem own_other {base g : Nat} {W W' : World} {v : Value} {n : Nat} {xs : List Value} {row : Option Nat} (h : W.ownsRow base 22 1 v n xs) (hg : W.grownBy W' row)
    (hne : ∀ r, row = some r → r < base ∨ (∀ cs, W.heap[r]? ≠ some (.cells cs 22 (0, 0)))) : W'.ownsRow base 22 1 v n xs := by
  refine ⟨h.1, ?_⟩
  rcases h.2 with h3 | ⟨b, cap, cur, e, hb, hc, rest⟩
  · exact .inl h3
  · refine .inr ⟨b, cap, cur, e, hb, ?_, rest⟩
    rw [hg.block b (Array.getElem?_eq_some_iff.1 hc).1 (fun er => ?_)]
    · exact hc
    · rcases hne b er.symm with h1 | h1
      · omega
      · exact h1 _ hc
theorem RowsV.other {base : Nat} {W W' : World} {vs : List Value} {rows : List (List Nat)} {row : Option Nat} (h : RowsV base W vs rows) (hg : W.grownBy W' row)
    (hne : ∀ r, row = some r → r < base ∨ (∀ cs, W.heap[r]? ≠ some (.cells cs 22 (0, 0)))) : RowsV base W' vs rows :=
  ⟨h.1, fun i h1 h2 => own_other (g := 0) (h.2 i h1 h2) hg hne⟩
theorem RowsV.snoc {base : Nat} {W : World} {vs : List Value} {rows : List (List Nat)} {v : Value} {r : List Nat} (h : RowsV base W vs rows) (hv : W.ownsRow base 22 1 v r.length (u32s r)) : RowsV base W (vs ++ [v]) (rows ++ [r]) := by
  refine ⟨by simp [h.1], fun i h1 h2 => ?_⟩
  by_cases e : i < vs.length
  · have e2 : i < rows.length := by rw [← h.1]; exact e
    have := h.2 i e e2
    rw [List.getElem_append_left e, List.getElem_append_left e2]
    exact this
  · have e1 : i = vs.length := by rw [List.length_append, List.length_singleton] at h1; omega
    subst e1
    rw [List.getElem_append_right (Nat.le_refl _), List.getElem_append_right (by rw [h.1]; omega)]
    simp only [Nat.sub_self, h.1, List.getElem_singleton]
    exact hv
/-- The outer row: slices of words. -/
theorem RowsV.slice {base n : Nat} {W : World} {v : Value} {vs : List Value} {rows : List (List Nat)} (h : RowsV base W vs rows) (ho : W.ownsRow base 23 1 v n vs) (hl : rows.length ≤ 4096) (hr : ∀ r, r ∈ rows → r.length ≤ 4096 ∧ ∀ q, q ∈ r → q < 4294967296) : SliceR W v rows := by
  have hn : n = rows.length := by have := ho.1; rw [Nat.mul_one] at this; rw [← this, h.1]
  subst hn
  rcases ho.2 with ⟨rfl, h0⟩ | ⟨g, cap, cur, rfl, hb, hg, hnc, hm, hs, ht⟩
  · have : rows = [] := List.length_eq_zero_iff.1 h0
    subst this
    exact ⟨none, 0, rfl, Nat.le_refl _, by simp, fun h => absurd rfl h⟩
  · refine ⟨_, cap, rfl, hnc, by omega, fun _ => ⟨g, 0, rfl, lt_of_block hg, fun i hi => ?_⟩⟩
    have hiv : i < vs.length := by rw [h.1]; exact hi
    refine ⟨vs[i], ?_, ?_⟩
    · have e1 : (cur.toList.take (rows.length * 1))[i]? = vs[i]? := by rw [ht]
      rw [List.getElem?_take, if_pos (by omega), Array.getElem?_toList, List.getElem?_eq_getElem hiv] at e1
      simp only [World.cell?, hg, Nat.zero_add, Option.isSome_none, Bool.false_eq_true, if_false]
      rw [e1]
    · have hrow := hr rows[i] (List.getElem_mem hi)
      exact SliceAt.ofOwns (h.2 i hiv hi) (by omega) hrow.2
/-- A world in which only blocks of no cells, or below the base, have turned. -/
theorem cells_ne {W : World} {r : Nat} {o : Obj} (h : W.heap[r]? = some o) (hc : o.isCells = false) {T : TypeId} : ∀ cs, W.heap[r]? ≠ some (.cells cs T (0, 0)) := by
  intro cs e
  rw [h] at e
  injection e with e
  subst e
  cases hc
theorem type_ne {W : World} {r : Nat} {cs : Array Value} {T U : TypeId} (h : W.heap[r]? = some (.cells cs T (0, 0))) (hT : T ≠ U) : ∀ cs, W.heap[r]? ≠ some (.cells cs U (0, 0)) := by
  intro c2 e
  rw [h] at e
  injection e with e
  injection e with _ e2 _
  exact hT e2
end Go.Proofs.YtjpcljnojipdnaaGreat
