/- The sponge: obscuraref11.sponge. (Printed by gen_SpgI.py.) -/
import Derived.Test.YtjfjbkocopaehaaDoorSpgH
import Derived.Test.YtjfjbkocopaehaaDoorMrkA
namespace Go.Proofs.YtjfjbkocopaehaaDoor
open Go.RowKit
set_option linter.unusedVariables false

theorem rperm12_any (x : S5) (w : World) :
    Calls Tryd.prog 72 #[.agg #[.int .u64 x.a, .int .u64 x.b, .int .u64 x.c, .int .u64 x.d, .int .u64 x.e], .int .i64 12] w fun e w' => e = .returned (.agg #[.int .u64 (perm x 12).a, .int .u64 (perm x 12).b, .int .u64 (perm x 12).c, .int .u64 (perm x 12).d, .int .u64 (perm x 12).e]) ∧ Below w.heap.size w w' :=
  rperm_any x 12 w (by decide)
/-- The first bytes of a string with its padding. -/
def padTo (s : ByteArray) (m : Nat) : List Int := (List.range m).map (padB s)
theorem padTo_length (s : ByteArray) (m : Nat) : (padTo s m).length = m := by unfold padTo; simp
theorem padTo_succ (s : ByteArray) (m : Nat) : by8 (padTo s (m + 1)) = by8 (padTo s m) ++ [.int .u8 (padB s m)] := by unfold padTo by8; rw [List.range_succ, List.map_append, List.map_append]; rfl
theorem padTo_get {s : ByteArray} {m q : Nat} (h : q < (by8 (padTo s m)).length) : (by8 (padTo s m))[q] = .int .u8 (padB s q) := by simp [by8, padTo]
theorem padB_bd (s : ByteArray) (i : Nat) : 0 ≤ padB s i ∧ padB s i < 256 := by
  unfold padB
  split
  · rename_i h
    have := UInt8.toNat_lt (s[i]'h)
    omega
  · split <;> omega
theorem padTo_str (s : ByteArray) : (s.data.toList.map fun b => Value.int .u8 (b.toNat : Nat)) = by8 (padTo s s.size) := by
  apply List.ext_getElem
  · simp [by8, padTo]
  · intro i h1 h2
    have hi : i < s.size := by simpa [by8, padTo] using h2
    rw [padTo_get, pad_in hi, List.getElem_map, Array.getElem_toList]; rfl
theorem own_cellsP {w : World} {base : Nat} {e : TypeId} {p : Option Addr} {n cap : Nat} {xs : List Value} (h : w.ownsRow base e 1 (.slice p n cap) n xs) (hn : 0 < n) : ∃ g, p = some ⟨g, 0, none⟩ ∧ n ≤ cap ∧ ∀ i (hi : i < xs.length), w.cell? ⟨g, i, none⟩ = some xs[i] := by
  refine own_cellsB h ?_
  rintro rfl
  rcases h.2 with ⟨hv, h0⟩ | ⟨g, cap', cur, hv, _⟩
  · omega
  · injection hv with h1; cases h1

/-- What the reference holds while it absorbs. -/
structure RsP (w W : World) (bx base : Nat) (y : S5) (v : Value) (m : Nat) (s : ByteArray) : Prop where
  x : Blk W bx y.l 87
  b : ownsMark W base 5 v m (by8 (padTo s m))
  bel : Below w.heap.size w W
  hx : bx < base
  hw : w.heap.size ≤ bx
  hb : base ≤ W.heap.size
theorem RsP.below {w W W' : World} {bx base : Nat} {y : S5} {v : Value} {m : Nat} {s : ByteArray} (h : RsP w W bx base y v m s) (hb : Below W.heap.size W W') : RsP w W' bx base y v m s :=
  ⟨h.x.below hb h.x.lt, h.b.below hb, h.bel.trans (hb.mono h.bel.size), h.hx, h.hw, Nat.le_trans h.hb hb.size⟩
theorem RsP.put1 {w W : World} {bx base : Nat} {y : S5} {u : Value} {m : Nat} {s : ByteArray} (h : RsP w W bx base y u m s) (i : Nat) (v : Int) (y' : S5) (he : y.l.set i (.int .u64 v) = y'.l) : RsP w (W.setCell ⟨bx, i, none⟩ (.int .u64 v)) bx base y' u m s :=
  ⟨he ▸ h.x.set i (.int .u64 v), h.b.setCell (a := ⟨bx, i, none⟩) h.hx _, h.bel.setCell (p := ⟨bx, i, none⟩) h.hw _, h.hx, h.hw, by simpa using h.hb⟩
theorem RsP.put {w W : World} {bx base : Nat} {y : S5} {u : Value} {m : Nat} {s : ByteArray} (h : RsP w W bx base y u m s) (z : S5) :
    RsP w (((((W.setCell ⟨bx, 0, none⟩ (.int .u64 z.a)).setCell ⟨bx, 1, none⟩ (.int .u64 z.b)).setCell ⟨bx, 2, none⟩ (.int .u64 z.c)).setCell ⟨bx, 3, none⟩ (.int .u64 z.d)).setCell ⟨bx, 4, none⟩ (.int .u64 z.e)) bx base z u m s :=
  ((((h.put1 0 z.a ⟨z.a, y.b, y.c, y.d, y.e⟩ rfl).put1 1 z.b ⟨z.a, z.b, y.c, y.d, y.e⟩ rfl).put1 2 z.c ⟨z.a, z.b, z.c, y.d, y.e⟩ rfl).put1 3 z.d ⟨z.a, z.b, z.c, z.d, y.e⟩ rfl).put1 4 z.e z rfl
theorem RsP.step {w W W' : World} {bx base : Nat} {y : S5} {v v' : Value} {m : Nat} {s : ByteArray} (h : RsP w W bx base y v m s) (tmp : Value) (hg : (W.alloc (.cells #[tmp] 5)).grownBy W' v.ownBlock)
    (ho : ownsMark W' base 5 v' (m + 1) (by8 (padTo s (m + 1)))) : RsP w W' bx base y v' (m + 1) s := by
  have hb1 : Below base W W' := by
    have h1 : Below base W (W.alloc (.cells #[tmp] 5)) := (Below.refl _ _).alloc h.hb _
    exact h1.grown hg (by have := h.hb; simp; omega) (fun q hq => (h.b.lt q hq).1)
  have hx := h.hx; have hwb := h.hw
  exact ⟨h.x.below hb1 hx, ho, h.bel.trans (hb1.mono (by omega)), hx, hwb, Nat.le_trans h.hb hb1.size⟩
/-- What the reference holds while it squeezes. -/
structure RsT (w W : World) (bx base : Nat) (y : S5) (p : Option Addr) (cap m : Nat) (L : List Int) : Prop where
  x : Blk W bx y.l 87
  own : W.ownsRow base 5 1 (.slice p m cap) m (by8 L)
  bel : Below w.heap.size w W
  hx : bx < base
  hb : base ≤ W.heap.size
  hw : w.heap.size ≤ bx
theorem RsT.below {w W W' : World} {bx base : Nat} {y : S5} {p : Option Addr} {cap m : Nat} {L : List Int} (h : RsT w W bx base y p cap m L) (hb : Below W.heap.size W W') : RsT w W' bx base y p cap m L :=
  ⟨h.x.below hb h.x.lt, owns_below h.own hb, h.bel.trans (hb.mono h.bel.size), h.hx, Nat.le_trans h.hb hb.size, h.hw⟩
theorem RsT.put1 {w W : World} {bx base : Nat} {y : S5} {p : Option Addr} {cap m : Nat} {L : List Int} (h : RsT w W bx base y p cap m L) (i : Nat) (v : Int) (y' : S5) (he : y.l.set i (.int .u64 v) = y'.l) : RsT w (W.setCell ⟨bx, i, none⟩ (.int .u64 v)) bx base y' p cap m L :=
  ⟨he ▸ h.x.set i (.int .u64 v), ownsRow_setCell_below h.own (a := ⟨bx, i, none⟩) h.hx _, h.bel.setCell (p := ⟨bx, i, none⟩) h.hw _, h.hx, by simpa using h.hb, h.hw⟩
theorem RsT.put {w W : World} {bx base : Nat} {y : S5} {p : Option Addr} {cap m : Nat} {L : List Int} (h : RsT w W bx base y p cap m L) (z : S5) :
    RsT w (((((W.setCell ⟨bx, 0, none⟩ (.int .u64 z.a)).setCell ⟨bx, 1, none⟩ (.int .u64 z.b)).setCell ⟨bx, 2, none⟩ (.int .u64 z.c)).setCell ⟨bx, 3, none⟩ (.int .u64 z.d)).setCell ⟨bx, 4, none⟩ (.int .u64 z.e)) bx base z p cap m L :=
  ((((h.put1 0 z.a ⟨z.a, y.b, y.c, y.d, y.e⟩ rfl).put1 1 z.b ⟨z.a, z.b, y.c, y.d, y.e⟩ rfl).put1 2 z.c ⟨z.a, z.b, z.c, y.d, y.e⟩ rfl).put1 3 z.d ⟨z.a, z.b, z.c, z.d, y.e⟩ rfl).put1 4 z.e z rfl
theorem RsT.step {w W W' : World} {bx base : Nat} {y : S5} {p p' : Option Addr} {cap cap' m : Nat} {L L' : List Int} (h : RsT w W bx base y p cap m L) (tmp : Value) (hg : (W.alloc (.cells #[tmp] 5)).grownBy W' (Value.slice p m cap).ownBlock)
    (ho : W'.ownsRow base 5 1 (.slice p' (m + 1) cap') (m + 1) (by8 L')) : RsT w W' bx base y p' cap' (m + 1) L' := by
  have hb1 : Below base W W' := by
    have h1 : Below base W (W.alloc (.cells #[tmp] 5)) := (Below.refl _ _).alloc h.hb _
    exact h1.grown hg (by have := h.hb; simp; omega) (own_ge h.own)
  have hx := h.hx; have hwb := h.hw
  exact ⟨h.x.below hb1 hx, ho, h.bel.trans (hb1.mono (by omega)), hx, Nat.le_trans h.hb hb1.size, hwb⟩

set_option maxHeartbeats 4000000 in
set_option maxRecDepth 100000 in
theorem rsponge_any (s : ByteArray) (kind n : Nat) (w : World) (hs : s.size ≤ 1099511627776) (hk : kind < 256) (hn0 : 0 < n) (hn : n ≤ 1099511627776) :
    Calls Tryd.prog 51 #[.string s, .int .u8 kind, .int .i64 n] w fun e w' => e = .returned (.string (spongeS s kind n)) ∧ Below w.heap.size w w' := by
  obtain ⟨i0, hi0, hz0, hz1, hz2⟩ := info_parts infoB8
  have hcv : ∀ W : World, (convert 9 53 (.string s)).run Tryd.prog W = .ok (.slice (some ⟨W.heap.size, 0, none⟩) s.size (grownCap W s.size 0 5)) (Lib.bytesWorld W 5 s) := fun W =>
    Lib.run_convert_string_bytes W 9 53 5 s Tryd.underlying9 Tryd.underlying53 Tryd.underlying5
  have HCV := Lib.hid hcv
  clear hcv
  go_enter Tryd.func51, Tryd.ntmps51
  go_wp2_with fail
  refine (rperm12_any ⟨8026104356937031936 + kind, 0, 0, 0, 0⟩ _).mono ?_
  rintro ev w1 ⟨rfl, hb1⟩
  obtain ⟨⟨y0, y1, y2, y3, y4⟩, hy⟩ : ∃ y, perm ⟨8026104356937031936 + kind, 0, 0, 0, 0⟩ 12 = y := ⟨_, rfl⟩
  have HY : Hid (init5 kind = ⟨y0, y1, y2, y3, y4⟩) := hy
  rw [hy]
  clear hy
  have hw1 : w.heap.size ≤ w1.heap.size := hb1.size
  have hW1 : Hid (Below w.heap.size w (w1.alloc (.cells #[.int .u64 y0, .int .u64 y1, .int .u64 y2, .int .u64 y3, .int .u64 y4] 87))) := hb1.alloc hb1.size _
  have hX1 : Hid (Blk (w1.alloc (.cells #[.int .u64 y0, .int .u64 y1, .int .u64 y2, .int .u64 y3, .int .u64 y4] 87)) w1.heap.size (S5.mk y0 y1 y2 y3 y4).l 87) := Blk.new w1 #[.int .u64 y0, .int .u64 y1, .int .u64 y2, .int .u64 y3, .int .u64 y4] 87
  clear hb1
  have hcv := HCV.out
  have hsx : (w1.alloc (.cells #[.int .u64 y0, .int .u64 y1, .int .u64 y2, .int .u64 y3, .int .u64 y4] 87)).heap.size = w1.heap.size + 1 := by simp
  have hB1 : Hid (Below w.heap.size w (Lib.bytesWorld (w1.alloc (.cells #[.int .u64 y0, .int .u64 y1, .int .u64 y2, .int .u64 y3, .int .u64 y4] 87)) 5 s)) := hW1.out.trans ((bytes_below _ _ _).mono hW1.out.size)
  have hX2 : Hid (Blk (Lib.bytesWorld (w1.alloc (.cells #[.int .u64 y0, .int .u64 y1, .int .u64 y2, .int .u64 y3, .int .u64 y4] 87)) 5 s) w1.heap.size (S5.mk y0 y1 y2 y3 y4).l 87) := hX1.out.below (bytes_below _ _ _) hX1.out.lt
  have hM0 := bytes_mark (w1.alloc (.cells #[.int .u64 y0, .int .u64 y1, .int .u64 y2, .int .u64 y3, .int .u64 y4] 87)) 5 s (by unfold maxLen; omega)
  rw [padTo_str, hsx] at hM0
  have HM0 := Lib.hid hM0
  have HS2 : Hid ((Lib.bytesWorld (w1.alloc (.cells #[.int .u64 y0, .int .u64 y1, .int .u64 y2, .int .u64 y3, .int .u64 y4] 87)) 5 s).heap.size = w1.heap.size + 1 + 1) := by show _ = _; rw [Lib.bytesWorld_size, hsx]
  clear hM0 hsx
  go_wp2_with (at_builtin; (refine wpList_append_mark _ rfl _ _ 53 rfl (w1.heap.size + 1) 5 i0 (.int .u8 0) 1 Tryd.underlying53 hi0 hz0 hz1 hz2 rfl _ _ _ rfl (HM0.out.alloc _) ⟨(Lib.bytesWorld (w1.alloc (.cells #[.int .u64 y0, .int .u64 y1, .int .u64 y2, .int .u64 y3, .int .u64 y4] 87)) 5 s).heap.size, 0, none⟩ 1 1 [.int .u8 128] rfl rfl (cell_one_new _ _ _) (by simp [Value.oneCell']) (by unfold maxLen; omega) (by omega) (by have := HS2.out; simp; omega) ?_); intro v2 w2 hown2 hg2; obtain ⟨g2, cap2, rfl, _, _, _, _⟩ := hown2.shape; have HP2 : Hid (RsP w w2 w1.heap.size (w1.heap.size + 1) (S5.mk y0 y1 y2 y3 y4) (.slice (some ⟨g2, 0, none⟩) (s.size + 1) cap2) (s.size + 1) s) := (RsP.mk hX2.out HM0.out hB1.out (by omega) hw1 (by rw [HS2.out]; omega) : RsP w _ w1.heap.size (w1.heap.size + 1) (S5.mk y0 y1 y2 y3 y4) _ s.size s).step _ hg2 (by rw [padTo_succ, pad_at rfl]; exact hown2); clear hown2 hg2)
  clear HM0 hX2 hB1 HS2 HCV hcv hX1 hW1
  generalize w1.heap.size = bx at HP2 hw1 ⊢
  obtain ⟨K, hK⟩ : ∃ K, K = s.size / 8 + 1 := ⟨_, rfl⟩
  have HK := Lib.hid hK
  have hK1 : s.size + 1 ≤ 8 * K := by omega
  have hKb : 8 * K ≤ s.size + 8 := by omega
  clear hK
  go_loopw [8] (fun v8 wr => ∃ (m g cap : Nat), v8 = .slice (some ⟨g, 0, none⟩) m cap ∧ s.size < m ∧ m ≤ 8 * K ∧ Hid (RsP w wr bx (bx + 1) (S5.mk y0 y1 y2 y3 y4) (.slice (some ⟨g, 0, none⟩) m cap) m s)) (fun v8 _ => 8 * K - lenOf v8)
  case atStart => exact ⟨_, _, _, rfl, by omega, by omega, HP2⟩
  case round =>
    clear HP2
    obtain ⟨m, g, cap, rfl, hm, hmK, hI⟩ := hrel
    have hmod : m % 8 = 0 → m = 8 * K := by omega
    by_cases h8 : m % 8 = 0
    · obtain rfl : m = 8 * K := hmod h8
      have d1 : ((8 * (K : Int)) % 8 != 0) = false := by simp
      clear hmod h8
      go_wp2_with fail
      obtain ⟨g', cap', hv, _, _, hcap, hcells⟩ := hI.out.b.shape
      injection hv with e1 e2 e3
      injection e1 with e4
      injection e4 with e5
      subst e5 e3
      go_loopw [9, 10, 11] (fun v9 _ _ wr => ∃ j : Nat, v9 = .int .i64 (8 * (j : Int)) ∧ j ≤ K ∧ Hid (RsP w wr bx (bx + 1) (absorb s (S5.mk y0 y1 y2 y3 y4) j) (.slice (some ⟨g, 0, none⟩) (8 * K) cap) (8 * K) s)) (fun v9 _ _ _ => 8 * K - (intOf v9).toNat)
      case atStart => exact ⟨0, rfl, by omega, hI⟩
      case round =>
        clear hI hcells
        obtain ⟨j, rfl, hj, hI⟩ := hrel
        by_cases hjK : j < K
        · have d2 : decide (8 * (j : Int) < 8 * (K : Int)) = true := decide_eq_true (by omega)
          have HAB : Hid (absorb s (S5.mk y0 y1 y2 y3 y4) (j + 1) = perm ⟨xr (absorb s (S5.mk y0 y1 y2 y3 y4) j).a (wordTo s (8 * j) 8), (absorb s (S5.mk y0 y1 y2 y3 y4) j).b, (absorb s (S5.mk y0 y1 y2 y3 y4) j).c, (absorb s (S5.mk y0 y1 y2 y3 y4) j).d, (absorb s (S5.mk y0 y1 y2 y3 y4) j).e⟩ 12) := rfl
          obtain ⟨⟨a, b, c, d, e⟩, ha⟩ : ∃ z, absorb s (S5.mk y0 y1 y2 y3 y4) j = z := ⟨_, rfl⟩
          rw [ha] at hI HAB
          clear ha
          go_wp2_with fail
          go_loopw [10, 11] (fun v10 v11 wr => ∃ k : Nat, v11 = .int .i64 k ∧ k ≤ 8 ∧ v10 = .int .u64 (wordTo s (8 * j) k) ∧ Hid (RsP w wr bx (bx + 1) ⟨a, b, c, d, e⟩ (.slice (some ⟨g, 0, none⟩) (8 * K) cap) (8 * K) s)) (fun _ v11 _ => 8 - (intOf v11).toNat)
          case atStart => exact ⟨0, rfl, by omega, rfl, hI⟩
          case round =>
            clear hI
            obtain ⟨k, rfl, hk, rfl, hI⟩ := hrel
            by_cases hk8 : k < 8
            · have hWS : Hid (wordTo s (8 * j) (k + 1) = orr (shl (wordTo s (8 * j) k) 8) (padB s (8 * j + k))) := rfl
              obtain ⟨x, hx⟩ : ∃ x, wordTo s (8 * j) k = x := ⟨_, rfl⟩
              rw [hx] at hWS ⊢
              obtain ⟨i, hi⟩ : ∃ i, 8 * j + k = i := ⟨_, rfl⟩
              rw [hi] at hWS
              have hik : 8 * (j : Int) + (k : Int) = (i : Int) := by omega
              have hsh : Hid (shl x 8 = IntKind.u64.wrap (x * 256)) := rfl
              have hiK : i < 8 * K := by omega
              have i0' : (0 : Int) ≤ (i : Int) := by omega
              have i1' : (i : Int) < 8 * (K : Int) := by omega
              obtain ⟨g', cap', hv, _, _, hcap, hcells⟩ := hI.out.b.shape
              injection hv with e1 e2 e3
              injection e1 with e4
              injection e4 with e5
              subst e5
              have hc := hcells i (by unfold by8; rw [List.length_map, padTo_length]; exact hiK)
              rw [padTo_get] at hc
              obtain ⟨p0, p1⟩ := padB_bd s i
              obtain ⟨pb, hpb⟩ : ∃ q, padB s i = q := ⟨_, rfl⟩
              rw [hpb] at hc p0 p1 hWS
              have hpw : IntKind.u64.wrap pb = pb := wrap_of ⟨p0, by omega⟩
              clear hx hi hcells hcap e2 e3 hpb
              go_wp2_with fail
              go_roundw
              case rel => exact ⟨k + 1, by go_num, by omega, by rw [hWS.out, hsh.out]; rfl, hI⟩
              case measure => simp [intOf]; omega
            · obtain rfl : k = 8 := by omega
              obtain ⟨W8, hW8⟩ : ∃ W8, wordTo s (8 * j) 8 = W8 := ⟨_, rfl⟩
              rw [hW8] at HAB ⊢
              clear hW8
              have x0 : wr.cell? ⟨bx, 0, none⟩ = some (.int .u64 a) := hI.out.x.cell 0 (by simp [S5.l])
              have x1 : wr.cell? ⟨bx, 1, none⟩ = some (.int .u64 b) := hI.out.x.cell 1 (by simp [S5.l])
              have x2 : wr.cell? ⟨bx, 2, none⟩ = some (.int .u64 c) := hI.out.x.cell 2 (by simp [S5.l])
              have x3 : wr.cell? ⟨bx, 3, none⟩ = some (.int .u64 d) := hI.out.x.cell 3 (by simp [S5.l])
              have x4 : wr.cell? ⟨bx, 4, none⟩ = some (.int .u64 e) := hI.out.x.cell 4 (by simp [S5.l])
              have f0 := hI.out.x.free 0
              go_wp2_with fail
              refine (rperm12_any ⟨xr a W8, b, c, d, e⟩ _).mono ?_
              rintro ev W4 ⟨rfl, hb4⟩
              have hI3 : RsP w (wr.setCell ⟨bx, 0, none⟩ (.int .u64 (bits .xor .u64 a W8))) bx (bx + 1) ⟨xr a W8, b, c, d, e⟩ (.slice (some ⟨g, 0, none⟩) (8 * K) cap) (8 * K) s := hI.out.put1 0 (xr a W8) ⟨xr a W8, b, c, d, e⟩ rfl
              have hI4 := hI3.below hb4
              rw [← HAB.out]
              obtain ⟨⟨z0, z1, z2, z3, z4⟩, hz⟩ : ∃ z, absorb s (S5.mk y0 y1 y2 y3 y4) (j + 1) = z := ⟨_, rfl⟩
              have HZ := Lib.hid hz
              rw [hz]
              clear hz hb4 hI3 x0 x1 x2 x3 x4 f0 HAB
              have x0 : W4.cell? ⟨bx, 0, none⟩ = some (.int .u64 (xr a W8)) := hI4.x.cell 0 (by simp [S5.l])
              have x1 : W4.cell? ⟨bx, 1, none⟩ = some (.int .u64 b) := hI4.x.cell 1 (by simp [S5.l])
              have x2 : W4.cell? ⟨bx, 2, none⟩ = some (.int .u64 c) := hI4.x.cell 2 (by simp [S5.l])
              have x3 : W4.cell? ⟨bx, 3, none⟩ = some (.int .u64 d) := hI4.x.cell 3 (by simp [S5.l])
              have x4 : W4.cell? ⟨bx, 4, none⟩ = some (.int .u64 e) := hI4.x.cell 4 (by simp [S5.l])
              have f0 := hI4.x.free 0; have f1 := hI4.x.free 1; have f2 := hI4.x.free 2; have f3 := hI4.x.free 3; have f4 := hI4.x.free 4
              have HI5 := Lib.hid (hI4.put ⟨z0, z1, z2, z3, z4⟩)
              clear hI4 hI
              go_wp2_with fail
              go_roundw
              case rel => exact ⟨j + 1, by congr 1, by omega, by rw [HZ.out]; exact HI5⟩
              case measure => simp only [intOf]; omega
        · obtain rfl : j = K := by omega
          have d2 : decide (8 * (j : Int) < 8 * (j : Int)) = false := decide_eq_false (by omega)
          obtain ⟨y, hy⟩ : ∃ y, absorb s (S5.mk y0 y1 y2 y3 y4) j = y := ⟨_, rfl⟩
          have HYY : Hid (y = absorb s (init5 kind) (s.size / 8 + 1)) := by show _ = _; rw [← hy, HY.out, ← HK.out]
          rw [hy] at hI
          have HT : Hid (RsT w wr bx wr.heap.size y none 0 0 (outs y 0)) := ⟨hI.out.x, World.ownsRow_nil _ _ _ _, hI.out.bel, hI.out.x.lt, Nat.le_refl _, hw1⟩
          have hbl := hI.out.x.lt
          clear hI hy
          go_wp2_with fail
          generalize wr.heap.size = base at HT hbl
          go_loopw [12, 13] (fun v12 _ wr => ∃ (l : Nat) (p : Option Addr) (cap : Nat), v12 = .slice p (8 * l) cap ∧ 8 * l ≤ n + 8 ∧ Hid (RsT w wr bx base (sqz y l) p cap (8 * l) (outs y (8 * l)))) (fun v12 _ _ => n + 8 - lenOf v12)
          case atStart => exact ⟨0, _, _, rfl, by omega, HT⟩
          case round =>
            clear HT d2
            obtain ⟨l, p, cp, rfl, hl, hI⟩ := hrel
            by_cases hln : 8 * l < n
            · have d3 : decide (8 * (l : Int) < (n : Int)) = true := decide_eq_true (by omega)
              obtain ⟨⟨a, b, c, d, e⟩, hz⟩ : ∃ z, sqz y l = z := ⟨_, rfl⟩
              have HSQ := Lib.hid hz
              rw [hz] at hI
              clear hz
              go_wp2_with fail
              go_loopw [12, 13] (fun v12 v13 wr => ∃ (i : Nat) (p : Option Addr) (cap : Nat), v12 = .slice p (8 * l + i) cap ∧ v13 = .int .i64 (7 - (i : Int)) ∧ i ≤ 8 ∧ Hid (RsT w wr bx base ⟨a, b, c, d, e⟩ p cap (8 * l + i) (outs y (8 * l + i)))) (fun _ v13 _ => (intOf v13 + 1).toNat)
              case atStart => exact ⟨0, p, cp, rfl, rfl, by omega, hI⟩
              case round =>
                clear hI
                obtain ⟨i, p, cp, rfl, rfl, hi, hI⟩ := hrel
                by_cases hi8 : i < 8
                · obtain ⟨q, hq⟩ : ∃ q : Nat, 7 - (i : Int) = q := ⟨7 - i, by omega⟩
                  have HQ := Lib.hid hq
                  rw [hq]
                  obtain ⟨k, hk⟩ : ∃ k : Nat, 8 * (q : Int) = k := ⟨8 * q, by omega⟩
                  have hk2 : 56 - 8 * i = k := by omega
                  have q0 : (0 : Int) ≤ (q : Int) := by omega
                  have k0 : (0 : Int) ≤ (k : Int) := by omega
                  have k64 : (k : Int) ≤ 64 := by omega
                  obtain ⟨B, hB⟩ : ∃ B, IntKind.u8.wrap (a / 2 ^ k) = B := ⟨_, rfl⟩
                  have HBY : Hid (by8 (outs y (8 * l + i)) ++ [.int .u8 B] = by8 (outs y (8 * l + i + 1))) := by
                    show _ = _
                    have e1 : outB y (8 * l + i) = B := by
                      unfold outB byteOf
                      rw [show (8 * l + i) / 8 = l by omega, show (8 * l + i) % 8 = i by omega, HSQ.out, hk2, ← hB, IntKind.wrap_u8]
                    unfold by8
                    rw [outs_succ, List.map_append, e1]; rfl
                  have x0 : wr.cell? ⟨bx, 0, none⟩ = some (.int .u64 a) := hI.out.x.cell 0 (by simp [S5.l])
                  clear hq hk2
                  go_wp2_with (at_builtin; (refine wpList_append_own _ rfl _ _ 53 rfl base 5 i0 (.int .u8 0) 1 1 Tryd.underlying53 hi0 hz0 hz1 hz2 rfl (by decide) _ _ _ rfl (hI.out.own.alloc _) ⟨wr.heap.size, 0, none⟩ 1 1 [.int .u8 B] rfl rfl (cell_one_new _ _ _) (by simp [Value.oneCell']) (by unfold maxLen; omega) (by omega) (by have := hI.out.hb; simp; omega) ?_); intro v' w3 hown' hgrow _; obtain ⟨g', cap', rfl⟩ := ownsRow_succ hown'; have HI2 := Lib.hid (hI.out.step _ hgrow (by rw [← HBY.out]; exact hown')); clear hown' hgrow)
                  go_roundw
                  case rel => exact ⟨i + 1, _, cap', rfl, by rw [← HQ.out]; congr 1; omega, by omega, HI2⟩
                  case measure => simp only [intOf]; have := HQ.out; omega
                · obtain rfl : i = 8 := by omega
                  rw [show (7 : Int) - ((8 : Nat) : Int) = -1 from rfl]
                  have x0 : wr.cell? ⟨bx, 0, none⟩ = some (.int .u64 a) := hI.out.x.cell 0 (by simp [S5.l])
                  have x1 : wr.cell? ⟨bx, 1, none⟩ = some (.int .u64 b) := hI.out.x.cell 1 (by simp [S5.l])
                  have x2 : wr.cell? ⟨bx, 2, none⟩ = some (.int .u64 c) := hI.out.x.cell 2 (by simp [S5.l])
                  have x3 : wr.cell? ⟨bx, 3, none⟩ = some (.int .u64 d) := hI.out.x.cell 3 (by simp [S5.l])
                  have x4 : wr.cell? ⟨bx, 4, none⟩ = some (.int .u64 e) := hI.out.x.cell 4 (by simp [S5.l])
                  go_wp2_with fail
                  refine (rperm12_any ⟨a, b, c, d, e⟩ _).mono ?_
                  rintro ev W4 ⟨rfl, hb4⟩
                  have hI4 := hI.out.below hb4
                  obtain ⟨⟨z0, z1, z2, z3, z4⟩, hz⟩ : ∃ z, perm ⟨a, b, c, d, e⟩ 12 = z := ⟨_, rfl⟩
                  have HZ : Hid (sqz y (l + 1) = ⟨z0, z1, z2, z3, z4⟩) := by show perm (sqz y l) 12 = _; rw [HSQ.out]; exact hz
                  rw [hz]
                  clear hz hb4 x0 x1 x2 x3 x4
                  have x0 : W4.cell? ⟨bx, 0, none⟩ = some (.int .u64 a) := hI4.x.cell 0 (by simp [S5.l])
                  have x1 : W4.cell? ⟨bx, 1, none⟩ = some (.int .u64 b) := hI4.x.cell 1 (by simp [S5.l])
                  have x2 : W4.cell? ⟨bx, 2, none⟩ = some (.int .u64 c) := hI4.x.cell 2 (by simp [S5.l])
                  have x3 : W4.cell? ⟨bx, 3, none⟩ = some (.int .u64 d) := hI4.x.cell 3 (by simp [S5.l])
                  have x4 : W4.cell? ⟨bx, 4, none⟩ = some (.int .u64 e) := hI4.x.cell 4 (by simp [S5.l])
                  have f0 := hI4.x.free 0; have f1 := hI4.x.free 1; have f2 := hI4.x.free 2; have f3 := hI4.x.free 3; have f4 := hI4.x.free 4
                  have HI5 := Lib.hid (hI4.put ⟨z0, z1, z2, z3, z4⟩)
                  clear hI4 hI
                  go_wp2_with fail
                  go_roundw
                  case rel => exact ⟨l + 1, p, cp, rfl, by omega, by rw [HZ.out]; exact HI5⟩
                  case measure => simp only [lenOf]; omega
            · have d3 : decide (8 * (l : Int) < (n : Int)) = false := decide_eq_false (by omega)
              obtain ⟨g3, hpg, hcp, hcells⟩ := own_cellsP hI.out.own (by omega)
              subst hpg
              have hcv := run_convert_bytes_back (P := Tryd.prog) wr 53 9 5 ⟨g3, 0, none⟩ cp ((outs y n).map (fun z => UInt8.ofNat z.toNat)) Tryd.underlying53 Tryd.underlying5 Tryd.underlying9 (fun q hp => by
                have hpn : q < n := by simpa [outs_length] using hp
                have h := hcells q (by unfold by8; rw [List.length_map, outs_length]; omega)
                rw [addr_addB, Nat.zero_add, h, by8_get, List.getElem_map, outs_get]
                have hb := byteOf_bd (sqz y (q / 8)).a (q % 8)
                have e1 : (UInt8.ofNat (outB y q).toNat).toNat = (outB y q).toNat := by
                  rw [UInt8.toNat_ofNat']
                  exact Nat.mod_eq_of_lt (by have : outB y q < 256 := hb.2; have h0 : 0 ≤ outB y q := hb.1; omega)
                rw [e1, Int.toNat_of_nonneg (show 0 ≤ outB y q from hb.1)])
              rw [List.length_map, outs_length] at hcv
              have HSP : Hid ((⟨((outs y n).map (fun z => UInt8.ofNat z.toNat)).toArray⟩ : ByteArray) = spongeS s kind n) := by
                show _ = _
                unfold spongeS bsOf; rw [HYY.out]
              rw [HSP.out] at hcv
              obtain ⟨S, hS⟩ : ∃ S, spongeS s kind n = S := ⟨_, rfl⟩
              have HSS := Lib.hid hS
              rw [hS] at hcv
              have n0 : (0 : Int) ≤ (n : Int) := by omega
              have n1 : (n : Int) ≤ (cp : Int) := by omega
              clear hcells hS
              go_wp2_with fail
              go_ret
              exact ⟨by rw [HSS.out]; rfl, hI.out.bel⟩
    · have d1 : ((m : Int) % 8 != 0) = true := by simp; omega
      have hlt : m < 8 * K := by omega
      clear hmod h8
      go_wp2_with (at_builtin; (refine wpList_append_mark _ rfl _ _ 53 rfl (bx + 1) 5 i0 (.int .u8 0) 1 Tryd.underlying53 hi0 hz0 hz1 hz2 rfl _ _ _ rfl (hI.out.b.alloc _) ⟨wr.heap.size, 0, none⟩ 1 1 [.int .u8 0] rfl rfl (cell_one_new _ _ _) (by simp [Value.oneCell']) (by unfold maxLen; omega) (by omega) (by have := hI.out.hb; simp; omega) ?_); intro v2 w2 hown2 hg2; obtain ⟨g2, cap2, rfl, _, _, _, _⟩ := hown2.shape; have HP2 := Lib.hid (hI.out.step _ hg2 (by rw [padTo_succ, pad_out hm]; exact hown2)); clear hown2 hg2)
      go_roundw
      case rel => exact ⟨m + 1, g2, cap2, rfl, by omega, by omega, HP2⟩
      case measure => simp only [lenOf]; omega
end Go.Proofs.YtjfjbkocopaehaaDoor
