/- The sponge: one round (obscuraref11). (Printed by gen_SpgE.py.) -/
import Derived.Test.YtjfjbkocopaehaaDoorSpgD
import Derived.Deep.RegionLaw
import Derived.Test.YtjfjbkocopaehaaDoorKptA
namespace Go.Proofs.YtjfjbkocopaehaaDoor
open Go.RowKit
set_option linter.unusedVariables false

set_option maxHeartbeats 4000000 in
set_option maxRecDepth 100000 in
theorem rrot_any (x : Int) (k : Nat) (K : Int) (hK : K = k) (w : World) (hx : W64 x) (hk0 : 1 ≤ k) (hk1 : k ≤ 63) :
    Calls Tryd.prog 95 #[.int .u64 x, .int .i64 K] w fun e w' => e = .returned (.int .u64 (rr x k)) ∧ Below w.heap.size w w' := by
  subst hK
  obtain ⟨s, hs⟩ : ∃ s : Nat, s = 64 - k := ⟨_, rfl⟩
  have hw : IntKind.i64.wrap (64 - (k : Int)) = (s : Int) := by rw [IntKind.wrap_i64]; omega
  have h1 : (0 : Int) ≤ (s : Int) := by omega
  have h2 : (s : Int) ≤ 64 := by omega
  have h3 : (0 : Int) ≤ (k : Int) := by omega
  have h4 : (k : Int) ≤ 64 := by omega
  have HE : Hid (rr x k = bits .or .u64 (x / 2 ^ k) (IntKind.u64.wrap (x * 2 ^ s))) := by
    show _ = _
    unfold rr shl; rw [hs, or_comm64]; rfl
  clear hs
  go_enter Tryd.func95, Tryd.ntmps95
  go_wp2_with fail
  go_region
  all_goals
    go_wp2_with fail
    go_ret
    exact ⟨by rw [HE.out]; rfl, (Below.refl _ _).drew⟩

/-- Ahead of the middle. -/
def pre (x : S5) (c : Int) : S5 := ⟨xr x.a x.e, x.b, xr (xr x.c c) x.b, x.d, xr x.e x.d⟩
/-- What the reference's middle holds behind i words. -/
def yTo (x : S5) : Nat → S5
  | 0 => x
  | 1 => ⟨xr x.a (an (nt x.b) x.c), x.b, x.c, x.d, x.e⟩
  | 2 => ⟨xr x.a (an (nt x.b) x.c), xr x.b (an (nt x.c) x.d), x.c, x.d, x.e⟩
  | 3 => ⟨xr x.a (an (nt x.b) x.c), xr x.b (an (nt x.c) x.d), xr x.c (an (nt x.d) x.e), x.d, x.e⟩
  | 4 => ⟨xr x.a (an (nt x.b) x.c), xr x.b (an (nt x.c) x.d), xr x.c (an (nt x.d) x.e), xr x.d (an (nt x.e) x.a), x.e⟩
  | _ => ⟨xr x.a (an (nt x.b) x.c), xr x.b (an (nt x.c) x.d), xr x.c (an (nt x.d) x.e), xr x.d (an (nt x.e) x.a), xr x.e (an (nt x.a) x.b)⟩
def aft (y : S5) : S5 := ⟨xr y.a y.e, xr y.b y.a, nt y.c, xr y.d y.c, y.e⟩
theorem mid_eq (x : S5) (c : Int) : mid x c = aft (yTo (pre x c) 5) := rfl
/-- What its end holds behind i words. -/
def zTo (y : S5) : Nat → S5
  | 0 => y
  | 1 => ⟨tn y.a 19 28, y.b, y.c, y.d, y.e⟩
  | 2 => ⟨tn y.a 19 28, tn y.b 61 39, y.c, y.d, y.e⟩
  | 3 => ⟨tn y.a 19 28, tn y.b 61 39, tn y.c 1 6, y.d, y.e⟩
  | 4 => ⟨tn y.a 19 28, tn y.b 61 39, tn y.c 1 6, tn y.d 10 17, y.e⟩
  | _ => ⟨tn y.a 19 28, tn y.b 61 39, tn y.c 1 6, tn y.d 10 17, tn y.e 7 41⟩
theorem rnd_eq (x : S5) (c : Int) : rnd x c = zTo (mid x c) 5 := rfl

/-- What the reference's round holds. -/
structure RrS (w W : World) (p y : S5) : Prop where
  x : Blk W w.heap.size p.l 87
  r : Blk W (w.heap.size + 1) [.int .u64 0, .int .u64 0, .int .u64 0, .int .u64 0, .int .u64 0] 87
  y : Blk W (w.heap.size + 1 + 1) y.l 87
  bel : Below w.heap.size w W
theorem RrS.below {w W W' : World} {p y : S5} (h : RrS w W p y) (hb : Below W.heap.size W W') : RrS w W' p y :=
  ⟨h.x.below hb h.x.lt, h.r.below hb h.r.lt, h.y.below hb h.y.lt, h.bel.trans (hb.mono h.bel.size)⟩
theorem RrS.drew {w W : World} {p y : S5} (h : RrS w W p y) : RrS w W.drew p y := h.below (Below.refl _ _).drew
theorem RrS.put {w W : World} {p y : S5} (h : RrS w W p y) (i : Nat) (v : Int) (y' : S5) (he : y.l.set i (.int .u64 v) = y'.l) : RrS w (W.setCell ⟨w.heap.size + 1 + 1, i, none⟩ (.int .u64 v)) p y' := by
  have hb : Below (w.heap.size + 1 + 1) W (W.setCell ⟨w.heap.size + 1 + 1, i, none⟩ (.int .u64 v)) := (Below.refl _ _).setCell (p := ⟨w.heap.size + 1 + 1, i, none⟩) (Nat.le_refl _) _
  exact ⟨h.x.below hb (by omega), h.r.below hb (by omega), he ▸ h.y.set i (.int .u64 v), h.bel.trans (hb.mono (by omega))⟩

/-- What its end holds. -/
structure RrT (w W : World) (z : S5) (gt : Nat) : Prop where
  r : Blk W (w.heap.size + 1) [.int .u64 0, .int .u64 0, .int .u64 0, .int .u64 0, .int .u64 0] 87
  y : Blk W (w.heap.size + 1 + 1) z.l 87
  t : Blk W gt [.int .i64 19, .int .i64 28, .int .i64 61, .int .i64 39, .int .i64 1, .int .i64 6, .int .i64 10, .int .i64 17, .int .i64 7, .int .i64 41] 116
  bel : Below w.heap.size w W
  ne : w.heap.size + 1 + 1 < gt
theorem RrT.below {w W W' : World} {z : S5} {gt : Nat} (h : RrT w W z gt) (hb : Below W.heap.size W W') : RrT w W' z gt :=
  ⟨h.r.below hb h.r.lt, h.y.below hb h.y.lt, h.t.below hb h.t.lt, h.bel.trans (hb.mono h.bel.size), h.ne⟩
theorem RrT.drew {w W : World} {z : S5} {gt : Nat} (h : RrT w W z gt) : RrT w W.drew z gt := h.below (Below.refl _ _).drew
theorem RrT.put {w W : World} {z : S5} {gt : Nat} (h : RrT w W z gt) (i : Nat) (v : Int) (z' : S5) (he : z.l.set i (.int .u64 v) = z'.l) : RrT w (W.setCell ⟨w.heap.size + 1 + 1, i, none⟩ (.int .u64 v)) z' gt := by
  have hb : Below (w.heap.size + 1 + 1) W (W.setCell ⟨w.heap.size + 1 + 1, i, none⟩ (.int .u64 v)) := (Below.refl _ _).setCell (p := ⟨w.heap.size + 1 + 1, i, none⟩) (Nat.le_refl _) _
  have hn := h.ne
  exact ⟨h.r.below hb (by omega), he ▸ h.y.set i (.int .u64 v), h.t.other (by show gt ≠ w.heap.size + 1 + 1; omega) _, h.bel.trans (hb.mono (by omega)), hn⟩
theorem rrot_st {w W : World} {z : S5} {gt : Nat} (h : RrT w W z gt) (x : Int) (k : Nat) (K : Int) (hK : K = k) (hx : W64 x) (hk0 : 1 ≤ k) (hk1 : k ≤ 63) :
    Calls Tryd.prog 95 #[.int .u64 x, .int .i64 K] W fun e w' => e = .returned (.int .u64 (rr x k)) ∧ RrT w w' z gt :=
  (rrot_any x k K hK W hx hk0 hk1).mono fun e w' ⟨h1, hb⟩ => ⟨h1, h.below hb⟩


set_option maxHeartbeats 8000000 in
set_option maxRecDepth 100000 in
theorem rround_any (x : S5) (c : Int) (w : World) :
    Calls Tryd.prog 88 #[x.v, .int .u64 c] w fun e w' => e = .returned (rnd x c).v ∧ Below w.heap.size w w' := by
  obtain ⟨a, b, c2, d, e⟩ := x
  obtain ⟨p0, hp0⟩ : ∃ p, (pre ⟨a, b, c2, d, e⟩ c).a = p := ⟨_, rfl⟩
  obtain ⟨p2, hp2⟩ : ∃ p, (pre ⟨a, b, c2, d, e⟩ c).c = p := ⟨_, rfl⟩
  obtain ⟨p4, hp4⟩ : ∃ p, (pre ⟨a, b, c2, d, e⟩ c).e = p := ⟨_, rfl⟩
  have HX : Hid ((#[.int .u64 (bits .xor .u64 a e), .int .u64 b, .int .u64 (bits .xor .u64 (bits .xor .u64 c2 c) b), .int .u64 d, .int .u64 (bits .xor .u64 e d)] : Array Value) = #[.int .u64 p0, .int .u64 b, .int .u64 p2, .int .u64 d, .int .u64 p4]) := by
    show _ = _
    rw [← hp0, ← hp2, ← hp4]; rfl
  have HPRE : Hid (pre ⟨a, b, c2, d, e⟩ c = ⟨p0, b, p2, d, p4⟩) := by
    show _ = _
    rw [← hp0, ← hp2, ← hp4]; rfl
  have HRND : Hid (rnd ⟨a, b, c2, d, e⟩ c = zTo (aft (yTo ⟨p0, b, p2, d, p4⟩ 5)) 5) := by
    show _ = _
    rw [rnd_eq, mid_eq, HPRE.out]
  clear hp0 hp2 hp4
  have hsg : IntKind.u64.signed = false := rfl
  unfold S5.v
  go_enter Tryd.func88, Tryd.ntmps88
  go_wp2_with fail
  rw [HX.out]
  clear HX HPRE
  have HI : Hid (RrS w (((w.alloc (.cells #[.int .u64 p0, .int .u64 b, .int .u64 p2, .int .u64 d, .int .u64 p4] 87)).alloc (.cells #[.int .u64 0, .int .u64 0, .int .u64 0, .int .u64 0, .int .u64 0] 87)).alloc (.cells #[.int .u64 p0, .int .u64 b, .int .u64 p2, .int .u64 d, .int .u64 p4] 87)) ⟨p0, b, p2, d, p4⟩ ⟨p0, b, p2, d, p4⟩) := by
    refine ⟨?_, ?_, ?_, (((Below.refl _ w).alloc (Nat.le_refl _) _).alloc (by simp) _).alloc (by simp; omega) _⟩
    · exact ((Blk.new w #[.int .u64 p0, .int .u64 b, .int .u64 p2, .int .u64 d, .int .u64 p4] 87).alloc _).alloc _
    · have h := (Blk.new (w.alloc (.cells #[.int .u64 p0, .int .u64 b, .int .u64 p2, .int .u64 d, .int .u64 p4] 87)) #[.int .u64 0, .int .u64 0, .int .u64 0, .int .u64 0, .int .u64 0] 87).alloc (.cells #[.int .u64 p0, .int .u64 b, .int .u64 p2, .int .u64 d, .int .u64 p4] 87)
      simpa using h
    · have h := Blk.new ((w.alloc (.cells #[.int .u64 p0, .int .u64 b, .int .u64 p2, .int .u64 d, .int .u64 p4] 87)).alloc (.cells #[.int .u64 0, .int .u64 0, .int .u64 0, .int .u64 0, .int .u64 0] 87)) #[.int .u64 p0, .int .u64 b, .int .u64 p2, .int .u64 d, .int .u64 p4] 87
      simpa [S5.l] using h
  generalize ((w.alloc (.cells #[.int .u64 p0, .int .u64 b, .int .u64 p2, .int .u64 d, .int .u64 p4] 87)).alloc (.cells #[.int .u64 0, .int .u64 0, .int .u64 0, .int .u64 0, .int .u64 0] 87)).alloc (.cells #[.int .u64 p0, .int .u64 b, .int .u64 p2, .int .u64 d, .int .u64 p4] 87) = W at HI ⊢
  go_loopw [6] (fun vi wr => (vi = .int .i64 0 ∧ Hid (RrS w wr (⟨p0, b, p2, d, p4⟩ : S5) (yTo (⟨p0, b, p2, d, p4⟩ : S5) 0))) ∨ (vi = .int .i64 1 ∧ Hid (RrS w wr (⟨p0, b, p2, d, p4⟩ : S5) (yTo (⟨p0, b, p2, d, p4⟩ : S5) 1))) ∨ (vi = .int .i64 2 ∧ Hid (RrS w wr (⟨p0, b, p2, d, p4⟩ : S5) (yTo (⟨p0, b, p2, d, p4⟩ : S5) 2))) ∨ (vi = .int .i64 3 ∧ Hid (RrS w wr (⟨p0, b, p2, d, p4⟩ : S5) (yTo (⟨p0, b, p2, d, p4⟩ : S5) 3))) ∨ (vi = .int .i64 4 ∧ Hid (RrS w wr (⟨p0, b, p2, d, p4⟩ : S5) (yTo (⟨p0, b, p2, d, p4⟩ : S5) 4))) ∨ (vi = .int .i64 5 ∧ Hid (RrS w wr (⟨p0, b, p2, d, p4⟩ : S5) (yTo (⟨p0, b, p2, d, p4⟩ : S5) 5)))) (fun vi _ => 5 - (intOf vi).toNat)
  case atStart => exact .inl ⟨rfl, HI⟩
  case round =>
    clear HI
    rcases hrel with ⟨rfl, hI⟩ | ⟨rfl, hI⟩ | ⟨rfl, hI⟩ | ⟨rfl, hI⟩ | ⟨rfl, hI⟩ | ⟨rfl, hI⟩
    · have y0 : wr.cell? ⟨w.heap.size, 0, none⟩ = some (.int .u64 p0) := hI.out.x.cell 0 (by simp [S5.l])
      have y1 : wr.cell? ⟨w.heap.size, 1, none⟩ = some (.int .u64 b) := hI.out.x.cell 1 (by simp [S5.l])
      have y2 : wr.cell? ⟨w.heap.size, 2, none⟩ = some (.int .u64 p2) := hI.out.x.cell 2 (by simp [S5.l])
      have y3 : wr.cell? ⟨w.heap.size, 3, none⟩ = some (.int .u64 d) := hI.out.x.cell 3 (by simp [S5.l])
      have y4 : wr.cell? ⟨w.heap.size, 4, none⟩ = some (.int .u64 p4) := hI.out.x.cell 4 (by simp [S5.l])
      have f := hI.out.y.free 0
      have yy : wr.cell? ⟨w.heap.size + 1 + 1, 0, none⟩ = some (.int .u64 p0) := hI.out.y.cell 0 (by simp [S5.l, yTo])
      go_wp2_with fail
      go_region
      all_goals
        go_wp2_with fail
        go_roundw
        case rel => exact .inr (.inl (⟨rfl, Lib.hid (hI.out.drew.put 0 _ _ rfl)⟩))
        case measure => simp [intOf]
    · have y0 : wr.cell? ⟨w.heap.size, 0, none⟩ = some (.int .u64 p0) := hI.out.x.cell 0 (by simp [S5.l])
      have y1 : wr.cell? ⟨w.heap.size, 1, none⟩ = some (.int .u64 b) := hI.out.x.cell 1 (by simp [S5.l])
      have y2 : wr.cell? ⟨w.heap.size, 2, none⟩ = some (.int .u64 p2) := hI.out.x.cell 2 (by simp [S5.l])
      have y3 : wr.cell? ⟨w.heap.size, 3, none⟩ = some (.int .u64 d) := hI.out.x.cell 3 (by simp [S5.l])
      have y4 : wr.cell? ⟨w.heap.size, 4, none⟩ = some (.int .u64 p4) := hI.out.x.cell 4 (by simp [S5.l])
      have f := hI.out.y.free 1
      have yy : wr.cell? ⟨w.heap.size + 1 + 1, 1, none⟩ = some (.int .u64 b) := hI.out.y.cell 1 (by simp [S5.l, yTo])
      go_wp2_with fail
      go_region
      all_goals
        go_wp2_with fail
        go_roundw
        case rel => exact .inr (.inr (.inl (⟨rfl, Lib.hid (hI.out.drew.put 1 _ _ rfl)⟩)))
        case measure => simp [intOf]
    · have y0 : wr.cell? ⟨w.heap.size, 0, none⟩ = some (.int .u64 p0) := hI.out.x.cell 0 (by simp [S5.l])
      have y1 : wr.cell? ⟨w.heap.size, 1, none⟩ = some (.int .u64 b) := hI.out.x.cell 1 (by simp [S5.l])
      have y2 : wr.cell? ⟨w.heap.size, 2, none⟩ = some (.int .u64 p2) := hI.out.x.cell 2 (by simp [S5.l])
      have y3 : wr.cell? ⟨w.heap.size, 3, none⟩ = some (.int .u64 d) := hI.out.x.cell 3 (by simp [S5.l])
      have y4 : wr.cell? ⟨w.heap.size, 4, none⟩ = some (.int .u64 p4) := hI.out.x.cell 4 (by simp [S5.l])
      have f := hI.out.y.free 2
      have yy : wr.cell? ⟨w.heap.size + 1 + 1, 2, none⟩ = some (.int .u64 p2) := hI.out.y.cell 2 (by simp [S5.l, yTo])
      go_wp2_with fail
      go_region
      all_goals
        go_wp2_with fail
        go_roundw
        case rel => exact .inr (.inr (.inr (.inl (⟨rfl, Lib.hid (hI.out.drew.put 2 _ _ rfl)⟩))))
        case measure => simp [intOf]
    · have y0 : wr.cell? ⟨w.heap.size, 0, none⟩ = some (.int .u64 p0) := hI.out.x.cell 0 (by simp [S5.l])
      have y1 : wr.cell? ⟨w.heap.size, 1, none⟩ = some (.int .u64 b) := hI.out.x.cell 1 (by simp [S5.l])
      have y2 : wr.cell? ⟨w.heap.size, 2, none⟩ = some (.int .u64 p2) := hI.out.x.cell 2 (by simp [S5.l])
      have y3 : wr.cell? ⟨w.heap.size, 3, none⟩ = some (.int .u64 d) := hI.out.x.cell 3 (by simp [S5.l])
      have y4 : wr.cell? ⟨w.heap.size, 4, none⟩ = some (.int .u64 p4) := hI.out.x.cell 4 (by simp [S5.l])
      have f := hI.out.y.free 3
      have yy : wr.cell? ⟨w.heap.size + 1 + 1, 3, none⟩ = some (.int .u64 d) := hI.out.y.cell 3 (by simp [S5.l, yTo])
      go_wp2_with fail
      go_region
      all_goals
        go_wp2_with fail
        go_roundw
        case rel => exact .inr (.inr (.inr (.inr (.inl (⟨rfl, Lib.hid (hI.out.drew.put 3 _ _ rfl)⟩)))))
        case measure => simp [intOf]
    · have y0 : wr.cell? ⟨w.heap.size, 0, none⟩ = some (.int .u64 p0) := hI.out.x.cell 0 (by simp [S5.l])
      have y1 : wr.cell? ⟨w.heap.size, 1, none⟩ = some (.int .u64 b) := hI.out.x.cell 1 (by simp [S5.l])
      have y2 : wr.cell? ⟨w.heap.size, 2, none⟩ = some (.int .u64 p2) := hI.out.x.cell 2 (by simp [S5.l])
      have y3 : wr.cell? ⟨w.heap.size, 3, none⟩ = some (.int .u64 d) := hI.out.x.cell 3 (by simp [S5.l])
      have y4 : wr.cell? ⟨w.heap.size, 4, none⟩ = some (.int .u64 p4) := hI.out.x.cell 4 (by simp [S5.l])
      have f := hI.out.y.free 4
      have yy : wr.cell? ⟨w.heap.size + 1 + 1, 4, none⟩ = some (.int .u64 p4) := hI.out.y.cell 4 (by simp [S5.l, yTo])
      go_wp2_with fail
      go_region
      all_goals
        go_wp2_with fail
        go_roundw
        case rel => exact .inr (.inr (.inr (.inr (.inr (⟨rfl, Lib.hid (hI.out.drew.put 4 _ _ rfl)⟩)))))
        case measure => simp [intOf]
    · obtain ⟨⟨q0, q1, q2, q3, q4⟩, hq⟩ : ∃ q, yTo (⟨p0, b, p2, d, p4⟩ : S5) 5 = q := ⟨_, rfl⟩
      have hq4 : W64 q4 := by injection hq with _ _ _ _ h4; rw [← h4]; exact xr_w64 _ _
      rw [hq] at hI HRND
      clear hq
      have y0 : wr.cell? ⟨w.heap.size + 1 + 1, 0, none⟩ = some (.int .u64 q0) := hI.out.y.cell 0 (by simp [S5.l])
      have y1 : wr.cell? ⟨w.heap.size + 1 + 1, 1, none⟩ = some (.int .u64 q1) := hI.out.y.cell 1 (by simp [S5.l])
      have y2 : wr.cell? ⟨w.heap.size + 1 + 1, 2, none⟩ = some (.int .u64 q2) := hI.out.y.cell 2 (by simp [S5.l])
      have y3 : wr.cell? ⟨w.heap.size + 1 + 1, 3, none⟩ = some (.int .u64 q3) := hI.out.y.cell 3 (by simp [S5.l])
      have y4 : wr.cell? ⟨w.heap.size + 1 + 1, 4, none⟩ = some (.int .u64 q4) := hI.out.y.cell 4 (by simp [S5.l])
      have f0 := hI.out.y.free 0; have f1 := hI.out.y.free 1; have f2 := hI.out.y.free 2; have f3 := hI.out.y.free 3; have f4 := hI.out.y.free 4
      have HT : Hid (RrT w (((((((wr.setCell ⟨w.heap.size + 1 + 1, 0, none⟩ (.int .u64 (bits .xor .u64 q0 q4))).setCell ⟨w.heap.size + 1 + 1, 1, none⟩ (.int .u64 (bits .xor .u64 q1 q0))).setCell ⟨w.heap.size + 1 + 1, 2, none⟩ (.int .u64 (bits .xor .u64 IntKind.u64.max q2))).setCell ⟨w.heap.size + 1 + 1, 3, none⟩ (.int .u64 (bits .xor .u64 q3 q2))).setCell ⟨w.heap.size + 1 + 1, 4, none⟩ (.int .u64 q4)).alloc (.cells #[.int .i64 19, .int .i64 28, .int .i64 61, .int .i64 39, .int .i64 1, .int .i64 6, .int .i64 10, .int .i64 17, .int .i64 7, .int .i64 41] 116))) (aft ⟨q0, q1, q2, q3, q4⟩) wr.heap.size) := by
        have h5 := ((((hI.out.put 0 (bits .xor .u64 q0 q4) ⟨xr q0 q4, q1, q2, q3, q4⟩ rfl).put 1 (bits .xor .u64 q1 q0) ⟨xr q0 q4, xr q1 q0, q2, q3, q4⟩ rfl).put 2 (bits .xor .u64 IntKind.u64.max q2) ⟨xr q0 q4, xr q1 q0, nt q2, q3, q4⟩ rfl).put 3 (bits .xor .u64 q3 q2) ⟨xr q0 q4, xr q1 q0, nt q2, xr q3 q2, q4⟩ rfl).put 4 q4 ⟨xr q0 q4, xr q1 q0, nt q2, xr q3 q2, q4⟩ rfl
        have hy := hI.out.y.lt
        refine ⟨h5.r.alloc _, h5.y.alloc _, ?_, h5.bel.alloc h5.bel.size _, hy⟩
        have h := Blk.new (((((wr.setCell ⟨w.heap.size + 1 + 1, 0, none⟩ (.int .u64 (bits .xor .u64 q0 q4))).setCell ⟨w.heap.size + 1 + 1, 1, none⟩ (.int .u64 (bits .xor .u64 q1 q0))).setCell ⟨w.heap.size + 1 + 1, 2, none⟩ (.int .u64 (bits .xor .u64 IntKind.u64.max q2))).setCell ⟨w.heap.size + 1 + 1, 3, none⟩ (.int .u64 (bits .xor .u64 q3 q2))).setCell ⟨w.heap.size + 1 + 1, 4, none⟩ (.int .u64 q4)) #[.int .i64 19, .int .i64 28, .int .i64 61, .int .i64 39, .int .i64 1, .int .i64 6, .int .i64 10, .int .i64 17, .int .i64 7, .int .i64 41] 116
        simpa using h
      go_wp2_with fail
      clear hI y0 y1 y2 y3 y4 f0 f1 f2 f3 f4
      generalize (((((((wr.setCell ⟨w.heap.size + 1 + 1, 0, none⟩ (.int .u64 (bits .xor .u64 q0 q4))).setCell ⟨w.heap.size + 1 + 1, 1, none⟩ (.int .u64 (bits .xor .u64 q1 q0))).setCell ⟨w.heap.size + 1 + 1, 2, none⟩ (.int .u64 (bits .xor .u64 IntKind.u64.max q2))).setCell ⟨w.heap.size + 1 + 1, 3, none⟩ (.int .u64 (bits .xor .u64 q3 q2))).setCell ⟨w.heap.size + 1 + 1, 4, none⟩ (.int .u64 q4)).alloc (.cells #[.int .i64 19, .int .i64 28, .int .i64 61, .int .i64 39, .int .i64 1, .int .i64 6, .int .i64 10, .int .i64 17, .int .i64 7, .int .i64 41] 116))) = Wz at HT ⊢
      generalize wr.heap.size = gt at HT ⊢
      obtain ⟨⟨z0, z1, z2, z3, z4⟩, hz⟩ : ∃ z, aft ⟨q0, q1, q2, q3, q4⟩ = z := ⟨_, rfl⟩
      have hok : (S5.mk z0 z1 z2 z3 z4).ok := by rw [← hz]; exact ⟨xr_w64 _ _, xr_w64 _ _, nt_w64 _, xr_w64 _ _, hq4⟩
      rw [hz] at HT HRND
      obtain ⟨k0, k1, k2, k3, k4⟩ := hok
      clear hz
      go_loopw [8] (fun vi wr => (vi = .int .i64 0 ∧ Hid (RrT w wr (zTo (⟨z0, z1, z2, z3, z4⟩ : S5) 0) gt)) ∨ (vi = .int .i64 1 ∧ Hid (RrT w wr (zTo (⟨z0, z1, z2, z3, z4⟩ : S5) 1) gt)) ∨ (vi = .int .i64 2 ∧ Hid (RrT w wr (zTo (⟨z0, z1, z2, z3, z4⟩ : S5) 2) gt)) ∨ (vi = .int .i64 3 ∧ Hid (RrT w wr (zTo (⟨z0, z1, z2, z3, z4⟩ : S5) 3) gt)) ∨ (vi = .int .i64 4 ∧ Hid (RrT w wr (zTo (⟨z0, z1, z2, z3, z4⟩ : S5) 4) gt)) ∨ (vi = .int .i64 5 ∧ Hid (RrT w wr (zTo (⟨z0, z1, z2, z3, z4⟩ : S5) 5) gt))) (fun vi _ => 5 - (intOf vi).toNat)
      case atStart => exact .inl ⟨rfl, HT⟩
      case round =>
        clear HT
        rcases hrel with ⟨rfl, hI⟩ | ⟨rfl, hI⟩ | ⟨rfl, hI⟩ | ⟨rfl, hI⟩ | ⟨rfl, hI⟩ | ⟨rfl, hI⟩
        · have HS : ∀ w', RrT w w' (zTo (⟨z0, z1, z2, z3, z4⟩ : S5) 0) gt → (fun w' => Hid (RrT w w' (zTo (⟨z0, z1, z2, z3, z4⟩ : S5) 0) gt) ∧ w'.cell? ⟨w.heap.size + 1 + 1, 0, none⟩ = some (.int .u64 z0) ∧ w'.cell? ⟨gt, 0, none⟩ = some (.int .i64 19) ∧ w'.cell? ⟨gt, 1, none⟩ = some (.int .i64 28)) w' := fun w' h => ⟨Lib.hid h, h.y.cell 0 (by simp [S5.l, zTo]), h.t.cell 0 (by simp), h.t.cell 1 (by simp)⟩
          go_wp2_with fail
          refine wp_region_kept_tail (fun w' => Hid (RrT w w' (zTo (⟨z0, z1, z2, z3, z4⟩ : S5) 0) gt) ∧ w'.cell? ⟨w.heap.size + 1 + 1, 0, none⟩ = some (.int .u64 z0) ∧ w'.cell? ⟨gt, 0, none⟩ = some (.int .i64 19) ∧ w'.cell? ⟨gt, 1, none⟩ = some (.int .i64 28)) 23 (by kernel_rfl) (by kernel_rfl) (HS _ hI.out.drew) ?_
          clear hI
          simp only [List.take_succ_cons, List.take_zero, List.drop_succ_cons, List.drop_zero]
          repeat (refine kept_value _ (by rfl) (by intro w' hSw; go_simp; with_reducible rfl) ?_; simp only [Act.put, List.setIfInBounds_toArray, List.set_cons_zero, List.set_cons_succ])
          refine kept_call _ _ _ (by rfl) (by intro w' hSw; first | (go_simp; done) | (go_simp; with_reducible rfl)) (fun w' hSw => (rrot_st hSw.1.out z0 19 19 rfl k0 (by decide) (by decide)).mono fun ev w'' ⟨h1, h2⟩ => ⟨h1, HS w'' h2⟩) ?_
          simp only [Act.put, List.setIfInBounds_toArray, List.set_cons_zero, List.set_cons_succ]
          repeat (refine kept_value _ (by rfl) (by intro w' hSw; go_simp; with_reducible rfl) ?_; simp only [Act.put, List.setIfInBounds_toArray, List.set_cons_zero, List.set_cons_succ])
          refine kept_call _ _ _ (by rfl) (by intro w' hSw; first | (go_simp; done) | (go_simp; with_reducible rfl)) (fun w' hSw => (rrot_st hSw.1.out z0 28 28 rfl k0 (by decide) (by decide)).mono fun ev w'' ⟨h1, h2⟩ => ⟨h1, HS w'' h2⟩) ?_
          simp only [Act.put, List.setIfInBounds_toArray, List.set_cons_zero, List.set_cons_succ]
          repeat (refine kept_value _ (by rfl) (by intro w' hSw; go_simp; with_reducible rfl) ?_; simp only [Act.put, List.setIfInBounds_toArray, List.set_cons_zero, List.set_cons_succ])
          refine kept_nil ?_
          intro W3 hSw
          obtain ⟨HH, y, t0, t1⟩ := hSw
          clear HS
          have f := HH.out.y.free 0
          go_wp2_with fail
          go_roundw
          case rel => exact .inr (.inl (⟨rfl, Lib.hid (HH.out.put 0 _ _ rfl)⟩))
          case measure => simp [intOf]
        · have HS : ∀ w', RrT w w' (zTo (⟨z0, z1, z2, z3, z4⟩ : S5) 1) gt → (fun w' => Hid (RrT w w' (zTo (⟨z0, z1, z2, z3, z4⟩ : S5) 1) gt) ∧ w'.cell? ⟨w.heap.size + 1 + 1, 1, none⟩ = some (.int .u64 z1) ∧ w'.cell? ⟨gt, 2, none⟩ = some (.int .i64 61) ∧ w'.cell? ⟨gt, 3, none⟩ = some (.int .i64 39)) w' := fun w' h => ⟨Lib.hid h, h.y.cell 1 (by simp [S5.l, zTo]), h.t.cell 2 (by simp), h.t.cell 3 (by simp)⟩
          go_wp2_with fail
          refine wp_region_kept_tail (fun w' => Hid (RrT w w' (zTo (⟨z0, z1, z2, z3, z4⟩ : S5) 1) gt) ∧ w'.cell? ⟨w.heap.size + 1 + 1, 1, none⟩ = some (.int .u64 z1) ∧ w'.cell? ⟨gt, 2, none⟩ = some (.int .i64 61) ∧ w'.cell? ⟨gt, 3, none⟩ = some (.int .i64 39)) 23 (by kernel_rfl) (by kernel_rfl) (HS _ hI.out.drew) ?_
          clear hI
          simp only [List.take_succ_cons, List.take_zero, List.drop_succ_cons, List.drop_zero]
          repeat (refine kept_value _ (by rfl) (by intro w' hSw; go_simp; with_reducible rfl) ?_; simp only [Act.put, List.setIfInBounds_toArray, List.set_cons_zero, List.set_cons_succ])
          refine kept_call _ _ _ (by rfl) (by intro w' hSw; first | (go_simp; done) | (go_simp; with_reducible rfl)) (fun w' hSw => (rrot_st hSw.1.out z1 61 61 rfl k1 (by decide) (by decide)).mono fun ev w'' ⟨h1, h2⟩ => ⟨h1, HS w'' h2⟩) ?_
          simp only [Act.put, List.setIfInBounds_toArray, List.set_cons_zero, List.set_cons_succ]
          repeat (refine kept_value _ (by rfl) (by intro w' hSw; go_simp; with_reducible rfl) ?_; simp only [Act.put, List.setIfInBounds_toArray, List.set_cons_zero, List.set_cons_succ])
          refine kept_call _ _ _ (by rfl) (by intro w' hSw; first | (go_simp; done) | (go_simp; with_reducible rfl)) (fun w' hSw => (rrot_st hSw.1.out z1 39 39 rfl k1 (by decide) (by decide)).mono fun ev w'' ⟨h1, h2⟩ => ⟨h1, HS w'' h2⟩) ?_
          simp only [Act.put, List.setIfInBounds_toArray, List.set_cons_zero, List.set_cons_succ]
          repeat (refine kept_value _ (by rfl) (by intro w' hSw; go_simp; with_reducible rfl) ?_; simp only [Act.put, List.setIfInBounds_toArray, List.set_cons_zero, List.set_cons_succ])
          refine kept_nil ?_
          intro W3 hSw
          obtain ⟨HH, y, t0, t1⟩ := hSw
          clear HS
          have f := HH.out.y.free 1
          go_wp2_with fail
          go_roundw
          case rel => exact .inr (.inr (.inl (⟨rfl, Lib.hid (HH.out.put 1 _ _ rfl)⟩)))
          case measure => simp [intOf]
        · have HS : ∀ w', RrT w w' (zTo (⟨z0, z1, z2, z3, z4⟩ : S5) 2) gt → (fun w' => Hid (RrT w w' (zTo (⟨z0, z1, z2, z3, z4⟩ : S5) 2) gt) ∧ w'.cell? ⟨w.heap.size + 1 + 1, 2, none⟩ = some (.int .u64 z2) ∧ w'.cell? ⟨gt, 4, none⟩ = some (.int .i64 1) ∧ w'.cell? ⟨gt, 5, none⟩ = some (.int .i64 6)) w' := fun w' h => ⟨Lib.hid h, h.y.cell 2 (by simp [S5.l, zTo]), h.t.cell 4 (by simp), h.t.cell 5 (by simp)⟩
          go_wp2_with fail
          refine wp_region_kept_tail (fun w' => Hid (RrT w w' (zTo (⟨z0, z1, z2, z3, z4⟩ : S5) 2) gt) ∧ w'.cell? ⟨w.heap.size + 1 + 1, 2, none⟩ = some (.int .u64 z2) ∧ w'.cell? ⟨gt, 4, none⟩ = some (.int .i64 1) ∧ w'.cell? ⟨gt, 5, none⟩ = some (.int .i64 6)) 23 (by kernel_rfl) (by kernel_rfl) (HS _ hI.out.drew) ?_
          clear hI
          simp only [List.take_succ_cons, List.take_zero, List.drop_succ_cons, List.drop_zero]
          repeat (refine kept_value _ (by rfl) (by intro w' hSw; go_simp; with_reducible rfl) ?_; simp only [Act.put, List.setIfInBounds_toArray, List.set_cons_zero, List.set_cons_succ])
          refine kept_call _ _ _ (by rfl) (by intro w' hSw; first | (go_simp; done) | (go_simp; with_reducible rfl)) (fun w' hSw => (rrot_st hSw.1.out z2 1 1 rfl k2 (by decide) (by decide)).mono fun ev w'' ⟨h1, h2⟩ => ⟨h1, HS w'' h2⟩) ?_
          simp only [Act.put, List.setIfInBounds_toArray, List.set_cons_zero, List.set_cons_succ]
          repeat (refine kept_value _ (by rfl) (by intro w' hSw; go_simp; with_reducible rfl) ?_; simp only [Act.put, List.setIfInBounds_toArray, List.set_cons_zero, List.set_cons_succ])
          refine kept_call _ _ _ (by rfl) (by intro w' hSw; first | (go_simp; done) | (go_simp; with_reducible rfl)) (fun w' hSw => (rrot_st hSw.1.out z2 6 6 rfl k2 (by decide) (by decide)).mono fun ev w'' ⟨h1, h2⟩ => ⟨h1, HS w'' h2⟩) ?_
          simp only [Act.put, List.setIfInBounds_toArray, List.set_cons_zero, List.set_cons_succ]
          repeat (refine kept_value _ (by rfl) (by intro w' hSw; go_simp; with_reducible rfl) ?_; simp only [Act.put, List.setIfInBounds_toArray, List.set_cons_zero, List.set_cons_succ])
          refine kept_nil ?_
          intro W3 hSw
          obtain ⟨HH, y, t0, t1⟩ := hSw
          clear HS
          have f := HH.out.y.free 2
          go_wp2_with fail
          go_roundw
          case rel => exact .inr (.inr (.inr (.inl (⟨rfl, Lib.hid (HH.out.put 2 _ _ rfl)⟩))))
          case measure => simp [intOf]
        · have HS : ∀ w', RrT w w' (zTo (⟨z0, z1, z2, z3, z4⟩ : S5) 3) gt → (fun w' => Hid (RrT w w' (zTo (⟨z0, z1, z2, z3, z4⟩ : S5) 3) gt) ∧ w'.cell? ⟨w.heap.size + 1 + 1, 3, none⟩ = some (.int .u64 z3) ∧ w'.cell? ⟨gt, 6, none⟩ = some (.int .i64 10) ∧ w'.cell? ⟨gt, 7, none⟩ = some (.int .i64 17)) w' := fun w' h => ⟨Lib.hid h, h.y.cell 3 (by simp [S5.l, zTo]), h.t.cell 6 (by simp), h.t.cell 7 (by simp)⟩
          go_wp2_with fail
          refine wp_region_kept_tail (fun w' => Hid (RrT w w' (zTo (⟨z0, z1, z2, z3, z4⟩ : S5) 3) gt) ∧ w'.cell? ⟨w.heap.size + 1 + 1, 3, none⟩ = some (.int .u64 z3) ∧ w'.cell? ⟨gt, 6, none⟩ = some (.int .i64 10) ∧ w'.cell? ⟨gt, 7, none⟩ = some (.int .i64 17)) 23 (by kernel_rfl) (by kernel_rfl) (HS _ hI.out.drew) ?_
          clear hI
          simp only [List.take_succ_cons, List.take_zero, List.drop_succ_cons, List.drop_zero]
          repeat (refine kept_value _ (by rfl) (by intro w' hSw; go_simp; with_reducible rfl) ?_; simp only [Act.put, List.setIfInBounds_toArray, List.set_cons_zero, List.set_cons_succ])
          refine kept_call _ _ _ (by rfl) (by intro w' hSw; first | (go_simp; done) | (go_simp; with_reducible rfl)) (fun w' hSw => (rrot_st hSw.1.out z3 10 10 rfl k3 (by decide) (by decide)).mono fun ev w'' ⟨h1, h2⟩ => ⟨h1, HS w'' h2⟩) ?_
          simp only [Act.put, List.setIfInBounds_toArray, List.set_cons_zero, List.set_cons_succ]
          repeat (refine kept_value _ (by rfl) (by intro w' hSw; go_simp; with_reducible rfl) ?_; simp only [Act.put, List.setIfInBounds_toArray, List.set_cons_zero, List.set_cons_succ])
          refine kept_call _ _ _ (by rfl) (by intro w' hSw; first | (go_simp; done) | (go_simp; with_reducible rfl)) (fun w' hSw => (rrot_st hSw.1.out z3 17 17 rfl k3 (by decide) (by decide)).mono fun ev w'' ⟨h1, h2⟩ => ⟨h1, HS w'' h2⟩) ?_
          simp only [Act.put, List.setIfInBounds_toArray, List.set_cons_zero, List.set_cons_succ]
          repeat (refine kept_value _ (by rfl) (by intro w' hSw; go_simp; with_reducible rfl) ?_; simp only [Act.put, List.setIfInBounds_toArray, List.set_cons_zero, List.set_cons_succ])
          refine kept_nil ?_
          intro W3 hSw
          obtain ⟨HH, y, t0, t1⟩ := hSw
          clear HS
          have f := HH.out.y.free 3
          go_wp2_with fail
          go_roundw
          case rel => exact .inr (.inr (.inr (.inr (.inl (⟨rfl, Lib.hid (HH.out.put 3 _ _ rfl)⟩)))))
          case measure => simp [intOf]
        · have HS : ∀ w', RrT w w' (zTo (⟨z0, z1, z2, z3, z4⟩ : S5) 4) gt → (fun w' => Hid (RrT w w' (zTo (⟨z0, z1, z2, z3, z4⟩ : S5) 4) gt) ∧ w'.cell? ⟨w.heap.size + 1 + 1, 4, none⟩ = some (.int .u64 z4) ∧ w'.cell? ⟨gt, 8, none⟩ = some (.int .i64 7) ∧ w'.cell? ⟨gt, 9, none⟩ = some (.int .i64 41)) w' := fun w' h => ⟨Lib.hid h, h.y.cell 4 (by simp [S5.l, zTo]), h.t.cell 8 (by simp), h.t.cell 9 (by simp)⟩
          go_wp2_with fail
          refine wp_region_kept_tail (fun w' => Hid (RrT w w' (zTo (⟨z0, z1, z2, z3, z4⟩ : S5) 4) gt) ∧ w'.cell? ⟨w.heap.size + 1 + 1, 4, none⟩ = some (.int .u64 z4) ∧ w'.cell? ⟨gt, 8, none⟩ = some (.int .i64 7) ∧ w'.cell? ⟨gt, 9, none⟩ = some (.int .i64 41)) 23 (by kernel_rfl) (by kernel_rfl) (HS _ hI.out.drew) ?_
          clear hI
          simp only [List.take_succ_cons, List.take_zero, List.drop_succ_cons, List.drop_zero]
          repeat (refine kept_value _ (by rfl) (by intro w' hSw; go_simp; with_reducible rfl) ?_; simp only [Act.put, List.setIfInBounds_toArray, List.set_cons_zero, List.set_cons_succ])
          refine kept_call _ _ _ (by rfl) (by intro w' hSw; first | (go_simp; done) | (go_simp; with_reducible rfl)) (fun w' hSw => (rrot_st hSw.1.out z4 7 7 rfl k4 (by decide) (by decide)).mono fun ev w'' ⟨h1, h2⟩ => ⟨h1, HS w'' h2⟩) ?_
          simp only [Act.put, List.setIfInBounds_toArray, List.set_cons_zero, List.set_cons_succ]
          repeat (refine kept_value _ (by rfl) (by intro w' hSw; go_simp; with_reducible rfl) ?_; simp only [Act.put, List.setIfInBounds_toArray, List.set_cons_zero, List.set_cons_succ])
          refine kept_call _ _ _ (by rfl) (by intro w' hSw; first | (go_simp; done) | (go_simp; with_reducible rfl)) (fun w' hSw => (rrot_st hSw.1.out z4 41 41 rfl k4 (by decide) (by decide)).mono fun ev w'' ⟨h1, h2⟩ => ⟨h1, HS w'' h2⟩) ?_
          simp only [Act.put, List.setIfInBounds_toArray, List.set_cons_zero, List.set_cons_succ]
          repeat (refine kept_value _ (by rfl) (by intro w' hSw; go_simp; with_reducible rfl) ?_; simp only [Act.put, List.setIfInBounds_toArray, List.set_cons_zero, List.set_cons_succ])
          refine kept_nil ?_
          intro W3 hSw
          obtain ⟨HH, y, t0, t1⟩ := hSw
          clear HS
          have f := HH.out.y.free 4
          go_wp2_with fail
          go_roundw
          case rel => exact .inr (.inr (.inr (.inr (.inr (⟨rfl, Lib.hid (HH.out.put 4 _ _ rfl)⟩)))))
          case measure => simp [intOf]
        · obtain ⟨⟨t0, t1, t2, t3, t4⟩, ht⟩ : ∃ q, zTo (⟨z0, z1, z2, z3, z4⟩ : S5) 5 = q := ⟨_, rfl⟩
          rw [ht] at hI
          have HT := Lib.hid ht
          clear ht
          have y0 : wr.cell? ⟨w.heap.size + 1 + 1, 0, none⟩ = some (.int .u64 t0) := hI.out.y.cell 0 (by simp [S5.l])
          have y1 : wr.cell? ⟨w.heap.size + 1 + 1, 1, none⟩ = some (.int .u64 t1) := hI.out.y.cell 1 (by simp [S5.l])
          have y2 : wr.cell? ⟨w.heap.size + 1 + 1, 2, none⟩ = some (.int .u64 t2) := hI.out.y.cell 2 (by simp [S5.l])
          have y3 : wr.cell? ⟨w.heap.size + 1 + 1, 3, none⟩ = some (.int .u64 t3) := hI.out.y.cell 3 (by simp [S5.l])
          have y4 : wr.cell? ⟨w.heap.size + 1 + 1, 4, none⟩ = some (.int .u64 t4) := hI.out.y.cell 4 (by simp [S5.l])
          have r0 := hI.out.r.cell 0 (by simp); have r1 := hI.out.r.cell 1 (by simp); have r2 := hI.out.r.cell 2 (by simp); have r3 := hI.out.r.cell 3 (by simp); have r4 := hI.out.r.cell 4 (by simp)
          simp only [List.getElem_cons_zero, List.getElem_cons_succ] at r0 r1 r2 r3 r4
          have f0 := hI.out.r.free 0; have f1 := hI.out.r.free 1; have f2 := hI.out.r.free 2; have f3 := hI.out.r.free 3; have f4 := hI.out.r.free 4
          have HO := Lib.hid (five_out hI.out.r hI.out.bel ⟨t0, t1, t2, t3, t4⟩)
          have o0 := HO.out.1.cell 0 (by simp [S5.l]); have o1 := HO.out.1.cell 1 (by simp [S5.l]); have o2 := HO.out.1.cell 2 (by simp [S5.l]); have o3 := HO.out.1.cell 3 (by simp [S5.l]); have o4 := HO.out.1.cell 4 (by simp [S5.l])
          simp only [S5.l, List.getElem_cons_zero, List.getElem_cons_succ] at o0 o1 o2 o3 o4
          go_wp2_with fail
          refine bodyPost_ret (v := .agg #[.int .u64 t0, .int .u64 t1, .int .u64 t2, .int .u64 t3, .int .u64 t4]) (by simp [results, Tryd.results88, go_sem, o0, o1, o2, o3, o4]) rfl ⟨by rw [HRND.out, HT.out], HO.out.2⟩
end Go.Proofs.YtjfjbkocopaehaaDoor
