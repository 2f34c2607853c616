/- The sponge in plain numbers: words of 64 bits, the rounds, what is absorbed, what is squeezed. -/
import Derived.Test.YtjfjbkocopaehaaDoorModX
namespace Go.Proofs.YtjfjbkocopaehaaDoor
open Go.RowKit

def xr (x y : Int) : Int := bits .xor .u64 x y
def an (x y : Int) : Int := bits .and .u64 x y
def orr (x y : Int) : Int := bits .or .u64 x y
def nt (x : Int) : Int := bits .xor .u64 IntKind.u64.max x
def shl (x : Int) (k : Nat) : Int := IntKind.u64.wrap (x * 2 ^ k)
def rr (x : Int) (k : Nat) : Int := orr (shl x (64 - k)) (x / 2 ^ k)
def tn (x : Int) (a b : Nat) : Int := xr (xr x (rr x a)) (rr x b)

/-- A word of 64 bits. -/
def W64 (x : Int) : Prop := 0 ≤ x ∧ x < 18446744073709551616
theorem wrap_w64 (x : Int) : W64 (IntKind.u64.wrap x) := by
  unfold W64
  have h : IntKind.u64.wrap x = x % 18446744073709551616 := by rw [IntKind.wrap_u64]
  rw [h]
  omega
theorem bits_w64 (op : BinOp) (x y : Int) : W64 (bits op .u64 x y) := wrap_w64 _
theorem shr_w64 {x : Int} (h : W64 x) (k : Nat) : W64 (x / 2 ^ k) := by
  obtain ⟨h0, h1⟩ := h
  have hp : (0 : Int) < 2 ^ k := Int.pow_pos (by decide)
  refine ⟨Int.ediv_nonneg h0 (Int.le_of_lt hp), Int.lt_of_le_of_lt (Int.ediv_le_self _ h0) h1⟩
theorem wrap_of {x : Int} (h : W64 x) : IntKind.u64.wrap x = x := by
  obtain ⟨h0, h1⟩ := h
  rw [IntKind.wrap_u64]; omega
theorem xr_w64 (x y : Int) : W64 (xr x y) := bits_w64 _ _ _
theorem an_w64 (x y : Int) : W64 (an x y) := bits_w64 _ _ _
theorem orr_w64 (x y : Int) : W64 (orr x y) := bits_w64 _ _ _
theorem nt_w64 (x : Int) : W64 (nt x) := bits_w64 _ _ _
theorem tn_w64 (x : Int) (a b : Nat) : W64 (tn x a b) := xr_w64 _ _
theorem or_comm64 (x y : Int) : orr x y = orr y x := by
  unfold orr bits
  show IntKind.u64.wrap ((BitVec.ofInt 64 x ||| BitVec.ofInt 64 y).toNat : Int) = IntKind.u64.wrap ((BitVec.ofInt 64 y ||| BitVec.ofInt 64 x).toNat : Int)
  rw [BitVec.or_comm]
theorem or_zero64 {x : Int} (h : W64 x) : orr x 0 = x := by
  obtain ⟨h0, h1⟩ := h
  unfold orr bits
  show IntKind.u64.wrap ((BitVec.ofInt 64 x ||| BitVec.ofInt 64 0).toNat : Int) = x
  have e : (BitVec.ofInt 64 0) = 0#64 := rfl
  rw [e, BitVec.or_zero, BitVec.toNat_ofInt, IntKind.wrap_u64]
  omega

/-- The five words of the state. -/
structure S5 where
  a : Int
  b : Int
  c : Int
  d : Int
  e : Int
def S5.l (x : S5) : List Value := [.int .u64 x.a, .int .u64 x.b, .int .u64 x.c, .int .u64 x.d, .int .u64 x.e]
def S5.v (x : S5) : Value := .agg #[.int .u64 x.a, .int .u64 x.b, .int .u64 x.c, .int .u64 x.d, .int .u64 x.e]
def S5.ok (x : S5) : Prop := W64 x.a ∧ W64 x.b ∧ W64 x.c ∧ W64 x.d ∧ W64 x.e

/-- The middle of a round: behind the mixing of columns. -/
def mid (x : S5) (c : Int) : S5 :=
  let a0 := xr x.a x.e
  let e0 := xr x.e x.d
  let c0 := xr (xr x.c c) x.b
  let y0 := xr a0 (an (nt x.b) c0)
  let y1 := xr x.b (an (nt c0) x.d)
  let y2 := xr c0 (an (nt x.d) e0)
  let y3 := xr x.d (an (nt e0) a0)
  let y4 := xr e0 (an (nt a0) x.b)
  ⟨xr y0 y4, xr y1 y0, nt y2, xr y3 y2, y4⟩
theorem mid_ok (x : S5) (c : Int) : (mid x c).ok := ⟨xr_w64 _ _, xr_w64 _ _, nt_w64 _, xr_w64 _ _, xr_w64 _ _⟩
/-- One round. -/
def rnd (x : S5) (c : Int) : S5 :=
  ⟨tn (mid x c).a 19 28, tn (mid x c).b 61 39, tn (mid x c).c 1 6, tn (mid x c).d 10 17, tn (mid x c).e 7 41⟩
theorem rnd_ok (x : S5) (c : Int) : (rnd x c).ok := ⟨tn_w64 _ _ _, tn_w64 _ _ _, tn_w64 _ _ _, tn_w64 _ _ _, tn_w64 _ _ _⟩
/-- The rounds from one to the last of the twelve. -/
def rnds (x : S5) (from_ : Nat) : Nat → S5
  | 0 => x
  | k + 1 => rnd (rnds x from_ k) (240 - 15 * ((from_ + k : Nat) : Int))
/-- The last r of the twelve rounds. -/
def perm (x : S5) (r : Nat) : S5 := rnds x (12 - r) r
theorem rnds_ok {x : S5} (h : x.ok) (f k : Nat) : (rnds x f k).ok := by
  cases k with
  | zero => exact h
  | succ k => exact rnd_ok _ _
theorem perm_ok {x : S5} (h : x.ok) (r : Nat) : (perm x r).ok := rnds_ok h _ _

/-- A byte of a string with its padding. -/
def padB (s : ByteArray) (i : Nat) : Int := if h : i < s.size then ((s[i]'h).toNat : Int) else if i = s.size then 128 else 0
/-- The first k bytes of a word, from a place on. -/
def wordTo (s : ByteArray) (at_ : Nat) : Nat → Int
  | 0 => 0
  | k + 1 => orr (shl (wordTo s at_ k) 8) (padB s (at_ + k))
theorem wordTo_w64 (s : ByteArray) (at_ k : Nat) : W64 (wordTo s at_ k) := by
  cases k with
  | zero => exact ⟨Int.le_refl _, by show (0 : Int) < _; omega⟩
  | succ k => exact orr_w64 _ _
/-- Behind j words. -/
def absorb (s : ByteArray) (x : S5) : Nat → S5
  | 0 => x
  | j + 1 => let y := absorb s x j; perm ⟨xr y.a (wordTo s (8 * j) 8), y.b, y.c, y.d, y.e⟩ 12
theorem absorb_ok (s : ByteArray) {x : S5} (h : x.ok) (j : Nat) : (absorb s x j).ok := by
  cases j with
  | zero => exact h
  | succ j =>
    have h' := absorb_ok s h j
    exact perm_ok (x := ⟨xr (absorb s x j).a (wordTo s (8 * j) 8), (absorb s x j).b, (absorb s x j).c, (absorb s x j).d, (absorb s x j).e⟩) ⟨xr_w64 _ _, h'.2.1, h'.2.2.1, h'.2.2.2.1, h'.2.2.2.2⟩ _
/-- The byte of a word's place, counted from the highest. -/
def byteOf (x : Int) (k : Nat) : Int := x / 2 ^ (56 - 8 * k) % 256
/-- The state behind so many squeezings. -/
def sqz (x : S5) : Nat → S5
  | 0 => x
  | j + 1 => perm (sqz x j) 12
theorem sqz_ok {x : S5} (h : x.ok) (j : Nat) : (sqz x j).ok := by
  cases j with
  | zero => exact h
  | succ j => exact perm_ok (sqz_ok h j) _
/-- The i-th byte of what is squeezed out. -/
def outB (x : S5) (i : Nat) : Int := byteOf (sqz x (i / 8)).a (i % 8)
theorem byteOf_bd (x : Int) (k : Nat) : 0 ≤ byteOf x k ∧ byteOf x k < 256 := by
  unfold byteOf; omega
/-- The first n bytes of what is squeezed out. -/
def outs (x : S5) (n : Nat) : List Int := (List.range n).map (outB x)
theorem outs_length (x : S5) (n : Nat) : (outs x n).length = n := by unfold outs; simp
theorem outs_succ (x : S5) (n : Nat) : outs x (n + 1) = outs x n ++ [outB x n] := by unfold outs; rw [List.range_succ, List.map_append]; rfl
/-- The bytes as a string. -/
def bsOf (l : List Int) : ByteArray := ⟨(l.map (fun z => UInt8.ofNat z.toNat)).toArray⟩
/-- The state before a string is absorbed. -/
def init5 (kind : Nat) : S5 := perm ⟨8026104356937031936 + kind, 0, 0, 0, 0⟩ 12
theorem z_w64 : W64 0 := ⟨Int.le_refl _, by decide⟩
theorem init5_ok {kind : Nat} (h : kind < 256) : (init5 kind).ok := by
  refine perm_ok (x := ⟨8026104356937031936 + kind, 0, 0, 0, 0⟩) ⟨?_, z_w64, z_w64, z_w64, z_w64⟩ _
  show (0 : Int) ≤ 8026104356937031936 + (kind : Int) ∧ 8026104356937031936 + (kind : Int) < 18446744073709551616
  omega
/-- What the sponge returns. -/
def spongeS (s : ByteArray) (kind n : Nat) : ByteArray := bsOf (outs (absorb s (init5 kind) (s.size / 8 + 1)) n)
end Go.Proofs.YtjfjbkocopaehaaDoor
