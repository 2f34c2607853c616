/- The sort at uint32, E: turned by a program of mine from walks at int. The sort at uint32, F: turned by a program of mine from walks at int. The sort at uint32, G: turned by a program of mine from walks at int. The sort at uint32, laid at this program: the numbers of its functions and types. -/
import Derived.Sort.Walk11
import Derived.Shelf.SortM.PlainT
import Derived.Shelf.SlLaysM
import Derived.Sort.WalkD1
import Derived.OwnWalkIn
import Derived.TacticsInMore
import Derived.RegionIn
import Derived.LoopNIn
import Derived.LoopIn
import Derived.Sort.CutIn
import Derived.Sort.QuietIn
import Derived.Sort.AtCallIn
import Derived.Shelf.RegionOpen
import Derived.Shelf.AbstractIn
import Derived.Sort.WalkD2
import Derived.Test.YtjpcljnojipdnaaGreatSrt1
import Derived.Sort.Walk13
import Derived.Sort.LotD6
import Derived.Sort.WalkA14
import Derived.Sort.LotD7
import Derived.Sort.AssemblyPlain
import Derived.Shelf.SortM.So_math_bits_LenIn
import Derived.Test.YtjpcljnojipdnaaGreatSrt2
import Derived.Test.YtjpcljnojipdnaaGreatChecked
import Derived.Sort.EveryDepth
/-! The sort at uint32, E: turned by a program of mine from walks at int. -/
namespace Go.Proofs.YtjpcljnojipdnaaGreat
open Go.Proofs
theorem holds_aside_u {w : World} {blk off sb so n t : Nat} {d : Array Int} (h : Go.Sort.Holds (Value.int .u32) w blk off d) (hne : sb ≠ blk) : Go.Sort.Holds (Value.int .u32) (Go.Sort.putRow (Value.int .i64) (Go.Sort.ahead w n) sb so (one t)) blk off d := fun j hj =>
  ⟨by rw [Go.Sort.cell?_putRow_other _ _ _ _ _ _ (Or.inl (Ne.symm hne))]; exact (h j hj).1, by rw [Go.Sort.frozen?_putRow]; exact (h j hj).2⟩

section
open Go.Shelf
variable {P : Program} {ρ : Ren}

open Go.Sort Go.RowKit

set_option maxHeartbeats 1000000 in

theorem AnySM.order2_intIn (Ly : SlLaysU.n40 P ρ) (D : Nat) (d : Array Int) (len : Nat) (hlen : d.size = len) (blk off cap a b sb so s : Nat) (w : World) (hH : Holds (Value.int .u32) w blk off d) (ha : a < d.size) (hb : b < d.size)
    (hS : Holds (Value.int .i64) w sb so (one s)) (hs : s < 2 ^ 62) :
    CallsIn (Fence.list [ρ.f 5, ρ.f 7, ρ.f 8, ρ.f 10, ρ.f 11, ρ.f 12, ρ.f 13, ρ.f 14, ρ.f 15, ρ.f 16, ρ.f 17, ρ.f 18, ρ.f 20, ρ.f 30, ρ.f 31, ρ.f 32, ρ.f 33, ρ.f 34, ρ.f 35, ρ.f 40] (some D)) 2 P (ρ.f 40) #[.slice (some ⟨blk, off, none⟩) len cap, .int .i64 a, .int .i64 b, .pointer (some ⟨sb, so, none⟩)] w fun e w' =>
      e = .returned (.tuple #[.int .i64 (order2 ltInt d a b s).1, .int .i64 (order2 ltInt d a b s).2.1]) ∧ ∃ n, w' = putRow (Value.int .i64) (Sort.ahead w n) sb so (one (order2 ltInt d a b s).2.2) := by
  subst hlen
  replace hs : s < 4611686018427387904 := by omega
  have ca := (hH a ha).1
  have cb := (hH b hb).1
  obtain ⟨cs, fs⟩ := one_cell hS
  have ea : d[a]! = d[a] := getElem!_pos d a ha
  have eb : d[b]! = d[b] := getElem!_pos d b hb
  have mixed := Ly.mixed
  have t0 := Ly.t0; have a0 := Ly.a0; have z0 := Ly.z0; have v0 := Ly.v0; have t3 := Ly.t3; have a3 := Ly.a3; have z3 := Ly.z3; have v3 := Ly.v3; have t4 := Ly.t4; have a4 := Ly.a4; have z4 := Ly.z4; have v4 := Ly.v4; have t22 := Ly.t22; have a22 := Ly.a22; have z22 := Ly.z22; have v22 := Ly.v22; have t25 := Ly.t25; have a25 := Ly.a25; have z25 := Ly.z25; have v25 := Ly.v25; have t57 := Ly.t57; have a57 := Ly.a57; have z57 := Ly.z57; have v57 := Ly.v57
  have e216 : ∀ args w, (callFunc (ρ.f 16) args).run P w = .ok (.enter (ρ.f 16) args) w := Ly.f16.enters rfl
  obtain ⟨_, _, FG⟩ := Ly.f40
  gi_enter FG, SlBodyM.n40_ntmps ρ
  gi_wp2
  gi_big_quiet_th_o (first | (gi_at_fn (ρ.f 16); refine CallsIn.quiet_of_same (AnySM.cmp_Less_intIn { Ly with } D _ _ _)))
  all_goals (try gi_wp2)
  all_goals first
    | (have hlt : ltInt d[b] d[a] = true := by assumption
       have e2 : order2 ltInt d a b s = (b, a, s + 1) := by simp [order2, ea, eb, hlt]
       go_ret2
       rw [e2]
       refine ⟨rfl, nq, ?_⟩
       rw [putRow_ahead, ← one_set hS (s + 1)]
       first | rfl | simp [drew_eq_ahead] | simp [World.drewN, Sort.ahead, World.setCell])
    | (have hlt : ltInt d[b] d[a] = false := by assumption
       have e2 : order2 ltInt d a b s = (a, b, s) := by simp [order2, ea, eb, hlt]
       go_ret2
       rw [e2]
       refine ⟨rfl, nq, ?_⟩
       rw [putRow_ahead, putRow_self _ _ _ _ _ hS]
       rfl)

set_option maxHeartbeats 1000000 in
set_option maxRecDepth 100000 in

theorem AnySM.median_intIn (Ly : SlLaysU.n34 P ρ) (D : Nat) (d : Array Int) (len : Nat) (hlen : d.size = len) (blk off cap a b c sb so s : Nat) (w : World) (hH : Holds (Value.int .u32) w blk off d) (ha : a < d.size) (hb : b < d.size) (hc : c < d.size) (hne : sb ≠ blk)
    (hS : Holds (Value.int .i64) w sb so (one s)) (hs : s + 3 < 2 ^ 62) :
    CallsIn (Fence.list [ρ.f 5, ρ.f 7, ρ.f 8, ρ.f 10, ρ.f 11, ρ.f 12, ρ.f 13, ρ.f 14, ρ.f 15, ρ.f 16, ρ.f 17, ρ.f 18, ρ.f 20, ρ.f 30, ρ.f 31, ρ.f 32, ρ.f 33, ρ.f 34, ρ.f 35, ρ.f 40] (some D)) 3 P (ρ.f 34) #[.slice (some ⟨blk, off, none⟩) len cap, .int .i64 a, .int .i64 b, .int .i64 c, .pointer (some ⟨sb, so, none⟩)] w fun e w' =>
      e = .returned (.int .i64 (median ltInt d a b c s).1) ∧ ∃ n, w' = putRow (Value.int .i64) (Sort.ahead w n) sb so (one (median ltInt d a b c s).2) := by
  subst hlen
  have l1 := order2_lt d s ha hb
  have s1 := order2_swaps d a b s
  have l2 := order2_lt d (order2 ltInt d a b s).2.2 l1.2 hc
  have s2 := order2_swaps d (order2 ltInt d a b s).2.1 c (order2 ltInt d a b s).2.2
  have mixed := Ly.mixed
  have t0 := Ly.t0; have a0 := Ly.a0; have z0 := Ly.z0; have v0 := Ly.v0; have t3 := Ly.t3; have a3 := Ly.a3; have z3 := Ly.z3; have v3 := Ly.v3; have t4 := Ly.t4; have a4 := Ly.a4; have z4 := Ly.z4; have v4 := Ly.v4; have t22 := Ly.t22; have a22 := Ly.a22; have z22 := Ly.z22; have v22 := Ly.v22; have t25 := Ly.t25; have a25 := Ly.a25; have z25 := Ly.z25; have v25 := Ly.v25; have t57 := Ly.t57; have a57 := Ly.a57; have z57 := Ly.z57; have v57 := Ly.v57; have t64 := Ly.t64; have a64 := Ly.a64; have z64 := Ly.z64; have v64 := Ly.v64
  have e343 : ∀ args w, (callFunc (ρ.f 40) args).run P w = .ok (.enter (ρ.f 40) args) w := Ly.f40.enters rfl
  obtain ⟨_, _, FG⟩ := Ly.f34
  gi_enter FG, SlBodyM.n34_ntmps ρ

  gi_wp2_with (gi_at_fn_has (ρ.f 40) (Value.int .i64 (b : Int)); refine (AnySM.order2_intIn { Ly with } D d _ rfl blk off cap a b sb so s w hH ha hb hS (by omega)).mono ?_; rintro e w' ⟨rfl, n1, rfl⟩)
  gi_wp2_with (gi_at_fn_has (ρ.f 40) (Value.int .i64 (c : Int)); refine (AnySM.order2_intIn { Ly with } D d _ rfl blk off cap (order2 ltInt d a b s).2.1 c sb so (order2 ltInt d a b s).2.2 _ (holds_aside_u hH hne) l1.2 hc (holds_one hS) (by omega)).mono ?_; rintro e w' ⟨rfl, n2, rfl⟩)
  gi_wp2_with (gi_at_fn_has (ρ.f 40) (Value.int .i64 ((order2 ltInt d a b s).1 : Int)); refine (AnySM.order2_intIn { Ly with } D d _ rfl blk off cap (order2 ltInt d a b s).1 (order2 ltInt d (order2 ltInt d a b s).2.1 c (order2 ltInt d a b s).2.2).1 sb so (order2 ltInt d (order2 ltInt d a b s).2.1 c (order2 ltInt d a b s).2.2).2.2 _
    (holds_aside_u (holds_aside_u hH hne) hne) l1.1 l2.1 (holds_one (holds_one hS)) (by omega)).mono ?_; rintro e w' ⟨rfl, n3, rfl⟩)
  go_ret
  refine ⟨rfl, n1 + (n2 + n3), ?_⟩
  rw [one_one, one_one]
  rfl
end

section
open Go.Shelf
variable {P : Program} {ρ : Ren}

open Go.Sort Go.RowKit
set_option maxHeartbeats 1000000 in
set_option maxRecDepth 100000 in

theorem AnySM.medianAdjacent_intIn (Ly : SlLaysU.n33 P ρ) (D : Nat) (d : Array Int) (len : Nat) (hlen : d.size = len) (blk off cap a sb so s : Nat) (w : World) (hH : Holds (Value.int .u32) w blk off d) (ha0 : 1 ≤ a) (ha : a + 1 < d.size) (hsz : d.size < 2 ^ 62) (hne : sb ≠ blk)
    (hS : Holds (Value.int .i64) w sb so (one s)) (hs : s + 3 < 2 ^ 62) :
    CallsIn (Fence.list [ρ.f 5, ρ.f 7, ρ.f 8, ρ.f 10, ρ.f 11, ρ.f 12, ρ.f 13, ρ.f 14, ρ.f 15, ρ.f 16, ρ.f 17, ρ.f 18, ρ.f 20, ρ.f 30, ρ.f 31, ρ.f 32, ρ.f 33, ρ.f 34, ρ.f 35, ρ.f 40] (some D)) 4 P (ρ.f 33) #[.slice (some ⟨blk, off, none⟩) len cap, .int .i64 a, .pointer (some ⟨sb, so, none⟩)] w fun e w' =>
      e = .returned (.int .i64 (medianAdjacent ltInt d a s).1) ∧ ∃ n, w' = putRow (Value.int .i64) (Sort.ahead w n) sb so (one (medianAdjacent ltInt d a s).2) := by
  subst hlen
  replace hsz : d.size < 4611686018427387904 := by omega
  have mixed := Ly.mixed
  have t0 := Ly.t0; have a0 := Ly.a0; have z0 := Ly.z0; have v0 := Ly.v0; have t3 := Ly.t3; have a3 := Ly.a3; have z3 := Ly.z3; have v3 := Ly.v3; have t4 := Ly.t4; have a4 := Ly.a4; have z4 := Ly.z4; have v4 := Ly.v4; have t22 := Ly.t22; have a22 := Ly.a22; have z22 := Ly.z22; have v22 := Ly.v22; have t25 := Ly.t25; have a25 := Ly.a25; have z25 := Ly.z25; have v25 := Ly.v25; have t57 := Ly.t57; have a57 := Ly.a57; have z57 := Ly.z57; have v57 := Ly.v57; have t64 := Ly.t64; have a64 := Ly.a64; have z64 := Ly.z64; have v64 := Ly.v64
  have e332 : ∀ args w, (callFunc (ρ.f 34) args).run P w = .ok (.enter (ρ.f 34) args) w := Ly.f34.enters rfl
  obtain ⟨_, _, FG⟩ := Ly.f33
  gi_enter FG, SlBodyM.n33_ntmps ρ
  gi_wp2_with (gi_at_fn (ρ.f 34); rw [show ((a : Int) - 1) = ((a - 1 : Nat) : Int) by omega, show ((a : Int) + 1) = ((a + 1 : Nat) : Int) by omega]; refine (AnySM.median_intIn { Ly with } D d _ rfl blk off cap (a - 1) a (a + 1) sb so s w hH (by omega) (by omega) ha hne hS hs).mono ?_; rintro e w' ⟨rfl, n1, rfl⟩)
  go_ret
  exact ⟨rfl, n1, rfl⟩
end

section
open Go.Shelf
variable {P : Program} {ρ : Ren}

open Go.Sort Go.RowKit

set_option maxHeartbeats 32000000 in
set_option maxRecDepth 1000000 in

theorem pivot_world_intInM (Ly : SlLaysU.n33 P ρ) (D : Nat) (blk off cap : Nat) (d : Array Int) (w : World) (hH : Holds (Value.int .u32) w blk off d) (hblk : blk < w.heap.size) (hsz : d.size < 4611686018427387904) :
    ∃ Wc : Nat → Nat → World,
      w.alloc (.cells #[.int .i64 0] (ρ.t 3)) = Wc 0 0 ∧
      (∀ N S : Nat, (Wc N S).cell? ⟨w.heap.size, 0, none⟩ = some (.int .i64 (S : Int))) ∧
      (∀ N S : Nat, ∃ os, Wc N S = grow (Sort.ahead w N) os) ∧
      (∀ x s N : Nat, 1 ≤ x → x + 1 < d.size → s + 3 < 4611686018427387904 → CallsIn (Fence.list [ρ.f 5, ρ.f 7, ρ.f 8, ρ.f 10, ρ.f 11, ρ.f 12, ρ.f 13, ρ.f 14, ρ.f 15, ρ.f 16, ρ.f 17, ρ.f 18, ρ.f 20, ρ.f 30, ρ.f 31, ρ.f 32, ρ.f 33, ρ.f 34, ρ.f 35, ρ.f 40] (some D)) 4 P (ρ.f 33) #[.slice (some ⟨blk, off, none⟩) d.size cap, .int .i64 (x : Int), .pointer (some ⟨w.heap.size, 0, none⟩)] (Wc N s) fun e w' =>
        e = .returned (.int .i64 ((medianAdjacent ltInt d x s).1 : Int)) ∧ ∃ N', w' = Wc N' (medianAdjacent ltInt d x s).2) ∧
      (∀ x y z s N : Nat, x < d.size → y < d.size → z < d.size → s + 3 < 4611686018427387904 → CallsIn (Fence.list [ρ.f 5, ρ.f 7, ρ.f 8, ρ.f 10, ρ.f 11, ρ.f 12, ρ.f 13, ρ.f 14, ρ.f 15, ρ.f 16, ρ.f 17, ρ.f 18, ρ.f 20, ρ.f 30, ρ.f 31, ρ.f 32, ρ.f 33, ρ.f 34, ρ.f 35, ρ.f 40] (some D)) 3 P (ρ.f 34) #[.slice (some ⟨blk, off, none⟩) d.size cap, .int .i64 (x : Int), .int .i64 (y : Int), .int .i64 (z : Int), .pointer (some ⟨w.heap.size, 0, none⟩)] (Wc N s) fun e w' =>
        e = .returned (.int .i64 ((median ltInt d x y z s).1 : Int)) ∧ ∃ N', w' = Wc N' (median ltInt d x y z s).2) := by
  have hne : w.heap.size ≠ blk := by omega
  have hH0 : Holds (Value.int .u32) (w.alloc (.cells #[.int .i64 0] (ρ.t 3))) blk off d := by rw [alloc_eq_grow]; exact holds_grow _ _ _ _ _ _ hblk hH
  have hS0 : Holds (Value.int .i64) (w.alloc (.cells #[.int .i64 0] (ρ.t 3))) w.heap.size 0 (one 0) := fun j hj => by
    obtain rfl : j = 0 := by simpa using hj
    simp
  refine ⟨fun N S => putRow (Value.int .i64) (Sort.ahead (w.alloc (.cells #[.int .i64 0] (ρ.t 3))) N) w.heap.size 0 (one S), (putRow_self _ _ _ _ _ hS0).symm, fun N S => (one_cell (holds_one (n := N) (t := S) hS0)).1, fun N S => counter_growTM (ρ.t 3) w N S, ?_, ?_⟩
  · intro x s N h1 h2 hs
    refine (AnySM.medianAdjacent_intIn { Ly with } D d _ rfl blk off cap x w.heap.size 0 s _ (holds_aside_u hH0 hne) h1 h2 (by omega) hne (holds_one hS0) (by omega)).mono ?_
    rintro e w' ⟨he, n, hw⟩
    exact ⟨he, N + n, by rw [hw, one_one]⟩
  · intro x y z s N h1 h2 h3 hs
    refine (AnySM.median_intIn { Ly with } D d _ rfl blk off cap x y z w.heap.size 0 s _ (holds_aside_u hH0 hne) h1 h2 h3 hne (holds_one hS0) (by omega)).mono ?_
    rintro e w' ⟨he, n, hw⟩
    exact ⟨he, N + n, by rw [hw, one_one]⟩

set_option maxHeartbeats 32000000 in
set_option maxRecDepth 1000000 in

theorem AnySM.choosePivot_intIn (Ly : SlLaysU.n13 P ρ) (D : Nat) (blk off cap a b : Nat) (d : Array Int) (w : World) (hH : Holds (Value.int .u32) w blk off d) (hblk : blk < w.heap.size) (hab : a < b) (hb : b ≤ d.size) (hsz : d.size < 4611686018427387904) :
    CallsIn (Fence.list [ρ.f 5, ρ.f 7, ρ.f 8, ρ.f 10, ρ.f 11, ρ.f 12, ρ.f 13, ρ.f 14, ρ.f 15, ρ.f 16, ρ.f 17, ρ.f 18, ρ.f 20, ρ.f 30, ρ.f 31, ρ.f 32, ρ.f 33, ρ.f 34, ρ.f 35, ρ.f 40] (some D)) 5 P (ρ.f 13) #[.slice (some ⟨blk, off, none⟩) d.size cap, .int .i64 a, .int .i64 b] w fun e w' =>
      e = .returned (.tuple #[.int .i64 (choosePivot ltInt d a b).1, .int .i64 (hintCode (choosePivot ltInt d a b).2)]) ∧ ∃ n os, w' = grow (Sort.ahead w n) os := by
  obtain ⟨Wc, hW0, cS, hG, MA, MD⟩ := pivot_world_intInM { Ly with } D blk off cap d w hH hblk hsz
  clear hH
  rw [choosePivot_eq]

  obtain ⟨I, hI⟩ : ∃ I : Nat, I = a + (b - a) / 4 * 1 := ⟨_, rfl⟩
  obtain ⟨J, hJ⟩ : ∃ J : Nat, J = a + (b - a) / 4 * 2 := ⟨_, rfl⟩
  obtain ⟨K, hK⟩ : ∃ K : Nat, K = a + (b - a) / 4 * 3 := ⟨_, rfl⟩
  have eI : ((a : Int) + ((b : Int) - (a : Int)) / 4) = (I : Int) := by omega
  have eJ : ((a : Int) + ((b : Int) - (a : Int)) / 4 * 2) = (J : Int) := by omega
  have eK : ((a : Int) + ((b : Int) - (a : Int)) / 4 * 3) = (K : Int) := by omega
  by_cases h8 : b - a ≥ 8
  · by_cases h50 : b - a ≥ 50
    ·
      obtain ⟨i1, s1, h1⟩ : ∃ i1 s1, medianAdjacent ltInt d I 0 = (i1, s1) := ⟨_, _, rfl⟩
      obtain ⟨j1, s2, h2⟩ : ∃ j1 s2, medianAdjacent ltInt d J s1 = (j1, s2) := ⟨_, _, rfl⟩
      obtain ⟨k1, s3, h3⟩ : ∃ k1 s3, medianAdjacent ltInt d K s2 = (k1, s3) := ⟨_, _, rfl⟩
      obtain ⟨p, s, h4⟩ : ∃ p s, median ltInt d i1 j1 k1 s3 = (p, s) := ⟨_, _, rfl⟩
      have hraw : rawPivot ltInt d a b = (p, s) := by simp only [rawPivot, if_pos h8, if_pos h50, ← hI, ← hJ, ← hK, h1, h2, h3, h4]
      have m1 := medianAdjacent_mem ltInt d I 0; rw [h1] at m1
      have m2 := medianAdjacent_mem ltInt d J s1; rw [h2] at m2
      have m3 := medianAdjacent_mem ltInt d K s2; rw [h3] at m3
      have n1 := medianAdjacent_count ltInt d I 0; rw [h1] at n1
      have n2 := medianAdjacent_count ltInt d J s1; rw [h2] at n2
      have n3 := medianAdjacent_count ltInt d K s2; rw [h3] at n3
      simp only [] at m1 m2 m3 n1 n2 n3
      have c1 : CallsIn (Fence.list [ρ.f 5, ρ.f 7, ρ.f 8, ρ.f 10, ρ.f 11, ρ.f 12, ρ.f 13, ρ.f 14, ρ.f 15, ρ.f 16, ρ.f 17, ρ.f 18, ρ.f 20, ρ.f 30, ρ.f 31, ρ.f 32, ρ.f 33, ρ.f 34, ρ.f 35, ρ.f 40] (some D)) 4 P (ρ.f 33) #[.slice (some ⟨blk, off, none⟩) d.size cap, .int .i64 (I : Int), .pointer (some ⟨w.heap.size, 0, none⟩)] (Wc 0 0) fun e w' => e = .returned (.int .i64 (i1 : Int)) ∧ ∃ N', w' = Wc N' s1 := by
        have h := MA I 0 0 (by omega) (by omega) (by omega); rw [h1] at h; exact h
      have c2 : ∀ N, CallsIn (Fence.list [ρ.f 5, ρ.f 7, ρ.f 8, ρ.f 10, ρ.f 11, ρ.f 12, ρ.f 13, ρ.f 14, ρ.f 15, ρ.f 16, ρ.f 17, ρ.f 18, ρ.f 20, ρ.f 30, ρ.f 31, ρ.f 32, ρ.f 33, ρ.f 34, ρ.f 35, ρ.f 40] (some D)) 4 P (ρ.f 33) #[.slice (some ⟨blk, off, none⟩) d.size cap, .int .i64 (J : Int), .pointer (some ⟨w.heap.size, 0, none⟩)] (Wc N s1) fun e w' => e = .returned (.int .i64 (j1 : Int)) ∧ ∃ N', w' = Wc N' s2 := fun N => by
        have h := MA J s1 N (by omega) (by omega) (by omega); rw [h2] at h; exact h
      have c3 : ∀ N, CallsIn (Fence.list [ρ.f 5, ρ.f 7, ρ.f 8, ρ.f 10, ρ.f 11, ρ.f 12, ρ.f 13, ρ.f 14, ρ.f 15, ρ.f 16, ρ.f 17, ρ.f 18, ρ.f 20, ρ.f 30, ρ.f 31, ρ.f 32, ρ.f 33, ρ.f 34, ρ.f 35, ρ.f 40] (some D)) 4 P (ρ.f 33) #[.slice (some ⟨blk, off, none⟩) d.size cap, .int .i64 (K : Int), .pointer (some ⟨w.heap.size, 0, none⟩)] (Wc N s2) fun e w' => e = .returned (.int .i64 (k1 : Int)) ∧ ∃ N', w' = Wc N' s3 := fun N => by
        have h := MA K s2 N (by omega) (by omega) (by omega); rw [h3] at h; exact h
      have c4 : ∀ N, CallsIn (Fence.list [ρ.f 5, ρ.f 7, ρ.f 8, ρ.f 10, ρ.f 11, ρ.f 12, ρ.f 13, ρ.f 14, ρ.f 15, ρ.f 16, ρ.f 17, ρ.f 18, ρ.f 20, ρ.f 30, ρ.f 31, ρ.f 32, ρ.f 33, ρ.f 34, ρ.f 35, ρ.f 40] (some D)) 3 P (ρ.f 34) #[.slice (some ⟨blk, off, none⟩) d.size cap, .int .i64 (i1 : Int), .int .i64 (j1 : Int), .int .i64 (k1 : Int), .pointer (some ⟨w.heap.size, 0, none⟩)] (Wc N s3) fun e w' => e = .returned (.int .i64 (p : Int)) ∧ ∃ N', w' = Wc N' s := fun N => by
        have h := MD i1 j1 k1 s3 N (by omega) (by omega) (by omega) (by omega); rw [h4] at h; exact h

      rw [hraw]
      obtain ⟨Hc, hHc⟩ : ∃ Hc : Int, Hc = hintCode (hintOf s) := ⟨_, rfl⟩
      have hh0 : s = 0 → Hc = 1 := fun h => by rw [hHc, h]; rfl
      have hh12 : s = 12 → Hc = 2 := fun h => by rw [hHc, h]; rfl
      have hhx : s ≠ 0 → s ≠ 12 → Hc = 0 := fun h1 h2 => by rw [hHc]; unfold hintOf; rw [if_neg h1, if_neg h2]; rfl
      show CallsIn (Fence.list [ρ.f 5, ρ.f 7, ρ.f 8, ρ.f 10, ρ.f 11, ρ.f 12, ρ.f 13, ρ.f 14, ρ.f 15, ρ.f 16, ρ.f 17, ρ.f 18, ρ.f 20, ρ.f 30, ρ.f 31, ρ.f 32, ρ.f 33, ρ.f 34, ρ.f 35, ρ.f 40] (some D)) 5 P (ρ.f 13) _ w fun e w' => e = .returned (.tuple #[.int .i64 (p : Int), .int .i64 (hintCode (hintOf s))]) ∧ ∃ n os, w' = grow (Sort.ahead w n) os
      rw [← hHc]
      clear hHc hraw
      clear h1 h2 h3 h4 MA MD hI hJ hK m1 m2 m3
      have mixed := Ly.mixed
      have t0 := Ly.t0; have a0 := Ly.a0; have z0 := Ly.z0; have v0 := Ly.v0; have t3 := Ly.t3; have a3 := Ly.a3; have z3 := Ly.z3; have v3 := Ly.v3; have t4 := Ly.t4; have a4 := Ly.a4; have z4 := Ly.z4; have v4 := Ly.v4; have t22 := Ly.t22; have a22 := Ly.a22; have z22 := Ly.z22; have v22 := Ly.v22; have t25 := Ly.t25; have a25 := Ly.a25; have z25 := Ly.z25; have v25 := Ly.v25; have t35 := Ly.t35; have a35 := Ly.a35; have z35 := Ly.z35; have v35 := Ly.v35; have t57 := Ly.t57; have a57 := Ly.a57; have z57 := Ly.z57; have v57 := Ly.v57; have t64 := Ly.t64; have a64 := Ly.a64; have z64 := Ly.z64; have v64 := Ly.v64
      have e331 : ∀ args w, (callFunc (ρ.f 33) args).run P w = .ok (.enter (ρ.f 33) args) w := Ly.f33.enters rfl
      have e332 : ∀ args w, (callFunc (ρ.f 34) args).run P w = .ok (.enter (ρ.f 34) args) w := Ly.f34.enters rfl
      obtain ⟨_, _, FG⟩ := Ly.f13
      gi_enter FG, SlBodyM.n13_ntmps ρ
      gi_wp2_with (first
        | (gi_at_fn_has (ρ.f 33) (Value.int .i64 (I : Int)); refine (c1.more (by omega)).mono ?_; rintro e w' ⟨rfl, N1, rfl⟩)
        | (gi_at_fn_has (ρ.f 33) (Value.int .i64 (J : Int)); refine ((c2 _).more (by omega)).mono ?_; rintro e w' ⟨rfl, N2, rfl⟩)
        | (gi_at_fn_has (ρ.f 33) (Value.int .i64 (K : Int)); refine ((c3 _).more (by omega)).mono ?_; rintro e w' ⟨rfl, N3, rfl⟩)
        | (gi_at_fn (ρ.f 34); refine ((c4 _).more (by omega)).mono ?_; rintro e w' ⟨rfl, N4, rfl⟩))

      all_goals
        go_ret2
        refine ⟨?_, _, hG _ _⟩
        first
          | (have e0 : (s : Int) = 0 := of_beq_int (by assumption)
             rw [hh0 (by omega)]; rfl)
          | (have e1 : (s : Int) = 12 := of_beq_int (by assumption)
             rw [hh12 (by omega)]; rfl)
          | (have e0 : (s : Int) ≠ 0 := of_bne_int (by assumption)
             have e1 : (s : Int) ≠ 12 := of_bne_int (by assumption)
             rw [hhx (by omega) (by omega)]; rfl)
          | (rw [hh0 (by omega)]; rfl)
    ·
      obtain ⟨p, s, h4⟩ : ∃ p s, median ltInt d I J K 0 = (p, s) := ⟨_, _, rfl⟩
      have hraw : rawPivot ltInt d a b = (p, s) := by simp only [rawPivot, if_pos h8, if_neg h50, ← hI, ← hJ, ← hK, h4]
      have c4 : CallsIn (Fence.list [ρ.f 5, ρ.f 7, ρ.f 8, ρ.f 10, ρ.f 11, ρ.f 12, ρ.f 13, ρ.f 14, ρ.f 15, ρ.f 16, ρ.f 17, ρ.f 18, ρ.f 20, ρ.f 30, ρ.f 31, ρ.f 32, ρ.f 33, ρ.f 34, ρ.f 35, ρ.f 40] (some D)) 3 P (ρ.f 34) #[.slice (some ⟨blk, off, none⟩) d.size cap, .int .i64 (I : Int), .int .i64 (J : Int), .int .i64 (K : Int), .pointer (some ⟨w.heap.size, 0, none⟩)] (Wc 0 0) fun e w' => e = .returned (.int .i64 (p : Int)) ∧ ∃ N', w' = Wc N' s := by
        have h := MD I J K 0 0 (by omega) (by omega) (by omega) (by omega); rw [h4] at h; exact h

      rw [hraw]
      obtain ⟨Hc, hHc⟩ : ∃ Hc : Int, Hc = hintCode (hintOf s) := ⟨_, rfl⟩
      have hh0 : s = 0 → Hc = 1 := fun h => by rw [hHc, h]; rfl
      have hh12 : s = 12 → Hc = 2 := fun h => by rw [hHc, h]; rfl
      have hhx : s ≠ 0 → s ≠ 12 → Hc = 0 := fun h1 h2 => by rw [hHc]; unfold hintOf; rw [if_neg h1, if_neg h2]; rfl
      show CallsIn (Fence.list [ρ.f 5, ρ.f 7, ρ.f 8, ρ.f 10, ρ.f 11, ρ.f 12, ρ.f 13, ρ.f 14, ρ.f 15, ρ.f 16, ρ.f 17, ρ.f 18, ρ.f 20, ρ.f 30, ρ.f 31, ρ.f 32, ρ.f 33, ρ.f 34, ρ.f 35, ρ.f 40] (some D)) 5 P (ρ.f 13) _ w fun e w' => e = .returned (.tuple #[.int .i64 (p : Int), .int .i64 (hintCode (hintOf s))]) ∧ ∃ n os, w' = grow (Sort.ahead w n) os
      rw [← hHc]
      clear hHc hraw
      clear h4 MA MD hI hJ hK
      have mixed := Ly.mixed
      have t0 := Ly.t0; have a0 := Ly.a0; have z0 := Ly.z0; have v0 := Ly.v0; have t3 := Ly.t3; have a3 := Ly.a3; have z3 := Ly.z3; have v3 := Ly.v3; have t4 := Ly.t4; have a4 := Ly.a4; have z4 := Ly.z4; have v4 := Ly.v4; have t22 := Ly.t22; have a22 := Ly.a22; have z22 := Ly.z22; have v22 := Ly.v22; have t25 := Ly.t25; have a25 := Ly.a25; have z25 := Ly.z25; have v25 := Ly.v25; have t35 := Ly.t35; have a35 := Ly.a35; have z35 := Ly.z35; have v35 := Ly.v35; have t57 := Ly.t57; have a57 := Ly.a57; have z57 := Ly.z57; have v57 := Ly.v57; have t64 := Ly.t64; have a64 := Ly.a64; have z64 := Ly.z64; have v64 := Ly.v64
      have e331 : ∀ args w, (callFunc (ρ.f 33) args).run P w = .ok (.enter (ρ.f 33) args) w := Ly.f33.enters rfl
      have e332 : ∀ args w, (callFunc (ρ.f 34) args).run P w = .ok (.enter (ρ.f 34) args) w := Ly.f34.enters rfl
      obtain ⟨_, _, FG⟩ := Ly.f13
      gi_enter FG, SlBodyM.n13_ntmps ρ
      gi_wp2_with (first | (gi_at_fn (ρ.f 34); refine (c4.more (by omega)).mono ?_; rintro e w' ⟨rfl, N4, rfl⟩))

      all_goals
        go_ret2
        refine ⟨?_, _, hG _ _⟩
        first
          | (have e0 : (s : Int) = 0 := of_beq_int (by assumption)
             rw [hh0 (by omega)]; rfl)
          | (have e1 : (s : Int) = 12 := of_beq_int (by assumption)
             rw [hh12 (by omega)]; rfl)
          | (have e0 : (s : Int) ≠ 0 := of_bne_int (by assumption)
             have e1 : (s : Int) ≠ 12 := of_bne_int (by assumption)
             rw [hhx (by omega) (by omega)]; rfl)
          | (rw [hh0 (by omega)]; rfl)
  ·
    obtain ⟨p, hp⟩ : ∃ p : Nat, p = J := ⟨_, rfl⟩
    obtain ⟨s, hs⟩ : ∃ s : Nat, s = 0 := ⟨_, rfl⟩
    have hraw : rawPivot ltInt d a b = (p, s) := by simp only [rawPivot, if_neg h8, ← hJ, hp, hs]

    rw [hraw]
    obtain ⟨Hc, hHc⟩ : ∃ Hc : Int, Hc = hintCode (hintOf s) := ⟨_, rfl⟩
    have hh0 : s = 0 → Hc = 1 := fun h => by rw [hHc, h]; rfl
    have hh12 : s = 12 → Hc = 2 := fun h => by rw [hHc, h]; rfl
    have hhx : s ≠ 0 → s ≠ 12 → Hc = 0 := fun h1 h2 => by rw [hHc]; unfold hintOf; rw [if_neg h1, if_neg h2]; rfl
    show CallsIn (Fence.list [ρ.f 5, ρ.f 7, ρ.f 8, ρ.f 10, ρ.f 11, ρ.f 12, ρ.f 13, ρ.f 14, ρ.f 15, ρ.f 16, ρ.f 17, ρ.f 18, ρ.f 20, ρ.f 30, ρ.f 31, ρ.f 32, ρ.f 33, ρ.f 34, ρ.f 35, ρ.f 40] (some D)) 5 P (ρ.f 13) _ w fun e w' => e = .returned (.tuple #[.int .i64 (p : Int), .int .i64 (hintCode (hintOf s))]) ∧ ∃ n os, w' = grow (Sort.ahead w n) os
    rw [← hHc]
    clear hHc hraw
    subst hp
    clear MA MD hI hJ hK
    have hW0' : w.alloc (.cells #[.int .i64 0] (ρ.t 3)) = Wc 0 s := by rw [hs]; exact hW0
    clear hW0
    have mixed := Ly.mixed
    have t0 := Ly.t0; have a0 := Ly.a0; have z0 := Ly.z0; have v0 := Ly.v0; have t3 := Ly.t3; have a3 := Ly.a3; have z3 := Ly.z3; have v3 := Ly.v3; have t4 := Ly.t4; have a4 := Ly.a4; have z4 := Ly.z4; have v4 := Ly.v4; have t22 := Ly.t22; have a22 := Ly.a22; have z22 := Ly.z22; have v22 := Ly.v22; have t25 := Ly.t25; have a25 := Ly.a25; have z25 := Ly.z25; have v25 := Ly.v25; have t35 := Ly.t35; have a35 := Ly.a35; have z35 := Ly.z35; have v35 := Ly.v35; have t57 := Ly.t57; have a57 := Ly.a57; have z57 := Ly.z57; have v57 := Ly.v57; have t64 := Ly.t64; have a64 := Ly.a64; have z64 := Ly.z64; have v64 := Ly.v64
    have e331 : ∀ args w, (callFunc (ρ.f 33) args).run P w = .ok (.enter (ρ.f 33) args) w := Ly.f33.enters rfl
    have e332 : ∀ args w, (callFunc (ρ.f 34) args).run P w = .ok (.enter (ρ.f 34) args) w := Ly.f34.enters rfl
    obtain ⟨_, _, FG⟩ := Ly.f13
    gi_enter FG, SlBodyM.n13_ntmps ρ
    gi_wp2

    all_goals
      go_ret2
      refine ⟨?_, _, hG _ _⟩
      first
        | (have e0 : (s : Int) = 0 := of_beq_int (by assumption)
           rw [hh0 (by omega)]; rfl)
        | (have e1 : (s : Int) = 12 := of_beq_int (by assumption)
           rw [hh12 (by omega)]; rfl)
        | (have e0 : (s : Int) ≠ 0 := of_bne_int (by assumption)
           have e1 : (s : Int) ≠ 12 := of_bne_int (by assumption)
           rw [hhx (by omega) (by omega)]; rfl)
        | (rw [hh0 (by omega)]; rfl)
end
end Go.Proofs.YtjpcljnojipdnaaGreat

/-! The sort at uint32, F: turned by a program of mine from walks at int. -/
namespace Go.Proofs.YtjpcljnojipdnaaGreat
open Go.Proofs

section
open Go.Shelf
variable {P : Program} {ρ : Ren}

open Go.Sort Go.RowKit

structure Callees13InM (P : Program) (ρ : Ren) (D : Nat) : Prop where
  heap : ∀ (blk off len cap : Nat) (d : Array Int) (_ : d.size = len) (a b : Nat) (w : World), Holds encU w blk off d → a ≤ b → b ≤ d.size → d.size < 4611686018427387904 →
    CallsIn (Fence.list [ρ.f 5, ρ.f 7, ρ.f 8, ρ.f 10, ρ.f 11, ρ.f 12, ρ.f 13, ρ.f 14, ρ.f 15, ρ.f 16, ρ.f 17, ρ.f 18, ρ.f 20, ρ.f 30, ρ.f 31, ρ.f 32, ρ.f 33, ρ.f 34, ρ.f 35, ρ.f 40] (some D)) 3 P (ρ.f 11) #[.slice (some ⟨blk, off, none⟩) len cap, .int .i64 a, .int .i64 b] w fun e w' => e = .returned (.tuple #[]) ∧ ∃ n, w' = putRow encU (Sort.ahead w n) blk off (heapSort ltInt d a b)
  rev : ∀ (blk off cap : Nat) (d : Array Int) (a b : Nat) (w : World), Holds encU w blk off d → a ≤ b → b ≤ d.size → d.size < 4611686018427387904 →
    CallsIn (Fence.list [ρ.f 5, ρ.f 7, ρ.f 8, ρ.f 10, ρ.f 11, ρ.f 12, ρ.f 13, ρ.f 14, ρ.f 15, ρ.f 16, ρ.f 17, ρ.f 18, ρ.f 20, ρ.f 30, ρ.f 31, ρ.f 32, ρ.f 33, ρ.f 34, ρ.f 35, ρ.f 40] (some D)) 0 P (ρ.f 14) #[.slice (some ⟨blk, off, none⟩) d.size cap, .int .i64 a, .int .i64 b] w fun e w' => e = .returned (.tuple #[]) ∧ ∃ n, w' = putRow encU (Sort.ahead w n) blk off (reverseRange d a b)
  ins : ∀ (blk off cap a b : Nat) (d : Array Int) (w : World), Holds encU w blk off d → a ≤ b → b ≤ d.size → d.size < 4611686018427387904 →
    CallsIn (Fence.list [ρ.f 5, ρ.f 7, ρ.f 8, ρ.f 10, ρ.f 11, ρ.f 12, ρ.f 13, ρ.f 14, ρ.f 15, ρ.f 16, ρ.f 17, ρ.f 18, ρ.f 20, ρ.f 30, ρ.f 31, ρ.f 32, ρ.f 33, ρ.f 34, ρ.f 35, ρ.f 40] (some D)) 2 P (ρ.f 10) #[.slice (some ⟨blk, off, none⟩) d.size cap, .int .i64 a, .int .i64 b] w fun e w' => e = .returned (.tuple #[]) ∧ ∃ n, w' = putRow encU (Sort.ahead w n) blk off (insertionSort ltInt d a b)
  brk : ∀ (blk off cap a b : Nat) (d : Array Int) (w : World), Holds encU w blk off d → blk < w.heap.size → a ≤ b → b ≤ d.size → d.size < 4611686018427387904 →
    CallsIn (Fence.list [ρ.f 5, ρ.f 7, ρ.f 8, ρ.f 10, ρ.f 11, ρ.f 12, ρ.f 13, ρ.f 14, ρ.f 15, ρ.f 16, ρ.f 17, ρ.f 18, ρ.f 20, ρ.f 30, ρ.f 31, ρ.f 32, ρ.f 33, ρ.f 34, ρ.f 35, ρ.f 40] (some D)) 3 P (ρ.f 12) #[.slice (some ⟨blk, off, none⟩) d.size cap, .int .i64 a, .int .i64 b] w fun e w' => e = .returned (.tuple #[]) ∧ ∃ n os, w' = grow (putRow encU (Sort.ahead w n) blk off (breakPatterns d a b)) os
  piv : ∀ (blk off cap a b : Nat) (d : Array Int) (w : World), Holds encU w blk off d → blk < w.heap.size → a < b → b ≤ d.size → d.size < 4611686018427387904 →
    CallsIn (Fence.list [ρ.f 5, ρ.f 7, ρ.f 8, ρ.f 10, ρ.f 11, ρ.f 12, ρ.f 13, ρ.f 14, ρ.f 15, ρ.f 16, ρ.f 17, ρ.f 18, ρ.f 20, ρ.f 30, ρ.f 31, ρ.f 32, ρ.f 33, ρ.f 34, ρ.f 35, ρ.f 40] (some D)) 5 P (ρ.f 13) #[.slice (some ⟨blk, off, none⟩) d.size cap, .int .i64 a, .int .i64 b] w fun e w' => e = .returned (.tuple #[.int .i64 (choosePivot ltInt d a b).1, .int .i64 (hintCode (choosePivot ltInt d a b).2)]) ∧ ∃ n os, w' = grow (Sort.ahead w n) os
  par : ∀ (blk off cap a b : Nat) (d : Array Int) (w : World), Holds encU w blk off d → a < b → b ≤ d.size → d.size < 4611686018427387904 →
    CallsIn (Fence.list [ρ.f 5, ρ.f 7, ρ.f 8, ρ.f 10, ρ.f 11, ρ.f 12, ρ.f 13, ρ.f 14, ρ.f 15, ρ.f 16, ρ.f 17, ρ.f 18, ρ.f 20, ρ.f 30, ρ.f 31, ρ.f 32, ρ.f 33, ρ.f 34, ρ.f 35, ρ.f 40] (some D)) 2 P (ρ.f 15) #[.slice (some ⟨blk, off, none⟩) d.size cap, .int .i64 a, .int .i64 b] w fun e w' => e = .returned (.bool (partialInsertionSort ltInt d a b).2) ∧ ∃ n, w' = putRow encU (Sort.ahead w n) blk off (partialInsertionSort ltInt d a b).1
  peq : ∀ (blk off cap a b pivot : Nat) (d : Array Int) (w : World), Holds encU w blk off d → a ≤ pivot → pivot < b → b ≤ d.size → d.size < 4611686018427387904 →
    CallsIn (Fence.list [ρ.f 5, ρ.f 7, ρ.f 8, ρ.f 10, ρ.f 11, ρ.f 12, ρ.f 13, ρ.f 14, ρ.f 15, ρ.f 16, ρ.f 17, ρ.f 18, ρ.f 20, ρ.f 30, ρ.f 31, ρ.f 32, ρ.f 33, ρ.f 34, ρ.f 35, ρ.f 40] (some D)) 2 P (ρ.f 17) #[.slice (some ⟨blk, off, none⟩) d.size cap, .int .i64 a, .int .i64 b, .int .i64 pivot] w fun e w' => e = .returned (.int .i64 (partitionEqual ltInt d a b pivot).1) ∧ ∃ n, w' = putRow encU (Sort.ahead w n) blk off (partitionEqual ltInt d a b pivot).2
  prt : ∀ (blk off cap a b pivot : Nat) (d : Array Int) (w : World), Holds encU w blk off d → a ≤ pivot → pivot < b → b ≤ d.size → d.size < 4611686018427387904 →
    CallsIn (Fence.list [ρ.f 5, ρ.f 7, ρ.f 8, ρ.f 10, ρ.f 11, ρ.f 12, ρ.f 13, ρ.f 14, ρ.f 15, ρ.f 16, ρ.f 17, ρ.f 18, ρ.f 20, ρ.f 30, ρ.f 31, ρ.f 32, ρ.f 33, ρ.f 34, ρ.f 35, ρ.f 40] (some D)) 2 P (ρ.f 18) #[.slice (some ⟨blk, off, none⟩) d.size cap, .int .i64 a, .int .i64 b, .int .i64 pivot] w fun e w' => e = .returned (.tuple #[.int .i64 (partition ltInt d a b pivot).1, .bool (partition ltInt d a b pivot).2.1]) ∧ ∃ n, w' = putRow encU (Sort.ahead w n) blk off (partition ltInt d a b pivot).2.2

set_option maxHeartbeats 6400000 in
set_option maxRecDepth 1000000 in
theorem AnySM.pdqsort_intIn (Ly : SlLaysU.n7 P ρ) (D : Nat) (C : Callees13InM P ρ D) (S : Plain13) : ∀ (N rm blk off cap a b limit : Nat) (d : Array Int) (w : World), b - a < N → pdqDepth ltInt d a b limit true true + 6 ≤ rm → Holds encU w blk off d → blk < w.heap.size → a ≤ b → b ≤ d.size → d.size < 4611686018427387904 → limit < 4611686018427387904 → Below ltInt a b d →
    CallsIn (Fence.list [ρ.f 5, ρ.f 7, ρ.f 8, ρ.f 10, ρ.f 11, ρ.f 12, ρ.f 13, ρ.f 14, ρ.f 15, ρ.f 16, ρ.f 17, ρ.f 18, ρ.f 20, ρ.f 30, ρ.f 31, ρ.f 32, ρ.f 33, ρ.f 34, ρ.f 35, ρ.f 40] (some D)) rm P (ρ.f 7) #[.slice (some ⟨blk, off, none⟩) d.size cap, .int .i64 a, .int .i64 b, .int .i64 limit] w fun e w' => e = .returned (.tuple #[]) ∧ At encU w blk off (pdq ltInt d a b limit true true) w' := by
  intro N
  induction N with
  | zero => intro _ _ _ _ _ _ _ _ _ h; exact absurd h (Nat.not_lt_zero _)
  | succ N ih =>
    intro rm blk off cap a b limit d w hN hrm hH hblk hab hb hsz hlimit hBel0

    have hrm1 : 1 ≤ rm := by omega
    have mixed := Ly.mixed
    have t0 := Ly.t0; have a0 := Ly.a0; have z0 := Ly.z0; have v0 := Ly.v0; have t3 := Ly.t3; have a3 := Ly.a3; have z3 := Ly.z3; have v3 := Ly.v3; have t4 := Ly.t4; have a4 := Ly.a4; have z4 := Ly.z4; have v4 := Ly.v4; have t5 := Ly.t5; have a5 := Ly.a5; have z5 := Ly.z5; have v5 := Ly.v5; have t9 := Ly.t9; have a9 := Ly.a9; have z9 := Ly.z9; have v9 := Ly.v9; have t22 := Ly.t22; have a22 := Ly.a22; have z22 := Ly.z22; have v22 := Ly.v22; have t25 := Ly.t25; have a25 := Ly.a25; have z25 := Ly.z25; have v25 := Ly.v25; have t32 := Ly.t32; have a32 := Ly.a32; have z32 := Ly.z32; have v32 := Ly.v32; have t35 := Ly.t35; have a35 := Ly.a35; have z35 := Ly.z35; have v35 := Ly.v35; have t36 := Ly.t36; have a36 := Ly.a36; have z36 := Ly.z36; have v36 := Ly.v36; have t41 := Ly.t41; have a41 := Ly.a41; have z41 := Ly.z41; have v41 := Ly.v41; have t44 := Ly.t44; have a44 := Ly.a44; have z44 := Ly.z44; have v44 := Ly.v44; have t46 := Ly.t46; have a46 := Ly.a46; have z46 := Ly.z46; have v46 := Ly.v46; have t53 := Ly.t53; have a53 := Ly.a53; have z53 := Ly.z53; have v53 := Ly.v53; have t57 := Ly.t57; have a57 := Ly.a57; have z57 := Ly.z57; have v57 := Ly.v57; have t63 := Ly.t63; have a63 := Ly.a63; have z63 := Ly.z63; have v63 := Ly.v63; have t64 := Ly.t64; have a64 := Ly.a64; have z64 := Ly.z64; have v64 := Ly.v64
    have e294 : ∀ args w, (callFunc (ρ.f 10) args).run P w = .ok (.enter (ρ.f 10) args) w := Ly.f10.enters rfl
    have e295 : ∀ args w, (callFunc (ρ.f 11) args).run P w = .ok (.enter (ρ.f 11) args) w := Ly.f11.enters rfl
    have e296 : ∀ args w, (callFunc (ρ.f 12) args).run P w = .ok (.enter (ρ.f 12) args) w := Ly.f12.enters rfl
    have e297 : ∀ args w, (callFunc (ρ.f 13) args).run P w = .ok (.enter (ρ.f 13) args) w := Ly.f13.enters rfl
    have e298 : ∀ args w, (callFunc (ρ.f 14) args).run P w = .ok (.enter (ρ.f 14) args) w := Ly.f14.enters rfl
    have e299 : ∀ args w, (callFunc (ρ.f 15) args).run P w = .ok (.enter (ρ.f 15) args) w := Ly.f15.enters rfl
    have e216 : ∀ args w, (callFunc (ρ.f 16) args).run P w = .ok (.enter (ρ.f 16) args) w := Ly.f16.enters rfl
    have e300 : ∀ args w, (callFunc (ρ.f 17) args).run P w = .ok (.enter (ρ.f 17) args) w := Ly.f17.enters rfl
    have e301 : ∀ args w, (callFunc (ρ.f 18) args).run P w = .ok (.enter (ρ.f 18) args) w := Ly.f18.enters rfl
    have e257 : ∀ args w, (callFunc (ρ.f 7) args).run P w = .ok (.enter (ρ.f 7) args) w := Ly.f7.enters rfl
    obtain ⟨_, _, FG⟩ := Ly.f7
    gi_enter FG, SlBodyM.n7_ntmps ρ
    gi_wp2
    gi_loopg [1, 2, 3, 8, 9] (b - a) (fun k s1 s2 s3 s8 s9 wr => ∃ (a' b' lim : Nat) (wb wp : Bool) (dk : Array Int), s1 = .int .i64 a' ∧ s2 = .int .i64 b' ∧ s3 = .int .i64 lim ∧ s8 = .bool wb ∧ s9 = .bool wp ∧
      a' ≤ b' ∧ b' ≤ d.size ∧ b' - a' ≤ k ∧ k ≤ b - a ∧ lim ≤ limit ∧ dk.size = d.size ∧ Below ltInt a' b' dk ∧ At encU w blk off dk wr ∧ pdq ltInt dk a' b' lim wb wp = pdq ltInt d a b limit true true ∧ pdqDepth ltInt dk a' b' lim wb wp + 6 ≤ rm)
    case atStart => exact ⟨a, b, limit, true, true, d, rfl, rfl, rfl, rfl, rfl, hab, hb, Nat.le_refl _, Nat.le_refl _, Nat.le_refl _, rfl, hBel0, At.refl hH, rfl, hrm⟩
    case round =>
      obtain ⟨a', b', lim, wb, wp, dk, rfl, rfl, rfl, rfl, rfl, hab', hb', hk, hkN, hlim, hds, hBel, hAt, heq, hdp⟩ := hrel
      obtain ⟨hHk, hblk'⟩ := hAt.holds hH hds hblk
      have A : Aside (pdq ltInt dk a' b' lim wb wp = pdq ltInt d a b limit true true) := heq
      clear heq
      by_cases h12 : b' - a' ≤ 12
      ·
        have h12z : (b' : Int) - (a' : Int) ≤ 12 := by omega
        have hc := (C.ins blk off cap a' b' dk wr hHk hab' (by omega) (by omega)).more (show 2 ≤ rm - 1 by omega)
        rw [hds] at hc
        gi_wp2_with (gi_at_fn (ρ.f 10); refine hc.mono ?_; rintro e w1 ⟨rfl, hw1⟩)
        (try simp only [Exit.inBlock, Exit.then]); refine bodyPost_ret (results_none rfl _ _ _) rfl ?_
        refine ⟨rfl, ?_⟩
        rw [← A.out, pdq_small h12]
        exact hAt.step hblk (S.ins S.swo dk a' b' hab' (by omega)).1.1 hw1
      · have h12z : ¬ ((b' : Int) - (a' : Int) ≤ 12) := by omega
        by_cases hl0 : lim = 0
        ·
          subst hl0
          have hc := (C.heap blk off d.size cap dk hds a' b' wr hHk hab' (by omega) (by omega)).more (show 3 ≤ rm - 1 by omega)
          gi_wp2_with (gi_at_fn (ρ.f 11); refine hc.mono ?_; rintro e w1 ⟨rfl, hw1⟩)
          (try simp only [Exit.inBlock, Exit.then]); refine bodyPost_ret (results_none rfl _ _ _) rfl ?_
          refine ⟨rfl, ?_⟩
          rw [← A.out, pdq_heap h12 rfl]
          exact hAt.step hblk (heapSort_holds S.swo dk a' b' hab' (by omega)).1.1 hw1
        · have hl0z : ¬ ((lim : Int) = 0) := by omega

          obtain ⟨s1, B1, hc1, s2, B2, hpv, s3, B3⟩ := rd_facts (limit := lim) (wb := wb) (wp := wp) S.swo S.par reverseRange_holds (show a' < b' by omega) (show b' ≤ dk.size by omega) hBel

          gi_upto_if 35 with fail
          gi_cut [3] from 19 (fun s3 wc => s3 = .int .i64 (rd ltInt dk a' b' lim wb wp).lim ∧ At encU w blk off (rd ltInt dk a' b' lim wb wp).d1 wc)
          case first =>
            cases wb
            · have hc := (C.brk blk off cap a' b' dk wr hHk hblk' hab' (by omega) (by omega)).more (show 3 ≤ rm - 1 by omega)
              rw [hds] at hc
              gi_wp2_with (gi_at_fn (ρ.f 12); refine hc.mono ?_; rintro e w1 ⟨rfl, hw1⟩)
              gi_meet
              case rel =>
                refine ⟨?_, hAt.stepG hblk s1 hw1⟩
                show Value.int .i64 ((lim : Int) - 1) = Value.int .i64 ((lim - 1 : Nat) : Int)
                congr 1
                omega
            · gi_wp2_with fail
              gi_meet
              case rel => exact ⟨rfl, hAt⟩
          case rest =>
            obtain ⟨rfl, hAt1⟩ := hcut
            obtain ⟨hH1, hblk1⟩ := hAt1.holds hH (s1.trans hds) hblk
            have hc17 : CallsIn (Fence.list [ρ.f 5, ρ.f 7, ρ.f 8, ρ.f 10, ρ.f 11, ρ.f 12, ρ.f 13, ρ.f 14, ρ.f 15, ρ.f 16, ρ.f 17, ρ.f 18, ρ.f 20, ρ.f 30, ρ.f 31, ρ.f 32, ρ.f 33, ρ.f 34, ρ.f 35, ρ.f 40] (some D)) (rm - 1) P (ρ.f 13) #[.slice (some ⟨blk, off, none⟩) d.size cap, .int .i64 a', .int .i64 b'] wc fun e w' => e = .returned (.tuple #[.int .i64 (rd ltInt dk a' b' lim wb wp).c.1, .int .i64 (hintCode (rd ltInt dk a' b' lim wb wp).c.2)]) ∧ ∃ n os, w' = grow (Sort.ahead wc n) os := by
              have := (C.piv blk off cap a' b' (rd ltInt dk a' b' lim wb wp).d1 wc hH1 hblk1 (by omega) (by omega) (by omega)).more (show 5 ≤ rm - 1 by omega)
              rw [s1, hds] at this
              exact this
            gi_upto_if 50 with (gi_at_fn (ρ.f 13); refine hc17.mono ?_; rintro e w2 ⟨rfl, hw2⟩)
            have hAt2 : At encU w blk off (rd ltInt dk a' b' lim wb wp).d1 w2 := hAt1.same hH (s1.trans hds) hblk hw2
            obtain ⟨hH2, hblk2⟩ := hAt2.holds hH (s1.trans hds) hblk

            gi_cut [11, 12] from 19 (fun s11 s12 wc => s11 = .int .i64 (rd ltInt dk a' b' lim wb wp).pivot ∧ s12 = .int .i64 (hintCode (rd ltInt dk a' b' lim wb wp).hint) ∧ At encU w blk off (rd ltInt dk a' b' lim wb wp).d2 wc)
            case first =>
              by_cases hh : (rd ltInt dk a' b' lim wb wp).c.2 = .decreasing
              · have hcode : hintCode (rd ltInt dk a' b' lim wb wp).c.2 = 2 := by rw [hh]; rfl
                obtain ⟨e2, epv, eht⟩ := rd_dec hh
                have hc18 := (C.rev blk off cap (rd ltInt dk a' b' lim wb wp).d1 a' b' w2 hH2 hab' (by omega) (by omega)).more (show 0 ≤ rm - 1 by omega)
                rw [s1, hds] at hc18
                gi_wp2_with (gi_at_fn (ρ.f 14); refine hc18.mono ?_; rintro e w3 ⟨rfl, hw3⟩)
                gi_meet
                case rel =>
                  refine ⟨?_, by rw [eht]; rfl, by rw [e2]; exact hAt2.step hblk (by rw [← e2, s2, s1]) hw3⟩
                  rw [epv]
                  congr 1
                  omega
              · have hcode : ¬ (hintCode (rd ltInt dk a' b' lim wb wp).c.2 = 2) := fun h => hh (hintCode_two h)
                obtain ⟨e2, epv, eht⟩ := rd_not hh
                gi_wp2_with fail
                gi_meet
                case rel => exact ⟨by rw [epv], by rw [eht], by rw [e2]; exact hAt2⟩
            case rest =>
              obtain ⟨rfl, rfl, hAt3⟩ := hcut
              obtain ⟨hH3, hblk3⟩ := hAt3.holds hH (s2.trans hds) hblk

              gi_upto_region 15 with fail
              gi_cut [12, 68] from 19 (fun s12 s68 wx => s12 = .int .i64 (hintCode (rd ltInt dk a' b' lim wb wp).hint) ∧ s68 = .bool (wb && wp && decide ((rd ltInt dk a' b' lim wb wp).hint = .increasing)) ∧ wx = wc)
              case first =>
                cases wb <;> cases wp <;> cases hh3 : (rd ltInt dk a' b' lim _ _).hint <;>
                  (have hcode3 := congrArg hintCode hh3
                   simp only [hintCode] at hcode3
                   gi_wp2_with fail
                   gi_meet
                   exact ⟨by simp [hh3, hintCode], by simp [hh3, hintCode], rfl⟩)
              case rest =>
                obtain ⟨rfl, rfl, rfl⟩ := hcut

                gi_upto_if 68 with fail
                gi_cut [] from 19 (fun wx => (rd ltInt dk a' b' lim wb wp).pi.2 = false ∧ At encU w blk off (rd ltInt dk a' b' lim wb wp).pi.1 wx)
                case first =>
                  cases h68 : (wb && wp && decide ((rd ltInt dk a' b' lim wb wp).hint = .increasing))
                  · have epi := rd_pi_no h68
                    gi_wp2_with fail
                    gi_meet
                    case rel => exact ⟨by rw [epi], by rw [epi]; exact hAt3⟩
                  · have epi := rd_pi_yes h68
                    have hc19 := (C.par blk off cap a' b' (rd ltInt dk a' b' lim wb wp).d2 wc hH3 (by omega) (by omega) (by omega)).more (show 2 ≤ rm - 1 by omega)
                    rw [s2, hds, ← epi] at hc19
                    gi_wp2_with (gi_at_fn (ρ.f 15); refine hc19.mono ?_; rintro e w4 ⟨rfl, hw4⟩)

                    all_goals first
                      | (have hp2 : (rd ltInt dk a' b' lim wb wp).pi.2 = false := by rw [epi]; assumption
                         gi_meet
                         exact ⟨hp2, hAt3.step hblk (by rw [s3, s2]) hw4⟩)
                      | (have hp2 : (rd ltInt dk a' b' lim wb wp).pi.2 = true := by rw [epi]; assumption
                         (try simp only [Exit.inBlock, Exit.then]); refine bodyPost_ret (results_none rfl _ _ _) rfl ?_
                         refine ⟨rfl, ?_⟩
                         rw [← A.out, pdq_done h12 hl0 hp2]
                         exact hAt3.step hblk (by rw [s3, s2]) hw4)
                case rest =>
                  obtain ⟨hp2, hAt5⟩ := hcut
                  obtain ⟨hH5, hblk5⟩ := hAt5.holds hH (s3.trans hds) hblk

                  have hcw : ∀ t, t < d.size → wc.cell? ⟨blk, off + t, none⟩ = some (.int .u32 (rd ltInt dk a' b' lim wb wp).pi.1[t]!) := fun t ht => (hH5 t (by omega)).1
                  have hfw : ∀ t, t < d.size → wc.frozen? ⟨blk, off + t, none⟩ = false := fun t ht => (hH5 t (by omega)).2

                  gi_upto_region 17 with fail
                  gi_cut [87] from 19 (fun s87 wx => s87 = .bool (decide (a' > 0) && !ltInt (rd ltInt dk a' b' lim wb wp).pi.1[a' - 1]! (rd ltInt dk a' b' lim wb wp).pi.1[(rd ltInt dk a' b' lim wb wp).pivot]!) ∧ At encU w blk off (rd ltInt dk a' b' lim wb wp).pi.1 wx)
                  case first =>
                    rcases Nat.eq_zero_or_pos a' with ha0 | ha0
                    · have ha0z : decide ((a' : Int) > 0) = false := decide_eq_false (by omega)
                      gi_big_quiet_th_o (first | (gi_at_fn (ρ.f 16); refine CallsIn.quiet_of_same ((AnySM.cmp_Less_intIn { Ly with } D _ _ _).more (show 1 ≤ rm - 1 by omega))))
                      gi_wp2_with fail
                      gi_meet
                      case rel => exact ⟨by simp [ha0], hAt5.ahead nq⟩
                    · have ha0z : (a' : Int) > 0 := by omega
                      gi_big_quiet_th_o (first | (gi_at_fn (ρ.f 16); refine CallsIn.quiet_of_same ((AnySM.cmp_Less_intIn { Ly with } D _ _ _).more (show 1 ≤ rm - 1 by omega))))
                      gi_wp2_with fail
                      gi_meet
                      case rel => exact ⟨by simp [ha0], hAt5.ahead nq⟩
                  case rest =>
                    obtain ⟨rfl, hAt6⟩ := hcut
                    obtain ⟨hH6, hblk6⟩ := hAt6.holds hH (s3.trans hds) hblk
                    clear hcw hfw
                    cases h87 : (decide (a' > 0) && !ltInt (rd ltInt dk a' b' lim wb wp).pi.1[a' - 1]! (rd ltInt dk a' b' lim wb wp).pi.1[(rd ltInt dk a' b' lim wb wp).pivot]!)
                    ·

                      obtain ⟨mid, ap, d4, hx⟩ : ∃ mid ap d4, partition ltInt (rd ltInt dk a' b' lim wb wp).pi.1 a' b' (rd ltInt dk a' b' lim wb wp).pivot = (mid, ap, d4) := ⟨(partition ltInt (rd ltInt dk a' b' lim wb wp).pi.1 a' b' (rd ltInt dk a' b' lim wb wp).pivot).1, (partition ltInt (rd ltInt dk a' b' lim wb wp).pi.1 a' b' (rd ltInt dk a' b' lim wb wp).pivot).2.1, (partition ltInt (rd ltInt dk a' b' lim wb wp).pi.1 a' b' (rd ltInt dk a' b' lim wb wp).pivot).2.2, rfl⟩
                      obtain ⟨r1, r2, r3, r4, r5, r6, r7⟩ := round_part S.swo S.prt hpv.1 hpv.2 (show b' ≤ (rd ltInt dk a' b' lim wb wp).pi.1.size by omega) B3 hx
                      have hc22 := (C.prt blk off cap a' b' (rd ltInt dk a' b' lim wb wp).pivot (rd ltInt dk a' b' lim wb wp).pi.1 wc hH6 hpv.1 hpv.2 (by omega) (by omega)).more (show 2 ≤ rm - 1 by omega)
                      rw [s3, hds, hx] at hc22
                      have X : Aside (partition ltInt (rd ltInt dk a' b' lim wb wp).pi.1 a' b' (rd ltInt dk a' b' lim wb wp).pivot = (mid, ap, d4)) := hx
                      clear hx
                      gi_upto_if 113 with (gi_at_fn (ρ.f 18); refine hc22.mono ?_; rintro e w7 ⟨rfl, hw7⟩)
                      have hx := X.out
                      have hAt7 : At encU w blk off d4 w7 := hAt6.step hblk r3 hw7
                      obtain ⟨hH7, hblk7⟩ := hAt7.holds hH (r3.trans (s3.trans hds)) hblk
                      by_cases h4 : mid - a' < b' - mid
                      · have h4z : (mid : Int) - (a' : Int) < (b' : Int) - (mid : Int) := by omega
                        have hdl := pdqDepth_left h12 hl0 hp2 h87 (by rw [hx]; exact ⟨r1, r2⟩) (by rw [hx]; exact h4)
                        rw [hx] at hdl
                        dsimp only at hdl
                        have hih := ih (rm - 1) blk off cap a' mid (rd ltInt dk a' b' lim wb wp).lim d4 w7 (by omega) (by have := hdl.1; omega) hH7 hblk7 (by omega) (by omega) (by omega) (Nat.lt_of_le_of_lt (Nat.le_trans rd_lim_le hlim) hlimit) r4
                        rw [r3, s3, hds] at hih
                        obtain ⟨pL, sL⟩ := S.pdq S.swo d4 a' mid (rd ltInt dk a' b' lim wb wp).lim true true (by omega) (by omega) r4
                        gi_wp2_with (gi_at_fn (ρ.f 7); refine hih.mono ?_; rintro e w8 ⟨rfl, hw8⟩)
                        gi_roundg (b' - (mid + 1))
                        case measure => omega
                        case rel =>
                          refine ⟨mid + 1, b', (rd ltInt dk a' b' lim wb wp).lim, decide (mid - a' ≥ (b' - a') / 8), ap, pdq ltInt d4 a' mid (rd ltInt dk a' b' lim wb wp).lim true true, by simp, rfl, rfl, ?_, rfl, by omega, by omega, Nat.le_refl _, by omega, Nat.le_trans rd_lim_le hlim, by rw [pL.1, r3, s3, hds], (r6 _ pL sL).1, hAt7.stepG hblk pL.1 hw8, ?_, by have := hdl.2; omega⟩
                          · exact congrArg Value.bool (eighth (by omega) (by omega))
                          · rw [← A.out, pdq_left h12 hl0 hp2 h87 (by rw [hx]; exact ⟨r1, r2⟩) (by rw [hx]; exact h4), hx]
                      · have h4z : ¬ ((mid : Int) - (a' : Int) < (b' : Int) - (mid : Int)) := by omega
                        have hdl := pdqDepth_right h12 hl0 hp2 h87 (by rw [hx]; exact ⟨r1, r2⟩) (by rw [hx]; exact h4)
                        rw [hx] at hdl
                        dsimp only at hdl
                        have hih := ih (rm - 1) blk off cap (mid + 1) b' (rd ltInt dk a' b' lim wb wp).lim d4 w7 (by omega) (by have := hdl.1; omega) hH7 hblk7 (by omega) (by omega) (by omega) (Nat.lt_of_le_of_lt (Nat.le_trans rd_lim_le hlim) hlimit) r5
                        rw [r3, s3, hds] at hih
                        obtain ⟨pL, sL⟩ := S.pdq S.swo d4 (mid + 1) b' (rd ltInt dk a' b' lim wb wp).lim true true (by omega) (by omega) r5
                        gi_wp2_with (gi_at_fn (ρ.f 7); refine hih.mono ?_; rintro e w8 ⟨rfl, hw8⟩)
                        gi_roundg (mid - a')
                        case measure => omega
                        case rel =>
                          refine ⟨a', mid, (rd ltInt dk a' b' lim wb wp).lim, decide (b' - mid ≥ (b' - a') / 8), ap, pdq ltInt d4 (mid + 1) b' (rd ltInt dk a' b' lim wb wp).lim true true, rfl, rfl, rfl, ?_, rfl, by omega, by omega, Nat.le_refl _, by omega, Nat.le_trans rd_lim_le hlim, by rw [pL.1, r3, s3, hds], (r7 _ pL sL).1, hAt7.stepG hblk pL.1 hw8, ?_, by have := hdl.2; omega⟩
                          · exact congrArg Value.bool (eighth (by omega) (by omega))
                          · rw [← A.out, pdq_right h12 hl0 hp2 h87 (by rw [hx]; exact ⟨r1, r2⟩) (by rw [hx]; exact h4), hx]
                    ·
                      have h87' := h87
                      simp only [Bool.and_eq_true, decide_eq_true_eq, Bool.not_eq_true'] at h87'
                      obtain ⟨mid, d4, hx⟩ : ∃ mid d4, partitionEqual ltInt (rd ltInt dk a' b' lim wb wp).pi.1 a' b' (rd ltInt dk a' b' lim wb wp).pivot = (mid, d4) := ⟨(partitionEqual ltInt (rd ltInt dk a' b' lim wb wp).pi.1 a' b' (rd ltInt dk a' b' lim wb wp).pivot).1, (partitionEqual ltInt (rd ltInt dk a' b' lim wb wp).pi.1 a' b' (rd ltInt dk a' b' lim wb wp).pivot).2, rfl⟩
                      obtain ⟨r1, r2, r3, r4, _⟩ := round_eq S.swo S.peq h87'.1 hpv.1 hpv.2 (show b' ≤ (rd ltInt dk a' b' lim wb wp).pi.1.size by omega) B3 h87'.2 hx
                      have hc21 := (C.peq blk off cap a' b' (rd ltInt dk a' b' lim wb wp).pivot (rd ltInt dk a' b' lim wb wp).pi.1 wc hH6 hpv.1 hpv.2 (by omega) (by omega)).more (show 2 ≤ rm - 1 by omega)
                      rw [s3, hds, hx] at hc21
                      have X : Aside (partitionEqual ltInt (rd ltInt dk a' b' lim wb wp).pi.1 a' b' (rd ltInt dk a' b' lim wb wp).pivot = (mid, d4)) := hx
                      clear hx
                      gi_wp2_with (gi_at_fn (ρ.f 17); refine hc21.mono ?_; rintro e w7 ⟨rfl, hw7⟩)
                      gi_roundg (b' - mid)
                      case measure => omega
                      case rel =>
                        have hx := X.out
                        exact ⟨mid, b', (rd ltInt dk a' b' lim wb wp).lim, wb, wp, d4, rfl, rfl, rfl, rfl, rfl, r2, hb', Nat.le_refl _, by omega, Nat.le_trans rd_lim_le hlim, by rw [r3, s3, hds], r4, hAt6.step hblk r3 hw7, by rw [← A.out, pdq_eq h12 hl0 hp2 h87 (by rw [hx]; exact ⟨r1, r2⟩), hx], by have hde := pdqDepth_eq h12 hl0 hp2 h87 (by rw [hx]; exact ⟨r1, r2⟩); rw [hx] at hde; dsimp only at hde; omega⟩
end

section
open Go.Shelf
variable {P : Program} {ρ : Ren}

open Go.RowKit Go.Sort

def pdqWalkIn_intM (P : Program) (ρ : Ren) (D : Nat) : Prop := ∀ (rm blk off cap a b limit : Nat) (d : Array Int) (w : World), pdqDepth ltInt d a b limit true true + 6 ≤ rm → Holds (Value.int .u32) w blk off d → blk < w.heap.size → a ≤ b → b ≤ d.size → d.size < 4611686018427387904 → limit < 4611686018427387904 → Below ltInt a b d →
  CallsIn (Fence.list [ρ.f 5, ρ.f 7, ρ.f 8, ρ.f 10, ρ.f 11, ρ.f 12, ρ.f 13, ρ.f 14, ρ.f 15, ρ.f 16, ρ.f 17, ρ.f 18, ρ.f 20, ρ.f 30, ρ.f 31, ρ.f 32, ρ.f 33, ρ.f 34, ρ.f 35, ρ.f 40] (some D)) rm P (ρ.f 7) #[.slice (some ⟨blk, off, none⟩) d.size cap, .int .i64 a, .int .i64 b, .int .i64 limit] w fun e w' =>
    e = .returned (.tuple #[]) ∧ ∃ n os, w' = grow (putRow (Value.int .u32) (Sort.ahead w n) blk off (Sort.pdq ltInt d a b limit true true)) os

def lenWalkInM (P : Program) (ρ : Ren) (D : Nat) : Prop := ∀ (n : Nat) (w : World), n < 4611686018427387904 → CallsIn (Fence.list [ρ.f 5, ρ.f 7, ρ.f 8, ρ.f 10, ρ.f 11, ρ.f 12, ρ.f 13, ρ.f 14, ρ.f 15, ρ.f 16, ρ.f 17, ρ.f 18, ρ.f 20, ρ.f 30, ρ.f 31, ρ.f 32, ρ.f 33, ρ.f 34, ρ.f 35, ρ.f 40] (some D)) 1 P (ρ.f 8) #[.int .u64 (n : Int)] w fun e w' => e = .returned (.int .i64 (bitsLen n : Nat)) ∧ w' = w

set_option maxRecDepth 100000 in

theorem AnySM.Sort_intIn (Ly : SlLaysU.n5 P ρ) (D : Nat) (hpdq : pdqWalkIn_intM P ρ D) (hlen : lenWalkInM P ρ D) (blk off cap : Nat) (d : Array Int) (w : World) (hH : Holds (Value.int .u32) w blk off d) (hblk : blk < w.heap.size) (hsz : d.size < 4611686018427387904) :
    CallsIn (Fence.list [ρ.f 5, ρ.f 7, ρ.f 8, ρ.f 10, ρ.f 11, ρ.f 12, ρ.f 13, ρ.f 14, ρ.f 15, ρ.f 16, ρ.f 17, ρ.f 18, ρ.f 20, ρ.f 30, ρ.f 31, ρ.f 32, ρ.f 33, ρ.f 34, ρ.f 35, ρ.f 40] (some D)) 66 P (ρ.f 5) #[.slice (some ⟨blk, off, none⟩) d.size cap] w fun e w' => e = .returned (.tuple #[]) ∧ ∃ n os, w' = grow (putRow (Value.int .u32) (Sort.ahead w n) blk off (Sort.sort ltInt d)) os := by
  have HH : Hid (Holds (Value.int .u32) w blk off d) := hH
  clear hH
  have hk : bitsLen d.size ≤ 62 := (bitsLen_le_iff d.size 62).2 (by omega)
  have hdp := pdqDepth_le_59 ltInt d 0 d.size (bitsLen d.size) true true (by omega)
  have mixed := Ly.mixed
  have t0 := Ly.t0; have a0 := Ly.a0; have z0 := Ly.z0; have v0 := Ly.v0; have t3 := Ly.t3; have a3 := Ly.a3; have z3 := Ly.z3; have v3 := Ly.v3; have t4 := Ly.t4; have a4 := Ly.a4; have z4 := Ly.z4; have v4 := Ly.v4; have t5 := Ly.t5; have a5 := Ly.a5; have z5 := Ly.z5; have v5 := Ly.v5; have t9 := Ly.t9; have a9 := Ly.a9; have z9 := Ly.z9; have v9 := Ly.v9; have t22 := Ly.t22; have a22 := Ly.a22; have z22 := Ly.z22; have v22 := Ly.v22; have t23 := Ly.t23; have a23 := Ly.a23; have z23 := Ly.z23; have v23 := Ly.v23; have t25 := Ly.t25; have a25 := Ly.a25; have z25 := Ly.z25; have v25 := Ly.v25; have t32 := Ly.t32; have a32 := Ly.a32; have z32 := Ly.z32; have v32 := Ly.v32; have t35 := Ly.t35; have a35 := Ly.a35; have z35 := Ly.z35; have v35 := Ly.v35; have t36 := Ly.t36; have a36 := Ly.a36; have z36 := Ly.z36; have v36 := Ly.v36; have t41 := Ly.t41; have a41 := Ly.a41; have z41 := Ly.z41; have v41 := Ly.v41; have t44 := Ly.t44; have a44 := Ly.a44; have z44 := Ly.z44; have v44 := Ly.v44; have t46 := Ly.t46; have a46 := Ly.a46; have z46 := Ly.z46; have v46 := Ly.v46; have t53 := Ly.t53; have a53 := Ly.a53; have z53 := Ly.z53; have v53 := Ly.v53; have t57 := Ly.t57; have a57 := Ly.a57; have z57 := Ly.z57; have v57 := Ly.v57; have t63 := Ly.t63; have a63 := Ly.a63; have z63 := Ly.z63; have v63 := Ly.v63; have t64 := Ly.t64; have a64 := Ly.a64; have z64 := Ly.z64; have v64 := Ly.v64
  have e125 : ∀ args w, (callFunc (ρ.f 8) args).run P w = .ok (.enter (ρ.f 8) args) w := enters_of Ly.f8 (by kernel_rfl) rfl
  have e257 : ∀ args w, (callFunc (ρ.f 7) args).run P w = .ok (.enter (ρ.f 7) args) w := Ly.f7.enters rfl
  obtain ⟨_, _, FG⟩ := Ly.f5
  gi_enter FG, SlBodyM.n5_ntmps ρ
  gi_wp2_with (first
    | (gi_at_fn (ρ.f 8); refine ((hlen d.size _ hsz).more (by decide)).mono ?_; rintro e w' ⟨rfl, rfl⟩)
    | (gi_at_fn (ρ.f 7); refine (hpdq 65 blk off cap 0 d.size (bitsLen d.size) d _ (by omega) (by exact HH.out) (by exact hblk) (Nat.zero_le _) (Nat.le_refl _) hsz (by omega) (Or.inl rfl)).mono ?_; rintro e w' ⟨rfl, n, os, rfl⟩))
  go_end0
  exact ⟨rfl, n, os, rfl⟩
end
end Go.Proofs.YtjpcljnojipdnaaGreat

/-! The sort at uint32, G: turned by a program of mine from walks at int. -/
namespace Go.Proofs.YtjpcljnojipdnaaGreat
open Go.Proofs

section
open Go.Shelf
variable {P : Program} {ρ : Ren}

open Go.Sort

theorem callees13InM (Ly : SlLaysU.n7 P ρ) (D : Nat) : Callees13InM P ρ D where
  heap := AnySM.heapSort_intIn { Ly with } D
  rev := AnySM.reverseRange_intIn { Ly with } D
  ins := AnySM.insertionSort_intIn { Ly with } D
  brk := AnySM.breakPatterns_intIn { Ly with } D
  piv := AnySM.choosePivot_intIn { Ly with } D
  par := AnySM.partialInsertionSort_intIn { Ly with } D
  peq := AnySM.partitionEqualOrdered_intIn { Ly with } D
  prt := AnySM.partitionOrdered_intIn { Ly with } D

theorem plain13DM : Plain13 where
  swo := swo_ltInt
  ins := insertionSort_holds
  par := partialInsertionSort_holds
  prt := partition_holds _
  peq := partitionEqual_holds _
  pdq := pdq_sorts _

theorem pdqWalkInIntM (Ly : SlLaysU.n7 P ρ) (D : Nat) : pdqWalkIn_intM P ρ D := fun rm blk off cap a b limit d w hrm hH hb hab hbd hsz hl hB =>
  AnySM.pdqsort_intIn { Ly with } D (callees13InM { Ly with } D) plain13DM (b - a + 1) rm blk off cap a b limit d w (by omega) hrm hH hb hab hbd hsz hl hB

theorem lenWalkInAllM (Ly : SlLaysM.n8 P ρ) (D : Nat) : lenWalkInM P ρ D := fun n w hn => by
  have h := AnySM.bits_LenIn { Ly with } D (n : Int) w (by omega) (by omega)
  rwa [Int.toNat_natCast, bitLen_eq _ (by omega)] at h

theorem sort_int_eqDM (zs : List Int) : Sort.sort ltInt zs.toArray = (zs.mergeSort fun x y => decide (x ≤ y)).toArray := by
  rw [← sortInt zs]

theorem AnySM.slices_Sort_int_in (Ly : SlLaysU.n5 P ρ) (D blk off cap : Nat) (zs : List Int) (w : World) (hH : Holds (Value.int .u32) w blk off zs.toArray) (hblk : blk < w.heap.size) (hsz : zs.length < 4611686018427387904) :
    CallsIn (Fence.list [ρ.f 5, ρ.f 7, ρ.f 8, ρ.f 10, ρ.f 11, ρ.f 12, ρ.f 13, ρ.f 14, ρ.f 15, ρ.f 16, ρ.f 17, ρ.f 18, ρ.f 20, ρ.f 30, ρ.f 31, ρ.f 32, ρ.f 33, ρ.f 34, ρ.f 35, ρ.f 40] (some D)) 66 P (ρ.f 5) #[.slice (some ⟨blk, off, none⟩) zs.length cap] w fun e w' =>
      e = .returned (.tuple #[]) ∧ ∃ n os, w' = grow (putRow (Value.int .u32) (Sort.ahead w n) blk off (zs.mergeSort fun x y => decide (x ≤ y)).toArray) os := by
  have h := AnySM.Sort_intIn { Ly with } D (pdqWalkInIntM { Ly with } D) (lenWalkInAllM { Ly with } D) blk off cap zs.toArray w hH hblk (by simpa using hsz)
  rw [sort_int_eqDM] at h
  simpa using h

theorem AnySM.slices_Sort_int_run (Ly : SlLaysU.n5 P ρ) (blk off cap : Nat) (zs : List Int) (w : World) (hH : Holds (Value.int .u32) w blk off zs.toArray) (hblk : blk < w.heap.size) (hsz : zs.length < 4611686018427387904) (cs : List Frame) :
    ∃ e w' fr, (e = .returned (.tuple #[]) ∧ ∃ n os, w' = grow (putRow (Value.int .u32) (Sort.ahead w n) blk off (zs.mergeSort fun x y => decide (x ≤ y)).toArray) os) ∧
      StepsIn (fun m => m.within P [ρ.f 5, ρ.f 7, ρ.f 8, ρ.f 10, ρ.f 11, ρ.f 12, ρ.f 13, ρ.f 14, ρ.f 15, ρ.f 16, ρ.f 17, ρ.f 18, ρ.f 20, ρ.f 30, ρ.f 31, ρ.f 32, ρ.f 33, ρ.f 34, ρ.f 35, ρ.f 40] (some (cs.length + 67))) P (lone (Frame.enter P (ρ.f 5) #[.slice (some ⟨blk, off, none⟩) zs.length cap] .normal) cs w) (lone fr cs w') ∧ fr.fn = ρ.f 5 ∧ fr.leaving P w' e := by
  obtain ⟨e, w', fr, r, s, x⟩ := (AnySM.slices_Sort_int_in { Ly with } (cs.length + 67) blk off cap zs w hH hblk hsz).2 cs (fun d hd => by cases hd; omega)
  obtain ⟨rfl, r2⟩ := r
  exact ⟨_, w', fr, ⟨rfl, r2⟩, StepsIn.mono (fun _ h => within_iff.2 h) s, x⟩
end
end Go.Proofs.YtjpcljnojipdnaaGreat

/-! The sort at uint32, laid at this program: the numbers of its functions and types. -/
namespace Go.Proofs.YtjpcljnojipdnaaGreat
open Go.Proofs Go.Shelf Go.Sort Go.RowKit

def srtRen : Go.Shelf.Ren := ⟨fun | 5 => 123 | 7 => 143 | 8 => 144 | 10 => 153 | 11 => 154 | 12 => 155 | 13 => 156 | 14 => 157 | 15 => 158 | 16 => 159 | 17 => 160 | 18 => 161 | 19 => 162 | 20 => 130 | 30 => 168 | 31 => 169 | 32 => 170 | 33 => 171 | 34 => 172 | 35 => 173 | 40 => 175 | n => n, fun | 0 => 0 | 3 => 3 | 4 => 4 | 5 => 5 | 9 => 9 | 22 => 23 | 23 => 23 | 25 => 22 | 32 => 169 | 35 => 177 | 36 => 178 | 41 => 182 | 44 => 22 | 46 => 95 | 53 => 192 | 57 => 196 | 63 => 198 | 64 => 199 | n => n, fun | n => n⟩
theorem srtLays : SlLaysU.n5 Tryz.prog srtRen := {
  mixed := by kernel_rfl
  f5 := ⟨Tryz.f123.name, by decide, Tryz.func123.trans (congrArg some (by kernel_rfl))⟩
  f7 := ⟨Tryz.f143.name, by decide, Tryz.func143.trans (congrArg some (by kernel_rfl))⟩
  f8 := Tryz.func144.trans (congrArg some (by kernel_rfl))
  f10 := ⟨Tryz.f153.name, by decide, Tryz.func153.trans (congrArg some (by kernel_rfl))⟩
  f11 := ⟨Tryz.f154.name, by decide, Tryz.func154.trans (congrArg some (by kernel_rfl))⟩
  f12 := ⟨Tryz.f155.name, by decide, Tryz.func155.trans (congrArg some (by kernel_rfl))⟩
  f13 := ⟨Tryz.f156.name, by decide, Tryz.func156.trans (congrArg some (by kernel_rfl))⟩
  f14 := ⟨Tryz.f157.name, by decide, Tryz.func157.trans (congrArg some (by kernel_rfl))⟩
  f15 := ⟨Tryz.f158.name, by decide, Tryz.func158.trans (congrArg some (by kernel_rfl))⟩
  f16 := ⟨Tryz.f159.name, by decide, Tryz.func159.trans (congrArg some (by kernel_rfl))⟩
  f17 := ⟨Tryz.f160.name, by decide, Tryz.func160.trans (congrArg some (by kernel_rfl))⟩
  f18 := ⟨Tryz.f161.name, by decide, Tryz.func161.trans (congrArg some (by kernel_rfl))⟩
  f19 := Tryz.func162.trans (congrArg some (by kernel_rfl))
  f20 := Tryz.func130.trans (congrArg some (by kernel_rfl))
  f30 := ⟨Tryz.f168.name, by decide, Tryz.func168.trans (congrArg some (by kernel_rfl))⟩
  f31 := Tryz.func169.trans (congrArg some (by kernel_rfl))
  f32 := Tryz.func170.trans (congrArg some (by kernel_rfl))
  f33 := ⟨Tryz.f171.name, by decide, Tryz.func171.trans (congrArg some (by kernel_rfl))⟩
  f34 := ⟨Tryz.f172.name, by decide, Tryz.func172.trans (congrArg some (by kernel_rfl))⟩
  f35 := ⟨Tryz.f173.name, by decide, Tryz.func173.trans (congrArg some (by kernel_rfl))⟩
  f40 := ⟨Tryz.f175.name, by decide, Tryz.func175.trans (congrArg some (by kernel_rfl))⟩
  t0 := Tryz.underlying0
  a0 := Tryz.isAgg0
  z0 := Tryz.sizeOf0
  v0 := Tryz.zeroValue0
  t3 := Tryz.underlying3
  a3 := Tryz.isAgg3
  z3 := Tryz.sizeOf3
  v3 := Tryz.zeroValue3
  t4 := Tryz.underlying4
  a4 := Tryz.isAgg4
  z4 := Tryz.sizeOf4
  v4 := Tryz.zeroValue4
  t5 := Tryz.underlying5
  a5 := Tryz.isAgg5
  z5 := Tryz.sizeOf5
  v5 := Tryz.zeroValue5
  t9 := Tryz.underlying9
  a9 := Tryz.isAgg9
  z9 := Tryz.sizeOf9
  v9 := Tryz.zeroValue9
  t22 := Tryz.underlying23
  a22 := Tryz.isAgg23
  z22 := Tryz.sizeOf23
  v22 := Tryz.zeroValue23
  t23 := Tryz.underlying23
  a23 := Tryz.isAgg23
  z23 := Tryz.sizeOf23
  v23 := Tryz.zeroValue23
  t25 := Tryz.underlying22
  a25 := Tryz.isAgg22
  z25 := Tryz.sizeOf22
  v25 := Tryz.zeroValue22
  t32 := Tryz.underlying169
  a32 := Tryz.isAgg169
  z32 := Tryz.sizeOf169
  v32 := Tryz.zeroValue169
  t35 := Tryz.underlying177
  a35 := Tryz.isAgg177
  z35 := Tryz.sizeOf177
  v35 := Tryz.zeroValue177
  t36 := Tryz.underlying178
  a36 := Tryz.isAgg178
  z36 := Tryz.sizeOf178
  v36 := Tryz.zeroValue178
  t41 := Tryz.underlying182
  a41 := Tryz.isAgg182
  z41 := Tryz.sizeOf182
  v41 := Tryz.zeroValue182
  t44 := Tryz.underlying22
  a44 := Tryz.isAgg22
  z44 := Tryz.sizeOf22
  v44 := Tryz.zeroValue22
  t46 := Tryz.underlying95
  a46 := Tryz.isAgg95
  z46 := Tryz.sizeOf95
  v46 := Tryz.zeroValue95
  t53 := Tryz.underlying192
  a53 := Tryz.isAgg192
  z53 := Tryz.sizeOf192
  v53 := Tryz.zeroValue192
  t57 := Tryz.underlying196
  a57 := Tryz.isAgg196
  z57 := Tryz.sizeOf196
  v57 := Tryz.zeroValue196
  t63 := Tryz.underlying198
  a63 := Tryz.isAgg198
  z63 := Tryz.sizeOf198
  v63 := Tryz.zeroValue198
  t64 := Tryz.underlying199
  a64 := Tryz.isAgg199
  z64 := Tryz.sizeOf199
  v64 := Tryz.zeroValue199 }

theorem sort_any (blk off cap : Nat) (zs : List Int) (w : World) (hH : Holds (Value.int .u32) w blk off zs.toArray) (hblk : blk < w.heap.size) (hsz : zs.length < 4611686018427387904) :
    Calls Tryz.prog 123 #[.slice (some ⟨blk, off, none⟩) zs.length cap] w fun e w' =>
      e = .returned (.tuple #[]) ∧ ∃ n os, w' = grow (putRow (Value.int .u32) (Sort.ahead w n) blk off (zs.mergeSort fun x y => decide (x ≤ y)).toArray) os :=
  calls_of_every_depth fun D => AnySM.slices_Sort_int_in srtLays D blk off cap zs w hH hblk hsz
end Go.Proofs.YtjpcljnojipdnaaGreat
