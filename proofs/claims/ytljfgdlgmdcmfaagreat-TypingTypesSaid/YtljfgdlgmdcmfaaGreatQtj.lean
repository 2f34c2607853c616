/- Parts of a proof. -/
import Derived.Sort.Walk11
import Derived.Shelf.SortM.PlainT
import Derived.Shelf.SlLaysM
import Derived.Sort.WalkD1
import Derived.OwnWalkIn
import Derived.TacticsInMore
import Derived.RegionIn
import Derived.LoopNIn
import Derived.LoopIn
import Derived.Sort.CutIn
import Derived.Sort.QuietIn
import Derived.Sort.AtCallIn
import Derived.Shelf.RegionOpen
import Derived.Shelf.AbstractIn
import Derived.Sort.WalkD2
import Derived.Test.YtljfgdlgmdcmfaaGreatQti
import Derived.Sort.Walk13
import Derived.Sort.LotD6
import Derived.Sort.WalkA14
import Derived.Sort.LotD7
import Derived.Sort.AssemblyPlain
import Derived.Shelf.SortM.So_math_bits_LenIn
import Derived.Test.YtljfgdlgmdcmfaaGreatChecked
import Derived.Sort.EveryDepth
import Derived.Shelf.Small.Bits
import Derived.Shelf.Strconv.Itoa0
import Derived.Ground.SlgnProg
import Derived.Shelf.SlicesE.Index
import Derived.Shelf.SlicesE.Equal
import Derived.Shelf.SlicesE.Compact
import Derived.Shelf.SlicesE.Clone
import Derived.Ground.SlgfProg
import Derived.Shelf.SlicesE.IndexFunc
import Derived.Test.YtljfgdlgmdcmfaaGreatProg
import Derived.Test.YtljfgdlgmdcmfaaGreatQth
import Derived.Lib.OwnBridge
import Derived.Deep.RegionWith
import Derived.Laws.EntriesVeiled
import Derived.Test.YtljfgdlgmdcmfaaGreatQtg
import Derived.Test.YtljfgdlgmdcmfaaGreatQtf
import Derived.ProofKit
import Derived.SizedLaws
import Derived.Deep.Fields
set_option linter.unusedVariables false
set_option linter.unusedSimpArgs false
set_option maxHeartbeats 32000000
set_option maxRecDepth 1000000
namespace Go.Proofs.YtljfgdlgmdcmfaaGreat
section
open Go.Proofs
theorem je {w:World} {blk off sb so n t:Nat} {d:Array Int} (h:Go.Sort.Holds (Value.int .u32) w blk off d) (hne:sb≠blk):Go.Sort.Holds (Value.int .u32) (Go.Sort.putRow (Value.int .i64) (Go.Sort.ahead w n) sb so (one t)) blk off d:=fun j hj=>
 ⟨by rw [Go.Sort.cell?_putRow_other _ _ _ _ _ _ (Or.inl (Ne.symm hne))];exact (h j hj).1,by rw [Go.Sort.frozen?_putRow];exact (h j hj).2⟩
section
open Go.Shelf
variable {P:Program} {ρ :Ren}
open Go.Sort Go.RowKit
theorem AnySM.order2_intIn (Ly : SlLaysU.n5 P ρ) (D : Nat) (d : Array Int) (len : Nat) (hlen : d.size = len) (blk off cap a b sb so s : Nat) (w : World) (hH : Holds (Value.int .u32) w blk off d) (ha : a < d.size) (hb : b < d.size)
    (hS : Holds (Value.int .i64) w sb so (one s)) (hs : s < 2 ^ 62) :
    CallsIn (Fence.list (fF ρ) (some D)) 2 P (ρ.f 40) #[.slice (some ⟨blk, off, none⟩) len cap, .int .i64 a, .int .i64 b, .pointer (some ⟨sb, so, none⟩)] w fun e w' =>
      e = .returned (.tuple #[.int .i64 (order2 ltInt d a b s).1, .int .i64 (order2 ltInt d a b s).2.1]) ∧ ∃ n, w' = putRow (Value.int .i64) (Sort.ahead w n) sb so (one (order2 ltInt d a b s).2.2) := by
  subst hlen
  replace hs : s < 4611686018427387904 := by omega
  have ca := (hH a ha).1
  have cb := (hH b hb).1
  obtain ⟨cs, fs⟩ := one_cell hS
  have ea : d[a]! = d[a] := getElem!_pos d a ha
  have eb : d[b]! = d[b] := getElem!_pos d b hb
  have mixed := Ly.mixed
  have t0 := Ly.t0; have a0 := Ly.a0; have z0 := Ly.z0; have v0 := Ly.v0; have t3 := Ly.t3; have a3 := Ly.a3; have z3 := Ly.z3; have v3 := Ly.v3; have t4 := Ly.t4; have a4 := Ly.a4; have z4 := Ly.z4; have v4 := Ly.v4; have t22 := Ly.t22; have a22 := Ly.a22; have z22 := Ly.z22; have v22 := Ly.v22; have t25 := Ly.t25; have a25 := Ly.a25; have z25 := Ly.z25; have v25 := Ly.v25; have t57 := Ly.t57; have a57 := Ly.a57; have z57 := Ly.z57; have v57 := Ly.v57
  have e216 : ∀ args w, (callFunc (ρ.f 16) args).run P w = .ok (.enter (ρ.f 16) args) w := Ly.f16.enters rfl
  obtain ⟨_, _, FG⟩ := Ly.f40
  gi_enter FG, SlBodyM.n40_ntmps ρ
  gi_wp2
  gi_big_quiet_th_o (first | (gi_at_fn (ρ.f 16); refine CallsIn.quiet_of_same (AnySM.cmp_Less_intIn { Ly with } D _ _ _)))
  all_goals (try gi_wp2)
  all_goals first
    | (have hlt : ltInt d[b] d[a] = true := by assumption
       have e2 : order2 ltInt d a b s = (b, a, s + 1) := by simp [order2, ea, eb, hlt]
       go_ret2
       rw [e2]
       refine ⟨rfl, nq, ?_⟩
       rw [putRow_ahead, ← one_set hS (s + 1)]
       first | rfl | simp [drew_eq_ahead] | simp [World.drewN, Sort.ahead, World.setCell])
    | (have hlt : ltInt d[b] d[a] = false := by assumption
       have e2 : order2 ltInt d a b s = (a, b, s) := by simp [order2, ea, eb, hlt]
       go_ret2
       rw [e2]
       refine ⟨rfl, nq, ?_⟩
       rw [putRow_ahead, putRow_self _ _ _ _ _ hS]
       rfl)
theorem AnySM.median_intIn (Ly:SlLaysU.n5 P ρ) (D:Nat) (d:Array Int) (len:Nat) (hlen:d.size=len) (blk off cap a b c sb so s:Nat) (w:World) (hH:Holds (Value.int .u32) w blk off d) (ha:a<d.size) (hb:b<d.size) (hc:c<d.size) (hne:sb≠blk)
  (hS:Holds (Value.int .i64) w sb so (one s)) (hs:s+3<2 ^ 62):
  CallsIn (Fence.list (fF ρ) (some D)) 3 P (ρ.f 34) #[.slice (some ⟨blk,off,none⟩) len cap, .int .i64 a, .int .i64 b, .int .i64 c, .pointer (some ⟨sb,so,none⟩)] w fun e w'=>
   e= .returned (.int .i64 (median ltInt d a b c s).1)∧ ∃ n,w'=putRow (Value.int .i64) (Sort.ahead w n) sb so (one (median ltInt d a b c s).2):=by
 subst hlen
 have l1:=order2_lt d s ha hb
 have s1:=order2_swaps d a b s
 have l2:=order2_lt d (order2 ltInt d a b s).2.2 l1.2 hc
 have s2:=order2_swaps d (order2 ltInt d a b s).2.1 c (order2 ltInt d a b s).2.2
 have mixed:=Ly.mixed
 have t0:=Ly.t0;have a0:=Ly.a0;have z0:=Ly.z0;have v0:=Ly.v0;have t3:=Ly.t3;have a3:=Ly.a3;have z3:=Ly.z3;have v3:=Ly.v3;have t4:=Ly.t4;have a4:=Ly.a4;have z4:=Ly.z4;have v4:=Ly.v4;have t22:=Ly.t22;have a22:=Ly.a22;have z22:=Ly.z22;have v22:=Ly.v22;have t25:=Ly.t25;have a25:=Ly.a25;have z25:=Ly.z25;have v25:=Ly.v25;have t57:=Ly.t57;have a57:=Ly.a57;have z57:=Ly.z57;have v57:=Ly.v57;have t64:=Ly.t64;have a64:=Ly.a64;have z64:=Ly.z64;have v64:=Ly.v64
 have e343: ∀ args w,(callFunc (ρ.f 40) args).run P w= .ok (.enter (ρ.f 40) args) w:=Ly.f40.enters rfl
 obtain ⟨_,_,FG⟩:=Ly.f34
 gi_enter FG,SlBodyM.n34_ntmps ρ
 gi_wp2_with (gi_at_fn_has (ρ.f 40) (Value.int .i64 (b:Int));refine (AnySM.order2_intIn {Ly with} D d _ rfl blk off cap a b sb so s w hH ha hb hS (by omega)).mono ?_;rintro e w' ⟨rfl,n1,rfl⟩)
 gi_wp2_with (gi_at_fn_has (ρ.f 40) (Value.int .i64 (c:Int));refine (AnySM.order2_intIn {Ly with} D d _ rfl blk off cap (order2 ltInt d a b s).2.1 c sb so (order2 ltInt d a b s).2.2 _ (je hH hne) l1.2 hc (holds_one hS) (by omega)).mono ?_;rintro e w' ⟨rfl,n2,rfl⟩)
 gi_wp2_with (gi_at_fn_has (ρ.f 40) (Value.int .i64 ((order2 ltInt d a b s).1:Int));refine (AnySM.order2_intIn {Ly with} D d _ rfl blk off cap (order2 ltInt d a b s).1 (order2 ltInt d (order2 ltInt d a b s).2.1 c (order2 ltInt d a b s).2.2).1 sb so (order2 ltInt d (order2 ltInt d a b s).2.1 c (order2 ltInt d a b s).2.2).2.2 _
  (je (je hH hne) hne) l1.1 l2.1 (holds_one (holds_one hS)) (by omega)).mono ?_;rintro e w' ⟨rfl,n3,rfl⟩)
 go_ret
 refine ⟨rfl,n1+(n2+n3),?_⟩
 rw [one_one,one_one]
 rfl
end
section
open Go.Shelf
variable {P:Program} {ρ :Ren}
open Go.Sort Go.RowKit
theorem AnySM.medianAdjacent_intIn (Ly:SlLaysU.n5 P ρ) (D:Nat) (d:Array Int) (len:Nat) (hlen:d.size=len) (blk off cap a sb so s:Nat) (w:World) (hH:Holds (Value.int .u32) w blk off d) (ha0:1≤a) (ha:a+1<d.size) (hsz:d.size<2 ^ 62) (hne:sb≠blk)
  (hS:Holds (Value.int .i64) w sb so (one s)) (hs:s+3<2 ^ 62):
  CallsIn (Fence.list (fF ρ) (some D)) 4 P (ρ.f 33) #[.slice (some ⟨blk,off,none⟩) len cap, .int .i64 a, .pointer (some ⟨sb,so,none⟩)] w fun e w'=>
   e= .returned (.int .i64 (medianAdjacent ltInt d a s).1)∧ ∃ n,w'=putRow (Value.int .i64) (Sort.ahead w n) sb so (one (medianAdjacent ltInt d a s).2):=by
 subst hlen
 replace hsz:d.size<4611686018427387904:=by omega
 have mixed:=Ly.mixed
 have t0:=Ly.t0;have a0:=Ly.a0;have z0:=Ly.z0;have v0:=Ly.v0;have t3:=Ly.t3;have a3:=Ly.a3;have z3:=Ly.z3;have v3:=Ly.v3;have t4:=Ly.t4;have a4:=Ly.a4;have z4:=Ly.z4;have v4:=Ly.v4;have t22:=Ly.t22;have a22:=Ly.a22;have z22:=Ly.z22;have v22:=Ly.v22;have t25:=Ly.t25;have a25:=Ly.a25;have z25:=Ly.z25;have v25:=Ly.v25;have t57:=Ly.t57;have a57:=Ly.a57;have z57:=Ly.z57;have v57:=Ly.v57;have t64:=Ly.t64;have a64:=Ly.a64;have z64:=Ly.z64;have v64:=Ly.v64
 have e332: ∀ args w,(callFunc (ρ.f 34) args).run P w= .ok (.enter (ρ.f 34) args) w:=Ly.f34.enters rfl
 obtain ⟨_,_,FG⟩:=Ly.f33
 gi_enter FG,SlBodyM.n33_ntmps ρ
 gi_wp2_with (gi_at_fn (ρ.f 34);rw [show ((a:Int) - 1)=((a - 1:Nat):Int) by omega,show ((a:Int)+1)=((a+1:Nat):Int) by omega];refine (AnySM.median_intIn {Ly with} D d _ rfl blk off cap (a - 1) a (a+1) sb so s w hH (by omega) (by omega) ha hne hS hs).mono ?_;rintro e w' ⟨rfl,n1,rfl⟩)
 go_ret
 exact ⟨rfl,n1,rfl⟩
end
section
open Go.Shelf
variable {P:Program} {ρ :Ren}
open Go.Sort Go.RowKit
theorem pivot_world_intInM (Ly:SlLaysU.n5 P ρ) (D:Nat) (blk off cap:Nat) (d:Array Int) (w:World) (hH:Holds (Value.int .u32) w blk off d) (hblk:blk<w.heap.size) (hsz:d.size<4611686018427387904):
  ∃ Wc:Nat→Nat→World,
   w.alloc (.cells #[.int .i64 0] (ρ.t 3))=Wc 0 0∧
   (∀ N S:Nat,(Wc N S).cell? ⟨w.heap.size,0,none⟩=some (.int .i64 (S:Int)))∧
   (∀ N S:Nat, ∃ os,Wc N S=grow (Sort.ahead w N) os)∧
   (∀ x s N:Nat,1≤x→x+1<d.size→s+3<4611686018427387904→CallsIn (Fence.list (fF ρ) (some D)) 4 P (ρ.f 33) #[.slice (some ⟨blk,off,none⟩) d.size cap, .int .i64 (x:Int), .pointer (some ⟨w.heap.size,0,none⟩)] (Wc N s) fun e w'=>
    e= .returned (.int .i64 ((medianAdjacent ltInt d x s).1:Int))∧ ∃ N',w'=Wc N' (medianAdjacent ltInt d x s).2)∧
   (∀ x y z s N:Nat,x<d.size→y<d.size→z<d.size→s+3<4611686018427387904→CallsIn (Fence.list (fF ρ) (some D)) 3 P (ρ.f 34) #[.slice (some ⟨blk,off,none⟩) d.size cap, .int .i64 (x:Int), .int .i64 (y:Int), .int .i64 (z:Int), .pointer (some ⟨w.heap.size,0,none⟩)] (Wc N s) fun e w'=>
    e= .returned (.int .i64 ((median ltInt d x y z s).1:Int))∧ ∃ N',w'=Wc N' (median ltInt d x y z s).2):=by
 have hne:w.heap.size≠blk:=by omega
 have hH0:Holds (Value.int .u32) (w.alloc (.cells #[.int .i64 0] (ρ.t 3))) blk off d:=by rw [alloc_eq_grow];exact holds_grow _ _ _ _ _ _ hblk hH
 have hS0:Holds (Value.int .i64) (w.alloc (.cells #[.int .i64 0] (ρ.t 3))) w.heap.size 0 (one 0):=fun j hj=>by
  obtain rfl:j=0:=by simpa using hj
  simp
 refine ⟨fun N S=>putRow (Value.int .i64) (Sort.ahead (w.alloc (.cells #[.int .i64 0] (ρ.t 3))) N) w.heap.size 0 (one S),(putRow_self _ _ _ _ _ hS0).symm,fun N S=>(one_cell (holds_one (n:=N) (t:=S) hS0)).1,fun N S=>counter_growTM (ρ.t 3) w N S,?_,?_⟩
 ·intro x s N h1 h2 hs
  refine (AnySM.medianAdjacent_intIn {Ly with} D d _ rfl blk off cap x w.heap.size 0 s _ (je hH0 hne) h1 h2 (by omega) hne (holds_one hS0) (by omega)).mono ?_
  rintro e w' ⟨he,n,hw⟩
  exact ⟨he,N+n,by rw [hw,one_one]⟩
 ·intro x y z s N h1 h2 h3 hs
  refine (AnySM.median_intIn {Ly with} D d _ rfl blk off cap x y z w.heap.size 0 s _ (je hH0 hne) h1 h2 h3 hne (holds_one hS0) (by omega)).mono ?_
  rintro e w' ⟨he,n,hw⟩
  exact ⟨he,N+n,by rw [hw,one_one]⟩
theorem AnySM.choosePivot_intIn (Ly : SlLaysU.n5 P ρ) (D : Nat) (blk off cap a b : Nat) (d : Array Int) (w : World) (hH : Holds (Value.int .u32) w blk off d) (hblk : blk < w.heap.size) (hab : a < b) (hb : b ≤ d.size) (hsz : d.size < 4611686018427387904) :
    CallsIn (Fence.list (fF ρ) (some D)) 5 P (ρ.f 13) #[.slice (some ⟨blk, off, none⟩) d.size cap, .int .i64 a, .int .i64 b] w fun e w' =>
      e = .returned (.tuple #[.int .i64 (choosePivot ltInt d a b).1, .int .i64 (hintCode (choosePivot ltInt d a b).2)]) ∧ ∃ n os, w' = grow (Sort.ahead w n) os := by
  obtain ⟨Wc, hW0, cS, hG, MA, MD⟩ := pivot_world_intInM { Ly with } D blk off cap d w hH hblk hsz
  clear hH
  rw [choosePivot_eq]
  obtain ⟨I, hI⟩ : ∃ I : Nat, I = a + (b - a) / 4 * 1 := ⟨_, rfl⟩
  obtain ⟨J, hJ⟩ : ∃ J : Nat, J = a + (b - a) / 4 * 2 := ⟨_, rfl⟩
  obtain ⟨K, hK⟩ : ∃ K : Nat, K = a + (b - a) / 4 * 3 := ⟨_, rfl⟩
  have eI : ((a : Int) + ((b : Int) - (a : Int)) / 4) = (I : Int) := by omega
  have eJ : ((a : Int) + ((b : Int) - (a : Int)) / 4 * 2) = (J : Int) := by omega
  have eK : ((a : Int) + ((b : Int) - (a : Int)) / 4 * 3) = (K : Int) := by omega
  by_cases h8 : b - a ≥ 8
  · by_cases h50 : b - a ≥ 50
    ·
      obtain ⟨i1, s1, h1⟩ : ∃ i1 s1, medianAdjacent ltInt d I 0 = (i1, s1) := ⟨_, _, rfl⟩
      obtain ⟨j1, s2, h2⟩ : ∃ j1 s2, medianAdjacent ltInt d J s1 = (j1, s2) := ⟨_, _, rfl⟩
      obtain ⟨k1, s3, h3⟩ : ∃ k1 s3, medianAdjacent ltInt d K s2 = (k1, s3) := ⟨_, _, rfl⟩
      obtain ⟨p, s, h4⟩ : ∃ p s, median ltInt d i1 j1 k1 s3 = (p, s) := ⟨_, _, rfl⟩
      have hraw : rawPivot ltInt d a b = (p, s) := by simp only [rawPivot, if_pos h8, if_pos h50, ← hI, ← hJ, ← hK, h1, h2, h3, h4]
      have m1 := medianAdjacent_mem ltInt d I 0; rw [h1] at m1
      have m2 := medianAdjacent_mem ltInt d J s1; rw [h2] at m2
      have m3 := medianAdjacent_mem ltInt d K s2; rw [h3] at m3
      have n1 := medianAdjacent_count ltInt d I 0; rw [h1] at n1
      have n2 := medianAdjacent_count ltInt d J s1; rw [h2] at n2
      have n3 := medianAdjacent_count ltInt d K s2; rw [h3] at n3
      simp only [] at m1 m2 m3 n1 n2 n3
      have c1 : CallsIn (Fence.list (fF ρ) (some D)) 4 P (ρ.f 33) #[.slice (some ⟨blk, off, none⟩) d.size cap, .int .i64 (I : Int), .pointer (some ⟨w.heap.size, 0, none⟩)] (Wc 0 0) fun e w' => e = .returned (.int .i64 (i1 : Int)) ∧ ∃ N', w' = Wc N' s1 := by
        have h := MA I 0 0 (by omega) (by omega) (by omega); rw [h1] at h; exact h
      have c2 : ∀ N, CallsIn (Fence.list (fF ρ) (some D)) 4 P (ρ.f 33) #[.slice (some ⟨blk, off, none⟩) d.size cap, .int .i64 (J : Int), .pointer (some ⟨w.heap.size, 0, none⟩)] (Wc N s1) fun e w' => e = .returned (.int .i64 (j1 : Int)) ∧ ∃ N', w' = Wc N' s2 := fun N => by
        have h := MA J s1 N (by omega) (by omega) (by omega); rw [h2] at h; exact h
      have c3 : ∀ N, CallsIn (Fence.list (fF ρ) (some D)) 4 P (ρ.f 33) #[.slice (some ⟨blk, off, none⟩) d.size cap, .int .i64 (K : Int), .pointer (some ⟨w.heap.size, 0, none⟩)] (Wc N s2) fun e w' => e = .returned (.int .i64 (k1 : Int)) ∧ ∃ N', w' = Wc N' s3 := fun N => by
        have h := MA K s2 N (by omega) (by omega) (by omega); rw [h3] at h; exact h
      have c4 : ∀ N, CallsIn (Fence.list (fF ρ) (some D)) 3 P (ρ.f 34) #[.slice (some ⟨blk, off, none⟩) d.size cap, .int .i64 (i1 : Int), .int .i64 (j1 : Int), .int .i64 (k1 : Int), .pointer (some ⟨w.heap.size, 0, none⟩)] (Wc N s3) fun e w' => e = .returned (.int .i64 (p : Int)) ∧ ∃ N', w' = Wc N' s := fun N => by
        have h := MD i1 j1 k1 s3 N (by omega) (by omega) (by omega) (by omega); rw [h4] at h; exact h
      rw [hraw]
      obtain ⟨Hc, hHc⟩ : ∃ Hc : Int, Hc = hintCode (hintOf s) := ⟨_, rfl⟩
      have hh0 : s = 0 → Hc = 1 := fun h => by rw [hHc, h]; rfl
      have hh12 : s = 12 → Hc = 2 := fun h => by rw [hHc, h]; rfl
      have hhx : s ≠ 0 → s ≠ 12 → Hc = 0 := fun h1 h2 => by rw [hHc]; unfold hintOf; rw [if_neg h1, if_neg h2]; rfl
      show CallsIn (Fence.list (fF ρ) (some D)) 5 P (ρ.f 13) _ w fun e w' => e = .returned (.tuple #[.int .i64 (p : Int), .int .i64 (hintCode (hintOf s))]) ∧ ∃ n os, w' = grow (Sort.ahead w n) os
      rw [← hHc]
      clear hHc hraw
      clear h1 h2 h3 h4 MA MD hI hJ hK m1 m2 m3
      have mixed := Ly.mixed
      have t0 := Ly.t0; have a0 := Ly.a0; have z0 := Ly.z0; have v0 := Ly.v0; have t3 := Ly.t3; have a3 := Ly.a3; have z3 := Ly.z3; have v3 := Ly.v3; have t4 := Ly.t4; have a4 := Ly.a4; have z4 := Ly.z4; have v4 := Ly.v4; have t22 := Ly.t22; have a22 := Ly.a22; have z22 := Ly.z22; have v22 := Ly.v22; have t25 := Ly.t25; have a25 := Ly.a25; have z25 := Ly.z25; have v25 := Ly.v25; have t35 := Ly.t35; have a35 := Ly.a35; have z35 := Ly.z35; have v35 := Ly.v35; have t57 := Ly.t57; have a57 := Ly.a57; have z57 := Ly.z57; have v57 := Ly.v57; have t64 := Ly.t64; have a64 := Ly.a64; have z64 := Ly.z64; have v64 := Ly.v64
      have e331 : ∀ args w, (callFunc (ρ.f 33) args).run P w = .ok (.enter (ρ.f 33) args) w := Ly.f33.enters rfl
      have e332 : ∀ args w, (callFunc (ρ.f 34) args).run P w = .ok (.enter (ρ.f 34) args) w := Ly.f34.enters rfl
      obtain ⟨_, _, FG⟩ := Ly.f13
      gi_enter FG, SlBodyM.n13_ntmps ρ
      gi_wp2_with (first
        | (gi_at_fn_has (ρ.f 33) (Value.int .i64 (I : Int)); refine (c1.more (by omega)).mono ?_; rintro e w' ⟨rfl, N1, rfl⟩)
        | (gi_at_fn_has (ρ.f 33) (Value.int .i64 (J : Int)); refine ((c2 _).more (by omega)).mono ?_; rintro e w' ⟨rfl, N2, rfl⟩)
        | (gi_at_fn_has (ρ.f 33) (Value.int .i64 (K : Int)); refine ((c3 _).more (by omega)).mono ?_; rintro e w' ⟨rfl, N3, rfl⟩)
        | (gi_at_fn (ρ.f 34); refine ((c4 _).more (by omega)).mono ?_; rintro e w' ⟨rfl, N4, rfl⟩))
      all_goals
        go_ret2
        refine ⟨?_, _, hG _ _⟩
        first
          | (have e0 : (s : Int) = 0 := of_beq_int (by assumption)
             rw [hh0 (by omega)]; rfl)
          | (have e1 : (s : Int) = 12 := of_beq_int (by assumption)
             rw [hh12 (by omega)]; rfl)
          | (have e0 : (s : Int) ≠ 0 := of_bne_int (by assumption)
             have e1 : (s : Int) ≠ 12 := of_bne_int (by assumption)
             rw [hhx (by omega) (by omega)]; rfl)
          | (rw [hh0 (by omega)]; rfl)
    ·
      obtain ⟨p, s, h4⟩ : ∃ p s, median ltInt d I J K 0 = (p, s) := ⟨_, _, rfl⟩
      have hraw : rawPivot ltInt d a b = (p, s) := by simp only [rawPivot, if_pos h8, if_neg h50, ← hI, ← hJ, ← hK, h4]
      have c4 : CallsIn (Fence.list (fF ρ) (some D)) 3 P (ρ.f 34) #[.slice (some ⟨blk, off, none⟩) d.size cap, .int .i64 (I : Int), .int .i64 (J : Int), .int .i64 (K : Int), .pointer (some ⟨w.heap.size, 0, none⟩)] (Wc 0 0) fun e w' => e = .returned (.int .i64 (p : Int)) ∧ ∃ N', w' = Wc N' s := by
        have h := MD I J K 0 0 (by omega) (by omega) (by omega) (by omega); rw [h4] at h; exact h
      rw [hraw]
      obtain ⟨Hc, hHc⟩ : ∃ Hc : Int, Hc = hintCode (hintOf s) := ⟨_, rfl⟩
      have hh0 : s = 0 → Hc = 1 := fun h => by rw [hHc, h]; rfl
      have hh12 : s = 12 → Hc = 2 := fun h => by rw [hHc, h]; rfl
      have hhx : s ≠ 0 → s ≠ 12 → Hc = 0 := fun h1 h2 => by rw [hHc]; unfold hintOf; rw [if_neg h1, if_neg h2]; rfl
      show CallsIn (Fence.list (fF ρ) (some D)) 5 P (ρ.f 13) _ w fun e w' => e = .returned (.tuple #[.int .i64 (p : Int), .int .i64 (hintCode (hintOf s))]) ∧ ∃ n os, w' = grow (Sort.ahead w n) os
      rw [← hHc]
      clear hHc hraw
      clear h4 MA MD hI hJ hK
      have mixed := Ly.mixed
      have t0 := Ly.t0; have a0 := Ly.a0; have z0 := Ly.z0; have v0 := Ly.v0; have t3 := Ly.t3; have a3 := Ly.a3; have z3 := Ly.z3; have v3 := Ly.v3; have t4 := Ly.t4; have a4 := Ly.a4; have z4 := Ly.z4; have v4 := Ly.v4; have t22 := Ly.t22; have a22 := Ly.a22; have z22 := Ly.z22; have v22 := Ly.v22; have t25 := Ly.t25; have a25 := Ly.a25; have z25 := Ly.z25; have v25 := Ly.v25; have t35 := Ly.t35; have a35 := Ly.a35; have z35 := Ly.z35; have v35 := Ly.v35; have t57 := Ly.t57; have a57 := Ly.a57; have z57 := Ly.z57; have v57 := Ly.v57; have t64 := Ly.t64; have a64 := Ly.a64; have z64 := Ly.z64; have v64 := Ly.v64
      have e331 : ∀ args w, (callFunc (ρ.f 33) args).run P w = .ok (.enter (ρ.f 33) args) w := Ly.f33.enters rfl
      have e332 : ∀ args w, (callFunc (ρ.f 34) args).run P w = .ok (.enter (ρ.f 34) args) w := Ly.f34.enters rfl
      obtain ⟨_, _, FG⟩ := Ly.f13
      gi_enter FG, SlBodyM.n13_ntmps ρ
      gi_wp2_with (first | (gi_at_fn (ρ.f 34); refine (c4.more (by omega)).mono ?_; rintro e w' ⟨rfl, N4, rfl⟩))
      all_goals
        go_ret2
        refine ⟨?_, _, hG _ _⟩
        first
          | (have e0 : (s : Int) = 0 := of_beq_int (by assumption)
             rw [hh0 (by omega)]; rfl)
          | (have e1 : (s : Int) = 12 := of_beq_int (by assumption)
             rw [hh12 (by omega)]; rfl)
          | (have e0 : (s : Int) ≠ 0 := of_bne_int (by assumption)
             have e1 : (s : Int) ≠ 12 := of_bne_int (by assumption)
             rw [hhx (by omega) (by omega)]; rfl)
          | (rw [hh0 (by omega)]; rfl)
  ·
    obtain ⟨p, hp⟩ : ∃ p : Nat, p = J := ⟨_, rfl⟩
    obtain ⟨s, hs⟩ : ∃ s : Nat, s = 0 := ⟨_, rfl⟩
    have hraw : rawPivot ltInt d a b = (p, s) := by simp only [rawPivot, if_neg h8, ← hJ, hp, hs]
    rw [hraw]
    obtain ⟨Hc, hHc⟩ : ∃ Hc : Int, Hc = hintCode (hintOf s) := ⟨_, rfl⟩
    have hh0 : s = 0 → Hc = 1 := fun h => by rw [hHc, h]; rfl
    have hh12 : s = 12 → Hc = 2 := fun h => by rw [hHc, h]; rfl
    have hhx : s ≠ 0 → s ≠ 12 → Hc = 0 := fun h1 h2 => by rw [hHc]; unfold hintOf; rw [if_neg h1, if_neg h2]; rfl
    show CallsIn (Fence.list (fF ρ) (some D)) 5 P (ρ.f 13) _ w fun e w' => e = .returned (.tuple #[.int .i64 (p : Int), .int .i64 (hintCode (hintOf s))]) ∧ ∃ n os, w' = grow (Sort.ahead w n) os
    rw [← hHc]
    clear hHc hraw
    subst hp
    clear MA MD hI hJ hK
    have hW0' : w.alloc (.cells #[.int .i64 0] (ρ.t 3)) = Wc 0 s := by rw [hs]; exact hW0
    clear hW0
    have mixed := Ly.mixed
    have t0 := Ly.t0; have a0 := Ly.a0; have z0 := Ly.z0; have v0 := Ly.v0; have t3 := Ly.t3; have a3 := Ly.a3; have z3 := Ly.z3; have v3 := Ly.v3; have t4 := Ly.t4; have a4 := Ly.a4; have z4 := Ly.z4; have v4 := Ly.v4; have t22 := Ly.t22; have a22 := Ly.a22; have z22 := Ly.z22; have v22 := Ly.v22; have t25 := Ly.t25; have a25 := Ly.a25; have z25 := Ly.z25; have v25 := Ly.v25; have t35 := Ly.t35; have a35 := Ly.a35; have z35 := Ly.z35; have v35 := Ly.v35; have t57 := Ly.t57; have a57 := Ly.a57; have z57 := Ly.z57; have v57 := Ly.v57; have t64 := Ly.t64; have a64 := Ly.a64; have z64 := Ly.z64; have v64 := Ly.v64
    have e331 : ∀ args w, (callFunc (ρ.f 33) args).run P w = .ok (.enter (ρ.f 33) args) w := Ly.f33.enters rfl
    have e332 : ∀ args w, (callFunc (ρ.f 34) args).run P w = .ok (.enter (ρ.f 34) args) w := Ly.f34.enters rfl
    obtain ⟨_, _, FG⟩ := Ly.f13
    gi_enter FG, SlBodyM.n13_ntmps ρ
    gi_wp2
    all_goals
      go_ret2
      refine ⟨?_, _, hG _ _⟩
      first
        | (have e0 : (s : Int) = 0 := of_beq_int (by assumption)
           rw [hh0 (by omega)]; rfl)
        | (have e1 : (s : Int) = 12 := of_beq_int (by assumption)
           rw [hh12 (by omega)]; rfl)
        | (have e0 : (s : Int) ≠ 0 := of_bne_int (by assumption)
           have e1 : (s : Int) ≠ 12 := of_bne_int (by assumption)
           rw [hhx (by omega) (by omega)]; rfl)
        | (rw [hh0 (by omega)]; rfl)
end
end
section
open Go.Proofs
section
open Go.Shelf
variable {P:Program} {ρ :Ren}
open Go.Sort Go.RowKit
structure Callees13InM (P:Program) (ρ :Ren) (D:Nat):Prop where
 heap: ∀ (blk off len cap:Nat) (d:Array Int) (_:d.size=len) (a b:Nat) (w:World),Holds bC w blk off d→a≤b→b≤d.size→d.size<4611686018427387904→
  CallsIn (Fence.list (fF ρ) (some D)) 3 P (ρ.f 11) #[.slice (some ⟨blk,off,none⟩) len cap, .int .i64 a, .int .i64 b] w fun e w'=>e= .returned (.tuple #[])∧ ∃ n,w'=putRow bC (Sort.ahead w n) blk off (heapSort ltInt d a b)
 rev: ∀ (blk off cap:Nat) (d:Array Int) (a b:Nat) (w:World),Holds bC w blk off d→a≤b→b≤d.size→d.size<4611686018427387904→
  CallsIn (Fence.list (fF ρ) (some D)) 0 P (ρ.f 14) #[.slice (some ⟨blk,off,none⟩) d.size cap, .int .i64 a, .int .i64 b] w fun e w'=>e= .returned (.tuple #[])∧ ∃ n,w'=putRow bC (Sort.ahead w n) blk off (reverseRange d a b)
 ins: ∀ (blk off cap a b:Nat) (d:Array Int) (w:World),Holds bC w blk off d→a≤b→b≤d.size→d.size<4611686018427387904→
  CallsIn (Fence.list (fF ρ) (some D)) 2 P (ρ.f 10) #[.slice (some ⟨blk,off,none⟩) d.size cap, .int .i64 a, .int .i64 b] w fun e w'=>e= .returned (.tuple #[])∧ ∃ n,w'=putRow bC (Sort.ahead w n) blk off (insertionSort ltInt d a b)
 brk: ∀ (blk off cap a b:Nat) (d:Array Int) (w:World),Holds bC w blk off d→blk<w.heap.size→a≤b→b≤d.size→d.size<4611686018427387904→
  CallsIn (Fence.list (fF ρ) (some D)) 3 P (ρ.f 12) #[.slice (some ⟨blk,off,none⟩) d.size cap, .int .i64 a, .int .i64 b] w fun e w'=>e= .returned (.tuple #[])∧ ∃ n os,w'=grow (putRow bC (Sort.ahead w n) blk off (breakPatterns d a b)) os
 piv: ∀ (blk off cap a b:Nat) (d:Array Int) (w:World),Holds bC w blk off d→blk<w.heap.size→a<b→b≤d.size→d.size<4611686018427387904→
  CallsIn (Fence.list (fF ρ) (some D)) 5 P (ρ.f 13) #[.slice (some ⟨blk,off,none⟩) d.size cap, .int .i64 a, .int .i64 b] w fun e w'=>e= .returned (.tuple #[.int .i64 (choosePivot ltInt d a b).1, .int .i64 (hintCode (choosePivot ltInt d a b).2)])∧ ∃ n os,w'=grow (Sort.ahead w n) os
 par: ∀ (blk off cap a b:Nat) (d:Array Int) (w:World),Holds bC w blk off d→a<b→b≤d.size→d.size<4611686018427387904→
  CallsIn (Fence.list (fF ρ) (some D)) 2 P (ρ.f 15) #[.slice (some ⟨blk,off,none⟩) d.size cap, .int .i64 a, .int .i64 b] w fun e w'=>e= .returned (.bool (partialInsertionSort ltInt d a b).2)∧ ∃ n,w'=putRow bC (Sort.ahead w n) blk off (partialInsertionSort ltInt d a b).1
 peq: ∀ (blk off cap a b pivot:Nat) (d:Array Int) (w:World),Holds bC w blk off d→a≤pivot→pivot<b→b≤d.size→d.size<4611686018427387904→
  CallsIn (Fence.list (fF ρ) (some D)) 2 P (ρ.f 17) #[.slice (some ⟨blk,off,none⟩) d.size cap, .int .i64 a, .int .i64 b, .int .i64 pivot] w fun e w'=>e= .returned (.int .i64 (partitionEqual ltInt d a b pivot).1)∧ ∃ n,w'=putRow bC (Sort.ahead w n) blk off (partitionEqual ltInt d a b pivot).2
 prt: ∀ (blk off cap a b pivot:Nat) (d:Array Int) (w:World),Holds bC w blk off d→a≤pivot→pivot<b→b≤d.size→d.size<4611686018427387904→
  CallsIn (Fence.list (fF ρ) (some D)) 2 P (ρ.f 18) #[.slice (some ⟨blk,off,none⟩) d.size cap, .int .i64 a, .int .i64 b, .int .i64 pivot] w fun e w'=>e= .returned (.tuple #[.int .i64 (partition ltInt d a b pivot).1, .bool (partition ltInt d a b pivot).2.1])∧ ∃ n,w'=putRow bC (Sort.ahead w n) blk off (partition ltInt d a b pivot).2.2
theorem AnySM.pdqsort_intIn (Ly : SlLaysU.n5 P ρ) (D : Nat) (C : Callees13InM P ρ D) (S : Plain13) : ∀ (N rm blk off cap a b limit : Nat) (d : Array Int) (w : World), b - a < N → pdqDepth ltInt d a b limit true true + 6 ≤ rm → Holds bC w blk off d → blk < w.heap.size → a ≤ b → b ≤ d.size → d.size < 4611686018427387904 → limit < 4611686018427387904 → Below ltInt a b d →
    CallsIn (Fence.list (fF ρ) (some D)) rm P (ρ.f 7) #[.slice (some ⟨blk, off, none⟩) d.size cap, .int .i64 a, .int .i64 b, .int .i64 limit] w fun e w' => e = .returned (.tuple #[]) ∧ At bC w blk off (pdq ltInt d a b limit true true) w' := by
  intro N
  induction N with
  | zero => intro _ _ _ _ _ _ _ _ _ h; exact absurd h (Nat.not_lt_zero _)
  | succ N ih =>
    intro rm blk off cap a b limit d w hN hrm hH hblk hab hb hsz hlimit hBel0
    have hrm1 : 1 ≤ rm := by omega
    have mixed := Ly.mixed
    have t0 := Ly.t0; have a0 := Ly.a0; have z0 := Ly.z0; have v0 := Ly.v0; have t3 := Ly.t3; have a3 := Ly.a3; have z3 := Ly.z3; have v3 := Ly.v3; have t4 := Ly.t4; have a4 := Ly.a4; have z4 := Ly.z4; have v4 := Ly.v4; have t5 := Ly.t5; have a5 := Ly.a5; have z5 := Ly.z5; have v5 := Ly.v5; have t9 := Ly.t9; have a9 := Ly.a9; have z9 := Ly.z9; have v9 := Ly.v9; have t22 := Ly.t22; have a22 := Ly.a22; have z22 := Ly.z22; have v22 := Ly.v22; have t25 := Ly.t25; have a25 := Ly.a25; have z25 := Ly.z25; have v25 := Ly.v25; have t32 := Ly.t32; have a32 := Ly.a32; have z32 := Ly.z32; have v32 := Ly.v32; have t35 := Ly.t35; have a35 := Ly.a35; have z35 := Ly.z35; have v35 := Ly.v35; have t36 := Ly.t36; have a36 := Ly.a36; have z36 := Ly.z36; have v36 := Ly.v36; have t41 := Ly.t41; have a41 := Ly.a41; have z41 := Ly.z41; have v41 := Ly.v41; have t44 := Ly.t44; have a44 := Ly.a44; have z44 := Ly.z44; have v44 := Ly.v44; have t46 := Ly.t46; have a46 := Ly.a46; have z46 := Ly.z46; have v46 := Ly.v46; have t53 := Ly.t53; have a53 := Ly.a53; have z53 := Ly.z53; have v53 := Ly.v53; have t57 := Ly.t57; have a57 := Ly.a57; have z57 := Ly.z57; have v57 := Ly.v57; have t63 := Ly.t63; have a63 := Ly.a63; have z63 := Ly.z63; have v63 := Ly.v63; have t64 := Ly.t64; have a64 := Ly.a64; have z64 := Ly.z64; have v64 := Ly.v64
    have e294 : ∀ args w, (callFunc (ρ.f 10) args).run P w = .ok (.enter (ρ.f 10) args) w := Ly.f10.enters rfl
    have e295 : ∀ args w, (callFunc (ρ.f 11) args).run P w = .ok (.enter (ρ.f 11) args) w := Ly.f11.enters rfl
    have e296 : ∀ args w, (callFunc (ρ.f 12) args).run P w = .ok (.enter (ρ.f 12) args) w := Ly.f12.enters rfl
    have e297 : ∀ args w, (callFunc (ρ.f 13) args).run P w = .ok (.enter (ρ.f 13) args) w := Ly.f13.enters rfl
    have e298 : ∀ args w, (callFunc (ρ.f 14) args).run P w = .ok (.enter (ρ.f 14) args) w := Ly.f14.enters rfl
    have e299 : ∀ args w, (callFunc (ρ.f 15) args).run P w = .ok (.enter (ρ.f 15) args) w := Ly.f15.enters rfl
    have e216 : ∀ args w, (callFunc (ρ.f 16) args).run P w = .ok (.enter (ρ.f 16) args) w := Ly.f16.enters rfl
    have e300 : ∀ args w, (callFunc (ρ.f 17) args).run P w = .ok (.enter (ρ.f 17) args) w := Ly.f17.enters rfl
    have e301 : ∀ args w, (callFunc (ρ.f 18) args).run P w = .ok (.enter (ρ.f 18) args) w := Ly.f18.enters rfl
    have e257 : ∀ args w, (callFunc (ρ.f 7) args).run P w = .ok (.enter (ρ.f 7) args) w := Ly.f7.enters rfl
    obtain ⟨_, _, FG⟩ := Ly.f7
    gi_enter FG, SlBodyM.n7_ntmps ρ
    gi_wp2
    gi_loopg [1, 2, 3, 8, 9] (b - a) (fun k s1 s2 s3 s8 s9 wr => ∃ (a' b' lim : Nat) (wb wp : Bool) (dk : Array Int), s1 = .int .i64 a' ∧ s2 = .int .i64 b' ∧ s3 = .int .i64 lim ∧ s8 = .bool wb ∧ s9 = .bool wp ∧
      a' ≤ b' ∧ b' ≤ d.size ∧ b' - a' ≤ k ∧ k ≤ b - a ∧ lim ≤ limit ∧ dk.size = d.size ∧ Below ltInt a' b' dk ∧ At bC w blk off dk wr ∧ pdq ltInt dk a' b' lim wb wp = pdq ltInt d a b limit true true ∧ pdqDepth ltInt dk a' b' lim wb wp + 6 ≤ rm)
    case atStart => exact ⟨a, b, limit, true, true, d, rfl, rfl, rfl, rfl, rfl, hab, hb, Nat.le_refl _, Nat.le_refl _, Nat.le_refl _, rfl, hBel0, At.refl hH, rfl, hrm⟩
    case round =>
      obtain ⟨a', b', lim, wb, wp, dk, rfl, rfl, rfl, rfl, rfl, hab', hb', hk, hkN, hlim, hds, hBel, hAt, heq, hdp⟩ := hrel
      obtain ⟨hHk, hblk'⟩ := hAt.holds hH hds hblk
      have A : Aside (pdq ltInt dk a' b' lim wb wp = pdq ltInt d a b limit true true) := heq
      clear heq
      by_cases h12 : b' - a' ≤ 12
      ·
        have h12z : (b' : Int) - (a' : Int) ≤ 12 := by omega
        have hc := (C.ins blk off cap a' b' dk wr hHk hab' (by omega) (by omega)).more (show 2 ≤ rm - 1 by omega)
        rw [hds] at hc
        gi_wp2_with (gi_at_fn (ρ.f 10); refine hc.mono ?_; rintro e w1 ⟨rfl, hw1⟩)
        (try simp only [Exit.inBlock, Exit.then]); refine bodyPost_ret (results_none rfl _ _ _) rfl ?_
        refine ⟨rfl, ?_⟩
        rw [← A.out, pdq_small h12]
        exact hAt.step hblk (S.ins S.swo dk a' b' hab' (by omega)).1.1 hw1
      · have h12z : ¬ ((b' : Int) - (a' : Int) ≤ 12) := by omega
        by_cases hl0 : lim = 0
        ·
          subst hl0
          have hc := (C.heap blk off d.size cap dk hds a' b' wr hHk hab' (by omega) (by omega)).more (show 3 ≤ rm - 1 by omega)
          gi_wp2_with (gi_at_fn (ρ.f 11); refine hc.mono ?_; rintro e w1 ⟨rfl, hw1⟩)
          (try simp only [Exit.inBlock, Exit.then]); refine bodyPost_ret (results_none rfl _ _ _) rfl ?_
          refine ⟨rfl, ?_⟩
          rw [← A.out, pdq_heap h12 rfl]
          exact hAt.step hblk (heapSort_holds S.swo dk a' b' hab' (by omega)).1.1 hw1
        · have hl0z : ¬ ((lim : Int) = 0) := by omega
          obtain ⟨s1, B1, hc1, s2, B2, hpv, s3, B3⟩ := rd_facts (limit := lim) (wb := wb) (wp := wp) S.swo S.par reverseRange_holds (show a' < b' by omega) (show b' ≤ dk.size by omega) hBel
          gi_upto_if 35 with fail
          gi_cut [3] from 19 (fun s3 wc => s3 = .int .i64 (rd ltInt dk a' b' lim wb wp).lim ∧ At bC w blk off (rd ltInt dk a' b' lim wb wp).d1 wc)
          case first =>
            cases wb
            · have hc := (C.brk blk off cap a' b' dk wr hHk hblk' hab' (by omega) (by omega)).more (show 3 ≤ rm - 1 by omega)
              rw [hds] at hc
              gi_wp2_with (gi_at_fn (ρ.f 12); refine hc.mono ?_; rintro e w1 ⟨rfl, hw1⟩)
              gi_meet
              case rel =>
                refine ⟨?_, hAt.stepG hblk s1 hw1⟩
                show Value.int .i64 ((lim : Int) - 1) = Value.int .i64 ((lim - 1 : Nat) : Int)
                congr 1
                omega
            · gi_wp2_with fail
              gi_meet
              case rel => exact ⟨rfl, hAt⟩
          case rest =>
            obtain ⟨rfl, hAt1⟩ := hcut
            obtain ⟨hH1, hblk1⟩ := hAt1.holds hH (s1.trans hds) hblk
            have hc17 : CallsIn (Fence.list (fF ρ) (some D)) (rm - 1) P (ρ.f 13) #[.slice (some ⟨blk, off, none⟩) d.size cap, .int .i64 a', .int .i64 b'] wc fun e w' => e = .returned (.tuple #[.int .i64 (rd ltInt dk a' b' lim wb wp).c.1, .int .i64 (hintCode (rd ltInt dk a' b' lim wb wp).c.2)]) ∧ ∃ n os, w' = grow (Sort.ahead wc n) os := by
              have := (C.piv blk off cap a' b' (rd ltInt dk a' b' lim wb wp).d1 wc hH1 hblk1 (by omega) (by omega) (by omega)).more (show 5 ≤ rm - 1 by omega)
              rw [s1, hds] at this
              exact this
            gi_upto_if 50 with (gi_at_fn (ρ.f 13); refine hc17.mono ?_; rintro e w2 ⟨rfl, hw2⟩)
            have hAt2 : At bC w blk off (rd ltInt dk a' b' lim wb wp).d1 w2 := hAt1.same hH (s1.trans hds) hblk hw2
            obtain ⟨hH2, hblk2⟩ := hAt2.holds hH (s1.trans hds) hblk
            gi_cut [11, 12] from 19 (fun s11 s12 wc => s11 = .int .i64 (rd ltInt dk a' b' lim wb wp).pivot ∧ s12 = .int .i64 (hintCode (rd ltInt dk a' b' lim wb wp).hint) ∧ At bC w blk off (rd ltInt dk a' b' lim wb wp).d2 wc)
            case first =>
              by_cases hh : (rd ltInt dk a' b' lim wb wp).c.2 = .decreasing
              · have hcode : hintCode (rd ltInt dk a' b' lim wb wp).c.2 = 2 := by rw [hh]; rfl
                obtain ⟨e2, epv, eht⟩ := rd_dec hh
                have hc18 := (C.rev blk off cap (rd ltInt dk a' b' lim wb wp).d1 a' b' w2 hH2 hab' (by omega) (by omega)).more (show 0 ≤ rm - 1 by omega)
                rw [s1, hds] at hc18
                gi_wp2_with (gi_at_fn (ρ.f 14); refine hc18.mono ?_; rintro e w3 ⟨rfl, hw3⟩)
                gi_meet
                case rel =>
                  refine ⟨?_, by rw [eht]; rfl, by rw [e2]; exact hAt2.step hblk (by rw [← e2, s2, s1]) hw3⟩
                  rw [epv]
                  congr 1
                  omega
              · have hcode : ¬ (hintCode (rd ltInt dk a' b' lim wb wp).c.2 = 2) := fun h => hh (hintCode_two h)
                obtain ⟨e2, epv, eht⟩ := rd_not hh
                gi_wp2_with fail
                gi_meet
                case rel => exact ⟨by rw [epv], by rw [eht], by rw [e2]; exact hAt2⟩
            case rest =>
              obtain ⟨rfl, rfl, hAt3⟩ := hcut
              obtain ⟨hH3, hblk3⟩ := hAt3.holds hH (s2.trans hds) hblk
              gi_upto_region 15 with fail
              gi_cut [12, 68] from 19 (fun s12 s68 wx => s12 = .int .i64 (hintCode (rd ltInt dk a' b' lim wb wp).hint) ∧ s68 = .bool (wb && wp && decide ((rd ltInt dk a' b' lim wb wp).hint = .increasing)) ∧ wx = wc)
              case first =>
                cases wb <;> cases wp <;> cases hh3 : (rd ltInt dk a' b' lim _ _).hint <;>
                  (have hcode3 := congrArg hintCode hh3
                   simp only [hintCode] at hcode3
                   gi_wp2_with fail
                   gi_meet
                   exact ⟨by simp [hh3, hintCode], by simp [hh3, hintCode], rfl⟩)
              case rest =>
                obtain ⟨rfl, rfl, rfl⟩ := hcut
                gi_upto_if 68 with fail
                gi_cut [] from 19 (fun wx => (rd ltInt dk a' b' lim wb wp).pi.2 = false ∧ At bC w blk off (rd ltInt dk a' b' lim wb wp).pi.1 wx)
                case first =>
                  cases h68 : (wb && wp && decide ((rd ltInt dk a' b' lim wb wp).hint = .increasing))
                  · have epi := rd_pi_no h68
                    gi_wp2_with fail
                    gi_meet
                    case rel => exact ⟨by rw [epi], by rw [epi]; exact hAt3⟩
                  · have epi := rd_pi_yes h68
                    have hc19 := (C.par blk off cap a' b' (rd ltInt dk a' b' lim wb wp).d2 wc hH3 (by omega) (by omega) (by omega)).more (show 2 ≤ rm - 1 by omega)
                    rw [s2, hds, ← epi] at hc19
                    gi_wp2_with (gi_at_fn (ρ.f 15); refine hc19.mono ?_; rintro e w4 ⟨rfl, hw4⟩)
                    all_goals first
                      | (have hp2 : (rd ltInt dk a' b' lim wb wp).pi.2 = false := by rw [epi]; assumption
                         gi_meet
                         exact ⟨hp2, hAt3.step hblk (by rw [s3, s2]) hw4⟩)
                      | (have hp2 : (rd ltInt dk a' b' lim wb wp).pi.2 = true := by rw [epi]; assumption
                         (try simp only [Exit.inBlock, Exit.then]); refine bodyPost_ret (results_none rfl _ _ _) rfl ?_
                         refine ⟨rfl, ?_⟩
                         rw [← A.out, pdq_done h12 hl0 hp2]
                         exact hAt3.step hblk (by rw [s3, s2]) hw4)
                case rest =>
                  obtain ⟨hp2, hAt5⟩ := hcut
                  obtain ⟨hH5, hblk5⟩ := hAt5.holds hH (s3.trans hds) hblk
                  have hcw : ∀ t, t < d.size → wc.cell? ⟨blk, off + t, none⟩ = some (.int .u32 (rd ltInt dk a' b' lim wb wp).pi.1[t]!) := fun t ht => (hH5 t (by omega)).1
                  have hfw : ∀ t, t < d.size → wc.frozen? ⟨blk, off + t, none⟩ = false := fun t ht => (hH5 t (by omega)).2
                  gi_upto_region 17 with fail
                  gi_cut [87] from 19 (fun s87 wx => s87 = .bool (decide (a' > 0) && !ltInt (rd ltInt dk a' b' lim wb wp).pi.1[a' - 1]! (rd ltInt dk a' b' lim wb wp).pi.1[(rd ltInt dk a' b' lim wb wp).pivot]!) ∧ At bC w blk off (rd ltInt dk a' b' lim wb wp).pi.1 wx)
                  case first =>
                    rcases Nat.eq_zero_or_pos a' with ha0 | ha0
                    · have ha0z : decide ((a' : Int) > 0) = false := decide_eq_false (by omega)
                      gi_big_quiet_th_o (first | (gi_at_fn (ρ.f 16); refine CallsIn.quiet_of_same ((AnySM.cmp_Less_intIn { Ly with } D _ _ _).more (show 1 ≤ rm - 1 by omega))))
                      gi_wp2_with fail
                      gi_meet
                      case rel => exact ⟨by simp [ha0], hAt5.ahead nq⟩
                    · have ha0z : (a' : Int) > 0 := by omega
                      gi_big_quiet_th_o (first | (gi_at_fn (ρ.f 16); refine CallsIn.quiet_of_same ((AnySM.cmp_Less_intIn { Ly with } D _ _ _).more (show 1 ≤ rm - 1 by omega))))
                      gi_wp2_with fail
                      gi_meet
                      case rel => exact ⟨by simp [ha0], hAt5.ahead nq⟩
                  case rest =>
                    obtain ⟨rfl, hAt6⟩ := hcut
                    obtain ⟨hH6, hblk6⟩ := hAt6.holds hH (s3.trans hds) hblk
                    clear hcw hfw
                    cases h87 : (decide (a' > 0) && !ltInt (rd ltInt dk a' b' lim wb wp).pi.1[a' - 1]! (rd ltInt dk a' b' lim wb wp).pi.1[(rd ltInt dk a' b' lim wb wp).pivot]!)
                    ·
                      obtain ⟨mid, ap, d4, hx⟩ : ∃ mid ap d4, partition ltInt (rd ltInt dk a' b' lim wb wp).pi.1 a' b' (rd ltInt dk a' b' lim wb wp).pivot = (mid, ap, d4) := ⟨(partition ltInt (rd ltInt dk a' b' lim wb wp).pi.1 a' b' (rd ltInt dk a' b' lim wb wp).pivot).1, (partition ltInt (rd ltInt dk a' b' lim wb wp).pi.1 a' b' (rd ltInt dk a' b' lim wb wp).pivot).2.1, (partition ltInt (rd ltInt dk a' b' lim wb wp).pi.1 a' b' (rd ltInt dk a' b' lim wb wp).pivot).2.2, rfl⟩
                      obtain ⟨r1, r2, r3, r4, r5, r6, r7⟩ := round_part S.swo S.prt hpv.1 hpv.2 (show b' ≤ (rd ltInt dk a' b' lim wb wp).pi.1.size by omega) B3 hx
                      have hc22 := (C.prt blk off cap a' b' (rd ltInt dk a' b' lim wb wp).pivot (rd ltInt dk a' b' lim wb wp).pi.1 wc hH6 hpv.1 hpv.2 (by omega) (by omega)).more (show 2 ≤ rm - 1 by omega)
                      rw [s3, hds, hx] at hc22
                      have X : Aside (partition ltInt (rd ltInt dk a' b' lim wb wp).pi.1 a' b' (rd ltInt dk a' b' lim wb wp).pivot = (mid, ap, d4)) := hx
                      clear hx
                      gi_upto_if 113 with (gi_at_fn (ρ.f 18); refine hc22.mono ?_; rintro e w7 ⟨rfl, hw7⟩)
                      have hx := X.out
                      have hAt7 : At bC w blk off d4 w7 := hAt6.step hblk r3 hw7
                      obtain ⟨hH7, hblk7⟩ := hAt7.holds hH (r3.trans (s3.trans hds)) hblk
                      by_cases h4 : mid - a' < b' - mid
                      · have h4z : (mid : Int) - (a' : Int) < (b' : Int) - (mid : Int) := by omega
                        have hdl := pdqDepth_left h12 hl0 hp2 h87 (by rw [hx]; exact ⟨r1, r2⟩) (by rw [hx]; exact h4)
                        rw [hx] at hdl
                        dsimp only at hdl
                        have hih := ih (rm - 1) blk off cap a' mid (rd ltInt dk a' b' lim wb wp).lim d4 w7 (by omega) (by have := hdl.1; omega) hH7 hblk7 (by omega) (by omega) (by omega) (Nat.lt_of_le_of_lt (Nat.le_trans rd_lim_le hlim) hlimit) r4
                        rw [r3, s3, hds] at hih
                        obtain ⟨pL, sL⟩ := S.pdq S.swo d4 a' mid (rd ltInt dk a' b' lim wb wp).lim true true (by omega) (by omega) r4
                        gi_wp2_with (gi_at_fn (ρ.f 7); refine hih.mono ?_; rintro e w8 ⟨rfl, hw8⟩)
                        gi_roundg (b' - (mid + 1))
                        case measure => omega
                        case rel =>
                          refine ⟨mid + 1, b', (rd ltInt dk a' b' lim wb wp).lim, decide (mid - a' ≥ (b' - a') / 8), ap, pdq ltInt d4 a' mid (rd ltInt dk a' b' lim wb wp).lim true true, by simp, rfl, rfl, ?_, rfl, by omega, by omega, Nat.le_refl _, by omega, Nat.le_trans rd_lim_le hlim, by rw [pL.1, r3, s3, hds], (r6 _ pL sL).1, hAt7.stepG hblk pL.1 hw8, ?_, by have := hdl.2; omega⟩
                          · exact congrArg Value.bool (eighth (by omega) (by omega))
                          · rw [← A.out, pdq_left h12 hl0 hp2 h87 (by rw [hx]; exact ⟨r1, r2⟩) (by rw [hx]; exact h4), hx]
                      · have h4z : ¬ ((mid : Int) - (a' : Int) < (b' : Int) - (mid : Int)) := by omega
                        have hdl := pdqDepth_right h12 hl0 hp2 h87 (by rw [hx]; exact ⟨r1, r2⟩) (by rw [hx]; exact h4)
                        rw [hx] at hdl
                        dsimp only at hdl
                        have hih := ih (rm - 1) blk off cap (mid + 1) b' (rd ltInt dk a' b' lim wb wp).lim d4 w7 (by omega) (by have := hdl.1; omega) hH7 hblk7 (by omega) (by omega) (by omega) (Nat.lt_of_le_of_lt (Nat.le_trans rd_lim_le hlim) hlimit) r5
                        rw [r3, s3, hds] at hih
                        obtain ⟨pL, sL⟩ := S.pdq S.swo d4 (mid + 1) b' (rd ltInt dk a' b' lim wb wp).lim true true (by omega) (by omega) r5
                        gi_wp2_with (gi_at_fn (ρ.f 7); refine hih.mono ?_; rintro e w8 ⟨rfl, hw8⟩)
                        gi_roundg (mid - a')
                        case measure => omega
                        case rel =>
                          refine ⟨a', mid, (rd ltInt dk a' b' lim wb wp).lim, decide (b' - mid ≥ (b' - a') / 8), ap, pdq ltInt d4 (mid + 1) b' (rd ltInt dk a' b' lim wb wp).lim true true, rfl, rfl, rfl, ?_, rfl, by omega, by omega, Nat.le_refl _, by omega, Nat.le_trans rd_lim_le hlim, by rw [pL.1, r3, s3, hds], (r7 _ pL sL).1, hAt7.stepG hblk pL.1 hw8, ?_, by have := hdl.2; omega⟩
                          · exact congrArg Value.bool (eighth (by omega) (by omega))
                          · rw [← A.out, pdq_right h12 hl0 hp2 h87 (by rw [hx]; exact ⟨r1, r2⟩) (by rw [hx]; exact h4), hx]
                    ·
                      have h87' := h87
                      simp only [Bool.and_eq_true, decide_eq_true_eq, Bool.not_eq_true'] at h87'
                      obtain ⟨mid, d4, hx⟩ : ∃ mid d4, partitionEqual ltInt (rd ltInt dk a' b' lim wb wp).pi.1 a' b' (rd ltInt dk a' b' lim wb wp).pivot = (mid, d4) := ⟨(partitionEqual ltInt (rd ltInt dk a' b' lim wb wp).pi.1 a' b' (rd ltInt dk a' b' lim wb wp).pivot).1, (partitionEqual ltInt (rd ltInt dk a' b' lim wb wp).pi.1 a' b' (rd ltInt dk a' b' lim wb wp).pivot).2, rfl⟩
                      obtain ⟨r1, r2, r3, r4, _⟩ := round_eq S.swo S.peq h87'.1 hpv.1 hpv.2 (show b' ≤ (rd ltInt dk a' b' lim wb wp).pi.1.size by omega) B3 h87'.2 hx
                      have hc21 := (C.peq blk off cap a' b' (rd ltInt dk a' b' lim wb wp).pivot (rd ltInt dk a' b' lim wb wp).pi.1 wc hH6 hpv.1 hpv.2 (by omega) (by omega)).more (show 2 ≤ rm - 1 by omega)
                      rw [s3, hds, hx] at hc21
                      have X : Aside (partitionEqual ltInt (rd ltInt dk a' b' lim wb wp).pi.1 a' b' (rd ltInt dk a' b' lim wb wp).pivot = (mid, d4)) := hx
                      clear hx
                      gi_wp2_with (gi_at_fn (ρ.f 17); refine hc21.mono ?_; rintro e w7 ⟨rfl, hw7⟩)
                      gi_roundg (b' - mid)
                      case measure => omega
                      case rel =>
                        have hx := X.out
                        exact ⟨mid, b', (rd ltInt dk a' b' lim wb wp).lim, wb, wp, d4, rfl, rfl, rfl, rfl, rfl, r2, hb', Nat.le_refl _, by omega, Nat.le_trans rd_lim_le hlim, by rw [r3, s3, hds], r4, hAt6.step hblk r3 hw7, by rw [← A.out, pdq_eq h12 hl0 hp2 h87 (by rw [hx]; exact ⟨r1, r2⟩), hx], by have hde := pdqDepth_eq h12 hl0 hp2 h87 (by rw [hx]; exact ⟨r1, r2⟩); rw [hx] at hde; dsimp only at hde; omega⟩
end
section
open Go.Shelf
variable {P:Program} {ρ :Ren}
open Go.RowKit Go.Sort
def pdqWalkIn_intM (P:Program) (ρ :Ren) (D:Nat):Prop:= ∀ (rm blk off cap a b limit:Nat) (d:Array Int) (w:World),pdqDepth ltInt d a b limit true true+6≤rm→Holds (Value.int .u32) w blk off d→blk<w.heap.size→a≤b→b≤d.size→d.size<4611686018427387904→limit<4611686018427387904→Below ltInt a b d→
 CallsIn (Fence.list (fF ρ) (some D)) rm P (ρ.f 7) #[.slice (some ⟨blk,off,none⟩) d.size cap, .int .i64 a, .int .i64 b, .int .i64 limit] w fun e w'=>
  e= .returned (.tuple #[])∧ ∃ n os,w'=grow (putRow (Value.int .u32) (Sort.ahead w n) blk off (Sort.pdq ltInt d a b limit true true)) os
def lenWalkInM (P:Program) (ρ :Ren) (D:Nat):Prop:= ∀ (n:Nat) (w:World),n<4611686018427387904→CallsIn (Fence.list (fF ρ) (some D)) 1 P (ρ.f 8) #[.int .u64 (n:Int)] w fun e w'=>e= .returned (.int .i64 (bitsLen n:Nat))∧w'=w
theorem AnySM.Sort_intIn (Ly:SlLaysU.n5 P ρ) (D:Nat) (hpdq:pdqWalkIn_intM P ρ D) (hlen:lenWalkInM P ρ D) (blk off cap:Nat) (d:Array Int) (w:World) (hH:Holds (Value.int .u32) w blk off d) (hblk:blk<w.heap.size) (hsz:d.size<4611686018427387904):
  CallsIn (Fence.list (fF ρ) (some D)) 66 P (ρ.f 5) #[.slice (some ⟨blk,off,none⟩) d.size cap] w fun e w'=>e= .returned (.tuple #[])∧ ∃ n os,w'=grow (putRow (Value.int .u32) (Sort.ahead w n) blk off (Sort.sort ltInt d)) os:=by
 have HH:Hid (Holds (Value.int .u32) w blk off d):=hH
 clear hH
 have hk:bitsLen d.size≤62:=(bitsLen_le_iff d.size 62).2 (by omega)
 have hdp:=pdqDepth_le_59 ltInt d 0 d.size (bitsLen d.size) true true (by omega)
 have mixed:=Ly.mixed
 have t0:=Ly.t0;have a0:=Ly.a0;have z0:=Ly.z0;have v0:=Ly.v0;have t3:=Ly.t3;have a3:=Ly.a3;have z3:=Ly.z3;have v3:=Ly.v3;have t4:=Ly.t4;have a4:=Ly.a4;have z4:=Ly.z4;have v4:=Ly.v4;have t5:=Ly.t5;have a5:=Ly.a5;have z5:=Ly.z5;have v5:=Ly.v5;have t9:=Ly.t9;have a9:=Ly.a9;have z9:=Ly.z9;have v9:=Ly.v9;have t22:=Ly.t22;have a22:=Ly.a22;have z22:=Ly.z22;have v22:=Ly.v22;have t23:=Ly.t23;have a23:=Ly.a23;have z23:=Ly.z23;have v23:=Ly.v23;have t25:=Ly.t25;have a25:=Ly.a25;have z25:=Ly.z25;have v25:=Ly.v25;have t32:=Ly.t32;have a32:=Ly.a32;have z32:=Ly.z32;have v32:=Ly.v32;have t35:=Ly.t35;have a35:=Ly.a35;have z35:=Ly.z35;have v35:=Ly.v35;have t36:=Ly.t36;have a36:=Ly.a36;have z36:=Ly.z36;have v36:=Ly.v36;have t41:=Ly.t41;have a41:=Ly.a41;have z41:=Ly.z41;have v41:=Ly.v41;have t44:=Ly.t44;have a44:=Ly.a44;have z44:=Ly.z44;have v44:=Ly.v44;have t46:=Ly.t46;have a46:=Ly.a46;have z46:=Ly.z46;have v46:=Ly.v46;have t53:=Ly.t53;have a53:=Ly.a53;have z53:=Ly.z53;have v53:=Ly.v53;have t57:=Ly.t57;have a57:=Ly.a57;have z57:=Ly.z57;have v57:=Ly.v57;have t63:=Ly.t63;have a63:=Ly.a63;have z63:=Ly.z63;have v63:=Ly.v63;have t64:=Ly.t64;have a64:=Ly.a64;have z64:=Ly.z64;have v64:=Ly.v64
 have e125: ∀ args w,(callFunc (ρ.f 8) args).run P w= .ok (.enter (ρ.f 8) args) w:=enters_of Ly.f8 (by kernel_rfl) rfl
 have e257: ∀ args w,(callFunc (ρ.f 7) args).run P w= .ok (.enter (ρ.f 7) args) w:=Ly.f7.enters rfl
 obtain ⟨_,_,FG⟩:=Ly.f5
 gi_enter FG,SlBodyM.n5_ntmps ρ
 gi_wp2_with (first
  | (gi_at_fn (ρ.f 8);refine ((hlen d.size _ hsz).more (by decide)).mono ?_;rintro e w' ⟨rfl,rfl⟩)
  | (gi_at_fn (ρ.f 7);refine (hpdq 65 blk off cap 0 d.size (bitsLen d.size) d _ (by omega) (by exact HH.out) (by exact hblk) (Nat.zero_le _) (Nat.le_refl _) hsz (by omega) (Or.inl rfl)).mono ?_;rintro e w' ⟨rfl,n,os,rfl⟩))
 go_end0
 exact ⟨rfl,n,os,rfl⟩
end
end
section
open Go.Proofs
section
open Go.Shelf
variable {P:Program} {ρ :Ren}
open Go.Sort
theorem callees13InM (Ly:SlLaysU.n5 P ρ) (D:Nat):Callees13InM P ρ D where
 heap:=AnySM.heapSort_intIn {Ly with} D
 rev:=AnySM.reverseRange_intIn {Ly with} D
 ins:=AnySM.insertionSort_intIn {Ly with} D
 brk:=AnySM.breakPatterns_intIn {Ly with} D
 piv:=AnySM.choosePivot_intIn {Ly with} D
 par:=AnySM.partialInsertionSort_intIn {Ly with} D
 peq:=AnySM.partitionEqualOrdered_intIn {Ly with} D
 prt:=AnySM.partitionOrdered_intIn {Ly with} D
theorem plain13DM:Plain13 where
 swo:=swo_ltInt
 ins:=insertionSort_holds
 par:=partialInsertionSort_holds
 prt:=partition_holds _
 peq:=partitionEqual_holds _
 pdq:=pdq_sorts _
theorem pdqWalkInIntM (Ly:SlLaysU.n5 P ρ) (D:Nat):pdqWalkIn_intM P ρ D:=fun rm blk off cap a b limit d w hrm hH hb hab hbd hsz hl hB=>
 AnySM.pdqsort_intIn {Ly with} D (callees13InM {Ly with} D) plain13DM (b - a+1) rm blk off cap a b limit d w (by omega) hrm hH hb hab hbd hsz hl hB
theorem lenWalkInAllM (Ly:SlLaysM.n8 P ρ) (D:Nat):lenWalkInM P ρ D:=fun n w hn=>by
 have h:=AnySM.bits_LenIn {Ly with} D (n:Int) w (by omega) (by omega)
 rwa [Int.toNat_natCast,bitLen_eq _ (by omega)] at h
theorem sort_int_eqDM (zs:List Int):Sort.sort ltInt zs.toArray=(zs.mergeSort fun x y=>decide (x≤y)).toArray:=by
 rw [←sortInt zs]
theorem AnySM.slices_Sort_int_in (Ly:SlLaysU.n5 P ρ) (D blk off cap:Nat) (zs:List Int) (w:World) (hH:Holds (Value.int .u32) w blk off zs.toArray) (hblk:blk<w.heap.size) (hsz:zs.length<4611686018427387904):
  CallsIn (Fence.list (fF ρ) (some D)) 66 P (ρ.f 5) #[.slice (some ⟨blk,off,none⟩) zs.length cap] w fun e w'=>
   e= .returned (.tuple #[])∧ ∃ n os,w'=grow (putRow (Value.int .u32) (Sort.ahead w n) blk off (zs.mergeSort fun x y=>decide (x≤y)).toArray) os:=by
 have h:=AnySM.Sort_intIn {Ly with} D (pdqWalkInIntM {Ly with} D) (lenWalkInAllM {Ly with} D) blk off cap zs.toArray w hH hblk (by simpa using hsz)
 rw [sort_int_eqDM] at h
 simpa using h
end
end
section
open Go.Proofs Go.Shelf Go.Sort Go.RowKit
def agw:Go.Shelf.Ren:=⟨fun | 5=>149 | 7=>207 | 8=>208 | 10=>229 | 11=>230 | 12=>231 | 13=>232 | 14=>233 | 15=>234 | 16=>235 | 17=>236 | 18=>237 | 19=>238 | 20=>226 | 30=>244 | 31=>245 | 32=>246 | 33=>247 | 34=>248 | 35=>249 | 40=>263 | n=>n,fun | 0=>0 | 3=>3 | 4=>4 | 5=>5 | 9=>9 | 22=>23 | 23=>23 | 25=>22 | 32=>215 | 35=>250 | 36=>251 | 41=>255 | 44=>22 | 46=>162 | 53=>261 | 57=>265 | 63=>277 | 64=>278 | n=>n,fun | n=>n⟩
theorem ac9:SlLaysU.n5 Tryz.prog agw:={
 mixed:=by kernel_rfl
 f5:=⟨Tryz.f149.name,by decide,Tryz.func149.trans (congrArg some (by kernel_rfl))⟩
 f7:=⟨Tryz.f207.name,by decide,Tryz.func207.trans (congrArg some (by kernel_rfl))⟩
 f8:=Tryz.func208.trans (congrArg some (by kernel_rfl))
 f10:=⟨Tryz.f229.name,by decide,Tryz.func229.trans (congrArg some (by kernel_rfl))⟩
 f11:=⟨Tryz.f230.name,by decide,Tryz.func230.trans (congrArg some (by kernel_rfl))⟩
 f12:=⟨Tryz.f231.name,by decide,Tryz.func231.trans (congrArg some (by kernel_rfl))⟩
 f13:=⟨Tryz.f232.name,by decide,Tryz.func232.trans (congrArg some (by kernel_rfl))⟩
 f14:=⟨Tryz.f233.name,by decide,Tryz.func233.trans (congrArg some (by kernel_rfl))⟩
 f15:=⟨Tryz.f234.name,by decide,Tryz.func234.trans (congrArg some (by kernel_rfl))⟩
 f16:=⟨Tryz.f235.name,by decide,Tryz.func235.trans (congrArg some (by kernel_rfl))⟩
 f17:=⟨Tryz.f236.name,by decide,Tryz.func236.trans (congrArg some (by kernel_rfl))⟩
 f18:=⟨Tryz.f237.name,by decide,Tryz.func237.trans (congrArg some (by kernel_rfl))⟩
 f19:=Tryz.func238.trans (congrArg some (by kernel_rfl))
 f20:=Tryz.func226.trans (congrArg some (by kernel_rfl))
 f30:=⟨Tryz.f244.name,by decide,Tryz.func244.trans (congrArg some (by kernel_rfl))⟩
 f31:=Tryz.func245.trans (congrArg some (by kernel_rfl))
 f32:=Tryz.func246.trans (congrArg some (by kernel_rfl))
 f33:=⟨Tryz.f247.name,by decide,Tryz.func247.trans (congrArg some (by kernel_rfl))⟩
 f34:=⟨Tryz.f248.name,by decide,Tryz.func248.trans (congrArg some (by kernel_rfl))⟩
 f35:=⟨Tryz.f249.name,by decide,Tryz.func249.trans (congrArg some (by kernel_rfl))⟩
 f40:=⟨Tryz.f263.name,by decide,Tryz.func263.trans (congrArg some (by kernel_rfl))⟩
 t0:=Tryz.underlying0
 a0:=Tryz.isAgg0
 z0:=Tryz.sizeOf0
 v0:=Tryz.zeroValue0
 t3:=Tryz.underlying3
 a3:=Tryz.isAgg3
 z3:=Tryz.sizeOf3
 v3:=Tryz.zeroValue3
 t4:=Tryz.underlying4
 a4:=Tryz.isAgg4
 z4:=Tryz.sizeOf4
 v4:=Tryz.zeroValue4
 t5:=Tryz.underlying5
 a5:=Tryz.isAgg5
 z5:=Tryz.sizeOf5
 v5:=Tryz.zeroValue5
 t9:=Tryz.underlying9
 a9:=Tryz.isAgg9
 z9:=Tryz.sizeOf9
 v9:=Tryz.zeroValue9
 t22:=Tryz.underlying23
 a22:=Tryz.isAgg23
 z22:=Tryz.sizeOf23
 v22:=Tryz.zeroValue23
 t23:=Tryz.underlying23
 a23:=Tryz.isAgg23
 z23:=Tryz.sizeOf23
 v23:=Tryz.zeroValue23
 t25:=Tryz.underlying22
 a25:=Tryz.isAgg22
 z25:=Tryz.sizeOf22
 v25:=Tryz.zeroValue22
 t32:=Tryz.underlying215
 a32:=Tryz.isAgg215
 z32:=Tryz.sizeOf215
 v32:=Tryz.zeroValue215
 t35:=Tryz.underlying250
 a35:=Tryz.isAgg250
 z35:=Tryz.sizeOf250
 v35:=Tryz.zeroValue250
 t36:=Tryz.underlying251
 a36:=Tryz.isAgg251
 z36:=Tryz.sizeOf251
 v36:=Tryz.zeroValue251
 t41:=Tryz.underlying255
 a41:=Tryz.isAgg255
 z41:=Tryz.sizeOf255
 v41:=Tryz.zeroValue255
 t44:=Tryz.underlying22
 a44:=Tryz.isAgg22
 z44:=Tryz.sizeOf22
 v44:=Tryz.zeroValue22
 t46:=Tryz.underlying162
 a46:=Tryz.isAgg162
 z46:=Tryz.sizeOf162
 v46:=Tryz.zeroValue162
 t53:=Tryz.underlying261
 a53:=Tryz.isAgg261
 z53:=Tryz.sizeOf261
 v53:=Tryz.zeroValue261
 t57:=Tryz.underlying265
 a57:=Tryz.isAgg265
 z57:=Tryz.sizeOf265
 v57:=Tryz.zeroValue265
 t63:=Tryz.underlying277
 a63:=Tryz.isAgg277
 z63:=Tryz.sizeOf277
 v63:=Tryz.zeroValue277
 t64:=Tryz.underlying278
 a64:=Tryz.isAgg278
 z64:=Tryz.sizeOf278
 v64:=Tryz.zeroValue278}
theorem aaF (blk off cap:Nat) (zs:List Int) (w:World) (hH:Holds (Value.int .u32) w blk off zs.toArray) (hblk:blk<w.heap.size) (hsz:zs.length<4611686018427387904):
  Calls Tryz.prog 149 #[.slice (some ⟨blk,off,none⟩) zs.length cap] w fun e w'=>
   e= .returned (.tuple #[])∧ ∃ n os,w'=grow (putRow (Value.int .u32) (Sort.ahead w n) blk off (zs.mergeSort fun x y=>decide (x≤y)).toArray) os:=
 calls_of_every_depth fun D=>AnySM.slices_Sort_int_in ac9 D blk off cap zs w hH hblk hsz
end
end Go.Proofs.YtljfgdlgmdcmfaaGreat
namespace Go.Proofs
open Go.Shelf
def Tryz.lays129_ren:Go.Shelf.Ren:=⟨fun | 129=>226 | n=>n,fun | 53=>162 | 3=>3 | 4=>4 | 46=>215 | 5=>5 | 9=>9 | n=>n,fun | n=>n⟩
theorem Tryz.lays129:Go.Proofs.Lays.n129 Tryz.prog Tryz.lays129_ren:={
 mixed:=by kernel_rfl
 f129:=Tryz.func226.trans (congrArg some (by kernel_rfl))
 t3:=Tryz.underlying3
 a3:=Tryz.isAgg3
 z3:=Tryz.sizeOf3
 v3:=Tryz.zeroValue3
 t4:=Tryz.underlying4
 a4:=Tryz.isAgg4
 z4:=Tryz.sizeOf4
 v4:=Tryz.zeroValue4
 t5:=Tryz.underlying5
 a5:=Tryz.isAgg5
 z5:=Tryz.sizeOf5
 v5:=Tryz.zeroValue5
 t9:=Tryz.underlying9
 a9:=Tryz.isAgg9
 z9:=Tryz.sizeOf9
 v9:=Tryz.zeroValue9
 t46:=Tryz.underlying215
 a46:=Tryz.isAgg215
 z46:=Tryz.sizeOf215
 v46:=Tryz.zeroValue215
 t53:=Tryz.underlying162
 a53:=Tryz.isAgg162
 z53:=Tryz.sizeOf162
 v53:=Tryz.zeroValue162}
theorem Tryz.bits_Len64 (x:Int) (w:World) (h0:0≤x) (h1:x≤18446744073709551615):
  Calls Tryz.prog 226 #[.int .u64 x] w fun e w'=>e= .returned (.int .i64 (Lib.bitLen x.toNat))∧w'=w:=Any.bits_Len64 Tryz.lays129 x w h0 h1
def Tryz.laysSlE43_f150_ren:Go.Shelf.Ren:=⟨fun | 43=>150 | n=>n,fun | 22=>23 | 23=>22 | 3=>3 | 4=>4 | 0=>0 | n=>n,fun | n=>n⟩
theorem Tryz.laysSlE43_f150:Go.Proofs.SlLaysE.n43 Tryz.prog Tryz.laysSlE43_f150_ren:={
 mixed:=by kernel_rfl
 f43:=⟨Tryz.f150.name,by decide,Tryz.func150.trans (congrArg some (by kernel_rfl))⟩
 t0:=Tryz.underlying0
 a0:=Tryz.isAgg0
 z0:=Tryz.sizeOf0
 v0:=Tryz.zeroValue0
 t3:=Tryz.underlying3
 a3:=Tryz.isAgg3
 z3:=Tryz.sizeOf3
 v3:=Tryz.zeroValue3
 t4:=Tryz.underlying4
 a4:=Tryz.isAgg4
 z4:=Tryz.sizeOf4
 v4:=Tryz.zeroValue4
 t22:=Tryz.underlying23
 a22:=Tryz.isAgg23
 z22:=Tryz.sizeOf23
 v22:=Tryz.zeroValue23
 a23:=Tryz.isAgg22
 z23:=Tryz.sizeOf22}
open Go.RowKit Go.Lib Go.Sort in
theorem Tryz.slices_Compact {α:Type} [Inhabited α] [DecidableEq α] (enc:α→Value) (hO:OneCell enc) (heq:EqlAt Tryz.prog 22 enc (fun x y=>decide (x=y))) (hne:NeqAt Tryz.prog 22 enc (fun x y=>decide (x=y))) (zr:α) (v23: ∀ w,(zeroValue 22).run Tryz.prog w= .ok (enc zr) w) (blk off cap:Nat) (d:Array α) (w:World) (hH:Holds enc w blk off d) (hsz:d.size≤9223372036854775807) (hcap:d.size≤cap):
  Calls Tryz.prog 150 #[.slice (some ⟨blk,off,none⟩) d.size cap] w fun e w'=>e= .returned (.slice (some ⟨blk,off,none⟩) (compactUpTo d d.size).length cap)∧ ∃ q,w'=putRow enc (Sort.ahead w q) blk off (compactUpTo d d.size++List.replicate (d.size - (compactUpTo d d.size).length) zr).toArray:=AnyE.slices_Compact Tryz.laysSlE43_f150 enc hO heq hne zr v23 blk off cap d w hH hsz hcap
def Tryz.laysSlE041_f148_ren:Go.Shelf.Ren:=⟨fun | 41=>148 | n=>n,fun | 22=>23 | 23=>22 | 4=>4 | n=>n,fun | n=>n⟩
theorem Tryz.laysSlE041_f148:Go.Proofs.SlLaysE0.n41 Tryz.prog Tryz.laysSlE041_f148_ren:={
 mixed:=by kernel_rfl
 f41:=⟨Tryz.f148.name,by decide,Tryz.func148.trans (congrArg some (by kernel_rfl))⟩
 t4:=Tryz.underlying4
 a4:=Tryz.isAgg4
 z4:=Tryz.sizeOf4
 v4:=Tryz.zeroValue4
 t22:=Tryz.underlying23
 a22:=Tryz.isAgg23
 z22:=Tryz.sizeOf23
 v22:=Tryz.zeroValue23}
open Go.RowKit Go.Lib in
theorem Tryz.slices_Clone (i0:TypeInfo) (z:Value) (size bytes:Nat) (hi:Tryz.prog.info? 22=some i0) (hz0:i0.zero=some z) (hz1:i0.size=size) (hz2:i0.bytes=bytes) (hzs:z.cells.size=size) (hsz:0<size) (z23: ∀ w,(Go.sizeOf 22).run Tryz.prog w= .ok size w) (b off n c:Nat) (news:List Value) (w:World) (hl:news.length=n*size) (hn:n≤maxLen) (hbig:n*bytes≤140737488355328) (hc: ∀ j u,news[j]? =some u→w.cell? ⟨b,off+j,none⟩=some u) (h1: ∀ u∈news,u.oneCell'=true):
  Calls Tryz.prog 148 #[.slice (some ⟨b,off,none⟩) n c] w fun e w'=> ∃ v',e= .returned v'∧w'.ownsRow w.heap.size 22 size v' n news∧v'≠ .slice none 0 0∧Below w.heap.size w w':=AnyE.slices_Clone Tryz.laysSlE041_f148 i0 z size bytes hi hz0 hz1 hz2 hzs hsz z23 b off n c news w hl hn hbig hc h1
end Go.Proofs
namespace Go.Proofs.YtljfgdlgmdcmfaaGreat
section
open Go.RowKit Go.Lib Go.Sort
theorem Wx (s:List Int) (hs:s.Pairwise (fun a b=>a≤b)) (h: ∀ j (hj:j<s.length),j=0∨s[j]≠s[j - 1]):s.Nodup:=by
 rw [List.Nodup,List.pairwise_iff_getElem]
 intro i j hi hj hij he
 rcases h j hj with h0 | h0
 ·omega
 ·apply h0
  have a1:s[i]≤s[j - 1]:=by
   by_cases e:i=j - 1
   ·subst e;exact Int.le_refl _
   ·exact (List.pairwise_iff_getElem.1 hs) i (j - 1) hi (by omega) (by omega)
  have a2:s[j - 1]≤s[j]:=(List.pairwise_iff_getElem.1 hs) (j - 1) j (by omega) hj (by omega)
  omega
theorem Wy (s:List Int) (hs:s.Nodup): ∀ j (hj:j<s.length),j=0∨s[j]≠s[j - 1]:=by
 intro j hj
 by_cases h0:j=0
 ·exact .inl h0
 ·right
  have h:=(List.pairwise_iff_getElem.1 hs) (j - 1) j (by omega) hj (by omega)
  exact fun e=>h e.symm
theorem G7 (d:Array Int):(compactUpTo d d.size).length=d.size↔ ∀ j (hj:j<d.toList.length),j=0∨d.toList[j]≠d.toList[j - 1]:=by
 unfold compactUpTo
 rw [List.length_map]
 have e:((List.range d.size).filter (keeps d)).length=d.size↔((List.range d.size).filter (keeps d)).length=(List.range d.size).length:=by rw [List.length_range]
 rw [e,List.length_filter_eq_length_iff]
 constructor
 ·intro h j hj
  have hj':j<d.size:=by simpa using hj
  have hk:=h j (List.mem_range.2 hj')
  simp only [keeps,decide_eq_true_eq] at hk
  rw [getElem!_pos d j hj',getElem!_pos d (j - 1) (by omega)] at hk
  simpa using hk
 ·intro h j hj
  have hj':j<d.size:=List.mem_range.1 hj
  have hk:=h j (by simpa using hj')
  simp only [keeps,decide_eq_true_eq]
  rw [getElem!_pos d j hj',getElem!_pos d (j - 1) (by omega)]
  simpa using hk
def ints (l:List Nat):List Int:=l.map Int.ofNat
def sorted (l:List Nat):List Int:=(ints l).mergeSort fun x y=>decide (x≤y)
theorem ny (l:List Nat):(sorted l).length=l.length:=by unfold sorted ints;rw [List.length_mergeSort,List.length_map]
theorem DR (l:List Nat):(compactUpTo (sorted l).toArray (sorted l).toArray.size).length=l.length↔l.Nodup:=by
 have hlen:=ny l
 have hp:(sorted l).Perm (ints l):=List.mergeSort_perm _ _
 have hnd:(sorted l).Nodup↔l.Nodup:=by
  rw [hp.nodup_iff]
  unfold ints List.Nodup
  rw [List.pairwise_map]
  constructor
  ·intro h;exact h.imp (fun hab e=>hab (congrArg Int.ofNat e))
  ·intro h;exact h.imp (fun hab e=>hab (Int.ofNat.inj e))
 have hs:(sorted l).Pairwise (fun a b=>a≤b):=by
  have:=List.pairwise_mergeSort (le:=fun x y:Int=>decide (x≤y)) (by intro a b c;simp;omega) (by intro a b;simp;omega) (ints l)
  exact this.imp (by intro a b h;simpa using h)
 have e1:(compactUpTo (sorted l).toArray (sorted l).toArray.size).length=l.length↔(compactUpTo (sorted l).toArray (sorted l).toArray.size).length=(sorted l).toArray.size:=by
  rw [List.size_toArray,hlen]
 rw [e1,G7, ←hnd]
 exact ⟨Wx _ hs,Wy _⟩
theorem agx (m n:Nat):((m:Int)==(n:Int))=decide (m=n):=by rw [Bool.eq_iff_iff,beq_iff_eq,decide_eq_true_eq];omega
theorem ada:(Tryz.prog.info? 22).map (fun i=>(i.zero,i.size,i.bytes))=some (some (.int .u32 0),1,4):=by kernel_rfl
theorem clone_any (b off cap:Nat) (l:List Nat) (w:World) (hl:sJ w b off l) (hlen:l.length≤35184372088832):
  Calls Tryz.prog 148 #[.slice (some ⟨b,off,none⟩) l.length cap] w fun e w'=> ∃ g cap',e= .returned (.slice (some ⟨g,0,none⟩) l.length cap')∧w.heap.size≤g∧g<w'.heap.size∧l.length≤cap'∧cap'≤maxLen∧Holds (Value.int .u32) w' g 0 (ints l).toArray∧Below w.heap.size w w':=by
 obtain ⟨i0,hi,hz0,hz1,hz2⟩:=info_parts ada
 refine (Tryz.slices_Clone i0 (.int .u32 0) 1 4 hi hz0 hz1 hz2 rfl (by decide) Tryz.sizeOf22 b off l.length cap ((ints l).map (Value.int .u32)) w (by simp [ints]) (by unfold maxLen;omega) (by omega) ?_ ?_).mono ?_
 ·intro j u hj
  rw [List.getElem?_map] at hj
  unfold ints at hj
  rw [List.getElem?_map] at hj
  by_cases h:j<l.length
  ·rw [List.getElem?_eq_getElem h] at hj;simp at hj;subst hj;exact hl.cell j h
  ·rw [List.getElem?_eq_none (by omega)] at hj;simp at hj
 ·intro u hu
  obtain ⟨z,_,rfl⟩:=List.mem_map.1 hu;rfl
 ·rintro e w' ⟨v',rfl,hown,hne,hb⟩
  obtain ⟨g,cap',rfl,h1,h2,h3,h4,h5,h6⟩:=holds_of_ownsRow hown hne
  exact ⟨g,cap',rfl,h1,h2,h3,h4,h6,hb⟩
theorem MH {B:Nat} {a w:World} (h:RowKit.Below B a w) (hB:B≤w.heap.size) (os:Array Obj):RowKit.Below B a (grow w os):=
 h.trans ⟨rfl,rfl,rfl,by simp [grow],fun k hk=>by show (w.heap++os)[k]? =_;rw [Array.getElem?_append_left (by omega)]⟩
theorem WA (g cap:Nat) (l:List Nat) (w:World) (hH:Holds (Value.int .u32) w g 0 (ints l).toArray) (hg:g<w.heap.size) (hlen:l.length≤24):
  Calls Tryz.prog 149 #[.slice (some ⟨g,0,none⟩) l.length cap] w fun e w'=>e= .returned (.tuple #[])∧Holds (Value.int .u32) w' g 0 (sorted l).toArray∧RowKit.Below g w w':=by
 have hz:(ints l).length=l.length:=by unfold ints;rw [List.length_map]
 have h:=aaF g 0 cap (ints l) w hH hg (by omega)
 rw [hz] at h
 refine h.mono ?_
 rintro e w' ⟨he,n,os,rfl⟩
 have hs:(sorted l).toArray.size=(ints l).toArray.size:=by rw [List.size_toArray,List.size_toArray,ny,hz]
 have hsz:(putRow (Value.int .u32) (Sort.ahead w n) g 0 (sorted l).toArray).heap.size=w.heap.size:=by simp [putRow,mapBlock,Sort.ahead]
 refine ⟨he,?_,?_⟩
 ·exact holds_grow _ _ _ _ _ _ (by rw [show ((ints l).mergeSort fun x y=>decide (x≤y))=sorted l from rfl,hsz];exact hg) (holds_putRow _ _ _ _ _ _ (holds_ahead _ _ n _ _ _ hH) hs)
 ·exact MH (below_putRow (RowKit.Below.refl g w) (Nat.le_refl _)) (by rw [show ((ints l).mergeSort fun x y=>decide (x≤y))=sorted l from rfl,hsz];omega) os
theorem G8 (g cap:Nat) (l:List Nat) (w:World) (hH:Holds (Value.int .u32) w g 0 (sorted l).toArray) (hlen:l.length≤24) (hcap:l.length≤cap):
  Calls Tryz.prog 150 #[.slice (some ⟨g,0,none⟩) l.length cap] w fun e w'=> ∃ m:Nat,e= .returned (.slice (some ⟨g,0,none⟩) m cap)∧Hid (decide (m=l.length)=decide l.Nodup)∧m≤24∧RowKit.Below g w w':=by
 have hs:(sorted l).toArray.size=l.length:=by rw [List.size_toArray,ny]
 have h:=Tryz.slices_Compact (Value.int .u32) (fun _=>rfl) (EqlAt.intD _ _ _) (NeqAt.intD _ _ _) 0 Tryz.zeroValue22 g 0 cap (sorted l).toArray w hH (by omega) (by omega)
 rw [hs] at h
 refine h.mono ?_
 rintro e w' ⟨he,q,rfl⟩
 have hc:=DR l
 rw [hs] at hc
 have hle:(compactUpTo (sorted l).toArray l.length).length≤l.length:=by
  unfold compactUpTo;rw [List.length_map];exact Nat.le_trans (List.length_filter_le _ _) (by rw [List.length_range];exact Nat.le_refl _)
 exact ⟨_,he,by show _=_;rw [decide_eq_decide];exact hc,by omega,below_putRow (RowKit.Below.refl g w) (Nat.le_refl _)⟩
theorem adb (b off cap a:Nat) (l:List Nat) (w:World) (hl:sJ w b off l) (hlen:l.length≤24)
  (ha:w.cell? ⟨a,3,none⟩=some (.slice (some ⟨b,off,none⟩) l.length cap)) (haw:a<w.heap.size):
  Calls Tryz.prog 147 #[.pointer (some ⟨a,0,none⟩)] w fun r w'=>r= .returned (.bool (decide l.Nodup))∧RowKit.Below w.heap.size w w':=by
 go_enter Tryz.func147,Tryz.ntmps147
 go_wp2_with fail
 refine (clone_any _ _ _ _ _ hl (by omega)).mono ?_
 rintro e w1 ⟨g,cap',rfl,hg,hg1,hc1,hc2,hH,hb1⟩
 have hH0:=Lib.hid hH;clear hH
 have hc:Hid (l.length≤cap'):=hc1
 go_wp2_with fail
 refine (WA _ _ _ _ hH0.out hg1 hlen).mono ?_
 rintro e w2 ⟨rfl,hH2,hb2⟩
 have hH3:=Lib.hid hH2;clear hH2 hH0
 have ha2: ∀ wx,RowKit.Below g w2 wx→wx.cell? ⟨a,3,none⟩=some (.slice (some ⟨b,off,none⟩) l.length cap):=fun wx h=>by
  rw [h.cell (p:=⟨a,3,none⟩) (show a<g by omega),hb2.cell (p:=⟨a,3,none⟩) (show a<g by omega),hb1.cell (p:=⟨a,3,none⟩) haw];exact ha
 have ajS:=Lib.hid ha2
 have akq:=ha2 w2 (RowKit.Below.refl _ _)
 clear ha2
 go_wp2_with fail
 go_region_with (go_at_call 150;refine (G8 _ _ _ _ (by exact hH3.out) hlen hc.out).mono ?_;rintro e w3 ⟨m,rfl,hm,akr,hb3⟩;have ha3:=ajS.out w3 ((RowKit.Below.refl g w2).drew.trans hb3))
 all_goals go_wp2
 all_goals go_ret
 all_goals refine ⟨au ?_,(hb1.trans (hb2.mono hg)).trans (((RowKit.Below.refl _ w2).drew.trans (by assumption)).mono hg)⟩
 all_goals rw [←hm.out]
 all_goals exact agx m l.length
end
section
open Go.RowKit
theorem aaG (b off cap a f c:Nat) (l:List Nat) (s:Nat) (x:Par) (cv:Value) (w:World) (hl:sJ w b off l) (hlen:l.length≤140737488351232) (hB:um w a x cv) (ha:a<w.heap.size) (hs0:0<s) (hs1:s≤137438953408)
  (hf:w.cell? ⟨f,0,none⟩=some (.func (.func 138) #[] #[.pointer (some ⟨c,0,none⟩)])) (hfw:f<w.heap.size) (hc:w.cell? ⟨c,0,none⟩=some (.int .i64 s)) (hcw:c<w.heap.size):
  Calls Tryz.prog 145 #[.slice (some ⟨b,off,none⟩) l.length cap, .func (.func 146) #[] #[.pointer (some ⟨a,0,none⟩), .pointer (some ⟨f,0,none⟩)]] w fun r w'=>
   r= .returned (.bool (l.any (jq aj s x.sp)))∧Below w.heap.size w w':=by
 have hB':=Lib.hid hB
 have hf':=Lib.hid hf
 have hc':=Lib.hid hc
 clear hB hf hc
 go_enter Tryz.func145,Tryz.ntmps145
 go_wp2_with (go_at_call 206;refine (aaE _ _ _ _ _ _ _ _ _ _ _ hl hlen hB'.out ha hs0 hs1 hf'.out hfw hc'.out hcw).mono ?_;rintro e w1 ⟨rfl,hb1⟩)
 go_ret
 exact ⟨au (G6 _ _),hb1⟩
theorem ade (b off cap a f c:Nat) (l:List Nat) (s:Nat) (x:Par) (w:World) (hl:sJ w b off l) (hlen:l.length≤140737488351232) (hB:um w a x (.slice (some ⟨b,off,none⟩) l.length cap)) (ha:a<w.heap.size) (hs0:0<s) (hs1:s≤137438953408)
  (hf:w.cell? ⟨f,0,none⟩=some (.func (.func 138) #[] #[.pointer (some ⟨c,0,none⟩)])) (hfw:f<w.heap.size) (hc:w.cell? ⟨c,0,none⟩=some (.int .i64 s)) (hcw:c<w.heap.size):
  Calls Tryz.prog 144 #[.pointer (some ⟨a,0,none⟩), .pointer (some ⟨f,0,none⟩)] w fun r w'=>
   r= .returned (.bool (!(l.any (jq aj s x.sp))))∧Below w.heap.size w w':=by
 have hB':=Lib.hid hB
 have hf':=Lib.hid hf
 have hc':=Lib.hid hc
 have l3:=hB.ch
 clear hB hf hc
 generalize hany:l.any (jq aj s x.sp)=r0
 have aiE:=Lib.hid hany
 clear hany
 go_enter Tryz.func144,Tryz.ntmps144
 go_wp2_with (go_at_call 145;refine (aaG _ _ _ _ _ _ _ _ _ _ _ hl hlen hB'.out ha hs0 hs1 hf'.out hfw hc'.out hcw).mono ?_;rintro e w1 ⟨rfl,hb1⟩;rw [aiE.out])
 go_ret
 exact ⟨rfl,hb1⟩
def SliceAt (w:World) (v:Value) (l:List Nat):Prop:=
 ∃ (p:Option Addr) (cap:Nat),v= .slice p l.length cap∧l.length≤cap∧l.length≤140737488351232∧(l≠[]→ ∃ b off,p=some ⟨b,off,none⟩∧sJ w b off l)
structure o8 (x:Par):Prop where
 n0: -9223372036854775808≤x.n
 n1:x.n≤9223372036854775807
 p1:x.p<4294967296
 r0: -9223372036854775808≤x.r
 r1:x.r≤9223372036854775807
 sp1:x.sp<4294967296
def Par.val (x:Par) (cv:Value):Value:= .agg #[.int .i64 x.n, .int .u32 x.p, .int .i64 x.r,cv, .int .u32 x.sp, .int .i64 x.wt, .int .u32 x.er]
def conds (pr:Nat→Bool) (x:Par):List Bool:=
 [decide (0<x.t pr),mZ x.ch.length,wtB x,dM pr (stepOf pr x) x.sp,!(x.ch.any (jq pr (stepOf pr x) x.sp)),decide x.ch.Nodup]
theorem nO (pr:Nat→Bool) (x:Par):okB pr x=(iT x.n && (conds pr x).all id):=by
 unfold okB conds;simp
variable {pr:Nat→Bool}{x:Par}
theorem kE {k:Nat} {b:Bool} (h: ∀ c,c∈(conds pr x).take k→c=true) (hk:(conds pr x)[k]? =some b) (hb:b=true): ∀ c,c∈(conds pr x).take (k+1)→c=true:=by
 intro c hc
 rw [List.take_add_one] at hc
 rcases List.mem_append.1 hc with h1 | h1
 ·exact h c h1
 ·rw [hk] at h1;simp at h1;rw [h1];exact hb
theorem nR {k:Nat} (hk:(conds pr x)[k]? =some false):chk pr x=2:=by
 have:okB pr x=false:=by
  rw [nO]
  have:(conds pr x).all id=false:=by
   rw [List.all_eq_false]
   exact ⟨false,List.mem_of_getElem? hk,by simp⟩
  rw [this,Bool.and_false]
 unfold chk;rw [this];rfl
theorem WB (hd:iT x.n=true) (h: ∀ c,c∈(conds pr x).take 6→c=true):chk pr x=0:=by
 have:okB pr x=true:=by
  rw [nO,hd,Bool.true_and,List.all_eq_true]
  intro c hc;exact h c hc
 unfold chk;rw [this];rfl
structure adf (wr:World) (A T:Nat) (x:Par) (cv:Value) (t s:Nat):Prop where
 size:T+4≤wr.heap.size
 box:um wr A x cv
 ct:wr.cell? ⟨T,0,none⟩=some (.int .i64 t)
 cs:wr.cell? ⟨T+1,0,none⟩=some (.int .i64 s)
 cf:wr.cell? ⟨T+1+1,0,none⟩=some (.func (.func 138) #[] #[.pointer (some ⟨T+1,0,none⟩)])
 c0:wr.cell? ⟨T+1+1+1,0,none⟩=some (.func (.func 140) #[] #[.pointer (some ⟨T,0,none⟩)])
 c1:wr.cell? ⟨T+1+1+1,1,none⟩=some (.func (.func 141) #[] #[.pointer (some ⟨A,0,none⟩)])
 c2:wr.cell? ⟨T+1+1+1,2,none⟩=some (.func (.func 142) #[] #[.pointer (some ⟨A,0,none⟩)])
 c3:wr.cell? ⟨T+1+1+1,3,none⟩=some (.func (.func 143) #[] #[.pointer (some ⟨T+1+1,0,none⟩), .pointer (some ⟨A,0,none⟩)])
 c4:wr.cell? ⟨T+1+1+1,4,none⟩=some (.func (.func 144) #[] #[.pointer (some ⟨A,0,none⟩), .pointer (some ⟨T+1+1,0,none⟩)])
 c5:wr.cell? ⟨T+1+1+1,5,none⟩=some (.func (.func 147) #[] #[.pointer (some ⟨A,0,none⟩)])
theorem adf.below {w w':World} {A T:Nat}  {cv:Value} {t s:Nat} (h:adf w A T x cv t s) (hA:A<T) (hb:Below w.heap.size w w'):adf w' A T x cv t s:=by
 have hs:=h.size
 refine ⟨Nat.le_trans h.size hb.size,h.box.below hb (by omega),?_,?_,?_,?_,?_,?_,?_,?_,?_⟩
 ·rw [hb.cell (p:=⟨_,_,none⟩) (by show T<_;omega)];exact h.ct
 ·rw [hb.cell (p:=⟨_,_,none⟩) (by show T+1<_;omega)];exact h.cs
 ·rw [hb.cell (p:=⟨_,_,none⟩) (by show T+1+1<_;omega)];exact h.cf
 all_goals rw [hb.cell (p:=⟨_,_,none⟩) (by show T+1+1+1<_;omega)]
 ·exact h.c0
 ·exact h.c1
 ·exact h.c2
 ·exact h.c3
 ·exact h.c4
 ·exact h.c5
theorem oL (x:Par) (cv:Value) (w:World) (hx:o8 x) (hcv:SliceAt w cv x.ch):
  Calls Tryz.prog 100 #[x.val cv] w fun r w'=>r= .returned (.int .i64 (chk aj x))∧Below w.heap.size w w':=by
 obtain ⟨p,cap,rfl,hcap,hcap2,hrow⟩:=hcv
 unfold Par.val
 have hn0:=hx.n0;have hn1:=hx.n1
 cases hd:iT x.n with
 | false=>
  have hR:Hid (chk aj x=2):=by show _=_;unfold chk okB;rw [hd];rfl
  go_enter Tryz.func100,Tryz.ntmps100
  go_wp2_with fail
  refine (MC _ _ hn0 hn1).mono ?_
  rintro e w1 ⟨rfl,rfl⟩
  rw [hd]
  go_wp2_with fail
  go_ret
  exact ⟨aU (by rw [hR.out]),(Below.refl _ _).alloc (Nat.le_refl _) _⟩
 | true=>
  have hn4:4≤x.n∧x.n≤32:=by have:=qw hd;omega
  obtain ⟨hn4,hn32⟩:=hn4
  go_enter Tryz.func100,Tryz.ntmps100
  go_wp2_with fail
  refine (MC _ _ hn0 hn1).mono ?_
  rintro e w1 ⟨rfl,rfl⟩
  rw [hd]
  go_wp2_with fail
  refine (Cm _ _ _ _ hn4 hn32 hx.p1 hx.r0 hx.r1).mono ?_
  rintro e w1 ⟨rfl,hb1⟩
  have htl:=GY aj x.n x.p x.r
  have hT:Hid (x.t aj=gQ aj x.n x.p x.r):=rfl
  generalize gQ aj x.n x.p x.r=t at htl hT ⊢
  have hm0:(0:Int)≤2*x.n*(t:Int):=Int.mul_nonneg (by omega) (by omega)
  have hm1:2*x.n*(t:Int)≤64*2147483647:=Int.mul_le_mul (by omega) (by omega) (by omega) (by omega)
  have hB:um w1 w.heap.size x (.slice p x.ch.length cap):=by
   refine um.below (w:=w.alloc (.cells #[.int .i64 x.n, .int .u32 x.p, .int .i64 x.r, .slice p x.ch.length cap, .int .u32 x.sp, .int .i64 x.wt, .int .u32 x.er] 25)) ?_ hb1 (by simp)
   constructor<;>simp [go_sem]
  have hB':=Lib.hid hB;clear hB
  have hsz:w.heap.size+1≤w1.heap.size:=by have:=hb1.size;simpa using this
  have hlt:w.heap.size<w1.heap.size:=by omega
  have hbw:Below w.heap.size w w1:=((Below.refl _ _).alloc (Nat.le_refl _) _).trans (hb1.mono (by simp))
  clear hb1
  have l0:=hB'.out.n
  go_wp2_with fail
  have hst:Hid (stepOf aj x=(2*x.n).toNat*t):=by show _=_;unfold stepOf;rw [hT.out]
  obtain ⟨s,hs⟩: ∃ s:Nat,s=(2*x.n).toNat*t:=⟨_,rfl⟩
  have hsi:(s:Int)=2*x.n*(t:Int):=by rw [hs,Int.natCast_mul,Int.toNat_of_nonneg (by omega)]
  have hs2:Hid (stepOf aj x=s):=by show _=_;rw [hst.out,hs]
  have agy:0<t→0<s:=fun h=>by rw [hs];exact Nat.mul_pos (by omega) h
  have hs1:s≤137438953408:=by omega
  clear hst hs
  go_loopw [8,35] (fun _ vk wr=> ∃ k:Nat,vk= .int .i64 k∧k≤6∧Hid (∀ c,c∈(conds aj x).take k→c=true)∧adf wr w.heap.size w1.heap.size x (.slice p x.ch.length cap) t s∧Below w.heap.size w wr) (fun _ vk _=>6 - (intOf vk).toNat)
  case atStart=>
   refine ⟨0,rfl,by omega,by intro c hc;simp at hc,?_,?_⟩
   ·have hbx:Below w1.heap.size w1 ((((w1.alloc (.cells #[.int .i64 t] 2)).alloc (.cells #[.int .i64 (2*x.n*t)] 2)).alloc (.cells #[.func (.func 138) #[] #[.pointer (some ⟨w1.heap.size+1,0,none⟩)]] 161)).alloc (.cells #[.func (.func 140) #[] #[.pointer (some ⟨w1.heap.size,0,none⟩)], .func (.func 141) #[] #[.pointer (some ⟨w.heap.size,0,none⟩)], .func (.func 142) #[] #[.pointer (some ⟨w.heap.size,0,none⟩)], .func (.func 143) #[] #[.pointer (some ⟨w1.heap.size+1+1,0,none⟩), .pointer (some ⟨w.heap.size,0,none⟩)], .func (.func 144) #[] #[.pointer (some ⟨w.heap.size,0,none⟩), .pointer (some ⟨w1.heap.size+1+1,0,none⟩)], .func (.func 147) #[] #[.pointer (some ⟨w.heap.size,0,none⟩)]] 30)):=by
     go_grown
    refine ⟨by simp,hB'.out.below hbx hlt,?_,?_,?_,?_,?_,?_,?_,?_,?_⟩
    all_goals simp [go_sem]
    exact hsi.symm
   ·go_grown
  case round=>
   obtain ⟨k,rfl,hk,hall,hW,hbel⟩:=hrel
   have hsz2:=hbel.size
   have hA:w.heap.size<wr.heap.size:=by have:=hW.size;omega
   have hT1:w1.heap.size<wr.heap.size:=by have:=hW.size;omega
   have hT2:w1.heap.size+1<wr.heap.size:=by have:=hW.size;omega
   have hT3:w1.heap.size+1+1<wr.heap.size:=by have:=hW.size;omega
   have HW:=Lib.hid hW
   rcases (show k=0∨k=1∨k=2∨k=3∨k=4∨k=5∨k=6 by omega) with rfl | rfl | rfl | rfl | rfl | rfl | rfl
   ·have hck:=hW.c0
    have hval:(conds aj x)[0]? =some (decide (0<t)):=by show some (decide (0<x.t aj))=_;rw [hT.out]
    have HC:=Lib.hid (ac5 t _ _ hW.ct)
    generalize hv:(decide (0<t))=v at hval HC
    clear hW hv
    cases v with
    | true=>
     have hall':=Lib.hid (kE hall.out hval rfl)
     clear hall
     go_wp2_with (go_at_call 140;refine (HC.out).mono ?_;rintro e w2 ⟨rfl,rfl⟩)
     go_roundw
     case rel=>exact ⟨1,rfl,by omega,hall'.out,HW.out,hbel⟩
     case measure=>simp [intOf]
    | false=>
     have hR:Hid (chk aj x=2):=nR hval
     go_wp2_with (go_at_call 140;refine (HC.out).mono ?_;rintro e w2 ⟨rfl,rfl⟩)
     go_ret
     exact ⟨aU (by rw [hR.out]),hbel⟩
   ·have hck:=hW.c1
    have hval:(conds aj x)[1]? =some (mZ x.ch.length):=rfl
    have HC:=Lib.hid (ac6 _ _ _ _ _ hW.box.ch)
    generalize hv:(mZ x.ch.length)=v at hval HC
    clear hW hv
    cases v with
    | true=>
     have hall':=Lib.hid (kE hall.out hval rfl)
     clear hall
     go_wp2_with (go_at_call 141;refine (HC.out).mono ?_;rintro e w2 ⟨rfl,rfl⟩)
     go_roundw
     case rel=>exact ⟨2,rfl,by omega,hall'.out,HW.out,hbel⟩
     case measure=>simp [intOf]
    | false=>
     have hR:Hid (chk aj x=2):=nR hval
     go_wp2_with (go_at_call 141;refine (HC.out).mono ?_;rintro e w2 ⟨rfl,rfl⟩)
     go_ret
     exact ⟨aU (by rw [hR.out]),hbel⟩
   ·have hck:=hW.c2
    have hval:(conds aj x)[2]? =some (wtB x):=rfl
    have HC:=Lib.hid (ac7 _ _ _ _ hW.box)
    generalize hv:(wtB x)=v at hval HC
    clear hW hv
    cases v with
    | true=>
     have hall':=Lib.hid (kE hall.out hval rfl)
     clear hall
     go_wp2_with (go_at_call 142;refine (HC.out).mono ?_;rintro e w2 ⟨rfl,rfl⟩)
     go_roundw
     case rel=>exact ⟨3,rfl,by omega,hall'.out,HW.out,hbel⟩
     case measure=>simp [intOf]
    | false=>
     have hR:Hid (chk aj x=2):=nR hval
     go_wp2_with (go_at_call 142;refine (HC.out).mono ?_;rintro e w2 ⟨rfl,rfl⟩)
     go_ret
     exact ⟨aU (by rw [hR.out]),hbel⟩
   ·have hck:=hW.c3
    have hs0:0<s:=agy (by have:=hall.out (decide (0<x.t aj)) (by simp [conds]);rw [hT.out] at this;exact of_decide_eq_true this)
    have hval:(conds aj x)[3]? =some (dM aj s x.sp):=by show some (dM aj (stepOf aj x) x.sp)=_;rw [hs2.out]
    have HC:=Lib.hid (ac8 _ _ _ s _ _ _ hW.box hx.sp1 hs0 hs1 hW.cf hW.cs)
    generalize hv:(dM aj s x.sp)=v at hval HC
    clear hW hv
    cases v with
    | true=>
     have hall':=Lib.hid (kE hall.out hval rfl)
     clear hall
     go_wp2_with (go_at_call 143;refine (HC.out).mono ?_;rintro e w2 ⟨rfl,hb2⟩)
     go_roundw
     case rel=>exact ⟨4,rfl,by omega,hall'.out,HW.out.below hlt hb2,hbel.trans (hb2.mono hsz2)⟩
     case measure=>simp [intOf]
    | false=>
     have hR:Hid (chk aj x=2):=nR hval
     go_wp2_with (go_at_call 143;refine (HC.out).mono ?_;rintro e w2 ⟨rfl,hb2⟩)
     go_ret
     exact ⟨aU (by rw [hR.out]),hbel.trans (hb2.mono hsz2)⟩
   ·have hck:=hW.c4
    have hs0:0<s:=agy (by have:=hall.out (decide (0<x.t aj)) (by simp [conds]);rw [hT.out] at this;exact of_decide_eq_true this)
    have hlb:1≤x.ch.length∧x.ch.length≤24:=by have:=hall.out (mZ x.ch.length) (by simp [conds]);exact of_decide_eq_true this
    have aiF:=hlb.2
    have hlen:x.ch.length≤140737488351232:=by omega
    obtain ⟨b,off,rfl,hr0⟩:=hrow (by intro h;rw [h] at hlb;simp at hlb)
    have hr:=hr0.below hbel hr0.blk
    have hval:(conds aj x)[4]? =some (!(x.ch.any (jq aj s x.sp))):=by show some (!(x.ch.any (jq aj (stepOf aj x) x.sp)))=_;rw [hs2.out]
    have HC:=Lib.hid (ade _ _ _ _ _ _ x.ch s _ _ hr hlen hW.box hA hs0 hs1 hW.cf hT3 hW.cs hT2)
    generalize hv:(!(x.ch.any (jq aj s x.sp)))=v at hval HC
    clear hW hv
    clear hr hr0 hlb hrow
    cases v with
    | true=>
     have hall':=Lib.hid (kE hall.out hval rfl)
     clear hall
     go_wp2_with (go_at_call 144;refine (HC.out).mono ?_;rintro e w2 ⟨rfl,hb2⟩)
     go_roundw
     case rel=>exact ⟨5,rfl,by omega,hall'.out,HW.out.below hlt hb2,hbel.trans (hb2.mono hsz2)⟩
     case measure=>simp [intOf]
    | false=>
     have hR:Hid (chk aj x=2):=nR hval
     go_wp2_with (go_at_call 144;refine (HC.out).mono ?_;rintro e w2 ⟨rfl,hb2⟩)
     go_ret
     exact ⟨aU (by rw [hR.out]),hbel.trans (hb2.mono hsz2)⟩
   ·have hck:=hW.c5
    have hs0:0<s:=agy (by have:=hall.out (decide (0<x.t aj)) (by simp [conds]);rw [hT.out] at this;exact of_decide_eq_true this)
    have hlb:1≤x.ch.length∧x.ch.length≤24:=by have:=hall.out (mZ x.ch.length) (by simp [conds]);exact of_decide_eq_true this
    have aiF:=hlb.2
    have hlen:x.ch.length≤140737488351232:=by omega
    obtain ⟨b,off,rfl,hr0⟩:=hrow (by intro h;rw [h] at hlb;simp at hlb)
    have hr:=hr0.below hbel hr0.blk
    have hval:(conds aj x)[5]? =some (decide x.ch.Nodup):=rfl
    have HC:=Lib.hid (adb _ _ _ _ x.ch _ hr aiF hW.box.ch hA)
    generalize hv:(decide x.ch.Nodup)=v at hval HC
    clear hW hv
    clear hr hr0 hlb hrow
    cases v with
    | true=>
     have hall':=Lib.hid (kE hall.out hval rfl)
     clear hall
     go_wp2_with (go_at_call 147;refine (HC.out).mono ?_;rintro e w2 ⟨rfl,hb2⟩)
     go_roundw
     case rel=>exact ⟨6,rfl,by omega,hall'.out,HW.out.below hlt hb2,hbel.trans (hb2.mono hsz2)⟩
     case measure=>simp [intOf]
    | false=>
     have hR:Hid (chk aj x=2):=nR hval
     go_wp2_with (go_at_call 147;refine (HC.out).mono ?_;rintro e w2 ⟨rfl,hb2⟩)
     go_ret
     exact ⟨aU (by rw [hR.out]),hbel.trans (hb2.mono hsz2)⟩
   ·have hR:Hid (chk aj x=0):=WB hd hall.out
    clear hall
    go_wp2_with fail
    go_ret
    exact ⟨aU (by rw [hR.out]),hbel⟩
end
section
open Go.RowKit Wv
theorem TC.ajT {P:Program} {f:FuncId} {xs:List Value} {r:Value} (hb:kX P f=true) (T: ∀ w,Calls P f xs.toArray w fun e w'=>e= .returned r∧Below w.heap.size w w'):TC P f (xs.map .v) (.v r):=by
 refine ⟨hb,fun X vs hX hbad hr=>?_⟩
 have e:vs=xs:=by
  apply List.ext_getElem?
  intro i
  by_cases hi:i<xs.length
  ·have hi':i<vs.length:=by have:=hr.1;simp at this;omega
   have h:=hr.2 i (.v xs[i]) vs[i] (by simp [hi]) (by simp [hi'])
   generalize hq:vs[i]=q at h
   cases h
   rw [List.getElem?_eq_getElem hi',List.getElem?_eq_getElem hi,hq]
  ·have hi': ¬ i<vs.length:=by have:=hr.1;simp at this;omega
   rw [List.getElem?_eq_none (by omega),List.getElem?_eq_none (by omega)]
 subst e
 refine (T X.w).mono ?_
 rintro e w' ⟨h1,h2⟩
 exact ⟨r,h1,h2,fun m=> .v r⟩
theorem aaH (x:Int) (h0:0≤x) (h1:x≤18446744073709551615):TC Tryz.prog 226 [.v (.int .u64 x)] (.v (.int .i64 (Lib.bitLen x.toNat))):=
 TC.ajT (xs:=[.int .u64 x]) (by kernel_rfl) fun w=>(Tryz.bits_Len64 x w h0 h1).mono fun e w' h=>⟨h.1,h.2▸Below.refl _ _⟩
def dD (n:Int):Nat:=if n≤1 then 0 else Lib.bitLen (n - 1).toNat
theorem rC (n:Int) (h1:n≤9223372036854775807):TC Tryz.prog 215 [.v (.int .i64 n)] (.v (.int .i64 (dD n))):=by
 refine Wv.TC.by 9 [0,4,2] [] [.tmp 2] Tryz.func215 rfl rfl rfl ?clo ?_
 case clo=>simp only [Wv.BC]
 have hN:dD n=if n≤1 then 0 else Lib.bitLen (n - 1).toNat:=rfl
 by_cases h:n≤1
 ·rw [if_pos h] at hN
  simp (disch:=first|exact Wv.D|fail) only [Wv.B,simprocAttr,decide_eq_true h,hN]
 ·rw [if_neg h] at hN
  simp (disch:=first|exact Wv.D|fail) only [Wv.B,simprocAttr,decide_eq_false h]
  refine ah (aaH (n - 1) (by omega) (by omega)) rfl Wv.c Wv.c ?_
  simp (disch:=first|exact Wv.D|fail) only [Wv.B,simprocAttr,hN]
def kN (e:Int):AV:= .ifc 98 (.g [.v (.int .i64 e)])
theorem gU (e:Int):Clo (kN e):=by unfold kN;simp only [Wv.BC]
theorem aZ {h:Hp} (b:Bool) (e:Int):HTP Tryz.prog 66 [.v (.bool b), .v (.int .i64 e)] h (fun r h'=>b=true∧r= .tup []∧h'=h) (fun r h'=>b=false∧r=kN e∧h'=h):=by
 refine Wv.HTP.by 9 [0,5,1] [(1000000,h.length)] [] Tryz.func66 rfl rfl rfl ?base ?_
 case base=>rfl
 unfold kN
 cases b with
 | true=>simp (disch:=first|exact Wv.D|fail) only [Wv.B,simprocAttr]
 | false=>simp (disch:=first|exact Wv.D|fail) only [Wv.B,simprocAttr]
end
section
open Go.RowKit Wv
theorem Rn.refl {n:Nat} {a:AV} (h:lo n a) (ht: ∀ l,a≠ .tup l) (hi: ∀ T x,a≠ .ifc T x) (hm: ∀ es,a≠ .tm es) (hg: ∀ l,a= .g l→ ∀ x,x∈l→Rn id n x x) (hf: ∀ f l k,a= .fn f l k→(∀ x,x∈l→Rn id n x x)∧ ∀ x,x∈k→Rn id n x x):Rn id n a a:=by
 have same: ∀ (l:List AV),(∀ x,x∈l→Rn id n x x)→ ∀ (i:Nat) (a b:AV),l[i]? =some a→l[i]? =some b→Rn id n a b:=fun l h i a b h1 h2=>by
  rw [h1] at h2;injection h2 with h2;subst h2;exact h a (List.mem_of_getElem? h1)
 cases h with
 | clo h=>exact .clo h
 | own h=>exact .own h
 | ptr h=>exact .ptr h
 | ap h=>exact .ap h
 | mp h=>exact .mp h
 | g h=>exact .g rfl (same _ (hg _ rfl))
 | tup h=>exact absurd rfl (ht _)
 | fn h1 h2=>exact .fn rfl rfl (same _ (hf _ _ _ rfl).1) (same _ (hf _ _ _ rfl).2)
 | ifc h=>exact absurd rfl (hi _ _)
 | tm h=>exact absurd rfl (hm _)
theorem RD.ext {P:Program} {f:FuncId} {args:List AV} {h0:Hp} {R p:AV→Prop} (T:RD P f args h0 R p) (r:Hp) (ha:RnL id h0.length args args) (hh: ∀ (i:Nat) (o:Option Ob),h0[i]? =some o→ ∃ o',o=some o'∧RnO id h0.length o' o') (hR: ∀ r,R r→Clo r) (hp: ∀ r,p r→Clo r):RD P f args (h0++r) R p:=
 RD.frame (σ:=id) T ⟨fun i j _ _ e=>e,fun i o ho=>by
  obtain ⟨o',e,q⟩:=hh i o ho
  subst e
  exact ⟨o',o',rfl,by rw [id,List.getElem?_append_left (List.getElem?_eq_some_iff.1 ho).1];exact ho,q⟩⟩ ha hR hp
def fU (x:Par):List AV:=[.v (.int .i64 x.n), .v (.int .u32 x.p), .v (.int .i64 x.r), .t x.ch.length 1 (x.ch.map fun (c:Nat)=> .v (.int .u32 c)), .v (.int .u32 x.sp), .v (.int .i64 x.wt), .v (.int .u32 x.er)]
theorem iI (x:Par): ∀ a,a∈fU x→Clo a:=by
 unfold fU
 simp only [Wv.BC]
def tyC (x:Par) (t:Int):List AV:=[.v (.int .i64 x.n), .v (.int .u32 x.p), .v (.int .i64 x.r), .t x.ch.length 1 (x.ch.map fun (c:Nat)=> .v (.int .u32 c)), .v (.int .u32 x.sp), .v (.int .i64 x.wt), .v (.int .u32 x.er), .v (.int .i64 t), .mp 1]
abbrev Nms:=List (ByteArray × Bool × Nat)
def shA (r:Bool × Nat):AV:= .g [.v (.bool r.1), .v (.int .i64 r.2)]
theorem zG (r:Bool × Nat):Clo (shA r):=by unfold shA;simp only [Wv.BC]
def nsE (ns:Nms):List (Value × AV):=ns.map fun p=>(.string p.1,shA p.2)
def hT (x:Par) (t:Int) (ns:Nms):Hp:=[some (.blk (tyC x t)),some (.map (nsE ns))]
theorem agz (x:Par) (t:Int):RnL id 2 (tyC x t) (tyC x t):=by
 have h:=iI x
 unfold fU at h
 simp only [List.mem_cons,List.not_mem_nil,or_false,forall_eq_or_imp,forall_eq] at h
 obtain ⟨h1,h2,h3,h4,h5,h6,h7⟩:=h
 exact ⟨.clo h1, .clo h2, .clo h3, .clo h4, .clo h5, .clo h6, .clo h7, .clo (.v _), .mp (by omega),trivial⟩
theorem rD (ns:Nms): ∀ a,a∈(nsE ns).map (·.2)→Clo a:=by
 intro a ha
 unfold nsE at ha
 rw [List.map_map] at ha
 obtain ⟨p,_,rfl⟩:=List.mem_map.1 ha
 exact zG _
theorem aiG (x:Par) (t:Int) (ns:Nms): ∀ (i:Nat) (o:Option Ob),(hT x t ns)[i]? =some o→ ∃ o',o=some o'∧RnO id (hT x t ns).length o' o':=by
 intro i o ho
 unfold hT at ho ⊢
 match i with
 | 0=>simp at ho;subst ho;exact ⟨_,rfl,agz x t⟩
 | 1=>simp at ho;subst ho;exact ⟨_,rfl,rfl,RnL.clo (rD ns)⟩
 | i+2=>simp at ho
theorem agA (x:Par) (t:Int):loL 2 (tyC x t):=by
 have h:=iI x
 unfold fU at h
 unfold loL tyC
 simp only [List.mem_cons,List.not_mem_nil,or_false,forall_eq_or_imp,forall_eq] at h ⊢
 obtain ⟨h1,h2,h3,h4,h5,h6,h7⟩:=h
 exact ⟨.clo h1, .clo h2, .clo h3, .clo h4, .clo h5, .clo h6, .clo h7, .clo (.v _), .mp (by omega)⟩
theorem MI (x:Par) (t:Int) (ns:Nms):loH (hT x t ns).length (hT x t ns):=⟨agA x t,fun a ha=> .clo (rD ns a ha),trivial⟩
def lq (t n:Int):Bool:=decide ((if 0 - n>n then 0 - n else n)≤(t - 1) / 2)
theorem UR (x:Par) (t:Int) (ns:Nms) (n:Int) (hn:inB n=true) (ht:1≤t) (ht':t≤4611686018427387904):RD Tryz.prog 212 [.ptr 0 0, .v (.int .i64 n)] (hT x t ns) (fun r=>r= .v (.bool (lq t n))) (fun _=>False):=by
 have hn': -4294967295≤n∧n≤4294967295:=by
  unfold inB at hn
  rw [Bool.and_eq_true] at hn
  exact ⟨of_decide_eq_true hn.1,of_decide_eq_true hn.2⟩
 refine RD.of ?_ (fun r q=>q▸ .clo Wv.c) (fun r q=>q.elim) (MI x t ns)
 unfold hT tyC
 refine Wv.HTP.by 16 [1,0,4] [(1000000,2)] [.tmp 4] Tryz.func212 rfl rfl rfl ?base ?_
 case base=>rfl
 have hq:(t - 1).tdiv 2=(t - 1) / 2:=Int.tdiv_eq_ediv_of_nonneg (by omega)
 simp (disch:=first|exact Wv.D|fail) only [Wv.B,simprocAttr,lq,hq]
def iU (x:Par) (t:Int) (ns:Nms) (fid:FuncId) (e:Ex) (unk:Nat) (o:Except Int Nat):Prop:=
 RD Tryz.prog fid [.ptr 0 0, .g (exC e), .v (.int .i64 unk)] (hT x t ns) (fun r=> ∃ d:Nat,o= .ok d∧r= .v (.int .i64 d)) (fun r=> ∃ e,o= .error e∧r=kN e)
theorem iU.of {x:Par} {t:Int} {ns:Nms} {fid:FuncId} {e:Ex} {unk:Nat} {o:Except Int Nat}
  (T:HTP Tryz.prog fid [.ptr 0 0, .g (exC e), .v (.int .i64 unk)] (hT x t ns) (fun r h'=>(∃ d:Nat,o= .ok d∧r= .v (.int .i64 d))∧h'.take 2=hT x t ns) (fun r h'=>(∃ e,o= .error e∧r=kN e)∧h'.take 2=hT x t ns)):iU x t ns fid e unk o:=
 RD.of T (by rintro r ⟨d,_,rfl⟩;exact .clo (.v _)) (by rintro r ⟨e,_,rfl⟩;exact .clo (gU e)) (MI x t ns)
theorem RD.hT {x:Par} {t:Int} {ns:Nms} {f:FuncId} {args:List AV} {R p:AV→Prop} (T:RD Tryz.prog f (.ptr 0 0::args) (hT x t ns) R p) (r:Hp) (ha: ∀ (a:AV),a∈args→Clo a) (hR: ∀ r,R r→Clo r) (hp: ∀ r,p r→Clo r):HTP Tryz.prog f (.ptr 0 0::args) (some (.blk (tyC x t))::some (.map (nsE ns))::r) (fun q h'=>R q∧h'=some (.blk (tyC x t))::some (.map (nsE ns))::r) (fun q h'=>p q∧h'=some (.blk (tyC x t))::some (.map (nsE ns))::r):=
 RD.ext T r ⟨.ptr (by show 0<2;omega),RnL.clo ha⟩ (aiG x t ns) hR hp
theorem bJ {h:Hp} {e:Int}:dS h (kN e)=some (kN e,h):=rfl
theorem vP (x:Par) (t:Int) (ns:Nms) (k:Int) (s:ByteArray) (n:Int) (nl:Nat) (li:Nat→Int) (na:Nat) (ar:Nat→Ex) (unk:Nat) (hn:inB n=true) (ht:1≤t) (ht':t≤4611686018427387904):
  iU x t ns 164 (.mk k s n nl li na ar) unk (if lq t n=true then .ok 0 else .error 233):=by
 refine iU.of ?_
 have T:=UR x t ns n hn ht ht'
 generalize hb:lq t n=b at*
 rw [dA]
 have hE:=RD.hT T
 unfold hT tyC at*
 refine Wv.HTP.by 12 [1,0,4,6] [(1000000,2)] [.tmp 6] Tryz.func164 rfl rfl rfl ?base ?_
 case base=>rfl
 refine Wv.W ?_
 refine bf (fst:=[]) (cap:=[]) (hE _ Wv.c (by rintro r rfl;simp only [Wv.BC]) (by rintro r h;exact h.elim)) ?_ (by rintro av h' ⟨h,_⟩;exact h.elim)
 rintro av h' ⟨rfl,rfl⟩
 refine Wv.W ?_
 refine bf (fst:=[]) (cap:=[]) (aZ b 233) ?_ ?_
 ·rintro av h' ⟨hb,rfl,rfl⟩
  subst hb
  refine Wv.W ?_
  exact ⟨0,rfl,rfl⟩
 ·rintro av h' ⟨hb,rfl,rfl⟩
  subst hb
  simp (disch:=first|exact Wv.D|fail) only [Wv.B,simprocAttr,bJ]
  exact ⟨233,rfl,rfl⟩
theorem sK (x:Par) (t:Int) (ns:Nms) (e:Ex) (he:okE e) (unk:Nat):
  iU x t ns 166 e unk (.ok (if unk<2 then 0 else 1)):=by
 refine iU.of ?_
 obtain ⟨k,s,n,nl,li,na,ar,rfl⟩:=nN he
 rw [dA]
 unfold hT tyC at*
 refine Wv.HTP.by 9 [1,2,8,6] [(1000000,2)] [.tmp 6] Tryz.func166 rfl rfl rfl ?base ?_
 case base=>rfl
 by_cases h:unk<2
 ·have h':(unk:Int)<2:=by omega
  simp (disch:=first|exact Wv.D|fail) only [Wv.B,simprocAttr,decide_eq_true h',if_pos h]
  exact ⟨0,rfl,rfl⟩
 ·have h': ¬ (unk:Int)<2:=by omega
  simp (disch:=first|exact Wv.D|fail) only [Wv.B,simprocAttr,decide_eq_false h',if_neg h]
  exact ⟨1,rfl,rfl⟩
def WC (n:Int):Bool:=decide (1≤n) && decide (n≤64)
theorem yM (x : Par) (t : Int) (ns : Nms) (k : Int) (s : ByteArray) (n : Int) (nl : Nat) (li : Nat → Int) (na : Nat) (ar : Nat → Ex) (unk : Nat) :
    iU x t ns 169 (.mk k s n nl li na ar) unk (if WC n = true then .ok (dD n) else .error 233) := by
  refine iU.of ?_
  rw [dA]
  unfold hT tyC at *
  have hp : WC n = (decide (1 ≤ n) && decide (n ≤ 64)) := rfl
  generalize WC n = b at *
  refine Wv.HTP.by 19 [1, 4, 6] [(1000000, 2)] [.tmp 6] Tryz.func169 rfl rfl rfl ?base ?_
  case base => rfl
  have fin : ∀ (K : AV → Hp → Prop), K (.v (.bool b)) [] → K (.v (.bool b)) [] := fun _ h => h
  cases h1 : decide (1 ≤ n) <;> cases h2 : decide (n ≤ 64)
  all_goals
    rw [h1, h2] at hp
    simp (disch:=first|exact Wv.D|fail) only [Wv.B, simprocAttr, h1, h2]
    refine bf (fst := []) (cap := []) (aZ _ 233) ?_ ?_
    · rintro av h' ⟨hb, rfl, rfl⟩
      first
      | exact absurd hb (by decide)
      | (have h3 := of_decide_eq_true h2
         refine Wv.W ?_
         refine ah (rC n (by omega)) rfl Wv.c Wv.c ?_
         simp (disch:=first|exact Wv.D|fail) only [Wv.B, simprocAttr, hp]
         exact ⟨_, rfl, rfl⟩)
    · rintro av h' ⟨hb, rfl, rfl⟩
      first
      | exact absurd hb (by decide)
      | (subst hp
         simp (disch:=first|exact Wv.D|fail) only [Wv.B, simprocAttr, bJ]
         exact ⟨233, rfl, rfl⟩)
end
section
open Go.ChangeShapes Go.WideShapes Go.ChangeAt Go.RowKit Go.Deep Wv
theorem ajU {α:Type} {l:List α} (h:l.length=7): ∃ a b c d e f g,l=[a,b,c,d,e,f,g]:=by
 match l,h with
 | [a,b,c,d,e,f,g],_=>exact ⟨a,b,c,d,e,f,g,rfl⟩
theorem CG {z:Int} (h:(Lit.int .u32 z).wf=true):0≤z∧z<4294967296:=by
 simp [Lit.wf,IntKind.min,IntKind.max,IntKind.bits,IntKind.signed] at h;omega
theorem aaI {z:Int} (h:(Lit.int .i64 z).wf=true): -9223372036854775808≤z∧z≤9223372036854775807:=by
 simp [Lit.wf,IntKind.min,IntKind.max,IntKind.bits,IntKind.signed] at h;omega
def aiH:List TypeId:=[3,22,23,25]
theorem adg:setB Tryz.prog aiH=true:=by kernel_rfl
theorem agB {l:List AV} (h:Sh Tryz.prog 25 l): ∃ x:Par,o8 x∧x.ch.length≤140737488351232∧(∀ q,q∈x.ch→q<4294967296)∧l=fU x:=by
 obtain ⟨hl,hf⟩:=wP Tryz.underlying25 h
 have hc:Tryz.prog.cellsOf 25=7:=by kernel_rfl
 rw [hc] at hl
 obtain ⟨a,b,c,d,e,f,g,rfl⟩:=ajU hl
 have c1:Tryz.prog.cellsOf 3=1:=by kernel_rfl
 have c2:Tryz.prog.cellsOf 22=1:=by kernel_rfl
 have c3:Tryz.prog.cellsOf 23=1:=by kernel_rfl
 have h0:Sh Tryz.prog 3 (([a,b,c,d,e,f,g].drop 0).take (Tryz.prog.cellsOf 3)):=hf 0 _ rfl
 have h1:Sh Tryz.prog 22 (([a,b,c,d,e,f,g].drop 1).take (Tryz.prog.cellsOf 22)):=hf 1 _ rfl
 have h2:Sh Tryz.prog 3 (([a,b,c,d,e,f,g].drop 2).take (Tryz.prog.cellsOf 3)):=hf 2 _ rfl
 have h3:Sh Tryz.prog 23 (([a,b,c,d,e,f,g].drop 3).take (Tryz.prog.cellsOf 23)):=hf 3 _ rfl
 have h4:Sh Tryz.prog 22 (([a,b,c,d,e,f,g].drop 4).take (Tryz.prog.cellsOf 22)):=hf 4 _ rfl
 have h5:Sh Tryz.prog 3 (([a,b,c,d,e,f,g].drop 5).take (Tryz.prog.cellsOf 3)):=hf 5 _ rfl
 have h6:Sh Tryz.prog 22 (([a,b,c,d,e,f,g].drop 6).take (Tryz.prog.cellsOf 22)):=hf 6 _ rfl
 rw [c1] at h0 h2 h5
 rw [c2] at h1 h4 h6
 rw [c3] at h3
 obtain ⟨z0,e0,w0⟩:=oJ Tryz.underlying3 h0
 obtain ⟨z1,e1,w1⟩:=oJ Tryz.underlying22 h1
 obtain ⟨z2,e2,w2⟩:=oJ Tryz.underlying3 h2
 obtain ⟨n3,f3,e3,w3,o3⟩:=UK Tryz.underlying23 Tryz.underlying22 (Nat.le_of_ble_eq_true (by kernel_rfl)) (by kernel_rfl) h3
 obtain ⟨z4,e4,w4⟩:=oJ Tryz.underlying22 h4
 obtain ⟨z5,e5,w5⟩:=oJ Tryz.underlying3 h5
 obtain ⟨z6,e6,w6⟩:=oJ Tryz.underlying22 h6
 have q0:[a]=[AV.v (.int .i64 z0)]:=e0
 have q1:[b]=[AV.v (.int .u32 z1)]:=e1
 have q2:[c]=[AV.v (.int .i64 z2)]:=e2
 have q3:[d]=[AV.t n3 1 (tab n3 fun i=> .v (.int .u32 (f3 i)))]:=e3
 have q4:[e]=[AV.v (.int .u32 z4)]:=e4
 have q5:[f]=[AV.v (.int .i64 z5)]:=e5
 have q6:[g]=[AV.v (.int .u32 z6)]:=e6
 simp only [List.cons.injEq,and_true] at q0 q1 q2 q3 q4 q5 q6
 subst q0 q1 q2 q3 q4 q5 q6
 have b0:=aaI w0
 have b1:=CG w1
 have b2:=aaI w2
 have b4:=CG w4
 have b6:=CG w6
 have hr:reachBytes=140737488351232:=rfl
 obtain ⟨p1,rfl⟩: ∃ n:Nat,z1=n:=⟨z1.toNat,by omega⟩
 obtain ⟨p4,rfl⟩: ∃ n:Nat,z4=n:=⟨z4.toNat,by omega⟩
 obtain ⟨p6,rfl⟩: ∃ n:Nat,z6=n:=⟨z6.toNat,by omega⟩
 have hch:((List.range n3).map fun i=>(f3 i).toNat).length=n3:=by rw [List.length_map,List.length_range]
 have hcl:(((List.range n3).map fun i=>(f3 i).toNat).map fun (c:Nat)=>AV.v (.int .u32 c))=tab n3 fun i=> .v (.int .u32 (f3 i)):=by
  rw [List.map_map]
  refine List.map_congr_left fun i hi=>?_
  have:=CG (o3 i (List.mem_range.1 hi))
  show AV.v (.int .u32 ((f3 i).toNat:Int))=_
  rw [Int.toNat_of_nonneg this.1]
 refine ⟨{n:=z0,p:=p1,r:=z2,ch:=(List.range n3).map fun i=>(f3 i).toNat,sp:=p4,wt:=z5,er:=p6},⟨b0.1,b0.2,by show p1<_;omega,b2.1,b2.2,by show p4<_;omega⟩,by rw [hch];omega,fun q hq=>?_,?_⟩
 ·obtain ⟨i,hi,rfl⟩:=List.mem_map.1 hq
  have:=CG (o3 i (List.mem_range.1 hi))
  omega
 ·unfold fU
  simp only
  rw [hch,hcl]
theorem acs {H:Type} {enc:TypeId × Value→H} {w:World} {base b0:Nat} {spare:Nat→Bool} {held:Bool} {r:Reach} {v:Value} {d:DataW H} {p:List MemPlace}
  (hv:Value.okWide Tryz.prog w r b0 25 v) (h:DataW.Trod enc Tryz.prog w base spare held 25 v d p) (hl:BF Tryz.prog 25 d): ∃ x:Par,o8 x∧x.ch.length≤140737488351232∧(∀ q,q∈x.ch→q<4294967296)∧Rep (BG w) (.g (fU x)) v:=by
 simp only [Value.okWide,Tryz.underlying25] at hv
 obtain ⟨cs,rfl,_,_⟩:=hv
 obtain ⟨fuel,hf⟩:=h
 obtain ⟨l,s1,s2,s3⟩:=reads adg fuel _ _ _ (by unfold aiH;simp) hf hl
 obtain ⟨x,h1,h2,h3,rfl⟩:=agB s1
 refine ⟨x,h1,h2,h3,?_⟩
 have e:(Value.agg cs)= .agg cs.toList.toArray:=by simp
 rw [e]
 exact .g s2.1 s2.2
end
section
end
section
open Go.RowKit Wv
theorem WE:TC Tryz.prog 175 [] (bn 12 w12):=by
 have e:bn 12 w12= .t 12 1 [.v (.string ⟨#[99,105,114,99,117,105,116]⟩), .v (.string ⟨#[105,110,112,117,116]⟩), .v (.string ⟨#[108,101,116]⟩), .v (.string ⟨#[111,117,116,112,117,116]⟩), .v (.string ⟨#[114,111,116]⟩), .v (.string ⟨#[115,119,97,112]⟩), .v (.string ⟨#[109,97,115,107]⟩), .v (.string ⟨#[116,97,98,108,101]⟩), .v (.string ⟨#[101,113]⟩), .v (.string ⟨#[108,101,115,115]⟩), .v (.string ⟨#[112,111,119]⟩), .v (.string ⟨#[115,117,109]⟩)]:=rfl
 rw [e]
 refine Wv.TC.by 2 [0] [] [.tmp 0] Tryz.func175 rfl rfl rfl ?clo ?_
 case clo=>simp only [Wv.BC]
 exact Wv.V
theorem jf {a b:AV} (h1:Clo a) (h2:Clo b): ∀ x,x∈[a,b]→Clo x:=by simp only [Wv.BC];exact ⟨h1,h2⟩
theorem MJ {α:Type} [DecidableEq α] (a b:α):decide (a=b)=decide (b=a):=by
 by_cases h:a=b
 ·rw [decide_eq_true h,decide_eq_true h.symm]
 ·rw [decide_eq_false h,decide_eq_false fun q=>h q.symm]
theorem jl {n i:Nat} {p:Nat→Bool} (hi:i<n) (h:p i=true):bg n p=true:=by
 unfold bg;exact List.any_eq_true.2 ⟨i,List.mem_range.2 hi,h⟩
theorem fO {n:Nat} {p:Nat→Bool} (h: ∀ i,i<n→p i=false):bg n p=false:=by
 unfold bg;exact List.any_eq_false.2 fun i hi=>by simp [h i (List.mem_range.1 hi)]
theorem agC (n:Nat) (f:Nat→ByteArray) (s:ByteArray) (hn:n≤140737488351232):TC Tryz.prog 174 [bn n f, .v (.string s)] (.v (.bool (bg n fun i=>decide (s=f i)))):=by
 obtain ⟨B,hB⟩: ∃ B,B=bg n fun i=>decide (s=f i):=⟨_,rfl⟩
 rw [←hB]
 unfold bn
 refine Wv.TC.by 18 [5,0,9,1,17,4] [] [.tmp 4] Tryz.func174 rfl rfl rfl ?clo ?_
 case clo=>simp only [Wv.BC]
 refine Wv.W ?_
 refine dQ (σ:=Nat) (fun i=>[(0, .t n 1 (tab n fun i=> .v (.string (f i)))),(1, .v (.string s)),(5, .v (.int .i64 i))]) (fun _=>[])
  (fun i=>i≤n∧ ∀ j,j<i→decide (s=f j)=false) (fun i=>n - i) 0 ⟨Nat.zero_le _,fun j hj=>by omega⟩ rfl Wv.V ?_
 rintro i ⟨hi,hbef⟩
 by_cases hlt:i<n
 ·have e1:(i:Int)<n:=by omega
  have hcm:=MJ (f i) s
  cases hq:decide (s=f i) with
  | true=>
   rw [hq] at hcm
   have hA:=jl (p:=fun i=>decide (s=f i)) hlt hq
   simp (disch:=first|exact Wv.D|fail) only [Wv.B,simprocAttr,decide_eq_true e1,hcm]
   rw [hB,hA]
  | false=>
   rw [hq] at hcm
   simp (disch:=first|exact Wv.D|fail) only [Wv.B,simprocAttr,decide_eq_true e1,hcm]
   refine aH (i+1) ⟨by omega,fun j hj=>?_⟩ (by omega) rfl Wv.V2
   by_cases e:j=i
   ·subst e;exact hq
   ·exact hbef j (by omega)
 ·obtain rfl:n=i:=by omega
  have hA:=fO (p:=fun i=>decide (s=f i)) hbef
  simp (disch:=first|exact Wv.D|fail) only [Wv.B,simprocAttr,Int.lt_irrefl,decide_false]
  rw [hB,hA]
theorem vS (s:ByteArray) (hs:s.size≤140737488351232):TC Tryz.prog 111 [.v (.string s)] (.v (.bool (nameB s))):=by
 have hN:nameB s=(!(decide (s=⟨#[]⟩) || (decide (16<s.size) || (!wQ (byt s 0) || (bg 4 (fun i=>decide (s=w4 i)) || bg 16 (fun i=>decide (s=w16 i)))))) && !bg s.size fun i=>!ku s i):=rfl
 have hwc:Clo (bn 12 w12):=jL 12 w12
 refine Wv.TC.by 46 [0,21,3,25,45,2] [] [.tmp 2] Tryz.func111 rfl rfl rfl ?clo ?_
 case clo=>simp only [Wv.BC]
 cases h1:decide (s=⟨#[]⟩) with
 | true=>
  rw [h1,Bool.true_or,Bool.not_true,Bool.false_and] at hN
  simp (disch:=first|exact Wv.D|fail) only [Wv.B,simprocAttr,h1,hN]
 | false=>
  rw [OD s (of_decide_eq_false h1)] at hN
  have TI:=agC 12 w12 s (by omega)
  cases h2:decide (16<s.size) with
  | true=>
   have h2':(s.size:Int)>16:=by have:=of_decide_eq_true h2;omega
   rw [h1,h2,Bool.false_or,Bool.true_or,Bool.not_true,Bool.false_and] at hN
   simp (disch:=first|exact Wv.D|fail) only [Wv.B,simprocAttr,h1,h2,decide_eq_true h2',hN]
  | false=>
   have h2': ¬ (s.size:Int)>16:=by have:=of_decide_eq_false h2;omega
   have hsz:s.size≠0:=fun e=>of_decide_eq_false h1 (by cases s with | mk d=>simp [ByteArray.size] at e;rw [e])
   obtain ⟨c,hc,hb⟩:=GV (b:=s) (i:=0) (by omega)
   simp (disch:=first|exact Wv.D|fail) only [Wv.B,simprocAttr,h1,h2,decide_eq_false h2',hc,hb]
   refine ah (BM (byt s 0)) rfl Wv.c Wv.c ?_
   cases h3:wQ (byt s 0) with
   | false=>
    rw [h1,h2,h3,Bool.false_or,Bool.false_or,Bool.not_false,Bool.true_or,Bool.not_true,Bool.false_and] at hN
    simp (disch:=first|exact Wv.D|fail) only [Wv.B,simprocAttr,hN]
   | true=>
    refine Wv.W ?_
    refine ah WE rfl Wv.c hwc ?_
    refine Wv.W ?_
    refine ah TI rfl (jf hwc (.v _)) Wv.c ?_
    cases h4:bg 12 (fun i=>decide (s=w12 i)) with
    | true=>
     rw [h1,h2,h3,h4,Bool.false_or,Bool.false_or,Bool.not_true,Bool.false_or,Bool.not_true,Bool.false_and] at hN
     simp (disch:=first|exact Wv.D|fail) only [Wv.B,simprocAttr,hN]
    | false=>
     rw [h1,h2,h3,h4,Bool.false_or,Bool.false_or,Bool.not_true,Bool.false_or,Bool.not_false,Bool.true_and] at hN
     clear h1 h2 h3 h4 hc hb TI hwc
     refine Wv.W ?_
     refine dQ (σ:=Nat) (fun i=>[(0, .v (.string s)),(3, .v (.int .i64 i))]) (fun _=>[])
      (fun i=>i≤s.size∧ ∀ j,j<i→ku s j=true) (fun i=>s.size - i) 0 ⟨Nat.zero_le _,fun j hj=>by omega⟩ rfl Wv.V ?_
     rintro i ⟨hi,hj⟩
     by_cases hlt:i<s.size
     ·have e1:(i:Int)<s.size:=by omega
      obtain ⟨c,hc,hb⟩:=GV hlt
      simp (disch:=first|exact Wv.D|fail) only [Wv.B,simprocAttr,decide_eq_true e1,hc,hb]
      refine ah (BM (byt s i)) rfl Wv.c Wv.c ?_
      cases h3:wQ (byt s i) with
      | true=>
       simp (disch:=first|exact Wv.D|fail) only [Wv.B,simprocAttr,hc,hb]
       refine aH (i+1) ⟨by omega,fun j q=>?_⟩ (by omega) rfl Wv.V2
       by_cases e:j=i
       ·subst e;unfold ku;rw [h3];rfl
       ·exact hj j (by omega)
      | false=>
       simp (disch:=first|exact Wv.D|fail) only [Wv.B,simprocAttr,hc,hb]
       refine ah (V9 (byt s i)) rfl Wv.c Wv.c ?_
       cases h4:Oy (byt s i) with
       | true=>
        simp (disch:=first|exact Wv.D|fail) only [Wv.B,simprocAttr,hc,hb]
        refine aH (i+1) ⟨by omega,fun j q=>?_⟩ (by omega) rfl Wv.V2
        by_cases e:j=i
        ·subst e;unfold ku;rw [h3,h4];rfl
        ·exact hj j (by omega)
       | false=>
        cases h5:decide (byt s i=95) with
        | true=>
         simp (disch:=first|exact Wv.D|fail) only [Wv.B,simprocAttr,hc,hb,h5]
         refine aH (i+1) ⟨by omega,fun j q=>?_⟩ (by omega) rfl Wv.V2
         by_cases e:j=i
         ·subst e;unfold ku;rw [h3,h4,h5];rfl
         ·exact hj j (by omega)
        | false=>
         have hA:bg s.size (fun i=>!ku s i)=true:=jl (p:=fun i=>!ku s i) hlt (by unfold ku;rw [h3,h4,h5];rfl)
         rw [hA,Bool.not_true] at hN
         simp (disch:=first|exact Wv.D|fail) only [Wv.B,simprocAttr,hc,hb,h5,hN]
     ·obtain rfl:i=s.size:=by omega
      have hA:bg s.size (fun i=>!ku s i)=false:=fO fun i hi=>by rw [hj i hi];rfl
      rw [hA,Bool.not_false] at hN
      simp (disch:=first|exact Wv.D|fail) only [Wv.B,simprocAttr,Int.lt_irrefl,decide_false,hN]
theorem yN (n:Int):TC Tryz.prog 178 [.v (.int .i64 n)] (.v (.bool (inB n))):=by
 refine Wv.TC.by 9 [0,2] [] [.tmp 2] Tryz.func178 rfl rfl rfl ?clo ?_
 case clo=>simp only [Wv.BC]
 unfold inB
 by_cases h: -4294967295≤n
 ·simp (disch:=first|exact Wv.D|fail) only [Wv.B,simprocAttr,decide_eq_true h,show (n≥ -4294967295)=(-4294967295≤n) from rfl]
 ·simp (disch:=first|exact Wv.D|fail) only [Wv.B,simprocAttr,decide_eq_false h,show (n≥ -4294967295)=(-4294967295≤n) from rfl]
def aaJ (k:Int):Int:=if 1≤k∧k≤15 then argN k.toNat else -1
theorem kinds {k:Int} (h:1≤k∧k≤15):k=1∨k=2∨k=3∨k=4∨k=5∨k=6∨k=7∨k=8∨k=9∨k=10∨k=11∨k=12∨k=13∨k=14∨k=15:=by omega
theorem aaK (k:Int):TC Tryz.prog 177 [.v (.int .i64 k)] (.v (.int .i64 (aaJ k))):=by
 refine Wv.TC.by 22 [0,3,4,8,17,2] [] [.tmp 2] Tryz.func177 rfl rfl rfl ?clo ?_
 case clo=>simp only [Wv.BC]
 by_cases h:1≤k∧k≤15
 ·rcases kinds h with rfl | rfl | rfl | rfl | rfl | rfl | rfl | rfl | rfl | rfl | rfl | rfl | rfl | rfl | rfl<;>simp (disch:=first|exact Wv.D|fail) only [Wv.B,simprocAttr,aaJ,argN,Int.reduceToNat]
 ·have hR:aaJ k= -1:=if_neg h
  simp (disch:=first|exact Wv.D|fail) only [Wv.B,simprocAttr,hR,decide_eq_false (show ¬ k=1 by omega),decide_eq_false (show ¬ k=2 by omega),decide_eq_false (show ¬ k=3 by omega),decide_eq_false (show ¬ k=4 by omega),decide_eq_false (show ¬ k=5 by omega),decide_eq_false (show ¬ k=6 by omega),decide_eq_false (show ¬ k=7 by omega),decide_eq_false (show ¬ k=8 by omega),decide_eq_false (show ¬ k=9 by omega),decide_eq_false (show ¬ k=10 by omega),decide_eq_false (show ¬ k=11 by omega),decide_eq_false (show ¬ k=12 by omega),decide_eq_false (show ¬ k=13 by omega),decide_eq_false (show ¬ k=14 by omega),decide_eq_false (show ¬ k=15 by omega)]
theorem OT (k:Int) (h:1≤k∧k≤15):TC Tryz.prog 179 [.v (.int .i64 k)] (.v (.bool (BN k.toNat))):=by
 refine Wv.TC.by 17 [0,2] [] [.tmp 2] Tryz.func179 rfl rfl rfl ?clo ?_
 case clo=>simp only [Wv.BC]
 rcases kinds h with rfl | rfl | rfl | rfl | rfl | rfl | rfl | rfl | rfl | rfl | rfl | rfl | rfl | rfl | rfl<;>simp (disch:=first|exact Wv.D|fail) only [Wv.B,simprocAttr,BN,Int.reduceToNat]
theorem MK (k:Int) (h:1≤k∧k≤15):TC Tryz.prog 180 [.v (.int .i64 k)] (.v (.bool (BO k.toNat))):=by
 refine Wv.TC.by 13 [0,2] [] [.tmp 2] Tryz.func180 rfl rfl rfl ?clo ?_
 case clo=>simp only [Wv.BC]
 rcases kinds h with rfl | rfl | rfl | rfl | rfl | rfl | rfl | rfl | rfl | rfl | rfl | rfl | rfl | rfl | rfl<;>simp (disch:=first|exact Wv.D|fail) only [Wv.B,simprocAttr,BO,Int.reduceToNat]
end
end Go.Proofs.YtljfgdlgmdcmfaaGreat
