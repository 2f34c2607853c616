/- Parts of a proof. -/
import Derived.Shelf.SlLaysM
import Derived.Shelf.SortM.WalkA6In
import Derived.Sort.Walk0
import Derived.OwnWalkIn
import Derived.TacticsInMore
import Derived.RegionIn
import Derived.LoopNIn
import Derived.LoopIn
import Derived.Sort.CutIn
import Derived.Sort.QuietIn
import Derived.Sort.AtCallIn
import Derived.Shelf.RegionOpen
import Derived.Shelf.AbstractIn
import Derived.Sort.WalkA
import Derived.Sort.BigQuietIn
import Derived.Sort.WalkA6
import Derived.Sort.Walk7a
import Derived.Shelf.SortM.So_math_bits_LenIn
import Derived.Shelf.SortM.Walk7aIn
import Derived.Sort.Walk7
import Derived.Sort.WalkB12
import Derived.Sort.WalkB2
import Derived.Sort.WalkB3
import Derived.Sort.WalkC
import Derived.Sort.WalkC4
set_option maxHeartbeats 32000000
set_option maxRecDepth 1000000
namespace Go.Proofs.YtljfgdlgmdcmfaaGreat
section
open Go.Shelf Go.Proofs
abbrev fF (ρ :Ren):List FuncId:=[ρ.f 5, ρ.f 7, ρ.f 8, ρ.f 10, ρ.f 11, ρ.f 12, ρ.f 13, ρ.f 14, ρ.f 15, ρ.f 16, ρ.f 17, ρ.f 18, ρ.f 20, ρ.f 30, ρ.f 31, ρ.f 32, ρ.f 33, ρ.f 34, ρ.f 35, ρ.f 40]
structure SlLaysU.n5 (P:Program) (ρ :Ren):Prop where
 mixed:P.follows .mixedOrders=true
 f5:Bears P (ρ.f 5) (SlBodyM.n5 ρ)
 f7:Bears P (ρ.f 7) (SlBodyM.n7 ρ)
 f8:P.funcs[ρ.f 8]? =some (SlBodyM.n8 ρ)
 f10:Bears P (ρ.f 10) (SlBodyM.n10 ρ)
 f11:Bears P (ρ.f 11) (SlBodyM.n11 ρ)
 f12:Bears P (ρ.f 12) (SlBodyM.n12 ρ)
 f13:Bears P (ρ.f 13) (SlBodyM.n13 ρ)
 f14:Bears P (ρ.f 14) (SlBodyM.n14 ρ)
 f15:Bears P (ρ.f 15) (SlBodyM.n15 ρ)
 f16:Bears P (ρ.f 16) (SlBodyM.n16 ρ)
 f17:Bears P (ρ.f 17) (SlBodyM.n17 ρ)
 f18:Bears P (ρ.f 18) (SlBodyM.n18 ρ)
 f19:P.funcs[ρ.f 19]? =some (SlBodyM.n19 ρ)
 f20:P.funcs[ρ.f 20]? =some (SlBodyM.n20 ρ)
 f30:Bears P (ρ.f 30) (SlBodyM.n30 ρ)
 f31:P.funcs[ρ.f 31]? =some (SlBodyM.n31 ρ)
 f32:P.funcs[ρ.f 32]? =some (SlBodyM.n32 ρ)
 f33:Bears P (ρ.f 33) (SlBodyM.n33 ρ)
 f34:Bears P (ρ.f 34) (SlBodyM.n34 ρ)
 f35:Bears P (ρ.f 35) (SlBodyM.n35 ρ)
 f40:Bears P (ρ.f 40) (SlBodyM.n40 ρ)
 t0:P.underlying (ρ.t 0)=some (TypeDesc.tuple #[])
 a0: ∀ w,(isAgg (ρ.t 0)).run P w= .ok false w
 z0: ∀ w,(Go.sizeOf (ρ.t 0)).run P w= .ok 1 w
 v0: ∀ w,(zeroValue (ρ.t 0)).run P w= .ok (Value.tuple #[]) w
 t3:P.underlying (ρ.t 3)=some (TypeDesc.int IntKind.i64)
 a3: ∀ w,(isAgg (ρ.t 3)).run P w= .ok false w
 z3: ∀ w,(Go.sizeOf (ρ.t 3)).run P w= .ok 1 w
 v3: ∀ w,(zeroValue (ρ.t 3)).run P w= .ok (Value.int IntKind.i64 0) w
 t4:P.underlying (ρ.t 4)=some (TypeDesc.bool)
 a4: ∀ w,(isAgg (ρ.t 4)).run P w= .ok false w
 z4: ∀ w,(Go.sizeOf (ρ.t 4)).run P w= .ok 1 w
 v4: ∀ w,(zeroValue (ρ.t 4)).run P w= .ok (Value.bool false) w
 t5:P.underlying (ρ.t 5)=some (TypeDesc.int IntKind.u8)
 a5: ∀ w,(isAgg (ρ.t 5)).run P w= .ok false w
 z5: ∀ w,(Go.sizeOf (ρ.t 5)).run P w= .ok 1 w
 v5: ∀ w,(zeroValue (ρ.t 5)).run P w= .ok (Value.int IntKind.u8 0) w
 t9:P.underlying (ρ.t 9)=some (TypeDesc.string)
 a9: ∀ w,(isAgg (ρ.t 9)).run P w= .ok false w
 z9: ∀ w,(Go.sizeOf (ρ.t 9)).run P w= .ok 1 w
 v9: ∀ w,(zeroValue (ρ.t 9)).run P w= .ok (Value.string {data:= #[]}) w
 t22:P.underlying (ρ.t 22)=some (TypeDesc.slice (ρ.t 25))
 a22: ∀ w,(isAgg (ρ.t 22)).run P w= .ok false w
 z22: ∀ w,(Go.sizeOf (ρ.t 22)).run P w= .ok 1 w
 v22: ∀ w,(zeroValue (ρ.t 22)).run P w= .ok (Value.slice none 0 0) w
 t23:P.underlying (ρ.t 23)=some (TypeDesc.slice (ρ.t 25))
 a23: ∀ w,(isAgg (ρ.t 23)).run P w= .ok false w
 z23: ∀ w,(Go.sizeOf (ρ.t 23)).run P w= .ok 1 w
 v23: ∀ w,(zeroValue (ρ.t 23)).run P w= .ok (Value.slice none 0 0) w
 t25:P.underlying (ρ.t 25)=some (TypeDesc.int IntKind.u32)
 a25: ∀ w,(isAgg (ρ.t 25)).run P w= .ok false w
 z25: ∀ w,(Go.sizeOf (ρ.t 25)).run P w= .ok 1 w
 v25: ∀ w,(zeroValue (ρ.t 25)).run P w= .ok (Value.int IntKind.u32 0) w
 t32:P.underlying (ρ.t 32)=some (TypeDesc.int IntKind.u64)
 a32: ∀ w,(isAgg (ρ.t 32)).run P w= .ok false w
 z32: ∀ w,(Go.sizeOf (ρ.t 32)).run P w= .ok 1 w
 v32: ∀ w,(zeroValue (ρ.t 32)).run P w= .ok (Value.int IntKind.u64 0) w
 t35:P.underlying (ρ.t 35)=some (TypeDesc.int IntKind.i64)
 a35: ∀ w,(isAgg (ρ.t 35)).run P w= .ok false w
 z35: ∀ w,(Go.sizeOf (ρ.t 35)).run P w= .ok 1 w
 v35: ∀ w,(zeroValue (ρ.t 35)).run P w= .ok (Value.int IntKind.i64 0) w
 t36:P.underlying (ρ.t 36)=some (TypeDesc.tuple #[ρ.t 3, ρ.t 35])
 a36: ∀ w,(isAgg (ρ.t 36)).run P w= .ok false w
 z36: ∀ w,(Go.sizeOf (ρ.t 36)).run P w= .ok 1 w
 v36: ∀ w,(zeroValue (ρ.t 36)).run P w= .ok (Value.tuple #[Value.int IntKind.i64 0,Value.int IntKind.i64 0]) w
 t41:P.underlying (ρ.t 41)=some (TypeDesc.tuple #[ρ.t 3, ρ.t 4])
 a41: ∀ w,(isAgg (ρ.t 41)).run P w= .ok false w
 z41: ∀ w,(Go.sizeOf (ρ.t 41)).run P w= .ok 1 w
 v41: ∀ w,(zeroValue (ρ.t 41)).run P w= .ok (Value.tuple #[Value.int IntKind.i64 0,Value.bool false]) w
 t44:P.underlying (ρ.t 44)=some (TypeDesc.int IntKind.u32)
 a44: ∀ w,(isAgg (ρ.t 44)).run P w= .ok false w
 z44: ∀ w,(Go.sizeOf (ρ.t 44)).run P w= .ok 1 w
 v44: ∀ w,(zeroValue (ρ.t 44)).run P w= .ok (Value.int IntKind.u32 0) w
 t46:P.underlying (ρ.t 46)=some (TypeDesc.int IntKind.u64)
 a46: ∀ w,(isAgg (ρ.t 46)).run P w= .ok false w
 z46: ∀ w,(Go.sizeOf (ρ.t 46)).run P w= .ok 1 w
 v46: ∀ w,(zeroValue (ρ.t 46)).run P w= .ok (Value.int IntKind.u64 0) w
 t53:P.underlying (ρ.t 53)=some (TypeDesc.int IntKind.u64)
 a53: ∀ w,(isAgg (ρ.t 53)).run P w= .ok false w
 z53: ∀ w,(Go.sizeOf (ρ.t 53)).run P w= .ok 1 w
 v53: ∀ w,(zeroValue (ρ.t 53)).run P w= .ok (Value.int IntKind.u64 0) w
 t57:P.underlying (ρ.t 57)=some (TypeDesc.pointer (ρ.t 3))
 a57: ∀ w,(isAgg (ρ.t 57)).run P w= .ok false w
 z57: ∀ w,(Go.sizeOf (ρ.t 57)).run P w= .ok 1 w
 v57: ∀ w,(zeroValue (ρ.t 57)).run P w= .ok (Value.pointer none) w
 t63:P.underlying (ρ.t 63)=some (TypeDesc.pointer (ρ.t 53))
 a63: ∀ w,(isAgg (ρ.t 63)).run P w= .ok false w
 z63: ∀ w,(Go.sizeOf (ρ.t 63)).run P w= .ok 1 w
 v63: ∀ w,(zeroValue (ρ.t 63)).run P w= .ok (Value.pointer none) w
 t64:P.underlying (ρ.t 64)=some (TypeDesc.tuple #[ρ.t 3, ρ.t 3])
 a64: ∀ w,(isAgg (ρ.t 64)).run P w= .ok false w
 z64: ∀ w,(Go.sizeOf (ρ.t 64)).run P w= .ok 1 w
 v64: ∀ w,(zeroValue (ρ.t 64)).run P w= .ok (Value.tuple #[Value.int IntKind.i64 0,Value.int IntKind.i64 0]) w
end
section
open Go.Proofs
abbrev bC:Int→Value:=Value.int .u32
section
open Go.Shelf
variable {P:Program} {ρ :Ren}
theorem AnySM.cmp_isNaN_intIn (Ly:SlLaysU.n5 P ρ) (D:Nat) (x:Int) (w:World):CallsIn (Fence.list (fF ρ) (some D)) 0 P (ρ.f 35) #[.int .u32 x] w fun e w'=>e= .returned (.bool false)∧w'=w:=by
 have mixed:=Ly.mixed
 have t4:=Ly.t4;have a4:=Ly.a4;have z4:=Ly.z4;have v4:=Ly.v4;have t25:=Ly.t25;have a25:=Ly.a25;have z25:=Ly.z25;have v25:=Ly.v25
 obtain ⟨_,_,FG⟩:=Ly.f35
 gi_enter FG,SlBodyM.n35_ntmps ρ
 gi_wp2
 go_ret
 exact ⟨by simp,rfl⟩
theorem AnySM.cmp_Less_intIn (Ly:SlLaysU.n5 P ρ) (D:Nat) (x y:Int) (w:World):CallsIn (Fence.list (fF ρ) (some D)) 1 P (ρ.f 16) #[.int .u32 x, .int .u32 y] w fun e w'=>e= .returned (.bool (Sort.ltInt x y))∧w'=w:=by
 have mixed:=Ly.mixed
 have t4:=Ly.t4;have a4:=Ly.a4;have z4:=Ly.z4;have v4:=Ly.v4;have t25:=Ly.t25;have a25:=Ly.a25;have z25:=Ly.z25;have v25:=Ly.v25
 have e215: ∀ args w,(callFunc (ρ.f 35) args).run P w= .ok (.enter (ρ.f 35) args) w:=Ly.f35.enters rfl
 obtain ⟨_,_,FG⟩:=Ly.f16
 gi_enter FG,SlBodyM.n16_ntmps ρ
 gi_wp2_with (gi_at_fn (ρ.f 35);refine (AnySM.cmp_isNaN_intIn {Ly with} D _ _).mono ?_;rintro e w' ⟨rfl,rfl⟩)
 go_ret
 exact ⟨rfl,rfl⟩
end
section
open Go.Shelf
variable {P:Program} {ρ :Ren}
open Go.RowKit Go.Sort
section
variable {α:Type} [Inhabited α] (lt:α→α→Bool)
end
section
variable {α:Type} [Inhabited α] (enc:α→Value)
end
theorem AnySM.insertionSort_intIn (Ly:SlLaysU.n5 P ρ) (D:Nat) (blk off cap a b:Nat) (d:Array Int) (w:World) (hH:Holds (Value.int .u32) w blk off d) (hab:a≤b) (hb:b≤d.size) (hsz:d.size<4611686018427387904):
  CallsIn (Fence.list (fF ρ) (some D)) 2 P (ρ.f 10) #[.slice (some ⟨blk,off,none⟩) d.size cap, .int .i64 a, .int .i64 b] w fun e w'=>
   e= .returned (.tuple #[])∧ ∃ n,w'=putRow (Value.int .u32) (Sort.ahead w n) blk off (Sort.insertionSort ltInt d a b):=by
 have mixed:=Ly.mixed
 have t0:=Ly.t0;have a0:=Ly.a0;have z0:=Ly.z0;have v0:=Ly.v0;have t3:=Ly.t3;have a3:=Ly.a3;have z3:=Ly.z3;have v3:=Ly.v3;have t4:=Ly.t4;have a4:=Ly.a4;have z4:=Ly.z4;have v4:=Ly.v4;have t22:=Ly.t22;have a22:=Ly.a22;have z22:=Ly.z22;have v22:=Ly.v22;have t25:=Ly.t25;have a25:=Ly.a25;have z25:=Ly.z25;have v25:=Ly.v25
 have e216: ∀ args w,(callFunc (ρ.f 16) args).run P w= .ok (.enter (ρ.f 16) args) w:=Ly.f16.enters rfl
 obtain ⟨_,_,FG⟩:=Ly.f10
 gi_enter FG,SlBodyM.n10_ntmps ρ
 gi_wp2
 gi_loopw [6] (fun vi wr=> ∃ (i n:Nat) (dk:Array Int),vi= .int .i64 i∧a<i∧i≤b+1∧dk.size=d.size∧wr=putRow (Value.int .u32) (Sort.ahead w n) blk off dk∧
   insOuter ltInt a b i dk=insOuter ltInt a b (a+1) d) (fun vi _=>b+1 - (intOf vi).toNat)
 case atStart=>exact ⟨a+1,0,d,by go_num,by omega,by omega,rfl,(putRow_self _ _ _ _ _ hH).symm,rfl⟩
 case round=>
  obtain ⟨i,n,dk,rfl,hai,hib,hsk,hwr,hO⟩:=hrel
  have HO:Hid (insOuter ltInt a b i dk=insOuter ltInt a b (a+1) d):=hO
  clear hO
  gi_wp2
  ·
   gi_loopw [7] (fun vj wr2=> ∃ (j m:Nat) (dj:Array Int),vj= .int .i64 j∧a≤j∧j≤i∧dj.size=d.size∧wr2=putRow (Value.int .u32) (Sort.ahead w m) blk off dj∧
     insInner ltInt a j dj=insInner ltInt a i dk) (fun vj _=>(intOf vj).toNat)
   case atStart=>exact ⟨i,n,dk,rfl,by omega,Nat.le_refl _,hsk,rfl,rfl⟩
   case round=>
    obtain ⟨j,m,dj,rfl,haj,hji,hsj,hw2,hI⟩:=hrel
    have hlt:i<b:=by assumption
    obtain ⟨G,hG⟩: ∃ G:Nat→Int, ∀ t,G t=dj[t]! :=⟨fun t=>dj[t]!,fun _=>rfl⟩
    have hcw: ∀ t,t<d.size→wr.cell? ⟨blk,off+t,none⟩=some (.int .u32 (G t)):=fun t ht=>by
     rw [hw2,hG];exact cell?_putRow _ _ _ _ d dj (holds_ahead _ _ _ _ _ _ hH) hsj t (by omega)
    have hfw: ∀ t,t<d.size→wr.frozen? ⟨blk,off+t,none⟩=false:=fun t ht=>by
     rw [hw2,frozen?_putRow];exact ((holds_ahead _ _ m _ _ _ hH) t ht).2
    have HW:Hid (wr=putRow (Value.int .u32) (Sort.ahead w m) blk off dj):=hw2
    have HG:Hid (∀ t,G t=dj[t]!):=hG
    have HI:Hid (insInner ltInt a j dj=insInner ltInt a i dk):=hI
    clear hw2 hG hI hH
    have out:(j≤a∨ltInt dj[j]! dj[j - 1]! =false)→ ∀ q, ∃ i' n' dk',Value.int .i64 ((i:Int)+1)= .int .i64 (i':Nat)∧a<i'∧i'≤b+1∧dk'.size=d.size∧
      wr.drewN q=putRow (Value.int .u32) (Sort.ahead w n') blk off dk'∧insOuter ltInt a b i' dk'=insOuter ltInt a b (a+1) d:=fun hs q=>
     ⟨i+1,m+q,dj,by go_num,by omega,by omega,hsj,by rw [HW.out];exact putRow_drewN _ _ _ _ _ _ _,
      by rw [←HO.out,insOuter_go _ _ _ _ _ hlt, ←HI.out,insInner_stop _ _ _ _ hs]⟩
    have OUT:Hid _:=out
    clear out
    gi_wp2
    by_cases hja:a<j
    ·gi_big_quiet_th_o (first | (gi_at_fn (ρ.f 16);refine CallsIn.quiet_of_same (AnySM.cmp_Less_intIn {Ly with} D _ _ _)))
     gi_wp2
     ·
      have hl:ltInt (G j) (G (j - 1))=true:=by assumption
      gi_region_o
      all_goals gi_wp2
      go_roundw
      case rel=>
       refine ⟨j - 1,m+(nq+1),swp dj j (j - 1),by congr 1;omega,by omega,by omega,by rw [size_swp];exact hsj,?_,?_⟩
       ·rw [HW.out,HG.out,HG.out]
        exact swap_worldA _ w m (nq+1) blk off dj j (j - 1) (by omega) (by omega)
       ·rw [←HI.out,insInner_go ltInt a j dj hja (by rw [←HG.out, ←HG.out];exact hl)]
      case measure=>simp [intOf];omega
     ·
      have hl:ltInt (G j) (G (j - 1))=false:=by assumption
      go_roundw
      case rel=>exact OUT.out (Or.inr (by rw [←HG.out, ←HG.out];exact hl)) nq
      case measure=>simp [intOf];omega
    ·gi_big_quiet_th_o (first | (gi_at_fn (ρ.f 16);refine CallsIn.quiet_of_same (AnySM.cmp_Less_intIn {Ly with} D _ _ _)))
     gi_wp2
     go_roundw
     case rel=>exact OUT.out (Or.inl (by omega)) nq
     case measure=>simp [intOf];omega
  ·
   have hge: ¬ i<b:=by assumption
   go_end0
   exact ⟨rfl,n,by unfold Sort.insertionSort;rw [←HO.out,insOuter_stop _ _ _ _ _ hge]⟩
end
section
open Go.Shelf
variable {P:Program} {ρ :Ren}
open Go.RowKit Go.Sort
section
variable {α:Type} [Inhabited α] (lt:α→α→Bool)
end
section
variable {α:Type} [Inhabited α] (lt:α→α→Bool)
end
theorem AnySM.partialInsertionSort_intIn (Ly : SlLaysU.n5 P ρ) (D : Nat) (blk off cap a b : Nat) (d : Array Int) (w : World) (hH : Holds (Value.int .u32) w blk off d) (hab : a < b) (hb : b ≤ d.size) (hsz : d.size < 4611686018427387904) :
    CallsIn (Fence.list (fF ρ) (some D)) 2 P (ρ.f 15) #[.slice (some ⟨blk, off, none⟩) d.size cap, .int .i64 a, .int .i64 b] w fun e w' =>
      e = .returned (.bool (Sort.partialInsertionSort ltInt d a b).2) ∧ ∃ n, w' = putRow (Value.int .u32) (Sort.ahead w n) blk off (Sort.partialInsertionSort ltInt d a b).1 := by
  have HH : Hid (Holds (Value.int .u32) w blk off d) := hH
  have HST : Hid (w = putRow (Value.int .u32) (Sort.ahead w 0) blk off d) := (putRow_self _ _ _ _ _ hH).symm
  clear hH
  have mixed := Ly.mixed
  have t0 := Ly.t0; have a0 := Ly.a0; have z0 := Ly.z0; have v0 := Ly.v0; have t3 := Ly.t3; have a3 := Ly.a3; have z3 := Ly.z3; have v3 := Ly.v3; have t4 := Ly.t4; have a4 := Ly.a4; have z4 := Ly.z4; have v4 := Ly.v4; have t22 := Ly.t22; have a22 := Ly.a22; have z22 := Ly.z22; have v22 := Ly.v22; have t25 := Ly.t25; have a25 := Ly.a25; have z25 := Ly.z25; have v25 := Ly.v25
  have e216 : ∀ args w, (callFunc (ρ.f 16) args).run P w = .ok (.enter (ρ.f 16) args) w := Ly.f16.enters rfl
  obtain ⟨_, _, FG⟩ := Ly.f15
  gi_enter FG, SlBodyM.n15_ntmps ρ
  gi_wp2
  gi_loopw [7, 8] (fun vi vs wr => ∃ (i s n : Nat) (dk : Array Int), vi = .int .i64 i ∧ vs = .int .i64 s ∧ s ≤ 5 ∧ a < i ∧ i ≤ b ∧ dk.size = d.size ∧ wr = putRow (Value.int .u32) (Sort.ahead w n) blk off dk ∧
      partialIns ltInt a b (5 - s) i dk = partialIns ltInt a b 5 (a + 1) d) (fun _ vs _ => 5 - (intOf vs).toNat)
  case atStart => exact ⟨a + 1, 0, 0, d, by go_num, rfl, by omega, by omega, by omega, rfl, HST.out, rfl⟩
  case round =>
    obtain ⟨i, s, n, dk, rfl, rfl, hs5, hai, hib, hsk, hwr, hO⟩ := hrel
    have HO : Hid (partialIns ltInt a b (5 - s) i dk = partialIns ltInt a b 5 (a + 1) d) := hO
    clear hO
    gi_wp2
    ·
      have hs : s < 5 := by omega
      gi_loopw [7] (fun vi wr2 => ∃ (k m : Nat), vi = .int .i64 k ∧ i ≤ k ∧ k ≤ b ∧ wr2 = putRow (Value.int .u32) (Sort.ahead w m) blk off dk ∧ scanSorted ltInt dk b k = scanSorted ltInt dk b i) (fun vi _ => b - (intOf vi).toNat)
      case atStart => exact ⟨i, n, rfl, Nat.le_refl _, hib, rfl, rfl⟩
      case round =>
        obtain ⟨k, m, rfl, hik, hkb, hw2, hS⟩ := hrel
        obtain ⟨G, hG⟩ : ∃ G : Nat → Int, ∀ t, G t = dk[t]! := ⟨fun t => dk[t]!, fun _ => rfl⟩
        have hcw : ∀ t, t < d.size → wr.cell? ⟨blk, off + t, none⟩ = some (.int .u32 (G t)) := fun t ht => by
          rw [hw2, hG]; exact cell?_putRow _ _ _ _ d dk (holds_ahead _ _ _ _ _ _ HH.out) hsk t (by omega)
        have hfw : ∀ t, t < d.size → wr.frozen? ⟨blk, off + t, none⟩ = false := fun t ht => by
          rw [hw2, frozen?_putRow]; exact ((holds_ahead _ _ m _ _ _ HH.out) t ht).2
        have HW : Hid (wr = putRow (Value.int .u32) (Sort.ahead w m) blk off dk) := hw2
        have HG : Hid (∀ t, G t = dk[t]!) := hG
        have HS : Hid (scanSorted ltInt dk b k = scanSorted ltInt dk b i) := hS
        clear hw2 hG hS
        gi_wp2
        by_cases hkb' : k < b
        · gi_big_quiet_th_o (first | (gi_at_fn (ρ.f 16); refine CallsIn.quiet_of_same (AnySM.cmp_Less_intIn { Ly with } D _ _ _)))
          gi_wp2
          all_goals first
            | (at_end
               have hl : ltInt (G k) (G (k - 1)) = false := by
                 have h : (!ltInt (G k) (G (k - 1))) = true := by assumption
                 simpa using h
               go_roundw
               case rel => exact ⟨k + 1, m + nq, by go_num, by omega, by omega, by rw [HW.out]; exact putRow_drewN _ _ _ _ _ _ _, by rw [← HS.out, scanSorted_go ltInt dk b k hkb' (by rw [← HG.out, ← HG.out]; exact hl)]⟩
               case measure => simp [intOf]; omega)
            | (have hl : ltInt (G k) (G (k - 1)) = true := by
                 have h : (!ltInt (G k) (G (k - 1))) = false := by assumption
                 simpa using h
               have HK : Hid (scanSorted ltInt dk b i = k) := by
                 show scanSorted ltInt dk b i = k
                 rw [← HS.out, scanSorted_stop ltInt dk b k (Or.inr (by rw [← HG.out, ← HG.out]; exact hl))]
               first
                 | (at_ret
                    have hv : Sort.partialInsertionSort ltInt d a b = (dk, false) := by
                      unfold Sort.partialInsertionSort
                      rw [← HO.out, pi_short ltInt a b s i dk hs (by rw [HK.out]; omega) (by omega)]
                    rw [hv]
                    go_ret
                    exact ⟨rfl, m + nq, by rw [HW.out]; exact putRow_drewN _ _ _ _ _ _ _⟩)
                 | (ati_region_m 11
                    have h50 : ¬ b - a < 50 := by omega
                    gi_region_o
                    have hsw : ((wr.drewN (nq + 1)).setCell ⟨blk, off + k, none⟩ (.int .u32 (G (k - 1)))).setCell ⟨blk, off + (k - 1), none⟩ (.int .u32 (G k)) = putRow (Value.int .u32) (Sort.ahead w (m + (nq + 1))) blk off (swp dk k (k - 1)) := by
                      rw [HW.out, HG.out, HG.out]
                      exact swap_worldA _ w m (nq + 1) blk off dk k (k - 1) (by omega) (by omega)
                    have hs1 : (swp dk k (k - 1)).size = d.size := by rw [size_swp]; exact hsk
                    gi_wp2
                    all_goals first
                      | (ati_loop_m
                         have hka : k - a ≥ 2 := by omega
                         gi_loopw [9] (fun vj wr2 => ∃ (j m2 : Nat) (dj : Array Int), vj = .int .i64 j ∧ j ≤ k - 1 ∧ dj.size = d.size ∧ wr2 = putRow (Value.int .u32) (Sort.ahead w m2) blk off dj ∧
                             shiftDown ltInt j dj = shiftDown ltInt (k - 1) (swp dk k (k - 1))) (fun vj _ => (intOf vj).toNat)
                         case atStart => exact ⟨k - 1, _, (swp dk k (k - 1)), by congr 1; omega, Nat.le_refl _, hs1, rfl, rfl⟩
                         case round =>
                           obtain ⟨j, m2, dj, rfl, hjk, hsj, hw2, hDn⟩ := hrel
                           obtain ⟨G, hG⟩ : ∃ G : Nat → Int, ∀ t, G t = dj[t]! := ⟨fun t => dj[t]!, fun _ => rfl⟩
                           have hcw : ∀ t, t < d.size → wr.cell? ⟨blk, off + t, none⟩ = some (.int .u32 (G t)) := fun t ht => by
                             rw [hw2, hG]; exact cell?_putRow _ _ _ _ d dj (holds_ahead _ _ _ _ _ _ HH.out) hsj t (by omega)
                           have hfw : ∀ t, t < d.size → wr.frozen? ⟨blk, off + t, none⟩ = false := fun t ht => by
                             rw [hw2, frozen?_putRow]; exact ((holds_ahead _ _ m2 _ _ _ HH.out) t ht).2
                           have HW : Hid (wr = putRow (Value.int .u32) (Sort.ahead w m2) blk off dj) := hw2
                           have HG : Hid (∀ t, G t = dj[t]!) := hG
                           have HDn : Hid (shiftDown ltInt j dj = shiftDown ltInt (k - 1) (swp dk k (k - 1))) := hDn
                           clear hw2 hG hDn hsw
                           gi_wp2
                           all_goals first
                             | (ati_region_m 16
                                gi_big_quiet_th_o (first | (gi_at_fn (ρ.f 16); refine CallsIn.quiet_of_same (AnySM.cmp_Less_intIn { Ly with } D _ _ _)))
                                gi_wp2
                                all_goals first
                                  | (ati_region_m 17
                                     have hl : ltInt (G j) (G (j - 1)) = true := by
                                       have h : (!ltInt (G j) (G (j - 1))) = false := by assumption
                                       simpa using h
                                     gi_region_o
                                     all_goals gi_wp2
                                     go_roundw
                                     case rel =>
                                       refine ⟨j - 1, m2 + (nq + 1), swp dj j (j - 1), by congr 1; omega, by omega, by rw [size_swp]; exact hsj, ?_, ?_⟩
                                       · rw [HW.out, HG.out, HG.out]
                                         exact swap_worldA _ w m2 (nq + 1) blk off dj j (j - 1) (by omega) (by omega)
                                       · rw [← HDn.out, shiftDown_go ltInt j dj (by omega) (by rw [← HG.out, ← HG.out]; exact hl)]
                                     case measure => simp [intOf]; omega)
                                  | (
                                     have hl : ltInt (G j) (G (j - 1)) = false := by
                                       have h : (!ltInt (G j) (G (j - 1))) = true := by assumption
                                       simpa using h
                                     have HD : Hid (fixDown ltInt a k (swp dk k (k - 1)) = dj) := by
                                       show fixDown ltInt a k (swp dk k (k - 1)) = dj
                                       unfold fixDown; rw [if_pos hka, ← HDn.out, shiftDown_stop ltInt j dj (Or.inr (by rw [← HG.out, ← HG.out]; exact hl))]
                                     first
                                       | (at_end
                                          go_roundw
                                          case rel =>
                                            refine ⟨k, s + 1, _, dj, rfl, by go_num, by omega, by omega, by omega, hsj, (by first | rfl | exact HW.out | (rw [HW.out]; exact putRow_drewN _ _ _ _ _ _ _)), ?_⟩
                                            rw [← HO.out, pi_go ltInt a b s i k dk hs HK.out (by omega) (by omega), HD.out, show fixUp ltInt b k dj = dj from by unfold fixUp; rw [if_neg (by omega)]]
                                          case measure => simp [intOf]; omega)
                                       | (ati_loop_m
                                          gi_loopw [10] (fun vj wr2 => ∃ (j m3 : Nat) (du : Array Int), vj = .int .i64 j ∧ k + 1 ≤ j ∧ j ≤ b ∧ du.size = d.size ∧ wr2 = putRow (Value.int .u32) (Sort.ahead w m3) blk off du ∧
                                              shiftUp ltInt b j du = shiftUp ltInt b (k + 1) dj) (fun vj _ => b - (intOf vj).toNat)
                                          case atStart => exact ⟨k + 1, _, dj, by go_num, Nat.le_refl _, by omega, hsj, (by first | rfl | exact HW.out | (rw [HW.out]; exact putRow_drewN _ _ _ _ _ _ _)), rfl⟩
                                          case round =>
                                            obtain ⟨j, m3, du, rfl, hkj, hjb, hsu, hw3, hU⟩ := hrel
                                            obtain ⟨G, hG⟩ : ∃ G : Nat → Int, ∀ t, G t = du[t]! := ⟨fun t => du[t]!, fun _ => rfl⟩
                                            have hcw : ∀ t, t < d.size → wr.cell? ⟨blk, off + t, none⟩ = some (.int .u32 (G t)) := fun t ht => by
                                              rw [hw3, hG]; exact cell?_putRow _ _ _ _ d du (holds_ahead _ _ _ _ _ _ HH.out) hsu t (by omega)
                                            have hfw : ∀ t, t < d.size → wr.frozen? ⟨blk, off + t, none⟩ = false := fun t ht => by
                                              rw [hw3, frozen?_putRow]; exact ((holds_ahead _ _ m3 _ _ _ HH.out) t ht).2
                                            have HW : Hid (wr = putRow (Value.int .u32) (Sort.ahead w m3) blk off du) := hw3
                                            have HG : Hid (∀ t, G t = du[t]!) := hG
                                            have HU : Hid (shiftUp ltInt b j du = shiftUp ltInt b (k + 1) dj) := hU
                                            clear hw3 hG hU
                                            gi_wp2
                                            all_goals first
                                              | (ati_region_m 22
                                                 gi_big_quiet_th_o (first | (gi_at_fn (ρ.f 16); refine CallsIn.quiet_of_same (AnySM.cmp_Less_intIn { Ly with } D _ _ _)))
                                                 gi_wp2
                                                 all_goals first
                                                   | (ati_region_m 23
                                                      have hl : ltInt (G j) (G (j - 1)) = true := by
                                                        have h : (!ltInt (G j) (G (j - 1))) = false := by assumption
                                                        simpa using h
                                                      gi_region_o
                                                      all_goals gi_wp2
                                                      go_roundw
                                                      case rel =>
                                                        refine ⟨j + 1, m3 + (nq + 1), swp du j (j - 1), by go_num, by omega, by omega, by rw [size_swp]; exact hsu, ?_, ?_⟩
                                                        · rw [HW.out, HG.out, HG.out]
                                                          exact swap_worldA _ w m3 (nq + 1) blk off du j (j - 1) (by omega) (by omega)
                                                        · rw [← HU.out, shiftUp_go ltInt b j du (by omega) (by rw [← HG.out, ← HG.out]; exact hl)]
                                                      case measure => simp [intOf]; omega)
                                                   | (at_end
                                                      have hl : ltInt (G j) (G (j - 1)) = false := by
                                                        have h : (!ltInt (G j) (G (j - 1))) = true := by assumption
                                                        simpa using h
                                                      go_roundw
                                                      case rel =>
                                                        refine ⟨k, s + 1, _, du, rfl, by go_num, by omega, by omega, by omega, hsu, (by first | rfl | exact HW.out | (rw [HW.out]; exact putRow_drewN _ _ _ _ _ _ _)), ?_⟩
                                                        rw [← HO.out, pi_go ltInt a b s i k dk hs HK.out (by omega) (by omega), HD.out, show fixUp ltInt b k dj = du from by unfold fixUp; rw [if_pos (by omega), ← HU.out, shiftUp_stop ltInt b j du (Or.inr (by rw [← HG.out, ← HG.out]; exact hl))]]
                                                      case measure => simp [intOf]; omega))
                                              | (at_end
                                                 go_roundw
                                                 case rel =>
                                                   refine ⟨k, s + 1, _, du, rfl, by go_num, by omega, by omega, by omega, hsu, (by first | rfl | exact HW.out | (rw [HW.out]; exact putRow_drewN _ _ _ _ _ _ _)), ?_⟩
                                                   rw [← HO.out, pi_go ltInt a b s i k dk hs HK.out (by omega) (by omega), HD.out, show fixUp ltInt b k dj = du from by unfold fixUp; rw [if_pos (by omega), ← HU.out, shiftUp_stop ltInt b j du (Or.inl (by omega))]]
                                                 case measure => simp [intOf]; omega))))
                             | (
                                have HD : Hid (fixDown ltInt a k (swp dk k (k - 1)) = dj) := by
                                  show fixDown ltInt a k (swp dk k (k - 1)) = dj
                                  unfold fixDown; rw [if_pos hka, ← HDn.out, shiftDown_stop ltInt j dj (Or.inl (by omega))]
                                first
                                  | (at_end
                                     go_roundw
                                     case rel =>
                                       refine ⟨k, s + 1, _, dj, rfl, by go_num, by omega, by omega, by omega, hsj, (by first | rfl | exact HW.out | (rw [HW.out]; exact putRow_drewN _ _ _ _ _ _ _)), ?_⟩
                                       rw [← HO.out, pi_go ltInt a b s i k dk hs HK.out (by omega) (by omega), HD.out, show fixUp ltInt b k dj = dj from by unfold fixUp; rw [if_neg (by omega)]]
                                     case measure => simp [intOf]; omega)
                                  | (ati_loop_m
                                     gi_loopw [10] (fun vj wr2 => ∃ (j m3 : Nat) (du : Array Int), vj = .int .i64 j ∧ k + 1 ≤ j ∧ j ≤ b ∧ du.size = d.size ∧ wr2 = putRow (Value.int .u32) (Sort.ahead w m3) blk off du ∧
                                         shiftUp ltInt b j du = shiftUp ltInt b (k + 1) dj) (fun vj _ => b - (intOf vj).toNat)
                                     case atStart => exact ⟨k + 1, _, dj, by go_num, Nat.le_refl _, by omega, hsj, (by first | rfl | exact HW.out | (rw [HW.out]; exact putRow_drewN _ _ _ _ _ _ _)), rfl⟩
                                     case round =>
                                       obtain ⟨j, m3, du, rfl, hkj, hjb, hsu, hw3, hU⟩ := hrel
                                       obtain ⟨G, hG⟩ : ∃ G : Nat → Int, ∀ t, G t = du[t]! := ⟨fun t => du[t]!, fun _ => rfl⟩
                                       have hcw : ∀ t, t < d.size → wr.cell? ⟨blk, off + t, none⟩ = some (.int .u32 (G t)) := fun t ht => by
                                         rw [hw3, hG]; exact cell?_putRow _ _ _ _ d du (holds_ahead _ _ _ _ _ _ HH.out) hsu t (by omega)
                                       have hfw : ∀ t, t < d.size → wr.frozen? ⟨blk, off + t, none⟩ = false := fun t ht => by
                                         rw [hw3, frozen?_putRow]; exact ((holds_ahead _ _ m3 _ _ _ HH.out) t ht).2
                                       have HW : Hid (wr = putRow (Value.int .u32) (Sort.ahead w m3) blk off du) := hw3
                                       have HG : Hid (∀ t, G t = du[t]!) := hG
                                       have HU : Hid (shiftUp ltInt b j du = shiftUp ltInt b (k + 1) dj) := hU
                                       clear hw3 hG hU
                                       gi_wp2
                                       all_goals first
                                         | (ati_region_m 22
                                            gi_big_quiet_th_o (first | (gi_at_fn (ρ.f 16); refine CallsIn.quiet_of_same (AnySM.cmp_Less_intIn { Ly with } D _ _ _)))
                                            gi_wp2
                                            all_goals first
                                              | (ati_region_m 23
                                                 have hl : ltInt (G j) (G (j - 1)) = true := by
                                                   have h : (!ltInt (G j) (G (j - 1))) = false := by assumption
                                                   simpa using h
                                                 gi_region_o
                                                 all_goals gi_wp2
                                                 go_roundw
                                                 case rel =>
                                                   refine ⟨j + 1, m3 + (nq + 1), swp du j (j - 1), by go_num, by omega, by omega, by rw [size_swp]; exact hsu, ?_, ?_⟩
                                                   · rw [HW.out, HG.out, HG.out]
                                                     exact swap_worldA _ w m3 (nq + 1) blk off du j (j - 1) (by omega) (by omega)
                                                   · rw [← HU.out, shiftUp_go ltInt b j du (by omega) (by rw [← HG.out, ← HG.out]; exact hl)]
                                                 case measure => simp [intOf]; omega)
                                              | (at_end
                                                 have hl : ltInt (G j) (G (j - 1)) = false := by
                                                   have h : (!ltInt (G j) (G (j - 1))) = true := by assumption
                                                   simpa using h
                                                 go_roundw
                                                 case rel =>
                                                   refine ⟨k, s + 1, _, du, rfl, by go_num, by omega, by omega, by omega, hsu, (by first | rfl | exact HW.out | (rw [HW.out]; exact putRow_drewN _ _ _ _ _ _ _)), ?_⟩
                                                   rw [← HO.out, pi_go ltInt a b s i k dk hs HK.out (by omega) (by omega), HD.out, show fixUp ltInt b k dj = du from by unfold fixUp; rw [if_pos (by omega), ← HU.out, shiftUp_stop ltInt b j du (Or.inr (by rw [← HG.out, ← HG.out]; exact hl))]]
                                                 case measure => simp [intOf]; omega))
                                         | (at_end
                                            go_roundw
                                            case rel =>
                                              refine ⟨k, s + 1, _, du, rfl, by go_num, by omega, by omega, by omega, hsu, (by first | rfl | exact HW.out | (rw [HW.out]; exact putRow_drewN _ _ _ _ _ _ _)), ?_⟩
                                              rw [← HO.out, pi_go ltInt a b s i k dk hs HK.out (by omega) (by omega), HD.out, show fixUp ltInt b k dj = du from by unfold fixUp; rw [if_pos (by omega), ← HU.out, shiftUp_stop ltInt b j du (Or.inl (by omega))]]
                                            case measure => simp [intOf]; omega))))
                      | (
                         have HD : Hid (fixDown ltInt a k (swp dk k (k - 1)) = (swp dk k (k - 1))) := by
                           show fixDown ltInt a k (swp dk k (k - 1)) = (swp dk k (k - 1))
                           unfold fixDown; rw [if_neg (by omega)]
                         first
                           | (at_end
                              go_roundw
                              case rel =>
                                refine ⟨k, s + 1, _, (swp dk k (k - 1)), rfl, by go_num, by omega, by omega, by omega, hs1, (by first | rfl | exact HW.out | (rw [HW.out]; exact putRow_drewN _ _ _ _ _ _ _)), ?_⟩
                                rw [← HO.out, pi_go ltInt a b s i k dk hs HK.out (by omega) (by omega), HD.out, show fixUp ltInt b k (swp dk k (k - 1)) = (swp dk k (k - 1)) from by unfold fixUp; rw [if_neg (by omega)]]
                              case measure => simp [intOf]; omega)
                           | (ati_loop_m
                              gi_loopw [10] (fun vj wr2 => ∃ (j m3 : Nat) (du : Array Int), vj = .int .i64 j ∧ k + 1 ≤ j ∧ j ≤ b ∧ du.size = d.size ∧ wr2 = putRow (Value.int .u32) (Sort.ahead w m3) blk off du ∧
                                  shiftUp ltInt b j du = shiftUp ltInt b (k + 1) (swp dk k (k - 1))) (fun vj _ => b - (intOf vj).toNat)
                              case atStart => exact ⟨k + 1, _, (swp dk k (k - 1)), by go_num, Nat.le_refl _, by omega, hs1, (by first | rfl | exact HW.out | (rw [HW.out]; exact putRow_drewN _ _ _ _ _ _ _)), rfl⟩
                              case round =>
                                obtain ⟨j, m3, du, rfl, hkj, hjb, hsu, hw3, hU⟩ := hrel
                                obtain ⟨G, hG⟩ : ∃ G : Nat → Int, ∀ t, G t = du[t]! := ⟨fun t => du[t]!, fun _ => rfl⟩
                                have hcw : ∀ t, t < d.size → wr.cell? ⟨blk, off + t, none⟩ = some (.int .u32 (G t)) := fun t ht => by
                                  rw [hw3, hG]; exact cell?_putRow _ _ _ _ d du (holds_ahead _ _ _ _ _ _ HH.out) hsu t (by omega)
                                have hfw : ∀ t, t < d.size → wr.frozen? ⟨blk, off + t, none⟩ = false := fun t ht => by
                                  rw [hw3, frozen?_putRow]; exact ((holds_ahead _ _ m3 _ _ _ HH.out) t ht).2
                                have HW : Hid (wr = putRow (Value.int .u32) (Sort.ahead w m3) blk off du) := hw3
                                have HG : Hid (∀ t, G t = du[t]!) := hG
                                have HU : Hid (shiftUp ltInt b j du = shiftUp ltInt b (k + 1) (swp dk k (k - 1))) := hU
                                clear hw3 hG hU
                                gi_wp2
                                all_goals first
                                  | (ati_region_m 22
                                     gi_big_quiet_th_o (first | (gi_at_fn (ρ.f 16); refine CallsIn.quiet_of_same (AnySM.cmp_Less_intIn { Ly with } D _ _ _)))
                                     gi_wp2
                                     all_goals first
                                       | (ati_region_m 23
                                          have hl : ltInt (G j) (G (j - 1)) = true := by
                                            have h : (!ltInt (G j) (G (j - 1))) = false := by assumption
                                            simpa using h
                                          gi_region_o
                                          all_goals gi_wp2
                                          go_roundw
                                          case rel =>
                                            refine ⟨j + 1, m3 + (nq + 1), swp du j (j - 1), by go_num, by omega, by omega, by rw [size_swp]; exact hsu, ?_, ?_⟩
                                            · rw [HW.out, HG.out, HG.out]
                                              exact swap_worldA _ w m3 (nq + 1) blk off du j (j - 1) (by omega) (by omega)
                                            · rw [← HU.out, shiftUp_go ltInt b j du (by omega) (by rw [← HG.out, ← HG.out]; exact hl)]
                                          case measure => simp [intOf]; omega)
                                       | (at_end
                                          have hl : ltInt (G j) (G (j - 1)) = false := by
                                            have h : (!ltInt (G j) (G (j - 1))) = true := by assumption
                                            simpa using h
                                          go_roundw
                                          case rel =>
                                            refine ⟨k, s + 1, _, du, rfl, by go_num, by omega, by omega, by omega, hsu, (by first | rfl | exact HW.out | (rw [HW.out]; exact putRow_drewN _ _ _ _ _ _ _)), ?_⟩
                                            rw [← HO.out, pi_go ltInt a b s i k dk hs HK.out (by omega) (by omega), HD.out, show fixUp ltInt b k (swp dk k (k - 1)) = du from by unfold fixUp; rw [if_pos (by omega), ← HU.out, shiftUp_stop ltInt b j du (Or.inr (by rw [← HG.out, ← HG.out]; exact hl))]]
                                          case measure => simp [intOf]; omega))
                                  | (at_end
                                     go_roundw
                                     case rel =>
                                       refine ⟨k, s + 1, _, du, rfl, by go_num, by omega, by omega, by omega, hsu, (by first | rfl | exact HW.out | (rw [HW.out]; exact putRow_drewN _ _ _ _ _ _ _)), ?_⟩
                                       rw [← HO.out, pi_go ltInt a b s i k dk hs HK.out (by omega) (by omega), HD.out, show fixUp ltInt b k (swp dk k (k - 1)) = du from by unfold fixUp; rw [if_pos (by omega), ← HU.out, shiftUp_stop ltInt b j du (Or.inl (by omega))]]
                                     case measure => simp [intOf]; omega)))))
        ·
          gi_big_quiet_th_o (first | (gi_at_fn (ρ.f 16); refine CallsIn.quiet_of_same (AnySM.cmp_Less_intIn { Ly with } D _ _ _)))
          gi_wp2
          obtain rfl : k = b := by omega
          have hv : Sort.partialInsertionSort ltInt d a k = (dk, true) := by
            unfold Sort.partialInsertionSort
            rw [← HO.out, pi_true ltInt a k s i dk hs (by rw [← HS.out, scanSorted_stop ltInt dk k k (Or.inl (by omega))])]
          rw [hv]
          go_ret
          exact ⟨rfl, m + nq, by rw [HW.out]; exact putRow_drewN _ _ _ _ _ _ _⟩
    ·
      obtain rfl : s = 5 := by omega
      have hv : Sort.partialInsertionSort ltInt d a b = (dk, false) := by
        unfold Sort.partialInsertionSort
        rw [← HO.out, pi_end]
      rw [hv]
      go_ret
      exact ⟨rfl, n, rfl⟩
end
end
section
open Go.Proofs
section
open Go.Shelf
variable {P:Program} {ρ :Ren}
open Go.RowKit Go.Sort
section
variable {α:Type} [Inhabited α]
end
theorem AnySM.breakPatterns_int_goIn (Ly : SlLaysU.n5 P ρ) (D : Nat) (blk off cap a L : Nat) (d : Array Int) (w : World) (hH : Holds (Value.int .u32) w blk off d) (hblk : blk < w.heap.size) (hb : a + L ≤ d.size) (hsz : d.size < 4611686018427387904) (h8 : 8 ≤ L) :
    CallsIn (Fence.list (fF ρ) (some D)) 3 P (ρ.f 12) #[.slice (some ⟨blk, off, none⟩) d.size cap, .int .i64 a, .int .i64 ((a + L : Nat) : Int)] w fun e w' =>
      e = .returned (.tuple #[]) ∧ ∃ n os, w' = grow (putRow (Value.int .u32) (Sort.ahead w n) blk off (breakPatterns d a (a + L))) os := by
  rw [breakPatterns_eq d a L h8]
  obtain ⟨M, hM⟩ : ∃ M : Nat, M = 1 <<< bitsLen L := ⟨_, rfl⟩
  have hM1 : 1 ≤ M := by rw [hM, Nat.one_shiftLeft]; exact Nat.two_pow_pos _
  have hM2 : M ≤ 2 * L := by rw [hM, Nat.one_shiftLeft]; exact two_pow_bitsLen_le (by omega)
  have hNP : ∀ w, CallsIn (Fence.list (fF ρ) (some D)) 2 P (ρ.f 31) #[.int .i64 (L : Int)] w fun e w' => e = .returned (.int .u64 (M : Int)) ∧ w' = w := by rw [hM]; exact fun w => AnySM.nextPowerOfTwoIn { Ly with } D L (by omega) w
  rw [← hM]
  clear hM
  have HH : Hid (Holds (Value.int .u32) w blk off d) := hH
  have HST : Hid (w.alloc (Obj.cells #[.int .u64 (L : Int)] (ρ.t 53)) = grow (putRow (Value.int .u32) (Sort.ahead w 0) blk off d) #[Obj.cells #[.int .u64 ((UInt64.ofNat L).toNat : Int)] (ρ.t 53)]) := by
    show _ = _
    rw [show Sort.ahead w 0 = w from rfl, putRow_self _ _ _ _ _ hH, alloc_eq_grow, show (UInt64.ofNat L).toNat = L from by simp; omega]
  clear hH
  have mixed := Ly.mixed
  have t0 := Ly.t0; have a0 := Ly.a0; have z0 := Ly.z0; have v0 := Ly.v0; have t3 := Ly.t3; have a3 := Ly.a3; have z3 := Ly.z3; have v3 := Ly.v3; have t4 := Ly.t4; have a4 := Ly.a4; have z4 := Ly.z4; have v4 := Ly.v4; have t5 := Ly.t5; have a5 := Ly.a5; have z5 := Ly.z5; have v5 := Ly.v5; have t9 := Ly.t9; have a9 := Ly.a9; have z9 := Ly.z9; have v9 := Ly.v9; have t22 := Ly.t22; have a22 := Ly.a22; have z22 := Ly.z22; have v22 := Ly.v22; have t25 := Ly.t25; have a25 := Ly.a25; have z25 := Ly.z25; have v25 := Ly.v25; have t32 := Ly.t32; have a32 := Ly.a32; have z32 := Ly.z32; have v32 := Ly.v32; have t44 := Ly.t44; have a44 := Ly.a44; have z44 := Ly.z44; have v44 := Ly.v44; have t46 := Ly.t46; have a46 := Ly.a46; have z46 := Ly.z46; have v46 := Ly.v46; have t53 := Ly.t53; have a53 := Ly.a53; have z53 := Ly.z53; have v53 := Ly.v53; have t63 := Ly.t63; have a63 := Ly.a63; have z63 := Ly.z63; have v63 := Ly.v63
  have e329 : ∀ args w, (callFunc (ρ.f 31) args).run P w = .ok (.enter (ρ.f 31) args) w := enters_of Ly.f31 (by kernel_rfl) rfl
  have e330 : ∀ args w, (callFunc (ρ.f 32) args).run P w = .ok (.enter (ρ.f 32) args) w := enters_of Ly.f32 (by kernel_rfl) rfl
  obtain ⟨_, _, FG⟩ := Ly.f12
  gi_enter FG, SlBodyM.n12_ntmps ρ
  gi_wp2_with (first | (gi_at_fn (ρ.f 31); rw [show ((a : Int) + (L : Int) - (a : Int)) = (L : Int) by omega]; refine ((hNP _).more (by omega)).mono ?_; rintro e w' ⟨rfl, rfl⟩))
  gi_loopw [9] (fun vi wr => ∃ (t n : Nat) (r : UInt64) (dk : Array Int), vi = .int .i64 ((a + L / 4 * 2 - 1 + t : Nat) : Int) ∧ t ≤ 3 ∧ dk.size = d.size ∧
      wr = grow (putRow (Value.int .u32) (Sort.ahead w n) blk off dk) #[Obj.cells #[.int .u64 (r.toNat : Int)] (ρ.t 53)] ∧
      bpRest a L M (a + L / 4 * 2 - 1) (3 - t) t (r, dk) = bpRest a L M (a + L / 4 * 2 - 1) 3 0 (UInt64.ofNat L, d)) (fun vi _ => a + L / 4 * 2 + 3 - (intOf vi).toNat)
  case atStart => exact ⟨0, 0, UInt64.ofNat L, d, by congr 1; omega, by omega, rfl, HST.out, rfl⟩
  case round =>
    obtain ⟨t, n, r, dk, rfl, ht, hsk, hw, hR⟩ := hrel
    obtain ⟨R, hRr⟩ : ∃ R : Nat, R = r.toNat := ⟨_, rfl⟩
    have lR : R < 18446744073709551616 := by rw [hRr]; exact r.toNat_lt
    obtain ⟨R', hR'⟩ : ∃ R' : Nat, R' = xorNextN R := ⟨_, rfl⟩
    have lR' : R' < 18446744073709551616 := by rw [hR']; exact xorNextN_lt R lR
    obtain ⟨O, hO⟩ : ∃ O : Nat, O = R' &&& (M - 1) := ⟨_, rfl⟩
    have lO : O ≤ M - 1 := by rw [hO]; exact Nat.and_le_right
    have eAnd : bits .and .u64 (R' : Int) ((M : Int) - 1) = (O : Int) := by
      rw [show ((M : Int) - 1) = ((M - 1 : Nat) : Int) by omega, bits_and_u64_nat _ _ lR' (by omega), hO]
    obtain ⟨G, hG⟩ : ∃ G : Nat → Int, ∀ x, G x = dk[x]! := ⟨fun x => dk[x]!, fun _ => rfl⟩
    have hz : (putRow (Value.int .u32) (Sort.ahead w n) blk off dk).heap.size = w.heap.size := by simp
    have hcw : ∀ x, x < d.size → wr.cell? ⟨blk, off + x, none⟩ = some (.int .u32 (G x)) := fun x hx => by
      rw [hw, cell?_grow _ _ _ (by rw [hz]; exact hblk), hG]; exact cell?_putRow _ _ _ _ d dk (holds_ahead _ _ _ _ _ _ HH.out) hsk x (by omega)
    have hfw : ∀ x, x < d.size → wr.frozen? ⟨blk, off + x, none⟩ = false := fun x hx => by
      rw [hw, frozen?_grow _ _ _ (by rw [hz]; exact hblk), frozen?_putRow]; exact ((holds_ahead _ _ n _ _ _ HH.out) x hx).2
    have hcB : wr.cell? ⟨w.heap.size, 0, none⟩ = some (.int .u64 (R : Int)) := by rw [hw, hRr, ← hz]; exact grow_one_cell _ _ _
    have hfB : wr.frozen? ⟨w.heap.size, 0, none⟩ = false := by rw [hw, ← hz]; exact grow_one_frozen _ _ _
    have hNext : CallsIn (Fence.list (fF ρ) (some D)) 0 P (ρ.f 32) #[.pointer (some ⟨w.heap.size, 0, none⟩)] wr fun e w' => e = .returned (.int .u64 (R' : Int)) ∧ w' = (wr.setCell ⟨w.heap.size, 0, none⟩ (.int .u64 (R' : Int))).drewN 3 := by
      rw [hR']; exact AnySM.xorshift_NextIn { Ly with } D _ _ R lR wr hcB hfB
    have HW : Hid (wr = grow (putRow (Value.int .u32) (Sort.ahead w n) blk off dk) #[Obj.cells #[.int .u64 (r.toNat : Int)] (ρ.t 53)]) := hw
    have HG : Hid (∀ x, G x = dk[x]!) := hG
    have HR : Hid (bpRest a L M (a + L / 4 * 2 - 1) (3 - t) t (r, dk) = bpRest a L M (a + L / 4 * 2 - 1) 3 0 (UInt64.ofNat L, d)) := hR
    have HN : Hid (R' = (xorNext r).toNat ∧ O = (xorNext r).toNat &&& (M - 1)) := by
      have e : R' = (xorNext r).toNat := by rw [hR', hRr, xorNext_toNat]
      exact ⟨e, by rw [hO, e]⟩
    clear hw hG hR hRr hR' hO
    gi_wp2_with (first | (gi_at_fn (ρ.f 32); refine (hNext.more (by omega)).mono ?_; rintro e w' ⟨rfl, rfl⟩))
    all_goals first
      | (have hLO : L ≤ O := by omega
         by_cases hEq : a + L / 4 * 2 - 1 + t = a + (O - L)
         all_goals
           gi_region_o
           all_goals gi_wp2
           go_roundw
           case rel =>
             refine ⟨t + 1, n + 4, xorNext r, swp dk (a + L / 4 * 2 - 1 + t) (a + (O - L)), by first | rfl | (congr 1 <;> omega), by omega, by rw [size_swp]; exact hsk, ?_, ?_⟩
             · (try rw [hEq])
               rw [HW.out, HN.out.1]
               simp only [HG.out]
               exact step_world (Value.int .u32) w n 4 blk off dk _ _ hblk (by omega) (by omega) _ _ _
             · rw [← HR.out, bp_step a L M _ t r dk (O - L) (by omega) (by rw [← HN.out.2, if_pos (by omega)])]
           case measure => simp [intOf]; omega)
      | (have hLO : ¬ L ≤ O := by omega
         by_cases hEq : a + L / 4 * 2 - 1 + t = a + O
         all_goals
           gi_region_o
           all_goals gi_wp2
           go_roundw
           case rel =>
             refine ⟨t + 1, n + 4, xorNext r, swp dk (a + L / 4 * 2 - 1 + t) (a + O), by first | rfl | (congr 1 <;> omega), by omega, by rw [size_swp]; exact hsk, ?_, ?_⟩
             · (try rw [hEq])
               rw [HW.out, HN.out.1]
               simp only [HG.out]
               exact step_world (Value.int .u32) w n 4 blk off dk _ _ hblk (by omega) (by omega) _ _ _
             · rw [← HR.out, bp_step a L M _ t r dk O (by omega) (by rw [← HN.out.2, if_neg (by omega)])]
           case measure => simp [intOf]; omega)
      | (obtain rfl : t = 3 := by omega
         go_end0
         exact ⟨rfl, n, _, by rw [← HR.out, HW.out]; rfl⟩)
theorem AnySM.breakPatterns_intIn (Ly:SlLaysU.n5 P ρ) (D:Nat) (blk off cap a b:Nat) (d:Array Int) (w:World) (hH:Holds (Value.int .u32) w blk off d) (hblk:blk<w.heap.size) (hab:a≤b) (hb:b≤d.size) (hsz:d.size<4611686018427387904):
  CallsIn (Fence.list (fF ρ) (some D)) 3 P (ρ.f 12) #[.slice (some ⟨blk,off,none⟩) d.size cap, .int .i64 a, .int .i64 b] w fun e w'=>
   e= .returned (.tuple #[])∧ ∃ n os,w'=grow (putRow (Value.int .u32) (Sort.ahead w n) blk off (breakPatterns d a b)) os:=by
 obtain ⟨L,rfl⟩: ∃ L,b=a+L:=⟨b - a,by omega⟩
 by_cases h8:8≤L
 ·exact AnySM.breakPatterns_int_goIn {Ly with} D blk off cap a L d w hH hblk hb hsz h8
 ·have hv:breakPatterns d a (a+L)=d:=by unfold breakPatterns;simp only [Nat.add_sub_cancel_left];rw [if_neg h8]
  rw [hv]
  have HST:Hid (w=grow (putRow (Value.int .u32) (Sort.ahead w 0) blk off d) #[]):=by
   show _=_
   rw [grow_empty,show Sort.ahead w 0=w from rfl,putRow_self _ _ _ _ _ hH]
  clear hH
  have mixed:=Ly.mixed
  have t0:=Ly.t0;have a0:=Ly.a0;have z0:=Ly.z0;have v0:=Ly.v0;have t3:=Ly.t3;have a3:=Ly.a3;have z3:=Ly.z3;have v3:=Ly.v3;have t4:=Ly.t4;have a4:=Ly.a4;have z4:=Ly.z4;have v4:=Ly.v4;have t5:=Ly.t5;have a5:=Ly.a5;have z5:=Ly.z5;have v5:=Ly.v5;have t9:=Ly.t9;have a9:=Ly.a9;have z9:=Ly.z9;have v9:=Ly.v9;have t22:=Ly.t22;have a22:=Ly.a22;have z22:=Ly.z22;have v22:=Ly.v22;have t25:=Ly.t25;have a25:=Ly.a25;have z25:=Ly.z25;have v25:=Ly.v25;have t32:=Ly.t32;have a32:=Ly.a32;have z32:=Ly.z32;have v32:=Ly.v32;have t44:=Ly.t44;have a44:=Ly.a44;have z44:=Ly.z44;have v44:=Ly.v44;have t46:=Ly.t46;have a46:=Ly.a46;have z46:=Ly.z46;have v46:=Ly.v46;have t53:=Ly.t53;have a53:=Ly.a53;have z53:=Ly.z53;have v53:=Ly.v53;have t63:=Ly.t63;have a63:=Ly.a63;have z63:=Ly.z63;have v63:=Ly.v63
  have e329: ∀ args w,(callFunc (ρ.f 31) args).run P w= .ok (.enter (ρ.f 31) args) w:=enters_of Ly.f31 (by kernel_rfl) rfl
  have e330: ∀ args w,(callFunc (ρ.f 32) args).run P w= .ok (.enter (ρ.f 32) args) w:=enters_of Ly.f32 (by kernel_rfl) rfl
  obtain ⟨_,_,FG⟩:=Ly.f12
  gi_enter FG,SlBodyM.n12_ntmps ρ
  gi_wp2
  go_end0
  exact ⟨rfl,0, #[],HST.out⟩
end
end
section
open Go.Proofs
section
open Go.Shelf
variable {P:Program} {ρ :Ren}
open Go.Sort Go.RowKit
theorem AnySM.reverseRange_intIn (Ly:SlLaysU.n5 P ρ) (D:Nat) (blk off cap:Nat) (d:Array Int) (a b:Nat) (w:World) (hH:Holds bC w blk off d) (hab:a≤b) (hb:b≤d.size) (hsz:d.size<4611686018427387904):
  CallsIn (Fence.list (fF ρ) (some D)) 0 P (ρ.f 14) #[.slice (some ⟨blk,off,none⟩) d.size cap, .int .i64 a, .int .i64 b] w fun e w'=>e= .returned (.tuple #[])∧ ∃ n,w'=putRow bC (Sort.ahead w n) blk off (reverseRange d a b):=by
 have mixed:=Ly.mixed
 have t0:=Ly.t0;have a0:=Ly.a0;have z0:=Ly.z0;have v0:=Ly.v0;have t3:=Ly.t3;have a3:=Ly.a3;have z3:=Ly.z3;have v3:=Ly.v3;have t4:=Ly.t4;have a4:=Ly.a4;have z4:=Ly.z4;have v4:=Ly.v4;have t22:=Ly.t22;have a22:=Ly.a22;have z22:=Ly.z22;have v22:=Ly.v22;have t25:=Ly.t25;have a25:=Ly.a25;have z25:=Ly.z25;have v25:=Ly.v25
 obtain ⟨_,_,FG⟩:=Ly.f14
 gi_enter FG,SlBodyM.n14_ntmps ρ
 gi_wp2
 gi_loopg [6,7] (b - a) (fun k s6 s7 wr=> ∃ (i jn:Nat) (jz:Int) (dk:Array Int) (n:Nat),s6= .int .i64 i∧s7= .int .i64 jz∧((i:Int)<jz→jz=jn∧jn<d.size)∧(¬ (i:Int)<jz→ ¬ i<jn)∧jn - i≤k∧
  dk.size=d.size∧wr=putRow bC (Sort.ahead w n) blk off dk∧reverseLoop i jn dk=reverseLoop a (b - 1) d)
 case atStart=>exact ⟨a,b - 1,(b:Int) - 1,d,0,rfl,rfl,fun h=>⟨by omega,by omega⟩,fun h=>by omega,by omega,rfl,(putRow_self bC w blk off d hH).symm,rfl⟩
 case round=>
  obtain ⟨i,jn,jz,dk,n,rfl,rfl,h1,h2,hk,hds,hwr,heq⟩:=hrel
  by_cases hlt:(i:Int)<jz
  ·obtain ⟨rfl,hjn⟩:=h1 hlt
   have hij:i<jn:=by omega
   have hHk:Holds bC wr blk off dk:=by rw [hwr];exact holds_putRow bC _ blk off d dk (holds_ahead bC w n blk off d hH) hds
   obtain ⟨ci,fi⟩:=hHk i (by omega)
   obtain ⟨cj,fj⟩:=hHk jn (by omega)
   have A:Aside (wr=putRow bC (Sort.ahead w n) blk off dk):=hwr
   clear hwr hHk hH h1 h2
   gi_wp2_with fail
   gi_region_o
   gi_wp2
   gi_roundg (jn - 1 - (i+1))
   case measure=>omega
   case rel=>
    rw [reverseLoop,if_pos hij] at heq
    exact ⟨i+1,jn - 1,(jn:Int) - 1,swp dk i jn,n+1,by simp,rfl,fun h=>⟨by omega,by omega⟩,fun h=>by omega,Nat.le_refl _,by rw [size_swp];exact hds,
     swap_world bC (by omega) (by omega) A.out (by simp [bC,getElem!_pos,show jn<dk.size by omega]) rfl,heq⟩
  ·have hnot:=h2 hlt
   gi_wp2
   go_end0
   refine ⟨rfl,n,?_⟩
   rw [reverseLoop,if_neg hnot] at heq
   rw [reverseRange, ←heq]
end
section
open Go.Shelf
variable {P:Program} {ρ :Ren}
open Go.Sort Go.RowKit
theorem AnySM.siftDown_intIn (Ly:SlLaysU.n5 P ρ) (D:Nat) (blk off len cap:Nat) (d:Array Int) (hlen:d.size=len) (lo hi first:Nat) (w:World) (hH:Holds bC w blk off d) (hlo:lo≤hi) (hb:first+hi≤d.size) (hsz:d.size<4611686018427387904):
  CallsIn (Fence.list (fF ρ) (some D)) 2 P (ρ.f 30) #[.slice (some ⟨blk,off,none⟩) len cap, .int .i64 lo, .int .i64 hi, .int .i64 first] w fun e w'=>e= .returned (.tuple #[])∧ ∃ n,w'=putRow bC (Sort.ahead w n) blk off (siftDown ltInt hi first lo d):=by
 subst hlen
 have mixed:=Ly.mixed
 have t0:=Ly.t0;have a0:=Ly.a0;have z0:=Ly.z0;have v0:=Ly.v0;have t3:=Ly.t3;have a3:=Ly.a3;have z3:=Ly.z3;have v3:=Ly.v3;have t4:=Ly.t4;have a4:=Ly.a4;have z4:=Ly.z4;have v4:=Ly.v4;have t22:=Ly.t22;have a22:=Ly.a22;have z22:=Ly.z22;have v22:=Ly.v22;have t25:=Ly.t25;have a25:=Ly.a25;have z25:=Ly.z25;have v25:=Ly.v25
 have e216: ∀ args w,(callFunc (ρ.f 16) args).run P w= .ok (.enter (ρ.f 16) args) w:=Ly.f16.enters rfl
 obtain ⟨_,_,FG⟩:=Ly.f30
 gi_enter FG,SlBodyM.n30_ntmps ρ
 gi_wp2
 gi_loopg [8] (hi - lo) (fun k s8 wr=> ∃ (root:Nat) (dk:Array Int) (n:Nat),s8= .int .i64 root∧root≤hi∧hi - root≤k∧dk.size=d.size∧wr=putRow bC (Sort.ahead w n) blk off dk∧siftDown ltInt hi first root dk=siftDown ltInt hi first lo d)
 case atStart=>exact ⟨lo,d,0,rfl,hlo,Nat.le_refl _,rfl,(putRow_self bC w blk off d hH).symm,rfl⟩
 case round=>
  obtain ⟨root,dk,n,rfl,hr,hk,hds,hwr,heq⟩:=hrel
  have hHk:Holds bC wr blk off dk:=by rw [hwr];exact holds_putRow bC _ blk off d dk (holds_ahead bC w n blk off d hH) hds
  have hcw: ∀ t,t<d.size→wr.cell? ⟨blk,off+t,none⟩=some (.int .u32 dk[t]!):=fun t ht=>(hHk t (by omega)).1
  have hfw: ∀ t,t<d.size→wr.frozen? ⟨blk,off+t,none⟩=false:=fun t ht=>(hHk t (by omega)).2
  have A:Aside (wr=putRow bC (Sort.ahead w n) blk off dk):=hwr
  clear hwr hH hHk
  by_cases h0:hi≤2*root+1
  ·
   have h0z:(hi:Int)≤2*(root:Int)+1:=by omega
   gi_wp2
   go_end0
   refine ⟨rfl,n,?_⟩
   rw [A.out, ←heq,sd_end ltInt dk h0]
  ·
   have h0z: ¬ ((hi:Int)≤2*(root:Int)+1):=by omega
   by_cases h1:2*root+2<hi
   ·have h1z:2*(root:Int)+1+1<(hi:Int):=by omega
    gi_wp2_with fail
    gi_big_quiet_th_o (first | (gi_at_fn (ρ.f 16);refine CallsIn.quiet_of_same (AnySM.cmp_Less_intIn {Ly with} D _ _ _)))
    gi_wp2_with fail
    ·
     have hL:ltInt dk[first+2*root+1]! dk[first+2*root+2]! =true:=by assumption
     revert nq;intro nq1
     have hcw2: ∀ t,t<d.size→(wr.drewN nq1).cell? ⟨blk,off+t,none⟩=some (.int .u32 dk[t]!):=hcw
     have hfw2: ∀ t,t<d.size→(wr.drewN nq1).frozen? ⟨blk,off+t,none⟩=false:=hfw
     have A2:Aside (wr.drewN nq1=putRow bC (Sort.ahead w (n+nq1)) blk off dk):=drewN_world bC A.out nq1
     clear hcw hfw A
     generalize wr.drewN nq1=wr2 at hcw2 hfw2 A2 ⊢
     gi_big_quiet_th_o (first | (gi_at_fn (ρ.f 16);refine CallsIn.quiet_of_same (AnySM.cmp_Less_intIn {Ly with} D _ _ _)))
     gi_wp2_with fail
     ·
      have hS:ltInt dk[first+root]! dk[first+2*root+2]! =false:=by
       have:(!ltInt dk[first+root]! dk[first+2*root+2]!)=true:=by assumption
       simpa using this
      (try simp only [Exit.inBlock,Exit.then]);refine bodyPost_ret (results_none rfl _ _ _) rfl ?_
      refine ⟨rfl,n+nq1+nq,?_⟩
      rw [drewN_world bC A2.out nq, ←heq,sd_right_stop ltInt dk h1 hL hS]
     ·
      have hG:ltInt dk[first+root]! dk[first+2*root+2]! =true:=by
       have:(!ltInt dk[first+root]! dk[first+2*root+2]!)=false:=by assumption
       simpa using this
      have hcw3: ∀ t,t<d.size→(wr2.drewN nq).cell? ⟨blk,off+t,none⟩=some (.int .u32 dk[t]!):=hcw2
      have hfw3: ∀ t,t<d.size→(wr2.drewN nq).frozen? ⟨blk,off+t,none⟩=false:=hfw2
      have A3:Aside (wr2.drewN nq=putRow bC (Sort.ahead w (n+nq1+nq)) blk off dk):=drewN_world bC A2.out nq
      clear hcw2 hfw2 A2
      generalize wr2.drewN nq=wr3 at hcw3 hfw3 A3 ⊢
      gi_region_o
      gi_wp2
      gi_roundg (hi - (2*root+2))
      case measure=>omega
      case rel=>
       refine ⟨2*root+2,swp dk (first+root) (first+(2*root+1+1)),n+nq1+nq+1,by simp<;>omega,by omega,Nat.le_refl _,by rw [size_swp];exact hds,swap_world bC (by omega) (by omega) A3.out rfl rfl,?_⟩
       rw [←heq,sd_right_go ltInt dk h1 hL hG]
    ·
     have hL:ltInt dk[first+2*root+1]! dk[first+2*root+2]! =false:=by assumption
     revert nq;intro nq1
     have hcw2: ∀ t,t<d.size→(wr.drewN nq1).cell? ⟨blk,off+t,none⟩=some (.int .u32 dk[t]!):=hcw
     have hfw2: ∀ t,t<d.size→(wr.drewN nq1).frozen? ⟨blk,off+t,none⟩=false:=hfw
     have A2:Aside (wr.drewN nq1=putRow bC (Sort.ahead w (n+nq1)) blk off dk):=drewN_world bC A.out nq1
     clear hcw hfw A
     generalize wr.drewN nq1=wr2 at hcw2 hfw2 A2 ⊢
     gi_big_quiet_th_o (first | (gi_at_fn (ρ.f 16);refine CallsIn.quiet_of_same (AnySM.cmp_Less_intIn {Ly with} D _ _ _)))
     gi_wp2_with fail
     ·
      have hS:ltInt dk[first+root]! dk[first+2*root+1]! =false:=by
       have:(!ltInt dk[first+root]! dk[first+2*root+1]!)=true:=by assumption
       simpa using this
      (try simp only [Exit.inBlock,Exit.then]);refine bodyPost_ret (results_none rfl _ _ _) rfl ?_
      refine ⟨rfl,n+nq1+nq,?_⟩
      rw [drewN_world bC A2.out nq, ←heq,sd_left_stop ltInt dk (by omega) (fun _=>hL) hS]
     ·
      have hG:ltInt dk[first+root]! dk[first+2*root+1]! =true:=by
       have:(!ltInt dk[first+root]! dk[first+2*root+1]!)=false:=by assumption
       simpa using this
      have hcw3: ∀ t,t<d.size→(wr2.drewN nq).cell? ⟨blk,off+t,none⟩=some (.int .u32 dk[t]!):=hcw2
      have hfw3: ∀ t,t<d.size→(wr2.drewN nq).frozen? ⟨blk,off+t,none⟩=false:=hfw2
      have A3:Aside (wr2.drewN nq=putRow bC (Sort.ahead w (n+nq1+nq)) blk off dk):=drewN_world bC A2.out nq
      clear hcw2 hfw2 A2
      generalize wr2.drewN nq=wr3 at hcw3 hfw3 A3 ⊢
      gi_region_o
      gi_wp2
      gi_roundg (hi - (2*root+1))
      case measure=>omega
      case rel=>
       refine ⟨2*root+1,swp dk (first+root) (first+(2*root+1)),n+nq1+nq+1,by simp<;>omega,by omega,Nat.le_refl _,by rw [size_swp];exact hds,swap_world bC (by omega) (by omega) A3.out rfl rfl,?_⟩
       rw [←heq,sd_left_go ltInt dk (by omega) (fun _=>hL) hG]
   ·
    have h1z:decide (2*(root:Int)+1+1<(hi:Int))=false:=decide_eq_false (by omega)
    gi_wp2_with fail
    gi_big_quiet_th_o (first | (gi_at_fn (ρ.f 16);refine CallsIn.quiet_of_same (AnySM.cmp_Less_intIn {Ly with} D _ _ _)))
    gi_wp2_with fail
    revert nq;intro nq1
    have hcw2: ∀ t,t<d.size→(wr.drewN nq1).cell? ⟨blk,off+t,none⟩=some (.int .u32 dk[t]!):=hcw
    have hfw2: ∀ t,t<d.size→(wr.drewN nq1).frozen? ⟨blk,off+t,none⟩=false:=hfw
    have A2:Aside (wr.drewN nq1=putRow bC (Sort.ahead w (n+nq1)) blk off dk):=drewN_world bC A.out nq1
    clear hcw hfw A
    generalize wr.drewN nq1=wr2 at hcw2 hfw2 A2 ⊢
    gi_big_quiet_th_o (first | (gi_at_fn (ρ.f 16);refine CallsIn.quiet_of_same (AnySM.cmp_Less_intIn {Ly with} D _ _ _)))
    gi_wp2_with fail
    ·
     have hS:ltInt dk[first+root]! dk[first+2*root+1]! =false:=by
      have:(!ltInt dk[first+root]! dk[first+2*root+1]!)=true:=by assumption
      simpa using this
     (try simp only [Exit.inBlock,Exit.then]);refine bodyPost_ret (results_none rfl _ _ _) rfl ?_
     refine ⟨rfl,n+nq1+nq,?_⟩
     rw [drewN_world bC A2.out nq, ←heq,sd_left_stop ltInt dk (by omega) (fun h=>absurd h h1) hS]
    ·
     have hG:ltInt dk[first+root]! dk[first+2*root+1]! =true:=by
      have:(!ltInt dk[first+root]! dk[first+2*root+1]!)=false:=by assumption
      simpa using this
     have hcw3: ∀ t,t<d.size→(wr2.drewN nq).cell? ⟨blk,off+t,none⟩=some (.int .u32 dk[t]!):=hcw2
     have hfw3: ∀ t,t<d.size→(wr2.drewN nq).frozen? ⟨blk,off+t,none⟩=false:=hfw2
     have A3:Aside (wr2.drewN nq=putRow bC (Sort.ahead w (n+nq1+nq)) blk off dk):=drewN_world bC A2.out nq
     clear hcw2 hfw2 A2
     generalize wr2.drewN nq=wr3 at hcw3 hfw3 A3 ⊢
     gi_region_o
     gi_wp2
     gi_roundg (hi - (2*root+1))
     case measure=>omega
     case rel=>
      refine ⟨2*root+1,swp dk (first+root) (first+(2*root+1)),n+nq1+nq+1,by simp<;>omega,by omega,Nat.le_refl _,by rw [size_swp];exact hds,swap_world bC (by omega) (by omega) A3.out rfl rfl,?_⟩
      rw [←heq,sd_left_go ltInt dk (by omega) (fun h=>absurd h h1) hG]
end
section
open Go.Shelf
variable {P:Program} {ρ :Ren}
open Go.Sort Go.RowKit
theorem AnySM.heapSort_intIn (Ly:SlLaysU.n5 P ρ) (D:Nat) (blk off len cap:Nat) (d:Array Int) (hlen:d.size=len) (a b:Nat) (w:World) (hH:Holds bC w blk off d) (hab:a≤b) (hb:b≤d.size) (hsz:d.size<4611686018427387904):
  CallsIn (Fence.list (fF ρ) (some D)) 3 P (ρ.f 11) #[.slice (some ⟨blk,off,none⟩) len cap, .int .i64 a, .int .i64 b] w fun e w'=>e= .returned (.tuple #[])∧ ∃ n,w'=putRow bC (Sort.ahead w n) blk off (heapSort ltInt d a b):=by
 subst hlen
 have ecast:((b - a:Nat):Int)=(b:Int) - (a:Int):=by omega
 have mixed:=Ly.mixed
 have t0:=Ly.t0;have a0:=Ly.a0;have z0:=Ly.z0;have v0:=Ly.v0;have t3:=Ly.t3;have a3:=Ly.a3;have z3:=Ly.z3;have v3:=Ly.v3;have t4:=Ly.t4;have a4:=Ly.a4;have z4:=Ly.z4;have v4:=Ly.v4;have t22:=Ly.t22;have a22:=Ly.a22;have z22:=Ly.z22;have v22:=Ly.v22;have t25:=Ly.t25;have a25:=Ly.a25;have z25:=Ly.z25;have v25:=Ly.v25
 have e328: ∀ args w,(callFunc (ρ.f 30) args).run P w= .ok (.enter (ρ.f 30) args) w:=Ly.f30.enters rfl
 obtain ⟨_,_,FG⟩:=Ly.f11
 gi_enter FG,SlBodyM.n11_ntmps ρ
 gi_wp2
 gi_loopg [9] ((b - a - 1) / 2+1) (fun k s9 wr=>s9= .int .i64 ((k:Int) - 1)∧k≤(b - a - 1) / 2+1∧ ∃ (dk:Array Int) (n:Nat),dk.size=d.size∧wr=putRow bC (Sort.ahead w n) blk off dk∧
  heapBuild ltInt (b - a) a k dk=heapBuild ltInt (b - a) a ((b - a - 1) / 2+1) d)
 case atStart=>exact ⟨by rw [half_start hab],Nat.le_refl _,d,0,rfl,(putRow_self bC w blk off d hH).symm,rfl⟩
 case round=>
  obtain ⟨rfl,hkk,dk,n,hds,hwr,heq⟩:=hrel
  have hHk:Holds bC wr blk off dk:=by rw [hwr];exact holds_putRow bC _ blk off d dk (holds_ahead bC w n blk off d hH) hds
  have A:Aside (wr=putRow bC (Sort.ahead w n) blk off dk):=hwr
  clear hwr
  cases gk with
  | zero=>
   have hB:dk=heapBuild ltInt (b - a) a ((b - a - 1) / 2+1) d:=heq
   clear heq hHk hkk
   gi_wp2
   gi_loopg [10] (b - a) (fun k s10 wr2=>s10= .int .i64 ((k:Int) - 1)∧k≤b - a∧ ∃ (dj:Array Int) (n2:Nat),dj.size=d.size∧wr2=putRow bC (Sort.ahead w n2) blk off dj∧heapPop ltInt a k dj=heapPop ltInt a (b - a) dk)
   case atStart=>exact ⟨by rw [ecast],Nat.le_refl _,dk,n,hds,A.out,rfl⟩
   case round=>
    obtain ⟨rfl,hkk,dj,n2,hdj,hwr2,heq2⟩:=hrel
    cases gk with
    | zero=>
     gi_wp2
     go_end0
     refine ⟨rfl,n2,?_⟩
     have e:dj=heapSort ltInt d a b:=by rw [heapSort, ←hB, ←heq2];rfl
     rw [←e]
    | succ k=>
     have hHj:Holds bC wr blk off dj:=by rw [hwr2];exact holds_putRow bC _ blk off d dj (holds_ahead bC w n2 blk off d hH) hdj
     have hcw: ∀ t,t<d.size→wr.cell? ⟨blk,off+t,none⟩=some (.int .u32 dj[t]!):=fun t ht=>(hHj t (by omega)).1
     have hfw: ∀ t,t<d.size→wr.frozen? ⟨blk,off+t,none⟩=false:=fun t ht=>(hHj t (by omega)).2
     have A2:Aside (wr=putRow bC (Sort.ahead w n2) blk off dj):=hwr2
     clear hwr2 hHj
     rcases Nat.eq_zero_or_pos k with hk0 | hkp
     ·subst hk0
      gi_wp2_with fail
      gi_region_o
      gi_wp2_with fail
      rw [swap_world bC (i:=a) (j:=a) (by omega) (by omega) A2.out rfl rfl]
      refine (AnySM.siftDown_intIn {Ly with} D blk off d.size cap (swp dj a (a)) (by rw [size_swp];exact hdj) 0 0 a _ (holds_putRow bC _ blk off d _ (holds_ahead bC w (n2+1) blk off d hH) (by rw [size_swp];exact hdj)) (Nat.zero_le _) (by rw [size_swp];omega) (by rw [size_swp];omega)).mono ?_
      rintro e w1 ⟨rfl,m,hw1⟩
      gi_wp2
      gi_roundg 0
      case measure=>omega
      case rel=>
       refine ⟨by simp,by omega,siftDown ltInt 0 a 0 (swp dj a (a)),n2+1+m,by rw [size_siftDown ltInt _ _ _ _ _ (Nat.le_refl _),size_swp];exact hdj,?_,heq2⟩
       first
        | rw [hw1,putRow_ahead_putRow bC w (n2+1) m blk off _ _ (size_siftDown ltInt _ _ _ _ _ (Nat.le_refl _))]
        | rw [putRow_ahead_putRow bC w (n2+1) m blk off _ _ (size_siftDown ltInt _ _ _ _ _ (Nat.le_refl _))]
     ·skip
      gi_wp2_with fail
      gi_region_o
      gi_wp2_with fail
      rw [swap_world bC (i:=a) (j:=a+k) (by omega) (by omega) A2.out rfl rfl]
      refine (AnySM.siftDown_intIn {Ly with} D blk off d.size cap (swp dj a (a+k)) (by rw [size_swp];exact hdj) 0 k a _ (holds_putRow bC _ blk off d _ (holds_ahead bC w (n2+1) blk off d hH) (by rw [size_swp];exact hdj)) (Nat.zero_le _) (by rw [size_swp];omega) (by rw [size_swp];omega)).mono ?_
      rintro e w1 ⟨rfl,m,hw1⟩
      gi_wp2
      gi_roundg k
      case measure=>omega
      case rel=>
       refine ⟨by simp,by omega,siftDown ltInt k a 0 (swp dj a (a+k)),n2+1+m,by rw [size_siftDown ltInt _ _ _ _ _ (Nat.le_refl _),size_swp];exact hdj,?_,heq2⟩
       first
        | rw [hw1,putRow_ahead_putRow bC w (n2+1) m blk off _ _ (size_siftDown ltInt _ _ _ _ _ (Nat.le_refl _))]
        | rw [putRow_ahead_putRow bC w (n2+1) m blk off _ _ (size_siftDown ltInt _ _ _ _ _ (Nat.le_refl _))]
  | succ k=>
   have hcall:=AnySM.siftDown_intIn {Ly with} D blk off d.size cap dk hds k (b - a) a wr hHk (by omega) (by omega) (by omega)
   rw [ecast] at hcall
   gi_wp2_with (gi_at_fn (ρ.f 30);refine hcall.mono ?_;rintro e w1 ⟨rfl,m,hw1⟩)
   gi_roundg k
   case measure=>omega
   case rel=>
    refine ⟨by simp,by omega,siftDown ltInt (b - a) a k dk,n+m,by rw [size_siftDown ltInt _ _ _ _ _ (Nat.le_refl _)];exact hds,?_,heq⟩
    rw [A.out,putRow_ahead_putRow bC w n m blk off dk _ (size_siftDown ltInt _ _ _ _ _ (Nat.le_refl _))]
end
end
section
open Go.Proofs
section
open Go.Shelf
variable {P:Program} {ρ :Ren}
open Go.RowKit Go.Sort
section
variable {α:Type} [Inhabited α]
variable (lt:α→α→Bool)
end
theorem AnySM.partitionEqual_intIn (Ly:SlLaysU.n5 P ρ) (D:Nat) (blk off cap a b pivot:Nat) (d:Array Int) (w:World) (hH:Holds (Value.int .u32) w blk off d) (hap:a≤pivot) (hpb:pivot<b) (hb:b≤d.size) (hsz:d.size<4611686018427387904):
  CallsIn (Fence.list (fF ρ) (some D)) 2 P (ρ.f 17) #[.slice (some ⟨blk,off,none⟩) d.size cap, .int .i64 a, .int .i64 b, .int .i64 pivot] w fun e w'=>
   e= .returned (.int .i64 (Sort.partitionEqual Sort.ltInt d a b pivot).1)∧ ∃ n,w'=(putRow (Value.int .u32) w blk off (Sort.partitionEqual Sort.ltInt d a b pivot).2).drewN n:=by
 have hla:a<d.size:=by omega
 have hlp:pivot<d.size:=by omega
 obtain ⟨G,hG⟩: ∃ G:Nat→Int, ∀ j,G j=d[j]! :=⟨fun j=>d[j]!,fun _=>rfl⟩
 have ca:w.cell? ⟨blk,off+a,none⟩=some (.int .u32 (G a)):=by rw [hG];exact (hH a hla).1
 have fa:=(hH a hla).2
 have cp:w.cell? ⟨blk,off+pivot,none⟩=some (.int .u32 (G pivot)):=by rw [hG];exact (hH pivot hlp).1
 have fp:=(hH pivot hlp).2
 obtain ⟨v',hy'⟩:=cell?_setCell_some (w:=w) (p:=⟨blk,off+a,none⟩) (x:= .int .u32 (G pivot)) (q:=⟨blk,off+pivot,none⟩) cp
 have AG:Hid (∀ j,G j=d[j]!):=hG
 have AH:Hid (Holds (Value.int .u32) w blk off d):=hH
 clear hG hH
 have mixed:=Ly.mixed
 have t0:=Ly.t0;have a0:=Ly.a0;have z0:=Ly.z0;have v0:=Ly.v0;have t3:=Ly.t3;have a3:=Ly.a3;have z3:=Ly.z3;have v3:=Ly.v3;have t4:=Ly.t4;have a4:=Ly.a4;have z4:=Ly.z4;have v4:=Ly.v4;have t22:=Ly.t22;have a22:=Ly.a22;have z22:=Ly.z22;have v22:=Ly.v22;have t25:=Ly.t25;have a25:=Ly.a25;have z25:=Ly.z25;have v25:=Ly.v25
 have e216: ∀ args w,(callFunc (ρ.f 16) args).run P w= .ok (.enter (ρ.f 16) args) w:=Ly.f16.enters rfl
 obtain ⟨_,_,FG⟩:=Ly.f17
 gi_enter FG,SlBodyM.n17_ntmps ρ
 gi_wp2
 gi_region_o
 gi_wp2
 gi_loopw [9,10] (fun vi vj wr=> ∃ (i j n:Nat) (dk:Array Int),vi= .int .i64 i∧vj= .int .i64 j∧a<i∧i≤j+1∧j<b∧dk.size=d.size∧wr=(putRow (Value.int .u32) w blk off dk).drewN n∧
   Sort.partEqLoop Sort.ltInt a i j dk=Sort.partEqLoop Sort.ltInt a (a+1) (b - 1) (Sort.swp d a pivot))
  (fun vi vj _=>(intOf vj).toNat+1 - (intOf vi).toNat)
 case atStart=>
  refine ⟨a+1,b - 1,1,Sort.swp d a pivot,by go_num,by go_num,by omega,by omega,by omega,size_swp _ _ _,?_,rfl⟩
  have e:=swap_worldC (Value.int .u32) w blk off d 0 a pivot hla hlp
  rw [putRow_self _ w blk off d AH.out] at e
  rw [AG.out a,AG.out pivot]
  exact e
 case round=>
  obtain ⟨i,j,n,dk,rfl,rfl,hai,hij,hjb,hs,hw,heq⟩:=hrel
  clear ca fa cp fp hy' v' AG
  rename World=>W1
  have hHk:Holds (Value.int .u32) W1 blk off dk:=by
   rw [hw]
   exact holds_putRow (Value.int .u32) w blk off d dk AH.out hs
  obtain ⟨Gk,hG⟩: ∃ Gk:Nat→Int, ∀ t,Gk t=dk[t]! :=⟨fun t=>dk[t]!,fun _=>rfl⟩
  have hc: ∀ t,t<d.size→W1.cell? ⟨blk,off+t,none⟩=some (.int .u32 (Gk t)):=fun t ht=>by rw [hG];exact (hHk t (by omega)).1
  have hf: ∀ t,t<d.size→W1.frozen? ⟨blk,off+t,none⟩=false:=fun t ht=>(hHk t (by omega)).2
  have AG:Hid (∀ t,Gk t=dk[t]!):=hG
  have AW:Hid (W1=(putRow (Value.int .u32) w blk off dk).drewN n):=hw
  have AE:Hid (Sort.partEqLoop Sort.ltInt a i j dk=Sort.partEqLoop Sort.ltInt a (a+1) (b - 1) (Sort.swp d a pivot)):=heq
  clear hG hw heq hHk
  gi_wp2
  gi_loopw [9] (fun vi w1=> ∃ (i' n1:Nat),vi= .int .i64 i'∧i≤i'∧i'≤j+1∧w1=W1.drewN n1∧
    Hid (Sort.scanUp (fun x=>!Sort.ltInt dk[a]! x) dk j i'=Sort.scanUp (fun x=>!Sort.ltInt dk[a]! x) dk j i))
   (fun vi _=>j+1 - (intOf vi).toNat)
  case atStart=>exact ⟨i,0,rfl,Nat.le_refl _,hij,rfl,rfl⟩
  case round=>
   obtain ⟨i',n1,rfl,hii,hij',hw1,hsc⟩:=hrel
   have hcw: ∀ t,t<d.size→wr.cell? ⟨blk,off+t,none⟩=some (.int .u32 (Gk t)):=fun t ht=>by rw [hw1];exact hc t ht
   have HW1:Hid (wr=W1.drewN n1):=hw1
   clear hw1
   by_cases hle:i'≤j
   ·gi_wp2_with fail
    gi_big_quiet_th_o (first | (gi_at_fn (ρ.f 16);refine CallsIn.quiet_of_same (AnySM.cmp_Less_intIn {Ly with} D _ _ _)))
    gi_wp2
    ·
     have ht:(!Sort.ltInt (Gk a) (Gk i'))=true:=by assumption
     go_roundw
     case rel=>exact ⟨i'+1,n1+nq,by go_num,by omega,by omega,by rw [HW1.out,World.drewN_drewN],(scanUp_go (fun x=>!Sort.ltInt dk[a]! x) dk j i' hle (by rw [←AG.out a, ←AG.out i'];exact ht)).symm.trans hsc.out⟩
     case measure=>simp [intOf];omega
    ·
     have ht:(!Sort.ltInt (Gk a) (Gk i'))=false:=by assumption
     have hi2:Hid (i'=Sort.scanUp (fun x=>!Sort.ltInt dk[a]! x) dk j i):=(scanUp_end (fun x=>!Sort.ltInt dk[a]! x) dk j i' (Or.inr (by rw [←AG.out a, ←AG.out i'];exact ht))).symm.trans hsc.out
     clear ht
     have hw2:wr.drewN nq=W1.drewN (n1+nq):=by rw [HW1.out,World.drewN_drewN]
     clear hcw HW1 hsc
     gi_loopw [10] (fun vj w2=> ∃ (j' n2:Nat),vj= .int .i64 j'∧j'≤j∧i'≤j'+1∧w2=W1.drewN n2∧
       Hid (Sort.scanDown (fun x=>Sort.ltInt dk[a]! x) dk i' j'=Sort.scanDown (fun x=>Sort.ltInt dk[a]! x) dk i' j))
      (fun vj _=>(intOf vj).toNat)
     case atStart=>exact ⟨j,n1+nq,rfl,Nat.le_refl _,hij',hw2,rfl⟩
     case round=>
      clear hw2
      obtain ⟨j',n2,rfl,hjj,hij2,hw2,hsd⟩:=hrel
      have hcw: ∀ t,t<d.size→wr.cell? ⟨blk,off+t,none⟩=some (.int .u32 (Gk t)):=fun t ht=>by rw [hw2];exact hc t ht
      have HW2:Hid (wr=W1.drewN n2):=hw2
      clear hw2
      by_cases hle2:i'≤j'
      ·gi_wp2_with fail
       gi_big_quiet_th_o (first | (gi_at_fn (ρ.f 16);refine CallsIn.quiet_of_same (AnySM.cmp_Less_intIn {Ly with} D _ _ _)))
       gi_wp2
       ·
        have ht:Sort.ltInt (Gk a) (Gk j')=true:=by assumption
        go_roundw
        case rel=>exact ⟨j' - 1,n2+nq,by go_num,by omega,by omega,by rw [HW2.out,World.drewN_drewN],(scanDown_go (fun x=>Sort.ltInt dk[a]! x) dk i' j' hle2 (by omega) (by rw [←AG.out a, ←AG.out j'];exact ht)).symm.trans hsd.out⟩
        case measure=>simp [intOf];omega
       ·
        have ht:Sort.ltInt (Gk a) (Gk j')=false:=by assumption
        have hj2:Hid (j'=Sort.scanDown (fun x=>Sort.ltInt dk[a]! x) dk i' j):=(scanDown_end (fun x=>Sort.ltInt dk[a]! x) dk i' j' (Or.inr (by rw [←AG.out a, ←AG.out j'];exact ht))).symm.trans hsd.out
        clear hcw hsd ht
        have hw3:wr.drewN nq=W1.drewN (n2+nq):=by rw [HW2.out,World.drewN_drewN]
        generalize wr.drewN nq=W3 at hw3 ⊢
        have hc3: ∀ t,t<d.size→W3.cell? ⟨blk,off+t,none⟩=some (.int .u32 (Gk t)):=fun t ht=>by rw [hw3];exact hc t ht
        have hf3: ∀ t,t<d.size→W3.frozen? ⟨blk,off+t,none⟩=false:=fun t ht=>by rw [hw3];exact hf t ht
        have HW3:Hid (W3=W1.drewN (n2+nq)):=hw3
        clear hw3
        obtain ⟨v3,hy3⟩:=cell?_setCell_some (w:=W3) (p:=⟨blk,off+i',none⟩) (x:= .int .u32 (Gk j')) (q:=⟨blk,off+j',none⟩) (hc3 j' (by omega))
        have hlt3:=scans_lt Sort.ltInt a i j dk (by omega) hi2.out hj2.out hle2
        gi_wp2
        gi_region_o
        all_goals gi_wp2
        all_goals go_roundw
        case rel=>
         refine ⟨i'+1,j' - 1,n+(n2+nq)+1,Sort.swp dk i' j',by go_num,by go_num,by omega,by omega,by omega,by rw [size_swp];exact hs,?_,?_⟩
         ·rw [HW3.out,AW.out,World.drewN_drewN,AG.out i',AG.out j']
          exact swap_worldC (Value.int .u32) w blk off dk _ i' j' (by omega) (by omega)
         ·rw [←AE.out];exact (partEq_go Sort.ltInt a i j dk hi2.out hj2.out (by omega)).symm
        case measure=>simp [intOf];omega
      ·gi_wp2_with fail
       gi_big_quiet_th_o (first | (gi_at_fn (ρ.f 16);refine CallsIn.quiet_of_same (AnySM.cmp_Less_intIn {Ly with} D _ _ _)))
       have hj2:Hid (j'=Sort.scanDown (fun x=>Sort.ltInt dk[a]! x) dk i' j):=(scanDown_end (fun x=>Sort.ltInt dk[a]! x) dk i' j' (Or.inl hle2)).symm.trans hsd.out
       clear hcw hsd
       have hw3:wr.drewN nq=W1.drewN (n2+nq):=by rw [HW2.out,World.drewN_drewN]
       generalize wr.drewN nq=W3 at hw3 ⊢
       have hc3: ∀ t,t<d.size→W3.cell? ⟨blk,off+t,none⟩=some (.int .u32 (Gk t)):=fun t ht=>by rw [hw3];exact hc t ht
       have hf3: ∀ t,t<d.size→W3.frozen? ⟨blk,off+t,none⟩=false:=fun t ht=>by rw [hw3];exact hf t ht
       have HW3:Hid (W3=W1.drewN (n2+nq)):=hw3
       clear hw3
       gi_wp2
       go_ret
       have e:=partEq_break Sort.ltInt a i j dk hi2.out hj2.out (by omega)
       refine ⟨?_,n+(n2+nq),?_⟩
       ·unfold Sort.partitionEqual;rw [←AE.out,e];rfl
       ·unfold Sort.partitionEqual;rw [←AE.out,e,HW3.out,AW.out,World.drewN_drewN]
   ·gi_wp2_with fail
    gi_big_quiet_th_o (first | (gi_at_fn (ρ.f 16);refine CallsIn.quiet_of_same (AnySM.cmp_Less_intIn {Ly with} D _ _ _)))
    gi_wp2
    have hi2:Hid (i'=Sort.scanUp (fun x=>!Sort.ltInt dk[a]! x) dk j i):=(scanUp_end (fun x=>!Sort.ltInt dk[a]! x) dk j i' (Or.inl hle)).symm.trans hsc.out
    have hw2:wr.drewN nq=W1.drewN (n1+nq):=by rw [HW1.out,World.drewN_drewN]
    clear hcw HW1 hsc
    gi_loopw [10] (fun vj w2=> ∃ (j' n2:Nat),vj= .int .i64 j'∧j'≤j∧i'≤j'+1∧w2=W1.drewN n2∧
      Hid (Sort.scanDown (fun x=>Sort.ltInt dk[a]! x) dk i' j'=Sort.scanDown (fun x=>Sort.ltInt dk[a]! x) dk i' j))
     (fun vj _=>(intOf vj).toNat)
    case atStart=>exact ⟨j,n1+nq,rfl,Nat.le_refl _,hij',hw2,rfl⟩
    case round=>
     clear hw2
     obtain ⟨j',n2,rfl,hjj,hij2,hw2,hsd⟩:=hrel
     have hcw: ∀ t,t<d.size→wr.cell? ⟨blk,off+t,none⟩=some (.int .u32 (Gk t)):=fun t ht=>by rw [hw2];exact hc t ht
     have HW2:Hid (wr=W1.drewN n2):=hw2
     clear hw2
     by_cases hle2:i'≤j'
     ·exfalso;omega
     ·gi_wp2_with fail
      gi_big_quiet_th_o (first | (gi_at_fn (ρ.f 16);refine CallsIn.quiet_of_same (AnySM.cmp_Less_intIn {Ly with} D _ _ _)))
      have hj2:Hid (j'=Sort.scanDown (fun x=>Sort.ltInt dk[a]! x) dk i' j):=(scanDown_end (fun x=>Sort.ltInt dk[a]! x) dk i' j' (Or.inl hle2)).symm.trans hsd.out
      clear hcw hsd
      have hw3:wr.drewN nq=W1.drewN (n2+nq):=by rw [HW2.out,World.drewN_drewN]
      generalize wr.drewN nq=W3 at hw3 ⊢
      have hc3: ∀ t,t<d.size→W3.cell? ⟨blk,off+t,none⟩=some (.int .u32 (Gk t)):=fun t ht=>by rw [hw3];exact hc t ht
      have hf3: ∀ t,t<d.size→W3.frozen? ⟨blk,off+t,none⟩=false:=fun t ht=>by rw [hw3];exact hf t ht
      have HW3:Hid (W3=W1.drewN (n2+nq)):=hw3
      clear hw3
      gi_wp2
      go_ret
      have e:=partEq_break Sort.ltInt a i j dk hi2.out hj2.out (by omega)
      refine ⟨?_,n+(n2+nq),?_⟩
      ·unfold Sort.partitionEqual;rw [←AE.out,e];rfl
      ·unfold Sort.partitionEqual;rw [←AE.out,e,HW3.out,AW.out,World.drewN_drewN]
theorem AnySM.partitionEqualOrdered_intIn (Ly:SlLaysU.n5 P ρ) (D:Nat) (blk off cap a b pivot:Nat) (d:Array Int) (w:World) (hH:Holds (Value.int .u32) w blk off d) (hap:a≤pivot) (hpb:pivot<b) (hb:b≤d.size) (hsz:d.size<4611686018427387904):
  CallsIn (Fence.list (fF ρ) (some D)) 2 P (ρ.f 17) #[.slice (some ⟨blk,off,none⟩) d.size cap, .int .i64 a, .int .i64 b, .int .i64 pivot] w fun e w'=>
   e= .returned (.int .i64 (Sort.partitionEqual Sort.ltInt d a b pivot).1)∧ ∃ n,w'=putRow (Value.int .u32) (Sort.ahead w n) blk off (Sort.partitionEqual Sort.ltInt d a b pivot).2:=
 (AnySM.partitionEqual_intIn {Ly with} D blk off cap a b pivot d w hH hap hpb hb hsz).mono fun _ _ ⟨he,n,hw⟩=>⟨he,n,hw⟩
end
section
open Go.Shelf
variable {P:Program} {ρ :Ren}
open Go.RowKit Go.Sort
section
variable {α:Type} [Inhabited α] (lt:α→α→Bool)
end
theorem AnySM.partition_intIn (Ly:SlLaysU.n5 P ρ) (D:Nat) (blk off cap a b pivot:Nat) (d:Array Int) (w:World) (hH:Holds (Value.int .u32) w blk off d) (hap:a≤pivot) (hpb:pivot<b) (hb:b≤d.size) (hsz:d.size<4611686018427387904):
  CallsIn (Fence.list (fF ρ) (some D)) 2 P (ρ.f 18) #[.slice (some ⟨blk,off,none⟩) d.size cap, .int .i64 a, .int .i64 b, .int .i64 pivot] w fun e w'=>
   e= .returned (.tuple #[.int .i64 (Sort.partition Sort.ltInt d a b pivot).1, .bool (Sort.partition Sort.ltInt d a b pivot).2.1])∧ ∃ n,w'=(putRow (Value.int .u32) w blk off (Sort.partition Sort.ltInt d a b pivot).2.2).drewN n:=by
 have hla:a<d.size:=by omega
 have hlp:pivot<d.size:=by omega
 obtain ⟨G,hG⟩: ∃ G:Nat→Int, ∀ j,G j=d[j]! :=⟨fun j=>d[j]!,fun _=>rfl⟩
 have ca:w.cell? ⟨blk,off+a,none⟩=some (.int .u32 (G a)):=by rw [hG];exact (hH a hla).1
 have fa:=(hH a hla).2
 have cp:w.cell? ⟨blk,off+pivot,none⟩=some (.int .u32 (G pivot)):=by rw [hG];exact (hH pivot hlp).1
 have fp:=(hH pivot hlp).2
 obtain ⟨v',hy'⟩:=cell?_setCell_some (w:=w) (p:=⟨blk,off+a,none⟩) (x:= .int .u32 (G pivot)) (q:=⟨blk,off+pivot,none⟩) cp
 have hw:((w.setCell ⟨blk,off+a,none⟩ (.int .u32 (G pivot))).setCell ⟨blk,off+pivot,none⟩ (.int .u32 (G a))).drew=(putRow (Value.int .u32) w blk off (Sort.swp d a pivot)).drewN 1:=by
  have e:=swap_worldC (Value.int .u32) w blk off d 0 a pivot hla hlp
  rw [putRow_self _ w blk off d hH] at e
  rw [hG a,hG pivot]
  exact e
 have AH:Hid (Holds (Value.int .u32) w blk off d):=hH
 have HW0:=Hid.mk' hw
 clear hG hH hw
 have mixed:=Ly.mixed
 have t0:=Ly.t0;have a0:=Ly.a0;have z0:=Ly.z0;have v0:=Ly.v0;have t3:=Ly.t3;have a3:=Ly.a3;have z3:=Ly.z3;have v3:=Ly.v3;have t4:=Ly.t4;have a4:=Ly.a4;have z4:=Ly.z4;have v4:=Ly.v4;have t22:=Ly.t22;have a22:=Ly.a22;have z22:=Ly.z22;have v22:=Ly.v22;have t25:=Ly.t25;have a25:=Ly.a25;have z25:=Ly.z25;have v25:=Ly.v25
 have e216: ∀ args w,(callFunc (ρ.f 16) args).run P w= .ok (.enter (ρ.f 16) args) w:=Ly.f16.enters rfl
 obtain ⟨_,_,FG⟩:=Ly.f18
 gi_enter FG,SlBodyM.n18_ntmps ρ
 gi_wp2
 gi_region_o
 gi_wp2
 clear ca fa cp fp hy' v'
 have hw:=HW0.out
 clear HW0
 generalize ((w.setCell ⟨blk,off+a,none⟩ (.int .u32 (G pivot))).setCell ⟨blk,off+pivot,none⟩ (.int .u32 (G a))).drew=W1 at hw ⊢
 obtain ⟨dk,hdk⟩: ∃ dk,dk=Sort.swp d a pivot:=⟨_,rfl⟩
 obtain ⟨n,hn⟩: ∃ n:Nat,n=1:=⟨_,rfl⟩
 rw [←hdk, ←hn] at hw
 clear hn
 have hs:dk.size=d.size:=by rw [hdk,size_swp]
 have e1:((a:Int)+1)=((a+1:Nat):Int):=by omega
 have e2:((b:Int) - 1)=((b - 1:Nat):Int):=by omega
 rw [e1,e2]
 clear e1 e2
 obtain ⟨i,hi⟩: ∃ i,i=a+1:=⟨_,rfl⟩
 obtain ⟨j,hj⟩: ∃ j,j=b - 1:=⟨_,rfl⟩
 rw [←hi, ←hj]
 have hai:a<i:=by omega
 have hij:i≤j+1:=by omega
 have hjb:j<b:=by omega
 have HI:=Hid.mk' hi
 have HJ:=Hid.mk' hj
 have HDK:=Hid.mk' hdk
 clear hi hj hdk
 have hHk:Holds (Value.int .u32) W1 blk off dk:=by
  rw [hw]
  exact holds_putRow (Value.int .u32) w blk off d dk AH.out hs
 obtain ⟨Gk,hG⟩: ∃ Gk:Nat→Int, ∀ t,Gk t=dk[t]! :=⟨fun t=>dk[t]!,fun _=>rfl⟩
 have hc: ∀ t,t<d.size→W1.cell? ⟨blk,off+t,none⟩=some (.int .u32 (Gk t)):=fun t ht=>by rw [hG];exact (hHk t (by omega)).1
 have hf: ∀ t,t<d.size→W1.frozen? ⟨blk,off+t,none⟩=false:=fun t ht=>(hHk t (by omega)).2
 have AG:Hid (∀ t,Gk t=dk[t]!):=hG
 have AW:Hid (W1=(putRow (Value.int .u32) w blk off dk).drewN n):=hw
 clear hG hw hHk
 gi_loopw [10] (fun vi w1=> ∃ (i' n1:Nat),vi= .int .i64 i'∧i≤i'∧i'≤j+1∧w1=W1.drewN n1∧
   Hid (Sort.scanUp (fun x=>Sort.ltInt x dk[a]!) dk j i'=Sort.scanUp (fun x=>Sort.ltInt x dk[a]!) dk j i))
  (fun vi _=>j+1 - (intOf vi).toNat)
 case atStart=>exact ⟨i,0,rfl,Nat.le_refl _,hij,rfl,rfl⟩
 case round=>
  obtain ⟨i',n1,rfl,hii,hij',hw1,hsc⟩:=hrel
  have hcw: ∀ t,t<d.size→wr.cell? ⟨blk,off+t,none⟩=some (.int .u32 (Gk t)):=fun t ht=>by rw [hw1];exact hc t ht
  have HW1:Hid (wr=W1.drewN n1):=hw1
  clear hw1
  by_cases hle:i'≤j
  ·gi_wp2_with fail
   gi_big_quiet_th_o (first | (gi_at_fn (ρ.f 16);refine CallsIn.quiet_of_same (AnySM.cmp_Less_intIn {Ly with} D _ _ _)))
   gi_wp2
   ·
    have ht:Sort.ltInt (Gk i') (Gk a)=true:=by assumption
    go_roundw
    case rel=>exact ⟨i'+1,n1+nq,by go_num,by omega,by omega,by rw [HW1.out,World.drewN_drewN],(scanUp_go (fun x=>Sort.ltInt x dk[a]!) dk j i' hle (by rw [←AG.out a, ←AG.out i'];exact ht)).symm.trans hsc.out⟩
    case measure=>simp [intOf];omega
   ·
    have ht:Sort.ltInt (Gk i') (Gk a)=false:=by assumption
    have hi2:Hid (i'=Sort.scanUp (fun x=>Sort.ltInt x dk[a]!) dk j i):=(scanUp_end (fun x=>Sort.ltInt x dk[a]!) dk j i' (Or.inr (by rw [←AG.out a, ←AG.out i'];exact ht))).symm.trans hsc.out
    clear ht
    have hw2:wr.drewN nq=W1.drewN (n1+nq):=by rw [HW1.out,World.drewN_drewN]
    clear hcw HW1 hsc
    gi_loopw [11] (fun vj w2=> ∃ (j' n2:Nat),vj= .int .i64 j'∧j'≤j∧i'≤j'+1∧w2=W1.drewN n2∧
      Hid (Sort.scanDown (fun x=>!Sort.ltInt x dk[a]!) dk i' j'=Sort.scanDown (fun x=>!Sort.ltInt x dk[a]!) dk i' j))
     (fun vj _=>(intOf vj).toNat)
    case atStart=>exact ⟨j,n1+nq,rfl,Nat.le_refl _,hij',hw2,rfl⟩
    case round=>
     clear hw2
     obtain ⟨j',n2,rfl,hjj,hij2,hw2,hsd⟩:=hrel
     have hcw: ∀ t,t<d.size→wr.cell? ⟨blk,off+t,none⟩=some (.int .u32 (Gk t)):=fun t ht=>by rw [hw2];exact hc t ht
     have HW2:Hid (wr=W1.drewN n2):=hw2
     clear hw2
     by_cases hle2:i'≤j'
     ·gi_wp2_with fail
      gi_big_quiet_th_o (first | (gi_at_fn (ρ.f 16);refine CallsIn.quiet_of_same (AnySM.cmp_Less_intIn {Ly with} D _ _ _)))
      gi_wp2
      ·
       have ht:(!Sort.ltInt (Gk j') (Gk a))=true:=by assumption
       go_roundw
       case rel=>exact ⟨j' - 1,n2+nq,by go_num,by omega,by omega,by rw [HW2.out,World.drewN_drewN],(scanDown_go (fun x=>!Sort.ltInt x dk[a]!) dk i' j' hle2 (by omega) (by rw [←AG.out a, ←AG.out j'];exact ht)).symm.trans hsd.out⟩
       case measure=>simp [intOf];omega
      ·
       have ht:(!Sort.ltInt (Gk j') (Gk a))=false:=by assumption
       have hj2:Hid (j'=Sort.scanDown (fun x=>!Sort.ltInt x dk[a]!) dk i' j):=(scanDown_end (fun x=>!Sort.ltInt x dk[a]!) dk i' j' (Or.inr (by rw [←AG.out a, ←AG.out j'];exact ht))).symm.trans hsd.out
       clear hcw hsd ht
       have hw3:wr.drewN nq=W1.drewN (n2+nq):=by rw [HW2.out,World.drewN_drewN]
       generalize wr.drewN nq=W3 at hw3 ⊢
       have hc3: ∀ t,t<d.size→W3.cell? ⟨blk,off+t,none⟩=some (.int .u32 (Gk t)):=fun t ht=>by rw [hw3];exact hc t ht
       have hf3: ∀ t,t<d.size→W3.frozen? ⟨blk,off+t,none⟩=false:=fun t ht=>by rw [hw3];exact hf t ht
       have HW3:Hid (W3=W1.drewN (n2+nq)):=hw3
       clear hw3
       obtain ⟨v3,hy3⟩:=cell?_setCell_some (w:=W3) (p:=⟨blk,off+i',none⟩) (x:= .int .u32 (Gk j')) (q:=⟨blk,off+j',none⟩) (hc3 j' (by omega))
       have hlt3:=part_scans_lt Sort.ltInt a i j dk (by omega) hi2.out hj2.out hle2
       gi_wp2
       gi_region_o
       all_goals gi_wp2
       obtain ⟨R,hR⟩: ∃ R,R=Sort.partLoop Sort.ltInt a (i'+1) (j' - 1) (Sort.swp dk i' j'):=⟨_,rfl⟩
       have HP:Hid (Sort.partition Sort.ltInt d a b pivot=(R.1,false,Sort.swp R.2 R.1 a)):=by rw [hR];exact part_first_go Sort.ltInt d a b pivot HI.out HJ.out HDK.out hi2.out hj2.out (by omega)
       have hw0:((W3.setCell ⟨blk,off+i',none⟩ (.int .u32 (Gk j'))).setCell ⟨blk,off+j',none⟩ (.int .u32 (Gk i'))).drew=(putRow (Value.int .u32) w blk off (Sort.swp dk i' j')).drewN (n+(n2+nq)+1):=by
        rw [HW3.out,AW.out,World.drewN_drewN,AG.out i',AG.out j']
        exact swap_worldC (Value.int .u32) w blk off dk _ i' j' (by omega) (by omega)
       have HR:Hid (R=Sort.partLoop Sort.ltInt a (i'+1) (j' - 1) (Sort.swp dk i' j')):=hR
       clear hR hc hf hc3 hf3 hy3 HW3 AW AG hi2 hj2
       gi_loopw [10,11] (fun vi vj wr=> ∃ (i j n:Nat) (dk:Array Int),vi= .int .i64 i∧vj= .int .i64 j∧a<i∧i≤j+1∧j<b∧dk.size=d.size∧wr=(putRow (Value.int .u32) w blk off dk).drewN n∧
         Sort.partLoop Sort.ltInt a i j dk=R)
        (fun vi vj _=>(intOf vj).toNat+1 - (intOf vi).toNat)
       case atStart=>exact ⟨i'+1,j' - 1,_,Sort.swp dk i' j',by go_num,by go_num,by omega,by omega,by omega,by rw [size_swp];exact hs,hw0,HR.out.symm⟩
       case round=>
        clear hw0 HR
        obtain ⟨i,j,n,dk,rfl,rfl,hai,hij,hjb,hs,hw,heq⟩:=hrel
        rename World=>W1
        have AE:Hid (Sort.partLoop Sort.ltInt a i j dk=R):=heq
        clear heq
        have hHk:Holds (Value.int .u32) W1 blk off dk:=by
         rw [hw]
         exact holds_putRow (Value.int .u32) w blk off d dk AH.out hs
        obtain ⟨Gk,hG⟩: ∃ Gk:Nat→Int, ∀ t,Gk t=dk[t]! :=⟨fun t=>dk[t]!,fun _=>rfl⟩
        have hc: ∀ t,t<d.size→W1.cell? ⟨blk,off+t,none⟩=some (.int .u32 (Gk t)):=fun t ht=>by rw [hG];exact (hHk t (by omega)).1
        have hf: ∀ t,t<d.size→W1.frozen? ⟨blk,off+t,none⟩=false:=fun t ht=>(hHk t (by omega)).2
        have AG:Hid (∀ t,Gk t=dk[t]!):=hG
        have AW:Hid (W1=(putRow (Value.int .u32) w blk off dk).drewN n):=hw
        clear hG hw hHk
        gi_wp2
        gi_loopw [10] (fun vi w1=> ∃ (i' n1:Nat),vi= .int .i64 i'∧i≤i'∧i'≤j+1∧w1=W1.drewN n1∧
          Hid (Sort.scanUp (fun x=>Sort.ltInt x dk[a]!) dk j i'=Sort.scanUp (fun x=>Sort.ltInt x dk[a]!) dk j i))
         (fun vi _=>j+1 - (intOf vi).toNat)
        case atStart=>exact ⟨i,0,rfl,Nat.le_refl _,hij,rfl,rfl⟩
        case round=>
         obtain ⟨i',n1,rfl,hii,hij',hw1,hsc⟩:=hrel
         have hcw: ∀ t,t<d.size→wr.cell? ⟨blk,off+t,none⟩=some (.int .u32 (Gk t)):=fun t ht=>by rw [hw1];exact hc t ht
         have HW1:Hid (wr=W1.drewN n1):=hw1
         clear hw1
         by_cases hle:i'≤j
         ·gi_wp2_with fail
          gi_big_quiet_th_o (first | (gi_at_fn (ρ.f 16);refine CallsIn.quiet_of_same (AnySM.cmp_Less_intIn {Ly with} D _ _ _)))
          gi_wp2
          ·
           have ht:Sort.ltInt (Gk i') (Gk a)=true:=by assumption
           go_roundw
           case rel=>exact ⟨i'+1,n1+nq,by go_num,by omega,by omega,by rw [HW1.out,World.drewN_drewN],(scanUp_go (fun x=>Sort.ltInt x dk[a]!) dk j i' hle (by rw [←AG.out a, ←AG.out i'];exact ht)).symm.trans hsc.out⟩
           case measure=>simp [intOf];omega
          ·
           have ht:Sort.ltInt (Gk i') (Gk a)=false:=by assumption
           have hi2:Hid (i'=Sort.scanUp (fun x=>Sort.ltInt x dk[a]!) dk j i):=(scanUp_end (fun x=>Sort.ltInt x dk[a]!) dk j i' (Or.inr (by rw [←AG.out a, ←AG.out i'];exact ht))).symm.trans hsc.out
           clear ht
           have hw2:wr.drewN nq=W1.drewN (n1+nq):=by rw [HW1.out,World.drewN_drewN]
           clear hcw HW1 hsc
           gi_loopw [11] (fun vj w2=> ∃ (j' n2:Nat),vj= .int .i64 j'∧j'≤j∧i'≤j'+1∧w2=W1.drewN n2∧
             Hid (Sort.scanDown (fun x=>!Sort.ltInt x dk[a]!) dk i' j'=Sort.scanDown (fun x=>!Sort.ltInt x dk[a]!) dk i' j))
            (fun vj _=>(intOf vj).toNat)
           case atStart=>exact ⟨j,n1+nq,rfl,Nat.le_refl _,hij',hw2,rfl⟩
           case round=>
            clear hw2
            obtain ⟨j',n2,rfl,hjj,hij2,hw2,hsd⟩:=hrel
            have hcw: ∀ t,t<d.size→wr.cell? ⟨blk,off+t,none⟩=some (.int .u32 (Gk t)):=fun t ht=>by rw [hw2];exact hc t ht
            have HW2:Hid (wr=W1.drewN n2):=hw2
            clear hw2
            by_cases hle2:i'≤j'
            ·gi_wp2_with fail
             gi_big_quiet_th_o (first | (gi_at_fn (ρ.f 16);refine CallsIn.quiet_of_same (AnySM.cmp_Less_intIn {Ly with} D _ _ _)))
             gi_wp2
             ·
              have ht:(!Sort.ltInt (Gk j') (Gk a))=true:=by assumption
              go_roundw
              case rel=>exact ⟨j' - 1,n2+nq,by go_num,by omega,by omega,by rw [HW2.out,World.drewN_drewN],(scanDown_go (fun x=>!Sort.ltInt x dk[a]!) dk i' j' hle2 (by omega) (by rw [←AG.out a, ←AG.out j'];exact ht)).symm.trans hsd.out⟩
              case measure=>simp [intOf];omega
             ·
              have ht:(!Sort.ltInt (Gk j') (Gk a))=false:=by assumption
              have hj2:Hid (j'=Sort.scanDown (fun x=>!Sort.ltInt x dk[a]!) dk i' j):=(scanDown_end (fun x=>!Sort.ltInt x dk[a]!) dk i' j' (Or.inr (by rw [←AG.out a, ←AG.out j'];exact ht))).symm.trans hsd.out
              clear hcw hsd ht
              have hw3:wr.drewN nq=W1.drewN (n2+nq):=by rw [HW2.out,World.drewN_drewN]
              generalize wr.drewN nq=W3 at hw3 ⊢
              have hc3: ∀ t,t<d.size→W3.cell? ⟨blk,off+t,none⟩=some (.int .u32 (Gk t)):=fun t ht=>by rw [hw3];exact hc t ht
              have hf3: ∀ t,t<d.size→W3.frozen? ⟨blk,off+t,none⟩=false:=fun t ht=>by rw [hw3];exact hf t ht
              have HW3:Hid (W3=W1.drewN (n2+nq)):=hw3
              clear hw3
              obtain ⟨v3,hy3⟩:=cell?_setCell_some (w:=W3) (p:=⟨blk,off+i',none⟩) (x:= .int .u32 (Gk j')) (q:=⟨blk,off+j',none⟩) (hc3 j' (by omega))
              have hlt3:=part_scans_lt Sort.ltInt a i j dk (by omega) hi2.out hj2.out hle2
              gi_wp2
              gi_region_o
              all_goals gi_wp2
              all_goals go_roundw
              case rel=>
               refine ⟨i'+1,j' - 1,n+(n2+nq)+1,Sort.swp dk i' j',by go_num,by go_num,by omega,by omega,by omega,by rw [size_swp];exact hs,?_,?_⟩
               ·rw [HW3.out,AW.out,World.drewN_drewN,AG.out i',AG.out j']
                exact swap_worldC (Value.int .u32) w blk off dk _ i' j' (by omega) (by omega)
               ·exact (part_go Sort.ltInt a i j dk hi2.out hj2.out (by omega)).symm.trans AE.out
              case measure=>simp [intOf];omega
            ·gi_wp2_with fail
             gi_big_quiet_th_o (first | (gi_at_fn (ρ.f 16);refine CallsIn.quiet_of_same (AnySM.cmp_Less_intIn {Ly with} D _ _ _)))
             have hj2:Hid (j'=Sort.scanDown (fun x=>!Sort.ltInt x dk[a]!) dk i' j):=(scanDown_end (fun x=>!Sort.ltInt x dk[a]!) dk i' j' (Or.inl hle2)).symm.trans hsd.out
             clear hcw hsd
             have hw3:wr.drewN nq=W1.drewN (n2+nq):=by rw [HW2.out,World.drewN_drewN]
             generalize wr.drewN nq=W3 at hw3 ⊢
             have hc3: ∀ t,t<d.size→W3.cell? ⟨blk,off+t,none⟩=some (.int .u32 (Gk t)):=fun t ht=>by rw [hw3];exact hc t ht
             have hf3: ∀ t,t<d.size→W3.frozen? ⟨blk,off+t,none⟩=false:=fun t ht=>by rw [hw3];exact hf t ht
             have HW3:Hid (W3=W1.drewN (n2+nq)):=hw3
             clear hw3
             obtain ⟨v3,hy3⟩:=cell?_setCell_some (w:=W3) (p:=⟨blk,off+j',none⟩) (x:= .int .u32 (Gk a)) (q:=⟨blk,off+a,none⟩) (hc3 a (by omega))
             have hlj:j'<d.size:=by omega
             gi_wp2
             gi_region_o
             all_goals gi_wp2
             all_goals go_ret2
             have e:Sort.partition Sort.ltInt d a b pivot=(j',false,Sort.swp dk j' a):=by
              have e0:=(part_break Sort.ltInt a i j dk hi2.out hj2.out (by omega)).symm.trans AE.out
              rw [HP.out, ←e0]
             refine ⟨?_,n+(n2+nq)+1,?_⟩
             ·rw [e];rfl
             ·rw [e,HW3.out,AW.out,World.drewN_drewN,AG.out a,AG.out j']
              exact swap_worldC (Value.int .u32) w blk off dk _ j' a (by omega) (by omega)
         ·gi_wp2_with fail
          gi_big_quiet_th_o (first | (gi_at_fn (ρ.f 16);refine CallsIn.quiet_of_same (AnySM.cmp_Less_intIn {Ly with} D _ _ _)))
          gi_wp2
          have hi2:Hid (i'=Sort.scanUp (fun x=>Sort.ltInt x dk[a]!) dk j i):=(scanUp_end (fun x=>Sort.ltInt x dk[a]!) dk j i' (Or.inl hle)).symm.trans hsc.out
          have hw2:wr.drewN nq=W1.drewN (n1+nq):=by rw [HW1.out,World.drewN_drewN]
          clear hcw HW1 hsc
          gi_loopw [11] (fun vj w2=> ∃ (j' n2:Nat),vj= .int .i64 j'∧j'≤j∧i'≤j'+1∧w2=W1.drewN n2∧
            Hid (Sort.scanDown (fun x=>!Sort.ltInt x dk[a]!) dk i' j'=Sort.scanDown (fun x=>!Sort.ltInt x dk[a]!) dk i' j))
           (fun vj _=>(intOf vj).toNat)
          case atStart=>exact ⟨j,n1+nq,rfl,Nat.le_refl _,hij',hw2,rfl⟩
          case round=>
           clear hw2
           obtain ⟨j',n2,rfl,hjj,hij2,hw2,hsd⟩:=hrel
           have hcw: ∀ t,t<d.size→wr.cell? ⟨blk,off+t,none⟩=some (.int .u32 (Gk t)):=fun t ht=>by rw [hw2];exact hc t ht
           have HW2:Hid (wr=W1.drewN n2):=hw2
           clear hw2
           by_cases hle2:i'≤j'
           ·exfalso;omega
           ·gi_wp2_with fail
            gi_big_quiet_th_o (first | (gi_at_fn (ρ.f 16);refine CallsIn.quiet_of_same (AnySM.cmp_Less_intIn {Ly with} D _ _ _)))
            have hj2:Hid (j'=Sort.scanDown (fun x=>!Sort.ltInt x dk[a]!) dk i' j):=(scanDown_end (fun x=>!Sort.ltInt x dk[a]!) dk i' j' (Or.inl hle2)).symm.trans hsd.out
            clear hcw hsd
            have hw3:wr.drewN nq=W1.drewN (n2+nq):=by rw [HW2.out,World.drewN_drewN]
            generalize wr.drewN nq=W3 at hw3 ⊢
            have hc3: ∀ t,t<d.size→W3.cell? ⟨blk,off+t,none⟩=some (.int .u32 (Gk t)):=fun t ht=>by rw [hw3];exact hc t ht
            have hf3: ∀ t,t<d.size→W3.frozen? ⟨blk,off+t,none⟩=false:=fun t ht=>by rw [hw3];exact hf t ht
            have HW3:Hid (W3=W1.drewN (n2+nq)):=hw3
            clear hw3
            obtain ⟨v3,hy3⟩:=cell?_setCell_some (w:=W3) (p:=⟨blk,off+j',none⟩) (x:= .int .u32 (Gk a)) (q:=⟨blk,off+a,none⟩) (hc3 a (by omega))
            have hlj:j'<d.size:=by omega
            gi_wp2
            gi_region_o
            all_goals gi_wp2
            all_goals go_ret2
            have e:Sort.partition Sort.ltInt d a b pivot=(j',false,Sort.swp dk j' a):=by
             have e0:=(part_break Sort.ltInt a i j dk hi2.out hj2.out (by omega)).symm.trans AE.out
             rw [HP.out, ←e0]
            refine ⟨?_,n+(n2+nq)+1,?_⟩
            ·rw [e];rfl
            ·rw [e,HW3.out,AW.out,World.drewN_drewN,AG.out a,AG.out j']
             exact swap_worldC (Value.int .u32) w blk off dk _ j' a (by omega) (by omega)
     ·gi_wp2_with fail
      gi_big_quiet_th_o (first | (gi_at_fn (ρ.f 16);refine CallsIn.quiet_of_same (AnySM.cmp_Less_intIn {Ly with} D _ _ _)))
      have hj2:Hid (j'=Sort.scanDown (fun x=>!Sort.ltInt x dk[a]!) dk i' j):=(scanDown_end (fun x=>!Sort.ltInt x dk[a]!) dk i' j' (Or.inl hle2)).symm.trans hsd.out
      clear hcw hsd
      have hw3:wr.drewN nq=W1.drewN (n2+nq):=by rw [HW2.out,World.drewN_drewN]
      generalize wr.drewN nq=W3 at hw3 ⊢
      have hc3: ∀ t,t<d.size→W3.cell? ⟨blk,off+t,none⟩=some (.int .u32 (Gk t)):=fun t ht=>by rw [hw3];exact hc t ht
      have hf3: ∀ t,t<d.size→W3.frozen? ⟨blk,off+t,none⟩=false:=fun t ht=>by rw [hw3];exact hf t ht
      have HW3:Hid (W3=W1.drewN (n2+nq)):=hw3
      clear hw3
      obtain ⟨v3,hy3⟩:=cell?_setCell_some (w:=W3) (p:=⟨blk,off+j',none⟩) (x:= .int .u32 (Gk a)) (q:=⟨blk,off+a,none⟩) (hc3 a (by omega))
      have hlj:j'<d.size:=by omega
      gi_wp2
      gi_region_o
      all_goals gi_wp2
      all_goals go_ret2
      have e:Sort.partition Sort.ltInt d a b pivot=(j',true,Sort.swp dk j' a):=part_first_break Sort.ltInt d a b pivot HI.out HJ.out HDK.out hi2.out hj2.out (by omega)
      refine ⟨?_,n+(n2+nq)+1,?_⟩
      ·rw [e];rfl
      ·rw [e,HW3.out,AW.out,World.drewN_drewN,AG.out a,AG.out j']
       exact swap_worldC (Value.int .u32) w blk off dk _ j' a (by omega) (by omega)
  ·gi_wp2_with fail
   gi_big_quiet_th_o (first | (gi_at_fn (ρ.f 16);refine CallsIn.quiet_of_same (AnySM.cmp_Less_intIn {Ly with} D _ _ _)))
   gi_wp2
   have hi2:Hid (i'=Sort.scanUp (fun x=>Sort.ltInt x dk[a]!) dk j i):=(scanUp_end (fun x=>Sort.ltInt x dk[a]!) dk j i' (Or.inl hle)).symm.trans hsc.out
   have hw2:wr.drewN nq=W1.drewN (n1+nq):=by rw [HW1.out,World.drewN_drewN]
   clear hcw HW1 hsc
   gi_loopw [11] (fun vj w2=> ∃ (j' n2:Nat),vj= .int .i64 j'∧j'≤j∧i'≤j'+1∧w2=W1.drewN n2∧
     Hid (Sort.scanDown (fun x=>!Sort.ltInt x dk[a]!) dk i' j'=Sort.scanDown (fun x=>!Sort.ltInt x dk[a]!) dk i' j))
    (fun vj _=>(intOf vj).toNat)
   case atStart=>exact ⟨j,n1+nq,rfl,Nat.le_refl _,hij',hw2,rfl⟩
   case round=>
    clear hw2
    obtain ⟨j',n2,rfl,hjj,hij2,hw2,hsd⟩:=hrel
    have hcw: ∀ t,t<d.size→wr.cell? ⟨blk,off+t,none⟩=some (.int .u32 (Gk t)):=fun t ht=>by rw [hw2];exact hc t ht
    have HW2:Hid (wr=W1.drewN n2):=hw2
    clear hw2
    by_cases hle2:i'≤j'
    ·exfalso;omega
    ·gi_wp2_with fail
     gi_big_quiet_th_o (first | (gi_at_fn (ρ.f 16);refine CallsIn.quiet_of_same (AnySM.cmp_Less_intIn {Ly with} D _ _ _)))
     have hj2:Hid (j'=Sort.scanDown (fun x=>!Sort.ltInt x dk[a]!) dk i' j):=(scanDown_end (fun x=>!Sort.ltInt x dk[a]!) dk i' j' (Or.inl hle2)).symm.trans hsd.out
     clear hcw hsd
     have hw3:wr.drewN nq=W1.drewN (n2+nq):=by rw [HW2.out,World.drewN_drewN]
     generalize wr.drewN nq=W3 at hw3 ⊢
     have hc3: ∀ t,t<d.size→W3.cell? ⟨blk,off+t,none⟩=some (.int .u32 (Gk t)):=fun t ht=>by rw [hw3];exact hc t ht
     have hf3: ∀ t,t<d.size→W3.frozen? ⟨blk,off+t,none⟩=false:=fun t ht=>by rw [hw3];exact hf t ht
     have HW3:Hid (W3=W1.drewN (n2+nq)):=hw3
     clear hw3
     obtain ⟨v3,hy3⟩:=cell?_setCell_some (w:=W3) (p:=⟨blk,off+j',none⟩) (x:= .int .u32 (Gk a)) (q:=⟨blk,off+a,none⟩) (hc3 a (by omega))
     have hlj:j'<d.size:=by omega
     gi_wp2
     gi_region_o
     all_goals gi_wp2
     all_goals go_ret2
     have e:Sort.partition Sort.ltInt d a b pivot=(j',true,Sort.swp dk j' a):=part_first_break Sort.ltInt d a b pivot HI.out HJ.out HDK.out hi2.out hj2.out (by omega)
     refine ⟨?_,n+(n2+nq)+1,?_⟩
     ·rw [e];rfl
     ·rw [e,HW3.out,AW.out,World.drewN_drewN,AG.out a,AG.out j']
      exact swap_worldC (Value.int .u32) w blk off dk _ j' a (by omega) (by omega)
theorem AnySM.partitionOrdered_intIn (Ly:SlLaysU.n5 P ρ) (D:Nat) (blk off cap a b pivot:Nat) (d:Array Int) (w:World) (hH:Holds (Value.int .u32) w blk off d) (hap:a≤pivot) (hpb:pivot<b) (hb:b≤d.size) (hsz:d.size<4611686018427387904):
  CallsIn (Fence.list (fF ρ) (some D)) 2 P (ρ.f 18) #[.slice (some ⟨blk,off,none⟩) d.size cap, .int .i64 a, .int .i64 b, .int .i64 pivot] w fun e w'=>
   e= .returned (.tuple #[.int .i64 (Sort.partition Sort.ltInt d a b pivot).1, .bool (Sort.partition Sort.ltInt d a b pivot).2.1])∧ ∃ n,w'=putRow (Value.int .u32) (Sort.ahead w n) blk off (Sort.partition Sort.ltInt d a b pivot).2.2:=
 (AnySM.partition_intIn {Ly with} D blk off cap a b pivot d w hH hap hpb hb hsz).mono fun _ _ ⟨he,n,hw⟩=>⟨he,n,hw⟩
end
end
end Go.Proofs.YtljfgdlgmdcmfaaGreat
