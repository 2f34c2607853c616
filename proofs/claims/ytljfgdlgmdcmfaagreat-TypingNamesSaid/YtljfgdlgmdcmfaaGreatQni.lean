/- What a program bears that sorts numbers of 32 bits without sign: the bodies and types, by their numbers. The sort at uint32, A: turned by a program of mine from walks at int. -/
import Derived.Shelf.SlLaysM
import Derived.Shelf.SortM.WalkA6In
import Derived.Sort.Walk0
import Derived.OwnWalkIn
import Derived.TacticsInMore
import Derived.RegionIn
import Derived.LoopNIn
import Derived.LoopIn
import Derived.Sort.CutIn
import Derived.Sort.QuietIn
import Derived.Sort.AtCallIn
import Derived.Shelf.RegionOpen
import Derived.Shelf.AbstractIn
import Derived.Sort.WalkA
import Derived.Sort.BigQuietIn
import Derived.Sort.WalkA6
namespace Go.Proofs.YtljfgdlgmdcmfaaGreat
open Go.Shelf Go.Proofs
structure SlLaysU.n5 (P:Program) (ρ :Ren):Prop where
 mixed:P.follows .mixedOrders=true
 f5:Bears P (ρ.f 5) (SlBodyM.n5 ρ)
 f7:Bears P (ρ.f 7) (SlBodyM.n7 ρ)
 f8:P.funcs[ρ.f 8]? =some (SlBodyM.n8 ρ)
 f10:Bears P (ρ.f 10) (SlBodyM.n10 ρ)
 f11:Bears P (ρ.f 11) (SlBodyM.n11 ρ)
 f12:Bears P (ρ.f 12) (SlBodyM.n12 ρ)
 f13:Bears P (ρ.f 13) (SlBodyM.n13 ρ)
 f14:Bears P (ρ.f 14) (SlBodyM.n14 ρ)
 f15:Bears P (ρ.f 15) (SlBodyM.n15 ρ)
 f16:Bears P (ρ.f 16) (SlBodyM.n16 ρ)
 f17:Bears P (ρ.f 17) (SlBodyM.n17 ρ)
 f18:Bears P (ρ.f 18) (SlBodyM.n18 ρ)
 f19:P.funcs[ρ.f 19]? =some (SlBodyM.n19 ρ)
 f20:P.funcs[ρ.f 20]? =some (SlBodyM.n20 ρ)
 f30:Bears P (ρ.f 30) (SlBodyM.n30 ρ)
 f31:P.funcs[ρ.f 31]? =some (SlBodyM.n31 ρ)
 f32:P.funcs[ρ.f 32]? =some (SlBodyM.n32 ρ)
 f33:Bears P (ρ.f 33) (SlBodyM.n33 ρ)
 f34:Bears P (ρ.f 34) (SlBodyM.n34 ρ)
 f35:Bears P (ρ.f 35) (SlBodyM.n35 ρ)
 f40:Bears P (ρ.f 40) (SlBodyM.n40 ρ)
 t0:P.underlying (ρ.t 0)=some (TypeDesc.tuple #[])
 a0: ∀ w,(isAgg (ρ.t 0)).run P w= .ok false w
 z0: ∀ w,(Go.sizeOf (ρ.t 0)).run P w= .ok 1 w
 v0: ∀ w,(zeroValue (ρ.t 0)).run P w= .ok (Value.tuple #[]) w
 t3:P.underlying (ρ.t 3)=some (TypeDesc.int IntKind.i64)
 a3: ∀ w,(isAgg (ρ.t 3)).run P w= .ok false w
 z3: ∀ w,(Go.sizeOf (ρ.t 3)).run P w= .ok 1 w
 v3: ∀ w,(zeroValue (ρ.t 3)).run P w= .ok (Value.int IntKind.i64 0) w
 t4:P.underlying (ρ.t 4)=some (TypeDesc.bool)
 a4: ∀ w,(isAgg (ρ.t 4)).run P w= .ok false w
 z4: ∀ w,(Go.sizeOf (ρ.t 4)).run P w= .ok 1 w
 v4: ∀ w,(zeroValue (ρ.t 4)).run P w= .ok (Value.bool false) w
 t5:P.underlying (ρ.t 5)=some (TypeDesc.int IntKind.u8)
 a5: ∀ w,(isAgg (ρ.t 5)).run P w= .ok false w
 z5: ∀ w,(Go.sizeOf (ρ.t 5)).run P w= .ok 1 w
 v5: ∀ w,(zeroValue (ρ.t 5)).run P w= .ok (Value.int IntKind.u8 0) w
 t9:P.underlying (ρ.t 9)=some (TypeDesc.string)
 a9: ∀ w,(isAgg (ρ.t 9)).run P w= .ok false w
 z9: ∀ w,(Go.sizeOf (ρ.t 9)).run P w= .ok 1 w
 v9: ∀ w,(zeroValue (ρ.t 9)).run P w= .ok (Value.string {data:= #[]}) w
 t22:P.underlying (ρ.t 22)=some (TypeDesc.slice (ρ.t 25))
 a22: ∀ w,(isAgg (ρ.t 22)).run P w= .ok false w
 z22: ∀ w,(Go.sizeOf (ρ.t 22)).run P w= .ok 1 w
 v22: ∀ w,(zeroValue (ρ.t 22)).run P w= .ok (Value.slice none 0 0) w
 t23:P.underlying (ρ.t 23)=some (TypeDesc.slice (ρ.t 25))
 a23: ∀ w,(isAgg (ρ.t 23)).run P w= .ok false w
 z23: ∀ w,(Go.sizeOf (ρ.t 23)).run P w= .ok 1 w
 v23: ∀ w,(zeroValue (ρ.t 23)).run P w= .ok (Value.slice none 0 0) w
 t25:P.underlying (ρ.t 25)=some (TypeDesc.int IntKind.u32)
 a25: ∀ w,(isAgg (ρ.t 25)).run P w= .ok false w
 z25: ∀ w,(Go.sizeOf (ρ.t 25)).run P w= .ok 1 w
 v25: ∀ w,(zeroValue (ρ.t 25)).run P w= .ok (Value.int IntKind.u32 0) w
 t32:P.underlying (ρ.t 32)=some (TypeDesc.int IntKind.u64)
 a32: ∀ w,(isAgg (ρ.t 32)).run P w= .ok false w
 z32: ∀ w,(Go.sizeOf (ρ.t 32)).run P w= .ok 1 w
 v32: ∀ w,(zeroValue (ρ.t 32)).run P w= .ok (Value.int IntKind.u64 0) w
 t35:P.underlying (ρ.t 35)=some (TypeDesc.int IntKind.i64)
 a35: ∀ w,(isAgg (ρ.t 35)).run P w= .ok false w
 z35: ∀ w,(Go.sizeOf (ρ.t 35)).run P w= .ok 1 w
 v35: ∀ w,(zeroValue (ρ.t 35)).run P w= .ok (Value.int IntKind.i64 0) w
 t36:P.underlying (ρ.t 36)=some (TypeDesc.tuple #[ρ.t 3, ρ.t 35])
 a36: ∀ w,(isAgg (ρ.t 36)).run P w= .ok false w
 z36: ∀ w,(Go.sizeOf (ρ.t 36)).run P w= .ok 1 w
 v36: ∀ w,(zeroValue (ρ.t 36)).run P w= .ok (Value.tuple #[Value.int IntKind.i64 0,Value.int IntKind.i64 0]) w
 t41:P.underlying (ρ.t 41)=some (TypeDesc.tuple #[ρ.t 3, ρ.t 4])
 a41: ∀ w,(isAgg (ρ.t 41)).run P w= .ok false w
 z41: ∀ w,(Go.sizeOf (ρ.t 41)).run P w= .ok 1 w
 v41: ∀ w,(zeroValue (ρ.t 41)).run P w= .ok (Value.tuple #[Value.int IntKind.i64 0,Value.bool false]) w
 t44:P.underlying (ρ.t 44)=some (TypeDesc.int IntKind.u32)
 a44: ∀ w,(isAgg (ρ.t 44)).run P w= .ok false w
 z44: ∀ w,(Go.sizeOf (ρ.t 44)).run P w= .ok 1 w
 v44: ∀ w,(zeroValue (ρ.t 44)).run P w= .ok (Value.int IntKind.u32 0) w
 t46:P.underlying (ρ.t 46)=some (TypeDesc.int IntKind.u64)
 a46: ∀ w,(isAgg (ρ.t 46)).run P w= .ok false w
 z46: ∀ w,(Go.sizeOf (ρ.t 46)).run P w= .ok 1 w
 v46: ∀ w,(zeroValue (ρ.t 46)).run P w= .ok (Value.int IntKind.u64 0) w
 t53:P.underlying (ρ.t 53)=some (TypeDesc.int IntKind.u64)
 a53: ∀ w,(isAgg (ρ.t 53)).run P w= .ok false w
 z53: ∀ w,(Go.sizeOf (ρ.t 53)).run P w= .ok 1 w
 v53: ∀ w,(zeroValue (ρ.t 53)).run P w= .ok (Value.int IntKind.u64 0) w
 t57:P.underlying (ρ.t 57)=some (TypeDesc.pointer (ρ.t 3))
 a57: ∀ w,(isAgg (ρ.t 57)).run P w= .ok false w
 z57: ∀ w,(Go.sizeOf (ρ.t 57)).run P w= .ok 1 w
 v57: ∀ w,(zeroValue (ρ.t 57)).run P w= .ok (Value.pointer none) w
 t63:P.underlying (ρ.t 63)=some (TypeDesc.pointer (ρ.t 53))
 a63: ∀ w,(isAgg (ρ.t 63)).run P w= .ok false w
 z63: ∀ w,(Go.sizeOf (ρ.t 63)).run P w= .ok 1 w
 v63: ∀ w,(zeroValue (ρ.t 63)).run P w= .ok (Value.pointer none) w
 t64:P.underlying (ρ.t 64)=some (TypeDesc.tuple #[ρ.t 3, ρ.t 3])
 a64: ∀ w,(isAgg (ρ.t 64)).run P w= .ok false w
 z64: ∀ w,(Go.sizeOf (ρ.t 64)).run P w= .ok 1 w
 v64: ∀ w,(zeroValue (ρ.t 64)).run P w= .ok (Value.tuple #[Value.int IntKind.i64 0,Value.int IntKind.i64 0]) w
structure SlLaysU.n7 (P:Program) (ρ :Ren):Prop where
 mixed:P.follows .mixedOrders=true
 f7:Bears P (ρ.f 7) (SlBodyM.n7 ρ)
 f8:P.funcs[ρ.f 8]? =some (SlBodyM.n8 ρ)
 f10:Bears P (ρ.f 10) (SlBodyM.n10 ρ)
 f11:Bears P (ρ.f 11) (SlBodyM.n11 ρ)
 f12:Bears P (ρ.f 12) (SlBodyM.n12 ρ)
 f13:Bears P (ρ.f 13) (SlBodyM.n13 ρ)
 f14:Bears P (ρ.f 14) (SlBodyM.n14 ρ)
 f15:Bears P (ρ.f 15) (SlBodyM.n15 ρ)
 f16:Bears P (ρ.f 16) (SlBodyM.n16 ρ)
 f17:Bears P (ρ.f 17) (SlBodyM.n17 ρ)
 f18:Bears P (ρ.f 18) (SlBodyM.n18 ρ)
 f19:P.funcs[ρ.f 19]? =some (SlBodyM.n19 ρ)
 f20:P.funcs[ρ.f 20]? =some (SlBodyM.n20 ρ)
 f30:Bears P (ρ.f 30) (SlBodyM.n30 ρ)
 f31:P.funcs[ρ.f 31]? =some (SlBodyM.n31 ρ)
 f32:P.funcs[ρ.f 32]? =some (SlBodyM.n32 ρ)
 f33:Bears P (ρ.f 33) (SlBodyM.n33 ρ)
 f34:Bears P (ρ.f 34) (SlBodyM.n34 ρ)
 f35:Bears P (ρ.f 35) (SlBodyM.n35 ρ)
 f40:Bears P (ρ.f 40) (SlBodyM.n40 ρ)
 t0:P.underlying (ρ.t 0)=some (TypeDesc.tuple #[])
 a0: ∀ w,(isAgg (ρ.t 0)).run P w= .ok false w
 z0: ∀ w,(Go.sizeOf (ρ.t 0)).run P w= .ok 1 w
 v0: ∀ w,(zeroValue (ρ.t 0)).run P w= .ok (Value.tuple #[]) w
 t3:P.underlying (ρ.t 3)=some (TypeDesc.int IntKind.i64)
 a3: ∀ w,(isAgg (ρ.t 3)).run P w= .ok false w
 z3: ∀ w,(Go.sizeOf (ρ.t 3)).run P w= .ok 1 w
 v3: ∀ w,(zeroValue (ρ.t 3)).run P w= .ok (Value.int IntKind.i64 0) w
 t4:P.underlying (ρ.t 4)=some (TypeDesc.bool)
 a4: ∀ w,(isAgg (ρ.t 4)).run P w= .ok false w
 z4: ∀ w,(Go.sizeOf (ρ.t 4)).run P w= .ok 1 w
 v4: ∀ w,(zeroValue (ρ.t 4)).run P w= .ok (Value.bool false) w
 t5:P.underlying (ρ.t 5)=some (TypeDesc.int IntKind.u8)
 a5: ∀ w,(isAgg (ρ.t 5)).run P w= .ok false w
 z5: ∀ w,(Go.sizeOf (ρ.t 5)).run P w= .ok 1 w
 v5: ∀ w,(zeroValue (ρ.t 5)).run P w= .ok (Value.int IntKind.u8 0) w
 t9:P.underlying (ρ.t 9)=some (TypeDesc.string)
 a9: ∀ w,(isAgg (ρ.t 9)).run P w= .ok false w
 z9: ∀ w,(Go.sizeOf (ρ.t 9)).run P w= .ok 1 w
 v9: ∀ w,(zeroValue (ρ.t 9)).run P w= .ok (Value.string {data:= #[]}) w
 t22:P.underlying (ρ.t 22)=some (TypeDesc.slice (ρ.t 25))
 a22: ∀ w,(isAgg (ρ.t 22)).run P w= .ok false w
 z22: ∀ w,(Go.sizeOf (ρ.t 22)).run P w= .ok 1 w
 v22: ∀ w,(zeroValue (ρ.t 22)).run P w= .ok (Value.slice none 0 0) w
 t25:P.underlying (ρ.t 25)=some (TypeDesc.int IntKind.u32)
 a25: ∀ w,(isAgg (ρ.t 25)).run P w= .ok false w
 z25: ∀ w,(Go.sizeOf (ρ.t 25)).run P w= .ok 1 w
 v25: ∀ w,(zeroValue (ρ.t 25)).run P w= .ok (Value.int IntKind.u32 0) w
 t32:P.underlying (ρ.t 32)=some (TypeDesc.int IntKind.u64)
 a32: ∀ w,(isAgg (ρ.t 32)).run P w= .ok false w
 z32: ∀ w,(Go.sizeOf (ρ.t 32)).run P w= .ok 1 w
 v32: ∀ w,(zeroValue (ρ.t 32)).run P w= .ok (Value.int IntKind.u64 0) w
 t35:P.underlying (ρ.t 35)=some (TypeDesc.int IntKind.i64)
 a35: ∀ w,(isAgg (ρ.t 35)).run P w= .ok false w
 z35: ∀ w,(Go.sizeOf (ρ.t 35)).run P w= .ok 1 w
 v35: ∀ w,(zeroValue (ρ.t 35)).run P w= .ok (Value.int IntKind.i64 0) w
 t36:P.underlying (ρ.t 36)=some (TypeDesc.tuple #[ρ.t 3, ρ.t 35])
 a36: ∀ w,(isAgg (ρ.t 36)).run P w= .ok false w
 z36: ∀ w,(Go.sizeOf (ρ.t 36)).run P w= .ok 1 w
 v36: ∀ w,(zeroValue (ρ.t 36)).run P w= .ok (Value.tuple #[Value.int IntKind.i64 0,Value.int IntKind.i64 0]) w
 t41:P.underlying (ρ.t 41)=some (TypeDesc.tuple #[ρ.t 3, ρ.t 4])
 a41: ∀ w,(isAgg (ρ.t 41)).run P w= .ok false w
 z41: ∀ w,(Go.sizeOf (ρ.t 41)).run P w= .ok 1 w
 v41: ∀ w,(zeroValue (ρ.t 41)).run P w= .ok (Value.tuple #[Value.int IntKind.i64 0,Value.bool false]) w
 t44:P.underlying (ρ.t 44)=some (TypeDesc.int IntKind.u32)
 a44: ∀ w,(isAgg (ρ.t 44)).run P w= .ok false w
 z44: ∀ w,(Go.sizeOf (ρ.t 44)).run P w= .ok 1 w
 v44: ∀ w,(zeroValue (ρ.t 44)).run P w= .ok (Value.int IntKind.u32 0) w
 t46:P.underlying (ρ.t 46)=some (TypeDesc.int IntKind.u64)
 a46: ∀ w,(isAgg (ρ.t 46)).run P w= .ok false w
 z46: ∀ w,(Go.sizeOf (ρ.t 46)).run P w= .ok 1 w
 v46: ∀ w,(zeroValue (ρ.t 46)).run P w= .ok (Value.int IntKind.u64 0) w
 t53:P.underlying (ρ.t 53)=some (TypeDesc.int IntKind.u64)
 a53: ∀ w,(isAgg (ρ.t 53)).run P w= .ok false w
 z53: ∀ w,(Go.sizeOf (ρ.t 53)).run P w= .ok 1 w
 v53: ∀ w,(zeroValue (ρ.t 53)).run P w= .ok (Value.int IntKind.u64 0) w
 t57:P.underlying (ρ.t 57)=some (TypeDesc.pointer (ρ.t 3))
 a57: ∀ w,(isAgg (ρ.t 57)).run P w= .ok false w
 z57: ∀ w,(Go.sizeOf (ρ.t 57)).run P w= .ok 1 w
 v57: ∀ w,(zeroValue (ρ.t 57)).run P w= .ok (Value.pointer none) w
 t63:P.underlying (ρ.t 63)=some (TypeDesc.pointer (ρ.t 53))
 a63: ∀ w,(isAgg (ρ.t 63)).run P w= .ok false w
 z63: ∀ w,(Go.sizeOf (ρ.t 63)).run P w= .ok 1 w
 v63: ∀ w,(zeroValue (ρ.t 63)).run P w= .ok (Value.pointer none) w
 t64:P.underlying (ρ.t 64)=some (TypeDesc.tuple #[ρ.t 3, ρ.t 3])
 a64: ∀ w,(isAgg (ρ.t 64)).run P w= .ok false w
 z64: ∀ w,(Go.sizeOf (ρ.t 64)).run P w= .ok 1 w
 v64: ∀ w,(zeroValue (ρ.t 64)).run P w= .ok (Value.tuple #[Value.int IntKind.i64 0,Value.int IntKind.i64 0]) w
structure SlLaysU.n10 (P:Program) (ρ :Ren):Prop where
 mixed:P.follows .mixedOrders=true
 f10:Bears P (ρ.f 10) (SlBodyM.n10 ρ)
 f16:Bears P (ρ.f 16) (SlBodyM.n16 ρ)
 f35:Bears P (ρ.f 35) (SlBodyM.n35 ρ)
 t0:P.underlying (ρ.t 0)=some (TypeDesc.tuple #[])
 a0: ∀ w,(isAgg (ρ.t 0)).run P w= .ok false w
 z0: ∀ w,(Go.sizeOf (ρ.t 0)).run P w= .ok 1 w
 v0: ∀ w,(zeroValue (ρ.t 0)).run P w= .ok (Value.tuple #[]) w
 t3:P.underlying (ρ.t 3)=some (TypeDesc.int IntKind.i64)
 a3: ∀ w,(isAgg (ρ.t 3)).run P w= .ok false w
 z3: ∀ w,(Go.sizeOf (ρ.t 3)).run P w= .ok 1 w
 v3: ∀ w,(zeroValue (ρ.t 3)).run P w= .ok (Value.int IntKind.i64 0) w
 t4:P.underlying (ρ.t 4)=some (TypeDesc.bool)
 a4: ∀ w,(isAgg (ρ.t 4)).run P w= .ok false w
 z4: ∀ w,(Go.sizeOf (ρ.t 4)).run P w= .ok 1 w
 v4: ∀ w,(zeroValue (ρ.t 4)).run P w= .ok (Value.bool false) w
 t22:P.underlying (ρ.t 22)=some (TypeDesc.slice (ρ.t 25))
 a22: ∀ w,(isAgg (ρ.t 22)).run P w= .ok false w
 z22: ∀ w,(Go.sizeOf (ρ.t 22)).run P w= .ok 1 w
 v22: ∀ w,(zeroValue (ρ.t 22)).run P w= .ok (Value.slice none 0 0) w
 t25:P.underlying (ρ.t 25)=some (TypeDesc.int IntKind.u32)
 a25: ∀ w,(isAgg (ρ.t 25)).run P w= .ok false w
 z25: ∀ w,(Go.sizeOf (ρ.t 25)).run P w= .ok 1 w
 v25: ∀ w,(zeroValue (ρ.t 25)).run P w= .ok (Value.int IntKind.u32 0) w
structure SlLaysU.n11 (P:Program) (ρ :Ren):Prop where
 mixed:P.follows .mixedOrders=true
 f11:Bears P (ρ.f 11) (SlBodyM.n11 ρ)
 f16:Bears P (ρ.f 16) (SlBodyM.n16 ρ)
 f30:Bears P (ρ.f 30) (SlBodyM.n30 ρ)
 f35:Bears P (ρ.f 35) (SlBodyM.n35 ρ)
 t0:P.underlying (ρ.t 0)=some (TypeDesc.tuple #[])
 a0: ∀ w,(isAgg (ρ.t 0)).run P w= .ok false w
 z0: ∀ w,(Go.sizeOf (ρ.t 0)).run P w= .ok 1 w
 v0: ∀ w,(zeroValue (ρ.t 0)).run P w= .ok (Value.tuple #[]) w
 t3:P.underlying (ρ.t 3)=some (TypeDesc.int IntKind.i64)
 a3: ∀ w,(isAgg (ρ.t 3)).run P w= .ok false w
 z3: ∀ w,(Go.sizeOf (ρ.t 3)).run P w= .ok 1 w
 v3: ∀ w,(zeroValue (ρ.t 3)).run P w= .ok (Value.int IntKind.i64 0) w
 t4:P.underlying (ρ.t 4)=some (TypeDesc.bool)
 a4: ∀ w,(isAgg (ρ.t 4)).run P w= .ok false w
 z4: ∀ w,(Go.sizeOf (ρ.t 4)).run P w= .ok 1 w
 v4: ∀ w,(zeroValue (ρ.t 4)).run P w= .ok (Value.bool false) w
 t22:P.underlying (ρ.t 22)=some (TypeDesc.slice (ρ.t 25))
 a22: ∀ w,(isAgg (ρ.t 22)).run P w= .ok false w
 z22: ∀ w,(Go.sizeOf (ρ.t 22)).run P w= .ok 1 w
 v22: ∀ w,(zeroValue (ρ.t 22)).run P w= .ok (Value.slice none 0 0) w
 t25:P.underlying (ρ.t 25)=some (TypeDesc.int IntKind.u32)
 a25: ∀ w,(isAgg (ρ.t 25)).run P w= .ok false w
 z25: ∀ w,(Go.sizeOf (ρ.t 25)).run P w= .ok 1 w
 v25: ∀ w,(zeroValue (ρ.t 25)).run P w= .ok (Value.int IntKind.u32 0) w
structure SlLaysU.n12 (P:Program) (ρ :Ren):Prop where
 mixed:P.follows .mixedOrders=true
 f8:P.funcs[ρ.f 8]? =some (SlBodyM.n8 ρ)
 f12:Bears P (ρ.f 12) (SlBodyM.n12 ρ)
 f19:P.funcs[ρ.f 19]? =some (SlBodyM.n19 ρ)
 f20:P.funcs[ρ.f 20]? =some (SlBodyM.n20 ρ)
 f31:P.funcs[ρ.f 31]? =some (SlBodyM.n31 ρ)
 f32:P.funcs[ρ.f 32]? =some (SlBodyM.n32 ρ)
 t0:P.underlying (ρ.t 0)=some (TypeDesc.tuple #[])
 a0: ∀ w,(isAgg (ρ.t 0)).run P w= .ok false w
 z0: ∀ w,(Go.sizeOf (ρ.t 0)).run P w= .ok 1 w
 v0: ∀ w,(zeroValue (ρ.t 0)).run P w= .ok (Value.tuple #[]) w
 t3:P.underlying (ρ.t 3)=some (TypeDesc.int IntKind.i64)
 a3: ∀ w,(isAgg (ρ.t 3)).run P w= .ok false w
 z3: ∀ w,(Go.sizeOf (ρ.t 3)).run P w= .ok 1 w
 v3: ∀ w,(zeroValue (ρ.t 3)).run P w= .ok (Value.int IntKind.i64 0) w
 t4:P.underlying (ρ.t 4)=some (TypeDesc.bool)
 a4: ∀ w,(isAgg (ρ.t 4)).run P w= .ok false w
 z4: ∀ w,(Go.sizeOf (ρ.t 4)).run P w= .ok 1 w
 v4: ∀ w,(zeroValue (ρ.t 4)).run P w= .ok (Value.bool false) w
 t5:P.underlying (ρ.t 5)=some (TypeDesc.int IntKind.u8)
 a5: ∀ w,(isAgg (ρ.t 5)).run P w= .ok false w
 z5: ∀ w,(Go.sizeOf (ρ.t 5)).run P w= .ok 1 w
 v5: ∀ w,(zeroValue (ρ.t 5)).run P w= .ok (Value.int IntKind.u8 0) w
 t9:P.underlying (ρ.t 9)=some (TypeDesc.string)
 a9: ∀ w,(isAgg (ρ.t 9)).run P w= .ok false w
 z9: ∀ w,(Go.sizeOf (ρ.t 9)).run P w= .ok 1 w
 v9: ∀ w,(zeroValue (ρ.t 9)).run P w= .ok (Value.string {data:= #[]}) w
 t22:P.underlying (ρ.t 22)=some (TypeDesc.slice (ρ.t 25))
 a22: ∀ w,(isAgg (ρ.t 22)).run P w= .ok false w
 z22: ∀ w,(Go.sizeOf (ρ.t 22)).run P w= .ok 1 w
 v22: ∀ w,(zeroValue (ρ.t 22)).run P w= .ok (Value.slice none 0 0) w
 t25:P.underlying (ρ.t 25)=some (TypeDesc.int IntKind.u32)
 a25: ∀ w,(isAgg (ρ.t 25)).run P w= .ok false w
 z25: ∀ w,(Go.sizeOf (ρ.t 25)).run P w= .ok 1 w
 v25: ∀ w,(zeroValue (ρ.t 25)).run P w= .ok (Value.int IntKind.u32 0) w
 t32:P.underlying (ρ.t 32)=some (TypeDesc.int IntKind.u64)
 a32: ∀ w,(isAgg (ρ.t 32)).run P w= .ok false w
 z32: ∀ w,(Go.sizeOf (ρ.t 32)).run P w= .ok 1 w
 v32: ∀ w,(zeroValue (ρ.t 32)).run P w= .ok (Value.int IntKind.u64 0) w
 t44:P.underlying (ρ.t 44)=some (TypeDesc.int IntKind.u32)
 a44: ∀ w,(isAgg (ρ.t 44)).run P w= .ok false w
 z44: ∀ w,(Go.sizeOf (ρ.t 44)).run P w= .ok 1 w
 v44: ∀ w,(zeroValue (ρ.t 44)).run P w= .ok (Value.int IntKind.u32 0) w
 t46:P.underlying (ρ.t 46)=some (TypeDesc.int IntKind.u64)
 a46: ∀ w,(isAgg (ρ.t 46)).run P w= .ok false w
 z46: ∀ w,(Go.sizeOf (ρ.t 46)).run P w= .ok 1 w
 v46: ∀ w,(zeroValue (ρ.t 46)).run P w= .ok (Value.int IntKind.u64 0) w
 t53:P.underlying (ρ.t 53)=some (TypeDesc.int IntKind.u64)
 a53: ∀ w,(isAgg (ρ.t 53)).run P w= .ok false w
 z53: ∀ w,(Go.sizeOf (ρ.t 53)).run P w= .ok 1 w
 v53: ∀ w,(zeroValue (ρ.t 53)).run P w= .ok (Value.int IntKind.u64 0) w
 t63:P.underlying (ρ.t 63)=some (TypeDesc.pointer (ρ.t 53))
 a63: ∀ w,(isAgg (ρ.t 63)).run P w= .ok false w
 z63: ∀ w,(Go.sizeOf (ρ.t 63)).run P w= .ok 1 w
 v63: ∀ w,(zeroValue (ρ.t 63)).run P w= .ok (Value.pointer none) w
structure SlLaysU.n13 (P:Program) (ρ :Ren):Prop where
 mixed:P.follows .mixedOrders=true
 f13:Bears P (ρ.f 13) (SlBodyM.n13 ρ)
 f16:Bears P (ρ.f 16) (SlBodyM.n16 ρ)
 f33:Bears P (ρ.f 33) (SlBodyM.n33 ρ)
 f34:Bears P (ρ.f 34) (SlBodyM.n34 ρ)
 f35:Bears P (ρ.f 35) (SlBodyM.n35 ρ)
 f40:Bears P (ρ.f 40) (SlBodyM.n40 ρ)
 t0:P.underlying (ρ.t 0)=some (TypeDesc.tuple #[])
 a0: ∀ w,(isAgg (ρ.t 0)).run P w= .ok false w
 z0: ∀ w,(Go.sizeOf (ρ.t 0)).run P w= .ok 1 w
 v0: ∀ w,(zeroValue (ρ.t 0)).run P w= .ok (Value.tuple #[]) w
 t3:P.underlying (ρ.t 3)=some (TypeDesc.int IntKind.i64)
 a3: ∀ w,(isAgg (ρ.t 3)).run P w= .ok false w
 z3: ∀ w,(Go.sizeOf (ρ.t 3)).run P w= .ok 1 w
 v3: ∀ w,(zeroValue (ρ.t 3)).run P w= .ok (Value.int IntKind.i64 0) w
 t4:P.underlying (ρ.t 4)=some (TypeDesc.bool)
 a4: ∀ w,(isAgg (ρ.t 4)).run P w= .ok false w
 z4: ∀ w,(Go.sizeOf (ρ.t 4)).run P w= .ok 1 w
 v4: ∀ w,(zeroValue (ρ.t 4)).run P w= .ok (Value.bool false) w
 t22:P.underlying (ρ.t 22)=some (TypeDesc.slice (ρ.t 25))
 a22: ∀ w,(isAgg (ρ.t 22)).run P w= .ok false w
 z22: ∀ w,(Go.sizeOf (ρ.t 22)).run P w= .ok 1 w
 v22: ∀ w,(zeroValue (ρ.t 22)).run P w= .ok (Value.slice none 0 0) w
 t25:P.underlying (ρ.t 25)=some (TypeDesc.int IntKind.u32)
 a25: ∀ w,(isAgg (ρ.t 25)).run P w= .ok false w
 z25: ∀ w,(Go.sizeOf (ρ.t 25)).run P w= .ok 1 w
 v25: ∀ w,(zeroValue (ρ.t 25)).run P w= .ok (Value.int IntKind.u32 0) w
 t35:P.underlying (ρ.t 35)=some (TypeDesc.int IntKind.i64)
 a35: ∀ w,(isAgg (ρ.t 35)).run P w= .ok false w
 z35: ∀ w,(Go.sizeOf (ρ.t 35)).run P w= .ok 1 w
 v35: ∀ w,(zeroValue (ρ.t 35)).run P w= .ok (Value.int IntKind.i64 0) w
 t57:P.underlying (ρ.t 57)=some (TypeDesc.pointer (ρ.t 3))
 a57: ∀ w,(isAgg (ρ.t 57)).run P w= .ok false w
 z57: ∀ w,(Go.sizeOf (ρ.t 57)).run P w= .ok 1 w
 v57: ∀ w,(zeroValue (ρ.t 57)).run P w= .ok (Value.pointer none) w
 t64:P.underlying (ρ.t 64)=some (TypeDesc.tuple #[ρ.t 3, ρ.t 3])
 a64: ∀ w,(isAgg (ρ.t 64)).run P w= .ok false w
 z64: ∀ w,(Go.sizeOf (ρ.t 64)).run P w= .ok 1 w
 v64: ∀ w,(zeroValue (ρ.t 64)).run P w= .ok (Value.tuple #[Value.int IntKind.i64 0,Value.int IntKind.i64 0]) w
structure SlLaysU.n14 (P:Program) (ρ :Ren):Prop where
 mixed:P.follows .mixedOrders=true
 f14:Bears P (ρ.f 14) (SlBodyM.n14 ρ)
 t0:P.underlying (ρ.t 0)=some (TypeDesc.tuple #[])
 a0: ∀ w,(isAgg (ρ.t 0)).run P w= .ok false w
 z0: ∀ w,(Go.sizeOf (ρ.t 0)).run P w= .ok 1 w
 v0: ∀ w,(zeroValue (ρ.t 0)).run P w= .ok (Value.tuple #[]) w
 t3:P.underlying (ρ.t 3)=some (TypeDesc.int IntKind.i64)
 a3: ∀ w,(isAgg (ρ.t 3)).run P w= .ok false w
 z3: ∀ w,(Go.sizeOf (ρ.t 3)).run P w= .ok 1 w
 v3: ∀ w,(zeroValue (ρ.t 3)).run P w= .ok (Value.int IntKind.i64 0) w
 t4:P.underlying (ρ.t 4)=some (TypeDesc.bool)
 a4: ∀ w,(isAgg (ρ.t 4)).run P w= .ok false w
 z4: ∀ w,(Go.sizeOf (ρ.t 4)).run P w= .ok 1 w
 v4: ∀ w,(zeroValue (ρ.t 4)).run P w= .ok (Value.bool false) w
 t22:P.underlying (ρ.t 22)=some (TypeDesc.slice (ρ.t 25))
 a22: ∀ w,(isAgg (ρ.t 22)).run P w= .ok false w
 z22: ∀ w,(Go.sizeOf (ρ.t 22)).run P w= .ok 1 w
 v22: ∀ w,(zeroValue (ρ.t 22)).run P w= .ok (Value.slice none 0 0) w
 t25:P.underlying (ρ.t 25)=some (TypeDesc.int IntKind.u32)
 a25: ∀ w,(isAgg (ρ.t 25)).run P w= .ok false w
 z25: ∀ w,(Go.sizeOf (ρ.t 25)).run P w= .ok 1 w
 v25: ∀ w,(zeroValue (ρ.t 25)).run P w= .ok (Value.int IntKind.u32 0) w
structure SlLaysU.n15 (P:Program) (ρ :Ren):Prop where
 mixed:P.follows .mixedOrders=true
 f15:Bears P (ρ.f 15) (SlBodyM.n15 ρ)
 f16:Bears P (ρ.f 16) (SlBodyM.n16 ρ)
 f35:Bears P (ρ.f 35) (SlBodyM.n35 ρ)
 t0:P.underlying (ρ.t 0)=some (TypeDesc.tuple #[])
 a0: ∀ w,(isAgg (ρ.t 0)).run P w= .ok false w
 z0: ∀ w,(Go.sizeOf (ρ.t 0)).run P w= .ok 1 w
 v0: ∀ w,(zeroValue (ρ.t 0)).run P w= .ok (Value.tuple #[]) w
 t3:P.underlying (ρ.t 3)=some (TypeDesc.int IntKind.i64)
 a3: ∀ w,(isAgg (ρ.t 3)).run P w= .ok false w
 z3: ∀ w,(Go.sizeOf (ρ.t 3)).run P w= .ok 1 w
 v3: ∀ w,(zeroValue (ρ.t 3)).run P w= .ok (Value.int IntKind.i64 0) w
 t4:P.underlying (ρ.t 4)=some (TypeDesc.bool)
 a4: ∀ w,(isAgg (ρ.t 4)).run P w= .ok false w
 z4: ∀ w,(Go.sizeOf (ρ.t 4)).run P w= .ok 1 w
 v4: ∀ w,(zeroValue (ρ.t 4)).run P w= .ok (Value.bool false) w
 t22:P.underlying (ρ.t 22)=some (TypeDesc.slice (ρ.t 25))
 a22: ∀ w,(isAgg (ρ.t 22)).run P w= .ok false w
 z22: ∀ w,(Go.sizeOf (ρ.t 22)).run P w= .ok 1 w
 v22: ∀ w,(zeroValue (ρ.t 22)).run P w= .ok (Value.slice none 0 0) w
 t25:P.underlying (ρ.t 25)=some (TypeDesc.int IntKind.u32)
 a25: ∀ w,(isAgg (ρ.t 25)).run P w= .ok false w
 z25: ∀ w,(Go.sizeOf (ρ.t 25)).run P w= .ok 1 w
 v25: ∀ w,(zeroValue (ρ.t 25)).run P w= .ok (Value.int IntKind.u32 0) w
structure SlLaysU.n16 (P:Program) (ρ :Ren):Prop where
 mixed:P.follows .mixedOrders=true
 f16:Bears P (ρ.f 16) (SlBodyM.n16 ρ)
 f35:Bears P (ρ.f 35) (SlBodyM.n35 ρ)
 t4:P.underlying (ρ.t 4)=some (TypeDesc.bool)
 a4: ∀ w,(isAgg (ρ.t 4)).run P w= .ok false w
 z4: ∀ w,(Go.sizeOf (ρ.t 4)).run P w= .ok 1 w
 v4: ∀ w,(zeroValue (ρ.t 4)).run P w= .ok (Value.bool false) w
 t25:P.underlying (ρ.t 25)=some (TypeDesc.int IntKind.u32)
 a25: ∀ w,(isAgg (ρ.t 25)).run P w= .ok false w
 z25: ∀ w,(Go.sizeOf (ρ.t 25)).run P w= .ok 1 w
 v25: ∀ w,(zeroValue (ρ.t 25)).run P w= .ok (Value.int IntKind.u32 0) w
structure SlLaysU.n17 (P:Program) (ρ :Ren):Prop where
 mixed:P.follows .mixedOrders=true
 f16:Bears P (ρ.f 16) (SlBodyM.n16 ρ)
 f17:Bears P (ρ.f 17) (SlBodyM.n17 ρ)
 f35:Bears P (ρ.f 35) (SlBodyM.n35 ρ)
 t0:P.underlying (ρ.t 0)=some (TypeDesc.tuple #[])
 a0: ∀ w,(isAgg (ρ.t 0)).run P w= .ok false w
 z0: ∀ w,(Go.sizeOf (ρ.t 0)).run P w= .ok 1 w
 v0: ∀ w,(zeroValue (ρ.t 0)).run P w= .ok (Value.tuple #[]) w
 t3:P.underlying (ρ.t 3)=some (TypeDesc.int IntKind.i64)
 a3: ∀ w,(isAgg (ρ.t 3)).run P w= .ok false w
 z3: ∀ w,(Go.sizeOf (ρ.t 3)).run P w= .ok 1 w
 v3: ∀ w,(zeroValue (ρ.t 3)).run P w= .ok (Value.int IntKind.i64 0) w
 t4:P.underlying (ρ.t 4)=some (TypeDesc.bool)
 a4: ∀ w,(isAgg (ρ.t 4)).run P w= .ok false w
 z4: ∀ w,(Go.sizeOf (ρ.t 4)).run P w= .ok 1 w
 v4: ∀ w,(zeroValue (ρ.t 4)).run P w= .ok (Value.bool false) w
 t22:P.underlying (ρ.t 22)=some (TypeDesc.slice (ρ.t 25))
 a22: ∀ w,(isAgg (ρ.t 22)).run P w= .ok false w
 z22: ∀ w,(Go.sizeOf (ρ.t 22)).run P w= .ok 1 w
 v22: ∀ w,(zeroValue (ρ.t 22)).run P w= .ok (Value.slice none 0 0) w
 t25:P.underlying (ρ.t 25)=some (TypeDesc.int IntKind.u32)
 a25: ∀ w,(isAgg (ρ.t 25)).run P w= .ok false w
 z25: ∀ w,(Go.sizeOf (ρ.t 25)).run P w= .ok 1 w
 v25: ∀ w,(zeroValue (ρ.t 25)).run P w= .ok (Value.int IntKind.u32 0) w
structure SlLaysU.n18 (P:Program) (ρ :Ren):Prop where
 mixed:P.follows .mixedOrders=true
 f16:Bears P (ρ.f 16) (SlBodyM.n16 ρ)
 f18:Bears P (ρ.f 18) (SlBodyM.n18 ρ)
 f35:Bears P (ρ.f 35) (SlBodyM.n35 ρ)
 t0:P.underlying (ρ.t 0)=some (TypeDesc.tuple #[])
 a0: ∀ w,(isAgg (ρ.t 0)).run P w= .ok false w
 z0: ∀ w,(Go.sizeOf (ρ.t 0)).run P w= .ok 1 w
 v0: ∀ w,(zeroValue (ρ.t 0)).run P w= .ok (Value.tuple #[]) w
 t3:P.underlying (ρ.t 3)=some (TypeDesc.int IntKind.i64)
 a3: ∀ w,(isAgg (ρ.t 3)).run P w= .ok false w
 z3: ∀ w,(Go.sizeOf (ρ.t 3)).run P w= .ok 1 w
 v3: ∀ w,(zeroValue (ρ.t 3)).run P w= .ok (Value.int IntKind.i64 0) w
 t4:P.underlying (ρ.t 4)=some (TypeDesc.bool)
 a4: ∀ w,(isAgg (ρ.t 4)).run P w= .ok false w
 z4: ∀ w,(Go.sizeOf (ρ.t 4)).run P w= .ok 1 w
 v4: ∀ w,(zeroValue (ρ.t 4)).run P w= .ok (Value.bool false) w
 t22:P.underlying (ρ.t 22)=some (TypeDesc.slice (ρ.t 25))
 a22: ∀ w,(isAgg (ρ.t 22)).run P w= .ok false w
 z22: ∀ w,(Go.sizeOf (ρ.t 22)).run P w= .ok 1 w
 v22: ∀ w,(zeroValue (ρ.t 22)).run P w= .ok (Value.slice none 0 0) w
 t25:P.underlying (ρ.t 25)=some (TypeDesc.int IntKind.u32)
 a25: ∀ w,(isAgg (ρ.t 25)).run P w= .ok false w
 z25: ∀ w,(Go.sizeOf (ρ.t 25)).run P w= .ok 1 w
 v25: ∀ w,(zeroValue (ρ.t 25)).run P w= .ok (Value.int IntKind.u32 0) w
structure SlLaysU.n30 (P:Program) (ρ :Ren):Prop where
 mixed:P.follows .mixedOrders=true
 f16:Bears P (ρ.f 16) (SlBodyM.n16 ρ)
 f30:Bears P (ρ.f 30) (SlBodyM.n30 ρ)
 f35:Bears P (ρ.f 35) (SlBodyM.n35 ρ)
 t0:P.underlying (ρ.t 0)=some (TypeDesc.tuple #[])
 a0: ∀ w,(isAgg (ρ.t 0)).run P w= .ok false w
 z0: ∀ w,(Go.sizeOf (ρ.t 0)).run P w= .ok 1 w
 v0: ∀ w,(zeroValue (ρ.t 0)).run P w= .ok (Value.tuple #[]) w
 t3:P.underlying (ρ.t 3)=some (TypeDesc.int IntKind.i64)
 a3: ∀ w,(isAgg (ρ.t 3)).run P w= .ok false w
 z3: ∀ w,(Go.sizeOf (ρ.t 3)).run P w= .ok 1 w
 v3: ∀ w,(zeroValue (ρ.t 3)).run P w= .ok (Value.int IntKind.i64 0) w
 t4:P.underlying (ρ.t 4)=some (TypeDesc.bool)
 a4: ∀ w,(isAgg (ρ.t 4)).run P w= .ok false w
 z4: ∀ w,(Go.sizeOf (ρ.t 4)).run P w= .ok 1 w
 v4: ∀ w,(zeroValue (ρ.t 4)).run P w= .ok (Value.bool false) w
 t22:P.underlying (ρ.t 22)=some (TypeDesc.slice (ρ.t 25))
 a22: ∀ w,(isAgg (ρ.t 22)).run P w= .ok false w
 z22: ∀ w,(Go.sizeOf (ρ.t 22)).run P w= .ok 1 w
 v22: ∀ w,(zeroValue (ρ.t 22)).run P w= .ok (Value.slice none 0 0) w
 t25:P.underlying (ρ.t 25)=some (TypeDesc.int IntKind.u32)
 a25: ∀ w,(isAgg (ρ.t 25)).run P w= .ok false w
 z25: ∀ w,(Go.sizeOf (ρ.t 25)).run P w= .ok 1 w
 v25: ∀ w,(zeroValue (ρ.t 25)).run P w= .ok (Value.int IntKind.u32 0) w
structure SlLaysU.n33 (P:Program) (ρ :Ren):Prop where
 mixed:P.follows .mixedOrders=true
 f16:Bears P (ρ.f 16) (SlBodyM.n16 ρ)
 f33:Bears P (ρ.f 33) (SlBodyM.n33 ρ)
 f34:Bears P (ρ.f 34) (SlBodyM.n34 ρ)
 f35:Bears P (ρ.f 35) (SlBodyM.n35 ρ)
 f40:Bears P (ρ.f 40) (SlBodyM.n40 ρ)
 t0:P.underlying (ρ.t 0)=some (TypeDesc.tuple #[])
 a0: ∀ w,(isAgg (ρ.t 0)).run P w= .ok false w
 z0: ∀ w,(Go.sizeOf (ρ.t 0)).run P w= .ok 1 w
 v0: ∀ w,(zeroValue (ρ.t 0)).run P w= .ok (Value.tuple #[]) w
 t3:P.underlying (ρ.t 3)=some (TypeDesc.int IntKind.i64)
 a3: ∀ w,(isAgg (ρ.t 3)).run P w= .ok false w
 z3: ∀ w,(Go.sizeOf (ρ.t 3)).run P w= .ok 1 w
 v3: ∀ w,(zeroValue (ρ.t 3)).run P w= .ok (Value.int IntKind.i64 0) w
 t4:P.underlying (ρ.t 4)=some (TypeDesc.bool)
 a4: ∀ w,(isAgg (ρ.t 4)).run P w= .ok false w
 z4: ∀ w,(Go.sizeOf (ρ.t 4)).run P w= .ok 1 w
 v4: ∀ w,(zeroValue (ρ.t 4)).run P w= .ok (Value.bool false) w
 t22:P.underlying (ρ.t 22)=some (TypeDesc.slice (ρ.t 25))
 a22: ∀ w,(isAgg (ρ.t 22)).run P w= .ok false w
 z22: ∀ w,(Go.sizeOf (ρ.t 22)).run P w= .ok 1 w
 v22: ∀ w,(zeroValue (ρ.t 22)).run P w= .ok (Value.slice none 0 0) w
 t25:P.underlying (ρ.t 25)=some (TypeDesc.int IntKind.u32)
 a25: ∀ w,(isAgg (ρ.t 25)).run P w= .ok false w
 z25: ∀ w,(Go.sizeOf (ρ.t 25)).run P w= .ok 1 w
 v25: ∀ w,(zeroValue (ρ.t 25)).run P w= .ok (Value.int IntKind.u32 0) w
 t57:P.underlying (ρ.t 57)=some (TypeDesc.pointer (ρ.t 3))
 a57: ∀ w,(isAgg (ρ.t 57)).run P w= .ok false w
 z57: ∀ w,(Go.sizeOf (ρ.t 57)).run P w= .ok 1 w
 v57: ∀ w,(zeroValue (ρ.t 57)).run P w= .ok (Value.pointer none) w
 t64:P.underlying (ρ.t 64)=some (TypeDesc.tuple #[ρ.t 3, ρ.t 3])
 a64: ∀ w,(isAgg (ρ.t 64)).run P w= .ok false w
 z64: ∀ w,(Go.sizeOf (ρ.t 64)).run P w= .ok 1 w
 v64: ∀ w,(zeroValue (ρ.t 64)).run P w= .ok (Value.tuple #[Value.int IntKind.i64 0,Value.int IntKind.i64 0]) w
structure SlLaysU.n34 (P:Program) (ρ :Ren):Prop where
 mixed:P.follows .mixedOrders=true
 f16:Bears P (ρ.f 16) (SlBodyM.n16 ρ)
 f34:Bears P (ρ.f 34) (SlBodyM.n34 ρ)
 f35:Bears P (ρ.f 35) (SlBodyM.n35 ρ)
 f40:Bears P (ρ.f 40) (SlBodyM.n40 ρ)
 t0:P.underlying (ρ.t 0)=some (TypeDesc.tuple #[])
 a0: ∀ w,(isAgg (ρ.t 0)).run P w= .ok false w
 z0: ∀ w,(Go.sizeOf (ρ.t 0)).run P w= .ok 1 w
 v0: ∀ w,(zeroValue (ρ.t 0)).run P w= .ok (Value.tuple #[]) w
 t3:P.underlying (ρ.t 3)=some (TypeDesc.int IntKind.i64)
 a3: ∀ w,(isAgg (ρ.t 3)).run P w= .ok false w
 z3: ∀ w,(Go.sizeOf (ρ.t 3)).run P w= .ok 1 w
 v3: ∀ w,(zeroValue (ρ.t 3)).run P w= .ok (Value.int IntKind.i64 0) w
 t4:P.underlying (ρ.t 4)=some (TypeDesc.bool)
 a4: ∀ w,(isAgg (ρ.t 4)).run P w= .ok false w
 z4: ∀ w,(Go.sizeOf (ρ.t 4)).run P w= .ok 1 w
 v4: ∀ w,(zeroValue (ρ.t 4)).run P w= .ok (Value.bool false) w
 t22:P.underlying (ρ.t 22)=some (TypeDesc.slice (ρ.t 25))
 a22: ∀ w,(isAgg (ρ.t 22)).run P w= .ok false w
 z22: ∀ w,(Go.sizeOf (ρ.t 22)).run P w= .ok 1 w
 v22: ∀ w,(zeroValue (ρ.t 22)).run P w= .ok (Value.slice none 0 0) w
 t25:P.underlying (ρ.t 25)=some (TypeDesc.int IntKind.u32)
 a25: ∀ w,(isAgg (ρ.t 25)).run P w= .ok false w
 z25: ∀ w,(Go.sizeOf (ρ.t 25)).run P w= .ok 1 w
 v25: ∀ w,(zeroValue (ρ.t 25)).run P w= .ok (Value.int IntKind.u32 0) w
 t57:P.underlying (ρ.t 57)=some (TypeDesc.pointer (ρ.t 3))
 a57: ∀ w,(isAgg (ρ.t 57)).run P w= .ok false w
 z57: ∀ w,(Go.sizeOf (ρ.t 57)).run P w= .ok 1 w
 v57: ∀ w,(zeroValue (ρ.t 57)).run P w= .ok (Value.pointer none) w
 t64:P.underlying (ρ.t 64)=some (TypeDesc.tuple #[ρ.t 3, ρ.t 3])
 a64: ∀ w,(isAgg (ρ.t 64)).run P w= .ok false w
 z64: ∀ w,(Go.sizeOf (ρ.t 64)).run P w= .ok 1 w
 v64: ∀ w,(zeroValue (ρ.t 64)).run P w= .ok (Value.tuple #[Value.int IntKind.i64 0,Value.int IntKind.i64 0]) w
structure SlLaysU.n35 (P:Program) (ρ :Ren):Prop where
 mixed:P.follows .mixedOrders=true
 f35:Bears P (ρ.f 35) (SlBodyM.n35 ρ)
 t4:P.underlying (ρ.t 4)=some (TypeDesc.bool)
 a4: ∀ w,(isAgg (ρ.t 4)).run P w= .ok false w
 z4: ∀ w,(Go.sizeOf (ρ.t 4)).run P w= .ok 1 w
 v4: ∀ w,(zeroValue (ρ.t 4)).run P w= .ok (Value.bool false) w
 t25:P.underlying (ρ.t 25)=some (TypeDesc.int IntKind.u32)
 a25: ∀ w,(isAgg (ρ.t 25)).run P w= .ok false w
 z25: ∀ w,(Go.sizeOf (ρ.t 25)).run P w= .ok 1 w
 v25: ∀ w,(zeroValue (ρ.t 25)).run P w= .ok (Value.int IntKind.u32 0) w
structure SlLaysU.n40 (P:Program) (ρ :Ren):Prop where
 mixed:P.follows .mixedOrders=true
 f16:Bears P (ρ.f 16) (SlBodyM.n16 ρ)
 f35:Bears P (ρ.f 35) (SlBodyM.n35 ρ)
 f40:Bears P (ρ.f 40) (SlBodyM.n40 ρ)
 t0:P.underlying (ρ.t 0)=some (TypeDesc.tuple #[])
 a0: ∀ w,(isAgg (ρ.t 0)).run P w= .ok false w
 z0: ∀ w,(Go.sizeOf (ρ.t 0)).run P w= .ok 1 w
 v0: ∀ w,(zeroValue (ρ.t 0)).run P w= .ok (Value.tuple #[]) w
 t3:P.underlying (ρ.t 3)=some (TypeDesc.int IntKind.i64)
 a3: ∀ w,(isAgg (ρ.t 3)).run P w= .ok false w
 z3: ∀ w,(Go.sizeOf (ρ.t 3)).run P w= .ok 1 w
 v3: ∀ w,(zeroValue (ρ.t 3)).run P w= .ok (Value.int IntKind.i64 0) w
 t4:P.underlying (ρ.t 4)=some (TypeDesc.bool)
 a4: ∀ w,(isAgg (ρ.t 4)).run P w= .ok false w
 z4: ∀ w,(Go.sizeOf (ρ.t 4)).run P w= .ok 1 w
 v4: ∀ w,(zeroValue (ρ.t 4)).run P w= .ok (Value.bool false) w
 t22:P.underlying (ρ.t 22)=some (TypeDesc.slice (ρ.t 25))
 a22: ∀ w,(isAgg (ρ.t 22)).run P w= .ok false w
 z22: ∀ w,(Go.sizeOf (ρ.t 22)).run P w= .ok 1 w
 v22: ∀ w,(zeroValue (ρ.t 22)).run P w= .ok (Value.slice none 0 0) w
 t25:P.underlying (ρ.t 25)=some (TypeDesc.int IntKind.u32)
 a25: ∀ w,(isAgg (ρ.t 25)).run P w= .ok false w
 z25: ∀ w,(Go.sizeOf (ρ.t 25)).run P w= .ok 1 w
 v25: ∀ w,(zeroValue (ρ.t 25)).run P w= .ok (Value.int IntKind.u32 0) w
 t57:P.underlying (ρ.t 57)=some (TypeDesc.pointer (ρ.t 3))
 a57: ∀ w,(isAgg (ρ.t 57)).run P w= .ok false w
 z57: ∀ w,(Go.sizeOf (ρ.t 57)).run P w= .ok 1 w
 v57: ∀ w,(zeroValue (ρ.t 57)).run P w= .ok (Value.pointer none) w
end Go.Proofs.YtljfgdlgmdcmfaaGreat
namespace Go.Proofs.YtljfgdlgmdcmfaaGreat
open Go.Proofs
abbrev encU:Int→Value:=Value.int .u32
section
open Go.Shelf
variable {P:Program} {ρ :Ren}
set_option maxHeartbeats 1000000 in
theorem AnySM.cmp_isNaN_intIn (Ly:SlLaysU.n35 P ρ) (D:Nat) (x:Int) (w:World):CallsIn (Fence.list [ρ.f 5, ρ.f 7, ρ.f 8, ρ.f 10, ρ.f 11, ρ.f 12, ρ.f 13, ρ.f 14, ρ.f 15, ρ.f 16, ρ.f 17, ρ.f 18, ρ.f 20, ρ.f 30, ρ.f 31, ρ.f 32, ρ.f 33, ρ.f 34, ρ.f 35, ρ.f 40] (some D)) 0 P (ρ.f 35) #[.int .u32 x] w fun e w'=>e= .returned (.bool false)∧w'=w:=by
 have mixed:=Ly.mixed
 have t4:=Ly.t4;have a4:=Ly.a4;have z4:=Ly.z4;have v4:=Ly.v4;have t25:=Ly.t25;have a25:=Ly.a25;have z25:=Ly.z25;have v25:=Ly.v25
 obtain ⟨_,_,FG⟩:=Ly.f35
 gi_enter FG,SlBodyM.n35_ntmps ρ
 gi_wp2
 go_ret
 exact ⟨by simp,rfl⟩
set_option maxHeartbeats 1000000 in
theorem AnySM.cmp_Less_intIn (Ly:SlLaysU.n16 P ρ) (D:Nat) (x y:Int) (w:World):CallsIn (Fence.list [ρ.f 5, ρ.f 7, ρ.f 8, ρ.f 10, ρ.f 11, ρ.f 12, ρ.f 13, ρ.f 14, ρ.f 15, ρ.f 16, ρ.f 17, ρ.f 18, ρ.f 20, ρ.f 30, ρ.f 31, ρ.f 32, ρ.f 33, ρ.f 34, ρ.f 35, ρ.f 40] (some D)) 1 P (ρ.f 16) #[.int .u32 x, .int .u32 y] w fun e w'=>e= .returned (.bool (Sort.ltInt x y))∧w'=w:=by
 have mixed:=Ly.mixed
 have t4:=Ly.t4;have a4:=Ly.a4;have z4:=Ly.z4;have v4:=Ly.v4;have t25:=Ly.t25;have a25:=Ly.a25;have z25:=Ly.z25;have v25:=Ly.v25
 have e215: ∀ args w,(callFunc (ρ.f 35) args).run P w= .ok (.enter (ρ.f 35) args) w:=Ly.f35.enters rfl
 obtain ⟨_,_,FG⟩:=Ly.f16
 gi_enter FG,SlBodyM.n16_ntmps ρ
 gi_wp2_with (gi_at_fn (ρ.f 35);refine (AnySM.cmp_isNaN_intIn {Ly with} D _ _).mono ?_;rintro e w' ⟨rfl,rfl⟩)
 go_ret
 exact ⟨rfl,rfl⟩
end
section
open Go.Shelf
variable {P:Program} {ρ :Ren}
open Go.RowKit Go.Sort
section
variable {α:Type} [Inhabited α] (lt:α→α→Bool)
end
section
variable {α:Type} [Inhabited α] (enc:α→Value)
end
set_option maxHeartbeats 32000000 in
set_option maxRecDepth 1000000 in
theorem AnySM.insertionSort_intIn (Ly:SlLaysU.n10 P ρ) (D:Nat) (blk off cap a b:Nat) (d:Array Int) (w:World) (hH:Holds (Value.int .u32) w blk off d) (hab:a≤b) (hb:b≤d.size) (hsz:d.size<4611686018427387904):
  CallsIn (Fence.list [ρ.f 5, ρ.f 7, ρ.f 8, ρ.f 10, ρ.f 11, ρ.f 12, ρ.f 13, ρ.f 14, ρ.f 15, ρ.f 16, ρ.f 17, ρ.f 18, ρ.f 20, ρ.f 30, ρ.f 31, ρ.f 32, ρ.f 33, ρ.f 34, ρ.f 35, ρ.f 40] (some D)) 2 P (ρ.f 10) #[.slice (some ⟨blk,off,none⟩) d.size cap, .int .i64 a, .int .i64 b] w fun e w'=>
   e= .returned (.tuple #[])∧ ∃ n,w'=putRow (Value.int .u32) (Sort.ahead w n) blk off (Sort.insertionSort ltInt d a b):=by
 have mixed:=Ly.mixed
 have t0:=Ly.t0;have a0:=Ly.a0;have z0:=Ly.z0;have v0:=Ly.v0;have t3:=Ly.t3;have a3:=Ly.a3;have z3:=Ly.z3;have v3:=Ly.v3;have t4:=Ly.t4;have a4:=Ly.a4;have z4:=Ly.z4;have v4:=Ly.v4;have t22:=Ly.t22;have a22:=Ly.a22;have z22:=Ly.z22;have v22:=Ly.v22;have t25:=Ly.t25;have a25:=Ly.a25;have z25:=Ly.z25;have v25:=Ly.v25
 have e216: ∀ args w,(callFunc (ρ.f 16) args).run P w= .ok (.enter (ρ.f 16) args) w:=Ly.f16.enters rfl
 obtain ⟨_,_,FG⟩:=Ly.f10
 gi_enter FG,SlBodyM.n10_ntmps ρ
 gi_wp2
 gi_loopw [6] (fun vi wr=> ∃ (i n:Nat) (dk:Array Int),vi= .int .i64 i∧a<i∧i≤b+1∧dk.size=d.size∧wr=putRow (Value.int .u32) (Sort.ahead w n) blk off dk∧
   insOuter ltInt a b i dk=insOuter ltInt a b (a+1) d) (fun vi _=>b+1 - (intOf vi).toNat)
 case atStart=>exact ⟨a+1,0,d,by go_num,by omega,by omega,rfl,(putRow_self _ _ _ _ _ hH).symm,rfl⟩
 case round=>
  obtain ⟨i,n,dk,rfl,hai,hib,hsk,hwr,hO⟩:=hrel
  have HO:Hid (insOuter ltInt a b i dk=insOuter ltInt a b (a+1) d):=hO
  clear hO
  gi_wp2
  ·
   gi_loopw [7] (fun vj wr2=> ∃ (j m:Nat) (dj:Array Int),vj= .int .i64 j∧a≤j∧j≤i∧dj.size=d.size∧wr2=putRow (Value.int .u32) (Sort.ahead w m) blk off dj∧
     insInner ltInt a j dj=insInner ltInt a i dk) (fun vj _=>(intOf vj).toNat)
   case atStart=>exact ⟨i,n,dk,rfl,by omega,Nat.le_refl _,hsk,rfl,rfl⟩
   case round=>
    obtain ⟨j,m,dj,rfl,haj,hji,hsj,hw2,hI⟩:=hrel
    have hlt:i<b:=by assumption
    obtain ⟨G,hG⟩: ∃ G:Nat→Int, ∀ t,G t=dj[t]! :=⟨fun t=>dj[t]!,fun _=>rfl⟩
    have hcw: ∀ t,t<d.size→wr.cell? ⟨blk,off+t,none⟩=some (.int .u32 (G t)):=fun t ht=>by
     rw [hw2,hG];exact cell?_putRow _ _ _ _ d dj (holds_ahead _ _ _ _ _ _ hH) hsj t (by omega)
    have hfw: ∀ t,t<d.size→wr.frozen? ⟨blk,off+t,none⟩=false:=fun t ht=>by
     rw [hw2,frozen?_putRow];exact ((holds_ahead _ _ m _ _ _ hH) t ht).2
    have HW:Hid (wr=putRow (Value.int .u32) (Sort.ahead w m) blk off dj):=hw2
    have HG:Hid (∀ t,G t=dj[t]!):=hG
    have HI:Hid (insInner ltInt a j dj=insInner ltInt a i dk):=hI
    clear hw2 hG hI hH
    have out:(j≤a∨ltInt dj[j]! dj[j - 1]! =false)→ ∀ q, ∃ i' n' dk',Value.int .i64 ((i:Int)+1)= .int .i64 (i':Nat)∧a<i'∧i'≤b+1∧dk'.size=d.size∧
      wr.drewN q=putRow (Value.int .u32) (Sort.ahead w n') blk off dk'∧insOuter ltInt a b i' dk'=insOuter ltInt a b (a+1) d:=fun hs q=>
     ⟨i+1,m+q,dj,by go_num,by omega,by omega,hsj,by rw [HW.out];exact putRow_drewN _ _ _ _ _ _ _,
      by rw [←HO.out,insOuter_go _ _ _ _ _ hlt, ←HI.out,insInner_stop _ _ _ _ hs]⟩
    have OUT:Hid _:=out
    clear out
    gi_wp2
    by_cases hja:a<j
    ·gi_big_quiet_th_o (first | (gi_at_fn (ρ.f 16);refine CallsIn.quiet_of_same (AnySM.cmp_Less_intIn {Ly with} D _ _ _)))
     gi_wp2
     ·
      have hl:ltInt (G j) (G (j - 1))=true:=by assumption
      gi_region_o
      all_goals gi_wp2
      go_roundw
      case rel=>
       refine ⟨j - 1,m+(nq+1),swp dj j (j - 1),by congr 1;omega,by omega,by omega,by rw [size_swp];exact hsj,?_,?_⟩
       ·rw [HW.out,HG.out,HG.out]
        exact swap_worldA _ w m (nq+1) blk off dj j (j - 1) (by omega) (by omega)
       ·rw [←HI.out,insInner_go ltInt a j dj hja (by rw [←HG.out, ←HG.out];exact hl)]
      case measure=>simp [intOf];omega
     ·
      have hl:ltInt (G j) (G (j - 1))=false:=by assumption
      go_roundw
      case rel=>exact OUT.out (Or.inr (by rw [←HG.out, ←HG.out];exact hl)) nq
      case measure=>simp [intOf];omega
    ·gi_big_quiet_th_o (first | (gi_at_fn (ρ.f 16);refine CallsIn.quiet_of_same (AnySM.cmp_Less_intIn {Ly with} D _ _ _)))
     gi_wp2
     go_roundw
     case rel=>exact OUT.out (Or.inl (by omega)) nq
     case measure=>simp [intOf];omega
  ·
   have hge: ¬ i<b:=by assumption
   go_end0
   exact ⟨rfl,n,by unfold Sort.insertionSort;rw [←HO.out,insOuter_stop _ _ _ _ _ hge]⟩
end
section
open Go.Shelf
variable {P:Program} {ρ :Ren}
open Go.RowKit Go.Sort
section
variable {α:Type} [Inhabited α] (lt:α→α→Bool)
end
section
variable {α:Type} [Inhabited α] (lt:α→α→Bool)
end
set_option maxHeartbeats 32000000 in
set_option maxRecDepth 1000000 in
theorem AnySM.partialInsertionSort_intIn (Ly : SlLaysU.n15 P ρ) (D : Nat) (blk off cap a b : Nat) (d : Array Int) (w : World) (hH : Holds (Value.int .u32) w blk off d) (hab : a < b) (hb : b ≤ d.size) (hsz : d.size < 4611686018427387904) :
    CallsIn (Fence.list [ρ.f 5, ρ.f 7, ρ.f 8, ρ.f 10, ρ.f 11, ρ.f 12, ρ.f 13, ρ.f 14, ρ.f 15, ρ.f 16, ρ.f 17, ρ.f 18, ρ.f 20, ρ.f 30, ρ.f 31, ρ.f 32, ρ.f 33, ρ.f 34, ρ.f 35, ρ.f 40] (some D)) 2 P (ρ.f 15) #[.slice (some ⟨blk, off, none⟩) d.size cap, .int .i64 a, .int .i64 b] w fun e w' =>
      e = .returned (.bool (Sort.partialInsertionSort ltInt d a b).2) ∧ ∃ n, w' = putRow (Value.int .u32) (Sort.ahead w n) blk off (Sort.partialInsertionSort ltInt d a b).1 := by
  have HH : Hid (Holds (Value.int .u32) w blk off d) := hH
  have HST : Hid (w = putRow (Value.int .u32) (Sort.ahead w 0) blk off d) := (putRow_self _ _ _ _ _ hH).symm
  clear hH
  have mixed := Ly.mixed
  have t0 := Ly.t0; have a0 := Ly.a0; have z0 := Ly.z0; have v0 := Ly.v0; have t3 := Ly.t3; have a3 := Ly.a3; have z3 := Ly.z3; have v3 := Ly.v3; have t4 := Ly.t4; have a4 := Ly.a4; have z4 := Ly.z4; have v4 := Ly.v4; have t22 := Ly.t22; have a22 := Ly.a22; have z22 := Ly.z22; have v22 := Ly.v22; have t25 := Ly.t25; have a25 := Ly.a25; have z25 := Ly.z25; have v25 := Ly.v25
  have e216 : ∀ args w, (callFunc (ρ.f 16) args).run P w = .ok (.enter (ρ.f 16) args) w := Ly.f16.enters rfl
  obtain ⟨_, _, FG⟩ := Ly.f15
  gi_enter FG, SlBodyM.n15_ntmps ρ
  gi_wp2
  gi_loopw [7, 8] (fun vi vs wr => ∃ (i s n : Nat) (dk : Array Int), vi = .int .i64 i ∧ vs = .int .i64 s ∧ s ≤ 5 ∧ a < i ∧ i ≤ b ∧ dk.size = d.size ∧ wr = putRow (Value.int .u32) (Sort.ahead w n) blk off dk ∧
      partialIns ltInt a b (5 - s) i dk = partialIns ltInt a b 5 (a + 1) d) (fun _ vs _ => 5 - (intOf vs).toNat)
  case atStart => exact ⟨a + 1, 0, 0, d, by go_num, rfl, by omega, by omega, by omega, rfl, HST.out, rfl⟩
  case round =>
    obtain ⟨i, s, n, dk, rfl, rfl, hs5, hai, hib, hsk, hwr, hO⟩ := hrel
    have HO : Hid (partialIns ltInt a b (5 - s) i dk = partialIns ltInt a b 5 (a + 1) d) := hO
    clear hO
    gi_wp2
    ·
      have hs : s < 5 := by omega
      gi_loopw [7] (fun vi wr2 => ∃ (k m : Nat), vi = .int .i64 k ∧ i ≤ k ∧ k ≤ b ∧ wr2 = putRow (Value.int .u32) (Sort.ahead w m) blk off dk ∧ scanSorted ltInt dk b k = scanSorted ltInt dk b i) (fun vi _ => b - (intOf vi).toNat)
      case atStart => exact ⟨i, n, rfl, Nat.le_refl _, hib, rfl, rfl⟩
      case round =>
        obtain ⟨k, m, rfl, hik, hkb, hw2, hS⟩ := hrel
        obtain ⟨G, hG⟩ : ∃ G : Nat → Int, ∀ t, G t = dk[t]! := ⟨fun t => dk[t]!, fun _ => rfl⟩
        have hcw : ∀ t, t < d.size → wr.cell? ⟨blk, off + t, none⟩ = some (.int .u32 (G t)) := fun t ht => by
          rw [hw2, hG]; exact cell?_putRow _ _ _ _ d dk (holds_ahead _ _ _ _ _ _ HH.out) hsk t (by omega)
        have hfw : ∀ t, t < d.size → wr.frozen? ⟨blk, off + t, none⟩ = false := fun t ht => by
          rw [hw2, frozen?_putRow]; exact ((holds_ahead _ _ m _ _ _ HH.out) t ht).2
        have HW : Hid (wr = putRow (Value.int .u32) (Sort.ahead w m) blk off dk) := hw2
        have HG : Hid (∀ t, G t = dk[t]!) := hG
        have HS : Hid (scanSorted ltInt dk b k = scanSorted ltInt dk b i) := hS
        clear hw2 hG hS
        gi_wp2
        by_cases hkb' : k < b
        · gi_big_quiet_th_o (first | (gi_at_fn (ρ.f 16); refine CallsIn.quiet_of_same (AnySM.cmp_Less_intIn { Ly with } D _ _ _)))
          gi_wp2
          all_goals first
            | (at_end
               have hl : ltInt (G k) (G (k - 1)) = false := by
                 have h : (!ltInt (G k) (G (k - 1))) = true := by assumption
                 simpa using h
               go_roundw
               case rel => exact ⟨k + 1, m + nq, by go_num, by omega, by omega, by rw [HW.out]; exact putRow_drewN _ _ _ _ _ _ _, by rw [← HS.out, scanSorted_go ltInt dk b k hkb' (by rw [← HG.out, ← HG.out]; exact hl)]⟩
               case measure => simp [intOf]; omega)
            | (have hl : ltInt (G k) (G (k - 1)) = true := by
                 have h : (!ltInt (G k) (G (k - 1))) = false := by assumption
                 simpa using h
               have HK : Hid (scanSorted ltInt dk b i = k) := by
                 show scanSorted ltInt dk b i = k
                 rw [← HS.out, scanSorted_stop ltInt dk b k (Or.inr (by rw [← HG.out, ← HG.out]; exact hl))]
               first
                 | (at_ret
                    have hv : Sort.partialInsertionSort ltInt d a b = (dk, false) := by
                      unfold Sort.partialInsertionSort
                      rw [← HO.out, pi_short ltInt a b s i dk hs (by rw [HK.out]; omega) (by omega)]
                    rw [hv]
                    go_ret
                    exact ⟨rfl, m + nq, by rw [HW.out]; exact putRow_drewN _ _ _ _ _ _ _⟩)
                 | (ati_region_m 11
                    have h50 : ¬ b - a < 50 := by omega
                    gi_region_o
                    have hsw : ((wr.drewN (nq + 1)).setCell ⟨blk, off + k, none⟩ (.int .u32 (G (k - 1)))).setCell ⟨blk, off + (k - 1), none⟩ (.int .u32 (G k)) = putRow (Value.int .u32) (Sort.ahead w (m + (nq + 1))) blk off (swp dk k (k - 1)) := by
                      rw [HW.out, HG.out, HG.out]
                      exact swap_worldA _ w m (nq + 1) blk off dk k (k - 1) (by omega) (by omega)
                    have hs1 : (swp dk k (k - 1)).size = d.size := by rw [size_swp]; exact hsk
                    gi_wp2
                    all_goals first
                      | (ati_loop_m
                         have hka : k - a ≥ 2 := by omega
                         gi_loopw [9] (fun vj wr2 => ∃ (j m2 : Nat) (dj : Array Int), vj = .int .i64 j ∧ j ≤ k - 1 ∧ dj.size = d.size ∧ wr2 = putRow (Value.int .u32) (Sort.ahead w m2) blk off dj ∧
                             shiftDown ltInt j dj = shiftDown ltInt (k - 1) (swp dk k (k - 1))) (fun vj _ => (intOf vj).toNat)
                         case atStart => exact ⟨k - 1, _, (swp dk k (k - 1)), by congr 1; omega, Nat.le_refl _, hs1, rfl, rfl⟩
                         case round =>
                           obtain ⟨j, m2, dj, rfl, hjk, hsj, hw2, hDn⟩ := hrel
                           obtain ⟨G, hG⟩ : ∃ G : Nat → Int, ∀ t, G t = dj[t]! := ⟨fun t => dj[t]!, fun _ => rfl⟩
                           have hcw : ∀ t, t < d.size → wr.cell? ⟨blk, off + t, none⟩ = some (.int .u32 (G t)) := fun t ht => by
                             rw [hw2, hG]; exact cell?_putRow _ _ _ _ d dj (holds_ahead _ _ _ _ _ _ HH.out) hsj t (by omega)
                           have hfw : ∀ t, t < d.size → wr.frozen? ⟨blk, off + t, none⟩ = false := fun t ht => by
                             rw [hw2, frozen?_putRow]; exact ((holds_ahead _ _ m2 _ _ _ HH.out) t ht).2
                           have HW : Hid (wr = putRow (Value.int .u32) (Sort.ahead w m2) blk off dj) := hw2
                           have HG : Hid (∀ t, G t = dj[t]!) := hG
                           have HDn : Hid (shiftDown ltInt j dj = shiftDown ltInt (k - 1) (swp dk k (k - 1))) := hDn
                           clear hw2 hG hDn hsw
                           gi_wp2
                           all_goals first
                             | (ati_region_m 16
                                gi_big_quiet_th_o (first | (gi_at_fn (ρ.f 16); refine CallsIn.quiet_of_same (AnySM.cmp_Less_intIn { Ly with } D _ _ _)))
                                gi_wp2
                                all_goals first
                                  | (ati_region_m 17
                                     have hl : ltInt (G j) (G (j - 1)) = true := by
                                       have h : (!ltInt (G j) (G (j - 1))) = false := by assumption
                                       simpa using h
                                     gi_region_o
                                     all_goals gi_wp2
                                     go_roundw
                                     case rel =>
                                       refine ⟨j - 1, m2 + (nq + 1), swp dj j (j - 1), by congr 1; omega, by omega, by rw [size_swp]; exact hsj, ?_, ?_⟩
                                       · rw [HW.out, HG.out, HG.out]
                                         exact swap_worldA _ w m2 (nq + 1) blk off dj j (j - 1) (by omega) (by omega)
                                       · rw [← HDn.out, shiftDown_go ltInt j dj (by omega) (by rw [← HG.out, ← HG.out]; exact hl)]
                                     case measure => simp [intOf]; omega)
                                  | (
                                     have hl : ltInt (G j) (G (j - 1)) = false := by
                                       have h : (!ltInt (G j) (G (j - 1))) = true := by assumption
                                       simpa using h
                                     have HD : Hid (fixDown ltInt a k (swp dk k (k - 1)) = dj) := by
                                       show fixDown ltInt a k (swp dk k (k - 1)) = dj
                                       unfold fixDown; rw [if_pos hka, ← HDn.out, shiftDown_stop ltInt j dj (Or.inr (by rw [← HG.out, ← HG.out]; exact hl))]
                                     first
                                       | (at_end
                                          go_roundw
                                          case rel =>
                                            refine ⟨k, s + 1, _, dj, rfl, by go_num, by omega, by omega, by omega, hsj, (by first | rfl | exact HW.out | (rw [HW.out]; exact putRow_drewN _ _ _ _ _ _ _)), ?_⟩
                                            rw [← HO.out, pi_go ltInt a b s i k dk hs HK.out (by omega) (by omega), HD.out, show fixUp ltInt b k dj = dj from by unfold fixUp; rw [if_neg (by omega)]]
                                          case measure => simp [intOf]; omega)
                                       | (ati_loop_m
                                          gi_loopw [10] (fun vj wr2 => ∃ (j m3 : Nat) (du : Array Int), vj = .int .i64 j ∧ k + 1 ≤ j ∧ j ≤ b ∧ du.size = d.size ∧ wr2 = putRow (Value.int .u32) (Sort.ahead w m3) blk off du ∧
                                              shiftUp ltInt b j du = shiftUp ltInt b (k + 1) dj) (fun vj _ => b - (intOf vj).toNat)
                                          case atStart => exact ⟨k + 1, _, dj, by go_num, Nat.le_refl _, by omega, hsj, (by first | rfl | exact HW.out | (rw [HW.out]; exact putRow_drewN _ _ _ _ _ _ _)), rfl⟩
                                          case round =>
                                            obtain ⟨j, m3, du, rfl, hkj, hjb, hsu, hw3, hU⟩ := hrel
                                            obtain ⟨G, hG⟩ : ∃ G : Nat → Int, ∀ t, G t = du[t]! := ⟨fun t => du[t]!, fun _ => rfl⟩
                                            have hcw : ∀ t, t < d.size → wr.cell? ⟨blk, off + t, none⟩ = some (.int .u32 (G t)) := fun t ht => by
                                              rw [hw3, hG]; exact cell?_putRow _ _ _ _ d du (holds_ahead _ _ _ _ _ _ HH.out) hsu t (by omega)
                                            have hfw : ∀ t, t < d.size → wr.frozen? ⟨blk, off + t, none⟩ = false := fun t ht => by
                                              rw [hw3, frozen?_putRow]; exact ((holds_ahead _ _ m3 _ _ _ HH.out) t ht).2
                                            have HW : Hid (wr = putRow (Value.int .u32) (Sort.ahead w m3) blk off du) := hw3
                                            have HG : Hid (∀ t, G t = du[t]!) := hG
                                            have HU : Hid (shiftUp ltInt b j du = shiftUp ltInt b (k + 1) dj) := hU
                                            clear hw3 hG hU
                                            gi_wp2
                                            all_goals first
                                              | (ati_region_m 22
                                                 gi_big_quiet_th_o (first | (gi_at_fn (ρ.f 16); refine CallsIn.quiet_of_same (AnySM.cmp_Less_intIn { Ly with } D _ _ _)))
                                                 gi_wp2
                                                 all_goals first
                                                   | (ati_region_m 23
                                                      have hl : ltInt (G j) (G (j - 1)) = true := by
                                                        have h : (!ltInt (G j) (G (j - 1))) = false := by assumption
                                                        simpa using h
                                                      gi_region_o
                                                      all_goals gi_wp2
                                                      go_roundw
                                                      case rel =>
                                                        refine ⟨j + 1, m3 + (nq + 1), swp du j (j - 1), by go_num, by omega, by omega, by rw [size_swp]; exact hsu, ?_, ?_⟩
                                                        · rw [HW.out, HG.out, HG.out]
                                                          exact swap_worldA _ w m3 (nq + 1) blk off du j (j - 1) (by omega) (by omega)
                                                        · rw [← HU.out, shiftUp_go ltInt b j du (by omega) (by rw [← HG.out, ← HG.out]; exact hl)]
                                                      case measure => simp [intOf]; omega)
                                                   | (at_end
                                                      have hl : ltInt (G j) (G (j - 1)) = false := by
                                                        have h : (!ltInt (G j) (G (j - 1))) = true := by assumption
                                                        simpa using h
                                                      go_roundw
                                                      case rel =>
                                                        refine ⟨k, s + 1, _, du, rfl, by go_num, by omega, by omega, by omega, hsu, (by first | rfl | exact HW.out | (rw [HW.out]; exact putRow_drewN _ _ _ _ _ _ _)), ?_⟩
                                                        rw [← HO.out, pi_go ltInt a b s i k dk hs HK.out (by omega) (by omega), HD.out, show fixUp ltInt b k dj = du from by unfold fixUp; rw [if_pos (by omega), ← HU.out, shiftUp_stop ltInt b j du (Or.inr (by rw [← HG.out, ← HG.out]; exact hl))]]
                                                      case measure => simp [intOf]; omega))
                                              | (at_end
                                                 go_roundw
                                                 case rel =>
                                                   refine ⟨k, s + 1, _, du, rfl, by go_num, by omega, by omega, by omega, hsu, (by first | rfl | exact HW.out | (rw [HW.out]; exact putRow_drewN _ _ _ _ _ _ _)), ?_⟩
                                                   rw [← HO.out, pi_go ltInt a b s i k dk hs HK.out (by omega) (by omega), HD.out, show fixUp ltInt b k dj = du from by unfold fixUp; rw [if_pos (by omega), ← HU.out, shiftUp_stop ltInt b j du (Or.inl (by omega))]]
                                                 case measure => simp [intOf]; omega))))
                             | (
                                have HD : Hid (fixDown ltInt a k (swp dk k (k - 1)) = dj) := by
                                  show fixDown ltInt a k (swp dk k (k - 1)) = dj
                                  unfold fixDown; rw [if_pos hka, ← HDn.out, shiftDown_stop ltInt j dj (Or.inl (by omega))]
                                first
                                  | (at_end
                                     go_roundw
                                     case rel =>
                                       refine ⟨k, s + 1, _, dj, rfl, by go_num, by omega, by omega, by omega, hsj, (by first | rfl | exact HW.out | (rw [HW.out]; exact putRow_drewN _ _ _ _ _ _ _)), ?_⟩
                                       rw [← HO.out, pi_go ltInt a b s i k dk hs HK.out (by omega) (by omega), HD.out, show fixUp ltInt b k dj = dj from by unfold fixUp; rw [if_neg (by omega)]]
                                     case measure => simp [intOf]; omega)
                                  | (ati_loop_m
                                     gi_loopw [10] (fun vj wr2 => ∃ (j m3 : Nat) (du : Array Int), vj = .int .i64 j ∧ k + 1 ≤ j ∧ j ≤ b ∧ du.size = d.size ∧ wr2 = putRow (Value.int .u32) (Sort.ahead w m3) blk off du ∧
                                         shiftUp ltInt b j du = shiftUp ltInt b (k + 1) dj) (fun vj _ => b - (intOf vj).toNat)
                                     case atStart => exact ⟨k + 1, _, dj, by go_num, Nat.le_refl _, by omega, hsj, (by first | rfl | exact HW.out | (rw [HW.out]; exact putRow_drewN _ _ _ _ _ _ _)), rfl⟩
                                     case round =>
                                       obtain ⟨j, m3, du, rfl, hkj, hjb, hsu, hw3, hU⟩ := hrel
                                       obtain ⟨G, hG⟩ : ∃ G : Nat → Int, ∀ t, G t = du[t]! := ⟨fun t => du[t]!, fun _ => rfl⟩
                                       have hcw : ∀ t, t < d.size → wr.cell? ⟨blk, off + t, none⟩ = some (.int .u32 (G t)) := fun t ht => by
                                         rw [hw3, hG]; exact cell?_putRow _ _ _ _ d du (holds_ahead _ _ _ _ _ _ HH.out) hsu t (by omega)
                                       have hfw : ∀ t, t < d.size → wr.frozen? ⟨blk, off + t, none⟩ = false := fun t ht => by
                                         rw [hw3, frozen?_putRow]; exact ((holds_ahead _ _ m3 _ _ _ HH.out) t ht).2
                                       have HW : Hid (wr = putRow (Value.int .u32) (Sort.ahead w m3) blk off du) := hw3
                                       have HG : Hid (∀ t, G t = du[t]!) := hG
                                       have HU : Hid (shiftUp ltInt b j du = shiftUp ltInt b (k + 1) dj) := hU
                                       clear hw3 hG hU
                                       gi_wp2
                                       all_goals first
                                         | (ati_region_m 22
                                            gi_big_quiet_th_o (first | (gi_at_fn (ρ.f 16); refine CallsIn.quiet_of_same (AnySM.cmp_Less_intIn { Ly with } D _ _ _)))
                                            gi_wp2
                                            all_goals first
                                              | (ati_region_m 23
                                                 have hl : ltInt (G j) (G (j - 1)) = true := by
                                                   have h : (!ltInt (G j) (G (j - 1))) = false := by assumption
                                                   simpa using h
                                                 gi_region_o
                                                 all_goals gi_wp2
                                                 go_roundw
                                                 case rel =>
                                                   refine ⟨j + 1, m3 + (nq + 1), swp du j (j - 1), by go_num, by omega, by omega, by rw [size_swp]; exact hsu, ?_, ?_⟩
                                                   · rw [HW.out, HG.out, HG.out]
                                                     exact swap_worldA _ w m3 (nq + 1) blk off du j (j - 1) (by omega) (by omega)
                                                   · rw [← HU.out, shiftUp_go ltInt b j du (by omega) (by rw [← HG.out, ← HG.out]; exact hl)]
                                                 case measure => simp [intOf]; omega)
                                              | (at_end
                                                 have hl : ltInt (G j) (G (j - 1)) = false := by
                                                   have h : (!ltInt (G j) (G (j - 1))) = true := by assumption
                                                   simpa using h
                                                 go_roundw
                                                 case rel =>
                                                   refine ⟨k, s + 1, _, du, rfl, by go_num, by omega, by omega, by omega, hsu, (by first | rfl | exact HW.out | (rw [HW.out]; exact putRow_drewN _ _ _ _ _ _ _)), ?_⟩
                                                   rw [← HO.out, pi_go ltInt a b s i k dk hs HK.out (by omega) (by omega), HD.out, show fixUp ltInt b k dj = du from by unfold fixUp; rw [if_pos (by omega), ← HU.out, shiftUp_stop ltInt b j du (Or.inr (by rw [← HG.out, ← HG.out]; exact hl))]]
                                                 case measure => simp [intOf]; omega))
                                         | (at_end
                                            go_roundw
                                            case rel =>
                                              refine ⟨k, s + 1, _, du, rfl, by go_num, by omega, by omega, by omega, hsu, (by first | rfl | exact HW.out | (rw [HW.out]; exact putRow_drewN _ _ _ _ _ _ _)), ?_⟩
                                              rw [← HO.out, pi_go ltInt a b s i k dk hs HK.out (by omega) (by omega), HD.out, show fixUp ltInt b k dj = du from by unfold fixUp; rw [if_pos (by omega), ← HU.out, shiftUp_stop ltInt b j du (Or.inl (by omega))]]
                                            case measure => simp [intOf]; omega))))
                      | (
                         have HD : Hid (fixDown ltInt a k (swp dk k (k - 1)) = (swp dk k (k - 1))) := by
                           show fixDown ltInt a k (swp dk k (k - 1)) = (swp dk k (k - 1))
                           unfold fixDown; rw [if_neg (by omega)]
                         first
                           | (at_end
                              go_roundw
                              case rel =>
                                refine ⟨k, s + 1, _, (swp dk k (k - 1)), rfl, by go_num, by omega, by omega, by omega, hs1, (by first | rfl | exact HW.out | (rw [HW.out]; exact putRow_drewN _ _ _ _ _ _ _)), ?_⟩
                                rw [← HO.out, pi_go ltInt a b s i k dk hs HK.out (by omega) (by omega), HD.out, show fixUp ltInt b k (swp dk k (k - 1)) = (swp dk k (k - 1)) from by unfold fixUp; rw [if_neg (by omega)]]
                              case measure => simp [intOf]; omega)
                           | (ati_loop_m
                              gi_loopw [10] (fun vj wr2 => ∃ (j m3 : Nat) (du : Array Int), vj = .int .i64 j ∧ k + 1 ≤ j ∧ j ≤ b ∧ du.size = d.size ∧ wr2 = putRow (Value.int .u32) (Sort.ahead w m3) blk off du ∧
                                  shiftUp ltInt b j du = shiftUp ltInt b (k + 1) (swp dk k (k - 1))) (fun vj _ => b - (intOf vj).toNat)
                              case atStart => exact ⟨k + 1, _, (swp dk k (k - 1)), by go_num, Nat.le_refl _, by omega, hs1, (by first | rfl | exact HW.out | (rw [HW.out]; exact putRow_drewN _ _ _ _ _ _ _)), rfl⟩
                              case round =>
                                obtain ⟨j, m3, du, rfl, hkj, hjb, hsu, hw3, hU⟩ := hrel
                                obtain ⟨G, hG⟩ : ∃ G : Nat → Int, ∀ t, G t = du[t]! := ⟨fun t => du[t]!, fun _ => rfl⟩
                                have hcw : ∀ t, t < d.size → wr.cell? ⟨blk, off + t, none⟩ = some (.int .u32 (G t)) := fun t ht => by
                                  rw [hw3, hG]; exact cell?_putRow _ _ _ _ d du (holds_ahead _ _ _ _ _ _ HH.out) hsu t (by omega)
                                have hfw : ∀ t, t < d.size → wr.frozen? ⟨blk, off + t, none⟩ = false := fun t ht => by
                                  rw [hw3, frozen?_putRow]; exact ((holds_ahead _ _ m3 _ _ _ HH.out) t ht).2
                                have HW : Hid (wr = putRow (Value.int .u32) (Sort.ahead w m3) blk off du) := hw3
                                have HG : Hid (∀ t, G t = du[t]!) := hG
                                have HU : Hid (shiftUp ltInt b j du = shiftUp ltInt b (k + 1) (swp dk k (k - 1))) := hU
                                clear hw3 hG hU
                                gi_wp2
                                all_goals first
                                  | (ati_region_m 22
                                     gi_big_quiet_th_o (first | (gi_at_fn (ρ.f 16); refine CallsIn.quiet_of_same (AnySM.cmp_Less_intIn { Ly with } D _ _ _)))
                                     gi_wp2
                                     all_goals first
                                       | (ati_region_m 23
                                          have hl : ltInt (G j) (G (j - 1)) = true := by
                                            have h : (!ltInt (G j) (G (j - 1))) = false := by assumption
                                            simpa using h
                                          gi_region_o
                                          all_goals gi_wp2
                                          go_roundw
                                          case rel =>
                                            refine ⟨j + 1, m3 + (nq + 1), swp du j (j - 1), by go_num, by omega, by omega, by rw [size_swp]; exact hsu, ?_, ?_⟩
                                            · rw [HW.out, HG.out, HG.out]
                                              exact swap_worldA _ w m3 (nq + 1) blk off du j (j - 1) (by omega) (by omega)
                                            · rw [← HU.out, shiftUp_go ltInt b j du (by omega) (by rw [← HG.out, ← HG.out]; exact hl)]
                                          case measure => simp [intOf]; omega)
                                       | (at_end
                                          have hl : ltInt (G j) (G (j - 1)) = false := by
                                            have h : (!ltInt (G j) (G (j - 1))) = true := by assumption
                                            simpa using h
                                          go_roundw
                                          case rel =>
                                            refine ⟨k, s + 1, _, du, rfl, by go_num, by omega, by omega, by omega, hsu, (by first | rfl | exact HW.out | (rw [HW.out]; exact putRow_drewN _ _ _ _ _ _ _)), ?_⟩
                                            rw [← HO.out, pi_go ltInt a b s i k dk hs HK.out (by omega) (by omega), HD.out, show fixUp ltInt b k (swp dk k (k - 1)) = du from by unfold fixUp; rw [if_pos (by omega), ← HU.out, shiftUp_stop ltInt b j du (Or.inr (by rw [← HG.out, ← HG.out]; exact hl))]]
                                          case measure => simp [intOf]; omega))
                                  | (at_end
                                     go_roundw
                                     case rel =>
                                       refine ⟨k, s + 1, _, du, rfl, by go_num, by omega, by omega, by omega, hsu, (by first | rfl | exact HW.out | (rw [HW.out]; exact putRow_drewN _ _ _ _ _ _ _)), ?_⟩
                                       rw [← HO.out, pi_go ltInt a b s i k dk hs HK.out (by omega) (by omega), HD.out, show fixUp ltInt b k (swp dk k (k - 1)) = du from by unfold fixUp; rw [if_pos (by omega), ← HU.out, shiftUp_stop ltInt b j du (Or.inl (by omega))]]
                                     case measure => simp [intOf]; omega)))))
        ·
          gi_big_quiet_th_o (first | (gi_at_fn (ρ.f 16); refine CallsIn.quiet_of_same (AnySM.cmp_Less_intIn { Ly with } D _ _ _)))
          gi_wp2
          obtain rfl : k = b := by omega
          have hv : Sort.partialInsertionSort ltInt d a k = (dk, true) := by
            unfold Sort.partialInsertionSort
            rw [← HO.out, pi_true ltInt a k s i dk hs (by rw [← HS.out, scanSorted_stop ltInt dk k k (Or.inl (by omega))])]
          rw [hv]
          go_ret
          exact ⟨rfl, m + nq, by rw [HW.out]; exact putRow_drewN _ _ _ _ _ _ _⟩
    ·
      obtain rfl : s = 5 := by omega
      have hv : Sort.partialInsertionSort ltInt d a b = (dk, false) := by
        unfold Sort.partialInsertionSort
        rw [← HO.out, pi_end]
      rw [hv]
      go_ret
      exact ⟨rfl, n, rfl⟩
end
end Go.Proofs.YtljfgdlgmdcmfaaGreat
