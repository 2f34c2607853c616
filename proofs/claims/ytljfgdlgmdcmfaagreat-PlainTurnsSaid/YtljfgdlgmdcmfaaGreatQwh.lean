/- Parts of a proof. -/
import Derived.Test.YtljfgdlgmdcmfaaGreatQwg
import Derived.Test.YtljfgdlgmdcmfaaGreatQwf
import Derived.ProofKit
import Derived.SizedLaws
import Derived.Deep.Fields
import Derived.Test.YtljfgdlgmdcmfaaGreatQwd
import Derived.TacticsIn
import Derived.OrdersIn
import Derived.RangeFuncCalls
import Derived.Lib.Hide
import Derived.RangeFuncBound
import Derived.RangeFuncLeaves
import Derived.Shelf.Abstract
import Derived.Shelf.RegionOpen
import Derived.OwnWalkIn
import Derived.TacticsInMore
import Derived.LoopNIn
import Derived.LoopIn
import Derived.WalkMore
set_option linter.unusedVariables false
set_option linter.unusedSimpArgs false
set_option maxHeartbeats 1600000
set_option maxRecDepth 100000
namespace Go.Proofs.YtljfgdlgmdcmfaaGreat
section
open Go.RowKit Wv
theorem TC.an9 {P:Program} {f:FuncId} {xs:List Value} {r:Value} (hb:lM P f=true) (T: ∀ w,Calls P f xs.toArray w fun e w'=>e= .returned r∧Below w.heap.size w w'):TC P f (xs.map .v) (.v r):=by
 refine ⟨hb,fun X vs hX hbad hr=>?_⟩;have e:vs=xs:=by
  apply List.ext_getElem?;intro i;by_cases hi:i<xs.length
  ·have hi':i<vs.length:=by have:=hr.1;simp at this;omega
   have h:=hr.2 i (.v xs[i]) vs[i] (by simp [hi]) (by simp [hi']);generalize hq:vs[i]=q at h;cases h;rw [List.getElem?_eq_getElem hi',List.getElem?_eq_getElem hi,hq]
  ·have hi': ¬ i<vs.length:=by have:=hr.1;simp at this;omega
   rw [List.getElem?_eq_none (by omega),List.getElem?_eq_none (by omega)]
 subst e;refine (T X.w).mono ?_;rintro e w' ⟨h1,h2⟩;exact ⟨r,h1,h2,fun m=> .v r⟩
theorem Y5 (x:Int) (h0:0≤x) (h1:x≤18446744073709551615):TC Tryz.prog 226 [.v (.int .u64 x)] (.v (.int .i64 (Lib.bitLen x.toNat))):=
 TC.an9 (xs:=[.int .u64 x]) (by kernel_rfl) fun w=>(Tryz.bits_Len64 x w h0 h1).mono fun e w' h=>⟨h.1,h.2▸Below.refl _ _⟩
def dO (n:Int):Nat:=if n≤1 then 0 else Lib.bitLen (n - 1).toNat
theorem tH (n:Int) (h1:n≤9223372036854775807):TC Tryz.prog 215 [.v (.int .i64 n)] (.v (.int .i64 (dO n))):=by
 refine Wv.TC.by 9 [0,4,2] [] [.tmp 2] Tryz.func215 rfl rfl rfl ?clo ?_
 case clo=>simp only [Wv.BC]
 have hN:dO n=if n≤1 then 0 else Lib.bitLen (n - 1).toNat:=rfl
 by_cases h:n≤1
 ·rw [if_pos h] at hN;exact Wv.V2f (ah h) hN
 ·rw [if_neg h] at hN;refine Wv.W1 (aj h) ?_;refine ak (Y5 (n - 1) (by omega) (by omega)) rfl Wv.c Wv.c ?_;exact Wv.V1 hN
def lC (e:Int):AV:= .ifc 98 (.g [.v (.int .i64 e)])
theorem iC (e:Int):Clo (lC e):=by unfold lC;simp only [Wv.BC]
theorem bD {h:Hp} (b:Bool) (e:Int):HTP Tryz.prog 66 [.v (.bool b), .v (.int .i64 e)] h (fun r h'=>b=true∧r= .tup []∧h'=h) (fun r h'=>b=false∧r=lC e∧h'=h):=by
 refine Wv.HTP.by 9 [0,5,1] [(1000000,h.length)] [] Tryz.func66 rfl rfl rfl ?base ?_
 case base=>rfl
 unfold lC;cases b with
 | true=>exact Wv.V
 | false=>exact Wv.V
end
section
open Go.RowKit Wv
theorem Rn.refl {n:Nat} {a:AV} (h:lo n a) (ht: ∀ l,a≠ .tup l) (hi: ∀ T x,a≠ .ifc T x) (hm: ∀ es,a≠ .tm es) (hg: ∀ l,a= .g l→ ∀ x,x∈l→Rn id n x x) (hf: ∀ f l k,a= .fn f l k→(∀ x,x∈l→Rn id n x x)∧ ∀ x,x∈k→Rn id n x x):Rn id n a a:=by
 have same: ∀ (l:List AV),(∀ x,x∈l→Rn id n x x)→ ∀ (i:Nat) (a b:AV),l[i]? =some a→l[i]? =some b→Rn id n a b:=fun l h i a b h1 h2=>by
  rw [h1] at h2;injection h2 with h2;subst h2;exact h a (List.mem_of_getElem? h1)
 cases h with
 | clo h=>exact .clo h
 | own h=>exact .own h
 | ptr h=>exact .ptr h
 | ap h=>exact .ap h
 | mp h=>exact .mp h
 | g h=>exact .g rfl (same _ (hg _ rfl))
 | tup h=>exact absurd rfl (ht _)
 | fn h1 h2=>exact .fn rfl rfl (same _ (hf _ _ _ rfl).1) (same _ (hf _ _ _ rfl).2)
 | ifc h=>exact absurd rfl (hi _ _)
 | tm h=>exact absurd rfl (hm _)
theorem RD.ext {P:Program} {f:FuncId} {args:List AV} {h0:Hp} {R p:AV→Prop} (T:RD P f args h0 R p) (r:Hp) (ha:RnL id h0.length args args) (hh: ∀ (i:Nat) (o:Option Ob),h0[i]? =some o→ ∃ o',o=some o'∧RnO id h0.length o' o') (hR: ∀ r,R r→Clo r) (hp: ∀ r,p r→Clo r):RD P f args (h0++r) R p:=
 RD.frame (σ:=id) T ⟨fun i j _ _ e=>e,fun i o ho=>by
  obtain ⟨o',e,q⟩:=hh i o ho;subst e;exact ⟨o',o',rfl,by rw [id,List.getElem?_append_left (List.getElem?_eq_some_iff.1 ho).1];exact ho,q⟩⟩ ha hR hp
def dQ (x:Par):List AV:=[.v (.int .i64 x.n), .v (.int .u32 x.p), .v (.int .i64 x.r), .t x.ch.length 1 (x.ch.map fun (c:Nat)=> .v (.int .u32 c)), .v (.int .u32 x.sp), .v (.int .i64 x.wt), .v (.int .u32 x.er)]
theorem dV (x:Par): ∀ a,a∈dQ x→Clo a:=by
 unfold dQ;simp only [Wv.BC]
def tyC (x:Par) (t:Int):List AV:=[.v (.int .i64 x.n), .v (.int .u32 x.p), .v (.int .i64 x.r), .t x.ch.length 1 (x.ch.map fun (c:Nat)=> .v (.int .u32 c)), .v (.int .u32 x.sp), .v (.int .i64 x.wt), .v (.int .u32 x.er), .v (.int .i64 t), .mp 1]
abbrev Nms:=List (ByteArray × Bool × Nat)
def shA (r:Bool × Nat):AV:= .g [.v (.bool r.1), .v (.int .i64 r.2)]
theorem AO (r:Bool × Nat):Clo (shA r):=by unfold shA;simp only [Wv.BC]
def nsE (ns:Nms):List (Value × AV):=ns.map fun p=>(.string p.1,shA p.2)
def hT (x:Par) (t:Int) (ns:Nms):Hp:=[some (.blk (tyC x t)),some (.map (nsE ns))]
theorem aiv (x:Par) (t:Int):RnL id 2 (tyC x t) (tyC x t):=by
 have h:=dV x;unfold dQ at h;simp only [List.mem_cons,List.not_mem_nil,or_false,forall_eq_or_imp,forall_eq] at h;obtain ⟨h1,h2,h3,h4,h5,h6,h7⟩:=h;exact ⟨.clo h1, .clo h2, .clo h3, .clo h4, .clo h5, .clo h6, .clo h7, .clo (.v _), .mp (by omega),trivial⟩
theorem tJ (ns:Nms): ∀ a,a∈(nsE ns).map (·.2)→Clo a:=by
 intro a ha;unfold nsE at ha;rw [List.map_map] at ha;obtain ⟨p,_,rfl⟩:=List.mem_map.1 ha;exact AO _
theorem amc (x:Par) (t:Int) (ns:Nms): ∀ (i:Nat) (o:Option Ob),(hT x t ns)[i]? =some o→ ∃ o',o=some o'∧RnO id (hT x t ns).length o' o':=by
 intro i o ho;unfold hT at ho ⊢;match i with
 | 0=>simp at ho;subst ho;exact ⟨_,rfl,aiv x t⟩
 | 1=>simp at ho;subst ho;exact ⟨_,rfl,rfl,RnL.clo (tJ ns)⟩
 | i+2=>simp at ho
theorem aiw (x:Par) (t:Int):loL 2 (tyC x t):=by
 have h:=dV x;unfold dQ at h;unfold loL tyC;simp only [List.mem_cons,List.not_mem_nil,or_false,forall_eq_or_imp,forall_eq] at h ⊢;obtain ⟨h1,h2,h3,h4,h5,h6,h7⟩:=h;exact ⟨.clo h1, .clo h2, .clo h3, .clo h4, .clo h5, .clo h6, .clo h7, .clo (.v _), .mp (by omega)⟩
theorem La (x:Par) (t:Int) (ns:Nms):loH (hT x t ns).length (hT x t ns):=⟨aiw x t,fun a ha=> .clo (tJ ns a ha),trivial⟩
def ny (t n:Int):Bool:=decide ((if 0 - n>n then 0 - n else n)≤(t - 1) / 2)
theorem Qz (x:Par) (t:Int) (ns:Nms) (n:Int) (hn:inB n=true) (ht:1≤t) (ht':t≤4611686018427387904):RD Tryz.prog 212 [.ptr 0 0, .v (.int .i64 n)] (hT x t ns) (fun r=>r= .v (.bool (ny t n))) (fun _=>False):=by
 have hn': -4294967295≤n∧n≤4294967295:=by
  unfold inB at hn;rw [Bool.and_eq_true] at hn;exact ⟨of_decide_eq_true hn.1,of_decide_eq_true hn.2⟩
 refine RD.of ?_ (fun r q=>q▸ .clo Wv.c) (fun r q=>q.elim) (La x t ns);unfold hT tyC;refine Wv.HTP.by 16 [1,0,4] [(1000000,2)] [.tmp 4] Tryz.func212 rfl rfl rfl ?base ?_
 case base=>rfl
 have hq:(t - 1).tdiv 2=(t - 1) / 2:=Int.tdiv_eq_ediv_of_nonneg (by omega);simp (disch:=first|exact Wv.D|fail) only [Wv.B,simprocAttr,ny,hq]
def je (x:Par) (t:Int) (ns:Nms) (fid:FuncId) (e:Ex) (unk:Nat) (o:Except Int Nat):Prop:=
 RD Tryz.prog fid [.ptr 0 0, .g (exC e), .v (.int .i64 unk)] (hT x t ns) (fun r=> ∃ d:Nat,o= .ok d∧r= .v (.int .i64 d)) (fun r=> ∃ e,o= .error e∧r=lC e)
theorem je.of {x:Par} {t:Int} {ns:Nms} {fid:FuncId} {e:Ex} {unk:Nat} {o:Except Int Nat}
  (T:HTP Tryz.prog fid [.ptr 0 0, .g (exC e), .v (.int .i64 unk)] (hT x t ns) (fun r h'=>(∃ d:Nat,o= .ok d∧r= .v (.int .i64 d))∧h'.take 2=hT x t ns) (fun r h'=>(∃ e,o= .error e∧r=lC e)∧h'.take 2=hT x t ns)):je x t ns fid e unk o:=
 RD.of T (by rintro r ⟨d,_,rfl⟩;exact .clo (.v _)) (by rintro r ⟨e,_,rfl⟩;exact .clo (iC e)) (La x t ns)
theorem RD.hT {x:Par} {t:Int} {ns:Nms} {f:FuncId} {args:List AV} {R p:AV→Prop} (T:RD Tryz.prog f (.ptr 0 0::args) (hT x t ns) R p) (r:Hp) (ha: ∀ (a:AV),a∈args→Clo a) (hR: ∀ r,R r→Clo r) (hp: ∀ r,p r→Clo r):HTP Tryz.prog f (.ptr 0 0::args) (some (.blk (tyC x t))::some (.map (nsE ns))::r) (fun q h'=>R q∧h'=some (.blk (tyC x t))::some (.map (nsE ns))::r) (fun q h'=>p q∧h'=some (.blk (tyC x t))::some (.map (nsE ns))::r):=
 RD.ext T r ⟨.ptr (by show 0<2;omega),RnL.clo ha⟩ (amc x t ns) hR hp
theorem bW {h:Hp} {e:Int}:eu h (lC e)=some (lC e,h):=rfl
theorem Iz (x:Par) (t:Int) (ns:Nms) (k:Int) (s:ByteArray) (n:Int) (nl:Nat) (li:Nat→Int) (na:Nat) (ar:Nat→Ex) (unk:Nat) (hn:inB n=true) (ht:1≤t) (ht':t≤4611686018427387904):
  je x t ns 164 (.mk k s n nl li na ar) unk (if ny t n=true then .ok 0 else .error 233):=by
 refine je.of ?_;have T:=Qz x t ns n hn ht ht';generalize hb:ny t n=b at*;rw [cO];have hE:=RD.hT T;unfold hT tyC at*;refine Wv.HTP.by 12 [1,0,4,6] [(1000000,2)] [.tmp 6] Tryz.func164 rfl rfl rfl ?base ?_
 case base=>rfl
 refine Wv.W ?_;refine aJ (fst:=[]) (cap:=[]) (hE _ Wv.c (by rintro r rfl;simp only [Wv.BC]) (by rintro r h;exact h.elim)) ?_ (by rintro av h' ⟨h,_⟩;exact h.elim);rintro av h' ⟨rfl,rfl⟩;refine Wv.W ?_;refine aJ (fst:=[]) (cap:=[]) (bD b 233) ?_ ?_
 ·rintro av h' ⟨hb,rfl,rfl⟩;subst hb;refine Wv.W ?_;exact ⟨0,rfl,rfl⟩
 ·rintro av h' ⟨hb,rfl,rfl⟩;subst hb;refine Wv.W1 @bW ?_;exact ⟨233,rfl,rfl⟩
theorem ES (x:Par) (t:Int) (ns:Nms) (e:Ex) (he:okE e) (unk:Nat):
  je x t ns 166 e unk (.ok (if unk<2 then 0 else 1)):=by
 refine je.of ?_;obtain ⟨k,s,n,nl,li,na,ar,rfl⟩:=kG he;rw [cO];unfold hT tyC at*;refine Wv.HTP.by 9 [1,2,8,6] [(1000000,2)] [.tmp 6] Tryz.func166 rfl rfl rfl ?base ?_
 case base=>rfl
 by_cases h:unk<2
 ·have h':(unk:Int)<2:=by omega
  simp (disch:=first|exact Wv.D|fail) only [Wv.B,simprocAttr,ah h',if_pos h];exact ⟨0,rfl,rfl⟩
 ·have h': ¬ (unk:Int)<2:=by omega
  simp (disch:=first|exact Wv.D|fail) only [Wv.B,simprocAttr,aj h',if_neg h];exact ⟨1,rfl,rfl⟩
def UK (n:Int):Bool:=decide (1≤n) && decide (n≤64)
theorem Lc (x : Par) (t : Int) (ns : Nms) (k : Int) (s : ByteArray) (n : Int) (nl : Nat) (li : Nat → Int) (na : Nat) (ar : Nat → Ex) (unk : Nat) :
    je x t ns 169 (.mk k s n nl li na ar) unk (if UK n = true then .ok (dO n) else .error 233) := by
  refine je.of ?_;rw [cO];unfold hT tyC at *;have hp : UK n = (decide (1 ≤ n) && decide (n ≤ 64)) := rfl;generalize UK n = b at *;refine Wv.HTP.by 19 [1, 4, 6] [(1000000, 2)] [.tmp 6] Tryz.func169 rfl rfl rfl ?base ?_
  case base => rfl
  have fin : ∀ (K : AV → Hp → Prop), K (.v (.bool b)) [] → K (.v (.bool b)) [] := fun _ h => h
  cases h1 : decide (1 ≤ n) <;> cases h2 : decide (n ≤ 64);all_goals
    rw [h1, h2] at hp;refine Wv.W2 h1 h2 ?_;refine aJ (fst := []) (cap := []) (bD _ 233) ?_ ?_
    · rintro av h' ⟨hb, rfl, rfl⟩
      first
      | exact absurd hb (by decide)
      | (have h3 := of_decide_eq_true h2
         refine Wv.W ?_;refine ak (tH n (by omega)) rfl Wv.c Wv.c ?_;refine Wv.W1 hp ?_;exact ⟨_, rfl, rfl⟩)
    · rintro av h' ⟨hb, rfl, rfl⟩
      first
      | exact absurd hb (by decide)
      | (subst hp
         refine Wv.W1 @bW ?_;exact ⟨233, rfl, rfl⟩)
end
section
open Go.ChangeShapes Go.WideShapes Go.ChangeAt Go.RowKit Go.Deep Wv
theorem aoa {α:Type} {l:List α} (h:l.length=7): ∃ a b c d e f g,l=[a,b,c,d,e,f,g]:=by
 match l,h with
 | [a,b,c,d,e,f,g],_=>exact ⟨a,b,c,d,e,f,g,rfl⟩
theorem DJ {z:Int} (h:(Lit.int .u32 z).wf=true):0≤z∧z<4294967296:=by
 simp [Lit.wf,IntKind.min,IntKind.max,IntKind.bits,IntKind.signed] at h;omega
theorem Y6 {z:Int} (h:(Lit.int .i64 z).wf=true): -9223372036854775808≤z∧z≤9223372036854775807:=by
 simp [Lit.wf,IntKind.min,IntKind.max,IntKind.bits,IntKind.signed] at h;omega
def amd:List TypeId:=[3,22,23,25]
theorem aeu:setB Tryz.prog amd=true:=by kernel_rfl
theorem aix {l:List AV} (h:Sh Tryz.prog 25 l): ∃ x:Par,qA x∧x.ch.length≤140737488351232∧(∀ q,q∈x.ch→q<4294967296)∧l=dQ x:=by
 obtain ⟨hl,hf⟩:=tq Tryz.underlying25 h;have hc:Tryz.prog.cellsOf 25=7:=by kernel_rfl
 rw [hc] at hl;obtain ⟨a,b,c,d,e,f,g,rfl⟩:=aoa hl;have c1:Tryz.prog.cellsOf 3=1:=by kernel_rfl
 have c2:Tryz.prog.cellsOf 22=1:=by kernel_rfl
 have c3:Tryz.prog.cellsOf 23=1:=by kernel_rfl
 have h0:Sh Tryz.prog 3 (([a,b,c,d,e,f,g].drop 0).take (Tryz.prog.cellsOf 3)):=hf 0 _ rfl;have h1:Sh Tryz.prog 22 (([a,b,c,d,e,f,g].drop 1).take (Tryz.prog.cellsOf 22)):=hf 1 _ rfl;have h2:Sh Tryz.prog 3 (([a,b,c,d,e,f,g].drop 2).take (Tryz.prog.cellsOf 3)):=hf 2 _ rfl;have h3:Sh Tryz.prog 23 (([a,b,c,d,e,f,g].drop 3).take (Tryz.prog.cellsOf 23)):=hf 3 _ rfl;have h4:Sh Tryz.prog 22 (([a,b,c,d,e,f,g].drop 4).take (Tryz.prog.cellsOf 22)):=hf 4 _ rfl;have h5:Sh Tryz.prog 3 (([a,b,c,d,e,f,g].drop 5).take (Tryz.prog.cellsOf 3)):=hf 5 _ rfl;have h6:Sh Tryz.prog 22 (([a,b,c,d,e,f,g].drop 6).take (Tryz.prog.cellsOf 22)):=hf 6 _ rfl;rw [c1] at h0 h2 h5;rw [c2] at h1 h4 h6;rw [c3] at h3;obtain ⟨z0,e0,w0⟩:=oG Tryz.underlying3 h0;obtain ⟨z1,e1,w1⟩:=oG Tryz.underlying22 h1;obtain ⟨z2,e2,w2⟩:=oG Tryz.underlying3 h2;obtain ⟨n3,f3,e3,w3,o3⟩:=Ik Tryz.underlying23 Tryz.underlying22 (Nat.le_of_ble_eq_true (by kernel_rfl)) (by kernel_rfl) h3;obtain ⟨z4,e4,w4⟩:=oG Tryz.underlying22 h4;obtain ⟨z5,e5,w5⟩:=oG Tryz.underlying3 h5;obtain ⟨z6,e6,w6⟩:=oG Tryz.underlying22 h6;have q0:[a]=[AV.v (.int .i64 z0)]:=e0;have q1:[b]=[AV.v (.int .u32 z1)]:=e1;have q2:[c]=[AV.v (.int .i64 z2)]:=e2;have q3:[d]=[AV.t n3 1 (tab n3 fun i=> .v (.int .u32 (f3 i)))]:=e3;have q4:[e]=[AV.v (.int .u32 z4)]:=e4;have q5:[f]=[AV.v (.int .i64 z5)]:=e5;have q6:[g]=[AV.v (.int .u32 z6)]:=e6;simp only [List.cons.injEq,and_true] at q0 q1 q2 q3 q4 q5 q6;subst q0 q1 q2 q3 q4 q5 q6;have b0:=Y6 w0;have b1:=DJ w1;have b2:=Y6 w2;have b4:=DJ w4;have b6:=DJ w6;have hr:reachBytes=140737488351232:=rfl;obtain ⟨p1,rfl⟩: ∃ n:Nat,z1=n:=⟨z1.toNat,by omega⟩
 obtain ⟨p4,rfl⟩: ∃ n:Nat,z4=n:=⟨z4.toNat,by omega⟩
 obtain ⟨p6,rfl⟩: ∃ n:Nat,z6=n:=⟨z6.toNat,by omega⟩
 have hch:((List.range n3).map fun i=>(f3 i).toNat).length=n3:=by rw [List.length_map,List.length_range]
 have hcl:(((List.range n3).map fun i=>(f3 i).toNat).map fun (c:Nat)=>AV.v (.int .u32 c))=tab n3 fun i=> .v (.int .u32 (f3 i)):=by
  rw [List.map_map];refine List.map_congr_left fun i hi=>?_
  have:=DJ (o3 i (List.mem_range.1 hi));show AV.v (.int .u32 ((f3 i).toNat:Int))=_;rw [Int.toNat_of_nonneg this.1]
 refine ⟨{n:=z0,p:=p1,r:=z2,ch:=(List.range n3).map fun i=>(f3 i).toNat,sp:=p4,wt:=z5,er:=p6},⟨b0.1,b0.2,by show p1<_;omega,b2.1,b2.2,by show p4<_;omega⟩,by rw [hch];omega,fun q hq=>?_,?_⟩
 ·obtain ⟨i,hi,rfl⟩:=List.mem_map.1 hq;have:=DJ (o3 i (List.mem_range.1 hi));omega
 ·unfold dQ;simp only;rw [hch,hcl]
theorem abx {H:Type} {enc:TypeId × Value→H} {w:World} {base b0:Nat} {spare:Nat→Bool} {held:Bool} {r:Reach} {v:Value} {d:DataW H} {p:List MemPlace}
  (hv:Value.okWide Tryz.prog w r b0 25 v) (h:DataW.Trod enc Tryz.prog w base spare held 25 v d p) (hl:yj Tryz.prog 25 d): ∃ x:Par,qA x∧x.ch.length≤140737488351232∧(∀ q,q∈x.ch→q<4294967296)∧Rep (zK w) (.g (dQ x)) v:=by
 simp only [Value.okWide,Tryz.underlying25] at hv;obtain ⟨cs,rfl,_,_⟩:=hv;obtain ⟨fuel,hf⟩:=h;obtain ⟨l,s1,s2,s3⟩:=reads aeu fuel _ _ _ (by unfold amd;simp) hf hl;obtain ⟨x,h1,h2,h3,rfl⟩:=aix s1;refine ⟨x,h1,h2,h3,?_⟩;have e:(Value.agg cs)= .agg cs.toList.toArray:=by simp
 rw [e];exact .g s2.1 s2.2
end
section
end
section
open Go.RowKit Wv
def IB:List (Value × AV):=[(.int .i64 2, .fn (.func 164) [.ptr 0 0] []),(.int .i64 3, .fn (.func 165) [.ptr 0 0] []),(.int .i64 7, .fn (.func 166) [.ptr 0 0] []),(.int .i64 8, .fn (.func 167) [.ptr 0 0] []),(.int .i64 10, .fn (.func 168) [.ptr 0 0] []),(.int .i64 14, .fn (.func 169) [.ptr 0 0] []),(.int .i64 11, .fn (.func 170) [.ptr 0 0] []),(.int .i64 13, .fn (.func 171) [.ptr 0 0] []),(.int .i64 12, .fn (.func 172) [.ptr 0 0] [])]
theorem UL {h:Hp} (h0:0<h.length) (hh:loH h.length h):RD Tryz.prog 110 [.ptr 0 0] h (fun r=>r= .tm IB) (fun _=>False):=by
 refine RD.of ?_ (by rintro r rfl;unfold IB;refine .tm fun p hp=>?_;simp only [List.mem_cons,List.not_mem_nil,or_false] at hp;rcases hp with rfl | rfl | rfl | rfl | rfl | rfl | rfl | rfl | rfl<;>exact .fn (by rintro a ha;rw [List.mem_singleton] at ha;subst ha;exact .ptr h0) (by rintro a ha;cases ha)) (fun r q=>q.elim) hh;refine Wv.HTP.by 23 [0,2] [(1000000,h.length)] [.tmp 2] Tryz.func110 rfl rfl rfl ?base ?_
 case base=>rfl
 have hget: ∀ o:Option Ob,(h++[o])[h.length]? =some o:=fun o=>List.getElem?_concat_length
 have hset: ∀ o o':Option Ob,(h++[o]).set h.length o'=h++[o']:=fun o o'=>by rw [List.set_append_right _ _ (Nat.le_refl _),Nat.sub_self];rfl
 refine Wv.W2 hget hset ?_;exact ⟨rfl,by rw [List.take_append_of_le_length (Nat.le_refl _),List.take_length]⟩
def aF:Nms→ByteArray→Option (Bool × Nat)
 | [],_=>none
 | p::r,s=>if s=p.1 then some p.2 else aF r s
theorem wZ (s:ByteArray): ∀ ns:Nms,eP (.string s) (nsE ns)=(aF ns s).map shA
 | []=>rfl
 | p::r=>by
  have ih:=wZ s r;show (if keyE (.string s) (.string p.1)=true then some (shA p.2) else eP (.string s) (nsE r))=_;rw [ih];show _=Option.map shA (if s=p.1 then some p.2 else aF r s);have:keyE (.string s) (.string p.1)=decide (s=p.1):=Df;rw [this];by_cases e:s=p.1
  ·rw [if_pos (ah e),if_pos e];rfl
  ·rw [if_neg (by simp [e]),if_neg e]
def bH (f:Nat→Except Int (Bool × Nat)):Nat→Except Int (Bool × Nat × Nat)
 | 0=> .ok (true,0,0)
 | n+1=>match bH f n with
  | .error e=> .error e
  | .ok (kn,d,u)=>match f n with
   | .error e=> .error e
   | .ok (k',d')=> .ok (kn && k',max d d',if k'=true then u else u+1)
def DK:Option (Bool × Nat)→Except Int (Bool × Nat)
 | some r=> .ok r
 | none=> .error 230
def yJ (kn:Bool) (d:Nat):Except Int Nat→Except Int (Bool × Nat)
 | .error e=> .error e
 | .ok m=>if (if kn=true then 0 else d+m)≤8 then .ok (kn,if kn=true then 0 else d+m) else .error 232
def DL (f:Nat→Except Int Nat):Except Int (Bool × Nat × Nat)→Except Int (Bool × Nat)
 | .error e=> .error e
 | .ok (kn,d,u)=>yJ kn d (f u)
def shE (ns:Nms) (ru:Ex→Nat→Except Int Nat):Ex→Except Int (Bool × Nat)
 | .nil=> .error 0
 | .mk k s n nl li na ar=>if k=1 then DK (aF ns s) else DL (ru (.mk k s n nl li na ar)) (bH (fun i=>shE ns ru (ar i)) na)
def Ld:Except Int (Bool × Nat × Nat)→Bool × Nat × Nat
 | .ok r=>r
 | .error _=>(true,0,0)
def ame:Except Int Nat→Nat
 | .ok _=>0
 | .error _=>1
def afM (f:Nat→Except Int Nat):Except Int (Bool × Nat × Nat)→Nat
 | .ok (_,_,u)=>ame (f u)
 | .error _=>0
theorem yK        {f : Nat → Except Int (Bool × Nat)} {i : Nat} {e : Int} (h : bH    f i = .error e) : ∀ {n : Nat}, i ≤ n → bH    f n = .error e
  | 0, q => by have : i = 0 := by omega
               subst this; exact h
  | n + 1, q => by
    by_cases hq : i = n + 1
    · subst hq; exact h
    · have := yK        h (n := n) (by omega)
      simp only [bH   , this]
theorem yL {ns:Nms} {ru:Ex→Nat→Except Int Nat} (hn: ∀ s r,aF ns s=some r→r.2≤8) (x:Ex) {r:Bool × Nat} (h:shE ns ru x= .ok r):r.2≤8:=by
 rcases x with _ | ⟨k,s,n,nl,li,na,ar⟩
 ·cases h
 unfold shE at h;by_cases hk:k=1
 ·rw [if_pos hk] at h;cases hf:aF ns s with
  | none=>rw [hf] at h;cases h
  | some r'=>rw [hf] at h;simp only [DK] at h;injection h with h;subst h;exact hn s _ hf
 ·rw [if_neg hk] at h;cases hf:bH (fun i=>shE ns ru (ar i)) na with
  | error e=>rw [hf] at h;cases h
  | ok q=>
   obtain ⟨kn,d,u⟩:=q;rw [hf] at h;simp only [DL] at h;cases hr:ru (.mk k s n nl li na ar) u with
   | error e=>rw [hr] at h;cases h
   | ok m=>
    rw [hr] at h;simp only [yJ] at h;by_cases hle:(if kn=true then 0 else d+m)≤8
    ·rw [if_pos hle] at h;injection h with h;subst h;exact hle
    ·rw [if_neg hle] at h;cases h
theorem rF {f:Nat→Except Int (Bool × Nat)} (hf: ∀ i r,f i= .ok r→r.2≤8): ∀ {n:Nat} {r:Bool × Nat × Nat},bH f n= .ok r→r.2.1≤8∧r.2.2≤n
 | 0,r,h=>by injection h with h;subst h;exact ⟨by show 0≤8;omega,Nat.le_refl _⟩
 | n+1,r,h=>by
  simp only [bH] at h;split at h
  ·cases h
  ·next kn d u h1=>
   have ih:=rF hf h1;split at h
   ·cases h
   ·next k' d' h2=>
    have:=hf _ _ h2;injection h with h;subst h;simp only at this ih ⊢;refine ⟨by omega,?_⟩;split<;>omega
def Y7 (k:Int):Option FuncId:=match k with | 2=>some 164 | 3=>some 165 | 7=>some 166 | 8=>some 167 | 10=>some 168 | 14=>some 169 | 11=>some 170 | 13=>some 171 | 12=>some 172 | _=>none
def IC (x:Par) (t:Int) (ns:Nms) (ru:Ex→Nat→Except Int Nat) (ks:Ex→Prop):Prop:=
 ∀ e unk,ks e→okE e→aW e=true→unk≤2→(∀ m,ru e unk= .ok m→m≤4294967296)∧match Y7 e.kind with | some f=>je x t ns f e unk (ru e unk) | none=>ru e unk= .ok 0
def aev (ks:Ex→Prop):Ex→Prop
 | .nil=>False
 | .mk k s n nl li na ar=>ks (.mk k s n nl li na ar)∧ ∀ i,i<na→aev ks (ar i)
theorem zM {a b:AV} (h1:Clo a) (h2:Clo b): ∀ x,x∈[a,b]→Clo x:=by
 intro x hx;rcases List.mem_cons.1 hx with rfl | hx
 ·exact h1
 ·rw [List.mem_singleton] at hx;subst hx;exact h2
theorem DN:keysB (.int .i64) IB=true:=rfl
theorem OI (k:Int) (h1:1≤k) (h2:k≤15):eP (.int .i64 k) IB=(Y7 k).map fun f=> .fn (.func f) [.ptr 0 0] []:=by
 have:k=1∨k=2∨k=3∨k=4∨k=5∨k=6∨k=7∨k=8∨k=9∨k=10∨k=11∨k=12∨k=13∨k=14∨k=15:=by omega
 rcases this with rfl | rfl | rfl | rfl | rfl | rfl | rfl | rfl | rfl | rfl | rfl | rfl | rfl | rfl | rfl<;>rfl
theorem Le (l:List Nat): ∀ a,a∈l.map (fun (c:Nat)=>AV.v (.int .u32 c))→Clo a:=by
 intro a ha;obtain ⟨c,_,rfl⟩:=List.mem_map.1 ha;exact .v _
theorem DR {m:Nat} (ns:Nms):(∀ x:Value × AV,x∈nsE ns→lo m x.2)=True:=eq_true fun a ha=> .clo (tJ ns _ (List.mem_map_of_mem ha))
theorem kX (l:List Nat):(∀ a,a∈l.map (fun (c:Nat)=>AV.v (.int .u32 c))→Clo a)=True:=eq_true (Le l)
theorem zN: ∀ ns:Nms,keysB .str (nsE ns)=true
 | []=>rfl
 | p::r=>zN r
def ShC (x:Par) (t:Int) (ns:Nms) (e:Ex) (o:Except Int (Bool × Nat)):Prop:=
 RD Tryz.prog 65 [.ptr 0 0, .g (exC e)] (hT x t ns) (fun r=> ∃ s,o= .ok s∧r=shA s) (fun r=> ∃ e,o= .error e∧r=lC e)
theorem gq {k:Int} {s:ByteArray} {n:Int} {nl:Nat} {li:Nat→Int} {na:Nat} {ar:Nat→Ex} (h:aW (.mk k s n nl li na ar)=true):(1≤k∧k≤15)∧na≤2∧ ∀ i,i<na→aW (ar i)=true:=by
 unfold aW at h;simp only [Bool.and_eq_true,Bool.not_eq_true',decide_eq_true_eq,decide_eq_false_iff_not] at h;obtain ⟨h1,h2,_,h4,_,_,_,_,h8⟩:=h;have hk: ∀ m:Nat,argN m≤2:=fun m=>by unfold argN;split<;>decide
 have:=hk k.toNat;refine ⟨⟨by omega,by omega⟩,by omega,fun i hi=>?_⟩;unfold aG at h8;have h9:=List.any_eq_false.1 h8 i (List.mem_range.2 hi);simpa using h9
theorem aew (x:Par) (t:Int) (ns:Nms) (ru:Ex→Nat→Except Int Nat) (ks:Ex→Prop) (hns: ∀ s r,aF ns s=some r→r.2≤8) (hR:IC x t ns ru ks) (e:Ex) (ho:okE e) (hf:aW e=true) (hk:aev ks e):ShC x t ns e (shE ns ru e):=by
 induction e with
 | nil=>exact ho.elim
 | mk k s n nl li na ar ih=>
 obtain ⟨hs,hnl,hna,hh⟩:=ho;have ⟨⟨hk1,hk2⟩,aiy,hfa⟩:=gq hf;refine RD.of ?_ (by rintro r ⟨s,_,rfl⟩;exact .clo (AO s)) (by rintro r ⟨e,_,rfl⟩;exact .clo (iC e)) (La x t ns);rw [cO];unfold hT tyC;have hS:shE ns ru (.mk k s n nl li na ar)=if k=1 then DK (aF ns s) else DL (ru (.mk k s n nl li na ar)) (bH (fun i=>shE ns ru (ar i)) na):=rfl
 obtain ⟨c,hc⟩: ∃ c,c=afM (ru (.mk k s n nl li na ar)) (bH (fun i=>shE ns ru (ar i)) na):=⟨_,rfl⟩
 refine Wv.HTP.by 76 [1,3,15,0,6,5,4,33,32,34,31,10,7,11,48,8,12,59,69] [(2,11),(16,4),(18,6),(1000000,2),(4000018,c)] [.cell 4 42] Tryz.func65 rfl rfl rfl ?base ?_
 case base=>rfl
 by_cases hk1:k=1
 ·rw [if_pos hk1] at hS;cases hq:aF ns s with
  | none=>
   rw [hq] at hS;simp only [DK] at hS;have hlm:=wZ s ns;rw [hq] at hlm;simp only [Option.map_none] at hlm;refine Wv.W3 (ah hk1) @zN hlm ?_;refine aJ (fst:=[]) (cap:=[]) (bD false 230) (by rintro av h' ⟨hb,_⟩;cases hb) ?_;rintro av h' ⟨_,rfl,rfl⟩;refine Wv.W2 @bW hS ?_;exact ⟨230,rfl,rfl⟩
  | some r=>
   rw [hq] at hS;simp only [DK] at hS;have hlm:=wZ s ns;rw [hq] at hlm;simp only [Option.map_some,shA] at hlm;refine Wv.W3 (ah hk1) @zN hlm ?_;refine aJ (fst:=[]) (cap:=[]) (bD true 230) ?_ (by rintro av h' ⟨hb,_⟩;cases hb);rintro av h' ⟨_,rfl,rfl⟩;refine Wv.W1 hS ?_;exact ⟨r,rfl,rfl⟩
 ·rw [if_neg hk1] at hS;refine Wv.W1 (aj hk1) ?_;generalize hfE:(fun i=>shE ns ru (ar i))=fE at hS hc;have hLc:=dB (n:=na) (f:=fun i=>exC (ar i)) fun i _=>eU (ar i)
  have hdr: ∀ i,i<na→ ∃ r,List.drop (i*5) (dH na fun i=>exC (ar i))=exC (ar i)++r:=fun i hi=>bM (f:=fun i=>exC (ar i)) (fun i=>iK (ar i)) hi
  generalize hL:(dH na fun i=>exC (ar i))=L at hLc hdr ⊢;refine aT (σ:=Nat) (fun i=>[(0, .ptr 0 0),(3, .ptr 2 0),(4, .ptr 3 0),(7, .ptr 4 0),(8, .v (.int .i64 (Ld (bH fE i)).2.2)),(31, .t na 5 L),(32, .v (.int .i64 na)),(33, .v (.int .i64 i))])
   (fun i=>[some (.blk [.v (.int .i64 x.n), .v (.int .u32 x.p), .v (.int .i64 x.r), .t x.ch.length 1 (x.ch.map fun (c:Nat)=> .v (.int .u32 c)), .v (.int .u32 x.sp), .v (.int .i64 x.wt), .v (.int .u32 x.er), .v (.int .i64 t), .mp 1]),some (.map (nsE ns)),
    some (.blk [.v (.int .i64 k), .v (.string s), .v (.int .i64 n), .t nl 1 (tab nl fun i=> .v (.int .i64 (li i))), .t na 5 L]),some (.blk [.v (.bool false), .v (.int .i64 0)]),some (.blk [.v (.bool (Ld (bH fE i)).1), .v (.int .i64 (Ld (bH fE i)).2.1)])])
   (fun i=>i≤na∧bH fE i= .ok (Ld (bH fE i))) (fun i=>na - i) 0 ⟨Nat.zero_le _,rfl⟩ (by simp (disch:=first|exact Wv.D|fail) only [Wv.B,simprocAttr,bH,Ld]) (by simp (disch:=first|exact Wv.D|fail) only [Wv.B,simprocAttr,bH,Ld]) ?_
  rintro i ⟨hi,hfo⟩;obtain ⟨r,hr⟩: ∃ r,Ld (bH fE i)=r:=⟨_,rfl⟩
  rw [hr] at hfo;by_cases hlt:i<na
  ·have e1:(i:Int)<na:=by omega
   obtain ⟨r2,hd⟩:=hdr i hlt;have T:=ih i (hh i hlt) (hfa i hlt) (hk.2 i hlt);have hfi:fE i=shE ns ru (ar i):=by rw [←hfE]
   obtain ⟨kn,d,u⟩:=r;have hle: ∀ r,shE ns ru (ar i)= .ok r→r.2≤8:=fun r h=>yL hns (ar i) h
   have hbd:=rF (f:=fE) (fun j r h=>by
    rw [←hfE] at h;exact yL hns (ar j) h) hfo
   simp only at hbd;have hG:=dh (ar i);have hE:=RD.hT (x:=x) (t:=t) (ns:=ns) (args:=[.g (exC (ar i))]) T;generalize shE ns ru (ar i)=O at hE hfi hle;clear T;have hoy:=hh i hlt;generalize ar i=y at hd hE hG hoy;obtain ⟨k',s',n',nl',li',na',ar',rfl⟩:=kG hoy;rw [cO] at hd hE hG;simp only [List.cons_append,List.nil_append] at hd;unfold tyC at hE;refine Wv.W2 hd hr ?_;refine aJ (fst:=[]) (cap:=[]) (hE _ (dM hG) (by rintro r ⟨s,_,rfl⟩;exact AO s) (by rintro r ⟨e,_,rfl⟩;exact iC e)) ?_ ?_
   ·rintro av h' ⟨⟨⟨k2,d2⟩,hO,rfl⟩,rfl⟩;subst hO;have hnx:bH fE (i+1)= .ok (kn && k2,max d d2,if k2=true then u else u+1):=by simp only [bH,hfo,hfi]
    have hng:Ld (bH fE (i+1))=(kn && k2,max d d2,if k2=true then u else u+1):=by rw [hnx];rfl
    have hd2:=hle _ rfl;simp only at hd2;have hmx:(if (d2:Int)>(d:Int) then (d2:Int) else (d:Int))=((max d d2:Nat):Int):=by split<;>omega
    unfold shA;cases k2 with
    | true=>
     refine Wv.W1 hmx ?_;refine Wv.iw (i+1) 5 (by first | decide | exact Nat.le_of_ble_eq_true rfl) (⟨by omega,by rw [hnx];rfl⟩) (by omega) (Wv.V2f @bG hng) (Wv.V3 @Int.natCast_add @Int.natCast_one hng) (by simp only [Wv.BL, ↓reduceIte,Nat.reduceLeDiff,eq_true hLc,kX,DR]<;>omega) (by simp only [Wv.BL, ↓reduceIte,Nat.reduceLeDiff,eq_true hLc,kX,DR]<;>omega)
    | false=>
     refine Wv.W1 hmx ?_;refine Wv.iw (i+1) 5 (by first | decide | exact Nat.le_of_ble_eq_true rfl) (⟨by omega,by rw [hnx];rfl⟩) (by omega) (Wv.V2f @bG hng) (Wv.V3 @Int.natCast_add @Int.natCast_one hng) (by simp only [Wv.BL, ↓reduceIte,Nat.reduceLeDiff,eq_true hLc,kX,DR]<;>omega) (by simp only [Wv.BL, ↓reduceIte,Nat.reduceLeDiff,eq_true hLc,kX,DR]<;>omega)
   ·rintro av h' ⟨⟨e,hO,rfl⟩,rfl⟩;subst hO;have hnx:bH fE (i+1)= .error e:=by simp only [bH,hfo,hfi]
    rw [yK hnx (n:=na) (by omega)] at hS;simp only [DL] at hS;refine Wv.W2 @bW hS ?_;exact ⟨e,rfl,rfl⟩
  ·have hin:i=na:=by omega
   subst hin;obtain ⟨kn,d,u⟩:=r;have hbd:=rF (f:=fE) (fun j r h=>by
    rw [←hfE] at h;exact yL hns (ar j) h) hfo
   simp only at hbd;rw [hfo] at hS hc;simp only [DL] at hS;simp only [afM] at hc;have hRu:=hR (.mk k s n nl li i ar) u hk.1 ⟨hs,hnl,hna,hh⟩ hf (by omega);generalize ru (.mk k s n nl li i ar) u=O at hS hRu hc;have hlr:=OI k (by omega) hk2;have hG:=dh (.mk k s n nl li i ar);rw [cO] at hG;obtain ⟨hm,hRf⟩:=hRu;unfold je Ex.kind at hRf;rw [cO] at hRf;rw [hL] at hG hRf;refine Wv.W1 hr ?_;refine dn (fst:=[]) (cap:=[]) (UL (Nat.zero_lt_succ _) (by simp only [Wv.BL, ↓reduceIte,Nat.reduceLeDiff,DR,kX,eq_true hLc,List.length_cons,List.length_nil,Nat.reduceAdd,Nat.reduceLT])) ?_ (by rintro av h' ⟨h,_⟩;exact h.elim);cases hq:Y7 k with
   | none=>
    rw [hq] at hlr hRf;simp only at hRf;simp only [Option.map_none] at hlr;subst hRf;cases kn with
    | true=>
     have hS1:yJ true d (.ok 0)= .ok (true,0):=rfl;rw [hS1] at hS;refine Wv.W2 @DN hlr ?_;refine aJ (fst:=[]) (cap:=[]) (bD true 232) ?_ (by rintro av h' ⟨hb,_⟩;cases hb);rintro av h' ⟨_,rfl,rfl⟩;refine Wv.W1 hS ?_;exact ⟨_,rfl,rfl⟩
    | false=>
     have hS1:yJ false d (.ok 0)= .ok (false,d):=if_pos (by show d+0≤8;omega);rw [hS1] at hS;have hd8:(d:Int)≤8:=by omega
     refine Wv.W3 @DN hlr (ah hd8) ?_;refine aJ (fst:=[]) (cap:=[]) (bD true 232) ?_ (by rintro av h' ⟨hb,_⟩;cases hb);rintro av h' ⟨_,rfl,rfl⟩;refine Wv.W1 hS ?_;exact ⟨_,rfl,rfl⟩
   | some f=>
    rw [hq] at hlr hRf;simp only at hRf;simp only [Option.map_some] at hlr;have hE:=RD.hT (x:=x) (t:=t) (ns:=ns) (args:=[.g _, .v (.int .i64 u)]) hRf;unfold tyC at hE;simp (disch:=first|exact Wv.D|fail) only [Wv.B,simprocAttr,DN,hlr];cases O with
    | error e=>
     have hc1:c=1:=hc;refine dn (res:= .t 1 1 []) (fst:=[.ptr 0 0]) (cap:=[]) ((hE _ (zM hG Wv.c) (by rintro r ⟨s,_,rfl⟩;exact .v _) (by rintro r ⟨e,_,rfl⟩;exact iC e)).mono (by rintro r h' ⟨⟨_,q,_⟩,_⟩;cases q) (fun _ _ q=>q)) ?_ ?_
     ·refine Wv.W1 hc1 ?_;exact ⟨5,_,_,rfl,rfl,rfl,rfl,rfl⟩
     ·rintro av h' ⟨⟨e',q,rfl⟩,rfl⟩;injection q with q;subst q;have hS2:yJ kn d (.error e)= .error e:=rfl;rw [hS2] at hS;refine Wv.W2 @bW hS ?_;exact ⟨_,rfl,rfl⟩
    | ok m=>
     have hm':=hm m rfl;have hc1:c=0:=hc;refine dn (res:= .v (.int .i64 m)) (fst:=[.ptr 0 0]) (cap:=[]) ((hE _ (zM hG Wv.c) (by rintro r ⟨s,_,rfl⟩;exact .v _) (by rintro r ⟨e,_,rfl⟩;exact iC e)).mono (by rintro r h' ⟨⟨_,q,rfl⟩,rfl⟩;injection q with q;subst q;exact ⟨rfl,rfl⟩) (fun _ _ q=>q)) ?_ (by rintro av h' ⟨⟨_,q,_⟩,_⟩;cases q);have hS2:yJ kn d (.ok m)=if (if kn=true then 0 else d+m)≤8 then .ok (kn,if kn=true then 0 else d+m) else .error 232:=rfl
     rw [hS2] at hS;cases kn with
     | true=>
      simp only [if_true,Nat.zero_le] at hS;refine Wv.W1 hc1 ?_;refine aJ (fst:=[]) (cap:=[]) (bD true 232) ?_ (by rintro av h' ⟨hb,_⟩;cases hb);rintro av h' ⟨_,rfl,rfl⟩;refine Wv.W1 hS ?_;exact ⟨_,rfl,rfl⟩
     | false=>
      simp only [Bool.false_eq_true,if_false] at hS;by_cases h8:d+m≤8
      ·rw [if_pos h8] at hS;have hd8:(d:Int)+m≤8:=by omega
       refine Wv.W2 hc1 (ah hd8) ?_;refine aJ (fst:=[]) (cap:=[]) (bD true 232) ?_ (by rintro av h' ⟨hb,_⟩;cases hb);rintro av h' ⟨_,rfl,rfl⟩;refine Wv.W1 hS ?_;exact ⟨_,rfl,by unfold shA;rw [Int.natCast_add]⟩
      ·rw [if_neg h8] at hS;have hd8: ¬ (d:Int)+m≤8:=by omega
       refine Wv.W2 hc1 (aj hd8) ?_;refine aJ (fst:=[]) (cap:=[]) (bD false 232) (by rintro av h' ⟨hb,_⟩;cases hb) ?_;rintro av h' ⟨_,rfl,rfl⟩;refine Wv.W2 @bW hS ?_;exact ⟨_,rfl,rfl⟩
end
section
open Go.RowKit Wv
def jL (t:Int) (nl:Nat) (li:Nat→Int) (least most:Int):Bool:=decide (least≤(nl:Int)) && (decide ((nl:Int)≤most) && !aG nl fun i=>!ny t (li i))
theorem Lh (x:Par) (t:Int) (ns:Nms) (n:Int) (hn:inB n=true) (ht:1≤t) (ht':t≤4611686018427387904):
  HT Tryz.prog 239 [.v (.int .i64 n), .ptr 2 0] (hT x t ns++[some (.blk [.ptr 0 0])]) (fun r h'=>r= .v (.bool (!ny t n))∧h'=hT x t ns++[some (.blk [.ptr 0 0])]):=by
 have hE:=RD.hT (Qz x t ns n hn ht ht');generalize ny t n=b at*;unfold hT tyC at*;simp only [List.cons_append,List.nil_append] at*;refine Wv.HT.by 8 [1,0,3] [(1000000,3)] [.tmp 3] Tryz.func239 rfl rfl rfl ?base ?_
 case base=>rfl
 refine Wv.W ?_;refine aJ (fst:=[]) (cap:=[]) (hE _ Wv.c (by rintro r rfl;simp only [Wv.BC]) (by rintro r h;exact h.elim)) ?_ (by rintro av h' ⟨h,_⟩;exact h.elim);rintro av h' ⟨rfl,rfl⟩;exact Wv.V
theorem DT (x:Par) (t:Int) (ns:Nms) (nl:Nat) (li:Nat→Int) (least most:Int) (hn:nl≤140737488351232) (hin: ∀ i,i<nl→inB (li i)=true) (ht:1≤t) (ht':t≤4611686018427387904):
  RD Tryz.prog 213 [.ptr 0 0, .t nl 1 (tab nl fun i=> .v (.int .i64 (li i))), .v (.int .i64 least), .v (.int .i64 most)] (hT x t ns) (fun r=>jL t nl li least most=true∧r= .tup []) (fun r=>jL t nl li least most=false∧r=lC 233):=by
 refine RD.of ?_ (fun r q=>q.2▸ .clo Wv.c) (fun r q=>q.2▸ .clo (iC 233)) (La x t ns);have hC:=yw (h:=hT x t ns++[(some (Ob.blk [AV.ptr 0 0]):Option Ob)]) nl li (fun i=>!ny t (li i)) 239 [] [.ptr 2 0] hn (fun i hi=>Lh x t ns (li i) (hin i hi) ht ht');have hL:jL t nl li least most=(decide (least≤(nl:Int)) && (decide ((nl:Int)≤most) && !aG nl fun i=>!ny t (li i))):=rfl;generalize (aG nl fun i=>!ny t (li i))=b at*;generalize jL t nl li least most=B at*;unfold hT tyC at*;simp only [List.cons_append,List.nil_append] at*;refine Wv.HTP.by 27 [0,4,1,2,3,8] [(1000000,2)] [] Tryz.func213 rfl rfl rfl ?base ?_
 case base=>rfl
 cases h1:decide (least≤(nl:Int))
 ·rw [h1,Bool.false_and] at hL;refine Wv.W1 h1 ?_;refine aJ (fst:=[]) (cap:=[]) (bD _ 233) (by rintro av h' ⟨hb,_⟩;cases hb) ?_;rintro av h' ⟨_,rfl,rfl⟩;refine Wv.W1 @bW ?_;exact hL
 cases h2:decide ((nl:Int)≤most)
 ·rw [h1,h2,Bool.false_and,Bool.and_false] at hL;refine Wv.W2 h1 h2 ?_;refine aJ (fst:=[]) (cap:=[]) (bD _ 233) (by rintro av h' ⟨hb,_⟩;cases hb) ?_;rintro av h' ⟨_,rfl,rfl⟩;refine Wv.W1 @bW ?_;exact hL
 rw [h1,h2,Bool.true_and,Bool.true_and] at hL;refine Wv.W2 h1 h2 ?_;refine aC (fst:=[]) (cap:=[]) hC ?_;rintro av h' ⟨rfl,rfl⟩;refine Wv.W ?_;refine aJ (fst:=[]) (cap:=[]) (bD _ 233) ?_ ?_
 ·rintro av h' ⟨hb,rfl,rfl⟩;refine Wv.W ?_;exact hL.trans hb
 ·rintro av h' ⟨hb,rfl,rfl⟩;refine Wv.W1 @bW ?_;exact hL.trans hb
theorem vk {h:Hp} (e:Int):HTP Tryz.prog 66 [.v (.bool true), .v (.int .i64 e)] h (fun r h'=>r= .tup []∧h'=h) (fun _ _=>False):=
 (bD true e).mono (fun _ _ q=>q.2) (fun _ _ q=>by cases q.1)
theorem tK {h:Hp} (e:Int) (res:AV):HTP Tryz.prog 66 [.v (.bool false), .v (.int .i64 e)] h (fun r h'=>r=res∧h'=h) (fun r h'=>r=lC e∧h'=h):=
 (bD false e).mono (fun _ _ q=>by cases q.1) (fun _ _ q=>q.2)
theorem zO (x:Par) (t:Int) (ns:Nms) (nl:Nat) (li:Nat→Int) (least most:Int) (hn:nl≤140737488351232) (hin: ∀ i,i<nl→inB (li i)=true) (ht:1≤t) (ht':t≤4611686018427387904) (hb:jL t nl li least most=true) (r:Hp):
  HTP Tryz.prog 213 [.ptr 0 0, .t nl 1 (tab nl fun i=> .v (.int .i64 (li i))), .v (.int .i64 least), .v (.int .i64 most)] (some (.blk (tyC x t))::some (.map (nsE ns))::r) (fun q h'=>q= .tup []∧h'=some (.blk (tyC x t))::some (.map (nsE ns))::r) (fun _ _=>False):=
 (RD.hT (DT x t ns nl li least most hn hin ht ht') r Wv.c (by rintro r ⟨_,rfl⟩;simp only [Wv.BC]) (by rintro r ⟨_,rfl⟩;exact iC 233)).mono (fun _ _ q=>⟨q.1.2,q.2⟩) (fun _ _ q=>by rw [hb] at q;cases q.1.1)
theorem DU (x:Par) (t:Int) (ns:Nms) (nl:Nat) (li:Nat→Int) (least most:Int) (hn:nl≤140737488351232) (hin: ∀ i,i<nl→inB (li i)=true) (ht:1≤t) (ht':t≤4611686018427387904) (hb:jL t nl li least most=false) (res:AV) (r:Hp):
  HTP Tryz.prog 213 [.ptr 0 0, .t nl 1 (tab nl fun i=> .v (.int .i64 (li i))), .v (.int .i64 least), .v (.int .i64 most)] (some (.blk (tyC x t))::some (.map (nsE ns))::r) (fun q h'=>q=res∧h'=some (.blk (tyC x t))::some (.map (nsE ns))::r) (fun q h'=>q=lC 233∧h'=some (.blk (tyC x t))::some (.map (nsE ns))::r):=
 (RD.hT (DT x t ns nl li least most hn hin ht ht') r Wv.c (by rintro r ⟨_,rfl⟩;simp only [Wv.BC]) (by rintro r ⟨_,rfl⟩;exact iC 233)).mono (fun _ _ q=>by rw [hb] at q;cases q.1.1) (fun _ _ q=>⟨q.1.2,q.2⟩)
theorem IE (x:Par) (t:Int) (ns:Nms) (k:Int) (s:ByteArray) (n:Int) (nl:Nat) (li:Nat→Int) (na:Nat) (ar:Nat→Ex) (unk:Nat) (hn:nl≤140737488351232) (hin: ∀ i,i<nl→inB (li i)=true) (ht:1≤t) (ht':t≤4611686018427387904):
  je x t ns 165 (.mk k s n nl li na ar) unk (if jL t nl li 0 x.n=true then .ok 0 else .error 233):=by
 refine je.of ?_;have hY:=zO x t ns nl li 0 x.n hn hin ht ht';have hZ:=DU x t ns nl li 0 x.n hn hin ht ht';generalize jL t nl li 0 x.n=b at*;rw [cO];have hM:=dB (n:=na) (f:=fun i=>exC (ar i)) fun i _=>eU (ar i)
 generalize dH na (fun i=>exC (ar i))=M at*;unfold hT tyC at*;obtain ⟨c,hc⟩: ∃ c:Nat,c=if b=true then 0 else 1:=⟨_,rfl⟩
 refine Wv.HTP.by 16 [1,0,4,6] [(1,9),(1000000,2),(4000001,c)] [.tmp 6] Tryz.func165 rfl rfl rfl ?base ?_
 case base=>rfl
 cases b with
 | false=>
  have hc1:c=1:=hc;refine Wv.W ?_;refine dn (fst:=[]) (cap:=[]) (hZ rfl (.t 1 1 []) _) ?_ ?_
  ·refine Wv.W1 hc1 ?_;exact ⟨8,_,_,rfl,rfl,rfl,rfl,rfl⟩
  ·rintro av h' ⟨rfl,rfl⟩;refine Wv.W1 @bW ?_;exact ⟨233,rfl,rfl⟩
 | true=>
  have hc1:c=0:=hc;refine Wv.W ?_;refine dn (fst:=[]) (cap:=[]) (hY rfl _) ?_ (fun _ _ q=>q.elim);refine Wv.W1 hc1 ?_;exact ⟨0,rfl,rfl⟩
def UM (n:Int):Bool:=!decide (n=0) && !decide (n=1)
theorem UN (n:Int):TC Tryz.prog 214 [.v (.int .i64 n)] (.v (.bool (UM n))):=by
 refine Wv.TC.by 9 [0,2] [] [.tmp 2] Tryz.func214 rfl rfl rfl ?clo ?_
 case clo=>simp only [Wv.BC]
 unfold UM;cases h1:decide (n=0)
 ·exact Wv.V1 h1
 ·exact Wv.V1 h1
def Lj (x:Par) (n:Int):Bool:=decide (0≤n) && decide (n<x.n / 2)
theorem UO (x : Par) (t : Int) (ns : Nms) (k : Int) (s : ByteArray) (n : Int) (nl : Nat) (li : Nat → Int) (na : Nat) (ar : Nat → Ex) (unk : Nat) (hN : 0 ≤ x.n) (hN' : x.n ≤ 4611686018427387904) :
    je x t ns 167 (.mk k s n nl li na ar) unk (if Lj x n = true then .ok 0 else .error 233) := by
  refine je.of ?_;have hb : Lj x n = (decide (0 ≤ n) && decide (n < x.n / 2)) := rfl;generalize Lj x n = b at *;rw [cO];have hM := dB (n := na) (f := fun i => exC (ar i)) fun i _ => eU (ar i)
  generalize dH na (fun i => exC (ar i)) = M at *;unfold hT tyC at *;obtain ⟨c, hc⟩ : ∃ c : Nat, c = if b = true then 0 else 1 := ⟨_, rfl⟩
  refine Wv.HTP.by 22 [1, 4, 0, 6] [(1, 15), (1000000, 2), (4000001, c)] [.tmp 6] Tryz.func167 rfl rfl rfl ?base ?_
  case base => rfl
  have hq : x.n.tdiv 2 = x.n / 2 := Int.tdiv_eq_ediv_of_nonneg hN;cases h1 : decide (0 ≤ n) <;> cases h2 : decide (n < x.n / 2);all_goals
    rw [h1, h2] at hb;refine Wv.W3 hq h1 h2 ?_;first
    | (have hbt : b = true := hb
       subst hbt;have hc1 : c = 0 := hc;refine dn (fst := []) (cap := []) (vk 233) ?_ (fun _ _ q => q.elim);refine Wv.W1 hc1 ?_;exact ⟨0, rfl, rfl⟩)
    | (have hbt : b = false := hb
       subst hbt;have hc1 : c = 1 := hc;refine dn (fst := []) (cap := []) (tK 233 (.t 1 1 [])) ?_ ?_
       · simp (disch:=first|exact Wv.D|fail) only [Wv.B, simprocAttr, hc1]
         exact ⟨14, _, _, rfl, rfl, rfl, rfl, rfl⟩
       · rintro av h' ⟨rfl, rfl⟩
         refine Wv.W1 @bW ?_;exact ⟨233, rfl, rfl⟩)
def amf (nl:Nat) (li:Nat→Int):Bool:=!aG nl fun i=>UM (li i)
def F6 (x:Par) (nl:Nat) (li:Nat→Int):Bool:=decide ((nl:Int)≤x.n) && amf nl li
theorem OJ (x:Par) (t:Int) (ns:Nms) (k:Int) (s:ByteArray) (n:Int) (nl:Nat) (li:Nat→Int) (na:Nat) (ar:Nat→Ex) (unk:Nat) (hn:nl≤140737488351232):
  je x t ns 168 (.mk k s n nl li na ar) unk (if F6 x nl li=true then .ok 0 else .error 233):=by
 refine je.of ?_;have hb:F6 x nl li=(decide ((nl:Int)≤x.n) && !aG nl fun i=>UM (li i)):=rfl;have hC:=fun h=>(yw (h:=h) nl li (fun i=>UM (li i)) 214 [] [] hn (fun i hi=>HT.Qq (UN (li i)) rfl Wv.c Wv.c)).toP (fun _ _=>False)
 generalize F6 x nl li=b at*;generalize (aG nl fun i=>UM (li i))=b2 at*;rw [cO];have hM:=dB (n:=na) (f:=fun i=>exC (ar i)) fun i _=>eU (ar i)
 generalize dH na (fun i=>exC (ar i))=M at*;unfold hT tyC at*;obtain ⟨c,hc⟩: ∃ c:Nat,c=if b=true then 0 else 1:=⟨_,rfl⟩
 refine Wv.HTP.by 25 [1,4,0,7,6] [(2,17),(1000000,2),(4000002,c)] [.tmp 6] Tryz.func168 rfl rfl rfl ?base ?_
 case base=>rfl
 cases h1:decide ((nl:Int)≤x.n)
 ·rw [h1] at hb;have hbt:b=false:=hb;subst hbt;have hc1:c=1:=hc;refine Wv.W1 h1 ?_;refine dn (fst:=[]) (cap:=[]) (tK 233 (.t 1 1 [])) ?_ ?_
  ·refine Wv.W1 hc1 ?_;exact ⟨16,_,_,rfl,rfl,rfl,rfl,rfl⟩
  ·rintro av h' ⟨rfl,rfl⟩;refine Wv.W1 @bW ?_;exact ⟨233,rfl,rfl⟩
 ·rw [h1] at hb;refine Wv.W1 h1 ?_;refine dn (fst:=[]) (cap:=[]) (hC _) ?_ (fun _ _ q=>q.elim);cases b2 with
  | false=>
   have hbt:b=true:=hb;subst hbt;have hc1:c=0:=hc;refine Wv.W ?_;refine dn (fst:=[]) (cap:=[]) (vk 233) ?_ (fun _ _ q=>q.elim);refine Wv.W1 hc1 ?_;exact ⟨0,rfl,rfl⟩
  | true=>
   have hbt:b=false:=hb;subst hbt;have hc1:c=1:=hc;refine Wv.W ?_;refine dn (fst:=[]) (cap:=[]) (tK 233 (.t 1 1 [])) ?_ ?_
   ·refine Wv.W1 hc1 ?_;exact ⟨16,_,_,rfl,rfl,rfl,rfl,rfl⟩
   ·rintro av h' ⟨rfl,rfl⟩;refine Wv.W1 @bW ?_;exact ⟨233,rfl,rfl⟩
theorem Ll (x:Par) (t:Int) (ns:Nms) (k:Int) (s:ByteArray) (n:Int) (nl:Nat) (li:Nat→Int) (na:Nat) (ar:Nat→Ex) (unk:Nat) (ht:1≤t) (ht':t≤4611686018427387904):
  je x t ns 172 (.mk k s n nl li na ar) unk (if x.r=1 then .ok (dO (t - 1)) else .error 231):=by
 refine je.of ?_;rw [cO];have hM:=dB (n:=na) (f:=fun i=>exC (ar i)) fun i _=>eU (ar i)
 generalize dH na (fun i=>exC (ar i))=M at*;unfold hT tyC at*;have T:=tH (t - 1) (by omega);generalize dO (t - 1)=st at*;refine Wv.HTP.by 20 [1,0,6] [(1000000,2)] [.tmp 6] Tryz.func172 rfl rfl rfl ?base ?_
 case base=>rfl
 by_cases hr:x.r=1
 ·refine Wv.W1 (ah hr) ?_;refine aJ (fst:=[]) (cap:=[]) (bD _ 231) ?_ (by rintro av h' ⟨hb,_⟩;simp [hr] at hb);rintro av h' ⟨_,rfl,rfl⟩;refine Wv.W ?_;refine ak T rfl Wv.c Wv.c ?_;simp (disch:=first|exact Wv.D|fail) only [Wv.B,simprocAttr,if_pos hr];exact ⟨_,rfl,rfl⟩
 ·refine Wv.W1 (aj hr) ?_;refine aJ (fst:=[]) (cap:=[]) (bD _ 231) (by rintro av h' ⟨hb,_⟩;simp [hr] at hb) ?_;rintro av h' ⟨_,rfl,rfl⟩;simp (disch:=first|exact Wv.D|fail) only [Wv.B,simprocAttr,bW,if_neg hr];exact ⟨_,rfl,rfl⟩
end
end Go.Proofs.YtljfgdlgmdcmfaaGreat
namespace Go.Proofs.YtljfgdlgmdcmfaaGreat.Wv
section
open Go.RowKit
abbrev Rnd (l:Nat):Fence:=Fence.wide.inRound l
def noD (o:Oper):Bool:=match o.op with
 | .defer _=>false
 | _=>true
def inB:Code→Bool
 | .region _ ops _=>ops.toList.all noD
 | .seq a b=>inB a && inB b
 | .cond _ a b=>inB a && inB b
 | .block _ b=>inB b
 | .loop b=>inB b
 | .scope _=>false
 | .rangeFunc .. =>false
 | _=>true
theorem Y8 {o:Oper} (h:noD o=true): ∀ c,o.op≠ .defer c:=fun c e=>by unfold noD at h;rw [e] at h;cases h
theorem afN {P : Program} {o : Oper} {a : Act} {w : World} {next : Act → World → Prop} {Q : Exit → Act → World → Prop} {l n : Nat} (hd : ∀ c, o.op ≠ .defer c) (h : o.wp P a w next Q) : o.wpIn (Rnd l) n P a w next Q := by
  refine ⟨fun _ _ => trivial, ?_⟩;rw [Oper.semAt_eq _ _ _ hd];unfold Oper.wp at h;revert h;cases (execOp a.eval o).run P w with
  | ok x w' =>
    cases x <;> simp only [Oper.upon, Oper.uponIn] <;> intro h <;> first
      | exact h
      | exact h.elim
      | exact And.intro (fun e => by cases e) ((((callsIn_wide (n := n - 1)).2 h).inRound l).mono (fun e w'' q => by cases e <;> exact q))
      | (refine And.intro (fun e => by cases e) (fun c cs _ => ?_)
         obtain ⟨v, w', r, s⟩ := h c cs;exact ⟨v, w', r, stepsIn_wide.2 s⟩)
  | halt x w' => cases x <;> simp only [Oper.upon, Oper.uponIn] <;> intro h <;> first | exact h | exact h.elim
theorem IG {P:Program} {ops:Array Oper} {Q:Exit→Act→World→Prop} {r n:Nat} (hd:ops.toList.all noD=true) (hQ: ¬ LetsOut Q): ∀ (l:List Nat) (a:Act) (w:World),wpOps P ops Q l a w→wpOpsIn (Rnd r) n P ops Q l a w
 | [],a,w,h=>h
 | i::l,a,w,h=>by
  rw [wpOps_cons] at h;rw [wpOpsIn_cons];unfold wpOp at h;unfold wpOpIn;split at h
  ·next ho=>simp only [ho];exact IG hd hQ l a w h
  ·next o ho=>
   simp only [ho];split at h
   ·next hw=>
    rw [if_pos hw];rcases h with h | h
    ·refine afN (Y8 (List.all_eq_true.1 hd o (List.mem_of_getElem? (i:=i) (by rw [Array.getElem?_toList];exact ho)))) ?_;exact Oper.wp_mono (fun a w q=>IG hd hQ l a w q) h
    ·exact absurd h.2 hQ
   ·next hw=>rw [if_neg hw];exact ⟨fun _ _=>trivial,IG hd hQ l _ w h⟩
theorem II {P:Program} {ops:Array Oper} {Q:Exit→Act→World→Prop} {r n:Nat} (hd:ops.toList.all noD=true) (hQ: ¬ LetsOut Q): ∀ (f:Nat) (listed:Array Bool) (a:Act) (w:World),wpAny P .any ops Q f listed a w→wpAnyIn (Rnd r) n P .any ops Q f listed a w
 | 0,listed,a,w,h=>h
 | f+1,listed,a,w,h=>by
  refine ⟨h.1,fun i hi=>?_⟩;have h:=h.2 i hi;unfold wpOp at h;unfold wpOpIn;split at h
  ·next ho=>simp only [ho];exact II hd hQ f _ a w h
  ·next o ho=>
   simp only [ho];split at h
   ·next hw=>
    rw [if_pos hw];rcases h with h | h
    ·refine afN (Y8 (List.all_eq_true.1 hd o (List.mem_of_getElem? (i:=i) (by rw [Array.getElem?_toList];exact ho)))) ?_;exact Oper.wp_mono (fun a w q=>II hd hQ f _ a w q) h
    ·exact absurd h.2 hQ
   ·next hw=>rw [if_neg hw];exact ⟨fun _ _=>trivial,II hd hQ f _ _ w h⟩
theorem least {p:Nat→Prop} (h: ∃ n,p n): ∃ n,p n∧ ∀ m,m<n→ ¬ p m:=by
 obtain ⟨n,hn⟩:=h;induction n using Nat.strongRecOn with
 | _ n ih=>
  by_cases hq: ∃ m,m<n∧p m
  ·obtain ⟨m,h1,h2⟩:=hq;exact ih m h1 h2
  ·exact ⟨n,hn,fun m hm hp=>hq ⟨m,hm,hp⟩⟩
theorem DV {F:Fence} {n:Nat} {P:Program} {Q:Exit→Act→World→Prop} {a:Act} {w:World} {c:Code} (J:Nat→Act→World→Prop) (m:Nat) (h0:J m a w)
  (hr: ∀ m a w,J m a w→c.wpIn F n P (Exit.then (fun a' w'=> ∃ m',m'<m∧J m' a' w') Q) a w):(Code.loop c).wpIn F n P Q a w:=by
 classical
 obtain ⟨μ,hμ⟩: ∃ μ :Act→World→Nat, ∀ a w,(∃ m,J m a w)→J (μ a w) a w∧ ∀ m,m< μ a w→ ¬ J m a w:=
  ⟨fun a w=>if h: ∃ m,J m a w then Classical.choose (least h) else 0,fun a w h=>by simp only [dif_pos h];exact Classical.choose_spec (least h)⟩
 refine wpIn_loop (fun a w=> ∃ m,J m a w) μ ⟨m,h0⟩ fun a w hI=>?_
 refine wpIn_mono (hr _ a w (hμ a w hI).1) fun e a' w' q=>?_
 cases e with
 | normal=>
  obtain ⟨m',h1,h2⟩:=q;refine ⟨⟨m',h2⟩,?_⟩;apply Nat.lt_of_not_le;intro hle;exact (hμ a' w' ⟨m',h2⟩).2 m' (by omega) h2
 | _=>exact q
theorem F7 {n0:Nat} {X:Cx} {N:Nat} {Q:dw}: ¬ LetsOut (aQ n0 X N Q):=fun ⟨_,_,h⟩=>h
theorem qg {P:Program} (bU:P.follows .mixedOrders=true) {N:Nat} {L:List Nat} {ks:List (Nat × Nat)} {r n:Nat} (hes: ∀ id,kOf ks id≠1000000): ∀ (c:Code) (Q:dw) (X:Cx) (e:Ev) (a:Act),dJ N ks c=true→inB c=true→base ks≤X.h.length→Ok X→aN X N e a→bK P N L ks c Q e X.h→c.wpIn (Rnd r) n P (aQ (base ks) X N Q) a X.w
 | .skip,Q,X,e,a,_,_,hn,hX,hE,h=>wpIn_skip ((aQ.intro ((Step.refl X).toN hn) hX hE).1 h)
 | .ret,Q,X,e,a,_,_,hn,hX,hE,h=>wpIn_ret ((aQ.intro ((Step.refl X).toN hn) hX hE).2.2 h)
 | .exit id,Q,X,e,a,_,_,hn,hX,hE,h=>wpIn_exit ((aQ.intro ((Step.refl X).toN hn) hX hE).2.1 id h)
 | .label l,Q,X,e,a,_,_,hn,hX,hE,h=>wpIn_label ((aQ.intro ((Step.refl X).toN hn) hX hE).1 h)
 | .scope b,Q,X,e,a,hk,hi,hn,hX,hE,h=>by cases hi
 | .rangeFunc f ps ag b,Q,X,e,a,hk,hi,hn,hX,hE,h=>by cases hi
 | .region id ops false,Q,X,e,a,hk,hi,hn,hX,hE,h=>by
  refine wpIn_region (IG hi F7 _ _ _ ?_);have:=Aq (P:=P) (Q:=aQ (base ks) X N Q) (ops:=ops) (e1:=ji ops.toList e) (fun o ho=>mG ho e) hk ops.toList 0 X e a _ (fun i=>by rw [List.drop_zero]) hX hE (hE.del _) h
   (fun Y av v a' S hY hEY hr hp=>⟨v,av,Y,_,rfl,rfl,S.toN hn,hY,hEY,hr,hp⟩) (fun Y e' a' S hY hEY hq=>(aQ.intro (S.toN hn) hY (hEY.keep L)).1 hq)
  rw [Array.length_toList, ←List.range_eq_range'] at this;exact this
 | .region id ops true,Q,X,e,a,hk,hi,hn,hX,hE,h=>by
  refine wpIn_region_any bU (II hi F7 _ _ _ _ ?_);have h':qy (kOf ks id) (Ih P N ks id ops Q e X.h) _:=h;unfold qy at h';rw [if_neg (hes id)] at h';have hk':nK N (kOf ks id) ops=true:=by
   have h0:(nK N (kOf ks id) ops || decide (kOf ks id=1000000))=true:=hk;rw [aj (hes id),Bool.or_false] at h0;exact h0
  exact KA (id:=id) bU _ _ hk' hX hE h' (fun Y av v a' S hY hEY hr hp=>⟨v,av,Y,_,rfl,rfl,S.toN hn,hY,hEY,hr,hp⟩) fun Y e' a' S hY hEY hq=>(aQ.intro (S.toN hn) hY (hEY.keep L)).1 hq
 | .seq x y,Q,X,e,a,hk,hi,hn,hX,hE,h=>by
  simp only [dJ,Bool.and_eq_true] at hk;simp only [inB,Bool.and_eq_true] at hi;refine wpIn_seq (wpIn_mono (qg bU hes x _ X e a hk.1 hi.1 hn hX hE h) ?_);intro ex a' w' hp;have:=hp.elim;cases this with
  | ok z ex Y e' a' S hY hEY hq hx=>
   rcases hx with ⟨rfl,rfl⟩ | ⟨i,rfl,rfl⟩ | ⟨rfl,rfl⟩ | ⟨v,av,rfl,rfl,hr⟩
   ·exact wpIn_mono (qg bU hes y Q Y e' a' hk.2 hi.2 S.len hY hEY hq) fun ex a2 w2 hp2=>hp2.map hX S fun _ _ _ q=>q
   ·exact (aQ.intro S hY hEY).2.1 i hq
   ·exact (aQ.intro S hY hEY).2.2 hq
   ·exact ⟨v,av,Y,e',rfl,rfl,S,hY,hEY,hr,hq⟩
 | .cond c x y,Q,X,e,a,hk,hi,hn,hX,hE,h=>by
  simp only [dJ,Bool.and_eq_true] at hk;simp only [inB,Bool.and_eq_true] at hi;obtain ⟨t,ht,h⟩:=h;have hr:=hE.dK c;rw [ht] at hr;have hv:a.eval c= .bool t:=by cases h1:a.eval c<;>rw [h1] at hr<;>cases hr;rfl
  refine wpIn_cond hv ?_;cases t
  ·exact qg bU hes y Q X e a hk.2 hi.2 hn hX hE (by simpa using h)
  ·exact qg bU hes x Q X e a hk.1 hi.1 hn hX hE (by simpa using h)
 | .block id b,Q,X,e,a,hk,hi,hn,hX,hE,h=>by
  refine wpIn_block (wpIn_mono (qg bU hes b _ X e a hk hi hn hX hE h) ?_);intro ex a' w' hp;have:=hp.elim;cases this with
  | ok z ex Y e' a' S hY hEY hq hx=>
   rcases hx with ⟨rfl,rfl⟩ | ⟨i,rfl,rfl⟩ | ⟨rfl,rfl⟩ | ⟨v,av,rfl,rfl,hr⟩
   ·exact (aQ.intro S hY hEY).1 hq
   ·simp only at hq;show (if i=id then aQ (base ks) X N Q .normal a' Y.w else aQ (base ks) X N Q (.exit i) a' Y.w);split at hq
    ·next ei=>rw [if_pos ei];exact (aQ.intro S hY hEY).1 hq
    ·next ei=>rw [if_neg ei];exact (aQ.intro S hY hEY).2.1 i hq
   ·exact (aQ.intro S hY hEY).2.2 hq
   ·exact ⟨v,av,Y,e',rfl,rfl,S,hY,hEY,hr,hq⟩
 | .loop b,Q,X,e,a,hk,hi,hn,hX,hE,h=>by
  obtain ⟨I,n₀,e₀,h₀,hent,hI,CZ⟩:=h;obtain ⟨Y₀,y1,y2,y3,y4,y5⟩:=hent X a rfl hn hX hE;rw [←y1];refine DV (fun n a' w'=> ∃ Y e',Y.w=w'∧aS (base ks) X Y∧Ok Y∧aN Y N e' a'∧I n e' Y.h) n₀ ⟨Y₀,e₀,rfl,y3,y4,y5,by rw [y2];exact hI⟩ ?_;rintro n a' w' ⟨Y,e',rfl,S,hY,hEY,hIY⟩;refine wpIn_mono (qg bU hes b _ Y e' a' hk hi S.len hY hEY (CZ n e' Y.h hIY)) ?_;intro ex a2 w2 hp;have:=hp.elim;cases this with
  | ok z ex Z e2 a2 S2 hZ hEZ hq hx=>
   rcases hx with ⟨rfl,rfl⟩ | ⟨i,rfl,rfl⟩ | ⟨rfl,rfl⟩ | ⟨v,av,rfl,rfl,hr⟩
   ·obtain ⟨n',e₁,h₁,KD,hlt,hI2⟩:=hq;obtain ⟨V,v1,v2,v3,v4,v5⟩:=KD Z a2 rfl S2.len hZ hEZ;exact ⟨n',hlt,V,e₁,v1,(S.trans hX S2).trans hX v3,v4,v5,by rw [v2];exact hI2⟩
   ·exact (aQ.intro (S.trans hX S2) hZ hEZ).2.1 i hq
   ·exact (aQ.intro (S.trans hX S2) hZ hEZ).2.2 hq
   ·exact ⟨v,av,Z,e2,rfl,rfl,S.trans hX S2,hZ,hEZ,hr,hq⟩
 | .goto _,_,_,_,_,_,_,_,_,_,h=>h.elim
 | .refuse _,_,_,_,_,_,_,_,_,_,h=>h.elim
end
section
open Go.RowKit
inductive nt:AV→Prop
 | clo {a:AV} (h:Clo a):nt a
 | own {id n:Nat}:nt (.own id n)
 | ptr {id n:Nat}:nt (.ptr id n)
 | ap {id n o:Nat}:nt (.ap id n o)
 | mp {id:Nat}:nt (.mp id)
 | g {l:List AV} (h: ∀ (a:AV),a∈l→nt a):nt (.g l)
 | tup {l:List AV} (h: ∀ (a:AV),a∈l→nt a):nt (.tup l)
 | fn {f:Fn} {l1 l2:List AV} (h1: ∀ (a:AV),a∈l1→nt a) (h2: ∀ (a:AV),a∈l2→nt a):nt (.fn f l1 l2)
 | ifc {T:TypeId} {a:AV} (h:nt a):nt (.ifc T a)
def ntL (l:List AV):Prop:= ∀ (a:AV),a∈l→nt a
def ntH (m:Nat):Nat→Hp→Prop
 | _,[]=>True
 | k,none::r=>ntH m (k+1) r
 | k,some (.blk c)::r=>ntL c∧ntH m (k+1) r
 | k,some (.arr _ _ c _)::r=>ntL c∧ntH m (k+1) r
 | k,some (.map es)::r=>k<m∧ntL (es.map (·.2))∧ntH m (k+1) r
theorem tN {m:Nat}: ∀ {h:Hp} {k:Nat} (hn:ntH m k h) (i:Nat),(∀ c,h[i]? =some (some (.blk c))→ntL c)∧(∀ T s c fz,h[i]? =some (some (.arr T s c fz))→ntL c)∧(∀ es,h[i]? =some (some (.map es))→k+i<m∧ntL (es.map (·.2)))
 | [],k,_,i=>⟨fun c h=>by simp at h,fun T s c fz h=>by simp at h,fun es h=>by simp at h⟩
 | o::r,k,hn,0=>by
  refine ⟨fun c h=>?_,fun T s c fz h=>?_,fun es h=>?_⟩<;>simp at h<;>subst h
  ·exact hn.1
  ·exact hn.1
  ·exact ⟨hn.1,hn.2.1⟩
 | o::r,k,hn,i+1=>by
  have hr:ntH m (k+1) r:=by
   cases o with
   | none=>exact hn
   | some o=>cases o with
    | blk c=>exact hn.2
    | arr T s c fz=>exact hn.2
    | map es=>exact hn.2.2
  have ih:=tN hr i;refine ⟨fun c h=>ih.1 c (by simpa using h),fun T s c fz h=>ih.2.1 T s c fz (by simpa using h),fun es h=>?_⟩;have:=ih.2.2 es (by simpa using h);exact ⟨by omega,this.2⟩
section
variable {X:Cx} {W':World} {row:Option Nat}
theorem cell_far (hg:X.w.grownBy W' row) (hr: ∀ r,row=some r→ ∃ o:Obj,X.w.heap[r]? =some o∧o.isCells=false) {b off:Nat} {x:Value} (hx:cellAt X.w b off=some x):cellAt W' b off=some x:=by
 have hb:=eH hx;have hne:some b≠row:=fun e=>by
  obtain ⟨o,h1,h2⟩:=hr b e.symm;unfold cellAt World.cell? at hx;simp only [h1] at hx;cases o<;>first | (cases h2;done) | simp at hx
 unfold cellAt World.cell? at hx ⊢;rw [hg.block b hb hne];exact hx
theorem Rep.far (hg:X.w.grownBy W' row) (hr: ∀ r,row=some r→ ∃ o:Obj,X.w.heap[r]? =some o∧o.isCells=false) {a:AV} {x:Value} (h:Rep X a x) (hn:nt a):Rep ⟨W',X.m,X.h,X.bad,X.ds⟩ a x:=by
 have K: ∀ b o u,cellAt X.w b o=some u→ ¬ X.bad b o→cellAt W' b o=some u∧ ¬ X.bad b o:=fun b o u h1 h2=>⟨cell_far hg hr h1,h2⟩
 induction h with
 | v x=>exact .v x
 | none x=>exact .none x
 | t hl hc hn' hcap hp hr' ih=>cases hn with | clo h=>exact Rep.clo (Y:=⟨W',X.m,X.h,X.bad,X.ds⟩) (.t hl hc hn' hcap hp hr') h K
 | g hc hr' ih=>
  cases hn with
  | clo h=>exact Rep.clo (Y:=⟨W',X.m,X.h,X.bad,X.ds⟩) (.g hc hr') h K
  | g h=>exact .g hc fun i a x h1 h2=>ih i a x h1 h2 (h a (List.mem_of_getElem? h1))
 | tup hc hr' ih=>
  cases hn with
  | clo h=>exact Rep.clo (Y:=⟨W',X.m,X.h,X.bad,X.ds⟩) (.tup hc hr') h K
  | tup h=>exact .tup hc fun i a x h1 h2=>ih i a x h1 h2 (h a (List.mem_of_getElem? h1))
 | tp hc hp hr' ih=>cases hn with | clo h=>exact Rep.clo (Y:=⟨W',X.m,X.h,X.bad,X.ds⟩) (.tp hc hp hr') h K
 | fn h1 h2 r1 r2 ih1 ih2=>
  cases hn with
  | clo h=>exact Rep.clo (Y:=⟨W',X.m,X.h,X.bad,X.ds⟩) (.fn h1 h2 r1 r2) h K
  | fn q1 q2=>exact .fn h1 h2 (fun i a x g1 g2=>ih1 i a x g1 g2 (q1 a (List.mem_of_getElem? g1))) (fun i a x g1 g2=>ih2 i a x g1 g2 (q2 a (List.mem_of_getElem? g1)))
 | ifc h ih=>
  cases hn with
  | clo h'=>exact Rep.clo (Y:=⟨W',X.m,X.h,X.bad,X.ds⟩) (.ifc h) h' K
  | ifc h'=>exact .ifc (ih h')
 | e0 b=>exact .e0 b
 | own hid h=>exact .own hid h
 | ptr hid h=>exact .ptr hid h
 | ap hid h=>exact .ap hid h
 | mp hid h=>exact .mp hid h
 | tm hb hm hl hk hr' ih=>cases hn with | clo h=>cases h
theorem Ok.far (hX:Ok X) (hg:X.w.grownBy W' row) (hr: ∀ r,row=some r→ ∃ o:Obj,X.w.heap[r]? =some o∧o.isCells=false) {m:Nat} (hn:ntH m 0 X.h) (hm: ∀ id es,X.h[id]? =some (some (.map es))→ ∀ b,(X.m id).1=some b→some b≠row):Ok ⟨W',X.m,X.h,X.bad,X.ds⟩:=by
 have other: ∀ {b:Nat} {cvs:Array Value} {T:TypeId} {fr:Nat × Nat},X.w.heap[b]? =some (.cells cvs T fr)→W'.heap[b]? =some (.cells cvs T fr):=fun {b cvs T fr} h1=>by
  rw [hg.block b (Array.getElem?_eq_some_iff.1 h1).1 (fun e=>by obtain ⟨o,h2,h3⟩:=hr b e.symm;rw [h1] at h2;injection h2 with h2;subst h2;cases h3)];exact h1
 refine ⟨fun id cells hh=>?_,fun id T size cells fz hh=>?_,fun i j b hi hj=>hX.inj i j b hi hj,fun b o hb=>Nat.lt_of_lt_of_le (hX.eX b o hb) hg.size,fun id es hh=>?_⟩
 ·obtain ⟨b,cvs,T,h1,h2,h3,h4,h5⟩:=hX.blk id cells hh;exact ⟨b,cvs,T,h1,other h2,h3,h4,fun i a x g1 g2=>(h5 i a x g1 g2).far hg hr ((tN hn id).1 cells hh a (List.mem_of_getElem? g1))⟩
 ·obtain ⟨g1,g2,n,g3,g4⟩:=hX.arr id T size cells fz hh;refine ⟨g1,g2,n,g3,?_⟩;rcases g4 with g4 | ⟨b,cvs,g4⟩
  ·exact .inl g4
  ·exact .inr ⟨b,cvs,⟨g4.at_,other g4.blk,g4.cap,g4.iU,g4.sz,g4.bad,fun i a x q1 q2=>(g4.rep i a x q1 q2).far hg hr ((tN hn id).2.1 T size cells fz hh a (List.mem_of_getElem? q1)),g4.good⟩⟩
 ·obtain ⟨b,ents,clock,h1,h2,h3,h4⟩:=hX.map id es hh;refine ⟨b,ents,clock,h1,?_,h3,fun i p e q1 q2=>⟨(h4 i p e q1 q2).1,(h4 i p e q1 q2).2.far hg hr (((tN hn id).2.2 es hh).2 p.2 (List.mem_map.2 ⟨p,List.mem_of_getElem? q1,rfl⟩))⟩⟩;show W'.heap[b]? =_;rw [hg.block b (Array.getElem?_eq_some_iff.1 h2).1 (hm id es hh b h1)];exact h2
end
variable {X:Cx}
theorem aS.less {m n:Nat} {Y:Cx} (S:aS m X Y) (h:n≤m):aS n X Y:=
 ⟨S.os,S.tape,S.output,S.size,S.block,S.keep,Nat.le_trans h S.len,fun i T s c f hi=>S.nV i T s c f (Nat.lt_of_lt_of_le hi h),fun i c hi=>S.l7 i c (Nat.lt_of_lt_of_le hi h),S.own,S.nX,fun i es hi=>S.omap i es (Nat.lt_of_lt_of_le hi h),S.dse⟩
def RI (X:Cx) (H:Hp→Prop) (W:World):Prop:= ∃ Y,Y.w=W∧aS X.h.length (X.def_ []) Y∧Ok Y∧H Y.h
theorem RI.own {α:Type}  (hX:Ok X) {H:α→Hp→Prop} (hn: ∀ s h,H s h→ntH X.h.length 0 h):OwnFrom X.w.heap.size (fun s W=>RI X (H s) W):=by
 rintro s W W' row ⟨Y,rfl,S,hY,hH⟩ hg hr;have hr2: ∀ r,row=some r→ ∃ o:Obj,Y.w.heap[r]? =some o∧o.isCells=false:=fun r e=>(hr r e).2
 have hnt:=hn s _ hH;refine ⟨⟨W',Y.m,Y.h,Y.bad,Y.ds⟩,rfl,?_,?_,hH⟩
 ·refine ⟨hg.os.trans S.os,hg.tape.trans S.tape,hg.output.trans S.output,Nat.le_trans S.size hg.size,fun b hb hm=>?_,fun b o x hx hb=>⟨cell_far hg hr2 (S.keep b o x hx hb).1,(S.keep b o x hx hb).2⟩,S.len,S.nV,S.l7,S.own,S.nX,S.omap,S.dse⟩;show W'.heap[b]? =_;rw [hg.block b (Nat.lt_of_lt_of_le hb S.size) (fun e=>by have:=(hr b e.symm).1;exact absurd hb (Nat.not_lt_of_le this))];exact S.block b hb hm
 ·refine Ok.far hY hg hr2 hnt fun id es hh b hb e=>?_
  have hid:=((tN hnt id).2.2 es hh).1;rw [Nat.zero_add] at hid;obtain ⟨es',h1,h2⟩:=S.omap id es hid hh;rw [h2] at hb;have hlt:b<X.w.heap.size:=(hX.def_ (d:=[])).lt ⟨id,⟨_,h1⟩,hb⟩;have:=(hr b e.symm).1;omega
def KpI (X:Cx) (ids:List Nat) (W W':World):Prop:= ∀ i,i∈ids→ ∀ b,(X.m i).1=some b→ ∀ o,W'.cell? ⟨b,o,none⟩=W.cell? ⟨b,o,none⟩
theorem F8 (hX:Ok X) {i b:Nat} {l:List Value} (h:X.h[i]? =some (some (.blk (l.map .v)))) (hb:(X.m i).1=some b): ∀ o,X.w.cell? ⟨b,o,none⟩=l[o]? :=by
 obtain ⟨b',cvs,T,h1,h2,h3,h4,h5⟩:=hX.blk i _ h;rw [hb] at h1;injection h1 with h1;subst h1;intro o;have:=bn (off:=o) h2;unfold cellAt at this;rw [this];rw [List.length_map] at h3;by_cases ho:o<l.length
 ·have ho2:o<cvs.size:=by omega
  have:=h5 o (.v l[o]) cvs[o] (by simp [ho]) (by simp [ho2]);generalize hq:cvs[o]=q at this;cases this;rw [Array.getElem?_eq_getElem ho2,List.getElem?_eq_getElem ho,hq]
 ·rw [Array.getElem?_eq_none (by omega),List.getElem?_eq_none (by omega)]
theorem F9: ∀ (l m:List Value),l.map AV.v=m.map AV.v→l=m
 | [],[],_=>rfl
 | [],_::_,h=>by simp at h
 | _::_,[],h=>by simp at h
 | a::l,b::m,h=>by
  simp only [List.map_cons,List.cons.injEq,AV.v.injEq] at h;rw [h.1,F9 l m h.2]
def afO (P:Program) (gf:FuncId) (caps:List AV) (h:Hp) {α:Type} (encs:α→Array Value) (ids:List Nat) (S Sp:List α→Prop) (Nb:Nat):Prop:=
 ∀ (X:Cx) (vs:List Value),Ok X→X.h=h→fJ X caps vs→SeqStopsK Fence.wide 8 P gf vs.toArray encs (KpI X ids) S Sp Nb X.w
def amg (n0 N:Nat) (H:Hp→Prop) (Hx:Code→Hp→Prop):dw:=fun ex e h=>match ex with
 | .normal=> ∃ e1 h1,Ent n0 N e h e1 h1∧H h1
 | .ret=>Hx .ret h
 | .exit i=>Hx (.exit i) h
 | .panic _=>False
def Exx (Q:dw) (e:Ev) (h:Hp):Code→Prop
 | .ret=>Q .ret e h
 | .exit i=>Q (.exit i) e h
 | _=>False
def aiz (ks:List (Nat × Nat)):Bool:=ks.all fun p=>!Nat.beq p.2 1000000
theorem QB: ∀ {ks:List (Nat × Nat)},aiz ks=true→ ∀ id,kOf ks id≠1000000
 | [],_,id=>by show (0:Nat)≠1000000;decide
 | (i,k)::r,h,id=>by
  have h':(!Nat.beq k 1000000 && aiz r)=true:=h;rw [Bool.and_eq_true] at h';show (if i=id then k else kOf r id)≠1000000;split
  ·intro e;subst e;cases h'.1
  ·exact QB h'.2 id
theorem aiA {P:Program} (bU:P.follows .mixedOrders=true) {N:Nat} {L:List Nat} {ks ks':List (Nat × Nat)} {f:Operand} {ps:Array Tmp} {ag b:Code} {Q:dw} {e:Ev} {h:Hp} {α:Type} {encs:α→Array Value} {ids:List Nat} {S Sp:List α→Prop} {Nb:Nat} {gf:FuncId} {caps:List AV}
  (hf:dK e f= .fn (.func gf) [] caps) (hbd:lM P gf=true) (hit:afO P gf caps h encs ids S Sp Nb) (hps: ∀ x,(encs x).size=ps.size) (hok:dJ N ks' b=true) (hin:inB b=true) (hes:aiz ks'=true) (hb:base ks'=h.length)
  (e1:α→Ev) (a₁:Act→α→Act)
  (hassign: ∀ (a:Act) (l:Nat) (x:α) (W:World) (K:Act→World→Prop),a.tmps.size=N→K (a₁ a x) W→ag.wpIn (Rnd l) 7 P (Exit.then K (fun _ _ _=>False)) {tmps:=(ps.zip (encs x)).foldl (fun t (p,v)=>t.setIfInBounds p v) a.tmps,defers:=[]} W)
  (hrel: ∀ (a:Act) (x:α),a.tmps.size=N→(a₁ a x).defers=[]∧(a₁ a x).tmps.size=N∧ ∀ d,aO (e1 x) d= .none∨(∃ v,aO (e1 x) d= .v v∧(a₁ a x).tmps.getD d undef=v)∨(aO (e1 x) d=aO e d∧(a₁ a x).tmps.getD d undef=a.tmps.getD d undef))
  (Hs:List α→Hp→Prop) (Hx:Code→List α→Hp→Prop) (hnt: ∀ pre h',Hs pre h'→ntH h.length 0 h') (aob: ∀ c pre h',Hx c pre h'→ntH h.length 0 h')
  (amh: ∀ i,i∈ids→i<h.length∧ ∃ l:List Value, ∀ pre h',Hs pre h'→h'[i]? =some (some (.blk (l.map .v)))) (h0:Hs [] h)
  (hbody: ∀ pre x h',Hs pre h'→pre.length<Nb→h.length≤h'.length→bK P N L ks' b (amg h.length N (Hs (pre++[x])) fun c=>Hx c (pre++[x])) (e1 x) h')
  (hdone: ∀ xs h',S xs→Hs xs h'→Q .normal e h') (hstop: ∀ c pre h',Sp pre→Hx c pre h'→Exx Q e h' c):
  ∀ (X:Cx) (a:Act),base ks≤X.h.length→X.h=h→Ok X→aN X N e a→(Code.rangeFunc f ps ag b).wp P (gu (base ks) X N Q) a X.w:=by
 intro X a hbs hh hX hE;subst hh;have hX0:Ok (X.def_ []):=hX.def_;have hfr:=hE.dK f;rw [hf] at hfr;obtain ⟨lb,hg,hlb⟩: ∃ lb:List Value,a.eval f= .func (.func gf) #[] lb.toArray∧fJ X caps lb:=by
  generalize a.eval f=q at hfr;cases hfr with
  | @fn _ _ _ v1 v2 h1 h2 r1 r2=>
   have:v1=[]:=List.eq_nil_of_length_eq_zero h1;subst this;exact ⟨v2,rfl,h2,r2⟩
 have afP: ∀ {Y:Cx},aS X.h.length (X.def_ []) Y→Step (X.def_ []) Y:=fun S=>aS.full S
 have Y9: ∀ {pre:List α} {Y:Cx},aS X.h.length (X.def_ []) Y→Ok Y→Hs pre Y.h→ ∀ i,i∈ids→ ∀ b,(X.m i).1=some b→ ∃ l:List Value,(∀ pre h',Hs pre h'→h'[i]? =some (some (.blk (l.map .v))))∧ ∀ o,Y.w.cell? ⟨b,o,none⟩=l[o]? :=by
  intro pre Y S hY hH i hi b hb;obtain ⟨hlt,l,hl⟩:=amh i hi;have h1:=hl pre _ hH;obtain ⟨c',_,h3⟩:=S.l7 i _ hlt h1;exact ⟨l,hl,F8 hY h1 (by rw [h3];exact hb)⟩
 have close: ∀ {x:Ex} {ex:Exit} {Y:Cx} {D:Nat},aS X.h.length (X.def_ []) Y→Ok Y→X.w.heap.size≤D→Y.w.heap[D]? =some (.deferred (some []))→Q x e Y.h→((x= .normal∧ex= .normal)∨(∃ i,x= .exit i∧ex= .exit i)∨(x= .ret∧ex= .ret))→gu (base ks) X N Q ex {a with defers:={target:= .collected D,args:= #[]}::a.defers} Y.w:=by
  intro x ex Y D S hY hD hd hq hx;have S2:aS (base ks) X (Y.def_ X.ds):=(aS.re (X:=X) (d:=[]) (d2:=X.ds) S).less hbs;refine gu.close (Y:=Y.def_ X.ds) (e:=e) (l:=[D]) ?_ ⟨by simp,fun D' h'=>by rw [List.mem_singleton] at h';subst h';exact ⟨hD,hd⟩⟩ S2 hY.def_ ⟨rfl,hE.size,fun d=>?_⟩ hq ?_
  ·show _::a.defers=_;rw [hE.defers];rfl
  ·have h1:Rep (X.def_ []) (aO e d) (a.tmps.getD d undef):=(hE.rep d).def_;exact (h1.mono (afP S)).def_
  ·rcases hx with h | h | h
   ·exact .inl h
   ·exact .inr (.inl h)
   ·exact .inr (.inr (.inl h))
 refine wpIn_wide.1 (wpIn_rangeFunc_ownG (F:=Fence.wide) (n:=9) (Kp:=KpI X ids) rfl (by decide) hg trivial (fun args w=>pX hbd args w) (hit X lb hX rfl hlb) ?_ ?_ (Below.refl _ _) hps (fun pre W=>RI X (Hs pre) W) (fun c pre W=>RI X (Hx c pre) W) (RI.own hX hnt) (fun c=>RI.own hX (aob c)) ⟨X.def_ [],rfl,(Step.refl _).toN (Nat.le_refl _),hX0,h0⟩ (a₁ a) (fun l x W K hK=>hassign a l x W K hE.size hK) ?_ ?_ ?_)
 ·intro A B C h1 h2 i hi b hb o;rw [h2 i hi b hb o,h1 i hi b hb o]
 ·intro W l o o' hl hlo hc hw i hi b hb off;obtain ⟨hlt,lv,hlv⟩:=amh i hi;have h1:=hlv [] _ h0;have hbl:b<X.w.heap.size:=hX.lt ⟨i,⟨_,h1⟩,hb⟩;unfold World.cell?;rw [World.putObj_heap_other (by show b≠l;omega)]
 ·rintro l pre x W ⟨Y,rfl,S,hY,hH⟩ hlt;obtain ⟨r1,r2,r3⟩:=hrel a x hE.size;have hEY:aN Y N (e1 x) (a₁ a x):=by
   refine ⟨r1.trans S.dse.symm,r2,fun d=>?_⟩;rcases r3 d with q | ⟨v,q1,q2⟩ | ⟨q1,q2⟩
   ·rw [q];exact .none _
   ·rw [q1,q2];exact .v v
   ·rw [q1,q2];have h1:Rep (X.def_ []) (aO e d) (a.tmps.getD d undef):=(hE.rep d).def_;exact h1.mono (afP S)
  have hw:=hbody pre x Y.h hH hlt S.len;refine wpIn_mono (qg bU (QB hes) b _ Y (e1 x) (a₁ a x) hok hin (by rw [hb];exact S.len) hY hEY hw) ?_;intro ex a' w' hp;have:=hp.elim;cases this with
  | ok z ex Z e2 a2 T hZ hEZ hq hx=>
   rw [hb] at T;have keep:KeepsFrom X.w.heap.size Y.w Z.w:=⟨T.size,fun k o hk ho hc=>by
    rw [T.block k (Array.getElem?_eq_some_iff.1 ho).1 ?_];exact ho;rintro ⟨i,⟨ob,hi⟩,he⟩;cases ob with
    | blk cells=>
     obtain ⟨b',cvs,U,q1,q2,_⟩:=hY.blk i cells hi;rw [q1] at he;injection he with he;subst he;rw [ho] at q2;injection q2 with q2;subst q2;cases hc
    | arr U s cells fz=>
     obtain ⟨_,_,n',_,q1 | ⟨b',cvs,q1⟩⟩:=hY.arr i U s cells fz hi
     ·rw [q1.1] at he;cases he
     ·have q2:=q1.at_;rw [q2] at he;injection he with he;subst he;have:=q1.blk;rw [ho] at this;injection this with this;subst this;cases hc
    | map es=>
     have hid:=((tN (hnt _ _ hH) i).2.2 es hi).1;rw [Nat.zero_add] at hid;obtain ⟨es',g1,g2⟩:=S.omap i es hid hi;rw [g2] at he;have:=hX0.lt ⟨i,⟨_,g1⟩,he⟩;exact absurd hk (by show ¬ X.w.heap.size≤k;exact Nat.not_le_of_lt this)⟩
   rcases hx with ⟨rfl,rfl⟩ | ⟨i,rfl,rfl⟩ | ⟨rfl,rfl⟩ | ⟨v,av,rfl,rfl,hr⟩
   ·obtain ⟨e3,h3,hent,hH3⟩:=hq;obtain ⟨V,v1,v2,v3,v4,v5⟩:=hent Z _ rfl T.len hZ hEZ;have SV:aS X.h.length (X.def_ []) V:=(S.trans hX0 T).trans hX0 v3;refine ⟨keep,fun i hi b hb o=>?_,V,v1,SV,v4,by rw [v2];exact hH3⟩;obtain ⟨l1,q1,q2⟩:=Y9 S hY hH i hi b hb;obtain ⟨l2,q3,q4⟩:=Y9 SV v4 (by rw [v2];exact hH3) i hi b hb;have e4:=q1 _ _ hH;rw [q3 _ _ hH] at e4;have e5:l2=l1:=by
     injection e4 with e4;injection e4 with e4;injection e4 with e4;exact F9 _ _ e4
    rw [q2, ←v1,q4,e5]
   ·exact ⟨keep,Z,rfl,S.trans hX0 T,hZ,hq⟩
   ·exact ⟨keep,Z,rfl,S.trans hX0 T,hZ,hq⟩
   ·exact hq.elim
 ·rintro D xs W hD hS ⟨Y,rfl,S,hY,hH⟩ hd;exact close S hY hD hd (hdone xs _ hS hH) (.inl ⟨rfl,rfl⟩)
 ·rintro D c pre W hD hS ⟨Y,rfl,S,hY,hH⟩ hd;have hs:=hstop c pre _ hS hH;cases c with
  | ret=>exact wpIn_ret (close S hY hD hd hs (.inr (.inr ⟨rfl,rfl⟩)))
  | exit i=>exact wpIn_exit (close S hY hD hd hs (.inr (.inl ⟨i,rfl,rfl⟩)))
  | _=>exact hs.elim
end
section
open Go.RowKit
variable {P:Program}{a:Act}
theorem Gf {F:Fence} {n:Nat}  {id:Nat} {d t:Tmp} {o:Oper} {Q:Exit→Act→World→Prop}  {w:World}
  (ho:o.op= .assign (.tmp t)) (hd:o.dst=some d) (hg:o.guard=none) (h:Q .normal {a with tmps:=a.tmps.setIfInBounds d (a.tmps.getD t undef)} w):(Code.region id #[o] false).wpIn F n P Q a w:=by
 obtain ⟨dst,op,ty,pos,af,g⟩:=o;simp only at ho hd hg;subst ho hd hg;refine wpIn_region ?_;show wpOpsIn F n P _ Q [0] a w;simp only [wpOpsIn,Region.wanted,List.getElem?_toArray,List.getElem?_cons_zero,if_true];refine ⟨?_,?_⟩
 ·intro f hf;cases hf
 ·rw [Oper.semAt_eq _ _ _ (fun c hc=>by cases hc)];exact h
theorem AP: ∀ (e:Ev) (d:Nat),aO e d= .none∨ ∃ p,p∈e∧p.1=d∧aO e d=p.2
 | [],d=> .inl rfl
 | (k,a)::r,d=>by
  by_cases h:k=d
  ·exact .inr ⟨(k,a),List.mem_cons_self ..,h,if_pos h⟩
  ·rcases AP r d with q | ⟨p,q1,q2,q3⟩
   ·exact .inl (by show (if k=d then a else aO r d)=_;rw [if_neg h];exact q)
   ·exact .inr ⟨p,List.mem_cons_of_mem _ q1,q2,by show (if k=d then a else aO r d)=_;rw [if_neg h];exact q3⟩
theorem o8 {T:Array Value} {i j:Nat} {v:Value}:(T.setIfInBounds i v).getD j undef=if i=j∧j<T.size then v else T.getD j undef:=by
 simp only [Array.getD_eq_getD_getElem?,Array.getElem?_setIfInBounds];by_cases h:i=j
 ·subst h;by_cases hs:i<T.size
  ·simp [hs]
  ·simp [hs]
 ·simp [h]
def Lm (p q d1 d2:Tmp) (v1 v2:Value) (a:Act):Act:={tmps:=(((a.tmps.setIfInBounds p v1).setIfInBounds q v2).setIfInBounds d1 v1).setIfInBounds d2 v2,defers:=[]}
variable {N:Nat}
theorem assign2 {F:Fence} {n:Nat}  {i1 i2:Nat} {p q d1 d2:Tmp} {o1 o2:Oper} {K:Act→World→Prop}  {W:World} {v1 v2:Value}  (h1:o1.op= .assign (.tmp p)) (h1':o1.dst=some d1) (aoc:o1.guard=none) (h2:o2.op= .assign (.tmp q)) (h2':o2.dst=some d2) (aod:o2.guard=none)
  (hN:a.tmps.size=N) (hp:p<N) (hq:q<N) (hpq:p≠q) (hdq:d1≠q) (hK:K (Lm p q d1 d2 v1 v2 a) W):
  ((Code.region i1 #[o1] false).seq (Code.region i2 #[o2] false)).wpIn F n P (Exit.then K (fun _ _ _=>False)) {tmps:=(#[p,q].zip #[v1,v2]).foldl (fun t (x:Tmp × Value)=>t.setIfInBounds x.1 x.2) a.tmps,defers:=[]} W:=by
 refine wpIn_seq (Gf h1 h1' aoc (Gf h2 h2' aod ?_));have e:((#[p,q].zip #[v1,v2]).foldl (fun (t:Array Value) (x:Tmp × Value)=>t.setIfInBounds x.1 x.2) a.tmps)=(a.tmps.setIfInBounds p v1).setIfInBounds q v2:=by simp
 rw [e];have e3:((a.tmps.setIfInBounds p v1).setIfInBounds q v2).getD p undef=v1:=by
  rw [o8,if_neg (fun h=>hpq h.1.symm),o8,if_pos ⟨rfl,by rw [hN];exact hp⟩]
 rw [e3];have e4:(((a.tmps.setIfInBounds p v1).setIfInBounds q v2).setIfInBounds d1 v1).getD q undef=v2:=by
  rw [o8,if_neg (fun h=>hdq h.1),o8,if_pos ⟨rfl,by rw [Array.size_setIfInBounds,hN];exact hq⟩]
 rw [e4];exact hK
variable {e:Ev}
theorem aoe {e0:Ev} {p q d1 d2:Tmp} {v1 v2:Value}   (hN:a.tmps.size=N) (hd1:d1<N) (hd2:d2<N) (h12:d1≠d2)
  (hsub: ∀ x,x∈e0→aO e x.1=x.2∧x.1≠p∧x.1≠q∧x.1≠d1∧x.1≠d2):
  (Lm p q d1 d2 v1 v2 a).defers=[]∧(Lm p q d1 d2 v1 v2 a).tmps.size=N∧ ∀ d,aO ((d1, .v v1)::(d2, .v v2)::e0) d= .none∨(∃ v,aO ((d1, .v v1)::(d2, .v v2)::e0) d= .v v∧(Lm p q d1 d2 v1 v2 a).tmps.getD d undef=v)∨
   (aO ((d1, .v v1)::(d2, .v v2)::e0) d=aO e d∧(Lm p q d1 d2 v1 v2 a).tmps.getD d undef=a.tmps.getD d undef):=by
 refine ⟨rfl,by simp [Lm,hN],fun d=>?_⟩;have hg:aO ((d1, .v v1)::(d2, .v v2)::e0) d=if d1=d then .v v1 else if d2=d then .v v2 else aO e0 d:=rfl
 rw [hg];unfold Lm;simp only [o8,Array.size_setIfInBounds,hN];by_cases c1:d1=d
 ·subst c1;refine .inr (.inl ⟨v1,if_pos rfl,?_⟩);rw [if_neg (fun h=>h12 h.1.symm),if_pos ⟨rfl,hd1⟩]
 ·rw [if_neg c1];by_cases c2:d2=d
  ·subst c2;refine .inr (.inl ⟨v2,if_pos rfl,?_⟩);rw [if_pos ⟨rfl,hd2⟩]
  ·rw [if_neg c2];rcases AP e0 d with q' | ⟨x,q1,q2,q3⟩
   ·exact .inl q'
   ·obtain ⟨g1,g2,g3,g4,g5⟩:=hsub x q1;subst q2;refine .inr (.inr ⟨by rw [q3,g1],?_⟩);rw [if_neg (fun h=>g5 h.1.symm),if_neg (fun h=>g4 h.1.symm),if_neg (fun h=>g3 h.1.symm),if_neg (fun h=>g2 h.1.symm)]
variable {h:Hp}{n0:Nat}
theorem Ent.close (d:Nat) (a a':AV) (h':Hp) (ha:aO e d=a) (hc:fF h a=some (a',h')):Ent n0 N e h ((d,a')::e) h':=fun X act hh hn hX hE=>by
 subst hh;have hv:=hE.rep d;rw [ha] at hv;obtain ⟨Y,y1,y2,y3,y4,y5⟩:=sK X a a' h' _ hX hc hv;have hE2:=hE.mono y2;refine ⟨Y,y1,y4,y2.toN hn,y3,hE2.defers,hE2.size,fun d'=>?_⟩;show Rep Y (if d=d' then a' else aO e d') _;by_cases q:d=d'
 ·subst q;rw [if_pos rfl];exact y5
 ·rw [if_neg q];exact hE2.rep d'
def aiB (P:Program) (rs:Array ResultVar) (R:AV→Hp→Prop):dw:=fun x e h=>match x with
 | .exit _=>False
 | .panic _=>False
 | _=> ∃ r,uU P h e rs=some r∧R r h
variable {R:AV→Hp→Prop}
theorem ami {rs:Array ResultVar}   :aiB P rs R .normal e h=sA (fun r=>R r h) (uU P h e rs):=Eq.trans rfl rfl
theorem amj {rs:Array ResultVar}   :aiB P rs R .ret e h=sA (fun r=>R r h) (uU P h e rs):=Eq.trans rfl rfl
theorem HT.byO {f:FuncId} {fn:Func} {body:Code} {args:List AV}   (N:Nat) (L:List Nat) (ks:List (Nat × Nat)) (rs:List ResultVar) (hf:P.funcs[f]? =some fn) (hb:fn.body=some body) (hn:fn.ntmps=N) (hr:fn.results=rs.toArray) (hbs:base ks=h.length)
  (hw:bK P N L ks body (aiB P rs.toArray R) (qN 0 args) h) (bU:P.follows .mixedOrders=true:=by kernel_rfl) (hp:lM P f=true:=by kernel_rfl) (hk:dJ N ks body=true:=by kernel_rfl) (hN:args.length≤N:=by exact Nat.le_of_ble_eq_true rfl):HT P f args h R:=by
 subst hn;rw [←hr] at hw;refine ⟨hp,fun X vs hX hh hr=>?_⟩;subst hh;have hX':Ok (X.def_ []):=hX.def_;have hr':fJ (X.def_ []) args vs:=⟨hr.1,fun i a x h1 h2=>(hr.2 i a x h1 h2).def_⟩
 refine (callsIn_wide (n:=0)).1 (callsIn_of_wp_marks hf hb trivial (wpIn_wide.2 (wp_mono (fQ bU body _ (X.def_ []) _ _ hk (by rw [hbs];exact Nat.le_refl _) hX' (CU rfl hr' hN) hw) ?_)) rfl);intro ex a' w' hpost;obtain ⟨z,Y,e',l,rfl,e1,M,SN,hY,hEY,_,hq,hx⟩:=hpost.open;rw [hbs] at SN;have hd:a'.defers=l.map uH:=by rw [e1];exact List.append_nil _
 obtain ⟨Z,z1,z2,z3,z4,z5,z6⟩:=C9 l Y SN hY M;have S:=aS.full (X:=X.def_ []) z4;have hEZ:aN Z fn.ntmps e' {a' with defers:=[]}:=⟨by rw [z3];exact hEY.defers,hEY.size,fun d=>z6 _ _ (hEY.rep d)⟩
 have key:(∃ r,uU P Y.h e' fn.results=some r∧R r Y.h)→LeavesIn Fence.wide 0 P fn a'.tmps (fun e w'=> ∃ v V av,e= .returned v∧V.w=w'∧Step X V∧Ok V∧Rep V av v∧R av V.h) [] .returning (shut Y.w l):=by
  rintro ⟨r,h1,h3⟩;rw [←z2] at h1 h3;obtain ⟨v,q1,q2⟩:=Ar (fn:=fn) z5 hEZ h1;rw [←z1];exact ⟨v,q1,v,Z.def_ X.ds,r,rfl,rfl,S.undef,z5.def_,q2.def_,h3⟩
 rcases hx with ⟨rfl,rfl⟩ | ⟨i,rfl,rfl⟩ | ⟨rfl,rfl⟩ | ⟨v,av,rfl,rfl,hrv⟩
 ·show LeavesInM Fence.wide 0 P fn a'.tmps _ a'.defers .returning Y.w;rw [hd];exact iV (by simp) l _ M (key hq)
 ·exact hq.elim
 ·show LeavesInM Fence.wide 0 P fn a'.tmps _ a'.defers .returning Y.w;rw [hd];exact iV (by simp) l _ M (key hq)
 ·exact hq.elim
theorem Ent.jf (id:Nat) (T:TypeId) (s:Nat) (cells:List AV) (fz k:Nat) (hg:h[id]? =some (some (.arr T s cells fz))) (h1:fz≤k) (h2:k≤cells.length):Ent n0 N e h e (h.set id (some (.arr T s cells k))):=fun X act hh hn hX hE=>by
 subst hh;have hE2:=hE.mono (Step.jf k hg);exact ⟨X.jf id T s cells k,rfl,rfl,(Step.jf k hg).toN hn,hX.jf hg h1 h2,hE2.defers,hE2.size,hE2.rep⟩
theorem Ent.wk (d:Nat) (a b:AV) (ha:aO e d=a) (hw:Wk a b):Ent n0 N e h ((d,b)::e) h:=fun X act hh hn hX hE=>by
 refine ⟨X,rfl,hh,(Step.refl X).toN (hh▸hn),hX,hE.defers,hE.size,fun d'=>?_⟩;show Rep X (if d=d' then b else aO e d') _;by_cases q:d=d'
 ·subst q;rw [if_pos rfl];have hv:=hE.rep d;rw [ha] at hv;exact hw _ _ hv
 ·rw [if_neg q];exact hE.rep d'
end
section
open Go.RowKit
def Lp:List Nat→Nat→Nat
 | [],_=>0
 | a::r,j=>if a=j then 0 else Lp r j+1
structure aiC (σ:List Nat) (ops:Array Oper):Prop where
 len:σ.length=ops.size
 inv: ∀ i,i<ops.size→Lp σ i<ops.size∧σ.getD (Lp σ i) 0=i
 fwd: ∀ p,p<ops.size→σ.getD p 0<ops.size∧Lp σ (σ.getD p 0)=p
 aft: ∀ (i:Nat) (o:Oper),ops[i]? =some o→ ∀ e,e∈o.after→e.on<ops.size
 grd: ∀ (i:Nat) (o:Oper),ops[i]? =some o→ ∀ g b,o.guard=some (g,b)→g<ops.size
section
variable {σ:List Nat} {ops:Array Oper}
def LsP (σ:List Nat) (ops:Array Oper) (l l':Array Bool):Prop:=l.size=ops.size∧l'.size=ops.size∧ ∀ i,i<ops.size→l'.getD (Lp σ i) false=l.getD i false
theorem LsP.put (D:aiC σ ops) {l l':Array Bool} (h:LsP σ ops l l') {i:Nat} (hi:i<ops.size):LsP σ ops (l.setIfInBounds i true) (l'.setIfInBounds (Lp σ i) true):=by
 obtain ⟨h1,h2,h3⟩:=h;refine ⟨by simp [h1],by simp [h2],fun j hj=>?_⟩;have hp:=(D.inv i hi).1;have hq:=(D.inv j hj).1;have inj:Lp σ i=Lp σ j→i=j:=fun e=>by rw [←(D.inv i hi).2, ←(D.inv j hj).2,e]
 simp only [Array.getD_eq_getD_getElem?,Array.getElem?_setIfInBounds,h1,h2];have h3':=h3 j hj;simp only [Array.getD_eq_getD_getElem?] at h3';by_cases e:i=j
 ·subst e;simp [hi,hp]
 ·rw [if_neg e,if_neg (fun q=>e (inj q))];exact h3'
end
theorem xg {P:Program} {ops:Array Oper} {Q:Exit→Act→World→Prop} {i:Nat} {o:Oper} {v:Value} {K:Act→World→Prop} {a:Act} {w w':World} (hi:ops[i]? =some o) (hg:Region.wanted o (yielded ops a.tmps)=true)
  (hrun:(execOp a.eval o).run P w= .ok (.value v) w') (hK:K (a.put o.dst v) w'):wpOp P ops Q i K a w:=by
 unfold wpOp;rw [hi];simp only;rw [if_pos hg];refine .inl ?_;unfold Oper.wp;rw [hrun];exact hK
end
end Go.Proofs.YtljfgdlgmdcmfaaGreat.Wv
namespace Go.Proofs.YtljfgdlgmdcmfaaGreat
section
open Go.RowKit Wv
def rowP (i k:Nat):List (Nat × Nat):=(List.range k).map fun j=>(i,j)
theorem tV (i k:Nat):rowP i (k+1)=rowP i k++[(i,k)]:=by unfold rowP;rw [List.range_succ,List.map_append];rfl
def prs:Nat→List (Nat × Nat)
 | 0=>[]
 | i+1=>prs i++rowP i i
variable {i:Nat}
theorem aiD    {n:Nat} (h : i ≤ n) : prs i <+: prs n := by
  induction n with
  | zero => have : i = 0 := by omega
            subst this; exact List.prefix_refl _
  | succ n ih =>
    by_cases e : i = n + 1
    · subst e; exact List.prefix_refl _
    · exact (ih (by omega)).trans (List.prefix_append _ _)
theorem aex     {j k:Nat} (h : j ≤ k) : rowP i j <+: rowP i k := by
  induction k with
  | zero => have : j = 0 := by omega
            subst this; exact List.prefix_refl _
  | succ k ih =>
    by_cases e : j = k + 1
    · subst e; exact List.prefix_refl _
    · rw [tV       ]; exact (ih (by omega)).trans (List.prefix_append _ _)
theorem aey {k n:Nat} (h:i<n) (hk:k≤i):prs i++rowP i k<+:prs n:=
 ((List.prefix_append_right_inj (prs i)).2 (aex hk)).trans (aiD (i:=i+1) h)
def aiE (x:Nat × Nat):Array Value:= #[.int .i64 (x.1:Nat), .int .i64 (x.2:Nat)]
theorem Za (F:Fence) (n:Nat) (hF:F.fn 264) (hro:F.round=none) (l B N:Nat) (J Jx:List (Nat × Nat)→World→Prop) (Kp:World→World→Prop)
  (hY: ∀ pre (x:Nat × Nat) W,x.1<N→x.2<x.1→J pre W→pre.length<(prs N).length→YieldAt F (n - 1) Tryz.prog l (aiE x) W fun e W'=>
   (e= .returned (.bool true)∧J (pre++[x]) W'∧Kp W W')∨(e= .returned (.bool false)∧Jx (pre++[x]) W'))
  (W:World) (hB:W.cell? ⟨B,0,none⟩=some (.int .i64 N)) (hN:N≤4611686018427387904) (hn:1≤n) (h0:J [] W):
  CallsIn F n Tryz.prog 264 #[.func (.yield l) #[] #[], .pointer (some ⟨B,0,none⟩)] W fun e W'=>(∃ v,e= .returned v)∧
   ((∃ ys,ys=prs N∧J ys W')∨(∃ pre,pre<+:prs N∧Jx pre W')):=by
 refine callsIn_of_wp Tryz.func264 rfl hF ?_ hro;simp only [Tryz.ntmps264,List.size_toArray,List.length_cons,List.length_nil,Nat.reduceAdd,Nat.reduceSub,Array.replicate_succ,Array.replicate_zero,List.push_toArray,List.append_toArray,List.nil_append,List.cons_append];gi_wp2
 gi_loopw [6] (fun v6 wr=> ∃ (i:Nat),v6= .int .i64 i∧i≤N∧J (prs i) wr) (fun v6 _=>N - (intOf v6).toNat)
 case atStart=>exact ⟨0,rfl,Nat.zero_le _,h0⟩
 case round=>
  obtain ⟨i,rfl,hi,hJ⟩:=hrel;have HJ:=Lib.hid hJ;clear hJ;by_cases hlt:i<N
  ·have e1:(i:Int)<(N:Int):=by omega
   gi_wp2
   gi_loopw [10] (fun v10 wr=> ∃ (k:Nat),v10= .int .i64 k∧k≤i∧J (prs i++rowP i k) wr) (fun v10 _=>i - (intOf v10).toNat)
   case atStart=>exact ⟨0,rfl,Nat.zero_le _,by show J (prs i++[]) _;rw [List.append_nil];exact HJ.out⟩
   case round=>
    obtain ⟨k,rfl,hk,hJ⟩:=hrel;by_cases hlt2:k<i
    ·have e2:(k:Int)<(i:Int):=by omega
     have hpre:Hid (prs i++rowP i (k+1)<+:prs N):=aey hlt hlt2;have hlen:(prs i++rowP i k).length<(prs N).length:=by
      have:=hpre.out.length_le;rw [tV, ←List.append_assoc,List.length_append,List.length_singleton] at this;omega
     obtain ⟨fn,tmps,assign,body,hy,hR⟩:=hY (prs i++rowP i k) (i,k) _ hlt hlt2 hJ hlen;simp only [aiE] at hy;clear hJ hlen;gi_wp2
     refine hR.mono ?_;clear hy hR;rintro e W' (⟨rfl,hJ',hk'⟩ | ⟨rfl,amk⟩)
     ·have HJ':=Lib.hid hJ';clear hJ' hk';gi_wp2
      go_roundw
      case rel=>exact ⟨k+1,by go_num,by omega,by rw [tV, ←List.append_assoc];exact HJ'.out⟩
      case measure=>simp [intOf];omega
     ·have HJ':=Lib.hid amk;clear amk;gi_wp2
      refine bodyPost_ret (results_none rfl _ _ _) rfl ?_;exact ⟨⟨_,rfl⟩, .inr ⟨_,hpre.out,by rw [tV, ←List.append_assoc];exact HJ'.out⟩⟩
    ·have hki:k=i:=by omega
     subst hki;have HJ2:=Lib.hid hJ;clear hJ;gi_wp2
     go_roundw
     case rel=>exact ⟨k+1,by go_num,by omega,HJ2.out⟩
     case measure=>simp [intOf];omega
  ·have hiN:i=N:=by omega
   subst hiN;gi_wp2
   go_end0
   exact ⟨⟨_,rfl⟩, .inl ⟨_,rfl,HJ.out⟩⟩
abbrev PrT (N:Nat):={p:Nat × Nat // p.1<N∧p.2<p.1}
theorem OL {h:Hp} {id:Nat} (N:Nat) (hh:h[id]? =some (some (.blk [.v (.int .i64 N)]))) (hN:N≤4611686018427387904):
  afO Tryz.prog 264 [.ptr id 0] h (fun (x:PrT N)=>aiE x.1) [id] (fun ys=>ys.map (·.1)=prs N) (fun pre=>pre.map (·.1)<+:prs N) (prs N).length:=by
 intro X vs hX hXh hr l J Jx W hW _ _ hY h0;subst hXh;match vs,hr.1 with
 | [v0],_=>
  have hv:=hr.2 0 _ v0 rfl rfl;cases hv with
  | ptr hid hp=>
  obtain ⟨b,hb,rfl⟩:=hp _ hh;have hc:=F8 (l:=[.int .i64 N]) hX hh hb 0;have hlt:b<X.w.heap.size:=hX.lt ⟨id,⟨_,hh⟩,hb⟩;have K:=Za Fence.wide 8 trivial rfl l b N (fun q W=> ∃ q':List (PrT N),q'.map (·.1)=q∧J q' W) (fun q W=> ∃ q':List (PrT N),q'.map (·.1)=q∧Jx q' W) _ (fun pre x W x1 x2 ⟨q',e,hJ⟩ hl=>by
    subst e;obtain ⟨fn,tmps,assign,body,g1,g2⟩:=hY q' ⟨x,x1,x2⟩ W hJ (by simpa using hl);refine ⟨fn,tmps,assign,body,g1,g2.mono ?_⟩;rintro e W' (⟨e1,e2,e3⟩ | ⟨e1,e2⟩)
    ·exact .inl ⟨e1,⟨_,by simp,e2⟩,e3⟩
    ·exact .inr ⟨e1,⟨_,by simp,e2⟩⟩) W ((hW.cell (p:=⟨b,0,none⟩) hlt).trans hc) hN (by decide) ⟨[],rfl,h0⟩
  refine K.mono ?_;rintro e W' ⟨he,⟨ys,rfl,q',e1,e2⟩ | ⟨pre,e0,q',e1,e2⟩⟩
  ·exact ⟨he, .inl ⟨q',e1,e2⟩⟩
  ·exact ⟨he, .inr ⟨q',by show q'.map (·.1)<+:prs N;rw [e1];exact e0,e2⟩⟩
end
end Go.Proofs.YtljfgdlgmdcmfaaGreat
