/- Parts of a proof. -/
import Derived.Test.YtljfgdlgmdcmfaaGreatQrf
import Derived.Defers
import Derived.Test.YtljfgdlgmdcmfaaGreatQrj
import Derived.Test.YtljfgdlgmdcmfaaGreatQrg
import Derived.Test.YtljfgdlgmdcmfaaGreatQrd
import Derived.TacticsIn
import Derived.OrdersIn
import Derived.ProofKit
import Derived.RangeFuncCalls
import Derived.Lib.Hide
import Derived.RangeFuncBound
import Derived.RangeFuncLeaves
import Derived.Shelf.Abstract
import Derived.Shelf.RegionOpen
import Derived.OwnWalkIn
import Derived.TacticsInMore
import Derived.LoopNIn
import Derived.LoopIn
import Derived.WalkMore
set_option linter.unusedVariables false
set_option linter.unusedSimpArgs false
set_option maxHeartbeats 3200000
set_option maxRecDepth 100000
namespace Go.Proofs.YtljfgdlgmdcmfaaGreat.Wv
section
open Go.RowKit
def Jh:List Code→Code→Code
 | [],c=>c
 | a::l,c=> .seq a (Jh l c)
theorem BD {P:Program} (bJ:P.follows .mixedOrders=true) {N:Nat} {L:List Nat} {ks:List (Nat × Nat)} {QA:bT} {Post:Exit→Act→World→Prop} {last rest:Code} (hx: ∀ i e h, ¬ QA (.exit i) e h) (hp: ∀ av e h, ¬ QA (.panic av) e h):
  ∀ (l:List Code) (X:Cx) (e:Ev) (a:Act),cO N ks (Jh l last)=true→yD (Jh l last)=true→base ks≤X.h.length→Ok X→aO X N e a→bD P N L ks (Jh l last) QA e X.h→
   (∀ (Y:Cx) (e':Ev) (a':Act),aU (base ks) X Y→Ok Y→aO Y N e' a'→QA .normal e' Y.h→rest.wp P Post a' Y.w)→
   (∀ (Y:Cx) (e':Ev) (a':Act),aU (base ks) X Y→Ok Y→aO Y N e' a'→QA .ret e' Y.h→Post .ret a' Y.w)→(Jh l (.seq last rest)).wp P Post a X.w
 | [],X,e,a,hk,hf,hn,hX,hE,hw,hr,hq=>by
  refine wp_seq (wp_mono (bY bJ last QA X e a hk hf hn hX hE hw) ?_);intro ex a' w' hpost;have:=hpost.elim;cases this with
  | ok x ex Y e2 a2 S hY hE2 h hx2=>
   rcases hx2 with ⟨rfl,rfl⟩ | ⟨i,rfl,rfl⟩ | ⟨rfl,rfl⟩ | ⟨v,av,rfl,rfl,hr2⟩
   ·exact hr Y e2 _ S hY hE2 h
   ·exact (hx _ _ _ h).elim
   ·exact hq Y e2 _ S hY hE2 h
   ·exact (hp _ _ _ h).elim
 | c::l,X,e,a,hk,hf,hn,hX,hE,hw,hr,hq=>by
  unfold Jh at hk hf hw ⊢;simp only [cO,Bool.and_eq_true] at hk;simp only [yD,Bool.and_eq_true] at hf;refine wp_seq (wp_mono (bY bJ c _ X e a hk.1 hf.1 hn hX hE hw) ?_);intro ex a' w' hpost;have:=hpost.elim;cases this with
  | ok x ex Y e2 a2 S hY hE2 h hx2=>
   rcases hx2 with ⟨rfl,rfl⟩ | ⟨i,rfl,rfl⟩ | ⟨rfl,rfl⟩ | ⟨v,av,rfl,rfl,hr2⟩
   ·exact BD bJ hx hp l Y e2 _ hk.2 hf.2 S.len hY hE2 h (fun Z e3 a3 S3 hZ hE3 q=>hr Z e3 a3 (S.trans hX S3) hZ hE3 q) (fun Z e3 a3 S3 hZ hE3 q=>hq Z e3 a3 (S.trans hX S3) hZ hE3 q)
   ·exact (hx _ _ _ h).elim
   ·exact hq Y e2 _ S hY hE2 h
   ·exact (hp _ _ _ h).elim
theorem FY {P:Program} {id:Nat} {t:Tmp} {G:FuncId} {caps:Array Operand} {ty1 ty2:TypeId} {p1 p2:String} {e1 e2:Array Edge} {Q:Exit→Act→World→Prop} {a:Act} {w:World} (ht:t<a.tmps.size)
  (h:Q .normal {tmps:=a.tmps.setIfInBounds t (.func (.func G) #[] (caps.map a.eval)),defers:={target:= .fn (.func G) (caps.map a.eval),args:= #[]}::a.defers} w):
  (Code.region id #[⟨some t, .makeFunc (.func G) #[] caps,ty1,p1,e1,none⟩,⟨none, .defer ⟨.value (.tmp t), #[], #[]⟩,ty2,p2,e2,none⟩] false).wp P Q a w:=by
 refine wp_region ?_;have hmf: ∀ (fn:Fn) (first cap:Array Value) (w:World),(Instr.makeFunc fn first cap).run P w= .ok (.func fn first cap) w:=fun _ _ _ _=>rfl
 simp [wpOps,go_sem,hmf,Act.put,Act.eval,ht];exact .inl (.inl h)
end
end Go.Proofs.YtljfgdlgmdcmfaaGreat.Wv
namespace Go.Proofs.YtljfgdlgmdcmfaaGreat
section
open Go.RowKit Wv
def jv (f:Nat→ByteArray):Nat→Option Nms
 | 0=>some []
 | n+1=>(jv f n).bind fun ns=>match aW ns (f n) with
  | some _=>none
  | none=>some (ns++[(f n,false,0)])
theorem Eb {f:Nat→ByteArray} {i:Nat} (h:jv f i=none): ∀ {n:Nat},i≤n→jv f n=none
 | 0,q=>by
  have:i=0:=by omega
  subst this;exact h
 | n+1,q=>by
  by_cases e:i=n+1
  ·subst e;exact h
  ·have:=Eb h (n:=n) (by omega);simp only [jv,this,Option.bind_none]
theorem wQ {s:ByteArray} {r r':Bool × Nat} {s':ByteArray}: ∀ {ns:Nms},aW (ns++[(s',r')]) s=some r→aW ns s=some r∨r=r'
 | [],h=>by
  unfold aW at h;simp only [List.nil_append] at h;split at h
  ·injection h with h;exact .inr h.symm
  ·cases h
 | p::q,h=>by
  have h':(if s=p.1 then some p.2 else aW (q++[(s',r')]) s)=some r:=h;show (if s=p.1 then some p.2 else aW q s)=some r∨_;by_cases e:s=p.1
  ·rw [if_pos e] at h' ⊢;exact .inl h'
  ·rw [if_neg e] at h' ⊢;exact wQ h'
theorem NZ {f:Nat→ByteArray}: ∀ {n:Nat} {ns:Nms} {s:ByteArray} {r:Bool × Nat},jv f n=some ns→aW ns s=some r→r.2≤8
 | 0,ns,s,r,h,h2=>by injection h with h;subst h;cases h2
 | n+1,ns,s,r,h,h2=>by
  cases hq:jv f n with
  | none=>simp only [jv,hq,Option.bind_none] at h;cases h
  | some ns'=>
   simp only [jv,hq,Option.bind_some] at h;cases hf:aW ns' (f n) with
   | some _=>rw [hf] at h;cases h
   | none=>
    rw [hf] at h;injection h with h;subst h;rcases wQ h2 with q | q
    ·exact NZ hq q
    ·subst q;exact Nat.zero_le _
def Lh:Except (Nat × Int) (Nms × List (Bool × Nat))→Nms × List (Bool × Nat)
 | .ok q=>q
 | .error _=>([],[])
def WE (ns:Nms) (ss:List (Bool × Nat)) (i:Nat) (s:ByteArray):Except Int (Bool × Nat)→Except (Nat × Int) (Nms × List (Bool × Nat))
 | .error e=> .error (i,e)
 | .ok r=> .ok (ns++[(s,r)],ss++[r])
def CZ (ln:Nat→ByteArray) (sh:Nms→Nat→Except Int (Bool × Nat)) (i:Nat):Except (Nat × Int) (Nms × List (Bool × Nat))→Except (Nat × Int) (Nms × List (Bool × Nat))
 | .error e=> .error e
 | .ok (ns,ss)=>if (aW ns (ln i)).isSome=true then .error (i,230) else WE ns ss i (ln i) (sh ns i)
def gW (ns0:Nms) (ln:Nat→ByteArray) (sh:Nms→Nat→Except Int (Bool × Nat)):Nat→Except (Nat × Int) (Nms × List (Bool × Nat))
 | 0=> .ok (ns0,[])
 | i+1=>CZ ln sh i (gW ns0 ln sh i)
def Lj:Option (Bool × Nat)→Option Int
 | none=>some 230
 | some r=>if r.1=true then some 234 else none
def outT (ns:Nms) (fo:Nat→ByteArray):Nat→Option Int
 | 0=>none
 | i+1=>match outT ns fo i with
  | some e=>some e
  | none=>Lj (aW ns (fo i))
theorem wR {ns:Nms} {fo:Nat→ByteArray} {i:Nat} {e:Int} (h:outT ns fo i=some e): ∀ {n:Nat},i≤n→outT ns fo n=some e
 | 0,q=>by
  have:i=0:=by omega
  subst this;exact h
 | n+1,q=>by
  by_cases e2:i=n+1
  ·subst e2;exact h
  ·have:=wR h (n:=n) (by omega);simp only [outT,this]
theorem BF {ns0:Nms} {ln:Nat→ByteArray} {sh:Nms→Nat→Except Int (Bool × Nat)} {i:Nat} {q:Nat × Int} (h:gW ns0 ln sh i= .error q): ∀ {n:Nat},i≤n→gW ns0 ln sh n= .error q
 | 0,e=>by
  have:i=0:=by omega
  subst this;exact h
 | n+1,e=>by
  by_cases e2:i=n+1
  ·subst e2;exact h
  ·have:=BF h (n:=n) (by omega);show CZ ln sh n (gW ns0 ln sh n)=_;rw [this];rfl
theorem QB {c:Ci} (h:fK c=0):c.nl≤60:=by
 unfold fK at h;split at h
 ·cases h
 ·next h1=>
  have h2:yE c=true:=by
   cases hf:yE c with
   | true=>rfl
   | false=>exact absurd (by rw [hf];simp) h1
  unfold yE at h2;simp only [Bool.and_eq_true,decide_eq_true_eq] at h2;omega
theorem jT {c:Ci} (h:fK c=0) {i:Nat} (hi:i<c.nl):dn (c.le i)=true:=by
 unfold fK at h;split at h
 ·cases h
 ·split at h
  ·cases h
  ·next h2=>
   cases hf:dn (c.le i) with
   | true=>rfl
   | false=>
    refine absurd ?_ h2;unfold bf;refine List.any_eq_true.2 ⟨i,List.mem_range.2 hi,?_⟩;rw [hf];simp
def lastT (ss:List (Bool × Nat)) (nl:Nat):Option Int→List (Bool × Nat) × Int × Int
 | some e=>([],nl,e)
 | none=>(ss,0,0)
def QC (c:Ci):Except (Nat × Int) (Nms × List (Bool × Nat))→List (Bool × Nat) × Int × Int
 | .error (i,e)=>([],i,e)
 | .ok (ns,ss)=>lastT ss c.nl (outT ns c.fo c.no)
def vG (c:Ci) (ru:Ex→Nat→Except Int Nat):List (Bool × Nat) × Int × Int:=match jv c.fi c.ni with
 | none=>([], -1,230)
 | some ns=>QC c (gW ns c.ln (fun ns i=>shE ns ru (c.le i)) c.nl)
def shL (ss:List (Bool × Nat)):List AV:=ss.flatMap fun r=>[.v (.bool r.1), .v (.int .i64 r.2)]
theorem kX (ss:List (Bool × Nat)): ∀ a,a∈shL ss→Clo a:=by
 intro a ha;obtain ⟨r,_,h⟩:=List.mem_flatMap.1 ha;simp only [List.mem_cons,List.not_mem_nil,or_false] at h;rcases h with rfl | rfl
 ·exact .v _
 ·exact .v _
theorem N7 (ss:List (Bool × Nat)):(shL ss).length=ss.length*2:=by
 induction ss with
 | nil=>rfl
 | cons r q ih=>
  show (_::_::shL q).length=_;rw [List.length_cons,List.length_cons,ih,List.length_cons];omega
theorem abv (ss:List (Bool × Nat)) (r:Bool × Nat):shL (ss++[r])=shL ss++[.v (.bool r.1), .v (.int .i64 r.2)]:=by
 unfold shL;rw [List.flatMap_append];rfl
def typeA (q:List (Bool × Nat) × Int × Int):AV:= .tup [.t q.1.length 2 (shL q.1), .v (.int .i64 q.2.1), .v (.int .i64 q.2.2)]
def iK (me:Int) (c:Ci) (ru:Ex→Nat→Except Int Nat):List (Bool × Nat) × Int × Int:=
 if me≠0 then ([],0,2) else if fK c≠0 then ([],0,fK c) else vG c ru
variable {X:Cx}
theorem aU.weak {n:Nat} {Y:Cx} (S:aU n X Y):aU 0 X Y:=
 ⟨S.os,S.tape,S.output,S.size,S.block,S.keep,Nat.zero_le _,fun _ _ _ _ _ h=>absurd h (Nat.not_lt_zero _),fun _ _ h=>absurd h (Nat.not_lt_zero _),S.own,S.nY,fun _ _ h=>absurd h (Nat.not_lt_zero _),S.dse⟩
theorem aU.defs {n:Nat} {Y:Cx} {d d2:List Deferred} (S:aU n (X.def_ d2) Y):aU n (X.def_ d) (Y.def_ d):=
 ⟨S.os,S.tape,S.output,S.size,S.block,S.keep,S.len,S.mZ,S.lq,S.own,S.nY,S.omap,rfl⟩
theorem nR {x y:Value} (h:Rep X (.v x) y):y=x:=by cases h;rfl
theorem WG {e:Int} {v:Value} (h:Rep X (kJ e) v):v= .iface 98 (.agg #[.int .i64 e]):=by
 unfold kJ at h;cases h with
 | ifc h=>
  cases h with
  | @g _ cvs hc hr=>
   match cvs,hc with
   | [c0],_=>rw [nR (hr 0 _ c0 rfl rfl)]
theorem vH (hX:Ok X) {id b:Nat} {a:AV} (h:X.h[id]? =some (some (.blk [a]))) (hb:(X.m id).1=some b): ∃ x,X.w.cell? ⟨b,0,none⟩=some x∧X.w.frozen? ⟨b,0,none⟩=false∧Rep X a x:=by
 obtain ⟨b',cvs,T,h1,h2,h3,_,h5⟩:=hX.blk id _ h;rw [hb] at h1;injection h1 with h1;subst h1;have hs:0<cvs.size:=by rw [h3];exact Nat.one_pos
 refine ⟨cvs[0],?_,?_,h5 0 a _ rfl (Array.getElem?_eq_getElem hs)⟩
 ·simp [World.cell?,h2,Array.getElem?_eq_getElem hs]
 ·simp [World.frozen?,h2]
theorem jH {id off:Nat} {v:Value} {c:List AV} (h:Rep X (.ptr id off) v) (hc:X.h[id]? =some (some (.blk c))): ∃ b,(X.m id).1=some b∧v= .pointer (some ⟨b,off,none⟩):=by
 cases h with
 | ptr hid h=>exact h c hc
def tyL:List Nat:=[0,1,2,6,28,4,5,3,8,32,9,7,43,42,44,41,10,12,58,57,59,56,13,14,15,88,87,89,86,17,19,18]
def abw (i e:Int):AV:= .tup [.v (.slice none 0 0), .v (.int .i64 i), .v (.int .i64 e)]
def Ll:Array ResultVar:= #[.cell 4 34, .cell 5 3, .cell 6 35]
def abx (x:Par) (c:Ci):Hp:=[some (.blk (dA x)),some (.blk (ciC c)),some (.blk [.v (.slice none 0 0)]),some (.blk [.v (.int .i64 0)]),some (.blk [.v (.int .i64 0)]),some (.blk [.v (.int .i64 (-1))])]
def Lm (t:Int):Ev:=[(2, .ptr 0 0),(3, .ptr 1 0),(4, .ptr 2 0),(5, .ptr 3 0),(6, .ptr 4 0),(9, .ptr 5 0),(7, .v (.int .i64 t))]
def afI (mv:Nat) (me:Int) (x:Par) (c:Ci) (e:Ev) (h:Hp):Prop:=uF (Lm mv) e∧h=abx x c∧me=0∧fK c=0
def afJ (mv:Nat) (me:Int) (x:Par) (c:Ci) (q:List (Bool × Nat) × Int × Int):bT:=fun ex e h=>match ex with
 | .normal=>afI mv me x c e h
 | .ret=>CW Tryz.prog Ll (fun r _=> ∃ i e,q=([],i,e)∧r=abw i e) (fun _ _=>False) .ret e h
 | _=>False
variable {e:Ev}{h:Hp}{q:List (Bool × Nat) × Int × Int}{x:Par}
theorem afK {mv:Nat} {me:Int}  {c:Ci}   :afJ mv me x c q .normal e h=afI mv me x c e h:=rfl
theorem WH {mv:Nat} {me:Int}  {c:Ci}   :afJ mv me x c q .ret e h=CW Tryz.prog Ll (fun r _=> ∃ i e,q=([],i,e)∧r=abw i e) (fun _ _=>False) .ret e h:=rfl
def afL (x:Par) (c:Ci) (q:List (Bool × Nat) × Int × Int):bT:=fun ex e_ h=>match ex with
 | .ret=>CW Tryz.prog Ll (fun r _=>q.2=(0,0)∧r=typeA q) (fun _ _=>False) .ret e_ h
 | .panic av=> ∃ i e s0 i0 e0,q=([],i,e)∧av=kJ e∧h[2]? =some (some (.blk [s0]))∧h[3]? =some (some (.blk [.v (.int .i64 i0)]))∧h[4]? =some (some (.blk [.v (.int .i64 e0)]))∧h[5]? =some (some (.blk [.v (.int .i64 i)]))∧aP e_ 4= .ptr 2 0∧aP e_ 5= .ptr 3 0∧aP e_ 6= .ptr 4 0
 | _=>False
theorem afM {c:Ci}   :afL x c q .ret e h=CW Tryz.prog Ll (fun r _=>q.2=(0,0)∧r=typeA q) (fun _ _=>False) .ret e h:=rfl
theorem BG {c:Ci}  {av:AV} {e_:Ev} :afL x c q (.panic av) e_ h= ∃ i e s0 i0 e0,q=([],i,e)∧av=kJ e∧h[2]? =some (some (.blk [s0]))∧h[3]? =some (some (.blk [.v (.int .i64 i0)]))∧h[4]? =some (some (.blk [.v (.int .i64 e0)]))∧h[5]? =some (some (.blk [.v (.int .i64 i)]))∧aP e_ 4= .ptr 2 0∧aP e_ 5= .ptr 3 0∧aP e_ 6= .ptr 4 0:=rfl
theorem Ji (x:Par) (c:Ci) (ru:Ex→Nat→Except Int Nat) (ks:Ex→Prop) (mv:Nat) (me:Int) (T1:TC Tryz.prog 60 [.g (dA x), .v (.int .i64 x.r)] (.tup [.v (.int .i64 mv), .v (.int .i64 me)])) (hc:okC c)
  (hR:me=0→ ∀ ns,FP x mv ns ru ks) (hks: ∀ i,i<c.nl→abo ks (c.le i)):
  TC Tryz.prog 19 [.g (dA x), .g (ciC c)] (typeA (iK me c ru)):=by
 refine TC.Nz ⟨by kernel_rfl,fun X0 vs hX0 hh hr=>?_⟩ ?_
 case refine_2=>unfold typeA;simp only [Wv.BC];exact kX _
 refine calls_of_wp_defers Tryz.func19 rfl ?_;show (Jh [_,_,_,_] (.seq _ (.seq _ _))).wp _ _ _ _;have hX1:Ok (X0.def_ []):=hX0.def_;have hr1:fA (X0.def_ []) [.g (dA x), .g (ciC c)] vs:=⟨hr.1,fun i a x h1 h2=>(hr.2 i a x h1 h2).def_⟩
 have hE1:=zX (N:=109) rfl hr1 (by show 2≤109;omega);refine BD (N:=109) (L:=tyL) (ks:=[]) (by kernel_rfl) (QA:=afJ mv me x c (iK me c ru)) (fun i e h q=>q) (fun av e h q=>q) [_,_,_,_] (X0.def_ []) _ _ ?_ (by kernel_rfl) (Nat.zero_le _) hX1 hE1 ?_ ?_ ?_
 ·kernel_rfl
 ·show bD Tryz.prog 109 tyL [] _ _ _ X0.h;rw [hh];have T2:=KQ c hc;have hQ:iK me c ru=if me≠0 then ([],0,2) else if fK c≠0 then ([],0,fK c) else vG c ru:=rfl
  have hM: ∀ e h,afI mv me x c e h=(uF (Lm mv) e∧h=abx x c∧me=0∧fK c=0):=fun _ _=>rfl
  have hG1:Clo (.g (dA x)):=by simp only [Wv.BC];exact dY x
  have hG2:=uS c;generalize me=e1 at*;generalize mv=t1 at*;generalize fK c=e2 at*;unfold abx at hM;simp only [dA,ciC,cZ] at T1 T2 hG1 hG2 hM ⊢;generalize c.lets=L at*;simp only [Jh];simp (disch:=first|exact Wv.D|fail) only [Wv.B,simprocAttr,tyL,pU];refine aA T1 rfl (vF hG1 Wv.c) Wv.c ?_;by_cases h1:e1=0
  ·subst h1;simp (disch:=first|exact Wv.D|fail) only [Wv.B,simprocAttr,decide_true];refine aA T2 rfl (gY hG2) Wv.c ?_;by_cases h2:e2=0
   ·subst h2;simp (disch:=first|exact Wv.D|fail) only [Wv.B,simprocAttr,afK,hM];simp (disch:=first|exact Wv.D|fail) only [Wv.B,simprocAttr,Lm]
   ·rw [if_neg (by simp),if_pos h2] at hQ;simp (disch:=first|exact Wv.D|fail) only [Wv.B,simprocAttr,aj h2,WH,Ll,hQ];exact ⟨_,_,rfl,rfl⟩
  ·rw [if_pos h1] at hQ;simp (disch:=first|exact Wv.D|fail) only [Wv.B,simprocAttr,aj h1,WH,Ll,hQ];exact ⟨_,_,rfl,rfl⟩
 ·intro Y e a S hY hE hmid;obtain ⟨hfit,hh2,hm0,hck⟩:=hmid;have hEm:aO Y 109 (Lm mv) a:=⟨hE.defers,hE.size,fun d=>by
   rcases uG hfit d with q | q
   ·rw [q];exact hE.rep d
   ·rw [q];exact .none _⟩
  have hds:a.defers=[]:=hE.defers.trans S.dse;refine wp_seq (FY (by rw [hE.size];decide) ?_);rw [hds];generalize hcv:Array.map a.eval _=cv;generalize hd:Deferred.mk _ _=d;show Code.wp _ _ _ _ _;have hY2:Ok (Y.def_ [d]):=hY.def_;have hE2:aO (Y.def_ [d]) 109 (Lm mv) {tmps:=a.tmps.setIfInBounds 34 (.func (.func 62) #[] cv),defers:=[d]}:=by
   have h1:=(hEm.any (dst:=some 34) (v:= .func (.func 62) #[] cv) (fun d hd=>by injection hd with hd;subst hd;rfl))
   exact ⟨rfl,h1.size,fun d=>(h1.rep d).def_⟩
  refine wp_mono (bY (by kernel_rfl) (L:=tyL) (ks:=[(1000000,6)]) _ (afL x c (iK me c ru)) (Y.def_ [d]) (Lm mv) _ ?_ (by kernel_rfl) ?_ hY2 hE2 ?_) ?_
  ·kernel_rfl
  ·show 6≤Y.h.length;rw [hh2];exact Nat.le_refl 6
  ·show bD _ _ _ _ _ _ _ Y.h;rw [hh2];have hQ:iK me c ru=vG c ru:=by unfold iK;rw [if_neg (by simp [hm0]),if_neg (by simp [hck])]
   have hT0:vG c ru=match jv c.fi c.ni with
    | none=>([], -1,230)
    | some ns=>QC c (gW ns c.ln (fun ns i=>shE ns ru (c.le i)) c.nl):=rfl
   rw [hQ];have hLc:=kE c;have hdr: ∀ i,i<c.nl→ ∃ r,List.drop (i*6) c.lets=jK (c.ln i) (c.le i)++r:=fun i hi=>eH (f:=fun i=>jK (c.ln i) (c.le i)) (fun i=>kD _ _) hi
   generalize hQQ:vG c ru=QQ at hT0 ⊢;have hR1:=hR hm0;clear hR;generalize ht:((mv:Nat):Int)=t at hR1 ⊢;have hcc:=oG c;have hpc:=dY x;simp only [ciC,cZ] at hcc;simp only [dA] at hpc;generalize hL:c.lets=L at*;have aby: ∀ (s0:AV) (pl:Int) (ns:Nms) (r:Hp) (m:Nat),8≤m→lo m s0→loH m r→loH m (some (.blk [.v (.int .i64 x.n), .v (.int .u32 x.p), .v (.int .i64 x.r), .t x.ch.length 1 (x.ch.map fun (c:Nat)=> .v (.int .u32 c)), .v (.int .u32 x.sp), .v (.int .i64 x.wt), .v (.int .u32 x.er)])::
     some (.blk [.v (.string c.name), .t c.ni 1 (tab c.ni fun i=> .v (.string (c.fi i))), .t c.nl 6 L, .t c.no 1 (tab c.no fun i=> .v (.string (c.fo i)))])::
     some (.blk [s0])::some (.blk [.v (.int .i64 0)])::some (.blk [.v (.int .i64 0)])::some (.blk [.v (.int .i64 pl)])::some (.map (nsE ns))::some (.blk (tyP x t++[.mp 6]))::r):=fun s0 pl ns r m hm hs0 hr=>by
    have h1: ∀ v:AV,lo m v→loL m [v]:=fun v hv a ha=>by rw [List.mem_singleton] at ha;subst ha;exact hv
    refine ⟨fun a ha=> .clo (hpc a ha),fun a ha=> .clo (hcc a ha),h1 _ hs0,h1 _ (.clo (.v _)),h1 _ (.clo (.v _)),h1 _ (.clo (.v _)),fun a ha=> .clo (qN ns a ha),fun a ha=>?_,hr⟩;rcases List.mem_append.1 ha with h | h
    ·exact .clo (NY x t a h)
    ·rw [List.mem_singleton] at h;subst h;exact .mp (by omega)
   simp only [Lm,abx,dA,ciC,cZ,hL];simp (disch:=first|exact Wv.D|fail) only [Wv.B,simprocAttr,tyL];refine dI (σ:=Nat) (fun i=>[(3, .ptr 1 0),(4, .ptr 2 0),(5, .ptr 3 0),(6, .ptr 4 0),(9, .ptr 5 0),(10, .ptr 7 0),(41, .t c.ni 1 (tab c.ni fun i=> .v (.string (c.fi i)))),(42, .v (.int .i64 c.ni)),(43, .v (.int .i64 i))])
    (fun i=>[some (.blk [.v (.int .i64 x.n), .v (.int .u32 x.p), .v (.int .i64 x.r), .t x.ch.length 1 (x.ch.map fun (c:Nat)=> .v (.int .u32 c)), .v (.int .u32 x.sp), .v (.int .i64 x.wt), .v (.int .u32 x.er)]),
     some (.blk [.v (.string c.name), .t c.ni 1 (tab c.ni fun i=> .v (.string (c.fi i))), .t c.nl 6 L, .t c.no 1 (tab c.no fun i=> .v (.string (c.fo i)))]),
     some (.blk [.v (.slice none 0 0)]),some (.blk [.v (.int .i64 0)]),some (.blk [.v (.int .i64 0)]),some (.blk [.v (.int .i64 (-1))]),some (.map (nsE ((jv c.fi i).getD []))),some (.blk (tyP x t++[.mp 6]))])
    (fun i=>i≤c.ni∧jv c.fi i=some ((jv c.fi i).getD [])) (fun i=>c.ni - i) 0 ⟨Nat.zero_le _,rfl⟩ (by simp (disch:=first|exact Wv.D|fail) only [Wv.B,simprocAttr,jv,Option.getD_some,nsE,tyP]) Wv.V ?_
   rintro i ⟨hi,hns⟩;have hni:=hc.ni;by_cases hlt:i<c.ni
   ·have e1:(i:Int)<c.ni:=by omega
    obtain ⟨ns,hq⟩: ∃ ns,jv c.fi i=some ns:=⟨_,hns⟩
    have hgd:(jv c.fi i).getD []=ns:=by rw [hq];rfl
    have hP:(tyP x t).length=8:=rfl;have hPl: ∀ a,a∈tyP x t→Clo a:=fun a ha=>NY x t a ha
    simp (disch:=first|exact Wv.D|fail) only [Wv.B,simprocAttr,hgd];refine aI (fst:=[]) (cap:=[]) (afH (Ea x t ns (c.fi i)) _ _ _ _ _ _ [] (gY Wv.c) (by rintro r ⟨_,rfl⟩;simp only [Wv.BC]) (by rintro r ⟨_,rfl⟩;exact gU 230)) ?_ ?_
    ·rintro av h' ⟨⟨hfn,rfl⟩,rfl⟩;refine Wv.W ?_;refine bZ (fst:=[]) (cap:=[]) (BA _ _ _ _ _ _ [] (tyP x t) hP ns (c.fi i) (false,0) hfn ?_) ?_
     ·exact aby (.v (.slice none 0 0)) (-1) ns [] 8 (Nat.le_refl _) (.clo (.v _)) trivial
     ·rintro av h' ⟨rfl,rfl⟩;have hnx:jv c.fi (i+1)=some (ns++[(c.fi i,false,0)]):=by
       simp only [jv,hq,Option.bind_some,hfn]
      have hgn:(jv c.fi (i+1)).getD []=ns++[(c.fi i,false,0)]:=by rw [hnx];rfl
      simp (disch:=first|exact Wv.D|fail) only [Wv.B,simprocAttr,froze];refine aJ (i+1) ⟨by omega,by rw [hnx];rfl⟩ (by omega) (by rw [hgn]) Wv.V2
    ·rintro av h' ⟨⟨hfn,rfl⟩,rfl⟩;have hnx:jv c.fi c.ni=none:=Eb (i:=i+1) (by
      cases hf:aW ns (c.fi i) with
      | none=>exact absurd hf hfn
      | some r=>simp only [jv,hq,Option.bind_some,hf]) (by omega)
     rw [hnx] at hT0;simp only at hT0;simp (disch:=first|exact Wv.D|fail) only [Wv.B,simprocAttr,BG];exact ⟨_,_,_,_,_,hT0,rfl,rfl,rfl,rfl,rfl,rfl,rfl,rfl⟩
   ·have hin:i=c.ni:=by omega
    subst hin;obtain ⟨ns,hq⟩: ∃ ns,jv c.fi c.ni=some ns:=⟨_,hns⟩
    have hgd:(jv c.fi c.ni).getD []=ns:=by rw [hq];rfl
    have hnb: ∀ s r,aW ns s=some r→r.2≤8:=fun s r h=>NZ hq h
    rw [hq] at hT0;simp only at hT0;simp (disch:=first|exact Wv.D|fail) only [Wv.B,simprocAttr,hgd];clear hgd hns hi hlt hq;generalize hsh:(fun (ns:Nms) (i:Nat)=>shE ns ru (c.le i))=sh at hT0;refine Ag (σ:=Nat) (fun i=>[(3, .ptr 1 0),(4, .ptr 2 0),(5, .ptr 3 0),(6, .ptr 4 0),(9, .ptr 5 0),(10, .ptr 7 0),(56, .t c.nl 6 L),(57, .v (.int .i64 c.nl)),(58, .v (.int .i64 i))])
     (fun i=>[some (.blk [.v (.int .i64 x.n), .v (.int .u32 x.p), .v (.int .i64 x.r), .t x.ch.length 1 (x.ch.map fun (c:Nat)=> .v (.int .u32 c)), .v (.int .u32 x.sp), .v (.int .i64 x.wt), .v (.int .u32 x.er)]),
      some (.blk [.v (.string c.name), .t c.ni 1 (tab c.ni fun i=> .v (.string (c.fi i))), .t c.nl 6 L, .t c.no 1 (tab c.no fun i=> .v (.string (c.fo i)))]),
      some (.blk [.own 8 i]),some (.blk [.v (.int .i64 0)]),some (.blk [.v (.int .i64 0)]),some (.blk [.v (.int .i64 ((i:Int) - 1))]),some (.map (nsE (Lh (gW ns c.ln sh i)).1)),some (.blk (tyP x t++[.mp 6])),some (.arr 42 2 (shL (Lh (gW ns c.ln sh i)).2) (2*(i - 1)))])
     (fun i=>i≤c.nl∧gW ns c.ln sh i= .ok (Lh (gW ns c.ln sh i))∧(Lh (gW ns c.ln sh i)).2.length=i∧ ∀ s r,aW (Lh (gW ns c.ln sh i)).1 s=some r→r.2≤8) (fun i=>c.nl - i) 0 ⟨Nat.zero_le _,rfl,rfl,hnb⟩ ?_ ?_
    ·refine Ent.trans (Ent.akD 2 0 42 2 [.v (.slice none 0 0)] (by omega) rfl rfl) (Ent.fit ?_);exact Wv.V
    rintro i ⟨hi,hok,hsl,hb⟩;obtain ⟨⟨ns1,ss⟩,hg⟩: ∃ q,Lh (gW ns c.ln sh i)=q:=⟨_,rfl⟩
    rw [hg] at hok hsl hb;simp only at hsl hb;have hnl:=hc.nl;by_cases hlt:i<c.nl
    ·have e1:(i:Int)<c.nl:=by omega
     obtain ⟨r,hd⟩:=hdr i hlt;have hform:dn (c.le i)=true:=jT hck hlt;have TE:=abp x t ns1 ru ks hb (hR1 ns1) (c.le i) (hc.le i hlt).1 hform (hks i hlt);have afN:sh ns1 i=shE ns1 ru (c.le i):=by rw [←hsh]
     have hG:=eY (c.le i);have hGl:=uQ (c.ln i) (c.le i);unfold ShC at TE;have ai7: ∀ r,shE ns1 ru (c.le i)= .ok r→r.2≤8:=fun r h=>FN hb (c.le i) h
     generalize shE ns1 ru (c.le i)=O at TE afN ai7;have hoy:=(hc.le i hlt).1;generalize c.le i=y at hd TE hG hGl hoy;obtain ⟨k',s',n',nl',li',na',ar',rfl⟩:=kU hoy;unfold jK at hd hGl;rw [dJ] at hd TE hG hGl;simp only [List.cons_append,List.nil_append] at hd;have afO:gW ns c.ln sh (i+1)=CZ c.ln sh i (.ok (ns1,ss)):=by show CZ c.ln sh i (gW ns c.ln sh i)=_;rw [hok]
     simp (disch:=first|exact Wv.D|fail) only [Wv.B,simprocAttr,hg,hd];refine aI (fst:=[]) (cap:=[]) (afH (Ea x t ns1 (c.ln i)) _ _ _ _ _ _ [_,_] (gY Wv.c) (by rintro r ⟨_,rfl⟩;simp only [Wv.BC]) (by rintro r ⟨_,rfl⟩;exact gU 230)) ?_ ?_
     ·rintro av h' ⟨⟨hfn,rfl⟩,rfl⟩;refine Wv.W ?_;refine aI (fst:=[]) (cap:=[]) (afH (args:=[.g _]) TE _ _ _ _ _ _ [_,_] (gY hG) (by rintro r ⟨s,_,rfl⟩;exact yU s) (by rintro r ⟨e,_,rfl⟩;exact gU e)) ?_ ?_
      ·rintro av h' ⟨⟨⟨k2,d2⟩,hO,rfl⟩,rfl⟩;have hnx:gW ns c.ln sh (i+1)= .ok (ns1++[(c.ln i,k2,d2)],ss++[(k2,d2)]):=by
        rw [afO];simp only [CZ,hfn,Option.isSome_none,Bool.false_eq_true,if_false,afN,hO,WE]
       have hgn:Lh (gW ns c.ln sh (i+1))=(ns1++[(c.ln i,k2,d2)],ss++[(k2,d2)]):=by rw [hnx];rfl
       simp (disch:=first|exact Wv.D|fail) only [Wv.B,simprocAttr,shA];refine bZ (fst:=[]) (cap:=[]) (BA _ _ _ _ _ _ [_,_,_] (tyP x t) rfl ns1 (c.ln i) (k2,d2) hfn ?_) ?_
       ·exact aby (.own 8 i) i ns1 _ 11 (by omega) (.own (by omega)) ⟨fun a ha=> .clo (kX ss a ha),fun a ha=> .clo (hGl a ha),fun a ha=> .clo (by
         simp only [List.mem_cons,List.not_mem_nil,or_false] at ha;rcases ha with rfl | rfl
         ·exact .v _
         ·exact .v _),trivial⟩
       ·rintro av h' ⟨rfl,rfl⟩;have alh:=QB hck;have hsz:=N7 ss;rw [hsl] at hsz;have hca: ∀ (a0 a1 a2 a3 a4 a5 a6 a7:Option Ob) (r:Hp) (fz:Nat),cellsA (a0::a1::a2::a3::a4::a5::a6::a7::some (.arr 42 2 (shL ss++[.v (.bool k2), .v (.int .i64 d2)]) fz)::r) (.own 8 (i+1))=some [.own 8 (i+1)]:=fun a0 a1 a2 a3 a4 a5 a6 a7 r fz=>by
         have:bG (a0::a1::a2::a3::a4::a5::a6::a7::some (.arr 42 2 (shL ss++[.v (.bool k2), .v (.int .i64 d2)]) fz)::r) (.own 8 (i+1))=true:=by
          show decide ((shL ss++[AV.v (.bool k2),AV.v (.int .i64 d2)]).length=(i+1)*2)=true;rw [List.length_append,hsz];exact ah (by show i*2+2=_;omega)
         exact if_pos this
        have hdc:decide (i*2+2=(i+1)*2)=true:=ah (by omega);simp (disch:=first|exact Wv.D|fail) only [Wv.B,simprocAttr,froze,hsz,hca,hdc];have hpl:(i:Int)+1 - 1=i:=by omega
        have hfz:2*(i+1 - 1)=i*2:=by omega
        refine Wv.lI (i+1) 9 (by first | decide | exact Nat.le_of_ble_eq_true rfl) ⟨by omega,by rw [hnx];rfl,by rw [hgn];simp [hsl],?_⟩ (by omega) (by simp (disch:=first|exact Wv.D|fail) only [Wv.B,simprocAttr,hgn,hpl,hfz,Nat.mul_comm 2 i,abv,Int.natCast_add,Int.natCast_one]) Wv.V2 (by simp only [Wv.BL, ↓reduceIte,Nat.reduceLeDiff,eq_true hLc]<;>omega) ?_
        ·rw [hgn];intro s r h;rcases wQ h with q | q
         ·exact hb s r q
         ·subst q;exact ai7 _ hO
        ·rw [hgn];exact aby (.own 8 (i+1)) _ _ _ 9 (by omega) (.own (by omega)) ⟨fun a ha=> .clo (kX _ a ha),trivial⟩
      ·rintro av h' ⟨⟨e,hO,rfl⟩,rfl⟩;have hnx:gW ns c.ln sh (i+1)= .error (i,e):=by
        rw [afO];simp only [CZ,hfn,Option.isSome_none,Bool.false_eq_true,if_false,afN,hO,WE]
       rw [BF hnx (n:=c.nl) (by omega)] at hT0;simp only [QC] at hT0;simp (disch:=first|exact Wv.D|fail) only [Wv.B,simprocAttr,BG];exact ⟨_,_,_,_,_,hT0,rfl,rfl,rfl,rfl,rfl,rfl,rfl,rfl⟩
     ·rintro av h' ⟨⟨hfn,rfl⟩,rfl⟩;have hnx:gW ns c.ln sh (i+1)= .error (i,230):=by
       rw [afO];cases hf:aW ns1 (c.ln i) with
       | none=>exact absurd hf hfn
       | some r=>simp only [CZ,hf,Option.isSome_some,if_true]
      rw [BF hnx (n:=c.nl) (by omega)] at hT0;simp only [QC] at hT0;simp (disch:=first|exact Wv.D|fail) only [Wv.B,simprocAttr,BG];exact ⟨_,_,_,_,_,hT0,rfl,rfl,rfl,rfl,rfl,rfl,rfl,rfl⟩
    ·have hin:i=c.nl:=by omega
     subst hin;rw [hok] at hT0;have hT1:QQ=lastT ss c.nl (outT ns1 c.fo c.no):=hT0;simp (disch:=first|exact Wv.D|fail) only [Wv.B,simprocAttr,hg];have hno:=hc.no;refine dI (σ:=Nat) (fun i=>[(3, .ptr 1 0),(4, .ptr 2 0),(5, .ptr 3 0),(6, .ptr 4 0),(9, .ptr 5 0),(10, .ptr 7 0),(86, .t c.no 1 (tab c.no fun i=> .v (.string (c.fo i)))),(87, .v (.int .i64 c.no)),(88, .v (.int .i64 i))])
      (fun i=>[some (.blk [.v (.int .i64 x.n), .v (.int .u32 x.p), .v (.int .i64 x.r), .t x.ch.length 1 (x.ch.map fun (c:Nat)=> .v (.int .u32 c)), .v (.int .u32 x.sp), .v (.int .i64 x.wt), .v (.int .u32 x.er)]),
       some (.blk [.v (.string c.name), .t c.ni 1 (tab c.ni fun i=> .v (.string (c.fi i))), .t c.nl 6 L, .t c.no 1 (tab c.no fun i=> .v (.string (c.fo i)))]),
       some (.blk [.own 8 c.nl]),some (.blk [.v (.int .i64 0)]),some (.blk [.v (.int .i64 0)]),some (.blk [.v (.int .i64 c.nl)]),some (.map (nsE ns1)),some (.blk (tyP x t++[.mp 6])),some (.arr 42 2 (shL ss) (2*(c.nl - 1)))])
      (fun i=>i≤c.no∧outT ns1 c.fo i=none) (fun i=>c.no - i) 0 ⟨Nat.zero_le _,rfl⟩ Wv.V Wv.V ?_
     rintro i ⟨hi,hout⟩;have hout1:outT ns1 c.fo (i+1)=Lj (aW ns1 (c.fo i)):=by simp only [outT,hout]
     by_cases hlt:i<c.no
     ·have e1:(i:Int)<c.no:=by omega
      have hlm:=vC (c.fo i) ns1;have afP:tyP x t++[.mp 6]=[.v (.int .i64 x.n), .v (.int .u32 x.p), .v (.int .i64 x.r), .t x.ch.length 1 (x.ch.map fun (c:Nat)=> .v (.int .u32 c)), .v (.int .u32 x.sp), .v (.int .i64 x.wt), .v (.int .u32 x.er), .v (.int .i64 t), .mp 6]:=rfl;cases hq2:aW ns1 (c.fo i) with
      | none=>
       rw [hq2] at hlm hout1;simp only [Option.map_none] at hlm;simp only [Lj] at hout1;simp (disch:=first|exact Wv.D|fail) only [Wv.B,simprocAttr,yg,hlm,afP];refine aI (fst:=[]) (cap:=[]) (bg false 230) (by rintro av h' ⟨hb,_⟩;cases hb) ?_;rintro av h' ⟨_,rfl,rfl⟩;rw [wR hout1 (n:=c.no) (by omega)] at hT1;simp only [lastT] at hT1;simp (disch:=first|exact Wv.D|fail) only [Wv.B,simprocAttr,BG];exact ⟨_,_,_,_,_,hT1,rfl,rfl,rfl,rfl,rfl,rfl,rfl,rfl⟩
      | some r=>
       obtain ⟨k2,d2⟩:=r;rw [hq2] at hlm hout1;simp only [Option.map_some,shA] at hlm;simp only [Lj] at hout1;simp (disch:=first|exact Wv.D|fail) only [Wv.B,simprocAttr,yg,hlm,afP];refine aI (fst:=[]) (cap:=[]) (bg true 230) ?_ (by rintro av h' ⟨hb,_⟩;cases hb);rintro av h' ⟨_,rfl,rfl⟩;refine Wv.W ?_;refine aI (fst:=[]) (cap:=[]) (bg (!k2) 234) ?_ ?_
       ·rintro av h' ⟨hk,rfl,rfl⟩;have hk2:k2=false:=by simpa using hk
        subst hk2;simp only [Bool.false_eq_true,if_false] at hout1;refine Wv.W ?_;refine Wv.lI (i+1) 9 (by first | decide | exact Nat.le_of_ble_eq_true rfl) ⟨by omega,hout1⟩ (by omega) (by simp (disch:=first|exact Wv.D|fail) only [Wv.B,simprocAttr,afP]) Wv.V2 (by simp only [Wv.BL, ↓reduceIte,Nat.reduceLeDiff,eq_true hLc]<;>omega) ?_;exact aby (.own 8 c.nl) _ _ _ 9 (by omega) (.own (by omega)) ⟨fun a ha=> .clo (kX _ a ha),trivial⟩
       ·rintro av h' ⟨hk,rfl,rfl⟩;have hk2:k2=true:=by simpa using hk
        subst hk2;simp only [if_true] at hout1;rw [wR hout1 (n:=c.no) (by omega)] at hT1;simp only [lastT] at hT1;simp (disch:=first|exact Wv.D|fail) only [Wv.B,simprocAttr,BG];exact ⟨_,_,_,_,_,hT1,rfl,rfl,rfl,rfl,rfl,rfl,rfl,rfl⟩
     ·have hin:i=c.no:=by omega
      subst hin;rw [hout] at hT1;simp only [lastT] at hT1;have hsz:=N7 ss;rw [hsl] at hsz;have hca: ∀ (a0 a1 a2 a3 a4 a5 a6 a7:Option Ob) (r:Hp) (fz:Nat),cellsA (a0::a1::a2::a3::a4::a5::a6::a7::some (.arr 42 2 (shL ss) fz)::r) (.own 8 c.nl)=some [.own 8 c.nl]:=fun a0 a1 a2 a3 a4 a5 a6 a7 r fz=>by
       have:bG (a0::a1::a2::a3::a4::a5::a6::a7::some (.arr 42 2 (shL ss) fz)::r) (.own 8 c.nl)=true:=by
        show decide ((shL ss).length=c.nl*2)=true;rw [hsz];exact ah rfl
       exact if_pos this
      simp (disch:=first|exact Wv.D|fail) only [Wv.B,simprocAttr,afM,Ll,hca,hsz];rw [hT1];exact ⟨rfl,by unfold typeA;rw [hsl]⟩
  ·intro ex a' w' hpost;have:=hpost.elim;cases this with
   | ok z ex Z e2 a2 S2 hZ hEZ h hx=>
    have hS6:aU 0 (X0.def_ []) Y:=S;rcases hx with ⟨rfl,rfl⟩ | ⟨i,rfl,rfl⟩ | ⟨rfl,rfl⟩ | ⟨v,av,rfl,rfl,hrv⟩
    ·exact False.elim h
    ·exact False.elim h
    ·have hd2:a'.defers=[d]:=hEZ.defers.trans S2.dse;show Leaves _ _ _ _ a'.defers .returning Z.w;rw [hd2, ←hd];refine leaves_cons (f:=62) (args:=cv) (by simp) (by simp [go_sem]) ?_;obtain ⟨b5,g5⟩:=jH (hEm.rep 9) (by rw [hh2];rfl);obtain ⟨b2,g2⟩:=jH (hEm.rep 4) (by rw [hh2];rfl);obtain ⟨b3,g3⟩:=jH (hEm.rep 5) (by rw [hh2];rfl);obtain ⟨b4,g4⟩:=jH (hEm.rep 6) (by rw [hh2];rfl);have hcv2:cv= #[.pointer (some ⟨b5,0,none⟩), .pointer (some ⟨b2,0,none⟩), .pointer (some ⟨b3,0,none⟩), .pointer (some ⟨b4,0,none⟩)]:=by
      rw [←hcv];simp [Act.eval,g5.2,g2.2,g3.2,g4.2]
     rw [hcv2];refine (afG _ _ _ _ Z.w).mono ?_;rintro e3 u' w'' ⟨rfl,rfl,rfl⟩;obtain ⟨r,r',h',h1,h2,hq0,rfl⟩:=h;obtain ⟨v,q1,q2⟩:=yL (fn:=Tryz.f19) hZ hEZ (by rw [Tryz.results19];exact h1);obtain ⟨V,z1,z2,z3,z4,z5⟩:=qI Z r _ h' v hZ h2 q2;have SS:Step (X0.def_ [d]) Z:=aU.full (by show aU X0.h.length _ _;rw [hh];exact aU.trans hX0.def_ (aU.defs S) (aU.weak S2));exact ⟨v,q1,v,V.def_ X0.ds,_,rfl,z1,(SS.trans hX0.def_ z2).undef,z3.def_,z5.def_,rfl⟩
    ·have hd2:a'.defers=[d]:=hEZ.defers.trans S2.dse;obtain ⟨i,e',s0,i0,e0,hq,rfl,t2,t3,t4,t5,u4,u5,u6⟩:=h;have hv:=WG hrv;subst hv;show Leaves _ _ _ _ a'.defers (.panicking _) Z.w;rw [hd2, ←hd];refine leaves_cons (f:=62) (args:=cv) (by simp) (by simp [go_sem]) ?_;obtain ⟨b5,g5⟩:=jH (hEm.rep 9) (by rw [hh2];rfl);obtain ⟨b2,g2⟩:=jH (hEm.rep 4) (by rw [hh2];rfl);obtain ⟨b3,g3⟩:=jH (hEm.rep 5) (by rw [hh2];rfl);obtain ⟨b4,g4⟩:=jH (hEm.rep 6) (by rw [hh2];rfl);have hcv2:cv= #[.pointer (some ⟨b5,0,none⟩), .pointer (some ⟨b2,0,none⟩), .pointer (some ⟨b3,0,none⟩), .pointer (some ⟨b4,0,none⟩)]:=by
      rw [←hcv];simp [Act.eval,g5.2,g2.2,g3.2,g4.2]
     rw [hcv2];have k2:(Z.m 2).1=some b2:=(S2.lq 2 _ (by decide) t2).elim fun _ q=>q.2.trans g2.1
     have k3:(Z.m 3).1=some b3:=(S2.lq 3 _ (by decide) t3).elim fun _ q=>q.2.trans g3.1
     have k4:(Z.m 4).1=some b4:=(S2.lq 4 _ (by decide) t4).elim fun _ q=>q.2.trans g4.1
     have k5:(Z.m 5).1=some b5:=(S2.lq 5 _ (by decide) t5).elim fun _ q=>q.2.trans g5.1
     obtain ⟨x2,c2,f2,_⟩:=vH hZ t2 k2;obtain ⟨x3,c3,f3,r3⟩:=vH hZ t3 k3;obtain ⟨x4,c4,f4,r4⟩:=vH hZ t4 k4;obtain ⟨x5,c5,f5,r5⟩:=vH hZ t5 k5;have y3:=nR r3;have y4:=nR r4;have y5:=nR r5;subst y3 y4 y5;have nn: ∀ {i j bi bj:Nat} {ci cj:List AV},Z.h[i]? =some (some (.blk ci))→Z.h[j]? =some (some (.blk cj))→(Z.m i).1=some bi→(Z.m j).1=some bj→i≠j→bi≠bj:=fun h1 h2 h3 h4 hn he=>hn (hZ.inj _ _ _ ⟨_,h1⟩ ⟨_,h2⟩ h3 (he▸h4))
     have n52:=nn t5 t2 k5 k2 (by decide);have n53:=nn t5 t3 k5 k3 (by decide);have n54:=nn t5 t4 k5 k4 (by decide);have n23:=nn t2 t3 k2 k3 (by decide);have n24:=nn t2 t4 k2 k4 (by decide);have n34:=nn t3 t4 k3 k4 (by decide);refine (WB b5 b2 b3 b4 e' i x2 i0 e0 Z.w c5 c2 c3 c4 f2 f3 f4 n52 n53 n54 n23 n24 n34).mono ?_;rintro e3 u' w'' ⟨rfl,rfl,hw⟩;have SS:Step (X0.def_ [d]) Z:=aU.full (by show aU X0.h.length _ _;rw [hh];exact aU.trans hX0.def_ (aU.defs S) (aU.weak S2));have hnm: ∀ b, ¬ (X0.def_ [d]).mine b:=fun b ⟨i,⟨o,ho⟩,_⟩=>by
      have ho':X0.h[i]? =some (some o):=ho;rw [hh] at ho';simp at ho'
     have hB:Below X0.w.heap.size X0.w Z.w:=SS.below hnm;have ge: ∀ {i b:Nat} {c:List AV},Z.h[i]? =some (some (.blk c))→(Z.m i).1=some b→X0.w.heap.size≤b:=fun h1 h2=>(SS.own _ ⟨_,⟨_,h1⟩,h2⟩).elim id fun q=>absurd q (hnm _)
     have l2:=World.block_lt_of_cell? Z.w _ c2;have l3:=World.block_lt_of_cell? Z.w _ c3;have l4:=World.block_lt_of_cell? Z.w _ c4;simp only at l2 l3 l4;have hbel:Below X0.w.heap.size X0.w w'':=by
      rw [hw];exact ((((hB.alloc hB.size _).setCell (ge t2 k2) _).setCell (ge t3 k3) _).setCell (ge t4 k4) _).drew
     have p2:w''.cell? ⟨b2,0,none⟩=some (.slice none 0 0):=by
      rw [hw];show World.cell? (World.setCell (World.setCell (World.setCell _ _ _) _ _) _ _) _=_;rw [World.cell?_setCell_far _ _ _ _ (fun q=>n24 q.symm),World.cell?_setCell_far _ _ _ _ (fun q=>n23 q.symm)];exact World.cell?_setCell_same _ _ _ (by simp [go_sem,l2];exact c2)
     have p3:w''.cell? ⟨b3,0,none⟩=some (.int .i64 i):=by
      rw [hw];show World.cell? (World.setCell (World.setCell (World.setCell _ _ _) _ _) _ _) _=_;rw [World.cell?_setCell_far _ _ _ _ (fun q=>n34 q.symm)];exact World.cell?_setCell_same _ _ _ ((World.cell?_setCell_far _ _ _ _ n23).trans (by simp [go_sem,l3];exact c3))
     have p4:w''.cell? ⟨b4,0,none⟩=some (.int .i64 e'):=by
      rw [hw];show World.cell? (World.setCell (World.setCell (World.setCell _ _ _) _ _) _ _) _=_;exact World.cell?_setCell_same _ _ _ ((World.cell?_setCell_far _ _ _ _ n34).trans ((World.cell?_setCell_far _ _ _ _ n24).trans (by simp [go_sem,l4];exact c4)))
     have q4:=hEZ.rep 4;have q5:=hEZ.rep 5;have q6:=hEZ.rep 6;rw [u4] at q4;rw [u5] at q5;rw [u6] at q6;obtain ⟨d4,m4,w4⟩:=jH q4 t2;obtain ⟨d5,m5,w5⟩:=jH q5 t3;obtain ⟨d6,m6,w6⟩:=jH q6 t4;rw [k2] at m4;injection m4 with m4;subst m4;rw [k3] at m5;injection m5 with m5;subst m5;rw [k4] at m6;injection m6 with m6;subst m6;show Leaves _ _ _ _ [] (settle _) w'';refine ⟨.tuple #[.slice none 0 0, .int .i64 i, .int .i64 e'],?_,_,⟨w'',fun _=>(none,0),[],X0.bad,X0.ds⟩,typeA (iK me c ru),rfl,rfl,?_,?_,?_,rfl⟩
     ·rw [Array.getD_eq_getD_getElem?] at w4 w5 w6;simp [results,Tryz.results19,go_sem,w4,w5,w6,p2,p3,p4]
     ·have hlen0:X0.h.length=0:=by rw [hh];rfl
      refine ⟨hbel.os,hbel.tape,hbel.output,hbel.size,fun b hb _=>hbel.block b hb,fun b o y h1 h2=>⟨?_,h2⟩,by rw [hlen0];exact Nat.zero_le _,fun i _ _ _ _ hi=>by omega,fun i _ hi=>by omega,fun b ⟨j,⟨o,ho⟩,_⟩=>by simp at ho,fun b o h=> .inl h,fun i _ hi=>by omega,rfl⟩;have hlt:=dR h1;unfold cellAt World.cell? at h1 ⊢;rw [hbel.block b hlt];exact h1
     ·exact H6 rfl fun b o h=>Nat.lt_of_lt_of_le (hX0.eG b o h) hbel.size
     ·rw [hq];exact (show Wk (abw i e') (typeA ([],i,e')) from Wk.tup ⟨Wk.nil 2,Wk.refl _,Wk.refl _,trivial⟩) _ _ (.tup (cells:=[.v (.slice none 0 0), .v (.int .i64 i), .v (.int .i64 e')]) (cvs:=[_,_,_]) rfl (fun j a y h1 h2=>by
       match j with
       | 0=>simp at h1 h2;subst h1 h2;exact .v _
       | 1=>simp at h1 h2;subst h1 h2;exact .v _
       | 2=>simp at h1 h2;subst h1 h2;exact .v _
       | j+3=>simp at h1))
 ·intro Y e a S hY hE hq;have hds:a.defers=[]:=hE.defers.trans S.dse;have S0:Step (X0.def_ []) Y:=aU.full (by show aU X0.h.length _ _;rw [hh];exact S);show Leaves _ _ _ _ a.defers .returning Y.w;rw [hds];obtain ⟨r,r',h',h1,h2,i,e',hq2,rfl⟩:=hq;obtain ⟨v,q1,q2⟩:=yL (fn:=Tryz.f19) hY hE (by rw [Tryz.results19];exact h1);obtain ⟨Z,z1,z2,z3,z4,z5⟩:=qI Y r _ h' v hY h2 q2;refine ⟨v,q1,v,Z.def_ X0.ds,_,rfl,z1,(S0.trans hX1 z2).undef,z3.def_,(show Wk (abw i e') (typeA (iK me c ru)) from ?_) _ _ z5.def_,rfl⟩;rw [hq2];exact Wk.tup ⟨Wk.nil 2,Wk.refl _,Wk.refl _,trivial⟩
end
section
open Go.RowKit Wv
theorem WI {m:Nat} (es:mX):(∀ x:Value × AV,x∈nmE es→lo m x.2)=True:=eq_true fun a ha=> .clo (FT es _ (List.mem_map_of_mem ha))
theorem WJ:loL 8 nO=True:=eq_true (by simp only [Wv.BL, ↓reduceIte,Nat.reduceLeDiff];omega)
def naX (s:ByteArray):Ex:= .mk 1 s 0 0 (fun _=>0) 0 (fun _=> .nil)
def esS (N:Nat) (ln:Nat→ByteArray) (le:Nat→Ex):Nat→mX
 | 0=>[]
 | i+1=>FQ (esS N ln le i) (ln i) (nsX N (esS N ln le i) (le i))
def ltS (N:Nat) (ln:Nat→ByteArray) (le:Nat→Ex):Nat→List (Value × AV)
 | 0=>[]
 | i+1=>ltP (ltS N ln le i) (ln i) (nsX N (esS N ln le i) (le i)) N
def ndF (N:Nat) (c:Ci) (j:Nat):Nat:=whS 0 (fun q=>nsX N (esS N c.ln c.le c.nl) (naX (c.fo q)) j) c.no
def goD (c:Ci):Prop:=(∀ i,i<c.nl→okE (c.le i)∧goS (c.le i))∧c.no≤8
theorem Lp (s:ByteArray):goS (naX s):=⟨⟨by omega,by omega⟩,rfl,⟨by omega,by omega⟩,fun h=>absurd h (by decide),fun i hi=>absurd hi (Nat.not_lt_zero i)⟩
theorem Lr {N:Nat} (hN:4≤N) (hN3:N % 2=0) {ln:Nat→ByteArray} {le:Nat→Ex}: ∀ n,(∀ i,i<n→goS (le i))→Qv N (esS N ln le n) (ltS N ln le n)
 | 0,_=>⟨rfl,fun a h=>(by cases h),fun s f h=>(by cases h),fun s f h=>(by cases h)⟩
 | n+1,h=>by
  have ih:=Lr hN hN3 (ln:=ln) n fun i hi=>h i (by omega)
  exact ih.put (ln n) _ (FV hN hN3 ih.lt (le n) (h n (by omega)))
theorem QD (N:Nat) (c:Ci) (hN4:4≤N) (hN2:N≤32) (hN3:N % 2=0) (hok:okC c) (hg:goD c):TC Tryz.prog 98 [.v (.int .i64 N), .g (ciC c)] (seA N (ndF N c)):=by
 have hcc:=oG c;have hll:=Ap c;have hlc:=kE c;have hnl:=hok.nl;have hni:=hok.ni;obtain ⟨hle,hno⟩:=hg;have ai6:2 ^ N≤4294967296:=Nat.pow_le_pow_right (n:=2) (by omega) hN2;have hOk:=fun i (hi:i≤c.nl)=>Lr hN4 hN3 (ln:=c.ln) (le:=c.le) i fun a ha=>(hle a (by omega)).2
 have ai8:ndF N c=fun j=>whS 0 (fun q=>nsX N (esS N c.ln c.le c.nl) (naX (c.fo q)) j) c.no:=rfl
 generalize ndF N c=V at ai8 ⊢;unfold ciC cZ at*;obtain ⟨Cc,hCc⟩: ∃ C:List AV,C=[.v (.string c.name), .t c.ni 1 (tab c.ni fun i=> .v (.string (c.fi i))), .t c.nl 6 c.lets, .t c.no 1 (tab c.no fun i=> .v (.string (c.fo i)))]:=⟨_,rfl⟩
 rw [←hCc] at hcc;have half:(N:Int).tdiv 2=((N / 2:Nat):Int):=rfl;have hdr: ∀ i,i<c.nl→ ∃ r,List.drop (i*6) c.lets=jK (c.ln i) (c.le i)++r:=fun i hi=>eH (f:=fun i=>jK (c.ln i) (c.le i)) (fun i=>kD _ _) hi
 have hRD:=fun (es:mX) (M:List (Value × AV)) (hM:Qv N es M) (e:Ex) (h1:okE e) (h2:goS e) r=>RD.hN hcc hM.clo (ai5 N Cc es M hN4 hN2 hN3 hcc hM e h1 h2) r (eY e) (by rintro r rfl;exact yV _ _) (fun _ h=>h.elim)
 generalize c.lets=L at hll hlc hdr hCc ⊢;refine Wv.TC.by 82 [0,1,2,8,6,5,7,3,27,26,28,25,10,11,37,36,38,35,12,13,58,57,59,56,16,67,66,68,65,14,17,18,4] [] [.tmp 4] Tryz.func98 rfl rfl rfl ?clo ?_
 case clo=>exact yV _ _
 unfold hN at hRD;rw [hCc] at hRD;simp (disch:=first|exact Wv.D|fail) only [Wv.B,simprocAttr,half,NV,abt,NW,abu];refine dI (σ:=Nat) (fun i=>[(2, .ptr 0 0),(3, .ptr 1 0),(5, .ptr 3 0),(6, .ptr 5 0),(8, .ptr 7 0),(25, .t c.nl 6 L),(26, .v (.int .i64 c.nl)),(27, .v (.int .i64 i))])
  (fun i=>[some (.blk [.v (.int .i64 N)]),some (.blk [.v (.string c.name), .t c.ni 1 (tab c.ni fun i=> .v (.string (c.fi i))), .t c.nl 6 L, .t c.no 1 (tab c.no fun i=> .v (.string (c.fo i)))]),some (.map (ltS N c.ln c.le i)),some (.blk [.mp 2]),some (.map (nmE (esS N c.ln c.le i))),some (.blk [.mp 4]),some (.blk [.v (.int .i64 (N / 2:Nat))]),some (.blk [.fn (.func 136) [] nO])]) (fun i=>i≤c.nl) (fun i=>c.nl - i) 0 (Nat.zero_le _) rfl Wv.V ?_
 intro i hi;have hM:=hOk i hi;by_cases hlt:i<c.nl
 ·have e1:(i:Int)<c.nl:=by omega
  obtain ⟨r2,hd⟩:=hdr i hlt;have hE:=hRD _ _ hM (c.le i) (hle i hlt).1 (hle i hlt).2;have hG:=eY (c.le i);have hGl:=uQ (c.ln i) (c.le i);obtain ⟨k',s',n',nl',li',na',ar',hy⟩:=kU (hle i hlt).1;have hy2:exC (c.le i)=_:=(congrArg exC hy).trans (dJ k' s' n' nl' li' na' ar');have hes:esS N c.ln c.le (i+1)=FQ (esS N c.ln c.le i) (c.ln i) (nsX N (esS N c.ln c.le i) (c.le i)):=rfl;have hls:ltS N c.ln c.le (i+1)=ltP (ltS N c.ln c.le i) (c.ln i) (nsX N (esS N c.ln c.le i) (c.le i)) N:=rfl;have hput:=Ws (c.ln i) (nsX N (esS N c.ln c.le i) (c.le i)) (esS N c.ln c.le i);rw [←hes] at hput;generalize nsX N (esS N c.ln c.le i) (c.le i)=W at*;have hup:=fun j=>Qw (FW (s:=c.ln i) (f:=W) hM.kb j) (c.ln i) j (.v (.int .u32 (W j)))
  have hup': ∀ j,iP (pkV (c.ln i) j) (.v (.int .u32 (W j))) (ltP (ltS N c.ln c.le i) (c.ln i) W j)=ltP (ltS N c.ln c.le i) (c.ln i) W (j+1):=fun _=>rfl
  have hMl: ∀ m:Nat,(∀ x:Value × AV,x∈ltP (ltS N c.ln c.le i) (c.ln i) W N→lo m x.2)=True:=fun m=>eq_true fun a ha=> .clo (FX hM.clo N _ (List.mem_map_of_mem ha))
  have ai9: ∀ m:Nat,(∀ x:Value × AV,x∈ltS N c.ln c.le (i+1)→lo m x.2)=True:=fun m=>by rw [hls];exact hMl m
  unfold jK at hd hGl;rw [hy2] at hd hE hG hGl;simp only [List.cons_append,List.nil_append] at hd;unfold seA at hE;simp (disch:=first|exact Wv.D|fail) only [Wv.B,simprocAttr,ah e1,hd,NV,abt,NW,abu];refine aI (fst:=[]) (cap:=nO) (hE _) ?_ (by rintro av h' ⟨h,_⟩;exact h.elim);rintro av h' ⟨rfl,rfl⟩;refine Wv.W ?_;refine dI (σ:=Nat) (fun j=>[(2, .ptr 0 0),(3, .ptr 1 0),(5, .ptr 3 0),(6, .ptr 5 0),(8, .ptr 7 0),(10, .ptr 8 0),(25, .t c.nl 6 L),(26, .v (.int .i64 c.nl)),(27, .v (.int .i64 i)),(35, .t N 1 (tab N fun j=> .v (.int .u32 (W j)))),(36, .v (.int .i64 N)),(37, .v (.int .i64 j))])
   (fun j=>[some (.blk [.v (.int .i64 N)]),some (.blk [.v (.string c.name), .t c.ni 1 (tab c.ni fun i=> .v (.string (c.fi i))), .t c.nl 6 L, .t c.no 1 (tab c.no fun i=> .v (.string (c.fo i)))]),some (.map (ltP (ltS N c.ln c.le i) (c.ln i) W j)),some (.blk [.mp 2]),some (.map (nmE (esS N c.ln c.le i))),some (.blk [.mp 4]),some (.blk [.v (.int .i64 (N / 2:Nat))]),some (.blk [.fn (.func 136) [] nO]),some (.blk [.v (.string (c.ln i)), .v (.int .i64 k'), .v (.string s'), .v (.int .i64 n'), .t nl' 1 (tab nl' fun i=> .v (.int .i64 (li' i))), .t na' 5 (gI na' fun i=>exC (ar' i))])]) (fun j=>j≤N) (fun j=>N - j) 0 (Nat.zero_le _) rfl Wv.V ?_
  intro j hj;by_cases Jg:j<N
  ·have e2:(j:Int)<N:=by omega
   simp (disch:=first|exact Wv.D|fail) only [Wv.B,simprocAttr,ah e2,hup,hup'];refine aJ (j+1) (by omega) (by omega) rfl Wv.V2
  ·obtain rfl:j=N:=by omega
   simp (disch:=first|exact Wv.D|fail) only [Wv.B,simprocAttr,Int.lt_irrefl,decide_false,NU,hput];refine Wv.lI (i+1) 8 (by first | decide | exact Nat.le_of_ble_eq_true rfl) (by omega) (by omega) (by simp (disch:=first|exact Wv.D|fail) only [Wv.B,simprocAttr,dN,hls]) (by simp (disch:=first|exact Wv.D|fail) only [Wv.B,simprocAttr,Int.natCast_add,Int.natCast_one,hls]) (by simp only [Wv.BL, ↓reduceIte,Nat.reduceLeDiff,eq_true hlc,WI,ai9,WJ]<;>omega) (by simp only [Wv.BL, ↓reduceIte,Nat.reduceLeDiff,eq_true hlc,WI,ai9,WJ]<;>omega)
 ·obtain rfl:i=c.nl:=by omega
  clear hlt;have h0:(tab N fun _=>AV.v (.int .u32 0))=tab N fun a=>AV.v (.int .u32 (whS 0 (fun q=>nsX N (esS N c.ln c.le c.nl) (naX (c.fo q)) a) 0)):=rfl
  simp (disch:=first|exact Wv.D|fail) only [Wv.B,simprocAttr,Int.lt_irrefl,decide_false];refine dI (σ:=Nat) (fun i=>[(8, .ptr 7 0),(14, .own 8 N),(56, .t c.no 1 (tab c.no fun i=> .v (.string (c.fo i)))),(57, .v (.int .i64 c.no)),(58, .v (.int .i64 i))])
   (fun i=>[some (.blk [.v (.int .i64 N)]),some (.blk [.v (.string c.name), .t c.ni 1 (tab c.ni fun i=> .v (.string (c.fi i))), .t c.nl 6 L, .t c.no 1 (tab c.no fun i=> .v (.string (c.fo i)))]),some (.map (ltS N c.ln c.le c.nl)),some (.blk [.mp 2]),some (.map (nmE (esS N c.ln c.le c.nl))),some (.blk [.mp 4]),some (.blk [.v (.int .i64 (N / 2:Nat))]),some (.blk [.fn (.func 136) [] nO]),some (.arr 149 1 (tab N fun a=> .v (.int .u32 (whS 0 (fun q=>nsX N (esS N c.ln c.le c.nl) (naX (c.fo q)) a) i))) 0)]) (fun i=>i≤c.no) (fun i=>c.no - i) 0 (Nat.zero_le _) rfl Wv.V ?_
  intro i hi2;by_cases hlt:i<c.no
  ·have e1:(i:Int)<c.no:=by omega
   have hlN:=FV hN4 hN3 hM.lt;have hE:=fun r=>(hRD _ _ hM (naX (c.fo i)) ⟨hok.fo i hlt,Nat.zero_le _,Nat.zero_le _,fun a h=>absurd h (Nat.not_lt_zero a)⟩ (Lp _) r).wk (args:= .g [.v (.int .i64 1), .v (.string (c.fo i)), .v (.int .i64 0), .v (.slice none 0 0), .v (.slice none 0 0)]::nO)
    ⟨Wk.g ⟨.refl _, .refl _, .refl _,Wk.nil 1,Wk.nil 5,trivial⟩, .refl _, .refl _, .refl _, .refl _, .refl _,trivial⟩
   unfold seA at hE;obtain ⟨F,hF⟩: ∃ F:Nat→Nat→Nat,F=fun q=>nsX N (esS N c.ln c.le c.nl) (naX (c.fo q)):=⟨_,rfl⟩
   have hFi:nsX N (esS N c.ln c.le c.nl) (naX (c.fo i))=F i:=by rw [hF]
   have hFt:(tab N fun a=>AV.v (.int .u32 (whS 0 (fun q=>nsX N (esS N c.ln c.le c.nl) (naX (c.fo q)) a) i)))=tab N fun a=> .v (.int .u32 (whS 0 (fun q=>F q a) i)):=by rw [hF]
   have hFu:(tab N fun a=>AV.v (.int .u32 (whS 0 (fun q=>nsX N (esS N c.ln c.le c.nl) (naX (c.fo q)) a) (i+1))))=tab N fun a=> .v (.int .u32 (whS 0 (fun q=>F q a) (i+1))):=by rw [hF]
   have aja: ∀ q a,a<N→F q a<2 ^ N:=fun q a ha=>by rw [hF];exact hlN (naX (c.fo q)) (Lp _) a ha
   rw [hFi] at hE;rw [hFt];have hMl: ∀ m:Nat,(∀ x:Value × AV,x∈ltS N c.ln c.le c.nl→lo m x.2)=True:=fun m=>eq_true fun a ha=> .clo (hM.clo _ (List.mem_map_of_mem ha))
   simp (disch:=first|exact Wv.D|fail) only [Wv.B,simprocAttr,ah e1,NV,abt,NW,abu];refine aI (fst:=[]) (cap:=nO) (hE _) ?_ (by rintro av h' ⟨h,_⟩;exact h.elim);rintro av h' ⟨rfl,rfl⟩;have h1:(tab N fun a=>AV.v (.int .u32 (if a<0 then whS 0 (fun q=>F q a) (i+1) else whS 0 (fun q=>F q a) i)))=tab N fun a=>AV.v (.int .u32 (whS 0 (fun q=>F q a) i)):=aC fun a _=>by rw [if_neg (Nat.not_lt_zero a)]
   refine Wv.W ?_;refine dI (σ:=Nat) (fun j=>[(8, .ptr 7 0),(14, .own 8 N),(56, .t c.no 1 (tab c.no fun i=> .v (.string (c.fo i)))),(57, .v (.int .i64 c.no)),(58, .v (.int .i64 i)),(65, .t N 1 (tab N fun j=> .v (.int .u32 (F i j)))),(66, .v (.int .i64 N)),(67, .v (.int .i64 j))])
    (fun j=>[some (.blk [.v (.int .i64 N)]),some (.blk [.v (.string c.name), .t c.ni 1 (tab c.ni fun i=> .v (.string (c.fi i))), .t c.nl 6 L, .t c.no 1 (tab c.no fun i=> .v (.string (c.fo i)))]),some (.map (ltS N c.ln c.le c.nl)),some (.blk [.mp 2]),some (.map (nmE (esS N c.ln c.le c.nl))),some (.blk [.mp 4]),some (.blk [.v (.int .i64 (N / 2:Nat))]),some (.blk [.fn (.func 136) [] nO]),some (.arr 149 1 (tab N fun a=> .v (.int .u32 (if a<j then whS 0 (fun q=>F q a) (i+1) else whS 0 (fun q=>F q a) i))) 0)]) (fun j=>j≤N) (fun j=>N - j) 0 (Nat.zero_le _) (by simp (disch:=first|exact Wv.D|fail) only [Wv.B,simprocAttr,h1]) Wv.V ?_
   intro j hj;by_cases Jg:j<N
   ·have e2:(j:Int)<N:=by omega
    have w1:whS 0 (fun q=>F q j) i<2 ^ N:=wP (Nat.two_pow_pos N) fun a _=>aja a j Jg
    have w2:=aja i j Jg;have ho:=Wy (whS 0 (fun q=>F q j) i) (F i j) (by omega) (by omega);have hws:whS 0 (fun q=>F q j) (i+1)=whS 0 (fun q=>F q j) i ||| F i j:=rfl
    rw [←hws] at ho;have h8:(tab N fun a=>if a=j then AV.v (.int .u32 (whS 0 (fun q=>F q j) (i+1))) else AV.v (.int .u32 (if a<j then whS 0 (fun q=>F q a) (i+1) else whS 0 (fun q=>F q a) i)))=tab N fun a=>AV.v (.int .u32 (if a<j+1 then whS 0 (fun q=>F q a) (i+1) else whS 0 (fun q=>F q a) i)):=aC fun a ha=>by
     by_cases q:a=j
     ·subst q;rw [if_pos rfl,if_pos (by omega)]
     ·by_cases q2:a<j
      ·rw [if_neg q,if_pos q2,if_pos (by omega)]
      ·rw [if_neg q,if_neg q2,if_neg (by omega)]
    simp (disch:=first|exact Wv.D|fail) only [Wv.B,simprocAttr,ah e2,Nat.lt_irrefl,if_false,ho,dF,h8];refine aJ (j+1) (by omega) (by omega) rfl Wv.V2
   ·obtain rfl:j=N:=by omega
    have h9:(tab j fun a=>AV.v (.int .u32 (if a<j then whS 0 (fun q=>F q a) (i+1) else whS 0 (fun q=>F q a) i)))=tab j fun a=>AV.v (.int .u32 (whS 0 (fun q=>F q a) (i+1))):=aC fun a ha=>by rw [if_pos ha]
    simp (disch:=first|exact Wv.D|fail) only [Wv.B,simprocAttr,Int.lt_irrefl,decide_false,h9];refine aJ (i+1) (by omega) (by omega) (by simp (disch:=first|exact Wv.D|fail) only [Wv.B,simprocAttr,hFu]) Wv.V2
  ·obtain rfl:i=c.no:=by omega
   simp (disch:=first|exact Wv.D|fail) only [Wv.B,simprocAttr,Int.lt_irrefl,decide_false,seA,ai8]
end
section
open Go.RowKit Wv
def qm (t:Int) (nl:Nat) (li:Nat→Int) (least most:Int):Bool:=decide (least≤(nl:Int)) && (decide ((nl:Int)≤most) && !bf nl fun i=>!vw t (li i))
theorem Jj (x:Par) (t:Int) (ns:Nms) (n:Int) (hn:inB n=true) (ht:1≤t) (ht':t≤4611686018427387904):
  HT Tryz.prog 239 [.v (.int .i64 n), .ptr 2 0] (hT x t ns++[some (.blk [.ptr 0 0])]) (fun r h'=>r= .v (.bool (!vw t n))∧h'=hT x t ns++[some (.blk [.ptr 0 0])]):=by
 have hE:=RD.hT (NQ x t ns n hn ht ht');generalize vw t n=b at*;unfold hT tyC at*;simp only [List.cons_append,List.nil_append] at*;refine Wv.HT.by 8 [1,0,3] [(1000000,3)] [.tmp 3] Tryz.func239 rfl rfl rfl ?base ?_
 case base=>rfl
 refine Wv.W ?_;refine aI (fst:=[]) (cap:=[]) (hE _ Wv.c (by rintro r rfl;simp only [Wv.BC]) (by rintro r h;exact h.elim)) ?_ (by rintro av h' ⟨h,_⟩;exact h.elim);rintro av h' ⟨rfl,rfl⟩;exact Wv.V
theorem BH (x:Par) (t:Int) (ns:Nms) (nl:Nat) (li:Nat→Int) (least most:Int) (hn:nl≤140737488351232) (hin: ∀ i,i<nl→inB (li i)=true) (ht:1≤t) (ht':t≤4611686018427387904):
  RD Tryz.prog 213 [.ptr 0 0, .t nl 1 (tab nl fun i=> .v (.int .i64 (li i))), .v (.int .i64 least), .v (.int .i64 most)] (hT x t ns) (fun r=>qm t nl li least most=true∧r= .tup []) (fun r=>qm t nl li least most=false∧r=kJ 233):=by
 refine RD.of ?_ (fun r q=>q.2▸ .clo Wv.c) (fun r q=>q.2▸ .clo (gU 233)) (Ja x t ns);have hC:=wE (h:=hT x t ns++[(some (Ob.blk [AV.ptr 0 0]):Option Ob)]) nl li (fun i=>!vw t (li i)) 239 [] [.ptr 2 0] hn (fun i hi=>Jj x t ns (li i) (hin i hi) ht ht');have hL:qm t nl li least most=(decide (least≤(nl:Int)) && (decide ((nl:Int)≤most) && !bf nl fun i=>!vw t (li i))):=rfl;generalize (bf nl fun i=>!vw t (li i))=b at*;generalize qm t nl li least most=B at*;unfold hT tyC at*;simp only [List.cons_append,List.nil_append] at*;refine Wv.HTP.by 27 [0,4,1,2,3,8] [(1000000,2)] [] Tryz.func213 rfl rfl rfl ?base ?_
 case base=>rfl
 cases h1:decide (least≤(nl:Int))
 ·rw [h1,Bool.false_and] at hL;simp (disch:=first|exact Wv.D|fail) only [Wv.B,simprocAttr,h1];refine aI (fst:=[]) (cap:=[]) (bg _ 233) (by rintro av h' ⟨hb,_⟩;cases hb) ?_;rintro av h' ⟨_,rfl,rfl⟩;simp (disch:=first|exact Wv.D|fail) only [Wv.B,simprocAttr,bI];exact hL
 cases h2:decide ((nl:Int)≤most)
 ·rw [h1,h2,Bool.false_and,Bool.and_false] at hL;simp (disch:=first|exact Wv.D|fail) only [Wv.B,simprocAttr,h1,h2];refine aI (fst:=[]) (cap:=[]) (bg _ 233) (by rintro av h' ⟨hb,_⟩;cases hb) ?_;rintro av h' ⟨_,rfl,rfl⟩;simp (disch:=first|exact Wv.D|fail) only [Wv.B,simprocAttr,bI];exact hL
 rw [h1,h2,Bool.true_and,Bool.true_and] at hL;simp (disch:=first|exact Wv.D|fail) only [Wv.B,simprocAttr,h1,h2];refine bZ (fst:=[]) (cap:=[]) hC ?_;rintro av h' ⟨rfl,rfl⟩;refine Wv.W ?_;refine aI (fst:=[]) (cap:=[]) (bg _ 233) ?_ ?_
 ·rintro av h' ⟨hb,rfl,rfl⟩;refine Wv.W ?_;exact hL.trans hb
 ·rintro av h' ⟨hb,rfl,rfl⟩;simp (disch:=first|exact Wv.D|fail) only [Wv.B,simprocAttr,bI];exact hL.trans hb
theorem tJ {h:Hp} (e:Int):HTP Tryz.prog 66 [.v (.bool true), .v (.int .i64 e)] h (fun r h'=>r= .tup []∧h'=h) (fun _ _=>False):=
 (bg true e).mono (fun _ _ q=>q.2) (fun _ _ q=>by cases q.1)
theorem qQ {h:Hp} (e:Int) (res:AV):HTP Tryz.prog 66 [.v (.bool false), .v (.int .i64 e)] h (fun r h'=>r=res∧h'=h) (fun r h'=>r=kJ e∧h'=h):=
 (bg false e).mono (fun _ _ q=>by cases q.1) (fun _ _ q=>q.2)
theorem yh (x:Par) (t:Int) (ns:Nms) (nl:Nat) (li:Nat→Int) (least most:Int) (hn:nl≤140737488351232) (hin: ∀ i,i<nl→inB (li i)=true) (ht:1≤t) (ht':t≤4611686018427387904) (hb:qm t nl li least most=true) (r:Hp):
  HTP Tryz.prog 213 [.ptr 0 0, .t nl 1 (tab nl fun i=> .v (.int .i64 (li i))), .v (.int .i64 least), .v (.int .i64 most)] (some (.blk (tyC x t))::some (.map (nsE ns))::r) (fun q h'=>q= .tup []∧h'=some (.blk (tyC x t))::some (.map (nsE ns))::r) (fun _ _=>False):=
 (RD.hT (BH x t ns nl li least most hn hin ht ht') r Wv.c (by rintro r ⟨_,rfl⟩;simp only [Wv.BC]) (by rintro r ⟨_,rfl⟩;exact gU 233)).mono (fun _ _ q=>⟨q.1.2,q.2⟩) (fun _ _ q=>by rw [hb] at q;cases q.1.1)
theorem BI (x:Par) (t:Int) (ns:Nms) (nl:Nat) (li:Nat→Int) (least most:Int) (hn:nl≤140737488351232) (hin: ∀ i,i<nl→inB (li i)=true) (ht:1≤t) (ht':t≤4611686018427387904) (hb:qm t nl li least most=false) (res:AV) (r:Hp):
  HTP Tryz.prog 213 [.ptr 0 0, .t nl 1 (tab nl fun i=> .v (.int .i64 (li i))), .v (.int .i64 least), .v (.int .i64 most)] (some (.blk (tyC x t))::some (.map (nsE ns))::r) (fun q h'=>q=res∧h'=some (.blk (tyC x t))::some (.map (nsE ns))::r) (fun q h'=>q=kJ 233∧h'=some (.blk (tyC x t))::some (.map (nsE ns))::r):=
 (RD.hT (BH x t ns nl li least most hn hin ht ht') r Wv.c (by rintro r ⟨_,rfl⟩;simp only [Wv.BC]) (by rintro r ⟨_,rfl⟩;exact gU 233)).mono (fun _ _ q=>by rw [hb] at q;cases q.1.1) (fun _ _ q=>⟨q.1.2,q.2⟩)
theorem FZ (x:Par) (t:Int) (ns:Nms) (k:Int) (s:ByteArray) (n:Int) (nl:Nat) (li:Nat→Int) (na:Nat) (ar:Nat→Ex) (unk:Nat) (hn:nl≤140737488351232) (hin: ∀ i,i<nl→inB (li i)=true) (ht:1≤t) (ht':t≤4611686018427387904):
  iJ x t ns 165 (.mk k s n nl li na ar) unk (if qm t nl li 0 x.n=true then .ok 0 else .error 233):=by
 refine iJ.of ?_;have hY:=yh x t ns nl li 0 x.n hn hin ht ht';have hZ:=BI x t ns nl li 0 x.n hn hin ht ht';generalize qm t nl li 0 x.n=b at*;rw [dJ];have hM:=eX (n:=na) (f:=fun i=>exC (ar i)) fun i _=>gZ (ar i)
 generalize gI na (fun i=>exC (ar i))=M at*;unfold hT tyC at*;obtain ⟨c,hc⟩: ∃ c:Nat,c=if b=true then 0 else 1:=⟨_,rfl⟩
 refine Wv.HTP.by 16 [1,0,4,6] [(1,9),(1000000,2),(4000001,c)] [.tmp 6] Tryz.func165 rfl rfl rfl ?base ?_
 case base=>rfl
 cases b with
 | false=>
  have hc1:c=1:=hc;refine Wv.W ?_;refine bU (fst:=[]) (cap:=[]) (hZ rfl (.t 1 1 []) _) ?_ ?_
  ·simp (disch:=first|exact Wv.D|fail) only [Wv.B,simprocAttr,hc1];exact ⟨8,_,_,rfl,rfl,rfl,rfl,rfl⟩
  ·rintro av h' ⟨rfl,rfl⟩;simp (disch:=first|exact Wv.D|fail) only [Wv.B,simprocAttr,bI];exact ⟨233,rfl,rfl⟩
 | true=>
  have hc1:c=0:=hc;refine Wv.W ?_;refine bU (fst:=[]) (cap:=[]) (hY rfl _) ?_ (fun _ _ q=>q.elim);simp (disch:=first|exact Wv.D|fail) only [Wv.B,simprocAttr,hc1];exact ⟨0,rfl,rfl⟩
def Ls (n:Int):Bool:=!decide (n=0) && !decide (n=1)
theorem QE (n:Int):TC Tryz.prog 214 [.v (.int .i64 n)] (.v (.bool (Ls n))):=by
 refine Wv.TC.by 9 [0,2] [] [.tmp 2] Tryz.func214 rfl rfl rfl ?clo ?_
 case clo=>simp only [Wv.BC]
 unfold Ls;cases h1:decide (n=0)
 ·simp (disch:=first|exact Wv.D|fail) only [Wv.B,simprocAttr,h1]
 ·simp (disch:=first|exact Wv.D|fail) only [Wv.B,simprocAttr,h1]
def Jk (x:Par) (n:Int):Bool:=decide (0≤n) && decide (n<x.n / 2)
theorem QF (x : Par) (t : Int) (ns : Nms) (k : Int) (s : ByteArray) (n : Int) (nl : Nat) (li : Nat → Int) (na : Nat) (ar : Nat → Ex) (unk : Nat) (hN : 0 ≤ x.n) (hN' : x.n ≤ 4611686018427387904) :
    iJ x t ns 167 (.mk k s n nl li na ar) unk (if Jk x n = true then .ok 0 else .error 233) := by
  refine iJ.of ?_;have hb : Jk x n = (decide (0 ≤ n) && decide (n < x.n / 2)) := rfl;generalize Jk x n = b at *;rw [dJ];have hM := eX (n := na) (f := fun i => exC (ar i)) fun i _ => gZ (ar i)
  generalize gI na (fun i => exC (ar i)) = M at *;unfold hT tyC at *;obtain ⟨c, hc⟩ : ∃ c : Nat, c = if b = true then 0 else 1 := ⟨_, rfl⟩
  refine Wv.HTP.by 22 [1, 4, 0, 6] [(1, 15), (1000000, 2), (4000001, c)] [.tmp 6] Tryz.func167 rfl rfl rfl ?base ?_
  case base => rfl
  have hq : x.n.tdiv 2 = x.n / 2 := Int.tdiv_eq_ediv_of_nonneg hN;cases h1 : decide (0 ≤ n) <;> cases h2 : decide (n < x.n / 2);all_goals
    rw [h1, h2] at hb;simp (disch:=first|exact Wv.D|fail) only [Wv.B, simprocAttr, hq, h1, h2];first
    | (have hbt : b = true := hb
       subst hbt;have hc1 : c = 0 := hc;refine bU (fst := []) (cap := []) (tJ 233) ?_ (fun _ _ q => q.elim);simp (disch:=first|exact Wv.D|fail) only [Wv.B, simprocAttr, hc1];exact ⟨0, rfl, rfl⟩)
    | (have hbt : b = false := hb
       subst hbt;have hc1 : c = 1 := hc;refine bU (fst := []) (cap := []) (qQ 233 (.t 1 1 [])) ?_ ?_
       · simp (disch:=first|exact Wv.D|fail) only [Wv.B, simprocAttr, hc1]
         exact ⟨14, _, _, rfl, rfl, rfl, rfl, rfl⟩
       · rintro av h' ⟨rfl, rfl⟩
         simp (disch:=first|exact Wv.D|fail) only [Wv.B, simprocAttr, bI];exact ⟨233, rfl, rfl⟩)
def acF (nl:Nat) (li:Nat→Int):Bool:=!bf nl fun i=>Ls (li i)
def yj (x:Par) (nl:Nat) (li:Nat→Int):Bool:=decide ((nl:Int)≤x.n) && acF nl li
theorem Lu (x:Par) (t:Int) (ns:Nms) (k:Int) (s:ByteArray) (n:Int) (nl:Nat) (li:Nat→Int) (na:Nat) (ar:Nat→Ex) (unk:Nat) (hn:nl≤140737488351232):
  iJ x t ns 168 (.mk k s n nl li na ar) unk (if yj x nl li=true then .ok 0 else .error 233):=by
 refine iJ.of ?_;have hb:yj x nl li=(decide ((nl:Int)≤x.n) && !bf nl fun i=>Ls (li i)):=rfl;have hC:=fun h=>(wE (h:=h) nl li (fun i=>Ls (li i)) 214 [] [] hn (fun i hi=>HT.NC (QE (li i)) rfl Wv.c Wv.c)).toP (fun _ _=>False)
 generalize yj x nl li=b at*;generalize (bf nl fun i=>Ls (li i))=b2 at*;rw [dJ];have hM:=eX (n:=na) (f:=fun i=>exC (ar i)) fun i _=>gZ (ar i)
 generalize gI na (fun i=>exC (ar i))=M at*;unfold hT tyC at*;obtain ⟨c,hc⟩: ∃ c:Nat,c=if b=true then 0 else 1:=⟨_,rfl⟩
 refine Wv.HTP.by 25 [1,4,0,7,6] [(2,17),(1000000,2),(4000002,c)] [.tmp 6] Tryz.func168 rfl rfl rfl ?base ?_
 case base=>rfl
 cases h1:decide ((nl:Int)≤x.n)
 ·rw [h1] at hb;have hbt:b=false:=hb;subst hbt;have hc1:c=1:=hc;simp (disch:=first|exact Wv.D|fail) only [Wv.B,simprocAttr,h1];refine bU (fst:=[]) (cap:=[]) (qQ 233 (.t 1 1 [])) ?_ ?_
  ·simp (disch:=first|exact Wv.D|fail) only [Wv.B,simprocAttr,hc1];exact ⟨16,_,_,rfl,rfl,rfl,rfl,rfl⟩
  ·rintro av h' ⟨rfl,rfl⟩;simp (disch:=first|exact Wv.D|fail) only [Wv.B,simprocAttr,bI];exact ⟨233,rfl,rfl⟩
 ·rw [h1] at hb;simp (disch:=first|exact Wv.D|fail) only [Wv.B,simprocAttr,h1];refine bU (fst:=[]) (cap:=[]) (hC _) ?_ (fun _ _ q=>q.elim);cases b2 with
  | false=>
   have hbt:b=true:=hb;subst hbt;have hc1:c=0:=hc;refine Wv.W ?_;refine bU (fst:=[]) (cap:=[]) (tJ 233) ?_ (fun _ _ q=>q.elim);simp (disch:=first|exact Wv.D|fail) only [Wv.B,simprocAttr,hc1];exact ⟨0,rfl,rfl⟩
  | true=>
   have hbt:b=false:=hb;subst hbt;have hc1:c=1:=hc;refine Wv.W ?_;refine bU (fst:=[]) (cap:=[]) (qQ 233 (.t 1 1 [])) ?_ ?_
   ·simp (disch:=first|exact Wv.D|fail) only [Wv.B,simprocAttr,hc1];exact ⟨16,_,_,rfl,rfl,rfl,rfl,rfl⟩
   ·rintro av h' ⟨rfl,rfl⟩;simp (disch:=first|exact Wv.D|fail) only [Wv.B,simprocAttr,bI];exact ⟨233,rfl,rfl⟩
theorem Jl (x:Par) (t:Int) (ns:Nms) (k:Int) (s:ByteArray) (n:Int) (nl:Nat) (li:Nat→Int) (na:Nat) (ar:Nat→Ex) (unk:Nat) (ht:1≤t) (ht':t≤4611686018427387904):
  iJ x t ns 172 (.mk k s n nl li na ar) unk (if x.r=1 then .ok (jS (t - 1)) else .error 231):=by
 refine iJ.of ?_;rw [dJ];have hM:=eX (n:=na) (f:=fun i=>exC (ar i)) fun i _=>gZ (ar i)
 generalize gI na (fun i=>exC (ar i))=M at*;unfold hT tyC at*;have T:=qM (t - 1) (by omega);generalize jS (t - 1)=st at*;refine Wv.HTP.by 20 [1,0,6] [(1000000,2)] [.tmp 6] Tryz.func172 rfl rfl rfl ?base ?_
 case base=>rfl
 by_cases hr:x.r=1
 ·simp (disch:=first|exact Wv.D|fail) only [Wv.B,simprocAttr,ah hr];refine aI (fst:=[]) (cap:=[]) (bg _ 231) ?_ (by rintro av h' ⟨hb,_⟩;simp [hr] at hb);rintro av h' ⟨_,rfl,rfl⟩;refine Wv.W ?_;refine aA T rfl Wv.c Wv.c ?_;simp (disch:=first|exact Wv.D|fail) only [Wv.B,simprocAttr,if_pos hr];exact ⟨_,rfl,rfl⟩
 ·simp (disch:=first|exact Wv.D|fail) only [Wv.B,simprocAttr,aj hr];refine aI (fst:=[]) (cap:=[]) (bg _ 231) (by rintro av h' ⟨hb,_⟩;simp [hr] at hb) ?_;rintro av h' ⟨_,rfl,rfl⟩;simp (disch:=first|exact Wv.D|fail) only [Wv.B,simprocAttr,bI,if_neg hr];exact ⟨_,rfl,rfl⟩
end
end Go.Proofs.YtljfgdlgmdcmfaaGreat
namespace Go.Proofs.YtljfgdlgmdcmfaaGreat.Wv
section
open Go.RowKit
abbrev Rnd (l:Nat):Fence:=Fence.wide.inRound l
def noD (o:Oper):Bool:=match o.op with
 | .defer _=>false
 | _=>true
def inB:Code→Bool
 | .region _ ops _=>ops.toList.all noD
 | .seq a b=>inB a && inB b
 | .cond _ a b=>inB a && inB b
 | .block _ b=>inB b
 | .loop b=>inB b
 | .scope _=>false
 | .rangeFunc .. =>false
 | _=>true
theorem WL {o:Oper} (h:noD o=true): ∀ c,o.op≠ .defer c:=fun c e=>by unfold noD at h;rw [e] at h;cases h
theorem acG {P : Program} {o : Oper} {a : Act} {w : World} {next : Act → World → Prop} {Q : Exit → Act → World → Prop} {l n : Nat} (hd : ∀ c, o.op ≠ .defer c) (h : o.wp P a w next Q) : o.wpIn (Rnd l) n P a w next Q := by
  refine ⟨fun _ _ => trivial, ?_⟩;rw [Oper.semAt_eq _ _ _ hd];unfold Oper.wp at h;revert h;cases (execOp a.eval o).run P w with
  | ok x w' =>
    cases x <;> simp only [Oper.upon, Oper.uponIn] <;> intro h <;> first
      | exact h
      | exact h.elim
      | exact And.intro (fun e => by cases e) ((((callsIn_wide (n := n - 1)).2 h).inRound l).mono (fun e w'' q => by cases e <;> exact q))
      | (refine And.intro (fun e => by cases e) (fun c cs _ => ?_)
         obtain ⟨v, w', r, s⟩ := h c cs;exact ⟨v, w', r, stepsIn_wide.2 s⟩)
  | halt x w' => cases x <;> simp only [Oper.upon, Oper.uponIn] <;> intro h <;> first | exact h | exact h.elim
theorem F5 {P:Program} {ops:Array Oper} {Q:Exit→Act→World→Prop} {r n:Nat} (hd:ops.toList.all noD=true) (hQ: ¬ LetsOut Q): ∀ (l:List Nat) (a:Act) (w:World),wpOps P ops Q l a w→wpOpsIn (Rnd r) n P ops Q l a w
 | [],a,w,h=>h
 | i::l,a,w,h=>by
  rw [wpOps_cons] at h;rw [wpOpsIn_cons];unfold wpOp at h;unfold wpOpIn;split at h
  ·next ho=>simp only [ho];exact F5 hd hQ l a w h
  ·next o ho=>
   simp only [ho];split at h
   ·next hw=>
    rw [if_pos hw];rcases h with h | h
    ·refine acG (WL (List.all_eq_true.1 hd o (List.mem_of_getElem? (i:=i) (by rw [Array.getElem?_toList];exact ho)))) ?_;exact Oper.wp_mono (fun a w q=>F5 hd hQ l a w q) h
    ·exact absurd h.2 hQ
   ·next hw=>rw [if_neg hw];exact ⟨fun _ _=>trivial,F5 hd hQ l _ w h⟩
theorem F6 {P:Program} {ops:Array Oper} {Q:Exit→Act→World→Prop} {r n:Nat} (hd:ops.toList.all noD=true) (hQ: ¬ LetsOut Q): ∀ (f:Nat) (listed:Array Bool) (a:Act) (w:World),wpAny P .any ops Q f listed a w→wpAnyIn (Rnd r) n P .any ops Q f listed a w
 | 0,listed,a,w,h=>h
 | f+1,listed,a,w,h=>by
  refine ⟨h.1,fun i hi=>?_⟩;have h:=h.2 i hi;unfold wpOp at h;unfold wpOpIn;split at h
  ·next ho=>simp only [ho];exact F6 hd hQ f _ a w h
  ·next o ho=>
   simp only [ho];split at h
   ·next hw=>
    rw [if_pos hw];rcases h with h | h
    ·refine acG (WL (List.all_eq_true.1 hd o (List.mem_of_getElem? (i:=i) (by rw [Array.getElem?_toList];exact ho)))) ?_;exact Oper.wp_mono (fun a w q=>F6 hd hQ f _ a w q) h
    ·exact absurd h.2 hQ
   ·next hw=>rw [if_neg hw];exact ⟨fun _ _=>trivial,F6 hd hQ f _ _ w h⟩
theorem least {p:Nat→Prop} (h: ∃ n,p n): ∃ n,p n∧ ∀ m,m<n→ ¬ p m:=by
 obtain ⟨n,hn⟩:=h;induction n using Nat.strongRecOn with
 | _ n ih=>
  by_cases hq: ∃ m,m<n∧p m
  ·obtain ⟨m,h1,h2⟩:=hq;exact ih m h1 h2
  ·exact ⟨n,hn,fun m hm hp=>hq ⟨m,hm,hp⟩⟩
theorem BJ {F:Fence} {n:Nat} {P:Program} {Q:Exit→Act→World→Prop} {a:Act} {w:World} {c:Code} (J:Nat→Act→World→Prop) (m:Nat) (h0:J m a w)
  (hr: ∀ m a w,J m a w→c.wpIn F n P (Exit.then (fun a' w'=> ∃ m',m'<m∧J m' a' w') Q) a w):(Code.loop c).wpIn F n P Q a w:=by
 classical
 obtain ⟨μ,hμ⟩: ∃ μ :Act→World→Nat, ∀ a w,(∃ m,J m a w)→J (μ a w) a w∧ ∀ m,m< μ a w→ ¬ J m a w:=
  ⟨fun a w=>if h: ∃ m,J m a w then Classical.choose (least h) else 0,fun a w h=>by simp only [dif_pos h];exact Classical.choose_spec (least h)⟩
 refine wpIn_loop (fun a w=> ∃ m,J m a w) μ ⟨m,h0⟩ fun a w hI=>?_
 refine wpIn_mono (hr _ a w (hμ a w hI).1) fun e a' w' q=>?_
 cases e with
 | normal=>
  obtain ⟨m',h1,h2⟩:=q;refine ⟨⟨m',h2⟩,?_⟩;apply Nat.lt_of_not_le;intro hle;exact (hμ a' w' ⟨m',h2⟩).2 m' (by omega) h2
 | _=>exact q
theorem Ec {n0:Nat} {X:Cx} {N:Nat} {Q:bT}: ¬ LetsOut (aT n0 X N Q):=fun ⟨_,_,h⟩=>h
theorem oJ {P:Program} (bJ:P.follows .mixedOrders=true) {N:Nat} {L:List Nat} {ks:List (Nat × Nat)} {r n:Nat} (hes: ∀ id,kOf ks id≠1000000): ∀ (c:Code) (Q:bT) (X:Cx) (e:Ev) (a:Act),cO N ks c=true→inB c=true→base ks≤X.h.length→Ok X→aO X N e a→bD P N L ks c Q e X.h→c.wpIn (Rnd r) n P (aT (base ks) X N Q) a X.w
 | .skip,Q,X,e,a,_,_,hn,hX,hE,h=>wpIn_skip ((aT.intro ((Step.refl X).toN hn) hX hE).1 h)
 | .ret,Q,X,e,a,_,_,hn,hX,hE,h=>wpIn_ret ((aT.intro ((Step.refl X).toN hn) hX hE).2.2 h)
 | .exit id,Q,X,e,a,_,_,hn,hX,hE,h=>wpIn_exit ((aT.intro ((Step.refl X).toN hn) hX hE).2.1 id h)
 | .label l,Q,X,e,a,_,_,hn,hX,hE,h=>wpIn_label ((aT.intro ((Step.refl X).toN hn) hX hE).1 h)
 | .scope b,Q,X,e,a,hk,hi,hn,hX,hE,h=>by cases hi
 | .rangeFunc f ps ag b,Q,X,e,a,hk,hi,hn,hX,hE,h=>by cases hi
 | .region id ops false,Q,X,e,a,hk,hi,hn,hX,hE,h=>by
  refine wpIn_region (F5 hi Ec _ _ _ ?_);have:=yK (P:=P) (Q:=aT (base ks) X N Q) (ops:=ops) (e1:=iR ops.toList e) (fun o ho=>lF ho e) hk ops.toList 0 X e a _ (fun i=>by rw [List.drop_zero]) hX hE (hE.del _) h
   (fun Y av v a' S hY hEY hr hp=>⟨v,av,Y,_,rfl,rfl,S.toN hn,hY,hEY,hr,hp⟩) (fun Y e' a' S hY hEY hq=>(aT.intro (S.toN hn) hY (hEY.keep L)).1 hq)
  rw [Array.length_toList, ←List.range_eq_range'] at this;exact this
 | .region id ops true,Q,X,e,a,hk,hi,hn,hX,hE,h=>by
  refine wpIn_region_any bJ (F6 hi Ec _ _ _ _ ?_);have h':oQ (kOf ks id) (Kv P N ks id ops Q e X.h) _:=h;unfold oQ at h';rw [if_neg (hes id)] at h';have hk':oP N (kOf ks id) ops=true:=by
   have h0:(oP N (kOf ks id) ops || decide (kOf ks id=1000000))=true:=hk;rw [aj (hes id),Bool.or_false] at h0;exact h0
  exact Il (id:=id) bJ _ _ hk' hX hE h' (fun Y av v a' S hY hEY hr hp=>⟨v,av,Y,_,rfl,rfl,S.toN hn,hY,hEY,hr,hp⟩) fun Y e' a' S hY hEY hq=>(aT.intro (S.toN hn) hY (hEY.keep L)).1 hq
 | .seq x y,Q,X,e,a,hk,hi,hn,hX,hE,h=>by
  simp only [cO,Bool.and_eq_true] at hk;simp only [inB,Bool.and_eq_true] at hi;refine wpIn_seq (wpIn_mono (oJ bJ hes x _ X e a hk.1 hi.1 hn hX hE h) ?_);intro ex a' w' hp;have:=hp.elim;cases this with
  | ok z ex Y e' a' S hY hEY hq hx=>
   rcases hx with ⟨rfl,rfl⟩ | ⟨i,rfl,rfl⟩ | ⟨rfl,rfl⟩ | ⟨v,av,rfl,rfl,hr⟩
   ·exact wpIn_mono (oJ bJ hes y Q Y e' a' hk.2 hi.2 S.len hY hEY hq) fun ex a2 w2 hp2=>hp2.map hX S fun _ _ _ q=>q
   ·exact (aT.intro S hY hEY).2.1 i hq
   ·exact (aT.intro S hY hEY).2.2 hq
   ·exact ⟨v,av,Y,e',rfl,rfl,S,hY,hEY,hr,hq⟩
 | .cond c x y,Q,X,e,a,hk,hi,hn,hX,hE,h=>by
  simp only [cO,Bool.and_eq_true] at hk;simp only [inB,Bool.and_eq_true] at hi;obtain ⟨t,ht,h⟩:=h;have hr:=hE.dh c;rw [ht] at hr;have hv:a.eval c= .bool t:=by cases h1:a.eval c<;>rw [h1] at hr<;>cases hr;rfl
  refine wpIn_cond hv ?_;cases t
  ·exact oJ bJ hes y Q X e a hk.2 hi.2 hn hX hE (by simpa using h)
  ·exact oJ bJ hes x Q X e a hk.1 hi.1 hn hX hE (by simpa using h)
 | .block id b,Q,X,e,a,hk,hi,hn,hX,hE,h=>by
  refine wpIn_block (wpIn_mono (oJ bJ hes b _ X e a hk hi hn hX hE h) ?_);intro ex a' w' hp;have:=hp.elim;cases this with
  | ok z ex Y e' a' S hY hEY hq hx=>
   rcases hx with ⟨rfl,rfl⟩ | ⟨i,rfl,rfl⟩ | ⟨rfl,rfl⟩ | ⟨v,av,rfl,rfl,hr⟩
   ·exact (aT.intro S hY hEY).1 hq
   ·simp only at hq;show (if i=id then aT (base ks) X N Q .normal a' Y.w else aT (base ks) X N Q (.exit i) a' Y.w);split at hq
    ·next ei=>rw [if_pos ei];exact (aT.intro S hY hEY).1 hq
    ·next ei=>rw [if_neg ei];exact (aT.intro S hY hEY).2.1 i hq
   ·exact (aT.intro S hY hEY).2.2 hq
   ·exact ⟨v,av,Y,e',rfl,rfl,S,hY,hEY,hr,hq⟩
 | .loop b,Q,X,e,a,hk,hi,hn,hX,hE,h=>by
  obtain ⟨I,n₀,e₀,h₀,hent,hI,Ad⟩:=h;obtain ⟨Y₀,y1,y2,y3,y4,y5⟩:=hent X a rfl hn hX hE;rw [←y1];refine BJ (fun n a' w'=> ∃ Y e',Y.w=w'∧aU (base ks) X Y∧Ok Y∧aO Y N e' a'∧I n e' Y.h) n₀ ⟨Y₀,e₀,rfl,y3,y4,y5,by rw [y2];exact hI⟩ ?_;rintro n a' w' ⟨Y,e',rfl,S,hY,hEY,hIY⟩;refine wpIn_mono (oJ bJ hes b _ Y e' a' hk hi S.len hY hEY (Ad n e' Y.h hIY)) ?_;intro ex a2 w2 hp;have:=hp.elim;cases this with
  | ok z ex Z e2 a2 S2 hZ hEZ hq hx=>
   rcases hx with ⟨rfl,rfl⟩ | ⟨i,rfl,rfl⟩ | ⟨rfl,rfl⟩ | ⟨v,av,rfl,rfl,hr⟩
   ·obtain ⟨n',e₁,h₁,Ip,hlt,hI2⟩:=hq;obtain ⟨V,v1,v2,v3,v4,v5⟩:=Ip Z a2 rfl S2.len hZ hEZ;exact ⟨n',hlt,V,e₁,v1,(S.trans hX S2).trans hX v3,v4,v5,by rw [v2];exact hI2⟩
   ·exact (aT.intro (S.trans hX S2) hZ hEZ).2.1 i hq
   ·exact (aT.intro (S.trans hX S2) hZ hEZ).2.2 hq
   ·exact ⟨v,av,Z,e2,rfl,rfl,S.trans hX S2,hZ,hEZ,hr,hq⟩
 | .goto _,_,_,_,_,_,_,_,_,_,h=>h.elim
 | .refuse _,_,_,_,_,_,_,_,_,_,h=>h.elim
end
section
open Go.RowKit
inductive nt:AV→Prop
 | clo {a:AV} (h:Clo a):nt a
 | own {id n:Nat}:nt (.own id n)
 | ptr {id n:Nat}:nt (.ptr id n)
 | ap {id n o:Nat}:nt (.ap id n o)
 | mp {id:Nat}:nt (.mp id)
 | g {l:List AV} (h: ∀ (a:AV),a∈l→nt a):nt (.g l)
 | tup {l:List AV} (h: ∀ (a:AV),a∈l→nt a):nt (.tup l)
 | fn {f:Fn} {l1 l2:List AV} (h1: ∀ (a:AV),a∈l1→nt a) (h2: ∀ (a:AV),a∈l2→nt a):nt (.fn f l1 l2)
 | ifc {T:TypeId} {a:AV} (h:nt a):nt (.ifc T a)
def ntL (l:List AV):Prop:= ∀ (a:AV),a∈l→nt a
def ntH (m:Nat):Nat→Hp→Prop
 | _,[]=>True
 | k,none::r=>ntH m (k+1) r
 | k,some (.blk c)::r=>ntL c∧ntH m (k+1) r
 | k,some (.arr _ _ c _)::r=>ntL c∧ntH m (k+1) r
 | k,some (.map es)::r=>k<m∧ntL (es.map (·.2))∧ntH m (k+1) r
theorem qR {m:Nat}: ∀ {h:Hp} {k:Nat} (hn:ntH m k h) (i:Nat),(∀ c,h[i]? =some (some (.blk c))→ntL c)∧(∀ T s c fz,h[i]? =some (some (.arr T s c fz))→ntL c)∧(∀ es,h[i]? =some (some (.map es))→k+i<m∧ntL (es.map (·.2)))
 | [],k,_,i=>⟨fun c h=>by simp at h,fun T s c fz h=>by simp at h,fun es h=>by simp at h⟩
 | o::r,k,hn,0=>by
  refine ⟨fun c h=>?_,fun T s c fz h=>?_,fun es h=>?_⟩<;>simp at h<;>subst h
  ·exact hn.1
  ·exact hn.1
  ·exact ⟨hn.1,hn.2.1⟩
 | o::r,k,hn,i+1=>by
  have hr:ntH m (k+1) r:=by
   cases o with
   | none=>exact hn
   | some o=>cases o with
    | blk c=>exact hn.2
    | arr T s c fz=>exact hn.2
    | map es=>exact hn.2.2
  have ih:=qR hr i;refine ⟨fun c h=>ih.1 c (by simpa using h),fun T s c fz h=>ih.2.1 T s c fz (by simpa using h),fun es h=>?_⟩;have:=ih.2.2 es (by simpa using h);exact ⟨by omega,this.2⟩
section
variable {X:Cx} {W':World} {row:Option Nat}
theorem cell_far (hg:X.w.grownBy W' row) (hr: ∀ r,row=some r→ ∃ o:Obj,X.w.heap[r]? =some o∧o.isCells=false) {b off:Nat} {x:Value} (hx:cellAt X.w b off=some x):cellAt W' b off=some x:=by
 have hb:=dR hx;have hne:some b≠row:=fun e=>by
  obtain ⟨o,h1,h2⟩:=hr b e.symm;unfold cellAt World.cell? at hx;simp only [h1] at hx;cases o<;>first | (cases h2;done) | simp at hx
 unfold cellAt World.cell? at hx ⊢;rw [hg.block b hb hne];exact hx
theorem Rep.far (hg:X.w.grownBy W' row) (hr: ∀ r,row=some r→ ∃ o:Obj,X.w.heap[r]? =some o∧o.isCells=false) {a:AV} {x:Value} (h:Rep X a x) (hn:nt a):Rep ⟨W',X.m,X.h,X.bad,X.ds⟩ a x:=by
 have K: ∀ b o u,cellAt X.w b o=some u→ ¬ X.bad b o→cellAt W' b o=some u∧ ¬ X.bad b o:=fun b o u h1 h2=>⟨cell_far hg hr h1,h2⟩
 induction h with
 | v x=>exact .v x
 | none x=>exact .none x
 | t hl hc hn' hcap hp hr' ih=>cases hn with | clo h=>exact Rep.clo (Y:=⟨W',X.m,X.h,X.bad,X.ds⟩) (.t hl hc hn' hcap hp hr') h K
 | g hc hr' ih=>
  cases hn with
  | clo h=>exact Rep.clo (Y:=⟨W',X.m,X.h,X.bad,X.ds⟩) (.g hc hr') h K
  | g h=>exact .g hc fun i a x h1 h2=>ih i a x h1 h2 (h a (List.mem_of_getElem? h1))
 | tup hc hr' ih=>
  cases hn with
  | clo h=>exact Rep.clo (Y:=⟨W',X.m,X.h,X.bad,X.ds⟩) (.tup hc hr') h K
  | tup h=>exact .tup hc fun i a x h1 h2=>ih i a x h1 h2 (h a (List.mem_of_getElem? h1))
 | tp hc hp hr' ih=>cases hn with | clo h=>exact Rep.clo (Y:=⟨W',X.m,X.h,X.bad,X.ds⟩) (.tp hc hp hr') h K
 | fn h1 h2 r1 r2 ih1 ih2=>
  cases hn with
  | clo h=>exact Rep.clo (Y:=⟨W',X.m,X.h,X.bad,X.ds⟩) (.fn h1 h2 r1 r2) h K
  | fn q1 q2=>exact .fn h1 h2 (fun i a x g1 g2=>ih1 i a x g1 g2 (q1 a (List.mem_of_getElem? g1))) (fun i a x g1 g2=>ih2 i a x g1 g2 (q2 a (List.mem_of_getElem? g1)))
 | ifc h ih=>
  cases hn with
  | clo h'=>exact Rep.clo (Y:=⟨W',X.m,X.h,X.bad,X.ds⟩) (.ifc h) h' K
  | ifc h'=>exact .ifc (ih h')
 | e0 b=>exact .e0 b
 | own hid h=>exact .own hid h
 | ptr hid h=>exact .ptr hid h
 | ap hid h=>exact .ap hid h
 | mp hid h=>exact .mp hid h
 | tm hb hm hl hk hr' ih=>cases hn with | clo h=>cases h
theorem Ok.far (hX:Ok X) (hg:X.w.grownBy W' row) (hr: ∀ r,row=some r→ ∃ o:Obj,X.w.heap[r]? =some o∧o.isCells=false) {m:Nat} (hn:ntH m 0 X.h) (hm: ∀ id es,X.h[id]? =some (some (.map es))→ ∀ b,(X.m id).1=some b→some b≠row):Ok ⟨W',X.m,X.h,X.bad,X.ds⟩:=by
 have other: ∀ {b:Nat} {cvs:Array Value} {T:TypeId} {fr:Nat × Nat},X.w.heap[b]? =some (.cells cvs T fr)→W'.heap[b]? =some (.cells cvs T fr):=fun {b cvs T fr} h1=>by
  rw [hg.block b (Array.getElem?_eq_some_iff.1 h1).1 (fun e=>by obtain ⟨o,h2,h3⟩:=hr b e.symm;rw [h1] at h2;injection h2 with h2;subst h2;cases h3)];exact h1
 refine ⟨fun id cells hh=>?_,fun id T size cells fz hh=>?_,fun i j b hi hj=>hX.inj i j b hi hj,fun b o hb=>Nat.lt_of_lt_of_le (hX.eG b o hb) hg.size,fun id es hh=>?_⟩
 ·obtain ⟨b,cvs,T,h1,h2,h3,h4,h5⟩:=hX.blk id cells hh;exact ⟨b,cvs,T,h1,other h2,h3,h4,fun i a x g1 g2=>(h5 i a x g1 g2).far hg hr ((qR hn id).1 cells hh a (List.mem_of_getElem? g1))⟩
 ·obtain ⟨g1,g2,n,g3,g4⟩:=hX.arr id T size cells fz hh;refine ⟨g1,g2,n,g3,?_⟩;rcases g4 with g4 | ⟨b,cvs,g4⟩
  ·exact .inl g4
  ·exact .inr ⟨b,cvs,⟨g4.at_,other g4.blk,g4.cap,g4.jA,g4.sz,g4.bad,fun i a x q1 q2=>(g4.rep i a x q1 q2).far hg hr ((qR hn id).2.1 T size cells fz hh a (List.mem_of_getElem? q1)),g4.good⟩⟩
 ·obtain ⟨b,ents,clock,h1,h2,h3,h4⟩:=hX.map id es hh;refine ⟨b,ents,clock,h1,?_,h3,fun i p e q1 q2=>⟨(h4 i p e q1 q2).1,(h4 i p e q1 q2).2.far hg hr (((qR hn id).2.2 es hh).2 p.2 (List.mem_map.2 ⟨p,List.mem_of_getElem? q1,rfl⟩))⟩⟩;show W'.heap[b]? =_;rw [hg.block b (Array.getElem?_eq_some_iff.1 h2).1 (hm id es hh b h1)];exact h2
end
variable {X:Cx}
theorem aU.less {m n:Nat} {Y:Cx} (S:aU m X Y) (h:n≤m):aU n X Y:=
 ⟨S.os,S.tape,S.output,S.size,S.block,S.keep,Nat.le_trans h S.len,fun i T s c f hi=>S.mZ i T s c f (Nat.lt_of_lt_of_le hi h),fun i c hi=>S.lq i c (Nat.lt_of_lt_of_le hi h),S.own,S.nY,fun i es hi=>S.omap i es (Nat.lt_of_lt_of_le hi h),S.dse⟩
def RI (X:Cx) (H:Hp→Prop) (W:World):Prop:= ∃ Y,Y.w=W∧aU X.h.length (X.def_ []) Y∧Ok Y∧H Y.h
theorem RI.own {α:Type}  (hX:Ok X) {H:α→Hp→Prop} (hn: ∀ s h,H s h→ntH X.h.length 0 h):OwnFrom X.w.heap.size (fun s W=>RI X (H s) W):=by
 rintro s W W' row ⟨Y,rfl,S,hY,hH⟩ hg hr;have hr2: ∀ r,row=some r→ ∃ o:Obj,Y.w.heap[r]? =some o∧o.isCells=false:=fun r e=>(hr r e).2
 have hnt:=hn s _ hH;refine ⟨⟨W',Y.m,Y.h,Y.bad,Y.ds⟩,rfl,?_,?_,hH⟩
 ·refine ⟨hg.os.trans S.os,hg.tape.trans S.tape,hg.output.trans S.output,Nat.le_trans S.size hg.size,fun b hb hm=>?_,fun b o x hx hb=>⟨cell_far hg hr2 (S.keep b o x hx hb).1,(S.keep b o x hx hb).2⟩,S.len,S.mZ,S.lq,S.own,S.nY,S.omap,S.dse⟩;show W'.heap[b]? =_;rw [hg.block b (Nat.lt_of_lt_of_le hb S.size) (fun e=>by have:=(hr b e.symm).1;exact absurd hb (Nat.not_lt_of_le this))];exact S.block b hb hm
 ·refine Ok.far hY hg hr2 hnt fun id es hh b hb e=>?_
  have hid:=((qR hnt id).2.2 es hh).1;rw [Nat.zero_add] at hid;obtain ⟨es',h1,h2⟩:=S.omap id es hid hh;rw [h2] at hb;have hlt:b<X.w.heap.size:=(hX.def_ (d:=[])).lt ⟨id,⟨_,h1⟩,hb⟩;have:=(hr b e.symm).1;omega
def KpI (X:Cx) (ids:List Nat) (W W':World):Prop:= ∀ i,i∈ids→ ∀ b,(X.m i).1=some b→ ∀ o,W'.cell? ⟨b,o,none⟩=W.cell? ⟨b,o,none⟩
theorem Ed (hX:Ok X) {i b:Nat} {l:List Value} (h:X.h[i]? =some (some (.blk (l.map .v)))) (hb:(X.m i).1=some b): ∀ o,X.w.cell? ⟨b,o,none⟩=l[o]? :=by
 obtain ⟨b',cvs,T,h1,h2,h3,h4,h5⟩:=hX.blk i _ h;rw [hb] at h1;injection h1 with h1;subst h1;intro o;have:=bP (off:=o) h2;unfold cellAt at this;rw [this];rw [List.length_map] at h3;by_cases ho:o<l.length
 ·have ho2:o<cvs.size:=by omega
  have:=h5 o (.v l[o]) cvs[o] (by simp [ho]) (by simp [ho2]);generalize hq:cvs[o]=q at this;cases this;rw [Array.getElem?_eq_getElem ho2,List.getElem?_eq_getElem ho,hq]
 ·rw [Array.getElem?_eq_none (by omega),List.getElem?_eq_none (by omega)]
theorem Ee: ∀ (l m:List Value),l.map AV.v=m.map AV.v→l=m
 | [],[],_=>rfl
 | [],_::_,h=>by simp at h
 | _::_,[],h=>by simp at h
 | a::l,b::m,h=>by
  simp only [List.map_cons,List.cons.injEq,AV.v.injEq] at h;rw [h.1,Ee l m h.2]
def acH (P:Program) (gf:FuncId) (caps:List AV) (h:Hp) {α:Type} (encs:α→Array Value) (ids:List Nat) (S Sp:List α→Prop) (Nb:Nat):Prop:=
 ∀ (X:Cx) (vs:List Value),Ok X→X.h=h→fA X caps vs→SeqStopsK Fence.wide 8 P gf vs.toArray encs (KpI X ids) S Sp Nb X.w
def ajb (n0 N:Nat) (H:Hp→Prop) (Hx:Code→Hp→Prop):bT:=fun ex e h=>match ex with
 | .normal=> ∃ e1 h1,Ent n0 N e h e1 h1∧H h1
 | .ret=>Hx .ret h
 | .exit i=>Hx (.exit i) h
 | .panic _=>False
def Exx (Q:bT) (e:Ev) (h:Hp):Code→Prop
 | .ret=>Q .ret e h
 | .exit i=>Q (.exit i) e h
 | _=>False
def afQ (ks:List (Nat × Nat)):Bool:=ks.all fun p=>!Nat.beq p.2 1000000
theorem N8: ∀ {ks:List (Nat × Nat)},afQ ks=true→ ∀ id,kOf ks id≠1000000
 | [],_,id=>by show (0:Nat)≠1000000;decide
 | (i,k)::r,h,id=>by
  have h':(!Nat.beq k 1000000 && afQ r)=true:=h;rw [Bool.and_eq_true] at h';show (if i=id then k else kOf r id)≠1000000;split
  ·intro e;subst e;cases h'.1
  ·exact N8 h'.2 id
theorem afR {P:Program} (bJ:P.follows .mixedOrders=true) {N:Nat} {L:List Nat} {ks ks':List (Nat × Nat)} {f:Operand} {ps:Array Tmp} {ag b:Code} {Q:bT} {e:Ev} {h:Hp} {α:Type} {encs:α→Array Value} {ids:List Nat} {S Sp:List α→Prop} {Nb:Nat} {gf:FuncId} {caps:List AV}
  (hf:dh e f= .fn (.func gf) [] caps) (hbd:kS P gf=true) (hit:acH P gf caps h encs ids S Sp Nb) (hps: ∀ x,(encs x).size=ps.size) (hok:cO N ks' b=true) (hin:inB b=true) (hes:afQ ks'=true) (hb:base ks'=h.length)
  (e1:α→Ev) (a₁:Act→α→Act)
  (hassign: ∀ (a:Act) (l:Nat) (x:α) (W:World) (K:Act→World→Prop),a.tmps.size=N→K (a₁ a x) W→ag.wpIn (Rnd l) 7 P (Exit.then K (fun _ _ _=>False)) {tmps:=(ps.zip (encs x)).foldl (fun t (p,v)=>t.setIfInBounds p v) a.tmps,defers:=[]} W)
  (hrel: ∀ (a:Act) (x:α),a.tmps.size=N→(a₁ a x).defers=[]∧(a₁ a x).tmps.size=N∧ ∀ d,aP (e1 x) d= .none∨(∃ v,aP (e1 x) d= .v v∧(a₁ a x).tmps.getD d undef=v)∨(aP (e1 x) d=aP e d∧(a₁ a x).tmps.getD d undef=a.tmps.getD d undef))
  (Hs:List α→Hp→Prop) (Hx:Code→List α→Hp→Prop) (hnt: ∀ pre h',Hs pre h'→ntH h.length 0 h') (akY: ∀ c pre h',Hx c pre h'→ntH h.length 0 h')
  (ajc: ∀ i,i∈ids→i<h.length∧ ∃ l:List Value, ∀ pre h',Hs pre h'→h'[i]? =some (some (.blk (l.map .v)))) (h0:Hs [] h)
  (hbody: ∀ pre x h',Hs pre h'→pre.length<Nb→h.length≤h'.length→bD P N L ks' b (ajb h.length N (Hs (pre++[x])) fun c=>Hx c (pre++[x])) (e1 x) h')
  (hdone: ∀ xs h',S xs→Hs xs h'→Q .normal e h') (hstop: ∀ c pre h',Sp pre→Hx c pre h'→Exx Q e h' c):
  ∀ (X:Cx) (a:Act),base ks≤X.h.length→X.h=h→Ok X→aO X N e a→(Code.rangeFunc f ps ag b).wp P (fD (base ks) X N Q) a X.w:=by
 intro X a hbs hh hX hE;subst hh;have hX0:Ok (X.def_ []):=hX.def_;have hfr:=hE.dh f;rw [hf] at hfr;obtain ⟨lb,hg,hlb⟩: ∃ lb:List Value,a.eval f= .func (.func gf) #[] lb.toArray∧fA X caps lb:=by
  generalize a.eval f=q at hfr;cases hfr with
  | @fn _ _ _ v1 v2 h1 h2 r1 r2=>
   have:v1=[]:=List.eq_nil_of_length_eq_zero h1;subst this;exact ⟨v2,rfl,h2,r2⟩
 have acI: ∀ {Y:Cx},aU X.h.length (X.def_ []) Y→Step (X.def_ []) Y:=fun S=>aU.full S
 have WM: ∀ {pre:List α} {Y:Cx},aU X.h.length (X.def_ []) Y→Ok Y→Hs pre Y.h→ ∀ i,i∈ids→ ∀ b,(X.m i).1=some b→ ∃ l:List Value,(∀ pre h',Hs pre h'→h'[i]? =some (some (.blk (l.map .v))))∧ ∀ o,Y.w.cell? ⟨b,o,none⟩=l[o]? :=by
  intro pre Y S hY hH i hi b hb;obtain ⟨hlt,l,hl⟩:=ajc i hi;have h1:=hl pre _ hH;obtain ⟨c',_,h3⟩:=S.lq i _ hlt h1;exact ⟨l,hl,Ed hY h1 (by rw [h3];exact hb)⟩
 have close: ∀ {x:Ex} {ex:Exit} {Y:Cx} {D:Nat},aU X.h.length (X.def_ []) Y→Ok Y→X.w.heap.size≤D→Y.w.heap[D]? =some (.deferred (some []))→Q x e Y.h→((x= .normal∧ex= .normal)∨(∃ i,x= .exit i∧ex= .exit i)∨(x= .ret∧ex= .ret))→fD (base ks) X N Q ex {a with defers:={target:= .collected D,args:= #[]}::a.defers} Y.w:=by
  intro x ex Y D S hY hD hd hq hx;have S2:aU (base ks) X (Y.def_ X.ds):=(aU.re (X:=X) (d:=[]) (d2:=X.ds) S).less hbs;refine fD.close (Y:=Y.def_ X.ds) (e:=e) (l:=[D]) ?_ ⟨by simp,fun D' h'=>by rw [List.mem_singleton] at h';subst h';exact ⟨hD,hd⟩⟩ S2 hY.def_ ⟨rfl,hE.size,fun d=>?_⟩ hq ?_
  ·show _::a.defers=_;rw [hE.defers];rfl
  ·have h1:Rep (X.def_ []) (aP e d) (a.tmps.getD d undef):=(hE.rep d).def_;exact (h1.mono (acI S)).def_
  ·rcases hx with h | h | h
   ·exact .inl h
   ·exact .inr (.inl h)
   ·exact .inr (.inr (.inl h))
 refine wpIn_wide.1 (wpIn_rangeFunc_ownG (F:=Fence.wide) (n:=9) (Kp:=KpI X ids) rfl (by decide) hg trivial (fun args w=>oC hbd args w) (hit X lb hX rfl hlb) ?_ ?_ (Below.refl _ _) hps (fun pre W=>RI X (Hs pre) W) (fun c pre W=>RI X (Hx c pre) W) (RI.own hX hnt) (fun c=>RI.own hX (akY c)) ⟨X.def_ [],rfl,(Step.refl _).toN (Nat.le_refl _),hX0,h0⟩ (a₁ a) (fun l x W K hK=>hassign a l x W K hE.size hK) ?_ ?_ ?_)
 ·intro A B C h1 h2 i hi b hb o;rw [h2 i hi b hb o,h1 i hi b hb o]
 ·intro W l o o' hl hlo hc hw i hi b hb off;obtain ⟨hlt,lv,hlv⟩:=ajc i hi;have h1:=hlv [] _ h0;have hbl:b<X.w.heap.size:=hX.lt ⟨i,⟨_,h1⟩,hb⟩;unfold World.cell?;rw [World.putObj_heap_other (by show b≠l;omega)]
 ·rintro l pre x W ⟨Y,rfl,S,hY,hH⟩ hlt;obtain ⟨r1,r2,r3⟩:=hrel a x hE.size;have hEY:aO Y N (e1 x) (a₁ a x):=by
   refine ⟨r1.trans S.dse.symm,r2,fun d=>?_⟩;rcases r3 d with q | ⟨v,q1,q2⟩ | ⟨q1,q2⟩
   ·rw [q];exact .none _
   ·rw [q1,q2];exact .v v
   ·rw [q1,q2];have h1:Rep (X.def_ []) (aP e d) (a.tmps.getD d undef):=(hE.rep d).def_;exact h1.mono (acI S)
  have hw:=hbody pre x Y.h hH hlt S.len;refine wpIn_mono (oJ bJ (N8 hes) b _ Y (e1 x) (a₁ a x) hok hin (by rw [hb];exact S.len) hY hEY hw) ?_;intro ex a' w' hp;have:=hp.elim;cases this with
  | ok z ex Z e2 a2 T hZ hEZ hq hx=>
   rw [hb] at T;have keep:KeepsFrom X.w.heap.size Y.w Z.w:=⟨T.size,fun k o hk ho hc=>by
    rw [T.block k (Array.getElem?_eq_some_iff.1 ho).1 ?_];exact ho;rintro ⟨i,⟨ob,hi⟩,he⟩;cases ob with
    | blk cells=>
     obtain ⟨b',cvs,U,q1,q2,_⟩:=hY.blk i cells hi;rw [q1] at he;injection he with he;subst he;rw [ho] at q2;injection q2 with q2;subst q2;cases hc
    | arr U s cells fz=>
     obtain ⟨_,_,n',_,q1 | ⟨b',cvs,q1⟩⟩:=hY.arr i U s cells fz hi
     ·rw [q1.1] at he;cases he
     ·have q2:=q1.at_;rw [q2] at he;injection he with he;subst he;have:=q1.blk;rw [ho] at this;injection this with this;subst this;cases hc
    | map es=>
     have hid:=((qR (hnt _ _ hH) i).2.2 es hi).1;rw [Nat.zero_add] at hid;obtain ⟨es',g1,g2⟩:=S.omap i es hid hi;rw [g2] at he;have:=hX0.lt ⟨i,⟨_,g1⟩,he⟩;exact absurd hk (by show ¬ X.w.heap.size≤k;exact Nat.not_le_of_lt this)⟩
   rcases hx with ⟨rfl,rfl⟩ | ⟨i,rfl,rfl⟩ | ⟨rfl,rfl⟩ | ⟨v,av,rfl,rfl,hr⟩
   ·obtain ⟨e3,h3,hent,hH3⟩:=hq;obtain ⟨V,v1,v2,v3,v4,v5⟩:=hent Z _ rfl T.len hZ hEZ;have SV:aU X.h.length (X.def_ []) V:=(S.trans hX0 T).trans hX0 v3;refine ⟨keep,fun i hi b hb o=>?_,V,v1,SV,v4,by rw [v2];exact hH3⟩;obtain ⟨l1,q1,q2⟩:=WM S hY hH i hi b hb;obtain ⟨l2,q3,q4⟩:=WM SV v4 (by rw [v2];exact hH3) i hi b hb;have e4:=q1 _ _ hH;rw [q3 _ _ hH] at e4;have e5:l2=l1:=by
     injection e4 with e4;injection e4 with e4;injection e4 with e4;exact Ee _ _ e4
    rw [q2, ←v1,q4,e5]
   ·exact ⟨keep,Z,rfl,S.trans hX0 T,hZ,hq⟩
   ·exact ⟨keep,Z,rfl,S.trans hX0 T,hZ,hq⟩
   ·exact hq.elim
 ·rintro D xs W hD hS ⟨Y,rfl,S,hY,hH⟩ hd;exact close S hY hD hd (hdone xs _ hS hH) (.inl ⟨rfl,rfl⟩)
 ·rintro D c pre W hD hS ⟨Y,rfl,S,hY,hH⟩ hd;have hs:=hstop c pre _ hS hH;cases c with
  | ret=>exact wpIn_ret (close S hY hD hd hs (.inr (.inr ⟨rfl,rfl⟩)))
  | exit i=>exact wpIn_exit (close S hY hD hd hs (.inr (.inl ⟨i,rfl,rfl⟩)))
  | _=>exact hs.elim
end
section
open Go.RowKit
variable {P:Program}{a:Act}
theorem Ef {F:Fence} {n:Nat}  {id:Nat} {d t:Tmp} {o:Oper} {Q:Exit→Act→World→Prop}  {w:World}
  (ho:o.op= .assign (.tmp t)) (hd:o.dst=some d) (hg:o.guard=none) (h:Q .normal {a with tmps:=a.tmps.setIfInBounds d (a.tmps.getD t undef)} w):(Code.region id #[o] false).wpIn F n P Q a w:=by
 obtain ⟨dst,op,ty,pos,af,g⟩:=o;simp only at ho hd hg;subst ho hd hg;refine wpIn_region ?_;show wpOpsIn F n P _ Q [0] a w;simp only [wpOpsIn,Region.wanted,List.getElem?_toArray,List.getElem?_cons_zero,if_true];refine ⟨?_,?_⟩
 ·intro f hf;cases hf
 ·rw [Oper.semAt_eq _ _ _ (fun c hc=>by cases hc)];exact h
theorem yX: ∀ (e:Ev) (d:Nat),aP e d= .none∨ ∃ p,p∈e∧p.1=d∧aP e d=p.2
 | [],d=> .inl rfl
 | (k,a)::r,d=>by
  by_cases h:k=d
  ·exact .inr ⟨(k,a),List.mem_cons_self ..,h,if_pos h⟩
  ·rcases yX r d with q | ⟨p,q1,q2,q3⟩
   ·exact .inl (by show (if k=d then a else aP r d)=_;rw [if_neg h];exact q)
   ·exact .inr ⟨p,List.mem_cons_of_mem _ q1,q2,by show (if k=d then a else aP r d)=_;rw [if_neg h];exact q3⟩
theorem nS {T:Array Value} {i j:Nat} {v:Value}:(T.setIfInBounds i v).getD j undef=if i=j∧j<T.size then v else T.getD j undef:=by
 simp only [Array.getD_eq_getD_getElem?,Array.getElem?_setIfInBounds];by_cases h:i=j
 ·subst h;by_cases hs:i<T.size
  ·simp [hs]
  ·simp [hs]
 ·simp [h]
def Jm (p q d1 d2:Tmp) (v1 v2:Value) (a:Act):Act:={tmps:=(((a.tmps.setIfInBounds p v1).setIfInBounds q v2).setIfInBounds d1 v1).setIfInBounds d2 v2,defers:=[]}
variable {N:Nat}
theorem assign2 {F:Fence} {n:Nat}  {i1 i2:Nat} {p q d1 d2:Tmp} {o1 o2:Oper} {K:Act→World→Prop}  {W:World} {v1 v2:Value}  (h1:o1.op= .assign (.tmp p)) (h1':o1.dst=some d1) (akZ:o1.guard=none) (h2:o2.op= .assign (.tmp q)) (h2':o2.dst=some d2) (ak0:o2.guard=none)
  (hN:a.tmps.size=N) (hp:p<N) (hq:q<N) (hpq:p≠q) (hdq:d1≠q) (hK:K (Jm p q d1 d2 v1 v2 a) W):
  ((Code.region i1 #[o1] false).seq (Code.region i2 #[o2] false)).wpIn F n P (Exit.then K (fun _ _ _=>False)) {tmps:=(#[p,q].zip #[v1,v2]).foldl (fun t (x:Tmp × Value)=>t.setIfInBounds x.1 x.2) a.tmps,defers:=[]} W:=by
 refine wpIn_seq (Ef h1 h1' akZ (Ef h2 h2' ak0 ?_));have e:((#[p,q].zip #[v1,v2]).foldl (fun (t:Array Value) (x:Tmp × Value)=>t.setIfInBounds x.1 x.2) a.tmps)=(a.tmps.setIfInBounds p v1).setIfInBounds q v2:=by simp
 rw [e];have e3:((a.tmps.setIfInBounds p v1).setIfInBounds q v2).getD p undef=v1:=by
  rw [nS,if_neg (fun h=>hpq h.1.symm),nS,if_pos ⟨rfl,by rw [hN];exact hp⟩]
 rw [e3];have e4:(((a.tmps.setIfInBounds p v1).setIfInBounds q v2).setIfInBounds d1 v1).getD q undef=v2:=by
  rw [nS,if_neg (fun h=>hdq h.1),nS,if_pos ⟨rfl,by rw [Array.size_setIfInBounds,hN];exact hq⟩]
 rw [e4];exact hK
variable {e:Ev}
theorem ak1 {e0:Ev} {p q d1 d2:Tmp} {v1 v2:Value}   (hN:a.tmps.size=N) (hd1:d1<N) (hd2:d2<N) (h12:d1≠d2)
  (hsub: ∀ x,x∈e0→aP e x.1=x.2∧x.1≠p∧x.1≠q∧x.1≠d1∧x.1≠d2):
  (Jm p q d1 d2 v1 v2 a).defers=[]∧(Jm p q d1 d2 v1 v2 a).tmps.size=N∧ ∀ d,aP ((d1, .v v1)::(d2, .v v2)::e0) d= .none∨(∃ v,aP ((d1, .v v1)::(d2, .v v2)::e0) d= .v v∧(Jm p q d1 d2 v1 v2 a).tmps.getD d undef=v)∨
   (aP ((d1, .v v1)::(d2, .v v2)::e0) d=aP e d∧(Jm p q d1 d2 v1 v2 a).tmps.getD d undef=a.tmps.getD d undef):=by
 refine ⟨rfl,by simp [Jm,hN],fun d=>?_⟩;have hg:aP ((d1, .v v1)::(d2, .v v2)::e0) d=if d1=d then .v v1 else if d2=d then .v v2 else aP e0 d:=rfl
 rw [hg];unfold Jm;simp only [nS,Array.size_setIfInBounds,hN];by_cases c1:d1=d
 ·subst c1;refine .inr (.inl ⟨v1,if_pos rfl,?_⟩);rw [if_neg (fun h=>h12 h.1.symm),if_pos ⟨rfl,hd1⟩]
 ·rw [if_neg c1];by_cases c2:d2=d
  ·subst c2;refine .inr (.inl ⟨v2,if_pos rfl,?_⟩);rw [if_pos ⟨rfl,hd2⟩]
  ·rw [if_neg c2];rcases yX e0 d with q' | ⟨x,q1,q2,q3⟩
   ·exact .inl q'
   ·obtain ⟨g1,g2,g3,g4,g5⟩:=hsub x q1;subst q2;refine .inr (.inr ⟨by rw [q3,g1],?_⟩);rw [if_neg (fun h=>g5 h.1.symm),if_neg (fun h=>g4 h.1.symm),if_neg (fun h=>g3 h.1.symm),if_neg (fun h=>g2 h.1.symm)]
variable {h:Hp}{n0:Nat}
theorem Ent.close (d:Nat) (a a':AV) (h':Hp) (ha:aP e d=a) (hc:dW h a=some (a',h')):Ent n0 N e h ((d,a')::e) h':=fun X act hh hn hX hE=>by
 subst hh;have hv:=hE.rep d;rw [ha] at hv;obtain ⟨Y,y1,y2,y3,y4,y5⟩:=qH X a a' h' _ hX hc hv;have hE2:=hE.mono y2;refine ⟨Y,y1,y4,y2.toN hn,y3,hE2.defers,hE2.size,fun d'=>?_⟩;show Rep Y (if d=d' then a' else aP e d') _;by_cases q:d=d'
 ·subst q;rw [if_pos rfl];exact y5
 ·rw [if_neg q];exact hE2.rep d'
def afS (P:Program) (rs:Array ResultVar) (R:AV→Hp→Prop):bT:=fun x e h=>match x with
 | .exit _=>False
 | .panic _=>False
 | _=> ∃ r,sJ P h e rs=some r∧R r h
variable {R:AV→Hp→Prop}
theorem ajd {rs:Array ResultVar}   :afS P rs R .normal e h=sA (fun r=>R r h) (sJ P h e rs):=Eq.trans rfl rfl
theorem aje {rs:Array ResultVar}   :afS P rs R .ret e h=sA (fun r=>R r h) (sJ P h e rs):=Eq.trans rfl rfl
theorem HT.byO {f:FuncId} {fn:Func} {body:Code} {args:List AV}   (N:Nat) (L:List Nat) (ks:List (Nat × Nat)) (rs:List ResultVar) (hf:P.funcs[f]? =some fn) (hb:fn.body=some body) (hn:fn.ntmps=N) (hr:fn.results=rs.toArray) (hbs:base ks=h.length)
  (hw:bD P N L ks body (afS P rs.toArray R) (pU 0 args) h) (bJ:P.follows .mixedOrders=true:=by kernel_rfl) (hp:kS P f=true:=by kernel_rfl) (hk:cO N ks body=true:=by kernel_rfl) (hN:args.length≤N:=by exact Nat.le_of_ble_eq_true rfl):HT P f args h R:=by
 subst hn;rw [←hr] at hw;refine ⟨hp,fun X vs hX hh hr=>?_⟩;subst hh;have hX':Ok (X.def_ []):=hX.def_;have hr':fA (X.def_ []) args vs:=⟨hr.1,fun i a x h1 h2=>(hr.2 i a x h1 h2).def_⟩
 refine (callsIn_wide (n:=0)).1 (callsIn_of_wp_marks hf hb trivial (wpIn_wide.2 (wp_mono (eP bJ body _ (X.def_ []) _ _ hk (by rw [hbs];exact Nat.le_refl _) hX' (zX rfl hr' hN) hw) ?_)) rfl);intro ex a' w' hpost;obtain ⟨z,Y,e',l,rfl,e1,M,SN,hY,hEY,_,hq,hx⟩:=hpost.open;rw [hbs] at SN;have hd:a'.defers=l.map rH:=by rw [e1];exact List.append_nil _
 obtain ⟨Z,z1,z2,z3,z4,z5,z6⟩:=Ae l Y SN hY M;have S:=aU.full (X:=X.def_ []) z4;have hEZ:aO Z fn.ntmps e' {a' with defers:=[]}:=⟨by rw [z3];exact hEY.defers,hEY.size,fun d=>z6 _ _ (hEY.rep d)⟩
 have key:(∃ r,sJ P Y.h e' fn.results=some r∧R r Y.h)→LeavesIn Fence.wide 0 P fn a'.tmps (fun e w'=> ∃ v V av,e= .returned v∧V.w=w'∧Step X V∧Ok V∧Rep V av v∧R av V.h) [] .returning (shut Y.w l):=by
  rintro ⟨r,h1,h3⟩;rw [←z2] at h1 h3;obtain ⟨v,q1,q2⟩:=yL (fn:=fn) z5 hEZ h1;rw [←z1];exact ⟨v,q1,v,Z.def_ X.ds,r,rfl,rfl,S.undef,z5.def_,q2.def_,h3⟩
 rcases hx with ⟨rfl,rfl⟩ | ⟨i,rfl,rfl⟩ | ⟨rfl,rfl⟩ | ⟨v,av,rfl,rfl,hrv⟩
 ·show LeavesInM Fence.wide 0 P fn a'.tmps _ a'.defers .returning Y.w;rw [hd];exact iF (by simp) l _ M (key hq)
 ·exact hq.elim
 ·show LeavesInM Fence.wide 0 P fn a'.tmps _ a'.defers .returning Y.w;rw [hd];exact iF (by simp) l _ M (key hq)
 ·exact hq.elim
theorem Ent.iL (id:Nat) (T:TypeId) (s:Nat) (cells:List AV) (fz k:Nat) (hg:h[id]? =some (some (.arr T s cells fz))) (h1:fz≤k) (h2:k≤cells.length):Ent n0 N e h e (h.set id (some (.arr T s cells k))):=fun X act hh hn hX hE=>by
 subst hh;have hE2:=hE.mono (Step.iL k hg);exact ⟨X.iL id T s cells k,rfl,rfl,(Step.iL k hg).toN hn,hX.iL hg h1 h2,hE2.defers,hE2.size,hE2.rep⟩
theorem Ent.wk (d:Nat) (a b:AV) (ha:aP e d=a) (hw:Wk a b):Ent n0 N e h ((d,b)::e) h:=fun X act hh hn hX hE=>by
 refine ⟨X,rfl,hh,(Step.refl X).toN (hh▸hn),hX,hE.defers,hE.size,fun d'=>?_⟩;show Rep X (if d=d' then b else aP e d') _;by_cases q:d=d'
 ·subst q;rw [if_pos rfl];have hv:=hE.rep d;rw [ha] at hv;exact hw _ _ hv
 ·rw [if_neg q];exact hE.rep d'
end
section
open Go.RowKit
def Jo:List Nat→Nat→Nat
 | [],_=>0
 | a::r,j=>if a=j then 0 else Jo r j+1
structure afT (σ:List Nat) (ops:Array Oper):Prop where
 len:σ.length=ops.size
 inv: ∀ i,i<ops.size→Jo σ i<ops.size∧σ.getD (Jo σ i) 0=i
 fwd: ∀ p,p<ops.size→σ.getD p 0<ops.size∧Jo σ (σ.getD p 0)=p
 aft: ∀ (i:Nat) (o:Oper),ops[i]? =some o→ ∀ e,e∈o.after→e.on<ops.size
 grd: ∀ (i:Nat) (o:Oper),ops[i]? =some o→ ∀ g b,o.guard=some (g,b)→g<ops.size
section
variable {σ:List Nat} {ops:Array Oper}
def LsP (σ:List Nat) (ops:Array Oper) (l l':Array Bool):Prop:=l.size=ops.size∧l'.size=ops.size∧ ∀ i,i<ops.size→l'.getD (Jo σ i) false=l.getD i false
theorem LsP.put (D:afT σ ops) {l l':Array Bool} (h:LsP σ ops l l') {i:Nat} (hi:i<ops.size):LsP σ ops (l.setIfInBounds i true) (l'.setIfInBounds (Jo σ i) true):=by
 obtain ⟨h1,h2,h3⟩:=h;refine ⟨by simp [h1],by simp [h2],fun j hj=>?_⟩;have hp:=(D.inv i hi).1;have hq:=(D.inv j hj).1;have inj:Jo σ i=Jo σ j→i=j:=fun e=>by rw [←(D.inv i hi).2, ←(D.inv j hj).2,e]
 simp only [Array.getD_eq_getD_getElem?,Array.getElem?_setIfInBounds,h1,h2];have h3':=h3 j hj;simp only [Array.getD_eq_getD_getElem?] at h3';by_cases e:i=j
 ·subst e;simp [hi,hp]
 ·rw [if_neg e,if_neg (fun q=>e (inj q))];exact h3'
end
theorem vI {P:Program} {ops:Array Oper} {Q:Exit→Act→World→Prop} {i:Nat} {o:Oper} {v:Value} {K:Act→World→Prop} {a:Act} {w w':World} (hi:ops[i]? =some o) (hg:Region.wanted o (yielded ops a.tmps)=true)
  (hrun:(execOp a.eval o).run P w= .ok (.value v) w') (hK:K (a.put o.dst v) w'):wpOp P ops Q i K a w:=by
 unfold wpOp;rw [hi];simp only;rw [if_pos hg];refine .inl ?_;unfold Oper.wp;rw [hrun];exact hK
end
end Go.Proofs.YtljfgdlgmdcmfaaGreat.Wv
namespace Go.Proofs.YtljfgdlgmdcmfaaGreat
section
open Go.RowKit Wv
def rowP (i k:Nat):List (Nat × Nat):=(List.range k).map fun j=>(i,j)
theorem qU (i k:Nat):rowP i (k+1)=rowP i k++[(i,k)]:=by unfold rowP;rw [List.range_succ,List.map_append];rfl
def prs:Nat→List (Nat × Nat)
 | 0=>[]
 | i+1=>prs i++rowP i i
variable {i:Nat}
theorem afU    {n:Nat} (h : i ≤ n) : prs i <+: prs n := by
  induction n with
  | zero => have : i = 0 := by omega
            subst this; exact List.prefix_refl _
  | succ n ih =>
    by_cases e : i = n + 1
    · subst e; exact List.prefix_refl _
    · exact (ih (by omega)).trans (List.prefix_append _ _)
theorem abz     {j k:Nat} (h : j ≤ k) : rowP i j <+: rowP i k := by
  induction k with
  | zero => have : j = 0 := by omega
            subst this; exact List.prefix_refl _
  | succ k ih =>
    by_cases e : j = k + 1
    · subst e; exact List.prefix_refl _
    · rw [qU       ]; exact (ih (by omega)).trans (List.prefix_append _ _)
theorem abA {k n:Nat} (h:i<n) (hk:k≤i):prs i++rowP i k<+:prs n:=
 ((List.prefix_append_right_inj (prs i)).2 (abz hk)).trans (afU (i:=i+1) h)
def afV (x:Nat × Nat):Array Value:= #[.int .i64 (x.1:Nat), .int .i64 (x.2:Nat)]
theorem WO (F:Fence) (n:Nat) (hF:F.fn 264) (hro:F.round=none) (l B N:Nat) (J Jx:List (Nat × Nat)→World→Prop) (Kp:World→World→Prop)
  (hY: ∀ pre (x:Nat × Nat) W,x.1<N→x.2<x.1→J pre W→pre.length<(prs N).length→YieldAt F (n - 1) Tryz.prog l (afV x) W fun e W'=>
   (e= .returned (.bool true)∧J (pre++[x]) W'∧Kp W W')∨(e= .returned (.bool false)∧Jx (pre++[x]) W'))
  (W:World) (hB:W.cell? ⟨B,0,none⟩=some (.int .i64 N)) (hN:N≤4611686018427387904) (hn:1≤n) (h0:J [] W):
  CallsIn F n Tryz.prog 264 #[.func (.yield l) #[] #[], .pointer (some ⟨B,0,none⟩)] W fun e W'=>(∃ v,e= .returned v)∧
   ((∃ ys,ys=prs N∧J ys W')∨(∃ pre,pre<+:prs N∧Jx pre W')):=by
 refine callsIn_of_wp Tryz.func264 rfl hF ?_ hro;simp only [Tryz.ntmps264,List.size_toArray,List.length_cons,List.length_nil,Nat.reduceAdd,Nat.reduceSub,Array.replicate_succ,Array.replicate_zero,List.push_toArray,List.append_toArray,List.nil_append,List.cons_append];gi_wp2
 gi_loopw [6] (fun v6 wr=> ∃ (i:Nat),v6= .int .i64 i∧i≤N∧J (prs i) wr) (fun v6 _=>N - (intOf v6).toNat)
 case atStart=>exact ⟨0,rfl,Nat.zero_le _,h0⟩
 case round=>
  obtain ⟨i,rfl,hi,hJ⟩:=hrel;have HJ:=Lib.hid hJ;clear hJ;by_cases hlt:i<N
  ·have e1:(i:Int)<(N:Int):=by omega
   gi_wp2
   gi_loopw [10] (fun v10 wr=> ∃ (k:Nat),v10= .int .i64 k∧k≤i∧J (prs i++rowP i k) wr) (fun v10 _=>i - (intOf v10).toNat)
   case atStart=>exact ⟨0,rfl,Nat.zero_le _,by show J (prs i++[]) _;rw [List.append_nil];exact HJ.out⟩
   case round=>
    obtain ⟨k,rfl,hk,hJ⟩:=hrel;by_cases hlt2:k<i
    ·have e2:(k:Int)<(i:Int):=by omega
     have hpre:Hid (prs i++rowP i (k+1)<+:prs N):=abA hlt hlt2;have hlen:(prs i++rowP i k).length<(prs N).length:=by
      have:=hpre.out.length_le;rw [qU, ←List.append_assoc,List.length_append,List.length_singleton] at this;omega
     obtain ⟨fn,tmps,assign,body,hy,hR⟩:=hY (prs i++rowP i k) (i,k) _ hlt hlt2 hJ hlen;simp only [afV] at hy;clear hJ hlen;gi_wp2
     refine hR.mono ?_;clear hy hR;rintro e W' (⟨rfl,hJ',hk'⟩ | ⟨rfl,ajf⟩)
     ·have HJ':=Lib.hid hJ';clear hJ' hk';gi_wp2
      go_roundw
      case rel=>exact ⟨k+1,by go_num,by omega,by rw [qU, ←List.append_assoc];exact HJ'.out⟩
      case measure=>simp [intOf];omega
     ·have HJ':=Lib.hid ajf;clear ajf;gi_wp2
      refine bodyPost_ret (results_none rfl _ _ _) rfl ?_;exact ⟨⟨_,rfl⟩, .inr ⟨_,hpre.out,by rw [qU, ←List.append_assoc];exact HJ'.out⟩⟩
    ·have hki:k=i:=by omega
     subst hki;have HJ2:=Lib.hid hJ;clear hJ;gi_wp2
     go_roundw
     case rel=>exact ⟨k+1,by go_num,by omega,HJ2.out⟩
     case measure=>simp [intOf];omega
  ·have hiN:i=N:=by omega
   subst hiN;gi_wp2
   go_end0
   exact ⟨⟨_,rfl⟩, .inl ⟨_,rfl,HJ.out⟩⟩
abbrev PrT (N:Nat):={p:Nat × Nat // p.1<N∧p.2<p.1}
theorem LC {h:Hp} {id:Nat} (N:Nat) (hh:h[id]? =some (some (.blk [.v (.int .i64 N)]))) (hN:N≤4611686018427387904):
  acH Tryz.prog 264 [.ptr id 0] h (fun (x:PrT N)=>afV x.1) [id] (fun ys=>ys.map (·.1)=prs N) (fun pre=>pre.map (·.1)<+:prs N) (prs N).length:=by
 intro X vs hX hXh hr l J Jx W hW _ _ hY h0;subst hXh;match vs,hr.1 with
 | [v0],_=>
  have hv:=hr.2 0 _ v0 rfl rfl;cases hv with
  | ptr hid hp=>
  obtain ⟨b,hb,rfl⟩:=hp _ hh;have hc:=Ed (l:=[.int .i64 N]) hX hh hb 0;have hlt:b<X.w.heap.size:=hX.lt ⟨id,⟨_,hh⟩,hb⟩;have K:=WO Fence.wide 8 trivial rfl l b N (fun q W=> ∃ q':List (PrT N),q'.map (·.1)=q∧J q' W) (fun q W=> ∃ q':List (PrT N),q'.map (·.1)=q∧Jx q' W) _ (fun pre x W x1 x2 ⟨q',e,hJ⟩ hl=>by
    subst e;obtain ⟨fn,tmps,assign,body,g1,g2⟩:=hY q' ⟨x,x1,x2⟩ W hJ (by simpa using hl);refine ⟨fn,tmps,assign,body,g1,g2.mono ?_⟩;rintro e W' (⟨e1,e2,e3⟩ | ⟨e1,e2⟩)
    ·exact .inl ⟨e1,⟨_,by simp,e2⟩,e3⟩
    ·exact .inr ⟨e1,⟨_,by simp,e2⟩⟩) W ((hW.cell (p:=⟨b,0,none⟩) hlt).trans hc) hN (by decide) ⟨[],rfl,h0⟩
  refine K.mono ?_;rintro e W' ⟨he,⟨ys,rfl,q',e1,e2⟩ | ⟨pre,e0,q',e1,e2⟩⟩
  ·exact ⟨he, .inl ⟨q',e1,e2⟩⟩
  ·exact ⟨he, .inr ⟨q',by show q'.map (·.1)<+:prs N;rw [e1];exact e0,e2⟩⟩
end
end Go.Proofs.YtljfgdlgmdcmfaaGreat
