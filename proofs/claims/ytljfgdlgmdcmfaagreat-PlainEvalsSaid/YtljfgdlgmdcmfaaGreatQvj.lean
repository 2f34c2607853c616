/- Parts of a proof. -/
import Derived.Test.YtljfgdlgmdcmfaaGreatQvi
import Derived.Test.YtljfgdlgmdcmfaaGreatQvf
set_option linter.unusedVariables false
set_option linter.unusedSimpArgs false
set_option maxHeartbeats 3200000
set_option maxRecDepth 100000
namespace Go.Proofs.YtljfgdlgmdcmfaaGreat
section
open Go.RowKit Wv
def iR (f:Nat→ByteArray):Nat→Option Nms
 | 0=>some []
 | n+1=>(iR f n).bind fun ns=>match aF ns (f n) with
  | some _=>none
  | none=>some (ns++[(f n,false,0)])
theorem yL {f:Nat→ByteArray} {i:Nat} (h:iR f i=none): ∀ {n:Nat},i≤n→iR f n=none
 | 0,q=>by
  have:i=0:=by omega
  subst this;exact h
 | n+1,q=>by
  by_cases e:i=n+1
  ·subst e;exact h
  ·have:=yL h (n:=n) (by omega);simp only [iR,this,Option.bind_none]
theorem yM {s:ByteArray} {r r':Bool × Nat} {s':ByteArray}: ∀ {ns:Nms},aF (ns++[(s',r')]) s=some r→aF ns s=some r∨r=r'
 | [],h=>by
  unfold aF at h;simp only [List.nil_append] at h;split at h
  ·injection h with h;exact .inr h.symm
  ·cases h
 | p::q,h=>by
  have h':(if s=p.1 then some p.2 else aF (q++[(s',r')]) s)=some r:=h;show (if s=p.1 then some p.2 else aF q s)=some r∨_;by_cases e:s=p.1
  ·rw [if_pos e] at h' ⊢;exact .inl h'
  ·rw [if_neg e] at h' ⊢;exact yM h'
theorem Qm {f:Nat→ByteArray}: ∀ {n:Nat} {ns:Nms} {s:ByteArray} {r:Bool × Nat},iR f n=some ns→aF ns s=some r→r.2≤8
 | 0,ns,s,r,h,h2=>by injection h with h;subst h;cases h2
 | n+1,ns,s,r,h,h2=>by
  cases hq:iR f n with
  | none=>simp only [iR,hq,Option.bind_none] at h;cases h
  | some ns'=>
   simp only [iR,hq,Option.bind_some] at h;cases hf:aF ns' (f n) with
   | some _=>rw [hf] at h;cases h
   | none=>
    rw [hf] at h;injection h with h;subst h;rcases yM h2 with q | q
    ·exact Qm hq q
    ·subst q;exact Nat.zero_le _
def Oy:Except (Nat × Int) (Nms × List (Bool × Nat))→Nms × List (Bool × Nat)
 | .ok q=>q
 | .error _=>([],[])
def UE (ns:Nms) (ss:List (Bool × Nat)) (i:Nat) (s:ByteArray):Except Int (Bool × Nat)→Except (Nat × Int) (Nms × List (Bool × Nat))
 | .error e=> .error (i,e)
 | .ok r=> .ok (ns++[(s,r)],ss++[r])
def Af (ln:Nat→ByteArray) (sh:Nms→Nat→Except Int (Bool × Nat)) (i:Nat):Except (Nat × Int) (Nms × List (Bool × Nat))→Except (Nat × Int) (Nms × List (Bool × Nat))
 | .error e=> .error e
 | .ok (ns,ss)=>if (aF ns (ln i)).isSome=true then .error (i,230) else UE ns ss i (ln i) (sh ns i)
def fF (ns0:Nms) (ln:Nat→ByteArray) (sh:Nms→Nat→Except Int (Bool × Nat)):Nat→Except (Nat × Int) (Nms × List (Bool × Nat))
 | 0=> .ok (ns0,[])
 | i+1=>Af ln sh i (fF ns0 ln sh i)
def IE:Option (Bool × Nat)→Option Int
 | none=>some 230
 | some r=>if r.1=true then some 234 else none
def outT (ns:Nms) (fo:Nat→ByteArray):Nat→Option Int
 | 0=>none
 | i+1=>match outT ns fo i with
  | some e=>some e
  | none=>IE (aF ns (fo i))
theorem tX {ns:Nms} {fo:Nat→ByteArray} {i:Nat} {e:Int} (h:outT ns fo i=some e): ∀ {n:Nat},i≤n→outT ns fo n=some e
 | 0,q=>by
  have:i=0:=by omega
  subst this;exact h
 | n+1,q=>by
  by_cases e2:i=n+1
  ·subst e2;exact h
  ·have:=tX h (n:=n) (by omega);simp only [outT,this]
theorem rH {ns0:Nms} {ln:Nat→ByteArray} {sh:Nms→Nat→Except Int (Bool × Nat)} {i:Nat} {q:Nat × Int} (h:fF ns0 ln sh i= .error q): ∀ {n:Nat},i≤n→fF ns0 ln sh n= .error q
 | 0,e=>by
  have:i=0:=by omega
  subst this;exact h
 | n+1,e=>by
  by_cases e2:i=n+1
  ·subst e2;exact h
  ·have:=rH h (n:=n) (by omega);show Af ln sh n (fF ns0 ln sh n)=_;rw [this];rfl
theorem UF {c:Ci} (h:dS c=0):c.nl≤60:=by
 unfold dS at h;split at h
 ·cases h
 ·next h1=>
  have h2:rD c=true:=by
   cases hf:rD c with
   | true=>rfl
   | false=>exact absurd (by rw [hf];simp) h1
  unfold rD at h2;simp only [Bool.and_eq_true,decide_eq_true_eq] at h2;omega
theorem mY {c:Ci} (h:dS c=0) {i:Nat} (hi:i<c.nl):aW (c.le i)=true:=by
 unfold dS at h;split at h
 ·cases h
 ·split at h
  ·cases h
  ·next h2=>
   cases hf:aW (c.le i) with
   | true=>rfl
   | false=>
    refine absurd ?_ h2;unfold aI;refine List.any_eq_true.2 ⟨i,List.mem_range.2 hi,?_⟩;rw [hf];simp
def lastT (ss:List (Bool × Nat)) (nl:Nat):Option Int→List (Bool × Nat) × Int × Int
 | some e=>([],nl,e)
 | none=>(ss,0,0)
def Lj (c:Ci):Except (Nat × Int) (Nms × List (Bool × Nat))→List (Bool × Nat) × Int × Int
 | .error (i,e)=>([],i,e)
 | .ok (ns,ss)=>lastT ss c.nl (outT ns c.fo c.no)
def qA (c:Ci) (ru:Ex→Nat→Except Int Nat):List (Bool × Nat) × Int × Int:=match iR c.fi c.ni with
 | none=>([], -1,230)
 | some ns=>Lj c (fF ns c.ln (fun ns i=>shE ns ru (c.le i)) c.nl)
def shL (ss:List (Bool × Nat)):List AV:=ss.flatMap fun r=>[.v (.bool r.1), .v (.int .i64 r.2)]
theorem kX (ss:List (Bool × Nat)): ∀ a,a∈shL ss→Clo a:=by
 intro a ha;obtain ⟨r,_,h⟩:=List.mem_flatMap.1 ha;simp only [List.mem_cons,List.not_mem_nil,or_false] at h;rcases h with rfl | rfl
 ·exact .v _
 ·exact .v _
theorem Qn (ss:List (Bool × Nat)):(shL ss).length=ss.length*2:=by
 induction ss with
 | nil=>rfl
 | cons r q ih=>
  show (_::_::shL q).length=_;rw [List.length_cons,List.length_cons,ih,List.length_cons];omega
theorem ad8 (ss:List (Bool × Nat)) (r:Bool × Nat):shL (ss++[r])=shL ss++[.v (.bool r.1), .v (.int .i64 r.2)]:=by
 unfold shL;rw [List.flatMap_append];rfl
def typeA (q:List (Bool × Nat) × Int × Int):AV:= .tup [.t q.1.length 2 (shL q.1), .v (.int .i64 q.2.1), .v (.int .i64 q.2.2)]
def fG (me:Int) (c:Ci) (ru:Ex→Nat→Except Int Nat):List (Bool × Nat) × Int × Int:=
 if me≠0 then ([],0,2) else if dS c≠0 then ([],0,dS c) else qA c ru
variable {X:Cx}
theorem aT.weak {n:Nat} {Y:Cx} (S:aT n X Y):aT 0 X Y:=
 ⟨S.os,S.tape,S.output,S.size,S.block,S.keep,Nat.zero_le _,fun _ _ _ _ _ h=>absurd h (Nat.not_lt_zero _),fun _ _ h=>absurd h (Nat.not_lt_zero _),S.own,S.nC,fun _ _ h=>absurd h (Nat.not_lt_zero _),S.dse⟩
theorem aT.defs {n:Nat} {Y:Cx} {d d2:List Deferred} (S:aT n (X.def_ d2) Y):aT n (X.def_ d) (Y.def_ d):=
 ⟨S.os,S.tape,S.output,S.size,S.block,S.keep,S.len,S.oh,S.l7,S.own,S.nC,S.omap,rfl⟩
theorem Qo {x y:Value} (h:Rep X (.v x) y):y=x:=by cases h;rfl
theorem Zi {e:Int} {v:Value} (h:Rep X (lu e) v):v= .iface 98 (.agg #[.int .i64 e]):=by
 unfold lu at h;cases h with
 | ifc h=>
  cases h with
  | @g _ cvs hc hr=>
   match cvs,hc with
   | [c0],_=>rw [Qo (hr 0 _ c0 rfl rfl)]
theorem wY (hX:Ok X) {id b:Nat} {a:AV} (h:X.h[id]? =some (some (.blk [a]))) (hb:(X.m id).1=some b): ∃ x,X.w.cell? ⟨b,0,none⟩=some x∧X.w.frozen? ⟨b,0,none⟩=false∧Rep X a x:=by
 obtain ⟨b',cvs,T,h1,h2,h3,_,h5⟩:=hX.blk id _ h;rw [hb] at h1;injection h1 with h1;subst h1;have hs:0<cvs.size:=by rw [h3];exact Nat.one_pos
 refine ⟨cvs[0],?_,?_,h5 0 a _ rfl (Array.getElem?_eq_getElem hs)⟩
 ·simp [World.cell?,h2,Array.getElem?_eq_getElem hs]
 ·simp [World.frozen?,h2]
theorem jZ {id off:Nat} {v:Value} {c:List AV} (h:Rep X (.ptr id off) v) (hc:X.h[id]? =some (some (.blk c))): ∃ b,(X.m id).1=some b∧v= .pointer (some ⟨b,off,none⟩):=by
 cases h with
 | ptr hid h=>exact h c hc
def tyL:List Nat:=[0,1,2,6,28,4,5,3,8,32,9,7,43,42,44,41,10,12,58,57,59,56,13,14,15,88,87,89,86,17,19,18]
def EO (i e:Int):AV:= .tup [.v (.slice none 0 0), .v (.int .i64 i), .v (.int .i64 e)]
def Oz:Array ResultVar:= #[.cell 4 34, .cell 5 3, .cell 6 35]
def ad9 (x:Par) (c:Ci):Hp:=[some (.blk (dN x)),some (.blk (ciC c)),some (.blk [.v (.slice none 0 0)]),some (.blk [.v (.int .i64 0)]),some (.blk [.v (.int .i64 0)]),some (.blk [.v (.int .i64 (-1))])]
def OA (t:Int):Ev:=[(2, .ptr 0 0),(3, .ptr 1 0),(4, .ptr 2 0),(5, .ptr 3 0),(6, .ptr 4 0),(9, .ptr 5 0),(7, .v (.int .i64 t))]
def aii (mv:Nat) (me:Int) (x:Par) (c:Ci) (e:Ev) (h:Hp):Prop:=wC (OA mv) e∧h=ad9 x c∧me=0∧dS c=0
def aij (mv:Nat) (me:Int) (x:Par) (c:Ci) (q:List (Bool × Nat) × Int × Int):dA:=fun ex e h=>match ex with
 | .normal=>aii mv me x c e h
 | .ret=>EK Tryz.prog Oz (fun r _=> ∃ i e,q=([],i,e)∧r=EO i e) (fun _ _=>False) .ret e h
 | _=>False
variable {e:Ev}{h:Hp}{q:List (Bool × Nat) × Int × Int}{x:Par}
theorem aik {mv:Nat} {me:Int}  {c:Ci}   :aij mv me x c q .normal e h=aii mv me x c e h:=rfl
theorem Zj {mv:Nat} {me:Int}  {c:Ci}   :aij mv me x c q .ret e h=EK Tryz.prog Oz (fun r _=> ∃ i e,q=([],i,e)∧r=EO i e) (fun _ _=>False) .ret e h:=rfl
def ail (x:Par) (c:Ci) (q:List (Bool × Nat) × Int × Int):dA:=fun ex e_ h=>match ex with
 | .ret=>EK Tryz.prog Oz (fun r _=>q.2=(0,0)∧r=typeA q) (fun _ _=>False) .ret e_ h
 | .panic av=> ∃ i e s0 i0 e0,q=([],i,e)∧av=lu e∧h[2]? =some (some (.blk [s0]))∧h[3]? =some (some (.blk [.v (.int .i64 i0)]))∧h[4]? =some (some (.blk [.v (.int .i64 e0)]))∧h[5]? =some (some (.blk [.v (.int .i64 i)]))∧aO e_ 4= .ptr 2 0∧aO e_ 5= .ptr 3 0∧aO e_ 6= .ptr 4 0
 | _=>False
theorem ain {c:Ci}   :ail x c q .ret e h=EK Tryz.prog Oz (fun r _=>q.2=(0,0)∧r=typeA q) (fun _ _=>False) .ret e h:=rfl
theorem DX {c:Ci}  {av:AV} {e_:Ev} :ail x c q (.panic av) e_ h= ∃ i e s0 i0 e0,q=([],i,e)∧av=lu e∧h[2]? =some (some (.blk [s0]))∧h[3]? =some (some (.blk [.v (.int .i64 i0)]))∧h[4]? =some (some (.blk [.v (.int .i64 e0)]))∧h[5]? =some (some (.blk [.v (.int .i64 i)]))∧aO e_ 4= .ptr 2 0∧aO e_ 5= .ptr 3 0∧aO e_ 6= .ptr 4 0:=rfl
theorem Ll (x:Par) (c:Ci) (ru:Ex→Nat→Except Int Nat) (ks:Ex→Prop) (mv:Nat) (me:Int) (T1:TC Tryz.prog 60 [.g (dN x), .v (.int .i64 x.r)] (.tup [.v (.int .i64 mv), .v (.int .i64 me)])) (hc:okC c)
  (hR:me=0→ ∀ ns,Ip x mv ns ru ks) (hks: ∀ i,i<c.nl→ad3 ks (c.le i)):
  TC Tryz.prog 19 [.g (dN x), .g (ciC c)] (typeA (fG me c ru)):=by
 refine TC.Wn ⟨by kernel_rfl,fun X0 vs hX0 hh hr=>?_⟩ ?_
 case refine_2=>unfold typeA;simp only [Wv.BC];exact kX _
 refine calls_of_wp_defers Tryz.func19 rfl ?_;show (Lh [_,_,_,_] (.seq _ (.seq _ _))).wp _ _ _ _;have hX1:Ok (X0.def_ []):=hX0.def_;have hr1:fJ (X0.def_ []) [.g (dN x), .g (ciC c)] vs:=⟨hr.1,fun i a x h1 h2=>(hr.2 i a x h1 h2).def_⟩
 have hE1:=CS (N:=109) rfl hr1 (by show 2≤109;omega);refine DW (N:=109) (L:=tyL) (ks:=[]) (by kernel_rfl) (QA:=aij mv me x c (fG me c ru)) (fun i e h q=>q) (fun av e h q=>q) [_,_,_,_] (X0.def_ []) _ _ ?_ (by kernel_rfl) (Nat.zero_le _) hX1 hE1 ?_ ?_ ?_
 ·kernel_rfl
 ·show bP Tryz.prog 109 tyL [] _ _ _ X0.h;rw [hh];have T2:=Oc c hc;have hQ:fG me c ru=if me≠0 then ([],0,2) else if dS c≠0 then ([],0,dS c) else qA c ru:=rfl
  have hM: ∀ e h,aii mv me x c e h=(wC (OA mv) e∧h=ad9 x c∧me=0∧dS c=0):=fun _ _=>rfl
  have hG1:Clo (.g (dN x)):=by simp only [Wv.BC];exact dI x
  have hG2:=tq c;generalize me=e1 at*;generalize mv=t1 at*;generalize dS c=e2 at*;unfold ad9 at hM;simp only [dN,ciC,bG] at T1 T2 hG1 hG2 hM ⊢;generalize c.lets=L at*;simp only [Lh];simp (disch:=first|exact Wv.D|fail) only [Wv.B,simprocAttr,tyL,qM];refine ak T1 rfl (wS hG1 Wv.c) Wv.c ?_;by_cases h1:e1=0
  ·subst h1;refine Wv.W1 @decide_true ?_;refine ak T2 rfl (dR hG2) Wv.c ?_;by_cases h2:e2=0
   ·subst h2;refine Wv.W2 @aik hM ?_;simp (disch:=first|exact Wv.D|fail) only [Wv.B,simprocAttr,OA]
   ·rw [if_neg (by simp),if_pos h2] at hQ;simp (disch:=first|exact Wv.D|fail) only [Wv.B,simprocAttr,aj h2,Zj,Oz,hQ];exact ⟨_,_,rfl,rfl⟩
  ·rw [if_pos h1] at hQ;simp (disch:=first|exact Wv.D|fail) only [Wv.B,simprocAttr,aj h1,Zj,Oz,hQ];exact ⟨_,_,rfl,rfl⟩
 ·intro Y e a S hY hE hmid;obtain ⟨hfit,hh2,hm0,hck⟩:=hmid;have hEm:aN Y 109 (OA mv) a:=⟨hE.defers,hE.size,fun d=>by
   rcases wE hfit d with q | q
   ·rw [q];exact hE.rep d
   ·rw [q];exact .none _⟩
  have hds:a.defers=[]:=hE.defers.trans S.dse;refine wp_seq (IC (by rw [hE.size];decide) ?_);rw [hds];generalize hcv:Array.map a.eval _=cv;generalize hd:Deferred.mk _ _=d;show Code.wp _ _ _ _ _;have hY2:Ok (Y.def_ [d]):=hY.def_;have hE2:aN (Y.def_ [d]) 109 (OA mv) {tmps:=a.tmps.setIfInBounds 34 (.func (.func 62) #[] cv),defers:=[d]}:=by
   have h1:=(hEm.any (dst:=some 34) (v:= .func (.func 62) #[] cv) (fun d hd=>by injection hd with hd;subst hd;rfl))
   exact ⟨rfl,h1.size,fun d=>(h1.rep d).def_⟩
  refine wp_mono (dH (by kernel_rfl) (L:=tyL) (ks:=[(1000000,6)]) _ (ail x c (fG me c ru)) (Y.def_ [d]) (OA mv) _ ?_ (by kernel_rfl) ?_ hY2 hE2 ?_) ?_
  ·kernel_rfl
  ·show 6≤Y.h.length;rw [hh2];exact Nat.le_refl 6
  ·show bP _ _ _ _ _ _ _ Y.h;rw [hh2];have hQ:fG me c ru=qA c ru:=by unfold fG;rw [if_neg (by simp [hm0]),if_neg (by simp [hck])]
   have hT0:qA c ru=match iR c.fi c.ni with
    | none=>([], -1,230)
    | some ns=>Lj c (fF ns c.ln (fun ns i=>shE ns ru (c.le i)) c.nl):=rfl
   rw [hQ];have hLc:=iV c;have hdr: ∀ i,i<c.nl→ ∃ r,List.drop (i*6) c.lets=iD (c.ln i) (c.le i)++r:=fun i hi=>bH (f:=fun i=>iD (c.ln i) (c.le i)) (fun i=>gV _ _) hi
   generalize hQQ:qA c ru=QQ at hT0 ⊢;have hR1:=hR hm0;clear hR;generalize ht:((mv:Nat):Int)=t at hR1 ⊢;have hcc:=qj c;have hpc:=dI x;simp only [ciC,bG] at hcc;simp only [dN] at hpc;generalize hL:c.lets=L at*;have aea: ∀ (s0:AV) (pl:Int) (ns:Nms) (r:Hp) (m:Nat),8≤m→lo m s0→loH m r→loH m (some (.blk [.v (.int .i64 x.n), .v (.int .u32 x.p), .v (.int .i64 x.r), .t x.ch.length 1 (x.ch.map fun (c:Nat)=> .v (.int .u32 c)), .v (.int .u32 x.sp), .v (.int .i64 x.wt), .v (.int .u32 x.er)])::
     some (.blk [.v (.string c.name), .t c.ni 1 (tab c.ni fun i=> .v (.string (c.fi i))), .t c.nl 6 L, .t c.no 1 (tab c.no fun i=> .v (.string (c.fo i)))])::
     some (.blk [s0])::some (.blk [.v (.int .i64 0)])::some (.blk [.v (.int .i64 0)])::some (.blk [.v (.int .i64 pl)])::some (.map (nsE ns))::some (.blk (tyP x t++[.mp 6]))::r):=fun s0 pl ns r m hm hs0 hr=>by
    have h1: ∀ v:AV,lo m v→loL m [v]:=fun v hv a ha=>by rw [List.mem_singleton] at ha;subst ha;exact hv
    refine ⟨fun a ha=> .clo (hpc a ha),fun a ha=> .clo (hcc a ha),h1 _ hs0,h1 _ (.clo (.v _)),h1 _ (.clo (.v _)),h1 _ (.clo (.v _)),fun a ha=> .clo (tu ns a ha),fun a ha=>?_,hr⟩;rcases List.mem_append.1 ha with h | h
    ·exact .clo (Ql x t a h)
    ·rw [List.mem_singleton] at h;subst h;exact .mp (by omega)
   simp only [OA,ad9,dN,ciC,bG,hL];simp (disch:=first|exact Wv.D|fail) only [Wv.B,simprocAttr,tyL];refine aQ (σ:=Nat) (fun i=>[(3, .ptr 1 0),(4, .ptr 2 0),(5, .ptr 3 0),(6, .ptr 4 0),(9, .ptr 5 0),(10, .ptr 7 0),(41, .t c.ni 1 (tab c.ni fun i=> .v (.string (c.fi i)))),(42, .v (.int .i64 c.ni)),(43, .v (.int .i64 i))])
    (fun i=>[some (.blk [.v (.int .i64 x.n), .v (.int .u32 x.p), .v (.int .i64 x.r), .t x.ch.length 1 (x.ch.map fun (c:Nat)=> .v (.int .u32 c)), .v (.int .u32 x.sp), .v (.int .i64 x.wt), .v (.int .u32 x.er)]),
     some (.blk [.v (.string c.name), .t c.ni 1 (tab c.ni fun i=> .v (.string (c.fi i))), .t c.nl 6 L, .t c.no 1 (tab c.no fun i=> .v (.string (c.fo i)))]),
     some (.blk [.v (.slice none 0 0)]),some (.blk [.v (.int .i64 0)]),some (.blk [.v (.int .i64 0)]),some (.blk [.v (.int .i64 (-1))]),some (.map (nsE ((iR c.fi i).getD []))),some (.blk (tyP x t++[.mp 6]))])
    (fun i=>i≤c.ni∧iR c.fi i=some ((iR c.fi i).getD [])) (fun i=>c.ni - i) 0 ⟨Nat.zero_le _,rfl⟩ (by simp (disch:=first|exact Wv.D|fail) only [Wv.B,simprocAttr,iR,Option.getD_some,nsE,tyP]) Wv.V ?_
   rintro i ⟨hi,hns⟩;have hni:=hc.ni;by_cases hlt:i<c.ni
   ·have e1:(i:Int)<c.ni:=by omega
    obtain ⟨ns,hq⟩: ∃ ns,iR c.fi i=some ns:=⟨_,hns⟩
    have hgd:(iR c.fi i).getD []=ns:=by rw [hq];rfl
    have hP:(tyP x t).length=8:=rfl;have hPl: ∀ a,a∈tyP x t→Clo a:=fun a ha=>Ql x t a ha
    refine Wv.W1 hgd ?_;refine aJ (fst:=[]) (cap:=[]) (aif (Gh x t ns (c.fi i)) _ _ _ _ _ _ [] (dR Wv.c) (by rintro r ⟨_,rfl⟩;simp only [Wv.BC]) (by rintro r ⟨_,rfl⟩;exact iG 230)) ?_ ?_
    ·rintro av h' ⟨⟨hfn,rfl⟩,rfl⟩;refine Wv.W ?_;refine aB (fst:=[]) (cap:=[]) (DV _ _ _ _ _ _ [] (tyP x t) hP ns (c.fi i) (false,0) hfn ?_) ?_
     ·exact aea (.v (.slice none 0 0)) (-1) ns [] 8 (Nat.le_refl _) (.clo (.v _)) trivial
     ·rintro av h' ⟨rfl,rfl⟩;have hnx:iR c.fi (i+1)=some (ns++[(c.fi i,false,0)]):=by
       simp only [iR,hq,Option.bind_some,hfn]
      have hgn:(iR c.fi (i+1)).getD []=ns++[(c.fi i,false,0)]:=by rw [hnx];rfl
      simp (disch:=first|exact Wv.D|fail) only [Wv.B,simprocAttr,froze];refine au (i+1) ⟨by omega,by rw [hnx];rfl⟩ (by omega) (by rw [hgn]) Wv.V2
    ·rintro av h' ⟨⟨hfn,rfl⟩,rfl⟩;have hnx:iR c.fi c.ni=none:=yL (i:=i+1) (by
      cases hf:aF ns (c.fi i) with
      | none=>exact absurd hf hfn
      | some r=>simp only [iR,hq,Option.bind_some,hf]) (by omega)
     rw [hnx] at hT0;simp only at hT0;refine Wv.W1 @DX ?_;exact ⟨_,_,_,_,_,hT0,rfl,rfl,rfl,rfl,rfl,rfl,rfl,rfl⟩
   ·have hin:i=c.ni:=by omega
    subst hin;obtain ⟨ns,hq⟩: ∃ ns,iR c.fi c.ni=some ns:=⟨_,hns⟩
    have hgd:(iR c.fi c.ni).getD []=ns:=by rw [hq];rfl
    have hnb: ∀ s r,aF ns s=some r→r.2≤8:=fun s r h=>Qm hq h
    rw [hq] at hT0;simp only at hT0;refine Wv.W1 hgd ?_;clear hgd hns hi hlt hq;generalize hsh:(fun (ns:Nms) (i:Nat)=>shE ns ru (c.le i))=sh at hT0;refine jU (σ:=Nat) (fun i=>[(3, .ptr 1 0),(4, .ptr 2 0),(5, .ptr 3 0),(6, .ptr 4 0),(9, .ptr 5 0),(10, .ptr 7 0),(56, .t c.nl 6 L),(57, .v (.int .i64 c.nl)),(58, .v (.int .i64 i))])
     (fun i=>[some (.blk [.v (.int .i64 x.n), .v (.int .u32 x.p), .v (.int .i64 x.r), .t x.ch.length 1 (x.ch.map fun (c:Nat)=> .v (.int .u32 c)), .v (.int .u32 x.sp), .v (.int .i64 x.wt), .v (.int .u32 x.er)]),
      some (.blk [.v (.string c.name), .t c.ni 1 (tab c.ni fun i=> .v (.string (c.fi i))), .t c.nl 6 L, .t c.no 1 (tab c.no fun i=> .v (.string (c.fo i)))]),
      some (.blk [.own 8 i]),some (.blk [.v (.int .i64 0)]),some (.blk [.v (.int .i64 0)]),some (.blk [.v (.int .i64 ((i:Int) - 1))]),some (.map (nsE (Oy (fF ns c.ln sh i)).1)),some (.blk (tyP x t++[.mp 6])),some (.arr 42 2 (shL (Oy (fF ns c.ln sh i)).2) (2*(i - 1)))])
     (fun i=>i≤c.nl∧fF ns c.ln sh i= .ok (Oy (fF ns c.ln sh i))∧(Oy (fF ns c.ln sh i)).2.length=i∧ ∀ s r,aF (Oy (fF ns c.ln sh i)).1 s=some r→r.2≤8) (fun i=>c.nl - i) 0 ⟨Nat.zero_le _,rfl,rfl,hnb⟩ ?_ ?_
    ·refine Ent.trans (Ent.adD 2 0 42 2 [.v (.slice none 0 0)] (by omega) rfl rfl) (Ent.fit ?_);exact Wv.V
    rintro i ⟨hi,hok,hsl,hb⟩;obtain ⟨⟨ns1,ss⟩,hg⟩: ∃ q,Oy (fF ns c.ln sh i)=q:=⟨_,rfl⟩
    rw [hg] at hok hsl hb;simp only at hsl hb;have hnl:=hc.nl;by_cases hlt:i<c.nl
    ·have e1:(i:Int)<c.nl:=by omega
     obtain ⟨r,hd⟩:=hdr i hlt;have hform:aW (c.le i)=true:=mY hck hlt;have TE:=ad4 x t ns1 ru ks hb (hR1 ns1) (c.le i) (hc.le i hlt).1 hform (hks i hlt);have aio:sh ns1 i=shE ns1 ru (c.le i):=by rw [←hsh]
     have hG:=bU (c.le i);have hGl:=rC (c.ln i) (c.le i);unfold ShC at TE;have alC: ∀ r,shE ns1 ru (c.le i)= .ok r→r.2≤8:=fun r h=>yJ hb (c.le i) h
     generalize shE ns1 ru (c.le i)=O at TE aio alC;have hoy:=(hc.le i hlt).1;generalize c.le i=y at hd TE hG hGl hoy;obtain ⟨k',s',n',nl',li',na',ar',rfl⟩:=lQ hoy;unfold iD at hd hGl;rw [dh] at hd TE hG hGl;simp only [List.cons_append,List.nil_append] at hd;have aip:fF ns c.ln sh (i+1)=Af c.ln sh i (.ok (ns1,ss)):=by show Af c.ln sh i (fF ns c.ln sh i)=_;rw [hok]
     refine Wv.W2 hg hd ?_;refine aJ (fst:=[]) (cap:=[]) (aif (Gh x t ns1 (c.ln i)) _ _ _ _ _ _ [_,_] (dR Wv.c) (by rintro r ⟨_,rfl⟩;simp only [Wv.BC]) (by rintro r ⟨_,rfl⟩;exact iG 230)) ?_ ?_
     ·rintro av h' ⟨⟨hfn,rfl⟩,rfl⟩;refine Wv.W ?_;refine aJ (fst:=[]) (cap:=[]) (aif (args:=[.g _]) TE _ _ _ _ _ _ [_,_] (dR hG) (by rintro r ⟨s,_,rfl⟩;exact AO s) (by rintro r ⟨e,_,rfl⟩;exact iG e)) ?_ ?_
      ·rintro av h' ⟨⟨⟨k2,d2⟩,hO,rfl⟩,rfl⟩;have hnx:fF ns c.ln sh (i+1)= .ok (ns1++[(c.ln i,k2,d2)],ss++[(k2,d2)]):=by
        rw [aip];simp only [Af,hfn,Option.isSome_none,Bool.false_eq_true,if_false,aio,hO,UE]
       have hgn:Oy (fF ns c.ln sh (i+1))=(ns1++[(c.ln i,k2,d2)],ss++[(k2,d2)]):=by rw [hnx];rfl
       simp (disch:=first|exact Wv.D|fail) only [Wv.B,simprocAttr,shA];refine aB (fst:=[]) (cap:=[]) (DV _ _ _ _ _ _ [_,_,_] (tyP x t) rfl ns1 (c.ln i) (k2,d2) hfn ?_) ?_
       ·exact aea (.own 8 i) i ns1 _ 11 (by omega) (.own (by omega)) ⟨fun a ha=> .clo (kX ss a ha),fun a ha=> .clo (hGl a ha),fun a ha=> .clo (by
         simp only [List.mem_cons,List.not_mem_nil,or_false] at ha;rcases ha with rfl | rfl
         ·exact .v _
         ·exact .v _),trivial⟩
       ·rintro av h' ⟨rfl,rfl⟩;have anv:=UF hck;have hsz:=Qn ss;rw [hsl] at hsz;have hca: ∀ (a0 a1 a2 a3 a4 a5 a6 a7:Option Ob) (r:Hp) (fz:Nat),cellsA (a0::a1::a2::a3::a4::a5::a6::a7::some (.arr 42 2 (shL ss++[.v (.bool k2), .v (.int .i64 d2)]) fz)::r) (.own 8 (i+1))=some [.own 8 (i+1)]:=fun a0 a1 a2 a3 a4 a5 a6 a7 r fz=>by
         have:bQ (a0::a1::a2::a3::a4::a5::a6::a7::some (.arr 42 2 (shL ss++[.v (.bool k2), .v (.int .i64 d2)]) fz)::r) (.own 8 (i+1))=true:=by
          show decide ((shL ss++[AV.v (.bool k2),AV.v (.int .i64 d2)]).length=(i+1)*2)=true;rw [List.length_append,hsz];exact ah (by show i*2+2=_;omega)
         exact if_pos this
        have hdc:decide (i*2+2=(i+1)*2)=true:=ah (by omega);simp (disch:=first|exact Wv.D|fail) only [Wv.B,simprocAttr,froze,hsz,hca,hdc];have hpl:(i:Int)+1 - 1=i:=by omega
        have hfz:2*(i+1 - 1)=i*2:=by omega
        refine Wv.iO (i+1) 9 (by first | decide | exact Nat.le_of_ble_eq_true rfl) ⟨by omega,by rw [hnx];rfl,by rw [hgn];simp [hsl],?_⟩ (by omega) (by simp (disch:=first|exact Wv.D|fail) only [Wv.B,simprocAttr,hgn,hpl,hfz,Nat.mul_comm 2 i,ad8,Int.natCast_add,Int.natCast_one]) Wv.V2 (by simp only [Wv.BL, ↓reduceIte,Nat.reduceLeDiff,eq_true hLc]<;>omega) ?_
        ·rw [hgn];intro s r h;rcases yM h with q | q
         ·exact hb s r q
         ·subst q;exact alC _ hO
        ·rw [hgn];exact aea (.own 8 (i+1)) _ _ _ 9 (by omega) (.own (by omega)) ⟨fun a ha=> .clo (kX _ a ha),trivial⟩
      ·rintro av h' ⟨⟨e,hO,rfl⟩,rfl⟩;have hnx:fF ns c.ln sh (i+1)= .error (i,e):=by
        rw [aip];simp only [Af,hfn,Option.isSome_none,Bool.false_eq_true,if_false,aio,hO,UE]
       rw [rH hnx (n:=c.nl) (by omega)] at hT0;simp only [Lj] at hT0;refine Wv.W1 @DX ?_;exact ⟨_,_,_,_,_,hT0,rfl,rfl,rfl,rfl,rfl,rfl,rfl,rfl⟩
     ·rintro av h' ⟨⟨hfn,rfl⟩,rfl⟩;have hnx:fF ns c.ln sh (i+1)= .error (i,230):=by
       rw [aip];cases hf:aF ns1 (c.ln i) with
       | none=>exact absurd hf hfn
       | some r=>simp only [Af,hf,Option.isSome_some,if_true]
      rw [rH hnx (n:=c.nl) (by omega)] at hT0;simp only [Lj] at hT0;refine Wv.W1 @DX ?_;exact ⟨_,_,_,_,_,hT0,rfl,rfl,rfl,rfl,rfl,rfl,rfl,rfl⟩
    ·have hin:i=c.nl:=by omega
     subst hin;rw [hok] at hT0;have hT1:QQ=lastT ss c.nl (outT ns1 c.fo c.no):=hT0;refine Wv.W1 hg ?_;have hno:=hc.no;refine aQ (σ:=Nat) (fun i=>[(3, .ptr 1 0),(4, .ptr 2 0),(5, .ptr 3 0),(6, .ptr 4 0),(9, .ptr 5 0),(10, .ptr 7 0),(86, .t c.no 1 (tab c.no fun i=> .v (.string (c.fo i)))),(87, .v (.int .i64 c.no)),(88, .v (.int .i64 i))])
      (fun i=>[some (.blk [.v (.int .i64 x.n), .v (.int .u32 x.p), .v (.int .i64 x.r), .t x.ch.length 1 (x.ch.map fun (c:Nat)=> .v (.int .u32 c)), .v (.int .u32 x.sp), .v (.int .i64 x.wt), .v (.int .u32 x.er)]),
       some (.blk [.v (.string c.name), .t c.ni 1 (tab c.ni fun i=> .v (.string (c.fi i))), .t c.nl 6 L, .t c.no 1 (tab c.no fun i=> .v (.string (c.fo i)))]),
       some (.blk [.own 8 c.nl]),some (.blk [.v (.int .i64 0)]),some (.blk [.v (.int .i64 0)]),some (.blk [.v (.int .i64 c.nl)]),some (.map (nsE ns1)),some (.blk (tyP x t++[.mp 6])),some (.arr 42 2 (shL ss) (2*(c.nl - 1)))])
      (fun i=>i≤c.no∧outT ns1 c.fo i=none) (fun i=>c.no - i) 0 ⟨Nat.zero_le _,rfl⟩ Wv.V Wv.V ?_
     rintro i ⟨hi,hout⟩;have hout1:outT ns1 c.fo (i+1)=IE (aF ns1 (c.fo i)):=by simp only [outT,hout]
     by_cases hlt:i<c.no
     ·have e1:(i:Int)<c.no:=by omega
      have hlm:=wR (c.fo i) ns1;have aiq:tyP x t++[.mp 6]=[.v (.int .i64 x.n), .v (.int .u32 x.p), .v (.int .i64 x.r), .t x.ch.length 1 (x.ch.map fun (c:Nat)=> .v (.int .u32 c)), .v (.int .u32 x.sp), .v (.int .i64 x.wt), .v (.int .u32 x.er), .v (.int .i64 t), .mp 6]:=rfl;cases hq2:aF ns1 (c.fo i) with
      | none=>
       rw [hq2] at hlm hout1;simp only [Option.map_none] at hlm;simp only [IE] at hout1;refine Wv.W3 @zN hlm aiq ?_;refine aJ (fst:=[]) (cap:=[]) (bI false 230) (by rintro av h' ⟨hb,_⟩;cases hb) ?_;rintro av h' ⟨_,rfl,rfl⟩;rw [tX hout1 (n:=c.no) (by omega)] at hT1;simp only [lastT] at hT1;refine Wv.W1 @DX ?_;exact ⟨_,_,_,_,_,hT1,rfl,rfl,rfl,rfl,rfl,rfl,rfl,rfl⟩
      | some r=>
       obtain ⟨k2,d2⟩:=r;rw [hq2] at hlm hout1;simp only [Option.map_some,shA] at hlm;simp only [IE] at hout1;refine Wv.W3 @zN hlm aiq ?_;refine aJ (fst:=[]) (cap:=[]) (bI true 230) ?_ (by rintro av h' ⟨hb,_⟩;cases hb);rintro av h' ⟨_,rfl,rfl⟩;refine Wv.W ?_;refine aJ (fst:=[]) (cap:=[]) (bI (!k2) 234) ?_ ?_
       ·rintro av h' ⟨hk,rfl,rfl⟩;have hk2:k2=false:=by simpa using hk
        subst hk2;simp only [Bool.false_eq_true,if_false] at hout1;refine Wv.W ?_;refine Wv.iO (i+1) 9 (by first | decide | exact Nat.le_of_ble_eq_true rfl) ⟨by omega,hout1⟩ (by omega) (Wv.V1 aiq) Wv.V2 (by simp only [Wv.BL, ↓reduceIte,Nat.reduceLeDiff,eq_true hLc]<;>omega) ?_;exact aea (.own 8 c.nl) _ _ _ 9 (by omega) (.own (by omega)) ⟨fun a ha=> .clo (kX _ a ha),trivial⟩
       ·rintro av h' ⟨hk,rfl,rfl⟩;have hk2:k2=true:=by simpa using hk
        subst hk2;simp only [if_true] at hout1;rw [tX hout1 (n:=c.no) (by omega)] at hT1;simp only [lastT] at hT1;refine Wv.W1 @DX ?_;exact ⟨_,_,_,_,_,hT1,rfl,rfl,rfl,rfl,rfl,rfl,rfl,rfl⟩
     ·have hin:i=c.no:=by omega
      subst hin;rw [hout] at hT1;simp only [lastT] at hT1;have hsz:=Qn ss;rw [hsl] at hsz;have hca: ∀ (a0 a1 a2 a3 a4 a5 a6 a7:Option Ob) (r:Hp) (fz:Nat),cellsA (a0::a1::a2::a3::a4::a5::a6::a7::some (.arr 42 2 (shL ss) fz)::r) (.own 8 c.nl)=some [.own 8 c.nl]:=fun a0 a1 a2 a3 a4 a5 a6 a7 r fz=>by
       have:bQ (a0::a1::a2::a3::a4::a5::a6::a7::some (.arr 42 2 (shL ss) fz)::r) (.own 8 c.nl)=true:=by
        show decide ((shL ss).length=c.nl*2)=true;rw [hsz];exact ah rfl
       exact if_pos this
      simp (disch:=first|exact Wv.D|fail) only [Wv.B,simprocAttr,ain,Oz,hca,hsz];rw [hT1];exact ⟨rfl,by unfold typeA;rw [hsl]⟩
  ·intro ex a' w' hpost;have:=hpost.elim;cases this with
   | ok z ex Z e2 a2 S2 hZ hEZ h hx=>
    have hS6:aT 0 (X0.def_ []) Y:=S;rcases hx with ⟨rfl,rfl⟩ | ⟨i,rfl,rfl⟩ | ⟨rfl,rfl⟩ | ⟨v,av,rfl,rfl,hrv⟩
    ·exact False.elim h
    ·exact False.elim h
    ·have hd2:a'.defers=[d]:=hEZ.defers.trans S2.dse;show Leaves _ _ _ _ a'.defers .returning Z.w;rw [hd2, ←hd];refine leaves_cons (f:=62) (args:=cv) (by simp) (by simp [go_sem]) ?_;obtain ⟨b5,g5⟩:=jZ (hEm.rep 9) (by rw [hh2];rfl);obtain ⟨b2,g2⟩:=jZ (hEm.rep 4) (by rw [hh2];rfl);obtain ⟨b3,g3⟩:=jZ (hEm.rep 5) (by rw [hh2];rfl);obtain ⟨b4,g4⟩:=jZ (hEm.rep 6) (by rw [hh2];rfl);have hcv2:cv= #[.pointer (some ⟨b5,0,none⟩), .pointer (some ⟨b2,0,none⟩), .pointer (some ⟨b3,0,none⟩), .pointer (some ⟨b4,0,none⟩)]:=by
      rw [←hcv];simp [Act.eval,g5.2,g2.2,g3.2,g4.2]
     rw [hcv2];refine (aie _ _ _ _ Z.w).mono ?_;rintro e3 u' w'' ⟨rfl,rfl,rfl⟩;obtain ⟨r,r',h',h1,h2,hq0,rfl⟩:=h;obtain ⟨v,q1,q2⟩:=Au (fn:=Tryz.f19) hZ hEZ (by rw [Tryz.results19];exact h1);obtain ⟨V,z1,z2,z3,z4,z5⟩:=sK Z r _ h' v hZ h2 q2;have SS:Step (X0.def_ [d]) Z:=aT.full (by show aT X0.h.length _ _;rw [hh];exact aT.trans hX0.def_ (aT.defs S) (aT.weak S2));exact ⟨v,q1,v,V.def_ X0.ds,_,rfl,z1,(SS.trans hX0.def_ z2).undef,z3.def_,z5.def_,rfl⟩
    ·have hd2:a'.defers=[d]:=hEZ.defers.trans S2.dse;obtain ⟨i,e',s0,i0,e0,hq,rfl,t2,t3,t4,t5,u4,u5,u6⟩:=h;have hv:=Zi hrv;subst hv;show Leaves _ _ _ _ a'.defers (.panicking _) Z.w;rw [hd2, ←hd];refine leaves_cons (f:=62) (args:=cv) (by simp) (by simp [go_sem]) ?_;obtain ⟨b5,g5⟩:=jZ (hEm.rep 9) (by rw [hh2];rfl);obtain ⟨b2,g2⟩:=jZ (hEm.rep 4) (by rw [hh2];rfl);obtain ⟨b3,g3⟩:=jZ (hEm.rep 5) (by rw [hh2];rfl);obtain ⟨b4,g4⟩:=jZ (hEm.rep 6) (by rw [hh2];rfl);have hcv2:cv= #[.pointer (some ⟨b5,0,none⟩), .pointer (some ⟨b2,0,none⟩), .pointer (some ⟨b3,0,none⟩), .pointer (some ⟨b4,0,none⟩)]:=by
      rw [←hcv];simp [Act.eval,g5.2,g2.2,g3.2,g4.2]
     rw [hcv2];have k2:(Z.m 2).1=some b2:=(S2.l7 2 _ (by decide) t2).elim fun _ q=>q.2.trans g2.1
     have k3:(Z.m 3).1=some b3:=(S2.l7 3 _ (by decide) t3).elim fun _ q=>q.2.trans g3.1
     have k4:(Z.m 4).1=some b4:=(S2.l7 4 _ (by decide) t4).elim fun _ q=>q.2.trans g4.1
     have k5:(Z.m 5).1=some b5:=(S2.l7 5 _ (by decide) t5).elim fun _ q=>q.2.trans g5.1
     obtain ⟨x2,c2,f2,_⟩:=wY hZ t2 k2;obtain ⟨x3,c3,f3,r3⟩:=wY hZ t3 k3;obtain ⟨x4,c4,f4,r4⟩:=wY hZ t4 k4;obtain ⟨x5,c5,f5,r5⟩:=wY hZ t5 k5;have y3:=Qo r3;have y4:=Qo r4;have y5:=Qo r5;subst y3 y4 y5;have nn: ∀ {i j bi bj:Nat} {ci cj:List AV},Z.h[i]? =some (some (.blk ci))→Z.h[j]? =some (some (.blk cj))→(Z.m i).1=some bi→(Z.m j).1=some bj→i≠j→bi≠bj:=fun h1 h2 h3 h4 hn he=>hn (hZ.inj _ _ _ ⟨_,h1⟩ ⟨_,h2⟩ h3 (he▸h4))
     have n52:=nn t5 t2 k5 k2 (by decide);have n53:=nn t5 t3 k5 k3 (by decide);have n54:=nn t5 t4 k5 k4 (by decide);have n23:=nn t2 t3 k2 k3 (by decide);have n24:=nn t2 t4 k2 k4 (by decide);have n34:=nn t3 t4 k3 k4 (by decide);refine (Zg b5 b2 b3 b4 e' i x2 i0 e0 Z.w c5 c2 c3 c4 f2 f3 f4 n52 n53 n54 n23 n24 n34).mono ?_;rintro e3 u' w'' ⟨rfl,rfl,hw⟩;have SS:Step (X0.def_ [d]) Z:=aT.full (by show aT X0.h.length _ _;rw [hh];exact aT.trans hX0.def_ (aT.defs S) (aT.weak S2));have hnm: ∀ b, ¬ (X0.def_ [d]).mine b:=fun b ⟨i,⟨o,ho⟩,_⟩=>by
      have ho':X0.h[i]? =some (some o):=ho;rw [hh] at ho';simp at ho'
     have hB:Below X0.w.heap.size X0.w Z.w:=SS.below hnm;have ge: ∀ {i b:Nat} {c:List AV},Z.h[i]? =some (some (.blk c))→(Z.m i).1=some b→X0.w.heap.size≤b:=fun h1 h2=>(SS.own _ ⟨_,⟨_,h1⟩,h2⟩).elim id fun q=>absurd q (hnm _)
     have l2:=World.block_lt_of_cell? Z.w _ c2;have l3:=World.block_lt_of_cell? Z.w _ c3;have l4:=World.block_lt_of_cell? Z.w _ c4;simp only at l2 l3 l4;have hbel:Below X0.w.heap.size X0.w w'':=by
      rw [hw];exact ((((hB.alloc hB.size _).setCell (ge t2 k2) _).setCell (ge t3 k3) _).setCell (ge t4 k4) _).drew
     have p2:w''.cell? ⟨b2,0,none⟩=some (.slice none 0 0):=by
      rw [hw];show World.cell? (World.setCell (World.setCell (World.setCell _ _ _) _ _) _ _) _=_;rw [World.cell?_setCell_far _ _ _ _ (fun q=>n24 q.symm),World.cell?_setCell_far _ _ _ _ (fun q=>n23 q.symm)];exact World.cell?_setCell_same _ _ _ (by simp [go_sem,l2];exact c2)
     have p3:w''.cell? ⟨b3,0,none⟩=some (.int .i64 i):=by
      rw [hw];show World.cell? (World.setCell (World.setCell (World.setCell _ _ _) _ _) _ _) _=_;rw [World.cell?_setCell_far _ _ _ _ (fun q=>n34 q.symm)];exact World.cell?_setCell_same _ _ _ ((World.cell?_setCell_far _ _ _ _ n23).trans (by simp [go_sem,l3];exact c3))
     have p4:w''.cell? ⟨b4,0,none⟩=some (.int .i64 e'):=by
      rw [hw];show World.cell? (World.setCell (World.setCell (World.setCell _ _ _) _ _) _ _) _=_;exact World.cell?_setCell_same _ _ _ ((World.cell?_setCell_far _ _ _ _ n34).trans ((World.cell?_setCell_far _ _ _ _ n24).trans (by simp [go_sem,l4];exact c4)))
     have q4:=hEZ.rep 4;have q5:=hEZ.rep 5;have q6:=hEZ.rep 6;rw [u4] at q4;rw [u5] at q5;rw [u6] at q6;obtain ⟨d4,m4,w4⟩:=jZ q4 t2;obtain ⟨d5,m5,w5⟩:=jZ q5 t3;obtain ⟨d6,m6,w6⟩:=jZ q6 t4;rw [k2] at m4;injection m4 with m4;subst m4;rw [k3] at m5;injection m5 with m5;subst m5;rw [k4] at m6;injection m6 with m6;subst m6;show Leaves _ _ _ _ [] (settle _) w'';refine ⟨.tuple #[.slice none 0 0, .int .i64 i, .int .i64 e'],?_,_,⟨w'',fun _=>(none,0),[],X0.bad,X0.ds⟩,typeA (fG me c ru),rfl,rfl,?_,?_,?_,rfl⟩
     ·rw [Array.getD_eq_getD_getElem?] at w4 w5 w6;simp [results,Tryz.results19,go_sem,w4,w5,w6,p2,p3,p4]
     ·have hlen0:X0.h.length=0:=by rw [hh];rfl
      refine ⟨hbel.os,hbel.tape,hbel.output,hbel.size,fun b hb _=>hbel.block b hb,fun b o y h1 h2=>⟨?_,h2⟩,by rw [hlen0];exact Nat.zero_le _,fun i _ _ _ _ hi=>by omega,fun i _ hi=>by omega,fun b ⟨j,⟨o,ho⟩,_⟩=>by simp at ho,fun b o h=> .inl h,fun i _ hi=>by omega,rfl⟩;have hlt:=eH h1;unfold cellAt World.cell? at h1 ⊢;rw [hbel.block b hlt];exact h1
     ·exact JM rfl fun b o h=>Nat.lt_of_lt_of_le (hX0.dX b o h) hbel.size
     ·rw [hq];exact (show Wk (EO i e') (typeA ([],i,e')) from Wk.tup ⟨Wk.nil 2,Wk.refl _,Wk.refl _,trivial⟩) _ _ (.tup (cells:=[.v (.slice none 0 0), .v (.int .i64 i), .v (.int .i64 e')]) (cvs:=[_,_,_]) rfl (fun j a y h1 h2=>by
       match j with
       | 0=>simp at h1 h2;subst h1 h2;exact .v _
       | 1=>simp at h1 h2;subst h1 h2;exact .v _
       | 2=>simp at h1 h2;subst h1 h2;exact .v _
       | j+3=>simp at h1))
 ·intro Y e a S hY hE hq;have hds:a.defers=[]:=hE.defers.trans S.dse;have S0:Step (X0.def_ []) Y:=aT.full (by show aT X0.h.length _ _;rw [hh];exact S);show Leaves _ _ _ _ a.defers .returning Y.w;rw [hds];obtain ⟨r,r',h',h1,h2,i,e',hq2,rfl⟩:=hq;obtain ⟨v,q1,q2⟩:=Au (fn:=Tryz.f19) hY hE (by rw [Tryz.results19];exact h1);obtain ⟨Z,z1,z2,z3,z4,z5⟩:=sK Y r _ h' v hY h2 q2;refine ⟨v,q1,v,Z.def_ X0.ds,_,rfl,z1,(S0.trans hX1 z2).undef,z3.def_,(show Wk (EO i e') (typeA (fG me c ru)) from ?_) _ _ z5.def_,rfl⟩;rw [hq2];exact Wk.tup ⟨Wk.nil 2,Wk.refl _,Wk.refl _,trivial⟩
end
section
open Go.RowKit Wv
theorem Gi: ∀ (f x:Nat),Lib.bitLenAux f x≤f
 | 0,x=>Nat.le_refl _
 | f+1,x=>by
  unfold Lib.bitLenAux;split
  ·exact Nat.zero_le _
  ·have:=Gi f (x / 2);omega
theorem wZ (n:Int):dU n≤64:=by
 unfold dU;split
 ·exact Nat.zero_le _
 ·exact Gi 64 _
theorem Qp {k:Int} {s:ByteArray} {n:Int} {nl:Nat} {li:Nat→Int} {na:Nat} {ar:Nat→Ex} (h:aW (.mk k s n nl li na ar)=true):inB n=true:=by
 unfold aW at h;simp only [Bool.and_eq_true] at h;exact h.2.2.2.2.2.2.1
end
section
open Go.RowKit Wv
def EP (x:Par) (t:Nat):Bool:=decide (x.r=1) && decide ((t:Int)≤256)
def DY (x:Par) (t:Nat) (nl:Nat) (li:Nat→Int):Except Int Nat:=if EP x t=true then (if jM t nl li t t=true then .ok (Ae t li) else .error 233) else .error 231
def IG (t:Nat) (n:Int):Bool:=decide (0≤n) && decide (n≤(t:Int))
def xg (n:Int) (v:Nat):Int:=if (v:Int)<n then 1 else 0
def II (x:Par) (t:Nat) (n:Int):Except Int Nat:=if EP x t=true then (if IG t n=true then .ok (Ae t (xg n)) else .error 233) else .error 231
theorem IJ {t nl:Nat} {li:Nat→Int} (h:jM t nl li t t=true):nl=t∧ ∀ i,i<t→nG t (li i)=true:=by
 unfold jM at h;simp only [Bool.and_eq_true,decide_eq_true_eq,Bool.not_eq_true'] at h;obtain ⟨h1,h2,h3⟩:=h;have e:nl=t:=by omega
 subst e;refine ⟨rfl,fun i hi=>?_⟩;unfold aI at h3;have:=List.any_eq_false.1 h3 i (List.mem_range.2 hi);simpa using this
theorem Zk {t:Nat} {n:Int} (h:nG t n=true):0≤n+t∧n≤t:=by
 unfold nG at h;have h':=of_decide_eq_true h;split at h'<;>constructor<;>omega
theorem take2 {h:Hp} {a b c:Option Ob} (q:List.take 3 h=[a,b,c]):List.take 2 h=[a,b]:=by
 have:List.take 2 h=List.take 2 (List.take 3 h):=by rw [List.take_take];rfl
 rw [this,q];rfl
theorem Lm (x : Par) (t : Nat) (ns : Nms) (k : Int) (s : ByteArray) (n : Int) (nl : Nat) (li : Nat → Int) (na : Nat) (ar : Nat → Ex) (unk : Nat) (hn : nl ≤ 140737488351232) (hin : ∀ i, i < nl → inB (li i) = true) (ht : 2 ≤ t) (ht' : t ≤ 4611686018427387904) :
    jg x t ns 170 (.mk k s n nl li na ar) unk (DY x t nl li) := by
  refine jg.of ?_;have hR : DY x t nl li = if EP x t = true then (if jM t nl li t t = true then .ok (Ae t li) else .error 233) else .error 231 := rfl
  have hF : EP x t = (decide (x.r = 1) && decide ((t : Int) ≤ 256)) := rfl;have hY := zO x t ns nl li t t hn hin (by omega) (by omega);have hZ := DK x t ns nl li t t hn hin (by omega) (by omega);have hB := IJ (t := t) (nl := nl) (li := li);rw [dh];have hM := dw (n := na) (f := fun i => exC (ar i)) fun i _ => eX (ar i)
  generalize cO na (fun i => exC (ar i)) = M at *;have Zl := fun (h2 : t ≤ 256) (hb : jM t nl li t t = true) => DT x t ns [.v (.int .i64 k), .v (.string s), .v (.int .i64 n), .t nl 1 (tab nl fun i => .v (.int .i64 (li i))), .t na 5 M] 217 li ht h2
    (fun h hh v hv => Ox k s n nl li (.t na 5 M) (.t hM) hh v (by rw [(hB hb).1]; exact hv) hn) (fun v hv => (Zk ((hB hb).2 v hv)).1) (fun v hv => by have := (Zk ((hB hb).2 v hv)).2; omega)
  clear hB;generalize hbb : jM t nl li t t = b at *;clear hbb;generalize Ae t li = dg at *;generalize EP x t = fb at *;generalize DY x t nl li = R at *;unfold hT tyC at *;simp only [List.cons_append, List.nil_append] at Zl;obtain ⟨c, hc⟩ : ∃ c : Nat, c = if b = true then 0 else 1 := ⟨_, rfl⟩
  refine Wv.HTP.by 36 [1, 0, 4, 6] [(2, 12), (1000000, 2), (4000002, c)] [.tmp 6] Tryz.func170 rfl rfl rfl ?base ?_
  case base => rfl
  cases h1 : decide (x.r = 1) <;> cases h2 : decide ((t : Int) ≤ 256);all_goals
    rw [h1, h2] at hF;refine Wv.W2 h1 h2 ?_;first
    | (have hfb : fb = false := hF
       subst hfb;refine aJ (fst := []) (cap := []) (bI _ 231) (by rintro av h' ⟨hb, _⟩; cases hb) ?_;rintro av h' ⟨_, rfl, rfl⟩;refine Wv.W1 @bV ?_;exact ⟨231, hR, rfl⟩)
    | skip
  have hfb : fb = true := hF;subst hfb;have Zm : t ≤ 256 := by have := of_decide_eq_true h2; omega
  refine aJ (fst := []) (cap := []) (bI _ 231) ?_ (by rintro av h' ⟨hb, _⟩; cases hb);rintro av h' ⟨_, rfl, rfl⟩;cases b with
  | false =>
    have hc1 : c = 1 := hc;refine Wv.W ?_;refine dD (fst := []) (cap := []) (hZ rfl (.t 1 1 []) _) ?_ ?_
    · simp (disch:=first|exact Wv.D|fail) only [Wv.B, simprocAttr, hc1]
      exact ⟨11, _, _, rfl, rfl, rfl, rfl, rfl⟩
    · rintro av h' ⟨rfl, rfl⟩
      refine Wv.W1 @bV ?_;exact ⟨233, hR, rfl⟩
  | true =>
    have hc1 : c = 0 := hc;refine Wv.W ?_;refine dD (fst := []) (cap := []) (hY rfl _) ?_ (fun _ _ q => q.elim);refine Wv.W1 hc1 ?_;refine aB (fst := []) (cap := []) (Zl Zm rfl) ?_;rintro av h' ⟨rfl, hh'⟩;refine Wv.W ?_;exact ⟨⟨dg, hR, rfl⟩, take2 hh'⟩
theorem OB (x : Par) (t : Nat) (ns : Nms) (k : Int) (s : ByteArray) (n : Int) (nl : Nat) (li : Nat → Int) (na : Nat) (ar : Nat → Ex) (unk : Nat) (ht : 2 ≤ t) :
    jg x t ns 171 (.mk k s n nl li na ar) unk (II x t n) := by
  refine jg.of ?_;have hR : II x t n = if EP x t = true then (if IG t n = true then .ok (Ae t (xg n)) else .error 233) else .error 231 := rfl
  have hF : EP x t = (decide (x.r = 1) && decide ((t : Int) ≤ 256)) := rfl;have hB : IG t n = (decide (0 ≤ n) && decide (n ≤ (t : Int))) := rfl;rw [dh];have hM := dw (n := na) (f := fun i => exC (ar i)) fun i _ => eX (ar i)
  generalize cO na (fun i => exC (ar i)) = M at *;have Zl := fun (h2 : t ≤ 256) => DT x t ns [.v (.int .i64 k), .v (.string s), .v (.int .i64 n), .t nl 1 (tab nl fun i => .v (.int .i64 (li i))), .t na 5 M] 218 (xg n) ht h2
    (fun h hh v hv => UC k s n (.t nl 1 (tab nl fun i => .v (.int .i64 (li i)))) (.t na 5 M) hh v) (fun v hv => by unfold xg; split <;> omega) (fun v hv => by unfold xg; split <;> omega)
  generalize Ae t (xg n) = dg at *;generalize EP x t = fb at *;generalize IG t n = b at *;generalize II x t n = R at *;unfold hT tyC at *;simp only [List.cons_append, List.nil_append] at Zl;obtain ⟨c, hc⟩ : ∃ c : Nat, c = if b = true then 0 else 1 := ⟨_, rfl⟩
  refine Wv.HTP.by 37 [1, 0, 4, 6] [(2, 13), (1000000, 2), (4000002, c)] [.tmp 6] Tryz.func171 rfl rfl rfl ?base ?_
  case base => rfl
  cases h1 : decide (x.r = 1) <;> cases h2 : decide ((t : Int) ≤ 256);all_goals
    rw [h1, h2] at hF;refine Wv.W2 h1 h2 ?_;first
    | (have hfb : fb = false := hF
       subst hfb;refine aJ (fst := []) (cap := []) (bI _ 231) (by rintro av h' ⟨hb, _⟩; cases hb) ?_;rintro av h' ⟨_, rfl, rfl⟩;refine Wv.W1 @bV ?_;exact ⟨231, hR, rfl⟩)
    | skip
  have hfb : fb = true := hF;subst hfb;have Zm : t ≤ 256 := by have := of_decide_eq_true h2; omega
  refine aJ (fst := []) (cap := []) (bI _ 231) ?_ (by rintro av h' ⟨hb, _⟩; cases hb);rintro av h' ⟨_, rfl, rfl⟩;cases h3 : decide (0 ≤ n) <;> cases h4 : decide (n ≤ (t : Int));all_goals
    rw [h3, h4] at hB;refine Wv.W2 h3 h4 ?_;first
    | (have hbt : b = true := hB
       subst hbt;have hc1 : c = 0 := hc;refine dD (fst := []) (cap := []) (uY 233) ?_ (fun _ _ q => q.elim);refine Wv.W1 hc1 ?_;refine aB (fst := []) (cap := []) (Zl Zm) ?_;rintro av h' ⟨rfl, hh'⟩;refine Wv.W ?_;exact ⟨⟨dg, hR, rfl⟩, take2 hh'⟩)
    | (have hbt : b = false := hB
       subst hbt;have hc1 : c = 1 := hc;refine dD (fst := []) (cap := []) (tC 233 (.t 1 1 [])) ?_ ?_
       · simp (disch:=first|exact Wv.D|fail) only [Wv.B, simprocAttr, hc1]
         exact ⟨12, _, _, rfl, rfl, rfl, rfl, rfl⟩
       · rintro av h' ⟨rfl, rfl⟩
         refine Wv.W1 @bV ?_;exact ⟨233, hR, rfl⟩)
def ruA (x:Par) (t:Nat):Ex→Nat→Except Int Nat
 | .nil,_=> .ok 0
 | .mk k s n nl li na ar,unk=>
  if k=2 then (if nG t n=true then .ok 0 else .error 233)
  else if k=3 then (if jM t nl li 0 x.n=true then .ok 0 else .error 233)
  else if k=7 then .ok (if unk<2 then 0 else 1)
  else if k=8 then (if KR x n=true then .ok 0 else .error 233)
  else if k=10 then (if FX x nl li=true then .ok 0 else .error 233)
  else if k=14 then (if Ul n=true then .ok (dU n) else .error 233)
  else if k=11 then DY x t nl li
  else if k=13 then II x t n
  else if k=12 then (if x.r=1 then .ok (dU ((t:Int) - 1)) else .error 231)
  else .ok 0
def ksA (e:Ex):Prop:=True
theorem Zn: ∀ (e:Ex),okE e→ad3 ksA e:=by
 intro e;induction e with
 | nil=>intro h;exact h.elim
 | mk k s n nl li na ar ih=>exact fun h=>⟨trivial,fun i hi=>ih i (h.2.2.2 i hi)⟩
theorem Gj {k:Int} {s:ByteArray} {n:Int} {nl:Nat} {li:Nat→Int} {na:Nat} {ar:Nat→Ex} (h:aW (.mk k s n nl li na ar)=true): ∀ i,i<nl→inB (li i)=true:=by
 unfold aW at h;simp only [Bool.and_eq_true,Bool.not_eq_true'] at h;have h8:=h.2.2.2.2.2.2.2.1;intro i hi;unfold aI at h8;have:=List.any_eq_false.1 h8 i (List.mem_range.2 hi);simpa using this
theorem Qq (t:Nat) (f:Nat→Int):Ae t f≤64:=wZ _
theorem Zo (x:Par) (t:Nat) (ns:Nms) (ht:2≤t) (ht':t≤4611686018427387904) (hN:0≤x.n) (hN':x.n≤4611686018427387904):Ip x t ns (ruA x t) ksA:=by
 intro e unk _ ho hf hu;obtain ⟨k,s,n,nl,li,na,ar,rfl⟩:=lQ ho;have hin:=Qp hf;have hli:=Gj hf;have hnl:nl≤140737488351232:=ho.2.1;obtain ⟨⟨hk1,hk2⟩,_⟩:=gu hf;have hk:k=1∨k=2∨k=3∨k=4∨k=5∨k=6∨k=7∨k=8∨k=9∨k=10∨k=11∨k=12∨k=13∨k=14∨k=15:=by omega
 have z: ∀ {b:Bool} {v:Nat} {er:Int} (m:Nat),v≤64→(if b=true then Except.ok v else .error er)=(Except.ok m:Except Int Nat)→m≤4294967296:=fun {b v er} m hv h=>by
  split at h
  ·injection h with h;omega
  ·cases h
 rcases hk with rfl | rfl | rfl | rfl | rfl | rfl | rfl | rfl | rfl | rfl | rfl | rfl | rfl | rfl | rfl
 ·exact ⟨fun m h=>by injection h with h;subst h;exact Nat.zero_le _,rfl⟩
 ·exact ⟨fun m h=>z m (Nat.zero_le _) h,Il x t ns 2 s n nl li na ar unk hin (by omega) (by omega)⟩
 ·exact ⟨fun m h=>z m (Nat.zero_le _) h,Iq x t ns 3 s n nl li na ar unk hnl hli (by omega) (by omega)⟩
 ·exact ⟨fun m h=>by injection h with h;subst h;exact Nat.zero_le _,rfl⟩
 ·exact ⟨fun m h=>by injection h with h;subst h;exact Nat.zero_le _,rfl⟩
 ·exact ⟨fun m h=>by injection h with h;subst h;exact Nat.zero_le _,rfl⟩
 ·refine ⟨fun m h=>?_,EM x t ns _ ho unk⟩;have h':(Except.ok (if unk<2 then 0 else 1):Except Int Nat)= .ok m:=h;injection h' with h';subst h';split<;>omega
 ·exact ⟨fun m h=>z m (Nat.zero_le _) h,Uu x t ns 8 s n nl li na ar unk hN hN'⟩
 ·exact ⟨fun m h=>by injection h with h;subst h;exact Nat.zero_le _,rfl⟩
 ·exact ⟨fun m h=>z m (Nat.zero_le _) h,Oi x t ns 10 s n nl li na ar unk hnl⟩
 ·refine ⟨fun m h=>?_,Lm x t ns 11 s n nl li na ar unk hnl hli ht (by omega)⟩;have h':DY x t nl li= .ok m:=h;unfold DY at h';split at h'
  ·exact z m (Qq _ _) h'
  ·cases h'
 ·refine ⟨fun m h=>?_,KT x t ns 12 s n nl li na ar unk (by omega) (by omega)⟩;have h':(if x.r=1 then Except.ok (dU ((t:Int) - 1)) else .error 231)=(.ok m:Except Int Nat):=h;split at h'
  ·injection h' with h';subst h';exact Nat.le_trans (wZ _) (by omega)
  ·cases h'
 ·refine ⟨fun m h=>?_,OB x t ns 13 s n nl li na ar unk ht⟩;have h':II x t n= .ok m:=h;unfold II at h';split at h'
  ·exact z m (Qq _ _) h'
  ·cases h'
 ·exact ⟨fun m h=>z m (wZ _) h,KJ x t ns 14 s n nl li na ar unk⟩
 ·exact ⟨fun m h=>by injection h with h;subst h;exact Nat.zero_le _,rfl⟩
end
end Go.Proofs.YtljfgdlgmdcmfaaGreat
namespace Go.Proofs.YtljfgdlgmdcmfaaGreat.Wv
section
open Go.RowKit
inductive XR where
 | ret (a:AV) (h:Hp)
 | pan (a:AV) (h:Hp)
abbrev iq:=FuncId→List AV→Hp→Option XR
def jE (P:Program) (c:iq):Prop:= ∀ f args h r,c f args h=some r→HTP P f args h (fun a h'=>r= .ret a h') (fun a h'=>r= .pan a h')
def xRC (P:Program) (c:Call) (E:Operand→AV) (h:Hp):Option AV:=match c.callee with
 | .builtin .len=>match c.args.size,c.argTypes[0]? with
  | 1,some T=>(EG P h T (E (c.args.getD 0 (.const undef)))).map fun (n:Nat)=> .v (.int .i64 n)
  | _,_=>none
 | .builtin .max=>mmA true (c.args.toList.map E)
 | .builtin .min=>mmA false (c.args.toList.map E)
 | _=>none
def xR (P:Program) (o:Oper) (E:Operand→AV) (h:Hp):Option AV:=match o.op with
 | .move x=>some (E x)
 | .assign x=>some (E x)
 | .pick c a b=>match E c with
  | .v (.bool true)=>some (E a)
  | .v (.bool false)=>some (E b)
  | _=>none
 | .build T parts=>(oD P h T (parts.toList.map fun p=>(p.1,E p.2))).map .g
 | .load T a=>match szP P T with
  | some 0=>none
  | _=>qE P h T (E a)
 | .nilCheck x=>match mg h (E x) with
  | some false=>some (E x)
  | _=>none
 | .binOp op T x y _=>(qJ P h op T (E x) (E y)).map .v
 | .unOp op _ x=>(unA op (E x)).map .v
 | .convert s d x=>(iM P h s d (E x)).map .v
 | .slice T x lo hi mx=>if mx.isNone=true then sliceT P h T (E x) (lo.map E) (hi.map E) else none
 | .fieldAddr S x f=>uM P h S (E x) f
 | .field S x f=>uO P S (E x) f
 | .indexAddr T x i=>(qB (E i)).bind fun z=>G9 P h T (E x) z
 | .index T x i=>(qB (E i)).bind fun z=>mD P T (E x) z
 | .extract x i=>Fq (E x) i
 | .makeFunc fn first cap=>some (.fn fn (first.toList.map E) (cap.toList.map E))
 | .call c=>xRC P c E h
 | .makeInterface T x=>if bW P T=true then some (.ifc T (E x)) else none
 | .lookup T x k ok=>nM P h T (E x) (E k) ok
 | _=>none
theorem OD {P:Program} {c:Call} {E:Operand→AV} {h:Hp} {K:AV→Prop} {v:AV} (hx:xRC P c E h=some v) (hK:K v):uw P c E h K:=by
 unfold xRC at hx;unfold uw;split at hx
 ·next hc=>
  simp only [hc];split at hx
  ·next T h1 h2=>
   obtain ⟨n,e1,rfl⟩:=Option.map_eq_some_iff.1 hx;have:c.argTypes.getD 0 0=T:=by simp [Array.getD_eq_getD_getElem?,h2]
   exact ⟨h1,n,by rw [this];exact e1,by rw [this];exact h2,hK⟩
  ·cases hx
 ·next hc=>simp only [hc];exact ⟨_,hx,hK⟩
 ·next hc=>simp only [hc];exact ⟨_,hx,hK⟩
 ·cases hx
theorem afs {P:Program} {o:Oper} {E:Operand→AV} {h:Hp} {K:AV→Prop} {v:AV} (hx:xR P o E h=some v) (hK:K v):rOp P o E h K:=by
 unfold xR at hx;unfold rOp;split at hx
 ·next ho=>simp only [ho];injection hx with hx;rw [hx];exact hK
 ·next ho=>simp only [ho];injection hx with hx;rw [hx];exact hK
 ·next ho=>
  simp only [ho];split at hx
  ·next hc=>injection hx with hx;exact ⟨true,hc,by rw [cond_true,hx];exact hK⟩
  ·next hc=>injection hx with hx;exact ⟨false,hc,by rw [cond_false,hx];exact hK⟩
  ·cases hx
 ·next ho=>simp only [ho];obtain ⟨l,e1,rfl⟩:=Option.map_eq_some_iff.1 hx;exact ⟨l,e1,hK⟩
 ·next ho=>
  simp only [ho];split at hx
  ·cases hx
  ·next hz=>exact ⟨fun e=>hz e,v,hx,hK⟩
 ·next ho=>
  simp only [ho];split at hx
  ·next hc=>injection hx with hx;exact ⟨hc,by rw [hx];exact hK⟩
  ·cases hx
 ·next ho=>simp only [ho];obtain ⟨l,e1,rfl⟩:=Option.map_eq_some_iff.1 hx;exact ⟨l,e1,hK⟩
 ·next ho=>simp only [ho];obtain ⟨l,e1,rfl⟩:=Option.map_eq_some_iff.1 hx;exact ⟨l,e1,hK⟩
 ·next ho=>simp only [ho];obtain ⟨l,e1,rfl⟩:=Option.map_eq_some_iff.1 hx;exact ⟨l,e1,hK⟩
 ·next ho=>
  simp only [ho];split at hx
  ·next hc=>exact ⟨hc,v,hx,hK⟩
  ·cases hx
 ·next ho=>simp only [ho];exact ⟨v,hx,hK⟩
 ·next ho=>simp only [ho];exact ⟨v,hx,hK⟩
 ·next ho=>simp only [ho];obtain ⟨z,e1,e2⟩:=Option.bind_eq_some_iff.1 hx;exact ⟨z,v,e1,e2,hK⟩
 ·next ho=>simp only [ho];obtain ⟨z,e1,e2⟩:=Option.bind_eq_some_iff.1 hx;exact ⟨z,v,e1,e2,hK⟩
 ·next ho=>simp only [ho];exact ⟨v,hx,hK⟩
 ·next ho=>simp only [ho];injection hx with hx;rw [hx];exact hK
 ·next ho=>simp only [ho];exact OD hx hK
 ·next ho=>
  simp only [ho];split at hx
  ·next hc=>injection hx with hx;exact ⟨hc,by rw [hx];exact hK⟩
  ·cases hx
 ·next ho=>simp only [ho];exact ⟨v,hx,hK⟩
 ·cases hx
mutual
def jO:AV→Bool
 | .v _=>true
 | .none=>true
 | .e0=>true
 | .t _ _ l=>iH l
 | .g l=>iH l
 | .tup l=>iH l
 | .tp l=>iH l
 | .fn _ a b=>iH a && iH b
 | .ifc _ a=>jO a
 | .own _ _=>false
 | .ptr _ _=>false
 | .ap _ _ _=>false
 | .mp _=>false
 | .tm _=>false
def iH:List AV→Bool
 | []=>true
 | a::r=>jO a && iH r
end
mutual
theorem nV: ∀ (a:AV),jO a=true→Clo a
 | .v _,_=> .v _
 | .none,_=> .none
 | .e0,_=> .e0
 | .t _ _ l,h=> .t (gW l (by rw [jO] at h;exact h))
 | .g l,h=> .g (gW l (by rw [jO] at h;exact h))
 | .tup l,h=> .tup (gW l (by rw [jO] at h;exact h))
 | .tp l,h=> .tp (gW l (by rw [jO] at h;exact h))
 | .fn _ a b,h=>by
  rw [jO,Bool.and_eq_true] at h;exact .fn (gW a h.1) (gW b h.2)
 | .ifc _ a,h=> .ifc (nV a (by rw [jO] at h;exact h))
 | .own _ _,h=>by rw [jO] at h;cases h
 | .ptr _ _,h=>by rw [jO] at h;cases h
 | .ap _ _ _,h=>by rw [jO] at h;cases h
 | .mp _,h=>by rw [jO] at h;cases h
 | .tm _,h=>by rw [jO] at h;cases h
theorem gW: ∀ (l:List AV),iH l=true→ ∀ (a:AV),a∈l→Clo a
 | [],_=>fun a ha=>by cases ha
 | b::r,h=>by
  rw [iH,Bool.and_eq_true] at h;exact List.forall_mem_cons.2 ⟨nV b h.1,gW r h.2⟩
end
mutual
def loB (m:Nat):AV→Bool
 | .own id _=>Nat.blt id m
 | .ptr id _=>Nat.blt id m
 | .ap id _ _=>Nat.blt id m
 | .mp id=>Nat.blt id m
 | .g l=>ES m l
 | .tup l=>ES m l
 | .fn _ a b=>ES m a && ES m b
 | .ifc _ a=>loB m a
 | .v _=>true
 | .none=>true
 | .e0=>true
 | .t _ _ l=>iH l
 | .tp l=>iH l
 | .tm _=>false
def ES (m:Nat):List AV→Bool
 | []=>true
 | a::r=>loB m a && ES m r
end
theorem yN {a b:Nat} (h:Nat.blt a b=true):a<b:=Nat.le_of_ble_eq_true h
mutual
theorem DZ (m:Nat): ∀ (a:AV),loB m a=true→lo m a
 | .own _ _,h=> .own (yN (by rw [loB] at h;exact h))
 | .ptr _ _,h=> .ptr (yN (by rw [loB] at h;exact h))
 | .ap _ _ _,h=> .ap (yN (by rw [loB] at h;exact h))
 | .mp _,h=> .mp (yN (by rw [loB] at h;exact h))
 | .g l,h=> .g (nX m l (by rw [loB] at h;exact h))
 | .tup l,h=> .tup (nX m l (by rw [loB] at h;exact h))
 | .fn _ a b,h=>by
  rw [loB,Bool.and_eq_true] at h;exact .fn (nX m a h.1) (nX m b h.2)
 | .ifc _ a,h=> .ifc (DZ m a (by rw [loB] at h;exact h))
 | .v _,_=> .clo (.v _)
 | .none,_=> .clo .none
 | .e0,_=> .clo .e0
 | .t _ _ l,h=> .clo (.t (gW l (by rw [loB] at h;exact h)))
 | .tp l,h=> .clo (.tp (gW l (by rw [loB] at h;exact h)))
 | .tm l,h=>by rw [loB] at h;cases h
theorem nX (m:Nat): ∀ (l:List AV),ES m l=true→ ∀ (a:AV),a∈l→lo m a
 | [],_=>fun a ha=>by cases ha
 | b::r,h=>by
  rw [ES,Bool.and_eq_true] at h;exact List.forall_mem_cons.2 ⟨DZ m b h.1,nX m r h.2⟩
end
def uo (m:Nat):Hp→Bool
 | []=>true
 | none::r=>uo m r
 | some (.blk cells)::r=>ES m cells && uo m r
 | some (.arr _ _ cells _)::r=>ES m cells && uo m r
 | some (.map es)::r=>ES m (es.map (·.2)) && uo m r
theorem nY (m:Nat): ∀ (h:Hp),uo m h=true→loH m h
 | [],_=>trivial
 | none::r,h=>nY m r h
 | some (.blk cells)::r,h=>by
  simp only [uo,Bool.and_eq_true] at h;exact ⟨nX m cells h.1,nY m r h.2⟩
 | some (.arr _ _ cells _)::r,h=>by
  simp only [uo,Bool.and_eq_true] at h;exact ⟨nX m cells h.1,nY m r h.2⟩
 | some (.map es)::r,h=>by
  simp only [uo,Bool.and_eq_true] at h;exact ⟨nX m _ h.1,nY m r h.2⟩
def lD:Nat→Hp→AV→AV
 | 0,_,a=>a
 | k+1,h, .own id n=>match h[id]? with
  | some (some (.arr _ s cells fz))=>bif Nat.beq cells.length (n*s) && Nat.beq fz cells.length then .t n s (cells.map (lD k h)) else .own id n
  | _=> .own id n
 | k+1,h, .g l=> .g (l.map (lD k h))
 | k+1,h, .tup l=> .tup (l.map (lD k h))
 | k+1,h, .ifc T a=> .ifc T (lD k h a)
 | _+1,_,a=>a
theorem iw {X:Cx} {f:AV→AV} (hf: ∀ a v,Rep X a v→Rep X (f a) v) {l:List AV} {vs:List Value} (hr: ∀ (i:Nat) (a:AV) (x:Value),l[i]? =some a→vs[i]? =some x→Rep X a x): ∀ (i:Nat) (a:AV) (x:Value),(l.map f)[i]? =some a→vs[i]? =some x→Rep X a x:=by
 intro i a x h1 h2;rw [List.getElem?_map] at h1;obtain ⟨b,h3,rfl⟩:=Option.map_eq_some_iff.1 h1;exact hf b x (hr i b x h3 h2)
theorem Lp {X:Cx} (hX:Ok X): ∀ (k:Nat) (a:AV) (v:Value),Rep X a v→Rep X (lD k X.h a) v
 | 0,a,v,hr=>hr
 | k+1,a,v,hr=>by
  have ih:=Lp hX k;cases a with
  | own id n=>
   simp only [lD];split
   ·next T s cells fz hid=>
    cases hb:(Nat.beq cells.length (n*s) && Nat.beq fz cells.length) with
    | false=>exact hr
    | true=>
     rw [Bool.and_eq_true] at hb;have e1:=Nat.eq_of_beq_eq_true hb.1;have e2:=Nat.eq_of_beq_eq_true hb.2;subst e2;have h1:=Rep.frozen hX hid (fun b hb o ho=>hX.CV id T s cells b hid hb o ho) e1 hr;cases h1 with
     | t hl hc hn hcap hp hrr=>exact .t (by rw [List.length_map];exact hl) (by rw [List.length_map];exact hc) hn hcap hp (iw ih hrr)
   ·exact hr
  | g l=>
   cases hr with
   | g hc hrr=>exact .g (by rw [List.length_map];exact hc) (iw ih hrr)
  | tup l=>
   cases hr with
   | tup hc hrr=>exact .tup (by rw [List.length_map];exact hc) (iw ih hrr)
  | ifc T a=>
   cases hr with
   | ifc h=>exact .ifc (ih _ _ h)
  | _=>exact hr
theorem Gl {X:Cx} (hX:Ok X) (k:Nat) {l:List AV} {vs:List Value} (hr:fJ X l vs):fJ X (l.map (lD k X.h)) vs:=⟨by rw [List.length_map];exact hr.1,iw (Lp hX k) hr.2⟩
variable {P:Program}{args:List AV}{f:FuncId}{h:Hp}{p:AV→Hp→Prop}
theorem HTP.pre {args1:List AV} {h1:Hp} {R:AV→Hp→Prop} (hp: ∀ (X:Cx) (vs:List Value),Ok X→X.h=h→fJ X args vs→ ∃ Y,Y.w=X.w∧Step X Y∧Ok Y∧Y.h=h1∧fJ Y args1 vs) (T:HTP P f args1 h1 R p):HTP P f args h R p:=by
 refine ⟨T.1,fun X vs hX hh hr=>?_⟩;obtain ⟨Y,y1,y2,y3,y4,y5⟩:=hp X vs hX hh hr;rw [←y1];refine (T.2 Y vs y3 y4 y5).mono ?_;rintro e w' ⟨v,Z,av,z1,z2,z3,z4,z5⟩;exact ⟨v,Z,av,z1,y2.trans hX z2,z3,z4,z5⟩
theorem HTP.view {k:Nat} {R:AV→Hp→Prop} (T:HTP P f (args.map (lD k h)) h R p):HTP P f args h R p:=
 HTP.pre (fun X vs hX hh hr=>⟨X,rfl,Step.refl X,hX,hh,hh▸Gl hX k hr⟩) T
abbrev ET:=FuncId→List AV→Option AV
def Gm (P:Program) (o:ET):Prop:= ∀ f args a,o f args=some a→TC P f args a∧Clo a
def aeb (c:iq) (f:FuncId) (args:List AV) (h:Hp):Option XR:=match c f args h with
 | some (.ret a h')=>bif loB h.length a && uo h.length (h'.take h.length) then some (.ret a (h'.take h.length)) else some (.ret a h')
 | some (.pan a h')=>bif loB h.length a && uo h.length (h'.take h.length) then some (.pan a (h'.take h.length)) else some (.pan a h')
 | none=>none
def alD (r:Option XR):Option XR:=match r with
 | some (.ret a h)=>bif jO a then none else some (.ret a h)
 | r=>r
def aec (c:iq) (f:FuncId) (args:List AV) (h:Hp):Option XR:=match c f args [] with
 | some (.ret a _)=>bif jO a then some (.ret a h) else alD (aeb c f args h)
 | some (.pan a _)=>bif jO a then some (.pan a h) else none
 | none=>none
def Zp   (o : ET  ) (f : FuncId) (args : List AV) (h : Hp) (r : Option XR) : Option XR := bif iH    args then match o f args with
    | some a => some (.ret a h)
    | none => r
  else r
def UG (o:ET) (c:iq) (f:FuncId) (args:List AV) (h:Hp):Option XR:=
 bif iH args then aec c f args h
 else bif iH (args.map (lD 4 h)) then aec c f (args.map (lD 4 h)) h
 else Zp o f (args.map (lD 4 (h.map froze))) (h.map froze) (aeb c f args h)
theorem yO {R p:AV→Prop} (T:HTP P f args [] (fun a _=>R a) (fun a _=>p a)) (ha: ∀ (a:AV),a∈args→Clo a) (hR: ∀ a,R a→Clo a) (hp: ∀ a,p a→Clo a) (h:Hp):HTP P f args h (fun a h'=>R a∧h'=h) (fun a h'=>p a∧h'=h):=by
 have T1:RD P f args [] R p:=RD.of (T.mono (fun a h' q=>⟨q,rfl⟩) (fun a h' q=>⟨q,rfl⟩)) (fun r q=> .clo (hR r q)) (fun r q=> .clo (hp r q)) trivial;exact RD.frame (σ:=id) T1 ⟨fun i j hi=>absurd hi (Nat.not_lt_zero i),fun i o ho=>by simp at ho⟩ (RnL.clo ha) hR hp
def XR.Of (P:Program) (f:FuncId) (args:List AV) (h:Hp) (r:XR):Prop:=HTP P f args h (fun a h'=>r= .ret a h') (fun a h'=>r= .pan a h')
theorem AY {c:iq} (hc:jE P c):jE P (aeb c):=by
 intro f args h r hx;unfold aeb at hx;split at hx
 ·next a h' hq=>
  have T:=hc f args h _ hq;cases h2:(loB h.length a && uo h.length (h'.take h.length)) with
  | false=>rw [h2] at hx;injection hx with hx;subst hx;exact T
  | true=>
   rw [h2,cond_true] at hx;injection hx with hx;subst hx;rw [Bool.and_eq_true] at h2;refine (T.cut (fun b k e=>by injection e with e1 e2;subst e1 e2;exact ⟨DZ _ _ h2.1,nY _ _ h2.2⟩) (fun b k e=>by cases e)).mono ?_ ?_
   ·rintro b k ⟨k',e,rfl⟩;injection e with e1 e2;subst e1 e2;rfl
   ·rintro b k ⟨k',e,rfl⟩;cases e
 ·next a h' hq=>
  have T:=hc f args h _ hq;cases h2:(loB h.length a && uo h.length (h'.take h.length)) with
  | false=>rw [h2] at hx;injection hx with hx;subst hx;exact T
  | true=>
   rw [h2,cond_true] at hx;injection hx with hx;subst hx;rw [Bool.and_eq_true] at h2;refine (T.cut (fun b k e=>by cases e) (fun b k e=>by injection e with e1 e2;subst e1 e2;exact ⟨DZ _ _ h2.1,nY _ _ h2.2⟩)).mono ?_ ?_
   ·rintro b k ⟨k',e,rfl⟩;cases e
   ·rintro b k ⟨k',e,rfl⟩;injection e with e1 e2;subst e1 e2;rfl
 ·cases hx
variable {r:XR}
theorem IK {c:iq} (hc:jE P c)     (h1:iH args=true) (hx:aec c f args h=some r):r.Of P f args h∧ ∀ a h',r= .ret a h'→jO a=true→h'=h:=by
 unfold aec at hx;have hcl:=gW args h1;split at hx
 ·next a h' hq=>
  cases h2:jO a with
  | false=>
   rw [h2,cond_false] at hx;unfold alD at hx;split at hx
   ·next b k hb=>
    cases h3:jO b with
    | true=>rw [h3] at hx;cases hx
    | false=>
     rw [h3,cond_false] at hx;injection hx with hx;subst hx;exact ⟨AY hc f args h _ hb,fun b2 k2 e hq=>by injection e with e1 e2;subst e1;rw [h3] at hq;cases hq⟩
   ·next hno=>
    refine ⟨AY hc f args h r hx,fun b2 k2 e hq=>?_⟩;subst e;exact absurd hx (hno b2 k2)
  | true=>
   rw [h2,cond_true] at hx;injection hx with hx;subst hx;refine ⟨(yO (R:=fun b=>b=a) (p:=fun _=>False) ((hc f args [] _ hq).mono (fun b k e=>by injection e with e1 e2;exact e1.symm) (fun b k e=>by cases e)) hcl (fun b e=>by rw [e];exact nV a h2) (fun b e=>e.elim) h).mono ?_ ?_,fun b k e _=>by injection e with e1 e2;exact e2.symm⟩
   ·rintro b k ⟨rfl,rfl⟩;rfl
   ·rintro b k ⟨q,_⟩;exact q.elim
 ·next a h' hq=>
  cases h2:jO a with
  | false=>rw [h2] at hx;cases hx
  | true=>
   rw [h2,cond_true] at hx;injection hx with hx;subst hx;refine ⟨(yO (R:=fun _=>False) (p:=fun b=>b=a) ((hc f args [] _ hq).mono (fun b k e=>by cases e) (fun b k e=>by injection e with e1 e2;exact e1.symm)) hcl (fun b e=>e.elim) (fun b e=>by rw [e];exact nV a h2) h).mono ?_ ?_,fun b k e _=>by cases e⟩
   ·rintro b k ⟨q,_⟩;exact q.elim
   ·rintro b k ⟨rfl,rfl⟩;rfl
 ·cases hx
theorem Qr {o:ET} {c:iq} (ho:Gm P o) (hc:jE P c):jE P (UG o c):=by
 intro f args h r hx;unfold UG at hx;cases h1:iH args with
 | true=>rw [h1,cond_true] at hx;exact (IK hc h1 hx).1
 | false=>
  rw [h1,cond_false] at hx;cases h2:iH (args.map (lD 4 h)) with
  | true=>rw [h2,cond_true] at hx;exact HTP.view (IK hc h2 hx).1
  | false=>
   rw [h2,cond_false] at hx;unfold Zp at hx;cases h3:iH (args.map (lD 4 (h.map froze))) with
   | false=>rw [h3] at hx;exact AY hc f args h r hx
   | true=>
    rw [h3,cond_true] at hx;split at hx
    ·next a hq=>
     injection hx with hx;subst hx;obtain ⟨T,ha⟩:=ho f _ a hq;refine HTP.pre (h1:=h.map froze) (fun X vs hX hh hr=>?_) (((T.ht (gW _ h3) ha (h.map froze)).toP fun _ _=>False).mono (fun b k e=>by rw [e.1,e.2]) (fun b k e=>e.elim));obtain ⟨Y,y1,y2,y3,y4⟩:=lg 0 hX;rw [oZ,hh] at y4;refine ⟨Y,y1,y2,y3,y4,?_⟩;rw [←y4];exact Gl y3 4 ⟨hr.1,fun i a x q1 q2=>(hr.2 i a x q1 q2).mono y2⟩
    ·exact AY hc f args h r hx
def xWC (P:Program) (cl:iq) (c:Call) (E:Operand→AV) (h:Hp):Option XR:=match c.callee with
 | .builtin .append=>match c.args.size,c.argTypes.size with
  | 2,2=>(nN P h (c.argTypes.getD 0 0) (c.argTypes.getD 1 0) (E (c.args.getD 0 (.const undef))) (E (c.args.getD 1 (.const undef)))).map fun p=> .ret p.1 p.2
  | _,_=>none
 | .builtin .copy=>match c.args.size,c.argTypes.size with
  | 2,2=>(zD P h (c.argTypes.getD 0 0) (c.argTypes.getD 1 0) (E (c.args.getD 0 (.const undef))) (E (c.args.getD 1 (.const undef)))).map fun p=> .ret p.1 p.2
  | _,_=>none
 | .value f=>match E f with
  | .fn (.func fid) fst cap=>cl fid (fst++c.args.toList.map E++cap) h
  | _=>none
 | _=>(xRC P c E h).map fun a=> .ret a h
def xW (P:Program) (cl:iq) (o:Oper) (E:Operand→AV) (h:Hp):Option XR:=match o.op with
 | .alloc T=>(aA P T).map fun z=> .ret (.ptr h.length 0) (h++[some (.blk (fZ z))])
 | .box T x=>(cellsA h (E x)).map fun l=> .ret (.ptr h.length 0) (h++[some (.blk l)])
 | .buildSlice T len parts=>(zZ P h T len (parts.toList.map fun p=>(p.1,E p.2))).map fun q=> .ret (.own h.length len) (h++[some (.arr q.1 q.2.1 q.2.2 0)])
 | .store T a x=>(uK P h T (E a) (E x)).map fun h'=> .ret .none h'
 | .makeSlice T l c=>match qB (E l),qB (E c) with
  | some zl,some zc=>(vU P T zl zc).map fun q=> .ret (.own h.length zl.toNat) (h++[some (.arr q.1 q.2.1 q.2.2 0)])
  | _,_=>none
 | .slice T x lo hi mx=>if mx.isNone=true then (iK P h T (E x) (lo.map E) (hi.map E)).map fun p=> .ret p.1 p.2 else none
 | .convert s d x=>(cvA P h s d (E x)).map fun r=> .ret r h
 | .call c=>xWC P cl c E h
 | .makeMap _ r=>if r.isNone=true then some (.ret (.mp h.length) (h++[some (.map [])])) else none
 | .mapUpdate T m k x=>(kW P h T (E m) (E k) (E x)).map fun h'=> .ret .none h'
 | .insert T m k x=>(kW P h T (E m) (E k) (E x)).map fun h'=> .ret .none h'
 | .panic x=>match E x with
  | .ifc T a=>some (.pan (.ifc T a) h)
  | _=>none
 | _=>(xR P o E h).map fun a=> .ret a h
def XR.sat (r:XR) (K p:AV→Hp→Prop):Prop:=match r with
 | .ret a h=>K a h
 | .pan a h=>p a h
theorem air {cl:iq} (hcl:jE P cl) {c:Call} {E:Operand→AV}  {K:AV→Hp→Prop}  (hx:xWC P cl c E h=some r) (hK:r.sat K p):CB P p c E h K:=by
 unfold xWC at hx;unfold CB;split at hx
 ·next hc=>
  simp only [hc];split at hx
  ·next h1 h2=>obtain ⟨q,e1,rfl⟩:=Option.map_eq_some_iff.1 hx;exact ⟨h1,h2,q.1,q.2,e1,hK⟩
  ·cases hx
 ·next hc=>
  simp only [hc];split at hx
  ·next h1 h2=>obtain ⟨q,e1,rfl⟩:=Option.map_eq_some_iff.1 hx;exact ⟨h1,h2,q.1,q.2,e1,hK⟩
  ·cases hx
 ·next f hc=>
  simp only [hc];split at hx
  ·next fid fst cap he=>
   refine ⟨fid,fst,cap,he,(hcl _ _ _ _ hx).mono ?_ ?_⟩
   ·rintro a h' rfl;exact hK
   ·rintro a h' rfl;exact hK
  ·cases hx
 ·obtain ⟨a,e1,rfl⟩:=Option.map_eq_some_iff.1 hx;split<;>first | exact OD e1 hK | (exfalso;simp_all;done)
theorem afu {cl:iq} (hcl:jE P cl) {o:Oper} {E:Operand→AV}  {K:AV→Hp→Prop}  (hx:xW P cl o E h=some r) (hK:r.sat K p):wOp P p o E h K:=by
 unfold xW at hx;unfold wOp;split at hx
 ·next ho=>simp only [ho];obtain ⟨z,e1,rfl⟩:=Option.map_eq_some_iff.1 hx;exact ⟨z,e1,hK⟩
 ·next ho=>simp only [ho];obtain ⟨z,e1,rfl⟩:=Option.map_eq_some_iff.1 hx;exact ⟨z,e1,hK⟩
 ·next ho=>simp only [ho];obtain ⟨z,e1,rfl⟩:=Option.map_eq_some_iff.1 hx;exact ⟨_,_,_,e1,hK⟩
 ·next ho=>simp only [ho];obtain ⟨z,e1,rfl⟩:=Option.map_eq_some_iff.1 hx;exact ⟨z,e1,hK⟩
 ·next ho=>
  simp only [ho];split at hx
  ·next zl zc h1 h2=>obtain ⟨z,e1,rfl⟩:=Option.map_eq_some_iff.1 hx;exact ⟨zl,zc,_,_,_,h1,h2,e1,hK⟩
  ·cases hx
 ·next ho=>
  simp only [ho];split at hx
  ·next hc=>obtain ⟨z,e1,rfl⟩:=Option.map_eq_some_iff.1 hx;exact ⟨hc,_,_,e1,hK⟩
  ·cases hx
 ·next ho=>simp only [ho];obtain ⟨z,e1,rfl⟩:=Option.map_eq_some_iff.1 hx;exact ⟨z,e1,hK⟩
 ·next ho=>simp only [ho];exact air hcl hx hK
 ·next ho=>
  simp only [ho];split at hx
  ·next hc=>injection hx with hx;subst hx;exact ⟨hc,hK⟩
  ·cases hx
 ·next ho=>simp only [ho];obtain ⟨z,e1,rfl⟩:=Option.map_eq_some_iff.1 hx;exact ⟨z,e1,hK⟩
 ·next ho=>simp only [ho];obtain ⟨z,e1,rfl⟩:=Option.map_eq_some_iff.1 hx;exact ⟨z,e1,hK⟩
 ·next ho=>
  simp only [ho];split at hx
  ·next T a he=>injection hx with hx;subst hx;exact ⟨T,a,he,hK⟩
  ·cases hx
 ·obtain ⟨a,e1,rfl⟩:=Option.map_eq_some_iff.1 hx;split<;>first | exact afs e1 hK | (exfalso;simp_all;done) | (exfalso;simp_all;rename_i q _ _;exact q _ _ _ _ _ rfl rfl rfl rfl rfl) | (exfalso;simp_all;rename_i q _ _;exact q _ _ _ _ rfl rfl rfl rfl) | (exfalso;simp_all;rename_i q _;exact q _ _ _ _ rfl rfl rfl rfl) | (exfalso;simp_all;rename_i q _;exact q _ _ _ _ _ rfl rfl rfl rfl rfl)
end
section
open Go.RowKit
theorem D5: ∀ {l:List Oper} {e e':Ev} {vs vs':List AV},(∀ o,o∈l→ ∃ d,o.dst=some d)→vs.length=l.length→vs'.length=l.length→gZ e l vs=gZ e' l vs'→e=e'∧vs=vs'
 | [],e,e',vs,vs',_,h1,h2,h=>by
  have e1:=List.eq_nil_of_length_eq_zero h1;have e2:=List.eq_nil_of_length_eq_zero h2;subst e1 e2;exact ⟨h,rfl⟩
 | o::r,e,e',v::vs,v'::vs',hd,h1,h2,h=>by
  obtain ⟨q1,q2⟩:=D5 (l:=r) (e:=bY e o.dst v) (e':=bY e' o.dst v') (fun o' ho=>hd o' (List.mem_cons_of_mem _ ho)) (by simpa using h1) (by simpa using h2) h;obtain ⟨d,hdd⟩:=hd o (List.mem_cons_self ..);rw [hdd] at q1;have q3:(d,v)::e=(d,v')::e':=q1;injection q3 with q4 q5;injection q4 with _ q6;exact ⟨q5,by rw [q6,q2]⟩
 | o::r,e,e',[],_,_,h1,_,_=>by simp at h1
 | o::r,e,e',_::_,[],_,_,h2,_=>by simp at h2
section
variable (P:Program) (p₀:AV→Hp→Prop) (all hd1 hd2 tl:List Oper) (os:Oper) (av:AV) (e:Ev) (h0:Hp) (K:Ev→Hp→Prop)
def Zq (e2:Ev) (h1:Hp):Ev→List (Tmp × Value)→Prop:=fun e2' _=>e2'=e2∧iy P p₀ all tl e2 h1 K
def Zr (e1 e2:Ev) (h1:Hp):Ev→List (Tmp × Value)→Prop:=fun e1' _=>e1'=e1∧dQ P p₀ all h1 hd2 (bY e1 os.dst av) [] (Zq P p₀ all tl K e2 h1)
def Qs (e1 e2:Ev):AV→Hp→Prop:=fun av' h1=>av'=av∧dQ P p₀ all h1 hd1 e [] (Zr P p₀ all hd2 tl os av K e1 e2 h1)
def Zt (e1:Ev):Ev→List (Tmp × Value)→Prop:=fun e2 _=>wOp P p₀ os (dO e1) h0 (Qs P p₀ all hd1 hd2 tl os av e K e1 e2)
def Qu:Ev→List (Tmp × Value)→Prop:=fun e1 _=>dQ P p₀ all h0 hd2 (bY e1 os.dst av) [] (Zt P p₀ all hd1 hd2 tl os av e h0 K e1)
end
section
variable {P:Program} {p₀:AV→Hp→Prop} {all hd1 hd2 tl:List Oper} {os:Oper} {av:AV} {e:Ev} {h0:Hp} {K:Ev→Hp→Prop}
variable {al:List (Tmp × Value)}{e2:Ev}{h1:Hp}
theorem lU {e2':Ev}  :Zq P p₀ all tl K e2 h1 e2' al=(e2'=e2∧iy P p₀ all tl e2 h1 K):=rfl
variable {e1:Ev}
theorem lV {e1':Ev}  :Zr P p₀ all hd2 tl os av K e1 e2 h1 e1' al=(e1'=e1∧dQ P p₀ all h1 hd2 (bY e1 os.dst av) [] (Zq P p₀ all tl K e2 h1)):=rfl
theorem lW {av':AV}:Qs P p₀ all hd1 hd2 tl os av e K e1 e2 av' h1=(av'=av∧dQ P p₀ all h1 hd1 e [] (Zr P p₀ all hd2 tl os av K e1 e2 h1)):=rfl
theorem lX :Zt P p₀ all hd1 hd2 tl os av e h0 K e1 e2 al=wOp P p₀ os (dO e1) h0 (Qs P p₀ all hd1 hd2 tl os av e K e1 e2):=rfl
theorem lY :Qu P p₀ all hd1 hd2 tl os av e h0 K e1 al=dQ P p₀ all h0 hd2 (bY e1 os.dst av) [] (Zt P p₀ all hd1 hd2 tl os av e h0 K e1):=rfl
end
variable {L:List Nat}{N id:Nat}{P:Program}{Q:dA}{e:Ev}{h:Hp}{ks:List (Nat × Nat)}{l:List Oper}{os:Oper}
theorem D6 (bT:P.follows .mixedOrders=true)         (k s m:Nat) (av:AV)  (hB:nO N k l.toArray=true) (hsk:Nat.blt s k=true) (hos:l[s]? =some os) (hg:os.guard=none) (hal:aC os=false) (hpu:isPure os=false) (hap: ∃ c,os.op= .call c∧(c.callee= .builtin .append∨ ∃ f,c.callee= .value f)) (hna:(l.take k).all (fun o=>!aC o)=true)
  (hw:dQ P (fun av h'=>Q (.panic av) (jm l e) h') l (fP m h) (l.take s) e [] (Qu P (fun av h'=>Q (.panic av) (jm l e) h') l (l.take s) ((l.take k).drop (s+1)) (l.drop k) os av e (fP m h) (fun e' h'=>Q .normal (lN L e') h'))):HY P N ks id l.toArray Q e h:=by
 intro X a hn hh hX hE;subst hh;have hs:s<k:=Nat.lt_of_lt_of_le (Nat.lt_succ_self _) (Nat.le_of_ble_eq_true hsk);obtain ⟨Y,y1,y2,y3,y4⟩:=CX hX;obtain ⟨Z,z1,z2,z3,z4⟩:=lg m y4;have z5:=z3.CV;have S:Step X Z:=y3.trans hX z2;rw [y2] at z4;rw [←z4] at hw;have hok:=JW hB;have hle:k≤l.length:=by have:=hok.le;simpa using this
 have hdst: ∀ o,o∈l.take k→ ∃ d,o.dst=some d:=fun o ho=>by
  obtain ⟨j,hj,e1⟩:=List.mem_iff_getElem.1 ho;have hj':j<k:=by simp at hj;omega
  refine hok.hdst j o ?_ hj';have:(l.take k)[j]? =some o:=by rw [List.getElem?_eq_getElem hj,e1]
  rw [List.getElem?_take,if_pos hj'] at this;simpa using this
 have hts:(l.take k).take s=l.take s:=by rw [List.take_take,Nat.min_eq_left (by omega)]
 have hsp:l.take k=l.take s++os::(l.take k).drop (s+1):=by
  have h1:(l.take k)[s]? =some os:=by rw [List.getElem?_take,if_pos hs];exact hos
  have h2:=List.take_append_drop s (l.take k);rw [hts] at h2;have h3:(l.take k).drop s=os::(l.take k).drop (s+1):=by
   have hlt:s<(l.take k).length:=by rw [List.length_take];omega
   rw [List.drop_eq_getElem_cons hlt];congr 1;rw [List.getElem?_eq_getElem hlt] at h1;injection h1
  rw [←h3];exact h2.symm
 generalize am9:l.take s=hd1 at*;generalize anD:(l.take k).drop (s+1)=hd2 at*;have hl1:hd1.length=s:=by rw [←am9,List.length_take];omega
 have alE: ∀ o,o∈hd1→ ∃ d,o.dst=some d:=fun o ho=>hdst o (by rw [hsp];exact List.mem_append_left _ ho)
 have alF: ∀ o,o∈hd2→ ∃ d,o.dst=some d:=fun o ho=>hdst o (by rw [hsp];exact List.mem_append_right _ (List.mem_cons_of_mem _ ho))
 obtain ⟨v1,a1,a2,a3⟩:=kM _ _ _ hw;rw [lY] at a3;obtain ⟨v2,b1,b2,b3⟩:=kM _ _ _ a3;rw [lX] at b3;have hlen:(v1++av::v2).length=k:=by
  have:=congrArg List.length hsp;rw [List.length_take,List.length_append,List.length_cons] at this;rw [List.length_append,List.length_cons,a1,b1];omega
 have htk: ∀ i,i≤s→(l.take k).take i=hd1.take i:=fun i hi=>by rw [hsp,List.take_append_of_le_length (by omega)]
 have hvk: ∀ i,i≤s→(v1++av::v2).take i=v1.take i:=fun i hi=>by rw [List.take_append_of_le_length (by omega)]
 have he1:gZ e ((l.take k).take s) ((v1++av::v2).take s)=gZ e hd1 v1:=by
  rw [htk s (Nat.le_refl _),hvk s (Nat.le_refl _),List.take_of_length_le (by omega),List.take_of_length_le (by omega)]
 have hel: ∀ j,gZ e ((l.take k).take (s+1+j)) ((v1++av::v2).take (s+1+j))=gZ (bY (gZ e hd1 v1) os.dst av) (hd2.take j) (v2.take j):=fun j=>by
  have e3:(l.take k).take (s+1+j)=hd1++os::hd2.take j:=by
   rw [hsp,List.take_append,hl1,List.take_of_length_le (by omega),show s+1+j - s=j+1 by omega,List.take_succ_cons]
  have e4:(v1++av::v2).take (s+1+j)=v1++av::v2.take j:=by
   rw [List.take_append,a1,hl1,List.take_of_length_le (by omega),show s+1+j - s=j+1 by omega,List.take_succ_cons]
  rw [e3,e4,qO _ _ _ _ _ a1];rfl
 have hat: ∀ i o,i<k→l[i]? =some o→(l.take k)[i]? =some o:=fun i o hi ho=>by rw [List.getElem?_take,if_pos hi];exact ho
 have facts: ∀ (hx:Hp),(∀ (i:Nat) (o:Oper) (v:AV),hd1[i]? =some o→v1[i]? =some v→kG P (fun av h'=>Q (.panic av) (jm l e) h') l hx o (gZ e (hd1.take i) (v1.take i)) v)→
   (∀ (i:Nat) (o:Oper) (v:AV),hd2[i]? =some o→v2[i]? =some v→kG P (fun av h'=>Q (.panic av) (jm l e) h') l hx o (gZ (bY (gZ e hd1 v1) os.dst av) (hd2.take i) (v2.take i)) v)→
   ∀ (i:Nat) (o:Oper) (v:AV),i<k→decide (i=s)=false→l.toArray[i]? =some o→(v1++av::v2)[i]? =some v→kG P (fun av h'=>Q (.panic av) (jm l e) h') l.toArray.toList hx o (gZ e ((l.toArray.toList.take k).take i) ((v1++av::v2).take i)) v:=fun hx f1 f2 i o v hi his ho hv=>by
  have his:=of_decide_eq_false his;have ho:l[i]? =some o:=by simpa using ho
  have ht:=hat i o hi ho;rw [hsp] at ht;show kG P _ l hx o (gZ e ((l.take k).take i) _) v;by_cases hlt:i<s
  ·rw [htk i (by omega),hvk i (by omega)];rw [List.getElem?_append_left (by omega)] at ht;rw [List.getElem?_append_left (by omega)] at hv;exact f1 i o v ht hv
  ·obtain ⟨j,rfl⟩: ∃ j,i=s+1+j:=⟨i - s - 1,by omega⟩
   rw [hel];rw [List.getElem?_append_right (by omega),hl1,show s+1+j - s=j+1 by omega,List.getElem?_cons_succ] at ht;rw [List.getElem?_append_right (by omega),a1,hl1,show s+1+j - s=j+1 by omega,List.getElem?_cons_succ] at hv;exact f2 j o v ht hv
 have hEd:eHd l.toArray k e (v1++av::v2)=gZ (bY (gZ e hd1 v1) os.dst av) hd2 v2:=by
  unfold eHd;show gZ e (l.take k) _=_;rw [hsp,qO _ _ _ _ _ a1];rfl
 have D:Dat P (fun av h'=>Q (.panic av) (jm l e) h') N k l.toArray Z e (v1++av::v2) (fun i=>decide (i=s)):=⟨hok,z3,z5,hlen,fun i o hi ho=>by
  have hi:=of_decide_eq_true hi;subst hi;have ho:l[i]? =some o:=by simpa using ho
  rw [hos] at ho;injection ho with ho;subst ho;exact ⟨hal,hpu⟩,facts Z.h a2 b2⟩
 have hmono: ∀ {E:Operand→AV} {hx:Hp} {K1 K2:AV→Hp→Prop},(∀ a h',K1 a h'→K2 a h')→wOp P (fun av h'=>Q (.panic av) (jm l e) h') os E hx K1→wOp P (fun av h'=>Q (.panic av) (jm l e) h') os E hx K2:=by
  obtain ⟨c,hc,hcb⟩:=hap;intro E hx K1 K2 hk hq;unfold wOp at hq ⊢;rw [hc] at hq ⊢;rcases hcb with hcb | ⟨f,hcb⟩
  ·simp only [CB,hcb] at hq ⊢;obtain ⟨q1,q2,r,h',q3,q4⟩:=hq;exact ⟨q1,q2,r,h',q3,hk _ _ q4⟩
  ·simp only [CB,hcb] at hq ⊢;obtain ⟨fid,fst,cap,q1,q2⟩:=hq;exact ⟨fid,fst,cap,q1,q2.mono hk fun _ _ q=>q⟩
 have hEZ:=hE.mono S;have hL: ∀ j,(Array.replicate l.toArray.size false).getD j false=false:=fun j=>by
  simp only [Array.getD,Array.size_replicate,Array.getInternal_eq_getElem,Array.getElem_replicate];split<;>rfl
 refine wp_region_any bT ?_;rw [←y1, ←z1];refine FN (K:=fun e' h'=>Q .normal (lN L e') h') hs (by simpa using hos) hg D (fun i o hi ho=>?_) ?_ (fun V av v a' S2 hV hEV hr hp=>⟨v,av,V,_,rfl,rfl,(S.trans hX S2).toN hn,hV,hEV,hr,hp⟩) (fun V e' a' S2 hV hEV hq=>(aP.intro ((S.trans hX S2).toN hn) hV (hEV.keep L)).1 hq) l.toArray.size _ a Z.w (hL s) (by simp) (fun m j hm=>absurd (hm.symm.trans (hL m)) (by decide)) ?_ ⟨Z,fun _=>0,rfl,?_⟩
 ·have ho:l[i]? =some o:=by simpa using ho
  have:=List.all_eq_true.1 hna o (List.mem_of_getElem? (hat i o hi ho));simpa using this
 ·show wOp P _ os (dO (gZ e ((l.take k).take s) ((v1++av::v2).take s))) Z.h _;rw [he1];refine hmono (fun a' h1 hq=>?_) b3;rw [lW] at hq;obtain ⟨rfl,hq⟩:=hq;obtain ⟨w1,c1,c2,c3⟩:=kM _ _ _ hq;rw [lV] at c3;obtain ⟨c3,c4⟩:=c3;obtain ⟨_,rfl⟩:=D5 alE c1 a1 c3;obtain ⟨w2,d1,d2,d3⟩:=kM _ _ _ c4;rw [lU] at d3;obtain ⟨d3,d4⟩:=d3;obtain ⟨_,rfl⟩:=D5 alF d1 b1 d3;refine ⟨?_,facts h1 c2 d2,fun _=>?_⟩
  ·rw [List.getElem?_append_right (by omega),a1,hl1,Nat.sub_self];rfl
  ·rw [hEd];exact d4
 ·rw [Hz l.toArray.size hL]
 ·refine ⟨Step.refl Z,z3,z5,rfl,fun _ _=>rfl,fun j _=>hL j,hEZ.defers,hEZ.size,hEZ.del _,fun d=>?_,fun i o d z hi hl=>absurd (hl.symm.trans (hL i)) (by decide),fun i j o p _ _ _ hl=>absurd (hl.symm.trans (hL i)) (by decide)⟩;by_cases hp:abt l.toArray k (fun j=>(Array.replicate l.toArray.size false).getD j false) d
  ·exact .inl hp
  ·right;right;have:aO (eHd l.toArray k e (v1++av::v2)) d=aO e d:=Aw _ _ _ _ fun o ho he=>hp ?_
   ·rw [this];exact hEZ.rep d
   ·obtain ⟨j,hj,e1⟩:=List.mem_iff_getElem.1 ho;have hj':j<k:=by simp at hj;omega
    refine ⟨j,o,hj',hL j,?_,he⟩;have:(l.take k)[j]? =some o:=by rw [List.getElem?_eq_getElem hj,e1]
    rw [List.getElem?_take,if_pos hj'] at this;simpa using this
theorem Zu (bT:P.follows .mixedOrders=true)         (k s m:Nat) (av:AV)  (hB:nO N k l.toArray=true) (hsk:Nat.blt s k=true) (hos:l[s]? =some os) (hg:os.guard=none) (hal:aC os=false) (hpu:isPure os=false) (hap: ∃ c,os.op= .call c∧c.callee= .builtin .append) (hna:(l.take k).all (fun o=>!aC o)=true)
  (hw:dQ P (kP l e Q) l (fP m h) (l.take s) e [] (Qu P (kP l e Q) l (l.take s) ((l.take k).drop (s+1)) (l.drop k) os av e (fP m h) (SB L Q))):HY P N ks id l.toArray Q e h:=
 D6 bT k s m av hB hsk hos hg hal hpu (hap.elim fun c q=>⟨c,q.1, .inl q.2⟩) hna hw
theorem ais (bT:P.follows .mixedOrders=true)         (k s m:Nat) (av:AV)  (hB:nO N k l.toArray=true) (hsk:Nat.blt s k=true) (hos:l[s]? =some os) (hg:os.guard=none) (hal:aC os=false) (hpu:isPure os=false) (hap: ∃ c f,os.op= .call c∧c.callee= .value f) (hna:(l.take k).all (fun o=>!aC o)=true)
  (hw:dQ P (kP l e Q) l (fP m h) (l.take s) e [] (Qu P (kP l e Q) l (l.take s) ((l.take k).drop (s+1)) (l.drop k) os av e (fP m h) (SB L Q))):HY P N ks id l.toArray Q e h:=
 D6 bT k s m av hB hsk hos hg hal hpu (hap.elim fun c q=>q.elim fun f q=>⟨c,q.1, .inr ⟨f,q.2⟩⟩) hna hw
end
end Go.Proofs.YtljfgdlgmdcmfaaGreat.Wv
