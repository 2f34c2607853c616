/- Parts of a proof. -/
import Derived.Test.YtljfgdlgmdcmfaaGreatQwi
import Derived.Test.YtljfgdlgmdcmfaaGreatQwf
set_option linter.unusedVariables false
set_option linter.unusedSimpArgs false
set_option maxHeartbeats 3200000
set_option maxRecDepth 100000
namespace Go.Proofs.YtljfgdlgmdcmfaaGreat
section
open Go.RowKit Wv
def iM (f:Nat→ByteArray):Nat→Option Nms
 | 0=>some []
 | n+1=>(iM f n).bind fun ns=>match aF ns (f n) with
  | some _=>none
  | none=>some (ns++[(f n,false,0)])
theorem yN {f:Nat→ByteArray} {i:Nat} (h:iM f i=none): ∀ {n:Nat},i≤n→iM f n=none
 | 0,q=>by
  have:i=0:=by omega
  subst this;exact h
 | n+1,q=>by
  by_cases e:i=n+1
  ·subst e;exact h
  ·have:=yN h (n:=n) (by omega);simp only [iM,this,Option.bind_none]
theorem yO {s:ByteArray} {r r':Bool × Nat} {s':ByteArray}: ∀ {ns:Nms},aF (ns++[(s',r')]) s=some r→aF ns s=some r∨r=r'
 | [],h=>by
  unfold aF at h;simp only [List.nil_append] at h;split at h
  ·injection h with h;exact .inr h.symm
  ·cases h
 | p::q,h=>by
  have h':(if s=p.1 then some p.2 else aF (q++[(s',r')]) s)=some r:=h;show (if s=p.1 then some p.2 else aF q s)=some r∨_;by_cases e:s=p.1
  ·rw [if_pos e] at h' ⊢;exact .inl h'
  ·rw [if_neg e] at h' ⊢;exact yO h'
theorem QH {f:Nat→ByteArray}: ∀ {n:Nat} {ns:Nms} {s:ByteArray} {r:Bool × Nat},iM f n=some ns→aF ns s=some r→r.2≤8
 | 0,ns,s,r,h,h2=>by injection h with h;subst h;cases h2
 | n+1,ns,s,r,h,h2=>by
  cases hq:iM f n with
  | none=>simp only [iM,hq,Option.bind_none] at h;cases h
  | some ns'=>
   simp only [iM,hq,Option.bind_some] at h;cases hf:aF ns' (f n) with
   | some _=>rw [hf] at h;cases h
   | none=>
    rw [hf] at h;injection h with h;subst h;rcases yO h2 with q | q
    ·exact QH hq q
    ·subst q;exact Nat.zero_le _
def O6:Except (Nat × Int) (Nms × List (Bool × Nat))→Nms × List (Bool × Nat)
 | .ok q=>q
 | .error _=>([],[])
def U0 (ns:Nms) (ss:List (Bool × Nat)) (i:Nat) (s:ByteArray):Except Int (Bool × Nat)→Except (Nat × Int) (Nms × List (Bool × Nat))
 | .error e=> .error (i,e)
 | .ok r=> .ok (ns++[(s,r)],ss++[r])
def Ae (ln:Nat→ByteArray) (sh:Nms→Nat→Except Int (Bool × Nat)) (i:Nat):Except (Nat × Int) (Nms × List (Bool × Nat))→Except (Nat × Int) (Nms × List (Bool × Nat))
 | .error e=> .error e
 | .ok (ns,ss)=>if (aF ns (ln i)).isSome=true then .error (i,230) else U0 ns ss i (ln i) (sh ns i)
def fG (ns0:Nms) (ln:Nat→ByteArray) (sh:Nms→Nat→Except Int (Bool × Nat)):Nat→Except (Nat × Int) (Nms × List (Bool × Nat))
 | 0=> .ok (ns0,[])
 | i+1=>Ae ln sh i (fG ns0 ln sh i)
def IW:Option (Bool × Nat)→Option Int
 | none=>some 230
 | some r=>if r.1=true then some 234 else none
def outT (ns:Nms) (fo:Nat→ByteArray):Nat→Option Int
 | 0=>none
 | i+1=>match outT ns fo i with
  | some e=>some e
  | none=>IW (aF ns (fo i))
theorem tZ {ns:Nms} {fo:Nat→ByteArray} {i:Nat} {e:Int} (h:outT ns fo i=some e): ∀ {n:Nat},i≤n→outT ns fo n=some e
 | 0,q=>by
  have:i=0:=by omega
  subst this;exact h
 | n+1,q=>by
  by_cases e2:i=n+1
  ·subst e2;exact h
  ·have:=tZ h (n:=n) (by omega);simp only [outT,this]
theorem rJ {ns0:Nms} {ln:Nat→ByteArray} {sh:Nms→Nat→Except Int (Bool × Nat)} {i:Nat} {q:Nat × Int} (h:fG ns0 ln sh i= .error q): ∀ {n:Nat},i≤n→fG ns0 ln sh n= .error q
 | 0,e=>by
  have:i=0:=by omega
  subst this;exact h
 | n+1,e=>by
  by_cases e2:i=n+1
  ·subst e2;exact h
  ·have:=rJ h (n:=n) (by omega);show Ae ln sh n (fG ns0 ln sh n)=_;rw [this];rfl
theorem U1 {c:Ci} (h:dN c=0):c.nl≤60:=by
 unfold dN at h;split at h
 ·cases h
 ·next h1=>
  have h2:qZ c=true:=by
   cases hf:qZ c with
   | true=>rfl
   | false=>exact absurd (by rw [hf];simp) h1
  unfold qZ at h2;simp only [Bool.and_eq_true,decide_eq_true_eq] at h2;omega
theorem mX {c:Ci} (h:dN c=0) {i:Nat} (hi:i<c.nl):aW (c.le i)=true:=by
 unfold dN at h;split at h
 ·cases h
 ·split at h
  ·cases h
  ·next h2=>
   cases hf:aW (c.le i) with
   | true=>rfl
   | false=>
    refine absurd ?_ h2;unfold aG;refine List.any_eq_true.2 ⟨i,List.mem_range.2 hi,?_⟩;rw [hf];simp
def lastT (ss:List (Bool × Nat)) (nl:Nat):Option Int→List (Bool × Nat) × Int × Int
 | some e=>([],nl,e)
 | none=>(ss,0,0)
def LU (c:Ci):Except (Nat × Int) (Nms × List (Bool × Nat))→List (Bool × Nat) × Int × Int
 | .error (i,e)=>([],i,e)
 | .ok (ns,ss)=>lastT ss c.nl (outT ns c.fo c.no)
def qB (c:Ci) (ru:Ex→Nat→Except Int Nat):List (Bool × Nat) × Int × Int:=match iM c.fi c.ni with
 | none=>([], -1,230)
 | some ns=>LU c (fG ns c.ln (fun ns i=>shE ns ru (c.le i)) c.nl)
def shL (ss:List (Bool × Nat)):List AV:=ss.flatMap fun r=>[.v (.bool r.1), .v (.int .i64 r.2)]
theorem lT (ss:List (Bool × Nat)): ∀ a,a∈shL ss→Clo a:=by
 intro a ha;obtain ⟨r,_,h⟩:=List.mem_flatMap.1 ha;simp only [List.mem_cons,List.not_mem_nil,or_false] at h;rcases h with rfl | rfl
 ·exact .v _
 ·exact .v _
theorem QI (ss:List (Bool × Nat)):(shL ss).length=ss.length*2:=by
 induction ss with
 | nil=>rfl
 | cons r q ih=>
  show (_::_::shL q).length=_;rw [List.length_cons,List.length_cons,ih,List.length_cons];omega
theorem aeA (ss:List (Bool × Nat)) (r:Bool × Nat):shL (ss++[r])=shL ss++[.v (.bool r.1), .v (.int .i64 r.2)]:=by
 unfold shL;rw [List.flatMap_append];rfl
def typeA (q:List (Bool × Nat) × Int × Int):AV:= .tup [.t q.1.length 2 (shL q.1), .v (.int .i64 q.2.1), .v (.int .i64 q.2.2)]
def eY (me:Int) (c:Ci) (ru:Ex→Nat→Except Int Nat):List (Bool × Nat) × Int × Int:=
 if me≠0 then ([],0,2) else if dN c≠0 then ([],0,dN c) else qB c ru
variable {X:Cx}
theorem aS.weak {n:Nat} {Y:Cx} (S:aS n X Y):aS 0 X Y:=
 ⟨S.os,S.tape,S.output,S.size,S.block,S.keep,Nat.zero_le _,fun _ _ _ _ _ h=>absurd h (Nat.not_lt_zero _),fun _ _ h=>absurd h (Nat.not_lt_zero _),S.own,S.nX,fun _ _ h=>absurd h (Nat.not_lt_zero _),S.dse⟩
theorem aS.defs {n:Nat} {Y:Cx} {d d2:List Deferred} (S:aS n (X.def_ d2) Y):aS n (X.def_ d) (Y.def_ d):=
 ⟨S.os,S.tape,S.output,S.size,S.block,S.keep,S.len,S.nV,S.l7,S.own,S.nX,S.omap,rfl⟩
theorem QJ {x y:Value} (h:Rep X (.v x) y):y=x:=by cases h;rfl
theorem Zz {e:Int} {v:Value} (h:Rep X (lC e) v):v= .iface 98 (.agg #[.int .i64 e]):=by
 unfold lC at h;cases h with
 | ifc h=>
  cases h with
  | @g _ cvs hc hr=>
   match cvs,hc with
   | [c0],_=>rw [QJ (hr 0 _ c0 rfl rfl)]
theorem xk (hX:Ok X) {id b:Nat} {a:AV} (h:X.h[id]? =some (some (.blk [a]))) (hb:(X.m id).1=some b): ∃ x,X.w.cell? ⟨b,0,none⟩=some x∧X.w.frozen? ⟨b,0,none⟩=false∧Rep X a x:=by
 obtain ⟨b',cvs,T,h1,h2,h3,_,h5⟩:=hX.blk id _ h;rw [hb] at h1;injection h1 with h1;subst h1;have hs:0<cvs.size:=by rw [h3];exact Nat.one_pos
 refine ⟨cvs[0],?_,?_,h5 0 a _ rfl (Array.getElem?_eq_getElem hs)⟩
 ·simp [World.cell?,h2,Array.getElem?_eq_getElem hs]
 ·simp [World.frozen?,h2]
theorem jV {id off:Nat} {v:Value} {c:List AV} (h:Rep X (.ptr id off) v) (hc:X.h[id]? =some (some (.blk c))): ∃ b,(X.m id).1=some b∧v= .pointer (some ⟨b,off,none⟩):=by
 cases h with
 | ptr hid h=>exact h c hc
def tyL:List Nat:=[0,1,2,6,28,4,5,3,8,32,9,7,43,42,44,41,10,12,58,57,59,56,13,14,15,88,87,89,86,17,19,18]
def ET (i e:Int):AV:= .tup [.v (.slice none 0 0), .v (.int .i64 i), .v (.int .i64 e)]
def O7:Array ResultVar:= #[.cell 4 34, .cell 5 3, .cell 6 35]
def aeB (x:Par) (c:Ci):Hp:=[some (.blk (dQ x)),some (.blk (ciC c)),some (.blk [.v (.slice none 0 0)]),some (.blk [.v (.int .i64 0)]),some (.blk [.v (.int .i64 0)]),some (.blk [.v (.int .i64 (-1))])]
def O8 (t:Int):Ev:=[(2, .ptr 0 0),(3, .ptr 1 0),(4, .ptr 2 0),(5, .ptr 3 0),(6, .ptr 4 0),(9, .ptr 5 0),(7, .v (.int .i64 t))]
def ai3 (mv:Nat) (me:Int) (x:Par) (c:Ci) (e:Ev) (h:Hp):Prop:=wJ (O8 mv) e∧h=aeB x c∧me=0∧dN c=0
def ai4 (mv:Nat) (me:Int) (x:Par) (c:Ci) (q:List (Bool × Nat) × Int × Int):dw:=fun ex e h=>match ex with
 | .normal=>ai3 mv me x c e h
 | .ret=>EP Tryz.prog O7 (fun r _=> ∃ i e,q=([],i,e)∧r=ET i e) (fun _ _=>False) .ret e h
 | _=>False
variable {e:Ev}{h:Hp}{q:List (Bool × Nat) × Int × Int}{x:Par}
theorem ai5 {mv:Nat} {me:Int}  {c:Ci}   :ai4 mv me x c q .normal e h=ai3 mv me x c e h:=rfl
theorem ZA {mv:Nat} {me:Int}  {c:Ci}   :ai4 mv me x c q .ret e h=EP Tryz.prog O7 (fun r _=> ∃ i e,q=([],i,e)∧r=ET i e) (fun _ _=>False) .ret e h:=rfl
def ai6 (x:Par) (c:Ci) (q:List (Bool × Nat) × Int × Int):dw:=fun ex e_ h=>match ex with
 | .ret=>EP Tryz.prog O7 (fun r _=>q.2=(0,0)∧r=typeA q) (fun _ _=>False) .ret e_ h
 | .panic av=> ∃ i e s0 i0 e0,q=([],i,e)∧av=lC e∧h[2]? =some (some (.blk [s0]))∧h[3]? =some (some (.blk [.v (.int .i64 i0)]))∧h[4]? =some (some (.blk [.v (.int .i64 e0)]))∧h[5]? =some (some (.blk [.v (.int .i64 i)]))∧aO e_ 4= .ptr 2 0∧aO e_ 5= .ptr 3 0∧aO e_ 6= .ptr 4 0
 | _=>False
theorem ai7 {c:Ci}   :ai6 x c q .ret e h=EP Tryz.prog O7 (fun r _=>q.2=(0,0)∧r=typeA q) (fun _ _=>False) .ret e h:=rfl
theorem D7 {c:Ci}  {av:AV} {e_:Ev} :ai6 x c q (.panic av) e_ h= ∃ i e s0 i0 e0,q=([],i,e)∧av=lC e∧h[2]? =some (some (.blk [s0]))∧h[3]? =some (some (.blk [.v (.int .i64 i0)]))∧h[4]? =some (some (.blk [.v (.int .i64 e0)]))∧h[5]? =some (some (.blk [.v (.int .i64 i)]))∧aO e_ 4= .ptr 2 0∧aO e_ 5= .ptr 3 0∧aO e_ 6= .ptr 4 0:=rfl
theorem LV (x:Par) (c:Ci) (ru:Ex→Nat→Except Int Nat) (ks:Ex→Prop) (mv:Nat) (me:Int) (T1:TC Tryz.prog 60 [.g (dQ x), .v (.int .i64 x.r)] (.tup [.v (.int .i64 mv), .v (.int .i64 me)])) (hc:okC c)
  (hR:me=0→ ∀ ns,IC x mv ns ru ks) (hks: ∀ i,i<c.nl→aev ks (c.le i)):
  TC Tryz.prog 19 [.g (dQ x), .g (ciC c)] (typeA (eY me c ru)):=by
 refine TC.Wy ⟨by kernel_rfl,fun X0 vs hX0 hh hr=>?_⟩ ?_
 case refine_2=>unfold typeA;simp only [Wv.BC];exact lT _
 refine calls_of_wp_defers Tryz.func19 rfl ?_;show (LQ [_,_,_,_] (.seq _ (.seq _ _))).wp _ _ _ _;have hX1:Ok (X0.def_ []):=hX0.def_;have hr1:fJ (X0.def_ []) [.g (dQ x), .g (ciC c)] vs:=⟨hr.1,fun i a x h1 h2=>(hr.2 i a x h1 h2).def_⟩
 have hE1:=CU (N:=109) rfl hr1 (by show 2≤109;omega);refine D6 (N:=109) (L:=tyL) (ks:=[]) (by kernel_rfl) (QA:=ai4 mv me x c (eY me c ru)) (fun i e h q=>q) (fun av e h q=>q) [_,_,_,_] (X0.def_ []) _ _ ?_ (by kernel_rfl) (Nat.zero_le _) hX1 hE1 ?_ ?_ ?_
 ·kernel_rfl
 ·show bK Tryz.prog 109 tyL [] _ _ _ X0.h;rw [hh];have T2:=Oy c hc;have hQ:eY me c ru=if me≠0 then ([],0,2) else if dN c≠0 then ([],0,dN c) else qB c ru:=rfl
  have hM: ∀ e h,ai3 mv me x c e h=(wJ (O8 mv) e∧h=aeB x c∧me=0∧dN c=0):=fun _ _=>rfl
  have hG1:Clo (.g (dQ x)):=by simp only [Wv.BC];exact dV x
  have hG2:=wU c;generalize me=e1 at*;generalize mv=t1 at*;generalize dN c=e2 at*;unfold aeB at hM;simp only [dQ,ciC,bT] at T1 T2 hG1 hG2 hM ⊢;generalize c.lets=L at*;simp only [LQ];simp (disch:=first|exact Wv.D|fail) only [Wv.B,simprocAttr,tyL,qN];refine ak T1 rfl (zM hG1 Wv.c) Wv.c ?_;by_cases h1:e1=0
  ·subst h1;refine Wv.W1 @decide_true ?_;refine ak T2 rfl (dM hG2) Wv.c ?_;by_cases h2:e2=0
   ·subst h2;refine Wv.W2 @ai5 hM ?_;simp (disch:=first|exact Wv.D|fail) only [Wv.B,simprocAttr,O8]
   ·rw [if_neg (by simp),if_pos h2] at hQ;simp (disch:=first|exact Wv.D|fail) only [Wv.B,simprocAttr,aj h2,ZA,O7,hQ];exact ⟨_,_,rfl,rfl⟩
  ·rw [if_pos h1] at hQ;simp (disch:=first|exact Wv.D|fail) only [Wv.B,simprocAttr,aj h1,ZA,O7,hQ];exact ⟨_,_,rfl,rfl⟩
 ·intro Y e a S hY hE hmid;obtain ⟨hfit,hh2,hm0,hck⟩:=hmid;have hEm:aN Y 109 (O8 mv) a:=⟨hE.defers,hE.size,fun d=>by
   rcases wK hfit d with q | q
   ·rw [q];exact hE.rep d
   ·rw [q];exact .none _⟩
  have hds:a.defers=[]:=hE.defers.trans S.dse;refine wp_seq (IV (by rw [hE.size];decide) ?_);rw [hds];generalize hcv:Array.map a.eval _=cv;generalize hd:Deferred.mk _ _=d;show Code.wp _ _ _ _ _;have hY2:Ok (Y.def_ [d]):=hY.def_;have hE2:aN (Y.def_ [d]) 109 (O8 mv) {tmps:=a.tmps.setIfInBounds 34 (.func (.func 62) #[] cv),defers:=[d]}:=by
   have h1:=(hEm.any (dst:=some 34) (v:= .func (.func 62) #[] cv) (fun d hd=>by injection hd with hd;subst hd;rfl))
   exact ⟨rfl,h1.size,fun d=>(h1.rep d).def_⟩
  refine wp_mono (dG (by kernel_rfl) (L:=tyL) (ks:=[(1000000,6)]) _ (ai6 x c (eY me c ru)) (Y.def_ [d]) (O8 mv) _ ?_ (by kernel_rfl) ?_ hY2 hE2 ?_) ?_
  ·kernel_rfl
  ·show 6≤Y.h.length;rw [hh2];exact Nat.le_refl 6
  ·show bK _ _ _ _ _ _ _ Y.h;rw [hh2];have hQ:eY me c ru=qB c ru:=by unfold eY;rw [if_neg (by simp [hm0]),if_neg (by simp [hck])]
   have hT0:qB c ru=match iM c.fi c.ni with
    | none=>([], -1,230)
    | some ns=>LU c (fG ns c.ln (fun ns i=>shE ns ru (c.le i)) c.nl):=rfl
   rw [hQ];have hLc:=iR c;have hdr: ∀ i,i<c.nl→ ∃ r,List.drop (i*6) c.lets=jg (c.ln i) (c.le i)++r:=fun i hi=>bM (f:=fun i=>jg (c.ln i) (c.le i)) (fun i=>iQ _ _) hi
   generalize hQQ:qB c ru=QQ at hT0 ⊢;have hR1:=hR hm0;clear hR;generalize ht:((mv:Nat):Int)=t at hR1 ⊢;have hcc:=tu c;have hpc:=dV x;simp only [ciC,bT] at hcc;simp only [dQ] at hpc;generalize hL:c.lets=L at*;have aeC: ∀ (s0:AV) (pl:Int) (ns:Nms) (r:Hp) (m:Nat),8≤m→lo m s0→loH m r→loH m (some (.blk [.v (.int .i64 x.n), .v (.int .u32 x.p), .v (.int .i64 x.r), .t x.ch.length 1 (x.ch.map fun (c:Nat)=> .v (.int .u32 c)), .v (.int .u32 x.sp), .v (.int .i64 x.wt), .v (.int .u32 x.er)])::
     some (.blk [.v (.string c.name), .t c.ni 1 (tab c.ni fun i=> .v (.string (c.fi i))), .t c.nl 6 L, .t c.no 1 (tab c.no fun i=> .v (.string (c.fo i)))])::
     some (.blk [s0])::some (.blk [.v (.int .i64 0)])::some (.blk [.v (.int .i64 0)])::some (.blk [.v (.int .i64 pl)])::some (.map (nsE ns))::some (.blk (tyP x t++[.mp 6]))::r):=fun s0 pl ns r m hm hs0 hr=>by
    have h1: ∀ v:AV,lo m v→loL m [v]:=fun v hv a ha=>by rw [List.mem_singleton] at ha;subst ha;exact hv
    refine ⟨fun a ha=> .clo (hpc a ha),fun a ha=> .clo (hcc a ha),h1 _ hs0,h1 _ (.clo (.v _)),h1 _ (.clo (.v _)),h1 _ (.clo (.v _)),fun a ha=> .clo (tJ ns a ha),fun a ha=>?_,hr⟩;rcases List.mem_append.1 ha with h | h
    ·exact .clo (QG x t a h)
    ·rw [List.mem_singleton] at h;subst h;exact .mp (by omega)
   simp only [O8,aeB,dQ,ciC,bT,hL];simp (disch:=first|exact Wv.D|fail) only [Wv.B,simprocAttr,tyL];refine aT (σ:=Nat) (fun i=>[(3, .ptr 1 0),(4, .ptr 2 0),(5, .ptr 3 0),(6, .ptr 4 0),(9, .ptr 5 0),(10, .ptr 7 0),(41, .t c.ni 1 (tab c.ni fun i=> .v (.string (c.fi i)))),(42, .v (.int .i64 c.ni)),(43, .v (.int .i64 i))])
    (fun i=>[some (.blk [.v (.int .i64 x.n), .v (.int .u32 x.p), .v (.int .i64 x.r), .t x.ch.length 1 (x.ch.map fun (c:Nat)=> .v (.int .u32 c)), .v (.int .u32 x.sp), .v (.int .i64 x.wt), .v (.int .u32 x.er)]),
     some (.blk [.v (.string c.name), .t c.ni 1 (tab c.ni fun i=> .v (.string (c.fi i))), .t c.nl 6 L, .t c.no 1 (tab c.no fun i=> .v (.string (c.fo i)))]),
     some (.blk [.v (.slice none 0 0)]),some (.blk [.v (.int .i64 0)]),some (.blk [.v (.int .i64 0)]),some (.blk [.v (.int .i64 (-1))]),some (.map (nsE ((iM c.fi i).getD []))),some (.blk (tyP x t++[.mp 6]))])
    (fun i=>i≤c.ni∧iM c.fi i=some ((iM c.fi i).getD [])) (fun i=>c.ni - i) 0 ⟨Nat.zero_le _,rfl⟩ (by simp (disch:=first|exact Wv.D|fail) only [Wv.B,simprocAttr,iM,Option.getD_some,nsE,tyP]) Wv.V ?_
   rintro i ⟨hi,hns⟩;have hni:=hc.ni;by_cases hlt:i<c.ni
   ·have e1:(i:Int)<c.ni:=by omega
    obtain ⟨ns,hq⟩: ∃ ns,iM c.fi i=some ns:=⟨_,hns⟩
    have hgd:(iM c.fi i).getD []=ns:=by rw [hq];rfl
    have hP:(tyP x t).length=8:=rfl;have hPl: ∀ a,a∈tyP x t→Clo a:=fun a ha=>QG x t a ha
    refine Wv.W1 hgd ?_;refine aJ (fst:=[]) (cap:=[]) (ai2 (Gm x t ns (c.fi i)) _ _ _ _ _ _ [] (dM Wv.c) (by rintro r ⟨_,rfl⟩;simp only [Wv.BC]) (by rintro r ⟨_,rfl⟩;exact iC 230)) ?_ ?_
    ·rintro av h' ⟨⟨hfn,rfl⟩,rfl⟩;refine Wv.W ?_;refine aC (fst:=[]) (cap:=[]) (D5 _ _ _ _ _ _ [] (tyP x t) hP ns (c.fi i) (false,0) hfn ?_) ?_
     ·exact aeC (.v (.slice none 0 0)) (-1) ns [] 8 (Nat.le_refl _) (.clo (.v _)) trivial
     ·rintro av h' ⟨rfl,rfl⟩;have hnx:iM c.fi (i+1)=some (ns++[(c.fi i,false,0)]):=by
       simp only [iM,hq,Option.bind_some,hfn]
      have hgn:(iM c.fi (i+1)).getD []=ns++[(c.fi i,false,0)]:=by rw [hnx];rfl
      simp (disch:=first|exact Wv.D|fail) only [Wv.B,simprocAttr,froze];refine ay (i+1) ⟨by omega,by rw [hnx];rfl⟩ (by omega) (by rw [hgn]) Wv.V2
    ·rintro av h' ⟨⟨hfn,rfl⟩,rfl⟩;have hnx:iM c.fi c.ni=none:=yN (i:=i+1) (by
      cases hf:aF ns (c.fi i) with
      | none=>exact absurd hf hfn
      | some r=>simp only [iM,hq,Option.bind_some,hf]) (by omega)
     rw [hnx] at hT0;simp only at hT0;refine Wv.W1 @D7 ?_;exact ⟨_,_,_,_,_,hT0,rfl,rfl,rfl,rfl,rfl,rfl,rfl,rfl⟩
   ·have hin:i=c.ni:=by omega
    subst hin;obtain ⟨ns,hq⟩: ∃ ns,iM c.fi c.ni=some ns:=⟨_,hns⟩
    have hgd:(iM c.fi c.ni).getD []=ns:=by rw [hq];rfl
    have hnb: ∀ s r,aF ns s=some r→r.2≤8:=fun s r h=>QH hq h
    rw [hq] at hT0;simp only at hT0;refine Wv.W1 hgd ?_;clear hgd hns hi hlt hq;generalize hsh:(fun (ns:Nms) (i:Nat)=>shE ns ru (c.le i))=sh at hT0;refine lQ (σ:=Nat) (fun i=>[(3, .ptr 1 0),(4, .ptr 2 0),(5, .ptr 3 0),(6, .ptr 4 0),(9, .ptr 5 0),(10, .ptr 7 0),(56, .t c.nl 6 L),(57, .v (.int .i64 c.nl)),(58, .v (.int .i64 i))])
     (fun i=>[some (.blk [.v (.int .i64 x.n), .v (.int .u32 x.p), .v (.int .i64 x.r), .t x.ch.length 1 (x.ch.map fun (c:Nat)=> .v (.int .u32 c)), .v (.int .u32 x.sp), .v (.int .i64 x.wt), .v (.int .u32 x.er)]),
      some (.blk [.v (.string c.name), .t c.ni 1 (tab c.ni fun i=> .v (.string (c.fi i))), .t c.nl 6 L, .t c.no 1 (tab c.no fun i=> .v (.string (c.fo i)))]),
      some (.blk [.own 8 i]),some (.blk [.v (.int .i64 0)]),some (.blk [.v (.int .i64 0)]),some (.blk [.v (.int .i64 ((i:Int) - 1))]),some (.map (nsE (O6 (fG ns c.ln sh i)).1)),some (.blk (tyP x t++[.mp 6])),some (.arr 42 2 (shL (O6 (fG ns c.ln sh i)).2) (2*(i - 1)))])
     (fun i=>i≤c.nl∧fG ns c.ln sh i= .ok (O6 (fG ns c.ln sh i))∧(O6 (fG ns c.ln sh i)).2.length=i∧ ∀ s r,aF (O6 (fG ns c.ln sh i)).1 s=some r→r.2≤8) (fun i=>c.nl - i) 0 ⟨Nat.zero_le _,rfl,rfl,hnb⟩ ?_ ?_
    ·refine Ent.trans (Ent.ad1 2 0 42 2 [.v (.slice none 0 0)] (by omega) rfl rfl) (Ent.fit ?_);exact Wv.V
    rintro i ⟨hi,hok,hsl,hb⟩;obtain ⟨⟨ns1,ss⟩,hg⟩: ∃ q,O6 (fG ns c.ln sh i)=q:=⟨_,rfl⟩
    rw [hg] at hok hsl hb;simp only at hsl hb;have hnl:=hc.nl;by_cases hlt:i<c.nl
    ·have e1:(i:Int)<c.nl:=by omega
     obtain ⟨r,hd⟩:=hdr i hlt;have hform:aW (c.le i)=true:=mX hck hlt;have TE:=aew x t ns1 ru ks hb (hR1 ns1) (c.le i) (hc.le i hlt).1 hform (hks i hlt);have ai8:sh ns1 i=shE ns1 ru (c.le i):=by rw [←hsh]
     have hG:=dh (c.le i);have hGl:=wS (c.ln i) (c.le i);unfold ShC at TE;have amR: ∀ r,shE ns1 ru (c.le i)= .ok r→r.2≤8:=fun r h=>yL hb (c.le i) h
     generalize shE ns1 ru (c.le i)=O at TE ai8 amR;have hoy:=(hc.le i hlt).1;generalize c.le i=y at hd TE hG hGl hoy;obtain ⟨k',s',n',nl',li',na',ar',rfl⟩:=kG hoy;unfold jg at hd hGl;rw [cO] at hd TE hG hGl;simp only [List.cons_append,List.nil_append] at hd;have ai9:fG ns c.ln sh (i+1)=Ae c.ln sh i (.ok (ns1,ss)):=by show Ae c.ln sh i (fG ns c.ln sh i)=_;rw [hok]
     refine Wv.W2 hg hd ?_;refine aJ (fst:=[]) (cap:=[]) (ai2 (Gm x t ns1 (c.ln i)) _ _ _ _ _ _ [_,_] (dM Wv.c) (by rintro r ⟨_,rfl⟩;simp only [Wv.BC]) (by rintro r ⟨_,rfl⟩;exact iC 230)) ?_ ?_
     ·rintro av h' ⟨⟨hfn,rfl⟩,rfl⟩;refine Wv.W ?_;refine aJ (fst:=[]) (cap:=[]) (ai2 (args:=[.g _]) TE _ _ _ _ _ _ [_,_] (dM hG) (by rintro r ⟨s,_,rfl⟩;exact AO s) (by rintro r ⟨e,_,rfl⟩;exact iC e)) ?_ ?_
      ·rintro av h' ⟨⟨⟨k2,d2⟩,hO,rfl⟩,rfl⟩;have hnx:fG ns c.ln sh (i+1)= .ok (ns1++[(c.ln i,k2,d2)],ss++[(k2,d2)]):=by
        rw [ai9];simp only [Ae,hfn,Option.isSome_none,Bool.false_eq_true,if_false,ai8,hO,U0]
       have hgn:O6 (fG ns c.ln sh (i+1))=(ns1++[(c.ln i,k2,d2)],ss++[(k2,d2)]):=by rw [hnx];rfl
       simp (disch:=first|exact Wv.D|fail) only [Wv.B,simprocAttr,shA];refine aC (fst:=[]) (cap:=[]) (D5 _ _ _ _ _ _ [_,_,_] (tyP x t) rfl ns1 (c.ln i) (k2,d2) hfn ?_) ?_
       ·exact aeC (.own 8 i) i ns1 _ 11 (by omega) (.own (by omega)) ⟨fun a ha=> .clo (lT ss a ha),fun a ha=> .clo (hGl a ha),fun a ha=> .clo (by
         simp only [List.mem_cons,List.not_mem_nil,or_false] at ha;rcases ha with rfl | rfl
         ·exact .v _
         ·exact .v _),trivial⟩
       ·rintro av h' ⟨rfl,rfl⟩;have aoE:=U1 hck;have hsz:=QI ss;rw [hsl] at hsz;have hca: ∀ (a0 a1 a2 a3 a4 a5 a6 a7:Option Ob) (r:Hp) (fz:Nat),cellsA (a0::a1::a2::a3::a4::a5::a6::a7::some (.arr 42 2 (shL ss++[.v (.bool k2), .v (.int .i64 d2)]) fz)::r) (.own 8 (i+1))=some [.own 8 (i+1)]:=fun a0 a1 a2 a3 a4 a5 a6 a7 r fz=>by
         have:bQ (a0::a1::a2::a3::a4::a5::a6::a7::some (.arr 42 2 (shL ss++[.v (.bool k2), .v (.int .i64 d2)]) fz)::r) (.own 8 (i+1))=true:=by
          show decide ((shL ss++[AV.v (.bool k2),AV.v (.int .i64 d2)]).length=(i+1)*2)=true;rw [List.length_append,hsz];exact ah (by show i*2+2=_;omega)
         exact if_pos this
        have hdc:decide (i*2+2=(i+1)*2)=true:=ah (by omega);simp (disch:=first|exact Wv.D|fail) only [Wv.B,simprocAttr,froze,hsz,hca,hdc];have hpl:(i:Int)+1 - 1=i:=by omega
        have hfz:2*(i+1 - 1)=i*2:=by omega
        refine Wv.iw (i+1) 9 (by first | decide | exact Nat.le_of_ble_eq_true rfl) ⟨by omega,by rw [hnx];rfl,by rw [hgn];simp [hsl],?_⟩ (by omega) (by simp (disch:=first|exact Wv.D|fail) only [Wv.B,simprocAttr,hgn,hpl,hfz,Nat.mul_comm 2 i,aeA,Int.natCast_add,Int.natCast_one]) Wv.V2 (by simp only [Wv.BL, ↓reduceIte,Nat.reduceLeDiff,eq_true hLc]<;>omega) ?_
        ·rw [hgn];intro s r h;rcases yO h with q | q
         ·exact hb s r q
         ·subst q;exact amR _ hO
        ·rw [hgn];exact aeC (.own 8 (i+1)) _ _ _ 9 (by omega) (.own (by omega)) ⟨fun a ha=> .clo (lT _ a ha),trivial⟩
      ·rintro av h' ⟨⟨e,hO,rfl⟩,rfl⟩;have hnx:fG ns c.ln sh (i+1)= .error (i,e):=by
        rw [ai9];simp only [Ae,hfn,Option.isSome_none,Bool.false_eq_true,if_false,ai8,hO,U0]
       rw [rJ hnx (n:=c.nl) (by omega)] at hT0;simp only [LU] at hT0;refine Wv.W1 @D7 ?_;exact ⟨_,_,_,_,_,hT0,rfl,rfl,rfl,rfl,rfl,rfl,rfl,rfl⟩
     ·rintro av h' ⟨⟨hfn,rfl⟩,rfl⟩;have hnx:fG ns c.ln sh (i+1)= .error (i,230):=by
       rw [ai9];cases hf:aF ns1 (c.ln i) with
       | none=>exact absurd hf hfn
       | some r=>simp only [Ae,hf,Option.isSome_some,if_true]
      rw [rJ hnx (n:=c.nl) (by omega)] at hT0;simp only [LU] at hT0;refine Wv.W1 @D7 ?_;exact ⟨_,_,_,_,_,hT0,rfl,rfl,rfl,rfl,rfl,rfl,rfl,rfl⟩
    ·have hin:i=c.nl:=by omega
     subst hin;rw [hok] at hT0;have hT1:QQ=lastT ss c.nl (outT ns1 c.fo c.no):=hT0;refine Wv.W1 hg ?_;have hno:=hc.no;refine aT (σ:=Nat) (fun i=>[(3, .ptr 1 0),(4, .ptr 2 0),(5, .ptr 3 0),(6, .ptr 4 0),(9, .ptr 5 0),(10, .ptr 7 0),(86, .t c.no 1 (tab c.no fun i=> .v (.string (c.fo i)))),(87, .v (.int .i64 c.no)),(88, .v (.int .i64 i))])
      (fun i=>[some (.blk [.v (.int .i64 x.n), .v (.int .u32 x.p), .v (.int .i64 x.r), .t x.ch.length 1 (x.ch.map fun (c:Nat)=> .v (.int .u32 c)), .v (.int .u32 x.sp), .v (.int .i64 x.wt), .v (.int .u32 x.er)]),
       some (.blk [.v (.string c.name), .t c.ni 1 (tab c.ni fun i=> .v (.string (c.fi i))), .t c.nl 6 L, .t c.no 1 (tab c.no fun i=> .v (.string (c.fo i)))]),
       some (.blk [.own 8 c.nl]),some (.blk [.v (.int .i64 0)]),some (.blk [.v (.int .i64 0)]),some (.blk [.v (.int .i64 c.nl)]),some (.map (nsE ns1)),some (.blk (tyP x t++[.mp 6])),some (.arr 42 2 (shL ss) (2*(c.nl - 1)))])
      (fun i=>i≤c.no∧outT ns1 c.fo i=none) (fun i=>c.no - i) 0 ⟨Nat.zero_le _,rfl⟩ Wv.V Wv.V ?_
     rintro i ⟨hi,hout⟩;have hout1:outT ns1 c.fo (i+1)=IW (aF ns1 (c.fo i)):=by simp only [outT,hout]
     by_cases hlt:i<c.no
     ·have e1:(i:Int)<c.no:=by omega
      have hlm:=wZ (c.fo i) ns1;have aja:tyP x t++[.mp 6]=[.v (.int .i64 x.n), .v (.int .u32 x.p), .v (.int .i64 x.r), .t x.ch.length 1 (x.ch.map fun (c:Nat)=> .v (.int .u32 c)), .v (.int .u32 x.sp), .v (.int .i64 x.wt), .v (.int .u32 x.er), .v (.int .i64 t), .mp 6]:=rfl;cases hq2:aF ns1 (c.fo i) with
      | none=>
       rw [hq2] at hlm hout1;simp only [Option.map_none] at hlm;simp only [IW] at hout1;refine Wv.W3 @zN hlm aja ?_;refine aJ (fst:=[]) (cap:=[]) (bD false 230) (by rintro av h' ⟨hb,_⟩;cases hb) ?_;rintro av h' ⟨_,rfl,rfl⟩;rw [tZ hout1 (n:=c.no) (by omega)] at hT1;simp only [lastT] at hT1;refine Wv.W1 @D7 ?_;exact ⟨_,_,_,_,_,hT1,rfl,rfl,rfl,rfl,rfl,rfl,rfl,rfl⟩
      | some r=>
       obtain ⟨k2,d2⟩:=r;rw [hq2] at hlm hout1;simp only [Option.map_some,shA] at hlm;simp only [IW] at hout1;refine Wv.W3 @zN hlm aja ?_;refine aJ (fst:=[]) (cap:=[]) (bD true 230) ?_ (by rintro av h' ⟨hb,_⟩;cases hb);rintro av h' ⟨_,rfl,rfl⟩;refine Wv.W ?_;refine aJ (fst:=[]) (cap:=[]) (bD (!k2) 234) ?_ ?_
       ·rintro av h' ⟨hk,rfl,rfl⟩;have hk2:k2=false:=by simpa using hk
        subst hk2;simp only [Bool.false_eq_true,if_false] at hout1;refine Wv.W ?_;refine Wv.iw (i+1) 9 (by first | decide | exact Nat.le_of_ble_eq_true rfl) ⟨by omega,hout1⟩ (by omega) (Wv.V1 aja) Wv.V2 (by simp only [Wv.BL, ↓reduceIte,Nat.reduceLeDiff,eq_true hLc]<;>omega) ?_;exact aeC (.own 8 c.nl) _ _ _ 9 (by omega) (.own (by omega)) ⟨fun a ha=> .clo (lT _ a ha),trivial⟩
       ·rintro av h' ⟨hk,rfl,rfl⟩;have hk2:k2=true:=by simpa using hk
        subst hk2;simp only [if_true] at hout1;rw [tZ hout1 (n:=c.no) (by omega)] at hT1;simp only [lastT] at hT1;refine Wv.W1 @D7 ?_;exact ⟨_,_,_,_,_,hT1,rfl,rfl,rfl,rfl,rfl,rfl,rfl,rfl⟩
     ·have hin:i=c.no:=by omega
      subst hin;rw [hout] at hT1;simp only [lastT] at hT1;have hsz:=QI ss;rw [hsl] at hsz;have hca: ∀ (a0 a1 a2 a3 a4 a5 a6 a7:Option Ob) (r:Hp) (fz:Nat),cellsA (a0::a1::a2::a3::a4::a5::a6::a7::some (.arr 42 2 (shL ss) fz)::r) (.own 8 c.nl)=some [.own 8 c.nl]:=fun a0 a1 a2 a3 a4 a5 a6 a7 r fz=>by
       have:bQ (a0::a1::a2::a3::a4::a5::a6::a7::some (.arr 42 2 (shL ss) fz)::r) (.own 8 c.nl)=true:=by
        show decide ((shL ss).length=c.nl*2)=true;rw [hsz];exact ah rfl
       exact if_pos this
      simp (disch:=first|exact Wv.D|fail) only [Wv.B,simprocAttr,ai7,O7,hca,hsz];rw [hT1];exact ⟨rfl,by unfold typeA;rw [hsl]⟩
  ·intro ex a' w' hpost;have:=hpost.elim;cases this with
   | ok z ex Z e2 a2 S2 hZ hEZ h hx=>
    have hS6:aS 0 (X0.def_ []) Y:=S;rcases hx with ⟨rfl,rfl⟩ | ⟨i,rfl,rfl⟩ | ⟨rfl,rfl⟩ | ⟨v,av,rfl,rfl,hrv⟩
    ·exact False.elim h
    ·exact False.elim h
    ·have hd2:a'.defers=[d]:=hEZ.defers.trans S2.dse;show Leaves _ _ _ _ a'.defers .returning Z.w;rw [hd2, ←hd];refine leaves_cons (f:=62) (args:=cv) (by simp) (by simp [go_sem]) ?_;obtain ⟨b5,g5⟩:=jV (hEm.rep 9) (by rw [hh2];rfl);obtain ⟨b2,g2⟩:=jV (hEm.rep 4) (by rw [hh2];rfl);obtain ⟨b3,g3⟩:=jV (hEm.rep 5) (by rw [hh2];rfl);obtain ⟨b4,g4⟩:=jV (hEm.rep 6) (by rw [hh2];rfl);have hcv2:cv= #[.pointer (some ⟨b5,0,none⟩), .pointer (some ⟨b2,0,none⟩), .pointer (some ⟨b3,0,none⟩), .pointer (some ⟨b4,0,none⟩)]:=by
      rw [←hcv];simp [Act.eval,g5.2,g2.2,g3.2,g4.2]
     rw [hcv2];refine (ai1 _ _ _ _ Z.w).mono ?_;rintro e3 u' w'' ⟨rfl,rfl,rfl⟩;obtain ⟨r,r',h',h1,h2,hq0,rfl⟩:=h;obtain ⟨v,q1,q2⟩:=Ar (fn:=Tryz.f19) hZ hEZ (by rw [Tryz.results19];exact h1);obtain ⟨V,z1,z2,z3,z4,z5⟩:=sQ Z r _ h' v hZ h2 q2;have SS:Step (X0.def_ [d]) Z:=aS.full (by show aS X0.h.length _ _;rw [hh];exact aS.trans hX0.def_ (aS.defs S) (aS.weak S2));exact ⟨v,q1,v,V.def_ X0.ds,_,rfl,z1,(SS.trans hX0.def_ z2).undef,z3.def_,z5.def_,rfl⟩
    ·have hd2:a'.defers=[d]:=hEZ.defers.trans S2.dse;obtain ⟨i,e',s0,i0,e0,hq,rfl,t2,t3,t4,t5,u4,u5,u6⟩:=h;have hv:=Zz hrv;subst hv;show Leaves _ _ _ _ a'.defers (.panicking _) Z.w;rw [hd2, ←hd];refine leaves_cons (f:=62) (args:=cv) (by simp) (by simp [go_sem]) ?_;obtain ⟨b5,g5⟩:=jV (hEm.rep 9) (by rw [hh2];rfl);obtain ⟨b2,g2⟩:=jV (hEm.rep 4) (by rw [hh2];rfl);obtain ⟨b3,g3⟩:=jV (hEm.rep 5) (by rw [hh2];rfl);obtain ⟨b4,g4⟩:=jV (hEm.rep 6) (by rw [hh2];rfl);have hcv2:cv= #[.pointer (some ⟨b5,0,none⟩), .pointer (some ⟨b2,0,none⟩), .pointer (some ⟨b3,0,none⟩), .pointer (some ⟨b4,0,none⟩)]:=by
      rw [←hcv];simp [Act.eval,g5.2,g2.2,g3.2,g4.2]
     rw [hcv2];have k2:(Z.m 2).1=some b2:=(S2.l7 2 _ (by decide) t2).elim fun _ q=>q.2.trans g2.1
     have k3:(Z.m 3).1=some b3:=(S2.l7 3 _ (by decide) t3).elim fun _ q=>q.2.trans g3.1
     have k4:(Z.m 4).1=some b4:=(S2.l7 4 _ (by decide) t4).elim fun _ q=>q.2.trans g4.1
     have k5:(Z.m 5).1=some b5:=(S2.l7 5 _ (by decide) t5).elim fun _ q=>q.2.trans g5.1
     obtain ⟨x2,c2,f2,_⟩:=xk hZ t2 k2;obtain ⟨x3,c3,f3,r3⟩:=xk hZ t3 k3;obtain ⟨x4,c4,f4,r4⟩:=xk hZ t4 k4;obtain ⟨x5,c5,f5,r5⟩:=xk hZ t5 k5;have y3:=QJ r3;have y4:=QJ r4;have y5:=QJ r5;subst y3 y4 y5;have nn: ∀ {i j bi bj:Nat} {ci cj:List AV},Z.h[i]? =some (some (.blk ci))→Z.h[j]? =some (some (.blk cj))→(Z.m i).1=some bi→(Z.m j).1=some bj→i≠j→bi≠bj:=fun h1 h2 h3 h4 hn he=>hn (hZ.inj _ _ _ ⟨_,h1⟩ ⟨_,h2⟩ h3 (he▸h4))
     have n52:=nn t5 t2 k5 k2 (by decide);have n53:=nn t5 t3 k5 k3 (by decide);have n54:=nn t5 t4 k5 k4 (by decide);have n23:=nn t2 t3 k2 k3 (by decide);have n24:=nn t2 t4 k2 k4 (by decide);have n34:=nn t3 t4 k3 k4 (by decide);refine (Zx b5 b2 b3 b4 e' i x2 i0 e0 Z.w c5 c2 c3 c4 f2 f3 f4 n52 n53 n54 n23 n24 n34).mono ?_;rintro e3 u' w'' ⟨rfl,rfl,hw⟩;have SS:Step (X0.def_ [d]) Z:=aS.full (by show aS X0.h.length _ _;rw [hh];exact aS.trans hX0.def_ (aS.defs S) (aS.weak S2));have hnm: ∀ b, ¬ (X0.def_ [d]).mine b:=fun b ⟨i,⟨o,ho⟩,_⟩=>by
      have ho':X0.h[i]? =some (some o):=ho;rw [hh] at ho';simp at ho'
     have hB:Below X0.w.heap.size X0.w Z.w:=SS.below hnm;have ge: ∀ {i b:Nat} {c:List AV},Z.h[i]? =some (some (.blk c))→(Z.m i).1=some b→X0.w.heap.size≤b:=fun h1 h2=>(SS.own _ ⟨_,⟨_,h1⟩,h2⟩).elim id fun q=>absurd q (hnm _)
     have l2:=World.block_lt_of_cell? Z.w _ c2;have l3:=World.block_lt_of_cell? Z.w _ c3;have l4:=World.block_lt_of_cell? Z.w _ c4;simp only at l2 l3 l4;have hbel:Below X0.w.heap.size X0.w w'':=by
      rw [hw];exact ((((hB.alloc hB.size _).setCell (ge t2 k2) _).setCell (ge t3 k3) _).setCell (ge t4 k4) _).drew
     have p2:w''.cell? ⟨b2,0,none⟩=some (.slice none 0 0):=by
      rw [hw];show World.cell? (World.setCell (World.setCell (World.setCell _ _ _) _ _) _ _) _=_;rw [World.cell?_setCell_far _ _ _ _ (fun q=>n24 q.symm),World.cell?_setCell_far _ _ _ _ (fun q=>n23 q.symm)];exact World.cell?_setCell_same _ _ _ (by simp [go_sem,l2];exact c2)
     have p3:w''.cell? ⟨b3,0,none⟩=some (.int .i64 i):=by
      rw [hw];show World.cell? (World.setCell (World.setCell (World.setCell _ _ _) _ _) _ _) _=_;rw [World.cell?_setCell_far _ _ _ _ (fun q=>n34 q.symm)];exact World.cell?_setCell_same _ _ _ ((World.cell?_setCell_far _ _ _ _ n23).trans (by simp [go_sem,l3];exact c3))
     have p4:w''.cell? ⟨b4,0,none⟩=some (.int .i64 e'):=by
      rw [hw];show World.cell? (World.setCell (World.setCell (World.setCell _ _ _) _ _) _ _) _=_;exact World.cell?_setCell_same _ _ _ ((World.cell?_setCell_far _ _ _ _ n34).trans ((World.cell?_setCell_far _ _ _ _ n24).trans (by simp [go_sem,l4];exact c4)))
     have q4:=hEZ.rep 4;have q5:=hEZ.rep 5;have q6:=hEZ.rep 6;rw [u4] at q4;rw [u5] at q5;rw [u6] at q6;obtain ⟨d4,m4,w4⟩:=jV q4 t2;obtain ⟨d5,m5,w5⟩:=jV q5 t3;obtain ⟨d6,m6,w6⟩:=jV q6 t4;rw [k2] at m4;injection m4 with m4;subst m4;rw [k3] at m5;injection m5 with m5;subst m5;rw [k4] at m6;injection m6 with m6;subst m6;show Leaves _ _ _ _ [] (settle _) w'';refine ⟨.tuple #[.slice none 0 0, .int .i64 i, .int .i64 e'],?_,_,⟨w'',fun _=>(none,0),[],X0.bad,X0.ds⟩,typeA (eY me c ru),rfl,rfl,?_,?_,?_,rfl⟩
     ·rw [Array.getD_eq_getD_getElem?] at w4 w5 w6;simp [results,Tryz.results19,go_sem,w4,w5,w6,p2,p3,p4]
     ·have hlen0:X0.h.length=0:=by rw [hh];rfl
      refine ⟨hbel.os,hbel.tape,hbel.output,hbel.size,fun b hb _=>hbel.block b hb,fun b o y h1 h2=>⟨?_,h2⟩,by rw [hlen0];exact Nat.zero_le _,fun i _ _ _ _ hi=>by omega,fun i _ hi=>by omega,fun b ⟨j,⟨o,ho⟩,_⟩=>by simp at ho,fun b o h=> .inl h,fun i _ hi=>by omega,rfl⟩;have hlt:=eH h1;unfold cellAt World.cell? at h1 ⊢;rw [hbel.block b hlt];exact h1
     ·exact J6 rfl fun b o h=>Nat.lt_of_lt_of_le (hX0.eX b o h) hbel.size
     ·rw [hq];exact (show Wk (ET i e') (typeA ([],i,e')) from Wk.tup ⟨Wk.nil 2,Wk.refl _,Wk.refl _,trivial⟩) _ _ (.tup (cells:=[.v (.slice none 0 0), .v (.int .i64 i), .v (.int .i64 e')]) (cvs:=[_,_,_]) rfl (fun j a y h1 h2=>by
       match j with
       | 0=>simp at h1 h2;subst h1 h2;exact .v _
       | 1=>simp at h1 h2;subst h1 h2;exact .v _
       | 2=>simp at h1 h2;subst h1 h2;exact .v _
       | j+3=>simp at h1))
 ·intro Y e a S hY hE hq;have hds:a.defers=[]:=hE.defers.trans S.dse;have S0:Step (X0.def_ []) Y:=aS.full (by show aS X0.h.length _ _;rw [hh];exact S);show Leaves _ _ _ _ a.defers .returning Y.w;rw [hds];obtain ⟨r,r',h',h1,h2,i,e',hq2,rfl⟩:=hq;obtain ⟨v,q1,q2⟩:=Ar (fn:=Tryz.f19) hY hE (by rw [Tryz.results19];exact h1);obtain ⟨Z,z1,z2,z3,z4,z5⟩:=sQ Y r _ h' v hY h2 q2;refine ⟨v,q1,v,Z.def_ X0.ds,_,rfl,z1,(S0.trans hX1 z2).undef,z3.def_,(show Wk (ET i e') (typeA (eY me c ru)) from ?_) _ _ z5.def_,rfl⟩;rw [hq2];exact Wk.tup ⟨Wk.nil 2,Wk.refl _,Wk.refl _,trivial⟩
end
section
open Go.RowKit Wv
theorem Gn: ∀ (f x:Nat),Lib.bitLenAux f x≤f
 | 0,x=>Nat.le_refl _
 | f+1,x=>by
  unfold Lib.bitLenAux;split
  ·exact Nat.zero_le _
  ·have:=Gn f (x / 2);omega
theorem xq (n:Int):dO n≤64:=by
 unfold dO;split
 ·exact Nat.zero_le _
 ·exact Gn 64 _
theorem QK {k:Int} {s:ByteArray} {n:Int} {nl:Nat} {li:Nat→Int} {na:Nat} {ar:Nat→Ex} (h:aW (.mk k s n nl li na ar)=true):inB n=true:=by
 unfold aW at h;simp only [Bool.and_eq_true] at h;exact h.2.2.2.2.2.2.1
end
section
open Go.RowKit Wv
def EU (x:Par) (t:Nat):Bool:=decide (x.r=1) && decide ((t:Int)≤256)
def D8 (x:Par) (t:Nat) (nl:Nat) (li:Nat→Int):Except Int Nat:=if EU x t=true then (if jL t nl li t t=true then .ok (Ad t li) else .error 233) else .error 231
def IX (t:Nat) (n:Int):Bool:=decide (0≤n) && decide (n≤(t:Int))
def xu (n:Int) (v:Nat):Int:=if (v:Int)<n then 1 else 0
def IY (x:Par) (t:Nat) (n:Int):Except Int Nat:=if EU x t=true then (if IX t n=true then .ok (Ad t (xu n)) else .error 233) else .error 231
theorem IZ {t nl:Nat} {li:Nat→Int} (h:jL t nl li t t=true):nl=t∧ ∀ i,i<t→ny t (li i)=true:=by
 unfold jL at h;simp only [Bool.and_eq_true,decide_eq_true_eq,Bool.not_eq_true'] at h;obtain ⟨h1,h2,h3⟩:=h;have e:nl=t:=by omega
 subst e;refine ⟨rfl,fun i hi=>?_⟩;unfold aG at h3;have:=List.any_eq_false.1 h3 i (List.mem_range.2 hi);simpa using this
theorem ZB {t:Nat} {n:Int} (h:ny t n=true):0≤n+t∧n≤t:=by
 unfold ny at h;have h':=of_decide_eq_true h;split at h'<;>constructor<;>omega
theorem take2 {h:Hp} {a b c:Option Ob} (q:List.take 3 h=[a,b,c]):List.take 2 h=[a,b]:=by
 have:List.take 2 h=List.take 2 (List.take 3 h):=by rw [List.take_take];rfl
 rw [this,q];rfl
theorem LW (x : Par) (t : Nat) (ns : Nms) (k : Int) (s : ByteArray) (n : Int) (nl : Nat) (li : Nat → Int) (na : Nat) (ar : Nat → Ex) (unk : Nat) (hn : nl ≤ 140737488351232) (hin : ∀ i, i < nl → inB (li i) = true) (ht : 2 ≤ t) (ht' : t ≤ 4611686018427387904) :
    je x t ns 170 (.mk k s n nl li na ar) unk (D8 x t nl li) := by
  refine je.of ?_;have hR : D8 x t nl li = if EU x t = true then (if jL t nl li t t = true then .ok (Ad t li) else .error 233) else .error 231 := rfl
  have hF : EU x t = (decide (x.r = 1) && decide ((t : Int) ≤ 256)) := rfl;have hY := zO x t ns nl li t t hn hin (by omega) (by omega);have hZ := DU x t ns nl li t t hn hin (by omega) (by omega);have hB := IZ (t := t) (nl := nl) (li := li);rw [cO];have hM := dB (n := na) (f := fun i => exC (ar i)) fun i _ => eU (ar i)
  generalize dH na (fun i => exC (ar i)) = M at *;have ZC := fun (h2 : t ≤ 256) (hb : jL t nl li t t = true) => DY x t ns [.v (.int .i64 k), .v (.string s), .v (.int .i64 n), .t nl 1 (tab nl fun i => .v (.int .i64 (li i))), .t na 5 M] 217 li ht h2
    (fun h hh v hv => OX k s n nl li (.t na 5 M) (.t hM) hh v (by rw [(hB hb).1]; exact hv) hn) (fun v hv => (ZB ((hB hb).2 v hv)).1) (fun v hv => by have := (ZB ((hB hb).2 v hv)).2; omega)
  clear hB;generalize hbb : jL t nl li t t = b at *;clear hbb;generalize Ad t li = dg at *;generalize EU x t = fb at *;generalize D8 x t nl li = R at *;unfold hT tyC at *;simp only [List.cons_append, List.nil_append] at ZC;obtain ⟨c, hc⟩ : ∃ c : Nat, c = if b = true then 0 else 1 := ⟨_, rfl⟩
  refine Wv.HTP.by 36 [1, 0, 4, 6] [(2, 12), (1000000, 2), (4000002, c)] [.tmp 6] Tryz.func170 rfl rfl rfl ?base ?_
  case base => rfl
  cases h1 : decide (x.r = 1) <;> cases h2 : decide ((t : Int) ≤ 256);all_goals
    rw [h1, h2] at hF;refine Wv.W2 h1 h2 ?_;first
    | (have hfb : fb = false := hF
       subst hfb;refine aJ (fst := []) (cap := []) (bD _ 231) (by rintro av h' ⟨hb, _⟩; cases hb) ?_;rintro av h' ⟨_, rfl, rfl⟩;refine Wv.W1 @bW ?_;exact ⟨231, hR, rfl⟩)
    | skip
  have hfb : fb = true := hF;subst hfb;have ZE : t ≤ 256 := by have := of_decide_eq_true h2; omega
  refine aJ (fst := []) (cap := []) (bD _ 231) ?_ (by rintro av h' ⟨hb, _⟩; cases hb);rintro av h' ⟨_, rfl, rfl⟩;cases b with
  | false =>
    have hc1 : c = 1 := hc;refine Wv.W ?_;refine dn (fst := []) (cap := []) (hZ rfl (.t 1 1 []) _) ?_ ?_
    · simp (disch:=first|exact Wv.D|fail) only [Wv.B, simprocAttr, hc1]
      exact ⟨11, _, _, rfl, rfl, rfl, rfl, rfl⟩
    · rintro av h' ⟨rfl, rfl⟩
      refine Wv.W1 @bW ?_;exact ⟨233, hR, rfl⟩
  | true =>
    have hc1 : c = 0 := hc;refine Wv.W ?_;refine dn (fst := []) (cap := []) (hY rfl _) ?_ (fun _ _ q => q.elim);refine Wv.W1 hc1 ?_;refine aC (fst := []) (cap := []) (ZC ZE rfl) ?_;rintro av h' ⟨rfl, hh'⟩;refine Wv.W ?_;exact ⟨⟨dg, hR, rfl⟩, take2 hh'⟩
theorem O9 (x : Par) (t : Nat) (ns : Nms) (k : Int) (s : ByteArray) (n : Int) (nl : Nat) (li : Nat → Int) (na : Nat) (ar : Nat → Ex) (unk : Nat) (ht : 2 ≤ t) :
    je x t ns 171 (.mk k s n nl li na ar) unk (IY x t n) := by
  refine je.of ?_;have hR : IY x t n = if EU x t = true then (if IX t n = true then .ok (Ad t (xu n)) else .error 233) else .error 231 := rfl
  have hF : EU x t = (decide (x.r = 1) && decide ((t : Int) ≤ 256)) := rfl;have hB : IX t n = (decide (0 ≤ n) && decide (n ≤ (t : Int))) := rfl;rw [cO];have hM := dB (n := na) (f := fun i => exC (ar i)) fun i _ => eU (ar i)
  generalize dH na (fun i => exC (ar i)) = M at *;have ZC := fun (h2 : t ≤ 256) => DY x t ns [.v (.int .i64 k), .v (.string s), .v (.int .i64 n), .t nl 1 (tab nl fun i => .v (.int .i64 (li i))), .t na 5 M] 218 (xu n) ht h2
    (fun h hh v hv => UY k s n (.t nl 1 (tab nl fun i => .v (.int .i64 (li i)))) (.t na 5 M) hh v) (fun v hv => by unfold xu; split <;> omega) (fun v hv => by unfold xu; split <;> omega)
  generalize Ad t (xu n) = dg at *;generalize EU x t = fb at *;generalize IX t n = b at *;generalize IY x t n = R at *;unfold hT tyC at *;simp only [List.cons_append, List.nil_append] at ZC;obtain ⟨c, hc⟩ : ∃ c : Nat, c = if b = true then 0 else 1 := ⟨_, rfl⟩
  refine Wv.HTP.by 37 [1, 0, 4, 6] [(2, 13), (1000000, 2), (4000002, c)] [.tmp 6] Tryz.func171 rfl rfl rfl ?base ?_
  case base => rfl
  cases h1 : decide (x.r = 1) <;> cases h2 : decide ((t : Int) ≤ 256);all_goals
    rw [h1, h2] at hF;refine Wv.W2 h1 h2 ?_;first
    | (have hfb : fb = false := hF
       subst hfb;refine aJ (fst := []) (cap := []) (bD _ 231) (by rintro av h' ⟨hb, _⟩; cases hb) ?_;rintro av h' ⟨_, rfl, rfl⟩;refine Wv.W1 @bW ?_;exact ⟨231, hR, rfl⟩)
    | skip
  have hfb : fb = true := hF;subst hfb;have ZE : t ≤ 256 := by have := of_decide_eq_true h2; omega
  refine aJ (fst := []) (cap := []) (bD _ 231) ?_ (by rintro av h' ⟨hb, _⟩; cases hb);rintro av h' ⟨_, rfl, rfl⟩;cases h3 : decide (0 ≤ n) <;> cases h4 : decide (n ≤ (t : Int));all_goals
    rw [h3, h4] at hB;refine Wv.W2 h3 h4 ?_;first
    | (have hbt : b = true := hB
       subst hbt;have hc1 : c = 0 := hc;refine dn (fst := []) (cap := []) (vk 233) ?_ (fun _ _ q => q.elim);refine Wv.W1 hc1 ?_;refine aC (fst := []) (cap := []) (ZC ZE) ?_;rintro av h' ⟨rfl, hh'⟩;refine Wv.W ?_;exact ⟨⟨dg, hR, rfl⟩, take2 hh'⟩)
    | (have hbt : b = false := hB
       subst hbt;have hc1 : c = 1 := hc;refine dn (fst := []) (cap := []) (tK 233 (.t 1 1 [])) ?_ ?_
       · simp (disch:=first|exact Wv.D|fail) only [Wv.B, simprocAttr, hc1]
         exact ⟨12, _, _, rfl, rfl, rfl, rfl, rfl⟩
       · rintro av h' ⟨rfl, rfl⟩
         refine Wv.W1 @bW ?_;exact ⟨233, hR, rfl⟩)
def ruA (x:Par) (t:Nat):Ex→Nat→Except Int Nat
 | .nil,_=> .ok 0
 | .mk k s n nl li na ar,unk=>
  if k=2 then (if ny t n=true then .ok 0 else .error 233)
  else if k=3 then (if jL t nl li 0 x.n=true then .ok 0 else .error 233)
  else if k=7 then .ok (if unk<2 then 0 else 1)
  else if k=8 then (if Lj x n=true then .ok 0 else .error 233)
  else if k=10 then (if F6 x nl li=true then .ok 0 else .error 233)
  else if k=14 then (if UK n=true then .ok (dO n) else .error 233)
  else if k=11 then D8 x t nl li
  else if k=13 then IY x t n
  else if k=12 then (if x.r=1 then .ok (dO ((t:Int) - 1)) else .error 231)
  else .ok 0
def ksA (e:Ex):Prop:=True
theorem ZF: ∀ (e:Ex),okE e→aev ksA e:=by
 intro e;induction e with
 | nil=>intro h;exact h.elim
 | mk k s n nl li na ar ih=>exact fun h=>⟨trivial,fun i hi=>ih i (h.2.2.2 i hi)⟩
theorem Gp {k:Int} {s:ByteArray} {n:Int} {nl:Nat} {li:Nat→Int} {na:Nat} {ar:Nat→Ex} (h:aW (.mk k s n nl li na ar)=true): ∀ i,i<nl→inB (li i)=true:=by
 unfold aW at h;simp only [Bool.and_eq_true,Bool.not_eq_true'] at h;have h8:=h.2.2.2.2.2.2.2.1;intro i hi;unfold aG at h8;have:=List.any_eq_false.1 h8 i (List.mem_range.2 hi);simpa using this
theorem QL (t:Nat) (f:Nat→Int):Ad t f≤64:=xq _
theorem ZG (x:Par) (t:Nat) (ns:Nms) (ht:2≤t) (ht':t≤4611686018427387904) (hN:0≤x.n) (hN':x.n≤4611686018427387904):IC x t ns (ruA x t) ksA:=by
 intro e unk _ ho hf hu;obtain ⟨k,s,n,nl,li,na,ar,rfl⟩:=kG ho;have hin:=QK hf;have hli:=Gp hf;have hnl:nl≤140737488351232:=ho.2.1;obtain ⟨⟨hk1,hk2⟩,_⟩:=gq hf;have hk:k=1∨k=2∨k=3∨k=4∨k=5∨k=6∨k=7∨k=8∨k=9∨k=10∨k=11∨k=12∨k=13∨k=14∨k=15:=by omega
 have z: ∀ {b:Bool} {v:Nat} {er:Int} (m:Nat),v≤64→(if b=true then Except.ok v else .error er)=(Except.ok m:Except Int Nat)→m≤4294967296:=fun {b v er} m hv h=>by
  split at h
  ·injection h with h;omega
  ·cases h
 rcases hk with rfl | rfl | rfl | rfl | rfl | rfl | rfl | rfl | rfl | rfl | rfl | rfl | rfl | rfl | rfl
 ·exact ⟨fun m h=>by injection h with h;subst h;exact Nat.zero_le _,rfl⟩
 ·exact ⟨fun m h=>z m (Nat.zero_le _) h,Iz x t ns 2 s n nl li na ar unk hin (by omega) (by omega)⟩
 ·exact ⟨fun m h=>z m (Nat.zero_le _) h,IE x t ns 3 s n nl li na ar unk hnl hli (by omega) (by omega)⟩
 ·exact ⟨fun m h=>by injection h with h;subst h;exact Nat.zero_le _,rfl⟩
 ·exact ⟨fun m h=>by injection h with h;subst h;exact Nat.zero_le _,rfl⟩
 ·exact ⟨fun m h=>by injection h with h;subst h;exact Nat.zero_le _,rfl⟩
 ·refine ⟨fun m h=>?_,ES x t ns _ ho unk⟩;have h':(Except.ok (if unk<2 then 0 else 1):Except Int Nat)= .ok m:=h;injection h' with h';subst h';split<;>omega
 ·exact ⟨fun m h=>z m (Nat.zero_le _) h,UO x t ns 8 s n nl li na ar unk hN hN'⟩
 ·exact ⟨fun m h=>by injection h with h;subst h;exact Nat.zero_le _,rfl⟩
 ·exact ⟨fun m h=>z m (Nat.zero_le _) h,OJ x t ns 10 s n nl li na ar unk hnl⟩
 ·refine ⟨fun m h=>?_,LW x t ns 11 s n nl li na ar unk hnl hli ht (by omega)⟩;have h':D8 x t nl li= .ok m:=h;unfold D8 at h';split at h'
  ·exact z m (QL _ _) h'
  ·cases h'
 ·refine ⟨fun m h=>?_,Ll x t ns 12 s n nl li na ar unk (by omega) (by omega)⟩;have h':(if x.r=1 then Except.ok (dO ((t:Int) - 1)) else .error 231)=(.ok m:Except Int Nat):=h;split at h'
  ·injection h' with h';subst h';exact Nat.le_trans (xq _) (by omega)
  ·cases h'
 ·refine ⟨fun m h=>?_,O9 x t ns 13 s n nl li na ar unk ht⟩;have h':IY x t n= .ok m:=h;unfold IY at h';split at h'
  ·exact z m (QL _ _) h'
  ·cases h'
 ·exact ⟨fun m h=>z m (xq _) h,Lc x t ns 14 s n nl li na ar unk⟩
 ·exact ⟨fun m h=>by injection h with h;subst h;exact Nat.zero_le _,rfl⟩
end
end Go.Proofs.YtljfgdlgmdcmfaaGreat
namespace Go.Proofs.YtljfgdlgmdcmfaaGreat.Wv
section
open Go.RowKit
inductive XR where
 | ret (a:AV) (h:Hp)
 | pan (a:AV) (h:Hp)
abbrev gY:=FuncId→List AV→Hp→Option XR
def jC (P:Program) (c:gY):Prop:= ∀ f args h r,c f args h=some r→HTP P f args h (fun a h'=>r= .ret a h') (fun a h'=>r= .pan a h')
def xRC (P:Program) (c:Call) (E:Operand→AV) (h:Hp):Option AV:=match c.callee with
 | .builtin .len=>match c.args.size,c.argTypes[0]? with
  | 1,some T=>(EM P h T (E (c.args.getD 0 (.const undef)))).map fun (n:Nat)=> .v (.int .i64 n)
  | _,_=>none
 | .builtin .max=>mmA true (c.args.toList.map E)
 | .builtin .min=>mmA false (c.args.toList.map E)
 | _=>none
def xR (P:Program) (o:Oper) (E:Operand→AV) (h:Hp):Option AV:=match o.op with
 | .move x=>some (E x)
 | .assign x=>some (E x)
 | .pick c a b=>match E c with
  | .v (.bool true)=>some (E a)
  | .v (.bool false)=>some (E b)
  | _=>none
 | .build T parts=>(oq P h T (parts.toList.map fun p=>(p.1,E p.2))).map .g
 | .load T a=>match szP P T with
  | some 0=>none
  | _=>qF P h T (E a)
 | .nilCheck x=>match mg h (E x) with
  | some false=>some (E x)
  | _=>none
 | .binOp op T x y _=>(qK P h op T (E x) (E y)).map .v
 | .unOp op _ x=>(unA op (E x)).map .v
 | .convert s d x=>(iI P h s d (E x)).map .v
 | .slice T x lo hi mx=>if mx.isNone=true then sliceT P h T (E x) (lo.map E) (hi.map E) else none
 | .fieldAddr S x f=>uP P h S (E x) f
 | .field S x f=>uS P S (E x) f
 | .indexAddr T x i=>(qC (E i)).bind fun z=>Ht P h T (E x) z
 | .index T x i=>(qC (E i)).bind fun z=>mD P T (E x) z
 | .extract x i=>FB (E x) i
 | .makeFunc fn first cap=>some (.fn fn (first.toList.map E) (cap.toList.map E))
 | .call c=>xRC P c E h
 | .makeInterface T x=>if bY P T=true then some (.ifc T (E x)) else none
 | .lookup T x k ok=>nI P h T (E x) (E k) ok
 | _=>none
theorem Pg {P:Program} {c:Call} {E:Operand→AV} {h:Hp} {K:AV→Prop} {v:AV} (hx:xRC P c E h=some v) (hK:K v):uD P c E h K:=by
 unfold xRC at hx;unfold uD;split at hx
 ·next hc=>
  simp only [hc];split at hx
  ·next T h1 h2=>
   obtain ⟨n,e1,rfl⟩:=Option.map_eq_some_iff.1 hx;have:c.argTypes.getD 0 0=T:=by simp [Array.getD_eq_getD_getElem?,h2]
   exact ⟨h1,n,by rw [this];exact e1,by rw [this];exact h2,hK⟩
  ·cases hx
 ·next hc=>simp only [hc];exact ⟨_,hx,hK⟩
 ·next hc=>simp only [hc];exact ⟨_,hx,hK⟩
 ·cases hx
theorem afU {P:Program} {o:Oper} {E:Operand→AV} {h:Hp} {K:AV→Prop} {v:AV} (hx:xR P o E h=some v) (hK:K v):rOp P o E h K:=by
 unfold xR at hx;unfold rOp;split at hx
 ·next ho=>simp only [ho];injection hx with hx;rw [hx];exact hK
 ·next ho=>simp only [ho];injection hx with hx;rw [hx];exact hK
 ·next ho=>
  simp only [ho];split at hx
  ·next hc=>injection hx with hx;exact ⟨true,hc,by rw [cond_true,hx];exact hK⟩
  ·next hc=>injection hx with hx;exact ⟨false,hc,by rw [cond_false,hx];exact hK⟩
  ·cases hx
 ·next ho=>simp only [ho];obtain ⟨l,e1,rfl⟩:=Option.map_eq_some_iff.1 hx;exact ⟨l,e1,hK⟩
 ·next ho=>
  simp only [ho];split at hx
  ·cases hx
  ·next hz=>exact ⟨fun e=>hz e,v,hx,hK⟩
 ·next ho=>
  simp only [ho];split at hx
  ·next hc=>injection hx with hx;exact ⟨hc,by rw [hx];exact hK⟩
  ·cases hx
 ·next ho=>simp only [ho];obtain ⟨l,e1,rfl⟩:=Option.map_eq_some_iff.1 hx;exact ⟨l,e1,hK⟩
 ·next ho=>simp only [ho];obtain ⟨l,e1,rfl⟩:=Option.map_eq_some_iff.1 hx;exact ⟨l,e1,hK⟩
 ·next ho=>simp only [ho];obtain ⟨l,e1,rfl⟩:=Option.map_eq_some_iff.1 hx;exact ⟨l,e1,hK⟩
 ·next ho=>
  simp only [ho];split at hx
  ·next hc=>exact ⟨hc,v,hx,hK⟩
  ·cases hx
 ·next ho=>simp only [ho];exact ⟨v,hx,hK⟩
 ·next ho=>simp only [ho];exact ⟨v,hx,hK⟩
 ·next ho=>simp only [ho];obtain ⟨z,e1,e2⟩:=Option.bind_eq_some_iff.1 hx;exact ⟨z,v,e1,e2,hK⟩
 ·next ho=>simp only [ho];obtain ⟨z,e1,e2⟩:=Option.bind_eq_some_iff.1 hx;exact ⟨z,v,e1,e2,hK⟩
 ·next ho=>simp only [ho];exact ⟨v,hx,hK⟩
 ·next ho=>simp only [ho];injection hx with hx;rw [hx];exact hK
 ·next ho=>simp only [ho];exact Pg hx hK
 ·next ho=>
  simp only [ho];split at hx
  ·next hc=>injection hx with hx;exact ⟨hc,by rw [hx];exact hK⟩
  ·cases hx
 ·next ho=>simp only [ho];exact ⟨v,hx,hK⟩
 ·cases hx
mutual
def jM:AV→Bool
 | .v _=>true
 | .none=>true
 | .e0=>true
 | .t _ _ l=>iD l
 | .g l=>iD l
 | .tup l=>iD l
 | .tp l=>iD l
 | .fn _ a b=>iD a && iD b
 | .ifc _ a=>jM a
 | .own _ _=>false
 | .ptr _ _=>false
 | .ap _ _ _=>false
 | .mp _=>false
 | .tm _=>false
def iD:List AV→Bool
 | []=>true
 | a::r=>jM a && iD r
end
mutual
theorem nR: ∀ (a:AV),jM a=true→Clo a
 | .v _,_=> .v _
 | .none,_=> .none
 | .e0,_=> .e0
 | .t _ _ l,h=> .t (gQ l (by rw [jM] at h;exact h))
 | .g l,h=> .g (gQ l (by rw [jM] at h;exact h))
 | .tup l,h=> .tup (gQ l (by rw [jM] at h;exact h))
 | .tp l,h=> .tp (gQ l (by rw [jM] at h;exact h))
 | .fn _ a b,h=>by
  rw [jM,Bool.and_eq_true] at h;exact .fn (gQ a h.1) (gQ b h.2)
 | .ifc _ a,h=> .ifc (nR a (by rw [jM] at h;exact h))
 | .own _ _,h=>by rw [jM] at h;cases h
 | .ptr _ _,h=>by rw [jM] at h;cases h
 | .ap _ _ _,h=>by rw [jM] at h;cases h
 | .mp _,h=>by rw [jM] at h;cases h
 | .tm _,h=>by rw [jM] at h;cases h
theorem gQ: ∀ (l:List AV),iD l=true→ ∀ (a:AV),a∈l→Clo a
 | [],_=>fun a ha=>by cases ha
 | b::r,h=>by
  rw [iD,Bool.and_eq_true] at h;exact List.forall_mem_cons.2 ⟨nR b h.1,gQ r h.2⟩
end
mutual
def loB (m:Nat):AV→Bool
 | .own id _=>Nat.blt id m
 | .ptr id _=>Nat.blt id m
 | .ap id _ _=>Nat.blt id m
 | .mp id=>Nat.blt id m
 | .g l=>EW m l
 | .tup l=>EW m l
 | .fn _ a b=>EW m a && EW m b
 | .ifc _ a=>loB m a
 | .v _=>true
 | .none=>true
 | .e0=>true
 | .t _ _ l=>iD l
 | .tp l=>iD l
 | .tm _=>false
def EW (m:Nat):List AV→Bool
 | []=>true
 | a::r=>loB m a && EW m r
end
theorem yP {a b:Nat} (h:Nat.blt a b=true):a<b:=Nat.le_of_ble_eq_true h
mutual
theorem D9 (m:Nat): ∀ (a:AV),loB m a=true→lo m a
 | .own _ _,h=> .own (yP (by rw [loB] at h;exact h))
 | .ptr _ _,h=> .ptr (yP (by rw [loB] at h;exact h))
 | .ap _ _ _,h=> .ap (yP (by rw [loB] at h;exact h))
 | .mp _,h=> .mp (yP (by rw [loB] at h;exact h))
 | .g l,h=> .g (nS m l (by rw [loB] at h;exact h))
 | .tup l,h=> .tup (nS m l (by rw [loB] at h;exact h))
 | .fn _ a b,h=>by
  rw [loB,Bool.and_eq_true] at h;exact .fn (nS m a h.1) (nS m b h.2)
 | .ifc _ a,h=> .ifc (D9 m a (by rw [loB] at h;exact h))
 | .v _,_=> .clo (.v _)
 | .none,_=> .clo .none
 | .e0,_=> .clo .e0
 | .t _ _ l,h=> .clo (.t (gQ l (by rw [loB] at h;exact h)))
 | .tp l,h=> .clo (.tp (gQ l (by rw [loB] at h;exact h)))
 | .tm l,h=>by rw [loB] at h;cases h
theorem nS (m:Nat): ∀ (l:List AV),EW m l=true→ ∀ (a:AV),a∈l→lo m a
 | [],_=>fun a ha=>by cases ha
 | b::r,h=>by
  rw [EW,Bool.and_eq_true] at h;exact List.forall_mem_cons.2 ⟨D9 m b h.1,nS m r h.2⟩
end
def uw (m:Nat):Hp→Bool
 | []=>true
 | none::r=>uw m r
 | some (.blk cells)::r=>EW m cells && uw m r
 | some (.arr _ _ cells _)::r=>EW m cells && uw m r
 | some (.map es)::r=>EW m (es.map (·.2)) && uw m r
theorem nT (m:Nat): ∀ (h:Hp),uw m h=true→loH m h
 | [],_=>trivial
 | none::r,h=>nT m r h
 | some (.blk cells)::r,h=>by
  simp only [uw,Bool.and_eq_true] at h;exact ⟨nS m cells h.1,nT m r h.2⟩
 | some (.arr _ _ cells _)::r,h=>by
  simp only [uw,Bool.and_eq_true] at h;exact ⟨nS m cells h.1,nT m r h.2⟩
 | some (.map es)::r,h=>by
  simp only [uw,Bool.and_eq_true] at h;exact ⟨nS m _ h.1,nT m r h.2⟩
def lD:Nat→Hp→AV→AV
 | 0,_,a=>a
 | k+1,h, .own id n=>match h[id]? with
  | some (some (.arr _ s cells fz))=>bif Nat.beq cells.length (n*s) && Nat.beq fz cells.length then .t n s (cells.map (lD k h)) else .own id n
  | _=> .own id n
 | k+1,h, .g l=> .g (l.map (lD k h))
 | k+1,h, .tup l=> .tup (l.map (lD k h))
 | k+1,h, .ifc T a=> .ifc T (lD k h a)
 | _+1,_,a=>a
theorem gZ {X:Cx} {f:AV→AV} (hf: ∀ a v,Rep X a v→Rep X (f a) v) {l:List AV} {vs:List Value} (hr: ∀ (i:Nat) (a:AV) (x:Value),l[i]? =some a→vs[i]? =some x→Rep X a x): ∀ (i:Nat) (a:AV) (x:Value),(l.map f)[i]? =some a→vs[i]? =some x→Rep X a x:=by
 intro i a x h1 h2;rw [List.getElem?_map] at h1;obtain ⟨b,h3,rfl⟩:=Option.map_eq_some_iff.1 h1;exact hf b x (hr i b x h3 h2)
theorem LX {X:Cx} (hX:Ok X): ∀ (k:Nat) (a:AV) (v:Value),Rep X a v→Rep X (lD k X.h a) v
 | 0,a,v,hr=>hr
 | k+1,a,v,hr=>by
  have ih:=LX hX k;cases a with
  | own id n=>
   simp only [lD];split
   ·next T s cells fz hid=>
    cases hb:(Nat.beq cells.length (n*s) && Nat.beq fz cells.length) with
    | false=>exact hr
    | true=>
     rw [Bool.and_eq_true] at hb;have e1:=Nat.eq_of_beq_eq_true hb.1;have e2:=Nat.eq_of_beq_eq_true hb.2;subst e2;have h1:=Rep.frozen hX hid (fun b hb o ho=>hX.CW id T s cells b hid hb o ho) e1 hr;cases h1 with
     | t hl hc hn hcap hp hrr=>exact .t (by rw [List.length_map];exact hl) (by rw [List.length_map];exact hc) hn hcap hp (gZ ih hrr)
   ·exact hr
  | g l=>
   cases hr with
   | g hc hrr=>exact .g (by rw [List.length_map];exact hc) (gZ ih hrr)
  | tup l=>
   cases hr with
   | tup hc hrr=>exact .tup (by rw [List.length_map];exact hc) (gZ ih hrr)
  | ifc T a=>
   cases hr with
   | ifc h=>exact .ifc (ih _ _ h)
  | _=>exact hr
theorem Gq {X:Cx} (hX:Ok X) (k:Nat) {l:List AV} {vs:List Value} (hr:fJ X l vs):fJ X (l.map (lD k X.h)) vs:=⟨by rw [List.length_map];exact hr.1,gZ (LX hX k) hr.2⟩
variable {P:Program}{args:List AV}{f:FuncId}{h:Hp}{p:AV→Hp→Prop}
theorem HTP.pre {args1:List AV} {h1:Hp} {R:AV→Hp→Prop} (hp: ∀ (X:Cx) (vs:List Value),Ok X→X.h=h→fJ X args vs→ ∃ Y,Y.w=X.w∧Step X Y∧Ok Y∧Y.h=h1∧fJ Y args1 vs) (T:HTP P f args1 h1 R p):HTP P f args h R p:=by
 refine ⟨T.1,fun X vs hX hh hr=>?_⟩;obtain ⟨Y,y1,y2,y3,y4,y5⟩:=hp X vs hX hh hr;rw [←y1];refine (T.2 Y vs y3 y4 y5).mono ?_;rintro e w' ⟨v,Z,av,z1,z2,z3,z4,z5⟩;exact ⟨v,Z,av,z1,y2.trans hX z2,z3,z4,z5⟩
theorem HTP.view {k:Nat} {R:AV→Hp→Prop} (T:HTP P f (args.map (lD k h)) h R p):HTP P f args h R p:=
 HTP.pre (fun X vs hX hh hr=>⟨X,rfl,Step.refl X,hX,hh,hh▸Gq hX k hr⟩) T
abbrev EX:=FuncId→List AV→Option AV
def Gs (P:Program) (o:EX):Prop:= ∀ f args a,o f args=some a→TC P f args a∧Clo a
def aeD (c:gY) (f:FuncId) (args:List AV) (h:Hp):Option XR:=match c f args h with
 | some (.ret a h')=>bif loB h.length a && uw h.length (h'.take h.length) then some (.ret a (h'.take h.length)) else some (.ret a h')
 | some (.pan a h')=>bif loB h.length a && uw h.length (h'.take h.length) then some (.pan a (h'.take h.length)) else some (.pan a h')
 | none=>none
def amS (r:Option XR):Option XR:=match r with
 | some (.ret a h)=>bif jM a then none else some (.ret a h)
 | r=>r
def aeE (c:gY) (f:FuncId) (args:List AV) (h:Hp):Option XR:=match c f args [] with
 | some (.ret a _)=>bif jM a then some (.ret a h) else amS (aeD c f args h)
 | some (.pan a _)=>bif jM a then some (.pan a h) else none
 | none=>none
def ZH   (o : EX  ) (f : FuncId) (args : List AV) (h : Hp) (r : Option XR) : Option XR := bif iD    args then match o f args with
    | some a => some (.ret a h)
    | none => r
  else r
def U2 (o:EX) (c:gY) (f:FuncId) (args:List AV) (h:Hp):Option XR:=
 bif iD args then aeE c f args h
 else bif iD (args.map (lD 4 h)) then aeE c f (args.map (lD 4 h)) h
 else ZH o f (args.map (lD 4 (h.map froze))) (h.map froze) (aeD c f args h)
theorem yQ {R p:AV→Prop} (T:HTP P f args [] (fun a _=>R a) (fun a _=>p a)) (ha: ∀ (a:AV),a∈args→Clo a) (hR: ∀ a,R a→Clo a) (hp: ∀ a,p a→Clo a) (h:Hp):HTP P f args h (fun a h'=>R a∧h'=h) (fun a h'=>p a∧h'=h):=by
 have T1:RD P f args [] R p:=RD.of (T.mono (fun a h' q=>⟨q,rfl⟩) (fun a h' q=>⟨q,rfl⟩)) (fun r q=> .clo (hR r q)) (fun r q=> .clo (hp r q)) trivial;exact RD.frame (σ:=id) T1 ⟨fun i j hi=>absurd hi (Nat.not_lt_zero i),fun i o ho=>by simp at ho⟩ (RnL.clo ha) hR hp
def XR.Of (P:Program) (f:FuncId) (args:List AV) (h:Hp) (r:XR):Prop:=HTP P f args h (fun a h'=>r= .ret a h') (fun a h'=>r= .pan a h')
theorem AY {c:gY} (hc:jC P c):jC P (aeD c):=by
 intro f args h r hx;unfold aeD at hx;split at hx
 ·next a h' hq=>
  have T:=hc f args h _ hq;cases h2:(loB h.length a && uw h.length (h'.take h.length)) with
  | false=>rw [h2] at hx;injection hx with hx;subst hx;exact T
  | true=>
   rw [h2,cond_true] at hx;injection hx with hx;subst hx;rw [Bool.and_eq_true] at h2;refine (T.cut (fun b k e=>by injection e with e1 e2;subst e1 e2;exact ⟨D9 _ _ h2.1,nT _ _ h2.2⟩) (fun b k e=>by cases e)).mono ?_ ?_
   ·rintro b k ⟨k',e,rfl⟩;injection e with e1 e2;subst e1 e2;rfl
   ·rintro b k ⟨k',e,rfl⟩;cases e
 ·next a h' hq=>
  have T:=hc f args h _ hq;cases h2:(loB h.length a && uw h.length (h'.take h.length)) with
  | false=>rw [h2] at hx;injection hx with hx;subst hx;exact T
  | true=>
   rw [h2,cond_true] at hx;injection hx with hx;subst hx;rw [Bool.and_eq_true] at h2;refine (T.cut (fun b k e=>by cases e) (fun b k e=>by injection e with e1 e2;subst e1 e2;exact ⟨D9 _ _ h2.1,nT _ _ h2.2⟩)).mono ?_ ?_
   ·rintro b k ⟨k',e,rfl⟩;cases e
   ·rintro b k ⟨k',e,rfl⟩;injection e with e1 e2;subst e1 e2;rfl
 ·cases hx
variable {r:XR}
theorem I4 {c:gY} (hc:jC P c)     (h1:iD args=true) (hx:aeE c f args h=some r):r.Of P f args h∧ ∀ a h',r= .ret a h'→jM a=true→h'=h:=by
 unfold aeE at hx;have hcl:=gQ args h1;split at hx
 ·next a h' hq=>
  cases h2:jM a with
  | false=>
   rw [h2,cond_false] at hx;unfold amS at hx;split at hx
   ·next b k hb=>
    cases h3:jM b with
    | true=>rw [h3] at hx;cases hx
    | false=>
     rw [h3,cond_false] at hx;injection hx with hx;subst hx;exact ⟨AY hc f args h _ hb,fun b2 k2 e hq=>by injection e with e1 e2;subst e1;rw [h3] at hq;cases hq⟩
   ·next hno=>
    refine ⟨AY hc f args h r hx,fun b2 k2 e hq=>?_⟩;subst e;exact absurd hx (hno b2 k2)
  | true=>
   rw [h2,cond_true] at hx;injection hx with hx;subst hx;refine ⟨(yQ (R:=fun b=>b=a) (p:=fun _=>False) ((hc f args [] _ hq).mono (fun b k e=>by injection e with e1 e2;exact e1.symm) (fun b k e=>by cases e)) hcl (fun b e=>by rw [e];exact nR a h2) (fun b e=>e.elim) h).mono ?_ ?_,fun b k e _=>by injection e with e1 e2;exact e2.symm⟩
   ·rintro b k ⟨rfl,rfl⟩;rfl
   ·rintro b k ⟨q,_⟩;exact q.elim
 ·next a h' hq=>
  cases h2:jM a with
  | false=>rw [h2] at hx;cases hx
  | true=>
   rw [h2,cond_true] at hx;injection hx with hx;subst hx;refine ⟨(yQ (R:=fun _=>False) (p:=fun b=>b=a) ((hc f args [] _ hq).mono (fun b k e=>by cases e) (fun b k e=>by injection e with e1 e2;exact e1.symm)) hcl (fun b e=>e.elim) (fun b e=>by rw [e];exact nR a h2) h).mono ?_ ?_,fun b k e _=>by cases e⟩
   ·rintro b k ⟨q,_⟩;exact q.elim
   ·rintro b k ⟨rfl,rfl⟩;rfl
 ·cases hx
theorem QM {o:EX} {c:gY} (ho:Gs P o) (hc:jC P c):jC P (U2 o c):=by
 intro f args h r hx;unfold U2 at hx;cases h1:iD args with
 | true=>rw [h1,cond_true] at hx;exact (I4 hc h1 hx).1
 | false=>
  rw [h1,cond_false] at hx;cases h2:iD (args.map (lD 4 h)) with
  | true=>rw [h2,cond_true] at hx;exact HTP.view (I4 hc h2 hx).1
  | false=>
   rw [h2,cond_false] at hx;unfold ZH at hx;cases h3:iD (args.map (lD 4 (h.map froze))) with
   | false=>rw [h3] at hx;exact AY hc f args h r hx
   | true=>
    rw [h3,cond_true] at hx;split at hx
    ·next a hq=>
     injection hx with hx;subst hx;obtain ⟨T,ha⟩:=ho f _ a hq;refine HTP.pre (h1:=h.map froze) (fun X vs hX hh hr=>?_) (((T.ht (gQ _ h3) ha (h.map froze)).toP fun _ _=>False).mono (fun b k e=>by rw [e.1,e.2]) (fun b k e=>e.elim));obtain ⟨Y,y1,y2,y3,y4⟩:=lg 0 hX;rw [oV,hh] at y4;refine ⟨Y,y1,y2,y3,y4,?_⟩;rw [←y4];exact Gq y3 4 ⟨hr.1,fun i a x q1 q2=>(hr.2 i a x q1 q2).mono y2⟩
    ·exact AY hc f args h r hx
def xWC (P:Program) (cl:gY) (c:Call) (E:Operand→AV) (h:Hp):Option XR:=match c.callee with
 | .builtin .append=>match c.args.size,c.argTypes.size with
  | 2,2=>(nJ P h (c.argTypes.getD 0 0) (c.argTypes.getD 1 0) (E (c.args.getD 0 (.const undef))) (E (c.args.getD 1 (.const undef)))).map fun p=> .ret p.1 p.2
  | _,_=>none
 | .builtin .copy=>match c.args.size,c.argTypes.size with
  | 2,2=>(zD P h (c.argTypes.getD 0 0) (c.argTypes.getD 1 0) (E (c.args.getD 0 (.const undef))) (E (c.args.getD 1 (.const undef)))).map fun p=> .ret p.1 p.2
  | _,_=>none
 | .value f=>match E f with
  | .fn (.func fid) fst cap=>cl fid (fst++c.args.toList.map E++cap) h
  | _=>none
 | _=>(xRC P c E h).map fun a=> .ret a h
def xW (P:Program) (cl:gY) (o:Oper) (E:Operand→AV) (h:Hp):Option XR:=match o.op with
 | .alloc T=>(aA P T).map fun z=> .ret (.ptr h.length 0) (h++[some (.blk (fV z))])
 | .box T x=>(cellsA h (E x)).map fun l=> .ret (.ptr h.length 0) (h++[some (.blk l)])
 | .buildSlice T len parts=>(zZ P h T len (parts.toList.map fun p=>(p.1,E p.2))).map fun q=> .ret (.own h.length len) (h++[some (.arr q.1 q.2.1 q.2.2 0)])
 | .store T a x=>(uO P h T (E a) (E x)).map fun h'=> .ret .none h'
 | .makeSlice T l c=>match qC (E l),qC (E c) with
  | some zl,some zc=>(wo P T zl zc).map fun q=> .ret (.own h.length zl.toNat) (h++[some (.arr q.1 q.2.1 q.2.2 0)])
  | _,_=>none
 | .slice T x lo hi mx=>if mx.isNone=true then (iG P h T (E x) (lo.map E) (hi.map E)).map fun p=> .ret p.1 p.2 else none
 | .convert s d x=>(cvA P h s d (E x)).map fun r=> .ret r h
 | .call c=>xWC P cl c E h
 | .makeMap _ r=>if r.isNone=true then some (.ret (.mp h.length) (h++[some (.map [])])) else none
 | .mapUpdate T m k x=>(kV P h T (E m) (E k) (E x)).map fun h'=> .ret .none h'
 | .insert T m k x=>(kV P h T (E m) (E k) (E x)).map fun h'=> .ret .none h'
 | .panic x=>match E x with
  | .ifc T a=>some (.pan (.ifc T a) h)
  | _=>none
 | _=>(xR P o E h).map fun a=> .ret a h
def XR.sat (r:XR) (K p:AV→Hp→Prop):Prop:=match r with
 | .ret a h=>K a h
 | .pan a h=>p a h
theorem ajb {cl:gY} (hcl:jC P cl) {c:Call} {E:Operand→AV}  {K:AV→Hp→Prop}  (hx:xWC P cl c E h=some r) (hK:r.sat K p):CG P p c E h K:=by
 unfold xWC at hx;unfold CG;split at hx
 ·next hc=>
  simp only [hc];split at hx
  ·next h1 h2=>obtain ⟨q,e1,rfl⟩:=Option.map_eq_some_iff.1 hx;exact ⟨h1,h2,q.1,q.2,e1,hK⟩
  ·cases hx
 ·next hc=>
  simp only [hc];split at hx
  ·next h1 h2=>obtain ⟨q,e1,rfl⟩:=Option.map_eq_some_iff.1 hx;exact ⟨h1,h2,q.1,q.2,e1,hK⟩
  ·cases hx
 ·next f hc=>
  simp only [hc];split at hx
  ·next fid fst cap he=>
   refine ⟨fid,fst,cap,he,(hcl _ _ _ _ hx).mono ?_ ?_⟩
   ·rintro a h' rfl;exact hK
   ·rintro a h' rfl;exact hK
  ·cases hx
 ·obtain ⟨a,e1,rfl⟩:=Option.map_eq_some_iff.1 hx;split<;>first | exact Pg e1 hK | (exfalso;simp_all;done)
theorem afV {cl:gY} (hcl:jC P cl) {o:Oper} {E:Operand→AV}  {K:AV→Hp→Prop}  (hx:xW P cl o E h=some r) (hK:r.sat K p):wOp P p o E h K:=by
 unfold xW at hx;unfold wOp;split at hx
 ·next ho=>simp only [ho];obtain ⟨z,e1,rfl⟩:=Option.map_eq_some_iff.1 hx;exact ⟨z,e1,hK⟩
 ·next ho=>simp only [ho];obtain ⟨z,e1,rfl⟩:=Option.map_eq_some_iff.1 hx;exact ⟨z,e1,hK⟩
 ·next ho=>simp only [ho];obtain ⟨z,e1,rfl⟩:=Option.map_eq_some_iff.1 hx;exact ⟨_,_,_,e1,hK⟩
 ·next ho=>simp only [ho];obtain ⟨z,e1,rfl⟩:=Option.map_eq_some_iff.1 hx;exact ⟨z,e1,hK⟩
 ·next ho=>
  simp only [ho];split at hx
  ·next zl zc h1 h2=>obtain ⟨z,e1,rfl⟩:=Option.map_eq_some_iff.1 hx;exact ⟨zl,zc,_,_,_,h1,h2,e1,hK⟩
  ·cases hx
 ·next ho=>
  simp only [ho];split at hx
  ·next hc=>obtain ⟨z,e1,rfl⟩:=Option.map_eq_some_iff.1 hx;exact ⟨hc,_,_,e1,hK⟩
  ·cases hx
 ·next ho=>simp only [ho];obtain ⟨z,e1,rfl⟩:=Option.map_eq_some_iff.1 hx;exact ⟨z,e1,hK⟩
 ·next ho=>simp only [ho];exact ajb hcl hx hK
 ·next ho=>
  simp only [ho];split at hx
  ·next hc=>injection hx with hx;subst hx;exact ⟨hc,hK⟩
  ·cases hx
 ·next ho=>simp only [ho];obtain ⟨z,e1,rfl⟩:=Option.map_eq_some_iff.1 hx;exact ⟨z,e1,hK⟩
 ·next ho=>simp only [ho];obtain ⟨z,e1,rfl⟩:=Option.map_eq_some_iff.1 hx;exact ⟨z,e1,hK⟩
 ·next ho=>
  simp only [ho];split at hx
  ·next T a he=>injection hx with hx;subst hx;exact ⟨T,a,he,hK⟩
  ·cases hx
 ·obtain ⟨a,e1,rfl⟩:=Option.map_eq_some_iff.1 hx;split<;>first | exact afU e1 hK | (exfalso;simp_all;done) | (exfalso;simp_all;rename_i q _ _;exact q _ _ _ _ _ rfl rfl rfl rfl rfl) | (exfalso;simp_all;rename_i q _ _;exact q _ _ _ _ rfl rfl rfl rfl) | (exfalso;simp_all;rename_i q _;exact q _ _ _ _ rfl rfl rfl rfl) | (exfalso;simp_all;rename_i q _;exact q _ _ _ _ _ rfl rfl rfl rfl rfl)
end
section
open Go.RowKit
theorem Ea: ∀ {l:List Oper} {e e':Ev} {vs vs':List AV},(∀ o,o∈l→ ∃ d,o.dst=some d)→vs.length=l.length→vs'.length=l.length→gW e l vs=gW e' l vs'→e=e'∧vs=vs'
 | [],e,e',vs,vs',_,h1,h2,h=>by
  have e1:=List.eq_nil_of_length_eq_zero h1;have e2:=List.eq_nil_of_length_eq_zero h2;subst e1 e2;exact ⟨h,rfl⟩
 | o::r,e,e',v::vs,v'::vs',hd,h1,h2,h=>by
  obtain ⟨q1,q2⟩:=Ea (l:=r) (e:=bP e o.dst v) (e':=bP e' o.dst v') (fun o' ho=>hd o' (List.mem_cons_of_mem _ ho)) (by simpa using h1) (by simpa using h2) h;obtain ⟨d,hdd⟩:=hd o (List.mem_cons_self ..);rw [hdd] at q1;have q3:(d,v)::e=(d,v')::e':=q1;injection q3 with q4 q5;injection q4 with _ q6;exact ⟨q5,by rw [q6,q2]⟩
 | o::r,e,e',[],_,_,h1,_,_=>by simp at h1
 | o::r,e,e',_::_,[],_,_,h2,_=>by simp at h2
section
variable (P:Program) (p₀:AV→Hp→Prop) (all hd1 hd2 tl:List Oper) (os:Oper) (av:AV) (e:Ev) (h0:Hp) (K:Ev→Hp→Prop)
def ZI (e2:Ev) (h1:Hp):Ev→List (Tmp × Value)→Prop:=fun e2' _=>e2'=e2∧ig P p₀ all tl e2 h1 K
def ZJ (e1 e2:Ev) (h1:Hp):Ev→List (Tmp × Value)→Prop:=fun e1' _=>e1'=e1∧dL P p₀ all h1 hd2 (bP e1 os.dst av) [] (ZI P p₀ all tl K e2 h1)
def QN (e1 e2:Ev):AV→Hp→Prop:=fun av' h1=>av'=av∧dL P p₀ all h1 hd1 e [] (ZJ P p₀ all hd2 tl os av K e1 e2 h1)
def ZK (e1:Ev):Ev→List (Tmp × Value)→Prop:=fun e2 _=>wOp P p₀ os (dK e1) h0 (QN P p₀ all hd1 hd2 tl os av e K e1 e2)
def QO:Ev→List (Tmp × Value)→Prop:=fun e1 _=>dL P p₀ all h0 hd2 (bP e1 os.dst av) [] (ZK P p₀ all hd1 hd2 tl os av e h0 K e1)
end
section
variable {P:Program} {p₀:AV→Hp→Prop} {all hd1 hd2 tl:List Oper} {os:Oper} {av:AV} {e:Ev} {h0:Hp} {K:Ev→Hp→Prop}
variable {al:List (Tmp × Value)}{e2:Ev}{h1:Hp}
theorem lV {e2':Ev}  :ZI P p₀ all tl K e2 h1 e2' al=(e2'=e2∧ig P p₀ all tl e2 h1 K):=rfl
variable {e1:Ev}
theorem lW {e1':Ev}  :ZJ P p₀ all hd2 tl os av K e1 e2 h1 e1' al=(e1'=e1∧dL P p₀ all h1 hd2 (bP e1 os.dst av) [] (ZI P p₀ all tl K e2 h1)):=rfl
theorem lX {av':AV}:QN P p₀ all hd1 hd2 tl os av e K e1 e2 av' h1=(av'=av∧dL P p₀ all h1 hd1 e [] (ZJ P p₀ all hd2 tl os av K e1 e2 h1)):=rfl
theorem lY :ZK P p₀ all hd1 hd2 tl os av e h0 K e1 e2 al=wOp P p₀ os (dK e1) h0 (QN P p₀ all hd1 hd2 tl os av e K e1 e2):=rfl
theorem lZ :QO P p₀ all hd1 hd2 tl os av e h0 K e1 al=dL P p₀ all h0 hd2 (bP e1 os.dst av) [] (ZK P p₀ all hd1 hd2 tl os av e h0 K e1):=rfl
end
variable {L:List Nat}{N id:Nat}{P:Program}{Q:dw}{e:Ev}{h:Hp}{ks:List (Nat × Nat)}{l:List Oper}{os:Oper}
theorem Eb (bU:P.follows .mixedOrders=true)         (k s m:Nat) (av:AV)  (hB:nK N k l.toArray=true) (hsk:Nat.blt s k=true) (hos:l[s]? =some os) (hg:os.guard=none) (hal:aB os=false) (hpu:isPure os=false) (hap: ∃ c,os.op= .call c∧(c.callee= .builtin .append∨ ∃ f,c.callee= .value f)) (hna:(l.take k).all (fun o=>!aB o)=true)
  (hw:dL P (fun av h'=>Q (.panic av) (ji l e) h') l (fP m h) (l.take s) e [] (QO P (fun av h'=>Q (.panic av) (ji l e) h') l (l.take s) ((l.take k).drop (s+1)) (l.drop k) os av e (fP m h) (fun e' h'=>Q .normal (lN L e') h'))):Ih P N ks id l.toArray Q e h:=by
 intro X a hn hh hX hE;subst hh;have hs:s<k:=Nat.lt_of_lt_of_le (Nat.lt_succ_self _) (Nat.le_of_ble_eq_true hsk);obtain ⟨Y,y1,y2,y3,y4⟩:=CY hX;obtain ⟨Z,z1,z2,z3,z4⟩:=lg m y4;have z5:=z3.CW;have S:Step X Z:=y3.trans hX z2;rw [y2] at z4;rw [←z4] at hw;have hok:=Kr hB;have hle:k≤l.length:=by have:=hok.le;simpa using this
 have hdst: ∀ o,o∈l.take k→ ∃ d,o.dst=some d:=fun o ho=>by
  obtain ⟨j,hj,e1⟩:=List.mem_iff_getElem.1 ho;have hj':j<k:=by simp at hj;omega
  refine hok.hdst j o ?_ hj';have:(l.take k)[j]? =some o:=by rw [List.getElem?_eq_getElem hj,e1]
  rw [List.getElem?_take,if_pos hj'] at this;simpa using this
 have hts:(l.take k).take s=l.take s:=by rw [List.take_take,Nat.min_eq_left (by omega)]
 have hsp:l.take k=l.take s++os::(l.take k).drop (s+1):=by
  have h1:(l.take k)[s]? =some os:=by rw [List.getElem?_take,if_pos hs];exact hos
  have h2:=List.take_append_drop s (l.take k);rw [hts] at h2;have h3:(l.take k).drop s=os::(l.take k).drop (s+1):=by
   have hlt:s<(l.take k).length:=by rw [List.length_take];omega
   rw [List.drop_eq_getElem_cons hlt];congr 1;rw [List.getElem?_eq_getElem hlt] at h1;injection h1
  rw [←h3];exact h2.symm
 generalize aok:l.take s=hd1 at*;generalize aoK:(l.take k).drop (s+1)=hd2 at*;have hl1:hd1.length=s:=by rw [←aok,List.length_take];omega
 have amT: ∀ o,o∈hd1→ ∃ d,o.dst=some d:=fun o ho=>hdst o (by rw [hsp];exact List.mem_append_left _ ho)
 have amU: ∀ o,o∈hd2→ ∃ d,o.dst=some d:=fun o ho=>hdst o (by rw [hsp];exact List.mem_append_right _ (List.mem_cons_of_mem _ ho))
 obtain ⟨v1,a1,a2,a3⟩:=kM _ _ _ hw;rw [lZ] at a3;obtain ⟨v2,b1,b2,b3⟩:=kM _ _ _ a3;rw [lY] at b3;have hlen:(v1++av::v2).length=k:=by
  have:=congrArg List.length hsp;rw [List.length_take,List.length_append,List.length_cons] at this;rw [List.length_append,List.length_cons,a1,b1];omega
 have htk: ∀ i,i≤s→(l.take k).take i=hd1.take i:=fun i hi=>by rw [hsp,List.take_append_of_le_length (by omega)]
 have hvk: ∀ i,i≤s→(v1++av::v2).take i=v1.take i:=fun i hi=>by rw [List.take_append_of_le_length (by omega)]
 have he1:gW e ((l.take k).take s) ((v1++av::v2).take s)=gW e hd1 v1:=by
  rw [htk s (Nat.le_refl _),hvk s (Nat.le_refl _),List.take_of_length_le (by omega),List.take_of_length_le (by omega)]
 have hel: ∀ j,gW e ((l.take k).take (s+1+j)) ((v1++av::v2).take (s+1+j))=gW (bP (gW e hd1 v1) os.dst av) (hd2.take j) (v2.take j):=fun j=>by
  have e3:(l.take k).take (s+1+j)=hd1++os::hd2.take j:=by
   rw [hsp,List.take_append,hl1,List.take_of_length_le (by omega),show s+1+j - s=j+1 by omega,List.take_succ_cons]
  have e4:(v1++av::v2).take (s+1+j)=v1++av::v2.take j:=by
   rw [List.take_append,a1,hl1,List.take_of_length_le (by omega),show s+1+j - s=j+1 by omega,List.take_succ_cons]
  rw [e3,e4,qP _ _ _ _ _ a1];rfl
 have hat: ∀ i o,i<k→l[i]? =some o→(l.take k)[i]? =some o:=fun i o hi ho=>by rw [List.getElem?_take,if_pos hi];exact ho
 have facts: ∀ (hx:Hp),(∀ (i:Nat) (o:Oper) (v:AV),hd1[i]? =some o→v1[i]? =some v→kE P (fun av h'=>Q (.panic av) (ji l e) h') l hx o (gW e (hd1.take i) (v1.take i)) v)→
   (∀ (i:Nat) (o:Oper) (v:AV),hd2[i]? =some o→v2[i]? =some v→kE P (fun av h'=>Q (.panic av) (ji l e) h') l hx o (gW (bP (gW e hd1 v1) os.dst av) (hd2.take i) (v2.take i)) v)→
   ∀ (i:Nat) (o:Oper) (v:AV),i<k→decide (i=s)=false→l.toArray[i]? =some o→(v1++av::v2)[i]? =some v→kE P (fun av h'=>Q (.panic av) (ji l e) h') l.toArray.toList hx o (gW e ((l.toArray.toList.take k).take i) ((v1++av::v2).take i)) v:=fun hx f1 f2 i o v hi his ho hv=>by
  have his:=of_decide_eq_false his;have ho:l[i]? =some o:=by simpa using ho
  have ht:=hat i o hi ho;rw [hsp] at ht;show kE P _ l hx o (gW e ((l.take k).take i) _) v;by_cases hlt:i<s
  ·rw [htk i (by omega),hvk i (by omega)];rw [List.getElem?_append_left (by omega)] at ht;rw [List.getElem?_append_left (by omega)] at hv;exact f1 i o v ht hv
  ·obtain ⟨j,rfl⟩: ∃ j,i=s+1+j:=⟨i - s - 1,by omega⟩
   rw [hel];rw [List.getElem?_append_right (by omega),hl1,show s+1+j - s=j+1 by omega,List.getElem?_cons_succ] at ht;rw [List.getElem?_append_right (by omega),a1,hl1,show s+1+j - s=j+1 by omega,List.getElem?_cons_succ] at hv;exact f2 j o v ht hv
 have hEd:eHd l.toArray k e (v1++av::v2)=gW (bP (gW e hd1 v1) os.dst av) hd2 v2:=by
  unfold eHd;show gW e (l.take k) _=_;rw [hsp,qP _ _ _ _ _ a1];rfl
 have D:Dat P (fun av h'=>Q (.panic av) (ji l e) h') N k l.toArray Z e (v1++av::v2) (fun i=>decide (i=s)):=⟨hok,z3,z5,hlen,fun i o hi ho=>by
  have hi:=of_decide_eq_true hi;subst hi;have ho:l[i]? =some o:=by simpa using ho
  rw [hos] at ho;injection ho with ho;subst ho;exact ⟨hal,hpu⟩,facts Z.h a2 b2⟩
 have hmono: ∀ {E:Operand→AV} {hx:Hp} {K1 K2:AV→Hp→Prop},(∀ a h',K1 a h'→K2 a h')→wOp P (fun av h'=>Q (.panic av) (ji l e) h') os E hx K1→wOp P (fun av h'=>Q (.panic av) (ji l e) h') os E hx K2:=by
  obtain ⟨c,hc,hcb⟩:=hap;intro E hx K1 K2 hk hq;unfold wOp at hq ⊢;rw [hc] at hq ⊢;rcases hcb with hcb | ⟨f,hcb⟩
  ·simp only [CG,hcb] at hq ⊢;obtain ⟨q1,q2,r,h',q3,q4⟩:=hq;exact ⟨q1,q2,r,h',q3,hk _ _ q4⟩
  ·simp only [CG,hcb] at hq ⊢;obtain ⟨fid,fst,cap,q1,q2⟩:=hq;exact ⟨fid,fst,cap,q1,q2.mono hk fun _ _ q=>q⟩
 have hEZ:=hE.mono S;have hL: ∀ j,(Array.replicate l.toArray.size false).getD j false=false:=fun j=>by
  simp only [Array.getD,Array.size_replicate,Array.getInternal_eq_getElem,Array.getElem_replicate];split<;>rfl
 refine wp_region_any bU ?_;rw [←y1, ←z1];refine FU (K:=fun e' h'=>Q .normal (lN L e') h') hs (by simpa using hos) hg D (fun i o hi ho=>?_) ?_ (fun V av v a' S2 hV hEV hr hp=>⟨v,av,V,_,rfl,rfl,(S.trans hX S2).toN hn,hV,hEV,hr,hp⟩) (fun V e' a' S2 hV hEV hq=>(aQ.intro ((S.trans hX S2).toN hn) hV (hEV.keep L)).1 hq) l.toArray.size _ a Z.w (hL s) (by simp) (fun m j hm=>absurd (hm.symm.trans (hL m)) (by decide)) ?_ ⟨Z,fun _=>0,rfl,?_⟩
 ·have ho:l[i]? =some o:=by simpa using ho
  have:=List.all_eq_true.1 hna o (List.mem_of_getElem? (hat i o hi ho));simpa using this
 ·show wOp P _ os (dK (gW e ((l.take k).take s) ((v1++av::v2).take s))) Z.h _;rw [he1];refine hmono (fun a' h1 hq=>?_) b3;rw [lX] at hq;obtain ⟨rfl,hq⟩:=hq;obtain ⟨w1,c1,c2,c3⟩:=kM _ _ _ hq;rw [lW] at c3;obtain ⟨c3,c4⟩:=c3;obtain ⟨_,rfl⟩:=Ea amT c1 a1 c3;obtain ⟨w2,d1,d2,d3⟩:=kM _ _ _ c4;rw [lV] at d3;obtain ⟨d3,d4⟩:=d3;obtain ⟨_,rfl⟩:=Ea amU d1 b1 d3;refine ⟨?_,facts h1 c2 d2,fun _=>?_⟩
  ·rw [List.getElem?_append_right (by omega),a1,hl1,Nat.sub_self];rfl
  ·rw [hEd];exact d4
 ·rw [Ig l.toArray.size hL]
 ·refine ⟨Step.refl Z,z3,z5,rfl,fun _ _=>rfl,fun j _=>hL j,hEZ.defers,hEZ.size,hEZ.del _,fun d=>?_,fun i o d z hi hl=>absurd (hl.symm.trans (hL i)) (by decide),fun i j o p _ _ _ hl=>absurd (hl.symm.trans (hL i)) (by decide)⟩;by_cases hp:abQ l.toArray k (fun j=>(Array.replicate l.toArray.size false).getD j false) d
  ·exact .inl hp
  ·right;right;have:aO (eHd l.toArray k e (v1++av::v2)) d=aO e d:=Au _ _ _ _ fun o ho he=>hp ?_
   ·rw [this];exact hEZ.rep d
   ·obtain ⟨j,hj,e1⟩:=List.mem_iff_getElem.1 ho;have hj':j<k:=by simp at hj;omega
    refine ⟨j,o,hj',hL j,?_,he⟩;have:(l.take k)[j]? =some o:=by rw [List.getElem?_eq_getElem hj,e1]
    rw [List.getElem?_take,if_pos hj'] at this;simpa using this
theorem ZL (bU:P.follows .mixedOrders=true)         (k s m:Nat) (av:AV)  (hB:nK N k l.toArray=true) (hsk:Nat.blt s k=true) (hos:l[s]? =some os) (hg:os.guard=none) (hal:aB os=false) (hpu:isPure os=false) (hap: ∃ c,os.op= .call c∧c.callee= .builtin .append) (hna:(l.take k).all (fun o=>!aB o)=true)
  (hw:dL P (kP l e Q) l (fP m h) (l.take s) e [] (QO P (kP l e Q) l (l.take s) ((l.take k).drop (s+1)) (l.drop k) os av e (fP m h) (Tm L Q))):Ih P N ks id l.toArray Q e h:=
 Eb bU k s m av hB hsk hos hg hal hpu (hap.elim fun c q=>⟨c,q.1, .inl q.2⟩) hna hw
theorem ajc (bU:P.follows .mixedOrders=true)         (k s m:Nat) (av:AV)  (hB:nK N k l.toArray=true) (hsk:Nat.blt s k=true) (hos:l[s]? =some os) (hg:os.guard=none) (hal:aB os=false) (hpu:isPure os=false) (hap: ∃ c f,os.op= .call c∧c.callee= .value f) (hna:(l.take k).all (fun o=>!aB o)=true)
  (hw:dL P (kP l e Q) l (fP m h) (l.take s) e [] (QO P (kP l e Q) l (l.take s) ((l.take k).drop (s+1)) (l.drop k) os av e (fP m h) (Tm L Q))):Ih P N ks id l.toArray Q e h:=
 Eb bU k s m av hB hsk hos hg hal hpu (hap.elim fun c q=>q.elim fun f q=>⟨c,q.1, .inr ⟨f,q.2⟩⟩) hna hw
end
end Go.Proofs.YtljfgdlgmdcmfaaGreat.Wv
