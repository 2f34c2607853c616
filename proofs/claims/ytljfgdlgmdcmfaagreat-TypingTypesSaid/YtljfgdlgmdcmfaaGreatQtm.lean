/- Parts of a proof. -/
import Derived.Test.YtljfgdlgmdcmfaaGreatQtl
import Derived.Test.YtljfgdlgmdcmfaaGreatQtk
import Derived.Lib.ItoaNum
set_option linter.unusedVariables false
set_option linter.unusedSimpArgs false
set_option maxHeartbeats 3200000
set_option maxRecDepth 100000
namespace Go.Proofs.YtljfgdlgmdcmfaaGreat
section
open Go.RowKit Wv
def jX (f:Nat→ByteArray):Nat→Option Nms
 | 0=>some []
 | n+1=>(jX f n).bind fun ns=>match bI ns (f n) with
  | some _=>none
  | none=>some (ns++[(f n,false,0)])
theorem xB {f:Nat→ByteArray} {i:Nat} (h:jX f i=none): ∀ {n:Nat},i≤n→jX f n=none
 | 0,q=>by
  have:i=0:=by omega
  subst this;exact h
 | n+1,q=>by
  by_cases e:i=n+1
  ·subst e;exact h
  ·have:=xB h (n:=n) (by omega)
   simp only [jX,this,Option.bind_none]
theorem xE {s:ByteArray} {r r':Bool × Nat} {s':ByteArray}: ∀ {ns:Nms},bI (ns++[(s',r')]) s=some r→bI ns s=some r∨r=r'
 | [],h=>by
  unfold bI at h
  simp only [List.nil_append] at h
  split at h
  ·injection h with h;exact .inr h.symm
  ·cases h
 | p::q,h=>by
  have h':(if s=p.1 then some p.2 else bI (q++[(s',r')]) s)=some r:=h
  show (if s=p.1 then some p.2 else bI q s)=some r∨_
  by_cases e:s=p.1
  ·rw [if_pos e] at h' ⊢;exact .inl h'
  ·rw [if_neg e] at h' ⊢;exact xE h'
theorem U5 {f:Nat→ByteArray}: ∀ {n:Nat} {ns:Nms} {s:ByteArray} {r:Bool × Nat},jX f n=some ns→bI ns s=some r→r.2≤8
 | 0,ns,s,r,h,h2=>by injection h with h;subst h;cases h2
 | n+1,ns,s,r,h,h2=>by
  cases hq:jX f n with
  | none=>simp only [jX,hq,Option.bind_none] at h;cases h
  | some ns'=>
   simp only [jX,hq,Option.bind_some] at h
   cases hf:bI ns' (f n) with
   | some _=>rw [hf] at h;cases h
   | none=>
    rw [hf] at h
    injection h with h;subst h
    rcases xE h2 with q | q
    ·exact U5 hq q
    ·subst q;exact Nat.zero_le _
def Po:Except (Nat × Int) (Nms × List (Bool × Nat))→Nms × List (Bool × Nat)
 | .ok q=>q
 | .error _=>([],[])
def abk (ns:Nms) (ss:List (Bool × Nat)) (i:Nat) (s:ByteArray):Except Int (Bool × Nat)→Except (Nat × Int) (Nms × List (Bool × Nat))
 | .error e=> .error (i,e)
 | .ok r=> .ok (ns++[(s,r)],ss++[r])
def Hy (ln:Nat→ByteArray) (sh:Nms→Nat→Except Int (Bool × Nat)) (i:Nat):Except (Nat × Int) (Nms × List (Bool × Nat))→Except (Nat × Int) (Nms × List (Bool × Nat))
 | .error e=> .error e
 | .ok (ns,ss)=>if (bI ns (ln i)).isSome=true then .error (i,230) else abk ns ss i (ln i) (sh ns i)
def jR (ns0:Nms) (ln:Nat→ByteArray) (sh:Nms→Nat→Except Int (Bool × Nat)):Nat→Except (Nat × Int) (Nms × List (Bool × Nat))
 | 0=> .ok (ns0,[])
 | i+1=>Hy ln sh i (jR ns0 ln sh i)
def WZ:Option (Bool × Nat)→Option Int
 | none=>some 230
 | some r=>if r.1=true then some 234 else none
def outT (ns:Nms) (fo:Nat→ByteArray):Nat→Option Int
 | 0=>none
 | i+1=>match outT ns fo i with
  | some e=>some e
  | none=>WZ (bI ns (fo i))
theorem rM {ns:Nms} {fo:Nat→ByteArray} {i:Nat} {e:Int} (h:outT ns fo i=some e): ∀ {n:Nat},i≤n→outT ns fo n=some e
 | 0,q=>by
  have:i=0:=by omega
  subst this;exact h
 | n+1,q=>by
  by_cases e2:i=n+1
  ·subst e2;exact h
  ·have:=rM h (n:=n) (by omega)
   simp only [outT,this]
theorem vX {ns0:Nms} {ln:Nat→ByteArray} {sh:Nms→Nat→Except Int (Bool × Nat)} {i:Nat} {q:Nat × Int} (h:jR ns0 ln sh i= .error q): ∀ {n:Nat},i≤n→jR ns0 ln sh n= .error q
 | 0,e=>by
  have:i=0:=by omega
  subst this;exact h
 | n+1,e=>by
  by_cases e2:i=n+1
  ·subst e2;exact h
  ·have:=vX h (n:=n) (by omega)
   show Hy ln sh n (jR ns0 ln sh n)=_
   rw [this];rfl
theorem W9 {c:Ci} (h:fD c=0):c.nl≤60:=by
 unfold fD at h
 split at h
 ·cases h
 ·next h1=>
  have h2:yY c=true:=by
   cases hf:yY c with
   | true=>rfl
   | false=>exact absurd (by rw [hf];simp) h1
  unfold yY at h2
  simp only [Bool.and_eq_true,decide_eq_true_eq] at h2
  omega
theorem C9 {c:Ci} (h:fD c=0) {i:Nat} (hi:i<c.nl):cu (c.le i)=true:=by
 unfold fD at h
 split at h
 ·cases h
 ·split at h
  ·cases h
  ·next h2=>
   cases hf:cu (c.le i) with
   | true=>rfl
   | false=>
    refine absurd ?_ h2
    unfold bg
    refine List.any_eq_true.2 ⟨i,List.mem_range.2 hi,?_⟩
    rw [hf];simp
def lastT (ss:List (Bool × Nat)) (nl:Nat):Option Int→List (Bool × Nat) × Int × Int
 | some e=>([],nl,e)
 | none=>(ss,0,0)
def Pq (c:Ci):Except (Nat × Int) (Nms × List (Bool × Nat))→List (Bool × Nat) × Int × Int
 | .error (i,e)=>([],i,e)
 | .ok (ns,ss)=>lastT ss c.nl (outT ns c.fo c.no)
def sQ (c:Ci) (ru:Ex→Nat→Except Int Nat):List (Bool × Nat) × Int × Int:=match jX c.fi c.ni with
 | none=>([], -1,230)
 | some ns=>Pq c (jR ns c.ln (fun ns i=>shE ns ru (c.le i)) c.nl)
def shL (ss:List (Bool × Nat)):List AV:=ss.flatMap fun r=>[.v (.bool r.1), .v (.int .i64 r.2)]
theorem oP (ss:List (Bool × Nat)): ∀ a,a∈shL ss→Clo a:=by
 intro a ha
 obtain ⟨r,_,h⟩:=List.mem_flatMap.1 ha
 simp only [List.mem_cons,List.not_mem_nil,or_false] at h
 rcases h with rfl | rfl
 ·exact .v _
 ·exact .v _
theorem Hz (ss:List (Bool × Nat)):(shL ss).length=ss.length*2:=by
 induction ss with
 | nil=>rfl
 | cons r q ih=>
  show (_::_::shL q).length=_
  rw [List.length_cons,List.length_cons,ih,List.length_cons];omega
theorem adp (ss:List (Bool × Nat)) (r:Bool × Nat):shL (ss++[r])=shL ss++[.v (.bool r.1), .v (.int .i64 r.2)]:=by
 unfold shL
 rw [List.flatMap_append];rfl
def typeA (q:List (Bool × Nat) × Int × Int):AV:= .tup [.t q.1.length 2 (shL q.1), .v (.int .i64 q.2.1), .v (.int .i64 q.2.2)]
def iJ (me:Int) (c:Ci) (ru:Ex→Nat→Except Int Nat):List (Bool × Nat) × Int × Int:=
 if me≠0 then ([],0,2) else if fD c≠0 then ([],0,fD c) else sQ c ru
variable {X:Cx}
theorem aP.weak {n:Nat} {Y:Cx} (S:aP n X Y):aP 0 X Y:=
 ⟨S.os,S.tape,S.output,S.size,S.block,S.keep,Nat.zero_le _,fun _ _ _ _ _ h=>absurd h (Nat.not_lt_zero _),fun _ _ h=>absurd h (Nat.not_lt_zero _),S.own,S.og,fun _ _ h=>absurd h (Nat.not_lt_zero _),S.dse⟩
theorem aP.defs {n:Nat} {Y:Cx} {d d2:List Deferred} (S:aP n (X.def_ d2) Y):aP n (X.def_ d) (Y.def_ d):=
 ⟨S.os,S.tape,S.output,S.size,S.block,S.keep,S.len,S.nZ,S.lC,S.own,S.og,S.omap,rfl⟩
theorem nU {x y:Value} (h:Rep X (.v x) y):y=x:=by cases h;rfl
theorem abl {e:Int} {v:Value} (h:Rep X (kN e) v):v= .iface 98 (.agg #[.int .i64 e]):=by
 unfold kN at h
 cases h with
 | ifc h=>
  cases h with
  | @g _ cvs hc hr=>
   match cvs,hc with
   | [c0],_=>rw [nU (hr 0 _ c0 rfl rfl)]
theorem vY (hX:Ok X) {id b:Nat} {a:AV} (h:X.h[id]? =some (some (.blk [a]))) (hb:(X.m id).1=some b): ∃ x,X.w.cell? ⟨b,0,none⟩=some x∧X.w.frozen? ⟨b,0,none⟩=false∧Rep X a x:=by
 obtain ⟨b',cvs,T,h1,h2,h3,_,h5⟩:=hX.blk id _ h
 rw [hb] at h1
 injection h1 with h1
 subst h1
 have hs:0<cvs.size:=by rw [h3];exact Nat.one_pos
 refine ⟨cvs[0],?_,?_,h5 0 a _ rfl (Array.getElem?_eq_getElem hs)⟩
 ·simp [World.cell?,h2,Array.getElem?_eq_getElem hs]
 ·simp [World.frozen?,h2]
theorem jS {id off:Nat} {v:Value} {c:List AV} (h:Rep X (.ptr id off) v) (hc:X.h[id]? =some (some (.blk c))): ∃ b,(X.m id).1=some b∧v= .pointer (some ⟨b,off,none⟩):=by
 cases h with
 | ptr hid h=>exact h c hc
def tyL:List Nat:=[0,1,2,6,28,4,5,3,8,32,9,7,43,42,44,41,10,12,58,57,59,56,13,14,15,88,87,89,86,17,19,18]
def DT (i e:Int):AV:= .tup [.v (.slice none 0 0), .v (.int .i64 i), .v (.int .i64 e)]
def Pv:Array ResultVar:= #[.cell 4 34, .cell 5 3, .cell 6 35]
def adq (x:Par) (c:Ci):Hp:=[some (.blk (fU x)),some (.blk (ciC c)),some (.blk [.v (.slice none 0 0)]),some (.blk [.v (.int .i64 0)]),some (.blk [.v (.int .i64 0)]),some (.blk [.v (.int .i64 (-1))])]
def Px (t:Int):Ev:=[(2, .ptr 0 0),(3, .ptr 1 0),(4, .ptr 2 0),(5, .ptr 3 0),(6, .ptr 4 0),(9, .ptr 5 0),(7, .v (.int .i64 t))]
def ag9 (mv:Nat) (me:Int) (x:Par) (c:Ci) (e:Ev) (h:Hp):Prop:=wO (Px mv) e∧h=adq x c∧me=0∧fD c=0
def aha (mv:Nat) (me:Int) (x:Par) (c:Ci) (q:List (Bool × Nat) × Int × Int):bU:=fun ex e h=>match ex with
 | .normal=>ag9 mv me x c e h
 | .ret=>DL Tryz.prog Pv (fun r _=> ∃ i e,q=([],i,e)∧r=DT i e) (fun _ _=>False) .ret e h
 | _=>False
variable {e:Ev}{h:Hp}{q:List (Bool × Nat) × Int × Int}{x:Par}
theorem ahb {mv:Nat} {me:Int}  {c:Ci}   :aha mv me x c q .normal e h=ag9 mv me x c e h:=rfl
theorem abm {mv:Nat} {me:Int}  {c:Ci}   :aha mv me x c q .ret e h=DL Tryz.prog Pv (fun r _=> ∃ i e,q=([],i,e)∧r=DT i e) (fun _ _=>False) .ret e h:=rfl
def ahc (x:Par) (c:Ci) (q:List (Bool × Nat) × Int × Int):bU:=fun ex e_ h=>match ex with
 | .ret=>DL Tryz.prog Pv (fun r _=>q.2=(0,0)∧r=typeA q) (fun _ _=>False) .ret e_ h
 | .panic av=> ∃ i e s0 i0 e0,q=([],i,e)∧av=kN e∧h[2]? =some (some (.blk [s0]))∧h[3]? =some (some (.blk [.v (.int .i64 i0)]))∧h[4]? =some (some (.blk [.v (.int .i64 e0)]))∧h[5]? =some (some (.blk [.v (.int .i64 i)]))∧aJ e_ 4= .ptr 2 0∧aJ e_ 5= .ptr 3 0∧aJ e_ 6= .ptr 4 0
 | _=>False
theorem ahd {c:Ci}   :ahc x c q .ret e h=DL Tryz.prog Pv (fun r _=>q.2=(0,0)∧r=typeA q) (fun _ _=>False) .ret e h:=rfl
theorem Dc {c:Ci}  {av:AV} {e_:Ev} :ahc x c q (.panic av) e_ h= ∃ i e s0 i0 e0,q=([],i,e)∧av=kN e∧h[2]? =some (some (.blk [s0]))∧h[3]? =some (some (.blk [.v (.int .i64 i0)]))∧h[4]? =some (some (.blk [.v (.int .i64 e0)]))∧h[5]? =some (some (.blk [.v (.int .i64 i)]))∧aJ e_ 4= .ptr 2 0∧aJ e_ 5= .ptr 3 0∧aJ e_ 6= .ptr 4 0:=rfl
theorem Nu (x:Par) (c:Ci) (ru:Ex→Nat→Except Int Nat) (ks:Ex→Prop) (mv:Nat) (me:Int) (T1:TC Tryz.prog 60 [.g (fU x), .v (.int .i64 x.r)] (.tup [.v (.int .i64 mv), .v (.int .i64 me)])) (hc:okC c)
  (hR:me=0→ ∀ ns,zH x mv ns ru ks) (hks: ∀ i,i<c.nl→xw ks (c.le i)):
  TC Tryz.prog 19 [.g (fU x), .g (ciC c)] (typeA (iJ me c ru)):=by
 refine TC.X9 ⟨by kernel_rfl,fun X0 vs hX0 hh hr=>?_⟩ ?_
 case refine_2=>unfold typeA;simp only [Wv.BC];exact oP _
 refine calls_of_wp_defers Tryz.func19 rfl ?_
 show (Ns [_,_,_,_] (.seq _ (.seq _ _))).wp _ _ _ _
 have hX1:Ok (X0.def_ []):=hX0.def_
 have hr1:eX (X0.def_ []) [.g (fU x), .g (ciC c)] vs:=⟨hr.1,fun i a x h1 h2=>(hr.2 i a x h1 h2).def_⟩
 have hE1:=AQ (N:=109) rfl hr1 (by show 2≤109;omega)
 refine CZ (N:=109) (L:=tyL) (ks:=[]) (by kernel_rfl) (QA:=aha mv me x c (iJ me c ru)) (fun i e h q=>q) (fun av e h q=>q) [_,_,_,_] (X0.def_ []) _ _ ?_ (by kernel_rfl) (Nat.zero_le _) hX1 hE1 ?_ ?_ ?_
 ·kernel_rfl
 ·show bH Tryz.prog 109 tyL [] _ _ _ X0.h
  rw [hh]
  have T2:=OG c hc
  have hQ:iJ me c ru=if me≠0 then ([],0,2) else if fD c≠0 then ([],0,fD c) else sQ c ru:=rfl
  have hM: ∀ e h,ag9 mv me x c e h=(wO (Px mv) e∧h=adq x c∧me=0∧fD c=0):=fun _ _=>rfl
  have hG1:Clo (.g (fU x)):=by simp only [Wv.BC];exact iI x
  have hG2:=vF c
  generalize me=e1 at*
  generalize mv=t1 at*
  generalize fD c=e2 at*
  unfold adq at hM
  simp only [fU,ciC,bn] at T1 T2 hG1 hG2 hM ⊢
  generalize c.lets=L at*
  simp only [Ns]
  simp (disch:=first|exact Wv.D|fail) only [Wv.B,simprocAttr,tyL,pR]
  refine ah T1 rfl (aaN hG1 Wv.c) Wv.c ?_
  by_cases h1:e1=0
  ·subst h1
   simp (disch:=first|exact Wv.D|fail) only [Wv.B,simprocAttr,decide_true]
   refine ah T2 rfl (dW hG2) Wv.c ?_
   by_cases h2:e2=0
   ·subst h2
    simp (disch:=first|exact Wv.D|fail) only [Wv.B,simprocAttr,ahb,hM]
    simp (disch:=first|exact Wv.D|fail) only [Wv.B,simprocAttr,Px]
   ·rw [if_neg (by simp),if_pos h2] at hQ
    simp (disch:=first|exact Wv.D|fail) only [Wv.B,simprocAttr,decide_eq_false h2,abm,Pv,hQ]
    exact ⟨_,_,rfl,rfl⟩
  ·rw [if_pos h1] at hQ
   simp (disch:=first|exact Wv.D|fail) only [Wv.B,simprocAttr,decide_eq_false h1,abm,Pv,hQ]
   exact ⟨_,_,rfl,rfl⟩
 ·intro Y e a S hY hE hmid
  obtain ⟨hfit,hh2,hm0,hck⟩:=hmid
  have hEm:aI Y 109 (Px mv) a:=⟨hE.defers,hE.size,fun d=>by
   rcases uX hfit d with q | q
   ·rw [q];exact hE.rep d
   ·rw [q];exact .none _⟩
  have hds:a.defers=[]:=hE.defers.trans S.dse
  refine wp_seq (Hw (by rw [hE.size];decide) ?_)
  rw [hds]
  generalize hcv:Array.map a.eval _=cv
  generalize hd:Deferred.mk _ _=d
  show Code.wp _ _ _ _ _
  have hY2:Ok (Y.def_ [d]):=hY.def_
  have hE2:aI (Y.def_ [d]) 109 (Px mv) {tmps:=a.tmps.setIfInBounds 34 (.func (.func 62) #[] cv),defers:=[d]}:=by
   have h1:=(hEm.any (dst:=some 34) (v:= .func (.func 62) #[] cv) (fun d hd=>by injection hd with hd;subst hd;rfl))
   exact ⟨rfl,h1.size,fun d=>(h1.rep d).def_⟩
  refine wp_mono (dh (by kernel_rfl) (L:=tyL) (ks:=[(1000000,6)]) _ (ahc x c (iJ me c ru)) (Y.def_ [d]) (Px mv) _ ?_ (by kernel_rfl) ?_ hY2 hE2 ?_) ?_
  ·kernel_rfl
  ·show 6≤Y.h.length
   rw [hh2];exact Nat.le_refl 6
  ·show bH _ _ _ _ _ _ _ Y.h
   rw [hh2]
   have hQ:iJ me c ru=sQ c ru:=by unfold iJ;rw [if_neg (by simp [hm0]),if_neg (by simp [hck])]
   have hT0:sQ c ru=match jX c.fi c.ni with
    | none=>([], -1,230)
    | some ns=>Pq c (jR ns c.ln (fun ns i=>shE ns ru (c.le i)) c.nl):=rfl
   rw [hQ]
   have hLc:=jO c
   have hdr: ∀ i,i<c.nl→ ∃ r,List.drop (i*6) c.lets=iY (c.ln i) (c.le i)++r:=fun i hi=>bP (f:=fun i=>iY (c.ln i) (c.le i)) (fun i=>iG _ _) hi
   generalize hQQ:sQ c ru=QQ at hT0 ⊢
   have hR1:=hR hm0
   clear hR
   generalize ht:((mv:Nat):Int)=t at hR1 ⊢
   have hcc:=GX c
   have hpc:=iI x
   simp only [ciC,bn] at hcc
   simp only [fU] at hpc
   generalize hL:c.lets=L at*
   have adr: ∀ (s0:AV) (pl:Int) (ns:Nms) (r:Hp) (m:Nat),8≤m→lo m s0→loH m r→loH m (some (.blk [.v (.int .i64 x.n), .v (.int .u32 x.p), .v (.int .i64 x.r), .t x.ch.length 1 (x.ch.map fun (c:Nat)=> .v (.int .u32 c)), .v (.int .u32 x.sp), .v (.int .i64 x.wt), .v (.int .u32 x.er)])::
     some (.blk [.v (.string c.name), .t c.ni 1 (tab c.ni fun i=> .v (.string (c.fi i))), .t c.nl 6 L, .t c.no 1 (tab c.no fun i=> .v (.string (c.fo i)))])::
     some (.blk [s0])::some (.blk [.v (.int .i64 0)])::some (.blk [.v (.int .i64 0)])::some (.blk [.v (.int .i64 pl)])::some (.map (nsE ns))::some (.blk (tyP x t++[.mp 6]))::r):=fun s0 pl ns r m hm hs0 hr=>by
    have h1: ∀ v:AV,lo m v→loL m [v]:=fun v hv a ha=>by rw [List.mem_singleton] at ha;subst ha;exact hv
    refine ⟨fun a ha=> .clo (hpc a ha),fun a ha=> .clo (hcc a ha),h1 _ hs0,h1 _ (.clo (.v _)),h1 _ (.clo (.v _)),h1 _ (.clo (.v _)),fun a ha=> .clo (rD ns a ha),fun a ha=>?_,hr⟩
    rcases List.mem_append.1 ha with h | h
    ·exact .clo (U4 x t a h)
    ·rw [List.mem_singleton] at h;subst h;exact .mp (by omega)
   simp only [Px,adq,fU,ciC,bn,hL]
   simp (disch:=first|exact Wv.D|fail) only [Wv.B,simprocAttr,tyL]
   refine dQ (σ:=Nat) (fun i=>[(3, .ptr 1 0),(4, .ptr 2 0),(5, .ptr 3 0),(6, .ptr 4 0),(9, .ptr 5 0),(10, .ptr 7 0),(41, .t c.ni 1 (tab c.ni fun i=> .v (.string (c.fi i)))),(42, .v (.int .i64 c.ni)),(43, .v (.int .i64 i))])
    (fun i=>[some (.blk [.v (.int .i64 x.n), .v (.int .u32 x.p), .v (.int .i64 x.r), .t x.ch.length 1 (x.ch.map fun (c:Nat)=> .v (.int .u32 c)), .v (.int .u32 x.sp), .v (.int .i64 x.wt), .v (.int .u32 x.er)]),
     some (.blk [.v (.string c.name), .t c.ni 1 (tab c.ni fun i=> .v (.string (c.fi i))), .t c.nl 6 L, .t c.no 1 (tab c.no fun i=> .v (.string (c.fo i)))]),
     some (.blk [.v (.slice none 0 0)]),some (.blk [.v (.int .i64 0)]),some (.blk [.v (.int .i64 0)]),some (.blk [.v (.int .i64 (-1))]),some (.map (nsE ((jX c.fi i).getD []))),some (.blk (tyP x t++[.mp 6]))])
    (fun i=>i≤c.ni∧jX c.fi i=some ((jX c.fi i).getD [])) (fun i=>c.ni - i) 0 ⟨Nat.zero_le _,rfl⟩ (by simp (disch:=first|exact Wv.D|fail) only [Wv.B,simprocAttr,jX,Option.getD_some,nsE,tyP]) Wv.V ?_
   rintro i ⟨hi,hns⟩
   have hni:=hc.ni
   by_cases hlt:i<c.ni
   ·have e1:(i:Int)<c.ni:=by omega
    obtain ⟨ns,hq⟩: ∃ ns,jX c.fi i=some ns:=⟨_,hns⟩
    have hgd:(jX c.fi i).getD []=ns:=by rw [hq];rfl
    have hP:(tyP x t).length=8:=rfl
    have hPl: ∀ a,a∈tyP x t→Clo a:=fun a ha=>U4 x t a ha
    simp (disch:=first|exact Wv.D|fail) only [Wv.B,simprocAttr,hgd]
    refine bf (fst:=[]) (cap:=[]) (ag8 (FM x t ns (c.fi i)) _ _ _ _ _ _ [] (dW Wv.c) (by rintro r ⟨_,rfl⟩;simp only [Wv.BC]) (by rintro r ⟨_,rfl⟩;exact gU 230)) ?_ ?_
    ·rintro av h' ⟨⟨hfn,rfl⟩,rfl⟩
     refine Wv.W ?_
     refine dF (fst:=[]) (cap:=[]) (CY _ _ _ _ _ _ [] (tyP x t) hP ns (c.fi i) (false,0) hfn ?_) ?_
     ·exact adr (.v (.slice none 0 0)) (-1) ns [] 8 (Nat.le_refl _) (.clo (.v _)) trivial
     ·rintro av h' ⟨rfl,rfl⟩
      have hnx:jX c.fi (i+1)=some (ns++[(c.fi i,false,0)]):=by
       simp only [jX,hq,Option.bind_some,hfn]
      have hgn:(jX c.fi (i+1)).getD []=ns++[(c.fi i,false,0)]:=by rw [hnx];rfl
      simp (disch:=first|exact Wv.D|fail) only [Wv.B,simprocAttr,froze]
      refine aH (i+1) ⟨by omega,by rw [hnx];rfl⟩ (by omega) (by rw [hgn]) Wv.V2
    ·rintro av h' ⟨⟨hfn,rfl⟩,rfl⟩
     have hnx:jX c.fi c.ni=none:=xB (i:=i+1) (by
      cases hf:bI ns (c.fi i) with
      | none=>exact absurd hf hfn
      | some r=>simp only [jX,hq,Option.bind_some,hf]) (by omega)
     rw [hnx] at hT0
     simp only at hT0
     simp (disch:=first|exact Wv.D|fail) only [Wv.B,simprocAttr,Dc]
     exact ⟨_,_,_,_,_,hT0,rfl,rfl,rfl,rfl,rfl,rfl,rfl,rfl⟩
   ·have hin:i=c.ni:=by omega
    subst hin
    obtain ⟨ns,hq⟩: ∃ ns,jX c.fi c.ni=some ns:=⟨_,hns⟩
    have hgd:(jX c.fi c.ni).getD []=ns:=by rw [hq];rfl
    have hnb: ∀ s r,bI ns s=some r→r.2≤8:=fun s r h=>U5 hq h
    rw [hq] at hT0
    simp only at hT0
    simp (disch:=first|exact Wv.D|fail) only [Wv.B,simprocAttr,hgd]
    clear hgd hns hi hlt hq
    generalize hsh:(fun (ns:Nms) (i:Nat)=>shE ns ru (c.le i))=sh at hT0
    refine qj (σ:=Nat) (fun i=>[(3, .ptr 1 0),(4, .ptr 2 0),(5, .ptr 3 0),(6, .ptr 4 0),(9, .ptr 5 0),(10, .ptr 7 0),(56, .t c.nl 6 L),(57, .v (.int .i64 c.nl)),(58, .v (.int .i64 i))])
     (fun i=>[some (.blk [.v (.int .i64 x.n), .v (.int .u32 x.p), .v (.int .i64 x.r), .t x.ch.length 1 (x.ch.map fun (c:Nat)=> .v (.int .u32 c)), .v (.int .u32 x.sp), .v (.int .i64 x.wt), .v (.int .u32 x.er)]),
      some (.blk [.v (.string c.name), .t c.ni 1 (tab c.ni fun i=> .v (.string (c.fi i))), .t c.nl 6 L, .t c.no 1 (tab c.no fun i=> .v (.string (c.fo i)))]),
      some (.blk [.own 8 i]),some (.blk [.v (.int .i64 0)]),some (.blk [.v (.int .i64 0)]),some (.blk [.v (.int .i64 ((i:Int) - 1))]),some (.map (nsE (Po (jR ns c.ln sh i)).1)),some (.blk (tyP x t++[.mp 6])),some (.arr 42 2 (shL (Po (jR ns c.ln sh i)).2) (2*(i - 1)))])
     (fun i=>i≤c.nl∧jR ns c.ln sh i= .ok (Po (jR ns c.ln sh i))∧(Po (jR ns c.ln sh i)).2.length=i∧ ∀ s r,bI (Po (jR ns c.ln sh i)).1 s=some r→r.2≤8) (fun i=>c.nl - i) 0 ⟨Nat.zero_le _,rfl,rfl,hnb⟩ ?_ ?_
    ·refine Ent.trans (Ent.agc 2 0 42 2 [.v (.slice none 0 0)] (by omega) rfl rfl) (Ent.fit ?_)
     exact Wv.V
    rintro i ⟨hi,hok,hsl,hb⟩
    obtain ⟨⟨ns1,ss⟩,hg⟩: ∃ q,Po (jR ns c.ln sh i)=q:=⟨_,rfl⟩
    rw [hg] at hok hsl hb
    simp only at hsl hb
    have hnl:=hc.nl
    by_cases hlt:i<c.nl
    ·have e1:(i:Int)<c.nl:=by omega
     obtain ⟨r,hd⟩:=hdr i hlt
     have hform:cu (c.le i)=true:=C9 hck hlt
     have TE:=adh x t ns1 ru ks hb (hR1 ns1) (c.le i) (hc.le i hlt).1 hform (hks i hlt)
     have ahe:sh ns1 i=shE ns1 ru (c.le i):=by rw [←hsh]
     have hG:=bQ (c.le i)
     have hGl:=BQ (c.ln i) (c.le i)
     unfold ShC at TE
     have ajk: ∀ r,shE ns1 ru (c.le i)= .ok r→r.2≤8:=fun r h=>xu hb (c.le i) h
     generalize shE ns1 ru (c.le i)=O at TE ahe ajk
     have hoy:=(hc.le i hlt).1
     generalize c.le i=y at hd TE hG hGl hoy
     obtain ⟨k',s',n',nl',li',na',ar',rfl⟩:=nN hoy
     unfold iY at hd hGl
     rw [dA] at hd TE hG hGl
     simp only [List.cons_append,List.nil_append] at hd
     have ahf:jR ns c.ln sh (i+1)=Hy c.ln sh i (.ok (ns1,ss)):=by show Hy c.ln sh i (jR ns c.ln sh i)=_;rw [hok]
     simp (disch:=first|exact Wv.D|fail) only [Wv.B,simprocAttr,hg,hd]
     refine bf (fst:=[]) (cap:=[]) (ag8 (FM x t ns1 (c.ln i)) _ _ _ _ _ _ [_,_] (dW Wv.c) (by rintro r ⟨_,rfl⟩;simp only [Wv.BC]) (by rintro r ⟨_,rfl⟩;exact gU 230)) ?_ ?_
     ·rintro av h' ⟨⟨hfn,rfl⟩,rfl⟩
      refine Wv.W ?_
      refine bf (fst:=[]) (cap:=[]) (ag8 (args:=[.g _]) TE _ _ _ _ _ _ [_,_] (dW hG) (by rintro r ⟨s,_,rfl⟩;exact zG s) (by rintro r ⟨e,_,rfl⟩;exact gU e)) ?_ ?_
      ·rintro av h' ⟨⟨⟨k2,d2⟩,hO,rfl⟩,rfl⟩
       have hnx:jR ns c.ln sh (i+1)= .ok (ns1++[(c.ln i,k2,d2)],ss++[(k2,d2)]):=by
        rw [ahf]
        simp only [Hy,hfn,Option.isSome_none,Bool.false_eq_true,if_false,ahe,hO,abk]
       have hgn:Po (jR ns c.ln sh (i+1))=(ns1++[(c.ln i,k2,d2)],ss++[(k2,d2)]):=by rw [hnx];rfl
       simp (disch:=first|exact Wv.D|fail) only [Wv.B,simprocAttr,shA]
       refine dF (fst:=[]) (cap:=[]) (CY _ _ _ _ _ _ [_,_,_] (tyP x t) rfl ns1 (c.ln i) (k2,d2) hfn ?_) ?_
       ·exact adr (.own 8 i) i ns1 _ 11 (by omega) (.own (by omega)) ⟨fun a ha=> .clo (oP ss a ha),fun a ha=> .clo (hGl a ha),fun a ha=> .clo (by
         simp only [List.mem_cons,List.not_mem_nil,or_false] at ha
         rcases ha with rfl | rfl
         ·exact .v _
         ·exact .v _),trivial⟩
       ·rintro av h' ⟨rfl,rfl⟩
        have akl:=W9 hck
        have hsz:=Hz ss
        rw [hsl] at hsz
        have hca: ∀ (a0 a1 a2 a3 a4 a5 a6 a7:Option Ob) (r:Hp) (fz:Nat),cellsA (a0::a1::a2::a3::a4::a5::a6::a7::some (.arr 42 2 (shL ss++[.v (.bool k2), .v (.int .i64 d2)]) fz)::r) (.own 8 (i+1))=some [.own 8 (i+1)]:=fun a0 a1 a2 a3 a4 a5 a6 a7 r fz=>by
         have:bG (a0::a1::a2::a3::a4::a5::a6::a7::some (.arr 42 2 (shL ss++[.v (.bool k2), .v (.int .i64 d2)]) fz)::r) (.own 8 (i+1))=true:=by
          show decide ((shL ss++[AV.v (.bool k2),AV.v (.int .i64 d2)]).length=(i+1)*2)=true
          rw [List.length_append,hsz]
          exact decide_eq_true (by show i*2+2=_;omega)
         exact if_pos this
        have hdc:decide (i*2+2=(i+1)*2)=true:=decide_eq_true (by omega)
        simp (disch:=first|exact Wv.D|fail) only [Wv.B,simprocAttr,froze,hsz,hca,hdc]
        have hpl:(i:Int)+1 - 1=i:=by omega
        have hfz:2*(i+1 - 1)=i*2:=by omega
        refine Wv.jd (i+1) 9 (by first | decide | exact Nat.le_of_ble_eq_true rfl) ⟨by omega,by rw [hnx];rfl,by rw [hgn];simp [hsl],?_⟩ (by omega) (by simp (disch:=first|exact Wv.D|fail) only [Wv.B,simprocAttr,hgn,hpl,hfz,Nat.mul_comm 2 i,adp,Int.natCast_add,Int.natCast_one]) Wv.V2 (by simp only [Wv.BL, ↓reduceIte,Nat.reduceLeDiff,eq_true hLc]<;>omega) ?_
        ·rw [hgn]
         intro s r h
         rcases xE h with q | q
         ·exact hb s r q
         ·subst q;exact ajk _ hO
        ·rw [hgn]
         exact adr (.own 8 (i+1)) _ _ _ 9 (by omega) (.own (by omega)) ⟨fun a ha=> .clo (oP _ a ha),trivial⟩
      ·rintro av h' ⟨⟨e,hO,rfl⟩,rfl⟩
       have hnx:jR ns c.ln sh (i+1)= .error (i,e):=by
        rw [ahf]
        simp only [Hy,hfn,Option.isSome_none,Bool.false_eq_true,if_false,ahe,hO,abk]
       rw [vX hnx (n:=c.nl) (by omega)] at hT0
       simp only [Pq] at hT0
       simp (disch:=first|exact Wv.D|fail) only [Wv.B,simprocAttr,Dc]
       exact ⟨_,_,_,_,_,hT0,rfl,rfl,rfl,rfl,rfl,rfl,rfl,rfl⟩
     ·rintro av h' ⟨⟨hfn,rfl⟩,rfl⟩
      have hnx:jR ns c.ln sh (i+1)= .error (i,230):=by
       rw [ahf]
       cases hf:bI ns1 (c.ln i) with
       | none=>exact absurd hf hfn
       | some r=>simp only [Hy,hf,Option.isSome_some,if_true]
      rw [vX hnx (n:=c.nl) (by omega)] at hT0
      simp only [Pq] at hT0
      simp (disch:=first|exact Wv.D|fail) only [Wv.B,simprocAttr,Dc]
      exact ⟨_,_,_,_,_,hT0,rfl,rfl,rfl,rfl,rfl,rfl,rfl,rfl⟩
    ·have hin:i=c.nl:=by omega
     subst hin
     rw [hok] at hT0
     have hT1:QQ=lastT ss c.nl (outT ns1 c.fo c.no):=hT0
     simp (disch:=first|exact Wv.D|fail) only [Wv.B,simprocAttr,hg]
     have hno:=hc.no
     refine dQ (σ:=Nat) (fun i=>[(3, .ptr 1 0),(4, .ptr 2 0),(5, .ptr 3 0),(6, .ptr 4 0),(9, .ptr 5 0),(10, .ptr 7 0),(86, .t c.no 1 (tab c.no fun i=> .v (.string (c.fo i)))),(87, .v (.int .i64 c.no)),(88, .v (.int .i64 i))])
      (fun i=>[some (.blk [.v (.int .i64 x.n), .v (.int .u32 x.p), .v (.int .i64 x.r), .t x.ch.length 1 (x.ch.map fun (c:Nat)=> .v (.int .u32 c)), .v (.int .u32 x.sp), .v (.int .i64 x.wt), .v (.int .u32 x.er)]),
       some (.blk [.v (.string c.name), .t c.ni 1 (tab c.ni fun i=> .v (.string (c.fi i))), .t c.nl 6 L, .t c.no 1 (tab c.no fun i=> .v (.string (c.fo i)))]),
       some (.blk [.own 8 c.nl]),some (.blk [.v (.int .i64 0)]),some (.blk [.v (.int .i64 0)]),some (.blk [.v (.int .i64 c.nl)]),some (.map (nsE ns1)),some (.blk (tyP x t++[.mp 6])),some (.arr 42 2 (shL ss) (2*(c.nl - 1)))])
      (fun i=>i≤c.no∧outT ns1 c.fo i=none) (fun i=>c.no - i) 0 ⟨Nat.zero_le _,rfl⟩ Wv.V Wv.V ?_
     rintro i ⟨hi,hout⟩
     have hout1:outT ns1 c.fo (i+1)=WZ (bI ns1 (c.fo i)):=by simp only [outT,hout]
     by_cases hlt:i<c.no
     ·have e1:(i:Int)<c.no:=by omega
      have hlm:=vT (c.fo i) ns1
      have ahg:tyP x t++[.mp 6]=[.v (.int .i64 x.n), .v (.int .u32 x.p), .v (.int .i64 x.r), .t x.ch.length 1 (x.ch.map fun (c:Nat)=> .v (.int .u32 c)), .v (.int .u32 x.sp), .v (.int .i64 x.wt), .v (.int .u32 x.er), .v (.int .i64 t), .mp 6]:=rfl
      cases hq2:bI ns1 (c.fo i) with
      | none=>
       rw [hq2] at hlm hout1
       simp only [Option.map_none] at hlm
       simp only [WZ] at hout1
       simp (disch:=first|exact Wv.D|fail) only [Wv.B,simprocAttr,yO,hlm,ahg]
       refine bf (fst:=[]) (cap:=[]) (aZ false 230) (by rintro av h' ⟨hb,_⟩;cases hb) ?_
       rintro av h' ⟨_,rfl,rfl⟩
       rw [rM hout1 (n:=c.no) (by omega)] at hT1
       simp only [lastT] at hT1
       simp (disch:=first|exact Wv.D|fail) only [Wv.B,simprocAttr,Dc]
       exact ⟨_,_,_,_,_,hT1,rfl,rfl,rfl,rfl,rfl,rfl,rfl,rfl⟩
      | some r=>
       obtain ⟨k2,d2⟩:=r
       rw [hq2] at hlm hout1
       simp only [Option.map_some,shA] at hlm
       simp only [WZ] at hout1
       simp (disch:=first|exact Wv.D|fail) only [Wv.B,simprocAttr,yO,hlm,ahg]
       refine bf (fst:=[]) (cap:=[]) (aZ true 230) ?_ (by rintro av h' ⟨hb,_⟩;cases hb)
       rintro av h' ⟨_,rfl,rfl⟩
       refine Wv.W ?_
       refine bf (fst:=[]) (cap:=[]) (aZ (!k2) 234) ?_ ?_
       ·rintro av h' ⟨hk,rfl,rfl⟩
        have hk2:k2=false:=by simpa using hk
        subst hk2
        simp only [Bool.false_eq_true,if_false] at hout1
        refine Wv.W ?_
        refine Wv.jd (i+1) 9 (by first | decide | exact Nat.le_of_ble_eq_true rfl) ⟨by omega,hout1⟩ (by omega) (by simp (disch:=first|exact Wv.D|fail) only [Wv.B,simprocAttr,ahg]) Wv.V2 (by simp only [Wv.BL, ↓reduceIte,Nat.reduceLeDiff,eq_true hLc]<;>omega) ?_
        exact adr (.own 8 c.nl) _ _ _ 9 (by omega) (.own (by omega)) ⟨fun a ha=> .clo (oP _ a ha),trivial⟩
       ·rintro av h' ⟨hk,rfl,rfl⟩
        have hk2:k2=true:=by simpa using hk
        subst hk2
        simp only [if_true] at hout1
        rw [rM hout1 (n:=c.no) (by omega)] at hT1
        simp only [lastT] at hT1
        simp (disch:=first|exact Wv.D|fail) only [Wv.B,simprocAttr,Dc]
        exact ⟨_,_,_,_,_,hT1,rfl,rfl,rfl,rfl,rfl,rfl,rfl,rfl⟩
     ·have hin:i=c.no:=by omega
      subst hin
      rw [hout] at hT1
      simp only [lastT] at hT1
      have hsz:=Hz ss
      rw [hsl] at hsz
      have hca: ∀ (a0 a1 a2 a3 a4 a5 a6 a7:Option Ob) (r:Hp) (fz:Nat),cellsA (a0::a1::a2::a3::a4::a5::a6::a7::some (.arr 42 2 (shL ss) fz)::r) (.own 8 c.nl)=some [.own 8 c.nl]:=fun a0 a1 a2 a3 a4 a5 a6 a7 r fz=>by
       have:bG (a0::a1::a2::a3::a4::a5::a6::a7::some (.arr 42 2 (shL ss) fz)::r) (.own 8 c.nl)=true:=by
        show decide ((shL ss).length=c.nl*2)=true
        rw [hsz]
        exact decide_eq_true rfl
       exact if_pos this
      simp (disch:=first|exact Wv.D|fail) only [Wv.B,simprocAttr,ahd,Pv,hca,hsz]
      rw [hT1]
      exact ⟨rfl,by unfold typeA;rw [hsl]⟩
  ·intro ex a' w' hpost
   have:=hpost.elim
   cases this with
   | ok z ex Z e2 a2 S2 hZ hEZ h hx=>
    have hS6:aP 0 (X0.def_ []) Y:=S
    rcases hx with ⟨rfl,rfl⟩ | ⟨i,rfl,rfl⟩ | ⟨rfl,rfl⟩ | ⟨v,av,rfl,rfl,hrv⟩
    ·exact False.elim h
    ·exact False.elim h
    ·have hd2:a'.defers=[d]:=hEZ.defers.trans S2.dse
     show Leaves _ _ _ _ a'.defers .returning Z.w
     rw [hd2, ←hd]
     refine leaves_cons (f:=62) (args:=cv) (by simp) (by simp [go_sem]) ?_
     obtain ⟨b5,g5⟩:=jS (hEm.rep 9) (by rw [hh2];rfl)
     obtain ⟨b2,g2⟩:=jS (hEm.rep 4) (by rw [hh2];rfl)
     obtain ⟨b3,g3⟩:=jS (hEm.rep 5) (by rw [hh2];rfl)
     obtain ⟨b4,g4⟩:=jS (hEm.rep 6) (by rw [hh2];rfl)
     have hcv2:cv= #[.pointer (some ⟨b5,0,none⟩), .pointer (some ⟨b2,0,none⟩), .pointer (some ⟨b3,0,none⟩), .pointer (some ⟨b4,0,none⟩)]:=by
      rw [←hcv]
      simp [Act.eval,g5.2,g2.2,g3.2,g4.2]
     rw [hcv2]
     refine (ag7 _ _ _ _ Z.w).mono ?_
     rintro e3 u' w'' ⟨rfl,rfl,rfl⟩
     obtain ⟨r,r',h',h1,h2,hq0,rfl⟩:=h
     obtain ⟨v,q1,q2⟩:=zx (fn:=Tryz.f19) hZ hEZ (by rw [Tryz.results19];exact h1)
     obtain ⟨V,z1,z2,z3,z4,z5⟩:=qR Z r _ h' v hZ h2 q2
     have SS:Step (X0.def_ [d]) Z:=aP.full (by show aP X0.h.length _ _;rw [hh];exact aP.trans hX0.def_ (aP.defs S) (aP.weak S2))
     exact ⟨v,q1,v,V.def_ X0.ds,_,rfl,z1,(SS.trans hX0.def_ z2).undef,z3.def_,z5.def_,rfl⟩
    ·have hd2:a'.defers=[d]:=hEZ.defers.trans S2.dse
     obtain ⟨i,e',s0,i0,e0,hq,rfl,t2,t3,t4,t5,u4,u5,u6⟩:=h
     have hv:=abl hrv
     subst hv
     show Leaves _ _ _ _ a'.defers (.panicking _) Z.w
     rw [hd2, ←hd]
     refine leaves_cons (f:=62) (args:=cv) (by simp) (by simp [go_sem]) ?_
     obtain ⟨b5,g5⟩:=jS (hEm.rep 9) (by rw [hh2];rfl)
     obtain ⟨b2,g2⟩:=jS (hEm.rep 4) (by rw [hh2];rfl)
     obtain ⟨b3,g3⟩:=jS (hEm.rep 5) (by rw [hh2];rfl)
     obtain ⟨b4,g4⟩:=jS (hEm.rep 6) (by rw [hh2];rfl)
     have hcv2:cv= #[.pointer (some ⟨b5,0,none⟩), .pointer (some ⟨b2,0,none⟩), .pointer (some ⟨b3,0,none⟩), .pointer (some ⟨b4,0,none⟩)]:=by
      rw [←hcv]
      simp [Act.eval,g5.2,g2.2,g3.2,g4.2]
     rw [hcv2]
     have k2:(Z.m 2).1=some b2:=(S2.lC 2 _ (by decide) t2).elim fun _ q=>q.2.trans g2.1
     have k3:(Z.m 3).1=some b3:=(S2.lC 3 _ (by decide) t3).elim fun _ q=>q.2.trans g3.1
     have k4:(Z.m 4).1=some b4:=(S2.lC 4 _ (by decide) t4).elim fun _ q=>q.2.trans g4.1
     have k5:(Z.m 5).1=some b5:=(S2.lC 5 _ (by decide) t5).elim fun _ q=>q.2.trans g5.1
     obtain ⟨x2,c2,f2,_⟩:=vY hZ t2 k2
     obtain ⟨x3,c3,f3,r3⟩:=vY hZ t3 k3
     obtain ⟨x4,c4,f4,r4⟩:=vY hZ t4 k4
     obtain ⟨x5,c5,f5,r5⟩:=vY hZ t5 k5
     have y3:=nU r3
     have y4:=nU r4
     have y5:=nU r5
     subst y3 y4 y5
     have nn: ∀ {i j bi bj:Nat} {ci cj:List AV},Z.h[i]? =some (some (.blk ci))→Z.h[j]? =some (some (.blk cj))→(Z.m i).1=some bi→(Z.m j).1=some bj→i≠j→bi≠bj:=fun h1 h2 h3 h4 hn he=>hn (hZ.inj _ _ _ ⟨_,h1⟩ ⟨_,h2⟩ h3 (he▸h4))
     have n52:=nn t5 t2 k5 k2 (by decide)
     have n53:=nn t5 t3 k5 k3 (by decide)
     have n54:=nn t5 t4 k5 k4 (by decide)
     have n23:=nn t2 t3 k2 k3 (by decide)
     have n24:=nn t2 t4 k2 k4 (by decide)
     have n34:=nn t3 t4 k3 k4 (by decide)
     refine (abh b5 b2 b3 b4 e' i x2 i0 e0 Z.w c5 c2 c3 c4 f2 f3 f4 n52 n53 n54 n23 n24 n34).mono ?_
     rintro e3 u' w'' ⟨rfl,rfl,hw⟩
     have SS:Step (X0.def_ [d]) Z:=aP.full (by show aP X0.h.length _ _;rw [hh];exact aP.trans hX0.def_ (aP.defs S) (aP.weak S2))
     have hnm: ∀ b, ¬ (X0.def_ [d]).mine b:=fun b ⟨i,⟨o,ho⟩,_⟩=>by
      have ho':X0.h[i]? =some (some o):=ho
      rw [hh] at ho';simp at ho'
     have hB:Below X0.w.heap.size X0.w Z.w:=SS.below hnm
     have ge: ∀ {i b:Nat} {c:List AV},Z.h[i]? =some (some (.blk c))→(Z.m i).1=some b→X0.w.heap.size≤b:=fun h1 h2=>(SS.own _ ⟨_,⟨_,h1⟩,h2⟩).elim id fun q=>absurd q (hnm _)
     have l2:=World.block_lt_of_cell? Z.w _ c2
     have l3:=World.block_lt_of_cell? Z.w _ c3
     have l4:=World.block_lt_of_cell? Z.w _ c4
     simp only at l2 l3 l4
     have hbel:Below X0.w.heap.size X0.w w'':=by
      rw [hw]
      exact ((((hB.alloc hB.size _).setCell (ge t2 k2) _).setCell (ge t3 k3) _).setCell (ge t4 k4) _).drew
     have p2:w''.cell? ⟨b2,0,none⟩=some (.slice none 0 0):=by
      rw [hw]
      show World.cell? (World.setCell (World.setCell (World.setCell _ _ _) _ _) _ _) _=_
      rw [World.cell?_setCell_far _ _ _ _ (fun q=>n24 q.symm),World.cell?_setCell_far _ _ _ _ (fun q=>n23 q.symm)]
      exact World.cell?_setCell_same _ _ _ (by simp [go_sem,l2];exact c2)
     have p3:w''.cell? ⟨b3,0,none⟩=some (.int .i64 i):=by
      rw [hw]
      show World.cell? (World.setCell (World.setCell (World.setCell _ _ _) _ _) _ _) _=_
      rw [World.cell?_setCell_far _ _ _ _ (fun q=>n34 q.symm)]
      exact World.cell?_setCell_same _ _ _ ((World.cell?_setCell_far _ _ _ _ n23).trans (by simp [go_sem,l3];exact c3))
     have p4:w''.cell? ⟨b4,0,none⟩=some (.int .i64 e'):=by
      rw [hw]
      show World.cell? (World.setCell (World.setCell (World.setCell _ _ _) _ _) _ _) _=_
      exact World.cell?_setCell_same _ _ _ ((World.cell?_setCell_far _ _ _ _ n34).trans ((World.cell?_setCell_far _ _ _ _ n24).trans (by simp [go_sem,l4];exact c4)))
     have q4:=hEZ.rep 4
     have q5:=hEZ.rep 5
     have q6:=hEZ.rep 6
     rw [u4] at q4
     rw [u5] at q5
     rw [u6] at q6
     obtain ⟨d4,m4,w4⟩:=jS q4 t2
     obtain ⟨d5,m5,w5⟩:=jS q5 t3
     obtain ⟨d6,m6,w6⟩:=jS q6 t4
     rw [k2] at m4;injection m4 with m4;subst m4
     rw [k3] at m5;injection m5 with m5;subst m5
     rw [k4] at m6;injection m6 with m6;subst m6
     show Leaves _ _ _ _ [] (settle _) w''
     refine ⟨.tuple #[.slice none 0 0, .int .i64 i, .int .i64 e'],?_,_,⟨w'',fun _=>(none,0),[],X0.bad,X0.ds⟩,typeA (iJ me c ru),rfl,rfl,?_,?_,?_,rfl⟩
     ·rw [Array.getD_eq_getD_getElem?] at w4 w5 w6
      simp [results,Tryz.results19,go_sem,w4,w5,w6,p2,p3,p4]
     ·have hlen0:X0.h.length=0:=by rw [hh];rfl
      refine ⟨hbel.os,hbel.tape,hbel.output,hbel.size,fun b hb _=>hbel.block b hb,fun b o y h1 h2=>⟨?_,h2⟩,by rw [hlen0];exact Nat.zero_le _,fun i _ _ _ _ hi=>by omega,fun i _ hi=>by omega,fun b ⟨j,⟨o,ho⟩,_⟩=>by simp at ho,fun b o h=> .inl h,fun i _ hi=>by omega,rfl⟩
      have hlt:=dO h1
      unfold cellAt World.cell? at h1 ⊢
      rw [hbel.block b hlt];exact h1
     ·exact IW rfl fun b o h=>Nat.lt_of_lt_of_le (hX0.eG b o h) hbel.size
     ·rw [hq]
      exact (show Wk (DT i e') (typeA ([],i,e')) from Wk.tup ⟨Wk.nil 2,Wk.refl _,Wk.refl _,trivial⟩) _ _ (.tup (cells:=[.v (.slice none 0 0), .v (.int .i64 i), .v (.int .i64 e')]) (cvs:=[_,_,_]) rfl (fun j a y h1 h2=>by
       match j with
       | 0=>simp at h1 h2;subst h1 h2;exact .v _
       | 1=>simp at h1 h2;subst h1 h2;exact .v _
       | 2=>simp at h1 h2;subst h1 h2;exact .v _
       | j+3=>simp at h1))
 ·intro Y e a S hY hE hq
  have hds:a.defers=[]:=hE.defers.trans S.dse
  have S0:Step (X0.def_ []) Y:=aP.full (by show aP X0.h.length _ _;rw [hh];exact S)
  show Leaves _ _ _ _ a.defers .returning Y.w
  rw [hds]
  obtain ⟨r,r',h',h1,h2,i,e',hq2,rfl⟩:=hq
  obtain ⟨v,q1,q2⟩:=zx (fn:=Tryz.f19) hY hE (by rw [Tryz.results19];exact h1)
  obtain ⟨Z,z1,z2,z3,z4,z5⟩:=qR Y r _ h' v hY h2 q2
  refine ⟨v,q1,v,Z.def_ X0.ds,_,rfl,z1,(S0.trans hX1 z2).undef,z3.def_,(show Wk (DT i e') (typeA (iJ me c ru)) from ?_) _ _ z5.def_,rfl⟩
  rw [hq2]
  exact Wk.tup ⟨Wk.nil 2,Wk.refl _,Wk.refl _,trivial⟩
end
section
open Go.RowKit Wv
def ruP (t:Int):Ex→Nat→Except Int Nat
 | .nil,_=> .ok 0
 | .mk k s n nl li na ar,unk=>if k=2 then (if lq t n=true then .ok 0 else .error 233) else if k=7 then .ok (if unk<2 then 0 else 1) else if k=14 then (if WC n=true then .ok (dD n) else .error 233) else .ok 0
def ksP (e:Ex):Prop:=e.kind=1∨e.kind=2∨e.kind=7∨e.kind=14
theorem FN: ∀ (f x:Nat),Lib.bitLenAux f x≤f
 | 0,x=>Nat.le_refl _
 | f+1,x=>by
  unfold Lib.bitLenAux
  split
  ·exact Nat.zero_le _
  ·have:=FN f (x / 2);omega
theorem qF (n:Int):dD n≤64:=by
 unfold dD
 split
 ·exact Nat.zero_le _
 ·exact FN 64 _
theorem HY {k:Int} {s:ByteArray} {n:Int} {nl:Nat} {li:Nat→Int} {na:Nat} {ar:Nat→Ex} (h:cu (.mk k s n nl li na ar)=true):inB n=true:=by
 unfold cu at h
 simp only [Bool.and_eq_true] at h
 exact h.2.2.2.2.2.2.1
theorem ahh (x:Par) (t:Int) (ns:Nms) (ht:1≤t) (ht':t≤4611686018427387904):zH x t ns (ruP t) ksP:=by
 intro e unk hk ho hf hu
 obtain ⟨k,s,n,nl,li,na,ar,rfl⟩:=nN ho
 have hin:=HY hf
 have hk':k=1∨k=2∨k=7∨k=14:=hk
 rcases hk' with rfl | rfl | rfl | rfl
 ·exact ⟨fun m h=>by injection h with h;subst h;exact Nat.zero_le _,rfl⟩
 ·refine ⟨fun m h=>?_,vP x t ns 2 s n nl li na ar unk hin ht ht'⟩
  have h':(if lq t n=true then Except.ok 0 else .error 233)=(Except.ok m:Except Int Nat):=h
  split at h'
  ·injection h' with h';subst h';exact Nat.zero_le _
  ·cases h'
 ·refine ⟨fun m h=>?_,sK x t ns _ ho unk⟩
  have h':(Except.ok (if unk<2 then 0 else 1):Except Int Nat)= .ok m:=h
  injection h' with h'
  subst h'
  split<;>omega
 ·refine ⟨fun m h=>?_,yM x t ns 14 s n nl li na ar unk⟩
  have h':(if WC n=true then Except.ok (dD n) else .error 233)=(Except.ok m:Except Int Nat):=h
  split at h'
  ·injection h' with h';subst h';exact Nat.le_trans (qF n) (by omega)
  ·cases h'
def nmX (s:ByteArray):Ex:= .mk 1 s 0 0 (fun _=>0) 0 fun _=> .nil
def muX (a b:Ex):Ex:= .mk 7 ⟨#[]⟩ 0 0 (fun _=>0) 2 fun i=>match i with | 0=>a | 1=>b | _=> .nil
theorem Py (s:ByteArray) (h:s.size≤140737488351232):okE (nmX s):=⟨h,by omega,by omega,fun i hi=>by omega⟩
theorem ahi (a b:Ex) (ha:okE a) (hb:okE b):okE (muX a b):=⟨by decide,by omega,by omega,fun i hi=>by
 match i,hi with
 | 0,_=>exact ha
 | 1,_=>exact hb⟩
end
section
open Go.RowKit Wv
def DU (x:Par) (t:Nat):Bool:=decide (x.r=1) && decide ((t:Int)≤256)
def Pz (x:Par) (t:Nat) (nl:Nat) (li:Nat→Int):Except Int Nat:=if DU x t=true then (if jW t nl li t t=true then .ok (yZ t li) else .error 233) else .error 231
def H6 (t:Nat) (n:Int):Bool:=decide (0≤n) && decide (n≤(t:Int))
def vZ (n:Int) (v:Nat):Int:=if (v:Int)<n then 1 else 0
def PD (x:Par) (t:Nat) (n:Int):Except Int Nat:=if DU x t=true then (if H6 t n=true then .ok (yZ t (vZ n)) else .error 233) else .error 231
theorem U6 {t nl:Nat} {li:Nat→Int} (h:jW t nl li t t=true):nl=t∧ ∀ i,i<t→lq t (li i)=true:=by
 unfold jW at h
 simp only [Bool.and_eq_true,decide_eq_true_eq,Bool.not_eq_true'] at h
 obtain ⟨h1,h2,h3⟩:=h
 have e:nl=t:=by omega
 subst e
 refine ⟨rfl,fun i hi=>?_⟩
 unfold bg at h3
 have:=List.any_eq_false.1 h3 i (List.mem_range.2 hi)
 simpa using this
theorem abn {t:Nat} {n:Int} (h:lq t n=true):0≤n+t∧n≤t:=by
 unfold lq at h
 have h':=of_decide_eq_true h
 split at h'<;>constructor<;>omega
theorem take2 {h:Hp} {a b c:Option Ob} (q:List.take 3 h=[a,b,c]):List.take 2 h=[a,b]:=by
 have:List.take 2 h=List.take 2 (List.take 3 h):=by rw [List.take_take];rfl
 rw [this,q];rfl
theorem Nv (x : Par) (t : Nat) (ns : Nms) (k : Int) (s : ByteArray) (n : Int) (nl : Nat) (li : Nat → Int) (na : Nat) (ar : Nat → Ex) (unk : Nat) (hn : nl ≤ 140737488351232) (hin : ∀ i, i < nl → inB (li i) = true) (ht : 2 ≤ t) (ht' : t ≤ 4611686018427387904) :
    iU x t ns 170 (.mk k s n nl li na ar) unk (Pz x t nl li) := by
  refine iU.of ?_
  have hR : Pz x t nl li = if DU x t = true then (if jW t nl li t t = true then .ok (yZ t li) else .error 233) else .error 231 := rfl
  have hF : DU x t = (decide (x.r = 1) && decide ((t : Int) ≤ 256)) := rfl
  have hY := yP x t ns nl li t t hn hin (by omega) (by omega)
  have hZ := CQ x t ns nl li t t hn hin (by omega) (by omega)
  have hB := U6 (t := t) (nl := nl) (li := li)
  rw [dA]
  have hM := dG (n := na) (f := fun i => exC (ar i)) fun i _ => eF (ar i)
  generalize bT na (fun i => exC (ar i)) = M at *
  have abo := fun (h2 : t ≤ 256) (hb : jW t nl li t t = true) => CW x t ns [.v (.int .i64 k), .v (.string s), .v (.int .i64 n), .t nl 1 (tab nl fun i => .v (.int .i64 (li i))), .t na 5 M] 217 li ht h2
    (fun h hh v hv => O9 k s n nl li (.t na 5 M) (.t hM) hh v (by rw [(hB hb).1]; exact hv) hn) (fun v hv => (abn ((hB hb).2 v hv)).1) (fun v hv => by have := (abn ((hB hb).2 v hv)).2; omega)
  clear hB
  generalize hbb : jW t nl li t t = b at *
  clear hbb
  generalize yZ t li = dg at *
  generalize DU x t = fb at *
  generalize Pz x t nl li = R at *
  unfold hT tyC at *
  simp only [List.cons_append, List.nil_append] at abo
  obtain ⟨c, hc⟩ : ∃ c : Nat, c = if b = true then 0 else 1 := ⟨_, rfl⟩
  refine Wv.HTP.by 36 [1, 0, 4, 6] [(2, 12), (1000000, 2), (4000002, c)] [.tmp 6] Tryz.func170 rfl rfl rfl ?base ?_
  case base => rfl
  cases h1 : decide (x.r = 1) <;> cases h2 : decide ((t : Int) ≤ 256)
  all_goals
    rw [h1, h2] at hF
    simp (disch:=first|exact Wv.D|fail) only [Wv.B, simprocAttr, h1, h2]
    first
    | (have hfb : fb = false := hF
       subst hfb
       refine bf (fst := []) (cap := []) (aZ _ 231) (by rintro av h' ⟨hb, _⟩; cases hb) ?_
       rintro av h' ⟨_, rfl, rfl⟩
       simp (disch:=first|exact Wv.D|fail) only [Wv.B, simprocAttr, bJ]
       exact ⟨231, hR, rfl⟩)
    | skip
  have hfb : fb = true := hF
  subst hfb
  have abp : t ≤ 256 := by have := of_decide_eq_true h2; omega
  refine bf (fst := []) (cap := []) (aZ _ 231) ?_ (by rintro av h' ⟨hb, _⟩; cases hb)
  rintro av h' ⟨_, rfl, rfl⟩
  cases b with
  | false =>
    have hc1 : c = 1 := hc
    refine Wv.W ?_
    refine eu (fst := []) (cap := []) (hZ rfl (.t 1 1 []) _) ?_ ?_
    · simp (disch:=first|exact Wv.D|fail) only [Wv.B, simprocAttr, hc1]
      exact ⟨11, _, _, rfl, rfl, rfl, rfl, rfl⟩
    · rintro av h' ⟨rfl, rfl⟩
      simp (disch:=first|exact Wv.D|fail) only [Wv.B, simprocAttr, bJ]
      exact ⟨233, hR, rfl⟩
  | true =>
    have hc1 : c = 0 := hc
    refine Wv.W ?_
    refine eu (fst := []) (cap := []) (hY rfl _) ?_ (fun _ _ q => q.elim)
    simp (disch:=first|exact Wv.D|fail) only [Wv.B, simprocAttr, hc1]
    refine dF (fst := []) (cap := []) (abo abp rfl) ?_
    rintro av h' ⟨rfl, hh'⟩
    refine Wv.W ?_
    exact ⟨⟨dg, hR, rfl⟩, take2 hh'⟩
theorem PE (x : Par) (t : Nat) (ns : Nms) (k : Int) (s : ByteArray) (n : Int) (nl : Nat) (li : Nat → Int) (na : Nat) (ar : Nat → Ex) (unk : Nat) (ht : 2 ≤ t) :
    iU x t ns 171 (.mk k s n nl li na ar) unk (PD x t n) := by
  refine iU.of ?_
  have hR : PD x t n = if DU x t = true then (if H6 t n = true then .ok (yZ t (vZ n)) else .error 233) else .error 231 := rfl
  have hF : DU x t = (decide (x.r = 1) && decide ((t : Int) ≤ 256)) := rfl
  have hB : H6 t n = (decide (0 ≤ n) && decide (n ≤ (t : Int))) := rfl
  rw [dA]
  have hM := dG (n := na) (f := fun i => exC (ar i)) fun i _ => eF (ar i)
  generalize bT na (fun i => exC (ar i)) = M at *
  have abo := fun (h2 : t ≤ 256) => CW x t ns [.v (.int .i64 k), .v (.string s), .v (.int .i64 n), .t nl 1 (tab nl fun i => .v (.int .i64 (li i))), .t na 5 M] 218 (vZ n) ht h2
    (fun h hh v hv => WX k s n (.t nl 1 (tab nl fun i => .v (.int .i64 (li i)))) (.t na 5 M) hh v) (fun v hv => by unfold vZ; split <;> omega) (fun v hv => by unfold vZ; split <;> omega)
  generalize yZ t (vZ n) = dg at *
  generalize DU x t = fb at *
  generalize H6 t n = b at *
  generalize PD x t n = R at *
  unfold hT tyC at *
  simp only [List.cons_append, List.nil_append] at abo
  obtain ⟨c, hc⟩ : ∃ c : Nat, c = if b = true then 0 else 1 := ⟨_, rfl⟩
  refine Wv.HTP.by 37 [1, 0, 4, 6] [(2, 13), (1000000, 2), (4000002, c)] [.tmp 6] Tryz.func171 rfl rfl rfl ?base ?_
  case base => rfl
  cases h1 : decide (x.r = 1) <;> cases h2 : decide ((t : Int) ≤ 256)
  all_goals
    rw [h1, h2] at hF
    simp (disch:=first|exact Wv.D|fail) only [Wv.B, simprocAttr, h1, h2]
    first
    | (have hfb : fb = false := hF
       subst hfb
       refine bf (fst := []) (cap := []) (aZ _ 231) (by rintro av h' ⟨hb, _⟩; cases hb) ?_
       rintro av h' ⟨_, rfl, rfl⟩
       simp (disch:=first|exact Wv.D|fail) only [Wv.B, simprocAttr, bJ]
       exact ⟨231, hR, rfl⟩)
    | skip
  have hfb : fb = true := hF
  subst hfb
  have abp : t ≤ 256 := by have := of_decide_eq_true h2; omega
  refine bf (fst := []) (cap := []) (aZ _ 231) ?_ (by rintro av h' ⟨hb, _⟩; cases hb)
  rintro av h' ⟨_, rfl, rfl⟩
  cases h3 : decide (0 ≤ n) <;> cases h4 : decide (n ≤ (t : Int))
  all_goals
    rw [h3, h4] at hB
    simp (disch:=first|exact Wv.D|fail) only [Wv.B, simprocAttr, h3, h4]
    first
    | (have hbt : b = true := hB
       subst hbt
       have hc1 : c = 0 := hc
       refine eu (fst := []) (cap := []) (uo 233) ?_ (fun _ _ q => q.elim)
       simp (disch:=first|exact Wv.D|fail) only [Wv.B, simprocAttr, hc1]
       refine dF (fst := []) (cap := []) (abo abp) ?_
       rintro av h' ⟨rfl, hh'⟩
       refine Wv.W ?_
       exact ⟨⟨dg, hR, rfl⟩, take2 hh'⟩)
    | (have hbt : b = false := hB
       subst hbt
       have hc1 : c = 1 := hc
       refine eu (fst := []) (cap := []) (rE 233 (.t 1 1 [])) ?_ ?_
       · simp (disch:=first|exact Wv.D|fail) only [Wv.B, simprocAttr, hc1]
         exact ⟨12, _, _, rfl, rfl, rfl, rfl, rfl⟩
       · rintro av h' ⟨rfl, rfl⟩
         simp (disch:=first|exact Wv.D|fail) only [Wv.B, simprocAttr, bJ]
         exact ⟨233, hR, rfl⟩)
def ruA (x:Par) (t:Nat):Ex→Nat→Except Int Nat
 | .nil,_=> .ok 0
 | .mk k s n nl li na ar,unk=>
  if k=2 then (if lq t n=true then .ok 0 else .error 233)
  else if k=3 then (if jW t nl li 0 x.n=true then .ok 0 else .error 233)
  else if k=7 then .ok (if unk<2 then 0 else 1)
  else if k=8 then (if adi x n=true then .ok 0 else .error 233)
  else if k=10 then (if UW x nl li=true then .ok 0 else .error 233)
  else if k=14 then (if WC n=true then .ok (dD n) else .error 233)
  else if k=11 then Pz x t nl li
  else if k=13 then PD x t n
  else if k=12 then (if x.r=1 then .ok (dD ((t:Int) - 1)) else .error 231)
  else .ok 0
def ksA (e:Ex):Prop:=True
theorem ahj: ∀ (e:Ex),okE e→xw ksA e:=by
 intro e
 induction e with
 | nil=>intro h;exact h.elim
 | mk k s n nl li na ar ih=>exact fun h=>⟨trivial,fun i hi=>ih i (h.2.2.2 i hi)⟩
theorem FP {k:Int} {s:ByteArray} {n:Int} {nl:Nat} {li:Nat→Int} {na:Nat} {ar:Nat→Ex} (h:cu (.mk k s n nl li na ar)=true): ∀ i,i<nl→inB (li i)=true:=by
 unfold cu at h
 simp only [Bool.and_eq_true,Bool.not_eq_true'] at h
 have h8:=h.2.2.2.2.2.2.2.1
 intro i hi
 unfold bg at h8
 have:=List.any_eq_false.1 h8 i (List.mem_range.2 hi)
 simpa using this
theorem U7 (t:Nat) (f:Nat→Int):yZ t f≤64:=qF _
theorem ahk (x:Par) (t:Nat) (ns:Nms) (ht:2≤t) (ht':t≤4611686018427387904) (hN:0≤x.n) (hN':x.n≤4611686018427387904):zH x t ns (ruA x t) ksA:=by
 intro e unk _ ho hf hu
 obtain ⟨k,s,n,nl,li,na,ar,rfl⟩:=nN ho
 have hin:=HY hf
 have hli:=FP hf
 have hnl:nl≤140737488351232:=ho.2.1
 obtain ⟨⟨hk1,hk2⟩,_⟩:=oM hf
 have hk:k=1∨k=2∨k=3∨k=4∨k=5∨k=6∨k=7∨k=8∨k=9∨k=10∨k=11∨k=12∨k=13∨k=14∨k=15:=by omega
 have z: ∀ {b:Bool} {v:Nat} {er:Int} (m:Nat),v≤64→(if b=true then Except.ok v else .error er)=(Except.ok m:Except Int Nat)→m≤4294967296:=fun {b v er} m hv h=>by
  split at h
  ·injection h with h;omega
  ·cases h
 rcases hk with rfl | rfl | rfl | rfl | rfl | rfl | rfl | rfl | rfl | rfl | rfl | rfl | rfl | rfl | rfl
 ·exact ⟨fun m h=>by injection h with h;subst h;exact Nat.zero_le _,rfl⟩
 ·exact ⟨fun m h=>z m (Nat.zero_le _) h,vP x t ns 2 s n nl li na ar unk hin (by omega) (by omega)⟩
 ·exact ⟨fun m h=>z m (Nat.zero_le _) h,Hf x t ns 3 s n nl li na ar unk hnl hli (by omega) (by omega)⟩
 ·exact ⟨fun m h=>by injection h with h;subst h;exact Nat.zero_le _,rfl⟩
 ·exact ⟨fun m h=>by injection h with h;subst h;exact Nat.zero_le _,rfl⟩
 ·exact ⟨fun m h=>by injection h with h;subst h;exact Nat.zero_le _,rfl⟩
 ·refine ⟨fun m h=>?_,sK x t ns _ ho unk⟩
  have h':(Except.ok (if unk<2 then 0 else 1):Except Int Nat)= .ok m:=h
  injection h' with h'
  subst h'
  split<;>omega
 ·exact ⟨fun m h=>z m (Nat.zero_le _) h,WS x t ns 8 s n nl li na ar unk hN hN'⟩
 ·exact ⟨fun m h=>by injection h with h;subst h;exact Nat.zero_le _,rfl⟩
 ·exact ⟨fun m h=>z m (Nat.zero_le _) h,OX x t ns 10 s n nl li na ar unk hnl⟩
 ·refine ⟨fun m h=>?_,Nv x t ns 11 s n nl li na ar unk hnl hli ht (by omega)⟩
  have h':Pz x t nl li= .ok m:=h
  unfold Pz at h'
  split at h'
  ·exact z m (U7 _ _) h'
  ·cases h'
 ·refine ⟨fun m h=>?_,MR x t ns 12 s n nl li na ar unk (by omega) (by omega)⟩
  have h':(if x.r=1 then Except.ok (dD ((t:Int) - 1)) else .error 231)=(.ok m:Except Int Nat):=h
  split at h'
  ·injection h' with h';subst h';exact Nat.le_trans (qF _) (by omega)
  ·cases h'
 ·refine ⟨fun m h=>?_,PE x t ns 13 s n nl li na ar unk ht⟩
  have h':PD x t n= .ok m:=h
  unfold PD at h'
  split at h'
  ·exact z m (U7 _ _) h'
  ·cases h'
 ·exact ⟨fun m h=>z m (qF _) h,yM x t ns 14 s n nl li na ar unk⟩
 ·exact ⟨fun m h=>by injection h with h;subst h;exact Nat.zero_le _,rfl⟩
end
section
open Go.RowKit Wv
theorem xG (n:Nat) (f:Nat→Nat) (hn:n≤2000000000):TC Tryz.prog 258 [eU n f] (bM (aV (ofT n f))):=by
 rw [Fz,MZ]
 have hc:=jP (cZ f n) f
 unfold eU
 refine Wv.TC.by 24 [0,3,16,4,2] [] [.tmp 2] Tryz.func258 rfl rfl rfl ?clo ?_
 case clo=>simp only [Wv.BC]
 refine Wv.W ?_
 refine dQ (σ:=Nat) (fun k=>[(0,eU n f),(3, .v (.int .i64 k))]) (fun k=>[]) (fun k=>k≤n∧cZ f k=cZ f n) (fun k=>k) n ⟨Nat.le_refl _,rfl⟩ Wv.V (by simp (disch:=first|exact Wv.D|fail) only [Wv.B,simprocAttr,eU]) ?_
 rintro k ⟨hk,he⟩
 unfold eU
 cases k with
 | zero=>
  have e0:cZ f n=0:=he.symm
  simp (disch:=first|exact Wv.D|fail) only [Wv.B,simprocAttr,e0]
 | succ k=>
  have e1:((k+1:Nat):Int) - 1=(k:Int):=by omega
  have e2:(0:Int)<((k+1:Nat):Int):=by omega
  by_cases hd:f k=0
  ·have he':cZ f k=cZ f n:=by rw [←he,gJ,if_pos hd]
   simp (disch:=first|exact Wv.D|fail) only [Wv.B,simprocAttr,e1,decide_eq_true e2,hd]
   refine aH k ⟨by omega,he'⟩ (by omega) Wv.V Wv.V
  ·have he':cZ f n=k+1:=by rw [←he,gJ,if_neg hd]
   have hd': ¬ ((f k:Nat):Int)=0:=by omega
   simp (disch:=first|exact Wv.D|fail) only [Wv.B,simprocAttr,e1,decide_eq_true e2,decide_eq_false hd',he']
theorem zN (n:Nat) (f:Nat→Nat) (i:Nat) (hn:n≤140737488351232) (hf:f i≤4294967295):TC Tryz.prog 266 [eU n f, .v (.int .i64 i)] (.v (.int .u64 (if i<n then f i else 0:Nat))):=by
 unfold eU
 refine Wv.TC.by 18 [1,0,12,4] [] [.tmp 4] Tryz.func266 rfl rfl rfl ?clo ?_
 case clo=>simp only [Wv.BC]
 have h0: ¬ (i:Int)<0:=by omega
 by_cases h:i<n
 ·have h1: ¬ (n:Int)≤(i:Int):=by omega
  rw [if_pos h]
  simp (disch:=first|exact Wv.D|fail) only [Wv.B,simprocAttr,decide_eq_false h0,decide_eq_false h1]
 ·have h1:(n:Int)≤(i:Int):=by omega
  rw [if_neg h]
  simp (disch:=first|exact Wv.D|fail) only [Wv.B,simprocAttr,decide_eq_false h0,decide_eq_true h1]
theorem abq (a n:Nat) (h1:2≤n) (h2:n≤2147483647) (ha:a<n):TC Tryz.prog 256 [.v (.int .u32 a), .v (.int .u32 n)] (.tup [.v (.int .u32 (jg a n).1), .v (.bool (decide (Nat.gcd n a=1)))]):=by
 refine Wv.TC.by 42 [1,0,7,16,6,10,9,8,33,35,4,5] [] [.tmp 4, .tmp 5] Tryz.func256 rfl rfl rfl ?clo ?_
 case clo=>simp only [Wv.BC]
 refine Wv.W ?_
 have HS:=EuI.start h1 ha
 refine dQ (σ:=Nat × Nat × Int × Int) (fun s=>[(1, .v (.int .u32 n)),(6, .v (.int .i64 (s.1:Nat))),(7, .v (.int .i64 (s.2.1:Nat))),(8, .v (.int .i64 s.2.2.1)),(9, .v (.int .i64 s.2.2.2))]) (fun s=>[])
  (fun s=>EuI n a s.1 s.2.1 s.2.2.1 s.2.2.2) (fun s=>s.2.1) (n,a,0,1) HS Wv.V Wv.V ?_
 rintro ⟨x,y,u,v⟩ he
 simp only at he ⊢
 by_cases hy:0<y
 ·have hy0: ¬ ((y:Int)=0):=by omega
  have hs:=he.step hy
  have hxn:=he.xn
  have hu0:=he.u0
  have hu1:=he.u1
  have hv0':=hs.v0
  have aj6:=hs.v1
  have hdm:=Nat.div_add_mod x y
  have hr:x % y<y:=Nat.mod_lt _ hy
  have edt:(x:Int).tdiv (y:Int)=((x / y:Nat):Int):=by rw [Int.tdiv_eq_ediv_of_nonneg (by omega)];exact (Int.natCast_ediv x y).symm
  generalize x / y=q at*
  generalize x % y=r at*
  have hqy:((y*q+r:Nat):Int)=(x:Int):=by rw [hdm]
  rw [Int.natCast_add,Int.natCast_mul,Int.mul_comm] at hqy
  have hq0:(0:Int)≤(q:Int)*(y:Int):=Int.mul_nonneg (by omega) (by omega)
  have hqx:(q:Int)≤(x:Int):=by
   have h:(q:Int)*1≤(q:Int)*(y:Int):=Int.mul_le_mul_of_nonneg_left (by omega) (by omega)
   omega
  have e2:IntKind.i64.wrap ((q:Int)*(y:Int))=(q:Int)*(y:Int):=by rw [IntKind.wrap_i64];omega
  have e3:(x:Int) - (q:Int)*(y:Int)=(r:Int):=by omega
  have e4:IntKind.i64.wrap ((q:Int)*v)=(q:Int)*v:=by rw [IntKind.wrap_i64];omega
  have e5:IntKind.i64.wrap (u - (q:Int)*v)=u - (q:Int)*v:=by rw [IntKind.wrap_i64];omega
  simp (disch:=first|exact Wv.D|fail) only [Wv.B,simprocAttr,decide_eq_false hy0,edt,e2,e3,e4,e5]
  refine aH (y,r,v,u - (q:Int)*v) hs hr Wv.V Wv.V
 ·obtain rfl:y=0:=by omega
  have hg:=he.gc
  rw [Nat.gcd_zero_right] at hg
  by_cases hx:x=1
  ·have hi:jg a n=(OZ a n,0):=if_pos (by rw [←hg,hx])
   have hgg:Nat.gcd n a=1:=by rw [←hg,hx]
   obtain ⟨f1,f2,f3⟩:=he.fin h1 hx
   subst hx
   have hf:WT u n=if u<0 then u+n else u:=rfl
   have hu0:=he.u0
   have hu1:=he.u1
   by_cases hu:u<0
   ·rw [if_pos hu] at hf
    simp (disch:=first|exact Wv.D|fail) only [Wv.B,simprocAttr,decide_eq_true hu,hi,decide_eq_true hgg]
    rw [←f3,hf]
   ·rw [if_neg hu] at hf
    simp (disch:=first|exact Wv.D|fail) only [Wv.B,simprocAttr,decide_eq_false hu,hi,decide_eq_true hgg]
    rw [←f3,hf]
  ·have hgg: ¬ Nat.gcd n a=1:=fun e=>hx (by rw [hg,e])
   have hi:jg a n=(0,4):=if_neg hgg
   have hx': ¬ ((x:Int)=1):=by omega
   simp (disch:=first|exact Wv.D|fail) only [Wv.B,simprocAttr,decide_eq_false hx',hi,decide_eq_false hgg]
def Xa (m:Nat) (p q:Nat) (f g:Nat→Nat) (i:Nat):Nat:=((if i<p then f i else 0)+m - (if i<q then g i else 0)) % m
def minL (m:Nat) (a b:List Nat):List Nat:=aV (ofT (max a.length b.length) (Xa m a.length b.length (fun i=>a.getD i 0) (fun i=>b.getD i 0)))
theorem Nw (m:Nat) (a b:List Nat) (h1:2≤m) (h2:m≤2147483647) (ha: ∀ i,a.getD i 0<m) (hb: ∀ i,b.getD i 0<m) (hn:a.length≤1000000000) (hk:b.length≤1000000000):
  TC Tryz.prog 259 [.v (.int .u32 m),bM a,bM b] (bM (minL m a b)):=by
 unfold minL bM
 obtain ⟨N,hN⟩: ∃ N,N=max a.length b.length:=⟨_,rfl⟩
 have hT:=xG (max a.length b.length) (Xa m a.length b.length (fun i=>a.getD i 0) (fun i=>b.getD i 0)) (by omega)
 generalize (aV (ofT (max a.length b.length) (Xa m a.length b.length (fun i=>a.getD i 0) (fun i=>b.getD i 0))))=R at*
 have hRc:=aS R
 unfold bM at hT hRc
 obtain ⟨f,hf⟩: ∃ f:Nat→Nat,f=fun i=>a.getD i 0:=⟨_,rfl⟩
 obtain ⟨g,hg⟩: ∃ g:Nat→Nat,g=fun i=>b.getD i 0:=⟨_,rfl⟩
 have ef: ∀ i,a.getD i 0=f i:=fun i=>by rw [hf]
 have eg: ∀ i,b.getD i 0=g i:=fun i=>by rw [hg]
 simp only [ef,eg] at*
 clear ef eg hf hg
 generalize a.length=p at*
 generalize b.length=q at*
 have hmy:(if (q:Int)>(p:Int) then (q:Int) else (p:Int))=(N:Int):=by rw [hN];split<;>omega
 have hNN:N≤1000000000:=by omega
 rw [←hN] at hT
 clear hN
 have TA:=fun i=>zN p f i (by omega) (by have:=ha i;omega)
 have TB:=fun i=>zN q g i (by omega) (by have:=hb i;omega)
 have hcf:=jP p f
 have hcg:=jP q g
 have hx: ∀ i,(if i<p then f i else 0)<m:=fun i=>by split;exact ha i;omega
 have hy: ∀ i,(if i<q then g i else 0)<m:=fun i=>by split;exact hb i;omega
 have hF: ∀ i,Xa m p q f g i=((if i<p then f i else 0)+m - (if i<q then g i else 0)) % m:=fun i=>rfl
 generalize Xa m p q f g=F at*
 unfold eU at*
 refine Wv.TC.by 37 [8,1,2,15,7,0,6] [] [.tmp 6] Tryz.func259 rfl rfl rfl ?clo ?_
 case clo=>exact hRc
 refine Wv.W ?_
 refine qj (σ:=Nat) (fun i=>[(0, .v (.int .u32 m)),(1, .t p 1 (tab p fun i=> .v (.int .u32 (f i:Nat)))),(2, .t q 1 (tab q fun i=> .v (.int .u32 (g i:Nat)))),(7, .own 0 i),(8, .v (.int .i64 i))])
  (fun i=>[some (.arr 22 1 (tab i fun i=> .v (.int .u32 (F i:Nat))) 0)]) (fun i=>i≤N) (fun i=>N - i) 0 (Nat.zero_le _) ?_ ?_
 ·refine Ent.trans (Ent.nil 7 22 1 (by omega) rfl) (Ent.fit ?_)
  exact Wv.V
 intro i hi
 by_cases hlt:i<N
 ·have e1:(i:Int)<N:=by omega
  have tA:=TA i
  have tB:=TB i
  have hx:=hx i
  have hy:=hy i
  have hF':=hF i
  generalize (if i<p then f i else 0)=x at*
  generalize (if i<q then g i else 0)=y at*
  have e7:IntKind.u32.wrap (((x:Int)+(m:Int) - (y:Int)) % (m:Int))=(F i:Int):=by
   have h8:(((x+m - y) % m:Nat):Int)=((x:Int)+(m:Int) - (y:Int)) % (m:Int):=by rw [Int.natCast_emod,Int.natCast_sub (by omega),Int.natCast_add]
   have h9:(x+m - y) % m<m:=Nat.mod_lt _ (by omega)
   rw [←h8,IntKind.wrap_u32,hF']
   omega
  simp (disch:=first|exact Wv.D|fail) only [Wv.B,simprocAttr,hmy,decide_eq_true e1]
  refine ah tA rfl (jf hcf (.v _)) Wv.c ?_
  refine Wv.W ?_
  refine ah tB rfl (jf hcg (.v _)) Wv.c ?_
  simp (disch:=first|exact Wv.D|fail) only [Wv.B,simprocAttr,qC,e7]
  refine Wv.jd (i+1) 1 (by first | decide | exact Nat.le_of_ble_eq_true rfl) (by omega) (by omega) (by simp (disch:=first|exact Wv.D|fail) only [Wv.B,simprocAttr,dH]) Wv.V2 (by simp only [Wv.BL, ↓reduceIte,Nat.reduceLeDiff]<;>omega) (by simp only [Wv.BL, ↓reduceIte,Nat.reduceLeDiff]<;>omega)
 ·obtain rfl:i=N:=by omega
  simp (disch:=first|exact Wv.D|fail) only [Wv.B,simprocAttr,hmy,Int.lt_irrefl,decide_false]
  refine ji hT (O4 Wv.c) hRc ?_
  refine Wv.W ?_
  refine gK rfl ?_
  exact Wv.V
def cvS (m:Nat) (f g:Nat→Nat) (i:Nat):Nat→Nat
 | 0=>0
 | k+1=>(cvS m f g i k+f k*g (i - k)) % m
def atF (n:Nat) (f:Nat→Nat) (i:Nat):Nat:=if i<n then f i else 0
def jT (m:Nat) (a b:List Nat):List Nat:=aV (ofT (a.length+b.length) fun i=>cvS m (atF a.length fun i=>a.getD i 0) (atF b.length fun i=>b.getD i 0) i (i+1))
theorem abr {m:Nat} (hm:0<m) (f g:Nat→Nat) (i:Nat): ∀ k,cvS m f g i k<m
 | 0=>hm
 | k+1=>Nat.mod_lt _ hm
theorem Ny (m:Nat) (a b:List Nat) (h1:2≤m) (h2:m≤2147483647) (ha: ∀ i,a.getD i 0<m) (hb: ∀ i,b.getD i 0<m) (hn:a.length≤1000000000) (hk:b.length≤1000000000):
  TC Tryz.prog 257 [.v (.int .u32 m),bM a,bM b] (bM (jT m a b)):=by
 unfold jT bM
 have hT:=xG (a.length+b.length) (fun i=>cvS m (atF a.length fun i=>a.getD i 0) (atF b.length fun i=>b.getD i 0) i (i+1)) (by omega)
 generalize (aV (ofT (a.length+b.length) (fun i=>cvS m (atF a.length fun i=>a.getD i 0) (atF b.length fun i=>b.getD i 0) i (i+1))))=R at*
 have hRc:=aS R
 unfold bM at hT hRc
 obtain ⟨f,hf⟩: ∃ f:Nat→Nat,f=fun i=>a.getD i 0:=⟨_,rfl⟩
 obtain ⟨g,hg⟩: ∃ g:Nat→Nat,g=fun i=>b.getD i 0:=⟨_,rfl⟩
 have ef: ∀ i,a.getD i 0=f i:=fun i=>by rw [hf]
 have eg: ∀ i,b.getD i 0=g i:=fun i=>by rw [hg]
 simp only [ef,eg] at*
 clear ef eg hf hg
 generalize a.length=p at*
 generalize b.length=q at*
 have TA:=fun i=>zN p f i (by omega) (by have:=ha i;omega)
 have TB:=fun i=>zN q g i (by omega) (by have:=hb i;omega)
 have hcf:=jP p f
 have hcg:=jP q g
 have hx: ∀ i,atF p f i<m:=fun i=>by unfold atF;split;exact ha i;omega
 have hy: ∀ i,atF q g i<m:=fun i=>by unfold atF;split;exact hb i;omega
 have fA: ∀ i,(if i<p then f i else 0)=atF p f i:=fun i=>rfl
 have fB: ∀ i,(if i<q then g i else 0)=atF q g i:=fun i=>rfl
 simp only [fA] at TA
 simp only [fB] at TB
 generalize atF p f=u at*
 generalize atF q g=v at*
 clear fA fB
 have hS: ∀ i k,cvS m u v i (k+1)=(cvS m u v i k+u k*v (i - k)) % m:=fun i k=>rfl
 have hS0: ∀ i,cvS m u v i 0=0:=fun i=>rfl
 have hSl: ∀ i k,cvS m u v i k<m:=fun i k=>abr (by omega) u v i k
 generalize cvS m u v=F at*
 unfold eU at*
 refine Wv.TC.by 46 [8,1,2,17,10,22,9,0,7,6] [] [.tmp 6] Tryz.func257 rfl rfl rfl ?clo ?_
 case clo=>exact hRc
 refine Wv.W ?_
 refine qj (σ:=Nat) (fun i=>[(0, .v (.int .u32 m)),(1, .t p 1 (tab p fun i=> .v (.int .u32 (f i:Nat)))),(2, .t q 1 (tab q fun i=> .v (.int .u32 (g i:Nat)))),(7, .own 0 i),(8, .v (.int .i64 i))])
  (fun i=>[some (.arr 22 1 (tab i fun i=> .v (.int .u32 (F i (i+1):Nat))) 0)]) (fun i=>i≤p+q) (fun i=>p+q - i) 0 (Nat.zero_le _) ?_ ?_
 ·refine Ent.trans (Ent.nil 7 22 1 (by omega) rfl) (Ent.fit ?_)
  exact Wv.V
 intro i hi
 by_cases hlt:i<p+q
 ·have e1:(i:Int)<(p:Int)+(q:Int):=by omega
  have hz:=hS0 i
  simp (disch:=first|exact Wv.D|fail) only [Wv.B,simprocAttr,decide_eq_true e1]
  refine dQ (σ:=Nat) (fun k=>[(0, .v (.int .u32 m)),(1, .t p 1 (tab p fun i=> .v (.int .u32 (f i:Nat)))),(2, .t q 1 (tab q fun i=> .v (.int .u32 (g i:Nat)))),(7, .own 0 i),(8, .v (.int .i64 i)),(9, .v (.int .u64 (F i k:Nat))),(10, .v (.int .i64 k))])
   (fun k=>[some (.arr 22 1 (tab i fun i=> .v (.int .u32 (F i (i+1):Nat))) 0)]) (fun k=>k≤i+1) (fun k=>i+1 - k) 0 (Nat.zero_le _) rfl (by simp (disch:=first|exact Wv.D|fail) only [Wv.B,simprocAttr,hz]) ?_
  intro k hkk
  by_cases hlt2:k<i+1
  ·have e4:(k:Int)≤(i:Int):=by omega
   have e5:(i:Int) - (k:Int)=((i - k:Nat):Int):=by omega
   have tA:=TA k
   have tB:=TB (i - k)
   have hx:=hx k
   have hy:=hy (i - k)
   have hS':=hS i k
   have hSk:=hSl i k
   have aks:=hSl i (k+1)
   generalize u k=x at*
   generalize v (i - k)=y at*
   have hb1:=nT hx hy h2
   have hb':((x*y:Nat):Int)≤4611686014132420609:=by omega
   have hb0:0≤((x*y:Nat):Int):=by omega
   rw [Int.natCast_mul] at hb' hb0
   have e7:((F i k:Nat)+(x:Int)*(y:Int)) % (m:Int)=(F i (k+1):Int):=by rw [hS',Int.natCast_emod,Int.natCast_add,Int.natCast_mul]
   simp (disch:=first|exact Wv.D|fail) only [Wv.B,simprocAttr,decide_eq_true e4]
   refine ah tA rfl (jf hcf (.v _)) Wv.c ?_
   simp (disch:=first|exact Wv.D|fail) only [Wv.B,simprocAttr,e5]
   refine ah tB rfl (jf hcg (.v _)) Wv.c ?_
   simp (disch:=first|exact Wv.D|fail) only [Wv.B,simprocAttr,qC,e7]
   refine aH (k+1) (by omega) (by omega) rfl Wv.V2
  ·obtain rfl:k=i+1:=by omega
   have e6: ¬ (((i+1:Nat):Int)≤(i:Int)):=by omega
   have hSk:=hSl i (i+1)
   have e7:IntKind.u32.wrap ((F i (i+1):Nat):Int)=(F i (i+1):Int):=by rw [IntKind.wrap_u32];omega
   simp (disch:=first|exact Wv.D|fail) only [Wv.B,simprocAttr,decide_eq_false e6,e7]
   refine Wv.jd (i+1) 1 (by first | decide | exact Nat.le_of_ble_eq_true rfl) (by omega) (by omega) (by simp (disch:=first|exact Wv.D|fail) only [Wv.B,simprocAttr,dH]) Wv.V2 (by simp only [Wv.BL, ↓reduceIte,Nat.reduceLeDiff]<;>omega) (by simp only [Wv.BL, ↓reduceIte,Nat.reduceLeDiff]<;>omega)
 ·obtain rfl:i=p+q:=by omega
  simp (disch:=first|exact Wv.D|fail) only [Wv.B,simprocAttr,Int.natCast_add,Int.lt_irrefl,decide_false]
  refine ji hT (O4 Wv.c) hRc ?_
  refine Wv.W ?_
  refine gK rfl ?_
  exact Wv.V
end
section
open Go.RowKit Wv
def gV (m:Nat) (xs ys:Nat→Nat) (i:Nat):Nat→List Nat
 | 0=>[ys i]
 | k+1=>if k=i then gV m xs ys i k else jT m (jT m (aV (gV m xs ys i k)) [(m - xs k) % m,1]) [(jg ((xs i+m - xs k) % m) m).1]
def lU (m n:Nat) (xs ys:Nat→Nat):Nat→List Nat
 | 0=>[]
 | i+1=>minL m (lU m n xs ys i) (minL m [] (aV (gV m xs ys i n)))
def okP (m:Nat) (xs:Nat→Nat) (i k:Nat):Bool:=decide (k=i) || decide (Nat.gcd m ((xs i+m - xs k) % m)=1)
def H7 (m n:Nat) (xs:Nat→Nat):Bool:=bg n fun i=>bg n fun k=>!okP m xs i k
def Nz (m n:Nat) (xs ys:Nat→Nat):AV:=if H7 m n xs=true then .tup [.v (.slice none 0 0), .v (.int .i64 7)] else .tup [bM (lU m n xs ys n), .v (.int .i64 0)]
theorem abt (m n:Nat) (xs ys:Nat→Nat):Clo (Nz m n xs ys):=by
 unfold Nz
 split
 ·simp only [Wv.BC]
 ·simp only [Wv.BC,aS]
variable {m:Nat}
theorem zO (hm:0<m) (a b:List Nat) (i:Nat):(jT m a b).getD i 0<m:=lQ hm (Ho hm fun i=>abr hm _ _ i _) i
theorem qG (m:Nat) (a b:List Nat):(jT m a b).length≤a.length+b.length:=by
 unfold jT
 refine Nat.le_trans (gZ _) ?_
 rw [rH]
 exact Nat.le_refl _
theorem zQ (hm:0<m) (a b:List Nat) (i:Nat):(minL m a b).getD i 0<m:=lQ hm (Ho hm fun i=>Nat.mod_lt _ hm) i
theorem wo (m:Nat) (a b:List Nat):(minL m a b).length≤max a.length b.length:=by
 unfold minL
 refine Nat.le_trans (gZ _) ?_
 rw [rH]
 exact Nat.le_refl _
theorem abu (hm:0<m) (i:Nat):([]:List Nat).getD i 0<m:=by simpa using hm
theorem abv {a:Nat} (hm:0<m) (ha:a<m) (i:Nat):[a].getD i 0<m:=by
 match i with
 | 0=>exact ha
 | i+1=>simpa using hm
theorem ahl {a b:Nat} (hm:0<m) (ha:a<m) (hb:b<m) (i:Nat):[a,b].getD i 0<m:=by
 match i with
 | 0=>exact ha
 | 1=>exact hb
 | i+2=>simpa using hm
theorem wu {m:Nat} (hm:2≤m) (xs ys:Nat→Nat) (i:Nat) (hy:ys i<m): ∀ k,(∀ j,(gV m xs ys i k).getD j 0<m)∧(gV m xs ys i k).length≤1+3*k
 | 0=>⟨abv (by omega) hy,by show 1≤_;omega⟩
 | k+1=>by
  have ih:=wu hm xs ys i hy k
  unfold gV
  split
  ·exact ⟨ih.1,by omega⟩
  ·refine ⟨zO (by omega) _ _,?_⟩
   refine Nat.le_trans (qG _ _ _) ?_
   have h1:=qG m (aV (gV m xs ys i k)) [(m - xs k) % m,1]
   have h2:=gZ (gV m xs ys i k)
   have h3:[(m - xs k) % m,1].length=2:=rfl
   have h4:[(jg ((xs i+m - xs k) % m) m).1].length=1:=rfl
   omega
theorem zS {m:Nat} (hm:2≤m) (n:Nat) (xs ys:Nat→Nat) (hy: ∀ i,i<n→ys i<m): ∀ i,i≤n→(∀ j,(lU m n xs ys i).getD j 0<m)∧(lU m n xs ys i).length≤1+3*n
 | 0,_=>⟨abu (by omega),Nat.zero_le _⟩
 | i+1,hi=>by
  have ih:=zS hm n xs ys hy i (by omega)
  have hp:=wu hm xs ys i (hy i (by omega)) n
  unfold lU
  refine ⟨zQ (by omega) _ _,Nat.le_trans (wo _ _ _) (Nat.max_le.2 ⟨ih.2,Nat.le_trans (wo _ _ _) (Nat.max_le.2 ⟨Nat.zero_le _,Nat.le_trans (gZ _) hp.2⟩)⟩)⟩
theorem zT (l:List Nat): ∃ (p:Nat) (g:Nat→Nat),bM l= .t p 1 (tab p fun i=> .v (.int .u32 (g i:Nat))):=⟨_,_,rfl⟩
theorem abw (N:Nat) (l:List Nat):lo N (bM l)=True:=eq_true (.clo (aS l))
theorem Df (l:List Nat) (hn:l.length≤2000000000):TC Tryz.prog 258 [bM l] (bM (aV l)):=by
 have T:=xG l.length (fun i=>l.getD i 0) hn
 rw [MX] at T
 exact T
theorem PG (m n:Nat) (xs ys:Nat→Nat) (h1:2≤m) (h2:m≤2147483647) (hn:n≤256) (hx: ∀ i,i<n→xs i<m) (hy: ∀ i,i<n→ys i<m):
  TC Tryz.prog 241 [.v (.int .u32 m),eU n xs,eU n ys] (Nz m n xs ys):=by
 have hRc:=abt m n xs ys
 have hRx: ∀ i k,i<n→k<n→okP m xs i k=false→Nz m n xs ys= .tup [.v (.slice none 0 0), .v (.int .i64 7)]:=fun i k hi hk h=>
  if_pos (jl (p:=fun i=>bg n fun k=>!okP m xs i k) hi (jl (p:=fun k=>!okP m xs i k) hk (by rw [h];rfl)))
 have hRy:(∀ i,i<n→ ∀ k,k<n→okP m xs i k=true)→Nz m n xs ys= .tup [bM (lU m n xs ys n), .v (.int .i64 0)]:=fun h=>by
  have:H7 m n xs=false:=fO fun i hi=>fO fun k hk=>by rw [h i hi k hk];rfl
  unfold Nz
  rw [this]
  rfl
 generalize Nz m n xs ys=R at*
 have d1: ¬ (m:Int)<2:=by omega
 have d2: ¬ (2147483647:Int)<(m:Int):=by omega
 have d3: ¬ (256:Int)<(n:Int):=by omega
 unfold eU
 refine Wv.TC.by 126 [0,1,2,28,31,8,35,51,10,55,12,66,71,14,96,11,15,13,9,6,7] [(19,23)] [.tmp 6, .tmp 7] Tryz.func241 rfl rfl rfl ?clo ?_
 case clo=>exact hRc
 simp (disch:=first|exact Wv.D|fail) only [Wv.B,simprocAttr,decide_eq_false d1,decide_eq_false d2,decide_eq_false d3]
 refine dQ (σ:=Nat) (fun i=>[(0, .v (.int .u32 m)),(1, .t n 1 (tab n fun i=> .v (.int .u32 (xs i:Nat)))),(2, .t n 1 (tab n fun i=> .v (.int .u32 (ys i:Nat)))),(8, .v (.int .i64 i))])
  (fun i=>[]) (fun i=>i≤n) (fun i=>n - i) 0 (Nat.zero_le _) rfl Wv.V ?_
 intro i hi
 by_cases hlt:i<n
 ·have e1:(i:Int)<(n:Int):=by omega
  have e2: ¬ (m:Int)≤(xs i:Int):=by have:=hx i hlt;omega
  have e3: ¬ (m:Int)≤(ys i:Int):=by have:=hy i hlt;omega
  simp (disch:=first|exact Wv.D|fail) only [Wv.B,simprocAttr,decide_eq_true e1,decide_eq_false e2,decide_eq_false e3]
  refine aH (i+1) (by omega) (by omega) rfl Wv.V2
 obtain rfl:n=i:=by omega
 clear hlt
 simp (disch:=first|exact Wv.D|fail) only [Wv.B,simprocAttr,Int.lt_irrefl,decide_false]
 refine qj (σ:=Nat) (fun i=>[(0, .v (.int .u32 m)),(1, .t n 1 (tab n fun i=> .v (.int .u32 (xs i:Nat)))),(2, .t n 1 (tab n fun i=> .v (.int .u32 (ys i:Nat)))),(9,bM (lU m n xs ys i)),(10, .v (.int .i64 i))])
  (fun i=>[]) (fun i=>i≤n∧ ∀ j,j<i→ ∀ k,k<n→okP m xs j k=true) (fun i=>n - i) 0 ⟨Nat.zero_le _,fun j hj=>by omega⟩ ?_ ?_
 ·refine Ent.trans (Ent.wk 9 _ (.t 0 1 []) rfl (Wk.nil 1)) (Ent.fit ?_)
  refine Wv.W ?_
  rfl
 rintro i ⟨hi,hbef⟩
 by_cases hlt:i<n
 ·have e1:(i:Int)<(n:Int):=by omega
  obtain ⟨ho1,ho2⟩:=zS h1 n xs ys hy i hi
  have hyi:=hy i hlt
  have hxi:=hx i hlt
  have hP:=wu h1 xs ys i hyi
  have hP0:bM (gV m xs ys i 0)= .t 1 1 [.v (.int .u32 (ys i:Nat))]:=rfl
  have hPn: ∀ k,gV m xs ys i (k+1)=if k=i then gV m xs ys i k else jT m (jT m (aV (gV m xs ys i k)) [(m - xs k) % m,1]) [(jg ((xs i+m - xs k) % m) m).1]:=fun k=>rfl
  have hOn:lU m n xs ys (i+1)=minL m (lU m n xs ys i) (minL m [] (aV (gV m xs ys i n))):=rfl
  generalize hO':lU m n xs ys (i+1)=O' at*
  generalize lU m n xs ys i=O at*
  generalize gV m xs ys i=P at*
  simp (disch:=first|exact Wv.D|fail) only [Wv.B,simprocAttr,decide_eq_true e1]
  refine qj (σ:=Nat) (fun k=>[(0, .v (.int .u32 m)),(1, .t n 1 (tab n fun i=> .v (.int .u32 (xs i:Nat)))),(2, .t n 1 (tab n fun i=> .v (.int .u32 (ys i:Nat)))),(9,bM O),(10, .v (.int .i64 i)),(11,bM (P k)),(12, .v (.int .i64 k))])
   (fun k=>[]) (fun k=>k≤n∧ ∀ j,j<k→okP m xs i j=true) (fun k=>n - k) 0 ⟨Nat.zero_le _,fun j hj=>by omega⟩ ?_ ?_
  ·refine Ent.trans (Ent.close 11 (.own 0 1) (.t 1 1 [.v (.int .u32 (ys i:Nat))]) _ rfl rfl) (Ent.cut 0 (Nat.zero_le _) ?_ ?_ ?_)
   ·simp (disch:=first|exact Wv.D|fail) only [Wv.B,simprocAttr,hP0]
   ·simp only [Wv.BL, ↓reduceIte,Nat.reduceLeDiff,hP0]
    exact .clo (aS _)
   ·simp only [Wv.BL, ↓reduceIte,Nat.reduceLeDiff]
  rintro k ⟨hk,hkb⟩
  by_cases hlt2:k<n
  ·have e2:(k:Int)<(n:Int):=by omega
   have hnx:okP m xs i k=true→ ∀ j,j<k+1→okP m xs i j=true:=fun h j hj=>by
    by_cases e:j=k
    ·subst e;exact h
    ·exact hkb j (by omega)
   by_cases hki:k=i
   ·have e3:(k:Int)=(i:Int):=by omega
    have hPk:P (k+1)=P k:=by rw [hPn,if_pos hki]
    have ho:okP m xs i k=true:=by unfold okP;rw [decide_eq_true hki,Bool.true_or]
    simp (disch:=first|exact Wv.D|fail) only [Wv.B,simprocAttr,decide_eq_true e2,decide_eq_true e3]
    refine aH (k+1) ⟨by omega,hnx ho⟩ (by omega) rfl (by simp (disch:=first|exact Wv.D|fail) only [Wv.B,simprocAttr,hPk,Int.natCast_add,Int.natCast_one])
   ·have e3: ¬ (k:Int)=(i:Int):=by omega
    have hPk:P (k+1)=jT m (jT m (aV (P k)) [(m - xs k) % m,1]) [(jg ((xs i+m - xs k) % m) m).1]:=by rw [hPn,if_neg hki]
    have ho:okP m xs i k=decide (Nat.gcd m ((xs i+m - xs k) % m)=1):=by unfold okP;rw [decide_eq_false hki,Bool.false_or]
    have hxk:=hx k hlt2
    have hm: ¬ (m:Int)=0:=by omega
    have hr:(xs i+m - xs k) % m<m:=Nat.mod_lt _ (by omega)
    have f1:((xs i:Int)+(m:Int) - (xs k:Int)) % (m:Int)=(((xs i+m - xs k) % m:Nat):Int):=by
     rw [Int.natCast_emod];congr 1;omega
    have hz:(m - xs k) % m<m:=Nat.mod_lt _ (by omega)
    have f4:((m:Int) - (xs k:Int)) % (m:Int)=(((m - xs k) % m:Nat):Int):=by
     rw [Int.natCast_emod];congr 1;omega
    obtain ⟨hp1,hp2⟩:=hP k
    have hiv:=U3 (a:=(xs i+m - xs k) % m) (n:=m) (by omega)
    have TI:=abq ((xs i+m - xs k) % m) m h1 h2 hr
    have ajl:=hRx i k hlt hlt2
    simp (disch:=first|exact Wv.D|fail) only [Wv.B,simprocAttr,decide_eq_true e2,decide_eq_false e3,decide_eq_false hm,qC,f1]
    refine gq TI rfl Wv.c Wv.c ?_
    generalize (xs i+m - xs k) % m=z at*
    by_cases hg:Nat.gcd m z=1
    ·rw [decide_eq_true hg] at ho
     have hg':decide (Nat.gcd m z=1)=true:=decide_eq_true hg
     generalize (jg z m).1=iv at*
     generalize (m - xs k) % m=u at*
     have ht1:=lQ (m:=m) (by omega) hp1
     have ht2:=gZ (P k)
     have hq1:=zO (m:=m) (by omega) (aV (P k)) [u,1]
     have hq2:=qG m (aV (P k)) [u,1]
     have hq3:[u,1].length=2:=rfl
     have T1:=Df (P k) (by omega)
     have T2:TC Tryz.prog 257 [.v (.int .u32 m),bM (aV (P k)), .t 2 1 [.v (.int .u32 (u:Nat)), .v (.int .u32 1)]] (bM (jT m (aV (P k)) [u,1])):=Ny m (aV (P k)) [u,1] h1 h2 ht1 (ahl (by omega) hz (by omega)) (by omega) (by show 2≤_;omega)
     have T3:TC Tryz.prog 257 [.v (.int .u32 m),bM (jT m (aV (P k)) [u,1]), .t 1 1 [.v (.int .u32 (iv:Nat))]] (bM (jT m (jT m (aV (P k)) [u,1]) [iv])):=Ny m (jT m (aV (P k)) [u,1]) [iv] h1 h2 hq1 (abv (by omega) hiv) (by omega) (by show 1≤_;omega)
     rw [←hPk] at T3
     have hc1:=aS (aV (P k))
     have hc2:=aS (jT m (aV (P k)) [u,1])
     have hc3:=aS (P (k+1))
     have hc0:=aS (P k)
     clear hPk hPn hRx ajl hq1 hq2 hq3 ht1 ht2 hp1 hp2
     obtain ⟨p1,g1,hW1⟩:=zT (aV (P k))
     obtain ⟨p2,g2,hW2⟩:=zT (jT m (aV (P k)) [u,1])
     rw [hW1] at T1 T2 hc1
     rw [hW2] at T2 T3 hc2
     simp (disch:=first|exact Wv.D|fail) only [Wv.B,simprocAttr,hg',decide_eq_false hm,qC,f4]
     refine ah T1 rfl (O4 hc0) hc1 ?_
     refine Wv.W ?_
     refine ji T2 Wv.c hc2 ?_
     refine Wv.W ?_
     refine gK rfl ?_
     refine Wv.W ?_
     refine ji T3 Wv.c hc3 ?_
     refine Wv.W ?_
     refine gK rfl ?_
     refine Wv.W ?_
     refine Wv.jd (k+1) 0 (by first | decide | exact Nat.le_of_ble_eq_true rfl) (⟨by omega,hnx ho⟩) (by omega) (by simp (disch:=first|exact Wv.D|fail) only [Wv.B,simprocAttr,dH]) Wv.V2 (by simp only [Wv.BL, ↓reduceIte,Nat.reduceLeDiff,abw]<;>omega) (by simp only [Wv.BL, ↓reduceIte,Nat.reduceLeDiff,abw]<;>omega)
    ·rw [decide_eq_false hg] at ho
     have hg':decide (Nat.gcd m z=1)=false:=decide_eq_false hg
     have hR:=ajl ho
     simp (disch:=first|exact Wv.D|fail) only [Wv.B,simprocAttr,hg',hR]
  ·obtain rfl:n=k:=by omega
   obtain ⟨hp1,hp2⟩:=hP n
   have ht1:=lQ (m:=m) (by omega) hp1
   have ht2:=gZ (P n)
   have hq1:=zQ (m:=m) (by omega) [] (aV (P n))
   have hq2:=wo m [] (aV (P n))
   have hq3:([]:List Nat).length=0:=rfl
   have T1:=Df (P n) (by omega)
   have T2:TC Tryz.prog 259 [.v (.int .u32 m), .t 0 1 [],bM (aV (P n))] (bM (minL m [] (aV (P n)))):=Nw m [] (aV (P n)) h1 h2 (abu (by omega)) ht1 (by show 0≤_;omega) (by omega)
   have T3:TC Tryz.prog 259 [.v (.int .u32 m),bM O,bM (minL m [] (aV (P n)))] (bM O'):=by
    rw [hOn]
    exact Nw m O (minL m [] (aV (P n))) h1 h2 ho1 hq1 (by omega) (by omega)
   have hc1:=aS (aV (P n))
   have hc2:=aS (minL m [] (aV (P n)))
   have hc3:=aS O'
   have hc0:=aS (P n)
   have hc4:=aS O
   have hbe: ∀ j,j<i+1→ ∀ l,l<n→okP m xs j l=true:=fun j hj=>by
    by_cases e:j=i
    ·subst e;exact hkb
    ·exact hbef j (by omega)
   clear hPn hRx hq1 hq2 hq3 ht1 ht2 hp1 hp2 hOn
   obtain ⟨p1,g1,hW1⟩:=zT (aV (P n))
   obtain ⟨p2,g2,hW2⟩:=zT (minL m [] (aV (P n)))
   rw [hW1] at T1 T2 hc1
   rw [hW2] at T2 T3 hc2
   simp (disch:=first|exact Wv.D|fail) only [Wv.B,simprocAttr,Int.lt_irrefl,decide_false]
   refine ah T1 rfl (O4 hc0) hc1 ?_
   refine Wv.W ?_
   refine acS T2 rfl ⟨Wk.refl _,Wk.nil 1,Wk.refl _,trivial⟩ Wv.c hc2 ?_
   refine Wv.W ?_
   refine ah T3 rfl (by simp only [Wv.BC];exact hc4) hc3 ?_
   refine Wv.W ?_
   refine aH (i+1) ⟨by omega,hbe⟩ (by omega) rfl (by simp (disch:=first|exact Wv.D|fail) only [Wv.B,simprocAttr,hO',Int.natCast_add,Int.natCast_one])
 ·obtain rfl:n=i:=by omega
  have hR:=hRy hbef
  simp (disch:=first|exact Wv.D|fail) only [Wv.B,simprocAttr,Int.lt_irrefl,decide_false,hR,bM,eU]
end
section
open Go.RowKit Wv
def eqm (m a b:Int):Prop:= ∃ c,a=b+m*c
variable {a m:Int}
theorem eqm.rfl' :eqm m a a:=⟨0,by grind⟩
variable {b:Int}
theorem eqm.symm :eqm m a b→eqm m b a:=fun ⟨c,h⟩=>⟨-c,by grind⟩
theorem eqm.trans {c:Int}:eqm m a b→eqm m b c→eqm m a c:=fun ⟨x,h⟩ ⟨y,h'⟩=>⟨x+y,by grind⟩
variable {d:Int}
theorem eqm.add {c:Int}:eqm m a b→eqm m c d→eqm m (a+c) (b+d):=fun ⟨x,h⟩ ⟨y,h'⟩=>⟨x+y,by grind⟩
theorem eqm.sub {c:Int}:eqm m a b→eqm m c d→eqm m (a - c) (b - d):=fun ⟨x,h⟩ ⟨y,h'⟩=>⟨x - y,by grind⟩
theorem eqm.mul {c:Int}:eqm m a b→eqm m c d→eqm m (a*c) (b*d):=fun ⟨x,h⟩ ⟨y,h'⟩=>⟨b*y+d*x+m*x*y,by subst h h';grind⟩
theorem eqm.nat (m a : Nat) : eqm m ((a % m : Nat) : Int) a := ⟨-((a / m : Nat) : Int), by have := Nat.div_add_mod a m; have h : ((m * (a / m) + a % m : Nat) : Int) = a := by rw [this]
                                                                                           rw [Int.natCast_add, Int.natCast_mul] at h; grind⟩
def evF (f:Nat→Int):Nat→Int→Int
 | 0,_=>0
 | n+1,x=>f 0+x*evF (fun i=>f (i+1)) n x
theorem nV : ∀ {n:Nat} {f g:Nat→Int} {x:Int},(∀ i,i<n→eqm m (f i) (g i))→eqm m (evF f n x) (evF g n x)
 | 0,_,_,_,_=>eqm.rfl'
 | n+1,f,g,x,h=>(h 0 (Nat.zero_lt_succ _)).add (eqm.rfl'.mul (nV fun i hi=>h (i+1) (by omega)))
theorem Dh: ∀ {n:Nat} {f:Nat→Int} {x:Int},(∀ i,f i=0)→evF f n x=0
 | 0,_,_,_=>rfl
 | n+1,f,x,h=>by
  have:=Dh (n:=n) (f:=fun i=>f (i+1)) (x:=x) fun i=>h _
  simp only [evF,this,h 0];grind
theorem H8: ∀ {n k:Nat} {f:Nat→Int} {x:Int},(∀ i,n≤i→f i=0)→evF f (n+k) x=evF f n x
 | 0,k,f,x,h=>Dh fun i=>h i (Nat.zero_le _)
 | n+1,k,f,x,h=>by
  rw [show n+1+k=(n+k)+1 by omega]
  simp only [evF]
  rw [H8 fun i hi=>h (i+1) (by omega)]
theorem rO: ∀ {n:Nat} {f g:Nat→Int} {c x:Int},evF (fun i=>f i+c*g i) n x=evF f n x+c*evF g n x
 | 0,_,_,_,_=>by simp only [evF];grind
 | n+1,f,g,c,x=>by
  have:=rO (n:=n) (f:=fun i=>f (i+1)) (g:=fun i=>g (i+1)) (c:=c) (x:=x)
  simp only [evF,this]
  grind
def upF (f:Nat→Int):Nat→Int
 | 0=>0
 | i+1=>f i
variable {n:Nat}
theorem ahm {f:Nat→Int} {x:Int}:evF (upF f) (n+1) x=x*evF f n x:=by
 simp only [evF,upF];grind
def zf (f:Nat→Int) (n:Nat) (a:Int) (i:Nat):Int:=evF (fun j=>f (i+1+j)) (n - i) a
theorem FQ (f:Nat→Int) (n:Nat) (a:Int):zf f n a 0=evF (fun i=>f (i+1)) n a:=by
 unfold zf
 rw [Nat.sub_zero]
 congr 1;funext j;congr 1;omega
theorem FT (f:Nat→Int) (n:Nat) (a:Int) (i:Nat):zf f (n+1) a (i+1)=zf (fun i=>f (i+1)) n a i:=by
 unfold zf
 rw [show n+1 - (i+1)=n - i by omega]
 congr 1;funext j;congr 1;omega
theorem U8: ∀ {n:Nat} {f:Nat→Int} {a x:Int},evF f (n+1) x=evF (zf f n a) n x*(x - a)+evF f (n+1) a
 | 0,f,a,x=>by simp only [evF];grind
 | n+1,f,a,x=>by
  have ih:=U8 (n:=n) (f:=fun i=>f (i+1)) (a:=a) (x:=x)
  have e:evF (zf f (n+1) a) (n+1) x=evF (fun i=>f (i+1)) (n+1) a+x*evF (zf (fun i=>f (i+1)) n a) n x:=by
   show zf f (n+1) a 0+x*evF (fun i=>zf f (n+1) a (i+1)) n x=_
   rw [FQ]
   congr 3;funext i;exact FT f n a i
  rw [e]
  have e1:evF f (n+1+1) x=f 0+x*evF (fun i=>f (i+1)) (n+1) x:=rfl
  have e2:evF f (n+1+1) a=f 0+a*evF (fun i=>f (i+1)) (n+1) a:=rfl
  rw [e1,e2,ih]
  grind
theorem NC {m:Int}: ∀ {n:Nat} {f:Nat→Int} {a:Int},eqm m (evF f (n+1) a) 0→(∀ i,i<n→eqm m (zf f n a i) 0)→ ∀ j,j<n+1→eqm m (f j) 0
 | 0,f,a,h,_,j,hj=>by
  obtain rfl:j=0:=by omega
  obtain ⟨c,h⟩:=h
  exact ⟨c,by simp only [evF] at h;grind⟩
 | n+1,f,a,h,hq,j,hj=>by
  have h0:=hq 0 (by omega)
  rw [FQ] at h0
  have e2:evF f (n+1+1) a=f 0+a*evF (fun i=>f (i+1)) (n+1) a:=rfl
  cases j with
  | zero=>
   obtain ⟨c,h⟩:=h
   obtain ⟨d,h0⟩:=h0
   exact ⟨c - a*d,by rw [e2,h0] at h;grind⟩
  | succ j=>exact NC (f:=fun i=>f (i+1)) h0 (fun i hi=>by rw [←FT];exact hq (i+1) (by omega)) j (by omega)
theorem roots {m:Int} {xs:Nat→Int}: ∀ (n:Nat) (f:Nat→Int),(∀ i,i<n→eqm m (evF f n (xs i)) 0)→(∀ i k,k<i→i<n→ ∃ b,eqm m ((xs i - xs k)*b) 1)→ ∀ j,j<n→eqm m (f j) 0
 | 0,f,_,_,j,hj=>by omega
 | n+1,f,h,hu,j,hj=>by
  refine NC (a:=xs n) (h n (by omega)) (roots n _ (fun i hi=>?_) fun i k hk hi=>hu i k hk (by omega)) j hj
  obtain ⟨c1,h1⟩:=h i (by omega)
  obtain ⟨c2,h2⟩:=h n (by omega)
  obtain ⟨b,c3,h3⟩:=hu n i hi (by omega)
  rw [U8 (a:=xs n),h2] at h1
  generalize evF (zf f n (xs n)) n (xs i)=E at*
  exact ⟨-(c1 - c2)*b - E*c3,by grind⟩
def jB (m a:Int):Prop:= ∃ b,eqm m (a*b) 1
theorem jB.mul :jB m a→jB m b→jB m (a*b):=fun ⟨x,h⟩ ⟨y,h'⟩=>⟨x*y,by
 have:=h.mul h'
 rw [show a*b*(x*y)=a*x*(b*y) by grind]
 simpa using this⟩
theorem jB.congr (h:eqm m a b):jB m a→jB m b:=fun ⟨x,q⟩=>⟨x,(h.symm.mul eqm.rfl').trans q⟩
theorem ahn {a:Nat}: ∀ (y x:Nat) (u v:Int),EuI n a x y u v→ ∃ w:Int,(n:Int)∣w*a - (Nat.gcd n a:Nat):=by
 intro y
 induction y using Nat.strongRecOn with
 | _ y ih=>
  intro x u v h
  by_cases hy:0<y
  ·exact ih _ (Nat.mod_lt _ hy) _ _ _ (h.step hy)
  ·obtain rfl:y=0:=by omega
   have hg:=h.gc
   rw [Nat.gcd_zero_right] at hg
   exact ⟨u,hg▸h.du⟩
theorem abx      {a:Nat} (hn : 2 ≤ n) (ha : a < n) (hg : Nat.gcd n a = 1) : jB    n a := by
  obtain ⟨w, c, h⟩ := ahn    _ _ _ _ (EuI.start hn ha)
  rw [hg] at h
  exact ⟨w, c, by have h1 : ((1 : Nat) : Int) = 1 := rfl
                  rw [h1] at h; grind⟩
theorem Di {a:Nat} (hn:2≤n) (h:jB n a):Nat.gcd n a=1∧eqm n ((jg a n).1*a) 1:=by
 obtain ⟨b,c,hb⟩:=h
 obtain ⟨i,hi⟩: ∃ i:Nat,(i:Int)=b % n:=⟨(b % n).toNat,Int.toNat_of_nonneg (Int.emod_nonneg _ (by omega))⟩
 have hin:i<n:=by have:=Int.emod_lt_of_pos b (show (0:Int)<n by omega);omega
 have hbd:=Int.mul_ediv_add_emod b n
 rw [←hi] at hbd
 have e1:((i*a:Nat):Int)=1+n*(c - (b / n)*a):=by
  rw [Int.natCast_mul]
  have:(i:Int)=b - n*(b / n):=by omega
  rw [this];grind
 have e2:i*a % n=1:=by
  have h2:((i*a % n:Nat):Int)=1:=by
   rw [Int.natCast_emod,e1,Int.add_mul_emod_self_left]
   exact Int.emod_eq_of_lt (by omega) (by omega)
  omega
 have hg:Nat.gcd n a=1:=by
  have d1:=Nat.gcd_dvd_left n a
  have d2:=Nat.gcd_dvd_right n a
  have d3:Nat.gcd n a∣i*a:=Nat.dvd_trans d2 (Nat.dvd_mul_left _ _)
  have h4:Nat.gcd n a∣i*a % n:=(Nat.dvd_mod_iff d1).2 d3
  rw [e2] at h4
  exact Nat.dvd_one.1 h4
 refine ⟨hg,?_⟩
 have:(jg a n).1=i:=by unfold jg;rw [if_pos hg];exact U0 hin e2
 rw [this, ←Int.natCast_mul,e1]
 exact ⟨c - (b / n)*a,rfl⟩
def cI (l:List Nat) (i:Nat):Int:=((l.getD i 0:Nat):Int)
variable {l:List Nat}
theorem fP {i:Nat} (h:l.length≤i):cI l i=0:=by unfold cI;simp [h]
def evL (l:List Nat) (x:Int):Int:=evF (cI l) l.length x
theorem iQ {N:Nat} (h:l.length≤N) (x:Int):evF (cI l) N x=evL l x:=by
 obtain ⟨k,rfl⟩: ∃ k,N=l.length+k:=⟨N - l.length,by omega⟩
 exact H8 fun i hi=>fP hi
theorem FU {f:Nat→Nat}: ∀ {n i:Nat},cZ f n≤i→i<n→f i=0
 | n+1,i,h,hi=>by
  rw [gJ] at h
  by_cases hz:f n=0
  ·rw [if_pos hz] at h
   by_cases e:i=n
   ·subst e;exact hz
   ·exact FU h (by omega)
  ·rw [if_neg hz] at h;omega
theorem FV (l:List Nat) (i:Nat):(aV l).getD i 0=l.getD i 0:=by
 unfold aV
 rw [List.getD_eq_getElem?_getD,List.getElem?_take]
 split
 ·rw [List.getD_eq_getElem?_getD]
 ·next h=>
  by_cases hi:i<l.length
  ·have:=FU (f:=fun i=>l.getD i 0) (Nat.le_of_not_lt h) hi
   rw [this];rfl
  ·simp [Nat.le_of_not_lt hi]
theorem oQ (l:List Nat) (i:Nat):cI (aV l) i=cI l i:=by unfold cI;rw [FV]
theorem ND (l:List Nat) (x:Int):evL (aV l) x=evL l x:=by
 rw [←iQ (gZ l) x]
 show evF _ _ _=evF _ _ _
 congr 1;funext i;exact oQ l i
theorem Dj (n:Nat) (f:Nat→Nat) (i:Nat):cI (ofT n f) i=if i<n then (f i:Int) else 0:=by
 unfold cI;rw [zK];split<;>rfl
theorem Xb (m:Nat) (a b:List Nat) (c i:Nat):eqm m (cI (lN m a b c) i) (cI a i+c*cI b i):=by
 unfold lN
 rw [oQ,Dj]
 by_cases h:i<max a.length b.length
 ·rw [if_pos h]
  by_cases h2:i<b.length
  ·rw [if_pos h2]
   refine (eqm.nat m _).trans ⟨0,?_⟩
   unfold cI
   rw [Int.natCast_add,Int.natCast_mul];grind
  ·rw [if_neg h2,fP (l:=b) (by omega)]
   exact ⟨0,by unfold cI;grind⟩
 ·rw [if_neg h,fP (l:=a) (by omega),fP (l:=b) (by omega)]
  exact ⟨0,by grind⟩
theorem U9 (m u:Nat) (f g:Nat→Nat) (h0:g 0=u) (h1:g 1=1): ∀ p j,eqm m (cvF m 2 f g p j) ((if j<p then (f j:Int)*u else 0)+if 1≤j∧j - 1<p then (f (j - 1):Int) else 0)
 | 0,j=>by
  rw [if_neg (by omega),if_neg (by omega)]
  exact ⟨0,by show (0:Int)=_;grind⟩
 | p+1,j=>by
  have ih:=U9 m u f g h0 h1 p j
  unfold cvF
  by_cases hj:p≤j∧j<p+2
  ·rw [if_pos hj]
   refine (eqm.nat m _).trans ?_
   rw [Int.natCast_add,Int.natCast_mul]
   by_cases e:j=p
   ·subst e
    rw [if_neg (by omega)] at ih
    rw [if_pos (by omega),Nat.sub_self,h0]
    have e2:(if 1≤j∧j - 1<j+1 then (f (j - 1):Int) else 0)=if 1≤j∧j - 1<j then (f (j - 1):Int) else 0:=by
     by_cases h1j:1≤j
     ·rw [if_pos ⟨h1j,by omega⟩,if_pos ⟨h1j,by omega⟩]
     ·rw [if_neg (by omega),if_neg (by omega)]
    rw [e2]
    refine (ih.add eqm.rfl').trans ⟨0,by grind⟩
   ·obtain rfl:j=p+1:=by omega
    rw [if_neg (by omega),if_neg (by omega)] at ih
    rw [if_neg (by omega),if_pos (by omega),show p+1 - p=1 by omega,h1]
    refine (ih.add eqm.rfl').trans ⟨0,?_⟩
    rw [show p+1 - 1=p by omega,Int.natCast_one];grind
  ·rw [if_neg hj]
   have e1:(if j<p+1 then (f j:Int)*u else 0)=if j<p then (f j:Int)*u else 0:=by
    by_cases h:j<p
    ·rw [if_pos h,if_pos (by omega)]
    ·rw [if_neg h,if_neg (by omega)]
   have e2:(if 1≤j∧j - 1<p+1 then (f (j - 1):Int) else 0)=if 1≤j∧j - 1<p then (f (j - 1):Int) else 0:=by
    by_cases h:1≤j∧j - 1<p
    ·rw [if_pos h,if_pos (by omega)]
    ·rw [if_neg h,if_neg (by omega)]
   rw [e1,e2];exact ih
theorem Xc (m u:Nat) (a:List Nat) (i:Nat):eqm m (cI (jQ m a [u,1]) i) (upF (cI a) i+u*cI a i):=by
 unfold jQ
 by_cases ha:a.length=0
 ·rw [if_pos (.inl ha),fP (l:=[]) (Nat.zero_le _),fP (l:=a) (by omega)]
  cases i with
  | zero=>exact ⟨0,by simp only [upF];grind⟩
  | succ i=>exact ⟨0,by simp only [upF];rw [fP (l:=a) (by omega)];grind⟩
 ·rw [if_neg (by rintro (h | h)<;>first | exact ha h | cases h),oQ,Dj]
  have h2:[u,1].length=2:=rfl
  rw [h2]
  have hc:=U9 m u (fun i=>a.getD i 0) (fun i=>[u,1].getD i 0) rfl rfl a.length i
  have e1:(if i<a.length then ((a.getD i 0:Nat):Int)*u else 0)=u*cI a i:=by
   by_cases h:i<a.length
   ·rw [if_pos h];unfold cI;grind
   ·rw [if_neg h,fP (by omega)];grind
  have e2:(if 1≤i∧i - 1<a.length then ((a.getD (i - 1) 0:Nat):Int) else 0)=upF (cI a) i:=by
   cases i with
   | zero=>rw [if_neg (by omega)];rfl
   | succ i=>
    show _=cI a i
    by_cases h:i<a.length
    ·rw [if_pos ⟨by omega,by omega⟩];rfl
    ·rw [if_neg (by omega),fP (by omega)]
  simp only [e1,e2] at hc
  by_cases h:i<a.length+2 - 1
  ·rw [if_pos h]
   exact hc.trans ⟨0,by grind⟩
  ·rw [if_neg h,fP (by omega)]
   obtain ⟨j,rfl⟩: ∃ j,i=j+1:=⟨i - 1,by omega⟩
   show eqm m 0 (cI a j+u*0)
   rw [fP (by omega)]
   exact ⟨0,by grind⟩
theorem Va (m:Nat) (f:Nat→Nat) (x n:Nat): ∀ k,k≤n→eqm m (CV m f x n k) (evF (fun i=>((f (n - k+i):Nat):Int)) k x)
 | 0,_=>eqm.rfl'
 | k+1,h=>by
  have ih:=Va m f x n k (by omega)
  unfold CV
  refine (eqm.nat m _).trans ?_
  have e:evF (fun i=>((f (n - (k+1)+i):Nat):Int)) (k+1) x=(f (n - 1 - k):Int)+x*evF (fun i=>((f (n - k+i):Nat):Int)) k x:=by
   show ((f (n - (k+1)+0):Nat):Int)+x*evF (fun i=>((f (n - (k+1)+(i+1)):Nat):Int)) k x=_
   rw [show n - (k+1)+0=n - 1 - k by omega]
   congr 3;funext i;rw [show n - (k+1)+(i+1)=n - k+i by omega]
  rw [e,Int.natCast_add,Int.natCast_mul]
  refine ((ih.mul eqm.rfl').add eqm.rfl').trans ⟨0,by grind⟩
theorem aby (m:Nat) (l:List Nat) (x:Nat):eqm m (lM m l x) (evL l x):=by
 have:=Va m (fun i=>l.getD i 0) x l.length l.length (Nat.le_refl _)
 simp only [Nat.sub_self,Nat.zero_add] at this
 exact this
theorem abz (m:Nat) (a b:List Nat) (c:Nat) (x:Int):eqm m (evL (lN m a b c) x) (evL a x+c*evL b x):=by
 obtain ⟨N,h1,h2,h3⟩: ∃ N,(lN m a b c).length≤N∧a.length≤N∧b.length≤N:=⟨max a.length b.length,FD _ _ _ _,by omega,by omega⟩
 rw [←iQ h1, ←iQ h2, ←iQ h3, ←rO]
 exact nV fun i _=>Xb m a b c i
theorem Vb {m:Nat} {a:List Nat} {u:Nat} (hl:l.length≤a.length+2) (h: ∀ i,eqm m (cI l i) (upF (cI a) i+u*cI a i)) (x:Int):eqm m (evL l x) ((x+u)*evL a x):=by
 have h1:l.length≤(a.length+1)+1:=by omega
 rw [←iQ h1]
 refine (nV fun i _=>h i).trans ?_
 rw [rO,ahm,iQ (show a.length≤a.length+1 by omega),iQ (show a.length≤a.length+1+1 by omega)]
 exact ⟨0,by grind⟩
theorem abA (m:Nat) (a:List Nat) (u:Nat) (x:Int):eqm m (evL (jQ m a [u,1]) x) ((x+u)*evL a x):=
 Vb (Nat.le_trans (FH _ _ _) (by show a.length+2 - 1≤_;omega)) (Xc m u a) x
theorem wz {m a b:Nat} (hb:b≤m):eqm m (((a+m - b) % m:Nat):Int) (a - b):=by
 refine (eqm.nat m _).trans ⟨1,?_⟩
 rw [Int.natCast_sub (by omega),Int.natCast_add];grind
theorem Vd {m b:Nat} (hb:b≤m):eqm m (((m - b) % m:Nat):Int) (-b):=by
 refine (eqm.nat m _).trans ⟨1,?_⟩
 rw [Int.natCast_sub hb];grind
theorem NG {m n:Nat} (hm:2≤m) (xs ys:Nat→Nat) (hx: ∀ i,i<n→xs i<m) (hu: ∀ i k,k<i→i<n→jB m ((xs i:Int) - xs k)): ∀ i,i≤n→(∀ k,k<i→eqm m (evL (bK m xs ys i).1 (xs k)) (ys k))∧(∀ k,k<i→eqm m (evL (bK m xs ys i).2 (xs k)) 0)∧ ∀ k,i≤k→k<n→jB m (evL (bK m xs ys i).2 (xs k))
 | 0,_=>⟨fun k hk=>by omega,fun k hk=>by omega,fun k _ _=>⟨1,0,by show ((1:Int)+(xs k:Int)*0)*1=_;grind⟩⟩
 | i+1,hi=>by
  obtain ⟨h1,h2,h3⟩:=NG hm xs ys hx hu i (by omega)
  have e1:(bK m xs ys (i+1)).1=lN m (bK m xs ys i).1 (bK m xs ys i).2 ((ys i+m - lM m (bK m xs ys i).1 (xs i)) % m*(jg (lM m (bK m xs ys i).2 (xs i)) m).1 % m):=rfl
  have e2:(bK m xs ys (i+1)).2=jQ m (bK m xs ys i).2 [(m - xs i) % m,1]:=rfl
  rw [e1,e2]
  generalize (bK m xs ys i).1=P at*
  generalize (bK m xs ys i).2=B at*
  have hvP:=aby m P (xs i)
  have hvB:=aby m B (xs i)
  have hlP:=Hq (m:=m) (by omega) P (xs i)
  have hub:jB m (lM m B (xs i):Nat):=(h3 i (Nat.le_refl _) (by omega)).congr hvB.symm
  have hinv:=(Di hm hub).2
  have hs:=wz (a:=ys i) (Nat.le_of_lt hlP)
  have hc:=eqm.nat m ((ys i+m - lM m P (xs i)) % m*(jg (lM m B (xs i)) m).1)
  rw [Int.natCast_mul] at hc
  generalize (ys i+m - lM m P (xs i)) % m*(jg (lM m B (xs i)) m).1 % m=c at*
  generalize (jg (lM m B (xs i)) m).1=iv at*
  have hc2:=hc.trans (hs.mul eqm.rfl')
  have hz:=Vd (Nat.le_of_lt (hx i (by omega)))
  have hB: ∀ x:Int,eqm m (evL (jQ m B [(m - xs i) % m,1]) x) ((x - xs i)*evL B x):=fun x=>(abA m B _ x).trans (((eqm.rfl'.add hz).mul eqm.rfl').trans ⟨0,by grind⟩)
  refine ⟨fun k hk=>?_,fun k hk=>?_,fun k hk hk2=>?_⟩
  ·refine (abz m P B c (xs k)).trans ?_
   by_cases e:k=i
   ·subst e
    refine (eqm.rfl'.add (hc2.mul hvB.symm)).trans ?_
    obtain ⟨c1,hvP⟩:=hvP
    obtain ⟨c2,hinv⟩:=hinv
    exact ⟨-c1+((ys k:Int) - (lM m P (xs k):Nat))*c2,by grind⟩
   ·obtain ⟨c1,q1⟩:=h1 k (by omega)
    obtain ⟨c2,q2⟩:=h2 k (by omega)
    exact ⟨c1+c*c2,by rw [q1,q2];grind⟩
  ·refine (hB _).trans ?_
   by_cases e:k=i
   ·subst e;exact ⟨0,by grind⟩
   ·obtain ⟨c2,q2⟩:=h2 k (by omega)
    exact ⟨((xs k:Int) - xs i)*c2,by rw [q2];grind⟩
  ·exact ((hu k i (by omega) hk2).mul (h3 k (by omega) hk2)).congr (hB _).symm
end
section
open Go.RowKit Wv
theorem NH (n:Int) (h:n≤4611686018427387904):dD n≤62∧n≤((2 ^ dD n:Nat):Int)∧ ∀ j,j<dD n→((2 ^ j:Nat):Int)<n:=by
 unfold dD
 by_cases h1:n≤1
 ·rw [if_pos h1]
  exact ⟨by omega,by show n≤1;exact h1,fun j hj=>by omega⟩
 ·rw [if_neg h1]
  obtain ⟨x,hx⟩: ∃ x:Nat,n=(x:Int)+1:=⟨(n - 1).toNat,by omega⟩
  have hx2:(n - 1).toNat=x:=by omega
  rw [hx2]
  obtain ⟨b1,b2,b3⟩:=Lib.bitLenAux_bounds 64 x (by show x<18446744073709551616;omega) (by omega)
  have e:Lib.bitLen x=Lib.bitLenAux 64 x:=rfl
  rw [e]
  generalize Lib.bitLenAux 64 x=L at*
  refine ⟨?_,by omega,fun j hj=>?_⟩
  ·refine Classical.byContradiction fun hh=>?_
   have:=Nat.pow_le_pow_right (n:=2) (by decide) (show 62≤L - 1 by omega)
   have e:2 ^ 62=4611686018427387904:=rfl
   omega
  ·have:=Nat.pow_le_pow_right (n:=2) (by decide) (show j≤L - 1 by omega)
   omega
theorem rP (n:Int) (h:n≤4611686018427387904):TC Tryz.prog 188 [.v (.int .i64 n)] (.v (.int .i64 (dD n))):=by
 obtain ⟨f1,f2,f3⟩:=NH n h
 generalize dD n=L at*
 refine Wv.TC.by 12 [3,0,8,2] [] [.tmp 2] Tryz.func188 rfl rfl rfl ?clo ?_
 case clo=>simp only [Wv.BC]
 refine Wv.W ?_
 refine dQ (σ:=Nat) (fun e=>[(0, .v (.int .i64 n)),(3, .v (.int .i64 e))]) (fun _=>[]) (fun e=>e≤L) (fun e=>L - e) 0 (Nat.zero_le _) rfl Wv.V ?_
 intro e he
 have hm:min e 64=e:=by omega
 have hp:2 ^ e≤4611686018427387904:=Nat.pow_le_pow_right (n:=2) (by decide) (show e≤62 by omega)
 have hp0:0<2 ^ e:=Nat.pow_pos (by decide)
 have hw:IntKind.i64.wrap ((2:Int) ^ e)=((2 ^ e:Nat):Int):=by
  have e2:((2:Int) ^ e)=((2 ^ e:Nat):Int):=by rw [Int.natCast_pow];rfl
  rw [e2]
  generalize 2 ^ e=q at*
  rw [IntKind.wrap_i64];omega
 by_cases hlt:e<L
 ·have q:=f3 e hlt
  generalize ((2 ^ e:Nat):Int)=z at*
  simp (disch:=first|exact Wv.D|fail) only [Wv.B,simprocAttr,Int.toNat_natCast,hm,Int.one_mul,hw,decide_eq_true q]
  refine aH (e+1) (by omega) (by omega) rfl Wv.V2
 ·obtain rfl:L=e:=by omega
  have q: ¬ ((2 ^ L:Nat):Int)<n:=by omega
  generalize ((2 ^ L:Nat):Int)=z at*
  simp (disch:=first|exact Wv.D|fail) only [Wv.B,simprocAttr,Int.toNat_natCast,hm,Int.one_mul,hw,decide_eq_false q]
def zh (t:Nat) (val:Nat→Int):List Nat:=if H7 t t id=true then [] else lU t t id (iP t val) t
def xH (t:Nat) (val:Nat→Int):Nat:=cZ (fun i=>(zh t val).getD i 0) (zh t val).length - 1
theorem NI {t:Nat} (h2:2≤t) (val:Nat→Int):(zh t val).length≤1+3*t:=by
 unfold zh
 split
 ·exact Nat.zero_le _
 ·exact (zS h2 t id (iP t val) (fun i _=>oO (by omega) val i) t (Nat.le_refl _)).2
theorem abB (t:Nat) (val:Nat→Int) (h2:2≤t) (h256:t≤256):
  TC Tryz.prog 241 [.v (.int .u32 t),eU t id,eU t (iP t val)] (.tup [bM (zh t val), .v (.int .i64 (if H7 t t id=true then 7 else 0))]):=by
 refine (PG t t id (iP t val) h2 (by omega) h256 (fun i hi=>hi) fun i hi=>oO (by omega) val i).res ?_
 unfold Nz zh
 cases H7 t t id with
 | true=>exact Wk.tup ⟨Wk.nil 1,Wk.refl _,trivial⟩
 | false=>exact Wk.refl _
theorem abC {a t:Int} (ht:0<t):(a.tmod t+t).tmod t=(a+t) % t:=by
 have h1:=Int.lt_tmod_of_pos a ht
 rw [Int.tmod_eq_emod_of_nonneg (by omega),Int.tmod_def,Int.add_emod_right,Int.add_emod_right,Int.sub_mul_emod_self_left]
theorem PI (N r:Int) (t m:Nat) (nm:Nat→ByteArray) (sh:Nat→Bool × Nat) (val:Nat→Int) (h2:2≤t) (h256:t≤256) (hb: ∀ i,i<t→inB (val i)=true):
  TC Tryz.prog 219 [.tp (yC N t r m nm sh), .t t 1 (tab t fun i=> .v (.int .i64 (val i)))] (.v (.int .i64 (xH t val))):=by
 have TI:=abB t val h2 h256
 have hD:xH t val=cZ (fun i=>(zh t val).getD i 0) (zh t val).length - 1:=rfl
 have hll:=NI h2 val
 have hv: ∀ i,i<t→ -4294967295≤val i∧val i≤4294967295:=fun i hi=>by
  have h:=hb i hi
  unfold inB at h
  rw [Bool.and_eq_true] at h
  exact ⟨of_decide_eq_true h.1,of_decide_eq_true h.2⟩
 generalize zh t val=l at*
 generalize (if H7 t t id=true then 7 else 0:Int)=er at*
 generalize xH t val=D at*
 unfold yC bn
 refine Wv.TC.by 70 [7,1,15,5,6,0,11,8,60,67,10,4] [(6,19),(3000006,3)] [.tmp 4] Tryz.func219 rfl rfl rfl ?clo ?_
 case clo=>simp only [Wv.BC]
 have hYc:=uq N t r m nm sh
 unfold yC bn at hYc
 generalize shM m sh=L at*
 have hLl: ∀ k,lo k _=True:=fun k=>eq_true (.clo hYc)
 refine Wv.W ?_
 refine qj (σ:=Nat) (fun i=>[(0, .tp [.v (.int .i64 N), .v (.int .i64 t), .v (.int .i64 r), .t m 1 (tab m fun i=> .v (.string (nm i))), .t m 2 L]),(1, .t t 1 (tab t fun i=> .v (.int .i64 (val i)))),(5, .own 0 i),(6, .own 1 i),(7, .v (.int .i64 i))])
  (fun i=>[some (.arr 22 1 (tab i fun i=> .v (.int .u32 (i:Nat))) 0),some (.arr 22 1 (tab i fun i=> .v (.int .u32 (iP t val i:Nat))) 0)]) (fun i=>i≤t) (fun i=>t - i) 0 (Nat.zero_le _) ?_ ?_
 ·refine Ent.trans (Ent.nil 5 22 1 (by omega) rfl) (Ent.trans (Ent.nil 6 22 1 (by omega) rfl) (Ent.fit ?_))
  exact Wv.V
 intro i hi
 by_cases hlt:i<t
 ·have e1:(i:Int)<(t:Int):=by omega
  have ht0: ¬ (t:Int)=0:=by omega
  obtain ⟨v1,v2⟩:=hv i hlt
  have e2:((val i).tmod t+t).tmod t=((iP t val i:Nat):Int):=by rw [abC (by omega)];exact (zM (by omega) val i).symm
  have e3:=oO (t:=t) (by omega) val i
  have m1:=Int.lt_tmod_of_pos (val i) (show (0:Int)<t by omega)
  have m2:=Int.tmod_lt_of_pos (val i) (show (0:Int)<t by omega)
  simp (disch:=first|exact Wv.D|fail) only [Wv.B,simprocAttr,decide_eq_true e1,decide_eq_false ht0,e2]
  refine Wv.jd (i+1) 2 (by first | decide | exact Nat.le_of_ble_eq_true rfl) (by omega) (by omega) (by simp (disch:=first|exact Wv.D|fail) only [Wv.B,simprocAttr,dH]) Wv.V2 (by simp only [Wv.BL, ↓reduceIte,Nat.reduceLeDiff,hLl]<;>omega) (by simp only [Wv.BL, ↓reduceIte,Nat.reduceLeDiff,hLl]<;>omega)
 ·obtain rfl:t=i:=by omega
  simp (disch:=first|exact Wv.D|fail) only [Wv.B,simprocAttr,Int.lt_irrefl,decide_false]
  refine ji TI (by simp only [Wv.BC,aS,jP]) (by simp only [Wv.BC,aS]) ?_
  refine Wv.W ?_
  refine gK rfl ?_
  simp (disch:=first|exact Wv.D|fail) only [Wv.B,simprocAttr,bM,eU]
  refine dQ (σ:=Nat) (fun i=>[(8, .t l.length 1 (tab l.length fun i=> .v (.int .u32 (l.getD i 0:Nat)))),(10, .v (.int .i64 (cZ (fun i=>l.getD i 0) i - 1:Nat))),(11, .v (.int .i64 i))])
   (fun _=>[some (.arr 22 1 (tab t fun i=> .v (.int .u32 (i:Nat))) t),some (.arr 22 1 (tab t fun i=> .v (.int .u32 (iP t val i:Nat))) t)]) (fun i=>i≤l.length) (fun i=>l.length - i) 0 (Nat.zero_le _) Wv.V (by simp (disch:=first|exact Wv.D|fail) only [Wv.B,simprocAttr];rfl) ?_
  clear hv hb TI
  intro i hi
  by_cases hlt:i<l.length
  ·have e1:(i:Int)<(l.length:Int):=by omega
   have hs:=gJ (fun i=>l.getD i 0) i
   by_cases hz:l.getD i 0=0
   ·rw [if_pos hz] at hs
    simp (disch:=first|exact Wv.D|fail) only [Wv.B,simprocAttr,decide_eq_true e1,hz]
    refine aH (i+1) (by omega) (by omega) rfl (by simp (disch:=first|exact Wv.D|fail) only [Wv.B,simprocAttr,hs,Int.natCast_add,Int.natCast_one])
   ·rw [if_neg hz] at hs
    have hz': ¬ ((l.getD i 0:Nat):Int)=0:=by omega
    have hs':cZ (fun i=>l.getD i 0) (i+1) - 1=i:=by rw [hs];rfl
    simp (disch:=first|exact Wv.D|fail) only [Wv.B,simprocAttr,decide_eq_true e1,decide_eq_false hz']
    refine aH (i+1) (by omega) (by omega) rfl (by simp (disch:=first|exact Wv.D|fail) only [Wv.B,simprocAttr,hs',Int.natCast_add,Int.natCast_one])
  ·obtain rfl:i=l.length:=by omega
   simp (disch:=first|exact Wv.D|fail) only [Wv.B,simprocAttr,Int.lt_irrefl,decide_false,hD]
end
end Go.Proofs.YtljfgdlgmdcmfaaGreat
