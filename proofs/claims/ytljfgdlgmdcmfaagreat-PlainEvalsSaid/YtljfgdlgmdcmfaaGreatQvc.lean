/- Parts of a proof. -/
import Derived.Test.YtljfgdlgmdcmfaaGreatQvb
import Derived.Lib.ConvBytes
set_option linter.unusedVariables false
namespace Go.Proofs.YtljfgdlgmdcmfaaGreat.Wv
section
open Go.RowKit
def aO:Ev→Nat→AV
 | [],_=> .none
 | (k,a)::r,d=>if k=d then a else aO r d
def bY (e:Ev) (dst:Option Tmp) (a:AV):Ev:=match dst with
 | some d=>(d,a)::e
 | none=>e
def dO (e:Ev):Operand→AV
 | .tmp t=>aO e t
 | .const x=> .v x
 | .global g=> .v (.pointer (some ⟨g,0,none⟩))
 | .func f=> .fn (.func f) [] []
structure aN (X:Cx) (N:Nat) (e:Ev) (a:Act):Prop where
 defers:a.defers=X.ds
 size:a.tmps.size=N
 rep: ∀ d,Rep X (aO e d) (a.tmps.getD d undef)
variable {X:Cx}
theorem aN.mono {Y:Cx} {N:Nat} {e:Ev} {a:Act} (S:Step X Y) (h:aN X N e a):aN Y N e a:=⟨h.defers.trans S.dse.symm,h.size,fun d=>(h.rep d).mono S⟩
theorem aN.dO {X:Cx} {N:Nat} {e:Ev} {a:Act} (h:aN X N e a) (x:Operand):Rep X (dO e x) (a.eval x):=by
 cases x with
 | tmp t=>exact h.rep t
 | const x=>exact .v x
 | global g=>exact .v _
 | func f=>exact .fn (v1:=[]) (v2:=[]) rfl rfl (fun i a x h1=>by simp at h1) (fun i a x h1=>by simp at h1)
theorem aN.put {N:Nat} {e:Ev} {a:Act} {dst:Option Tmp} {av:AV} {v:Value} (h:aN X N e a) (hd: ∀ d,dst=some d→d<N) (hr:Rep X av v):aN X N (bY e dst av) (a.put dst v):=by
 cases dst with
 | none=>exact h
 | some d=>
  have hdN:=hd d rfl;refine ⟨h.defers,by simp [Act.put,h.size],fun k=>?_⟩;simp only [bY,aO,Act.put];by_cases e1:d=k
  ·subst e1;rw [if_pos rfl];have:(a.tmps.setIfInBounds d v).getD d undef=v:=by simp [Array.getD,h.size,hdN]
   rw [this];exact hr
  ·rw [if_neg e1];have:(a.tmps.setIfInBounds d v).getD k undef=a.tmps.getD k undef:=by simp [Array.getD_eq_getD_getElem?,Array.getElem?_setIfInBounds_ne e1]
   rw [this];exact h.rep k
def lM (P:Program) (f:FuncId):Bool:=match P.funcs[f]? with
 | some fn=>fn.body.isSome && !(fn.name== "runtime.NumGoroutine")
 | none=>false
variable {P:Program}{f:FuncId}
theorem pY (h:lM P f=true) (args:Array Value) (w:World):(callFunc f args).run P w= .ok (.enter f args) w:=by
 unfold lM at h;split at h
 ·next fn hf=>
  simp only [Bool.and_eq_true,Bool.not_eq_true'] at h;cases hb:fn.body with
  | none=>rw [hb] at h;simp at h
  | some c=>
   have h2: ¬ fn.name= "runtime.NumGoroutine" :=by simpa using h.2
   simp [callFunc,hf,h2,hb]
 ·cases h
def HT (P:Program) (f:FuncId) (args:List AV) (h:Hp) (R:AV→Hp→Prop):Prop:=
 lM P f=true∧ ∀ (X:Cx) (vs:List Value),Ok X→X.h=h→fJ X args vs→Calls P f vs.toArray X.w fun e w'=> ∃ v Y av,e= .returned v∧Y.w=w'∧Step X Y∧Ok Y∧Rep Y av v∧R av Y.h
def HTP (P:Program) (f:FuncId) (args:List AV) (h:Hp) (R p:AV→Hp→Prop):Prop:=
 lM P f=true∧ ∀ (X:Cx) (vs:List Value),Ok X→X.h=h→fJ X args vs→Calls P f vs.toArray X.w fun e w'=> ∃ v Y av,Y.w=w'∧Step X Y∧Ok Y∧Rep Y av v∧((e= .returned v∧R av Y.h)∨(e= .panicked [{v,recovered:=false}]∧p av Y.h))
variable {R:AV→Hp→Prop}{args:List AV}{h:Hp}
theorem HT.toP (T:HT P f args h R) (p:AV→Hp→Prop):HTP P f args h R p:=
 ⟨T.1,fun X vs hX hh hr=>(T.2 X vs hX hh hr).mono fun e w' ⟨v,Y,av,h1,h2,h3,h4,h5,h6⟩=>⟨v,Y,av,h2,h3,h4,h5, .inl ⟨h1,h6⟩⟩⟩
theorem HTP.toT {p:AV→Hp→Prop} (T:HTP P f args h R p) (hp: ∀ av h', ¬ p av h'):HT P f args h R:=
 ⟨T.1,fun X vs hX hh hr=>(T.2 X vs hX hh hr).mono fun e w' ⟨v,Y,av,h2,h3,h4,h5,h6⟩=>by
  rcases h6 with ⟨h6,h7⟩ | ⟨_,h7⟩
  ·exact ⟨v,Y,av,h6,h2,h3,h4,h5,h7⟩
  ·exact absurd h7 (hp _ _)⟩
theorem HTP.mono {p R' p':AV→Hp→Prop} (T:HTP P f args h R p) (hr: ∀ av h',R av h'→R' av h') (hp: ∀ av h',p av h'→p' av h'):HTP P f args h R' p':=
 ⟨T.1,fun X vs hX hh hrr=>(T.2 X vs hX hh hrr).mono fun e w' ⟨v,Y,av,h2,h3,h4,h5,h6⟩=>⟨v,Y,av,h2,h3,h4,h5,h6.imp (fun q=>⟨q.1,hr _ _ q.2⟩) (fun q=>⟨q.1,hp _ _ q.2⟩)⟩⟩
def oH (P:Program) (h:Hp) (tx:TypeId) (s:Nat) (x:AV):Option (Nat × List AV):=match x with
 | .t m s' cells=>if s'=s∧(aG P tx).isSome∧cells.all (kE h)=true then some (m,cells) else none
 | .own id m=>match h[id]? with
  | some (some (.arr _ s' cells _))=>if s'=s∧cells.length=m*s∧(aG P tx).isSome∧cells.all (kE h)=true then some (m,cells) else none
  | _=>none
 | .v (.string b)=>if s=1∧dK P tx then some (b.size,b.data.toList.map fun c=> .v (.int .u8 c.toNat)) else none
 | .v (.slice none 0 0)=>if (aG P tx).isSome then some (0,[]) else none
 | _=>none
theorem PX {cells:List AV} {cvs:List Value} (h:cells.all (kE X.h)=true) (hc:cvs.length=cells.length) (hr: ∀ (i:Nat) (a:AV) (x:Value),cells[i]? =some a→cvs[i]? =some x→Rep X a x): ∀ u∈cvs,u.oneCell'=true:=
 Ju h ⟨hc,hr⟩
theorem Ho {tx:TypeId} {s m:Nat} {x:AV} {jL:List AV} {v:Value} (hX:Ok X) (h:oH P X.h tx s x=some (m,jL)) (hr:Rep X x v):
  ∃ news,Src P s tx v m news X.w∧jL.length=news.length∧ ∀ (i:Nat) (a:AV) (x:Value),jL[i]? =some a→news[i]? =some x→Rep X a x:=by
 cases x with
 | t m' s' cells=>
  simp only [oH] at h;split at h
  ·next hc=>
   obtain ⟨rfl,he,hall⟩:=hc;injection h with h;injection h with e1 e2;subst e1 e2;obtain ⟨e,he⟩:=Option.isSome_iff_exists.1 he;cases hr with
   | @t _ _ _ p cap cvs hl hc hn hcap hp hrr=>
   rcases Nat.eq_zero_or_pos m' with rfl | hm
   ·have hc0:cvs=[]:=List.eq_nil_of_length_eq_zero (by rw [hc,hl];omega);subst hc0;refine ⟨[],?_,by rw [hl];simp,fun i a x h1 h2=>by simp at h2⟩;cases p with
    | none=>exact Src.ofNil X.w (dF he) cap
    | some ad=>exact Src.ofSlice X.w (dF he) ad 0 cap [] (by simp) (fun j u hu=>by simp at hu) (fun u hu=>by simp at hu)
   ·obtain ⟨b,off,rfl,hq⟩:=hp hm;exact ⟨cvs,Src.ofSlice X.w (dF he) ⟨b,off,none⟩ m' cap cvs (by rw [hc,hl]) (fun j u hu=>by rw [pU];exact (hq j u hu).1) (PX hall hc hrr),hc.symm,hrr⟩
  ·cases h
 | own id m'=>
  simp only [oH] at h;split at h
  ·next T' s' cells fz hid=>
   split at h
   ·next hc=>
    obtain ⟨rfl,hlen,he,hall⟩:=hc;injection h with h;injection h with e1 e2;subst e1 e2;obtain ⟨e,he⟩:=Option.isSome_iff_exists.1 he;have hv:=qF (by simp [bQ,hid,hlen]) hr;subst hv;obtain ⟨g1,g2,n',g3,g4⟩:=hX.arr id T' s' cells fz hid;have hnn:n'=m':=Nat.eq_of_mul_eq_mul_right g2 (by rw [←g3, ←hlen]);subst hnn;rcases g4 with ⟨g4,g5⟩ | ⟨b,cvs,g4⟩
    ·have hm0:n'=0:=by
      rw [g5] at hlen;rcases Nat.mul_eq_zero.1 hlen.symm with h0 | h0<;>omega
     subst hm0;refine ⟨[],?_,by rw [g5];rfl,fun i a x h1 h2=>by simp at h2⟩;rw [g4];exact Src.ofNil X.w (dF he) 0
    ·have hle:cells.length≤cvs.size:=by rw [g4.sz,g3];exact Nat.mul_le_mul_right _ g4.cap
     have hrr: ∀ (i:Nat) (a:AV) (x:Value),cells[i]? =some a→(cvs.toList.take cells.length)[i]? =some x→Rep X a x:=fun i a x h1 h2=>by
      rw [List.getElem?_take] at h2;split at h2
      ·exact g4.rep i a x h1 (by simpa using h2)
      ·cases h2
     have hcl:(cvs.toList.take cells.length).length=cells.length:=by simp;omega
     refine ⟨cvs.toList.take cells.length,?_,hcl.symm,hrr⟩;rw [show aY (X.m id) n'= .slice (some ⟨b,0,none⟩) n' (X.m id).2 by unfold aY;rw [g4.at_];rfl];refine Src.ofSlice X.w (dF he) ⟨b,0,none⟩ n' _ _ (by rw [hcl,hlen]) (fun j u hu=>?_) (PX hall hcl hrr);rw [List.getElem?_take] at hu;split at hu
     ·rw [pU,Nat.zero_add];have:=aZ (off:=j) g4.blk;unfold cellAt at this;rw [this];simpa using hu
     ·cases hu
   ·cases h
  ·cases h
 | v y=>
  cases y with
  | string b=>
   simp only [oH] at h;split at h
   ·next hc=>
    obtain ⟨rfl,hs⟩:=hc;injection h with h;injection h with e1 e2;subst e1 e2;have hu:P.underlying tx=some .string:=by
     unfold dK at hs;split at hs
     ·assumption
     ·cases hs
    cases hr;refine ⟨byteCells b,Src.ofString X.w hu b,by simp [byteCells],fun i a x h1 h2=>?_⟩;unfold byteCells at h2;rw [List.getElem?_map] at h1 h2;cases hb:b.data.toList[i]? with
    | none=>rw [hb] at h1;cases h1
    | some c=>rw [hb] at h1 h2;injection h1 with h1;injection h2 with h2;subst h1 h2;exact .v _
   ·cases h
  | slice p n c=>
   cases p with
   | some ad=>cases h
   | none=>
    cases n with
    | succ n=>cases h
    | zero=>
     cases c with
     | succ c=>cases h
     | zero=>
      simp only [oH] at h;split at h
      ·next he=>
       injection h with h;injection h with e1 e2;subst e1 e2;obtain ⟨e,he⟩:=Option.isSome_iff_exists.1 he;cases hr;exact ⟨[],Src.ofNil X.w (dF he) 0,rfl,fun i a x h1 h2=>by simp at h2⟩
      ·cases h
  | _=>cases h
 | _=>cases h
def Cx.Nz (X:Cx) (T:TypeId) (s:Nat):Cx:=⟨X.w,fun i=>if i=X.h.length then (none,0) else X.m i,X.h++[some (.arr T s [] 0)],X.bad,X.ds⟩
theorem afJ (X:Cx) (T:TypeId) (s:Nat) {i:Nat} (h:i<X.h.length):(X.Nz T s).m i=X.m i:=if_neg (by omega)
theorem qL (X:Cx) (T:TypeId) (s:Nat):(X.Nz T s).m X.h.length=(none,0):=if_pos rfl
theorem Hq (hX:Ok X) (T:TypeId) (s:Nat) (hs:0<s): ∃ Y,Y.w=X.w∧Step X Y∧Ok Y∧Y.h=X.h++[some (.arr T s [] 0)]∧Rep Y (.own X.h.length 0) (.slice none 0 0):=by
 have hm: ∀ i,i<X.h.length→(X.Nz T s).m i=X.m i:=fun i hi=>afJ X T s hi
 have hh: ∀ i,i<X.h.length→(X.h++[some (Ob.arr T s [] 0)])[i]? =X.h[i]? :=fun i hi=>List.getElem?_append_left hi
 have hnew:(X.h++[some (Ob.arr T s [] 0)])[X.h.length]? =some (some (.arr T s [] 0)):=by simp
 have hcase: ∀ i o,(X.h++[some (Ob.arr T s [] 0)])[i]? =some (some o)→(i=X.h.length∧o= .arr T s [] 0)∨(i<X.h.length∧X.h[i]? =some (some o)):=by
  intro i o ho;have hl:=(List.getElem?_eq_some_iff.1 ho).1;simp only [List.length_append,List.length_singleton] at hl;by_cases e:i=X.h.length
  ·subst e;rw [hnew] at ho;injection ho with ho;injection ho with ho;exact .inl ⟨rfl,ho.symm⟩
  ·exact .inr ⟨by omega,by rw [←hh i (by omega)];exact ho⟩
 have S:Step X (X.Nz T s):=by
  refine ⟨rfl,rfl,rfl,Nat.le_refl _,fun _ _ _=>rfl,fun _ _ _ h k=>⟨h,k⟩,by simp [Cx.Nz],fun i U s' c f hi ho=>?_,fun i c hi ho=>?_,fun b hb=>?_,fun _ _ h=> .inl h,fun i c hi ho=>?_,rfl⟩
  ·rcases hcase i _ ho with ⟨e,_⟩ | ⟨_,h1⟩
   ·omega
   ·exact ⟨c,f,h1,Nat.le_refl _,fun _=>hm i hi⟩
  ·rcases hcase i _ ho with ⟨e,_⟩ | ⟨_,h1⟩
   ·omega
   ·exact ⟨c,h1,by rw [hm i hi]⟩
  ·obtain ⟨i,⟨o,ho⟩,he⟩:=hb;rcases hcase i o ho with ⟨e,_⟩ | ⟨hi,h1⟩
   ·subst e;rw [qL] at he;cases he
   ·rw [hm i hi] at he;exact .inr ⟨i,⟨o,h1⟩,he⟩
  ·rcases hcase i _ ho with ⟨e,_⟩ | ⟨_,h1⟩
   ·omega
   ·exact ⟨c,h1,by rw [hm i hi]⟩
 refine ⟨X.Nz T s,rfl,S,⟨fun id cells ho=>?_,fun id U s' cells fz ho=>?_,fun i j b hi hj ei ej=>?_,hX.dX,fun id es ho=>?_⟩,rfl, .own (by simp [Cx.Nz]) fun U s' cells fz ho=>?_⟩
 ·rcases hcase id _ ho with ⟨_,e⟩ | ⟨hi,h1⟩
  ·cases e
  ·obtain ⟨b,cvs,T',q1,q2,q3,q4,q5⟩:=hX.blk id cells h1;exact ⟨b,cvs,T',by rw [hm id hi];exact q1,q2,q3,q4,fun i a x r1 r2=>(q5 i a x r1 r2).mono S⟩
 ·rcases hcase id _ ho with ⟨e,e2⟩ | ⟨hi,h1⟩
  ·injection e2 with e1 e2 e3 e4;subst e1 e2 e3 e4;exact ⟨Nat.le_refl _,hs,0,by simp, .inl ⟨by rw [e];exact qL X _ _,rfl⟩⟩
  ·obtain ⟨g1,g2,n,g3,g4⟩:=hX.arr id U s' cells fz h1;refine ⟨g1,g2,n,g3,?_⟩;rcases g4 with ⟨g4,g5⟩ | ⟨b,cvs,g4⟩
   ·exact .inl ⟨by rw [hm id hi];exact g4,g5⟩
   ·exact .inr ⟨b,cvs,⟨by rw [hm id hi];exact g4.at_,g4.blk,by rw [hm id hi];exact g4.cap,by rw [hm id hi];exact g4.iQ,by rw [hm id hi];exact g4.sz,g4.bad,fun i a x r1 r2=>(g4.rep i a x r1 r2).mono S,g4.good⟩⟩
 ·obtain ⟨oi,ho⟩:=hi;obtain ⟨oj,hp⟩:=hj;rcases hcase i oi ho with ⟨e,_⟩ | ⟨hi,h1⟩
  ·subst e;rw [qL] at ei;cases ei
  ·rcases hcase j oj hp with ⟨e,_⟩ | ⟨hj,h2⟩
   ·subst e;rw [qL] at ej;cases ej
   ·rw [hm i hi] at ei;rw [hm j hj] at ej;exact hX.inj i j b ⟨_,h1⟩ ⟨_,h2⟩ ei ej
 ·rcases hcase id _ ho with ⟨_,e⟩ | ⟨hi,h1⟩
  ·cases e
  ·obtain ⟨b,ents,clock,q1,q2,q3⟩:=hX.map id es h1;exact ⟨b,ents,clock,by rw [hm id hi];exact q1,q2,q3.mono S⟩
 ·rcases hcase _ _ ho with ⟨_,e⟩ | ⟨hi,_⟩
  ·injection e with e1 e2 e3 e4;subst e1 e2 e3 e4;exact ⟨by simp,fun _=>by rw [qL];rfl⟩
  ·omega
end
section
open Go.RowKit
def nN (P:Program) (h:Hp) (t tx:TypeId) (s x:AV):Option (AV × Hp):=
 (aG P t).bind fun T=>(szP P T).bind fun sz=>(bD P T).bind fun by_=>(aA P T).bind fun z=>(oH P h tx sz x).bind fun mn=>
  if z.cells.size=sz∧0<sz then
   match s with
   | .own id n=>match h[id]? with
    | some (some (.arr T' s' cells fz))=>if T'=T∧s'=sz∧cells.length=n*sz∧n+mn.1≤maxLen∧(n+mn.1)*by_≤140737488355328 then some (.own id (n+mn.1),h.set id (some (.arr T sz (cells++mn.2) fz))) else none
    | _=>none
   | .v (.slice none 0 0)=>if mn.1≤maxLen∧mn.1*by_≤140737488355328 then some (.own h.length mn.1,h++[some (.arr T sz mn.2 0)]) else none
   | _=>none
  else none
variable {P:Program}{X:Cx}{r x:AV}{v:Value}
theorem NC {t tx ty:TypeId} {s:AV} {h':Hp} {u:Value} (hX:Ok X) (h:nN P X.h t tx s x=some (r,h')) (hs:Rep X s v) (hx:Rep X x u):
  ∃ v' Y,(Builtin.append_ #[t,tx] ty #[v,u]).run P X.w= .ok v' Y.w∧Step X Y∧Ok Y∧Rep Y r v'∧Y.h=h':=by
 unfold nN at h;cases h1:aG P t with
 | none=>rw [h1] at h;cases h
 | some T=>
 rw [h1] at h;simp only [Option.bind_some] at h;cases h2:szP P T with
 | none=>rw [h2] at h;cases h
 | some sz=>
 rw [h2] at h;simp only [Option.bind_some] at h;cases h3:bD P T with
 | none=>rw [h3] at h;cases h
 | some by_=>
 rw [h3] at h;simp only [Option.bind_some] at h;cases h4:aA P T with
 | none=>rw [h4] at h;cases h
 | some z=>
 rw [h4] at h;simp only [Option.bind_some] at h;cases h5:oH P X.h tx sz x with
 | none=>rw [h5] at h;cases h
 | some mn=>
 obtain ⟨m,jL⟩:=mn;rw [h5] at h;simp only [Option.bind_some] at h;obtain ⟨i,hi,hsi⟩:=lK h2;obtain ⟨i2,hi2,hz⟩:=nI h4;have hii:i2=i:=by rw [hi] at hi2;injection hi2 with e;exact e.symm
 subst hii;have hb:i2.bytes=by_:=by unfold bD at h3;rw [hi] at h3;injection h3
 obtain ⟨news,q1,q2,q3⟩:=Ho hX h5 hx;split at h
 ·next hzs=>
  split at h
  ·next id n=>
   split at h
   ·next T' s' cells fz hid=>
    split at h
    ·next hc=>
     obtain ⟨rfl,rfl,hl,h63,hby⟩:=hc;injection h with h;injection h with e1 e2;subst e1 e2;obtain ⟨v',Y,y1,y2,y3,y4,y5⟩:=EX (P:=P) (ty:=ty) hX hid hl (dF h1) hi hz hsi hzs.1 q1 q2 q3 h63 (by rw [hb];exact hby) hs;exact ⟨v',Y,y1,y2,y3,y5,y4⟩
    ·cases h
   ·cases h
  ·split at h
   ·next hc=>
    injection h with h;injection h with e1 e2;subst e1 e2;cases hs;obtain ⟨Z,z1,z2,z3,z4,z5⟩:=Hq hX T sz hzs.2;have amv:Z.h[X.h.length]? =some (some (.arr T sz [] 0)):=by rw [z4];simp
    obtain ⟨v',Y,y1,y2,y3,y4,y5⟩:=EX (P:=P) (ty:=ty) z3 amv (n:=0) (by simp) (dF h1) hi hz hsi hzs.1 (by rw [z1];exact q1) q2 (fun i a x r1 r2=>(q3 i a x r1 r2).mono z2) (by rw [Nat.zero_add];exact hc.1) (by rw [hb,Nat.zero_add];exact hc.2) z5;rw [Nat.zero_add] at y5;rw [z1] at y1;refine ⟨v',Y,y1,z2.trans hX y2,y3,y5,?_⟩;rw [y4,z4];simp
   ·cases h
  ·cases h
 ·cases h
def zD (P:Program) (h:Hp) (t tx:TypeId) (d x:AV):Option (AV × Hp):=
 (aG P t).bind fun T=>(szP P T).bind fun sz=>(oH P h tx sz x).bind fun mn=>match d with
  | .own id n=>match h[id]? with
   | some (some (.arr T' s' cells fz))=>if s'=sz∧fz=0∧cells.length=n*sz∧mn.1≤n then some (.v (.int .i64 mn.1),h.set id (some (.arr T' s' (dW cells 0 mn.2) 0))) else none
   | _=>none
  | _=>none
theorem Wh {t tx ty:TypeId} {d:AV} {h':Hp} {u:Value} (hX:Ok X) (h:zD P X.h t tx d x=some (r,h')) (hs:Rep X d v) (hx:Rep X x u):
  ∃ v' Y,(Builtin.copy_ #[t,tx] ty #[v,u]).run P X.w= .ok v' Y.w∧Step X Y∧Ok Y∧Rep Y r v'∧Y.h=h':=by
 unfold zD at h;obtain ⟨T,h1,hA⟩:=Option.bind_eq_some_iff.1 h;clear h;obtain ⟨sz,h2,hB⟩:=Option.bind_eq_some_iff.1 hA;clear hA;obtain ⟨mn,h3,h⟩:=Option.bind_eq_some_iff.1 hB;clear hB;obtain ⟨m,jL⟩:=mn;cases d with
 | own id n=>
  cases hh:X.h[id]? with
  | none=>simp [hh] at h
  | some ob=>
  rcases ob with _ | ob
  ·simp [hh] at h
  cases ob with
  | arr T' s' cells fz=>
   simp only [hh] at h;split at h
   ·next hc=>
    obtain ⟨rfl,rfl,hlen,hmn⟩:=hc;injection h with h;injection h with e1 e2;subst e1 e2;obtain ⟨news,src,hnl,hrep⟩:=Ho hX h3 hx;obtain ⟨g1,g2,n',g3,g4⟩:=hX.arr id T' s' cells 0 hh;have hnn:n'=n:=Nat.eq_of_mul_eq_mul_right g2 (by rw [←g3, ←hlen]);subst hnn;have hv:v=aY (X.m id) n':=by
     cases hs with
     | own _ hq=>exact (hq _ _ _ _ hh).2 hlen
    subst hv;obtain ⟨ti,hti,hsi⟩:=lK h2;have hmin:Nat.min m n'=m:=Nat.min_eq_left hmn;have ajE:jL.length=m*s':=by rw [hnl];exact src.newsLen
    have hu:=dF h1;rcases g4 with ⟨g4,g5⟩ | ⟨b,cvs,g4⟩
    ·have hn0:n'=0:=by
      rw [g5] at hlen;rcases Nat.mul_eq_zero.1 hlen.symm with h0 | h0<;>omega
     have hm0:m=0:=by omega
     subst hm0;have hnw:jL=[]:=List.eq_nil_of_length_eq_zero (by rw [ajE];omega);have amw:news=[]:=List.eq_nil_of_length_eq_zero (by rw [←hnl,hnw];rfl);subst hnw amw;refine ⟨.int .i64 (0:Nat),X,?_,Step.refl X,hX, .v _,?_⟩
     ·have hcells:=src.cells;have hlenO:=src.len;rw [g4];simp only [Builtin.copy_,aY];simp [run_underlying hu,sizeOf,typeInfo,hti,hsi,hlenO,hcells,goInt]
     ·rw [g5];show _=X.h.set id _;rw [dW, ←g5,vT hh]
    ·have hle:cells.length≤cvs.size:=by rw [g4.sz,g3];exact Nat.mul_le_mul_right _ g4.cap
     have hnc:jL.length≤cells.length:=by rw [ajE,hlen];exact Nat.mul_le_mul_right _ hmn
     obtain ⟨Y,y1,y2,y3,y4⟩:=Ok.abe (id:=id) (b:=b) news jL 0 X (.arr T' s' cells 0) hX hh g4.at_ (by simp only [Ob.cells];omega) (fun k _=>Nat.zero_le k) ⟨hnl.symm,hrep⟩;refine ⟨.int .i64 m,Y,?_,y3,y4, .v _,by rw [y2,BQ]⟩;have hst:=run_storeCells_cells (P:=P) b 0 news 0 X.w (fun j hj=>by
      have:X.w.cell? ⟨b,0+0+j,none⟩=cvs[0+0+j]? :=aZ g4.blk;rw [this,Array.getElem?_eq_getElem (by omega)];rfl) (fun j hj=>by simp [World.frozen?,g4.blk]) src.one
     rw [y1];have hcells:=src.cells;have hlenO:=src.len;simp only [Builtin.copy_,aY,g4.at_];simp [run_underlying hu,sizeOf,typeInfo,hti,hsi,hlenO,Nat.min_eq_left hmn,hcells,hst,goInt]
   ·cases h
  | _=>simp [hh] at h
 | _=>simp at h
def mmA (isMax:Bool):List AV→Option AV
 | [.v (.int k a), .v (.int _ b)]=>some (.v (.int k (if isMax then (if b>a then b else a) else (if b<a then b else a))))
 | _=>none
def sliceT (P:Program) (h:Hp) (T:TypeId) (x:AV) (lo hi:Option AV):Option AV:=match x with
 | .own id n=>match h[id]? with
  | some (some (.arr _ s cells fz))=>match aU lo 0,aU hi n with
   | some a,some b=>if (aG P T).bind (szP P)=some s∧cells.length=n*s∧a≤b∧b≤n∧b*s≤fz then some (.t (b - a) s ((cells.take (b*s)).drop (a*s))) else none
   | _,_=>none
  | _=>none
 | x=>(iK P [] T x lo hi).map (·.1)
def uw (P:Program) (c:Call) (E:Operand→AV) (h:Hp) (K:AV→Prop):Prop:=match c.callee with
 | .builtin .len=>c.args.size=1∧ ∃ n,EG P h (c.argTypes.getD 0 0) (E (c.args.getD 0 (.const undef)))=some n∧c.argTypes[0]? =some (c.argTypes.getD 0 0)∧K (.v (.int .i64 n))
 | .builtin .max=> ∃ r,mmA true (c.args.toList.map E)=some r∧K r
 | .builtin .min=> ∃ r,mmA false (c.args.toList.map E)=some r∧K r
 | _=>False
def rOp (P:Program) (o:Oper) (E:Operand→AV) (h:Hp) (K:AV→Prop):Prop:=match o.op with
 | .move x=>K (E x)
 | .assign x=>K (E x)
 | .pick c a b=> ∃ t,E c= .v (.bool t)∧K (bif t then E a else E b)
 | .build T parts=> ∃ l,oD P h T (parts.toList.map fun p=>(p.1,E p.2))=some l∧K (.g l)
 | .load T a=>szP P T≠some 0∧ ∃ l,qE P h T (E a)=some l∧K l
 | .nilCheck x=>mg h (E x)=some false∧K (E x)
 | .binOp op T x y _=> ∃ r,qJ P h op T (E x) (E y)=some r∧K (.v r)
 | .unOp op _ x=> ∃ r,unA op (E x)=some r∧K (.v r)
 | .convert s d x=> ∃ r,iM P h s d (E x)=some r∧K (.v r)
 | .slice T x lo hi mx=>mx.isNone=true∧ ∃ r,sliceT P h T (E x) (lo.map E) (hi.map E)=some r∧K r
 | .fieldAddr S x f=> ∃ r,uM P h S (E x) f=some r∧K r
 | .field S x f=> ∃ r,uO P S (E x) f=some r∧K r
 | .indexAddr T x i=> ∃ z r,qB (E i)=some z∧G9 P h T (E x) z=some r∧K r
 | .index T x i=> ∃ z r,qB (E i)=some z∧mD P T (E x) z=some r∧K r
 | .extract x i=> ∃ r,Fq (E x) i=some r∧K r
 | .makeFunc fn first cap=>K (.fn fn (first.toList.map E) (cap.toList.map E))
 | .call c=>uw P c E h K
 | .makeInterface T x=>bW P T=true∧K (.ifc T (E x))
 | .lookup T x k ok=> ∃ r,nM P h T (E x) (E k) ok=some r∧K r
 | _=>False
def CB (P:Program) (p:AV→Hp→Prop) (c:Call) (E:Operand→AV) (h:Hp) (K:AV→Hp→Prop):Prop:=match c.callee with
 | .builtin .append=>c.args.size=2∧c.argTypes.size=2∧ ∃ r h',nN P h (c.argTypes.getD 0 0) (c.argTypes.getD 1 0) (E (c.args.getD 0 (.const undef))) (E (c.args.getD 1 (.const undef)))=some (r,h')∧K r h'
 | .value f=> ∃ fid fst cap,E f= .fn (.func fid) fst cap∧HTP P fid (fst++c.args.toList.map E++cap) h K p
 | .builtin .copy=>c.args.size=2∧c.argTypes.size=2∧ ∃ r h',zD P h (c.argTypes.getD 0 0) (c.argTypes.getD 1 0) (E (c.args.getD 0 (.const undef))) (E (c.args.getD 1 (.const undef)))=some (r,h')∧K r h'
 | _=>uw P c E h fun av=>K av h
def Hr (b:ByteArray):List AV:=b.data.toList.map fun c=> .v (.int .u8 c.toNat)
def cvX (P:Program) (h:Hp) (s d:TypeId) (b:ByteArray):Option IntKind→Option AV
 | some .u8=>if (P.underlying s).isSome∧b.size≤140737488351232 then some (.t b.size 1 (Hr b)) else none
 | _=>(iM P h s d (.v (.string b))).map .v
def cvA (P:Program) (h:Hp) (s d:TypeId) (x:AV):Option AV:=match x with
 | .v (.string b)=>cvX P h s d b ((aG P d).bind (l9 P))
 | x=>(iM P h s d x).map .v
def wOp (P:Program) (p:AV→Hp→Prop) (o:Oper) (E:Operand→AV) (h:Hp) (K:AV→Hp→Prop):Prop:=match o.op with
 | .alloc T=> ∃ z,aA P T=some z∧K (.ptr h.length 0) (h++[some (.blk (fZ z))])
 | .box T x=> ∃ l,cellsA h (E x)=some l∧K (.ptr h.length 0) (h++[some (.blk l)])
 | .buildSlice T len parts=> ∃ te s L,zZ P h T len (parts.toList.map fun p=>(p.1,E p.2))=some (te,s,L)∧K (.own h.length len) (h++[some (.arr te s L 0)])
 | .store T a x=> ∃ h',uK P h T (E a) (E x)=some h'∧K .none h'
 | .makeSlice T l c=> ∃ zl zc te s L,qB (E l)=some zl∧qB (E c)=some zc∧vU P T zl zc=some (te,s,L)∧K (.own h.length zl.toNat) (h++[some (.arr te s L 0)])
 | .slice T x lo hi mx=>mx.isNone=true∧ ∃ r h',iK P h T (E x) (lo.map E) (hi.map E)=some (r,h')∧K r h'
 | .convert s d x=> ∃ r,cvA P h s d (E x)=some r∧K r h
 | .call c=>CB P p c E h K
 | .makeMap _ r=>r.isNone=true∧K (.mp h.length) (h++[some (.map [])])
 | .mapUpdate T m k x=> ∃ h',kW P h T (E m) (E k) (E x)=some h'∧K .none h'
 | .insert T m k x=> ∃ h',kW P h T (E m) (E k) (E x)=some h'∧K .none h'
 | .panic x=> ∃ T a,E x= .ifc T a∧p (.ifc T a) h
 | _=>rOp P o E h fun av=>K av h
def Goes (P:Program) (X:Cx) (o:Oper) (a:Act) (p K:AV→Hp→Prop):Prop:=
 (∃ v Y av,(execOp a.eval o).run P X.w= .ok (.value v) Y.w∧Step X Y∧Ok Y∧Rep Y av v∧K av Y.h)∨
 (∃ Y,(execOp a.eval o).run P X.w= .ok .skip Y.w∧Step X Y∧Ok Y∧K .none Y.h)∨
 (∃ (f:FuncId) (args:Array Value),(execOp a.eval o).run P X.w= .ok (.enter f args) X.w∧
  Calls P f args X.w fun e w'=> ∃ v Y av,Y.w=w'∧Step X Y∧Ok Y∧Rep Y av v∧((e= .returned v∧K av Y.h)∨(e= .panicked [{v,recovered:=false}]∧p av Y.h)))∨
 (∃ v av,(execOp a.eval o).run P X.w= .halt (.panic v) X.w∧Rep X av v∧p av X.h)
variable {K p:AV→Hp→Prop}{a:Act}{av:AV}{o:Oper}{s:Sem Value}
theorem Sl (hX:Ok X) (he:(execOp a.eval o)=(do pure (.value (←s)):Sem Next)) (hr:s.run P X.w= .ok v X.w) (h:Rep X av v) (hK:K av X.h):Goes P X o a p K:=
 .inl ⟨v,X,av,by rw [he];simp [hr],Step.refl X,hX,h,hK⟩
theorem mF {Y:Cx}  (he:(execOp a.eval o)=(do pure (.value (←s)):Sem Next)) (hr:s.run P X.w= .ok v Y.w) (S:Step X Y) (hY:Ok Y) (h:Rep Y av v) (hK:K av Y.h):Goes P X o a p K:=
 .inl ⟨v,Y,av,by rw [he];simp [hr],S,hY,h,hK⟩
variable {E:Operand→AV}
theorem xU (parts:Array (Nat × Operand)) (hE: ∀ x,x∈(parts.toList.map (·.2)).toArray→Rep X (E x) (a.eval x)): ∀ (i:Nat) (p:Nat × AV) (q:Nat × Value),(parts.toList.map fun p=>(p.1,E p.2))[i]? =some p→(parts.map fun (i,x)=>(i,a.eval x)).toList[i]? =some q→p.1=q.1∧Rep X p.2 q.2:=by
 intro i p q h1 h2;rw [Array.toList_map,List.getElem?_map] at h2;rw [List.getElem?_map] at h1;cases hp:parts.toList[i]? with
 | none=>rw [hp] at h1;cases h1
 | some y=>
  rw [hp] at h1 h2;injection h1 with h1;injection h2 with h2;subst h1 h2;exact ⟨rfl,hE _ (by simp only [List.mem_toArray,List.mem_map];exact ⟨y,List.mem_of_getElem? hp,rfl⟩)⟩
theorem vZ (x:Option Operand) (hE: ∀ y,x=some y→Rep X (E y) (a.eval y)):vV X (x.map E) (x.map a.eval):=by
 cases x with
 | none=>trivial
 | some x=>exact hE x rfl
theorem wo (args:Array Operand) (hE: ∀ x,x∈args→Rep X (E x) (a.eval x)):fJ X (args.toList.map E) (args.toList.map a.eval):=by
 refine ⟨by simp,fun i av v h1 h2=>?_⟩;rw [List.getElem?_map] at h1 h2;cases hp:args.toList[i]? with
 | none=>rw [hp] at h1;cases h1
 | some y=>rw [hp] at h1 h2;injection h1 with h1;injection h2 with h2;subst h1 h2;exact hE y (Array.mem_toList_iff.1 (List.mem_of_getElem? hp))
theorem oV {a1 a2:List AV} {v1 v2:List Value} (h1:fJ X a1 v1) (h2:fJ X a2 v2):fJ X (a1++a2) (v1++v2):=by
 refine ⟨by simp [h1.1,h2.1],fun i a v q1 q2=>?_⟩;by_cases e:i<a1.length
 ·rw [List.getElem?_append_left e] at q1;rw [List.getElem?_append_left (by rw [h1.1];exact e)] at q2;exact h1.2 i a v q1 q2
 ·rw [List.getElem?_append_right (by omega)] at q1;rw [List.getElem?_append_right (by rw [h1.1];omega),h1.1] at q2;exact h2.2 _ a v q1 q2
theorem PY {c:Call}  {k k2 y:AV} (hA:c.args.toList.map E=[x,y]): ∃ y1 y2,c.args= #[y1,y2]∧E y1=x∧E y2=y:=by
 match hm:c.args with
 | ⟨[y1,y2]⟩=>
  rw [hm] at hA;simp at hA;exact ⟨y1,y2,rfl,hA.1,hA.2⟩
 | ⟨[]⟩=>rw [hm] at hA;simp at hA
 | ⟨[_]⟩=>rw [hm] at hA;simp at hA
 | ⟨_::_::_::_⟩=>rw [hm] at hA;simp at hA
theorem Ht {k:IntKind} {x:Int}  (h:Rep X (.v (.int k x)) v):v= .int k x:=by cases h;rfl
def Reads (P:Program) (X:Cx) (o:Oper) (a:Act) (K:AV→Prop):Prop:= ∃ v av,(execOp a.eval o).run P X.w= .ok (.value v) X.w∧Rep X av v∧K av
theorem CG {c:Call} {K:AV→Prop} (hX:Ok X) (hE: ∀ x,x∈c.operands→Rep X (E x) (a.eval x)) (ho:o.op= .call c) (h:uw P c E X.h K):Reads P X o a K:=by
 have hx:execOp a.eval o=(do let d ←resolve a.eval c o.type;invoke d.target d.args):=by simp [execOp,ho]
 have hA: ∀ x,x∈c.args→Rep X (E x) (a.eval x):=fun x hx=>hE x (by unfold Call.operands;exact Array.mem_append.2 (.inr hx))
 unfold uw at h;split at h
 ·next hc=>
  obtain ⟨hs,n,hn,ht,hK⟩:=h;obtain ⟨y,hy⟩: ∃ y,c.args= #[y]:=by
   match hm:c.args with
   | ⟨[y]⟩=>exact ⟨y,rfl⟩
   | ⟨[]⟩=>rw [hm] at hs;cases hs
   | ⟨_::_::_⟩=>rw [hm] at hs;simp at hs
  rw [hy] at hn;have hn:EG P X.h (c.argTypes.getD 0 0) (E y)=some n:=hn;refine ⟨.int .i64 n, .v _,?_, .v _,hK⟩;have:=abh (P:=P) (ty:=o.type) hn (hA y (by rw [hy];simp)) ht;rw [hx];simp [resolve,hc,hy,invoke,builtin,this]
 ·next hc=>
  obtain ⟨r,hr,hK⟩:=h;generalize hL:c.args.toList.map E=A at hr;unfold mmA at hr;split at hr
  ·next k x k2 y=>
   injection hr with hr;subst hr;obtain ⟨y1,y2,hy,q1,q2⟩:=PY (k:= .none) (k2:= .none) hL;have e1:=Ht (q1▸hA y1 (by rw [hy];simp));have e2:=Ht (q2▸hA y2 (by rw [hy];simp));refine ⟨_,_,?_, .v _,hK⟩;rw [hx];simp [resolve,hc,hy,invoke,builtin,e1,e2,Builtin.max_,Builtin.max2]
  ·cases hr
 ·next hc=>
  obtain ⟨r,hr,hK⟩:=h;generalize hL:c.args.toList.map E=A at hr;unfold mmA at hr;split at hr
  ·next k x k2 y=>
   injection hr with hr;subst hr;obtain ⟨y1,y2,hy,q1,q2⟩:=PY (k:= .none) (k2:= .none) hL;have e1:=Ht (q1▸hA y1 (by rw [hy];simp));have e2:=Ht (q2▸hA y2 (by rw [hy];simp));refine ⟨_,_,?_, .v _,hK⟩;rw [hx];simp [resolve,hc,hy,invoke,builtin,e1,e2,Builtin.min_,Builtin.min2]
  ·cases hr
 ·exact h.elim
theorem gU {K:AV→Prop}    (he:(execOp a.eval o)=(do pure (.value (←s)):Sem Next)) (hr:s.run P X.w= .ok v X.w) (h:Rep X av v) (hK:K av):Reads P X o a K:=
 ⟨v,av,by rw [he];simp [hr],h,hK⟩
theorem Reads.goes (hX:Ok X) (h:Reads P X o a fun av=>K av X.h):Goes P X o a p K:=by
 obtain ⟨v,av,h1,h2,h3⟩:=h;exact .inl ⟨v,X,av,h1,Step.refl X,hX,h2,h3⟩
theorem Sm {T:TypeId}  {lo hi:Option AV} {vlo vhi:Option Value}  (hX:Ok X) (h:sliceT P X.h T x lo hi=some r) (hr:Rep X x v) (hl:vV X lo vlo) (hh:vV X hi vhi):
  ∃ u,(Instr.sliceAt T v vlo vhi none).run P X.w= .ok u X.w∧Rep X r u:=by
 unfold sliceT at h;split at h
 ·next id n=>
  split at h
  ·next T' s cells fz hg=>
   split at h
   ·next a b h1 h2=>
    split at h
    ·next hc=>
     injection h with h;subst h;obtain ⟨e,he,hsz⟩:=Hf hc.1;exact JA hX hg hc.2.1 hr he hsz hl hh h1 h2 hc.2.2.1 hc.2.2.2.1 hc.2.2.2.2
    ·cases h
   ·cases h
  ·cases h
 ·next hne=>
  cases hs:iK P [] T x lo hi with
  | none=>rw [hs] at h;cases h
  | some p=>
   obtain ⟨r',h'⟩:=p;rw [hs] at h;injection h with h;subst h;unfold iK at hs;split at hs
   ·next s=>
    split at hs
    ·next hstr=>
     split at hs
     ·next a b h1 h2=>
      split at hs
      ·next hc=>
       injection hs with hs;injection hs with e1 e2;subst e1;cases hr;have hu:P.underlying T=some .string:=by
        unfold dK at hstr;split at hstr
        ·assumption
        ·cases hstr
       have hbd:=oQ (P:=P) (isS:=false) (len:=s.size) (cap:=s.size) hl hh h1 h2 hc.1 hc.2 (Nat.le_refl _);refine ⟨.string (s.extract a b),?_, .v _⟩;rw [zu hu];simp [Instr.slice,run_underlying hu,hbd]
      ·cases hs
     ·cases hs
    ·cases hs
   ·next n s cells=>
    split at hs
    ·next a b h1 h2=>
     split at hs
     ·next hc=>
      injection hs with hs;injection hs with e1 e2;subst e1;obtain ⟨e,he,hsz⟩:=Hf hc.1;exact He hr he hsz hl hh h1 h2 hc.2.1 hc.2.2
     ·cases hs
    ·cases hs
   ·next id n=>exact absurd rfl (hne id n)
   ·split at hs
    ·unfold vW at hs;simp at hs
    ·cases hs
   ·cases hs
theorem Hu {K:AV→Prop} (hX:Ok X) (hE: ∀ x,x∈o.op.operands→Rep X (E x) (a.eval x)) (h:rOp P o E X.h K):Reads P X o a K:=by
 unfold rOp at h;split at h
 ·next x ho=>exact ⟨a.eval x,_,by simp [execOp,ho],hE x (by rw [ho];simp [Op.operands]),h⟩
 ·next x ho=>exact ⟨a.eval x,_,by simp [execOp,ho],hE x (by rw [ho];simp [Op.operands]),h⟩
 ·next c x y ho=>
  obtain ⟨t,ht,hK⟩:=h;have hc:=hE c (by rw [ho];simp [Op.operands]);rw [ht] at hc;have hcv:a.eval c= .bool t:=by cases h1:a.eval c<;>rw [h1] at hc<;>cases hc;rfl
  refine ⟨if t then a.eval x else a.eval y,_,by simp [execOp,ho,hcv,asBool],?_,hK⟩;cases t
  ·exact hE y (by rw [ho];simp [Op.operands])
  ·exact hE x (by rw [ho];simp [Op.operands])
 ·next T parts ho=>
  obtain ⟨l,hl,hK⟩:=h;obtain ⟨v,q1,q2⟩:=RU (P:=P) hl (by simp) (xU parts fun x hx=>hE x (by rw [ho];exact hx));exact gU (by simp [execOp,ho]) q1 q2 hK
 ·next T x ho=>
  obtain ⟨h0,l,hl,hK⟩:=h;obtain ⟨v,q1,q2⟩:=VP hX hl h0 (hE x (by rw [ho];simp [Op.operands]));exact gU (by simp [execOp,ho]) q1 q2 hK
 ·next x ho=>
  obtain ⟨hn,hK⟩:=h;have hrx:=hE x (by rw [ho];simp [Op.operands]);obtain ⟨p,hp,hb⟩:=JC hn hrx;cases p with
  | none=>cases hb
  | some ad=>exact ⟨a.eval x,_,by simp [execOp,ho,hp],hrx,hK⟩
 ·next op T x y yt ho=>
  obtain ⟨r,hr,hK⟩:=h;exact gU (by simp [execOp,ho]) (abk (x:=x) (y:=y) hr (hE x (by rw [ho];simp [Op.operands])) (hE y (by rw [ho];simp [Op.operands]))) (.v r) hK
 ·next op T x ho=>
  obtain ⟨r,hr,hK⟩:=h;exact gU (by simp [execOp,ho]) (afI hr (hE x (by rw [ho];simp [Op.operands]))) (.v r) hK
 ·next s d x ho=>
  obtain ⟨r,hr,hK⟩:=h;exact gU (by simp [execOp,ho]) (JE hX hr (hE x (by rw [ho];simp [Op.operands]))) (.v r) hK
 ·next T x lo hi mx ho=>
  obtain ⟨hm,r,hr,hK⟩:=h;have hmx:mx=none:=by simpa using hm
  subst hmx;obtain ⟨u,q1,q2⟩:=Sm hX hr (hE x (by rw [ho];simp [Op.operands])) (vZ lo fun y hy=>hE y (by rw [ho,hy];simp [Op.operands])) (vZ hi fun y hy=>hE y (by rw [ho,hy];simp [Op.operands]));exact gU (by simp [execOp,ho]) q1 q2 hK
 ·next S x f ho=>
  obtain ⟨r,hr,hK⟩:=h;obtain ⟨v,q1,q2⟩:=RS hr (hE x (by rw [ho];simp [Op.operands]));exact gU (by simp [execOp,ho]) q1 q2 hK
 ·next S x f ho=>
  obtain ⟨r,hr,hK⟩:=h;obtain ⟨v,q1,q2⟩:=RZ hr (hE x (by rw [ho];simp [Op.operands]));exact gU (by simp [execOp,ho]) q1 q2 hK
 ·next T x i ho=>
  obtain ⟨z,r,hz,hr,hK⟩:=h;obtain ⟨v,q1,q2⟩:=abg hX hr (hE x (by rw [ho];simp [Op.operands])) hz (hE i (by rw [ho];simp [Op.operands]));exact gU (by simp [execOp,ho]) q1 q2 hK
 ·next T x i ho=>
  obtain ⟨z,r,hz,hr,hK⟩:=h;obtain ⟨v,q1,q2⟩:=Si hr (hE x (by rw [ho];simp [Op.operands])) hz (hE i (by rw [ho];simp [Op.operands]));exact gU (by simp [execOp,ho]) q1 q2 hK
 ·next x i ho=>
  obtain ⟨r,hr,hK⟩:=h;obtain ⟨v,q1,q2⟩:=VX (P:=P) hr (hE x (by rw [ho];simp [Op.operands]));exact gU (by simp [execOp,ho]) q1 q2 hK
 ·next fn first cap ho=>
  have h1:=wo (E:=E) (a:=a) first fun x hx=>hE x (by rw [ho];exact Array.mem_append.2 (.inl hx))
  have h2:=wo (E:=E) (a:=a) cap fun x hx=>hE x (by rw [ho];exact Array.mem_append.2 (.inr hx))
  refine ⟨.func fn (first.map a.eval) (cap.map a.eval),_,by simp [execOp,ho,Instr.makeFunc],?_,h⟩;have:=Rep.fn (X:=X) (f:=fn) h1.1 h2.1 h1.2 h2.2;simpa [←Array.toList_map] using this
 ·next c ho=>exact CG hX (fun x hx=>hE x (by rw [ho];exact hx)) ho h
 ·next T x ho=>
  obtain ⟨hi,hK⟩:=h;exact gU (by simp [execOp,ho]) (abp hi _ _) (.ifc (hE x (by rw [ho];simp [Op.operands]))) hK
 ·next T x k ok ho=>
  obtain ⟨r,hr,hK⟩:=h;obtain ⟨v,q1,q2⟩:=Ny hX hr (hE x (by rw [ho];simp [Op.operands])) (hE k (by rw [ho];simp [Op.operands]));exact gU (by simp [execOp,ho]) q1 q2 hK
 ·exact h.elim
theorem FH {w':World} (hX:Ok X) (hbel:Below X.w.heap.size X.w w'):Step X ⟨w',X.m,X.h,X.bad,X.ds⟩∧Ok ⟨w',X.m,X.h,X.bad,X.ds⟩:=by
 have S:Step X ⟨w',X.m,X.h,X.bad,X.ds⟩:=by
  refine ⟨hbel.os,hbel.tape,hbel.output,hbel.size,fun b hb _=>hbel.block b hb,fun b o x hx hb=>⟨?_,hb⟩,Nat.le_refl _,fun i T' s c f' _ hi=>⟨c,f',hi,Nat.le_refl _,fun _=>rfl⟩,fun i c _ hi=>⟨c,hi,rfl⟩,fun b hb=> .inr hb,fun _ _ hb=> .inl hb,fun i c _ hi=>⟨c,hi,rfl⟩,rfl⟩;unfold cellAt at hx ⊢;rw [hbel.cell (p:=⟨b,o,none⟩) (eH hx)];exact hx
 have hZ:Ok ⟨w',X.m,X.h,X.bad,X.ds⟩:=by
  refine ⟨fun id cells hi=>?_,fun id T' s cells fz hi=>?_,hX.inj,fun b o hb=>Nat.lt_of_lt_of_le (hX.dX b o hb) hbel.size,fun id es hi=>?_⟩
  ·obtain ⟨b,cvs,T',h1,h2,h3,h4,h5⟩:=hX.blk id cells hi;exact ⟨b,cvs,T',h1,by rw [←h2];exact hbel.block b (hX.lt ⟨id,⟨_,hi⟩,h1⟩),h3,h4,fun j a x q1 q2=>(h5 j a x q1 q2).mono S⟩
  ·obtain ⟨g1,g2,n,g3,g4⟩:=hX.arr id T' s cells fz hi;refine ⟨g1,g2,n,g3,?_⟩;rcases g4 with g4 | ⟨b,cvs,g4⟩
   ·exact .inl g4
   ·exact .inr ⟨b,cvs,⟨g4.at_,by rw [←g4.blk];exact hbel.block b (hX.lt ⟨id,⟨_,hi⟩,g4.at_⟩),g4.cap,g4.iQ,g4.sz,g4.bad,fun j a x q1 q2=>(g4.rep j a x q1 q2).mono S,g4.good⟩⟩
  ·obtain ⟨b,ents,clock,h1,h2,h3⟩:=hX.map id es hi;exact ⟨b,ents,clock,h1,by rw [←h2];exact hbel.block b (hX.lt ⟨id,⟨_,hi⟩,h1⟩),h3.mono S⟩
 exact ⟨S,hZ⟩
theorem Wi {s d:TypeId} {y:Operand}  (hX:Ok X) (ho:o.op= .convert s d y) (h:cvA P X.h s d x=some r) (hr:Rep X x (a.eval y)) (hK:K r X.h):Goes P X o a p K:=by
 have old: ∀ {x:AV},Rep X x (a.eval y)→(iM P X.h s d x).map .v=some r→Goes P X o a p K:=fun {x} hr h=>by
  cases hc:iM P X.h s d x with
  | none=>rw [hc] at h;cases h
  | some v=>
   rw [hc] at h;injection h with h;subst h;exact Sl hX (by simp [execOp,ho]) (JE hX hc hr) (.v v) hK
 unfold cvA at h;split at h
 ·next b=>
  unfold cvX at h;split at h
  ·next hk=>
   split at h
   ·next hc=>
    injection h with h;subst h;cases he:aG P d with
    | none=>rw [he] at hk;cases hk
    | some e=>
    rw [he] at hk;simp only [Option.bind_some] at hk;have hb:a.eval y= .string b:=by generalize a.eval y=u at hr;cases hr;rfl
    obtain ⟨us,hus⟩:=Option.isSome_iff_exists.1 hc.1;have hrun:=Lib.run_convert_string_bytes (P:=P) X.w s d e b hus (dF he) (Nw hk);have hbel:Below X.w.heap.size X.w (Lib.bytesWorld X.w e b):=⟨rfl,rfl,rfl,by rw [Lib.bytesWorld_size];omega,fun j hj=>Lib.bytesWorld_at_old X.w e b j hj⟩
    obtain ⟨S,hY⟩:=FH hX hbel;refine mF (Y:=⟨Lib.bytesWorld X.w e b,X.m,X.h,X.bad,X.ds⟩) (s:=convert s d (.string b)) (by simp [execOp,ho,hb]) hrun S hY ?_ hK;have hm:b.size≤maxLen:=by unfold maxLen;omega
    refine .t (cvs:=b.data.toList.map fun c=> .int .u8 c.toNat) (by simp [Hr]) (by simp [Hr]) (grownCap_ge _ _ _ _) (grownCap_le_maxLen _ _ _ _ hm) (fun _=>⟨_,0,rfl,fun i x hx=>⟨?_,fun q=>absurd (hX.dX _ _ q) (by omega)⟩⟩) (fun i av x h1 h2=>?_)
    ·rw [List.getElem?_map] at hx;cases hi:b.data.toList[i]? with
     | none=>rw [hi] at hx;cases hx
     | some c=>
      rw [hi] at hx;injection hx with hx;subst hx;have hlt:i<b.size:=by have:=(List.getElem?_eq_some_iff.1 hi).1;simpa using this
      rw [Nat.zero_add];unfold cellAt;rw [Lib.bytesWorld_cell X.w e b i hlt];simp [List.getD,hi]
    ·simp only [Hr,List.getElem?_map] at h1 h2;cases hi:b.data.toList[i]? with
     | none=>rw [hi] at h1;cases h1
     | some c=>
      rw [hi] at h1 h2;injection h1 with h1;injection h2 with h2;subst h1 h2;exact .v _
   ·cases h
  ·exact old hr h
 ·exact old hr h
theorem ND {c:Call}  (hX:Ok X) (hE: ∀ x,x∈c.operands→Rep X (E x) (a.eval x)) (ho:o.op= .call c) (h:CB P p c E X.h K):Goes P X o a p K:=by
 have hx:execOp a.eval o=(do let d ←resolve a.eval c o.type;invoke d.target d.args):=by simp [execOp,ho]
 have hA: ∀ x,x∈c.args→Rep X (E x) (a.eval x):=fun x hx=>hE x (by unfold Call.operands;exact Array.mem_append.2 (.inr hx))
 unfold CB at h;split at h
 ·next hc=>
  obtain ⟨hs,ht,r,h',hr,hK⟩:=h;obtain ⟨y,y2,hy⟩: ∃ y y2,c.args= #[y,y2]:=by
   match hm:c.args with
   | ⟨[y,y2]⟩=>exact ⟨y,y2,rfl⟩
   | ⟨[]⟩=>rw [hm] at hs;cases hs
   | ⟨[_]⟩=>rw [hm] at hs;cases hs
   | ⟨_::_::_::_⟩=>rw [hm] at hs;simp at hs
  obtain ⟨t,t2,hty⟩: ∃ t t2,c.argTypes= #[t,t2]:=by
   match hm:c.argTypes with
   | ⟨[y,y2]⟩=>exact ⟨y,y2,rfl⟩
   | ⟨[]⟩=>rw [hm] at ht;cases ht
   | ⟨[_]⟩=>rw [hm] at ht;cases ht
   | ⟨_::_::_::_⟩=>rw [hm] at ht;simp at ht
  rw [hy,hty] at hr;have hr:nN P X.h t t2 (E y) (E y2)=some (r,h'):=hr;obtain ⟨v',Y,q1,q2,q3,q4,q5⟩:=NC (P:=P) (ty:=o.type) hX hr (hA y (by rw [hy];simp)) (hA y2 (by rw [hy];simp));refine .inl ⟨v',Y,r,?_,q2,q3,q4,by rw [q5];exact hK⟩;rw [hx];simp [resolve,hc,hy,hty,invoke,builtin,q1]
 ·next f hc=>
  obtain ⟨fid,fst,cap,hf,⟨hb,hT⟩⟩:=h;have hrf:=hE f (by unfold Call.operands;rw [hc];simp);rw [hf] at hrf;generalize hv:a.eval f=fv at hrf;cases hrf with
  | @fn _ _ _ v1 v2 l1 l2 r1 r2=>
  have hR:=oV (oV ⟨l1,r1⟩ (wo c.args hA)) ⟨l2,r2⟩;refine .inr (.inr (.inl ⟨fid,_,?_,hT X _ hX rfl hR⟩));rw [hx];simp [resolve,hc,hv,Deferred.ofValue,invoke,pY hb]
 ·next hc=>
  obtain ⟨hs,ht,r,h',hr,hK⟩:=h;obtain ⟨y,y2,hy⟩: ∃ y y2,c.args= #[y,y2]:=by
   match hm:c.args with
   | ⟨[y,y2]⟩=>exact ⟨y,y2,rfl⟩
   | ⟨[]⟩=>rw [hm] at hs;cases hs
   | ⟨[_]⟩=>rw [hm] at hs;cases hs
   | ⟨_::_::_::_⟩=>rw [hm] at hs;simp at hs
  obtain ⟨t,t2,hty⟩: ∃ t t2,c.argTypes= #[t,t2]:=by
   match hm:c.argTypes with
   | ⟨[y,y2]⟩=>exact ⟨y,y2,rfl⟩
   | ⟨[]⟩=>rw [hm] at ht;cases ht
   | ⟨[_]⟩=>rw [hm] at ht;cases ht
   | ⟨_::_::_::_⟩=>rw [hm] at ht;simp at ht
  rw [hy,hty] at hr;have hr:zD P X.h t t2 (E y) (E y2)=some (r,h'):=hr;obtain ⟨v',Y,q1,q2,q3,q4,q5⟩:=Wh (P:=P) (ty:=o.type) hX hr (hA y (by rw [hy];simp)) (hA y2 (by rw [hy];simp));refine .inl ⟨v',Y,r,?_,q2,q3,q4,by rw [q5];exact hK⟩;rw [hx];simp [resolve,hc,hy,hty,invoke,builtin,q1]
 ·exact (CG hX hE ho h).goes hX
theorem CJ (hX:Ok X) (hE: ∀ x,x∈o.op.operands→Rep X (E x) (a.eval x)) (h:wOp P p o E X.h K):Goes P X o a p K:=by
 unfold wOp at h;split at h
 ·next T ho=>
  obtain ⟨z,hz,hK⟩:=h;obtain ⟨v,Y,q1,q2,q3,q4,q5⟩:=VQ (P:=P) hX hz;exact mF (by simp [execOp,ho]) q1 q2 q3 q4 (by rw [q5];exact hK)
 ·next T x ho=>
  obtain ⟨l,hl,hK⟩:=h;obtain ⟨v,Y,q1,q2,q3,q4,q5⟩:=afF (P:=P) (T:=T) hX hl (hE x (by rw [ho];simp [Op.operands]));exact mF (by simp [execOp,ho]) q1 q2 q3 q4 (by rw [q5];exact hK)
 ·next T len parts ho=>
  obtain ⟨te,s,L,hl,hK⟩:=h;have hp:=pV hl;have hlen:len≤maxLen:=by
   have h1:=hp.2.2.2.2.2.2;have h2:len*1≤len*s:=Nat.mul_le_mul_left _ hp.2.2.2.2.2.1;unfold maxLen;omega
  obtain ⟨v,Y,q1,q2,q3,q4,q5⟩:=afG (P:=P) hX hl (by simp) (xU parts fun x hx=>hE x (by rw [ho];exact hx)) hlen;exact mF (by simp [execOp,ho]) q1 q2 q3 q4 (by rw [q5];exact hK)
 ·next T x y ho=>
  obtain ⟨h',hl,hK⟩:=h;obtain ⟨Y,q1,q2,q3,q4⟩:=RQ hX hl (hE x (by rw [ho];simp [Op.operands])) (hE y (by rw [ho];simp [Op.operands]));exact .inr (.inl ⟨Y,by simp [execOp,ho,q1],q2,q3,by rw [q4];exact hK⟩)
 ·next T l c ho=>
  obtain ⟨zl,zc,te,s,L,h1,h2,h3,hK⟩:=h;obtain ⟨k1,e1⟩:=Am h1 (hE l (by rw [ho];simp [Op.operands]));obtain ⟨k2,e2⟩:=Am h2 (hE c (by rw [ho];simp [Op.operands]));obtain ⟨v,Y,q1,q2,q3,q4,q5⟩:=PL (P:=P) (kl:=k1) (kc:=k2) hX h3;exact mF (s:=Instr.makeSlice T (.int k1 zl) (.int k2 zc)) (by simp [execOp,ho,e1,e2]) q1 q2 q3 q4 (by rw [q5];exact hK)
 ·next T x lo hi mx ho=>
  obtain ⟨hm,r,h',hr,hK⟩:=h;have hmx:mx=none:=by simpa using hm
  subst hmx;obtain ⟨u,Y,q1,q2,q3,q4,q5⟩:=RX hX hr (hE x (by rw [ho];simp [Op.operands])) (vZ lo fun y hy=>hE y (by rw [ho,hy];simp [Op.operands])) (vZ hi fun y hy=>hE y (by rw [ho,hy];simp [Op.operands]));exact mF (by simp [execOp,ho]) q1 q2 q3 q4 (by rw [q5];exact hK)
 ·next s d x ho=>
  obtain ⟨r,hr,hK⟩:=h;exact Wi hX ho hr (hE x (by rw [ho];simp [Op.operands])) hK
 ·next c ho=>exact ND hX (fun x hx=>hE x (by rw [ho];exact hx)) ho h
 ·next T r ho=>
  obtain ⟨hr,hK⟩:=h;have hr:r=none:=by simpa using hr
  subst hr;obtain ⟨v,Y,q1,q2,q3,q4,q5⟩:=V9 (P:=P) T hX;exact mF (by simp [execOp,ho]) q1 q2 q3 q4 (by rw [q5];exact hK)
 ·next T m k x ho=>
  obtain ⟨h',hl,hK⟩:=h;obtain ⟨Y,q1,q2,q3,q4⟩:=Cm hX hl (hE m (by rw [ho];simp [Op.operands])) (hE k (by rw [ho];simp [Op.operands])) (hE x (by rw [ho];simp [Op.operands]));exact .inr (.inl ⟨Y,by simp [execOp,ho,q1],q2,q3,by rw [q4];exact hK⟩)
 ·next T m k x ho=>
  obtain ⟨h',hl,hK⟩:=h;obtain ⟨Y,q1,q2,q3,q4⟩:=Cm hX hl (hE m (by rw [ho];simp [Op.operands])) (hE k (by rw [ho];simp [Op.operands])) (hE x (by rw [ho];simp [Op.operands]));exact .inr (.inl ⟨Y,by simp [execOp,ho,q1],q2,q3,by rw [q4];exact hK⟩)
 ·next x ho=>
  obtain ⟨T,av,hx,hp⟩:=h;have hr:=hE x (by rw [ho];simp [Op.operands]);rw [hx] at hr;refine .inr (.inr (.inr ⟨a.eval x,_,?_,hr,hp⟩));cases hv:a.eval x<;>rw [hv] at hr<;>cases hr;simp [execOp,ho,hv,Instr.panic]
 ·exact (Hu hX hE h).goes hX
end
section
open Go.RowKit
def guardE (all:List Oper) (e:Ev) (j:Nat):AV:=match (all[j]?).bind (·.dst) with
 | some d=>aO e d
 | none=> .none
def gB (want:Bool) (g:AV):Option Bool:=match g with
 | .v (.bool b)=>some (b==want)
 | .v (.tuple ⟨[]⟩)=>some false
 | _=>none
def iy (P:Program) (p:AV→Hp→Prop) (all:List Oper):List Oper→Ev→Hp→(Ev→Hp→Prop)→Prop
 | [],e,h,K=>K e h
 | o::r,e,h,K=>match o.guard with
  | none=>wOp P p o (dO e) h fun a h'=>iy P p all r (bY e o.dst a) h' K
  | some (j,want)=> ∃ b,gB want (guardE all e j)=some b∧(if b=true then wOp P p o (dO e) h fun a h'=>iy P p all r (bY e o.dst a) h' K else iy P p all r (bY e o.dst (.v undef)) h K)
def jm (ops:List Oper) (e:Ev):Ev:=e.filter fun x=>!(ops.any fun o=>decide (o.dst=some x.1))
theorem CO (ops:List Oper): ∀ (e:Ev) (d:Nat),aO (jm ops e) d=if ops.any (fun o=>decide (o.dst=some d))=true then .none else aO e d
 | [],d=>by simp [jm,aO]
 | (k,a)::r,d=>by
  have ih:=CO ops r d;unfold jm at ih ⊢;rw [List.filter_cons];by_cases hk:(ops.any fun o=>decide (o.dst=some k))=true
  ·simp only [hk,Bool.not_true,Bool.false_eq_true,if_false];rw [ih];by_cases e:k=d
   ·subst e;rw [if_pos hk,if_pos hk]
   ·simp [aO,e]
  ·simp only [hk,Bool.not_false,if_true];simp only [aO];by_cases e:k=d
   ·subst e;simp [hk]
   ·simp only [if_neg e];exact ih
variable {o:Oper}
theorem mG {ops:List Oper}  (ho:o∈ops) (e:Ev): ∀ d,o.dst=some d→aO (jm ops e) d= .none:=by
 intro d hd;rw [CO,if_pos (List.any_eq_true.2 ⟨o,ho,by simp [hd]⟩)]
variable {N:Nat}{X:Cx}{a:Act}{e:Ev}
theorem aN.del (ops:List Oper) (h:aN X N e a):aN X N (jm ops e) a:=by
 refine ⟨h.defers,h.size,fun d=>?_⟩;rw [CO];split
 ·exact .none _
 ·exact h.rep d
theorem aN.any {dst:Option Tmp} {v:Value} (h:aN X N e a) (hd: ∀ d,dst=some d→aO e d= .none):aN X N e (a.put dst v):=by
 cases dst with
 | none=>exact h
 | some d=>
  refine ⟨h.defers,by simp [Act.put,h.size],fun k=>?_⟩;by_cases hk:d=k
  ·subst hk;rw [hd _ rfl];exact .none _
  ·have:=h.rep k;simp only [Act.put,Array.getD_eq_getD_getElem?] at this ⊢;rw [Array.getElem?_setIfInBounds_ne hk];exact this
def zF (N:Nat) (o:Oper):Bool:=match o.dst with
 | some d=>decide (d<N)
 | none=>true
theorem CP (h:zF N o=true): ∀ d,o.dst=some d→d<N:=by
 intro d hd;unfold zF at h;rw [hd] at h;exact of_decide_eq_true h
theorem NG {ops:Array Oper} {tmps:Array Value} {g d:Nat} {q:Oper} {want b:Bool} {av:AV} (hq:ops[g]? =some q) (hd:q.dst=some d) (hlt:d<tmps.size) (hr:Rep X av (tmps.getD d undef)) (hb:gB want av=some b) (hg:o.guard=some (g,want)):Region.wanted o (yielded ops tmps)=b:=by
 have hv:tmps[d]? =some (tmps.getD d undef):=by rw [Array.getElem?_eq_getElem hlt];simp [Array.getD,hlt]
 generalize tmps.getD d undef=u at hr hv;unfold gB at hb;split at hb
 ·next c=>
  injection hb with hb;subst hb;cases hr;have hy:yielded ops tmps g=some c:=by unfold yielded;simp [hq,hd,hv]
  simp only [Region.wanted,hg,hy];cases c<;>cases want<;>rfl
 ·injection hb with hb;subst hb;cases hr;have hy:yielded ops tmps g=none:=by unfold yielded;simp [hq,hd,hv]
  simp only [Region.wanted,hg,hy];cases want<;>rfl
 ·cases hb
theorem Sr {ops:Array Oper} {j:Nat} {want b:Bool}  (hE:aN X N e a) (hall:ops.toList.all (zF N)=true) (h:gB want (guardE ops.toList e j)=some b) (hg:o.guard=some (j,want)):Region.wanted o (yielded ops a.tmps)=b:=by
 unfold guardE at h;cases ho:ops[j]? with
 | none=>rw [Array.getElem?_toList,ho] at h;cases h
 | some q=>
  rw [Array.getElem?_toList,ho] at h;simp only [Option.bind_some] at h;cases hd:q.dst with
  | none=>rw [hd] at h;cases h
  | some d=>
   rw [hd] at h;simp only at h;have hdN:=CP (List.all_eq_true.1 hall q (List.mem_of_getElem? (by rw [Array.getElem?_toList];exact ho))) d hd;exact NG ho hd (by rw [hE.size];exact hdN) (hE.rep d) h hg
theorem abq {P:Program}      {p K:AV→Hp→Prop} {next:Act→World→Prop} {Q:Exit→Act→World→Prop} (hE:aN X N e a) (hd: ∀ d,o.dst=some d→d<N) (h:Goes P X o a p K)
  (hp: ∀ (Y:Cx) (av:AV) (v:Value),Step X Y→Ok Y→Rep Y av v→p av Y.h→Q (.panic [{v,recovered:=false}]) a Y.w) (hX:Ok X)
  (hn: ∀ (Y:Cx) (av:AV) (v:Value),Step X Y→Ok Y→aN Y N (bY e o.dst av) (a.put o.dst v)→K av Y.h→next (a.put o.dst v) Y.w):o.wp P a X.w next Q:=by
 unfold Oper.wp;rcases h with ⟨v,Y,av,h1,h2,h3,h4,h5⟩ | ⟨Y,h1,h2,h3,h4⟩ | ⟨f,args,h1,h3⟩ | ⟨v,av,h1,h2,h3⟩
 ·rw [h1,Oper.upon_value];exact hn Y av v h2 h3 ((hE.mono h2).put hd h4) h5
 ·rw [h1,Oper.upon_skip];exact hn Y .none undef h2 h3 ((hE.mono h2).put hd (.none _)) h4
 ·rw [h1,Oper.upon_enter];refine h3.mono ?_;rintro en w' ⟨v,Y,av,rfl,q1,q2,q3,⟨rfl,q4⟩ | ⟨rfl,q4⟩⟩
  ·exact hn Y av v q1 q2 ((hE.mono q1).put hd q3) q4
  ·exact hp Y av v q1 q2 q3 q4
 ·rw [h1,Oper.upon_panic];exact hp X av v (Step.refl X) hX h2 h3
theorem Ar {P:Program} {N:Nat} {ops:Array Oper} {Q:Exit→Act→World→Prop} {p:AV→Hp→Prop} {e1:Ev} (hdel: ∀ o,o∈ops.toList→ ∀ d,o.dst=some d→aO e1 d= .none) (hall:ops.toList.all (zF N)=true): ∀ (r:List Oper) (k:Nat) (X:Cx) (e:Ev) (a:Act) (K:Ev→Hp→Prop),
  (∀ (i:Nat),(ops.toList.drop k)[i]? =r[i]?)→Ok X→aN X N e a→aN X N e1 a→iy P p ops.toList r e X.h K→
  (∀ (Y:Cx) (av:AV) (v:Value) (a':Act),Step X Y→Ok Y→aN Y N e1 a'→Rep Y av v→p av Y.h→Q (.panic [{v,recovered:=false}]) a' Y.w)→(∀ (Y:Cx) (e':Ev) (a':Act),Step X Y→Ok Y→aN Y N e' a'→K e' Y.h→Q .normal a' Y.w)→wpOps P ops Q (List.range' k r.length) a X.w
 | [],k,X,e,a,K,_,hX,hE,_,h,_,hK=>hK X e a (Step.refl X) hX hE h
 | o::r,k,X,e,a,K,hr,hX,hE,hE1,h,hP,hK=>by
  have hk:ops[k]? =some o:=by
   have:=hr 0;rw [List.getElem?_drop] at this;simpa using this
  have hrest: ∀ (i:Nat),(ops.toList.drop (k+1))[i]? =r[i]? :=fun i=>by
   have:=hr (i+1);rw [List.getElem?_drop] at this ⊢;rw [show k+1+i=k+(i+1) by omega,this];rfl
  have hout:=hdel o (List.mem_of_getElem? (i:=k) (by rw [Array.getElem?_toList];exact hk));have hod:=CP (List.all_eq_true.1 hall o (List.mem_of_getElem? (i:=k) (by rw [Array.getElem?_toList];exact hk)));have go: ∀ {L:AV→Hp→Prop},(∀ av h',L av h'→iy P p ops.toList r (bY e o.dst av) h' K)→wOp P p o (dO e) X.h L→o.wp P a X.w (wpOps P ops Q (List.range' (k+1) r.length)) Q:=fun hL hw=>
   abq hE hod (CJ hX (fun x _=>hE.dO x) hw) (fun Y av v S hY hr hp=>hP Y av v a S hY (hE1.mono S) hr hp) hX fun Y av v S hY hEY hh=>Ar hdel hall r (k+1) Y _ _ K hrest hY hEY ((hE1.mono S).any hout) (hL _ _ hh) (fun Z av v a' S2 hZ hEZ hr hp=>hP Z av v a' (S.trans hX S2) hZ hEZ hr hp) fun Z e' a' S2 hZ hEZ hKZ=>hK Z e' a' (S.trans hX S2) hZ hEZ hKZ
  rw [List.length_cons,List.range'_succ];simp only [wpOps,hk];simp only [iy] at h;split at h
  ·next hg=>
   have hw:Region.wanted o (yielded ops a.tmps)=true:=by simp [Region.wanted,hg]
   rw [if_pos hw];exact .inl (go (fun _ _ h=>h) h)
  ·next j want hg=>
   obtain ⟨b,hb,h⟩:=h;have hw:=Sr hE hall hb hg;split at h
   ·next e1=>
    rw [if_pos (hw.trans e1)];exact .inl (go (fun _ _ h=>h) h)
   ·next e1=>
    rw [if_neg (by rw [hw];exact e1)];exact Ar hdel hall r (k+1) X _ _ K hrest hX (hE.put hod (.v _)) (hE1.any hout) h hP hK
def lN (L:List Nat) (e:Ev):Ev:=L.map fun d=>(d,aO e d)
theorem Sv (L:List Nat) (e:Ev) (d:Nat):aO (lN L e) d=aO e d∨aO (lN L e) d= .none:=by
 induction L with
 | nil=>exact .inr rfl
 | cons k r ih=>
  show (if k=d then aO e k else aO (lN r e) d)=_∨_;by_cases h:k=d
  ·subst h;left;rw [if_pos rfl]
  ·rw [if_neg h];rcases ih with ih | ih
   ·exact .inl ih
   ·right;show (if k=d then aO e k else aO (lN r e) d)=_;rw [if_neg h];exact ih
theorem aN.keep (L:List Nat) (h:aN X N e a):aN X N (lN L e) a:=by
 refine ⟨h.defers,h.size,fun d=>?_⟩;rcases Sv L e d with q | q
 ·rw [q];exact h.rep d
 ·rw [q];exact .none _
inductive Ex where
 | normal
 | exit (id:Nat)
 | ret
 | panic (a:AV)
abbrev dA:=Ex→Ev→Hp→Prop
structure aT (n:Nat) (X Y:Cx):Prop where
 os:Y.w.os=X.w.os
 tape:Y.w.tape=X.w.tape
 output:Y.w.output=X.w.output
 size:X.w.heap.size≤Y.w.heap.size
 block: ∀ b,b<X.w.heap.size→ ¬ X.mine b→Y.w.heap[b]? =X.w.heap[b]?
 keep: ∀ b o x,cellAt X.w b o=some x→ ¬ X.bad b o→cellAt Y.w b o=some x∧ ¬ Y.bad b o
 len:n≤Y.h.length
 oh: ∀ i T size cells fz,i<n→Y.h[i]? =some (some (.arr T size cells fz))→ ∃ cells' fz',X.h[i]? =some (some (.arr T size cells' fz'))∧cells'.length≤cells.length∧(cells.length=cells'.length→Y.m i=X.m i)
 l7: ∀ i cells,i<n→Y.h[i]? =some (some (.blk cells))→ ∃ cells',X.h[i]? =some (some (.blk cells'))∧(Y.m i).1=(X.m i).1
 own: ∀ b,Y.mine b→X.w.heap.size≤b∨X.mine b
 nC: ∀ b o,X.bad b o→Y.bad b o∨X.mine b
 omap: ∀ i es,i<n→Y.h[i]? =some (some (.map es))→ ∃ es',X.h[i]? =some (some (.map es'))∧(Y.m i).1=(X.m i).1
 dse:Y.ds=X.ds
variable {Y:Cx}
theorem Step.toN {n:Nat} (S:Step X Y) (hn:n≤X.h.length):aT n X Y:=
 ⟨S.os,S.tape,S.output,S.size,S.block,S.keep,Nat.le_trans hn S.len,fun i T s c f hi=>S.oh i T s c f (Nat.lt_of_lt_of_le hi hn),fun i c hi=>S.l7 i c (Nat.lt_of_lt_of_le hi hn),S.own,S.nC,fun i c hi=>S.omap i c (Nat.lt_of_lt_of_le hi hn),S.dse⟩
theorem aT.full (S:aT X.h.length X Y):Step X Y:=⟨S.os,S.tape,S.output,S.size,S.block,S.keep,S.len,S.oh,S.l7,S.own,S.nC,S.omap,S.dse⟩
theorem aT.trans {n:Nat} {Z:Cx} (hX:Ok X) (S:aT n X Y) (T:aT n Y Z):aT n X Z:=by
 have hno: ∀ b,b<X.w.heap.size→ ¬ X.mine b→ ¬ Y.mine b:=fun b hb hm hy=>by
  rcases S.own b hy with h | h
  ·omega
  ·exact hm h
 refine ⟨T.os.trans S.os,T.tape.trans S.tape,T.output.trans S.output,Nat.le_trans S.size T.size,fun b hb hm=>?_,fun b o x hx hb=>?_,T.len,fun i U s c f hi h=>?_,fun i c hi h=>?_,fun b hb=>?_,fun b o hb=>?_,fun i c hi h=>?_,T.dse.trans S.dse⟩
 ·rw [T.block b (Nat.lt_of_lt_of_le hb S.size) (hno b hb hm),S.block b hb hm]
 ·obtain ⟨h1,h2⟩:=S.keep b o x hx hb;exact T.keep b o x h1 h2
 ·obtain ⟨c1,f1,h1,l1,e1⟩:=T.oh i U s c f hi h;obtain ⟨c2,f2,h2,l2,e2⟩:=S.oh i U s c1 f1 hi h1;exact ⟨c2,f2,h2,Nat.le_trans l2 l1,fun e=>by rw [e1 (by omega),e2 (by omega)]⟩
 ·obtain ⟨c1,h1,e1⟩:=T.l7 i c hi h;obtain ⟨c2,h2,e2⟩:=S.l7 i c1 hi h1;exact ⟨c2,h2,e1.trans e2⟩
 ·rcases T.own b hb with h | h
  ·left;exact Nat.le_trans S.size h
  ·exact S.own b h
 ·rcases S.nC b o hb with h | h
  ·rcases T.nC b o h with h | h
   ·exact .inl h
   ·rcases S.own b h with h | h
    ·exact absurd (hX.dX b o hb) (by omega)
    ·exact .inr h
  ·exact .inr h
 ·obtain ⟨c1,h1,e1⟩:=T.omap i c hi h;obtain ⟨c2,h2,e2⟩:=S.omap i c1 hi h1;exact ⟨c2,h2,e1.trans e2⟩
def Ent (n0 N:Nat) (e:Ev) (h:Hp) (e':Ev) (h':Hp):Prop:= ∀ (X:Cx) (a:Act),X.h=h→n0≤h.length→Ok X→aN X N e a→ ∃ Y,Y.w=X.w∧Y.h=h'∧aT n0 X Y∧Ok Y∧aN Y N e' a
theorem Ent.refl (n0 N:Nat) (e:Ev) (h:Hp):Ent n0 N e h e h:=fun X a hh hn hX hE=>⟨X,rfl,hh,(Step.refl X).toN (hh▸hn),hX,hE⟩
theorem Ent.trans {n0:Nat} {e1 e2:Ev} {h h1 h2:Hp} (p:Ent n0 N e h e1 h1) (q:Ent n0 N e1 h1 e2 h2):Ent n0 N e h e2 h2:=fun X a hh hn hX hE=>by
 obtain ⟨Y,y1,y2,y3,y4,y5⟩:=p X a hh hn hX hE;obtain ⟨Z,z1,z2,z3,z4,z5⟩:=q Y a y2 (y2▸y3.len) y4 y5;exact ⟨Z,z1.trans y1,z2,y3.trans hX z3,z4,z5⟩
end
section
open Go.RowKit
def fD (h:Hp) (a:AV):Option (AV × Hp):=match a with
 | .own id n=>match h[id]? with
  | some (some (.arr T s cells fz))=>if cells.length=n*s then some (.t n s cells,h.set id (some (.arr T s cells cells.length))) else none
  | _=>none
 | .mp id=>match h[id]? with
  | some (some (.map es))=>some (.tm es,h.set id none)
  | _=>none
 | a=>some (a,h)
def closeWith (f:Hp→AV→Option (AV × Hp)):Hp→List AV→Option (List AV × Hp)
 | h,[]=>some ([],h)
 | h,a::r=>match f h a with
  | some (a',h1)=>match closeWith f h1 r with
   | some (r',h2)=>some (a'::r',h2)
   | none=>none
  | none=>none
def dY (h:Hp) (a:AV):Option (AV × Hp):=match a with
 | .g l=>(closeWith fD h l).map fun p=>(.g p.1,p.2)
 | a=>fD h a
def dZ (h:Hp) (a:AV):Option (AV × Hp):=match a with
 | .tup l=>(closeWith dY h l).map fun p=>(.tup p.1,p.2)
 | a=>dY h a
def Closes (f:Hp→AV→Option (AV × Hp)):Prop:= ∀ (X:Cx) (a a':AV) (h':Hp) (v:Value),Ok X→f X.h a=some (a',h')→Rep X a v→ ∃ Y,Y.w=X.w∧Step X Y∧Ok Y∧Y.h=h'∧Rep Y a' v
variable {X:Cx}
theorem Wj {id:Nat} {es:List (Value × AV)} {v:Value} (hX:Ok X) (h:X.h[id]? =some (some (.map es))) (hr:Rep X (.mp id) v): ∃ Y,Y.w=X.w∧Step X Y∧Ok Y∧Y.h=X.h.set id none∧Rep Y (.tm es) v:=by
 have hid:id<X.h.length:=(List.getElem?_eq_some_iff.1 h).1;have hY: ∃ Y:Cx,Y.w=X.w∧Y.m=X.m∧Y.h=X.h.set id none∧Y.bad=X.bad∧Y.ds=X.ds:=⟨⟨X.w,X.m,X.h.set id none,X.bad,X.ds⟩,rfl,rfl,rfl,rfl,rfl⟩
 obtain ⟨Y,y1,y2,y3,y4,y5⟩:=hY;have get: ∀ i o,Y.h[i]? =some (some o)→i≠id∧X.h[i]? =some (some o):=by
  intro i o ho;by_cases e:i=id
  ·subst e;rw [y3,List.getElem?_set_self hid] at ho;injection ho with ho;cases ho
  ·rw [y3,cu e] at ho;exact ⟨e,ho⟩
 have S:Step X Y:=by
  refine ⟨by rw [y1],by rw [y1],by rw [y1],by rw [y1];exact Nat.le_refl _,fun _ _ _=>by rw [y1],fun c o x h1 h2=>by rw [y1,y4];exact ⟨h1,h2⟩,by rw [y3];simp,fun i T s c f _ hi=>⟨c,f,(get i _ hi).2,Nat.le_refl _,fun _=>by rw [y2]⟩,fun i c _ hi=>⟨c,(get i _ hi).2,by rw [y2]⟩,fun b hb=>?_,fun _ _ hb=>by rw [y4];exact .inl hb,fun i c _ hi=>⟨c,(get i _ hi).2,by rw [y2]⟩,y5⟩;obtain ⟨i,⟨o,ho⟩,he⟩:=hb;rw [y2] at he;exact .inr ⟨i,⟨o,(get i o ho).2⟩,he⟩
 obtain ⟨b,ents,clock,h1,h2,h3⟩:=hX.map id es h;refine ⟨Y,y1,S,⟨fun i c hi=>?_,fun i T s c fz hi=>?_,fun i j c hi hj=>?_,fun c o hc=>by rw [y4] at hc;rw [y1];exact hX.dX c o hc,fun i q hi=>?_⟩,y3,?_⟩
 ·obtain ⟨g,cvs,T',k1,k2,k3,k4,k5⟩:=hX.blk i c (get i _ hi).2;exact ⟨g,cvs,T',by rw [y2];exact k1,by rw [y1];exact k2,k3,fun o=>by rw [y4];exact k4 o,fun j a x q1 q2=>(k5 j a x q1 q2).mono S⟩
 ·obtain ⟨g1,g2,n,g3,g4⟩:=hX.arr i T s c fz (get i _ hi).2;refine ⟨g1,g2,n,g3,?_⟩;rcases g4 with g4 | ⟨g,cvs,g4⟩
  ·exact .inl (by rw [y2];exact g4)
  ·exact .inr ⟨g,cvs,⟨by rw [y2];exact g4.at_,by rw [y1];exact g4.blk,by rw [y2];exact g4.cap,by rw [y2];exact g4.iQ,by rw [y2];exact g4.sz,fun o ho=>by rw [y4];exact g4.bad o ho,fun j a x q1 q2=>(g4.rep j a x q1 q2).mono S,fun o ho=>by rw [y4];exact g4.good o ho⟩⟩
 ·obtain ⟨o,ho⟩:=hi;obtain ⟨o',ho'⟩:=hj;rw [y2];exact hX.inj i j c ⟨o,(get i o ho).2⟩ ⟨o',(get j o' ho').2⟩
 ·obtain ⟨g,en,cl,k1,k2,k3⟩:=hX.map i q (get i _ hi).2;exact ⟨g,en,cl,by rw [y2];exact k1,by rw [y1];exact k2,k3.mono S⟩
 ·cases hr with
  | mp EF kk=>
  obtain ⟨b',e1,e2⟩:=kk es h;rw [h1] at e1;injection e1 with e1;subst e1;subst e2;have:=h3.mono S;refine .tm (by rw [y1];exact h2) (fun ⟨i,⟨o,ho⟩,he⟩=>?_) this.1 (fun i p e q1 q2=>(this.2 i p e q1 q2).1) (fun i p e q1 q2=>(this.2 i p e q1 q2).2);rw [y2] at he;exact (get i o ho).1 (hX.inj i id b ⟨o,(get i o ho).2⟩ ⟨_,h⟩ he h1)
theorem su:Closes fD:=by
 intro X a a' h' v hX h hr;unfold fD at h;split at h
 ·next id n=>
  split at h
  ·next T s cells fz hid=>
   split at h
   ·next hl=>
    injection h with h;injection h with e1 e2;subst e1 e2;obtain ⟨Y,y1,y2,y3,y4,y5⟩:=JB hX hid hl hr;exact ⟨Y,y1,y2,y3,y4,y5⟩
   ·cases h
  ·cases h
 ·next id=>
  split at h
  ·next es hid=>
   injection h with h;injection h with e1 e2;subst e1 e2;exact Wj hX hid hr
  ·cases h
 ·injection h with h;injection h with e1 e2;subst e1 e2;exact ⟨X,rfl,Step.refl X,hX,rfl,hr⟩
theorem jS {f:Hp→AV→Option (AV × Hp)} (hf:Closes f): ∀ (l:List AV) (X:Cx) (l':List AV) (h':Hp) (vs:List Value),Ok X→closeWith f X.h l=some (l',h')→fJ X l vs→ ∃ Y,Y.w=X.w∧Step X Y∧Ok Y∧Y.h=h'∧fJ Y l' vs
 | [],X,l',h',vs,hX,h,hr=>by
  simp only [closeWith] at h;injection h with h;injection h with e1 e2;subst e1 e2;exact ⟨X,rfl,Step.refl X,hX,rfl,hr⟩
 | a::r,X,l',h',[],hX,h,hr=>by have:=hr.1;simp at this
 | a::r,X,l',h',v::vs,hX,h,hr=>by
  simp only [closeWith] at h;split at h
  ·next a' h1 e1=>
   split at h
   ·next r' h2 e2=>
    injection h with h;injection h with q1 q2;subst q1 q2;obtain ⟨Y,y1,y2,y3,y4,y5⟩:=hf X a a' h1 v hX e1 (hr.2 0 a v rfl rfl);subst y4;obtain ⟨Z,z1,z2,z3,z4,z5⟩:=jS hf r Y r' _ vs y3 e2 ⟨by have:=hr.1;simp at this;omega,fun i b u q1 q2=>(hr.2 (i+1) b u (by simpa using q1) (by simpa using q2)).mono y2⟩;refine ⟨Z,z1.trans y1,y2.trans hX z2,z3,z4,by have:=z5.1;simp;omega,fun i b u q1 q2=>?_⟩;cases i with
    | zero=>simp at q1 q2;subst q1 q2;exact y5.mono z2
    | succ i=>exact z5.2 i b u (by simpa using q1) (by simpa using q2)
   ·cases h
  ·cases h
theorem sJ:Closes dY:=by
 intro X a a' h' v hX h hr;unfold dY at h;split at h
 ·next l=>
  cases hc:closeWith fD X.h l with
  | none=>rw [hc] at h;cases h
  | some p=>
   rw [hc] at h;injection h with h;injection h with e1 e2;subst e1 e2;cases hr with
   | g hl hrr=>
   obtain ⟨Y,y1,y2,y3,y4,y5⟩:=jS su l X p.1 p.2 _ hX hc ⟨hl,hrr⟩;exact ⟨Y,y1,y2,y3,y4, .g y5.1 y5.2⟩
 ·exact su X a a' h' v hX h hr
theorem sK:Closes dZ:=by
 intro X a a' h' v hX h hr;unfold dZ at h;split at h
 ·next l=>
  cases hc:closeWith dY X.h l with
  | none=>rw [hc] at h;cases h
  | some p=>
   rw [hc] at h;injection h with h;injection h with e1 e2;subst e1 e2;cases hr with
   | tup hl hrr=>
   obtain ⟨Y,y1,y2,y3,y4,y5⟩:=jS sJ l X p.1 p.2 _ hX hc ⟨hl,hrr⟩;exact ⟨Y,y1,y2,y3,y4, .tup y5.1 y5.2⟩
 ·exact sJ X a a' h' v hX h hr
def oW (P:Program) (h:Hp) (e:Ev):List ResultVar→Option (List AV)
 | []=>some []
 | .tmp t::r=>(oW P h e r).map fun l=>aO e t::l
 | .cell t T::r=>if szP P T=some 0 then none else match qE P h T (aO e t),oW P h e r with
  | some a,some l=>some (a::l)
  | _,_=>none
def uQ (P:Program) (h:Hp) (e:Ev) (rs:Array ResultVar):Option AV:=match oW P h e rs.toList with
 | some [a]=>some a
 | some l=>some (.tup l)
 | none=>none
def CQ (tmps:Array Value):ResultVar→Sem Value
 | .tmp t=>pure (tmps.getD t undef)
 | .cell a t=>do loadVar t (←asAddr (tmps.getD a undef))
theorem Hw {P:Program} {X:Cx} {N:Nat} {e:Ev} {a:Act} (hX:Ok X) (hE:aN X N e a): ∀ (rs:List ResultVar) (l:List AV),oW P X.h e rs=some l→ ∃ vs,(rs.mapM (CQ a.tmps)).run P X.w= .ok vs X.w∧fJ X l vs
 | [],l,h=>by
  simp only [oW] at h;injection h with h;subst h;exact ⟨[],by simp,rfl,fun i a x h1=>by simp at h1⟩
 | .tmp t::r,l,h=>by
  simp only [oW] at h;cases hr:oW P X.h e r with
  | none=>rw [hr] at h;cases h
  | some l'=>
   rw [hr] at h;injection h with h;subst h;obtain ⟨vs,q1,q2⟩:=Hw hX hE r l' hr;refine ⟨a.tmps.getD t undef::vs,by rw [List.mapM_cons];simp [CQ,q1],by simp [q2.1],fun i b u h1 h2=>?_⟩;cases i with
   | zero=>simp only [List.getElem?_cons_zero,Option.some.injEq] at h1 h2;subst h1 h2;exact hE.rep t
   | succ i=>exact q2.2 i b u (by simpa using h1) (by simpa using h2)
 | .cell t T::r,l,h=>by
  simp only [oW] at h;split at h
  ·cases h
  ·next h0=>
   split at h
   ·next av l' e1 e2=>
    injection h with h;subst h;obtain ⟨vs,q1,q2⟩:=Hw hX hE r l' e2;have hl:=e1;unfold qE at hl;cases hb:behind X.h (aO e t) with
    | none=>rw [hb] at hl;cases hl
    | some cells=>
     rw [hb] at hl;obtain ⟨b,off,cvs,hp,p1,p2,p3⟩:=EZ hX hb (hE.rep t) (E5 hl h0);obtain ⟨v,r1,r2⟩:=BO (P:=P) hl p1 p2 p3;have r3:(loadVar T ⟨b,off,none⟩).run P X.w= .ok v X.w:=by simpa [Instr.loadAt,Instr.sureAddr] using r1
     refine ⟨v::vs,by rw [List.mapM_cons];simp [CQ,hp,asAddr,r3,q1],by simp [q2.1],fun i b u h1 h2=>?_⟩;cases i with
     | zero=>simp only [List.getElem?_cons_zero,Option.some.injEq] at h1 h2;subst h1 h2;exact r2
     | succ i=>exact q2.2 i b u (by simpa using h1) (by simpa using h2)
   ·cases h
theorem NH (fn:Func) (tmps:Array Value):results fn tmps=(do let vs ←fn.results.mapM (CQ tmps);pure (if h:vs.size=1 then vs[0] else .tuple vs)):=by
 unfold results;congr 2
variable {P:Program}
theorem Au {N:Nat} {e:Ev} {a:Act} {fn:Func} {av:AV} (hX:Ok X) (hE:aN X N e a) (h:uQ P X.h e fn.results=some av): ∃ v,(results fn a.tmps).run P X.w= .ok v X.w∧Rep X av v:=by
 unfold uQ at h;cases hr:oW P X.h e fn.results.toList with
 | none=>rw [hr] at h;cases h
 | some l=>
  rw [hr] at h;obtain ⟨vs,q1,q2⟩:=Hw hX hE fn.results.toList l hr;have hrun: ∀ {β:Type} (k:Array Value→Sem β),(do let vs ←fn.results.mapM (CQ a.tmps);k vs:Sem β).run P X.w=(k vs.toArray).run P X.w:=by
   intro β k;rw [Array.mapM_eq_mapM_toList,map_eq_pure_bind];simp [q1]
  rw [NH,hrun];split at h
  ·next b e1=>
   injection e1 with e1;subst e1;injection h with h;subst h;obtain ⟨u,rfl⟩: ∃ u,vs=[u]:=by
    have:=q2.1;match vs with
    | [u]=>exact ⟨u,rfl⟩
    | []=>cases this
    | _::_::_=>simp at this
   exact ⟨u,by simp,q2.2 0 _ u rfl rfl⟩
  ·next l2 hne e1=>
   injection e1 with e1;subst e1;injection h with h;subst h;refine ⟨.tuple vs.toArray,?_, .tup q2.1 q2.2⟩;have hs: ¬ vs.length=1:=fun hs=>by
    have:=q2.1;rw [hs] at this;match l,hne,this with
    | [b],hne,_=>exact hne b rfl
   simp [hs]
  ·next e1=>cases e1
def qM:Nat→List AV→Ev
 | _,[]=>[]
 | k,a::r=>(k,a)::qM (k+1) r
theorem JL: ∀ (l:List AV) (k d:Nat),aO (qM k l) d=if k≤d∧d<k+l.length then l.getD (d - k) .none else .none
 | [],k,d=>by
  rw [if_neg (by simp only [List.length_nil];omega)];rfl
 | a::r,k,d=>by
  show (if k=d then a else aO (qM (k+1) r) d)=_;by_cases h:k=d
  ·subst h;rw [if_pos rfl,if_pos (by simp),Nat.sub_self];rfl
  ·rw [if_neg h,JL r (k+1) d];simp only [List.length_cons];by_cases h2:k+1≤d∧d<k+1+r.length
   ·rw [if_pos h2,if_pos (by omega),show d - k=(d - (k+1))+1 by omega];rfl
   ·rw [if_neg h2,if_neg (by omega)]
variable {args:List AV}
theorem CS {N:Nat}  {vs:List Value} (hds:X.ds=[]) (hr:fJ X args vs) (hN:args.length≤N):aN X N (qM 0 args) {tmps:=vs.toArray++Array.replicate (N - vs.toArray.size) undef,defers:=[]}:=by
 have hl:=hr.1;refine ⟨hds.symm,by simp;omega,fun d=>?_⟩;rw [JL];split
 ·next h=>
  have hd:d<args.length:=by omega
  have e1:args.getD (d - 0) .none=args[d]:=by simp [hd]
  have e2:(vs.toArray++Array.replicate (N - vs.toArray.size) undef).getD d undef=vs[d]'(by omega):=by
   rw [Array.getD_eq_getD_getElem?,Array.getElem?_append_left (by simp;omega)];simp [show d<vs.length by omega]
  rw [e1,e2];exact hr.2 d _ _ (List.getElem?_eq_getElem hd) (List.getElem?_eq_getElem (by omega))
 ·exact .none _
def TC (P:Program) (f:FuncId) (args:List AV) (res:AV):Prop:=
 lM P f=true∧ ∀ (X:Cx) (vs:List Value),X.h=[]→(∀ b o,X.bad b o→b<X.w.heap.size)→fJ X args vs→Calls P f vs.toArray X.w fun e w'=> ∃ v,e= .returned v∧Below X.w.heap.size X.w w'∧ ∀ m,Rep ⟨w',m,[],X.bad,X.ds⟩ res v
theorem JM (h:X.h=[]) (hb: ∀ b o,X.bad b o→b<X.w.heap.size):Ok X:=
 ⟨fun id cells hh=>by rw [h] at hh;simp at hh,fun id T s c f hh=>by rw [h] at hh;simp at hh,fun i j b ⟨o,ho⟩=>by rw [h] at ho;simp at ho,hb,fun id es hh=>by rw [h] at hh;simp at hh⟩
theorem TC.Wn {f:FuncId}  {res:AV} (h:HT P f args [] fun r _=>r=res) (hc:Clo res):TC P f args res:=by
 refine ⟨h.1,fun X vs hh hb hr=>?_⟩;refine (h.2 X vs (JM hh hb) hh hr).mono ?_;rintro e w' ⟨v,Y,av,rfl,rfl,S,hY,hv,rfl⟩;have hm: ∀ b, ¬ X.mine b:=fun b ⟨i,⟨o,ho⟩,_⟩=>by rw [hh] at ho;simp at ho
 refine ⟨v,rfl,S.below hm,fun m=>hv.clo hc fun b o u hu hbad=>⟨hu,fun hk=>?_⟩⟩;rcases S.nC b o hk with q | q
 ·exact hbad q
 ·exact hm b q
theorem HT.PZ {f:FuncId} {args':List AV} {h h':Hp} {res:AV} (T:TC P f args' res) (hcl:closeWith dY h args=some (args',h')) (hc: ∀ (a:AV),a∈args'→Clo a) (hres:Clo res):HT P f args h fun r h2=>r=res∧h2=h':=by
 refine ⟨T.1,fun X vs hX hh hr=>?_⟩;subst hh;obtain ⟨Y,y1,y2,y3,y4,y5⟩:=jS sJ args X args' h' vs hX hcl hr;have Wp:fJ ⟨Y.w,Y.m,[],Y.bad,Y.ds⟩ args' vs:=⟨y5.1,fun i a x h1 h2=>(y5.2 i a x h1 h2).clo (hc a (List.mem_of_getElem? h1)) fun b o u hu hb=>⟨hu,hb⟩⟩
 have hT:=T.2 ⟨Y.w,Y.m,[],Y.bad,Y.ds⟩ vs rfl y3.dX Wp;rw [←y1];refine hT.mono ?_;rintro e w' ⟨v,rfl,hbel,hv⟩;have S:Step Y ⟨w',Y.m,Y.h,Y.bad,Y.ds⟩:=by
  refine ⟨hbel.os,hbel.tape,hbel.output,hbel.size,fun b hb _=>hbel.block b hb,fun b o x hx hb=>⟨?_,hb⟩,Nat.le_refl _,fun i T' s c f' _ hi=>⟨c,f',hi,Nat.le_refl _,fun _=>rfl⟩,fun i c _ hi=>⟨c,hi,rfl⟩,fun b hb=> .inr hb,fun _ _ hb=> .inl hb,fun i c _ hi=>⟨c,hi,rfl⟩,rfl⟩;unfold cellAt at hx ⊢;rw [hbel.cell (p:=⟨b,o,none⟩) (eH hx)];exact hx
 have hZ:Ok ⟨w',Y.m,Y.h,Y.bad,Y.ds⟩:=by
  refine ⟨fun id cells hi=>?_,fun id T' s cells fz hi=>?_,y3.inj,fun b o hb=>Nat.lt_of_lt_of_le (y3.dX b o hb) hbel.size,fun id es hi=>?_⟩
  ·obtain ⟨b,cvs,T',h1,h2,h3,h4,h5⟩:=y3.blk id cells hi;exact ⟨b,cvs,T',h1,by rw [←h2];exact hbel.block b (y3.lt ⟨id,⟨_,hi⟩,h1⟩),h3,h4,fun j a x q1 q2=>(h5 j a x q1 q2).mono S⟩
  ·obtain ⟨g1,g2,n,g3,g4⟩:=y3.arr id T' s cells fz hi;refine ⟨g1,g2,n,g3,?_⟩;rcases g4 with g4 | ⟨b,cvs,g4⟩
   ·exact .inl g4
   ·exact .inr ⟨b,cvs,⟨g4.at_,by rw [←g4.blk];exact hbel.block b (y3.lt ⟨id,⟨_,hi⟩,g4.at_⟩),g4.cap,g4.iQ,g4.sz,g4.bad,fun j a x q1 q2=>(g4.rep j a x q1 q2).mono S,g4.good⟩⟩
  ·obtain ⟨b,ents,clock,h1,h2,h3⟩:=y3.map id es hi;exact ⟨b,ents,clock,h1,by rw [←h2];exact hbel.block b (y3.lt ⟨id,⟨_,hi⟩,h1⟩),h3.mono S⟩
 exact ⟨v,⟨w',Y.m,Y.h,Y.bad,Y.ds⟩,res,rfl,rfl,y2.trans hX S,hZ,(hv Y.m).clo hres fun b o u hu hb=>⟨hu,hb⟩,rfl,y4⟩
end
section
open Go.RowKit
def CU (h:Hp) (a:AV):Option AV:=match a with
 | .own id n=>match h[id]? with
  | some (some (.arr _ s cells fz))=>if cells.length=n*s∧fz=cells.length then some (.t n s cells) else none
  | _=>none
 | a=>some a
def EI (f:AV→Option AV):List AV→Option (List AV)
 | []=>some []
 | a::r=>match f a,EI f r with
  | some a',some r'=>some (a'::r')
  | _,_=>none
def uy (h:Hp) (a:AV):Option AV:=match a with
 | .g l=>(EI (CU h) l).map .g
 | a=>CU h a
def JO (h:Hp) (l:List AV):Option (List AV):=EI (uy h) l
def JQ (X:Cx):Prop:= ∀ id T s cells b,X.h[id]? =some (some (.arr T s cells cells.length))→(X.m id).1=some b→ ∀ o,o<cells.length→ ¬ X.bad b o
def froze:Option Ob→Option Ob
 | some (.arr T s cells _)=>some (.arr T s cells cells.length)
 | o=>o
def EJ (m k:Nat) (o:Option Ob):Option Ob:=if (m / 2 ^ k) % 2=1 then o else froze o
def fP:Nat→Hp→Hp
 | _,[]=>[]
 | m,o::r=>(if m % 2=1 then o else froze o)::fP (m / 2) r
theorem JR: ∀ (h:Hp) (m i:Nat),(fP m h)[i]? =(h[i]?).map (EJ m i)
 | [],_,_=>by simp [fP]
 | o::r,m,0=>by simp [fP,EJ]
 | o::r,m,i+1=>by
  simp only [fP,List.getElem?_cons_succ];rw [JR r (m / 2) i];congr 1;funext x
  unfold EJ;rw [Nat.pow_succ,Nat.mul_comm (2 ^ i) 2,Nat.div_div_eq_div_mul]
theorem JU: ∀ (h:Hp) (m:Nat),(fP m h).length=h.length
 | [],_=>rfl
 | o::r,m=>by simp [fP,JU r]
variable {X:Cx}
theorem Ok.CV (hX:Ok X):JQ X:=fun id T s cells b h1 h2 o ho hk=>by
 obtain ⟨g1,g2,n,g3,g4⟩:=hX.arr id T s cells _ h1;rcases g4 with g4 | ⟨b',cvs,g4⟩
 ·rw [g4.1] at h2;cases h2
 ·have:=g4.at_;rw [h2] at this;injection this with this;subst this;exact g4.good o ho hk
theorem zG (m:Nat) {X:Cx} (hX:Ok X): ∀ k,k≤X.h.length→ ∃ Y,Y.w=X.w∧Step X Y∧Ok Y∧Y.h.length=X.h.length∧ ∀ i,Y.h[i]? =if i<k then (X.h[i]?).map (EJ m i) else X.h[i]?
 | 0,_=>⟨X,rfl,Step.refl X,hX,rfl,fun i=>by simp⟩
 | k+1,hk=>by
  obtain ⟨Y,y1,y2,y3,y4,y5⟩:=zG m hX k (by omega);obtain ⟨o,ho⟩: ∃ o,X.h[k]? =some o:=⟨_,List.getElem?_eq_getElem (by omega)⟩
  have hat:Y.h[k]? =some o:=by rw [y5,if_neg (by omega)];exact ho
  have same:EJ m k o=o→ ∃ Z,Z.w=X.w∧Step X Z∧Ok Z∧Z.h.length=X.h.length∧ ∀ i,Z.h[i]? =if i<k+1 then (X.h[i]?).map (EJ m i) else X.h[i]? :=fun e=>by
   refine ⟨Y,y1,y2,y3,y4,fun i=>?_⟩;rw [y5];by_cases hi:i=k
   ·subst hi;rw [if_neg (by omega),if_pos (by omega),ho,Option.map_some,e]
   ·by_cases h1:i<k
    ·rw [if_pos h1,if_pos (by omega)]
    ·rw [if_neg h1,if_neg (by omega)]
  by_cases hm:(m / 2 ^ k) % 2=1
  ·exact same (if_pos hm)
  ·cases o with
   | none=>exact same (by unfold EJ;rw [if_neg hm];rfl)
   | some ob=>
    cases ob with
    | blk c=>exact same (by unfold EJ;rw [if_neg hm];rfl)
    | map es=>exact same (by unfold EJ;rw [if_neg hm];rfl)
    | arr T s cells fz=>
     refine ⟨Y.frz k T s cells,y1,y2.trans hX (Step.frz hat),Ok.frz y3 hat,by simp [Cx.frz,Cx.jh,y4],fun i=>?_⟩;simp only [Cx.frz,Cx.jh];rw [List.getElem?_set];by_cases hi:k=i
     ·subst hi;rw [if_pos rfl,if_pos (by omega),if_pos (by omega),ho,Option.map_some];unfold EJ;rw [if_neg hm];rfl
     ·rw [if_neg hi,y5];by_cases h1:i<k
      ·rw [if_pos h1,if_pos (by omega)]
      ·rw [if_neg h1,if_neg (by omega)]
theorem lg (m:Nat)  (hX:Ok X): ∃ Y,Y.w=X.w∧Step X Y∧Ok Y∧Y.h=fP m X.h:=by
 obtain ⟨Y,y1,y2,y3,y4,y5⟩:=zG m hX X.h.length (Nat.le_refl _);refine ⟨Y,y1,y2,y3,List.ext_getElem? fun i=>?_⟩;rw [y5,JR];split
 ·rfl
 ·next h=>rw [List.getElem?_eq_none (by omega)];rfl
theorem oZ: ∀ (h:Hp),fP 0 h=h.map froze
 | []=>rfl
 | o::r=>by simp [fP,oZ r]
def JV (P:Program) (h:Hp) (t tx:TypeId) (s x:AV):Option AV:=
 (aG P t).bind fun T=>(szP P T).bind fun sz=>(bD P T).bind fun by_=>(aA P T).bind fun z=>(oH P h tx sz x).bind fun mn=>
  if z.cells.size=sz∧0<sz∧mn.1≤maxLen∧mn.1*by_≤140737488355328 then
   match s with
   | .e0=>some (.t mn.1 sz mn.2)
   | .v (.slice none 0 0)=>some (.t mn.1 sz mn.2)
   | _=>none
  else none
def cOp (P:Program) (p:AV→Hp→Prop) (o:Oper) (E:Operand→AV) (h:Hp) (K:AV→Prop):Prop:=match o.op with
 | .buildSlice T len parts=> ∃ te s L,zZ P h T len (parts.toList.map fun p=>(p.1,E p.2))=some (te,s,L)∧K (if len=0 then .e0 else .t len s L)
 | .call c=>match c.callee with
  | .value f=> ∃ fid fst cap,E f= .fn (.func fid) fst cap∧ ∃ res,HTP P fid (fst++c.args.toList.map E++cap) h (fun r h'=>r=res∧h'=h) p∧K res
  | .builtin .append=>c.args.size=2∧c.argTypes.size=2∧ ∃ r,JV P h (c.argTypes.getD 0 0) (c.argTypes.getD 1 0) (E (c.args.getD 0 (.const undef))) (E (c.args.getD 1 (.const undef)))=some r∧K r
  | _=>uw P c E h K
 | .convert s d x=> ∃ r,iM P [] s d (E x)=some r∧K (.v r)
 | _=>rOp P o E h K
def Quiet (X:Cx) (w':World) (av:AV) (v:Value):Prop:=Below X.w.heap.size X.w w'∧Rep ⟨w',X.m,X.h,X.bad,X.ds⟩ av v
def Calm (P : Program) (p : AV → Hp → Prop) (X : Cx) (o : Oper) (a : Act) (K : AV → Prop) : Prop := ∃ av, K av ∧
  ((∃ v w', (execOp a.eval o).run P X.w = .ok (.value v) w' ∧ Quiet X w' av v) ∨
   (∃ (f : FuncId) (args : Array Value), (execOp a.eval o).run P X.w = .ok (.enter f args) X.w ∧ Calls P f args X.w fun e w' => ∃ v Y a', Y.w = w' ∧ Step X Y ∧ Ok Y ∧ Rep Y a' v ∧ ((e = .returned v ∧ a' = av ∧ Y.h = X.h) ∨ (e = .panicked [{ v, recovered := false }] ∧ p a' Y.h))))
variable {P:Program}
theorem Reads.calm {o:Oper} {a:Act} {p:AV→Hp→Prop} {K:AV→Prop} (h:Reads P X o a K):Calm P p X o a K:=by
 obtain ⟨v,av,h1,h2,h3⟩:=h;exact ⟨av,h3, .inl ⟨v,X.w,h1,Below.refl _ _,h2⟩⟩
theorem Wq {T e:TypeId} {len s:Nat} {parts:List (Nat × AV)} {L:List AV} {vs:Array (Nat × Value)} (hX:Ok X) (hh:zZ P X.h T len parts=some (e,s,L)) (hl:vs.size=parts.length)
  (hp: ∀ (i:Nat) (p:Nat × AV) (q:Nat × Value),parts[i]? =some p→vs.toList[i]? =some q→p.1=q.1∧Rep X p.2 q.2) (hmax:len≤maxLen): ∃ v w',(Instr.buildSlice T len vs).run P X.w= .ok v w'∧Quiet X w' (if len=0 then .e0 else .t len s L) v:=by
 obtain ⟨h1,h2,⟨z,h3⟩,h4,h5,h6,h7⟩:=pV hh;have hf:=fun (c:Array Value) (hc:c.size=len*s)=>BR parts vs.toList 0 c L h4 (by simpa using hl) hp (by rw [hc,h5,Nat.zero_add])
 obtain ⟨c',c,hc,hfc,hrun⟩:=qH (P:=P) (w:=X.w) (c':= #[]) h1 h2 h3 h7 (fun c hc=>by obtain ⟨c',q,_⟩:=hf c hc;exact ⟨c',q⟩);obtain ⟨c2,q1,q2,q3,q4,q5⟩:=hf c hc;rw [hfc] at q1;injection q1 with q1;subst q1;have hcl:c'.toList.length=L.length:=by rw [Array.length_toList,q2,hc,q5,h5]
 have S: ∀ b o x,cellAt X.w b o=some x→cellAt (X.w.alloc (.cells c' e)) b o=some x:=fun b o x hx=>by
  have hlt:=eH hx;unfold cellAt at hx ⊢;rw [World.cell?_alloc_lt (h:=hlt)];exact hx
 have SS:Step X ⟨X.w.alloc (.cells c' e),X.m,X.h,X.bad,X.ds⟩:=⟨rfl,rfl,rfl,by simp,fun b hb _=>Below.heap_alloc _ _ _ hb,fun b o x hx hb=>⟨S b o x hx,hb⟩,Nat.le_refl _,fun i T' s c f' _ hi=>⟨c,f',hi,Nat.le_refl _,fun _=>rfl⟩,fun i c _ hi=>⟨c,hi,rfl⟩,fun b hb=> .inr hb,fun _ _ hb=> .inl hb,fun i c _ hi=>⟨c,hi,rfl⟩,rfl⟩
 refine ⟨_,_,hrun,⟨(Below.refl _ _).alloc (Nat.le_refl _) _,?_⟩⟩;split
 ·next h0=>subst h0;exact .e0 (some X.w.heap.size)
 refine .t (by rw [q5,h5]) hcl (Nat.le_refl _) hmax (fun _=>⟨X.w.heap.size,0,rfl,fun i x hx=>⟨?_,fun hk=>?_⟩⟩) (fun i a x r1 r2=>?_)
 ·rw [Nat.zero_add,aZ (heap_alloc_new X.w _)];simpa using hx
 ·exact absurd (hX.dX _ _ hk) (by omega)
 ·exact (q4 i a x r1 (by simpa using r2)).mono SS
theorem Ws {t tx ty:TypeId} {s x r:AV} {v u:Value} (hX:Ok X) (h:JV P X.h t tx s x=some r) (hs:Rep X s v) (hx:Rep X x u):
  ∃ v' w',(Builtin.append_ #[t,tx] ty #[v,u]).run P X.w= .ok v' w'∧Quiet X w' r v':=by
 unfold JV at h;cases h1:aG P t with
 | none=>rw [h1] at h;cases h
 | some T=>
 rw [h1] at h;simp only [Option.bind_some] at h;cases h2:szP P T with
 | none=>rw [h2] at h;cases h
 | some sz=>
 rw [h2] at h;simp only [Option.bind_some] at h;cases h3:bD P T with
 | none=>rw [h3] at h;cases h
 | some by_=>
 rw [h3] at h;simp only [Option.bind_some] at h;cases h4:aA P T with
 | none=>rw [h4] at h;cases h
 | some z=>
 rw [h4] at h;simp only [Option.bind_some] at h;cases h5:oH P X.h tx sz x with
 | none=>rw [h5] at h;cases h
 | some mn=>
 obtain ⟨m,jL⟩:=mn;rw [h5] at h;simp only [Option.bind_some] at h;obtain ⟨i,hi,hsi⟩:=lK h2;obtain ⟨i2,hi2,hz⟩:=nI h4;have hii:i2=i:=by rw [hi] at hi2;injection hi2 with e;exact e.symm
 subst hii;have hb:i2.bytes=by_:=by unfold bD at h3;rw [hi] at h3;injection h3
 subst hsi;obtain ⟨news,q1,q2,q3⟩:=Ho hX h5 hx;split at h
 ·next hc=>
  obtain ⟨hzs,hs0,h63,hby⟩:=hc;have key: ∃ b,v=aY (b,0) 0∧r= .t m i2.size jL:=by
   split at h
   ·injection h with h;cases hs with | e0 b=>exact ⟨b,rfl,h.symm⟩
   ·injection h with h;cases hs;exact ⟨none,rfl,h.symm⟩
   ·cases h
  obtain ⟨b,rfl,rfl⟩:=key;have ht:=dF h1;have oP:jL.length=m*i2.size:=by rw [q2];exact q1.newsLen
  rcases Nat.eq_zero_or_pos m with rfl | hm0
  ·have hn0:jL=[]:=List.eq_nil_of_length_eq_zero (by rw [oP];omega);have hw0:news=[]:=List.eq_nil_of_length_eq_zero (by rw [←q2,oP];omega);subst hn0 hw0;refine ⟨aY (b,0) 0,X.w,?_,Below.refl _ _, .t (cvs:=[]) (by simp) rfl (Nat.le_refl _) (Nat.zero_le _) (fun h=>absurd h (Nat.lt_irrefl _)) (fun i a x h1=>by simp at h1)⟩;cases b with
   | none=>rcases q1.kind with ⟨e',hk⟩ | hk<;>simp [aY,Builtin.append_,run_underlying ht,run_underlying hk,sizeOf,typeInfo,hi,q1.len,q1.cells]
   | some b=>
    have hr:=run_append_room_src (P:=P) X.w t tx ty T i2 ht hi b 0 0 0 u 0 [] q1 (Nat.le_refl _) (by intro j hj;simp at hj) (by intro j hj;simp at hj);rw [show aY (some b,0) 0= .slice (some ⟨b,0,none⟩) 0 0 from rfl,hr];rfl
  ·have hfc:(Builtin.firstCells i2.size 0 (aY (b,0) 0)).run P X.w.drew= .ok ([]:List Value).toArray X.w.drew:=by
    cases b with
    | none=>exact run_firstCells_none X.w.drew i2.size 0 0 0
    | some b=>exact run_firstCells_some X.w.drew i2.size 0 ⟨b,0,none⟩ 0 0 [] (by simp) (fun j u hu=>by simp at hu)
   have hr:=run_append_grow_src (P:=P) X.w t tx ty T i2 z ht hi hz (b.map fun b=>⟨b,0,none⟩) 0 0 [] hfc u m news q1 (by omega) (by rw [Nat.zero_add];unfold maxLen at h63;omega)
    (by rw [Nat.zero_add];exact Nat.le_trans (Nat.mul_le_mul_right _ (BM (by omega))) (by rw [Nat.mul_assoc];rw [hb];omega))
   have hle:=grownCap_ge X.w (0+m) 0 T;have hmx:=grownCap_le_maxLen X.w (0+m) 0 T (by rw [Nat.zero_add];exact h63);simp only [show (0+m:Nat)=m from Nat.zero_add m] at hr hle hmx;generalize hC:grownCap X.w m 0 T=C at hr hle hmx;have SS:Step X ⟨X.w.drew.alloc (.cells (([]++news).toArray++Builtin.zeroCells z.cells (C - m)) T),X.m,X.h,X.bad,X.ds⟩:=⟨rfl,rfl,rfl,by simp,fun b hb _=>Below.heap_alloc X.w.drew _ b hb,fun b o y hy hb=>⟨by
    have hb':=eH hy;unfold cellAt at hy ⊢;rw [World.cell?_alloc_lt (h:=hb')];exact hy,hb⟩,Nat.le_refl _,fun i T' s c f' _ hi=>⟨c,f',hi,Nat.le_refl _,fun _=>rfl⟩,fun i c _ hi=>⟨c,hi,rfl⟩,fun b hb=> .inr hb,fun _ _ hb=> .inl hb,fun i c _ hi=>⟨c,hi,rfl⟩,rfl⟩
   refine ⟨_,_,hr,⟨?_,?_⟩⟩
   ·exact ⟨rfl,rfl,rfl,by simp,fun b hb=>Below.heap_alloc X.w.drew _ b hb⟩
   ·refine .t (cvs:=news) oP q2.symm (by omega) hmx (fun _=>⟨X.w.heap.size,0,rfl,fun i x hx=>⟨?_,fun hk=>?_⟩⟩) (fun i a x r1 r2=>(q3 i a x r1 r2).mono SS)
    ·have hi':=(List.getElem?_eq_some_iff.1 hx).1;rw [Nat.zero_add];show cellAt (X.w.drew.alloc _) X.w.drew.heap.size i=some x;rw [aZ (heap_alloc_new X.w.drew _),Array.getElem?_append_left (by simpa using hi')];simpa using hx
    ·exact absurd (hX.dX _ _ hk) (by omega)
 ·cases h
theorem afK {E:Operand→AV} {a:Act} {o:Oper} {p:AV→Hp→Prop} {K:AV→Prop} (hX:Ok X) (hF:JQ X) (hE: ∀ x,x∈o.op.operands→Rep X (E x) (a.eval x)) (h:cOp P p o E X.h K):Calm P p X o a K:=by
 unfold cOp at h;split at h
 ·next T len parts ho=>
  obtain ⟨te,s,L,hl,hK⟩:=h;have hp:=pV hl;have hlen:len≤maxLen:=by
   have h1:=hp.2.2.2.2.2.2;have h2:len*1≤len*s:=Nat.mul_le_mul_left _ hp.2.2.2.2.2.1;unfold maxLen;omega
  obtain ⟨v,w',q1,q2⟩:=Wq (P:=P) hX hl (by simp) (xU parts fun x hx=>hE x (by rw [ho];exact hx)) hlen;exact ⟨_,hK, .inl ⟨v,w',by simp [execOp,ho,q1],q2⟩⟩
 ·next c ho=>
  split at h
  ·next f hc=>
   obtain ⟨fid,fst,cap,hf,res,hT,hK⟩:=h;have hx:execOp a.eval o=(do let d ←resolve a.eval c o.type;invoke d.target d.args):=by simp [execOp,ho]
   have hE': ∀ x,x∈c.operands→Rep X (E x) (a.eval x):=fun x hx=>hE x (by rw [ho];exact hx)
   have hA: ∀ x,x∈c.args→Rep X (E x) (a.eval x):=fun x hx=>hE' x (by unfold Call.operands;exact Array.mem_append.2 (.inr hx))
   have hrf:=hE' f (by unfold Call.operands;rw [hc];simp);rw [hf] at hrf;generalize hv:a.eval f=fv at hrf;cases hrf with
   | @fn _ _ _ v1 v2 l1 l2 r1 r2=>
   have hR:=oV (oV ⟨l1,r1⟩ (wo c.args hA)) ⟨l2,r2⟩;have hcall:=hT.2 X _ hX rfl hR;refine ⟨res,hK, .inr ⟨fid,(v1++c.args.toList.map a.eval++v2).toArray,?_,?_⟩⟩
   ·rw [hx];simp [resolve,hc,hv,Deferred.ofValue,invoke,pY hT.1]
   ·refine hcall.mono ?_;rintro e w' ⟨v,Y,av,q1,q2,q3,q4,⟨q5,q6,q7⟩ | ⟨q5,q6⟩⟩
    ·exact ⟨v,Y,av,q1,q2,q3,q4, .inl ⟨q5,q6,q7⟩⟩
    ·exact ⟨v,Y,av,q1,q2,q3,q4, .inr ⟨q5,q6⟩⟩
  ·next hc=>
   obtain ⟨hs,ht,r,hr,hK⟩:=h;have hx:execOp a.eval o=(do let d ←resolve a.eval c o.type;invoke d.target d.args):=by simp [execOp,ho]
   have hA: ∀ x,x∈c.args→Rep X (E x) (a.eval x):=fun x hx=>hE x (by rw [ho];exact Array.mem_append.2 (.inr hx))
   obtain ⟨y,y2,hy⟩: ∃ y y2,c.args= #[y,y2]:=by
    match hm:c.args with
    | ⟨[y,y2]⟩=>exact ⟨y,y2,rfl⟩
    | ⟨[]⟩=>rw [hm] at hs;cases hs
    | ⟨[_]⟩=>rw [hm] at hs;cases hs
    | ⟨_::_::_::_⟩=>rw [hm] at hs;simp at hs
   obtain ⟨t,t2,hty⟩: ∃ t t2,c.argTypes= #[t,t2]:=by
    match hm:c.argTypes with
    | ⟨[y,y2]⟩=>exact ⟨y,y2,rfl⟩
    | ⟨[]⟩=>rw [hm] at ht;cases ht
    | ⟨[_]⟩=>rw [hm] at ht;cases ht
    | ⟨_::_::_::_⟩=>rw [hm] at ht;simp at ht
   rw [hy,hty] at hr;have hr:JV P X.h t t2 (E y) (E y2)=some r:=hr;obtain ⟨v',w',q1,q2⟩:=Ws (P:=P) (ty:=o.type) hX hr (hA y (by rw [hy];simp)) (hA y2 (by rw [hy];simp));exact ⟨r,hK, .inl ⟨v',w',by rw [hx];simp [resolve,hc,hy,hty,invoke,builtin,q1],q2⟩⟩
  ·exact (CG hX (fun x hx=>hE x (by rw [ho];exact hx)) ho h).calm
 ·next sx dx x ho=>
  obtain ⟨r,hr,hK⟩:=h;refine (Hu hX hE (K:=K) ?_).calm;unfold rOp;rw [ho];exact ⟨r,Fp _ hr,hK⟩
 ·exact (Hu hX hE h).calm
end
end Go.Proofs.YtljfgdlgmdcmfaaGreat.Wv
