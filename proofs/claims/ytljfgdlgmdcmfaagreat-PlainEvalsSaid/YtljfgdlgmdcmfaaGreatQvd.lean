/- Parts of a proof. -/
import Derived.StillTail
import Derived.StillTactics
import Derived.Test.YtljfgdlgmdcmfaaGreatQvc
import Derived.RangeFuncLeaves
import Derived.RangeFuncNested
set_option linter.unusedVariables false
namespace Go.Proofs.YtljfgdlgmdcmfaaGreat
section
open Go
section
variable {P:Program} {ops:Array Oper}
def eG (L:Nat→Bool) (i:Nat):Nat→Bool:=fun j=>if j=i then true else L j
def oJ (L:Nat→Bool):Nat→Nat
 | 0=>0
 | k+1=>oJ L k+(if L k=true then 0 else 1)
theorem Hy {L:Nat→Bool} {i:Nat} (hL:L i=false): ∀ k,(i<k→oJ (eG L i) k+1=oJ L k)∧(k≤i→oJ (eG L i) k=oJ L k)
 | 0=>⟨fun h=>by omega,fun _=>rfl⟩
 | k+1=>by
  obtain ⟨h1,h2⟩:=Hy hL k;by_cases e:k=i
  ·subst e;have h3:eG L k k=true:=by simp [eG]
   refine ⟨fun _=>?_,fun h=>by omega⟩;simp only [oJ,h3,hL,h2 (Nat.le_refl _),if_true,Bool.false_eq_true,if_false]
  ·have h3:eG L i k=L k:=by simp [eG,e]
   refine ⟨fun h=>?_,fun h=>?_⟩
   ·simp only [oJ,h3];have:=h1 (by omega);omega
   ·simp only [oJ,h3];rw [h2 (by omega)]
theorem wu {L:Nat→Bool}: ∀ k,oJ L k=0→ ∀ j,j<k→L j=true
 | 0,_,j,h=>by omega
 | k+1,h,j,hj=>by
  simp only [oJ] at h;by_cases e:j=k
  ·subst e;by_cases hl:L j=true
   ·exact hl
   ·rw [if_neg hl] at h;omega
  ·exact wu k (by omega) j (by omega)
theorem xX {L:Nat→Bool}: ∀ k,oJ L k≠0→ ∃ i,i<k∧L i=false∧ ∀ j,j<i→L j=true
 | 0,h=>absurd rfl h
 | k+1,h=>by
  by_cases h0:oJ L k=0
  ·refine ⟨k,by omega,?_,wu k h0⟩;simp only [oJ,h0] at h;cases hl:L k with
   | false=>rfl
   | true=>rw [if_pos hl] at h;omega
  ·obtain ⟨i,h1,h2⟩:=xX k h0;exact ⟨i,by omega,h2⟩
variable (S:World→Prop) (R:Nat→Value→World→Prop) (D:Nat→Nat→Value→Value→Prop) (E:World→World→Prop)
variable {S R D E}
end
end
end Go.Proofs.YtljfgdlgmdcmfaaGreat
namespace Go.Proofs.YtljfgdlgmdcmfaaGreat.Wv
section
open Go.RowKit
def direct (ops:Array Oper) (j i:Nat):Bool:=match ops[i]? with
 | some o=>o.after.any fun e=>Region.binds .any e && decide (e.on=j)
 | none=>false
def xY (ops:Array Oper):Nat→Nat→Nat→Bool
 | 0,j,i=>direct ops j i
 | n+1,j,i=>direct ops j i || (List.range ops.size).any fun m=>direct ops j m && xY ops n m i
def reach (ops:Array Oper) (j i:Nat):Bool:=xY ops 8 j i
def rdT (o:Oper) (t:Tmp):Bool:=o.op.operands.any fun x=>match x with | .tmp d=>d==t | _=>false
def afi:BinOp→Bool
 | .eql | .neq=>false
 | _=>true
def isPure (o:Oper):Bool:=o.guard.isNone && match o.op with | .binOp op _ _ _ _=>afi op | .move _ | .extract _ _ | .pick .. | .unOp .. | .convert .. | .field .. =>true | _=>false
def aC (o:Oper):Bool:=o.guard.isNone && match o.op with | .alloc _=>true | _=>false
def mJ (N k:Nat) (ops:Array Oper) (i j:Nat) (o p:Oper):Bool:=
 (decide (j=i) || (decide (k≤i) && decide (k≤j)) || p.dst.isNone || decide (p.dst≠o.dst)) &&
 (match p.dst with | none=>true | some t=>!rdT o t || (if j<k then decide (j<i) && direct ops j i && !(decide (i<k) && aC p) else if i<k then direct ops i j else true)) &&
 (decide (i<k) || decide (i≤j) || (decide (j<k) && isPure p) || reach ops j i)
def fwB (ops:Array Oper) (i:Nat):Bool:=match ops[i]? with
 | some o=>o.after.any fun e=>Region.binds .any e && decide (i<e.on)
 | none=>false
def rkB (ops:Array Oper) (i:Nat):Nat:=if fwB ops i=true then (match ops[i]? with
 | some o=>o.after.toList.foldl (fun m e=>if (Region.binds .any e && decide (m<2*e.on+1))=true then 2*e.on+1 else m) (2*i)
 | none=>2*i) else 2*i
def nO (N k:Nat) (ops:Array Oper):Bool:=
 decide (k≤ops.size) && (List.range ops.size).all fun i=>match ops[i]? with
 | none=>false
 | some o=>(o.after.all fun e=>!Region.binds .any e || (decide (rkB ops e.on<rkB ops i) && decide (e.on<ops.size))) && zF N o &&
  (match o.guard with | none=>true | some (g,_)=>decide (g<i) && decide (g<k) && direct ops g i && (match ops[g]? with | some q=>!aC q | none=>false)) && (decide (k≤i) || o.dst.isSome) &&
  (List.range ops.size).all fun j=>match ops[j]? with
   | none=>false
   | some p=>mJ N k ops i j o p
structure Wu (N k:Nat) (ops:Array Oper):Prop where
 le:k≤ops.size
 aft: ∀ (i:Nat) (o:Oper),ops[i]? =some o→ ∀ e,e∈o.after→Region.binds .any e=true→rkB ops e.on<rkB ops i∧e.on<ops.size
 dst: ∀ (i:Nat) (o:Oper),ops[i]? =some o→ ∀ d,o.dst=some d→d<N
 grd: ∀ (i:Nat) (o:Oper),ops[i]? =some o→ ∀ g b,o.guard=some (g,b)→g<i∧g<k∧direct ops g i=true∧ ∀ q,ops[g]? =some q→aC q=false
 hdst: ∀ (i:Nat) (o:Oper),ops[i]? =some o→i<k→ ∃ d,o.dst=some d
 diff: ∀ (i j:Nat) (o p:Oper),ops[i]? =some o→ops[j]? =some p→j≠i→(i<k∨j<k)→ ∀ d,p.dst=some d→o.dst≠some d
 rdh: ∀ (i j:Nat) (o p:Oper),ops[i]? =some o→ops[j]? =some p→ ∀ t,p.dst=some t→rdT o t=true→j<k→j<i∧direct ops j i=true∧(i<k→aC p=false)
 rdt: ∀ (i j:Nat) (o p:Oper),ops[i]? =some o→ops[j]? =some p→ ∀ t,p.dst=some t→rdT o t=true→k≤j→i<k→direct ops i j=true
 tail: ∀ (i j:Nat) (o p:Oper),ops[i]? =some o→ops[j]? =some p→k≤i→j<i→(j<k∧isPure p=true)∨reach ops j i=true
theorem JW {N k:Nat} {ops:Array Oper} (h:nO N k ops=true):Wu N k ops:=by
 unfold nO at h;simp only [Bool.and_eq_true,decide_eq_true_eq] at h;obtain ⟨hle,hall⟩:=h;have get: ∀ (i:Nat) (o:Oper),ops[i]? =some o→((o.after.all fun e=>!Region.binds .any e || (decide (rkB ops e.on<rkB ops i) && decide (e.on<ops.size)))=true∧zF N o=true∧
   (match o.guard with | none=>true | some (g,_)=>decide (g<i) && decide (g<k) && direct ops g i && (match ops[g]? with | some q=>!aC q | none=>false))=true∧(decide (k≤i) || o.dst.isSome)=true)∧
   ∀ (j:Nat) (p:Oper),ops[j]? =some p→mJ N k ops i j o p=true:=by
  intro i o ho;have h1:=List.all_eq_true.1 hall i (List.mem_range.2 (Array.getElem?_eq_some_iff.1 ho).1);rw [ho] at h1;simp only [Bool.and_eq_true] at h1;obtain ⟨⟨⟨⟨p1,p2⟩,p3⟩,p4⟩,p5⟩:=h1;refine ⟨⟨p1,p2,p3,p4⟩,fun j p hp=>?_⟩;have h2:=List.all_eq_true.1 p5 j (List.mem_range.2 (Array.getElem?_eq_some_iff.1 hp).1);rw [hp] at h2;exact h2
 refine ⟨hle,fun i o ho e he hb=>?_,fun i o ho=>CP (get i o ho).1.2.1,fun i o ho g b hg=>?_,fun i o ho hi=>?_,fun i j o p ho hp hne hk d hd he=>?_,fun i j o p ho hp t ht hr hj=>?_,fun i j o p ho hp t ht hr hj hi=>?_,fun i j o p ho hp hi hj=>?_⟩
 ·have:=Array.all_eq_true_iff_forall_mem.1 (get i o ho).1.1 e he;rw [hb] at this;simpa using this
 ·have:=(get i o ho).1.2.2.1;rw [hg] at this;simp only [Bool.and_eq_true,decide_eq_true_eq] at this;refine ⟨this.1.1.1,this.1.1.2,this.1.2,fun q hq=>?_⟩;have h2:=this.2;rw [hq] at h2;simpa using h2
 ·have:=(get i o ho).1.2.2.2;simp only [Bool.or_eq_true,decide_eq_true_eq] at this;rcases this with h | h
  ·omega
  ·exact Option.isSome_iff_exists.1 h
 ·have:=(get i o ho).2 j p hp;unfold mJ at this;simp only [Bool.and_eq_true,Bool.or_eq_true,decide_eq_true_eq] at this;obtain ⟨⟨h1,_⟩,_⟩:=this;rcases h1 with ((h1 | h1) | h1) | h1
  ·exact hne h1
  ·omega
  ·rw [hd] at h1;cases h1
  ·exact h1 (by rw [hd,he])
 ·have:=(get i o ho).2 j p hp;unfold mJ at this;simp only [Bool.and_eq_true] at this;obtain ⟨⟨_,h1⟩,_⟩:=this;rw [ht] at h1;simp only [hr,Bool.not_true,Bool.false_or,hj,if_true,Bool.and_eq_true,decide_eq_true_eq,Bool.not_eq_true',Bool.and_eq_false_iff,decide_eq_false_iff_not] at h1;refine ⟨h1.1.1,h1.1.2,fun hi=>?_⟩;rcases h1.2 with h | h
  ·exact absurd hi h
  ·exact h
 ·have:=(get i o ho).2 j p hp;unfold mJ at this;simp only [Bool.and_eq_true] at this;obtain ⟨⟨_,h1⟩,_⟩:=this;rw [ht] at h1;simp only [hr,Bool.not_true,Bool.false_or,show ¬ j<k by omega,if_false,hi,if_true] at h1;exact h1
 ·have:=(get i o ho).2 j p hp;unfold mJ at this;simp only [Bool.and_eq_true,Bool.or_eq_true,decide_eq_true_eq] at this;obtain ⟨_,h1⟩:=this;rcases h1 with ((h1 | h1) | h1) | h1
  ·omega
  ·omega
  ·exact .inl h1
  ·exact .inr h1
variable {o:Oper}
theorem uz {ops:Array Oper} {listed:Array Bool} {i j:Nat}  (ho:ops[i]? =some o) (hall: ∀ e,e∈o.after→Region.binds .any e=true→listed.getD e.on false=true) (h:direct ops j i=true):listed.getD j false=true:=by
 unfold direct at h;rw [ho] at h;obtain ⟨e,he,h2⟩:=Array.any_eq_true'.1 h;simp only [Bool.and_eq_true,decide_eq_true_eq] at h2;have:=hall e he h2.1;rw [h2.2] at this;exact this
theorem abr {t:Tmp} (h: .tmp t∈o.op.operands):rdT o t=true:=by
 unfold rdT;exact Array.any_eq_true'.2 ⟨_,h,by simp⟩
def kG (P:Program) (p₀:AV→Hp→Prop) (all:List Oper) (h:Hp) (o:Oper) (e:Ev) (v:AV):Prop:=match o.guard with
 | none=>if aC o=true then (∃ T z d,o.op= .alloc T∧o.dst=some d∧aA P T=some z)∧v= .none else cOp P p₀ o (dO e) h (fun a=>a=v)
 | some (j,want)=> ∃ b,gB want (guardE all e j)=some b∧if b=true then cOp P p₀ o (dO e) h (fun a=>a=v) else v= .v undef
theorem Sz {P:Program}  {E:Operand→AV} {h:Hp} {K:AV→Prop} (hh:rOp P o E h K): ∃ v,rOp P o E h (fun a=>a=v)∧K v:=by
 unfold rOp at hh ⊢;split at hh
 ·exact ⟨_,rfl,hh⟩
 ·exact ⟨_,rfl,hh⟩
 ·obtain ⟨t,h1,h2⟩:=hh;exact ⟨_,⟨t,h1,rfl⟩,h2⟩
 ·obtain ⟨l,h1,h2⟩:=hh;exact ⟨_,⟨l,h1,rfl⟩,h2⟩
 ·obtain ⟨h0,l,h1,h2⟩:=hh;exact ⟨_,⟨h0,l,h1,rfl⟩,h2⟩
 ·obtain ⟨h1,h2⟩:=hh;exact ⟨_,⟨h1,rfl⟩,h2⟩
 ·obtain ⟨l,h1,h2⟩:=hh;exact ⟨_,⟨l,h1,rfl⟩,h2⟩
 ·obtain ⟨l,h1,h2⟩:=hh;exact ⟨_,⟨l,h1,rfl⟩,h2⟩
 ·obtain ⟨l,h1,h2⟩:=hh;exact ⟨_,⟨l,h1,rfl⟩,h2⟩
 ·obtain ⟨h0,l,h1,h2⟩:=hh;exact ⟨_,⟨h0,l,h1,rfl⟩,h2⟩
 ·obtain ⟨l,h1,h2⟩:=hh;exact ⟨_,⟨l,h1,rfl⟩,h2⟩
 ·obtain ⟨l,h1,h2⟩:=hh;exact ⟨_,⟨l,h1,rfl⟩,h2⟩
 ·obtain ⟨z,l,h0,h1,h2⟩:=hh;exact ⟨_,⟨z,l,h0,h1,rfl⟩,h2⟩
 ·obtain ⟨z,l,h0,h1,h2⟩:=hh;exact ⟨_,⟨z,l,h0,h1,rfl⟩,h2⟩
 ·obtain ⟨l,h1,h2⟩:=hh;exact ⟨_,⟨l,h1,rfl⟩,h2⟩
 ·exact ⟨_,rfl,hh⟩
 ·unfold uw at hh ⊢;split at hh
  ·obtain ⟨h0,n,h1,h2,h3⟩:=hh;exact ⟨_,⟨h0,n,h1,h2,rfl⟩,h3⟩
  ·obtain ⟨l,h1,h2⟩:=hh;exact ⟨_,⟨l,h1,rfl⟩,h2⟩
  ·obtain ⟨l,h1,h2⟩:=hh;exact ⟨_,⟨l,h1,rfl⟩,h2⟩
  ·exact hh.elim
 ·obtain ⟨h1,h2⟩:=hh;exact ⟨_,⟨h1,rfl⟩,h2⟩
 ·obtain ⟨l,h1,h2⟩:=hh;exact ⟨_,⟨l,h1,rfl⟩,h2⟩
 ·exact hh.elim
theorem FM {P:Program} {p₀:AV→Hp→Prop}  {E:Operand→AV} {h:Hp} {K:AV→Prop} (hh:cOp P p₀ o E h K): ∃ v,cOp P p₀ o E h (fun a=>a=v)∧K v:=by
 unfold cOp at hh ⊢;split at hh
 ·obtain ⟨te,s,L,h1,h2⟩:=hh;exact ⟨_,⟨te,s,L,h1,rfl⟩,h2⟩
 ·next c ho=>
  split at hh
  ·obtain ⟨fid,fst,cap,h1,res,h2,h6⟩:=hh;exact ⟨_,⟨fid,fst,cap,h1,res,h2,rfl⟩,h6⟩
  ·obtain ⟨h0,h1,r,h2,h3⟩:=hh;exact ⟨_,⟨h0,h1,r,h2,rfl⟩,h3⟩
  ·unfold uw at hh ⊢;split at hh
   ·obtain ⟨h0,n,h1,h2,h3⟩:=hh;exact ⟨_,⟨h0,n,h1,h2,rfl⟩,h3⟩
   ·obtain ⟨l,h1,h2⟩:=hh;exact ⟨_,⟨l,h1,rfl⟩,h2⟩
   ·obtain ⟨l,h1,h2⟩:=hh;exact ⟨_,⟨l,h1,rfl⟩,h2⟩
   ·exact hh.elim
 ·obtain ⟨r,h1,h2⟩:=hh;exact ⟨_,⟨r,h1,rfl⟩,h2⟩
 ·exact Sz hh
def dQ (P:Program) (p₀:AV→Hp→Prop) (all:List Oper) (h:Hp):List Oper→Ev→List (Tmp × Value)→(Ev→List (Tmp × Value)→Prop)→Prop
 | [],e,al,K=>K e al
 | o::r,e,al,K=>match o.guard with
  | none=>if aC o=true then ∃ T z d,o.op= .alloc T∧o.dst=some d∧aA P T=some z∧dQ P p₀ all h r (bY e o.dst .none) (al++[(d,z)]) K
   else cOp P p₀ o (dO e) h fun a=>dQ P p₀ all h r (bY e o.dst a) al K
  | some (j,want)=> ∃ b,gB want (guardE all e j)=some b∧if b=true then cOp P p₀ o (dO e) h (fun a=>dQ P p₀ all h r (bY e o.dst a) al K) else dQ P p₀ all h r (bY e o.dst (.v undef)) al K
def gZ (e:Ev):List Oper→List AV→Ev
 | o::r,v::vs=>gZ (bY e o.dst v) r vs
 | _,_=>e
def aK (P:Program):List Oper→List (Tmp × Value)
 | []=>[]
 | o::r=>match aC o,o.op,o.dst with
  | true, .alloc T,some d=>match aA P T with
   | some z=>(d,z)::aK P r
   | none=>aK P r
  | _,_,_=>aK P r
theorem kM {P:Program} {p₀:AV→Hp→Prop} {all:List Oper} {h:Hp} {K:Ev→List (Tmp × Value)→Prop}: ∀ (hd:List Oper) (e:Ev) (al:List (Tmp × Value)),dQ P p₀ all h hd e al K→
  ∃ vals:List AV,vals.length=hd.length∧(∀ (i:Nat) (o:Oper) (v:AV),hd[i]? =some o→vals[i]? =some v→kG P p₀ all h o (gZ e (hd.take i) (vals.take i)) v)∧K (gZ e hd vals) (al++aK P hd)
 | [],e,al,hw=>⟨[],rfl,fun i o v h1=>by simp at h1,by rw [aK,List.append_nil];exact hw⟩
 | o::r,e,al,hw=>by
  have cons: ∀ (v:AV) (al':List (Tmp × Value)),dQ P p₀ all h r (bY e o.dst v) al' K→kG P p₀ all h o e v→al'++aK P r=al++aK P (o::r)→
    ∃ vals:List AV,vals.length=(o::r).length∧(∀ (i:Nat) (o':Oper) (v:AV),(o::r)[i]? =some o'→vals[i]? =some v→kG P p₀ all h o' (gZ e ((o::r).take i) (vals.take i)) v)∧K (gZ e (o::r) vals) (al++aK P (o::r)):=by
   intro v al' hw hf ha;obtain ⟨vals,h1,h2,h3⟩:=kM r (bY e o.dst v) al' hw;refine ⟨v::vals,by simp [h1],fun i o' u q1 q2=>?_,by rw [←ha];exact h3⟩;cases i with
   | zero=>simp at q1 q2;subst q1 q2;exact hf
   | succ i=>exact h2 i o' u (by simpa using q1) (by simpa using q2)
  simp only [dQ] at hw;split at hw
  ·next hg=>
   split at hw
   ·next hal=>
    obtain ⟨T,z,d,ho,hd,hz,hw⟩:=hw;refine cons .none _ hw ?_ ?_
    ·unfold kG;rw [hg];simp only [hal,if_true];exact ⟨⟨T,z,d,ho,hd,hz⟩,trivial⟩
    ·simp [aK,hal,ho,hd,hz]
   ·next hal=>
    obtain ⟨v,hv,hw⟩:=FM hw;refine cons v al hw ?_ ?_
    ·unfold kG;rw [hg];simp only [hal];exact hv
    ·have:aC o=false:=by simpa using hal
     simp [aK,this]
  ·next j want hg=>
   obtain ⟨b,hb,hw⟩:=hw;have hal:aC o=false:=by unfold aC;rw [hg];rfl
   split at hw
   ·next e1=>
    obtain ⟨v,hv,hw⟩:=FM hw;refine cons v al hw ?_ (by simp [aK,hal]);unfold kG;rw [hg];exact ⟨b,hb,by rw [if_pos e1];exact hv⟩
   ·next e1=>
    refine cons (.v undef) al hw ?_ (by simp [aK,hal]);unfold kG;rw [hg];exact ⟨b,hb,by rw [if_neg e1]⟩
end
section
open Go.RowKit
theorem qN {e:Ev} {d:Option Tmp} {v:AV} {t:Nat} (h:d≠some t):aO (bY e d v) t=aO e t:=by
 cases d with
 | none=>rfl
 | some k=>
  show (if k=t then v else aO e t)=_;rw [if_neg (fun e=>h (by rw [e]))]
theorem JX {e:Ev} {v:AV} {t:Nat}:aO (bY e (some t) v) t=v:=by
 show (if t=t then v else aO e t)=_;rw [if_pos rfl]
theorem Aw: ∀ (l:List Oper) (vs:List AV) (e:Ev) (t:Nat),(∀ o,o∈l→o.dst≠some t)→aO (gZ e l vs) t=aO e t
 | [],vs,e,t,_=>by cases vs<;>rfl
 | o::r,[],e,t,_=>rfl
 | o::r,v::vs,e,t,h=>by
  show aO (gZ (bY e o.dst v) r vs) t=_;rw [Aw r vs _ t (fun o' ho=>h o' (List.mem_cons_of_mem _ ho)),qN (h o (List.mem_cons_self ..))]
theorem qO: ∀ (l1:List Oper) (v1:List AV) (e:Ev) (l2:List Oper) (v2:List AV),v1.length=l1.length→gZ e (l1++l2) (v1++v2)=gZ (gZ e l1 v1) l2 v2
 | [],[],e,l2,v2,_=>rfl
 | [],v::vs,_,_,_,h=>by simp at h
 | o::r,[],_,_,_,h=>by simp at h
 | o::r,v::vs,e,l2,v2,h=>qO r vs _ l2 v2 (by simpa using h)
structure Dat (P:Program) (p₀:AV→Hp→Prop) (N k:Nat) (ops:Array Oper) (X0:Cx) (e0:Ev) (vals:List AV) (sp:Nat→Bool):Prop where
 ok:Wu N k ops
 hX:Ok X0
 hF:JQ X0
 len:vals.length=k
 spa: ∀ (i:Nat) (o:Oper),sp i=true→ops[i]? =some o→aC o=false∧isPure o=false
 facts: ∀ (i:Nat) (o:Oper) (v:AV),i<k→sp i=false→ops[i]? =some o→vals[i]? =some v→kG P p₀ ops.toList X0.h o (gZ e0 ((ops.toList.take k).take i) (vals.take i)) v
section
variable {P:Program} {p₀:AV→Hp→Prop} {N k:Nat} {ops:Array Oper} {X0:Cx} {e0:Ev} {vals:List AV} {sp:Nat→Bool}
def eHd (ops:Array Oper) (k:Nat) (e0:Ev) (vals:List AV):Ev:=gZ e0 (ops.toList.take k) vals
variable {i:Nat}{o:Oper}
theorem Dat.afL (D:Dat P p₀ N k ops X0 e0 vals sp)   (ho:ops[i]? =some o) (h:aC o=true∨isPure o=true):sp i=false:=by
 cases q:sp i with
 | false=>rfl
 | true=>
  obtain ⟨h1,h2⟩:=D.spa i o q ho;rcases h with h | h
  ·rw [h] at h1;cases h1
  ·rw [h] at h2;cases h2
theorem Dat.JY (D:Dat P p₀ N k ops X0 e0 vals sp)  (hi:i≤k) {t:Nat} (h: ∀ (j:Nat) (p:Oper),ops[j]? =some p→i≤j→j<k→p.dst≠some t):aO (gZ e0 ((ops.toList.take k).take i) (vals.take i)) t=aO (eHd ops k e0 vals) t:=by
 have hk:=D.ok.le;have h1:eHd ops k e0 vals=gZ (gZ e0 ((ops.toList.take k).take i) (vals.take i)) ((ops.toList.take k).drop i) (vals.drop i):=by
  rw [←qO _ _ _ _ _ (by simp [D.len];omega),List.take_append_drop,List.take_append_drop];rfl
 rw [h1];refine (Aw _ _ _ _ fun o ho=>?_).symm;obtain ⟨j,hj,e⟩:=List.mem_iff_getElem.1 ho;have hj':i+j<k:=by simp at hj;omega
 refine h (i+j) o ?_ (by omega) hj';have:((ops.toList.take k).drop i)[j]? =some o:=by rw [List.getElem?_eq_getElem hj,e]
 rw [List.getElem?_drop,List.getElem?_take,if_pos hj'] at this;simpa using this
variable {d:Nat}{v:AV}
theorem Dat.val (D:Dat P p₀ N k ops X0 e0 vals sp)  (hi:i<k)  (ho:ops[i]? =some o)  (hd:o.dst=some d)  (hv:vals[i]? =some v):aO (eHd ops k e0 vals) d=v:=by
 rw [←D.JY (i:=i+1) (by omega) (fun j p hp h1 h2 he=>D.ok.diff j i p o hp ho (by omega) (.inl h2) d hd he)];have h1:(ops.toList.take k).take (i+1)=(ops.toList.take k).take i++[o]:=by
  rw [List.take_add_one];congr 1;rw [List.getElem?_take,if_pos hi];simp [ho]
 have h2:vals.take (i+1)=vals.take i++[v]:=by rw [List.take_add_one,hv];rfl
 rw [h1,h2,qO _ _ _ _ _ (by have:=D.ok.le;simp [D.len];omega)];show aO (bY _ o.dst v) d=v;rw [hd,JX]
def abt (ops:Array Oper) (k:Nat) (L:Nat→Bool) (d:Nat):Prop:= ∃ (i:Nat) (o:Oper),i<k∧L i=false∧ops[i]? =some o∧o.dst=some d
def abu (ops:Array Oper) (k:Nat) (d:Nat):Prop:= ∃ (i:Nat) (o:Oper),i<k∧ops[i]? =some o∧aC o=true∧o.dst=some d
structure Made (X0 X:Cx) (z:Value) (b:Nat):Prop where
 new:X0.w.heap.size≤b
 cells: ∃ T,X.w.heap[b]? =some (.cells z.cells T (0,0))
 bad: ∀ o,X.bad b o
def zOf (P:Program) (o:Oper):Option Value:=match o.op with
 | .alloc T=>aA P T
 | _=>none
structure um (P:Program) (N k:Nat) (ops:Array Oper) (X0:Cx) (e0:Ev) (vals:List AV) (L:Nat→Bool) (a:Act) (X:Cx) (bs:Nat→Nat):Prop where
 step:Step X0 X
 ok:Ok X
 frz:JQ X
 h:X.h=X0.h
 m: ∀ i,X.live i→(X.m i).1=(X0.m i).1
 abv: ∀ j,k≤j→L j=false
 defers:a.defers=X.ds
 size:a.tmps.size=N
 e1:aN X N (jm ops.toList e0) a
 rep: ∀ d,abt ops k L d∨abu ops k d∨Rep X (aO (eHd ops k e0 vals) d) (a.tmps.getD d undef)
 al: ∀ (i:Nat) (o:Oper) (d:Nat) (z:Value),i<k→L i=true→ops[i]? =some o→aC o=true→o.dst=some d→zOf P o=some z→a.tmps.getD d undef= .pointer (some ⟨bs i,0,Option.none⟩)∧Made X0 X z (bs i)
 apart: ∀ (i j:Nat) (o p:Oper),i<k→j<k→i≠j→L i=true→L j=true→ops[i]? =some o→ops[j]? =some p→aC o=true→aC p=true→bs i≠bs j
structure Aa (P:Program) (N k:Nat) (ops:Array Oper) (X0:Cx) (e0:Ev) (vals:List AV) (p₀:AV→Hp→Prop) (K:Ev→Hp→Prop) (L:Nat→Bool) (a:Act) (X:Cx) (e:Ev) (r:Nat):Prop where
 step:Step X0 X
 ok:Ok X
 le:k+r≤ops.size
 tl: ∀ j,k≤j→(L j=true↔j<k+r)
 pure: ∀ (j:Nat) (o:Oper),j<k→ops[j]? =some o→L j=false→isPure o=true
 defers:a.defers=X.ds
 size:a.tmps.size=N
 e1:aN X N (jm ops.toList e0) a
 rep: ∀ d,abt ops k L d∨Rep X (aO e d) (a.tmps.getD d undef)
 keep: ∀ (i:Nat) (o:Oper),i<k→ops[i]? =some o→L i=false→ ∀ d,(o.dst=some d∨rdT o d=true)→aO e d=aO (eHd ops k e0 vals) d
 todo:iy P p₀ ops.toList (ops.toList.drop (k+r)) e X.h K
variable {a:Act}
theorem jC {dst:Option Tmp} {v:Value}  (h:dst≠some d):(a.put dst v).tmps.getD d undef=a.tmps.getD d undef:=by
 cases dst with
 | none=>rfl
 | some t=>
  have:t≠d:=fun e=>h (by rw [e])
  simp [Act.put,Array.getD_eq_getD_getElem?,Array.getElem?_setIfInBounds_ne this]
theorem mM {v:Value}  (h:d<a.tmps.size):(a.put (some d) v).tmps.getD d undef=v:=by
 simp [Act.put,Array.getD,h]
theorem jT (a:Act) (dst:Option Tmp) (v:Value):(a.put dst v).tmps.size=a.tmps.size:=by cases dst<;>simp [Act.put]
theorem iU (a:Act) (dst:Option Tmp) (v:Value):(a.put dst v).defers=a.defers:=by cases dst<;>rfl
variable {X:Cx}
theorem wz {e:Ev}  (h: ∀ t,rdT o t=true→Rep X (aO e t) (a.tmps.getD t undef)): ∀ x,x∈o.op.operands→Rep X (dO e x) (a.eval x):=by
 intro x hx;cases x with
 | tmp t=>exact h t (abr hx)
 | const x=>exact .v x
 | global g=>exact .v _
 | func f=>exact .fn (v1:=[]) (v2:=[]) rfl rfl (fun i a x h1=>by simp at h1) (fun i a x h1=>by simp at h1)
variable {u:Value}
theorem Quiet.ctx {w':World}   (hX:Ok X) (hq:Quiet X w' v u): ∃ Y,Y.w=w'∧Step X Y∧Ok Y∧Y.h=X.h∧Rep Y v u:=by
 obtain ⟨hbel,hr⟩:=hq;obtain ⟨S,hZ⟩:=FH hX hbel;exact ⟨_,rfl,S,hZ,rfl,hr⟩
variable {L:Nat→Bool}{bs:Nat→Nat}
theorem um.reads (D:Dat P p₀ N k ops X0 e0 vals sp)     (I:um P N k ops X0 e0 vals L a X bs)     {Y:Cx} (hi:i<k) (ho:ops[i]? =some o) (hL:L i=false) (hv:vals[i]? =some v) (hal:aC o=false)
  (S:Step X Y) (hZ:Ok Y) (hYh:Y.h=X.h) (hr:Rep Y v u):um P N k ops X0 e0 vals (eG L i) (a.put o.dst u) Y bs:=by
 have hlive: ∀ i,Y.live i→X.live i:=fun i ⟨o',h⟩=>⟨o',by rw [←hYh];exact h⟩
 have hm1: ∀ i,Y.live i→(Y.m i).1=(X.m i).1:=by
  intro i ⟨o',h⟩;have hi':i<X.h.length:=by rw [←hYh];exact (List.getElem?_eq_some_iff.1 h).1
  have hx:=h;rw [hYh] at hx;cases o' with
  | blk c=>exact (S.l7 i c hi' h).elim fun _ q=>q.2
  | map es=>exact (S.omap i es hi' h).elim fun _ q=>q.2
  | arr T s c fz=>
   obtain ⟨c',f',k1,_,k3⟩:=S.oh i T s c fz hi' h;rw [hx] at k1;injection k1 with k1;injection k1 with k1;injection k1 with e1 e2 e3 e4;subst e3;rw [k3 rfl]
 have hnm: ∀ b,X0.w.heap.size≤b→ ¬ X.mine b:=by
  intro b hb ⟨i,⟨o',h⟩,he⟩;rw [I.m i ⟨o',h⟩] at he;rw [I.h] at h;exact absurd (D.hX.lt ⟨i,⟨o',h⟩,he⟩) (by omega)
 have hEd:aN Y N (jm ops.toList e0) (a.put o.dst u):=(I.e1.mono S).any (mG (List.mem_of_getElem? (i:=i) (by rw [Array.getElem?_toList];exact ho)) e0);obtain ⟨d,hd⟩:=D.ok.hdst i o ho hi;have hdN:=D.ok.dst i o ho d hd;refine ⟨I.step.trans D.hX S,hZ,hZ.CV,hYh.trans I.h,fun i hi=>?_,fun j hj=>?_,by rw [iU,S.dse];exact I.defers,by rw [jT];exact I.size,hEd,fun t=>?_,fun j p d' z hj hl hp hpa hpd hz=>?_,fun j l p q hj hl hne h1 h2 hp hq hpa hqa=>?_⟩
 ·rw [hm1 i hi];exact I.m i (hlive i hi)
 ·simp only [eG,show j≠i by omega,if_false];exact I.abv j hj
 ·by_cases e:d=t
  ·subst e;right;right;rw [hd,mM (by rw [I.size];exact hdN),D.val hi ho hd hv];exact hr
  ·rw [jC (by rw [hd];exact fun h=>e (Option.some.inj h))];rcases I.rep t with ⟨j,p,h1,h2,h3,h4⟩ | h | h
   ·left;refine ⟨j,p,h1,?_,h3,h4⟩;have:j≠i:=fun q=>by subst q;rw [ho] at h3;injection h3 with h3;subst h3;rw [hd] at h4;exact e (Option.some.inj h4)
    simp only [eG,this,if_false];exact h2
   ·exact .inr (.inl h)
   ·exact .inr (.inr (h.mono S))
 ·have hji:j≠i:=fun q=>by subst q;rw [ho] at hp;injection hp with hp;subst hp;rw [hal] at hpa;cases hpa
  simp only [eG,hji,if_false] at hl;obtain ⟨h1,h2⟩:=I.al j p d' z hj hl hp hpa hpd hz;refine ⟨?_,h2.new,?_,fun q=>(S.nC _ q (h2.bad q)).elim id fun h=>absurd h (hnm _ h2.new)⟩
  ·rw [jC]
   ·exact h1
   ·rw [hd];intro q;injection q with q;subst q;exact D.ok.diff i j o p ho hp (by omega) (.inl hi) d hpd hd
  ·obtain ⟨T,hc⟩:=h2.cells;refine ⟨T,?_⟩;rw [S.block _ (Array.getElem?_eq_some_iff.1 hc).1 (hnm _ h2.new)];exact hc
 ·have q1:j≠i:=fun q'=>by subst q';rw [ho] at hp;injection hp with hp;subst hp;rw [hal] at hpa;cases hpa
  have q2:l≠i:=fun q'=>by subst q';rw [ho] at hq;injection hq with hq;subst hq;rw [hal] at hqa;cases hqa
  simp only [eG,q1,q2,if_false] at h1 h2;exact I.apart j l p q hj hl hne h1 h2 hp hq hpa hqa
theorem um.quiet (D:Dat P p₀ N k ops X0 e0 vals sp)     (I:um P N k ops X0 e0 vals L a X bs)     {w':World} (hi:i<k) (ho:ops[i]? =some o) (hL:L i=false) (hv:vals[i]? =some v) (hal:aC o=false)
  (hq:Quiet X w' v u): ∃ Y,Y.w=w'∧um P N k ops X0 e0 vals (eG L i) (a.put o.dst u) Y bs:=by
 obtain ⟨Y,y1,y2,y3,y4,y5⟩:=hq.ctx I.ok;exact ⟨Y,y1,I.reads D hi ho hL hv hal y2 y3 y4 y5⟩
theorem um.alloc (D:Dat P p₀ N k ops X0 e0 vals sp)     (I:um P N k ops X0 e0 vals L a X bs)   {T:TypeId} {z:Value} (hi:i<k) (ho:ops[i]? =some o) (hL:L i=false) (hop:o.op= .alloc T) (hal:aC o=true) (hz:aA P T=some z):
  ∃ Y bs',Y.w=X.w.alloc (.cells z.cells T)∧um P N k ops X0 e0 vals (eG L i) (a.put o.dst (.pointer (some ⟨X.w.heap.size,0,none⟩))) Y bs':=by
 have hcell: ∀ b q x,cellAt X.w b q=some x→cellAt (X.w.alloc (.cells z.cells T)) b q=some x:=fun b q x hx=>by
  have hlt:=eH hx;unfold cellAt at hx ⊢;rw [World.cell?_alloc_lt (h:=hlt)];exact hx
 have hY: ∃ Y:Cx,Y.w=X.w.alloc (.cells z.cells T)∧Y.m=X.m∧Y.h=X.h∧(Y.bad=fun b o=>X.bad b o∨b=X.w.heap.size)∧Y.ds=X.ds:=⟨⟨_,X.m,X.h,_,X.ds⟩,rfl,rfl,rfl,rfl,rfl⟩
 obtain ⟨Y,y1,y2,y3,y4,y5⟩:=hY;have S:Step X Y:=by
  refine ⟨by rw [y1];rfl,by rw [y1];rfl,by rw [y1];rfl,by rw [y1];simp,fun b hb _=>by rw [y1];exact Below.heap_alloc _ _ _ hb,fun b q x hx hb=>⟨by rw [y1];exact hcell b q x hx,?_⟩,by rw [y3];exact Nat.le_refl _,fun i T' s c f' _ hi=>⟨c,f',by rw [←y3];exact hi,Nat.le_refl _,fun _=>by rw [y2]⟩,fun i c _ hi=>⟨c,by rw [←y3];exact hi,by rw [y2]⟩,fun b hb=>?_,fun b q hb=>?_,fun i c _ hi=>⟨c,by rw [←y3];exact hi,by rw [y2]⟩,y5⟩
  ·rw [y4];rintro (h | h)
   ·exact hb h
   ·exact absurd (eH hx) (by omega)
  ·obtain ⟨j,⟨o',h1⟩,h2⟩:=hb;exact .inr ⟨j,⟨o',by rw [←y3];exact h1⟩,by rw [←y2];exact h2⟩
  ·rw [y4];exact .inl (.inl hb)
 have amx:Ok Y:=by
  refine ⟨fun id cells hi=>?_,fun id T' s cells fz hi=>?_,fun i j b hi hj=>?_,fun b q hb=>?_,fun id es hi=>?_⟩
  ·rw [y3] at hi;obtain ⟨b,cvs,T',h1,h2,h3,h4,h5⟩:=I.ok.blk id cells hi;exact ⟨b,cvs,T',by rw [y2];exact h1,by rw [y1,Below.heap_alloc _ _ _ (I.ok.lt ⟨id,⟨_,hi⟩,h1⟩)];exact h2,h3,fun o=>by rw [y4];exact .inl (h4 o),fun j a x q1 q2=>(h5 j a x q1 q2).mono S⟩
  ·rw [y3] at hi;obtain ⟨g1,g2,n,g3,g4⟩:=I.ok.arr id T' s cells fz hi;refine ⟨g1,g2,n,g3,?_⟩;rcases g4 with g4 | ⟨b,cvs,g4⟩
   ·exact .inl (by rw [y2];exact g4)
   ·exact .inr ⟨b,cvs,⟨by rw [y2];exact g4.at_,by rw [y1,Below.heap_alloc _ _ _ (I.ok.lt ⟨id,⟨_,hi⟩,g4.at_⟩)];exact g4.blk,by rw [y2];exact g4.cap,by rw [y2];exact g4.iQ,by rw [y2];exact g4.sz,fun o ho=>by rw [y4];exact .inl (g4.bad o ho),fun j a x q1 q2=>(g4.rep j a x q1 q2).mono S,fun o ho hk=>by
     rw [y4] at hk;exact hk.elim (g4.good o ho) (fun e=>absurd (I.ok.lt ⟨id,⟨_,hi⟩,g4.at_⟩) (by omega))⟩⟩
  ·have live: ∀ i,Y.live i→X.live i:=fun i ⟨o',h⟩=>⟨o',by rw [←y3];exact h⟩
   rw [y2];exact I.ok.inj i j b (live i hi) (live j hj)
  ·rw [y4] at hb;rw [y1];rcases hb with hb | hb
   ·exact Nat.lt_of_lt_of_le (I.ok.dX b q hb) (by simp)
   ·subst hb;simp
  ·rw [y3] at hi;obtain ⟨b,ents,clock,h1,h2,h3⟩:=I.ok.map id es hi;exact ⟨b,ents,clock,by rw [y2];exact h1,by rw [y1,Below.heap_alloc _ _ _ (I.ok.lt ⟨id,⟨_,hi⟩,h1⟩)];exact h2,h3.mono S⟩
 have hEd:aN Y N (jm ops.toList e0) (a.put o.dst (.pointer (some ⟨X.w.heap.size,0,none⟩))):=(I.e1.mono S).any (mG (List.mem_of_getElem? (i:=i) (by rw [Array.getElem?_toList];exact ho)) e0);have hFY:JQ Y:=fun id U s cells b h1 h2 o' ho' hbad=>by
  rw [y3] at h1;rw [y2] at h2;rw [y4] at hbad;rcases hbad with hbad | hbad
  ·exact I.frz id U s cells b h1 h2 o' ho' hbad
  ·exact absurd (I.ok.lt ⟨id,⟨_,h1⟩,h2⟩) (by omega)
 obtain ⟨d,hd⟩:=D.ok.hdst i o ho hi;have hdN:=D.ok.dst i o ho d hd;refine ⟨Y,fun j=>if j=i then X.w.heap.size else bs j,y1,⟨I.step.trans D.hX S,amx,hFY,by rw [y3];exact I.h,fun i ⟨o',hl⟩=>by rw [y2];exact I.m i ⟨o',by rw [←y3];exact hl⟩,fun j hj=>?_,by rw [iU,y5];exact I.defers,by rw [jT];exact I.size,hEd,fun t=>?_,fun j p d' z' hj hl hp hpa hpd hz'=>?_,fun j l p q hj hl hne h1 h2 hp hq hpa hqa=>?_⟩⟩
 ·simp only [eG,show j≠i by omega,if_false];exact I.abv j hj
 ·by_cases e:d=t
  ·subst e;exact .inr (.inl ⟨i,o,hi,ho,hal,hd⟩)
  ·rw [jC (by rw [hd];exact fun h=>e (Option.some.inj h))];rcases I.rep t with ⟨j,p,h1,h2,h3,h4⟩ | h | h
   ·left;refine ⟨j,p,h1,?_,h3,h4⟩;have:j≠i:=fun q=>by subst q;rw [ho] at h3;injection h3 with h3;subst h3;rw [hd] at h4;exact e (Option.some.inj h4)
    simp only [eG,this,if_false];exact h2
   ·exact .inr (.inl h)
   ·exact .inr (.inr (h.mono S))
 ·by_cases e:j=i
  ·subst e;rw [ho] at hp;injection hp with hp;subst hp;rw [hd] at hpd;injection hpd with hpd;subst hpd;have hzz:z'=z:=by unfold zOf at hz';rw [hop] at hz';simp only at hz';rw [hz] at hz';injection hz' with h;exact h.symm
   subst hzz;rw [hd,mM (by rw [I.size];exact hdN)];simp only [if_true];exact ⟨trivial,⟨I.step.size,⟨T,by rw [y1];exact heap_alloc_new _ _⟩,fun q=>by rw [y4];exact .inr rfl⟩⟩
  ·simp only [eG,e,if_false] at hl ⊢;obtain ⟨h1,h2⟩:=I.al j p d' z' hj hl hp hpa hpd hz';refine ⟨?_,h2.new,?_,fun q=>by rw [y4];exact .inl (h2.bad q)⟩
   ·rw [jC]
    ·exact h1
    ·rw [hd];intro q;injection q with q;subst q;exact D.ok.diff i j o p ho hp e (.inl hi) d hpd hd
   ·obtain ⟨U,hc⟩:=h2.cells;exact ⟨U,by rw [y1,Below.heap_alloc _ _ _ (Array.getElem?_eq_some_iff.1 hc).1];exact hc⟩
 ·have old: ∀ j p,j<k→j≠i→eG L i j=true→ops[j]? =some p→aC p=true→bs j<X.w.heap.size:=by
   intro j p hj e hl hp hpa;simp only [eG,e,if_false] at hl;obtain ⟨d',hd'⟩:=D.ok.hdst j p hp hj;have hzz: ∃ z',zOf P p=some z':=by
    have hf:=D.facts j p _ hj (D.afL hp (.inl hpa)) hp (List.getElem?_eq_getElem (by rw [D.len];exact hj));unfold kG at hf;have hg:p.guard=none:=by
     unfold aC at hpa;simp only [Bool.and_eq_true,Option.isNone_iff_eq_none] at hpa;exact hpa.1
    rw [hg] at hf;simp only [hpa,if_true] at hf;obtain ⟨⟨T',z',d2,q1,q2,q3⟩,_⟩:=hf;exact ⟨z',by unfold zOf;rw [q1];exact q3⟩
   obtain ⟨z',hz'⟩:=hzz;obtain ⟨_,h2⟩:=I.al j p d' z' hj hl hp hpa hd' hz';obtain ⟨U,hc⟩:=h2.cells;exact (Array.getElem?_eq_some_iff.1 hc).1
  by_cases e1:j=i
  ·by_cases e2:l=i
   ·exact absurd (e1.trans e2.symm) hne
   ·simp only [e1,e2,if_true,if_false];have:=old l q hl e2 h2 hq hqa;omega
  ·by_cases e2:l=i
   ·simp only [e1,e2,if_true,if_false];have:=old j p hj e1 h1 hp hpa;omega
   ·simp only [e1,e2,if_false];simp only [eG,e1,e2,if_false] at h1 h2;exact I.apart j l p q hj hl hne h1 h2 hp hq hpa hqa
end
end
section
open Go.RowKit
theorem Rep.ext {X Y:Cx} {hs:Hp} (hw:Y.w=X.w) (hb:Y.bad=X.bad) (hh:Y.h=X.h++hs) (hm: ∀ i,i<X.h.length→Y.m i=X.m i) (hk: ∀ c,Y.mine c→X.mine c∨ ∃ cvs T f,X.w.heap[c]? =some (.cells cvs T f)) {a:AV} {x:Value} (h:Rep X a x):Rep Y a x:=by
 have hat: ∀ {i:Nat},i<X.h.length→Y.h[i]? =X.h[i]? :=fun hi=>by rw [hh,List.getElem?_append_left hi]
 have hlen:X.h.length≤Y.h.length:=by rw [hh];simp
 induction h with
 | v x=>exact .v x
 | none x=>exact .none x
 | t hl hc hn hcap hp hr ih=>
  refine .t hl hc hn hcap (fun h0=>?_) ih;obtain ⟨b,off,e,k⟩:=hp h0;exact ⟨b,off,e,fun i x hx=>by rw [hw,hb];exact k i x hx⟩
 | g hc hr ih=>exact .g hc ih
 | tup hc hr ih=>exact .tup hc ih
 | tp hc hp hr ih=>exact .tp hc (fun i x hx=>by rw [hw,hb];exact hp i x hx) ih
 | fn h1 h2 r1 r2 ih1 ih2=>exact .fn h1 h2 ih1 ih2
 | ifc h ih=>exact .ifc ih
 | e0 b=>exact .e0 b
 | own hid h=>exact .own (Nat.lt_of_lt_of_le hid hlen) fun T size cells fz hk=>by rw [hat hid] at hk;rw [hm _ hid];exact h _ _ _ _ hk
 | ptr hid h=>exact .ptr (Nat.lt_of_lt_of_le hid hlen) fun cells hk=>by rw [hat hid] at hk;rw [hm _ hid];exact h _ hk
 | ap hid h=>exact .ap (Nat.lt_of_lt_of_le hid hlen) fun T size cells fz hk=>by rw [hat hid] at hk;rw [hm _ hid];exact h _ _ _ _ hk
 | mp hid h=>exact .mp (Nat.lt_of_lt_of_le hid hlen) fun es hk=>by rw [hat hid] at hk;rw [hm _ hid];exact h _ hk
 | tm hb hn hl hk' hr ih=>
  refine .tm (by rw [hw];exact hb) (fun hy=>?_) hl hk' ih;rcases hk _ hy with h | ⟨cvs,T,f,h⟩
  ·exact hn h
  ·rw [hb] at h;cases h
def nR (p:Tmp × Value):Option Ob:=some (.blk (fZ p.2))
theorem afM {X0 X:Cx} {p:Tmp × Value} {b:Nat} (hX:Ok X) (S:Step X0 X) (hM:Made X0 X p.2 b) (hno: ¬ X.mine b):
  ∃ Y,Y.w=X.w∧Y.bad=X.bad∧Y.h=X.h++[nR p]∧Y.ds=X.ds∧(∀ i,i<X.h.length→Y.m i=X.m i)∧Step X0 Y∧Ok Y∧Rep Y (.ptr X.h.length 0) (.pointer (some ⟨b,0,none⟩))∧(∀ c,Y.mine c→c=b∨X.mine c):=by
 obtain ⟨T,hcell⟩:=hM.cells;have hY: ∃ Y:Cx,Y.w=X.w∧Y.bad=X.bad∧Y.h=X.h++[nR p]∧(Y.m=fun i=>if i=X.h.length then (some b,0) else X.m i)∧Y.ds=X.ds:=⟨⟨X.w,fun i=>if i=X.h.length then (some b,0) else X.m i,X.h++[nR p],X.bad,X.ds⟩,rfl,rfl,rfl,rfl,rfl⟩
 obtain ⟨Y,y1,y2,y3,y4,y5⟩:=hY;have hm: ∀ i,i<X.h.length→Y.m i=X.m i:=fun i hi=>by rw [y4];exact if_neg (by omega)
 have hmn:Y.m X.h.length=(some b,0):=by rw [y4];exact if_pos rfl
 have hat: ∀ {i:Nat},i<X.h.length→Y.h[i]? =X.h[i]? :=fun hi=>by rw [y3,List.getElem?_append_left hi]
 have hnew:Y.h[X.h.length]? =some (nR p):=by rw [y3];simp
 have hcase: ∀ i o,Y.h[i]? =some (some o)→(i=X.h.length∧o= .blk (fZ p.2))∨(i<X.h.length∧X.h[i]? =some (some o)):=by
  intro i o ho;have hl:=(List.getElem?_eq_some_iff.1 ho).1;rw [y3] at hl;simp only [List.length_append,List.length_singleton] at hl;by_cases e:i=X.h.length
  ·subst e;rw [hnew] at ho;injection ho with ho;injection ho with ho;exact .inl ⟨rfl,ho.symm⟩
  ·exact .inr ⟨by omega,by rw [←hat (by omega)];exact ho⟩
 have Jr: ∀ c,Y.mine c→c=b∨X.mine c:=by
  intro c ⟨i,⟨o,ho⟩,he⟩;rcases hcase i o ho with ⟨rfl,_⟩ | ⟨hi,h1⟩
  ·rw [hmn] at he;injection he with he;exact .inl he.symm
  ·rw [hm i hi] at he;exact .inr ⟨i,⟨o,h1⟩,he⟩
 have tr: ∀ {a:AV} {x:Value},Rep X a x→Rep Y a x:=fun h=>h.ext y1 y2 y3 hm fun c hc=>(Jr c hc).symm.imp id fun e=>⟨_,_,_,e▸hcell⟩
 have S2:Step X0 Y:=by
  refine ⟨by rw [y1];exact S.os,by rw [y1];exact S.tape,by rw [y1];exact S.output,by rw [y1];exact S.size,fun c hc hk=>by rw [y1];exact S.block c hc hk,fun c o x hx hk=>by rw [y1,y2];exact S.keep c o x hx hk,by rw [y3];have:=S.len;simp;omega,fun i U s c f hi hk=>?_,fun i c hi hk=>?_,fun c hc=>?_,fun c o hk=>by rw [y2];exact S.nC c o hk,fun i c hi hk=>?_,y5.trans S.dse⟩
  ·have hi':=Nat.lt_of_lt_of_le hi S.len;rw [hat hi'] at hk;rw [hm i hi'];exact S.oh i U s c f hi hk
  ·have hi':=Nat.lt_of_lt_of_le hi S.len;rw [hat hi'] at hk;rw [hm i hi'];exact S.l7 i c hi hk
  ·rcases Jr c hc with rfl | h
   ·exact .inl hM.new
   ·exact S.own c h
  ·have hi':=Nat.lt_of_lt_of_le hi S.len;rw [hat hi'] at hk;rw [hm i hi'];exact S.omap i c hi hk
 refine ⟨Y,y1,y2,y3,y5,hm,S2,⟨fun id cells ho=>?_,fun id U s cells fz ho=>?_,fun i j c hi hj ei ej=>?_,fun c o hk=>by rw [y2] at hk;rw [y1];exact hX.dX c o hk,fun id es ho=>?_⟩,?_,Jr⟩
 ·rcases hcase id _ ho with ⟨rfl,e⟩ | ⟨hi,h1⟩
  ·injection e with e;subst e;exact ⟨b,p.2.cells,T,by rw [hmn],by rw [y1];exact hcell,by simp [fZ],fun o=>by rw [y2];exact hM.bad o,uN p.2⟩
  ·obtain ⟨c,cvs,T',q1,q2,q3,q4,q5⟩:=hX.blk id cells h1;exact ⟨c,cvs,T',by rw [hm id hi];exact q1,by rw [y1];exact q2,q3,fun o=>by rw [y2];exact q4 o,fun i a x r1 r2=>tr (q5 i a x r1 r2)⟩
 ·rcases hcase id _ ho with ⟨_,e⟩ | ⟨hi,h1⟩
  ·cases e
  ·obtain ⟨g1,g2,n,g3,g4⟩:=hX.arr id U s cells fz h1;refine ⟨g1,g2,n,g3,?_⟩;rcases g4 with g4 | ⟨c,cvs,g4⟩
   ·exact .inl (by rw [hm id hi];exact g4)
   ·exact .inr ⟨c,cvs,⟨by rw [hm id hi];exact g4.at_,by rw [y1];exact g4.blk,by rw [hm id hi];exact g4.cap,by rw [hm id hi];exact g4.iQ,by rw [hm id hi];exact g4.sz,fun o ho=>by rw [y2];exact g4.bad o ho,fun i a x r1 r2=>tr (g4.rep i a x r1 r2),fun o ho=>by rw [y2];exact g4.good o ho⟩⟩
 ·obtain ⟨oi,ho⟩:=hi;obtain ⟨oj,hp⟩:=hj;rcases hcase i oi ho with ⟨rfl,_⟩ | ⟨hi,h1⟩
  ·rw [hmn] at ei;injection ei with ei;subst ei;rcases hcase j oj hp with ⟨rfl,_⟩ | ⟨hj,h2⟩
   ·rfl
   ·rw [hm j hj] at ej;exact absurd ⟨j,⟨_,h2⟩,ej⟩ hno
  ·rcases hcase j oj hp with ⟨rfl,_⟩ | ⟨hj,h2⟩
   ·rw [hmn] at ej;injection ej with ej;subst ej;rw [hm i hi] at ei;exact absurd ⟨i,⟨_,h1⟩,ei⟩ hno
   ·rw [hm i hi] at ei;rw [hm j hj] at ej;exact hX.inj i j c ⟨_,h1⟩ ⟨_,h2⟩ ei ej
 ·rcases hcase id _ ho with ⟨_,e⟩ | ⟨hi,h1⟩
  ·cases e
  ·obtain ⟨c,ents,clock,q1,q2,q3,q4⟩:=hX.map id es h1;exact ⟨c,ents,clock,by rw [hm id hi];exact q1,by rw [y1];exact q2,q3,fun i p e r1 r2=>⟨(q4 i p e r1 r2).1,tr (q4 i p e r1 r2).2⟩⟩
 ·refine .ptr (by rw [y3];simp) fun cells hk=>⟨b,by rw [hmn],rfl⟩
theorem adopt {X0:Cx}: ∀ (al:List (Tmp × Value)) (bl:List Nat) (X:Cx),Ok X→Step X0 X→al.length=bl.length→(∀ (r:Nat) (p:Tmp × Value) (b:Nat),al[r]? =some p→bl[r]? =some b→Made X0 X p.2 b∧ ¬ X.mine b)→bl.Nodup→
  ∃ Y,Y.w=X.w∧Step X0 Y∧Ok Y∧Y.h=X.h++al.map nR∧Y.ds=X.ds∧(∀ (a:AV) (v:Value),Rep X a v→Rep Y a v)∧ ∀ (r b:Nat),bl[r]? =some b→Rep Y (.ptr (X.h.length+r) 0) (.pointer (some ⟨b,0,none⟩))
 | [],[],X,hX,S,_,_,_=>⟨X,rfl,S,hX,by simp,rfl,fun _ _ h=>h,fun r b h=>by simp at h⟩
 | [],b::bl,_,_,_,h,_,_=>by simp at h
 | p::al,[],_,_,_,h,_,_=>by simp at h
 | p::al,b::bl,X,hX,S,hl,hM,hnd=>by
  obtain ⟨m1,m2⟩:=hM 0 p b rfl rfl;obtain ⟨Y,y1,y2,y3,y9,y4,y5,y6,y7,y8⟩:=afM hX S m1 m2;have hnd':=List.nodup_cons.1 hnd;obtain ⟨Z,z1,z2,z3,z4,z7,z5,z6⟩:=adopt al bl Y y6 y5 (by simpa using hl) (fun r p' b' h1 h2=>by
   obtain ⟨q1,q2⟩:=hM (r+1) p' b' (by simpa using h1) (by simpa using h2);refine ⟨⟨q1.new,?_,fun o=>by rw [y2];exact q1.bad o⟩,fun hk=>?_⟩
   ·obtain ⟨T,hT⟩:=q1.cells;exact ⟨T,by rw [y1];exact hT⟩
   ·rcases y8 b' hk with rfl | h
    ·exact hnd'.1 (List.mem_of_getElem? h2)
    ·exact q2 h) hnd'.2
  refine ⟨Z,z1.trans y1,z2,z3,by rw [z4,y3];simp,z7.trans y9,fun a v h=>z5 a v (h.ext y1 y2 y3 y4 fun c hc=>(y8 c hc).symm.imp id fun e=>by
   obtain ⟨T,hT⟩:=m1.cells;exact ⟨_,_,_,e▸hT⟩),fun r c hr=>?_⟩
  cases r with
  | zero=>simp at hr;subst hr;exact z5 _ _ y7
  | succ r=>
   have:=z6 r c (by simpa using hr);rw [y3] at this;simp only [List.length_append,List.length_singleton] at this;rw [show X.h.length+(r+1)=X.h.length+1+r by omega];exact this
def bf (P:Program):List Oper→Nat→List Nat
 | [],_=>[]
 | o::r,s=>match aC o,o.op,o.dst with
  | true, .alloc T,some _=>match aA P T with
   | some _=>s::bf P r (s+1)
   | none=>bf P r (s+1)
  | _,_,_=>bf P r (s+1)
theorem CW {P:Program}: ∀ (l:List Oper) (s:Nat),(aK P l).length=(bf P l s).length∧(∀ (r:Nat) (p:Tmp × Value) (i:Nat),(aK P l)[r]? =some p→(bf P l s)[r]? =some i→s≤i∧ ∃ o,l[i - s]? =some o∧aC o=true∧o.dst=some p.1∧zOf P o=some p.2)∧
  (bf P l s).Pairwise (· < ·)∧(∀ i,i∈bf P l s→s≤i)∧(∀ (i:Nat) (o:Oper) (d:Nat),l[i]? =some o→aC o=true→o.dst=some d→(zOf P o).isSome=true→s+i∈bf P l s)
 | [],s=>⟨rfl,fun r p i h=>by simp [aK] at h,List.Pairwise.nil,fun i h=>by simp [bf] at h,fun i o d h=>by simp at h⟩
 | o::l,s=>by
  obtain ⟨h1,h2,h3,h4,h5⟩:=CW (P:=P) l (s+1);have skip:aK P (o::l)=aK P l→bf P (o::l) s=bf P l (s+1)→(∀ d,aC o=true→o.dst=some d→(zOf P o).isSome=true→False)→
    (aK P (o::l)).length=(bf P (o::l) s).length∧(∀ (r:Nat) (p:Tmp × Value) (i:Nat),(aK P (o::l))[r]? =some p→(bf P (o::l) s)[r]? =some i→s≤i∧ ∃ o',(o::l)[i - s]? =some o'∧aC o'=true∧o'.dst=some p.1∧zOf P o'=some p.2)∧
    (bf P (o::l) s).Pairwise (· < ·)∧(∀ i,i∈bf P (o::l) s→s≤i)∧(∀ (i:Nat) (o':Oper) (d:Nat),(o::l)[i]? =some o'→aC o'=true→o'.dst=some d→(zOf P o').isSome=true→s+i∈bf P (o::l) s):=by
   intro e1 e2 hno;rw [e1,e2];refine ⟨h1,fun r p i q1 q2=>?_,h3,fun i hi=>by have:=h4 i hi;omega,fun i o' d q1 q2 q3 q4=>?_⟩
   ·obtain ⟨q3,o',q4,q5⟩:=h2 r p i q1 q2;refine ⟨by omega,o',?_,q5⟩;rw [show i - s=(i - (s+1))+1 by omega];simpa using q4
   ·cases i with
    | zero=>simp at q1;subst q1;exact (hno d q2 q3 q4).elim
    | succ i=>rw [show s+(i+1)=s+1+i by omega];exact h5 i o' d (by simpa using q1) q2 q3 q4
  by_cases hal:aC o=true
  ·have hop: ∃ T,o.op= .alloc T:=by
    unfold aC at hal;simp only [Bool.and_eq_true] at hal;cases ho:o.op<;>rw [ho] at hal<;>simp at hal;exact ⟨_,rfl⟩
   obtain ⟨T,hop⟩:=hop;cases hd:o.dst with
   | none=>
    exact skip (by simp [aK,hal,hop,hd]) (by simp [bf,hal,hop,hd]) (fun d _ h=>by rw [hd] at h;cases h)
   | some d=>
    cases hz:aA P T with
    | none=>
     exact skip (by simp [aK,hal,hop,hd,hz]) (by simp [bf,hal,hop,hd,hz]) (fun d _ _ h=>by unfold zOf at h;rw [hop] at h;simp [hz] at h)
    | some z=>
     have e1:aK P (o::l)=(d,z)::aK P l:=by simp [aK,hal,hop,hd,hz]
     have e2:bf P (o::l) s=s::bf P l (s+1):=by simp [bf,hal,hop,hd,hz]
     rw [e1,e2];refine ⟨by simp [h1],fun r p i q1 q2=>?_,List.Pairwise.cons (fun i hi=>by have:=h4 i hi;omega) h3,fun i hi=>?_,fun i o' d' q1 q2 q3 q4=>?_⟩
     ·cases r with
      | zero=>
       simp at q1 q2;subst q1 q2;exact ⟨Nat.le_refl _,o,by simp,hal,hd,by unfold zOf;rw [hop];exact hz⟩
      | succ r=>
       obtain ⟨q3,o',q4,q5⟩:=h2 r p i (by simpa using q1) (by simpa using q2);refine ⟨by omega,o',?_,q5⟩;rw [show i - s=(i - (s+1))+1 by omega];simpa using q4
     ·rcases List.mem_cons.1 hi with rfl | hi
      ·exact Nat.le_refl _
      ·have:=h4 i hi;omega
     ·cases i with
      | zero=>simp
      | succ i=>
       rw [show s+(i+1)=s+1+i by omega];exact List.mem_cons_of_mem _ (h5 i o' d' (by simpa using q1) q2 q3 q4)
  ·have hal:aC o=false:=by simpa using hal
   exact skip (by simp [aK,hal]) (by simp [bf,hal]) (fun d h=>by rw [hal] at h;cases h)
def eu:Nat→List (Tmp × Value)→Ev→Ev
 | _,[],e=>e
 | n,(d,_)::r,e=>(d, .ptr n 0)::eu (n+1) r e
theorem qP: ∀ (al:List (Tmp × Value)) (n:Nat) (e:Ev) (t:Nat),(∀ p,p∈al→p.1≠t)→aO (eu n al e) t=aO e t
 | [],_,_,_,_=>rfl
 | (d,z)::r,n,e,t,h=>by
  show (if d=t then _ else aO (eu (n+1) r e) t)=_;rw [if_neg (h (d,z) (List.mem_cons_self ..)),qP r (n+1) e t (fun p hp=>h p (List.mem_cons_of_mem _ hp))]
theorem zH: ∀ (al:List (Tmp × Value)) (n:Nat) (e:Ev) (t:Nat),(∃ p,p∈al∧p.1=t)→ ∃ (r:Nat) (z:Value),al[r]? =some (t,z)∧aO (eu n al e) t= .ptr (n+r) 0
 | [],_,_,_,h=>by obtain ⟨p,hp,_⟩:=h;simp at hp
 | (d,z)::r,n,e,t,h=>by
  by_cases hd:d=t
  ·subst hd;exact ⟨0,z,rfl,by show (if d=d then _ else _)=_;rw [if_pos rfl,Nat.add_zero]⟩
  ·obtain ⟨p,hp,he⟩:=h;have hp':p∈r:=by
    rcases List.mem_cons.1 hp with rfl | hp
    ·exact absurd he hd
    ·exact hp
   obtain ⟨q,z',h1,h2⟩:=zH r (n+1) e t ⟨p,hp',he⟩;refine ⟨q+1,z',by simpa using h1,?_⟩;show (if d=t then _ else aO (eu (n+1) r e) t)=_;rw [if_neg hd,h2,show n+1+q=n+(q+1) by omega]
section
variable {P:Program} {p₀:AV→Hp→Prop} {N k:Nat} {ops:Array Oper} {X0:Cx} {e0:Ev} {vals:List AV} {sp:Nat→Bool}
theorem mO {o:Oper} (h:isPure o=true):aC o=false:=by
 unfold isPure at h;simp only [Bool.and_eq_true] at h;unfold aC;cases ho:o.op<;>rw [ho] at h<;>simp at h ⊢
def Alive (ops:Array Oper) (k:Nat) (e:Ev):Prop:= ∀ (i:Nat) (o:Oper) (d:Nat),i<k→ops[i]? =some o→isPure o=false→aC o=false→o.dst=some d→VW (aO e d)=false
theorem um.turn (D:Dat P p₀ N k ops X0 e0 vals sp) {L:Nat→Bool} {a:Act} {X:Cx} {bs:Nat→Nat} (I:um P N k ops X0 e0 vals L a X bs) {K:Ev→Hp→Prop} (hpure: ∀ (j:Nat) (o:Oper),j<k→ops[j]? =some o→L j=false→isPure o=true)
  (htodo:Alive ops k (eHd ops k e0 vals)→iy P p₀ ops.toList (ops.toList.drop k) (eu X0.h.length (aK P (ops.toList.take k)) (eHd ops k e0 vals)) (X0.h++(aK P (ops.toList.take k)).map nR) K):
  ∃ Y e,Y.w=X.w∧Aa P N k ops X0 e0 vals p₀ K L a Y e 0:=by
 have afN:Alive ops k (eHd ops k e0 vals):=fun i o d hi ho hp ha hd=>by
  cases hz:VW (aO (eHd ops k e0 vals) d) with
  | false=>rfl
  | true=>
   rcases I.rep d with ⟨i',o',h1,h2,h3,h4⟩ | ⟨i',o',h1,h2,h3,h4⟩ | h
   ·by_cases e:i'=i
    ·subst e;rw [ho] at h3;injection h3 with h3;subst h3;have:=hpure i' o h1 ho h2;rw [hp] at this;cases this
    ·exact absurd h4 (D.ok.diff i' i o' o h3 ho (fun q=>e q.symm) (.inl h1) d hd)
   ·by_cases e:i'=i
    ·subst e;rw [ho] at h2;injection h2 with h2;subst h2;rw [ha] at h3;cases h3
    ·exact absurd h4 (D.ok.diff i' i o' o h2 ho (fun q=>e q.symm) (.inl h1) d hd)
   ·exact (afh hz h).elim
 obtain ⟨p1,p2,p3,p4,p5⟩:=CW (P:=P) (ops.toList.take k) 0;have hget: ∀ {i:Nat} {o:Oper},(ops.toList.take k)[i]? =some o→i<k∧ops[i]? =some o:=by
  intro i o h;rw [List.getElem?_take] at h;split at h
  ·next hi=>exact ⟨hi,by simpa using h⟩
  ·cases h
 have hzs: ∀ (i:Nat) (o:Oper),i<k→ops[i]? =some o→aC o=true→(zOf P o).isSome=true:=by
  intro i o hi ho hal;have hf:=D.facts i o _ hi (D.afL ho (.inl hal)) ho (List.getElem?_eq_getElem (by rw [D.len];exact hi));unfold kG at hf;have hg:o.guard=none:=by
   unfold aC at hal;simp only [Bool.and_eq_true,Option.isNone_iff_eq_none] at hal;exact hal.1
  rw [hg] at hf;simp only [hal,if_true] at hf;obtain ⟨⟨T',z',d2,q1,q2,q3⟩,_⟩:=hf;unfold zOf;rw [q1];simp [q3]
 have Az: ∀ (i:Nat) (o:Oper),i<k→ops[i]? =some o→aC o=true→L i=true:=by
  intro i o hi ho hal;cases hl:L i with
  | true=>rfl
  | false=>have:=mO (hpure i o hi ho hl);rw [hal] at this;cases this
 have hbl: ∀ (r:Nat) (p:Tmp × Value) (b:Nat),(aK P (ops.toList.take k))[r]? =some p→((bf P (ops.toList.take k) 0).map bs)[r]? =some b→ ∃ i o,i<k∧ops[i]? =some o∧aC o=true∧o.dst=some p.1∧zOf P o=some p.2∧b=bs i:=by
  intro r p b h1 h2;rw [List.getElem?_map] at h2;cases hi:(bf P (ops.toList.take k) 0)[r]? with
  | none=>rw [hi] at h2;cases h2
  | some i=>
   rw [hi] at h2;injection h2 with h2;obtain ⟨_,o,q1,q2,q3,q4⟩:=p2 r p i h1 hi;rw [Nat.sub_zero] at q1;obtain ⟨q5,q6⟩:=hget q1;exact ⟨i,o,q5,q6,q2,q3,q4,h2.symm⟩
 have hnm: ∀ b,X0.w.heap.size≤b→ ¬ X.mine b:=by
  intro b hb ⟨i,⟨o,ho⟩,he⟩;rw [I.m i ⟨o,ho⟩] at he;rw [I.h] at ho;exact absurd (D.hX.lt ⟨i,⟨o,ho⟩,he⟩) (by omega)
 obtain ⟨Y,y1,y2,y3,y4,y7,y5,y6⟩:=adopt (X0:=X0) (aK P (ops.toList.take k)) ((bf P (ops.toList.take k) 0).map bs) X I.ok I.step (by simp [p1]) (fun r p b h1 h2=>by
   obtain ⟨i,o,q1,q2,q3,q4,q5,rfl⟩:=hbl r p b h1 h2;have:=(I.al i o p.1 p.2 q1 (Az i o q1 q2 q3) q2 q3 q4 q5).2;exact ⟨this,hnm _ this.new⟩)
  (by
   have hmem: ∀ i,i∈bf P (ops.toList.take k) 0→ ∃ o,i<k∧ops[i]? =some o∧aC o=true:=fun i hi=>by
    obtain ⟨r,hr,er⟩:=List.mem_iff_getElem.1 hi;have hr':r<(aK P (ops.toList.take k)).length:=by rw [p1];exact hr
    obtain ⟨_,o,q1,q2,q3,q4⟩:=p2 r _ i (List.getElem?_eq_getElem hr') (by rw [List.getElem?_eq_getElem hr,er]);rw [Nat.sub_zero] at q1;obtain ⟨q5,q6⟩:=hget q1;exact ⟨o,q5,q6,q2⟩
   unfold List.Nodup;rw [List.pairwise_map];refine p3.imp_of_mem fun {i j} hi hj hlt=>?_
   obtain ⟨o,q1,q2,q3⟩:=hmem i hi;obtain ⟨p,r1,r2,r3⟩:=hmem j hj;exact I.apart i j o p q1 r1 (by omega) (Az i o q1 q2 q3) (Az j p r1 r2 r3) q2 r2 q3 r3)
 refine ⟨Y,eu X0.h.length (aK P (ops.toList.take k)) (eHd ops k e0 vals),y1,⟨y2,y3,by have:=D.ok.le;omega,fun j hj=>?_,hpure,I.defers.trans y7.symm,I.size,⟨I.defers.trans y7.symm,I.size,fun d=>y5 _ _ (I.e1.rep d)⟩,fun d=>?_,fun i o hi ho hl d hd=>?_,by rw [Nat.add_zero,y4,I.h];exact htodo afN⟩⟩
 ·rw [I.abv j hj,Nat.add_zero];constructor
  ·intro h;cases h
  ·intro h;omega
 ·by_cases hin: ∃ p,p∈aK P (ops.toList.take k)∧p.1=d
  ·obtain ⟨r,z,h1,h2⟩:=zH _ X0.h.length (eHd ops k e0 vals) d hin;right;rw [h2];have hr:r<(bf P (ops.toList.take k) 0).length:=by rw [←p1];exact (List.getElem?_eq_some_iff.1 h1).1
   obtain ⟨i,hi⟩: ∃ i,(bf P (ops.toList.take k) 0)[r]? =some i:=⟨_,List.getElem?_eq_getElem hr⟩
   have hb:((bf P (ops.toList.take k) 0).map bs)[r]? =some (bs i):=by rw [List.getElem?_map,hi];rfl
   obtain ⟨_,o,q1,q2,q3,q4⟩:=p2 r _ i h1 hi;rw [Nat.sub_zero] at q1;obtain ⟨q5,q6⟩:=hget q1;rw [(I.al i o d z q5 (Az i o q5 q6 q2) q6 q2 q3 q4).1, ←I.h];exact y6 r _ hb
  ·rw [qP _ _ _ _ fun p hp he=>hin ⟨p,hp,he⟩];rcases I.rep d with h | h | h
   ·exact .inl h
   ·obtain ⟨i,o,h1,h2,h3,h4⟩:=h;have hm:=p5 i o d (by rw [List.getElem?_take,if_pos h1];simpa using h2) h3 h4 (hzs i o h1 h2 h3);rw [Nat.zero_add] at hm;obtain ⟨r,hr,er⟩:=List.mem_iff_getElem.1 hm;have hr':r<(aK P (ops.toList.take k)).length:=by rw [p1];exact hr
    obtain ⟨_,o',q1,q2,q3,q4⟩:=p2 r _ i (List.getElem?_eq_getElem hr') (by rw [List.getElem?_eq_getElem hr,er]);rw [Nat.sub_zero] at q1;obtain ⟨_,q6⟩:=hget q1;rw [h2] at q6;injection q6 with q6;subst q6;rw [h4] at q3;injection q3 with q3;exact absurd ⟨_,List.getElem_mem hr',q3.symm⟩ hin
   ·exact .inr (y5 _ _ h)
 ·refine qP _ _ _ _ fun p hp he=>?_
  obtain ⟨r,hr,er⟩:=List.mem_iff_getElem.1 hp;have hr':r<(bf P (ops.toList.take k) 0).length:=by rw [←p1];exact hr
  obtain ⟨_,o',q1,q2,q3,q4⟩:=p2 r p _ (by rw [List.getElem?_eq_getElem hr,er]) (List.getElem?_eq_getElem hr');rw [Nat.sub_zero] at q1;obtain ⟨q5,q6⟩:=hget q1;subst he;have hne:(bf P (ops.toList.take k) 0)[r]≠i:=fun e=>by
   rw [e,ho] at q6;injection q6 with q6;subst q6;have:=mO (hpure i o hi ho hl);rw [q2] at this;cases this
  rcases hd with hd | hd
  ·exact D.ok.diff i _ o o' ho q6 hne (.inl hi) _ q3 hd
  ·have:=(D.ok.rdh i _ o o' ho q6 _ q3 hd q5).2.2 hi;rw [q2] at this;cases this
end
end
section
open Go.RowKit
section
variable {P:Program} {p₀:AV→Hp→Prop} {N k:Nat} {ops:Array Oper} {X0:Cx} {e0:Ev} {vals:List AV} {sp:Nat→Bool}
theorem JZ {op:BinOp} (hp:afi op=true) {T:TypeId} {h h':Hp} {a b:AV}:qJ P h op T a b=qJ P h' op T a b:=by
 have he: ∀ b,pW op b=none:=fun b=>by cases op<;>first | rfl | (cases hp;done)
 have hb: ∀ o:Option Bool,o.bind (pW op)=none:=fun o=>by cases o<;>simp [he]
 unfold qJ;split<;>simp only [hb]
variable {o:Oper}
theorem Wx {E:Operand→AV} {h h':Hp} {K:AV→Prop} (hp:isPure o=true) (hc:cOp P p₀ o E h K):rOp P o E h' K:=by
 unfold isPure at hp;simp only [Bool.and_eq_true] at hp;unfold cOp at hc;unfold rOp at hc ⊢;cases ho:o.op<;>rw [ho] at hp hc<;>simp at hp<;>first | exact hc | (obtain ⟨r,h1,h2⟩:=hc;exact ⟨r,Fp _ h1,h2⟩) | (obtain ⟨r,h1,h2⟩:=hc;exact ⟨r,(JZ hp.2).symm.trans h1,h2⟩) | (obtain ⟨r,h1,h2⟩:=hc;exact ⟨r,(JZ hp).symm.trans h1,h2⟩)
variable {L:Nat→Bool}{X:Cx}{a:Act}
theorem Aa.late (D:Dat P p₀ N k ops X0 e0 vals sp) {K:Ev→Hp→Prop}    {e:Ev} {r:Nat} (I:Aa P N k ops X0 e0 vals p₀ K L a X e r) {i:Nat}  (hi:i<k) (ho:ops[i]? =some o) (hL:L i=false) (hrd: ∀ j,direct ops j i=true→L j=true):
  ∃ u,(execOp a.eval o).run P X.w= .ok (.value u) X.w∧Aa P N k ops X0 e0 vals p₀ K (eG L i) (a.put o.dst u) X e r:=by
 have hp:=I.pure i o hi ho hL;have hal:=mO hp;obtain ⟨v,hv⟩: ∃ v,vals[i]? =some v:=⟨_,List.getElem?_eq_getElem (by rw [D.len];exact hi)⟩
 have hf:=D.facts i o v hi (D.afL ho (.inr hp)) ho hv;have hg:o.guard=none:=by
  unfold isPure at hp;simp only [Bool.and_eq_true,Option.isNone_iff_eq_none] at hp;exact hp.1
 unfold kG at hf;rw [hg] at hf;simp only [hal,Bool.false_eq_true,if_false] at hf;have hr:=Wx (h':=X.h) hp hf;obtain ⟨d,hd⟩:=D.ok.hdst i o ho hi;have hdN:=D.ok.dst i o ho d hd;have hE: ∀ x,x∈o.op.operands→Rep X (dO (gZ e0 ((ops.toList.take k).take i) (vals.take i)) x) (a.eval x):=by
  refine wz fun t ht=>?_
  rw [D.JY (by omega) (fun j p hpj h1 h2 he=>by
   have:=(D.ok.rdh i j o p ho hpj t he ht h2).1;omega)]
  rw [←I.keep i o hi ho hL t (.inr ht)];rcases I.rep t with ⟨j,p,h1,h2,h3,h4⟩ | h
  ·have:=hrd j (D.ok.rdh i j o p ho h3 t h4 ht h1).2.1;rw [h2] at this;cases this
  ·exact h
 obtain ⟨u,av,q1,q2,q3⟩:=Hu I.ok hE hr;subst q3;refine ⟨u,q1,⟨I.step,I.ok,I.le,fun j hj=>?_,fun j p hj hp hl=>?_,by rw [iU];exact I.defers,by rw [jT];exact I.size,I.e1.any (mG (List.mem_of_getElem? (i:=i) (by rw [Array.getElem?_toList];exact ho)) e0),fun t=>?_,fun j p hj hp hl t ht=>?_,I.todo⟩⟩
 ·simp only [eG,show j≠i by omega,if_false];exact I.tl j hj
 ·have:j≠i:=fun q=>by subst q;simp [eG] at hl
  simp only [eG,this,if_false] at hl;exact I.pure j p hj hp hl
 ·by_cases e1:d=t
  ·subst e1;right;rw [hd,mM (by rw [I.size];exact hdN),I.keep i o hi ho hL d (.inl hd),D.val hi ho hd hv];exact q2
  ·rw [jC (by rw [hd];exact fun h=>e1 (Option.some.inj h))];rcases I.rep t with ⟨j,p,h1,h2,h3,h4⟩ | h
   ·left;refine ⟨j,p,h1,?_,h3,h4⟩;have:j≠i:=fun q=>by subst q;rw [ho] at h3;injection h3 with h3;subst h3;rw [hd] at h4;exact e1 (Option.some.inj h4)
    simp only [eG,this,if_false];exact h2
   ·exact .inr h
 ·have:j≠i:=fun q=>by subst q;simp [eG] at hl
  simp only [eG,this,if_false] at hl;exact I.keep j p hj hp hl t ht
theorem Aa.next (D:Dat P p₀ N k ops X0 e0 vals sp) {K:Ev→Hp→Prop} {L:Nat→Bool} {a:Act} {X:Cx} {e:Ev} {r:Nat} {Q:Exit→Act→World→Prop} (I:Aa P N k ops X0 e0 vals p₀ K L a X e r) {o:Oper} (ho:ops[k+r]? =some o) (hrd: ∀ j,direct ops j (k+r)=true→L j=true)
  {nx:Act→World→Prop} (hP: ∀ (Y:Cx) (av:AV) (v:Value) (a':Act),Step X0 Y→Ok Y→aN Y N (jm ops.toList e0) a'→Rep Y av v→p₀ av Y.h→Q (.panic [{v,recovered:=false}]) a' Y.w)
  (hn: ∀ (Y:Cx) (e':Ev) (u:Value),Aa P N k ops X0 e0 vals p₀ K (eG L (k+r)) (a.put o.dst u) Y e' (r+1)→nx (a.put o.dst u) Y.w):
  if Region.wanted o (yielded ops a.tmps)=true then o.wp P a X.w nx Q else nx (a.put o.dst undef) X.w:=by
 have hlt:k+r<ops.size:=(Array.getElem?_eq_some_iff.1 ho).1;have hsplit:ops.toList.drop (k+r)=o::ops.toList.drop (k+(r+1)):=by
  rw [List.drop_eq_getElem_cons (by simpa using hlt)];congr 1;have:=(Array.getElem?_eq_some_iff.1 ho).2;simpa using this
 have htodo:=I.todo;rw [hsplit] at htodo;have hLi:L (k+r)=false:=by
  cases h:L (k+r) with
  | false=>rfl
  | true=>have:=(I.tl (k+r) (by omega)).1 h;omega
 have hrep: ∀ t,rdT o t=true→Rep X (aO e t) (a.tmps.getD t undef):=fun t ht=>by
  rcases I.rep t with ⟨j,p,h1,h2,h3,h4⟩ | h
  ·have:=hrd j (D.ok.rdh (k+r) j o p ho h3 t h4 ht h1).2.1;rw [h2] at this;cases this
  ·exact h
 have mk: ∀ (Y:Cx) (av:AV) (u:Value),Step X Y→Ok Y→Rep Y av u→iy P p₀ ops.toList (ops.toList.drop (k+(r+1))) (bY e o.dst av) Y.h K→Aa P N k ops X0 e0 vals p₀ K (eG L (k+r)) (a.put o.dst u) Y (bY e o.dst av) (r+1):=by
  intro Y av u S hY hav hw;refine ⟨I.step.trans D.hX S,hY,by omega,fun j hj=>?_,fun j p hj hp hl=>?_,by rw [iU,S.dse];exact I.defers,by rw [jT];exact I.size,(I.e1.mono S).any (mG (List.mem_of_getElem? (i:=k+r) (by rw [Array.getElem?_toList];exact ho)) e0),fun t=>?_,fun j p hj hp hl t ht=>?_,hw⟩
  ·by_cases e1:j=k+r
   ·subst e1;simp [eG]
   ·simp only [eG,e1,if_false];rw [I.tl j hj];omega
  ·simp only [eG,show j≠k+r by omega,if_false] at hl;exact I.pure j p hj hp hl
  ·by_cases e1:o.dst=some t
   ·right;rw [e1,mM (by rw [I.size];exact D.ok.dst _ o ho t e1),JX];exact hav
   ·rw [jC e1,qN e1];rcases I.rep t with ⟨j,p,h1,h2,h3,h4⟩ | h
    ·left;exact ⟨j,p,h1,by simp only [eG,show j≠k+r by omega,if_false];exact h2,h3,h4⟩
    ·exact .inr (h.mono S)
  ·simp only [eG,show j≠k+r by omega,if_false] at hl;rw [qN,I.keep j p hj hp hl t ht];intro e1;rcases ht with ht | ht
   ·exact D.ok.diff (k+r) j o p ho hp (by omega) (.inr hj) t ht e1
   ·have:=hrd j (D.ok.rdt j (k+r) p o hp ho t e1 ht (by omega) hj);rw [hl] at this;cases this
 have go: ∀ {M:AV→Hp→Prop},(∀ av h',M av h'→iy P p₀ ops.toList (ops.toList.drop (k+(r+1))) (bY e o.dst av) h' K)→wOp P p₀ o (dO e) X.h M→o.wp P a X.w nx Q:=by
  intro M hM hw;have hG:=CJ I.ok (wz hrep) hw;unfold Oper.wp;rcases hG with ⟨v,Y,av,h1,h2,h3,h4,h5⟩ | ⟨Y,h1,h2,h3,h4⟩ | ⟨f,args,h1,h3⟩ | ⟨v,av,h1,h2,h3⟩
  ·rw [h1,Oper.upon_value];exact hn Y _ v (mk Y av v h2 h3 h4 (hM _ _ h5))
  ·rw [h1,Oper.upon_skip];exact hn Y _ undef (mk Y .none undef h2 h3 (.none _) (hM _ _ h4))
  ·rw [h1,Oper.upon_enter];refine h3.mono ?_;rintro en w' ⟨v,Y,av,rfl,q1,q2,q3,⟨rfl,q4⟩ | ⟨rfl,q4⟩⟩
   ·exact hn Y _ v (mk Y av v q1 q2 q3 (hM _ _ q4))
   ·exact hP Y av v a (I.step.trans D.hX q1) q2 (I.e1.mono q1) q3 q4
  ·rw [h1,Oper.upon_panic];exact hP X av v a I.step I.ok I.e1 h2 h3
 simp only [iy] at htodo;split at htodo
 ·next hg=>
  have hw:Region.wanted o (yielded ops a.tmps)=true:=by simp [Region.wanted,hg]
  rw [if_pos hw];exact go (fun _ _ h=>h) htodo
 ·next g want hg=>
  obtain ⟨b,hb,htodo⟩:=htodo;obtain ⟨g1,g2,g3,g4⟩:=D.ok.grd _ o ho g want hg;obtain ⟨q,hq⟩: ∃ q,ops[g]? =some q:=⟨_,Array.getElem?_eq_getElem (by omega)⟩
  obtain ⟨d,hd⟩:=D.ok.hdst g q hq g2;have hgl:L g=true:=hrd g g3;have hgd:guardE ops.toList e g=aO e d:=by unfold guardE;rw [Array.getElem?_toList,hq];simp [hd]
  rw [hgd] at hb;have J3:Rep X (aO e d) (a.tmps.getD d undef):=by
   rcases I.rep d with ⟨j,p,h1,h2,h3,h4⟩ | h
   ·have:j=g:=Classical.byContradiction fun hne=>D.ok.diff g j q p hq h3 hne (.inl g2) d h4 hd
    subst this;rw [h2] at hgl;cases hgl
   ·exact h
  have hw:=NG (o:=o) hq hd (by rw [I.size];exact D.ok.dst g q hq d hd) J3 hb hg;split at htodo
  ·next e1=>
   rw [if_pos (hw.trans e1)];exact go (fun _ _ h=>h) htodo
  ·next e1=>
   rw [if_neg (by rw [hw];exact e1)];exact hn X _ undef (mk X (.v undef) undef (Step.refl X) I.ok (.v _) htodo)
theorem um.head (D:Dat P p₀ N k ops X0 e0 vals sp)    {bs:Nat→Nat} {Q:Exit→Act→World→Prop} (I:um P N k ops X0 e0 vals L a X bs) {i:Nat}  (hi:i<k) (hsp:sp i=false) (ho:ops[i]? =some o) (hL:L i=false) (hrd: ∀ j,direct ops j i=true→L j=true)
  {nx:Act→World→Prop} (hP: ∀ (Y:Cx) (av:AV) (v:Value) (a':Act),Step X0 Y→Ok Y→aN Y N (jm ops.toList e0) a'→Rep Y av v→p₀ av Y.h→Q (.panic [{v,recovered:=false}]) a' Y.w)
  (hn: ∀ (Y:Cx) (bs':Nat→Nat) (u:Value),um P N k ops X0 e0 vals (eG L i) (a.put o.dst u) Y bs'→nx (a.put o.dst u) Y.w):
  if Region.wanted o (yielded ops a.tmps)=true then o.wp P a X.w nx Q else nx (a.put o.dst undef) X.w:=by
 obtain ⟨v,hv⟩: ∃ v,vals[i]? =some v:=⟨_,List.getElem?_eq_getElem (by rw [D.len];exact hi)⟩
 have hf:=D.facts i o v hi hsp ho hv;have hrep: ∀ t,rdT o t=true→Rep X (aO (gZ e0 ((ops.toList.take k).take i) (vals.take i)) t) (a.tmps.getD t undef):=fun t ht=>by
  rw [D.JY (by omega) (fun j p hpj h1 h2 he=>by
   have:=(D.ok.rdh i j o p ho hpj t he ht h2).1;omega)]
  rcases I.rep t with ⟨j,p,h1,h2,h3,h4⟩ | ⟨j,p,h1,h2,h3,h4⟩ | h
  ·have:=hrd j (D.ok.rdh i j o p ho h3 t h4 ht h1).2.1;rw [h2] at this;cases this
  ·have:=(D.ok.rdh i j o p ho h2 t h4 ht h1).2.2 hi;rw [h3] at this;cases this
  ·exact h
 have go:aC o=false→cOp P p₀ o (dO (gZ e0 ((ops.toList.take k).take i) (vals.take i))) X0.h (fun a=>a=v)→o.wp P a X.w nx Q:=by
  intro hal hc;rw [←I.h] at hc;obtain ⟨av,hav,hcalm⟩:=afK I.ok I.frz (wz hrep) hc;subst hav;unfold Oper.wp;rcases hcalm with ⟨u,w',h1,h2⟩ | ⟨f,args,h1,h2⟩
  ·rw [h1,Oper.upon_value];obtain ⟨Y,y1,y2⟩:=I.quiet D hi ho hL hv hal h2;rw [←y1];exact hn Y bs u y2
  ·rw [h1,Oper.upon_enter];refine h2.mono ?_;rintro en w' ⟨u,Y,a',rfl,q1,q2,q3,⟨rfl,rfl,q5⟩ | ⟨rfl,q5⟩⟩
   ·exact hn Y bs u (I.reads D hi ho hL hv hal q1 q2 q5 q3)
   ·exact hP Y a' u a (I.step.trans D.hX q1) q2 (I.e1.mono q1) q3 q5
 unfold kG at hf;split at hf
 ·next hg=>
  have hw:Region.wanted o (yielded ops a.tmps)=true:=by simp [Region.wanted,hg]
  rw [if_pos hw];split at hf
  ·next hal=>
   obtain ⟨⟨T,z,d,hop,hd,hz⟩,rfl⟩:=hf;obtain ⟨Y,bs',y1,y2⟩:=I.alloc D hi ho hL hop hal hz;obtain ⟨ti,hti,hzi⟩:=nI hz;unfold Oper.wp;have hrun:(execOp a.eval o).run P X.w= .ok (.value (.pointer (some ⟨X.w.heap.size,0,none⟩))) (X.w.alloc (.cells z.cells T)):=by
    simp [execOp,hop,Instr.alloc,zeroValue,typeInfo,hti,hzi,newVar,newRow]
   rw [hrun,Oper.upon_value, ←y1];exact hn Y bs' _ y2
  ·next hal=>exact go (by simpa using hal) hf
 ·next g want hg=>
  obtain ⟨b,hb,hf⟩:=hf;have hal:aC o=false:=by unfold aC;rw [hg];rfl
  obtain ⟨g1,g2,g3,g4⟩:=D.ok.grd i o ho g want hg;obtain ⟨q,hq⟩: ∃ q,ops[g]? =some q:=⟨_,Array.getElem?_eq_getElem (by have:=D.ok.le;omega)⟩
  obtain ⟨d,hd⟩:=D.ok.hdst g q hq g2;have hgl:L g=true:=hrd g g3;have hgd:guardE ops.toList (gZ e0 ((ops.toList.take k).take i) (vals.take i)) g=aO (gZ e0 ((ops.toList.take k).take i) (vals.take i)) d:=by unfold guardE;rw [Array.getElem?_toList,hq];simp [hd]
  rw [hgd,D.JY (by omega) (fun j p hpj h1 h2 he=>D.ok.diff g j q p hq hpj (by omega) (.inl g2) d he hd)] at hb;have J3:Rep X (aO (eHd ops k e0 vals) d) (a.tmps.getD d undef):=by
   rcases I.rep d with ⟨j,p,h1,h2,h3,h4⟩ | ⟨j,p,h1,h2,h3,h4⟩ | h
   ·have:j=g:=Classical.byContradiction fun hne=>D.ok.diff g j q p hq h3 hne (.inl g2) d h4 hd
    subst this;rw [h2] at hgl;cases hgl
   ·have:j=g:=Classical.byContradiction fun hne=>D.ok.diff g j q p hq h2 hne (.inl g2) d h4 hd
    subst this;have:=g4 p h2;rw [h3] at this;cases this
   ·exact h
  have hw:=NG (o:=o) hq hd (by rw [I.size];exact D.ok.dst g q hq d hd) J3 hb hg;split at hf
  ·next e1=>
   rw [if_pos (hw.trans e1)];exact go hal hf
  ·next e1=>
   rw [if_neg (by rw [hw];exact e1)];subst hf;obtain ⟨Y,y1,y2⟩:=I.quiet D hi ho hL hv hal (w':=X.w) (u:=undef) ⟨Below.refl _ _, .v _⟩;rw [←y1];exact hn Y bs undef y2
theorem Aa.end_ {K:Ev→Hp→Prop}    {e:Ev} {r:Nat} {Q:Exit→Act→World→Prop} (I:Aa P N k ops X0 e0 vals p₀ K L a X e r) (hall: ∀ j,j<ops.size→L j=true)
  (hK: ∀ (Y:Cx) (e':Ev) (a':Act),Step X0 Y→Ok Y→aN Y N e' a'→K e' Y.h→Q .normal a' Y.w):Q .normal a X.w:=by
 have hr:k+r=ops.size:=by
  apply Nat.le_antisymm I.le;apply Nat.le_of_not_lt;intro hlt;have:=(I.tl (k+r) (by omega)).1 (hall _ hlt);omega
 have htodo:=I.todo;rw [hr,List.drop_eq_nil_of_le (by simp)] at htodo;refine hK X e a I.step I.ok ⟨I.defers,I.size,fun d=>?_⟩ htodo;rcases I.rep d with ⟨j,p,h1,h2,h3,h4⟩ | h
 ·have:=hall j (Array.getElem?_eq_some_iff.1 h3).1;rw [h2] at this;cases this
 ·exact h
theorem J4 {p:Nat→Prop} (rk:Nat→Nat):(∃ i,p i)→ ∃ i,p i∧ ∀ j,p j→rk i≤rk j:=by
 rintro ⟨i,hi⟩;generalize hk:rk i=k;induction k using Nat.strongRecOn generalizing i with
 | ind k ih=>
  by_cases h: ∃ j,p j∧rk j<rk i
  ·obtain ⟨j,hj,hlt⟩:=h;exact ih _ (by omega) j hj rfl
  ·exact ⟨i,hi,fun j hj=>Nat.le_of_not_lt fun hl=>h ⟨j,hj,hl⟩⟩
theorem qQ (D:Dat P p₀ N k ops X0 e0 vals sp) {K:Ev→Hp→Prop} {Q:Exit→Act→World→Prop}
  (htodo:Alive ops k (eHd ops k e0 vals)→iy P p₀ ops.toList (ops.toList.drop k) (eu X0.h.length (aK P (ops.toList.take k)) (eHd ops k e0 vals)) (X0.h++(aK P (ops.toList.take k)).map nR) K)
  (hP: ∀ (Y:Cx) (av:AV) (v:Value) (a':Act),Step X0 Y→Ok Y→aN Y N (jm ops.toList e0) a'→Rep Y av v→p₀ av Y.h→Q (.panic [{v,recovered:=false}]) a' Y.w)
  (hK: ∀ (Y:Cx) (e':Ev) (a':Act),Step X0 Y→Ok Y→aN Y N e' a'→K e' Y.h→Q .normal a' Y.w):
  ∀ (f:Nat) (listed:Array Bool) (a:Act) (w:World),(∀ j,sp j=true→listed.getD j false=true)→listed.size=ops.size→(∀ m j,listed.getD m false=true→direct ops j m=true→listed.getD j false=true)→oJ (fun j=>listed.getD j false) ops.size=f→
   ((∃ X bs,X.w=w∧um P N k ops X0 e0 vals (fun j=>listed.getD j false) a X bs)∨(∃ X e r,X.w=w∧Aa P N k ops X0 e0 vals p₀ K (fun j=>listed.getD j false) a X e r))→wpAny P .any ops Q f listed a w
 | 0,listed,a,w,hsl,hs,hdn,hc,hI=>by
  have hall:=wu ops.size hc;refine ⟨?_,?_⟩
  ·apply List.eq_nil_iff_forall_not_mem.2;intro j hj;obtain ⟨h1,o,h2,_⟩:=mem_ready.1 hj;have:=hall j (Array.getElem?_eq_some_iff.1 h2).1;rw [getD_both h1] at this;cases this
  ·rcases hI with ⟨X,bs,rfl,I⟩ | ⟨X,e,r,rfl,I⟩
   ·obtain ⟨Y,e,y1,y2⟩:=I.turn D (K:=K) (fun j o hj ho hl=>by rw [hall j (Array.getElem?_eq_some_iff.1 ho).1] at hl;cases hl) htodo;rw [←y1];exact y2.end_ hall hK
   ·exact I.end_ hall hK
 | f+1,listed,a,w,hsl,hs,hdn,hc,hI=>by
  obtain ⟨i0',afO,afP,_⟩:=xX ops.size (show oJ (fun j=>listed.getD j false) ops.size≠0 by omega);obtain ⟨i0,⟨hi0,hf0⟩,hl0⟩:=J4 (p:=fun j=>j<ops.size∧listed.getD j false=false) (rkB ops) ⟨i0',afO,afP⟩;refine ⟨fun h0=>?_,fun i hi=>?_⟩
  ·obtain ⟨o,ho⟩: ∃ o,ops[i0]? =some o:=⟨_,Array.getElem?_eq_getElem hi0⟩
   have:i0∈Region.ready .any ops listed:=mem_ready.2 ⟨getD_in (by omega) hf0,o,ho,fun e he hb=>by
    obtain ⟨q1,q2⟩:=D.ok.aft i0 o ho e he hb;cases hq:listed.getD e.on false with
    | true=>rfl
    | false=>have:=hl0 e.on ⟨q2,hq⟩;omega⟩
   rw [h0] at this;cases this
  ·obtain ⟨hun,o,ho,hall⟩:=mem_ready.1 hi;have hin:i<ops.size:=(Array.getElem?_eq_some_iff.1 ho).1;have hLi:listed.getD i false=false:=getD_both hun;have hrd: ∀ j,direct ops j i=true→listed.getD j false=true:=fun j hj=>uz ho hall hj
   have hL':(fun j=>(listed.setIfInBounds i true).getD j false)=eG (fun j=>listed.getD j false) i:=by
    funext j
    by_cases e:j=i
    ·subst e;have hlt:j<listed.size:=by omega
     simp [eG,hlt]
    ·rw [getD_set_ne false (fun h=>e h.symm)];simp [eG,e]
   have hsl2: ∀ j,sp j=true→(listed.setIfInBounds i true).getD j false=true:=fun j hj=>by
    have h1:(listed.setIfInBounds i true).getD j false=eG (fun j=>listed.getD j false) i j:=congrFun hL' j;rw [h1];unfold eG;split
    ·rfl
    ·exact hsl j hj
   have amy:sp i=false:=by
    cases q:sp i with
    | false=>rfl
    | true=>rw [hsl i q] at hLi;cases hLi
   have J3: ∀ j,reach ops j i=true→listed.getD j false=true:=fun j hj=>by
    have key: ∀ n j,xY ops n j i=true→listed.getD j false=true:=fun n=>by
     induction n with
     | zero=>exact fun j hj=>hrd j hj
     | succ n ih=>
      intro j hj;simp only [xY] at hj;rw [Bool.or_eq_true] at hj;rcases hj with hj | hj
      ·exact hrd j hj
      ·obtain ⟨m,_,hm⟩:=List.any_eq_true.1 hj;rw [Bool.and_eq_true] at hm;exact hdn m j (ih m hm.2) hm.1
    exact key 8 j hj
   have SA: ∀ m j,(listed.setIfInBounds i true).getD m false=true→direct ops j m=true→(listed.setIfInBounds i true).getD j false=true:=fun m j hm hj=>by
    have h1:(listed.setIfInBounds i true).getD m false=eG (fun j=>listed.getD j false) i m:=congrFun hL' m;have h2:(listed.setIfInBounds i true).getD j false=eG (fun j=>listed.getD j false) i j:=congrFun hL' j;rw [h1] at hm;rw [h2];unfold eG at hm ⊢;split
    ·rfl
    ·by_cases e:m=i
     ·subst e;exact hrd j hj
     ·rw [if_neg e] at hm;exact hdn m j hm hj
   have hcnt:oJ (fun j=>(listed.setIfInBounds i true).getD j false) ops.size=f:=by
    rw [hL'];have:=(Hy (L:=fun j=>listed.getD j false) (i:=i) hLi ops.size).1 hin;omega
   have fin: ∀ {nx:Prop},(if Region.wanted o (yielded ops a.tmps)=true then o.wp P a w (wpAny P .any ops Q f (listed.setIfInBounds i true)) Q else wpAny P .any ops Q f (listed.setIfInBounds i true) (a.put o.dst undef) w)→Go.wpOp P ops Q i (wpAny P .any ops Q f (listed.setIfInBounds i true)) a w:=by
    intro _ h;unfold Go.wpOp;simp only [ho];split
    ·next hw=>rw [if_pos hw] at h;exact .inl h
    ·next hw=>rw [if_neg hw] at h;exact h
   have afj: ∀ (X:Cx) (e:Ev) (r:Nat),X.w=w→k≤i→Aa P N k ops X0 e0 vals p₀ K (fun j=>listed.getD j false) a X e r→Go.wpOp P ops Q i (wpAny P .any ops Q f (listed.setIfInBounds i true)) a w:=by
    intro X e r hXw hki I;have hir:i=k+r:=by
     apply Nat.le_antisymm
     ·apply Nat.le_of_not_lt;intro hlt;obtain ⟨p,hp⟩: ∃ p,ops[k+r]? =some p:=⟨_,Array.getElem?_eq_getElem (by omega)⟩
      rcases D.ok.tail i (k+r) o p ho hp hki hlt with h | h
      ·omega
      ·have:=(I.tl (k+r) (by omega)).1 (J3 _ h);omega
     ·apply Nat.le_of_not_lt;intro hlt;have:=(I.tl i hki).2 hlt;rw [hLi] at this;cases this
    subst hir;subst hXw;refine fin (nx:=True) (I.next D ho hrd (Q:=Q) hP fun Y e' u hB=>?_);refine qQ D htodo hP hK f _ _ _ hsl2 (by simpa using hs) SA hcnt (.inr ⟨Y,e',r+1,rfl,?_⟩);rw [hL'];exact hB
   rcases hI with ⟨X,bs,rfl,I⟩ | ⟨X,e,r,rfl,I⟩
   ·by_cases hik:i<k
    ·refine fin (nx:=True) (I.head D hik amy ho hLi hrd (Q:=Q) hP fun Y bs' u hA=>?_);refine qQ D htodo hP hK f _ _ _ hsl2 (by simpa using hs) SA hcnt (.inl ⟨Y,bs',rfl,?_⟩);rw [hL'];exact hA
    ·obtain ⟨Y,e,y1,y2⟩:=I.turn D (K:=K) (fun j p hj hp hl=>by
      rcases D.ok.tail i j o p ho hp (by omega) (by omega) with h | h
      ·exact h.2
      ·have:=J3 j h;rw [hl] at this;cases this) htodo
     exact afj Y e 0 y1 (by omega) y2
   ·by_cases hik:i<k
    ·obtain ⟨u,h1,h2⟩:=I.late D hik ho hLi hrd;have hg:o.guard=none:=by
      have:=I.pure i o hik ho hLi;unfold isPure at this;simp only [Bool.and_eq_true,Option.isNone_iff_eq_none] at this;exact this.1
     refine fin (nx:=True) ?_;have hw:Region.wanted o (yielded ops a.tmps)=true:=by simp [Region.wanted,hg]
     rw [if_pos hw];unfold Oper.wp;rw [h1,Oper.upon_value];refine qQ D htodo hP hK f _ _ _ hsl2 (by simpa using hs) SA hcnt (.inr ⟨X,e,r,rfl,?_⟩);rw [hL'];exact h2
    ·exact afj X e r rfl (by omega) I
theorem wB {P:Program}: ∀ {l:List Oper},(∀ o,o∈l→aC o=false)→aK P l=[]
 | [],_=>rfl
 | o::r,h=>by
  unfold aK;rw [h o (List.mem_cons_self ..)];exact wB fun o ho=>h o (List.mem_cons_of_mem _ ho)
theorem FN {s:Nat} {os:Oper} (hs:s<k) (hos:ops[s]? =some os) (hg:os.guard=none) (D:Dat P p₀ N k ops X0 e0 vals (fun i=>decide (i=s))) (hna: ∀ (i:Nat) (o:Oper),i<k→ops[i]? =some o→aC o=false) {K:Ev→Hp→Prop} {Q:Exit→Act→World→Prop}
  (hw:wOp P p₀ os (dO (gZ e0 ((ops.toList.take k).take s) (vals.take s))) X0.h (fun av h1=>vals[s]? =some av∧(∀ (i:Nat) (o:Oper) (v:AV),i<k→decide (i=s)=false→ops[i]? =some o→vals[i]? =some v→kG P p₀ ops.toList h1 o (gZ e0 ((ops.toList.take k).take i) (vals.take i)) v)∧(Alive ops k (eHd ops k e0 vals)→iy P p₀ ops.toList (ops.toList.drop k) (eHd ops k e0 vals) h1 K)))
  (hP: ∀ (Y:Cx) (av:AV) (v:Value) (a':Act),Step X0 Y→Ok Y→aN Y N (jm ops.toList e0) a'→Rep Y av v→p₀ av Y.h→Q (.panic [{v,recovered:=false}]) a' Y.w)
  (hK: ∀ (Y:Cx) (e':Ev) (a':Act),Step X0 Y→Ok Y→aN Y N e' a'→K e' Y.h→Q .normal a' Y.w):
  ∀ (f:Nat) (listed:Array Bool) (a:Act) (w:World),listed.getD s false=false→listed.size=ops.size→(∀ m j,listed.getD m false=true→direct ops j m=true→listed.getD j false=true)→oJ (fun j=>listed.getD j false) ops.size=f→
   (∃ X bs,X.w=w∧um P N k ops X0 e0 vals (fun j=>listed.getD j false) a X bs)→wpAny P .any ops Q f listed a w
 | 0,listed,a,w,hsl,hsz,hdn,hc,hI=>by
  have:=wu ops.size hc s (Array.getElem?_eq_some_iff.1 hos).1;rw [hsl] at this;cases this
 | f+1,listed,a,w,hsl,hsz,hdn,hc,hI=>by
  obtain ⟨i0',afO,afP,_⟩:=xX ops.size (show oJ (fun j=>listed.getD j false) ops.size≠0 by omega);obtain ⟨i0,⟨hi0,hf0⟩,hl0⟩:=J4 (p:=fun j=>j<ops.size∧listed.getD j false=false) (rkB ops) ⟨i0',afO,afP⟩;refine ⟨fun h0=>?_,fun i hi=>?_⟩
  ·obtain ⟨o,ho⟩: ∃ o,ops[i0]? =some o:=⟨_,Array.getElem?_eq_getElem hi0⟩
   have:i0∈Region.ready .any ops listed:=mem_ready.2 ⟨getD_in (by omega) hf0,o,ho,fun e he hb=>by
    obtain ⟨q1,q2⟩:=D.ok.aft i0 o ho e he hb;cases hq:listed.getD e.on false with
    | true=>rfl
    | false=>have:=hl0 e.on ⟨q2,hq⟩;omega⟩
   rw [h0] at this;cases this
  ·obtain ⟨hun,o,ho,hall⟩:=mem_ready.1 hi;have hin:i<ops.size:=(Array.getElem?_eq_some_iff.1 ho).1;have hLi:listed.getD i false=false:=getD_both hun;have hrd: ∀ j,direct ops j i=true→listed.getD j false=true:=fun j hj=>uz ho hall hj
   have hL':(fun j=>(listed.setIfInBounds i true).getD j false)=eG (fun j=>listed.getD j false) i:=by
    funext j
    by_cases e:j=i
    ·subst e;have hlt:j<listed.size:=by omega
     simp [eG,hlt]
    ·rw [getD_set_ne false (fun h=>e h.symm)];simp [eG,e]
   have J3: ∀ j,reach ops j i=true→listed.getD j false=true:=fun j hj=>by
    have key: ∀ n j,xY ops n j i=true→listed.getD j false=true:=fun n=>by
     induction n with
     | zero=>exact fun j hj=>hrd j hj
     | succ n ih=>
      intro j hj;simp only [xY] at hj;rw [Bool.or_eq_true] at hj;rcases hj with hj | hj
      ·exact hrd j hj
      ·obtain ⟨m,_,hm⟩:=List.any_eq_true.1 hj;rw [Bool.and_eq_true] at hm;exact hdn m j (ih m hm.2) hm.1
    exact key 8 j hj
   have SA: ∀ m j,(listed.setIfInBounds i true).getD m false=true→direct ops j m=true→(listed.setIfInBounds i true).getD j false=true:=fun m j hm hj=>by
    have h1:(listed.setIfInBounds i true).getD m false=eG (fun j=>listed.getD j false) i m:=congrFun hL' m;have h2:(listed.setIfInBounds i true).getD j false=eG (fun j=>listed.getD j false) i j:=congrFun hL' j;rw [h1] at hm;rw [h2];unfold eG at hm ⊢;split
    ·rfl
    ·by_cases e:m=i
     ·subst e;exact hrd j hj
     ·rw [if_neg e] at hm;exact hdn m j hm hj
   have hcnt:oJ (fun j=>(listed.setIfInBounds i true).getD j false) ops.size=f:=by
    rw [hL'];have:=(Hy (L:=fun j=>listed.getD j false) (i:=i) hLi ops.size).1 hin;omega
   have fin: ∀ {nx:Prop},(if Region.wanted o (yielded ops a.tmps)=true then o.wp P a w (wpAny P .any ops Q f (listed.setIfInBounds i true)) Q else wpAny P .any ops Q f (listed.setIfInBounds i true) (a.put o.dst undef) w)→Go.wpOp P ops Q i (wpAny P .any ops Q f (listed.setIfInBounds i true)) a w:=by
    intro _ h;unfold Go.wpOp;simp only [ho];split
    ·next hw=>rw [if_pos hw] at h;exact .inl h
    ·next hw=>rw [if_neg hw] at h;exact h
   obtain ⟨X,bs,rfl,I⟩:=hI;by_cases his:i=s
   ·subst his;rw [ho] at hos;injection hos with hos;subst hos;refine fin (nx:=True) ?_;rw [if_pos (by simp [Region.wanted,hg])];have hrep: ∀ t,rdT o t=true→Rep X (aO (gZ e0 ((ops.toList.take k).take i) (vals.take i)) t) (a.tmps.getD t undef):=fun t ht=>by
     rw [D.JY (by omega) (fun j p hpj h1 h2 he=>by
      have:=(D.ok.rdh i j o p ho hpj t he ht h2).1;omega)]
     rcases I.rep t with ⟨j,p,h1,h2,h3,h4⟩ | ⟨j,p,h1,h2,h3,h4⟩ | h
     ·have:=hrd j (D.ok.rdh i j o p ho h3 t h4 ht h1).2.1;simp only at h2;rw [h2] at this;cases this
     ·rw [hna j p h1 h2] at h3;cases h3
     ·exact h
    rw [←I.h] at hw;have mk: ∀ (Y:Cx) (av:AV) (u:Value),Step X Y→Ok Y→Rep Y av u→(vals[i]? =some av∧(∀ (j:Nat) (o:Oper) (v:AV),j<k→decide (j=i)=false→ops[j]? =some o→vals[j]? =some v→kG P p₀ ops.toList Y.h o (gZ e0 ((ops.toList.take k).take j) (vals.take j)) v)∧(Alive ops k (eHd ops k e0 vals)→iy P p₀ ops.toList (ops.toList.drop k) (eHd ops k e0 vals) Y.h K))→wpAny P .any ops Q f (listed.setIfInBounds i true) (a.put o.dst u) Y.w:=by
     rintro Y av u S hY hav ⟨hv,hfa,htd⟩;have D1:Dat P p₀ N k ops Y e0 vals (fun j=>decide (j=i)):=⟨D.ok,hY,hY.CV,D.len,D.spa,hfa⟩
     have hnil:aK P (ops.toList.take k)=[]:=wB fun p hp=>by
      obtain ⟨j,hj,e⟩:=List.mem_iff_getElem.1 hp;have hj':j<k:=by simp at hj;omega
      refine hna j p hj' ?_;have:(ops.toList.take k)[j]? =some p:=by rw [List.getElem?_eq_getElem hj,e]
      rw [List.getElem?_take,if_pos hj'] at this;simpa using this
     refine qQ D1 (K:=K) (fun hal=>?_) (fun Z av v a' S2 hZ hEZ hr hp=>hP Z av v a' ((I.step.trans D.hX S).trans D.hX S2) hZ hEZ hr hp) (fun Z e' a' S2 hZ hEZ hk=>hK Z e' a' ((I.step.trans D.hX S).trans D.hX S2) hZ hEZ hk) f _ _ _ (fun j hj=>?_) (by simpa using hsz) SA hcnt (.inl ⟨Y,bs,rfl,?_⟩)
     ·rw [hnil,List.map_nil,List.append_nil];exact htd hal
     ·have hj:j=i:=of_decide_eq_true hj;subst hj;have:(listed.setIfInBounds j true).getD j false=eG (fun j=>listed.getD j false) j j:=congrFun hL' j;rw [this];simp [eG]
     ·rw [hL'];refine ⟨Step.refl Y,hY,hY.CV,rfl,fun _ _=>rfl,fun j hj=>?_,by rw [iU,S.dse];exact I.defers,by rw [jT];exact I.size,(I.e1.mono S).any (mG (List.mem_of_getElem? (i:=i) (by rw [Array.getElem?_toList];exact ho)) e0),fun d=>?_,fun j p d z hj hl hp hpa=>?_,fun j j' p p' hj hj' hne hl hl' hp hp' hpa=>?_⟩
      ·simp only [eG,show j≠i by omega,if_false];exact I.abv j hj
      ·by_cases e1:o.dst=some d
       ·right;right;rw [e1,mM (by rw [I.size];exact D.ok.dst i o ho d e1),D.val hs ho e1 hv];exact hav
       ·rw [jC e1];rcases I.rep d with ⟨j,p,h1,h2,h3,h4⟩ | h | h
        ·left;refine ⟨j,p,h1,?_,h3,h4⟩;have:j≠i:=fun q=>by
          subst q;rw [ho] at h3;injection h3 with h3;subst h3;exact e1 h4
         simp only [eG,this,if_false];exact h2
        ·exact .inr (.inl h)
        ·exact .inr (.inr (h.mono S))
      ·rw [hna j p hj hp] at hpa;cases hpa
      ·rw [hna j p hj hp] at hpa;cases hpa
    have hG:=CJ I.ok (wz hrep) hw;unfold Oper.wp;rcases hG with ⟨v,Y,av,h1,h2,h3,h4,h5⟩ | ⟨Y,h1,h2,h3,h4⟩ | ⟨f,args,h1,h3⟩ | ⟨v,av,h1,h2,h3⟩
    ·rw [h1,Oper.upon_value];exact mk Y av v h2 h3 h4 h5
    ·rw [h1,Oper.upon_skip];exact mk Y .none undef h2 h3 (.none _) h4
    ·rw [h1,Oper.upon_enter];refine h3.mono ?_;rintro en w' ⟨v,Y,av,rfl,q1,q2,q3,⟨rfl,q4⟩ | ⟨rfl,q4⟩⟩
     ·exact mk Y av v q1 q2 q3 q4
     ·exact hP Y av v a (I.step.trans D.hX q1) q2 (I.e1.mono q1) q3 q4
    ·rw [h1,Oper.upon_panic];exact hP X av v a I.step I.ok I.e1 h2 h3
   ·by_cases hik:i<k
    ·refine fin (nx:=True) (I.head D hik (aj his) ho hLi hrd (Q:=Q) hP fun Y bs' u hA=>?_);refine FN hs hos hg D hna hw hP hK f _ _ _ ?_ (by simpa using hsz) SA hcnt ⟨Y,bs',rfl,?_⟩
     ·rw [getD_set_ne false his];exact hsl
     ·rw [hL'];exact hA
    ·rcases D.ok.tail i s o os ho hos (by omega) (by omega) with h | h
     ·have:=(D.spa s os (ah rfl) hos).2;rw [h.2] at this;cases this
     ·have:=J3 s h;rw [hsl] at this;cases this
end
end
section
open Go.RowKit
theorem Hz {L:Nat→Bool}: ∀ k,(∀ j,L j=false)→oJ L k=k
 | 0,_=>rfl
 | k+1,h=>by simp [oJ,h,Hz k h]
variable {X:Cx}
theorem CX (hX:Ok X): ∃ Y:Cx,Y.w={X.w with drawn:=X.w.drawn+1}∧Y.h=X.h∧Step X Y∧Ok Y:=by
 have hcell: ∀ b o,cellAt {X.w with drawn:=X.w.drawn+1} b o=cellAt X.w b o:=fun _ _=>rfl
 have S:Step X ⟨{X.w with drawn:=X.w.drawn+1},X.m,X.h,X.bad,X.ds⟩:=⟨rfl,rfl,rfl,Nat.le_refl _,fun _ _ _=>rfl,fun _ _ _ h1 h2=>⟨h1,h2⟩,Nat.le_refl _,fun i T s c f _ hi=>⟨c,f,hi,Nat.le_refl _,fun _=>rfl⟩,fun i c _ hi=>⟨c,hi,rfl⟩,fun b hb=> .inr hb,fun _ _ hb=> .inl hb,fun i c _ hi=>⟨c,hi,rfl⟩,rfl⟩
 refine ⟨⟨{X.w with drawn:=X.w.drawn+1},X.m,X.h,X.bad,X.ds⟩,rfl,rfl,S,?_⟩;refine ⟨fun id cells hi=>?_,fun id T' s cells fz hi=>?_,hX.inj,hX.dX,fun id es hi=>?_⟩
 ·obtain ⟨b,cvs,T',h1,h2,h3,h4,h5⟩:=hX.blk id cells hi;exact ⟨b,cvs,T',h1,h2,h3,h4,fun j a x q1 q2=>(h5 j a x q1 q2).mono S⟩
 ·obtain ⟨g1,g2,n,g3,g4⟩:=hX.arr id T' s cells fz hi;refine ⟨g1,g2,n,g3,?_⟩;rcases g4 with g4 | ⟨b,cvs,g4⟩
  ·exact .inl g4
  ·exact .inr ⟨b,cvs,⟨g4.at_,g4.blk,g4.cap,g4.iQ,g4.sz,g4.bad,fun j a x q1 q2=>(g4.rep j a x q1 q2).mono S,g4.good⟩⟩
 ·obtain ⟨b,ents,clock,h1,h2,h3⟩:=hX.map id es hi;exact ⟨b,ents,clock,h1,h2,h3.mono S⟩
def J5 (l:List Oper) (e:Ev):Prop:= ∃ (i:Nat) (o:Oper) (d:Nat),l[i]? =some o∧isPure o=false∧aC o=false∧o.dst=some d∧VW (aO e d)=true
variable {N k:Nat}{P:Program}{a:Act}{e:Ev}{p:AV→Hp→Prop}
theorem J6 (bT:P.follows .mixedOrders=true) {id:Nat} {ops:Array Oper}    (m m2:Nat)  {K:Ev→Hp→Prop} {Q:Exit→Act→World→Prop} (hB:nO N k ops=true) (hX:Ok X) (hE:aN X N e a)
  (h:dQ P p ops.toList (fP m X.h) (ops.toList.take k) e [] fun e1 al=>if m2=1 then J5 (ops.toList.take k) e1 else iy P p ops.toList (ops.toList.drop k) (eu X.h.length al e1) (fP m X.h++al.map nR) K)
  (hP: ∀ (Y:Cx) (av:AV) (v:Value) (a':Act),Step X Y→Ok Y→aN Y N (jm ops.toList e) a'→Rep Y av v→p av Y.h→Q (.panic [{v,recovered:=false}]) a' Y.w)
  (hQ: ∀ (Y:Cx) (e':Ev) (a':Act),Step X Y→Ok Y→aN Y N e' a'→K e' Y.h→Q .normal a' Y.w):wpAny P .any ops Q ops.size (Array.replicate ops.size false) a {X.w with drawn:=X.w.drawn+1}:=by
 obtain ⟨Y,y1,y2,y3,y4⟩:=CX hX;obtain ⟨Z,z1,z2,z3,z4⟩:=lg m y4;have z5:=z3.CV;have S:Step X Z:=y3.trans hX z2;rw [y2] at z4;obtain ⟨vals,v1,v2,v3⟩:=kM _ _ _ h;rw [List.nil_append] at v3;have hok:=JW hB;have hlen:vals.length=k:=by have:=hok.le;rw [v1];simp;omega
 have D:Dat P p N k ops Z e vals (fun _=>false):=⟨hok,z3,z5,hlen,fun i o h=>(by cases h),fun i o v hi _ ho hv=>by
  rw [z4];exact v2 i o v (by rw [List.getElem?_take,if_pos hi];simpa using ho) hv⟩
 have hEZ:=hE.mono S;rw [←y1, ←z1];have hL: ∀ j,(Array.replicate ops.size false).getD j false=false:=fun j=>by
  simp only [Array.getD,Array.size_replicate,Array.getInternal_eq_getElem,Array.getElem_replicate];split<;>rfl
 refine qQ D (p₀:=p) (K:=K) ?_ (fun V av v a' S2 hV hEV hr hp=>hP V av v a' (S.trans hX S2) hV hEV hr hp) (fun V e' a' S2 hV hEV hK=>hQ V e' a' (S.trans hX S2) hV hEV hK) ops.size _ a Z.w (fun j h=>by cases h) (by simp) (fun m j hm=>absurd hm (by simp [hL])) ?_ (.inl ⟨Z,fun _=>0,rfl,?_⟩)
 ·intro hal;rw [z4,JU];by_cases h1:m2=1
  ·rw [if_pos h1] at v3;obtain ⟨i,o,d,q1,q2,q3,q4,q5⟩:=v3;rw [List.getElem?_take] at q1;split at q1
   ·next hi=>
    have:=hal i o d hi (by simpa using q1) q2 q3 q4;unfold eHd at this;rw [this] at q5;cases q5
   ·cases q1
  ·rw [if_neg h1] at v3;exact v3
 ·rw [Hz ops.size hL]
 ·refine ⟨Step.refl Z,z3,z5,rfl,fun _ _=>rfl,fun j _=>hL j,hEZ.defers,hEZ.size,hEZ.del _,fun d=>?_,fun i o d z hi hl=>absurd hl (by simp [hL]),fun i j o p _ _ _ hl=>absurd hl (by simp [hL])⟩;by_cases hp:abt ops k (fun j=>(Array.replicate ops.size false).getD j false) d
  ·exact .inl hp
  ·right;right;have:aO (eHd ops k e vals) d=aO e d:=Aw _ _ _ _ fun o ho he=>hp ?_
   ·rw [this];exact hEZ.rep d
   ·obtain ⟨j,hj,e1⟩:=List.mem_iff_getElem.1 ho;have hj':j<k:=by simp at hj;omega
    refine ⟨j,o,hj',hL j,?_,he⟩;have:(ops.toList.take k)[j]? =some o:=by rw [List.getElem?_eq_getElem hj,e1]
    rw [List.getElem?_take,if_pos hj'] at this;simpa using this
theorem J7 (bT:P.follows .mixedOrders=true) {id:Nat} {ops:Array Oper}    (m m2:Nat)  {K:Ev→Hp→Prop} {Q:Exit→Act→World→Prop} (hB:nO N k ops=true) (hX:Ok X) (hE:aN X N e a)
  (h:dQ P p ops.toList (fP m X.h) (ops.toList.take k) e [] fun e1 al=>if m2=1 then J5 (ops.toList.take k) e1 else iy P p ops.toList (ops.toList.drop k) (eu X.h.length al e1) (fP m X.h++al.map nR) K)
  (hP: ∀ (Y:Cx) (av:AV) (v:Value) (a':Act),Step X Y→Ok Y→aN Y N (jm ops.toList e) a'→Rep Y av v→p av Y.h→Q (.panic [{v,recovered:=false}]) a' Y.w)
  (hQ: ∀ (Y:Cx) (e':Ev) (a':Act),Step X Y→Ok Y→aN Y N e' a'→K e' Y.h→Q .normal a' Y.w):(Code.region id ops true).wp P Q a X.w:=
 wp_region_any bT (J6 (id:=id) bT m m2 hB hX hE h hP hQ)
def kOf:List (Nat × Nat)→Nat→Nat
 | [],_=>0
 | (i,k)::r,d=>if i=d then k else kOf r d
def base (ks:List (Nat × Nat)):Nat:=kOf ks 1000000
def aP (n0:Nat) (X:Cx) (N:Nat) (Q:dA):Exit→Act→World→Prop
 | .normal,a,w=> ∃ Y e,Y.w=w∧aT n0 X Y∧Ok Y∧aN Y N e a∧Q .normal e Y.h
 | .exit id,a,w=> ∃ Y e,Y.w=w∧aT n0 X Y∧Ok Y∧aN Y N e a∧Q (.exit id) e Y.h
 | .ret,a,w=> ∃ Y e,Y.w=w∧aT n0 X Y∧Ok Y∧aN Y N e a∧Q .ret e Y.h
 | .panic chain,a,w=> ∃ v av Y e,chain=[{v,recovered:=false}]∧Y.w=w∧aT n0 X Y∧Ok Y∧aN Y N e a∧Rep Y av v∧Q (.panic av) e Y.h
 | _,_,_=>False
inductive uS (n0:Nat) (X:Cx) (N:Nat) (Q:dA):Exit→Act→World→Prop
 | ok (x:Ex) (ex:Exit) (Y:Cx) (e:Ev) (a:Act) (S:aT n0 X Y) (hY:Ok Y) (hE:aN Y N e a) (h:Q x e Y.h) (hx:(x= .normal∧ex= .normal)∨(∃ i,x= .exit i∧ex= .exit i)∨(x= .ret∧ex= .ret)∨ ∃ v av,x= .panic av∧ex= .panic [{v,recovered:=false}]∧Rep Y av v):uS n0 X N Q ex a Y.w
variable {Q:dA}{ex:Exit}{n0:Nat}{w:World}
theorem aP.elim (h:aP n0 X N Q ex a w):uS n0 X N Q ex a w:=by
 cases ex with
 | normal=>obtain ⟨Y,e,rfl,S,hY,hE,q⟩:=h;exact .ok .normal _ Y e a S hY hE q (.inl ⟨rfl,rfl⟩)
 | exit id=>obtain ⟨Y,e,rfl,S,hY,hE,q⟩:=h;exact .ok (.exit id) _ Y e a S hY hE q (.inr (.inl ⟨id,rfl,rfl⟩))
 | ret=>obtain ⟨Y,e,rfl,S,hY,hE,q⟩:=h;exact .ok .ret _ Y e a S hY hE q (.inr (.inr (.inl ⟨rfl,rfl⟩)))
 | panic c=>obtain ⟨v,av,Y,e,rfl,rfl,S,hY,hE,hr,q⟩:=h;exact .ok (.panic av) _ Y e a S hY hE q (.inr (.inr (.inr ⟨v,av,rfl,rfl,hr⟩)))
 | _=>exact False.elim h
theorem uS.intro (h:uS n0 X N Q ex a w):aP n0 X N Q ex a w:=by
 cases h with
 | ok x ex Y e a S hY hE h hx=>
  rcases hx with ⟨rfl,rfl⟩ | ⟨i,rfl,rfl⟩ | ⟨rfl,rfl⟩ | ⟨v,av,rfl,rfl,hr⟩
  ·exact ⟨Y,e,rfl,S,hY,hE,h⟩
  ·exact ⟨Y,e,rfl,S,hY,hE,h⟩
  ·exact ⟨Y,e,rfl,S,hY,hE,h⟩
  ·exact ⟨v,av,Y,e,rfl,rfl,S,hY,hE,hr,h⟩
variable {Y:Cx}
theorem aP.map {Q':dA}    (hX:Ok X) (S:aT n0 X Y) (h:aP n0 Y N Q ex a w) (hq: ∀ x e h,Q x e h→Q' x e h):aP n0 X N Q' ex a w:=by
 have:=h.elim;cases this with
 | ok x ex Z e a S2 hZ hE q hx=>exact (uS.ok x ex Z e a (S.trans hX S2) hZ hE (hq _ _ _ q) hx).intro
def uD (D:Nat):Deferred:={target:= .collected D,args:= #[]}
structure Marks (n:Nat) (w:World) (l:List Nat):Prop where
 dis:l.Nodup
 at_: ∀ D,D∈l→n≤D∧w.heap[D]? =some (.deferred (some []))
def gy (n0:Nat) (X:Cx) (N:Nat) (Q:dA) (ex:Exit) (a:Act) (w:World):Prop:= ∃ l,a.defers=l.map uD++X.ds∧Marks X.w.heap.size w l∧aP n0 X N Q ex {a with defers:=X.ds} w
def HY (P:Program) (N:Nat) (ks:List (Nat × Nat)) (id:Nat) (ops:Array Oper) (Q:dA) (e:Ev) (h:Hp):Prop:=
 ∀ (X:Cx) (a:Act),base ks≤X.h.length→X.h=h→Ok X→aN X N e a→(Code.region id ops true).wp P (aP (base ks) X N Q) a X.w
def qy (k:Nat) (E W:Prop):Prop:=if k=1000000 then E else W
def bP (P:Program) (N:Nat) (L:List Nat) (ks:List (Nat × Nat)):Code→dA→Ev→Hp→Prop
 | .skip,Q,e,h=>Q .normal e h
 | .region _ ops false,Q,e,h=>iy P (fun av h'=>Q (.panic av) (jm ops.toList e) h') ops.toList ops.toList e h fun e' h'=>Q .normal (lN L e') h'
 | .region id ops true,Q,e,h=>qy (kOf ks id) (HY P N ks id ops Q e h)<| dQ P (fun av h'=>Q (.panic av) (jm ops.toList e) h') ops.toList (fP (kOf ks (3000000+id)) h) (ops.toList.take (kOf ks id)) e [] fun e1 al=>
   if kOf ks (4000000+id)=1 then J5 (ops.toList.take (kOf ks id)) e1 else iy P (fun av h'=>Q (.panic av) (jm ops.toList e) h') ops.toList (ops.toList.drop (kOf ks id)) (eu h.length al e1) (fP (kOf ks (3000000+id)) h++al.map nR) fun e' h'=>Q .normal (lN L e') h'
 | .seq a b,Q,e,h=>bP P N L ks a (fun x e' h'=>match x with | .normal=>bP P N L ks b Q e' h' | x=>Q x e' h') e h
 | .cond c a b,Q,e,h=> ∃ t,dO e c= .v (.bool t)∧if t=true then bP P N L ks a Q e h else bP P N L ks b Q e h
 | .block id b,Q,e,h=>bP P N L ks b (fun x e' h'=>match x with | .exit i=>if i=id then Q .normal e' h' else Q (.exit i) e' h' | x=>Q x e' h') e h
 | .exit id,Q,e,h=>Q (.exit id) e h
 | .loop b,Q,e,h=> ∃ (I:Nat→Ev→Hp→Prop) (n₀:Nat) (e₀:Ev) (h₀:Hp),Ent (base ks) N e h e₀ h₀∧I n₀ e₀ h₀∧
   ∀ n e' h',I n e' h'→bP P N L ks b (fun x e'' h''=>match x with | .normal=> ∃ n' e₁ h₁,Ent (base ks) N e'' h'' e₁ h₁∧n'<n∧I n' e₁ h₁ | x=>Q x e'' h'') e' h'
 | .ret,Q,e,h=>Q .ret e h
 | .label _,Q,e,h=>Q .normal e h
 | .scope b,Q,e,h=>bP P N L ks b Q e h
 | .rangeFunc f ps ag b,Q,e,h=> ∀ (X:Cx) (a:Act),base ks≤X.h.length→X.h=h→Ok X→aN X N e a→(Code.rangeFunc f ps ag b).wp P (gy (base ks) X N Q) a X.w
 | _,_,_,_=>False
def dL (N:Nat) (ks:List (Nat × Nat)):Code→Bool
 | .region _ ops false=>ops.toList.all (zF N)
 | .region id ops true=>nO N (kOf ks id) ops || decide (kOf ks id=1000000)
 | .seq a b=>dL N ks a && dL N ks b
 | .cond _ a b=>dL N ks a && dL N ks b
 | .block _ b=>dL N ks b
 | .loop b=>dL N ks b
 | .scope b=>dL N ks b
 | _=>true
theorem aP.intro (S:aT n0 X Y) (hY:Ok Y) (hE:aN Y N e a):(Q .normal e Y.h→aP n0 X N Q .normal a Y.w)∧(∀ i,Q (.exit i) e Y.h→aP n0 X N Q (.exit i) a Y.w)∧(Q .ret e Y.h→aP n0 X N Q .ret a Y.w):=
 ⟨fun h=>⟨Y,e,rfl,S,hY,hE,h⟩,fun _ h=>⟨Y,e,rfl,S,hY,hE,h⟩,fun h=>⟨Y,e,rfl,S,hY,hE,h⟩⟩
def Ac:Code→Bool
 | .seq a b=>Ac a && Ac b
 | .cond _ a b=>Ac a && Ac b
 | .block _ b=>Ac b
 | .loop b=>Ac b
 | .scope b=>Ac b
 | .rangeFunc .. =>false
 | _=>true
theorem dH {P:Program} (bT:P.follows .mixedOrders=true) {N:Nat} {L:List Nat} {ks:List (Nat × Nat)}: ∀ (c:Code) (Q:dA) (X:Cx) (e:Ev) (a:Act),dL N ks c=true→Ac c=true→base ks≤X.h.length→Ok X→aN X N e a→bP P N L ks c Q e X.h→c.wp P (aP (base ks) X N Q) a X.w
 | .skip,Q,X,e,a,_,_,hn,hX,hE,h=>wp_skip ((aP.intro ((Step.refl X).toN hn) hX hE).1 h)
 | .ret,Q,X,e,a,_,_,hn,hX,hE,h=>wp_ret ((aP.intro ((Step.refl X).toN hn) hX hE).2.2 h)
 | .exit id,Q,X,e,a,_,_,hn,hX,hE,h=>wp_exit ((aP.intro ((Step.refl X).toN hn) hX hE).2.1 id h)
 | .label l,Q,X,e,a,_,_,hn,hX,hE,h=>wp_label ((aP.intro ((Step.refl X).toN hn) hX hE).1 h)
 | .scope b,Q,X,e,a,hk,hrf,hn,hX,hE,h=>by
  refine wp_scope_straight (wp_mono (dH bT b Q X e a hk hrf hn hX hE h) ?_);intro ex a' w' hp;cases ex<;>first | exact hp | exact hp.elim
 | .rangeFunc f ps ag b,Q,X,e,a,hk,hrf,hn,hX,hE,h=>by cases hrf
 | .region id ops false,Q,X,e,a,hk,hrf,hn,hX,hE,h=>by
  refine wp_region ?_;have:=Ar (P:=P) (Q:=aP (base ks) X N Q) (ops:=ops) (e1:=jm ops.toList e) (fun o ho=>mG ho e) hk ops.toList 0 X e a _ (fun i=>by rw [List.drop_zero]) hX hE (hE.del _) h
   (fun Y av v a' S hY hEY hr hp=>⟨v,av,Y,_,rfl,rfl,S.toN hn,hY,hEY,hr,hp⟩) (fun Y e' a' S hY hEY hq=>(aP.intro (S.toN hn) hY (hEY.keep L)).1 hq)
  rw [Array.length_toList, ←List.range_eq_range'] at this;exact this
 | .region id ops true,Q,X,e,a,hk,hrf,hn,hX,hE,h=>by
  by_cases hk2:kOf ks id=1000000
  ·have h':qy (kOf ks id) (HY P N ks id ops Q e X.h) _:=h;unfold qy at h';rw [if_pos hk2] at h';exact h' X a hn rfl hX hE
  have h':qy (kOf ks id) (HY P N ks id ops Q e X.h) _:=h;unfold qy at h';rw [if_neg hk2] at h';have hk':nO N (kOf ks id) ops=true:=by
   have h0:(nO N (kOf ks id) ops || decide (kOf ks id=1000000))=true:=hk;rw [aj hk2,Bool.or_false] at h0;exact h0
  exact J7 bT _ _ hk' hX hE h' (fun Y av v a' S hY hEY hr hp=>⟨v,av,Y,_,rfl,rfl,S.toN hn,hY,hEY,hr,hp⟩) fun Y e' a' S hY hEY hq=>(aP.intro (S.toN hn) hY (hEY.keep L)).1 hq
 | .seq x y,Q,X,e,a,hk,hrf,hn,hX,hE,h=>by
  simp only [dL,Bool.and_eq_true] at hk;simp only [Ac,Bool.and_eq_true] at hrf;refine wp_seq (wp_mono (dH bT x _ X e a hk.1 hrf.1 hn hX hE h) ?_);intro ex a' w' hp;have:=hp.elim;cases this with
  | ok z ex Y e' a' S hY hEY hq hx=>
   rcases hx with ⟨rfl,rfl⟩ | ⟨i,rfl,rfl⟩ | ⟨rfl,rfl⟩ | ⟨v,av,rfl,rfl,hr⟩
   ·exact wp_mono (dH bT y Q Y e' a' hk.2 hrf.2 S.len hY hEY hq) fun ex a2 w2 hp2=>hp2.map hX S fun _ _ _ q=>q
   ·exact (aP.intro S hY hEY).2.1 i hq
   ·exact (aP.intro S hY hEY).2.2 hq
   ·exact ⟨v,av,Y,e',rfl,rfl,S,hY,hEY,hr,hq⟩
 | .cond c x y,Q,X,e,a,hk,hrf,hn,hX,hE,h=>by
  simp only [dL,Bool.and_eq_true] at hk;simp only [Ac,Bool.and_eq_true] at hrf;obtain ⟨t,ht,h⟩:=h;have hr:=hE.dO c;rw [ht] at hr;have hv:a.eval c= .bool t:=by cases h1:a.eval c<;>rw [h1] at hr<;>cases hr;rfl
  refine wp_cond hv ?_;cases t
  ·exact dH bT y Q X e a hk.2 hrf.2 hn hX hE (by simpa using h)
  ·exact dH bT x Q X e a hk.1 hrf.1 hn hX hE (by simpa using h)
 | .block id b,Q,X,e,a,hk,hrf,hn,hX,hE,h=>by
  refine wp_block (wp_mono (dH bT b _ X e a hk hrf hn hX hE h) ?_);intro ex a' w' hp;have:=hp.elim;cases this with
  | ok z ex Y e' a' S hY hEY hq hx=>
   rcases hx with ⟨rfl,rfl⟩ | ⟨i,rfl,rfl⟩ | ⟨rfl,rfl⟩ | ⟨v,av,rfl,rfl,hr⟩
   ·exact (aP.intro S hY hEY).1 hq
   ·simp only at hq;show (if i=id then aP (base ks) X N Q .normal a' Y.w else aP (base ks) X N Q (.exit i) a' Y.w);split at hq
    ·next ei=>rw [if_pos ei];exact (aP.intro S hY hEY).1 hq
    ·next ei=>rw [if_neg ei];exact (aP.intro S hY hEY).2.1 i hq
   ·exact (aP.intro S hY hEY).2.2 hq
   ·exact ⟨v,av,Y,e',rfl,rfl,S,hY,hEY,hr,hq⟩
 | .loop b,Q,X,e,a,hk,hrf,hn,hX,hE,h=>by
  obtain ⟨I,n₀,e₀,h₀,hent,hI,CY⟩:=h;obtain ⟨Y₀,y1,y2,y3,y4,y5⟩:=hent X a rfl hn hX hE;rw [←y1];refine wp_loop_ghost (fun n a' w'=> ∃ Y e',Y.w=w'∧aT (base ks) X Y∧Ok Y∧aN Y N e' a'∧I n e' Y.h) n₀ ⟨Y₀,e₀,rfl,y3,y4,y5,by rw [y2];exact hI⟩ ?_;rintro n a' w' ⟨Y,e',rfl,S,hY,hEY,hIY⟩;refine wp_mono (dH bT b _ Y e' a' hk hrf S.len hY hEY (CY n e' Y.h hIY)) ?_;intro ex a2 w2 hp;have:=hp.elim;cases this with
  | ok z ex Z e2 a2 S2 hZ hEZ hq hx=>
   rcases hx with ⟨rfl,rfl⟩ | ⟨i,rfl,rfl⟩ | ⟨rfl,rfl⟩ | ⟨v,av,rfl,rfl,hr⟩
   ·obtain ⟨n',e₁,h₁,J8,hlt,hI2⟩:=hq;obtain ⟨V,v1,v2,v3,v4,v5⟩:=J8 Z a2 rfl S2.len hZ hEZ;exact ⟨n',hlt,V,e₁,v1,(S.trans hX S2).trans hX v3,v4,v5,by rw [v2];exact hI2⟩
   ·exact (aP.intro (S.trans hX S2) hZ hEZ).2.1 i hq
   ·exact (aP.intro (S.trans hX S2) hZ hEZ).2.2 hq
   ·exact ⟨v,av,Z,e2,rfl,rfl,S.trans hX S2,hZ,hEZ,hr,hq⟩
 | .goto _,_,_,_,_,_,_,_,_,_,h=>h.elim
 | .refuse _,_,_,_,_,_,_,_,_,_,h=>h.elim
def EK (P:Program) (rs:Array ResultVar) (Q p:AV→Hp→Prop):dA:=fun x e h=>match x with
 | .exit _=>False
 | .panic av=> ∃ r' h',dZ h av=some (r',h')∧p r' h'
 | _=> ∃ r r' h',uQ P h e rs=some r∧dZ h r=some (r',h')∧Q r' h'
def Fin (P:Program) (rs:Array ResultVar) (Q:AV→Hp→Prop):dA:=EK P rs Q fun _ _=>False
def Cx.def_ (X:Cx) (d:List Deferred):Cx:=⟨X.w,X.m,X.h,X.bad,d⟩
variable {d:List Deferred}{x:Value}
theorem Rep.def_ {a:AV}  (h:Rep X a x):Rep (X.def_ d) a x:=Rep.ext (X:=X) (Y:=X.def_ d) (hs:=[]) rfl rfl (by simp [Cx.def_]) (fun _ _=>rfl) (fun c hc=> .inl hc) h
theorem Ok.def_ (h : Ok X) : Ok (X.def_ d) :=
  ⟨fun id c hh => by
    obtain ⟨b, cvs, T, h1, h2, h3, h4, h5⟩ := h.blk id c hh;exact ⟨b, cvs, T, h1, h2, h3, h4, fun i a x q1 q2 => (h5 i a x q1 q2).def_⟩,
   fun id T s c fz hh => by
    obtain ⟨g1, g2, n, g3, g4⟩ := h.arr id T s c fz hh;refine ⟨g1, g2, n, g3, g4.imp (fun q => q) ?_⟩;rintro ⟨b, cvs, g4⟩;exact ⟨b, cvs, ⟨g4.at_, g4.blk, g4.cap, g4.iQ, g4.sz, g4.bad, fun i a x q1 q2 => (g4.rep i a x q1 q2).def_, g4.good⟩⟩,
   h.inj, h.dX, fun id es hh => by
    obtain ⟨b, ents, clock, h1, h2, h3, h4⟩ := h.map id es hh;exact ⟨b, ents, clock, h1, h2, h3, fun i p e q1 q2 => ⟨(h4 i p e q1 q2).1, (h4 i p e q1 q2).2.def_⟩⟩⟩
theorem Step.undef (S:Step (X.def_ d) Y):Step X (Y.def_ X.ds):=
 ⟨S.os,S.tape,S.output,S.size,S.block,S.keep,S.len,S.oh,S.l7,S.own,S.nC,S.omap,rfl⟩
theorem aT.re {n:Nat}  {d2:List Deferred} (S:aT n (X.def_ d) Y):aT n (X.def_ d2) (Y.def_ d2):=
 ⟨S.os,S.tape,S.output,S.size,S.block,S.keep,S.len,S.oh,S.l7,S.own,S.nC,S.omap,rfl⟩
variable {o:Option (List Deferred)}
theorem Ok.noD (hX:Ok X) {D:Nat}  (h:X.w.heap[D]? =some (.deferred o)): ¬ X.mine D:=by
 rintro ⟨i,⟨ob,ho⟩,hb⟩;cases ob with
 | blk cells=>
  obtain ⟨b',cvs,T,h1,h2,_⟩:=hX.blk i cells ho;rw [h1] at hb;injection hb with hb;subst hb;rw [h] at h2;cases h2
 | arr T size cells fz=>
  obtain ⟨_,_,n,_,h1 | ⟨b',cvs,h1⟩⟩:=hX.arr i T size cells fz ho
  ·rw [h1.1] at hb;cases hb
  ·have h2:=h1.at_;rw [h2] at hb;injection hb with hb;subst hb;have:=h1.blk;rw [h] at this;cases this
 | map es=>
  obtain ⟨b',ents,clock,h1,h2,_⟩:=hX.map i es ho;rw [h1] at hb;injection hb with hb;subst hb;rw [h] at h2;cases h2
theorem aP.toL (h:aP n0 X N Q ex a w):gy n0 X N Q ex a w:=by
 have hd:a.defers=X.ds:=by
  have:=h.elim;cases this with
  | ok x ex Y e a S hY hE hq hx=>exact hE.defers.trans S.dse
 refine ⟨[],by simp [hd],⟨List.nodup_nil,fun D h=>by cases h⟩,?_⟩;rw [←hd];exact h
theorem gy.lift {Q':dA}  {a2:Act} {w2:World} {l:List Nat} (hX:Ok X) (S:aT n0 X Y) (hY:Ok Y) (hM:Marks X.w.heap.size Y.w l) (h:gy n0 (Y.def_ (l.map uD++X.ds)) N Q ex a2 w2) (hq: ∀ x e h,Q x e h→Q' x e h):gy n0 X N Q' ex a2 w2:=by
 obtain ⟨l2,e1,M2,hp⟩:=h;obtain ⟨a3,ha3⟩: ∃ a3,a3={a2 with defers:=(Y.def_ (l.map uD++X.ds)).ds}:=⟨_,rfl⟩
 rw [←ha3] at hp;have:=hp.elim;cases this with
 | ok x ex Z e a3 T hZ hE hQ hx=>
  have T1:aT n0 Y (Z.def_ Y.ds):=aT.re (X:=Y) (d:=l.map uD++X.ds) (d2:=Y.ds) T;have T2:aT n0 X (Z.def_ X.ds):=by
   have:=S.trans hX T1;rw [show Y.ds=X.ds from S.dse] at this;exact this
  refine ⟨l2++l,?_,⟨?_,fun D hD=>?_⟩,?_⟩
  ·rw [e1,List.map_append,List.append_assoc];rfl
  ·rw [List.nodup_append];refine ⟨M2.dis,hM.dis,fun D1 h1 D2 h2 e=>?_⟩;have g1:=(M2.at_ D1 h1).1;have g2:=(Array.getElem?_eq_some_iff.1 (hM.at_ D2 h2).2).1;subst e;exact absurd g1 (by show ¬ Y.w.heap.size≤D1;omega)
  ·rcases List.mem_append.1 hD with h1 | h1
   ·exact ⟨Nat.le_trans S.size (M2.at_ D h1).1,(M2.at_ D h1).2⟩
   ·obtain ⟨g1,g2⟩:=hM.at_ D h1;refine ⟨g1,?_⟩;rw [T.block D (Array.getElem?_eq_some_iff.1 g2).1 (hY.noD g2)];exact g2
  ·have hE2:aN (Z.def_ X.ds) N e {a2 with defers:=X.ds}:=by
    have ht:a3.tmps=a2.tmps:=by rw [ha3]
    refine ⟨rfl,by rw [←ht];exact hE.size,fun d=>?_⟩;have:=(hE.rep d).def_ (d:=X.ds);rw [ht] at this;exact this
   refine uS.intro (.ok x ex (Z.def_ X.ds) e _ T2 hZ.def_ hE2 (hq _ _ _ hQ) ?_);rcases hx with h | h | h | ⟨v,av,h1,h2,h3⟩
   ·exact .inl h
   ·exact .inr (.inl h)
   ·exact .inr (.inr (.inl h))
   ·exact .inr (.inr (.inr ⟨v,av,h1,h2,h3.def_⟩))
theorem gy.open (h:gy n0 X N Q ex a w):
  ∃ (x:Ex) (Y:Cx) (e:Ev) (l:List Nat),Y.w=w∧a.defers=l.map uD++X.ds∧Marks X.w.heap.size w l∧aT n0 X Y∧Ok Y∧aN Y N e {a with defers:=X.ds}∧aN (Y.def_ a.defers) N e a∧Q x e Y.h∧((x= .normal∧ex= .normal)∨(∃ i,x= .exit i∧ex= .exit i)∨(x= .ret∧ex= .ret)∨ ∃ v av,x= .panic av∧ex= .panic [{v,recovered:=false}]∧Rep Y av v):=by
 obtain ⟨l,e1,M,hp⟩:=h;obtain ⟨a3,ha3⟩: ∃ a3,a3={a with defers:=X.ds}:=⟨_,rfl⟩
 rw [←ha3] at hp;have:=hp.elim;cases this with
 | ok x ex Y e a3 T hY hE hQ hx=>
  have ht:a3.tmps=a.tmps:=by rw [ha3]
  refine ⟨x,Y,e,l,rfl,e1,M,T,hY,by rw [←ha3];exact hE,⟨rfl,by rw [←ht];exact hE.size,fun d=>?_⟩,hQ,hx⟩;have:=(hE.rep d).def_ (d:=a.defers);rw [ht] at this;exact this
theorem gy.close {x:Ex}    {l:List Nat} (e1:a.defers=l.map uD++X.ds) (M:Marks X.w.heap.size Y.w l) (S:aT n0 X Y) (hY:Ok Y) (hE:aN Y N e {a with defers:=X.ds}) (hQ:Q x e Y.h)
  (hx:(x= .normal∧ex= .normal)∨(∃ i,x= .exit i∧ex= .exit i)∨(x= .ret∧ex= .ret)∨ ∃ v av,x= .panic av∧ex= .panic [{v,recovered:=false}]∧Rep Y av v):gy n0 X N Q ex a Y.w:=
 ⟨l,e1,M,uS.intro (.ok x ex Y e _ S hY hE hQ hx)⟩
theorem fQ {P:Program} (bT:P.follows .mixedOrders=true) {N:Nat} {L:List Nat} {ks:List (Nat × Nat)}: ∀ (c:Code) (Q:dA) (X:Cx) (e:Ev) (a:Act),dL N ks c=true→base ks≤X.h.length→Ok X→aN X N e a→bP P N L ks c Q e X.h→c.wp P (gy (base ks) X N Q) a X.w
 | .skip,Q,X,e,a,hk,hn,hX,hE,h=>wp_mono (dH bT (L:=L) (ks:=ks) .skip Q X e a hk rfl hn hX hE h) fun _ _ _ q=>q.toL
 | .ret,Q,X,e,a,hk,hn,hX,hE,h=>wp_mono (dH bT (L:=L) (ks:=ks) .ret Q X e a hk rfl hn hX hE h) fun _ _ _ q=>q.toL
 | .exit id,Q,X,e,a,hk,hn,hX,hE,h=>wp_mono (dH bT (L:=L) (ks:=ks) (.exit id) Q X e a hk rfl hn hX hE h) fun _ _ _ q=>q.toL
 | .label l,Q,X,e,a,hk,hn,hX,hE,h=>wp_mono (dH bT (L:=L) (ks:=ks) (.label l) Q X e a hk rfl hn hX hE h) fun _ _ _ q=>q.toL
 | .region id ops d,Q,X,e,a,hk,hn,hX,hE,h=>wp_mono (dH bT (L:=L) (ks:=ks) (.region id ops d) Q X e a hk rfl hn hX hE h) fun _ _ _ q=>q.toL
 | .scope b,Q,X,e,a,hk,hn,hX,hE,h=>by
  refine wp_scope_straight (wp_mono (fQ bT b Q X e a hk hn hX hE h) ?_);intro ex a' w' hp;cases ex with
  | goto t=>obtain ⟨_,_,_,hp⟩:=hp;exact False.elim hp
  | _=>exact hp
 | .rangeFunc f ps ag b,Q,X,e,a,hk,hn,hX,hE,h=>h X a hn rfl hX hE
 | .seq x y,Q,X,e,a,hk,hn,hX,hE,h=>by
  simp only [dL,Bool.and_eq_true] at hk;refine wp_seq (wp_mono (fQ bT x _ X e a hk.1 hn hX hE h) ?_);intro ex a' w' hp;obtain ⟨z,Y,e',l,rfl,e1,M,S,hY,hE1,hE2,hq,hx⟩:=hp.open;rcases hx with ⟨rfl,rfl⟩ | ⟨i,rfl,rfl⟩ | ⟨rfl,rfl⟩ | ⟨v,av,rfl,rfl,hr⟩
  ·refine wp_mono (fQ bT y Q (Y.def_ a'.defers) e' a' hk.2 S.len hY.def_ hE2 hq) fun ex a2 w2 hp2=>?_
   rw [e1] at hp2;exact gy.lift hX S hY M hp2 fun _ _ _ q=>q
  ·exact gy.close e1 M S hY hE1 hq (.inr (.inl ⟨i,rfl,rfl⟩))
  ·exact gy.close e1 M S hY hE1 hq (.inr (.inr (.inl ⟨rfl,rfl⟩)))
  ·exact gy.close e1 M S hY hE1 hq (.inr (.inr (.inr ⟨v,av,rfl,rfl,hr⟩)))
 | .cond c x y,Q,X,e,a,hk,hn,hX,hE,h=>by
  simp only [dL,Bool.and_eq_true] at hk;obtain ⟨t,ht,h⟩:=h;have hr:=hE.dO c;rw [ht] at hr;have hv:a.eval c= .bool t:=by cases h1:a.eval c<;>rw [h1] at hr<;>cases hr;rfl
  refine wp_cond hv ?_;cases t
  ·exact fQ bT y Q X e a hk.2 hn hX hE (by simpa using h)
  ·exact fQ bT x Q X e a hk.1 hn hX hE (by simpa using h)
 | .block id b,Q,X,e,a,hk,hn,hX,hE,h=>by
  refine wp_block (wp_mono (fQ bT b _ X e a hk hn hX hE h) ?_);intro ex a' w' hp;obtain ⟨z,Y,e',l,rfl,e1,M,S,hY,hE1,hE2,hq,hx⟩:=hp.open;rcases hx with ⟨rfl,rfl⟩ | ⟨i,rfl,rfl⟩ | ⟨rfl,rfl⟩ | ⟨v,av,rfl,rfl,hr⟩
  ·exact gy.close e1 M S hY hE1 hq (.inl ⟨rfl,rfl⟩)
  ·simp only at hq;show (if i=id then gy (base ks) X N Q .normal a' Y.w else gy (base ks) X N Q (.exit i) a' Y.w);split at hq
   ·next ei=>rw [if_pos ei];exact gy.close e1 M S hY hE1 hq (.inl ⟨rfl,rfl⟩)
   ·next ei=>rw [if_neg ei];exact gy.close e1 M S hY hE1 hq (.inr (.inl ⟨i,rfl,rfl⟩))
  ·exact gy.close e1 M S hY hE1 hq (.inr (.inr (.inl ⟨rfl,rfl⟩)))
  ·exact gy.close e1 M S hY hE1 hq (.inr (.inr (.inr ⟨v,av,rfl,rfl,hr⟩)))
 | .loop b,Q,X,e,a,hk,hn,hX,hE,h=>by
  obtain ⟨I,n₀,e₀,h₀,hent,hI,CY⟩:=h;obtain ⟨Y₀,y1,y2,y3,y4,y5⟩:=hent X a rfl hn hX hE;rw [←y1];have hd0:a.defers=X.ds:=hE.defers;refine wp_loop_ghost (fun n a' w'=> ∃ Y e' l,Y.w=w'∧a'.defers=l.map uD++X.ds∧Marks X.w.heap.size w' l∧aT (base ks) X Y∧Ok Y∧aN Y N e' {a' with defers:=X.ds}∧I n e' Y.h) n₀
   ⟨Y₀,e₀,[],rfl,by simp [hd0],⟨List.nodup_nil,fun D h=>by cases h⟩,y3,y4,by rw [←hd0];exact y5,by rw [y2];exact hI⟩ ?_
  rintro n a' w' ⟨Y,e',l,rfl,e1,M,S,hY,hEY,hIY⟩;have hE2:aN (Y.def_ a'.defers) N e' a':=⟨rfl,hEY.size,fun d=>(hEY.rep d).def_⟩
  refine wp_mono (fQ bT b _ (Y.def_ a'.defers) e' a' hk S.len hY.def_ hE2 (CY n e' Y.h hIY)) ?_;intro ex a2 w2 hp;rw [e1] at hp;have hp':=gy.lift (Q':=fun x e'' h''=>match x with | .normal=> ∃ n' e₁ h₁,Ent (base ks) N e'' h'' e₁ h₁∧n'<n∧I n' e₁ h₁ | x=>Q x e'' h'') hX S hY M hp fun _ _ _ q=>q
  obtain ⟨z,Z,e2,l2,rfl,e3,M2,S2,hZ,hEZ,_,hq,hx⟩:=hp'.open;rcases hx with ⟨rfl,rfl⟩ | ⟨i,rfl,rfl⟩ | ⟨rfl,rfl⟩ | ⟨v,av,rfl,rfl,hr⟩
  ·obtain ⟨n',e₁,h₁,J8,hlt,hI2⟩:=hq;obtain ⟨V,v1,v2,v3,v4,v5⟩:=J8 Z {a2 with defers:=X.ds} rfl S2.len hZ hEZ;exact ⟨n',hlt,V,e₁,l2,v1,e3,M2,S2.trans hX v3,v4,v5,by rw [v2];exact hI2⟩
  ·exact gy.close e3 M2 S2 hZ hEZ hq (.inr (.inl ⟨i,rfl,rfl⟩))
  ·exact gy.close e3 M2 S2 hZ hEZ hq (.inr (.inr (.inl ⟨rfl,rfl⟩)))
  ·exact gy.close e3 M2 S2 hZ hEZ hq (.inr (.inr (.inr ⟨v,av,rfl,rfl,hr⟩)))
 | .goto _,_,_,_,_,_,_,_,_,h=>h.elim
 | .refuse _,_,_,_,_,_,_,_,_,h=>h.elim
def shut (w:World):List Nat→World
 | []=>w
 | D::l=>shut (w.putObj D (.deferred none)) l
theorem iZ {P:Program} {fn:Func} {tmps:Array Value} {R:Ending→World→Prop} {n m:Nat} {u:FrameMode} (hu:u≠ .run): ∀ (l:List Nat) (w:World),Marks n w l→LeavesIn Fence.wide m P fn tmps R [] u (shut w l)→LeavesInM Fence.wide m P fn tmps R (l.map uD) u w
 | [],w,_,h=>h
 | D::l,w,M,h=>by
  have hD:=(M.at_ D (List.mem_cons_self ..)).2;have hn:=List.nodup_cons.1 M.dis;refine ⟨hu, .inl ⟨D,_,rfl,run_takeDeferred hD,iZ (n:=n) hu l _ ⟨hn.2,fun D' h'=>?_⟩ h⟩⟩;obtain ⟨g1,g2⟩:=M.at_ D' (List.mem_cons_of_mem _ h');have hne:D'≠D:=fun e=>by subst e;exact hn.1 h'
  exact ⟨g1,by rw [World.putObj_heap_other hne];exact g2⟩
theorem qR {D:Nat}  (h:w.heap[D]? =some (.deferred o)) (o':Obj) {b off:Nat}  (hx:cellAt w b off=some x):cellAt (w.putObj D o') b off=some x:=by
 have hne:b≠D:=fun e=>by
  subst e;unfold cellAt World.cell? at hx;simp [h] at hx
 unfold cellAt World.cell? at hx ⊢;rw [World.putObj_heap_other hne];exact hx
theorem Rep.shut {D:Nat}  (hD:X.w.heap[D]? =some (.deferred o)) (o':Obj) {a:AV}  (h:Rep X a x):Rep ⟨X.w.putObj D o',X.m,X.h,X.bad,X.ds⟩ a x:=by
 induction h with
 | v x=>exact .v x
 | none x=>exact .none x
 | t hl hc hn hcap hp hr ih=>
  refine .t hl hc hn hcap (fun h0=>?_) ih;obtain ⟨b,off,e,k⟩:=hp h0;exact ⟨b,off,e,fun i x hx=>⟨qR hD o' (k i x hx).1,(k i x hx).2⟩⟩
 | g hc hr ih=>exact .g hc ih
 | tup hc hr ih=>exact .tup hc ih
 | tp hc hp hr ih=>exact .tp hc (fun i x hx=>⟨qR hD o' (hp i x hx).1,(hp i x hx).2⟩) ih
 | fn h1 h2 r1 r2 ih1 ih2=>exact .fn h1 h2 ih1 ih2
 | ifc h ih=>exact .ifc ih
 | e0 b=>exact .e0 b
 | own hid h=>exact .own hid h
 | ptr hid h=>exact .ptr hid h
 | ap hid h=>exact .ap hid h
 | mp hid h=>exact .mp hid h
 | tm hb hm hl hk hr ih=>
  refine .tm (by show (X.w.putObj D o').heap[_]? =_;rw [World.putObj_heap_other (fun e=>by subst e;rw [hD] at hb;cases hb)];exact hb) hm hl hk ih
theorem Ok.shut (hX:Ok X) {D:Nat}  (hD:X.w.heap[D]? =some (.deferred o)) (o':Obj):Ok ⟨X.w.putObj D o',X.m,X.h,X.bad,X.ds⟩:=by
 have other: ∀ {b:Nat} {ob:Obj},X.w.heap[b]? =some ob→(∀ q,ob≠ .deferred q)→(X.w.putObj D o').heap[b]? =some ob:=fun {b ob} h1 h2=>by
  rw [World.putObj_heap_other (fun e=>by subst e;rw [hD] at h1;injection h1 with h1;exact h2 o h1.symm)];exact h1
 refine ⟨fun id cells hh=>?_,fun id T size cells fz hh=>?_,fun i j b hi hj=>hX.inj i j b hi hj,fun b o2 hb=>?_,fun id es hh=>?_⟩
 ·obtain ⟨b,cvs,T,h1,h2,h3,h4,h5⟩:=hX.blk id cells hh;exact ⟨b,cvs,T,h1,other h2 (fun q e=>by cases e),h3,h4,fun i a x g1 g2=>(h5 i a x g1 g2).shut hD o'⟩
 ·obtain ⟨g1,g2,n,g3,g4⟩:=hX.arr id T size cells fz hh;refine ⟨g1,g2,n,g3,?_⟩;rcases g4 with g4 | ⟨b,cvs,g4⟩
  ·exact .inl g4
  ·exact .inr ⟨b,cvs,⟨g4.at_,other g4.blk (fun q e=>by cases e),g4.cap,g4.iQ,g4.sz,g4.bad,fun i a x q1 q2=>(g4.rep i a x q1 q2).shut hD o',g4.good⟩⟩
 ·have:=hX.dX b o2 hb;show b<(X.w.putObj D o').heap.size;simpa [World.putObj] using this
 ·obtain ⟨b,ents,clock,h1,h2,h3,h4⟩:=hX.map id es hh;exact ⟨b,ents,clock,h1,other h2 (fun q e=>by cases e),h3,fun i p e q1 q2=>⟨(h4 i p e q1 q2).1,(h4 i p e q1 q2).2.shut hD o'⟩⟩
theorem aT.shut {n:Nat}  (S:aT k X Y) {D:Nat}  (hD:Y.w.heap[D]? =some (.deferred o)) (hn:X.w.heap.size≤D) (o':Obj):aT k X ⟨Y.w.putObj D o',Y.m,Y.h,Y.bad,Y.ds⟩:=
 ⟨S.os,S.tape,S.output,by show _≤(Y.w.putObj D o').heap.size;simpa [World.putObj] using S.size,fun b hb hm=>by
  show (Y.w.putObj D o').heap[b]? =_;rw [World.putObj_heap_other (by omega)];exact S.block b hb hm,fun b o2 x hx hb=>⟨qR hD o' (S.keep b o2 x hx hb).1,(S.keep b o2 x hx hb).2⟩,S.len,S.oh,S.l7,S.own,S.nC,S.omap,S.dse⟩
theorem CZ {k:Nat} {X:Cx}: ∀ (l:List Nat) (Y:Cx),aT k X Y→Ok Y→Marks X.w.heap.size Y.w l→ ∃ Z,Z.w=shut Y.w l∧Z.h=Y.h∧Z.ds=Y.ds∧aT k X Z∧Ok Z∧ ∀ (a:AV) (v:Value),Rep Y a v→Rep Z a v
 | [],Y,S,hY,_=>⟨Y,rfl,rfl,rfl,S,hY,fun _ _ h=>h⟩
 | D::l,Y,S,hY,M=>by
  obtain ⟨g1,hD⟩:=M.at_ D (List.mem_cons_self ..);have hn:=List.nodup_cons.1 M.dis;obtain ⟨Z,z1,z2,z3,z4,z5,z6⟩:=CZ l ⟨Y.w.putObj D (.deferred none),Y.m,Y.h,Y.bad,Y.ds⟩ (S.shut (n:=k) hD g1 _) (hY.shut hD _) ⟨hn.2,fun D' h'=>by
   obtain ⟨q1,q2⟩:=M.at_ D' (List.mem_cons_of_mem _ h');have hne:D'≠D:=fun e=>by subst e;exact hn.1 h'
   exact ⟨q1,by show (Y.w.putObj D _).heap[D']? =_;rw [World.putObj_heap_other hne];exact q2⟩⟩
  exact ⟨Z,z1,z2,z3,z4,z5,fun a v h=>z6 a v (h.shut hD _)⟩
variable {args:List AV}{body:Code}{f:FuncId}{fn:Func}
theorem HTP.of {h:Hp} {L:List Nat} {ks:List (Nat × Nat)} {R:AV→Hp→Prop} (bT:P.follows .mixedOrders=true) (hf:P.funcs[f]? =some fn) (hb:fn.body=some body) (hp:lM P f=true) (hk:dL fn.ntmps ks body=true) (hN:args.length≤fn.ntmps) (hbs:base ks=h.length)
  (hw:bP P fn.ntmps L ks body (EK P fn.results R p) (qM 0 args) h):HTP P f args h R p:=by
 refine ⟨hp,fun X vs hX hh hr=>?_⟩;subst hh;have hX':Ok (X.def_ []):=hX.def_;have hr':fJ (X.def_ []) args vs:=⟨hr.1,fun i a x h1 h2=>(hr.2 i a x h1 h2).def_⟩
 refine (callsIn_wide (n:=0)).1 (callsIn_of_wp_marks hf hb trivial (wpIn_wide.2 (wp_mono (fQ bT body _ (X.def_ []) _ _ hk (by rw [hbs];exact Nat.le_refl _) hX' (CS rfl hr' hN) hw) ?_)) rfl);intro ex a' w' hpost;obtain ⟨z,Y,e',l,rfl,e1,M,SN,hY,hEY,_,hq,hx⟩:=hpost.open;rw [hbs] at SN;have hd:a'.defers=l.map uD:=by rw [e1];exact List.append_nil _
 obtain ⟨Z,z1,z2,z3,z4,z5,z6⟩:=CZ l Y SN hY M;have S:=aT.full (X:=X.def_ []) z4;have hEZ:aN Z fn.ntmps e' {a' with defers:=[]}:=⟨by rw [z3];exact hEY.defers,hEY.size,fun d=>z6 _ _ (hEY.rep d)⟩
 have key:(∃ r r' h',uQ P Y.h e' fn.results=some r∧dZ Y.h r=some (r',h')∧R r' h')→LeavesIn Fence.wide 0 P fn a'.tmps (fun e w'=> ∃ u V av,V.w=w'∧Step X V∧Ok V∧Rep V av u∧((e= .returned u∧R av V.h)∨(e= .panicked [{v:=u,recovered:=false}]∧p av V.h))) [] .returning (shut Y.w l):=by
  rintro ⟨r,r',h',h1,h2,h3⟩;rw [←z2] at h1 h2;obtain ⟨v,q1,q2⟩:=Au (fn:=fn) z5 hEZ h1;obtain ⟨V,v1,v2,v3,v4,v5⟩:=sK Z r r' h' v z5 h2 q2;rw [←z1];exact ⟨v,q1,v,V.def_ X.ds,r',v1,(S.trans hX' v2).undef,v3.def_,v5.def_, .inl ⟨rfl,by show R r' V.h;rw [v4];exact h3⟩⟩
 rcases hx with ⟨rfl,rfl⟩ | ⟨i,rfl,rfl⟩ | ⟨rfl,rfl⟩ | ⟨v,av,rfl,rfl,hrv⟩
 ·show LeavesInM Fence.wide 0 P fn a'.tmps _ a'.defers .returning Y.w;rw [hd];exact iZ (by simp) l _ M (key hq)
 ·exact hq.elim
 ·show LeavesInM Fence.wide 0 P fn a'.tmps _ a'.defers .returning Y.w;rw [hd];exact iZ (by simp) l _ M (key hq)
 ·obtain ⟨r',h',h2,h3⟩:=hq;show LeavesInM Fence.wide 0 P fn a'.tmps _ a'.defers (.panicking _) Y.w;rw [hd];refine iZ (by simp) l _ M ?_;rw [←z2] at h2;obtain ⟨V,v1,v2,v3,v4,v5⟩:=sK Z av r' h' v z5 h2 (z6 _ _ hrv);rw [←z1];exact ⟨v,V.def_ X.ds,r',v1,(S.trans hX' v2).undef,v3.def_,v5.def_, .inr ⟨rfl,by show p r' V.h;rw [v4];exact h3⟩⟩
theorem HT.of {h:Hp} {L:List Nat} {ks:List (Nat × Nat)} {R:AV→Hp→Prop} (bT:P.follows .mixedOrders=true) (hf:P.funcs[f]? =some fn) (hb:fn.body=some body) (hp:lM P f=true) (hk:dL fn.ntmps ks body=true) (hN:args.length≤fn.ntmps) (hbs:base ks=h.length)
  (hw:bP P fn.ntmps L ks body (Fin P fn.results R) (qM 0 args) h):HT P f args h R:=
 HTP.toT (HTP.of bT hf hb hp hk hN hbs hw) fun _ _ q=>q
theorem TC.of {res:AV} (L:List Nat) (ks:List (Nat × Nat)) (bT:P.follows .mixedOrders=true) (hf:P.funcs[f]? =some fn) (hb:fn.body=some body) (hp:lM P f=true) (hk:dL fn.ntmps ks body=true) (hN:args.length≤fn.ntmps) (hbs:base ks=0) (hc:Clo res)
  (hw:bP P fn.ntmps L ks body (Fin P fn.results fun r _=>r=res) (qM 0 args) []):TC P f args res:=TC.Wn (HT.of bT hf hb hp hk hN hbs hw) hc
end
end Go.Proofs.YtljfgdlgmdcmfaaGreat.Wv
