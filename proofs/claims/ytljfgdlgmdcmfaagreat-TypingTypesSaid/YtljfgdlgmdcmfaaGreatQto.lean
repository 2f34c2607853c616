/- Parts of a proof. -/
import Derived.Test.YtljfgdlgmdcmfaaGreatQtn
import Derived.Test.YtljfgdlgmdcmfaaGreatQtf
import Derived.Test.YtljfgdlgmdcmfaaGreatQtj
import Derived.Test.YtljfgdlgmdcmfaaGreatQtm
import Derived.Deep.QuietTactic
import Derived.BigQuiet
import Derived.Test.YtljfgdlgmdcmfaaGreatQth
set_option linter.unusedVariables false
set_option linter.unusedSimpArgs false
set_option maxHeartbeats 3200000
set_option maxRecDepth 100000
namespace Go.Proofs.YtljfgdlgmdcmfaaGreat
section
open Go.RowKit Wv
theorem yR {f g:Nat→Except Int (Bool × Nat)}: ∀ {n:Nat},(∀ i,i<n→f i=g i)→dI f n=dI g n
 | 0,_=>rfl
 | n+1,h=>by
  unfold dI
  rw [yR fun i hi=>h i (by omega),h n (by omega)]
def Xn (w:Nat × Int):Except Int Nat:=if w.2=0 then .ok w.1 else .error w.2
theorem abX (kn:Bool) (d:Nat) (w:Nat × Int):He kn d (Xn w)=uz w (kn,d):=by
 unfold Xn uz
 by_cases h:w.2=0
 ·rw [if_pos h,if_pos h];rfl
 ·rw [if_neg h,if_neg h];rfl
theorem Dz (a:Nat) (b:Bool):Xn (a,szR b)=if b=true then .ok a else .error 233:=by
 cases b<;>rfl
theorem Vt (a:Nat) (c:Prop) [Decidable c]:Xn (if c then (a,0) else (0,233))=if c then .ok a else .error 233:=by
 split<;>rfl
theorem NU (t nl:Nat) (li:Nat→Int):(nl=t∧jW t nl li 0 t=true)↔jW t nl li t t=true:=by
 constructor
 ·rintro ⟨rfl,h⟩
  unfold jW at h ⊢
  rw [Bool.and_eq_true] at h
  rw [h.2,decide_eq_true (Int.le_refl _)];rfl
 ·intro h
  have h1:=U6 h
  refine ⟨h1.1,?_⟩
  unfold jW at h ⊢
  rw [Bool.and_eq_true] at h
  rw [h.2,decide_eq_true (show (0:Int)≤nl by omega)];rfl
theorem Xo (x:Par) (t:Nat) (o:Option (Bool × Nat)) (k:Int) (s:ByteArray) (n:Int) (nl:Nat) (li:Nat→Int) (na:Nat) (ar:Nat→Ex) (u:Nat) (h2:2≤t) (hk:k≠1) (hu:u≤2):
  ruA x t (.mk k s n nl li na ar) u=Xn (uy x.n x.r t o k n nl li u):=by
 unfold ruA uy
 dsimp only
 rw [if_neg hk]
 by_cases k2:k=2
 ·rw [if_pos k2,if_pos k2,Dz]
 rw [if_neg k2,if_neg k2]
 by_cases k3:k=3
 ·rw [if_pos k3,if_pos k3,Dz]
 rw [if_neg k3,if_neg k3]
 by_cases k7:k=7
 ·subst k7
  show (Except.ok (if u<2 then 0 else 1):Except Int Nat)=Xn (if u=2 then 1 else 0,0)
  by_cases hq:u=2
  ·rw [if_pos hq,if_neg (show ¬ u<2 by omega)];rfl
  ·rw [if_neg hq,if_pos (show u<2 by omega)];rfl
 rw [if_neg k7]
 by_cases k8:k=8
 ·rw [if_pos k8,if_pos k8,Dz];rfl
 rw [if_neg k8,if_neg k8]
 by_cases k10:k=10
 ·rw [if_pos k10,if_pos k10,Dz];rfl
 rw [if_neg k10,if_neg k10]
 by_cases k14:k=14
 ·rw [if_pos k14,if_pos k14,Dz];rfl
 rw [if_neg k14,if_neg k14,if_neg k7]
 by_cases k11:k=11
 ·rw [if_pos k11,if_pos (show k=11∨k=13∨k=12 from .inl k11)]
  unfold Pz DU
  by_cases hr:x.r=1
  ·by_cases ht:t≤256
   ·rw [decide_eq_true hr,decide_eq_true (show (t:Int)≤256 by omega),if_pos (show (true && true)=true from rfl),if_pos (show x.r=1∧(k=12∨t≤256) from ⟨hr, .inr ht⟩)]
    unfold Ia
    rw [if_pos k11,Vt,abJ h2]
    by_cases hl:jW t nl li t t=true
    ·rw [if_pos hl,if_pos ((NU t nl li).2 hl)]
    ·rw [if_neg hl,if_neg fun h=>hl ((NU t nl li).1 h)]
   ·rw [decide_eq_false (show ¬ (t:Int)≤256 by omega),Bool.and_false,if_neg (by decide),if_neg (show ¬ (x.r=1∧(k=12∨t≤256)) by omega)];rfl
  ·rw [decide_eq_false hr,Bool.false_and,if_neg (by decide),if_neg (show ¬ (x.r=1∧(k=12∨t≤256)) from fun h=>hr h.1)];rfl
 rw [if_neg k11]
 by_cases k13:k=13
 ·rw [if_pos k13,if_pos (show k=11∨k=13∨k=12 from .inr (.inl k13))]
  unfold PD DU
  by_cases hr:x.r=1
  ·by_cases ht:t≤256
   ·rw [decide_eq_true hr,decide_eq_true (show (t:Int)≤256 by omega),if_pos (show (true && true)=true from rfl),if_pos (show x.r=1∧(k=12∨t≤256) from ⟨hr, .inr ht⟩)]
    unfold Ia
    rw [if_neg k11,if_pos k13,Vt,abJ h2]
   ·rw [decide_eq_false (show ¬ (t:Int)≤256 by omega),Bool.and_false,if_neg (by decide),if_neg (show ¬ (x.r=1∧(k=12∨t≤256)) by omega)];rfl
  ·rw [decide_eq_false hr,Bool.false_and,if_neg (by decide),if_neg (show ¬ (x.r=1∧(k=12∨t≤256)) from fun h=>hr h.1)];rfl
 rw [if_neg k13]
 by_cases k12:k=12
 ·rw [if_pos k12,if_pos (show k=11∨k=13∨k=12 from .inr (.inr k12))]
  by_cases hr:x.r=1
  ·rw [if_pos hr,if_pos (show x.r=1∧(k=12∨t≤256) from ⟨hr, .inl k12⟩)]
   unfold Ia
   rw [if_neg k11,if_neg k13];rfl
  ·rw [if_neg hr,if_neg (show ¬ (x.r=1∧(k=12∨t≤256)) from fun h=>hr h.1)];rfl
 rw [if_neg k12,if_neg (by omega)];rfl
theorem Xp {s:ByteArray} {n:Int} {nl:Nat} {li:Nat→Int} {na:Nat} {ar:Nat→Ex} (h:cu (.mk 1 s n nl li na ar)=true):na=0:=by
 unfold cu at h
 simp only [Bool.and_eq_true,Bool.not_eq_true',decide_eq_true_eq,decide_eq_false_iff_not] at h
 have:=h.2.2.2.1
 have e:argN (1:Int).toNat=0:=rfl
 rw [e] at this
 omega
theorem Vu (x:Par) (t:Nat) (ns:Nms) (fd:ByteArray→Option (Bool × Nat)) (h2:2≤t) (hfd: ∀ s,bI ns s=fd s) (hq: ∀ s q,fd s=some q→q.2≤8∧(q.1=true→q.2=0)) (e:Ex) (ho:okE e) (hf:cu e=true):shF fd x.n x.r t e=shE ns (ruA x t) e:=by
 induction e with
 | nil=>exact ho.elim
 | mk k s n nl li na ar ih=>
  obtain ⟨_,_,_,hh⟩:=ho
  have ⟨_,hna,hfa⟩:=oM hf
  unfold shF shE
  by_cases hk:k=1
  ·subst hk
   obtain rfl:=Xp hf
   rw [if_pos rfl,hfd]
   show uz (uy x.n x.r t (fd s) 1 n nl li 0) (xI (fd s) 1 (true,0))=_
   unfold uy xI
   rw [if_pos rfl,if_pos rfl]
   cases ho:fd s with
   | none=>rfl
   | some q=>
    obtain ⟨q1,q2⟩:=hq s q ho
    obtain ⟨kn,d⟩:=q
    show uz (0,0) (kn,d)= .ok (kn,d)
    unfold uz
    rw [if_pos rfl]
    cases kn with
    | true=>
     have:d=0:=q2 rfl
     subst this;rfl
    | false=>
     show (if d+0≤8 then (.ok (false,d+0):Except Int (Bool × Nat)) else .error 232)=_
     rw [if_pos (show d+0≤8 from q1)];rfl
  ·rw [if_neg hk,yR fun i hi=>ih i (hh i hi) (hfa i hi)]
   cases hfo:dI (fun i=>shE ns (ruA x t) (ar i)) na with
   | error e=>rfl
   | ok w=>
    obtain ⟨kn,d,u⟩:=w
    have hu:u≤na:=(qB (fun i r h=>xu (fun s r h=>by rw [hfd] at h;exact (hq s r h).1) (ar i) h) hfo).2
    show uz (uy x.n x.r t (fd s) k n nl li u) (xI (fd s) k (kn,d))=He kn d (ruA x t (.mk k s n nl li na ar) u)
    rw [Xo x t (fd s) k s n nl li na ar u h2 hk (by omega),abX]
    unfold xI
    rw [if_neg hk]
theorem ahz {ns:Nms} {ru:Ex→Nat→Except Int Nat} (hn: ∀ s r,bI ns s=some r→r.1=true→r.2=0) (x:Ex) {r:Bool × Nat} (h:shE ns ru x= .ok r):r.1=true→r.2=0:=by
 rcases x with _ | ⟨k,s,n,nl,li,na,ar⟩
 ·cases h
 unfold shE at h
 by_cases hk:k=1
 ·rw [if_pos hk] at h
  cases hf:bI ns s with
  | none=>rw [hf] at h;cases h
  | some r'=>rw [hf] at h;simp only [Fg] at h;injection h with h;subst h;exact hn s _ hf
 ·rw [if_neg hk] at h
  cases hf:dI (fun i=>shE ns ru (ar i)) na with
  | error e=>rw [hf] at h;cases h
  | ok q=>
   obtain ⟨kn,d,u⟩:=q
   rw [hf] at h
   simp only [Fh] at h
   cases hr:ru (.mk k s n nl li na ar) u with
   | error e=>rw [hr] at h;cases h
   | ok m=>
    rw [hr] at h
    simp only [He] at h
    intro hkn
    by_cases hle:(if kn=true then 0 else d+m)≤8
    ·rw [if_pos hle] at h
     injection h with h
     subst h
     simp only at hkn ⊢
     rw [if_pos hkn]
    ·rw [if_neg hle] at h;cases h
end
end Go.Proofs.YtljfgdlgmdcmfaaGreat
namespace Go.Proofs.YtljfgdlgmdcmfaaGreat.Wv
section
open Go.RowKit
theorem DC: ∀ {l:List Oper} {e e':Ev} {vs vs':List AV},(∀ o,o∈l→ ∃ d,o.dst=some d)→vs.length=l.length→vs'.length=l.length→fQ e l vs=fQ e' l vs'→e=e'∧vs=vs'
 | [],e,e',vs,vs',_,h1,h2,h=>by
  have e1:=List.eq_nil_of_length_eq_zero h1
  have e2:=List.eq_nil_of_length_eq_zero h2
  subst e1 e2
  exact ⟨h,rfl⟩
 | o::r,e,e',v::vs,v'::vs',hd,h1,h2,h=>by
  obtain ⟨q1,q2⟩:=DC (l:=r) (e:=bY e o.dst v) (e':=bY e' o.dst v') (fun o' ho=>hd o' (List.mem_cons_of_mem _ ho)) (by simpa using h1) (by simpa using h2) h
  obtain ⟨d,hdd⟩:=hd o (List.mem_cons_self ..)
  rw [hdd] at q1
  have q3:(d,v)::e=(d,v')::e':=q1
  injection q3 with q4 q5
  injection q4 with _ q6
  exact ⟨q5,by rw [q6,q2]⟩
 | o::r,e,e',[],_,_,h1,_,_=>by simp at h1
 | o::r,e,e',_::_,[],_,_,h2,_=>by simp at h2
section
variable (P:Program) (p₀:AV→Hp→Prop) (all hd1 hd2 tl:List Oper) (os:Oper) (av:AV) (e:Ev) (h0:Hp) (K:Ev→Hp→Prop)
def abY (e2:Ev) (h1:Hp):Ev→List (Tmp × Value)→Prop:=fun e2' _=>e2'=e2∧fZ P p₀ all tl e2 h1 K
def abZ (e1 e2:Ev) (h1:Hp):Ev→List (Tmp × Value)→Prop:=fun e1' _=>e1'=e1∧dL P p₀ all h1 hd2 (bY e1 os.dst av) [] (abY P p₀ all tl K e2 h1)
def ab1 (e1 e2:Ev):AV→Hp→Prop:=fun av' h1=>av'=av∧dL P p₀ all h1 hd1 e [] (abZ P p₀ all hd2 tl os av K e1 e2 h1)
def ab2 (e1:Ev):Ev→List (Tmp × Value)→Prop:=fun e2 _=>wOp P p₀ os (dK e1) h0 (ab1 P p₀ all hd1 hd2 tl os av e K e1 e2)
def ab3:Ev→List (Tmp × Value)→Prop:=fun e1 _=>dL P p₀ all h0 hd2 (bY e1 os.dst av) [] (ab2 P p₀ all hd1 hd2 tl os av e h0 K e1)
end
section
variable {P:Program} {p₀:AV→Hp→Prop} {all hd1 hd2 tl:List Oper} {os:Oper} {av:AV} {e:Ev} {h0:Hp} {K:Ev→Hp→Prop}
variable {al:List (Tmp × Value)}{e2:Ev}{h1:Hp}
theorem xO {e2':Ev}  :abY P p₀ all tl K e2 h1 e2' al=(e2'=e2∧fZ P p₀ all tl e2 h1 K):=rfl
variable {e1:Ev}
theorem xP {e1':Ev}  :abZ P p₀ all hd2 tl os av K e1 e2 h1 e1' al=(e1'=e1∧dL P p₀ all h1 hd2 (bY e1 os.dst av) [] (abY P p₀ all tl K e2 h1)):=rfl
theorem xQ {av':AV}:ab1 P p₀ all hd1 hd2 tl os av e K e1 e2 av' h1=(av'=av∧dL P p₀ all h1 hd1 e [] (abZ P p₀ all hd2 tl os av K e1 e2 h1)):=rfl
theorem xU :ab2 P p₀ all hd1 hd2 tl os av e h0 K e1 e2 al=wOp P p₀ os (dK e1) h0 (ab1 P p₀ all hd1 hd2 tl os av e K e1 e2):=rfl
theorem xX :ab3 P p₀ all hd1 hd2 tl os av e h0 K e1 al=dL P p₀ all h0 hd2 (bY e1 os.dst av) [] (ab2 P p₀ all hd1 hd2 tl os av e h0 K e1):=rfl
end
theorem ab4 {P:Program} (bV:P.follows .mixedOrders=true) {N:Nat} {L:List Nat} {ks:List (Nat × Nat)} {id:Nat} {l:List Oper} {Q:bU} {e:Ev} {h:Hp} (k s m:Nat) (av:AV) {os:Oper} (hB:o7 N k l.toArray=true) (hsk:Nat.blt s k=true) (hos:l[s]? =some os) (hg:os.guard=none) (hal:aB os=false) (hpu:isPure os=false) (hap: ∃ c,os.op= .call c∧c.callee= .builtin .append) (hna:(l.take k).all (fun o=>!aB o)=true)
  (hw:dL P (fun av h'=>Q (.panic av) (jc l e) h') l (jF m h) (l.take s) e [] (ab3 P (fun av h'=>Q (.panic av) (jc l e) h') l (l.take s) ((l.take k).drop (s+1)) (l.drop k) os av e (jF m h) (fun e' h'=>Q .normal (kY L e') h'))):Ot P N ks id l.toArray Q e h:=by
 intro X a hn hh hX hE
 subst hh
 have hs:s<k:=Nat.lt_of_lt_of_le (Nat.lt_succ_self _) (Nat.le_of_ble_eq_true hsk)
 obtain ⟨Y,y1,y2,y3,y4⟩:=AY hX
 obtain ⟨Z,z1,z2,z3,z4⟩:=pU m y4
 have z5:=z3.Ep
 have S:Step X Z:=y3.trans hX z2
 rw [y2] at z4
 rw [←z4] at hw
 have hok:=I7 hB
 have hle:k≤l.length:=by have:=hok.le;simpa using this
 have hdst: ∀ o,o∈l.take k→ ∃ d,o.dst=some d:=fun o ho=>by
  obtain ⟨j,hj,e1⟩:=List.mem_iff_getElem.1 ho
  have hj':j<k:=by simp at hj;omega
  refine hok.hdst j o ?_ hj'
  have:(l.take k)[j]? =some o:=by rw [List.getElem?_eq_getElem hj,e1]
  rw [List.getElem?_take,if_pos hj'] at this
  simpa using this
 have hts:(l.take k).take s=l.take s:=by rw [List.take_take,Nat.min_eq_left (by omega)]
 have hsp:l.take k=l.take s++os::(l.take k).drop (s+1):=by
  have h1:(l.take k)[s]? =some os:=by rw [List.getElem?_take,if_pos hs];exact hos
  have h2:=List.take_append_drop s (l.take k)
  rw [hts] at h2
  have h3:(l.take k).drop s=os::(l.take k).drop (s+1):=by
   have hlt:s<(l.take k).length:=by rw [List.length_take];omega
   rw [List.drop_eq_getElem_cons hlt]
   congr 1
   rw [List.getElem?_eq_getElem hlt] at h1
   injection h1
  rw [←h3];exact h2.symm
 generalize akd:l.take s=hd1 at*
 generalize akt:(l.take k).drop (s+1)=hd2 at*
 have hl1:hd1.length=s:=by rw [←akd,List.length_take];omega
 have aju: ∀ o,o∈hd1→ ∃ d,o.dst=some d:=fun o ho=>hdst o (by rw [hsp];exact List.mem_append_left _ ho)
 have ajv: ∀ o,o∈hd2→ ∃ d,o.dst=some d:=fun o ho=>hdst o (by rw [hsp];exact List.mem_append_right _ (List.mem_cons_of_mem _ ho))
 obtain ⟨v1,a1,a2,a3⟩:=kC _ _ _ hw
 rw [xX] at a3
 obtain ⟨v2,b1,b2,b3⟩:=kC _ _ _ a3
 rw [xU] at b3
 have hlen:(v1++av::v2).length=k:=by
  have:=congrArg List.length hsp
  rw [List.length_take,List.length_append,List.length_cons] at this
  rw [List.length_append,List.length_cons,a1,b1];omega
 have htk: ∀ i,i≤s→(l.take k).take i=hd1.take i:=fun i hi=>by rw [hsp,List.take_append_of_le_length (by omega)]
 have hvk: ∀ i,i≤s→(v1++av::v2).take i=v1.take i:=fun i hi=>by rw [List.take_append_of_le_length (by omega)]
 have he1:fQ e ((l.take k).take s) ((v1++av::v2).take s)=fQ e hd1 v1:=by
  rw [htk s (Nat.le_refl _),hvk s (Nat.le_refl _),List.take_of_length_le (by omega),List.take_of_length_le (by omega)]
 have hel: ∀ j,fQ e ((l.take k).take (s+1+j)) ((v1++av::v2).take (s+1+j))=fQ (bY (fQ e hd1 v1) os.dst av) (hd2.take j) (v2.take j):=fun j=>by
  have e3:(l.take k).take (s+1+j)=hd1++os::hd2.take j:=by
   rw [hsp,List.take_append,hl1,List.take_of_length_le (by omega),show s+1+j - s=j+1 by omega,List.take_succ_cons]
  have e4:(v1++av::v2).take (s+1+j)=v1++av::v2.take j:=by
   rw [List.take_append,a1,hl1,List.take_of_length_le (by omega),show s+1+j - s=j+1 by omega,List.take_succ_cons]
  rw [e3,e4,pW _ _ _ _ _ a1]
  rfl
 have hat: ∀ i o,i<k→l[i]? =some o→(l.take k)[i]? =some o:=fun i o hi ho=>by rw [List.getElem?_take,if_pos hi];exact ho
 have facts: ∀ (hx:Hp),(∀ (i:Nat) (o:Oper) (v:AV),hd1[i]? =some o→v1[i]? =some v→jZ P (fun av h'=>Q (.panic av) (jc l e) h') l hx o (fQ e (hd1.take i) (v1.take i)) v)→
   (∀ (i:Nat) (o:Oper) (v:AV),hd2[i]? =some o→v2[i]? =some v→jZ P (fun av h'=>Q (.panic av) (jc l e) h') l hx o (fQ (bY (fQ e hd1 v1) os.dst av) (hd2.take i) (v2.take i)) v)→
   ∀ (i:Nat) (o:Oper) (v:AV),i<k→decide (i=s)=false→l.toArray[i]? =some o→(v1++av::v2)[i]? =some v→jZ P (fun av h'=>Q (.panic av) (jc l e) h') l.toArray.toList hx o (fQ e ((l.toArray.toList.take k).take i) ((v1++av::v2).take i)) v:=fun hx f1 f2 i o v hi his ho hv=>by
  have his:=of_decide_eq_false his
  have ho:l[i]? =some o:=by simpa using ho
  have ht:=hat i o hi ho
  rw [hsp] at ht
  show jZ P _ l hx o (fQ e ((l.take k).take i) _) v
  by_cases hlt:i<s
  ·rw [htk i (by omega),hvk i (by omega)]
   rw [List.getElem?_append_left (by omega)] at ht
   rw [List.getElem?_append_left (by omega)] at hv
   exact f1 i o v ht hv
  ·obtain ⟨j,rfl⟩: ∃ j,i=s+1+j:=⟨i - s - 1,by omega⟩
   rw [hel]
   rw [List.getElem?_append_right (by omega),hl1,show s+1+j - s=j+1 by omega,List.getElem?_cons_succ] at ht
   rw [List.getElem?_append_right (by omega),a1,hl1,show s+1+j - s=j+1 by omega,List.getElem?_cons_succ] at hv
   exact f2 j o v ht hv
 have hEd:eHd l.toArray k e (v1++av::v2)=fQ (bY (fQ e hd1 v1) os.dst av) hd2 v2:=by
  unfold eHd
  show fQ e (l.take k) _=_
  rw [hsp,pW _ _ _ _ _ a1]
  rfl
 have D:Dat P (fun av h'=>Q (.panic av) (jc l e) h') N k l.toArray Z e (v1++av::v2) (fun i=>decide (i=s)):=⟨hok,z3,z5,hlen,fun i o hi ho=>by
  have hi:=of_decide_eq_true hi
  subst hi
  have ho:l[i]? =some o:=by simpa using ho
  rw [hos] at ho;injection ho with ho;subst ho
  exact ⟨hal,hpu⟩,facts Z.h a2 b2⟩
 have hmono: ∀ {E:Operand→AV} {hx:Hp} {K1 K2:AV→Hp→Prop},(∀ a h',K1 a h'→K2 a h')→wOp P (fun av h'=>Q (.panic av) (jc l e) h') os E hx K1→wOp P (fun av h'=>Q (.panic av) (jc l e) h') os E hx K2:=by
  obtain ⟨c,hc,hcb⟩:=hap
  intro E hx K1 K2 hk hq
  unfold wOp at hq ⊢
  rw [hc] at hq ⊢
  simp only [En,hcb] at hq ⊢
  obtain ⟨q1,q2,r,h',q3,q4⟩:=hq
  exact ⟨q1,q2,r,h',q3,hk _ _ q4⟩
 have hEZ:=hE.mono S
 have hL: ∀ j,(Array.replicate l.toArray.size false).getD j false=false:=fun j=>by
  simp only [Array.getD,Array.size_replicate,Array.getInternal_eq_getElem,Array.getElem_replicate];split<;>rfl
 refine wp_region_any bV ?_
 rw [←y1, ←z1]
 refine Et (K:=fun e' h'=>Q .normal (kY L e') h') hs (by simpa using hos) hg D (fun i o hi ho=>?_) ?_ (fun V av v a' S2 hV hEV hr hp=>⟨v,av,V,_,rfl,rfl,(S.trans hX S2).toN hn,hV,hEV,hr,hp⟩) (fun V e' a' S2 hV hEV hq=>(aO.intro ((S.trans hX S2).toN hn) hV (hEV.keep L)).1 hq) l.toArray.size _ a Z.w (hL s) (by simp) (fun m j hm=>absurd (hm.symm.trans (hL m)) (by decide)) ?_ ⟨Z,fun _=>0,rfl,?_⟩
 ·have ho:l[i]? =some o:=by simpa using ho
  have:=List.all_eq_true.1 hna o (List.mem_of_getElem? (hat i o hi ho))
  simpa using this
 ·show wOp P _ os (dK (fQ e ((l.take k).take s) ((v1++av::v2).take s))) Z.h _
  rw [he1]
  refine hmono (fun a' h1 hq=>?_) b3
  rw [xQ] at hq
  obtain ⟨rfl,hq⟩:=hq
  obtain ⟨w1,c1,c2,c3⟩:=kC _ _ _ hq
  rw [xP] at c3
  obtain ⟨c3,c4⟩:=c3
  obtain ⟨_,rfl⟩:=DC aju c1 a1 c3
  obtain ⟨w2,d1,d2,d3⟩:=kC _ _ _ c4
  rw [xO] at d3
  obtain ⟨d3,d4⟩:=d3
  obtain ⟨_,rfl⟩:=DC ajv d1 b1 d3
  refine ⟨?_,facts h1 c2 d2,fun _=>?_⟩
  ·rw [List.getElem?_append_right (by omega),a1,hl1,Nat.sub_self];rfl
  ·rw [hEd];exact d4
 ·rw [GI l.toArray.size hL]
 ·refine ⟨Step.refl Z,z3,z5,rfl,fun _ _=>rfl,fun j _=>hL j,hEZ.defers,hEZ.size,hEZ.del _,fun d=>?_,fun i o d z hi hl=>absurd (hl.symm.trans (hL i)) (by decide),fun i j o p _ _ _ hl=>absurd (hl.symm.trans (hL i)) (by decide)⟩
  by_cases hp:acJ l.toArray k (fun j=>(Array.replicate l.toArray.size false).getD j false) d
  ·exact .inl hp
  ·right;right
   have:aJ (eHd l.toArray k e (v1++av::v2)) d=aJ e d:=zy _ _ _ _ fun o ho he=>hp ?_
   ·rw [this];exact hEZ.rep d
   ·obtain ⟨j,hj,e1⟩:=List.mem_iff_getElem.1 ho
    have hj':j<k:=by simp at hj;omega
    refine ⟨j,o,hj',hL j,?_,he⟩
    have:(l.take k)[j]? =some o:=by rw [List.getElem?_eq_getElem hj,e1]
    rw [List.getElem?_take,if_pos hj'] at this
    simpa using this
theorem ab5 {P:Program} (bV:P.follows .mixedOrders=true) {N:Nat} {L:List Nat} {ks:List (Nat × Nat)} {id:Nat} {l:List Oper} {Q:bU} {e:Ev} {h:Hp} (k s m:Nat) (av:AV) {os:Oper} (hB:o7 N k l.toArray=true) (hsk:Nat.blt s k=true) (hos:l[s]? =some os) (hg:os.guard=none) (hal:aB os=false) (hpu:isPure os=false) (hap: ∃ c,os.op= .call c∧c.callee= .builtin .append) (hna:(l.take k).all (fun o=>!aB o)=true)
  (hw:dL P (kP l e Q) l (jF m h) (l.take s) e [] (ab3 P (kP l e Q) l (l.take s) ((l.take k).drop (s+1)) (l.drop k) os av e (jF m h) (Yg L Q))):Ot P N ks id l.toArray Q e h:=
 ab4 bV k s m av hB hsk hos hg hal hpu hap hna hw
end
section
open Go.RowKit
def vB:Nat→Hp→AV→AV
 | 0,_,a=>a
 | k+1,h, .own id n=>match h[id]? with
  | some (some (.arr _ s cells _))=>bif Nat.beq cells.length (n*s) then .t n s (cells.map (vB k h)) else .own id n
  | _=> .own id n
 | k+1,h, .ptr id 0=>match h[id]? with
  | some (some (.blk cells))=> .tp (cells.map (vB k h))
  | _=> .ptr id 0
 | k+1,h, .g l=> .g (l.map (vB k h))
 | _+1,_,a=>a
def Cx.DY (X:Cx):Cx:=⟨X.w,X.m,X.h,fun _ _=>False,X.ds⟩
theorem Rep.DY {X:Cx} {a:AV} {v:Value} (h:Rep X a v):Rep X.DY a v:=by
 induction h with
 | v x=>exact .v x
 | none x=>exact .none x
 | t hl hc hn hcap hp hr ih=>
  refine .t hl hc hn hcap (fun h0=>?_) ih
  obtain ⟨b,off,e,k⟩:=hp h0
  exact ⟨b,off,e,fun i x hx=>⟨(k i x hx).1,fun q=>q⟩⟩
 | g hc hr ih=>exact .g hc ih
 | tup hc hr ih=>exact .tup hc ih
 | tp hc hp hr ih=>exact .tp hc (fun i x hx=>⟨(hp i x hx).1,fun q=>q⟩) ih
 | fn h1 h2 r1 r2 ih1 ih2=>exact .fn h1 h2 ih1 ih2
 | ifc h ih=>exact .ifc ih
 | e0 b=>exact .e0 b
 | own hid h=>exact .own hid h
 | ptr hid h=>exact .ptr hid h
 | ap hid h=>exact .ap hid h
 | mp hid h=>exact .mp hid h
 | tm hb hm hl hk hr ih=>exact .tm hb hm hl hk ih
theorem afO {X:Cx} (hX:Ok X): ∀ (k:Nat) (a:AV) (v:Value),Rep X a v→Rep X.DY (vB k X.h a) v
 | 0,a,v,hr=>hr.DY
 | k+1,a,v,hr=>by
  have ih:=afO hX k
  have ihL: ∀ {l:List AV} {vs:List Value},(∀ (i:Nat) (a:AV) (x:Value),l[i]? =some a→vs[i]? =some x→Rep X a x)→ ∀ (i:Nat) (a:AV) (x:Value),(l.map (vB k X.h))[i]? =some a→vs[i]? =some x→Rep X.DY a x:=fun hr i a x h1 h2=>by
   rw [List.getElem?_map] at h1
   obtain ⟨b,h3,rfl⟩:=Option.map_eq_some_iff.1 h1
   exact ih b x (hr i b x h3 h2)
  cases a with
  | own id n=>
   simp only [vB]
   split
   ·next T s cells fz hid=>
    cases hb:Nat.beq cells.length (n*s) with
    | false=>exact hr.DY
    | true=>
     have hln:=Nat.eq_of_beq_eq_true hb
     cases hr with
     | own hlt hq=>
     have e1:=(hq _ _ _ _ hid).2 hln
     subst e1
     obtain ⟨g1,g2,n',g3,g4⟩:=hX.arr id T s cells fz hid
     have hnn:n'=n:=Nat.eq_of_mul_eq_mul_right g2 (by rw [←g3, ←hln])
     subst hnn
     rcases g4 with ⟨g4,g5⟩ | ⟨b',cvs,g4⟩
     ·subst g5
      have hn0:n'=0:=by
       rcases Nat.mul_eq_zero.1 hln.symm with h0 | h0
       ·exact h0
       ·omega
      subst hn0
      rw [g4]
      exact .t (p:=Option.none) (cap:=0) (cvs:=[]) (by simp) (by simp) (Nat.le_refl _) (Nat.zero_le _) (fun h=>by omega) fun i a x q=>by simp at q
     ·have hsv:aW (X.m id) n'= .slice (some ⟨b',0,Option.none⟩) n' (X.m id).2:=by unfold aW;rw [g4.at_];rfl
      have hcv:cells.length≤cvs.size:=by rw [g4.sz,g3];exact Nat.mul_le_mul_right _ g4.cap
      rw [hsv]
      refine .t (cvs:=cvs.toList.take cells.length) (by rw [List.length_map];exact hln) (by rw [List.length_take,Array.length_toList,List.length_map];exact Nat.min_eq_left hcv) g4.cap g4.jG (fun _=>⟨b',0,rfl,fun j x hx=>⟨?_,fun q=>q⟩⟩) (ihL fun j c x q1 q2=>?_)
      ·rw [List.getElem?_take] at hx
       split at hx
       ·rw [Nat.zero_add];show cellAt X.w b' j=some x;rw [bD g4.blk];simpa using hx
       ·cases hx
      ·rw [List.getElem?_take] at q2
       split at q2
       ·exact g4.rep j c x q1 (by simpa using q2)
       ·cases q2
   ·exact hr.DY
  | ptr id off=>
   cases off with
   | succ off=>exact hr.DY
   | zero=>
    simp only [vB]
    split
    ·next cells hid=>
     cases hr with
     | ptr hlt hq=>
     obtain ⟨b,h1,rfl⟩:=hq cells hid
     obtain ⟨b',cvs,T,h2,h3,h4,h5,h6⟩:=hX.blk id cells hid
     rw [h1] at h2
     injection h2 with h2
     subst h2
     refine .tp (cvs:=cvs.toList) (by rw [Array.length_toList,List.length_map];exact h4) (fun j x hx=>⟨?_,fun q=>q⟩) (ihL fun j c x q1 q2=>h6 j c x q1 (by simpa using q2))
     rw [Nat.zero_add];show cellAt X.w b j=some x;rw [bD h3];simpa using hx
    ·exact hr.DY
  | g l=>
   cases hr with
   | g hc hrr=>exact .g (by rw [List.length_map];exact hc) (ihL hrr)
  | _=>exact hr.DY
inductive Bare:AV→Prop
 | v (x:Value):Bare (.v x)
 | g {l:List AV} (h: ∀ (a:AV),a∈l→Bare a):Bare (.g l)
 | tup {l:List AV} (h: ∀ (a:AV),a∈l→Bare a):Bare (.tup l)
theorem Rep.bare {X Y:Cx} {a:AV} {v:Value} (h:Rep X a v) (hb:Bare a):Rep Y a v:=by
 induction h with
 | v x=>exact .v x
 | g hc hr ih=>cases hb with | g h=>exact .g hc fun i a x h1 h2=>ih i a x h1 h2 (h a (List.mem_of_getElem? h1))
 | tup hc hr ih=>cases hb with | tup h=>exact .tup hc fun i a x h1 h2=>ih i a x h1 h2 (h a (List.mem_of_getElem? h1))
 | _=>cases hb
theorem TC.lend {P:Program} {f:FuncId} {args args':List AV} {h:Hp} {res:AV} (k:Nat) (T:TC P f args' res) (hv:args.map (vB k h)=args') (hc: ∀ (a:AV),a∈args'→Clo a) (hres:Bare res):HT P f args h fun r h2=>r=res∧h2=h:=by
 refine ⟨T.1,fun X vs hX hh hr=>?_⟩
 subst hh
 have afX:eX ⟨X.w,X.m,[],fun _ _=>False,X.ds⟩ args' vs:=by
  rw [←hv] at hc ⊢
  refine ⟨by rw [List.length_map];exact hr.1,fun i a x h1 h2=>?_⟩
  have hm:=hc a (List.mem_of_getElem? h1)
  rw [List.getElem?_map] at h1
  obtain ⟨b,h3,rfl⟩:=Option.map_eq_some_iff.1 h1
  exact (afO hX k b x (hr.2 i b x h3 h2)).clo hm fun b o u hu _=>⟨hu,fun q=>q⟩
 have hT:=T.2 ⟨X.w,X.m,[],fun _ _=>False,X.ds⟩ vs rfl (fun _ _ q=>q.elim) afX
 refine hT.mono ?_
 rintro e w' ⟨v,rfl,hbel,hv'⟩
 have S:Step X ⟨w',X.m,X.h,X.bad,X.ds⟩:=by
  refine ⟨hbel.os,hbel.tape,hbel.output,hbel.size,fun b hb _=>hbel.block b hb,fun b o x hx hb=>⟨?_,hb⟩,Nat.le_refl _,fun i T' s c f' _ hi=>⟨c,f',hi,Nat.le_refl _,fun _=>rfl⟩,fun i c _ hi=>⟨c,hi,rfl⟩,fun b hb=> .inr hb,fun _ _ hb=> .inl hb,fun i c _ hi=>⟨c,hi,rfl⟩,rfl⟩
  unfold cellAt at hx ⊢
  rw [hbel.cell (p:=⟨b,o,none⟩) (dO hx)];exact hx
 have hZ:Ok ⟨w',X.m,X.h,X.bad,X.ds⟩:=by
  refine ⟨fun id cells hi=>?_,fun id T' s cells fz hi=>?_,hX.inj,fun b o hb=>Nat.lt_of_lt_of_le (hX.eG b o hb) hbel.size,fun id es hi=>?_⟩
  ·obtain ⟨b,cvs,T',h1,h2,h3,h4,h5⟩:=hX.blk id cells hi
   exact ⟨b,cvs,T',h1,by rw [←h2];exact hbel.block b (hX.lt ⟨id,⟨_,hi⟩,h1⟩),h3,h4,fun j a x q1 q2=>(h5 j a x q1 q2).mono S⟩
  ·obtain ⟨g1,g2,n,g3,g4⟩:=hX.arr id T' s cells fz hi
   refine ⟨g1,g2,n,g3,?_⟩
   rcases g4 with g4 | ⟨b,cvs,g4⟩
   ·exact .inl g4
   ·exact .inr ⟨b,cvs,⟨g4.at_,by rw [←g4.blk];exact hbel.block b (hX.lt ⟨id,⟨_,hi⟩,g4.at_⟩),g4.cap,g4.jG,g4.sz,g4.bad,fun j a x q1 q2=>(g4.rep j a x q1 q2).mono S,g4.good⟩⟩
  ·obtain ⟨b,ents,clock,h1,h2,h3⟩:=hX.map id es hi
   exact ⟨b,ents,clock,h1,by rw [←h2];exact hbel.block b (hX.lt ⟨id,⟨_,hi⟩,h1⟩),h3.mono S⟩
 exact ⟨v,⟨w',X.m,X.h,X.bad,X.ds⟩,res,rfl,rfl,S,hZ,(hv' X.m).bare hres,rfl,rfl⟩
theorem jC {P:Program} {p₀:AV→Hp→Prop} {K:AV→Hp→Prop} {h:Hp} {fid:FuncId} {args args':List AV} {res:AV} (k:Nat) (T:TC P fid args' res) (hv:args.map (vB k h)=args') (hc: ∀ (a:AV),a∈args'→Clo a) (hres:Bare res) (hK:K res h):Bj P p₀ K h (.fn (.func fid) [] []) args:=by
 refine dF (R:=fun r h2=>r=res∧h2=h) ?_ ?_
 ·rw [List.nil_append,List.append_nil];exact T.lend k hv hc hres
 ·rintro av h2 ⟨rfl,rfl⟩;exact hK
end
end Go.Proofs.YtljfgdlgmdcmfaaGreat.Wv
namespace Go.Proofs.YtljfgdlgmdcmfaaGreat
section
open Go.RowKit Wv
def nmT (ns:Nms):List AV:=ns.map fun p=> .v (.string p.1)
def shT (ns:Nms):List AV:=ns.flatMap fun p=>[.v (.bool p.2.1), .v (.int .i64 p.2.2)]
def nmN (ns:Nms) (i:Nat):ByteArray:=(ns.getD i (⟨#[]⟩,false,0)).1
def shN (ns:Nms) (i:Nat):Bool × Nat:=(ns.getD i (⟨#[]⟩,false,0)).2
theorem zY (ns:Nms):(nmT ns).length=ns.length:=List.length_map ..
theorem wF: ∀ ns:Nms,(shT ns).length=ns.length*2
 | []=>rfl
 | p::r=>by
  show (_::_::shT r).length=_
  rw [List.length_cons,List.length_cons,wF r,List.length_cons];omega
theorem adL: ∀ ns:Nms,(tab ns.length fun i=>AV.v (.string (nmN ns i)))=nmT ns:=fun ns=>by
 unfold tab nmT nmN
 apply List.ext_getElem (by simp)
 intro i h1 h2
 have h3:i<ns.length:=by simpa using h1
 simp [h3]
theorem Vw: ∀ ns:Nms,shM ns.length (shN ns)=shT ns
 | []=>rfl
 | p::r=>by
  have ih:=Vw r
  unfold shM at ih ⊢
  show bT (r.length+1) _=_
  unfold bT at ih ⊢
  rw [List.range_succ_eq_map,List.flatMap_cons,List.flatMap_map]
  show [AV.v (.bool p.2.1),AV.v (.int .i64 p.2.2)]++(List.range r.length).flatMap (fun i=>[AV.v (.bool (shN r i).1),AV.v (.int .i64 (shN r i).2)])=_
  rw [ih]
  rfl
theorem ahA (ns:Nms): ∀ a,a∈nmT ns→Clo a:=fun a ha=>by
 obtain ⟨p,_,rfl⟩:=List.mem_map.1 ha
 exact .v _
theorem adM (ns:Nms): ∀ a,a∈shT ns→Clo a:=fun a ha=>by
 obtain ⟨p,_,h⟩:=List.mem_flatMap.1 ha
 simp only [List.mem_cons,List.not_mem_nil,or_false] at h
 rcases h with rfl | rfl<;>exact .v _
theorem F8 (k:Nat) (l:Nms):loL k (nmT l)=True:=eq_true fun a ha=> .clo (ahA l a ha)
theorem F9 (k:Nat) (l:Nms):loL k (shT l)=True:=eq_true fun a ha=> .clo (adM l a ha)
theorem NV (ns:Nms) (s:ByteArray) (q:Bool × Nat):nmT (ns++[(s,q)])=nmT ns++[.v (.string s)]:=by simp [nmT]
theorem NW (ns:Nms) (s:ByteArray) (q:Bool × Nat):shT (ns++[(s,q)])=shT ns++[.v (.bool q.1), .v (.int .i64 q.2)]:=by simp [shT]
theorem uD (s:ByteArray): ∀ ns:Nms,fiR ns.length (nmN ns) (shN ns) s=bI ns s:=fun ns=>by
 unfold fiR
 have key: ∀ (l:Nms),(findF (fun i=>decide (nmN l i=s)) l.length).map (shN l)=bI l s:=fun l=>by
  induction l with
  | nil=>rfl
  | cons p r ih=>
   show (findF (fun i=>decide (nmN (p::r) i=s)) (r.length+1)).map (shN (p::r))=if s=p.1 then some p.2 else bI r s
   by_cases e:s=p.1
   ·rw [if_pos e,iF (p:=fun i=>decide (nmN (p::r) i=s)) (i:=0) (Nat.zero_lt_succ _) (decide_eq_true e.symm) fun j hj=>by omega]
    rfl
   ·rw [if_neg e, ←ih]
    have h0:decide (nmN (p::r) 0=s)=false:=decide_eq_false fun q=>e q.symm
    by_cases hx: ∃ j,j<r.length∧decide (nmN r j=s)=true∧ ∀ k,k<j→decide (nmN r k=s)=false
    ·obtain ⟨j,h1,h2,h3⟩:=hx
     rw [iF (p:=fun i=>decide (nmN r i=s)) h1 h2 h3,iF (p:=fun i=>decide (nmN (p::r) i=s)) (i:=j+1) (by simpa using h1) h2 fun k hk=>by
      cases k with
      | zero=>exact h0
      | succ k=>exact h3 k (by omega)]
     rfl
    ·have hn: ∀ j,j<r.length→decide (nmN r j=s)=false:=fun j=>by
      induction j using Nat.strongRecOn with
      | _ j ihj=>
       intro hj
       cases q:decide (nmN r j=s) with
       | false=>rfl
       | true=>exact absurd ⟨j,hj,q,fun k hk=>ihj k hk (by omega)⟩ hx
     rw [gu (p:=fun i=>decide (nmN r i=s)) hn,gu (p:=fun i=>decide (nmN (p::r) i=s)) fun k hk=>by
      cases k with
      | zero=>exact h0
      | succ k=>exact hn k (by simpa using hk)]
     rfl
 exact key ns
theorem Ih (o:Option (Bool × Nat)):Bare (fiA o):=by
 unfold fiA shA
 refine .tup fun a ha=>?_
 simp only [List.mem_cons,List.not_mem_nil,or_false] at ha
 rcases ha with rfl | rfl
 ·refine .g fun a ha=>?_
  simp only [List.mem_cons,List.not_mem_nil,or_false] at ha
  rcases ha with rfl | rfl<;>exact .v _
 ·exact .v _
theorem ab6 (o:Except Int (Bool × Nat)):Bare (lS o):=by
 have hs: ∀ q:Bool × Nat,Bare (shA q):=fun q=>by
  unfold shA
  refine .g fun a ha=>?_
  simp only [List.mem_cons,List.not_mem_nil,or_false] at ha
  rcases ha with rfl | rfl<;>exact .v _
 cases o with
 | ok q=>
  refine .tup fun a ha=>?_
  simp only [List.mem_cons,List.not_mem_nil,or_false] at ha
  rcases ha with rfl | rfl
  ·exact hs q
  ·exact .v _
 | error e=>
  refine .tup fun a ha=>?_
  simp only [List.mem_cons,List.not_mem_nil,or_false] at ha
  rcases ha with rfl | rfl
  ·exact hs _
  ·exact .v _
variable {ns:Nms}
theorem qJ {h:Hp} {N r:Int} {t:Nat}  {f3 f4:Nat} {T3 T4:TypeId} (h2:h[2]? =some (some (.blk [.v (.int .i64 N), .v (.int .i64 t), .v (.int .i64 r), .own 3 ns.length, .own 4 ns.length]))) (h3:h[3]? =some (some (.arr T3 1 (nmT ns) f3))) (h4:h[4]? =some (some (.arr T4 2 (shT ns) f4))):
  vB 2 h (.ptr 2 0)= .tp (yC N t r ns.length (nmN ns) (shN ns)):=by
 have b3:Nat.beq (nmT ns).length (ns.length*1)=true:=by rw [zY,Nat.mul_one];exact Nat.beq_refl _
 have b4:Nat.beq (shT ns).length (ns.length*2)=true:=by rw [wF];exact Nat.beq_refl _
 have e0: ∀ l:List AV,l.map (vB 0 h)=l:=fun l=>List.map_id' l
 have e3:vB 1 h (.own 3 ns.length)= .t ns.length 1 (nmT ns):=by
  show (match h[3]? with | some (some (.arr _ s cells _))=>bif Nat.beq cells.length (ns.length*s) then AV.t ns.length s (cells.map (vB 0 h)) else .own 3 ns.length | _=> .own 3 ns.length)=_
  rw [h3]
  show (bif Nat.beq (nmT ns).length (ns.length*1) then AV.t ns.length 1 ((nmT ns).map (vB 0 h)) else .own 3 ns.length)=_
  rw [b3,e0];rfl
 have e4:vB 1 h (.own 4 ns.length)= .t ns.length 2 (shT ns):=by
  show (match h[4]? with | some (some (.arr _ s cells _))=>bif Nat.beq cells.length (ns.length*s) then AV.t ns.length s (cells.map (vB 0 h)) else .own 4 ns.length | _=> .own 4 ns.length)=_
  rw [h4]
  show (bif Nat.beq (shT ns).length (ns.length*2) then AV.t ns.length 2 ((shT ns).map (vB 0 h)) else .own 4 ns.length)=_
  rw [b4,e0];rfl
 have e5:vB 2 h (.ptr 2 0)= .tp ([.v (.int .i64 N), .v (.int .i64 t), .v (.int .i64 r), .own 3 ns.length, .own 4 ns.length].map (vB 1 h)):=by
  show (match h[2]? with | some (some (.blk cells))=>AV.tp (cells.map (vB 1 h)) | _=> .ptr 2 0)=_
  rw [h2]
 rw [e5]
 show AV.tp [vB 1 h _,vB 1 h _,vB 1 h _,vB 1 h _,vB 1 h _]=_
 rw [e3,e4]
 unfold yC bn
 rw [adL,Vw]
 rfl
def tyR (q:List (Bool × Nat) × Int × Int):AV:=if q.2.2=0 then typeA q else DT q.2.1 q.2.2
theorem adN (q:List (Bool × Nat) × Int × Int):Clo (tyR q):=by
 unfold tyR typeA DT
 split
 ·simp only [Wv.BC];exact oP _
 ·simp only [Wv.BC]
theorem ahB {q:List (Bool × Nat) × Int × Int} (h:q.2.2≠0→q.1=[]):Wk (tyR q) (typeA q):=by
 unfold tyR
 by_cases e:q.2.2=0
 ·rw [if_pos e];exact Wk.refl _
 ·rw [if_neg e]
  unfold DT typeA
  rw [h e]
  exact Wk.tup ⟨Wk.nil 2,Wk.refl _,Wk.refl _,trivial⟩
theorem ab7 (c:Ci) (o:Except (Nat × Int) (Nms × List (Bool × Nat))):(Pq c o).2.2≠0→(Pq c o).1=[]:=by
 intro h
 cases o with
 | error q=>rfl
 | ok q=>
  show (lastT q.2 c.nl (outT q.1 c.fo c.no)).1=[]
  have h:(lastT q.2 c.nl (outT q.1 c.fo c.no)).2.2≠0:=h
  cases hq:outT q.1 c.fo c.no with
  | none=>rw [hq] at h;exact absurd rfl h
  | some e=>rfl
theorem Xq (me:Int) (c:Ci) (ru:Ex→Nat→Except Int Nat):(iJ me c ru).2.2≠0→(iJ me c ru).1=[]:=by
 unfold iJ
 split
 ·intro _;rfl
 ·split
  ·intro _;rfl
  ·unfold sQ
   split
   ·intro _;rfl
   ·exact ab7 _ _
def okN (ns:Nms):Prop:= ∀ p,p∈ns→p.2.2≤8∧(p.2.1=true→p.2.2=0)
theorem NY {s:ByteArray} {q:Bool × Nat} (h:okN ns) (hq:q.2≤8∧(q.1=true→q.2=0)):okN (ns++[(s,q)]):=fun p hp=>by
 rcases List.mem_append.1 hp with h1 | h1
 ·exact h p h1
 ·rw [List.mem_singleton] at h1;subst h1;exact hq
theorem Gf {s:ByteArray} {q:Bool × Nat}: ∀ {ns:Nms},bI ns s=some q→ ∃ p,p∈ns∧p.2=q
 | p::r,h=>by
  have h:(if s=p.1 then some p.2 else bI r s)=some q:=h
  by_cases e:s=p.1
  ·rw [if_pos e] at h;injection h with h;exact ⟨p,List.mem_cons_self ..,h⟩
  ·rw [if_neg e] at h
   obtain ⟨p',h1,h2⟩:=Gf h
   exact ⟨p',List.mem_cons_of_mem _ h1,h2⟩
theorem wG (h:okN ns) {s:ByteArray} {q:Bool × Nat} (hq:bI ns s=some q):q.2≤8∧(q.1=true→q.2=0):=by
 obtain ⟨p,h1,rfl⟩:=Gf hq
 exact h p h1
theorem ahC (h:okN ns) {i:Nat} (hi:i<ns.length):(shN ns i).2≤8:=by
 unfold shN
 rw [List.getD_eq_getElem?_getD,List.getElem?_eq_getElem hi]
 exact (h _ (List.getElem_mem hi)).1
theorem Xr (n:Nat):aQ (some (.v (.int .i64 (n:Nat)))) 0=some n:=by simp [aQ,o9]
theorem PU {P:Program} {h:Hp} {T T':TypeId} {id n s fz a b:Nat} {cells:List AV} {lo hi:Option AV} (hid:h[id]? =some (some (.arr T' s cells fz))) (ha:aQ lo 0=some a) (hb:aQ hi n=some b) (hs:(aA P T).bind (szP P)=some s) (hl:cells.length=n*s) (h1:a≤b) (h2:b≤n):
  ig P h T (.own id n) lo hi=some (.t (b - a) s ((cells.take (b*s)).drop (a*s)),h.set id (some (.arr T' s cells cells.length))):=by
 unfold ig
 simp only [hid,ha,hb,hs,hl,h1,h2,and_self,if_true]
theorem Xt (x:Par) (c:Ci) (mv:Nat) (me:Int) (T1:TC Tryz.prog 36 [.g (fU x), .v (.int .i64 x.r)] (.tup [.v (.int .i64 mv), .v (.int .i64 me)])) (hc:okC c) (hcn:c.nl≤1000000) (hni:c.ni≤1000000) (hce: ∀ i,i<c.nl→aY (c.le i)≤1000000)
  (hme:me=0→2≤mv∧mv≤4611686018427387904∧0≤x.n∧x.n≤4611686018427387904):
  TC Tryz.prog 20 [.g (fU x), .g (ciC c)] (tyR (iJ me c (ruA x mv))):=by
 have hRc:=adN (iJ me c (ruA x mv))
 have hQ:iJ me c (ruA x mv)=if me≠0 then ([],0,2) else if fD c≠0 then ([],0,fD c) else sQ c (ruA x mv):=rfl
 have TK:=OV c hc hcn hce
 have hPg:Clo (.g (fU x)):=by simp only [Wv.BC];exact iI x
 have hCg:=vF c
 generalize iJ me c (ruA x mv)=R at*
 unfold ciC bn at TK hCg ⊢
 unfold fU at T1 hPg ⊢
 have hLc:=jO c
 have hCh: ∀ a,a∈(x.ch.map fun (q:Nat)=>AV.v (.int .u32 q))→Clo a:=MP x.ch
 generalize (x.ch.map fun (q:Nat)=>AV.v (.int .u32 q))=CH at*
 refine Wv.TC.by 179 [0,1,2,8,29,3,33,7,10,46,9,12,59,13,88,15,102,17,116,16,18,148,20,162,19,167,4,5,6] [(30,4),(32,4),(33,7),(14,1000000),(24,1000000)] [.tmp 4, .tmp 5, .tmp 6] Tryz.func20 rfl rfl rfl ?clo ?_
 case clo=>exact hRc
 refine Wv.W ?_
 refine ah T1 rfl (jf hPg (.v _)) Wv.c ?_
 by_cases hm:me=0
 case neg=>
  rw [if_pos hm] at hQ
  subst hQ
  simp (disch:=first|exact Wv.D|fail) only [Wv.B,simprocAttr,decide_eq_false hm]
  unfold tyR DT
  exact Wv.V
 subst hm
 rw [if_neg (by decide)] at hQ
 refine Wv.W ?_
 refine ah TK rfl (O4 hCg) Wv.c ?_
 by_cases hk:fD c=0
 case neg=>
  rw [if_pos hk] at hQ
  subst hQ
  simp (disch:=first|exact Wv.D|fail) only [Wv.B,simprocAttr,decide_eq_false hk]
  unfold tyR DT
  rw [if_neg hk]
 rw [if_neg (by rw [hk];decide)] at hQ
 simp (disch:=first|exact Wv.D|fail) only [Wv.B,simprocAttr,decide_eq_true hk]
 obtain ⟨hm2,hm3,hN1,hN2⟩:=hme rfl
 have hCt:Clo (.t c.nl 6 c.lets):= .t hLc
 generalize hLL:c.lets=LL at*
 have Xu: ∀ j,loL j LL=True:=fun j=>eq_true fun a ha=> .clo (hLc a ha)
 have Xv: ∀ j,loL j CH=True:=fun j=>eq_true fun a ha=> .clo (hCh a ha)
 unfold sQ at hQ
 have aku:=hc.ni
 refine qj (σ:=Nat × Nms) (fun w=>[(2, .ptr 0 0),(3, .ptr 1 0),(9, .ptr 2 0),(10, .v (.int .i64 w.1))])
  (fun w=>[some (.blk [.v (.int .i64 x.n), .v (.int .u32 x.p), .v (.int .i64 x.r), .t x.ch.length 1 CH, .v (.int .u32 x.sp), .v (.int .i64 x.wt), .v (.int .u32 x.er)]),some (.blk [.v (.string c.name), .t c.ni 1 (tab c.ni fun i=> .v (.string (c.fi i))), .t c.nl 6 LL, .t c.no 1 (tab c.no fun i=> .v (.string (c.fo i)))]),some (.blk [.v (.int .i64 x.n), .v (.int .i64 mv), .v (.int .i64 x.r), .own 3 w.2.length, .own 4 w.2.length]),some (.arr 9 1 (nmT w.2) 0),some (.arr 42 2 (shT w.2) 0)])
  (fun w=>w.1≤c.ni∧jX c.fi w.1=some w.2∧w.2.length=w.1∧okN w.2) (fun w=>c.ni - w.1) (0,[]) ⟨Nat.zero_le _,rfl,rfl,fun p h=>by cases h⟩ ?_ ?_
 ·refine Ent.trans (Ent.agc 2 3 9 1 _ (by omega) rfl rfl) (Ent.trans (Ent.agc 2 4 42 2 _ (by omega) rfl rfl) (Ent.fit ?_))
  exact Wv.V
 rintro ⟨i,ns⟩ ⟨hi,hins,hlen,hok⟩
 simp only at hi hins hlen hok ⊢
 by_cases hlt:i<c.ni
 ·have e1:(i:Int)<c.ni:=by omega
  have T:=vV x.n mv x.r ns.length (nmN ns) (shN ns) (c.fi i) (by omega)
  have hy:=uq x.n mv x.r ns.length (nmN ns) (shN ns)
  rw [uD] at T
  have hb:=Ih (bI ns (c.fi i))
  have hfc:=zI (bI ns (c.fi i))
  have hnx:jX c.fi (i+1)=match bI ns (c.fi i) with | some _=>none | none=>some (ns++[(c.fi i,false,0)]):=by
   show (jX c.fi i).bind _=_
   rw [hins];rfl
  have hbad:jX c.fi (i+1)=none→jX c.fi c.ni=none:=fun h=>xB h (by omega)
  cases hf:bI ns (c.fi i) with
  | some q=>
   rw [hf] at hnx T hb hfc
   rw [hbad hnx] at hQ
   have hQ':R=([], -1,230):=hQ
   simp only [fiA,shA,Option.isSome_some,Option.getD_some] at T hb hfc
   simp (disch:=first|exact Wv.D|fail) only [Wv.B,simprocAttr,decide_eq_true e1]
   refine jC 2 T (by rw [List.map_cons,qJ (ns:=ns) rfl rfl rfl];rfl) (jf hy (.v _)) hb ?_
   refine Wv.W ?_
   rw [hQ']
   rfl
  | none=>
   rw [hf] at hnx T hb hfc
   simp only [fiA,shA,Option.isSome_none,Option.getD_none] at T hb hfc
   simp (disch:=first|exact Wv.D|fail) only [Wv.B,simprocAttr,decide_eq_true e1]
   refine jC 2 T (by rw [List.map_cons,qJ (ns:=ns) rfl rfl rfl];rfl) (jf hy (.v _)) hb ?_
   refine Wv.W ?_
   have hnl:=zY ns
   have hsl:=wF ns
   have ahD: ∀ a b c' d f z,cellsA [a,b,c',some (.arr 9 1 (nmT ns++[.v (.string (c.fi i))]) z),d,f] (.own 3 (ns.length+1))=some [.own 3 (ns.length+1)]:=fun a b c' d f z=>qh (by rw [mY];show decide _=true;exact decide_eq_true (by rw [List.length_append,hnl];simp))
   have ahE: ∀ a b c' d f z,cellsA [a,b,c',d,some (.arr 42 2 (shT ns++[.v (.bool false), .v (.int .i64 0)]) z),f] (.own 4 (ns.length+1))=some [.own 4 (ns.length+1)]:=fun a b c' d f z=>qh (by rw [mY];show decide _=true;exact decide_eq_true (by rw [List.length_append,hsl];simp;omega))
   refine ab5 (L:=[0,1,2,8,29,3,33,7,10,46,9,12,59,13,88,15,102,17,116,16,18,148,20,162,19,167,4,5,6]) (by kernel_rfl) 19 12 24 (.own 3 (ns.length+1)) (by kernel_rfl) rfl rfl rfl rfl rfl ⟨_,rfl,rfl⟩ rfl ?_
   simp (disch:=first|exact Wv.D|fail) only [Wv.B,simprocAttr,xX,xU,xQ,xP,xO,ahD,ahE,hnl,hsl,decide_eq_true (show ns.length*2+2=(ns.length+1)*2 by omega)]
   have hsn:=NV ns (c.fi i) (false,0)
   have hss:=NW ns (c.fi i) (false,0)
   have hll:(ns++[(c.fi i,false,0)]).length=ns.length+1:=by simp
   have hok2:okN (ns++[(c.fi i,false,0)]):=NY hok ⟨Nat.zero_le _,fun h=>by cases h⟩
   refine Wv.jd ((i+1,ns++[(c.fi i,false,0)])) 5 (by first | decide | exact Nat.le_of_ble_eq_true rfl) (⟨by omega,hnx,by rw [hll,hlen],hok2⟩) (by omega) (by simp (disch:=first|exact Wv.D|fail) only [Wv.B,simprocAttr,dH,hsn,hss,hll]) (by simp (disch:=first|exact Wv.D|fail) only [Wv.B,simprocAttr,Int.natCast_add,Int.natCast_one,hsn,hss,hll]) (by simp only [Wv.BL, ↓reduceIte,Nat.reduceLeDiff,Xu,Xv,eq_true hLc,eq_true hCh,F8,F9]<;>omega) (by simp only [Wv.BL, ↓reduceIte,Nat.reduceLeDiff,Xu,Xv,eq_true hLc,eq_true hCh,F8,F9]<;>omega)
 obtain rfl:i=c.ni:=by omega
 clear hlt
 rw [hins] at hQ
 replace hQ:R=Pq c (jR ns c.ln (fun ns i=>shE ns (ruA x mv) (c.le i)) c.nl):=hQ
 have hnl:=zY ns
 have hsl:=wF ns
 have hdr: ∀ i,i<c.nl→ ∃ r,List.drop (i*6) LL= .v (.string (c.ln i))::(exC (c.le i)++r):=fun i hi=>by
  obtain ⟨r,h⟩:=bP (f:=fun i=>iY (c.ln i) (c.le i)) (fun i=>iG _ _) hi
  exact ⟨r,by rw [←hLL];exact h⟩
 have hnm:c.nl≤1000000:=hcn
 simp (disch:=first|exact Wv.D|fail) only [Wv.B,simprocAttr,Int.lt_irrefl,decide_false]
 obtain ⟨ns0,hns0⟩: ∃ ns0,ns0=ns:=⟨_,rfl⟩
 rw [←hns0] at hQ
 refine dQ (σ:=Nat × Nms × List (Bool × Nat)) (fun w=>[(2, .ptr 0 0),(3, .ptr 1 0),(9, .ptr 2 0),(13, .v (.int .i64 w.1))])
  (fun w=>[some (.blk [.v (.int .i64 x.n), .v (.int .u32 x.p), .v (.int .i64 x.r), .t x.ch.length 1 CH, .v (.int .u32 x.sp), .v (.int .i64 x.wt), .v (.int .u32 x.er)]),some (.blk [.v (.string c.name), .t c.ni 1 (tab c.ni fun i=> .v (.string (c.fi i))), .t c.nl 6 LL, .t c.no 1 (tab c.no fun i=> .v (.string (c.fo i)))]),some (.blk [.v (.int .i64 x.n), .v (.int .i64 mv), .v (.int .i64 x.r), .own 3 w.2.1.length, .own 4 w.2.1.length]),some (.arr 9 1 (nmT w.2.1) 0),some (.arr 42 2 (shT w.2.1) 0)])
  (fun w=>w.1≤c.nl∧jR ns0 c.ln (fun ns i=>shE ns (ruA x mv) (c.le i)) w.1= .ok w.2∧w.2.1.length=c.ni+w.1∧okN w.2.1∧(shT w.2.1).drop (c.ni*2)=shL w.2.2∧w.2.2.length=w.1) (fun w=>c.nl - w.1) (0,ns,[]) ⟨Nat.zero_le _,by rw [hns0];rfl,hlen,hok,by rw [←hlen, ←hsl,List.drop_length];rfl,rfl⟩ rfl Wv.V ?_
 clear hok hins hlen hnl hsl hns0 ns hi
 rintro ⟨i,ns,ss⟩ ⟨hi,hins,hlen,hok,hdrop,hsl2⟩
 simp only at hi hins hlen hok hdrop hsl2 ⊢
 have hnl:=zY ns
 have hsl:=wF ns
 have hy:=uq x.n mv x.r ns.length (nmN ns) (shN ns)
 by_cases hlt:i<c.nl
 ·have e1:(i:Int)<c.nl:=by omega
  have T:=vV x.n mv x.r ns.length (nmN ns) (shN ns) (c.ln i) (by omega)
  rw [uD] at T
  have hb:=Ih (bI ns (c.ln i))
  have hfc:=zI (bI ns (c.ln i))
  obtain ⟨rr,hd⟩:=hdr i hlt
  have hnx:jR ns0 c.ln (fun ns i=>shE ns (ruA x mv) (c.le i)) (i+1)=if (bI ns (c.ln i)).isSome=true then .error (i,230) else abk ns ss i (c.ln i) (shE ns (ruA x mv) (c.le i)):=by
   show Hy _ _ i (jR _ _ _ i)=_
   rw [hins];rfl
  have hbad: ∀ q,jR ns0 c.ln (fun ns i=>shE ns (ruA x mv) (c.le i)) (i+1)= .error q→jR ns0 c.ln (fun ns i=>shE ns (ruA x mv) (c.le i)) c.nl= .error q:=fun q h=>vX h (by omega)
  have hoy:=(hc.le i hlt).1
  have hfo:=C9 hk hlt
  have T2:=adK x.n x.r mv ns.length (nmN ns) (shN ns) hm2 hm3 hN1 hN2 (by omega) (fun j hj=>ahC hok hj) (c.le i) hoy hfo
  have hne: ∀ e,shE ns (ruA x mv) (c.le i)= .error e→e≠0:=fun e he=>Vs (fiR ns.length (nmN ns) (shN ns)) x.n x.r mv (c.le i) e (by rw [Vu x mv ns _ hm2 (fun s=>(uD s ns).symm) (fun s q h=>wG hok (by rw [←uD];exact h)) (c.le i) hoy hfo];exact he)
  rw [Vu x mv ns _ hm2 (fun s=>(uD s ns).symm) (fun s q h=>wG hok (by rw [←uD];exact h)) (c.le i) hoy hfo] at T2
  have hb2:=ab6 (shE ns (ruA x mv) (c.le i))
  have ake: ∀ q,shE ns (ruA x mv) (c.le i)= .ok q→q.2≤8∧(q.1=true→q.2=0):=fun q hq=>⟨xu (fun s r h=>(wG hok h).1) (c.le i) hq,ahz (fun s r h=>(wG hok h).2) (c.le i) hq⟩
  have hG:=bQ (c.le i)
  obtain ⟨c0,c1,c2,c3,c4,c5,c6,h5⟩:=nX (c.le i)
  rw [h5] at T2 hG hd
  simp only [List.cons_append,List.nil_append] at hd
  cases hf:bI ns (c.ln i) with
  | some q=>
   rw [hf] at hnx T hb hfc
   rw [hbad _ hnx] at hQ
   have hQ':R=([],((i:Nat):Int),230):=hQ
   simp only [fiA,shA,Option.isSome_some,Option.getD_some] at T hb hfc
   simp (disch:=first|exact Wv.D|fail) only [Wv.B,simprocAttr,decide_eq_true e1,hd]
   refine jC 2 T (by rw [List.map_cons,qJ (ns:=ns) rfl rfl rfl];rfl) (jf hy (.v _)) hb ?_
   refine Wv.W ?_
   rw [hQ']
   rfl
  | none=>
   rw [hf] at hnx T hb hfc
   simp only [fiA,shA,Option.isSome_none,Option.getD_none] at T hb hfc
   simp (disch:=first|exact Wv.D|fail) only [Wv.B,simprocAttr,decide_eq_true e1,hd]
   refine jC 2 T (by rw [List.map_cons,qJ (ns:=ns) rfl rfl rfl];rfl) (jf hy (.v _)) hb ?_
   simp (disch:=first|exact Wv.D|fail) only [Wv.B,simprocAttr,hd]
   cases hO:shE ns (ruA x mv) (c.le i) with
   | error e=>
    rw [hO] at T2 hb2 hnx
    have hne:=hne e hO
    rw [hbad _ hnx] at hQ
    have hQ':R=([],((i:Nat):Int),e):=hQ
    unfold lS shA at T2 hb2
    refine jC 2 T2 (by rw [List.map_cons,qJ (ns:=ns) rfl rfl rfl];rfl) (jf hy hG) hb2 ?_
    simp (disch:=first|exact Wv.D|fail) only [Wv.B,simprocAttr,decide_eq_false hne]
    rw [hQ']
    unfold tyR DT
    rw [if_neg hne]
   | ok q=>
    rw [hO] at T2 hb2 hnx
    obtain ⟨q1,q2⟩:=q
    have hq8:=ake _ hO
    unfold lS shA at T2 hb2
    refine jC 2 T2 (by rw [List.map_cons,qJ (ns:=ns) rfl rfl rfl];rfl) (jf hy hG) hb2 ?_
    refine Wv.W ?_
    have ahD: ∀ a b c' d f g z,cellsA [a,b,c',some (.arr 9 1 (nmT ns++[.v (.string (c.ln i))]) z),d,f,g] (.own 3 (ns.length+1))=some [.own 3 (ns.length+1)]:=fun a b c' d f g z=>qh (by rw [mY];show decide _=true;exact decide_eq_true (by rw [List.length_append,hnl];simp))
    have ahE: ∀ a b c' d f g z,cellsA [a,b,c',d,some (.arr 42 2 (shT ns++[.v (.bool q1), .v (.int .i64 q2)]) z),f,g] (.own 4 (ns.length+1))=some [.own 4 (ns.length+1)]:=fun a b c' d f g z=>qh (by rw [mY];show decide _=true;exact decide_eq_true (by rw [List.length_append,hsl];simp;omega))
    refine ab5 (L:=[0,1,2,8,29,3,33,7,10,46,9,12,59,13,88,15,102,17,116,16,18,148,20,162,19,167,4,5,6]) (by kernel_rfl) 20 13 24 (.own 3 (ns.length+1)) (by kernel_rfl) rfl rfl rfl rfl rfl ⟨_,rfl,rfl⟩ rfl ?_
    simp (disch:=first|exact Wv.D|fail) only [Wv.B,simprocAttr,hd,xX,xU,xQ,xP,xO,ahD,ahE,hnl,hsl,decide_eq_true (show ns.length*2+2=(ns.length+1)*2 by omega)]
    have hsn:=NV ns (c.ln i) (q1,q2)
    have hss:=NW ns (c.ln i) (q1,q2)
    have hll:(ns++[(c.ln i,q1,q2)]).length=ns.length+1:=by simp
    have hok2:okN (ns++[(c.ln i,q1,q2)]):=NY hok hq8
    have akf:(shT (ns++[(c.ln i,q1,q2)])).drop (c.ni*2)=shL (ss++[(q1,q2)]):=by
     rw [hss,List.drop_append_of_le_length (by omega),hdrop]
     unfold shL
     rw [List.flatMap_append]
     rfl
    refine Wv.jd ((i+1,ns++[(c.ln i,q1,q2)],ss++[(q1,q2)])) 5 (by first | decide | exact Nat.le_of_ble_eq_true rfl) (⟨by omega,hnx,by rw [hll];omega,hok2,akf,by rw [List.length_append,hsl2];rfl⟩) (by omega) (by simp (disch:=first|exact Wv.D|fail) only [Wv.B,simprocAttr,dH,hsn,hss,hll]) (by simp (disch:=first|exact Wv.D|fail) only [Wv.B,simprocAttr,Int.natCast_add,Int.natCast_one,hsn,hss,hll]) (by simp only [Wv.BL, ↓reduceIte,Nat.reduceLeDiff,Xu,Xv,eq_true hLc,eq_true hCh,F8,F9]<;>omega) (by simp only [Wv.BL, ↓reduceIte,Nat.reduceLeDiff,Xu,Xv,eq_true hLc,eq_true hCh,F8,F9]<;>omega)
 obtain rfl:i=c.nl:=by omega
 clear hlt
 rw [hins] at hQ
 replace hQ:R=lastT ss c.nl (outT ns c.fo c.no):=hQ
 have akv:=hc.no
 simp (disch:=first|exact Wv.D|fail) only [Wv.B,simprocAttr,Int.lt_irrefl,decide_false]
 refine dQ (σ:=Nat) (fun i=>[(2, .ptr 0 0),(3, .ptr 1 0),(9, .ptr 2 0),(18, .v (.int .i64 i))])
  (fun _=>[some (.blk [.v (.int .i64 x.n), .v (.int .u32 x.p), .v (.int .i64 x.r), .t x.ch.length 1 CH, .v (.int .u32 x.sp), .v (.int .i64 x.wt), .v (.int .u32 x.er)]),some (.blk [.v (.string c.name), .t c.ni 1 (tab c.ni fun i=> .v (.string (c.fi i))), .t c.nl 6 LL, .t c.no 1 (tab c.no fun i=> .v (.string (c.fo i)))]),some (.blk [.v (.int .i64 x.n), .v (.int .i64 mv), .v (.int .i64 x.r), .own 3 ns.length, .own 4 ns.length]),some (.arr 9 1 (nmT ns) 0),some (.arr 42 2 (shT ns) 0)])
  (fun i=>i≤c.no∧outT ns c.fo i=none) (fun i=>c.no - i) 0 ⟨Nat.zero_le _,rfl⟩ rfl Wv.V ?_
 rintro i ⟨hi2,hout⟩
 by_cases hlt:i<c.no
 ·have e1:(i:Int)<c.no:=by omega
  have T:=vV x.n mv x.r ns.length (nmN ns) (shN ns) (c.fo i) (by omega)
  rw [uD] at T
  have hb:=Ih (bI ns (c.fo i))
  have hnx:outT ns c.fo (i+1)=WZ (bI ns (c.fo i)):=by
   show (match outT ns c.fo i with | some e=>some e | none=>WZ (bI ns (c.fo i)))=_
   rw [hout]
  have hbad: ∀ e,outT ns c.fo (i+1)=some e→outT ns c.fo c.no=some e:=fun e h=>rM h (by omega)
  cases hf:bI ns (c.fo i) with
  | none=>
   rw [hf] at hnx T hb
   rw [hbad _ hnx] at hQ
   have hQ':R=([],((c.nl:Nat):Int),230):=hQ
   simp only [fiA,shA,Option.isSome_none,Option.getD_none] at T hb
   simp (disch:=first|exact Wv.D|fail) only [Wv.B,simprocAttr,decide_eq_true e1]
   refine jC 2 T (by rw [List.map_cons,qJ (ns:=ns) rfl rfl rfl];rfl) (jf hy (.v _)) hb ?_
   refine Wv.W ?_
   rw [hQ']
   rfl
  | some q=>
   rw [hf] at hnx T hb
   obtain ⟨q1,q2⟩:=q
   simp only [fiA,shA,Option.isSome_some,Option.getD_some] at T hb
   simp (disch:=first|exact Wv.D|fail) only [Wv.B,simprocAttr,decide_eq_true e1]
   refine jC 2 T (by rw [List.map_cons,qJ (ns:=ns) rfl rfl rfl];rfl) (jf hy (.v _)) hb ?_
   cases q1 with
   | true=>
    rw [hbad _ hnx] at hQ
    have hQ':R=([],((c.nl:Nat):Int),234):=hQ
    refine Wv.W ?_
    rw [hQ']
    rfl
   | false=>
    refine Wv.W ?_
    refine Wv.jd (i+1) 5 (by first | decide | exact Nat.le_of_ble_eq_true rfl) (⟨by omega,hnx⟩) (by omega) (by simp (disch:=first|exact Wv.D|fail) only [Wv.B,simprocAttr,dH]) Wv.V2 (by simp only [Wv.BL, ↓reduceIte,Nat.reduceLeDiff,Xu,Xv,eq_true hLc,eq_true hCh,F8,F9]<;>omega) (by simp only [Wv.BL, ↓reduceIte,Nat.reduceLeDiff,Xu,Xv,eq_true hLc,eq_true hCh,F8,F9]<;>omega)
 ·obtain rfl:i=c.no:=by omega
  rw [hout] at hQ
  have hQ':R=(ss,0,0):=hQ
  simp (disch:=first|exact Wv.D|fail) only [Wv.B,simprocAttr,Int.lt_irrefl,decide_false,hnl,hsl,hdrop]
  have hT:AV.t (ns.length - c.ni) 2 (List.drop (c.ni*2) (List.take (ns.length*2) (shT ns)))= .t c.nl 2 (shL ss):=by
   rw [List.take_of_length_le (by omega),hdrop,hlen,Nat.add_sub_cancel_left]
  rw [PU (T':=42) (s:=2) (cells:=shT ns) (fz:=ns.length*2) (a:=c.ni) (b:=ns.length)]
  case hid=>rfl
  case ha=>exact Xr c.ni
  case hb=>rfl
  case hs=>rfl
  case hl=>exact hsl
  case h1=>omega
  case h2=>exact Nat.le_refl _
  rw [hT]
  have hcs: ∀ h,cellsA h (.t c.nl 2 (shL ss))=some [.t c.nl 2 (shL ss)]:=fun h=>rfl
  simp (disch:=first|exact Wv.D|fail) only [Wv.B,simprocAttr,hcs]
  rw [hQ', ←hsl2]
  rfl
end
section
open Go.RowKit
theorem SliceAt.below {w w':World} {v:Value} {l:List Nat} (h:SliceAt w v l) (hb:Below w.heap.size w w'):SliceAt w' v l:=by
 obtain ⟨p,cap,h1,h2,h3,h4⟩:=h
 exact ⟨p,cap,h1,h2,h3,fun hne=>by obtain ⟨b,off,e,hr⟩:=h4 hne;exact ⟨b,off,e,hr.below hb hr.blk⟩⟩
variable {pr:Nat→Bool}{x:Par}
theorem Ii (h:okB pr x=true):4≤x.n∧x.n≤32:=by
 have hd:iT x.n=true:=by rw [nO] at h;simp only [Bool.and_eq_true] at h;exact h.1
 have:=qw hd;omega
theorem kS {B:Nat} {a X w:World} (hb:Below X.heap.size X w) (h:Below B a X) (hB:B≤X.heap.size):Below B a w:=h.trans (hb.mono hB)
def qK (pr:Nat→Bool) (x:Par) (k:Int):Bool:=okB pr x && (decide (1≤k) && decide (k≤x.r))
def dR (pr:Nat→Bool) (x:Par) (k:Int):Int:=if qK pr x k then 0 else 2
def dN (pr:Nat→Bool) (x:Par) (k:Int):Nat:=if qK pr x k then gQ pr x.n x.p k else 0
theorem xY {k:Int} (h:qK pr x k=false):dR pr x k=2∧dN pr x k=0:=by unfold dR dN;rw [h];exact ⟨rfl,rfl⟩
theorem Ij {k:Int} (h:qK pr x k=true):dR pr x k=0∧dN pr x k=gQ pr x.n x.p k:=by unfold dR dN;rw [h];exact ⟨rfl,rfl⟩
theorem ab8 (x:Par) (cv:Value) (k:Int) (w:World) (hx:o8 x) (hcv:SliceAt w cv x.ch):
  Calls Tryz.prog 60 #[x.val cv, .int .i64 k] w fun r w'=>r= .returned (.tuple #[.int .i64 (dN aj x k:Nat), .int .i64 (dR aj x k)])∧Below w.heap.size w w':=by
 have hB:Hid (um (w.alloc (.cells #[.int .i64 x.n, .int .u32 x.p, .int .i64 x.r,cv, .int .u32 x.sp, .int .i64 x.wt, .int .u32 x.er] 25)) w.heap.size x cv):=by constructor<;>simp [go_sem]
 have hbW:Hid (Below w.heap.size w (w.alloc (.cells #[.int .i64 x.n, .int .u32 x.p, .int .i64 x.r,cv, .int .u32 x.sp, .int .i64 x.wt, .int .u32 x.er] 25))):=(Below.refl _ _).alloc (Nat.le_refl _) _
 have HS:Hid (SliceAt (w.alloc (.cells #[.int .i64 x.n, .int .u32 x.p, .int .i64 x.r,cv, .int .u32 x.sp, .int .i64 x.wt, .int .u32 x.er] 25)) cv x.ch):=hcv.below hbW.out
 have hlt:w.heap.size<(w.alloc (.cells #[.int .i64 x.n, .int .u32 x.p, .int .i64 x.r,cv, .int .u32 x.sp, .int .i64 x.wt, .int .u32 x.er] 25)).heap.size:=by simp
 unfold Par.val
 cases hok:okB aj x with
 | false=>
  have HC:Hid (chk aj x=2):=UQ hok
  have HR:Hid (dR aj x k=2∧dN aj x k=0):=xY (by unfold qK;rw [hok];rfl)
  clear hok
  go_enter Tryz.func60,Tryz.ntmps60
  go_wp2_with fail
  refine (oL x cv _ hx HS.out).mono ?_
  rintro e w1 ⟨rfl,hb1⟩
  have y0:=(hB.out.below hb1 hlt).n;have y1:=(hB.out.below hb1 hlt).p;have y2:=(hB.out.below hb1 hlt).r
  have HB1:=Lib.hid (kS hb1 hbW.out (by simp))
  clear hb1
  rw [HC.out]
  go_wp2_with fail
  go_ret2
  exact ⟨by rw [HR.out.1,HR.out.2];rfl,HB1.out⟩
 | true=>
  have hd:=Ii hok
  have hn4:=hd.1;have hn32:=hd.2
  have HC:Hid (chk aj x=0):=aaC hok
  clear hd
  by_cases h1:k<1
  ·have HR:Hid (dR aj x k=2∧dN aj x k=0):=xY (by unfold qK;rw [decide_eq_false (show ¬ 1≤k by omega)];simp)
   have d1:decide (k<1)=true:=decide_eq_true h1
   clear hok
   go_enter Tryz.func60,Tryz.ntmps60
   go_wp2_with fail
   refine (oL x cv _ hx HS.out).mono ?_
   rintro e w1 ⟨rfl,hb1⟩
   have y0:=(hB.out.below hb1 hlt).n;have y1:=(hB.out.below hb1 hlt).p;have y2:=(hB.out.below hb1 hlt).r
   have HB1:=Lib.hid (kS hb1 hbW.out (by simp))
   clear hb1
   rw [HC.out]
   go_wp2_with fail
   go_ret2
   exact ⟨by rw [HR.out.1,HR.out.2];rfl,HB1.out⟩
  ·by_cases h2:x.r<k
   ·have HR:Hid (dR aj x k=2∧dN aj x k=0):=xY (by unfold qK;rw [decide_eq_false (show ¬ k≤x.r by omega)];simp)
    have d1:decide (k<1)=false:=decide_eq_false h1
    have d2:decide (x.r<k)=true:=decide_eq_true h2
    clear hok
    go_enter Tryz.func60,Tryz.ntmps60
    go_wp2_with fail
    refine (oL x cv _ hx HS.out).mono ?_
    rintro e w1 ⟨rfl,hb1⟩
    have y0:=(hB.out.below hb1 hlt).n;have y1:=(hB.out.below hb1 hlt).p;have y2:=(hB.out.below hb1 hlt).r
    have HB1:=Lib.hid (kS hb1 hbW.out (by simp))
    clear hb1
    rw [HC.out]
    go_wp2_with fail
    go_ret2
    exact ⟨by rw [HR.out.1,HR.out.2];rfl,HB1.out⟩
   ·have HR:Hid (dR aj x k=0∧dN aj x k=gQ aj x.n x.p k):=Ij (by unfold qK;rw [hok,decide_eq_true (show 1≤k by omega),decide_eq_true (show k≤x.r by omega)];rfl)
    have d1:decide (k<1)=false:=decide_eq_false h1
    have d2:decide (x.r<k)=false:=decide_eq_false h2
    have hr1:=hx.r1
    have hp1:=hx.p1
    clear hok
    go_enter Tryz.func60,Tryz.ntmps60
    go_wp2_with fail
    refine (oL x cv _ hx HS.out).mono ?_
    rintro e w1 ⟨rfl,hb1⟩
    have y0:=(hB.out.below hb1 hlt).n;have y1:=(hB.out.below hb1 hlt).p;have y2:=(hB.out.below hb1 hlt).r
    have HB1:=Lib.hid (kS hb1 hbW.out (by simp))
    clear hb1
    rw [HC.out]
    go_wp2_with fail
    refine (Cm _ _ _ _ hn4 hn32 hp1 (by omega) (by omega)).mono ?_
    rintro e w2 ⟨rfl,hb2⟩
    have HB2:=Lib.hid (HB1.out.trans (hb2.mono HB1.out.size))
    clear hb2
    go_wp2_with fail
    go_ret2
    exact ⟨by rw [HR.out.1,HR.out.2];rfl,HB2.out⟩
end
section
open Go.RowKit Wv
theorem Vx {X : Cx} {x : Par} {v : Value} (hlen : x.ch.length ≤ 140737488351232) (zk : ∀ q, q ∈ x.ch → q < 4294967296) (h : Rep X (.g (fU x)) v) : ∃ cv, v = x.val cv ∧ SliceAt X.w cv x.ch := by
  cases h with
  | g hc hr =>
  rename_i cvs
  unfold fU at hc hr
  match cvs, hc with
  | [c0, c1, c2, c3, c4, c5, c6], _ =>
    have e0 := nU (hr 0 _ c0 rfl rfl)
    have e1 := nU (hr 1 _ c1 rfl rfl)
    have e2 := nU (hr 2 _ c2 rfl rfl)
    have e4 := nU (hr 4 _ c4 rfl rfl)
    have e5 := nU (hr 5 _ c5 rfl rfl)
    have e6 := nU (hr 6 _ c6 rfl rfl)
    have h3 := hr 3 _ c3 rfl rfl
    subst e0 e1 e2 e4 e5 e6
    refine ⟨c3, rfl, ?_⟩
    cases h3 with
    | @t _ _ _ p cap cs hl hcs hn hcap hp hrr =>
      refine ⟨p, cap, rfl, hn, hlen, fun hne => ?_⟩
      obtain ⟨b, off, rfl, hq⟩ := hp (List.length_pos_iff.2 hne)
      refine ⟨b, off, rfl, ?_⟩
      have key : ∀ i (hi : i < x.ch.length), cellAt X.w b (off + i) = some (.int .u32 (x.ch[i] : Nat)) := fun i hi => by
       have hi2 : i < cs.length := by rw [hcs, List.length_map]; exact hi
       have h5 := hq i cs[i] (List.getElem?_eq_getElem hi2)
       have h6 := hrr i (.v (.int .u32 x.ch[i])) cs[i] (by rw [List.getElem?_map, List.getElem?_eq_getElem hi]; rfl) (List.getElem?_eq_getElem hi2)
       rw [nU h6] at h5
       exact h5.1
      exact ⟨dO (key 0 (List.length_pos_iff.2 hne)), key, zk⟩
theorem NZ (x:Par) (k:Int) (hx:o8 x) (hlen:x.ch.length≤140737488351232) (zk: ∀ q,q∈x.ch→q<4294967296):TC Tryz.prog 60 [.g (fU x), .v (.int .i64 k)] (.tup [.v (.int .i64 (dN aj x k:Nat)), .v (.int .i64 (dR aj x k))]):=by
 refine ⟨by kernel_rfl,fun X vs hX hbad hr=>?_⟩
 obtain ⟨h1,h2⟩:=hr
 match vs,h1 with
 | [v0,v1],_=>
  obtain ⟨cv,rfl,hs⟩:=Vx hlen zk (h2 0 _ v0 rfl rfl)
  have e1:=nU (h2 1 _ v1 rfl rfl)
  subst e1
  refine (ab8 x cv k X.w hx hs).mono ?_
  rintro e w' ⟨rfl,hb⟩
  refine ⟨_,rfl,hb,fun m=>?_⟩
  exact .tup (cvs:=[_,_]) rfl (fun i a y q1 q2=>by
   match i with
   | 0=>simp at q1 q2;subst q1 q2;exact .v _
   | 1=>simp at q1 q2;subst q1 q2;exact .v _
   | i+2=>simp at q1)
end
section
open Go.RowKit
theorem qL (n:Int) (t q:Nat) (w:World) (hn4:4≤n) (hn:n≤32) (ht0:0<t) (ht:t≤2147483647) (hq:q<4294967296):
  Calls Tryz.prog 127 #[.int .i64 n, .int .i64 t, .int .u32 q] w fun r w'=>r= .returned (.bool (dM ay ((2*n).toNat*t) q))∧w'=w:=
 (xk n t q w hn4 hn ht0 ht hq).mono fun _ _ ⟨h1,h2⟩=>⟨h1,h2.symm⟩
theorem xZ {pr:Nat→Bool} {x:Par} (h:iT x.n=false∨mZ x.ch.length=false∨wtB x=false∨ ¬ 0<x.t pr∨dM pr (stepOf pr x) x.sp=false∨(∃ q,q∈x.ch∧jq pr (stepOf pr x) x.sp q=true)∨ ¬ x.ch.Nodup):chk pr x=2:=by
 have:okB pr x=false:=by
  rw [nO]
  rcases h with h | h | h | h | h | ⟨q,hq,h⟩ | h
  ·rw [h];rfl
  ·unfold conds;rw [h];simp
  ·unfold conds;rw [h];simp
  ·unfold conds;rw [decide_eq_false h];simp
  ·unfold conds;rw [h];simp
  ·have:x.ch.any (jq pr (stepOf pr x) x.sp)=true:=List.any_eq_true.2 ⟨q,hq,h⟩
   unfold conds;rw [this];simp
  ·unfold conds;rw [decide_eq_false h];simp
 unfold chk;rw [this];rfl
theorem adO {pr:Nat→Bool} {x:Par} (h1:iT x.n=true) (h2:mZ x.ch.length=true) (h3:wtB x=true) (h4:0<x.t pr) (h5:dM pr (stepOf pr x) x.sp=true)
  (h6: ∀ q,q∈x.ch→jq pr (stepOf pr x) x.sp q=false) (h7:x.ch.Nodup):chk pr x=0:=by
 have:okB pr x=true:=by
  have hb:x.ch.any (jq pr (stepOf pr x) x.sp)=false:=by
   rw [List.any_eq_false];intro q hq;rw [h6 q hq];simp
  rw [nO,h1]
  unfold conds
  rw [h2,h3,h5,hb,decide_eq_true h4,decide_eq_true h7];rfl
 unfold chk;rw [this];rfl
theorem PV {l:List Nat} {i:Nat} (hi:i<l.length) (h:(l.take i).Nodup) (hne: ∀ j (hj:j<i),l[j]'(by omega)≠l[i]):(l.take (i+1)).Nodup:=by
 rw [List.take_succ_eq_append_getElem hi,List.nodup_append]
 refine ⟨h,by simp,?_⟩
 intro a ha b hb
 simp at hb;subst hb
 obtain ⟨j,hj,rfl⟩:=List.mem_iff_getElem.1 ha
 rw [List.getElem_take]
 exact hne j (by simp at hj;omega)
theorem ahF {l:List Nat} {i j:Nat} (hi:i<l.length) (hj:j<i) (h:l[j]'(by omega)=l[i]): ¬ l.Nodup:=by
 intro hn
 exact (List.pairwise_iff_getElem.1 hn) j i (by omega) hi hj h
theorem oV (x:Par) (p:Option Addr) (cap:Nat) (w:World) (h:iT x.n=false∨mZ x.ch.length=false∨wtB x=false):
  Calls Tryz.prog 83 #[x.val (.slice p x.ch.length cap)] w fun r w'=>r= .returned (.int .i64 (chk ay x))∧Below w.heap.size w w':=by
 have hR:Hid (chk ay x=2):=xZ (by rcases h with h | h | h<;>simp [h])
 have call:=fun wx=>(MF x.n wx)
 have CALL:=Lib.hid call
 clear call
 unfold Par.val
 cases hd:iT x.n with
 | false=>
  clear h
  go_enter Tryz.func83,Tryz.ntmps83
  go_wp2_with fail
  refine (CALL.out _).mono ?_
  rintro e w1 ⟨rfl,rfl⟩
  rw [hd]
  go_wp2_with fail
  go_ret
  exact ⟨aU (by rw [hR.out]),(Below.refl _ _).alloc (Nat.le_refl _) _⟩
 | true=>
  by_cases l1:1≤x.ch.length
  case neg=>
   have d1:decide ((x.ch.length:Int)<1)=true:=decide_eq_true (by omega)
   clear h
   go_enter Tryz.func83,Tryz.ntmps83
   go_wp2_with fail
   refine (CALL.out _).mono ?_
   rintro e w1 ⟨rfl,rfl⟩
   rw [hd]
   go_wp2_with fail
   go_ret
   exact ⟨aU (by rw [hR.out]),(Below.refl _ _).alloc (Nat.le_refl _) _⟩
  have d1:decide ((x.ch.length:Int)<1)=false:=decide_eq_false (by omega)
  by_cases l2:x.ch.length≤24
  case neg=>
   have d2:decide ((24:Int)<x.ch.length)=true:=decide_eq_true (by omega)
   clear h
   go_enter Tryz.func83,Tryz.ntmps83
   go_wp2_with fail
   refine (CALL.out _).mono ?_
   rintro e w1 ⟨rfl,rfl⟩
   rw [hd]
   go_wp2_with fail
   go_ret
   exact ⟨aU (by rw [hR.out]),(Below.refl _ _).alloc (Nat.le_refl _) _⟩
  have d2:decide ((24:Int)<x.ch.length)=false:=decide_eq_false (by omega)
  have hw3:wtB x=false:=by
   rcases h with h | h | h
   ·rw [h] at hd;simp at hd
   ·unfold mZ at h;simp at h;omega
   ·exact h
  clear h
  by_cases m1:x.wt<1
  ·have e1:decide (x.wt<1)=true:=decide_eq_true m1
   clear hw3
   go_enter Tryz.func83,Tryz.ntmps83
   go_wp2_with fail
   refine (CALL.out _).mono ?_
   rintro e w1 ⟨rfl,rfl⟩
   rw [hd]
   go_wp2_with fail
   go_ret
   exact ⟨aU (by rw [hR.out]),(Below.refl _ _).alloc (Nat.le_refl _) _⟩
  have e1:decide (x.wt<1)=false:=decide_eq_false m1
  by_cases m2:x.n<x.wt
  ·have e2:decide (x.n<x.wt)=true:=decide_eq_true m2
   clear hw3
   go_enter Tryz.func83,Tryz.ntmps83
   go_wp2_with fail
   refine (CALL.out _).mono ?_
   rintro e w1 ⟨rfl,rfl⟩
   rw [hd]
   go_wp2_with fail
   go_ret
   exact ⟨aU (by rw [hR.out]),(Below.refl _ _).alloc (Nat.le_refl _) _⟩
  have e2:decide (x.n<x.wt)=false:=decide_eq_false m2
  have e3:decide ((64:Int)<x.er)=true:=by
   apply decide_eq_true
   unfold wtB at hw3
   have:=of_decide_eq_false hw3
   omega
  clear hw3
  go_enter Tryz.func83,Tryz.ntmps83
  go_wp2_with fail
  refine (CALL.out _).mono ?_
  rintro e w1 ⟨rfl,rfl⟩
  rw [hd]
  go_wp2_with fail
  go_ret
  exact ⟨aU (by rw [hR.out]),(Below.refl _ _).alloc (Nat.le_refl _) _⟩
theorem N7 (x:Par) (b off cap:Nat) (w:World) (hx:o8 x) (hr:sJ w b off x.ch) (hd:iT x.n=true) (hl:mZ x.ch.length=true) (hw:wtB x=true):
  Calls Tryz.prog 83 #[x.val (.slice (some ⟨b,off,none⟩) x.ch.length cap)] w fun r w'=>r= .returned (.int .i64 (chk ay x))∧Below w.heap.size w w':=by
 obtain ⟨l1,l2⟩:=of_decide_eq_true hl
 obtain ⟨m1,m2,m3⟩:=of_decide_eq_true hw
 have HL:=Lib.hid hl
 have HW:=Lib.hid hw
 clear hl hw
 have hn4:4≤x.n∧x.n≤32:=by have:=qw hd;omega
 obtain ⟨hn4,hn32⟩:=hn4
 unfold Par.val
 go_enter Tryz.func83,Tryz.ntmps83
 go_wp2_with fail
 refine (MF _ _).mono ?_
 rintro e w1 ⟨rfl,rfl⟩
 rw [hd]
 go_wp2_with fail
 refine (CB _ _ _ _ hn4 hn32 hx.p1 hx.r0 hx.r1).mono ?_
 rintro e w1 ⟨rfl,rfl⟩
 have htl:=GY ay x.n x.p x.r
 have hT:Hid (x.t ay=gQ ay x.n x.p x.r):=rfl
 generalize gQ ay x.n x.p x.r=t at htl hT ⊢
 by_cases t0:t=0
 ·have hR:Hid (chk ay x=2):=xZ (by rw [hT.out,t0];simp)
  have e0:((t:Int)==0)=true:=beq_iff_eq.2 (by omega)
  clear t0
  go_wp2_with fail
  go_ret
  exact ⟨aU (by rw [hR.out]),(Below.refl _ _).alloc (Nat.le_refl _) _⟩
 have e0:((t:Int)==0)=false:=beq_eq_false_iff_ne.2 (by omega)
 have hst:Hid (stepOf ay x=(2*x.n).toNat*t):=by show _=_;unfold stepOf;rw [hT.out]
 have tpos:0<t:=by omega
 have htp:Hid (0<x.t ay):=by show _<_;rw [hT.out];exact tpos
 clear t0
 cases hg:dM ay ((2*x.n).toNat*t) x.sp with
 | false=>
  have hR:Hid (chk ay x=2):=xZ (by rw [hst.out,hg];simp)
  go_wp2_with (go_at_call 127;refine (xk _ _ _ _ hn4 hn32 tpos htl hx.sp1).mono ?_;rintro e w1 ⟨rfl,rfl⟩;rw [hg])
  go_ret
  exact ⟨aU (by rw [hR.out]),(Below.refl _ _).alloc (Nat.le_refl _) _⟩
 | true=>
  have HG:=Lib.hid hg
  go_wp2_with (go_at_call 127;refine (xk _ _ _ _ hn4 hn32 tpos htl hx.sp1).mono ?_;rintro e w1 ⟨rfl,rfl⟩;rw [hg])
  clear hg
  have hB:um (w.alloc (.cells #[.int .i64 x.n, .int .u32 x.p, .int .i64 x.r, .slice (some ⟨b,off,none⟩) x.ch.length cap, .int .u32 x.sp, .int .i64 x.wt, .int .u32 x.er] 25)) w.heap.size x (.slice (some ⟨b,off,none⟩) x.ch.length cap):=by
   constructor<;>simp [go_sem]
  have hbW:Below w.heap.size w (w.alloc (.cells #[.int .i64 x.n, .int .u32 x.p, .int .i64 x.r, .slice (some ⟨b,off,none⟩) x.ch.length cap, .int .u32 x.sp, .int .i64 x.wt, .int .u32 x.er] 25)):=(Below.refl _ _).alloc (Nat.le_refl _) _
  have hsW:w.heap.size<(w.alloc (.cells #[.int .i64 x.n, .int .u32 x.p, .int .i64 x.r, .slice (some ⟨b,off,none⟩) x.ch.length cap, .int .u32 x.sp, .int .i64 x.wt, .int .u32 x.er] 25)).heap.size:=by simp
  generalize w.alloc (.cells #[.int .i64 x.n, .int .u32 x.p, .int .i64 x.r, .slice (some ⟨b,off,none⟩) x.ch.length cap, .int .u32 x.sp, .int .i64 x.wt, .int .u32 x.er] 25)=W at hB hbW hsW ⊢
  have hrW:=hr.below hbW hr.blk
  have HB:=Lib.hid hB
  clear hB
  go_loopw [4,5] (fun vi _ wr=> ∃ i:Nat,vi= .int .i64 i∧i≤x.ch.length∧Hid (∀ j (hj:j<i) (hj2:j<x.ch.length),jq ay ((2*x.n).toNat*t) x.sp x.ch[j]=false)∧Hid ((x.ch.take i).Nodup)∧Below W.heap.size W wr) (fun vi _ _=>x.ch.length - (intOf vi).toNat)
  case atStart=>exact ⟨0,rfl,by omega,by intro j hj;omega,by simp [Hid],Below.refl _ _⟩
  case round=>
   obtain ⟨i,rfl,hi,hgd,hnd,hbel⟩:=hrel
   have hB:=HB.out.below hbel hsW
   have k0:=hB.n
   have k3:=hB.ch
   have k4:=hB.sp
   clear hB
   by_cases hlt:i<x.ch.length
   ·have hq:=hr.rng x.ch[i] (List.getElem_mem hlt)
    have hci:=(hrW.below hbel hrW.blk).cell i hlt
    obtain ⟨q,hqe⟩: ∃ q,q=x.ch[i]:=⟨_,rfl⟩
    rw [←hqe] at hq hci
    have HQ:=Lib.hid hqe
    clear hqe
    have i0:(0:Int)≤i:=by omega
    have i1:(i:Int)<x.ch.length:=by omega
    cases hg:dM ay ((2*x.n).toNat*t) q with
    | false=>
     have hR:Hid (chk ay x=2):=xZ (by
      right;right;right;right;right;left
      exact ⟨x.ch[i],List.getElem_mem hlt,by rw [hst.out, ←HQ.out];unfold jq;rw [hg];simp⟩)
     go_wp2_with fail
     go_quiet ((go_at_call 127;exact Calls.quiet_of_same (qL _ _ _ _ hn4 hn32 tpos htl hq)))
     go_wp2_with fail
     go_ret
     exact ⟨aU (by rw [hR.out]),hbW.trans ((below_drewN hbel _).mono (by omega))⟩
    | true=>
     by_cases hsp:q<x.sp
     case neg=>
      have s1:decide ((x.sp:Int)≤q)=true:=decide_eq_true (by omega)
      have s2:decide (x.sp≤q)=true:=decide_eq_true (by omega)
      have hR:Hid (chk ay x=2):=xZ (by
       right;right;right;right;right;left
       exact ⟨x.ch[i],List.getElem_mem hlt,by rw [←HQ.out];unfold jq;rw [decide_eq_false hsp];simp⟩)
      go_wp2_with fail
      go_quiet ((go_at_call 127;exact Calls.quiet_of_same (qL _ _ _ _ hn4 hn32 tpos htl hq)))
      go_wp2_with fail
      go_ret
      exact ⟨aU (by rw [hR.out]),hbW.trans ((below_drewN hbel _).mono (by omega))⟩
     have s1:decide ((x.sp:Int)≤q)=false:=decide_eq_false (by omega)
     have s2:decide (x.sp≤q)=false:=decide_eq_false (by omega)
     have hgd':Hid (∀ j (hj:j<i+1) (hj2:j<x.ch.length),jq ay ((2*x.n).toNat*t) x.sp x.ch[j]=false):=by
      intro j hj hj2
      by_cases e:j=i
      ·subst e;rw [←HQ.out];unfold jq;rw [hg,decide_eq_true hsp];rfl
      ·exact hgd.out j (by omega) hj2
     clear hgd
     go_wp2_with fail
     go_quiet ((go_at_call 127;exact Calls.quiet_of_same (qL _ _ _ _ hn4 hn32 tpos htl hq)))
     go_wp2_with fail
     have afP:=below_drewN hbel nq
     clear hbel hg
     generalize wr.drewN nq=wr2 at afP ⊢
     go_loopw [5] (fun vk w2=> ∃ k:Nat,vk= .int .i64 k∧k≤i∧Hid (∀ j (hj:j<k) (hj2:j<x.ch.length),x.ch[j]≠q)∧Below W.heap.size W w2) (fun vk _=>i - (intOf vk).toNat)
     case atStart=>exact ⟨0,rfl,by omega,by intro j hj;omega,afP⟩
     case round=>
      obtain ⟨k,rfl,hk,hne,Gg⟩:=hrel
      have hB3:=HB.out.below Gg hsW
      have j3:=hB3.ch
      clear hB3
      by_cases hlk:k<i
      ·have hck:=(hrW.below Gg hrW.blk).cell k (by omega)
       have akg:=(hrW.below Gg hrW.blk).cell i (by omega)
       rw [←HQ.out] at akg
       obtain ⟨qk,hqk⟩: ∃ q,q=x.ch[k]:=⟨_,rfl⟩
       rw [←hqk] at hck
       have HQK:=Lib.hid hqk
       clear hqk
       have k0:(0:Int)≤k:=by omega
       have k1:(k:Int)<x.ch.length:=by omega
       by_cases he:qk=q
       ·have e1:((qk:Int)==(q:Int))=true:=beq_iff_eq.2 (by omega)
        have hR:Hid (chk ay x=2):=xZ (by
         right;right;right;right;right;right
         exact ahF hlt hlk (by rw [←HQK.out, ←HQ.out];exact he))
        clear he
        go_wp2_with fail
        go_quiet (fail)
        go_wp2_with fail
        go_ret
        exact ⟨aU (by rw [hR.out]),hbW.trans ((below_drewN Gg _).mono (by omega))⟩
       ·have e1:((qk:Int)==(q:Int))=false:=beq_eq_false_iff_ne.2 (by omega)
        have hne':Hid (∀ j (hj:j<k+1) (hj2:j<x.ch.length),x.ch[j]≠q):=by
         intro j hj hj2
         by_cases e:j=k
         ·subst e;rw [←HQK.out];exact he
         ·exact hne.out j (by omega) hj2
        clear hne he
        go_wp2_with fail
        go_quiet (fail)
        go_wp2_with fail
        go_roundw
        case rel=>exact ⟨k+1,by go_num,by omega,hne',below_drewN Gg _⟩
        case measure=>simp [intOf];omega
      ·have hnd':Hid ((x.ch.take (i+1)).Nodup):=PV hlt hnd.out (fun j hj=>by rw [←HQ.out];exact hne.out j (by omega) (by omega))
       clear hnd hne
       go_wp2_with fail
       go_roundw
       case rel=>exact ⟨i+1,by go_num,by omega,hgd',hnd',Gg⟩
       case measure=>simp [intOf];omega
   ·obtain rfl:i=x.ch.length:=by omega
    have hR:Hid (chk ay x=0):=adO hd HL.out HW.out htp.out (by rw [hst.out];exact HG.out) (by
      intro q hq
      obtain ⟨j,hj,rfl⟩:=List.mem_iff_getElem.1 hq
      rw [hst.out];exact hgd.out j hj hj) (by have:=hnd.out;rwa [List.take_length] at this)
    clear hgd hnd
    go_wp2_with fail
    go_ret
    exact ⟨aU (by rw [hR.out]),hbW.trans (hbel.mono (by omega))⟩
theorem oW (x:Par) (cv:Value) (w:World) (hx:o8 x) (hcv:SliceAt w cv x.ch):
  Calls Tryz.prog 83 #[x.val cv] w fun r w'=>r= .returned (.int .i64 (chk ay x))∧Below w.heap.size w w':=by
 obtain ⟨p,cap,rfl,hcap,hcap2,hrow⟩:=hcv
 cases hd:iT x.n with
 | false=>exact oV x p cap w (.inl hd)
 | true=>
  cases hl:mZ x.ch.length with
  | false=>exact oV x p cap w (.inr (.inl hl))
  | true=>
   cases hw:wtB x with
   | false=>exact oV x p cap w (.inr (.inr hw))
   | true=>
    have hne:x.ch≠[]:=by
     intro h
     have:=of_decide_eq_true hl
     rw [h] at this
     simp at this
    obtain ⟨b,off,rfl,hr⟩:=hrow hne
    exact N7 x b off cap w hx hr hd hl hw
end
section
structure RD where
 r:Nat
 b1:Nat
 s1:Bool
 b2:Nat
 s2:Bool
 b3:Nat
 s3:Bool
def num (b:Nat) (s:Bool) (o:Nat):Nat:=cond s (b ^ o+1) (b ^ o - 1)
def gG (D:RD) (o:Nat):Nat:=Nat.gcd (Nat.gcd (num D.b1 D.s1 o) (num D.b2 D.s2 o)) (num D.b3 D.s3 o)
def ab9 (D:RD) (o q:Nat):Bool:=cond (Nat.beq (D.b1 ^ o % q) (sg D.s1 q)) (cond (Nat.beq (D.b2 ^ o % q) (sg D.s2 q)) (Nat.beq (D.b3 ^ o % q) (sg D.s3 q)) false) false
def bad (n:Nat):Bool:=cond (SPk 2 n) (cond (SPk 7 n) (cond (SPk 61 n) false true) true) true
def mG (n:Nat):Bool:=cond (Nat.ble 2147483648 n) true (bad n)
def allT (n:Nat) (f:Nat→Bool):Bool:=Nat.rec true (fun k ih=>cond (f k) ih false) n
theorem kG (f:Nat→Bool): ∀ n,allT n f=true→ ∀ k,k<n→f k=true:=by
 intro n
 induction n with
 | zero=>intro _ k hk;omega
 | succ n ih=>
  intro h k hk
  have e:allT (n+1) f=cond (f n) (allT n f) false:=rfl
  rw [e] at h
  cases hf:f n with
  | false=>rw [hf] at h;cases h
  | true=>
   rw [hf] at h
   by_cases hkn:k=n
   ·rw [hkn];exact hf
   ·exact ih h k (by omega)
def allM (m:Nat) (f:Nat→Bool):Bool:=allT m fun hi=>allT 1000 fun lo=>f (hi*1000+lo)
theorem Gh (f:Nat→Bool) (m:Nat) (h:allM m f=true) (k:Nat) (hk:k<m*1000):f k=true:=by
 have h1:=kG _ m h (k / 1000) (by omega)
 have h2:=kG _ 1000 h1 (k % 1000) (by omega)
 have:k / 1000*1000+k % 1000=k:=by omega
 rw [this] at h2;exact h2
def oZ (f:Nat) (fuel:Nat):Nat→Nat:=Nat.rec (fun g=>g) (fun _ ih g=>cond (Nat.beq (g % f) 0) (force (g / f) ih) g) fuel
theorem PW {f q:Nat} (hq:Pr q) (hf:0<f) (hfq:f<q): ∀ fuel g,q∣g→q∣oZ f fuel g:=by
 intro fuel
 induction fuel with
 | zero=>intro g h;exact h
 | succ n ih=>
  intro g h
  have e:oZ f (n+1) g=cond (Nat.beq (g % f) 0) (oZ f n (g / f)) g:=by
   show cond _ (force _ _) _=_
   rw [force_eq];rfl
  rw [e]
  cases hb:Nat.beq (g % f) 0 with
  | false=>exact h
  | true=>
   have h0:g % f=0:=Nat.eq_of_beq_eq_true hb
   apply ih
   have hg:g=f*(g / f):=by have:=Nat.div_add_mod g f;omega
   rw [hg] at h
   exact hq.uh h (fun hc=>by have:=Nat.le_of_dvd hf hc;omega)
theorem PX {f:Nat}: ∀ fuel g,0<g→0<oZ f fuel g:=by
 intro fuel
 induction fuel with
 | zero=>intro g h;exact h
 | succ n ih=>
  intro g h
  have e:oZ f (n+1) g=cond (Nat.beq (g % f) 0) (oZ f n (g / f)) g:=by
   show cond _ (force _ _) _=_
   rw [force_eq];rfl
  rw [e]
  cases hb:Nat.beq (g % f) 0 with
  | false=>exact h
  | true=>
   have h0:g % f=0:=Nat.eq_of_beq_eq_true hb
   apply ih
   have hg:g=f*(g / f):=by have:=Nat.div_add_mod g f;omega
   rcases Nat.eq_zero_or_pos (g / f) with hz | hz
   ·rw [hz] at hg;omega
   ·exact hz
def strip:List Nat→Nat→Nat
 | [],g=>g
 | f::l,g=>force (oZ f 8 g) (strip l)
theorem Xw {q:Nat} (hq:Pr q): ∀ (l:List Nat) (g:Nat),(∀ f,f∈l→0<f∧f<q)→q∣g→q∣strip l g:=by
 intro l
 induction l with
 | nil=>intro g _ h;exact h
 | cons f l ih=>
  intro g hl h
  have e:strip (f::l) g=strip l (oZ f 8 g):=by show force _ _=_;rw [force_eq]
  rw [e]
  have:=hl f (by simp)
  exact ih _ (fun f hf=>hl f (by simp [hf])) (PW hq this.1 this.2 8 g h)
theorem Xx: ∀ (l:List Nat) (g:Nat),0<g→0<strip l g:=by
 intro l
 induction l with
 | nil=>intro g h;exact h
 | cons f l ih=>
  intro g h
  have e:strip (f::l) g=strip l (oZ f 8 g):=by show force _ _=_;rw [force_eq]
  rw [e]
  exact ih _ (PX 8 g h)
def ahG (D:RD) (l:List Nat) (k:Nat):Bool:=
 cond (Nat.ble k 1) true (force (iO (k - 1)) fun o=>force (gG D o) fun G=>cond (Nat.ble G 32768) true
  (force (strip l G) fun R=>allT (R / 32768) fun m=>cond (Nat.beq (R % (m+1)) 0) (force (R / (m+1)*k) mG) true))
def allA (D:RD) (l:List Nat):Bool:=allM 66 fun k=>cond (Nat.beq (k % D.r) 0) (cond (Nat.beq (k % 2) 1) (ahG D l k) true) true
def fH (x q:Nat):Bool:=cond (Nat.beq (2 ^ x % q) 1) (cond (Nat.beq (7 ^ x % q) 1) (Nat.beq (61 ^ x % q) 1) false) false
def acd (q:Nat) (c:Nat):Nat:=Nat.rec 1 (fun c ih=>cond (Nat.beq ((q - 1) % (c+1)) 0) (cond (fH ((q - 1) / (c+1)) q) (c+1) ih) ih) c
def minimal (L q:Nat):Bool:=
 cond (fH L q) (allT 181 fun d=>cond (Nat.beq (L % (d+1)) 0)
  (cond (cond (Nat.beq d 0) true (cond (fH (L / (d+1)) q) false true)) (cond (Nat.beq (d+1) L) true (cond (fH (d+1) q) false true)) false) true) false
def ahH (D:RD) (q:Nat):Bool:=
 cond (ab9 D (iO (q - 1)) q) (force ((q - 1) / acd q 30) fun L=>cond (cond (Nat.ble L 32768) (minimal L q) false) (allT (2147483647 / q / L+1) fun j=>
  force (1+L*j) fun k=>cond (Nat.beq (k % D.r) 0) (force (q*k) mG) true) false) true
def allB (D:RD):Bool:=allM 33 fun q=>cond (Nat.ble q 300) true (cond (Nat.ble 32769 q) true (cond (Nat.beq (q % 2) 1) (ahH D q) true))
def subs:List Nat→List Nat
 | []=>[1]
 | q::l=>subs l++(subs l).map (q* ·)
def PY (D:RD) (small:List Nat):Bool:=
 (allT 301 fun q=>cond (Nat.beq (q % 2) 1) (cond (Nat.ble q 2) true (cond (ab9 D (iO (q - 1)) q) (small.any (Nat.beq q)) true)) true) &&
 (small.all fun q=>Nat.beq (2 ^ (q*(q - 1)) % (q*q)) 1 && !(Nat.beq (2 ^ (q - 1) % (q*q)) 1)) &&
 ((subs small).all fun n=>cond (Nat.beq (n % D.r) 0) (cond (Nat.beq n D.r) true (mG n)) true)
def rd3:RD:=⟨3,2,true,7,false,61,false⟩
def ace:List Nat:=[3,19,83,131,283,563,619,691,859,971,1123,1259,1459,1483,1571,1627,1699,1811,1907,1979,2099,2131,2243,2467,2659,2803,2819,3163,3307,3491,3499,3547,3659,3779,3923,4051,4091,4283,4651,4987,5003,5011,5059,5099,5171,5227,5323,5563,5659,5843,5851,5939,6299,6691,6907,7019,7027,7243,7307,7451,7507,7523,7691,7699,8011,8147,8179,8291,8419,8539,8707,8867,8963,9043,9467,9491,9883,9931,10099,10139,10267,10331,10531,10723,10867,10883,10939,10979,11443,11483,11731,12227,12323,12347,12379,12491,12547,12907,13163,13411,13523,13691,13859,13907,14411,14563,14747,14843,14923,15083,15259,15307,15643,15739,15907,16091,16187,16267,16547,16763,16883,16931,17099,17107,17419,17443,17491,17827,17939,18059,18427,18539,18731,18787,19211,19267,19379,19403,19507,19603,19739,19963,20011,20347,20627,21059,21187,21227,21467,22067,22091,22123,22147,22307,22531,22571,22643,22651,22739,22811,22963,23099,23131,23603,24043,24083,24107,24251,24419,24547,24659,25147,25171,25667,25819,26099,26227,26339,26347,26459,26731,27011,27179,27611,27691,27739,27803,27947,28019,28307,28411,28643,28867,28979,29027,29363,29483,29851,30211,30259,30427,30491,30539,30763,30931,31219,31307,31379,31643,31723,31883,31891,32003,32059,32203,32371,32443]
def ahI:List Nat:=[3,19,83,131,283]
theorem a3:allA rd3 ace=true:=by decide+kernel
theorem b3:allB rd3=true:=by decide+kernel
theorem c3:PY rd3 ahI=true:=by decide+kernel
def rd5:RD:=⟨5,4,true,49,true,61,false⟩
def acf:List Nat:=[5,13,229,269,733,797,853,1181,1277,2309,2693,2749,3461,3533,3709,3877,4133,4373,4597,4861,5381,5669,5869,6173,6709,7573,7621,7789,8221,8501,8581,9029,9677,9901,10253,10853,11093,11549,11941,12277,12829,12941,13093,13789,13933,14437,14461,14717,15053,15277,15413,15629,15973,16229,16253,16421,16901,17093,17909,17981,18133,18413,18541,18749,18773,19141,19157,19661,20149,20261,20389,20509,21773,22109,22189,22853,22861,23917,23957,24197,24373,24709,24889,25189,25693,26501,26813,26981,27109,27653,27733,28069,28181,28229,28573,28661,28789,28793,29021,29077,29581,29917,30133,30253,30509,30637,30757,31013,31237,31541,32213]
def ahJ:List Nat:=[5,13,229,269]
theorem a5:allA rd5 acf=true:=by decide+kernel
theorem b5:allB rd5=true:=by decide+kernel
theorem c5:PY rd5 ahJ=true:=by decide+kernel
def PZ:RD:=⟨11,2,true,7,true,61,true⟩
def Vy:List Nat:=[11,43,67,211,331,499,547,739,883,907,947,1019,1187,1283,1499,1523,1579,1619,1787,2003,2011,2179,2251,2339,2347,2531,2843,2963,3019,3067,3203,3259,3347,3467,3571,3691,3739,3803,3851,4019,4211,4363,4547,4603,4643,4691,5107,5147,5419,5483,5867,5923,6211,6323,6379,6619,6659,6763,6841,6883,6899,7043,7219,7331,7459,7547,7723,7907,7963,8059,8243,8387,8563,8731,8747,9011,9059,9283,9587,9739,9811,9851,10067,10091,10259,10459,10651,10987,11131,11491,11579,11827,11867,11923,11939,12107,12163,12251,13003,13043,13147,13267,13451,13763,13931,14051,14683,14779,14851,14891,14939,14947,15107,15187,15227,15443,15451,15667,15731,15971,16067,16139,16843,16979,17011,17033,17123,17291,17467,17483,17539,17579,17627,17683,17707,17971,17987,18211,18307,18379,18523,18587,18859,18979,19259,19387,19427,19483,19531,19819,19979,20147,20323,20507,20563,20707,20771,20899,21211,21379,21611,21683,21739,22003,22051,22171,22283,23003,23027,23251,23291,23339,23459,23563,24179,24371,24851,24859,25243,25307,25411,25603,25643,25771,26251,26387,26891,27091,27259,27427,27539,27763,27827,27883,28123,28211,28219,28403,28571,28603,28627,28723,28771,29059,29243,29339,29611,29803,30307,30347,30643,31019,31147,31627,31859,32027,32251,32299,32323,32363,32531,32603]
def adP:List Nat:=[11,43,67,211]
theorem a11:allA PZ Vy=true:=by decide+kernel
theorem b11:allB PZ=true:=by decide+kernel
theorem c11:PY PZ adP=true:=by decide+kernel
def P5:RD:=⟨13,4,true,49,true,61,false⟩
def Vz:List Nat:=[5,13,229,269,733,797,853,1181,1277,2309,2693,2749,3461,3533,3709,3877,4133,4373,4597,4861,5381,5669,5869,6173,6709,7573,7621,7789,8221,8501,8581,9029,9677,9901,10253,10853,11093,11549,11941,12277,12829,12941,13093,13789,13933,14437,14461,14717,15053,15277,15413,15629,15973,16229,16253,16421,16901,17093,17909,17981,18133,18413,18541,18749,18773,19141,19157,19661,20149,20261,20389,20509,21773,22109,22189,22853,22861,23917,23957,24197,24373,24709,24889,25189,25693,26501,26813,26981,27109,27653,27733,28069,28181,28229,28573,28661,28789,28793,29021,29077,29581,29917,30133,30253,30509,30637,30757,31013,31237,31541,32213]
def adQ:List Nat:=[5,13,229,269]
theorem a13:allA P5 Vz=true:=by decide+kernel
theorem b13:allB P5=true:=by decide+kernel
theorem c13:PY P5 adQ=true:=by decide+kernel
end
section
structure Pass (n:Nat):Prop where
 lo:3≤n
 hi:n<2147483648
 odd:n % 2=1
 n7: ¬ 7∣n
 n61: ¬ 61∣n
 p2:SP 2 n=true
 p7:SP 7 n=true
 p61:SP 61 n=true
variable {n:Nat}
theorem Pass.Ik (h:Pass n):mG n=false:=by
 have e:Nat.ble 2147483648 n=false:=by
  cases hb:Nat.ble 2147483648 n with
  | false=>rfl
  | true=>have:=Nat.le_of_ble_eq_true hb;have:=h.hi;omega
 have hi:=h.hi;have lo:=h.lo
 have e2:SPk 2 n=true:=by rw [←xg 2 n (by omega) (by omega)];exact h.p2
 have e7:SPk 7 n=true:=by rw [←xg 7 n (by omega) (by omega)];exact h.p7
 have e61:SPk 61 n=true:=by rw [←xg 61 n (by omega) (by omega)];exact h.p61
 unfold mG bad
 rw [e,e2,e7,e61];rfl
structure sU (D:RD) (n:Nat):Prop where
 h1:D.b1 ^ iO (n - 1) % n=sg D.s1 n
 h2:D.b2 ^ iO (n - 1) % n=sg D.s2 n
 h3:D.b3 ^ iO (n - 1) % n=sg D.s3 n
variable {T a r:Nat}
theorem per {e:Nat} (hr:2≤r) (hT:a ^ T % r=1):a ^ e % r=a ^ (e % T) % r:=by
 conv=>lhs;rw [←Nat.div_add_mod e T,Nat.pow_add,Nat.mul_mod,fV hr hT,Nat.one_mul,Nat.mod_mod]
theorem VA (hr:2≤r) (hT0:0<T) (hT:a ^ T % r=1) (hk: ∀ e,e<T→a ^ e % r≠r - 1) (hd:r∣n) (hn:0<n) (h:SP a n=true):a ^ iO (n - 1) % n=sg false n:=by
 rcases vK h with h | ⟨i,_,h⟩
 ·exact h
 ·have:=qy hr hd hn h
  rw [per hr hT] at this
  exact absurd this (hk _ (Nat.mod_lt _ hT0))
theorem VB (hr:2≤r) (hT0:0<T) (hT2:T % 2=0) (hT:a ^ T % r=1) (hk1: ∀ e,e<T→e % 2=1→a ^ e % r≠1) (hk: ∀ e,e<T→e % 2=0→a ^ e % r≠r - 1)
  (hodd:iO (n - 1) % 2=1) (hd:r∣n) (hn:0<n) (h:SP a n=true):a ^ iO (n - 1) % n=sg true n:=by
 rcases vK h with h | ⟨i,_,h⟩
 ·have:=qx hr hd h
  rw [per hr hT] at this
  exact absurd this (hk1 _ (Nat.mod_lt _ hT0) (by rw [Nat.mod_mod_of_dvd _ (Nat.dvd_of_mod_eq_zero hT2)];exact hodd))
 ·cases i with
  | zero=>rw [Nat.pow_zero,Nat.mul_one] at h;exact h
  | succ i=>
   have:=qy hr hd hn h
   rw [per hr hT] at this
   refine absurd this (hk _ (Nat.mod_lt _ hT0) ?_)
   rw [Nat.mod_mod_of_dvd _ (Nat.dvd_of_mod_eq_zero hT2),Nat.pow_succ, ←Nat.mul_assoc];omega
theorem kind2 (hr:2≤r) (hT0:0<T) (hT4:T % 4=0) (hT:a ^ T % r=1) (hk1: ∀ e,e<T→e % 2=1→a ^ e % r≠1∧a ^ e % r≠r - 1) (hk: ∀ e,e<T→e % 4=0→a ^ e % r≠r - 1)
  (hodd:iO (n - 1) % 2=1) (hd:r∣n) (hn:0<n) (h:SP a n=true):(a*a) ^ iO (n - 1) % n=sg true n:=by
 have hT2:T % 2=0:=by omega
 have ho:=hk1 _ (Nat.mod_lt (iO (n - 1)) hT0) (by rw [Nat.mod_mod_of_dvd _ (Nat.dvd_of_mod_eq_zero hT2)];exact hodd)
 rcases vK h with h | ⟨i,_,h⟩
 ·have:=qx hr hd h
  rw [per hr hT] at this
  exact absurd this ho.1
 ·rcases i with _ | _ | i
  ·have:=qy hr hd hn h
   rw [Nat.pow_zero,Nat.mul_one,per hr hT] at this
   exact absurd this ho.2
  ·rw [Nat.mul_comm,Nat.pow_mul] at h
   rw [←Nat.pow_two];exact h
  ·have:=qy hr hd hn h
   rw [per hr hT] at this
   refine absurd this (hk _ (Nat.mod_lt _ hT0) ?_)
   rw [Nat.mod_mod_of_dvd _ (Nat.dvd_of_mod_eq_zero hT4),Nat.pow_succ,Nat.pow_succ,Nat.mul_assoc, ←Nat.mul_assoc (iO (n - 1))];omega
theorem Pass.qM (h:Pass n):iO (n - 1) % 2=1∧iO (n - 1)*2 ^ vJ (n - 1)=n - 1:=Cc (by have:=h.lo;omega) (by have:=h.hi;omega)
theorem ahK (h : Pass n) (hd : 3 ∣ n) : sU rd3 n :=
  ⟨VB (T := 2) (by decide) (by decide) (by decide) (by decide) (by decide) (by decide) h.qM.1 hd (by have := h.lo; omega) h.p2,
   VA (T := 2) (by decide) (by decide) (by decide) (by decide) hd (by have := h.lo; omega) h.p7,
   VA (T := 2) (by decide) (by decide) (by decide) (by decide) hd (by have := h.lo; omega) h.p61⟩
theorem ahL (h : Pass n) (hd : 5 ∣ n) : sU rd5 n :=
  ⟨kind2 (a := 2) (T := 4) (by decide) (by decide) (by decide) (by decide) (by decide) (by decide) h.qM.1 hd (by have := h.lo; omega) h.p2,
   kind2 (a := 7) (T := 4) (by decide) (by decide) (by decide) (by decide) (by decide) (by decide) h.qM.1 hd (by have := h.lo; omega) h.p7,
   VA (T := 4) (by decide) (by decide) (by decide) (by decide) hd (by have := h.lo; omega) h.p61⟩
theorem adR (h : Pass n) (hd : 11 ∣ n) : sU PZ n :=
  ⟨VB (T := 10) (by decide) (by decide) (by decide) (by decide) (by decide) (by decide) h.qM.1 hd (by have := h.lo; omega) h.p2,
   VB (T := 10) (by decide) (by decide) (by decide) (by decide) (by decide) (by decide) h.qM.1 hd (by have := h.lo; omega) h.p7,
   VB (T := 10) (by decide) (by decide) (by decide) (by decide) (by decide) (by decide) h.qM.1 hd (by have := h.lo; omega) h.p61⟩
theorem adS (h : Pass n) (hd : 13 ∣ n) : sU P5 n :=
  ⟨kind2 (a := 2) (T := 12) (by decide) (by decide) (by decide) (by decide) (by decide) (by decide) h.qM.1 hd (by have := h.lo; omega) h.p2,
   kind2 (a := 7) (T := 12) (by decide) (by decide) (by decide) (by decide) (by decide) (by decide) h.qM.1 hd (by have := h.lo; omega) h.p7,
   VA (T := 12) (by decide) (by decide) (by decide) (by decide) hd (by have := h.lo; omega) h.p61⟩
def tq (D:RD):Prop:= ∀ b,b=D.b1∨b=D.b2∨b=D.b3→2≤b∧ ∀ q,Pr q→q≠2→q≠7→q≠61→ ¬ q∣b
theorem pr2:Pr 2:=⟨by decide,by intro m hm;have:=Nat.le_of_dvd (by decide) hm;rcases (show m=0∨m=1∨m=2 by omega) with rfl | rfl | rfl<;>simp_all⟩
theorem nY {p:Nat} (h2:2≤p) (h: ∀ m,m≤p→m∣p→m=1∨m=p):Pr p:=⟨h2,fun m hm=>h m (Nat.le_of_dvd (by omega) hm) hm⟩
theorem pr7:Pr 7:=nY (by decide) (by decide)
theorem akh:Pr 61:=nY (by decide) (by decide)
variable {q:Nat}
theorem N8 {p:Nat} (hp:Pr p) (hq:Pr q) (h:q∣p):q=p:=by
 rcases hp.2 q h with h | h
 ·have:=hq.1;omega
 ·exact h
theorem jD (hq:Pr q) (h2:q≠2) (h7:q≠7) (h61:q≠61): ¬ q∣2∧ ¬ q∣7∧ ¬ q∣61:=
 ⟨fun h=>h2 (N8 pr2 hq h),fun h=>h7 (N8 pr7 hq h),fun h=>h61 (N8 akh hq h)⟩
variable {b:Nat}
theorem yS (hq:Pr q) (ha: ¬ q∣a) (hb: ¬ q∣b): ¬ q∣a*b:=fun h=>hb (hq.uh h ha)
theorem wH {D:RD} (h: ∀ b,b=D.b1∨b=D.b2∨b=D.b3→b=2∨b=7∨b=61∨b=2*2∨b=7*7):tq D:=by
 intro b hb
 rcases h b hb with rfl | rfl | rfl | rfl | rfl
 ·exact ⟨by decide,fun q hq h2 h7 h61=>(jD hq h2 h7 h61).1⟩
 ·exact ⟨by decide,fun q hq h2 h7 h61=>(jD hq h2 h7 h61).2.1⟩
 ·exact ⟨by decide,fun q hq h2 h7 h61=>(jD hq h2 h7 h61).2.2⟩
 ·exact ⟨by decide,fun q hq h2 h7 h61=>yS hq (jD hq h2 h7 h61).1 (jD hq h2 h7 h61).1⟩
 ·exact ⟨by decide,fun q hq h2 h7 h61=>yS hq (jD hq h2 h7 h61).2.1 (jD hq h2 h7 h61).2.1⟩
theorem ahM:tq rd3:=wH (by intro b hb;simp [rd3] at hb;omega)
theorem ahN:tq rd5:=wH (by intro b hb;simp [rd5] at hb;omega)
theorem adT:tq PZ:=wH (by intro b hb;simp [PZ] at hb;omega)
theorem adU:tq P5:=wH (by intro b hb;simp [P5] at hb;omega)
variable {s:Bool}
theorem full {d t:Nat}  (hn:2≤n) (ht:1≤t) (hd:d*2 ^ t=n - 1) (h:b ^ d % n=sg s n):b ^ (n - 1) % n=1:=by
 obtain ⟨u,rfl⟩: ∃ u,t=u+1:=⟨t - 1,by omega⟩
 have e:n - 1=d*2*2 ^ u:=by rw [←hd,Nat.pow_succ,Nat.mul_comm (2 ^ u) 2,Nat.mul_assoc]
 rw [e]
 apply fV hn
 rw [Nat.pow_mul,Nat.pow_two]
 cases s with
 | true=>exact Ce hn h
 | false=>
  have h':b ^ d % n=1:=h
  rw [Nat.mul_mod,h'];exact Nat.mod_eq_of_lt (by omega)
theorem Pass.two (h:Pass n):1≤vJ (n - 1):=by
 have h1:=h.qM
 rcases Nat.eq_zero_or_pos (vJ (n - 1)) with hz | hz
 ·rw [hz,Nat.pow_zero,Nat.mul_one] at h1
  have:=h.odd;omega
 ·exact hz
structure Xy (q n:Nat):Prop where
 pr:Pr q
 dvd:q∣n
 ge3:3≤q
 ne:q≠2∧q≠7∧q≠61
theorem Pass.ajw (h:Pass n) (hq:Pr q) (hd:q∣n):Xy q n:=by
 have h2:q≠2:=by
  intro e;subst e
  have:=h.odd;omega
 refine ⟨hq,hd,by have:=hq.1;omega,h2,?_,?_⟩
 ·intro e;subst e;exact h.n7 hd
 ·intro e;subst e;exact h.n61 hd
variable {o y:Nat}
theorem VD {D:RD} {s:Nat} (hP:Pass n) (hS:sU D n) (hq:Xy q n) (ho:o % 2=1) (hy:o*2 ^ s=y)
  (h1:D.b1 ^ y % q=1) (h2:D.b2 ^ y % q=1) (h3:D.b3 ^ y % q=1):
  D.b1 ^ o % q=sg D.s1 q∧D.b2 ^ o % q=sg D.s2 q∧D.b3 ^ o % q=sg D.s3 q:=by
 have hn:0<n:=by have:=hP.lo;omega
 have hq2:=hq.pr.1
 exact ⟨transfer hq.pr hq.ge3 hP.qM.1 ho hy (GZ hq2 hq.dvd hn hS.h1) h1,
  transfer hq.pr hq.ge3 hP.qM.1 ho hy (GZ hq2 hq.dvd hn hS.h2) h2,
  transfer hq.pr hq.ge3 hP.qM.1 ho hy (GZ hq2 hq.dvd hn hS.h3) h3⟩
theorem Xz {D:RD}  (h:D.b1 ^ o % q=sg D.s1 q∧D.b2 ^ o % q=sg D.s2 q∧D.b3 ^ o % q=sg D.s3 q):ab9 D o q=true:=by
 unfold ab9
 rw [h.1,h.2.1,h.2.2,Nat.beq_refl,Nat.beq_refl,Nat.beq_refl];rfl
theorem acg {D:RD}  (hP:Pass n) (hS:sU D n) (hB:tq D) (hq:Xy q n) (hlt:q<4294967296):ab9 D (iO (q - 1)) q=true:=by
 have ho:=Cc (m:=q - 1) (by have:=hq.ge3;omega) (by omega)
 have fer: ∀ b,b=D.b1∨b=D.b2∨b=D.b3→b ^ (q - 1) % q=1:=fun b hb=>hq.pr.aaA ((hB b hb).2 q hq.pr hq.ne.1 hq.ne.2.1 hq.ne.2.2)
 exact Xz (VD hP hS hq ho.1 ho.2 (fer _ (by simp)) (fer _ (by simp)) (fer _ (by simp)))
theorem at_k {k:Nat} (hq:Xy q n) (hn:n=q*k) (hk:1≤k) (hb: ¬ q∣b) (h:b ^ (n - 1) % n=1):b ^ (k - 1) % q=1:=by
 have h1:=qx hq.pr.1 hq.dvd h
 have e:n - 1=(q - 1)*k+(k - 1):=by
  obtain ⟨p,rfl⟩: ∃ p,q=p+1:=⟨q - 1,by have:=hq.ge3;omega⟩
  rw [hn,Nat.add_sub_cancel,Nat.add_mul,Nat.one_mul];omega
 rw [e] at h1
 exact yK (fV hq.pr.1 (hq.pr.aaA hb) k) h1
theorem Il (hq:2≤q) (h:b ^ o % q=sg s q):q∣num b s o:=by
 cases s with
 | false=>exact Cb h
 | true=>
  have h':b ^ o % q=q - 1:=h
  show q∣b ^ o+1
  have:=Nat.div_add_mod (b ^ o) q
  rw [h'] at this
  exact ⟨b ^ o / q+1,by rw [Nat.mul_add,Nat.mul_one];omega⟩
theorem adV (hb:2≤b) (ho:o % 2=1):0<num b s o:=by
 cases s with
 | true=>exact Nat.succ_pos _
 | false=>
  show 0<b ^ o - 1
  have h1:b ^ 1≤b ^ o:=Nat.pow_le_pow_right (by omega) (by omega)
  rw [Nat.pow_one] at h1;omega
theorem caseA {D:RD} {l:List Nat}  (hP:Pass n) (hS:sU D n) (hB:tq D) (hrp:Pr D.r) (hr:D.r∣n) (hA:allA D l=true) (hl: ∀ f,f∈l→0<f∧f≤32768) (hq:Xy q n) (hlt:32768<q) (hrq:D.r≠q):False:=by
 obtain ⟨k,hk⟩:=hq.dvd
 have hn:=hP.hi
 have hlo:=hP.lo
 have hk1:1≤k:=by
  rcases Nat.eq_zero_or_pos k with h | h
  ·rw [h] at hk;omega
  ·exact h
 have hrk:D.r∣k:=by
  rw [hk] at hr
  exact hrp.uh hr (fun h=>hrq (N8 hq.pr hrp h))
 have hkr:D.r≤k:=Nat.le_of_dvd (by omega) hrk
 have hr2:=hrp.1
 have hkb:k<66000:=by
  apply Classical.byContradiction;intro hc
  have:32769*66000≤q*k:=Nat.mul_le_mul (by omega) (by omega)
  omega
 have ajx:k % 2=1:=by
  have h:=hP.odd
  rw [hk,Nat.mul_mod] at h
  rcases Nat.mod_two_eq_zero_or_one k with h0 | h0
  ·rw [h0] at h;simp at h
  ·exact h0
 have hc:=Gh _ _ hA k hkb
 rw [show Nat.beq (k % D.r) 0=true by rw [Nat.mod_eq_zero_of_dvd hrk];rfl,show Nat.beq (k % 2) 1=true by rw [ajx];rfl] at hc
 have hc:ahG D l k=true:=hc
 unfold ahG at hc
 rw [show Nat.ble k 1=false by
  cases hb:Nat.ble k 1 with
  | false=>rfl
  | true=>have:=Nat.le_of_ble_eq_true hb;omega] at hc
 have hc:force (iO (k - 1)) (fun o=>force (gG D o) fun G=>cond (Nat.ble G 32768) true
  (force (strip l G) fun R=>allT (R / 32768) fun m=>cond (Nat.beq (R % (m+1)) 0) (force (R / (m+1)*k) mG) true))=true:=hc
 rw [force_eq,force_eq] at hc
 have ho:=Cc (m:=k - 1) (by omega) (by omega)
 have full': ∀ b s,(b=D.b1∨b=D.b2∨b=D.b3)→b ^ iO (n - 1) % n=sg s n→b ^ (k - 1) % q=1:=fun b s hb h=>
  at_k hq hk hk1 ((hB b hb).2 q hq.pr hq.ne.1 hq.ne.2.1 hq.ne.2.2) (full (by omega) hP.two hP.qM.2 h)
 obtain ⟨f1,f2,f3⟩:=VD hP hS hq ho.1 ho.2 (full' _ _ (by simp) hS.h1) (full' _ _ (by simp) hS.h2) (full' _ _ (by simp) hS.h3)
 have hq2:=hq.pr.1
 have hG:q∣gG D (iO (k - 1)):=Nat.dvd_gcd (Nat.dvd_gcd (Il hq2 f1) (Il hq2 f2)) (Il hq2 f3)
 have hG0:0<gG D (iO (k - 1)):=Nat.gcd_pos_of_pos_right _ (adV (hB _ (by simp)).1 ho.1)
 generalize gG D (iO (k - 1))=G at hc hG hG0
 cases hb:Nat.ble G 32768 with
 | true=>
  have h1:=Nat.le_of_ble_eq_true hb
  have h2:=Nat.le_of_dvd hG0 hG
  omega
 | false=>
  rw [hb] at hc
  have hc:force (strip l G) (fun R=>allT (R / 32768) fun m=>cond (Nat.beq (R % (m+1)) 0) (force (R / (m+1)*k) mG) true)=true:=hc
  rw [force_eq] at hc
  have hR:=Xw hq.pr l G (fun f hf=>⟨(hl f hf).1,by have:=(hl f hf).2;omega⟩) hG
  have hR0:=Xx l G hG0
  generalize strip l G=R at hc hR hR0
  obtain ⟨m,hm⟩:=hR
  have hm1:1≤m:=by
   rcases Nat.eq_zero_or_pos m with h | h
   ·rw [h] at hm;omega
   ·exact h
  have hle:m≤R / 32768:=by
   rw [Nat.le_div_iff_mul_le (by omega),hm,Nat.mul_comm q]
   exact Nat.mul_le_mul_left m (by omega)
  have h5:=kG _ _ hc (m - 1) (by omega)
  rw [show m - 1+1=m by omega,show R % m=0 by rw [hm];exact Nat.mul_mod_left q m] at h5
  have h5:force (R / m*k) mG=true:=h5
  rw [force_eq,show R / m=q by rw [hm];exact Nat.mul_div_cancel q (by omega), ←hk,hP.Ik] at h5
  cases h5
variable {x:Nat}
theorem lT :fH x q=true↔2 ^ x % q=1∧7 ^ x % q=1∧61 ^ x % q=1:=by
 unfold fH
 constructor
 ·intro h
  cases h1:Nat.beq (2 ^ x % q) 1 with
  | false=>rw [h1] at h;cases h
  | true=>
   cases h2:Nat.beq (7 ^ x % q) 1 with
   | false=>rw [h1,h2] at h;cases h
   | true=>
    rw [h1,h2] at h
    exact ⟨Nat.eq_of_beq_eq_true h1,Nat.eq_of_beq_eq_true h2,Nat.eq_of_beq_eq_true h⟩
 ·rintro ⟨h1,h2,h3⟩
  rw [h1,h2,h3];rfl
theorem XA (hq:2≤q) (h:fH x q=true) (hd:x∣y):fH y q=true:=by
 obtain ⟨h1,h2,h3⟩:=lT.1 h
 exact lT.2 ⟨jy hq h1 hd,jy hq h2 hd,jy hq h3 hd⟩
theorem XB (hq:2≤q) (h:fH x q=true) (h':fH y q=true):fH (Nat.gcd x y) q=true:=by
 obtain ⟨h1,h2,h3⟩:=lT.1 h
 obtain ⟨g1,g2,g3⟩:=lT.1 h'
 exact lT.2 ⟨qZ hq _ _ h1 g1,qZ hq _ _ h2 g2,qZ hq _ _ h3 g3⟩
theorem N9 {L:Nat} (hq:2≤q) (hL0:0<L) (hL:L≤32768) (hm:minimal L q=true) (hy:fH y q=true):L∣y:=by
 unfold minimal at hm
 cases hg:fH L q with
 | false=>rw [hg] at hm;cases hm
 | true=>
  rw [hg] at hm
  have hm:allT 181 (fun d=>cond (Nat.beq (L % (d+1)) 0) (cond (cond (Nat.beq d 0) true (cond (fH (L / (d+1)) q) false true)) (cond (Nat.beq (d+1) L) true (cond (fH (d+1) q) false true)) false) true)=true:=hm
  have hall: ∀ d,d<181→L % (d+1)=0→(d=0∨fH (L / (d+1)) q=false)∧(d+1=L∨fH (d+1) q=false):=by
   intro d hd h0
   have h:=kG _ 181 hm d hd
   rw [h0] at h
   have h:cond (cond (Nat.beq d 0) true (cond (fH (L / (d+1)) q) false true)) (cond (Nat.beq (d+1) L) true (cond (fH (d+1) q) false true)) false=true:=h
   constructor
   ·cases hb:Nat.beq d 0 with
    | true=>exact .inl (Nat.eq_of_beq_eq_true hb)
    | false=>
     right
     rw [hb] at h
     cases hx:fH (L / (d+1)) q with
     | false=>rfl
     | true=>rw [hx] at h;cases h
   ·cases hb:Nat.beq (d+1) L with
    | true=>exact .inl (Nat.eq_of_beq_eq_true hb)
    | false=>
     right
     cases hx:fH (d+1) q with
     | false=>rfl
     | true=>
      rw [hb,hx] at h
      cases hc1:cond (Nat.beq d 0) true (cond (fH (L / (d+1)) q) false true) with
      | true=>rw [hc1] at h;cases h
      | false=>rw [hc1] at h;cases h
  have hgg:=XB hq hg hy
  obtain ⟨m,hm'⟩:=Nat.gcd_dvd_left L y
  by_cases h1:m=1
  ·rw [h1,Nat.mul_one] at hm'
   rw [hm'];exact Nat.gcd_dvd_right L y
  ·exfalso
   have hm0:m≠0:=by intro e;rw [e] at hm';omega
   obtain ⟨p,hp,hpm⟩:=E8 m (by omega)
   obtain ⟨c,hc⟩:=hpm
   have hLp:L=p*(Nat.gcd L y*c):=by
    rw [hc] at hm'
    rw [Nat.mul_left_comm];exact hm'
   have hp0:=hp.1
   have hdiv:L / p=Nat.gcd L y*c:=by
    have:p*(Nat.gcd L y*c) / p=Nat.gcd L y*c:=Nat.mul_div_cancel_left _ (by omega)
    rw [←hLp] at this;exact this
   have hgood:fH (L / p) q=true:=by rw [hdiv];exact XA hq hgg (Nat.dvd_mul_right _ _)
   by_cases akn:p≤181
   ·have hmod:L % p=0:=by rw [hLp];exact Nat.mul_mod_right _ _
    have:=(hall (p - 1) (by omega) (by rw [show p - 1+1=p by omega];exact hmod)).1
    rw [show p - 1+1=p by omega,hgood] at this
    rcases this with h | h
    ·omega
    ·cases h
   ·have he:L / p≤180:=by
     have:L / p≤32768 / 182:=Nat.le_trans (Nat.div_le_div_right hL) (Nat.div_le_div_left (by omega) (by omega))
     omega
    have hLe:L=p*(L / p):=by rw [hdiv];exact hLp
    have he0:0<L / p:=by
     rcases Nat.eq_zero_or_pos (L / p) with h | h
     ·rw [h] at hLe;omega
     ·exact h
    have hmod:L % (L / p)=0:=by
     conv=>lhs;rw [hLe]
     have:p*(L / p) / p=L / p:=Nat.mul_div_cancel_left _ (by omega)
     rw [this];exact Nat.mul_mod_left _ _
    have:=(hall (L / p - 1) (by omega) (by rw [show L / p - 1+1=L / p by omega];exact hmod)).2
    rw [show L / p - 1+1=L / p by omega,hgood] at this
    rcases this with h | h
    ·have:p*(L / p)≥2*(L / p):=Nat.mul_le_mul_right _ hp0
     omega
    ·cases h
theorem ajy {D:RD}  (hP:Pass n) (hS:sU D n) (hB:tq D) (hrp:Pr D.r) (hr:D.r∣n) (hA:allB D=true) (hq:Xy q n) (hlo:300<q) (hlt:q≤32768) (hrq:D.r≠q):False:=by
 obtain ⟨k,hk⟩:=hq.dvd
 have hn:=hP.hi
 have hn3:=hP.lo
 have hk1:1≤k:=by
  rcases Nat.eq_zero_or_pos k with h | h
  ·rw [h] at hk;omega
  ·exact h
 have hrk:D.r∣k:=by
  rw [hk] at hr
  exact hrp.uh hr (fun h=>hrq (N8 hq.pr hrp h))
 have ach:q % 2=1:=by
  have h:=hP.odd
  rw [hk,Nat.mul_mod] at h
  rcases Nat.mod_two_eq_zero_or_one q with h0 | h0
  ·rw [h0] at h;simp at h
  ·exact h0
 have hc:=Gh _ _ hA q (by omega)
 rw [show Nat.ble q 300=false by
   cases hb:Nat.ble q 300 with
   | false=>rfl
   | true=>have:=Nat.le_of_ble_eq_true hb;omega,
  show Nat.ble 32769 q=false by
   cases hb:Nat.ble 32769 q with
   | false=>rfl
   | true=>have:=Nat.le_of_ble_eq_true hb;omega,show Nat.beq (q % 2) 1=true by rw [ach];rfl] at hc
 have hc:ahH D q=true:=hc
 unfold ahH at hc
 rw [acg hP hS hB hq (by omega)] at hc
 have hc:force ((q - 1) / acd q 30) (fun L=>cond (cond (Nat.ble L 32768) (minimal L q) false) (allT (2147483647 / q / L+1) fun j=>
  force (1+L*j) fun k=>cond (Nat.beq (k % D.r) 0) (force (q*k) mG) true) false)=true:=hc
 rw [force_eq] at hc
 generalize (q - 1) / acd q 30=L at hc
 cases hL:Nat.ble L 32768 with
 | false=>rw [hL] at hc;cases hc
 | true=>
  cases hm:minimal L q with
  | false=>rw [hL,hm] at hc;cases hc
  | true=>
   rw [hL,hm] at hc
   have hc:allT (2147483647 / q / L+1) (fun j=>force (1+L*j) fun k=>cond (Nat.beq (k % D.r) 0) (force (q*k) mG) true)=true:=hc
   have hL2:=Nat.le_of_ble_eq_true hL
   have nd:=jD hq.pr hq.ne.1 hq.ne.2.1 hq.ne.2.2
   have hq2:=hq.pr.1
   have aci: ∀ a,SP a n=true→a ^ (n - 1) % n=1:=by
    intro a ha
    rcases vK ha with h | ⟨i,hi,h⟩
    ·exact full (s:=false) (by omega) hP.two hP.qM.2 h
    ·have e:n - 1=iO (n - 1)*2 ^ i*2*2 ^ (vJ (n - 1) - i - 1):=by
      conv=>lhs;rw [←hP.qM.2]
      rw [Nat.mul_assoc,Nat.mul_assoc, ←Nat.pow_succ', ←Nat.pow_add]
      congr 2;omega
     conv=>lhs;rw [e]
     apply fV (by omega)
     rw [Nat.pow_mul,Nat.pow_two]
     exact Ce (by omega) h
   have hgood:fH (k - 1) q=true:=lT.2 ⟨at_k hq hk hk1 nd.1 (aci 2 hP.p2),at_k hq hk hk1 nd.2.1 (aci 7 hP.p7),at_k hq hk hk1 nd.2.2 (aci 61 hP.p61)⟩
   have hL0:0<L:=by
    rcases Nat.eq_zero_or_pos L with h | h
    ·exfalso
     rw [h] at hm
     have h0:=kG (fun d=>cond (Nat.beq (0 % (d+1)) 0) (cond (cond (Nat.beq d 0) true (cond (fH (0 / (d+1)) q) false true)) (cond (Nat.beq (d+1) 0) true (cond (fH (d+1) q) false true)) false) true) 181 (by
      unfold minimal at hm
      cases hg:fH 0 q with
      | false=>rw [hg] at hm;cases hm
      | true=>rw [hg] at hm;exact hm) 1 (by omega)
     have hz:fH (0 / (1+1)) q=true:=by
      apply lT.2
      have:1 % q=1:=Nat.mod_eq_of_lt (by omega)
      exact ⟨this,this,this⟩
     rw [hz] at h0
     cases h0
    ·exact h
   obtain ⟨j,hj⟩:=N9 hq2 hL0 hL2 hm hgood
   have hkj:k=1+L*j:=by omega
   have hjb:j<2147483647 / q / L+1:=by
    have h1:L*j≤2147483647 / q:=by
     rw [Nat.le_div_iff_mul_le (by omega)]
     have:k*q≤2147483647:=by rw [Nat.mul_comm, ←hk];omega
     have h2:L*j*q≤k*q:=Nat.mul_le_mul_right q (by omega)
     omega
    have h2:j≤2147483647 / q / L:=by
     rw [Nat.le_div_iff_mul_le hL0,Nat.mul_comm];exact h1
    omega
   have h5:=kG _ _ hc j hjb
   have h5:force (1+L*j) (fun k=>cond (Nat.beq (k % D.r) 0) (force (q*k) mG) true)=true:=h5
   rw [force_eq, ←hkj,show Nat.beq (k % D.r) 0=true by rw [Nat.mod_eq_zero_of_dvd hrk];rfl] at h5
   have h5:force (q*k) mG=true:=h5
   rw [force_eq, ←hk,hP.Ik] at h5
   cases h5
theorem adW: ∀ (l:List Nat) (n:Nat),0<n→(∀ p,Pr p→p∣n→p∈l)→(∀ p,p∈l→Pr p→ ¬ p*p∣n)→n∈subs l:=by
 intro l
 induction l with
 | nil=>
  intro n h0 h _
  have:n=1:=by
   apply Classical.byContradiction
   intro hc
   obtain ⟨p,hp,hd⟩:=E8 n (by omega)
   have:=h p hp hd
   simp at this
  rw [this];simp [subs]
 | cons q l ih=>
  intro n h0 h hs
  unfold subs
  rw [List.mem_append]
  by_cases hq:Pr q∧q∣n
  ·obtain ⟨hqp,m,hm⟩:=hq
   right
   rw [List.mem_map]
   have hm0:0<m:=by
    rcases Nat.eq_zero_or_pos m with e | e
    ·rw [e] at hm;omega
    ·exact e
   refine ⟨m,ih m hm0 ?_ ?_,hm.symm⟩
   ·intro p hp hd
    have hpn:p∣n:=by rw [hm];exact Nat.dvd_trans hd (Nat.dvd_mul_left _ _)
    have:=h p hp hpn
    rw [List.mem_cons] at this
    rcases this with e | e
    ·exfalso
     subst e
     exact hs p (by simp) hp (by rw [hm];exact Nat.mul_dvd_mul (Nat.dvd_refl p) hd)
    ·exact e
   ·intro p hp hpp hd
    exact hs p (by simp [hp]) hpp (by rw [hm];exact Nat.dvd_trans hd (Nat.dvd_mul_left _ _))
  ·left
   refine ih n h0 ?_ (fun p hp hpp=>hs p (by simp [hp]) hpp)
   intro p hp hd
   have:=h p hp hd
   rw [List.mem_cons] at this
   rcases this with e | e
   ·exfalso;subst e;exact hq ⟨hp,hd⟩
   ·exact e
theorem ajz {D:RD} {small:List Nat}  (hP:Pass n) (hS:sU D n) (hB:tq D) (hr:D.r∣n) (hC:PY D small=true) (hall: ∀ q,Pr q→q∣n→q≤300):n=D.r:=by
 unfold PY at hC
 simp only [Bool.and_eq_true] at hC
 obtain ⟨⟨c1,c2⟩,c3⟩:=hC
 have hn3:=hP.lo
 have mem: ∀ q,Pr q→q∣n→q∈small:=by
  intro q hq hd
  have hof:=hP.ajw hq hd
  have h:=kG _ _ c1 q (by have:=hall q hq hd;omega)
  have ach:q % 2=1:=by
   have h:=hP.odd
   obtain ⟨k,hk⟩:=hd
   rw [hk,Nat.mul_mod] at h
   rcases Nat.mod_two_eq_zero_or_one q with h0 | h0
   ·rw [h0] at h;simp at h
   ·exact h0
  rw [show Nat.beq (q % 2) 1=true by rw [ach];rfl,show Nat.ble q 2=false by
   cases hb:Nat.ble q 2 with
   | false=>rfl
   | true=>have:=Nat.le_of_ble_eq_true hb;have:=hof.ge3;omega,acg hP hS hB hof (by have:=hall q hq hd;omega)] at h
  have h:small.any (Nat.beq q)=true:=h
  obtain ⟨x,hx,he⟩:=List.any_eq_true.1 h
  rw [Nat.eq_of_beq_eq_true he];exact hx
 have sq: ∀ q,q∈small→Pr q→ ¬ q*q∣n:=by
  intro q hq hqp hd
  have hqn:q∣n:=Nat.dvd_trans (Nat.dvd_mul_right q q) hd
  have h:=List.all_eq_true.1 c2 q hq
  simp only [Bool.and_eq_true,Bool.not_eq_true'] at h
  obtain ⟨h1,h2⟩:=h
  have h1:=Nat.eq_of_beq_eq_true h1
  have h2:=Nat.ne_of_beq_eq_false h2
  have hq2:=hqp.1
  have hqq:2≤q*q:=Nat.le_trans hq2 (Nat.le_mul_of_pos_left q (by omega))
  apply h2
  have hb:2 ^ (n - 1) % n=1:=by
   rcases vK hP.p2 with h | ⟨i,hi,h⟩
   ·exact full (s:=false) (by omega) hP.two hP.qM.2 h
   ·have e:n - 1=iO (n - 1)*2 ^ i*2*2 ^ (vJ (n - 1) - i - 1):=by
     conv=>lhs;rw [←hP.qM.2]
     rw [Nat.mul_assoc,Nat.mul_assoc, ←Nat.pow_succ', ←Nat.pow_add]
     congr 2;omega
    conv=>lhs;rw [e]
    apply fV (by omega)
    rw [Nat.pow_mul,Nat.pow_two]
    exact Ce (by omega) h
  have hb2:=qx hqq hd hb
  have hg:=qZ hqq (n - 1) (q*(q - 1)) hb2 h1
  have aki:Nat.gcd (n - 1) q=1:=by
   rw [Nat.gcd_comm]
   apply hqp.coprime
   intro hc
   have:q∣n - (n - 1):=Nat.dvd_sub hqn hc
   rw [show n - (n - 1)=1 by omega] at this
   have:=Nat.le_of_dvd (by omega) this
   omega
  have hdv:Nat.gcd (n - 1) (q*(q - 1))∣q - 1:=by
   have:=Nat.gcd_mul_right_dvd_mul_gcd (n - 1) q (q - 1)
   rw [aki,Nat.one_mul] at this
   exact Nat.dvd_trans this (Nat.gcd_dvd_right _ _)
  exact jy hqq hg hdv
 have hin:=adW small n (by omega) mem sq
 have h:=List.all_eq_true.1 c3 n hin
 rw [show Nat.beq (n % D.r) 0=true by rw [Nat.mod_eq_zero_of_dvd hr];rfl] at h
 have h:cond (Nat.beq n D.r) true (mG n)=true:=h
 cases hb:Nat.beq n D.r with
 | true=>exact Nat.eq_of_beq_eq_true hb
 | false=>
  rw [hb] at h
  have h:mG n=true:=h
  rw [hP.Ik] at h;cases h
theorem Io {D:RD} {l small:List Nat}  (hP:Pass n) (hS:sU D n) (hB:tq D) (hrp:Pr D.r) (hr3:D.r≤300) (hr:D.r∣n) (hA:allA D l=true) (hl: ∀ f,f∈l→0<f∧f≤32768) (hBB:allB D=true) (hC:PY D small=true):n=D.r:=by
 apply ajz hP hS hB hr hC
 intro q hq hd
 apply Classical.byContradiction
 intro hc
 have hof:=hP.ajw hq hd
 by_cases hbig:32768<q
 ·exact caseA hP hS hB hrp hr hA hl hof hbig (by omega)
 ·exact ajy hP hS hB hrp hr hBB hof (by omega) (by omega) (by omega)
theorem l3: ∀ f,f∈ace→0<f∧f≤32768:=by decide+kernel
theorem l5: ∀ f,f∈acf→0<f∧f≤32768:=by decide+kernel
theorem l11: ∀ f,f∈Vy→0<f∧f≤32768:=by decide+kernel
theorem l13: ∀ f,f∈Vz→0<f∧f≤32768:=by decide+kernel
theorem pr3:Pr 3:=nY (by decide) (by decide)
theorem pr5:Pr 5:=nY (by decide) (by decide)
theorem akj:Pr 11:=nY (by decide) (by decide)
theorem akk:Pr 13:=nY (by decide) (by decide)
theorem ajA (hP:Pass n) (h:3∣n):n=3:=Io (D:=rd3) hP (ahK hP h) ahM pr3 (by decide) h a3 l3 b3 c3
theorem ajB (hP:Pass n) (h:5∣n):n=5:=Io (D:=rd5) hP (ahL hP h) ahN pr5 (by decide) h a5 l5 b5 c5
theorem ahO (hP:Pass n) (h:11∣n):n=11:=Io (D:=PZ) hP (adR hP h) adT akj (by decide) h a11 l11 b11 c11
theorem ahP (hP:Pass n) (h:13∣n):n=13:=Io (D:=P5) hP (adS hP h) adU akk (by decide) h a13 l13 b13 c13
theorem uF (n:Nat):ay n=true↔n=2∨n=7∨n=61∨(2<n∧n % 2=1∧0<n % 7∧0<n % 61∧SP 2 n=true∧SP 7 n=true∧SP 61 n=true):=by
 unfold ay
 simp only [Bool.or_eq_true,Bool.and_eq_true,beq_iff_eq,decide_eq_true_eq]
 constructor
 ·rintro (((h | h) | h) | ⟨⟨⟨⟨⟨⟨h1,h2⟩,h3⟩,h4⟩,h5⟩,h6⟩,h7⟩)
  ·exact .inl h
  ·exact .inr (.inl h)
  ·exact .inr (.inr (.inl h))
  ·exact .inr (.inr (.inr ⟨h1,h2,h3,h4,h5,h6,h7⟩))
 ·rintro (h | h | h | ⟨h1,h2,h3,h4,h5,h6,h7⟩)
  ·exact .inl (.inl (.inl h))
  ·exact .inl (.inl (.inr h))
  ·exact .inl (.inr h)
  ·exact .inr ⟨⟨⟨⟨⟨⟨h1,h2⟩,h3⟩,h4⟩,h5⟩,h6⟩,h7⟩
theorem Oa (hn:n<2147483648):aj n=ay n:=by
 by_cases h2:n<2
 ·have e1:aj n=false:=by unfold aj;rw [if_pos h2]
  rw [e1]
  symm
  rw [←Bool.not_eq_true,uF]
  omega
 ·by_cases hno: ∀ p,p∈smalls→n % p≠0
  ·have hf:smalls.find? (fun p=>n % p==0)=none:=List.find?_eq_none.2 (by intro q hq;simpa using hno q hq)
   have e1:aj n=(SP 2 n && (SP 7 n && SP 61 n)):=by
    unfold aj;rw [if_neg h2,hf]
   have d2:=hno 2 (by decide);have d7:=hno 7 (by decide);have d61:=hno 61 (by decide)
   rw [e1,Bool.eq_iff_iff,uF]
   simp only [Bool.and_eq_true]
   constructor
   ·rintro ⟨h5,h6,h7⟩
    exact .inr (.inr (.inr ⟨by omega,by omega,by omega,by omega,h5,h6,h7⟩))
   ·rintro (h | h | h | ⟨_,_,_,_,h5,h6,h7⟩)
    ·rw [h] at d2;exact absurd rfl d2
    ·rw [h] at d7;exact absurd rfl d7
    ·rw [h] at d61;exact absurd rfl d61
    ·exact ⟨h5,h6,h7⟩
  ·have hex: ∃ p,smalls.find? (fun p=>n % p==0)=some p:=by
    cases hf:smalls.find? (fun p=>n % p==0) with
    | some p=>exact ⟨p,rfl⟩
    | none=>
     exfalso;apply hno
     intro p hp
     have:=List.find?_eq_none.1 hf p hp
     simpa using this
   obtain ⟨p,hf⟩:=hex
   have e1:aj n=(n==p):=by unfold aj;rw [if_neg h2,hf]
   have hmem:=List.mem_of_find?_eq_some hf
   have hdiv:n % p=0:=by have:=List.find?_some hf;simpa using this
   rw [e1,Bool.eq_iff_iff,beq_iff_eq]
   constructor
   ·intro h
    subst h
    have all: ∀ q,q∈smalls→ay q=true:=by
     intro q hq
     simp only [smalls,List.mem_cons,List.not_mem_nil,or_false] at hq
     rcases hq with rfl | rfl | rfl | rfl | rfl | rfl | rfl<;>(rw [OL _ (by omega)];decide+kernel)
    exact all n hmem
   ·intro hr
    rw [uF] at hr
    have hdv:p∣n:=Nat.dvd_of_mod_eq_zero hdiv
    simp only [smalls,List.mem_cons,List.not_mem_nil,or_false] at hmem
    rcases hr with rfl | rfl | rfl | ⟨h1,h3,h4,h5,h6,h7,h8⟩
    ·have:=Nat.le_of_dvd (by omega) hdv
     rcases hmem with rfl | rfl | rfl | rfl | rfl | rfl | rfl<;>omega
    ·have hle:=Nat.le_of_dvd (by omega) hdv
     rcases hmem with rfl | rfl | rfl | rfl | rfl | rfl | rfl<;>simp_all
    ·have hle:=Nat.le_of_dvd (by omega) hdv
     rcases hmem with rfl | rfl | rfl | rfl | rfl | rfl | rfl<;>simp_all
    ·have hP:Pass n:=⟨by omega,hn,h3,fun h=>by have:=Nat.mod_eq_zero_of_dvd h;omega,fun h=>by have:=Nat.mod_eq_zero_of_dvd h;omega,h6,h7,h8⟩
     rcases hmem with rfl | rfl | rfl | rfl | rfl | rfl | rfl
     ·omega
     ·exact ajA hP hdv
     ·exact ajB hP hdv
     ·omega
     ·exact ahO hP hdv
     ·exact ahP hP hdv
     ·omega
end
section
theorem VE (n:Int) (p:Nat) (e:Int):gQ aj n p e=gQ ay n p e:=by
 by_cases h:p<65536
 ·unfold gQ;rw [Oa (show p<2147483648 by omega)]
 ·rw [jk (by omega),jk (by omega)]
theorem Oc (s q:Nat):dM aj s q=dM ay s q:=by
 unfold dM
 by_cases h:q≤2147483647
 ·rw [Oa (by omega)]
 ·rw [decide_eq_false h];rfl
theorem t_eq (x:Par):x.t aj=x.t ay:=VE _ _ _
theorem adX (s sp q:Nat):jq aj s sp q=jq ay s sp q:=by unfold jq;rw [Oc]
theorem ahQ (x:Par):okB aj x=okB ay x:=by
 unfold okB stepOf
 rw [t_eq,Oc]
 congr 7
 congr 1
 exact funext fun q=>adX _ _ q
end
end Go.Proofs.YtljfgdlgmdcmfaaGreat
