/- Parts of a proof. -/
import Derived.Test.YthlhibpfagekfaaGreatQpi
import Derived.Test.YthlhibpfagekfaaGreatQpf
import Derived.ProofKit
import Derived.SizedLaws
import Derived.Deep.Fields
import Derived.Defers
set_option linter.unusedVariables false
set_option linter.unusedSimpArgs false
set_option maxHeartbeats 1600000
set_option maxRecDepth 100000
namespace Go.Proofs.YthlhibpfagekfaaGreat
section
open Go.RowKit Wv
structure Ci where
 name:ByteArray
 ni:Nat
 fi:Nat→ByteArray
 nl:Nat
 ln:Nat→ByteArray
 le:Nat→Ex
 no:Nat
 fo:Nat→ByteArray
def letC (s:ByteArray) (x:Ex):List AV:= .v (.string s)::exC x
theorem letC_len (s:ByteArray) (x:Ex):(letC s x).length=6:=by cases x<;>rfl
theorem letC_clo (s:ByteArray) (x:Ex): ∀ a,a∈letC s x→Clo a:=by
 intro a ha;rcases List.mem_cons.1 ha with rfl | h
 ·simp only [Wv.BC]
 ·exact exC_clo x a h
def Ci.lets (c:Ci):List AV:=tabM c.nl fun i=>letC (c.ln i) (c.le i)
def ciC (c:Ci):List AV:=[.v (.string c.name),strsA c.ni c.fi, .t c.nl 6 c.lets,strsA c.no c.fo]
theorem lets_clo (c:Ci): ∀ a,a∈c.lets→Clo a:=tabM_clo fun i _=>letC_clo _ _
theorem lets_len (c:Ci):c.lets.length=c.nl*6:=tabM_len fun i=>letC_len _ _
theorem ciC_clo (c:Ci): ∀ a,a∈ciC c→Clo a:=by
 unfold ciC;simp only [Wv.BC,strs_clo];exact lets_clo c
theorem ciG_clo (c:Ci):Clo (.g (ciC c)):=by simp only [Wv.BC];exact ciC_clo c
structure okC (c:Ci):Prop where
 name:c.name.size≤140737488351232
 ni:c.ni≤140737488351232
 nl:c.nl≤140737488351232
 no:c.no≤140737488351232
 fi: ∀ i,i<c.ni→(c.fi i).size≤140737488351232
 fo: ∀ i,i<c.no→(c.fo i).size≤140737488351232
 ln: ∀ i,i<c.nl→(c.ln i).size≤140737488351232
 le: ∀ i,i<c.nl→okE (c.le i)∧cntE (c.le i)≤4611686018427387904
def Ci.sum (c:Ci) (i:Nat):Nat:=accS 0 (fun i=>cntE (c.le i)) i
def Ci.big (c:Ci) (i:Nat):Bool:=decide (400<((c.sum (i+1):Nat):Int)) || (decide (40<((depE (c.le i):Nat):Int)) || lonE (c.le i))
def smallB (c:Ci):Bool:=!anyN c.nl c.big
def fewB (c:Ci):Bool:=decide ((c.ni:Int)≤8) && (decide ((c.nl:Int)≤60) && decide ((c.no:Int)≤8))
def checkI (c:Ci):Int:=
 if (!nameB c.name || (anyN c.ni (fun i=>!nameB (c.fi i)) || (anyN c.no (fun i=>!nameB (c.fo i)) || (decide ((c.no:Int)=0) || !fewB c))))=true then 2
 else if anyN c.nl (fun i=>!nameB (c.ln i) || !formB (c.le i))=true then 2 else if smallB c=true then 0 else 3
theorem psmall_tc (c:Ci) (h:okC c):TC Tryz.prog 106 [.g (ciC c)] (.v (.bool (smallB c))):=by
 refine Wv.TC.by 36 [0,1,12,11,13,10,5,3,6,7,8,34,2] [] [.tmp 2] Tryz.func106 rfl rfl rfl ?clo ?_
 case clo=>simp only [Wv.BC]
 unfold ciC strsA;refine Wv.W ?_;refine wfor (σ:=Nat) (fun i=>[(1, .ptr 0 0),(3, .v (.int .i64 (c.sum i:Nat))),(10, .t c.nl 6 c.lets),(11, .v (.int .i64 c.nl)),(12, .v (.int .i64 i))])
  (fun i=>[some (.blk [.v (.string c.name), .t c.ni 1 (tab c.ni fun i=> .v (.string (c.fi i))), .t c.nl 6 c.lets, .t c.no 1 (tab c.no fun i=> .v (.string (c.fo i)))])])
  (fun i=>i≤c.nl∧((c.sum i:Nat):Int)≤400∧ ∀ j,j<i→c.big j=false) (fun i=>c.nl - i) 0 ⟨Nat.zero_le _,by show ((0:Nat):Int)≤400;omega,fun j hj=>by omega⟩ Wv.V (by simp (disch:=first|exact Wv.D|fail) only [Wv.B,simprocAttr,Ci.sum,accS]) ?_
 rintro i ⟨hi,hsum,hb⟩;by_cases hlt:i<c.nl
 ·have e1:(i:Int)<c.nl:=by omega
  have hnl:=h.nl;have hL:=lets_clo c;obtain ⟨r,hd⟩:=tabM_drop (f:=fun i=>letC (c.ln i) (c.le i)) (fun i=>letC_len _ _) hlt;have T:=psize_tc (c.le i) (h.le i hlt).1 (h.le i hlt).2;have hc1':=(h.le i hlt).2;have hG:=exG_clo (c.le i);have hbig:c.big i=(decide (400<((c.sum (i+1):Nat):Int)) || (decide (40<((depE (c.le i):Nat):Int)) || lonE (c.le i))):=rfl;have hs1:((c.sum (i+1):Nat):Int)=((c.sum i:Nat):Int)+((cntE (c.le i):Nat):Int):=by
   show ((accS 0 (fun i=>cntE (c.le i)) i+cntE (c.le i):Nat):Int)=_;exact Int.natCast_add _ _
  change List.drop (i*6) c.lets=letC (c.ln i) (c.le i)++r at hd;generalize hle:c.le i=x at hd T hc1' hG hbig hs1;generalize c.lets=L at*;generalize cntE x=c1 at*;generalize depE x=c2 at*;generalize lonE x=c3 at*;have hoy:=(h.le i hlt).1;rw [hle] at hoy;obtain ⟨k',s',n',nl',li',na',ar',rfl⟩:=ok_mk hoy;unfold letC at hd;rw [exC_mk] at hd T hG;simp only [List.cons_append,List.nil_append] at hd;simp (disch:=first|exact Wv.D|fail) only [Wv.B,simprocAttr,hd];refine call_TC T rfl (cloA1 hG) Wv.c ?_;refine Wv.W ?_;have hbad:c.big i=true→smallB c=false:=fun hq=>by
   unfold smallB;have:anyN c.nl c.big=true:=by
    unfold anyN;exact List.any_eq_true.2 ⟨i,List.mem_range.2 hlt,hq⟩
   rw [this];rfl
  cases d1:decide (400<((c.sum i:Nat):Int)+(c1:Int)) with
  | true=>
   have hsm:=hbad (by rw [hbig,hs1,d1];rfl);simp (disch:=first|exact Wv.D|fail) only [Wv.B,simprocAttr,d1,hsm]
  | false=>
  cases d2:decide (40<(c2:Int)) with
  | true=>
   have hsm:=hbad (by rw [hbig,hs1,d1,d2];rfl);simp (disch:=first|exact Wv.D|fail) only [Wv.B,simprocAttr,d1,d2,hsm]
  | false=>
  cases c3 with
  | true=>
   have hsm:=hbad (by rw [hbig,hs1,d1,d2];rfl);simp (disch:=first|exact Wv.D|fail) only [Wv.B,simprocAttr,d1,d2,hsm]
  | false=>
   have hbf:c.big i=false:=by rw [hbig,hs1,d1,d2];rfl
   have hsm1:=of_decide_eq_false d1;simp (disch:=first|exact Wv.D|fail) only [Wv.B,simprocAttr,d1,d2];refine Wv.k_cut (i+1) 1 (by first | decide | exact Nat.le_of_ble_eq_true rfl) (⟨by omega,by omega,fun j hj=>by by_cases e:j=i;exact e▸hbf;exact hb j (by omega)⟩) (by omega) (by simp (disch:=first|exact Wv.D|fail) only [Wv.B,simprocAttr,tab_snoc,hs1]) (by simp (disch:=first|exact Wv.D|fail) only [Wv.B,simprocAttr,Int.natCast_add,Int.natCast_one,hs1]) (by simp only [Wv.BL, ↓reduceIte,Nat.reduceLeDiff,hL]<;>omega) (by simp only [Wv.BL, ↓reduceIte,Nat.reduceLeDiff,hL]<;>omega)
 ·have hin:i=c.nl:=by omega
  have:smallB c=true:=by
   unfold smallB;have:anyN c.nl c.big=false:=by
    unfold anyN;refine List.any_eq_false.2 fun j hj=>?_
    rw [hb j (by have:=List.mem_range.1 hj;omega)];decide
   rw [this];rfl
  simp (disch:=first|exact Wv.D|fail) only [Wv.B,simprocAttr,this,hin]
theorem pfew_tc (c:Ci):TC Tryz.prog 102 [.g (ciC c)] (.v (.bool (fewB c))):=by
 refine Wv.TC.by 19 [0,1,2] [] [.tmp 2] Tryz.func102 rfl rfl rfl ?clo ?_
 case clo=>simp only [Wv.BC]
 unfold ciC strsA;have hN:fewB c=(decide ((c.ni:Int)≤8) && (decide ((c.nl:Int)≤60) && decide ((c.no:Int)≤8))):=rfl;cases h1:decide ((c.ni:Int)≤8) with
 | false=>rw [h1,Bool.false_and] at hN;simp (disch:=first|exact Wv.D|fail) only [Wv.B,simprocAttr,h1,hN]
 | true=>
 cases h2:decide ((c.nl:Int)≤60) with
 | false=>rw [h1,h2,Bool.false_and,Bool.and_false] at hN;simp (disch:=first|exact Wv.D|fail) only [Wv.B,simprocAttr,h1,h2,hN]
 | true=>rw [h1,h2,Bool.true_and,Bool.true_and] at hN;simp (disch:=first|exact Wv.D|fail) only [Wv.B,simprocAttr,h1,h2,hN]
theorem pbad_tc (s:ByteArray) (hs:s.size≤140737488351232):TC Tryz.prog 99 [.v (.string s)] (.v (.bool (!nameB s))):=by
 refine Wv.TC.by 6 [0,2] [] [.tmp 2] Tryz.func99 rfl rfl rfl ?clo ?_
 case clo=>simp only [Wv.BC]
 refine Wv.W ?_;refine call_TC (pname_tc s hs) rfl Wv.c Wv.c ?_;exact Wv.V
theorem HT.rd {P:Program} {f:FuncId} {args:List AV} {h:Hp} {res:AV} (T:HT P f args h fun r h'=>r=res∧h'.take h.length=h) (hr:lo h.length res) (hh:loH h.length h):HT P f args h fun r h'=>r=res∧h'=h:=
 (RD.of (R:=fun r=>r=res) (p:=fun _=>False) (T.toP _) (fun r q=>q▸hr) (fun r q=>q.elim) hh).toT fun _ _ q=>q.1
theorem pbadl_ht {C:List AV} (hC: ∀ a,a∈C→Clo a) (s:ByteArray) (x:Ex) (hs:s.size≤140737488351232) (hx:okE x):HT Tryz.prog 104 [.g (letC s x), .ptr 1 0] [some (.blk C),some (.blk [.fn (.func 99) [] []])] (fun r h'=>r= .v (.bool (!nameB s || !formB x))∧h'=[some (.blk C),some (.blk [.fn (.func 99) [] []])]):=by
 have T:=pformed_tc x hx;have hG:=exG_clo x;generalize formB x=b at*;obtain ⟨k',s',n',nl',li',na',ar',rfl⟩:=ok_mk hx;unfold letC;rw [exC_mk] at*;refine HT.rd ?_ (by simp only [Wv.BL, ↓reduceIte,Nat.reduceLeDiff]) (by simp only [Wv.BL, ↓reduceIte,Nat.reduceLeDiff];exact fun a ha=> .clo (hC a ha));refine Wv.HT.by 14 [0,1,2,3] [(1000000,2)] [.tmp 3] Tryz.func104 rfl rfl rfl ?base ?_
 case base=>rfl
 refine Wv.W ?_;refine call_TC (pbad_tc s hs) rfl Wv.c Wv.c ?_;cases h1:nameB s with
 | false=>simp (disch:=first|exact Wv.D|fail) only [Wv.B,simprocAttr,Bool.true_or]
 | true=>
  refine Wv.W ?_;refine call_TC T rfl (cloA1 hG) Wv.c ?_;simp (disch:=first|exact Wv.D|fail) only [Wv.B,simprocAttr,Bool.false_or]
theorem pcheckC_tc (c:Ci) (h:okC c):TC Tryz.prog 62 [.g (ciC c)] (.v (.int .i64 (checkI c))):=by
 have hcl:=ciG_clo c;have hll:=lets_len c;have hla: ∀ i,i<c.nl→List.take 6 (List.drop (i*6) c.lets)=letC (c.ln i) (c.le i):=tabM_at fun i=>letC_len _ _
 have Tf:=pfew_tc c;have Ts:=psmall_tc c h;have hN:checkI c=if (!nameB c.name || (anyN c.ni (fun i=>!nameB (c.fi i)) || (anyN c.no (fun i=>!nameB (c.fo i)) || (decide ((c.no:Int)=0) || !fewB c))))=true then 2
  else if anyN c.nl (fun i=>!nameB (c.ln i) || !formB (c.le i))=true then 2 else if smallB c=true then 0 else 3:=rfl
 unfold ciC strsA at Tf Ts hcl ⊢;refine Wv.TC.by 38 [0,3,1,30,34,37,2] [] [.tmp 2] Tryz.func62 rfl rfl rfl ?clo ?_
 case clo=>simp only [Wv.BC]
 refine Wv.W ?_;refine call_TC (pbad_tc c.name h.name) rfl Wv.c Wv.c ?_;cases h1:nameB c.name with
 | false=>rw [h1] at hN;simp only [Bool.not_false,Bool.true_or,if_true] at hN;simp (disch:=first|exact Wv.D|fail) only [Wv.B,simprocAttr,hN]
 | true=>
 refine Wv.W ?_;refine call_HT (fst:=[]) (cap:=[]) (scontf_ht c.ni c.fi (fun i=>!nameB (c.fi i)) _ [] [] h.ni fun i hi=>(pbad_tc (c.fi i) (h.fi i hi)).ht (cloA1 Wv.c) Wv.c _) ?_;rintro av h' ⟨rfl,rfl⟩;cases h2:anyN c.ni (fun i=>!nameB (c.fi i)) with
 | true=>rw [h1,h2] at hN;simp only [Bool.not_true,Bool.false_or,Bool.true_or,if_true] at hN;simp (disch:=first|exact Wv.D|fail) only [Wv.B,simprocAttr,hN]
 | false=>
 refine Wv.W ?_;refine call_HT (fst:=[]) (cap:=[]) (scontf_ht c.no c.fo (fun i=>!nameB (c.fo i)) _ [] [] h.no fun i hi=>(pbad_tc (c.fo i) (h.fo i hi)).ht (cloA1 Wv.c) Wv.c _) ?_;rintro av h' ⟨rfl,rfl⟩;cases h3:anyN c.no (fun i=>!nameB (c.fo i)) with
 | true=>rw [h1,h2,h3] at hN;simp only [Bool.not_true,Bool.false_or,Bool.true_or,if_true] at hN;simp (disch:=first|exact Wv.D|fail) only [Wv.B,simprocAttr,hN]
 | false=>
 cases h4:decide ((c.no:Int)=0) with
 | true=>rw [h1,h2,h3,h4] at hN;simp only [Bool.not_true,Bool.false_or,Bool.true_or,if_true] at hN;simp (disch:=first|exact Wv.D|fail) only [Wv.B,simprocAttr,h4,hN]
 | false=>
 simp (disch:=first|exact Wv.D|fail) only [Wv.B,simprocAttr,h4];refine call_TC Tf rfl (cloA1 hcl) Wv.c ?_;cases h5:fewB c with
 | false=>rw [h1,h2,h3,h4,h5] at hN;simp only [Bool.not_true,Bool.not_false,Bool.false_or,Bool.true_or,if_true] at hN;simp (disch:=first|exact Wv.D|fail) only [Wv.B,simprocAttr,hN]
 | true=>
 rw [h1,h2,h3,h4,h5] at hN;simp only [Bool.not_true,Bool.not_false,Bool.false_or,Bool.true_or,if_true,Bool.false_eq_true,if_false] at hN;refine Wv.W ?_;refine call_HT (fst:=[]) (cap:=[]) (lcontf_ht c.nl c.lets (fun i=>letC (c.ln i) (c.le i)) hll hla (fun i=>!nameB (c.ln i) || !formB (c.le i)) _ [] [.ptr 1 0] h.nl fun i hi=>pbadl_ht (by simp only [Wv.BC];exact lets_clo c) (c.ln i) (c.le i) (h.ln i hi) (h.le i hi).1) ?_;rintro av h' ⟨rfl,rfl⟩;cases h6:anyN c.nl (fun i=>!nameB (c.ln i) || !formB (c.le i)) with
 | true=>rw [h6] at hN;simp only [if_true] at hN;simp (disch:=first|exact Wv.D|fail) only [Wv.B,simprocAttr,hN]
 | false=>
 rw [h6] at hN;simp only [Bool.false_eq_true,if_false] at hN;refine Wv.W ?_;refine call_TC Ts rfl (cloA1 hcl) Wv.c ?_;cases h7:smallB c with
 | true=>rw [h7] at hN;simp only [if_true] at hN;simp (disch:=first|exact Wv.D|fail) only [Wv.B,simprocAttr,hN]
 | false=>rw [h7] at hN;simp only [Bool.false_eq_true,if_false] at hN;simp (disch:=first|exact Wv.D|fail) only [Wv.B,simprocAttr,hN]
end
section
open Go.RowKit Wv
theorem TC.scal {P:Program} {f:FuncId} {xs:List Value} {r:Value} (hb:bodyP P f=true) (T: ∀ w,Calls P f xs.toArray w fun e w'=>e= .returned r∧Below w.heap.size w w'):TC P f (xs.map .v) (.v r):=by
 refine ⟨hb,fun X vs hX hbad hr=>?_⟩;have e:vs=xs:=by
  apply List.ext_getElem?;intro i;by_cases hi:i<xs.length
  ·have hi':i<vs.length:=by have:=hr.1;simp at this;omega
   have h:=hr.2 i (.v xs[i]) vs[i] (by simp [hi]) (by simp [hi']);generalize hq:vs[i]=q at h;cases h;rw [List.getElem?_eq_getElem hi',List.getElem?_eq_getElem hi,hq]
  ·have hi': ¬ i<vs.length:=by have:=hr.1;simp at this;omega
   rw [List.getElem?_eq_none (by omega),List.getElem?_eq_none (by omega)]
 subst e;refine (T X.w).mono ?_;rintro e w' ⟨h1,h2⟩;exact ⟨r,h1,h2,fun m=> .v r⟩
theorem len64_tc (x:Int) (h0:0≤x) (h1:x≤18446744073709551615):TC Tryz.prog 86 [.v (.int .u64 x)] (.v (.int .i64 (Lib.bitLen x.toNat))):=
 TC.scal (xs:=[.int .u64 x]) (by kernel_rfl) fun w=>(Tryz.bits_Len64 x w h0 h1).mono fun e w' h=>⟨h.1,h.2▸Below.refl _ _⟩
def stepsN (n:Int):Nat:=if n≤1 then 0 else Lib.bitLen (n - 1).toNat
theorem psteps_tc (n:Int) (h1:n≤9223372036854775807):TC Tryz.prog 165 [.v (.int .i64 n)] (.v (.int .i64 (stepsN n))):=by
 refine Wv.TC.by 9 [0,4,2] [] [.tmp 2] Tryz.func165 rfl rfl rfl ?clo ?_
 case clo=>simp only [Wv.BC]
 have hN:stepsN n=if n≤1 then 0 else Lib.bitLen (n - 1).toNat:=rfl
 by_cases h:n≤1
 ·rw [if_pos h] at hN;simp (disch:=first|exact Wv.D|fail) only [Wv.B,simprocAttr,alA h,hN]
 ·rw [if_neg h] at hN;simp (disch:=first|exact Wv.D|fail) only [Wv.B,simprocAttr,alB h];refine call_TC (len64_tc (n - 1) (by omega) (by omega)) rfl Wv.c Wv.c ?_;simp (disch:=first|exact Wv.D|fail) only [Wv.B,simprocAttr,hN]
def stopA (e:Int):AV:= .ifc 113 (.g [.v (.int .i64 e)])
theorem stop_clo (e:Int):Clo (stopA e):=by unfold stopA;simp only [Wv.BC]
theorem demand_rd {h:Hp} (b:Bool) (e:Int):HTP Tryz.prog 67 [.v (.bool b), .v (.int .i64 e)] h (fun r h'=>b=true∧r= .tup []∧h'=h) (fun r h'=>b=false∧r=stopA e∧h'=h):=by
 refine Wv.HTP.by 9 [0,5,1] [(1000000,h.length)] [] Tryz.func67 rfl rfl rfl ?base ?_
 case base=>rfl
 unfold stopA;cases b with
 | true=>simp (disch:=first|exact Wv.D|fail) only [Wv.B,simprocAttr]
 | false=>simp (disch:=first|exact Wv.D|fail) only [Wv.B,simprocAttr]
end
section
open Go.RowKit Wv
theorem Rn.refl {n:Nat} {a:AV} (h:lo n a) (ht: ∀ l,a≠ .tup l) (hi: ∀ T x,a≠ .ifc T x) (hm: ∀ es,a≠ .tm es) (hg: ∀ l,a= .g l→ ∀ x,x∈l→Rn id n x x) (hf: ∀ f l k,a= .fn f l k→(∀ x,x∈l→Rn id n x x)∧ ∀ x,x∈k→Rn id n x x):Rn id n a a:=by
 have same: ∀ (l:List AV),(∀ x,x∈l→Rn id n x x)→ ∀ (i:Nat) (a b:AV),l[i]? =some a→l[i]? =some b→Rn id n a b:=fun l h i a b h1 h2=>by
  rw [h1] at h2;injection h2 with h2;subst h2;exact h a (List.mem_of_getElem? h1)
 cases h with
 | clo h=>exact .clo h
 | own h=>exact .own h
 | ptr h=>exact .ptr h
 | ap h=>exact .ap h
 | mp h=>exact .mp h
 | g h=>exact .g rfl (same _ (hg _ rfl))
 | tup h=>exact absurd rfl (ht _)
 | fn h1 h2=>exact .fn rfl rfl (same _ (hf _ _ _ rfl).1) (same _ (hf _ _ _ rfl).2)
 | ifc h=>exact absurd rfl (hi _ _)
 | tm h=>exact absurd rfl (hm _)
theorem RD.ext {P:Program} {f:FuncId} {args:List AV} {h0:Hp} {R p:AV→Prop} (T:RD P f args h0 R p) (r:Hp) (ha:RnL id h0.length args args) (hh: ∀ (i:Nat) (o:Option Ob),h0[i]? =some o→ ∃ o',o=some o'∧RnO id h0.length o' o') (hR: ∀ r,R r→Clo r) (hp: ∀ r,p r→Clo r):RD P f args (h0++r) R p:=
 RD.frame (σ:=id) T ⟨fun i j _ _ e=>e,fun i o ho=>by
  obtain ⟨o',e,q⟩:=hh i o ho;subst e;exact ⟨o',o',rfl,by rw [id,List.getElem?_append_left (List.getElem?_eq_some_iff.1 ho).1];exact ho,q⟩⟩ ha hR hp
def parC (x:Par):List AV:=[.v (.int .i64 x.n), .v (.int .u32 x.p), .v (.int .i64 x.r), .t x.ch.length 1 (x.ch.map fun (c:Nat)=> .v (.int .u32 c)), .v (.int .u32 x.sp), .v (.int .i64 x.wt), .v (.int .u32 x.er)]
theorem parC_clo (x:Par): ∀ a,a∈parC x→Clo a:=by
 unfold parC;simp only [Wv.BC]
def tyC (x:Par) (t:Int):List AV:=[.v (.int .i64 x.n), .v (.int .u32 x.p), .v (.int .i64 x.r), .t x.ch.length 1 (x.ch.map fun (c:Nat)=> .v (.int .u32 c)), .v (.int .u32 x.sp), .v (.int .i64 x.wt), .v (.int .u32 x.er), .v (.int .i64 t), .mp 1]
abbrev Nms:=List (ByteArray × Bool × Nat)
def shA (r:Bool × Nat):AV:= .g [.v (.bool r.1), .v (.int .i64 r.2)]
theorem shA_clo (r:Bool × Nat):Clo (shA r):=by unfold shA;simp only [Wv.BC]
def nsE (ns:Nms):List (Value × AV):=ns.map fun p=>(.string p.1,shA p.2)
def hT (x:Par) (t:Int) (ns:Nms):Hp:=[some (.blk (tyC x t)),some (.map (nsE ns))]
theorem tyC_rn (x:Par) (t:Int):RnL id 2 (tyC x t) (tyC x t):=by
 have h:=parC_clo x;unfold parC at h;simp only [List.mem_cons,List.not_mem_nil,or_false,forall_eq_or_imp,forall_eq] at h;obtain ⟨h1,h2,h3,h4,h5,h6,h7⟩:=h;exact ⟨.clo h1, .clo h2, .clo h3, .clo h4, .clo h5, .clo h6, .clo h7, .clo (.v _), .mp (by omega),trivial⟩
theorem nsE_clo (ns:Nms): ∀ a,a∈(nsE ns).map (·.2)→Clo a:=by
 intro a ha;unfold nsE at ha;rw [List.map_map] at ha;obtain ⟨p,_,rfl⟩:=List.mem_map.1 ha;exact shA_clo _
theorem hT_rn (x:Par) (t:Int) (ns:Nms): ∀ (i:Nat) (o:Option Ob),(hT x t ns)[i]? =some o→ ∃ o',o=some o'∧RnO id (hT x t ns).length o' o':=by
 intro i o ho;unfold hT at ho ⊢;match i with
 | 0=>simp at ho;subst ho;exact ⟨_,rfl,tyC_rn x t⟩
 | 1=>simp at ho;subst ho;exact ⟨_,rfl,rfl,RnL.clo (nsE_clo ns)⟩
 | i+2=>simp at ho
theorem tyC_lo (x:Par) (t:Int):loL 2 (tyC x t):=by
 have h:=parC_clo x;unfold parC at h;unfold loL tyC;simp only [List.mem_cons,List.not_mem_nil,or_false,forall_eq_or_imp,forall_eq] at h ⊢;obtain ⟨h1,h2,h3,h4,h5,h6,h7⟩:=h;exact ⟨.clo h1, .clo h2, .clo h3, .clo h4, .clo h5, .clo h6, .clo h7, .clo (.v _), .mp (by omega)⟩
theorem hT_lo (x:Par) (t:Int) (ns:Nms):loH (hT x t ns).length (hT x t ns):=⟨tyC_lo x t,fun a ha=> .clo (nsE_clo ns a ha),trivial⟩
def balB (t n:Int):Bool:=decide ((if 0 - n>n then 0 - n else n)≤(t - 1) / 2)
theorem pbal_rd (x:Par) (t:Int) (ns:Nms) (n:Int) (hn:inB n=true) (ht:1≤t) (ht':t≤4611686018427387904):RD Tryz.prog 162 [.ptr 0 0, .v (.int .i64 n)] (hT x t ns) (fun r=>r= .v (.bool (balB t n))) (fun _=>False):=by
 have hn': -4294967295≤n∧n≤4294967295:=by
  unfold inB at hn;rw [Bool.and_eq_true] at hn;exact ⟨of_decide_eq_true hn.1,of_decide_eq_true hn.2⟩
 refine RD.of ?_ (fun r q=>q▸ .clo Wv.c) (fun r q=>q.elim) (hT_lo x t ns);unfold hT tyC;refine Wv.HTP.by 16 [1,0,4] [(1000000,2)] [.tmp 4] Tryz.func162 rfl rfl rfl ?base ?_
 case base=>rfl
 have hq:(t - 1).tdiv 2=(t - 1) / 2:=Int.tdiv_eq_ediv_of_nonneg (by omega);simp (disch:=first|exact Wv.D|fail) only [Wv.B,simprocAttr,balB,hq]
def RuleC (x:Par) (t:Int) (ns:Nms) (fid:FuncId) (e:Ex) (unk:Nat) (o:Except Int Nat):Prop:=
 RD Tryz.prog fid [.ptr 0 0, .g (exC e), .v (.int .i64 unk)] (hT x t ns) (fun r=> ∃ d:Nat,o= .ok d∧r= .v (.int .i64 d)) (fun r=> ∃ e,o= .error e∧r=stopA e)
theorem RuleC.of {x:Par} {t:Int} {ns:Nms} {fid:FuncId} {e:Ex} {unk:Nat} {o:Except Int Nat}
  (T:HTP Tryz.prog fid [.ptr 0 0, .g (exC e), .v (.int .i64 unk)] (hT x t ns) (fun r h'=>(∃ d:Nat,o= .ok d∧r= .v (.int .i64 d))∧h'.take 2=hT x t ns) (fun r h'=>(∃ e,o= .error e∧r=stopA e)∧h'.take 2=hT x t ns)):RuleC x t ns fid e unk o:=
 RD.of T (by rintro r ⟨d,_,rfl⟩;exact .clo (.v _)) (by rintro r ⟨e,_,rfl⟩;exact .clo (stop_clo e)) (hT_lo x t ns)
theorem RD.hT {x:Par} {t:Int} {ns:Nms} {f:FuncId} {args:List AV} {R p:AV→Prop} (T:RD Tryz.prog f (.ptr 0 0::args) (hT x t ns) R p) (r:Hp) (ha: ∀ (a:AV),a∈args→Clo a) (hR: ∀ r,R r→Clo r) (hp: ∀ r,p r→Clo r):HTP Tryz.prog f (.ptr 0 0::args) (some (.blk (tyC x t))::some (.map (nsE ns))::r) (fun q h'=>R q∧h'=some (.blk (tyC x t))::some (.map (nsE ns))::r) (fun q h'=>p q∧h'=some (.blk (tyC x t))::some (.map (nsE ns))::r):=
 RD.ext T r ⟨.ptr (by show 0<2;omega),RnL.clo ha⟩ (hT_rn x t ns) hR hp
theorem stop_close {h:Hp} {e:Int}:close3 h (stopA e)=some (stopA e,h):=rfl
theorem pnumber_rule (x:Par) (t:Int) (ns:Nms) (k:Int) (s:ByteArray) (n:Int) (nl:Nat) (li:Nat→Int) (na:Nat) (ar:Nat→Ex) (unk:Nat) (hn:inB n=true) (ht:1≤t) (ht':t≤4611686018427387904):
  RuleC x t ns 137 (.mk k s n nl li na ar) unk (if balB t n=true then .ok 0 else .error 233):=by
 refine RuleC.of ?_;have T:=pbal_rd x t ns n hn ht ht';generalize hb:balB t n=b at*;rw [exC_mk];have hE:=RD.hT T;unfold hT tyC at*;refine Wv.HTP.by 12 [1,0,4,6] [(1000000,2)] [.tmp 6] Tryz.func137 rfl rfl rfl ?base ?_
 case base=>rfl
 refine Wv.W ?_;refine call_HTP (fst:=[]) (cap:=[]) (hE _ Wv.c (by rintro r rfl;simp only [Wv.BC]) (by rintro r h;exact h.elim)) ?_ (by rintro av h' ⟨h,_⟩;exact h.elim);rintro av h' ⟨rfl,rfl⟩;refine Wv.W ?_;refine call_HTP (fst:=[]) (cap:=[]) (demand_rd b 233) ?_ ?_
 ·rintro av h' ⟨hb,rfl,rfl⟩;subst hb;refine Wv.W ?_;exact ⟨0,rfl,rfl⟩
 ·rintro av h' ⟨hb,rfl,rfl⟩;subst hb;simp (disch:=first|exact Wv.D|fail) only [Wv.B,simprocAttr,stop_close];exact ⟨233,rfl,rfl⟩
theorem pproduct_rule (x:Par) (t:Int) (ns:Nms) (e:Ex) (he:okE e) (unk:Nat):
  RuleC x t ns 139 e unk (.ok (if unk<2 then 0 else 1)):=by
 refine RuleC.of ?_;obtain ⟨k,s,n,nl,li,na,ar,rfl⟩:=ok_mk he;rw [exC_mk];unfold hT tyC at*;refine Wv.HTP.by 9 [1,2,8,6] [(1000000,2)] [.tmp 6] Tryz.func139 rfl rfl rfl ?base ?_
 case base=>rfl
 by_cases h:unk<2
 ·have h':(unk:Int)<2:=by omega
  simp (disch:=first|exact Wv.D|fail) only [Wv.B,simprocAttr,alA h',if_pos h];exact ⟨0,rfl,rfl⟩
 ·have h': ¬ (unk:Int)<2:=by omega
  simp (disch:=first|exact Wv.D|fail) only [Wv.B,simprocAttr,alB h',if_neg h];exact ⟨1,rfl,rfl⟩
def powB (n:Int):Bool:=decide (1≤n) && decide (n≤64)
theorem ppower_rule (x : Par) (t : Int) (ns : Nms) (k : Int) (s : ByteArray) (n : Int) (nl : Nat) (li : Nat → Int) (na : Nat) (ar : Nat → Ex) (unk : Nat) :
    RuleC x t ns 142 (.mk k s n nl li na ar) unk (if powB n = true then .ok (stepsN n) else .error 233) := by
  refine RuleC.of ?_;rw [exC_mk];unfold hT tyC at *;have hp : powB n = (decide (1 ≤ n) && decide (n ≤ 64)) := rfl;generalize powB n = b at *;refine Wv.HTP.by 19 [1, 4, 6] [(1000000, 2)] [.tmp 6] Tryz.func142 rfl rfl rfl ?base ?_
  case base => rfl
  have fin : ∀ (K : AV → Hp → Prop), K (.v (.bool b)) [] → K (.v (.bool b)) [] := fun _ h => h
  cases h1 : decide (1 ≤ n) <;> cases h2 : decide (n ≤ 64);all_goals
    rw [h1, h2] at hp;simp (disch:=first|exact Wv.D|fail) only [Wv.B, simprocAttr, h1, h2];refine call_HTP (fst := []) (cap := []) (demand_rd _ 233) ?_ ?_
    · rintro av h' ⟨hb, rfl, rfl⟩
      first
      | exact absurd hb (by decide)
      | (have h3 := of_decide_eq_true h2
         refine Wv.W ?_;refine call_TC (psteps_tc n (by omega)) rfl Wv.c Wv.c ?_;simp (disch:=first|exact Wv.D|fail) only [Wv.B, simprocAttr, hp];exact ⟨_, rfl, rfl⟩)
    · rintro av h' ⟨hb, rfl, rfl⟩
      first
      | exact absurd hb (by decide)
      | (subst hp
         simp (disch:=first|exact Wv.D|fail) only [Wv.B, simprocAttr, stop_close];exact ⟨233, rfl, rfl⟩)
end
section
open Go.ChangeShapes Go.WideShapes Go.ChangeAt Go.RowKit Go.Deep Wv
theorem len7 {α:Type} {l:List α} (h:l.length=7): ∃ a b c d e f g,l=[a,b,c,d,e,f,g]:=by
 match l,h with
 | [a,b,c,d,e,f,g],_=>exact ⟨a,b,c,d,e,f,g,rfl⟩
theorem wp_u32 {z:Int} (h:(Lit.int .u32 z).wf=true):0≤z∧z<4294967296:=by
 simp [Lit.wf,IntKind.min,IntKind.max,IntKind.bits,IntKind.signed] at h;omega
theorem wp_i64 {z:Int} (h:(Lit.int .i64 z).wf=true): -9223372036854775808≤z∧z≤9223372036854775807:=by
 simp [Lit.wf,IntKind.min,IntKind.max,IntKind.bits,IntKind.signed] at h;omega
def paTs:List TypeId:=[3,22,23,25]
theorem paTs_ok:setB Tryz.prog paTs=true:=by kernel_rfl
theorem par_sh {l:List AV} (h:Sh Tryz.prog 25 l): ∃ x:Par,ParOk x∧x.ch.length≤140737488351232∧(∀ q,q∈x.ch→q<4294967296)∧l=parC x:=by
 obtain ⟨hl,hf⟩:=sh_struct Tryz.underlying25 h;have hc:Tryz.prog.cellsOf 25=7:=by kernel_rfl
 rw [hc] at hl;obtain ⟨a,b,c,d,e,f,g,rfl⟩:=len7 hl;have c1:Tryz.prog.cellsOf 3=1:=by kernel_rfl
 have c2:Tryz.prog.cellsOf 22=1:=by kernel_rfl
 have c3:Tryz.prog.cellsOf 23=1:=by kernel_rfl
 have h0:Sh Tryz.prog 3 (([a,b,c,d,e,f,g].drop 0).take (Tryz.prog.cellsOf 3)):=hf 0 _ rfl;have h1:Sh Tryz.prog 22 (([a,b,c,d,e,f,g].drop 1).take (Tryz.prog.cellsOf 22)):=hf 1 _ rfl;have h2:Sh Tryz.prog 3 (([a,b,c,d,e,f,g].drop 2).take (Tryz.prog.cellsOf 3)):=hf 2 _ rfl;have h3:Sh Tryz.prog 23 (([a,b,c,d,e,f,g].drop 3).take (Tryz.prog.cellsOf 23)):=hf 3 _ rfl;have h4:Sh Tryz.prog 22 (([a,b,c,d,e,f,g].drop 4).take (Tryz.prog.cellsOf 22)):=hf 4 _ rfl;have h5:Sh Tryz.prog 3 (([a,b,c,d,e,f,g].drop 5).take (Tryz.prog.cellsOf 3)):=hf 5 _ rfl;have h6:Sh Tryz.prog 22 (([a,b,c,d,e,f,g].drop 6).take (Tryz.prog.cellsOf 22)):=hf 6 _ rfl;rw [c1] at h0 h2 h5;rw [c2] at h1 h4 h6;rw [c3] at h3;obtain ⟨z0,e0,w0⟩:=sh_int Tryz.underlying3 h0;obtain ⟨z1,e1,w1⟩:=sh_int Tryz.underlying22 h1;obtain ⟨z2,e2,w2⟩:=sh_int Tryz.underlying3 h2;obtain ⟨n3,f3,e3,w3,o3⟩:=sh_ints Tryz.underlying23 Tryz.underlying22 (Nat.le_of_ble_eq_true (by kernel_rfl)) (by kernel_rfl) h3;obtain ⟨z4,e4,w4⟩:=sh_int Tryz.underlying22 h4;obtain ⟨z5,e5,w5⟩:=sh_int Tryz.underlying3 h5;obtain ⟨z6,e6,w6⟩:=sh_int Tryz.underlying22 h6;have q0:[a]=[AV.v (.int .i64 z0)]:=e0;have q1:[b]=[AV.v (.int .u32 z1)]:=e1;have q2:[c]=[AV.v (.int .i64 z2)]:=e2;have q3:[d]=[AV.t n3 1 (tab n3 fun i=> .v (.int .u32 (f3 i)))]:=e3;have q4:[e]=[AV.v (.int .u32 z4)]:=e4;have q5:[f]=[AV.v (.int .i64 z5)]:=e5;have q6:[g]=[AV.v (.int .u32 z6)]:=e6;simp only [List.cons.injEq,and_true] at q0 q1 q2 q3 q4 q5 q6;subst q0 q1 q2 q3 q4 q5 q6;have b0:=wp_i64 w0;have b1:=wp_u32 w1;have b2:=wp_i64 w2;have b4:=wp_u32 w4;have b6:=wp_u32 w6;have hr:reachBytes=140737488351232:=rfl;obtain ⟨p1,rfl⟩: ∃ n:Nat,z1=n:=⟨z1.toNat,by omega⟩
 obtain ⟨p4,rfl⟩: ∃ n:Nat,z4=n:=⟨z4.toNat,by omega⟩
 obtain ⟨p6,rfl⟩: ∃ n:Nat,z6=n:=⟨z6.toNat,by omega⟩
 have hch:((List.range n3).map fun i=>(f3 i).toNat).length=n3:=by rw [List.length_map,List.length_range]
 have hcl:(((List.range n3).map fun i=>(f3 i).toNat).map fun (c:Nat)=>AV.v (.int .u32 c))=tab n3 fun i=> .v (.int .u32 (f3 i)):=by
  rw [List.map_map];refine List.map_congr_left fun i hi=>?_
  have:=wp_u32 (o3 i (List.mem_range.1 hi));show AV.v (.int .u32 ((f3 i).toNat:Int))=_;rw [Int.toNat_of_nonneg this.1]
 refine ⟨{n:=z0,p:=p1,r:=z2,ch:=(List.range n3).map fun i=>(f3 i).toNat,sp:=p4,wt:=z5,er:=p6},⟨b0.1,b0.2,by show p1<_;omega,b2.1,b2.2,by show p4<_;omega⟩,by rw [hch];omega,fun q hq=>?_,?_⟩
 ·obtain ⟨i,hi,rfl⟩:=List.mem_map.1 hq;have:=wp_u32 (o3 i (List.mem_range.1 hi));omega
 ·unfold parC;simp only;rw [hch,hcl]
theorem parW_of {H:Type} {enc:TypeId × Value→H} {w:World} {base b0:Nat} {spare:Nat→Bool} {held:Bool} {r:Reach} {v:Value} {d:DataW H} {p:List MemPlace}
  (hv:Value.okWide Tryz.prog w r b0 25 v) (h:DataW.Trod enc Tryz.prog w base spare held 25 v d p) (hl:LightP Tryz.prog 25 d): ∃ x:Par,ParOk x∧x.ch.length≤140737488351232∧(∀ q,q∈x.ch→q<4294967296)∧Rep (bareX w) (.g (parC x)) v:=by
 simp only [Value.okWide,Tryz.underlying25] at hv;obtain ⟨cs,rfl,_,_⟩:=hv;obtain ⟨fuel,hf⟩:=h;obtain ⟨l,s1,s2,s3⟩:=reads paTs_ok fuel _ _ _ (by unfold paTs;simp) hf hl;obtain ⟨x,h1,h2,h3,rfl⟩:=par_sh s1;refine ⟨x,h1,h2,h3,?_⟩;have e:(Value.agg cs)= .agg cs.toList.toArray:=by simp
 rw [e];exact .g s2.1 s2.2
end
section
end
section
def amf (s:ByteArray) (i:Nat):Nat:=(s.data.toList.getD (i / 8) 0).toNat / 2 ^ (7 - i % 8) % 2
theorem aml (s:ByteArray) (i:Nat):amf s i<2:=Nat.mod_lt _ (by decide)
def numAt (s:ByteArray) (a:Nat):Nat→Nat
 | 0=>0
 | n+1=>2*numAt s a n+amf s (a+n)
theorem al9 (s:ByteArray) (a n:Nat):numAt s a n<2 ^ n:=by
 induction n with
 | zero=>simp [numAt]
 | succ n ih=>have:=aml s (a+n);simp only [numAt,Nat.pow_succ];omega
def alL (s:ByteArray) (k a:Nat):Option (Nat × Nat):=if a+k≤8*s.size then some (numAt s a k,a+k) else none
def belF (s:ByteArray) (k n:Nat):Nat→Nat→Option (Nat × Nat)
 | 0,_=>none
 | f+1,a=>match alL s k a with
  | none=>none
  | some (v,b)=>if v<n then some (v,b) else belF s k n f b
def alS:Nat→Nat→Nat
 | 0,_=>0
 | f+1,x=>if x=0 then 0 else 1+alS f (x / 2)
def lenOf (n:Nat):Nat:=alS 64 n
def alC (s:ByteArray) (n a:Nat):Option (Nat × Nat):=belF s (lenOf (n - 1)) n (8*s.size+1) a
variable {k n:Nat}{s:ByteArray}
theorem amF (hk:1≤k∨1≤n∧k=0): ∀ f a g,8*s.size<a+f→8*s.size<a+g→0<f→0<g→belF s k n f a=belF s k n g a:=by
 intro f;induction f with
 | zero=>intro a g _ _ h;omega
 | succ f ih=>
  intro a g h1 h2 _ h3;obtain ⟨g,rfl⟩: ∃ m,g=m+1:=⟨g - 1,by omega⟩
  simp only [belF];unfold alL;by_cases hT:a+k≤8*s.size
  ·rw [if_pos hT];show (if numAt s a k<n then _ else _)=(if numAt s a k<n then _ else _);by_cases hv:numAt s a k<n
   ·rw [if_pos hv,if_pos hv]
   ·rw [if_neg hv,if_neg hv];rcases hk with hk | ⟨hn,rfl⟩
    ·exact ih _ _ (by omega) (by omega) (by omega) (by omega)
    ·exact absurd (by simp [numAt];omega) hv
  ·rw [if_neg hT]
variable {a:Nat}
theorem amG {f:Nat} (hk:1≤k∨1≤n∧k=0) (hf:8*s.size<a+f) (hf0:0<f):
  belF s k n f a=match alL s k a with
  | none=>none
  | some (v,b)=>if v<n then some (v,b) else belF s k n f b:=by
 rw [amF hk f a (f+1) hf (by omega) hf0 (by omega)];simp only [belF]
theorem amu (h:1≤n):1≤lenOf (n - 1)∨1≤n∧lenOf (n - 1)=0:=by
 omega
theorem alQ (hn:1≤n):
  alC s n a=match alL s (lenOf (n - 1)) a with
  | none=>none
  | some (v,b)=>if v<n then some (v,b) else alC s n b:=amG (amu hn) (by omega) (by omega)
theorem ama (hn:1≤n) (h: ¬ a+lenOf (n - 1)≤8*s.size):alC s n a=none:=by
 rw [alQ hn];unfold alL;rw [if_neg h]
theorem amg (hn:1≤n) (h:a+lenOf (n - 1)≤8*s.size) (hv:numAt s a (lenOf (n - 1))<n):alC s n a=some (numAt s a (lenOf (n - 1)),a+lenOf (n - 1)):=by
 rw [alQ hn];unfold alL;rw [if_pos h];show (if _<n then _ else _)=_;rw [if_pos hv]
theorem amb (hn:1≤n) (h:a+lenOf (n - 1)≤8*s.size) (hv: ¬ numAt s a (lenOf (n - 1))<n):alC s n a=alC s n (a+lenOf (n - 1)):=by
 rw [alQ hn];unfold alL;rw [if_pos h];show (if _<n then _ else _)=_;rw [if_neg hv]
theorem am8 : ∀ f a v b,belF s k n f a=some (v,b)→v<n∧a≤b∧b≤8*s.size:=by
 intro f;induction f with
 | zero=>intro a v b h;cases h
 | succ f ih=>
  intro a v b h;simp only [belF] at h;unfold alL at h;by_cases hT:a+k≤8*s.size
  ·rw [if_pos hT] at h;simp only at h;by_cases hv:numAt s a k<n
   ·rw [if_pos hv] at h;cases h;omega
   ·rw [if_neg hv] at h;have:=ih _ _ _ h;omega
  ·rw [if_neg hT] at h;cases h
theorem alM {v b:Nat} (h:alC s n a=some (v,b)):v<n∧a≤b∧b≤8*s.size:=am8 _ _ _ _ h
structure ano where
 pl:List Int
 out:List Int
 at_:Nat
structure anp (n:Nat) (t:ano):Prop where
 lp:t.pl.length=n
 lo:t.out.length=n
 rp: ∀ z,z∈t.pl→0≤z∧z<n
 ro: ∀ z,z∈t.out→ -1≤z∧z≤1
end
end Go.Proofs.YthlhibpfagekfaaGreat
namespace Go.Proofs.YthlhibpfagekfaaGreat.Wv
section
open Go.RowKit
theorem HT.amc {P:Program} {f:FuncId} {args0 args:List AV} {h:Hp} {c0:List AV} {Q:AV→Hp→Prop} {g:Nat} (T:HT P f args0 [some (.blk c0)] Q) (hg:h[g]? =some (some (.blk c0))) (hc0: ∀ a,a∈c0→Clo a) (hQ: ∀ r h',Q r h'→Clo r∧ ∃ c1,h'=[some (.blk c1)]∧c1.length=c0.length∧ ∀ a,a∈c1→Clo a) (ha:RnL (fun _=>g) 1 args0 args):
  HT P f args h (fun r h'=> ∃ c1,Q r [some (.blk c1)]∧h'=h.set g (some (.blk c1))):=by
 refine ⟨T.1,fun X vs hX hh hr=>?_⟩;subst hh;have hgl:g<X.h.length:=(List.getElem?_eq_some_iff.1 hg).1;have B:Br (fun _=>g) ⟨X.w,fun _=>X.m g,[some (.blk c0)],X.bad,X.ds⟩ X:=by
  refine ⟨rfl,rfl,fun i j hi hj _=>?_,fun _ _=>hgl,fun i o ho=>?_,fun i o' hi _=>?_,fun _ _=>rfl,fun _ _ _ _ _ _=>rfl⟩
  ·have hi:i<1:=hi;have hj:j<1:=hj;omega
  ·match i with
   | 0=>simp at ho;subst ho;exact ⟨_,hg,RnL.clo hc0⟩
   | i+1=>simp at ho
  ·have hi:i<1:=hi;obtain rfl:i=0:=by omega
   exact ⟨_,rfl⟩
 refine (T.2 ⟨X.w,fun _=>X.m g,[some (.blk c0)],X.bad,X.ds⟩ vs (B.ok hX) rfl (B.repL ha hr)).mono ?_;rintro e w' ⟨v,Y,av,rfl,rfl,S,hY,hv,hq⟩;obtain ⟨hc,c1,hYh,hlen,hc1⟩:=hQ _ _ hq;rw [hYh] at hq;have hY0:Y.h[0]? =some (some (.blk c1)):=by rw [hYh];rfl
 have hm:(Y.m 0).1=(X.m g).1:=(S.oblk 0 c1 (Nat.lt_succ_self 0) hY0).elim fun _ q=>q.2
 have hne: ∀ i,i≠g→(X.h.set g (some (.blk c1)))[i]? =X.h[i]? :=fun i hi=>List.getElem?_set_ne fun e=>hi e.symm
 have hself:(X.h.set g (some (.blk c1)))[g]? =some (some (.blk c1)):=List.getElem?_set_self hgl;have hbl: ∀ b,b<X.w.heap.size→ ¬ Cx.mine ⟨X.w,fun _=>X.m g,[some (.blk c0)],X.bad,X.ds⟩ b→Y.w.heap[b]? =X.w.heap[b]? :=fun b hb hm=>S.block b hb hm
 have live: ∀ i,Cx.live ⟨Y.w,X.m,X.h.set g (some (.blk c1)),Y.bad,X.ds⟩ i→X.live i:=fun i ⟨o,ho⟩=>by
  by_cases e:i=g
  ·subst e;exact ⟨_,hg⟩
  ·simp only at ho;rw [hne i e] at ho;exact ⟨o,ho⟩
 have SZ:Step X ⟨Y.w,X.m,X.h.set g (some (.blk c1)),Y.bad,X.ds⟩:=by
  refine ⟨S.os,S.tape,S.output,S.size,fun b hb hm=>hbl b hb fun q=>hm (B.mine q),S.keep,by simp,fun i T s c fz _ hi=>?_,fun i c _ hi=>?_,fun b hb=>?_,fun b o hb=>(S.badk b o hb).imp id B.mine,fun i c _ hi=>?_,rfl⟩
  ·by_cases e:i=g
   ·subst e;simp only at hi;rw [hself] at hi;injection hi with hi;cases hi
   ·simp only at hi;rw [hne i e] at hi;exact ⟨c,fz,hi,Nat.le_refl _,fun _=>rfl⟩
  ·by_cases e:i=g
   ·subst e;exact ⟨c0,hg,rfl⟩
   ·simp only at hi;rw [hne i e] at hi;exact ⟨c,hi,rfl⟩
  ·obtain ⟨i,hl,hb⟩:=hb;exact .inr ⟨i,live i hl,hb⟩
  ·by_cases e:i=g
   ·subst e;simp only at hi;rw [hself] at hi;injection hi with hi;cases hi
   ·simp only at hi;rw [hne i e] at hi;exact ⟨c,hi,rfl⟩
 have other: ∀ j o,X.h[j]? =some (some o)→j≠g→ ∀ b,(X.m j).1=some b→Y.w.heap[b]? =X.w.heap[b]?∧ ¬ Cx.mine ⟨X.w,fun _=>X.m g,[some (.blk c0)],X.bad,X.ds⟩ b:=by
  intro j o hj hne b hb;have hnm: ¬ Cx.mine ⟨X.w,fun _=>X.m g,[some (.blk c0)],X.bad,X.ds⟩ b:=by
   rintro ⟨i,_,he⟩;exact hne (hX.inj _ _ b ⟨_,hg⟩ ⟨o,hj⟩ he hb).symm
  exact ⟨hbl b (hX.lt ⟨j,⟨o,hj⟩,hb⟩) hnm,hnm⟩
 have bado: ∀ b o,X.bad b o→ ¬ Cx.mine ⟨X.w,fun _=>X.m g,[some (.blk c0)],X.bad,X.ds⟩ b→Y.bad b o:=fun b o hb hm=>(S.badk b o hb).elim id fun q=>absurd q hm
 refine ⟨v,⟨Y.w,X.m,X.h.set g (some (.blk c1)),Y.bad,X.ds⟩,av,rfl,rfl,SZ,⟨fun id c hi=>?_,fun id T s c fz hi=>?_,fun i j b hi hj=>hX.inj i j b (live i hi) (live j hj),hY.badlt,fun id es hi=>?_⟩,hv.clo hc (fun b o u hu hb=>⟨hu,hb⟩),c1,hq,rfl⟩
 ·by_cases e:id=g
  ·subst e;simp only at hi;rw [hself] at hi;injection hi with hi;injection hi with hi;injection hi with hi;subst hi;obtain ⟨b,cvs,T,k1,k2,k3,k4,k5⟩:=hY.blk 0 c1 hY0;refine ⟨b,cvs,T,by rw [←hm];exact k1,k2,k3,k4,fun j a x q1 q2=>?_⟩;exact (k5 j a x q1 q2).clo (hc1 a (List.mem_of_getElem? q1)) fun b o u hu hb=>⟨hu,hb⟩
  ·simp only at hi;rw [hne id e] at hi;obtain ⟨b,cvs,T,k1,k2,k3,k4,k5⟩:=hX.blk id c hi;obtain ⟨q1,q2⟩:=other id _ hi e b k1;exact ⟨b,cvs,T,k1,q1.trans k2,k3,fun o=>bado b o (k4 o) q2,fun j a x r1 r2=>(k5 j a x r1 r2).mono SZ⟩
 ·by_cases e:id=g
  ·subst e;simp only at hi;rw [hself] at hi;injection hi with hi;cases hi
  simp only at hi;rw [hne id e] at hi;obtain ⟨g1,g2,n,g3,g4⟩:=hX.arr id T s c fz hi;refine ⟨g1,g2,n,g3,?_⟩;rcases g4 with g4 | ⟨b,cvs,g4⟩
  ·exact .inl g4
  ·obtain ⟨q1,q2⟩:=other id _ hi e b g4.at_;refine .inr ⟨b,cvs,⟨g4.at_,q1.trans g4.blk,g4.cap,g4.capm,g4.sz,fun o ho=>bado b o (g4.bad o ho) q2,fun j a x r1 r2=>(g4.rep j a x r1 r2).mono SZ,fun o ho hk=>?_⟩⟩;have hcell: ∃ u,cellAt X.w b o=some u:=by
    rw [cellAt_blk g4.blk];exact ⟨_,Array.getElem?_eq_getElem (by rw [g4.sz];have:=Nat.mul_le_mul_right s g4.cap;omega)⟩
   obtain ⟨u,hu⟩:=hcell;exact (S.keep b o u hu (g4.good o ho)).2 hk
 ·by_cases e:id=g
  ·subst e;simp only at hi;rw [hself] at hi;injection hi with hi;cases hi
  simp only at hi;rw [hne id e] at hi;obtain ⟨b,ents,clock,k1,k2,k3⟩:=hX.map id es hi;obtain ⟨q1,q2⟩:=other id _ hi e b k1;exact ⟨b,ents,clock,k1,q1.trans k2,k3.mono SZ⟩
end
end Go.Proofs.YthlhibpfagekfaaGreat.Wv
namespace Go.Proofs.YthlhibpfagekfaaGreat
section
open Go.RowKit Wv
def alE (s:ByteArray) (a:Nat):List AV:=[.v (.string s), .v (.int .i64 a), .v (.bool true)]
theorem amD {s:ByteArray} {i:Nat} (h:i / 8<s.size): ∃ b:UInt8,s[i / 8]? =some b∧amf s i=b.toNat / 2 ^ (7 - i % 8) % 2:=by
 refine ⟨s[i / 8],getElem?_pos s (i / 8) h,?_⟩;unfold amf;have:s.data.toList.getD (i / 8) 0=s[i / 8]:=by
  rw [List.getD_eq_getElem?_getD,List.getElem?_eq_getElem (show i / 8<s.data.toList.length from h)];rfl
 rw [this]
theorem amT {v B e:Nat} (hv:v<2 ^ 31) (hB:B<2 ^ 8) (he:e≤7):
  IntKind.u64.wrap ((BitVec.ofInt IntKind.u64.bits ((2*v:Nat):Int) ||| BitVec.ofInt IntKind.u64.bits (IntKind.u64.wrap (IntKind.u8.wrap ((BitVec.ofInt IntKind.u8.bits ((B:Int).fdiv (2 ^ min (7 - (e:Int)).toNat 8)) &&& BitVec.ofInt IntKind.u8.bits 1).toNat:Int)))).toNat:Int)=((2*v+B / 2 ^ (7 - e) % 2:Nat):Int):=by
 rw [show (7 - (e:Int)).toNat=7 - e by omega,Nat.min_eq_left (by omega)];have h2:(2:Int) ^ (7 - e)=((2 ^ (7 - e):Nat):Int):=by rw [Int.natCast_pow];rfl
 have h3:(B:Int).fdiv (2 ^ (7 - e))=((B / 2 ^ (7 - e):Nat):Int):=by
  rw [Int.fdiv_eq_ediv_of_nonneg _ (by rw [h2];exact Int.natCast_nonneg _),h2];rfl
 rw [h3];have h4:B / 2 ^ (7 - e)<256:=Nat.lt_of_le_of_lt (Nat.div_le_self _ _) hB;generalize B / 2 ^ (7 - e)=q at*;have h5:(BitVec.ofInt IntKind.u8.bits (q:Int) &&& BitVec.ofInt IntKind.u8.bits 1).toNat=q % 2:=by
  show (BitVec.ofInt 8 (q:Int) &&& BitVec.ofInt 8 1).toNat=q % 2;rw [BitVec.toNat_and,BitVec.ofInt_natCast,BitVec.toNat_ofNat,Nat.mod_eq_of_lt (by omega)];exact Nat.and_one_is_mod _
 rw [h5];have h6:q % 2<2:=Nat.mod_lt _ (by omega);generalize q % 2=c at*;have h7:IntKind.u64.wrap (IntKind.u8.wrap (c:Int))=(c:Int):=by
  show ((c:Int) % 256) % 18446744073709551616=_;omega
 rw [h7];have h8:(BitVec.ofInt IntKind.u64.bits ((2*v:Nat):Int) ||| BitVec.ofInt IntKind.u64.bits (c:Int)).toNat=2*v+c:=by
  show (BitVec.ofInt 64 ((2*v:Nat):Int) ||| BitVec.ofInt 64 (c:Int)).toNat=_;rw [BitVec.toNat_or,BitVec.ofInt_natCast,BitVec.ofInt_natCast,BitVec.toNat_ofNat,BitVec.toNat_ofNat,Nat.mod_eq_of_lt (by omega),Nat.mod_eq_of_lt (by omega)];exact (Nat.two_pow_add_eq_or_of_lt (i:=1) h6 v).symm
 rw [h8];show ((2*v+c:Nat):Int) % 18446744073709551616=_;omega
theorem amU (s:ByteArray) (a k:Nat) (hs:s.size≤1000000) (ha:a≤8*s.size) (hk:k≤31) (h: ¬ a+k≤8*s.size):HT Tryz.prog 87 [.ptr 0 0, .v (.int .i64 k)] [some (.blk (alE s a))] (fun r h'=>r= .tup [.v (.int .u64 0), .v (.bool false)]∧h'=[some (.blk (alE s a))]):=by
 unfold alE;refine Wv.HT.by 54 [1,0,19,21,20,22,6,4,5] [(1,11),(6,18),(1000000,1)] [.tmp 4, .tmp 5] Tryz.func87 rfl rfl rfl ?base ?_
 case base=>rfl
 simp (disch:=first|exact Wv.D|fail) only [Wv.B,simprocAttr,alA (show (k:Int)>8*(s.size:Int) - a by omega)]
theorem amH (s:ByteArray) (a k:Nat) (hs:s.size≤1000000) (hk:k≤31) (h:a+k≤8*s.size):HT Tryz.prog 87 [.ptr 0 0, .v (.int .i64 k)] [some (.blk (alE s a))] (fun r h'=>r= .tup [.v (.int .u64 (numAt s a k)), .v (.bool true)]∧h'=[some (.blk (alE s (a+k)))]):=by
 unfold alE;refine Wv.HT.by 54 [1,0,19,21,20,22,6,4,5] [(1,11),(6,18),(1000000,1)] [.tmp 4, .tmp 5] Tryz.func87 rfl rfl rfl ?base ?_
 case base=>rfl
 simp (disch:=first|exact Wv.D|fail) only [Wv.B,simprocAttr,alB (show ¬ (k:Int)>8*(s.size:Int) - a by omega)];refine wfor (σ:=Nat) (fun i=>[(0, .ptr 0 0),(6, .v (.int .u64 (numAt s a i))),(20, .v (.int .i64 k)),(21, .v (.int .i64 i))])
  (fun i=>[some (.blk [.v (.string s), .v (.int .i64 (a+i:Nat)), .v (.bool true)])]) (fun i=>i≤k) (fun i=>k - i) 0 (Nat.zero_le _) rfl (by simp (disch:=first|exact Wv.D|fail) only [Wv.B,simprocAttr,numAt]) ?_
 intro i hi;by_cases hlt:i<k
 ·have e1:(i:Int)<k:=by omega
  have hd:((a+i:Nat):Int).tdiv 8=(((a+i) / 8:Nat):Int):=rfl;have hr:((a+i:Nat):Int).tmod 8=(((a+i) % 8:Nat):Int):=rfl;have hnl:numAt s a i<2 ^ 31:=Nat.lt_of_lt_of_le (al9 s a i) (Nat.pow_le_pow_right (by omega) (by omega));have hsh:IntKind.u64.wrap ((numAt s a i:Int)*2 ^ min 1 64)=((2*numAt s a i:Nat):Int):=by
   show ((numAt s a i:Int)*2 ^ 1) % 18446744073709551616=_;rw [Int.pow_succ,Int.pow_zero];omega
  have hx8:(a+i) / 8<s.size:=by omega
  obtain ⟨b,hb,hbit⟩:=amD hx8;have hbl:=b.toNat_lt;simp (disch:=first|exact Wv.D|fail) only [Wv.B,simprocAttr,alA e1,hd,hr,hsh,hb,Option.map_some,amT hnl hbl (show (a+i) % 8≤7 by omega), ←hbit];refine k_next (i+1) (by omega) (by omega) rfl (by simp (disch:=first|exact Wv.D|fail) only [Wv.B,simprocAttr,Int.natCast_add,Int.natCast_one,numAt])
 ·obtain rfl:i=k:=by omega
  simp (disch:=first|exact Wv.D|fail) only [Wv.B,simprocAttr,Int.lt_irrefl,decide_false]
end
section
open Go.RowKit Wv
theorem amV (f x:Nat):Lib.bitLenAux f x=alS f x:=by
 induction f generalizing x with
 | zero=>rfl
 | succ f ih=>simp only [alS,Lib.bitLenAux,ih]
theorem am9 (x:Nat):Lib.bitLen x=lenOf x:=amV 64 x
theorem amk: ∀ (k f x:Nat),x<2 ^ k→alS f x≤k
 | _,0,_,_=>Nat.zero_le _
 | 0,f+1,x,h=>by
  have:x=0:=by rw [Nat.pow_zero] at h;omega
  subst this;exact Nat.le_refl 0
 | k+1,f+1,x,h=>by
  have ih:=amk k f (x / 2) (by rw [Nat.pow_succ] at h;omega);simp only [alS];split<;>omega
theorem amI (s:ByteArray) (a n:Nat) (hs:s.size≤1000000) (ha:a≤8*s.size) (hn:1≤n) (hn2:n≤2147483647):HT Tryz.prog 49 [.ptr 0 0, .v (.int .u64 n)] [some (.blk (alE s a))] (fun r h'=>(∀ v b,alC s n a=some (v,b)→r= .tup [.v (.int .u64 v), .v (.bool true)]∧h'=[some (.blk (alE s b))])∧(alC s n a=none→r= .tup [.v (.int .u64 0), .v (.bool false)]∧ ∃ b,b≤8*s.size∧h'=[some (.blk (alE s b))])):=by
 have TL:=len64_tc (n - 1:Nat) (by omega) (by omega);have hk31:lenOf (n - 1)≤31:=amk 31 64 _ (by omega);have hb0: ∀ a', ¬ a'+lenOf (n - 1)≤8*s.size→alC s n a'=none:=fun a'=>ama hn
 have hb1:=fun a'=>amg (s:=s) (a:=a') hn
 have hb2:=fun a'=>amb (s:=s) (a:=a') hn
 have hb3: ∀ a', ¬ numAt s a' (lenOf (n - 1))<n→1≤lenOf (n - 1):=fun a' h=>by
  refine Nat.pos_of_ne_zero fun e=>h ?_
  rw [e];exact hn
 rw [Int.toNat_natCast,am9] at TL;generalize lenOf (n - 1)=k at*;have hSY:=fun a'=>amH s a' k hs hk31
 have hSN:=fun a' h=>amU s a' k hs h hk31
 generalize hB:alC s n a=B at*;unfold alE at*;refine Wv.HT.by 27 [1,0,6,8,7,24,4,5] [(1000000,1)] [.tmp 4, .tmp 5] Tryz.func49 rfl rfl rfl ?base ?_
 case base=>rfl
 have hsub:(n:Int) - 1=((n - 1:Nat):Int):=by omega
 simp (disch:=first|exact Wv.D|fail) only [Wv.B,simprocAttr,hsub];refine call_TC TL rfl Wv.c Wv.c ?_;refine Wv.W ?_;refine wfor (σ:=Nat) (fun a'=>[(0, .ptr 0 0),(1, .v (.int .u64 n)),(6, .v (.int .i64 k))])
  (fun a'=>[some (.blk [.v (.string s), .v (.int .i64 a'), .v (.bool true)])]) (fun a'=>a'≤8*s.size∧alC s n a'=B) (fun a'=>8*s.size - a') a ⟨ha,hB⟩ rfl Wv.V ?_
 rintro a' ⟨h1,h2⟩;by_cases hc:a'+k≤8*s.size
 ·have hv:=al9 s a' k;have hvk:numAt s a' k<2 ^ 31:=Nat.lt_of_lt_of_le hv (Nat.pow_le_pow_right (by omega) hk31);refine Wv.W ?_;refine call_HT (fst:=[]) (cap:=[]) (hSY a' hc) ?_;rintro av h' ⟨rfl,rfl⟩;by_cases hlt:numAt s a' k<n
  ·have h3:=hb1 a' hc hlt;simp (disch:=first|exact Wv.D|fail) only [Wv.B,simprocAttr,alA (show (numAt s a' k:Int)<n by omega)];refine ⟨fun v b e=>?_,fun e=>?_⟩
   ·rw [←h2,h3] at e;injection e with e;injection e with e1 e2;subst e1 e2;exact ⟨rfl,rfl⟩
   ·rw [←h2,h3] at e;cases e
  ·have h3:=hb2 a' hc hlt;have h4:=hb3 a' hlt;simp (disch:=first|exact Wv.D|fail) only [Wv.B,simprocAttr,alB (show ¬ (numAt s a' k:Int)<n by omega)];refine k_next (a'+k) ⟨hc,h3.symm.trans h2⟩ (by omega) rfl Wv.V
 ·have h3:=hb0 a' hc;refine Wv.W ?_;refine call_HT (fst:=[]) (cap:=[]) (hSN a' h1 hc) ?_;rintro av h' ⟨rfl,rfl⟩;refine Wv.W ?_;refine ⟨fun v b e=>?_,fun e=>⟨a',h1,rfl⟩⟩;rw [←h2,h3] at e;cases e
end
end Go.Proofs.YthlhibpfagekfaaGreat
namespace Go.Proofs.YthlhibpfagekfaaGreat.Wv
section
open Go.RowKit
def seqs:List Code→Code→Code
 | [],c=>c
 | a::l,c=> .seq a (seqs l c)
theorem seqs_sound {P:Program} (hmix:P.follows .mixedOrders=true) {N:Nat} {L:List Nat} {ks:List (Nat × Nat)} {QA:PostW} {Post:Exit→Act→World→Prop} {last rest:Code} (hx: ∀ i e h, ¬ QA (.exit i) e h) (hp: ∀ av e h, ¬ QA (.panic av) e h):
  ∀ (l:List Code) (X:Cx) (e:Ev) (a:Act),okCode N ks (seqs l last)=true→noRF (seqs l last)=true→base ks≤X.h.length→Ok X→EnvOk X N e a→wCode P N L ks (seqs l last) QA e X.h→
   (∀ (Y:Cx) (e':Ev) (a':Act),StepN (base ks) X Y→Ok Y→EnvOk Y N e' a'→QA .normal e' Y.h→rest.wp P Post a' Y.w)→
   (∀ (Y:Cx) (e':Ev) (a':Act),StepN (base ks) X Y→Ok Y→EnvOk Y N e' a'→QA .ret e' Y.h→Post .ret a' Y.w)→(seqs l (.seq last rest)).wp P Post a X.w
 | [],X,e,a,hk,hf,hn,hX,hE,hw,hr,hq=>by
  refine wp_seq (wp_mono (code_sound hmix last QA X e a hk hf hn hX hE hw) ?_);intro ex a' w' hpost;have:=hpost.elim;cases this with
  | ok x ex Y e2 a2 S hY hE2 h hx2=>
   rcases hx2 with ⟨rfl,rfl⟩ | ⟨i,rfl,rfl⟩ | ⟨rfl,rfl⟩ | ⟨v,av,rfl,rfl,hr2⟩
   ·exact hr Y e2 _ S hY hE2 h
   ·exact (hx _ _ _ h).elim
   ·exact hq Y e2 _ S hY hE2 h
   ·exact (hp _ _ _ h).elim
 | c::l,X,e,a,hk,hf,hn,hX,hE,hw,hr,hq=>by
  unfold seqs at hk hf hw ⊢;simp only [okCode,Bool.and_eq_true] at hk;simp only [noRF,Bool.and_eq_true] at hf;refine wp_seq (wp_mono (code_sound hmix c _ X e a hk.1 hf.1 hn hX hE hw) ?_);intro ex a' w' hpost;have:=hpost.elim;cases this with
  | ok x ex Y e2 a2 S hY hE2 h hx2=>
   rcases hx2 with ⟨rfl,rfl⟩ | ⟨i,rfl,rfl⟩ | ⟨rfl,rfl⟩ | ⟨v,av,rfl,rfl,hr2⟩
   ·exact seqs_sound hmix hx hp l Y e2 _ hk.2 hf.2 S.len hY hE2 h (fun Z e3 a3 S3 hZ hE3 q=>hr Z e3 a3 (S.trans hX S3) hZ hE3 q) (fun Z e3 a3 S3 hZ hE3 q=>hq Z e3 a3 (S.trans hX S3) hZ hE3 q)
   ·exact (hx _ _ _ h).elim
   ·exact hq Y e2 _ S hY hE2 h
   ·exact (hp _ _ _ h).elim
theorem defer_region {P:Program} {id:Nat} {t:Tmp} {G:FuncId} {caps:Array Operand} {ty1 ty2:TypeId} {p1 p2:String} {e1 e2:Array Edge} {Q:Exit→Act→World→Prop} {a:Act} {w:World} (ht:t<a.tmps.size)
  (h:Q .normal {tmps:=a.tmps.setIfInBounds t (.func (.func G) #[] (caps.map a.eval)),defers:={target:= .fn (.func G) (caps.map a.eval),args:= #[]}::a.defers} w):
  (Code.region id #[⟨some t, .makeFunc (.func G) #[] caps,ty1,p1,e1,none⟩,⟨none, .defer ⟨.value (.tmp t), #[], #[]⟩,ty2,p2,e2,none⟩] false).wp P Q a w:=by
 refine wp_region ?_;have hmf: ∀ (fn:Fn) (first cap:Array Value) (w:World),(Instr.makeFunc fn first cap).run P w= .ok (.func fn first cap) w:=fun _ _ _ _=>rfl
 simp [wpOps,go_sem,hmf,Act.put,Act.eval,ht];exact .inl (.inl h)
end
section
open Go.RowKit
def HTD (P:Program) (f:FuncId) (args:List AV) (h:Hp) (R:AV→Hp→Prop):Prop:=
 ∀ (X:Cx) (vs:List Value) (u:FrameMode),Ok X→X.h=h→RepL X args vs→CallsD P f vs.toArray u X.w fun e u' w'=>u'=u∧ ∃ v Y av,e= .returned v∧Y.w=w'∧Step X Y∧Ok Y∧Rep Y av v∧R av Y.h
theorem HTD.of {P:Program} {f:FuncId} {fn:Func} {body:Code} {args:List AV} {h:Hp} {L:List Nat} {ks:List (Nat × Nat)} {R:AV→Hp→Prop} (hmix:P.follows .mixedOrders=true) (hf:P.funcs[f]? =some fn) (hb:fn.body=some body) (hk:okCode fn.ntmps ks body=true) (hnf:noRF body=true) (hN:args.length≤fn.ntmps) (hbs:base ks=h.length)
  (hw:wCode P fn.ntmps L ks body (Fin P fn.results R) (argE 0 args) h):HTD P f args h R:=by
 intro X vs u hX hh hr;subst hh;have hX':Ok (X.def_ []):=hX.def_;have hr':RepL (X.def_ []) args vs:=⟨hr.1,fun i a x h1 h2=>(hr.2 i a x h1 h2).def_⟩
 refine callsD_of_wp hf hb (wp_mono (code_sound hmix body _ (X.def_ []) _ _ hk hnf (by rw [hbs];exact Nat.le_refl _) hX' (enter_ok rfl hr' hN) hw) ?_);intro ex a' w' hpost;have:=hpost.elim;cases this with
 | ok z ex Y e2 a2 SN hY hEY hq hx=>
  rw [hbs] at SN;have S:=StepN.full (X:=X.def_ []) SN;have hd:a'.defers=[]:=by
   rcases hx with ⟨rfl,rfl⟩ | ⟨i,rfl,rfl⟩ | ⟨rfl,rfl⟩ | ⟨v,av,rfl,rfl,hrv⟩<;>exact hEY.defers.trans S.dse
  have key:(∃ r r' h',resA P Y.h e2 fn.results=some r∧close3 Y.h r=some (r',h')∧R r' h')→a'.defers=[]∧ ∃ v,(results fn a'.tmps).run P Y.w= .ok v Y.w∧ ∃ v' V av,Ending.returned v= .returned v'∧V.w=Y.w∧Step X V∧Ok V∧Rep V av v'∧R av V.h:=by
   rintro ⟨r,r',h',h1,h2,h3⟩;obtain ⟨v,q1,q2⟩:=resA_ok (fn:=fn) hY (by rcases hx with ⟨rfl,rfl⟩ | ⟨i,rfl,rfl⟩ | ⟨rfl,rfl⟩ | ⟨v,av,rfl,rfl,hrv⟩<;>exact hEY) h1;obtain ⟨V,v1,v2,v3,v4,v5⟩:=close3_ok Y r r' h' v hY h2 q2;exact ⟨hd,v,q1,v,V.def_ X.ds,r',rfl,v1,(S.trans hX' v2).undef,v3.def_,v5.def_,by show R r' V.h;rw [v4];exact h3⟩
  rcases hx with ⟨rfl,rfl⟩ | ⟨i,rfl,rfl⟩ | ⟨rfl,rfl⟩ | ⟨v,av,rfl,rfl,hrv⟩
  ·exact key hq
  ·exact hq.elim
  ·exact key hq
  ·obtain ⟨_,_,_,q⟩:=hq;exact q.elim
theorem HTD.by {P:Program} {f:FuncId} {fn:Func} {body:Code} {args:List AV} {h:Hp} {R:AV→Hp→Prop} (N:Nat) (L:List Nat) (ks:List (Nat × Nat)) (rs:List ResultVar) (hf:P.funcs[f]? =some fn) (hb:fn.body=some body) (hn:fn.ntmps=N) (hr:fn.results=rs.toArray) (hbs:base ks=h.length)
  (hw:wCode P N L ks body (Fin P rs.toArray R) (argE 0 args) h) (hmix:P.follows .mixedOrders=true:=by kernel_rfl) (hnf:noRF body=true:=by kernel_rfl) (hk:okCode N ks body=true:=by kernel_rfl) (hN:args.length≤N:=by exact Nat.le_of_ble_eq_true rfl):HTD P f args h R:=by
 subst hn;rw [←hr] at hw;exact HTD.of hmix hf hb hk hnf hN hbs hw
theorem StepN.le {m n:Nat} {X Y:Cx} (h:m≤n) (S:StepN n X Y):StepN m X Y:=
 ⟨S.os,S.tape,S.output,S.size,S.block,S.keep,Nat.le_trans h S.len,fun i T s c f hi=>S.oarr i T s c f (Nat.lt_of_lt_of_le hi h),fun i c hi=>S.oblk i c (Nat.lt_of_lt_of_le hi h),S.own,S.badk,fun i c hi=>S.omap i c (Nat.lt_of_lt_of_le hi h),S.dse⟩
theorem StepN.anq {n:Nat} {X Y:Cx} {d d2:List Deferred} (S:StepN n (X.def_ d2) Y):StepN n (X.def_ d) (Y.def_ d):=
 ⟨S.os,S.tape,S.output,S.size,S.block,S.keep,S.len,S.oarr,S.oblk,S.own,S.badk,S.omap,rfl⟩
end
end Go.Proofs.YthlhibpfagekfaaGreat.Wv
namespace Go.Proofs.YthlhibpfagekfaaGreat
section
open Go.RowKit Wv
theorem alG (s:ByteArray) (a:Nat): ∀ x,x∈alE s a→Clo x:=by unfold alE;simp only [Wv.BC]
def hK (s:ByteArray) (a n v:Nat) (e:Int) (w:Nat):Hp:=[some (.blk (alE s a)),some (.blk [.ptr 0 0]),some (.blk [.v (.int .u64 n)]),some (.blk [.v (.int .u64 v)]),some (.blk [.ptr 0 0]),some (.blk [.v (.int .i64 e)]),some (.blk [.v (.int .i64 w)])]
theorem anh (s:ByteArray) (a n:Nat) (hs:s.size≤1000000) (ha:a≤8*s.size) (hn:1≤n) (hn2:n≤2147483647):HT Tryz.prog 48 [.ptr 1 0, .ptr 2 0, .ptr 3 0] (hK s a n 0 0 a) (fun r h'=>(∀ v b,alC s n a=some (v,b)→r= .v (.bool true)∧h'=hK s b n v 0 a)∧(alC s n a=none→r= .v (.bool false)∧ ∃ b,h'=hK s b n 0 0 a)):=by
 have FR:=HT.amc (args:=[.ptr 0 0, .v (.int .u64 n)]) (h:=hK s a n 0 0 a) (g:=0) (amI s a n hs ha hn hn2) rfl (alG s a) (fun r h' q=>by
  cases hB:alC s n a with
  | none=>
   obtain ⟨rfl,b,_,rfl⟩:=q.2 hB;exact ⟨by simp only [Wv.BC],_,rfl,rfl,alG s b⟩
  | some p=>
   obtain ⟨v,b⟩:=p;obtain ⟨rfl,rfl⟩:=q.1 v b hB;exact ⟨by simp only [Wv.BC],_,rfl,rfl,alG s b⟩) ⟨.ptr (by omega), .clo (.v _),trivial⟩
 unfold hK at*;refine Wv.HT.by 11 [0,1,2,3] [(1000000,7)] [.tmp 3] Tryz.func48 rfl rfl rfl ?base ?_
 case base=>rfl
 refine Wv.W ?_;refine call_HT (fst:=[]) (cap:=[]) FR ?_;rintro av h' ⟨c1,q,rfl⟩;cases hB:alC s n a with
 | none=>
  obtain ⟨rfl,b,_,e⟩:=q.2 hB;injection e with e;injection e with e;injection e with e;subst e;simp (disch:=first|exact Wv.D|fail) only [Wv.B,simprocAttr,List.set_cons_zero];exact ⟨fun _ _ q=>q.elim,fun _=>⟨b,rfl⟩⟩
 | some p=>
  obtain ⟨v,b⟩:=p;obtain ⟨rfl,e⟩:=q.1 v b hB;injection e with e;injection e with e;injection e with e;subst e;simp (disch:=first|exact Wv.D|fail) only [Wv.B,simprocAttr,List.set_cons_zero];refine ⟨fun v' b' e=>?_,fun q=>q.elim⟩;injection e with e1 e2;subst e1 e2;rfl
theorem ana (s:ByteArray) (b n v:Nat) (e:Int) (w:Nat):HTD Tryz.prog 85 [.ptr 5 0, .ptr 6 0, .ptr 4 0] (hK s b n v e w) (fun r h'=>r= .tup []∧h'=hK s (if e=0 then b else w) n v e w):=by
 unfold hK alE;refine Wv.HTD.by 9 [0,4,2,1] [(1000000,7)] [] Tryz.func85 rfl rfl rfl ?base ?_
 case base=>rfl
 by_cases he:e=0
 ·simp (disch:=first|exact Wv.D|fail) only [Wv.B,simprocAttr,alA he,if_pos he]
 ·simp (disch:=first|exact Wv.D|fail) only [Wv.B,simprocAttr,alB he,if_neg he]
def tkL:List Nat:=[0,2,4,5,1,13]
def tkE:Ev:=[(1, .fn (.func 48) [] [.ptr 1 0, .ptr 2 0, .ptr 3 0]),(2, .ptr 4 0),(4, .ptr 5 0),(5, .ptr 6 0)]
def tkA (s:ByteArray) (a n:Nat):PostW:=fun ex e h=>match ex with
 | .normal=>fitE tkE e∧h=hK s a n 0 0 a
 | _=>False
def tkB (s:ByteArray) (a n:Nat):PostW:=fun ex e h=>match ex with
 | .ret=>getE e 4= .ptr 5 0∧(∀ v b,alC s n a=some (v,b)→h=hK s b n v 0 a)∧(alC s n a=none→ ∃ b,h=hK s b n 0 4 a)
 | _=>False
theorem anm {s:ByteArray} {a n:Nat} {e:Ev} {h:Hp}:tkA s a n .normal e h=(fitE tkE e∧h=hK s a n 0 0 a):=rfl
theorem amv (s:ByteArray) (a n:Nat) (hs:s.size≤1000000) (ha:a≤8*s.size) (hn:1≤n) (hn2:n≤2147483647):HT Tryz.prog 47 [.ptr 0 0, .fn (.func 48) [] [.ptr 1 0, .ptr 2 0, .ptr 3 0]] [some (.blk (alE s a)),some (.blk [.ptr 0 0]),some (.blk [.v (.int .u64 n)]),some (.blk [.v (.int .u64 0)])]
  (fun r h'=>(∀ v b,alC s n a=some (v,b)→r= .v (.int .i64 0)∧h'=hK s b n v 0 a)∧(alC s n a=none→r= .v (.int .i64 4)∧h'=hK s a n 0 4 a)):=by
 refine ⟨by kernel_rfl,fun X0 vs hX0 hh hr=>?_⟩;refine calls_of_wp_defers Tryz.func47 rfl ?_;show (seqs [_] (.seq _ (.seq _ _))).wp _ _ _ _;have hX1:Ok (X0.def_ []):=hX0.def_;have hr1:RepL (X0.def_ []) [.ptr 0 0, .fn (.func 48) [] [.ptr 1 0, .ptr 2 0, .ptr 3 0]] vs:=⟨hr.1,fun i a x h1 h2=>(hr.2 i a x h1 h2).def_⟩
 have hE1:=enter_ok (N:=14) rfl hr1 (by show 2≤14;omega);refine seqs_sound (N:=14) (L:=tkL) (ks:=[(1000000,4)]) (by kernel_rfl) (QA:=tkA s a n) (fun i e h q=>q) (fun av e h q=>q) [_] (X0.def_ []) _ _ ?_ (by kernel_rfl) (by show 4≤X0.h.length;rw [hh];exact Nat.le_refl 4) hX1 hE1 ?_ ?_ ?_
 ·kernel_rfl
 ·show wCode Tryz.prog 14 tkL _ _ _ _ X0.h;rw [hh];unfold alE;simp only [seqs];simp (disch:=first|exact Wv.D|fail) only [Wv.B,simprocAttr,tkL,argE,anm,tkE,hK,alE]
 ·intro Y e a' S hY hE hmid;obtain ⟨hfit,hh2⟩:=hmid;have hEm:EnvOk Y 14 tkE a':=⟨hE.defers,hE.size,fun d=>by
   rcases fitE_get hfit d with q | q
   ·rw [q];exact hE.rep d
   ·rw [q];exact .none _⟩
  have hds:a'.defers=[]:=hE.defers.trans S.dse;refine wp_seq (defer_region (by rw [hE.size];decide) ?_);rw [hds];generalize hcv:Array.map a'.eval _=cv;generalize hd:Deferred.mk _ _=d;show Code.wp _ _ _ _ _;have hY2:Ok (Y.def_ [d]):=hY.def_;have hE2:EnvOk (Y.def_ [d]) 14 tkE {tmps:=a'.tmps.setIfInBounds 10 (.func (.func 85) #[] cv),defers:=[d]}:=by
   have h1:=(hEm.any (dst:=some 10) (v:= .func (.func 85) #[] cv) (fun d hd=>by injection hd with hd;subst hd;rfl))
   exact ⟨rfl,h1.size,fun d=>(h1.rep d).def_⟩
  refine wp_mono (code_sound (by kernel_rfl) (L:=tkL) (ks:=[(1000000,7)]) _ (tkB s a n) (Y.def_ [d]) tkE _ ?_ (by kernel_rfl) ?_ hY2 hE2 ?_) ?_
  ·kernel_rfl
  ·show 7≤Y.h.length;rw [hh2];exact Nat.le_refl 7
  ·show wCode _ _ _ _ _ _ _ Y.h;rw [hh2];have TB:=anh s a n hs ha hn hn2;have hB: ∀ e h,tkB s a n .ret e h=(getE e 4= .ptr 5 0∧(∀ v b,alC s n a=some (v,b)→h=hK s b n v 0 a)∧(alC s n a=none→ ∃ b,h=hK s b n 0 4 a)):=fun _ _=>rfl
   unfold hK at*;simp (disch:=first|exact Wv.D|fail) only [Wv.B,simprocAttr,tkL,tkE];refine call_HT (fst:=[]) (cap:=[.ptr 1 0, .ptr 2 0, .ptr 3 0]) TB ?_;rintro av h' ⟨q1,q2⟩;cases hb:alC s n a with
   | none=>
    obtain ⟨rfl,b,rfl⟩:=q2 hb;simp (disch:=first|exact Wv.D|fail) only [Wv.B,simprocAttr,hB];exact ⟨fun _ _ e=>(by rw [hb] at e;cases e),fun _=>⟨b,rfl⟩⟩
   | some p=>
    obtain ⟨v,b⟩:=p;obtain ⟨rfl,rfl⟩:=q1 v b hb;simp (disch:=first|exact Wv.D|fail) only [Wv.B,simprocAttr,hB];refine ⟨fun v' b' e=>?_,fun e=>(by rw [hb] at e;cases e)⟩;rw [hb] at e;injection e with e;injection e with e1 e2;subst e1 e2;rfl
  ·intro ex a2 w' hpost;have:=hpost.elim;cases this with
   | ok z ex Z e2 a3 S2 hZ hEZ h hx=>
    rcases hx with ⟨rfl,rfl⟩ | ⟨i,rfl,rfl⟩ | ⟨rfl,rfl⟩ | ⟨v,av,rfl,rfl,hrv⟩
    ·exact False.elim h
    ·exact False.elim h
    ·have hd2:a2.defers=[d]:=hEZ.defers.trans S2.dse;obtain ⟨h4,hyes,hno⟩:=h;have hZf: ∃ b v ev,Z.h=hK s b n v ev a∧((∃ b',alC s n a=some (v,b')∧b=b'∧ev=0)∨(alC s n a=none∧v=0∧ev=4)):=by
      cases hb:alC s n a with
      | none=>
       obtain ⟨b,e⟩:=hno hb;exact ⟨b,0,4,e, .inr ⟨rfl,rfl,rfl⟩⟩
      | some p=>
       obtain ⟨v,b⟩:=p;exact ⟨b,v,0,hyes v b hb, .inl ⟨b,rfl,rfl,rfl⟩⟩
     obtain ⟨b,v,ev,hZh,hcase⟩:=hZf;show Leaves _ _ _ _ a2.defers .returning Z.w;rw [hd2, ←hd];refine leaves_cons (f:=85) (args:=cv) (by simp) (by simp [go_sem]) ?_;have S7:Step (Y.def_ [d]) Z:=StepN.full (by show StepN Y.h.length _ _;rw [hh2];exact S2);have hcl:cv= #[a'.tmps.getD 4 undef,a'.tmps.getD 5 undef,a'.tmps.getD 2 undef]:=by rw [←hcv];simp only [List.map_toArray,List.map_cons,List.map_nil,Act.eval]
     have hrep:RepL Z [.ptr 5 0, .ptr 6 0, .ptr 4 0] cv.toList:=by
      rw [hcl];refine ⟨rfl,fun i x y h1 h2=>?_⟩;match i with
      | 0=>
       have h1:some (AV.ptr 5 0)=some x:=h1;have h2:some (a'.tmps.getD 4 undef)=some y:=h2;injection h1 with h1;injection h2 with h2;subst h1 h2;exact ((hEm.rep 4).def_).mono S7
      | 1=>
       have h1:some (AV.ptr 6 0)=some x:=h1;have h2:some (a'.tmps.getD 5 undef)=some y:=h2;injection h1 with h1;injection h2 with h2;subst h1 h2;exact ((hEm.rep 5).def_).mono S7
      | 2=>
       have h1:some (AV.ptr 4 0)=some x:=h1;have h2:some (a'.tmps.getD 2 undef)=some y:=h2;injection h1 with h1;injection h2 with h2;subst h1 h2;exact ((hEm.rep 2).def_).mono S7
      | i+3=>simp at h1
     have TD:=ana s b n v ev a Z cv.toList .returning hZ hZh hrep;rw [Array.toArray_toList] at TD;refine TD.mono ?_;rintro e3 u' w'' ⟨rfl,v3,V,av,rfl,rfl,SV,hV,hrv,_,hVh⟩;have hEV:EnvOk (V.def_ []) 14 e2 {a2 with defers:=[]}:=⟨rfl,hEZ.size,fun d=>((hEZ.rep d).mono SV).def_⟩
     have hres:resA Tryz.prog (V.def_ []).h e2 Tryz.f47.results=some (.v (.int .i64 ev)):=by
      show resA Tryz.prog V.h e2 _=_;rw [hVh,Tryz.results47];unfold hK resA;simp (disch:=first|exact Wv.D|fail) only [Wv.B,simprocAttr,h4]
     obtain ⟨rv,q1,q2⟩:=resA_ok (fn:=Tryz.f47) hV.def_ hEV hres;have SS:Step (X0.def_ [d]) Z:=StepN.full (by show StepN X0.h.length _ _;rw [hh];exact StepN.trans hX0.def_ S.anq (S2.le (by show 4≤7;omega)));refine ⟨rv,q1,rv,V.def_ X0.ds,_,rfl,rfl,(SS.trans hX0.def_ SV).undef,hV.def_,q2.def_,?_,?_⟩
     ·intro v' b' e';rcases hcase with ⟨b2,k1,rfl,rfl⟩ | ⟨k1,_⟩
      ·rw [k1] at e';injection e' with e';injection e' with e1 e2;subst e1 e2;refine ⟨rfl,?_⟩;show V.h=_;rw [hVh,if_pos rfl]
      ·rw [k1] at e';cases e'
     ·intro e';rcases hcase with ⟨b2,k1,_⟩ | ⟨k1,rfl,rfl⟩
      ·rw [k1] at e';cases e'
      ·refine ⟨rfl,?_⟩;show V.h=_;rw [hVh,if_neg (by decide)]
    ·exact False.elim h
 ·intro Y e a' S hY hE hq;exact False.elim hq
end
section
open Go.RowKit Wv
variable {h:Hp}
theorem _root_.Go.Proofs.YthlhibpfagekfaaGreat.Wv.HT.amW {P:Program} {f:FuncId} {args:List AV}  {R:AV→Hp→Prop} (T:HT P f args h R) (hR: ∀ r h',R r h'→lo h.length r∧loH h.length (h'.take h.length)):HT P f args h (fun r h2=> ∃ h',R r h'∧h2=h'.take h.length):=
 HTP.toT (HTP.cut (T.toP fun _ _=>False) hR fun _ _ q=>q.elim) fun _ _ ⟨_,q,_⟩=>q
theorem _root_.Go.Proofs.YthlhibpfagekfaaGreat.Wv.HT.alT {P:Program} {f:FuncId} {args:List AV}  {R R':AV→Hp→Prop} (T:HT P f args h R) (hR: ∀ r h',R r h'→R' r h'):HT P f args h R':=
 HTP.toT ((T.toP fun _ _=>False).mono hR fun _ _ q=>q) fun _ _ q=>q
theorem amm (s:ByteArray) (a:Nat):HT Tryz.prog 32 [.ptr 0 0] [some (.blk (alE s a))] (fun r h'=>r= .v (.bool false)∧h'=[some (.blk (alE s a))]):=by
 unfold alE;refine Wv.HT.by 12 [0,2] [(1000000,1)] [.tmp 2] Tryz.func32 rfl rfl rfl ?base ?_
 case base=>rfl
 exact Wv.V
theorem amX {g:Nat} {s:ByteArray} {a:Nat} (hg:h[g]? =some (some (.blk (alE s a)))):HT Tryz.prog 32 [.ptr g 0] h (fun r h'=>r= .v (.bool false)∧h'=h):=
 (HT.amc (args:=[.ptr g 0]) (amm s a) hg (alG s a) (fun r h' q=>by
  obtain ⟨rfl,rfl⟩:=q;exact ⟨by simp only [Wv.BC],_,rfl,rfl,alG s a⟩) ⟨.ptr (by omega),trivial⟩).alT fun r h' ⟨c1,⟨q1,q2⟩,q3⟩=>by
   injection q2 with q2;injection q2 with q2;injection q2 with q2;subst q2 q3;obtain ⟨hlt,e⟩:=List.getElem?_eq_some_iff.1 hg;exact ⟨q1,by rw [←e];exact List.set_getElem_self hlt⟩
def alK (s:ByteArray) (n a:Nat):AV:=match alC s n a with
 | some (v,_)=> .tup [.v (.int .u64 v), .v (.int .i64 0)]
 | none=> .tup [.v (.int .u64 0), .v (.int .i64 4)]
def alN (s:ByteArray) (n a:Nat):Nat:=match alC s n a with
 | some (_,b)=>b
 | none=>a
theorem amJ (s:ByteArray) (a n:Nat) (hs:s.size≤1000000) (ha:a≤8*s.size) (hn:1≤n) (hn2:n≤2147483647):HT Tryz.prog 26 [.ptr 0 0, .v (.int .u64 n)] [some (.blk (alE s a))] (fun r h'=>r=alK s n a∧h'=[some (.blk (alE s (alN s n a)))]):=by
 have T:HT Tryz.prog 26 [.ptr 0 0, .v (.int .u64 n)] [some (.blk (alE s a))] (fun r h'=>r=alK s n a∧ ∃ q,h'=some (.blk (alE s (alN s n a)))::q):=by
  have N1:=amX (h:=[some (.blk (alE s a)),some (.blk [.ptr 0 0]),some (.blk [.v (.int .u64 n)])]) (g:=0) rfl;have T1:=amv s a n hs ha hn hn2;have hR:alK s n a=match alC s n a with
   | some (v,_)=> .tup [.v (.int .u64 v), .v (.int .i64 0)]
   | none=> .tup [.v (.int .u64 0), .v (.int .i64 4)]:=rfl
  have hP:alN s n a=match alC s n a with
   | some (_,b)=>b
   | none=>a:=rfl
  unfold hK at*;refine Wv.HT.by 21 [0,1,2,8,3,11,6,7,18,4,5] [(1000000,1)] [.tmp 4, .tmp 5] Tryz.func26 rfl rfl rfl ?base ?_
  case base=>rfl
  refine Wv.W ?_;refine call_HT (fst:=[]) (cap:=[]) N1 ?_;rintro av h' ⟨rfl,rfl⟩;simp (disch:=first|exact Wv.D|fail) only [Wv.B,simprocAttr,alB (show ¬ (n:Int)=0 by omega)];refine call_HT (fst:=[]) (cap:=[]) T1 ?_;rintro av h' ⟨q1,q2⟩;cases hB:alC s n a with
  | none=>
   rw [hB] at hR hP;obtain ⟨rfl,rfl⟩:=q2 hB;refine Wv.W ?_;exact ⟨hR.symm,_,by rw [hP]⟩
  | some p=>
   obtain ⟨v,b⟩:=p;rw [hB] at hR hP;obtain ⟨rfl,rfl⟩:=q1 v b hB;refine Wv.W ?_;exact ⟨hR.symm,_,by rw [hP]⟩
 refine (T.amW ?_).alT ?_
 ·rintro r h' ⟨rfl,q,rfl⟩;have hc:=alG s (alN s n a);refine ⟨?_,fun a ha=> .clo (hc a ha),trivial⟩;unfold alK;split<;>simp only [Wv.BL, ↓reduceIte,Nat.reduceLeDiff]
 ·rintro r h2 ⟨h',⟨rfl,q,rfl⟩,rfl⟩;exact ⟨rfl,rfl⟩
theorem amn (s:ByteArray) (n a:Nat):Clo (alK s n a):=by
 unfold alK;split<;>simp only [Wv.BC]
theorem amK {g:Nat} {s:ByteArray} {a:Nat} (n:Nat) (hg:h[g]? =some (some (.blk (alE s a)))) (hs:s.size≤1000000) (ha:a≤8*s.size) (hn:1≤n) (hn2:n≤2147483647):HT Tryz.prog 26 [.ptr g 0, .v (.int .u64 n)] h (fun r h'=>r=alK s n a∧h'=h.set g (some (.blk (alE s (alN s n a))))):=
 (HT.amc (args:=[.ptr g 0, .v (.int .u64 n)]) (amJ s a n hs ha hn hn2) hg (alG s a) (fun r h' q=>by
  obtain ⟨rfl,rfl⟩:=q;exact ⟨amn _ _ _,_,rfl,rfl,alG _ _⟩) ⟨.ptr (by omega), .clo (.v _),trivial⟩).alT fun r h' ⟨c1,⟨q1,q2⟩,q3⟩=>by
   injection q2 with q2;injection q2 with q2;injection q2 with q2;subst q2 q3;exact ⟨q1,rfl⟩
theorem amY:TC Tryz.prog 32 [.v (.pointer none)] (.v (.bool true)):=by
 refine Wv.TC.by 12 [0,2] [] [.tmp 2] Tryz.func32 rfl rfl rfl ?clo ?_
 case clo=>simp only [Wv.BC]
 exact Wv.V
theorem amw (n:Nat):TC Tryz.prog 26 [.v (.pointer none), .v (.int .u64 n)] (.tup [.v (.int .u64 0), .v (.int .i64 1)]):=by
 refine Wv.TC.by 21 [0,1,2,8,3,11,6,7,18,4,5] [] [.tmp 4, .tmp 5] Tryz.func26 rfl rfl rfl ?clo ?_
 case clo=>simp only [Wv.BC]
 refine Wv.W ?_;refine call_TC amY rfl Wv.c Wv.c ?_;exact Wv.V
end
section
open Go.RowKit Wv
def rsC (s:ByteArray) (a:Nat):List AV:=[.v (.string s), .v (.int .i64 a)]
theorem alI (s:ByteArray) (a:Nat): ∀ x,x∈rsC s a→Clo x:=by unfold rsC;simp only [Wv.BC]
theorem amZ {B e:Nat} (hB:B<2 ^ 8) (he:e≤7):
  IntKind.u64.wrap (IntKind.u8.wrap ((BitVec.ofInt IntKind.u8.bits ((B:Int).fdiv (2 ^ min (7 - (e:Int)).toNat 8)) &&& BitVec.ofInt IntKind.u8.bits 1).toNat:Int))=((B / 2 ^ (7 - e) % 2:Nat):Int):=by
 rw [show (7 - (e:Int)).toNat=7 - e by omega,Nat.min_eq_left (by omega)];have h2:(2:Int) ^ (7 - e)=((2 ^ (7 - e):Nat):Int):=by rw [Int.natCast_pow];rfl
 have h3:(B:Int).fdiv (2 ^ (7 - e))=((B / 2 ^ (7 - e):Nat):Int):=by
  rw [Int.fdiv_eq_ediv_of_nonneg _ (by rw [h2];exact Int.natCast_nonneg _),h2];rfl
 rw [h3];have h4:B / 2 ^ (7 - e)<256:=Nat.lt_of_le_of_lt (Nat.div_le_self _ _) hB;generalize B / 2 ^ (7 - e)=q at*;have h5:(BitVec.ofInt IntKind.u8.bits (q:Int) &&& BitVec.ofInt IntKind.u8.bits 1).toNat=q % 2:=by
  show (BitVec.ofInt 8 (q:Int) &&& BitVec.ofInt 8 1).toNat=q % 2;rw [BitVec.toNat_and,BitVec.ofInt_natCast,BitVec.toNat_ofNat,Nat.mod_eq_of_lt (by omega)];exact Nat.and_one_is_mod _
 rw [h5];show (((q % 2:Nat):Int) % 256) % 18446744073709551616=_;omega
theorem anb (s:ByteArray) (a:Nat) (hs:s.size≤1000000) (h: ¬ a<8*s.size):HT Tryz.prog 118 [.ptr 0 0] [some (.blk (rsC s a))] (fun r h'=>r= .tup [.v (.int .u64 0), .v (.bool false)]∧h'=[some (.blk (rsC s a))]):=by
 unfold rsC;refine Wv.HT.by 43 [0,15,4,2,3] [(1,10),(3,16),(1000000,1)] [.tmp 2, .tmp 3] Tryz.func118 rfl rfl rfl ?base ?_
 case base=>rfl
 simp (disch:=first|exact Wv.D|fail) only [Wv.B,simprocAttr,alA (show (a:Int)≥8*(s.size:Int) by omega)]
theorem am0 (s:ByteArray) (a:Nat) (hs:s.size≤1000000) (h:a<8*s.size):HT Tryz.prog 118 [.ptr 0 0] [some (.blk (rsC s a))] (fun r h'=>r= .tup [.v (.int .u64 (amf s a)), .v (.bool true)]∧h'=[some (.blk (rsC s (a+1)))]):=by
 unfold rsC;refine Wv.HT.by 43 [0,15,4,2,3] [(1,10),(3,16),(1000000,1)] [.tmp 2, .tmp 3] Tryz.func118 rfl rfl rfl ?base ?_
 case base=>rfl
 have hd:((a:Nat):Int).tdiv 8=((a / 8:Nat):Int):=rfl;have hr:((a:Nat):Int).tmod 8=((a % 8:Nat):Int):=rfl;have hx8:a / 8<s.size:=by omega
 obtain ⟨b,hb,hbit⟩:=amD hx8;have hbl:=b.toNat_lt;simp (disch:=first|exact Wv.D|fail) only [Wv.B,simprocAttr,alB (show ¬ (a:Int)≥8*(s.size:Int) by omega),hd,hr,hb,Option.map_some,amZ hbl (show a % 8≤7 by omega), ←hbit,Int.natCast_add,Int.natCast_one]
theorem am1 (s:ByteArray) (a k:Nat) (hs:s.size≤1000000) (ha:a≤8*s.size) (hk:k≤31):HT Tryz.prog 89 [.ptr 0 0, .v (.int .i64 k)] [some (.blk (rsC s a))] (fun r h'=>(a+k≤8*s.size→r= .tup [.v (.int .u64 (numAt s a k)), .v (.bool true)]∧h'=[some (.blk (rsC s (a+k)))])∧(¬ a+k≤8*s.size→r= .tup [.v (.int .u64 0), .v (.bool false)]∧ ∃ b,b≤8*s.size∧h'=[some (.blk (rsC s b))])):=by
 have hY:=fun a=>am0 s a hs
 have hN:=fun a=>anb s a hs
 unfold rsC at*;refine Wv.HT.by 27 [7,1,12,0,9,21,6,8,4,5] [(1000000,1)] [.tmp 4, .tmp 5] Tryz.func89 rfl rfl rfl ?base ?_
 case base=>rfl
 refine Wv.W ?_;refine wfor (σ:=Nat) (fun i=>[(0, .ptr 0 0),(1, .v (.int .i64 k)),(6, .v (.int .u64 (numAt s a i))),(7, .v (.int .i64 i))])
  (fun i=>[some (.blk [.v (.string s), .v (.int .i64 (a+i:Nat))])]) (fun i=>i≤k∧a+i≤8*s.size) (fun i=>k - i) 0 ⟨Nat.zero_le _,ha⟩ rfl (by simp (disch:=first|exact Wv.D|fail) only [Wv.B,simprocAttr,numAt]) ?_
 rintro i ⟨hi,hai⟩;by_cases hlt:i<k
 ·have e1:(i:Int)<k:=by omega
  by_cases hc:a+i<8*s.size
  ·have hnl:numAt s a i<2 ^ 31:=Nat.lt_of_lt_of_le (al9 s a i) (Nat.pow_le_pow_right (by omega) (by omega));have hbl:=aml s (a+i);have hnum:numAt s a (i+1)=2*numAt s a i+amf s (a+i):=rfl;simp (disch:=first|exact Wv.D|fail) only [Wv.B,simprocAttr,alA e1];refine call_HT (fst:=[]) (cap:=[]) (hY (a+i) hc) ?_;rintro av h' ⟨rfl,rfl⟩;refine Wv.W ?_;refine k_next (i+1) ⟨by omega,by omega⟩ (by omega) rfl (by simp (disch:=first|exact Wv.D|fail) only [Wv.B,simprocAttr,Int.natCast_add,Int.natCast_one,hnum,Int.natCast_mul,Int.cast_ofNat_Int])
  ·simp (disch:=first|exact Wv.D|fail) only [Wv.B,simprocAttr,alA e1];refine call_HT (fst:=[]) (cap:=[]) (hN (a+i) hc) ?_;rintro av h' ⟨rfl,rfl⟩;refine Wv.W ?_;exact ⟨fun q=>by omega,fun _=>⟨a+i,hai,rfl⟩⟩
 ·obtain rfl:i=k:=by omega
  simp (disch:=first|exact Wv.D|fail) only [Wv.B,simprocAttr,Int.lt_irrefl,decide_false];exact ⟨fun _=>trivial,fun q=>by omega⟩
theorem amh: ∀ (f g x:Nat),x<2 ^ f→x<2 ^ g→alS f x=alS g x
 | 0,0,_,_,_=>rfl
 | 0,g+1,x,h,_=>by
  have:x=0:=by rw [Nat.pow_zero] at h;omega
  subst this;rfl
 | f+1,0,x,_,h=>by
  have:x=0:=by rw [Nat.pow_zero] at h;omega
  subst this;rfl
 | f+1,g+1,x,h1,h2=>by
  have ih:=amh f g (x / 2) (by rw [Nat.pow_succ] at h1;omega) (by rw [Nat.pow_succ] at h2;omega);simp only [alS,ih]
theorem amx {m:Nat} (h0:0<m) (h:m<2 ^ 31):lenOf m=1+lenOf (m / 2):=by
 have e:lenOf m=1+alS 63 (m / 2):=by
  show alS 64 m=_;simp only [alS];rw [if_neg (by omega)]
 rw [e];show 1+alS 63 (m / 2)=1+alS 64 (m / 2);rw [amh 63 64 (m / 2) (by omega) (by omega)]
theorem amL (s:ByteArray) (a n:Nat) (hs:s.size≤1000000) (ha:a≤8*s.size) (hn:1≤n) (hn2:n≤2147483647):HT Tryz.prog 51 [.ptr 0 0, .v (.int .u64 n)] [some (.blk (rsC s a))] (fun r h'=>(∀ v b,alC s n a=some (v,b)→r= .tup [.v (.int .u64 v), .v (.bool true)]∧h'=[some (.blk (rsC s b))])∧(alC s n a=none→r= .tup [.v (.int .u64 0), .v (.bool false)]∧ ∃ b,b≤8*s.size∧h'=[some (.blk (rsC s b))])):=by
 have hk31:lenOf (n - 1)≤31:=amk 31 64 _ (by omega);have hb0: ∀ a', ¬ a'+lenOf (n - 1)≤8*s.size→alC s n a'=none:=fun a'=>ama hn
 have hb1:=fun a'=>amg (s:=s) (a:=a') hn
 have hb2:=fun a'=>amb (s:=s) (a:=a') hn
 have hb3: ∀ a', ¬ numAt s a' (lenOf (n - 1))<n→1≤lenOf (n - 1):=fun a' h=>by
  refine Nat.pos_of_ne_zero fun e=>h ?_
  rw [e];exact hn
 obtain ⟨k,hk⟩: ∃ k,k=lenOf (n - 1):=⟨_,rfl⟩
 rw [←hk] at hk31 hb0 hb1 hb2 hb3;have hS:=fun a' h=>am1 s a' k hs h hk31
 generalize hB:alC s n a=B at*;unfold rsC at*;refine Wv.HT.by 33 [1,7,13,6,0,9,8,30,4,5] [(1000000,1)] [.tmp 4, .tmp 5] Tryz.func51 rfl rfl rfl ?base ?_
 case base=>rfl
 have hsub:(n:Int) - 1=((n - 1:Nat):Int):=by omega
 simp (disch:=first|exact Wv.D|fail) only [Wv.B,simprocAttr,hsub];refine wfor (σ:=Nat × Nat) (fun q=>[(0, .ptr 0 0),(1, .v (.int .u64 n)),(6, .v (.int .i64 q.1)),(7, .v (.int .u64 q.2))])
  (fun _=>[some (.blk [.v (.string s), .v (.int .i64 a)])]) (fun q=>q.2≤n - 1∧q.1+lenOf q.2=k) (fun q=>q.2) (0,n - 1) ⟨Nat.le_refl _,by rw [hk];exact Nat.zero_add _⟩ rfl Wv.V ?_
 rintro ⟨i,m⟩ ⟨h1,h2⟩;simp only at h1 h2 ⊢;by_cases hm:0<m
 ·have hd:((m:Nat):Int).tdiv 2=((m / 2:Nat):Int):=rfl;have h3:=amx hm (by omega);simp (disch:=first|exact Wv.D|fail) only [Wv.B,simprocAttr,alA (show (m:Int)>0 by omega),hd];refine k_next (i+1,m / 2) ⟨by simp only;omega,by simp only;omega⟩ (by simp only;omega) rfl Wv.V2
 obtain rfl:m=0:=by omega
 have hi:i=k:=h2;subst hi;simp (disch:=first|exact Wv.D|fail) only [Wv.B,simprocAttr,Int.natCast_zero,Int.lt_irrefl,gt_iff_lt,decide_false];refine wfor (σ:=Nat) (fun a'=>[(0, .ptr 0 0),(1, .v (.int .u64 n)),(6, .v (.int .i64 i))])
  (fun a'=>[some (.blk [.v (.string s), .v (.int .i64 a')])]) (fun a'=>a'≤8*s.size∧alC s n a'=B) (fun a'=>8*s.size - a') a ⟨ha,hB⟩ rfl Wv.V ?_
 rintro a' ⟨h1,h2⟩;refine Wv.W ?_;refine call_HT (fst:=[]) (cap:=[]) (hS a' h1) ?_;rintro av h' ⟨q1,q2⟩;by_cases hc:a'+i≤8*s.size
 ·obtain ⟨rfl,rfl⟩:=q1 hc;by_cases hlt:numAt s a' i<n
  ·have h3:=hb1 a' hc hlt;simp (disch:=first|exact Wv.D|fail) only [Wv.B,simprocAttr,alA (show (numAt s a' i:Int)<n by omega)];refine ⟨fun v b e=>?_,fun e=>?_⟩
   ·rw [←h2,h3] at e;injection e with e;injection e with e1 e2;subst e1 e2;exact ⟨rfl,rfl⟩
   ·rw [←h2,h3] at e;cases e
  ·have h3:=hb2 a' hc hlt;have h4:=hb3 a' hlt;simp (disch:=first|exact Wv.D|fail) only [Wv.B,simprocAttr,alB (show ¬ (numAt s a' i:Int)<n by omega)];refine k_next (a'+i) ⟨hc,h3.symm.trans h2⟩ (by omega) rfl Wv.V
 ·have h3:=hb0 a' hc;obtain ⟨rfl,b,hb,rfl⟩:=q2 hc;refine Wv.W ?_;refine ⟨fun v b e=>?_,fun e=>⟨b,hb,rfl⟩⟩;rw [←h2,h3] at e;cases e
theorem amM (s:ByteArray) (a n:Nat) (hs:s.size≤1000000) (ha:a≤8*s.size) (hn:1≤n) (hn2:n≤2147483647):HT Tryz.prog 30 [.ptr 0 0, .v (.int .u64 n)] [some (.blk (rsC s a))] (fun r h'=>r=alK s n a∧h'=[some (.blk (rsC s (alN s n a)))]):=by
 have T1:=amL s a n hs ha hn hn2;have hR:alK s n a=match alC s n a with
  | some (v,_)=> .tup [.v (.int .u64 v), .v (.int .i64 0)]
  | none=> .tup [.v (.int .u64 0), .v (.int .i64 4)]:=rfl
 have hP:alN s n a=match alC s n a with
  | some (_,b)=>b
  | none=>a:=rfl
 unfold rsC at*;refine Wv.HT.by 28 [1,10,0,8,22,6,7,4,5] [(1000000,1)] [.tmp 4, .tmp 5] Tryz.func30 rfl rfl rfl ?base ?_
 case base=>rfl
 simp (disch:=first|exact Wv.D|fail) only [Wv.B,simprocAttr,alB (show ¬ (n:Int)=0 by omega)];refine call_HT (fst:=[]) (cap:=[]) T1 ?_;rintro av h' ⟨q1,q2⟩;cases hB:alC s n a with
 | none=>
  rw [hB] at hR hP;obtain ⟨rfl,b,_,rfl⟩:=q2 hB;simp (disch:=first|exact Wv.D|fail) only [Wv.B,simprocAttr,hR,hP]
 | some p=>
  obtain ⟨v,b⟩:=p;rw [hB] at hR hP;obtain ⟨rfl,rfl⟩:=q1 v b hB;simp (disch:=first|exact Wv.D|fail) only [Wv.B,simprocAttr,hR,hP]
theorem amN {h:Hp} {g:Nat} {s:ByteArray} {a:Nat} (n:Nat) (hg:h[g]? =some (some (.blk (rsC s a)))) (hs:s.size≤1000000) (ha:a≤8*s.size) (hn:1≤n) (hn2:n≤2147483647):HT Tryz.prog 30 [.ptr g 0, .v (.int .u64 n)] h (fun r h'=>r=alK s n a∧h'=h.set g (some (.blk (rsC s (alN s n a))))):=
 (HT.amc (args:=[.ptr g 0, .v (.int .u64 n)]) (amM s a n hs ha hn hn2) hg (alI s a) (fun r h' q=>by
  obtain ⟨rfl,rfl⟩:=q;exact ⟨amn _ _ _,_,rfl,rfl,alI _ _⟩) ⟨.ptr (by omega), .clo (.v _),trivial⟩).alT fun r h' ⟨c1,⟨q1,q2⟩,q3⟩=>by
   injection q2 with q2;injection q2 with q2;injection q2 with q2;subst q2 q3;exact ⟨q1,rfl⟩
end
section
open Go.RowKit Wv
def roA (n:Nat) (f:Nat→Int):AV:= .t n 1 (tab n fun j=> .v (.int .i64 (f j)))
theorem roA_clo (n:Nat) (f:Nat→Int):Clo (roA n f):=by unfold roA;simp only [Wv.BC]
def ascW (N:Int) (f:Nat→Int) (i:Nat):Bool:=decide (f i<0) || (decide (f i≥N) || (decide ((i:Int)>0) && decide (f i≤f (i - 1))))
def ascB (N:Int) (n:Nat) (f:Nat→Int):Bool:=!anyN n (ascW N f)
theorem pasc_tc (N:Int) (n:Nat) (f:Nat→Int) (hn:n≤140737488351232):TC Tryz.prog 22 [.v (.int .i64 N),roA n f] (.v (.bool (ascB N n f))):=by
 have hA:ascB N n f=!anyN n (ascW N f):=rfl;generalize ascB N n f=B at*;unfold roA;refine Wv.TC.by 35 [1,9,8,10,7,6,0,5,33,4] [] [.tmp 4] Tryz.func22 rfl rfl rfl ?clo ?_
 case clo=>simp only [Wv.BC]
 refine Wv.W ?_;refine wfor (σ:=Nat) (fun i=>[(0, .v (.int .i64 N)),(1, .t n 1 (tab n fun j=> .v (.int .i64 (f j)))),(7, .t n 1 (tab n fun j=> .v (.int .i64 (f j)))),(8, .v (.int .i64 n)),(9, .v (.int .i64 i))]) (fun _=>[]) (fun i=>i≤n∧ ∀ a,a<i→ascW N f a=false) (fun i=>n - i) 0 ⟨Nat.zero_le _,fun a h=>absurd h (Nat.not_lt_zero a)⟩ Wv.V Wv.V ?_;rintro i ⟨hi,hg⟩;by_cases hlt:i<n
 ·have e1:(i:Int)<n:=by omega
  have hw:ascW N f i=(decide (f i<0) || (decide (f i≥N) || (decide ((i:Int)>0) && decide (f i≤f (i - 1))))):=rfl;have hbad:ascW N f i=true→B=false:=fun h=>by
   rw [hA];have:anyN n (ascW N f)=true:=by unfold anyN;exact List.any_eq_true.2 ⟨i,List.mem_range.2 hlt,h⟩
   rw [this];rfl
  have hgood:ascW N f i=false→ ∀ a,a<i+1→ascW N f a=false:=fun h a ha=>by
   by_cases q:a=i
   ·exact q▸h
   ·exact hg a (by omega)
  generalize ascW N f i=w at*;by_cases h0:f i<0
  ·rw [alA h0,Bool.true_or] at hw;have hb:=hbad hw;simp (disch:=first|exact Wv.D|fail) only [Wv.B,simprocAttr,alA e1,alA h0];rw [hb]
  rw [alB h0,Bool.false_or] at hw;by_cases h1:f i≥N
  ·rw [alA h1,Bool.true_or] at hw;have hb:=hbad hw;simp (disch:=first|exact Wv.D|fail) only [Wv.B,simprocAttr,alA e1,alB h0,alA h1];rw [hb]
  rw [alB h1,Bool.false_or] at hw;by_cases h2:i=0
  ·subst h2;have h2': ¬ ((0:Nat):Int)>0:=by omega
   rw [alB h2',Bool.false_and] at hw;have hg':=hgood hw;simp (disch:=first|exact Wv.D|fail) only [Wv.B,simprocAttr,alA e1,alB h0,alB h1,alB h2'];refine k_next 1 ⟨by omega,hg'⟩ (by omega) rfl Wv.V2
  ·have h2':(i:Int)>0:=by omega
   have e3:((i:Int) - 1).toNat=i - 1:=by omega
   rw [alA h2',Bool.true_and] at hw;by_cases h3:f i≤f (i - 1)
   ·rw [alA h3] at hw;have hb:=hbad hw;simp (disch:=first|exact Wv.D|fail) only [Wv.B,simprocAttr,alA e1,alB h0,alB h1,alA h2',e3,alA h3];rw [hb]
   ·rw [alB h3] at hw;have hg':=hgood hw;simp (disch:=first|exact Wv.D|fail) only [Wv.B,simprocAttr,alA e1,alB h0,alB h1,alA h2',e3,alB h3];refine k_next (i+1) ⟨by omega,hg'⟩ (by omega) rfl Wv.V2
 ·obtain rfl:i=n:=by omega
  have hB:B=true:=by
   rw [hA];have:anyN i (ascW N f)=false:=by
    unfold anyN;refine List.any_eq_false.2 fun a ha=>?_
    rw [hg a (List.mem_range.1 ha)];decide
   rw [this];rfl
  simp (disch:=first|exact Wv.D|fail) only [Wv.B,simprocAttr,Int.lt_irrefl,decide_false];rw [hB]
end
end Go.Proofs.YthlhibpfagekfaaGreat
