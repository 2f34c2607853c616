/- Parts of a proof. -/
import Derived.Test.YthlhibpfagekfaaGreatQpl
import Derived.Test.YthlhibpfagekfaaGreatQpm
import Derived.Test.YthlhibpfagekfaaGreatQpn
set_option linter.unusedVariables false
set_option linter.unusedSimpArgs false
set_option maxRecDepth 100000
set_option maxHeartbeats 1600000
namespace Go.Proofs.YthlhibpfagekfaaGreat
section
open Go.RowKit Wv
def auX:ByteArray:=⟨#[120]⟩
def auA:ByteArray:=⟨#[97]⟩
def auN:Ex:= .mk 1 auX 0 0 (fun _=>0) 0 (fun _=> .nil)
def auR:Ex:= .mk 8 ⟨#[]⟩ 1 0 (fun _=>0) 1 (fun _=>auN)
def auM:Ex:= .mk 10 ⟨#[]⟩ 0 1 (fun _=>1) 1 (fun _=>auR)
def auC (e:Ex):Ci:={name:=⟨#[99]⟩,ni:=1,fi:=fun _=>auX,nl:=1,ln:=fun _=>auA,le:=fun _=>e,no:=1,fo:=fun _=>auA}
theorem auN_ok:okE auN:=⟨by decide,by omega,by omega,fun i hi=>absurd hi (Nat.not_lt_zero i)⟩
theorem auR_ok:okE auR:=⟨by decide,by omega,by omega,fun _ _=>auN_ok⟩
theorem auM_ok:okE auM:=⟨by decide,by omega,by omega,fun _ _=>auR_ok⟩
theorem auC_ok {e:Ex} (h:okE e) (hc:cntE e≤4611686018427387904):okC (auC e) where
 name:=show 1≤_ by decide
 ni:=show 1≤_ by decide
 nl:=show 1≤_ by decide
 no:=show 1≤_ by decide
 fi:=fun _ _=>show 1≤_ by decide
 fo:=fun _ _=>show 1≤_ by decide
 ln:=fun _ _=>show 1≤_ by decide
 le:=fun _ _=>⟨h,hc⟩
theorem ptype_au {e:Ex} (h:okE e) (hc:cntE e≤4611686018427387904):TC Tryz.prog 37 [.g (parC plnP), .g (ciC (auC e))] (typeA (typeQ 0 (auC e) (ruA plnP 17))):=
 ptype_tc plnP (auC e) (ruA plnP 17) ksA 17 0 pmod_pln (auC_ok h hc) (fun _ ns=>rulesA plnP 17 ns (by omega) (by omega) (by decide) (by decide)) (fun _ _=>allK_A _ h)
theorem default_au:TC Tryz.prog 14 [.v (.int .i64 8), .v (.int .u32 17), .v (.int .i64 1), .v (.int .i64 1)] (.tup [.g (parC plnP), .v (.int .i64 0)]):=
 TC.reck (by kernel_rfl) 1000 100 tbTyp_ok (orcL_ok (l:=[]) fun q h=>by cases h) (by kernel_rfl)
def auT:List (FuncId × List AV × AV):=[(37,[.g (parC plnP), .g (ciC (auC auR))],typeA (typeQ 0 (auC auR) (ruA plnP 17))),(37,[.g (parC plnP), .g (ciC (auC auM))],typeA (typeQ 0 (auC auM) (ruA plnP 17))),
 (21,[.g (parC plnP), .v (.int .i64 1)], .tup [.v (.int .i64 17), .v (.int .i64 0)])]
theorem typeA_cloA (q:List (Bool × Nat) × Int × Int):Clo (typeA q):=by
 unfold typeA;simp only [Wv.BC];exact shL_clo _
theorem auT_all: ∀ q,q∈auT→TC Tryz.prog q.1 q.2.1 q.2.2∧Clo q.2.2:=fun q h=>by
 simp only [auT,List.mem_cons,List.not_mem_nil,or_false] at h;rcases h with rfl | rfl | rfl
 ·exact ⟨ptype_au auR_ok (by decide),typeA_cloA _⟩
 ·exact ⟨ptype_au auM_ok (by decide),typeA_cloA _⟩
 ·exact ⟨pmod_pln,cloB_ok _ rfl⟩
def auRow (l:List Int):AV:= .t 8 1 (l.map fun z=> .v (.int .i64 z))
def auSl:AV:= .t 4 1 [.v (.int .i64 4), .v (.int .i64 5), .v (.int .i64 6), .v (.int .i64 7)]
theorem expect_au:TC Tryz.prog 18 [.g (parC plnP), .g (ciC (auC auR)), .t 1 1 [auRow [1,2,3,4,5,6,7,8]],auSl] (.tup [.t 1 1 [auRow [0,0,0,0,6,7,8,5]], .v (.int .i64 0)]):=
 TC.reckU (by kernel_rfl) 1000 100 tbAud_ok (orcL_ok auT_all) (by kernel_rfl)
def auO:List (FuncId × List AV × AV):=(18,[.g (parC plnP), .g (ciC (auC auR)), .t 1 1 [auRow [1,2,3,4,5,6,7,8]],auSl], .tup [.t 1 1 [auRow [0,0,0,0,6,7,8,5]], .v (.int .i64 0)])::(14,[.v (.int .i64 8), .v (.int .u32 17), .v (.int .i64 1), .v (.int .i64 1)], .tup [.g (parC plnP), .v (.int .i64 0)])::auT
theorem auO_all: ∀ q,q∈auO→TC Tryz.prog q.1 q.2.1 q.2.2∧Clo q.2.2:=fun q h=>by
 rcases List.mem_cons.1 h with rfl | h
 ·exact ⟨expect_au,cloB_ok _ rfl⟩
 rcases List.mem_cons.1 h with rfl | h
 ·exact ⟨default_au, .tup (List.forall_mem_cons.2 ⟨.g (parC_clo plnP),List.forall_mem_cons.2 ⟨.v _,fun _ h=>by cases h⟩⟩)⟩
 ·exact auT_all q h
theorem shown38_tc:TC Tryz.prog 4 [] (.v (.bool true)):=
 TC.reck (by kernel_rfl) 1000 100 tbAud_ok (orcL_ok auO_all) (by kernel_rfl)
end
section
open Go.RowKit Wv
theorem ank {P:Program} (hmix:P.follows .mixedOrders=true) {N:Nat} {L:List Nat} {ks:List (Nat × Nat)} {id:Nat} {l:List Oper} {Q:PostW} {e:Ev} {h:Hp} (k s m:Nat) (av:AV) {os:Oper} (hB:drawB N k l.toArray=true) (hsk:Nat.blt s k=true) (hos:l[s]? =some os) (hg:os.guard=none) (hal:isAlloc os=false) (hpu:isPure os=false) (hap: ∃ c f,os.op= .call c∧c.callee= .value f) (hna:(l.take k).all (fun o=>!isAlloc o)=true)
  (hw:wHead P (kP l e Q) l (frzM m h) (l.take s) e [] (lateA P (kP l e Q) l (l.take s) ((l.take k).drop (s+1)) (l.drop k) os av e (frzM m h) (kReg L Q))):escE P N ks id l.toArray Q e h:=
 esc_late hmix k s m av hB hsk hos hg hal hpu (hap.elim fun c q=>q.elim fun f q=>⟨c,q.1, .inr ⟨f,q.2⟩⟩) hna hw
theorem anf (s:ByteArray) (hs:s.size≤1000000) (o0 o1:Option Ob):HT Tryz.prog 6 [.v (.string s)] [o0,o1] (fun r h'=>r= .ptr 2 0∧h'=[o0,o1,some (.blk (alE s 0))]):=by
 unfold alE;refine Wv.HT.byO 9 [0,5,2] [(1000000,2)] [.tmp 2] Tryz.func6 rfl rfl rfl ?base ?_
 case base=>rfl
 simp (disch:=first|exact Wv.D|fail) only [Wv.B,simprocAttr,alB (show ¬ (s.size:Int)>1048576 by omega),finO1,finO0]
theorem ang (s:ByteArray) (hs:s.size≤1000000) (o0 o1 o2:Option Ob):HT Tryz.prog 7 [.v (.string s)] [o0,o1,o2] (fun r h'=>r= .ptr 3 0∧h'=[o0,o1,o2,some (.blk (rsC s 0))]):=by
 unfold rsC;refine Wv.HT.byO 9 [0,5,2] [(1000000,3)] [.tmp 2] Tryz.func7 rfl rfl rfl ?base ?_
 case base=>rfl
 simp (disch:=first|exact Wv.D|fail) only [Wv.B,simprocAttr,alB (show ¬ (s.size:Int)>1048576 by omega),finO1,finO0]
theorem ams (x:Par) (hx:ParOk x) (hlen:x.ch.length≤140737488351232) (hrng: ∀ q,q∈x.ch→q<4294967296) (m:Nat) (ln:Nat→Nat) (vs:Nat→Nat→Int) (ns:Nat) (sl:Nat→Int) (s:ByteArray) (hm:m≤140737488351232) (hln: ∀ i,i<m→ln i≤140737488351232) (hns:ns≤140737488351232) (hvr: ∀ i,i<m→ ∀ j,j<ln i→ -9223372036854775808≤vs i j∧vs i j≤9223372036854775807) (hsz:s.size≤140737488351232):
  TC Tryz.prog 3 [.g (parC x),vsA m ln vs, .g [roA ns sl, .v (.string s)]] (.v (.bool true)):=by
 have hPg:Clo (.g (parC x)):= .g (parC_clo x);have hVg:Clo (vsA m ln vs):=jG_clo m ln vs;have hFg:=roA_clo ns sl;have hA:=parC_clo x;have hD: ∀ a,a∈[roA ns sl,AV.v (.string s)]→Clo a:=clB2 hFg (.v _);have TG:TC Tryz.prog 5 [vsA m ln vs] _:=lgreat_tc m ln vs hm hln;have hG:grB m ln=(anyN m (fun i=>decide (100<ln i)) || decide (50<m)):=rfl;obtain ⟨CH,hCH⟩: ∃ CH,CH=x.ch.map fun (c:Nat)=>AV.v (.int .u32 c):=⟨_,rfl⟩
 have hP7:parC x=[.v (.int .i64 x.n), .v (.int .u32 x.p), .v (.int .i64 x.r), .t x.ch.length 1 CH, .v (.int .u32 x.sp), .v (.int .i64 x.wt), .v (.int .u32 x.er)]:=by rw [hCH];rfl
 have AL:=fun hs=>amC x hx hlen hrng m ln vs ns sl hm hln hns hvr (parC x) [roA ns sl, .v (.string s)] hA hD s hs
 have CP:=amP m ln vs;have SS:=alR m ln vs hm hln;generalize grB m ln=G at*;rw [hP7] at hPg hA AL ⊢;unfold vsA vcA roA at*;refine Wv.TC.by 113 [0,2,18,3,1,5,38,9,7,8,10,12,11,13,86,14,97,16,108,6] [(5,1000000)] [.tmp 6] Tryz.func3 rfl rfl rfl ?clo ?_
 case clo=>simp only [Wv.BC]
 refine Wv.W ?_;refine call_TC shown38_tc rfl Wv.c Wv.c ?_;by_cases h100:(x.ch.length:Int)>100
 ·simp (disch:=first|exact Wv.D|fail) only [Wv.B,simprocAttr,alA h100]
 simp (disch:=first|exact Wv.D|fail) only [Wv.B,simprocAttr,alB h100];refine call_TC TG rfl (cloA1 hVg) Wv.c ?_;cases G with
 | true=>simp (disch:=first|exact Wv.D|fail) only [Wv.B,simprocAttr]
 | false=>
 have hm50:m≤50∧ ∀ i,i<m→ln i≤100:=by
  have hG:=hG.symm;rw [Bool.or_eq_false_iff] at hG;refine ⟨by have:=of_decide_eq_false hG.2;omega,fun i hi=>?_⟩;have h1:=hG.1;unfold anyN at h1;have:=List.any_eq_false.1 h1 i (List.mem_range.2 hi);simp only [decide_eq_true_eq] at this;omega
 by_cases hn1:(ns:Int)>100
 ·simp (disch:=first|exact Wv.D|fail) only [Wv.B,simprocAttr,alA hn1]
 by_cases hs1:(s.size:Int)>5000
 ·simp (disch:=first|exact Wv.D|fail) only [Wv.B,simprocAttr,alB hn1,alA hs1]
 obtain ⟨R,Rn,f,g,p,hp,hcR,hR2,hcn,T1,T2,T3,TS,g1,g2,g3⟩:=AL (by omega);have CP:=CP (by omega) fun i hi=>by have:=hm50.2 i hi;omega
 have N1:=anf s (by omega) (some (.blk [.v (.int .i64 x.n), .v (.int .u32 x.p), .v (.int .i64 x.r), .t x.ch.length 1 CH, .v (.int .u32 x.sp), .v (.int .i64 x.wt), .v (.int .u32 x.er)])) (some (.blk [.t ns 1 (tab ns fun j=> .v (.int .i64 (sl j))), .v (.string s)]));have N2:=ang s (by omega) (some (.blk [.v (.int .i64 x.n), .v (.int .u32 x.p), .v (.int .i64 x.r), .t x.ch.length 1 CH, .v (.int .u32 x.sp), .v (.int .i64 x.wt), .v (.int .u32 x.er)])) (some (.blk [.t ns 1 (tab ns fun j=> .v (.int .i64 (sl j))), .v (.string s)])) (some (.blk (alE s 0)));have L1:=left_at (h:=[some (.blk [.v (.int .i64 x.n), .v (.int .u32 x.p), .v (.int .i64 x.r), .t x.ch.length 1 CH, .v (.int .u32 x.sp), .v (.int .i64 x.wt), .v (.int .u32 x.er)]),some (.blk [.t ns 1 (tab ns fun j=> .v (.int .i64 (sl j))), .v (.string s)]),some (.blk (alE s p)),some (.blk (rsC s p))]) (g:=2) (am3 s p (by omega) hp) (alG s p) rfl;have L2:=left_at (h:=[some (.blk [.v (.int .i64 x.n), .v (.int .u32 x.p), .v (.int .i64 x.r), .t x.ch.length 1 CH, .v (.int .u32 x.sp), .v (.int .i64 x.wt), .v (.int .u32 x.er)]),some (.blk [.t ns 1 (tab ns fun j=> .v (.int .i64 (sl j))), .v (.string s)]),some (.blk (alE s p)),some (.blk (rsC s p))]) (g:=3) (am2 s p (by omega) hp) (alI s p) rfl;simp (disch:=first|exact Wv.D|fail) only [Wv.B,simprocAttr,alB hn1,alB hs1];refine ank (L:=[0,2,18,3,1,5,38,9,7,8,10,12,11,13,86,14,97,16,108,6]) (by kernel_rfl) 5 2 0 (.ptr 2 0) (by kernel_rfl) rfl rfl rfl rfl rfl ⟨_,_,rfl,rfl⟩ (by kernel_rfl) ?_;simp (disch:=first|exact Wv.D|fail) only [Wv.B,simprocAttr,lateA_app,lateB_app,lateC_app,lateD_app,lateE_app];refine call_HT (fst:=[]) (cap:=[]) N1 ?_;rintro av h' ⟨rfl,rfl⟩;simp (disch:=first|exact Wv.D|fail) only [Wv.B,simprocAttr,lateA_app,lateB_app,lateC_app,lateD_app,lateE_app];refine call_HT (fst:=[]) (cap:=[]) N2 ?_;rintro av h' ⟨rfl,rfl⟩;refine Wv.W ?_;refine call_TC CP rfl (cloA1 hVg) hVg ?_;refine Wv.W ?_;refine call_HT (fst:=[]) (cap:=[]) T1 ?_;rintro av h' ⟨rfl,rfl⟩;refine Wv.W ?_;refine call_HT (fst:=[]) (cap:=[]) T2 ?_;rintro av h' ⟨rfl,rfl⟩;refine Wv.W ?_;refine call_TC TS (by simp only [closeWith,hR2]<;>rfl) (clB2 hcR hcR) Wv.c ?_;refine Wv.W ?_;refine call_HT (fst:=[]) (cap:=[]) L1 ?_;rintro av h' ⟨rfl,rfl⟩;refine Wv.W ?_;refine call_HT (fst:=[]) (cap:=[]) L2 ?_;rintro av h' ⟨rfl,rfl⟩;refine Wv.W ?_;refine call_TC SS rfl (clB2 hVg hVg) Wv.c ?_;refine Wv.W ?_;refine call_HT (fst:=[]) (cap:=[]) T3 ?_;rintro av h' ⟨rfl,rfl⟩;by_cases hf2:f=2
 ·have hg2:=g1 hf2;simp (disch:=first|exact Wv.D|fail) only [Wv.B,simprocAttr,alA hf2,alA hg2]
 by_cases hns0:ns=0
 ·have hg0:=g2 hf2 (.inl hns0);simp (disch:=first|exact Wv.D|fail) only [Wv.B,simprocAttr,alB hf2,alA (show (ns:Int)=0 by omega),alA hg0]
 by_cases hm0:m=0
 ·have hg0:=g2 hf2 (.inr hm0);simp (disch:=first|exact Wv.D|fail) only [Wv.B,simprocAttr,alB hf2,alB (show ¬ (ns:Int)=0 by omega),alA (show (m:Int)=0 by omega),alA hg0]
 have hg1:=g3 hf2 hns0 hm0;simp (disch:=first|exact Wv.D|fail) only [Wv.B,simprocAttr,alB hf2,alB (show ¬ (ns:Int)=0 by omega),alB (show ¬ (m:Int)=0 by omega),alA hg1]
end
end Go.Proofs.YthlhibpfagekfaaGreat
