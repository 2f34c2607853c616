/- Parts of a proof. -/
import Derived.Test.YthlhibpfagekfaaGreatQpm
import Derived.Test.YthlhibpfagekfaaGreatQpi
import Derived.Test.YthlhibpfagekfaaGreatQpk
import Derived.Deep.QuietTactic
import Derived.BigQuiet
import Derived.Test.YthlhibpfagekfaaGreatQpf
import Derived.Test.YthlhibpfagekfaaGreatQpj
import Derived.Test.YthlhibpfagekfaaGreatQpl
import Derived.Test.YthlhibpfagekfaaGreatProg
set_option linter.unusedVariables false
set_option linter.unusedSimpArgs false
set_option maxHeartbeats 1000000
set_option maxRecDepth 100000
namespace Go.Proofs.YthlhibpfagekfaaGreat
section
open Go.RowKit Wv
theorem am4 {N:Nat} {t:Int} {n:Nat} {f:Nat→Int} (h4:4≤N):(!vecB N t n f)=badV N t n f:=by
 unfold vecB badV;by_cases e:n=N
 ·subst e;rw [alA rfl,alA rfl,Bool.and_true,Bool.not_not,Bool.not_true,Bool.false_or];have h1:=mxN_le (f:=f) (h:=(t - 1) / 2) (n - 1);have h2:=mnN_ge (f:=f) (h:= -((t - 1) / 2)) (n - 1);by_cases c1:mxN f (n - 1)>(t - 1) / 2
  ·rw [alA c1,Bool.true_or];unfold anyN;rw [List.any_eq_true];refine Classical.byContradiction fun hc=>absurd (h1.2 fun i hi=>?_) (by omega)
   refine Classical.byContradiction fun hi2=>hc ⟨i,List.mem_range.2 (by omega),?_⟩
   rw [alA (show (t - 1) / 2<f i by omega)];simp
  ·rw [alB c1,Bool.false_or];by_cases c2:mnN f (n - 1)< -((t - 1) / 2)
   ·rw [alA c2];unfold anyN;rw [List.any_eq_true];refine Classical.byContradiction fun hc=>absurd (h2.2 fun i hi=>?_) (by omega)
    refine Classical.byContradiction fun hi2=>hc ⟨i,List.mem_range.2 (by omega),?_⟩
    rw [alA (show f i< -((t - 1) / 2) by omega)];rfl
   ·rw [alB c2];unfold anyN;rw [List.any_eq_false];intro i hi;have hi':=List.mem_range.1 hi;have a1:=h1.1 (by omega) i (by omega);have a2:=h2.1 (by omega) i (by omega);rw [alB (show ¬ f i< -((t - 1) / 2) by omega),alB (show ¬ (t - 1) / 2<f i by omega)];decide
 ·rw [alB e,alB (show ¬ (n:Int)=N by omega),Bool.and_false];simp
theorem amS (x:Par) (N t:Nat) (hx:x.n=N) (hN:4≤N) (hN2:N≤32) (ht:3≤t) (ht2:t≤2147483647) (hto:t % 2=1) (TM:TC Tryz.prog 27 [.g (parC x), .v (.int .i64 x.r)] (.tup [.v (.int .i64 t), .v (.int .i64 0)])) (m:Nat) (ln:Nat→Nat) (vs:Nat→Nat→Int) (ns:Nat) (sl:Nat→Int) (hm:m≤140737488351232) (hln: ∀ i,i<m→ln i≤140737488351232) (hns:ns≤140737488351232)
  (A D E:List AV) (hA: ∀ a,a∈A→Clo a) (hD: ∀ a,a∈D→Clo a) (hE: ∀ a,a∈E→Clo a) (s:ByteArray) (a:Nat) (hs:s.size≤1000000) (ha:a≤8*s.size):
  HT Tryz.prog 10 [.g (parC x),vsA m ln vs,roA ns sl, .ptr 3 0] [some (.blk A),some (.blk D),some (.blk E),some (.blk (rsC s a))]
   (fun r h'=>r=alJ N m 4 (decide (8<m) || (!ascB N ns sl || anyN m fun i=>badV N t (ln i) (vs i))) (alD (alC s t) (((t:Int) - 1) / 2) sl ns vs a m)∧h'=[some (.blk A),some (.blk D),some (.blk E),some (.blk (rsC s (if (decide (8<m) || (!ascB N ns sl || anyN m fun i=>badV N t (ln i) (vs i)))=true then a else (alD (alC s t) (((t:Int) - 1) / 2) sl ns vs a m).2.2)))]):=by
 have hP:=parC_clo x;have hAl: ∀ m,loL m A=True:=fun m=>eq_true fun a ha=> .clo (hA a ha)
 have hDl: ∀ m,loL m D=True:=fun m=>eq_true fun a ha=> .clo (hD a ha)
 have hEl: ∀ m,loL m E=True:=fun m=>eq_true fun a ha=> .clo (hE a ha)
 have TA:=amO N ns sl hns;have hasc:= @asc_get N ns sl;generalize ascB N ns sl=ab at*;suffices T:HT Tryz.prog 10 [.g (parC x),vsA m ln vs,roA ns sl, .ptr 3 0] [some (.blk A),some (.blk D),some (.blk E),some (.blk (rsC s a))]
   (fun r h'=>r=alJ N m 4 (decide (8<m) || (!ab || anyN m fun i=>badV N t (ln i) (vs i))) (alD (alC s t) (((t:Int) - 1) / 2) sl ns vs a m)∧ ∃ q,h'=[some (.blk A),some (.blk D),some (.blk E),some (.blk (rsC s (if (decide (8<m) || (!ab || anyN m fun i=>badV N t (ln i) (vs i)))=true then a else (alD (alC s t) (((t:Int) - 1) / 2) sl ns vs a m).2.2)))]++q) by
  refine (T.amW ?_).alT ?_
  ·rintro r h' ⟨rfl,q,rfl⟩;have hc:=fun p=>alI s p
   refine ⟨?_,fun a ha=> .clo (hA a ha),fun a ha=> .clo (hD a ha),fun a ha=> .clo (hE a ha),fun a ha=> .clo (hc _ a ha),trivial⟩;unfold alJ vsA vcA;split
   ·simp only [Wv.BL, ↓reduceIte,Nat.reduceLeDiff]
   ·split<;>simp only [Wv.BL, ↓reduceIte,Nat.reduceLeDiff]
  ·rintro r h2 ⟨h',⟨rfl,q,rfl⟩,rfl⟩;exact ⟨rfl,rfl⟩
 have hq:((t:Int) - 1).tdiv 2=((t:Int) - 1) / 2:=Int.tdiv_eq_ediv_of_nonneg (by omega);obtain ⟨H,hH⟩: ∃ H:Int,H=((t:Int) - 1) / 2:=⟨_,rfl⟩
 have hHr:1≤H∧H≤1073741823:=by omega
 rw [←hH] at hq ⊢;have amA: ∀ a v b,alC s t a=some (v,b)→v<t∧b≤8*s.size:=fun a v b e=>⟨(alM e).1,(alM e).2.2⟩
 have hpos: ∀ i,(alD (alC s t) H sl ns vs a i).2.2≤8*s.size:=alW (fun a v b e=>(amA a v b e).2) ha;have TV:=fun i (h:ln i≤140737488351232)=>rvec_tc N t (ln i) (vs i) (by omega) (by omega) (by omega) h hN2
 have hvb: ∀ i,badV N t (ln i) (vs i)=!vecB N t (ln i) (vs i):=fun i=>(am4 hN).symm
 unfold parC vsA vcA roA at*;rw [hx] at*;refine Wv.HT.by 100 [0,4,11,1,2,39,12,43,10,54,14,58,16,70,3,18,81,15,17,13,8,9] [(7,7),(1000000,4)] [.tmp 8, .tmp 9] Tryz.func10 rfl rfl rfl ?base ?_
 case base=>rfl
 refine Wv.W ?_;refine call_TC TM rfl (cloA2 (.g hP) (.v _)) Wv.c ?_;by_cases h8:8<m
 ·simp (disch:=first|exact Wv.D|fail) only [Wv.B,simprocAttr,alA (show (m:Int)>8 by omega),alA h8,alJ,Bool.true_or,if_true];exact ⟨[_],rfl⟩
 simp (disch:=first|exact Wv.D|fail) only [Wv.B,simprocAttr,alB (show ¬ (m:Int)>8 by omega)];refine call_TC TA rfl Wv.c Wv.c ?_;cases ab with
 | false=>
  simp (disch:=first|exact Wv.D|fail) only [Wv.B,simprocAttr,alB h8,alJ,Bool.not_false,Bool.true_or,Bool.or_true,if_true];exact ⟨[_],rfl⟩
 | true=>
 have hasc:=fun i (hi:i<ns)=>hasc rfl hi
 rw [alB h8,Bool.not_true,Bool.false_or,Bool.false_or];refine Wv.W ?_;refine wfor (σ:=Nat) (fun i=>[(1, .t m 1 (tab m fun i=> .t (ln i) 1 (tab (ln i) fun j=> .v (.int .i64 (vs i j))))),(2, .t ns 1 (tab ns fun j=> .v (.int .i64 (sl j)))),(3, .ptr 3 0),(4, .ptr 4 0),(10, .v (.int .i64 t)),(12, .v (.int .i64 i))])
  (fun _=>[some (.blk A),some (.blk D),some (.blk E),some (.blk (rsC s a)),some (.blk [.v (.int .i64 N), .v (.int .u32 x.p), .v (.int .i64 x.r), .t x.ch.length 1 (x.ch.map fun (c:Nat)=> .v (.int .u32 c)), .v (.int .u32 x.sp), .v (.int .i64 x.wt), .v (.int .u32 x.er)])])
  (fun i=>i≤m∧ ∀ a,a<i→badV N t (ln a) (vs a)=false) (fun i=>m - i) 0 ⟨Nat.zero_le _,fun a h=>absurd h (Nat.not_lt_zero a)⟩ rfl Wv.V ?_
 rintro i ⟨hi,hgood⟩;by_cases hlt:i<m
 ·have e2:(i:Int)<m:=by omega
  have TV:=TV i (hln i hlt);have hvb:=hvb i;have hbad:badV N t (ln i) (vs i)=true→anyN m (fun i=>badV N t (ln i) (vs i))=true:=fun h=>by
   unfold anyN;exact List.any_eq_true.2 ⟨i,List.mem_range.2 hlt,h⟩
  generalize vecB N t (ln i) (vs i)=vb at*;simp (disch:=first|exact Wv.D|fail) only [Wv.B,simprocAttr,alA e2];refine call_TC TV rfl Wv.c Wv.c ?_;cases vb with
  | false=>
   simp (disch:=first|exact Wv.D|fail) only [Wv.B,simprocAttr,hbad hvb,alJ,if_true];exact ⟨[_],rfl⟩
  | true=>
   refine Wv.W ?_;refine k_next (i+1) ⟨by omega,fun a ha=>by by_cases q:a=i;exact q▸hvb;exact hgood a (by omega)⟩ (by omega) rfl Wv.V2
 obtain rfl:i=m:=by omega
 clear hlt;have hnb:anyN i (fun i=>badV N t (ln i) (vs i))=false:=by
  unfold anyN;refine List.any_eq_false.2 fun b hb=>?_
  rw [hgood b (List.mem_range.1 hb)];decide
 have hL: ∀ k,k<i→ln k=N:=fun k hk=>(bad_in (hgood k hk) hN).1
 rw [hnb];have hrows:(tab i fun i=>AV.t (ln i) 1 (tab (ln i) fun j=> .v (.int .i64 (vs i j))))=tab i fun b=> .t N 1 (tab N fun j=> .v (.int .i64 (vs b j))):=tab_congr fun b hb=>by rw [hL b hb]
 rw [hrows];simp (disch:=first|exact Wv.D|fail) only [Wv.B,simprocAttr,Int.lt_irrefl,decide_false];refine wforE (σ:=Nat) (fun k=>[(1, .t i 1 (tab i fun b=> .t N 1 (tab N fun j=> .v (.int .i64 (vs b j))))),(2, .t ns 1 (tab ns fun j=> .v (.int .i64 (sl j)))),(3, .ptr 3 0),(10, .v (.int .i64 t)),(13, .own 5 k),(14, .v (.int .i64 k))])
  (fun k=>[some (.blk A),some (.blk D),some (.blk E),some (.blk (rsC s (alD (alC s t) H sl ns vs a k).2.2)),some (.blk [.v (.int .i64 N), .v (.int .u32 x.p), .v (.int .i64 x.r), .t x.ch.length 1 (x.ch.map fun (c:Nat)=> .v (.int .u32 c)), .v (.int .u32 x.sp), .v (.int .i64 x.wt), .v (.int .u32 x.er)]),some (.arr 54 1 (tab k fun b=> .t N 1 (tab N fun j=> .v (.int .i64 ((alD (alC s t) H sl ns vs a k).2.1 b j)))) 0)])
  (fun k=>k≤i∧(alD (alC s t) H sl ns vs a k).1=true) (fun k=>i - k) 0 ⟨Nat.zero_le _,rfl⟩ ?_ ?_
 ·refine Ent.trans (Ent.nil 13 54 1 (by omega) rfl) (Ent.fit ?_);simp (disch:=first|exact Wv.D|fail) only [Wv.B,simprocAttr,alD]
 rintro k ⟨hk,hok⟩;by_cases hlt:k<i
 ·have e1:(k:Int)<i:=by omega
  have hMs:=alU hok;have hPk:=hpos k;simp (disch:=first|exact Wv.D|fail) only [Wv.B,simprocAttr,alA e1];refine wfor (σ:=Nat) (fun q=>[(1, .t i 1 (tab i fun b=> .t N 1 (tab N fun j=> .v (.int .i64 (vs b j))))),(2, .t ns 1 (tab ns fun j=> .v (.int .i64 (sl j)))),(3, .ptr 3 0),(10, .v (.int .i64 t)),(13, .own 5 k),(14, .v (.int .i64 k)),(15, .own 6 N),(16, .v (.int .i64 q))])
   (fun q=>[some (.blk A),some (.blk D),some (.blk E),some (.blk (rsC s (alF (alC s t) H sl (vs k) (alD (alC s t) H sl ns vs a k).2.2 q).2.2)),some (.blk [.v (.int .i64 N), .v (.int .u32 x.p), .v (.int .i64 x.r), .t x.ch.length 1 (x.ch.map fun (c:Nat)=> .v (.int .u32 c)), .v (.int .u32 x.sp), .v (.int .i64 x.wt), .v (.int .u32 x.er)]),some (.arr 54 1 (tab k fun b=> .t N 1 (tab N fun j=> .v (.int .i64 ((alD (alC s t) H sl ns vs a k).2.1 b j)))) 0),some (.arr 2 1 (tab N fun j=> .v (.int .i64 ((alF (alC s t) H sl (vs k) (alD (alC s t) H sl ns vs a k).2.2 q).2.1 j))) 0)])
   (fun q=>q≤ns∧(alF (alC s t) H sl (vs k) (alD (alC s t) H sl ns vs a k).2.2 q).1=true) (fun q=>ns - q) 0 ⟨Nat.zero_le _,rfl⟩ rfl Wv.V ?_
  rintro q ⟨hqn,alZ⟩;by_cases hltq:q<ns
  ·have e2:(q:Int)<ns:=by omega
   obtain ⟨z,hz⟩: ∃ z:Nat,sl q=z:=⟨(sl q).toNat,by have:=hasc q hltq;omega⟩
   have hzN:z<N:=by have:=hasc q hltq;omega
   have hPq:(alF (alC s t) H sl (vs k) (alD (alC s t) H sl ns vs a k).2.2 q).2.2≤8*s.size:=alV (fun a v b e=>(amA a v b e).2) hPk q;have hyes:=fun v b (e:alC s t (alF (alC s t) H sl (vs k) (alD (alC s t) H sl ns vs a k).2.2 q).2.2=some (v,b))=>amo alZ e
   have hno:alC s t (alF (alC s t) H sl (vs k) (alD (alC s t) H sl ns vs a k).2.2 q).2.2=none→alJ N i 4 false (alD (alC s t) H sl ns vs a i)= .tup [.v (.slice none 0 0), .v (.int .i64 4)]∧(alD (alC s t) H sl ns vs a i).2.2=(alF (alC s t) H sl (vs k) (alD (alC s t) H sl ns vs a k).2.2 q).2.2:=fun e=>by
    have h1:=amE alZ e;have h2:=amq (ns:=ns) (show (alF (alC s t) H sl (vs k) (alD (alC s t) H sl ns vs a k).2.2 (q+1)).1=false by rw [h1]) (by omega);rw [h2,h1] at hMs;have h3:=amd (m:=i) (show (alD (alC s t) H sl ns vs a (k+1)).1=false by rw [hMs]) (by omega);rw [h3,hMs];exact ⟨rfl,rfl⟩
   have hb2:=fun v b (e:alC s t (alF (alC s t) H sl (vs k) (alD (alC s t) H sl ns vs a k).2.2 q).2.2=some (v,b))=>(amA _ v b e).1
   generalize hRq:(alF (alC s t) H sl (vs k) (alD (alC s t) H sl ns vs a k).2.2 q)=rq at*;obtain ⟨okq,fq,pq⟩:=rq;simp only at hPq hyes hno hb2 alZ ⊢;subst alZ;have BL:=amN (h:=[some (.blk A),some (.blk D),some (.blk E),some (.blk (rsC s pq)),some (.blk [.v (.int .i64 N), .v (.int .u32 x.p), .v (.int .i64 x.r), .t x.ch.length 1 (x.ch.map fun (c:Nat)=> .v (.int .u32 c)), .v (.int .u32 x.sp), .v (.int .i64 x.wt), .v (.int .u32 x.er)]),some (.arr 54 1 (tab k fun b=> .t N 1 (tab N fun j=> .v (.int .i64 ((alD (alC s t) H sl ns vs a k).2.1 b j)))) 0),some (.arr 2 1 (tab N fun j=> .v (.int .i64 (fq j))) 0)]) (g:=3) t rfl hs hPq (by omega) (by omega);simp (disch:=first|exact Wv.D|fail) only [Wv.B,simprocAttr,alA e2,hz];refine call_HT (fst:=[]) (cap:=[]) BL ?_;rintro av h' ⟨rfl,rfl⟩;cases hb:alC s t pq with
   | none=>
    obtain ⟨h1,h2⟩:=hno hb;have hR1:alK s t pq= .tup [.v (.int .u64 0), .v (.int .i64 4)]:=by unfold alK;rw [hb]
    have hR2:alN s t pq=pq:=by unfold alN;rw [hb]
    simp (disch:=first|exact Wv.D|fail) only [Wv.B,simprocAttr,hR1,hR2,h1,h2,List.set_cons_succ,List.set_cons_zero];exact ⟨_,rfl⟩
   | some p=>
    obtain ⟨v,b⟩:=p;have hvt:=hb2 v b hb;have h1:=hyes v b hb;have hR1:alK s t pq= .tup [.v (.int .u64 v), .v (.int .i64 0)]:=by unfold alK;rw [hb]
    have hR2:alN s t pq=b:=by unfold alN;rw [hb]
    rw [hz] at h1;have hset:(tab N fun b=>if b=z then AV.v (.int .i64 ((v:Int) - H)) else .v (.int .i64 (fq b)))=tab N fun b=> .v (.int .i64 (if (b:Int)=(z:Int) then (v:Int) - H else fq b)):=tab_congr fun b _=>by
     by_cases w:b=z
     ·rw [if_pos w,if_pos (by omega)]
     ·rw [if_neg w,if_neg (by omega)]
    simp (disch:=first|exact Wv.D|fail) only [Wv.B,simprocAttr,hR1,hR2,hz,hq,List.set_cons_succ,List.set_cons_zero,tab_set,hset];refine k_next (q+1) ⟨by omega,by rw [h1]⟩ (by omega) (by simp (disch:=first|exact Wv.D|fail) only [Wv.B,simprocAttr,h1]) Wv.V2
  ·obtain rfl:q=ns:=by omega
   rw [alZ] at hMs;simp (disch:=first|exact Wv.D|fail) only [Wv.B,simprocAttr,Int.lt_irrefl,decide_false];generalize hRq:alF (alC s t) H sl (vs k) (alD (alC s t) H sl q vs a k).2.2 q=rq at*;obtain ⟨okq,fq,pq⟩:=rq;simp only at hMs alZ ⊢;have hset:((tab k fun b=>AV.t N 1 (tab N fun j=> .v (.int .i64 ((alD (alC s t) H sl q vs a k).2.1 b j))))++[AV.own 6 N]).set k (AV.t N 1 (tab N fun j=> .v (.int .i64 (fq j))))=tab (k+1) fun b=>AV.t N 1 (tab N fun j=> .v (.int .i64 (if b=k then fq j else (alD (alC s t) H sl q vs a k).2.1 b j))):=by
    rw [tab_snoc (f:=fun b=>AV.t N 1 (tab N fun j=> .v (.int .i64 (if b=k then fq j else (alD (alC s t) H sl q vs a k).2.1 b j)))),List.set_append_right k _ (by rw [tab_len];exact Nat.le_refl _),tab_len,Nat.sub_self];rw [tab_congr fun b (hb:b<k)=>(by simp only [if_neg (show ¬ b=k by omega)]:AV.t N 1 (tab N fun j=> .v (.int .i64 (if b=k then fq j else (alD (alC s t) H sl q vs a k).2.1 b j)))=AV.t N 1 (tab N fun j=> .v (.int .i64 ((alD (alC s t) H sl q vs a k).2.1 b j))))];simp only [if_true];rfl
   have hget:((tab k fun b=>AV.t N 1 (tab N fun j=> .v (.int .i64 ((alD (alC s t) H sl q vs a k).2.1 b j))))++[AV.own 6 N])[k]? =some (AV.own 6 N):=by
    rw [List.getElem?_append_right (by rw [tab_len];exact Nat.le_refl _),tab_len,Nat.sub_self];rfl
   have hrw: ∀ b j,(if b=k then fq else (alD (alC s t) H sl q vs a k).2.1 b) j=if b=k then fq j else (alD (alC s t) H sl q vs a k).2.1 b j:=fun b j=>by split<;>rfl
   have ani:=fun p=>alI s p
   have hsC: ∀ m p,loL m (rsC s p)=True:=fun m p=>eq_true fun a ha=> .clo (ani p a ha)
   refine k_turn (k+1) (Ent.trans (Ent.closeA 5 k (a:= .own 6 N) (a':= .t N 1 (tab N fun j=> .v (.int .i64 (fq j)))) rfl hget (if_pos (by rw [tab_len,Nat.mul_one])) rfl) (Ent.cutE 6 (by first | decide | exact Nat.le_of_ble_eq_true rfl) ?_ ?_ ?_ ?_)) ⟨by omega,by rw [hMs]⟩ (by omega)
   ·simp (disch:=first|exact Wv.D|fail) only [Wv.B,simprocAttr,Int.natCast_add,Int.natCast_one]
   ·simp only [Wv.BL, ↓reduceIte,Nat.reduceLeDiff]<;>omega
   ·simp only [List.set_cons_succ,List.set_cons_zero,List.take_succ_cons,List.take_zero,hset,hMs,hrw]
   ·simp only [Wv.BL, ↓reduceIte,Nat.reduceLeDiff,hAl,hDl,hEl,hsC,parL_lo]<;>omega
 ·obtain rfl:k=i:=by omega
  simp (disch:=first|exact Wv.D|fail) only [Wv.B,simprocAttr,Int.lt_irrefl,decide_false,alJ,hok,if_true,if_false,Bool.false_eq_true];exact ⟨rfl,_,rfl⟩
end
section
open Go.RowKit
theorem SliceAt.below {w w':World} {v:Value} {l:List Nat} (h:SliceAt w v l) (hb:Below w.heap.size w w'):SliceAt w' v l:=by
 obtain ⟨p,cap,h1,h2,h3,h4⟩:=h;exact ⟨p,cap,h1,h2,h3,fun hne=>by obtain ⟨b,off,e,hr⟩:=h4 hne;exact ⟨b,off,e,hr.below hb hr.blk⟩⟩
variable {pr:Nat→Bool}{x:Par}
theorem okB_dim (h:okB pr x=true):4≤x.n∧x.n≤32:=by
 have hd:isDim x.n=true:=by rw [okB_conds] at h;simp only [Bool.and_eq_true] at h;exact h.1
 have:=isDim_cases hd;omega
theorem bel_then {B:Nat} {a X w:World} (hb:Below X.heap.size X w) (h:Below B a X) (hB:B≤X.heap.size):Below B a w:=h.trans (hb.mono hB)
def modB (pr:Nat→Bool) (x:Par) (k:Int):Bool:=okB pr x && (decide (1≤k) && decide (k≤x.r))
def modErr (pr:Nat→Bool) (x:Par) (k:Int):Int:=if modB pr x k then 0 else 2
def modVal (pr:Nat→Bool) (x:Par) (k:Int):Nat:=if modB pr x k then powv pr x.n x.p k else 0
theorem mod_no {k:Int} (h:modB pr x k=false):modErr pr x k=2∧modVal pr x k=0:=by unfold modErr modVal;rw [h];exact ⟨rfl,rfl⟩
theorem mod_yes {k:Int} (h:modB pr x k=true):modErr pr x k=0∧modVal pr x k=powv pr x.n x.p k:=by unfold modErr modVal;rw [h];exact ⟨rfl,rfl⟩
theorem pmod_any (x:Par) (cv:Value) (k:Int) (w:World) (hx:ParOk x) (hcv:SliceAt w cv x.ch):
  Calls Tryz.prog 21 #[x.val cv, .int .i64 k] w fun r w'=>r= .returned (.tuple #[.int .i64 (modVal mPrime x k:Nat), .int .i64 (modErr mPrime x k)])∧Below w.heap.size w w':=by
 have hB:Hid (BoxP (w.alloc (.cells #[.int .i64 x.n, .int .u32 x.p, .int .i64 x.r,cv, .int .u32 x.sp, .int .i64 x.wt, .int .u32 x.er] 25)) w.heap.size x cv):=by constructor<;>simp [go_sem]
 have hbW:Hid (Below w.heap.size w (w.alloc (.cells #[.int .i64 x.n, .int .u32 x.p, .int .i64 x.r,cv, .int .u32 x.sp, .int .i64 x.wt, .int .u32 x.er] 25))):=(Below.refl _ _).alloc (Nat.le_refl _) _;have HS:Hid (SliceAt (w.alloc (.cells #[.int .i64 x.n, .int .u32 x.p, .int .i64 x.r,cv, .int .u32 x.sp, .int .i64 x.wt, .int .u32 x.er] 25)) cv x.ch):=hcv.below hbW.out;have hlt:w.heap.size<(w.alloc (.cells #[.int .i64 x.n, .int .u32 x.p, .int .i64 x.r,cv, .int .u32 x.sp, .int .i64 x.wt, .int .u32 x.er] 25)).heap.size:=by simp
 unfold Par.val;cases hok:okB mPrime x with
 | false=>
  have HC:Hid (chk mPrime x=2):=chk_two hok;have HR:Hid (modErr mPrime x k=2∧modVal mPrime x k=0):=mod_no (by unfold modB;rw [hok];rfl);clear hok;go_enter Tryz.func21,Tryz.ntmps21
  go_wp2_with fail
  refine (pcheck_any x cv _ hx HS.out).mono ?_;rintro e w1 ⟨rfl,hb1⟩;have y0:=(hB.out.below hb1 hlt).n;have y1:=(hB.out.below hb1 hlt).p;have y2:=(hB.out.below hb1 hlt).r;have HB1:=Lib.hid (bel_then hb1 hbW.out (by simp));clear hb1;rw [HC.out];go_wp2_with fail
  go_ret2
  exact ⟨by rw [HR.out.1,HR.out.2];rfl,HB1.out⟩
 | true=>
  have hd:=okB_dim hok;have hn4:=hd.1;have hn32:=hd.2;have HC:Hid (chk mPrime x=0):=chk_ok hok;clear hd;by_cases h1:k<1
  ·have HR:Hid (modErr mPrime x k=2∧modVal mPrime x k=0):=mod_no (by unfold modB;rw [alB (show ¬ 1≤k by omega)];simp);have d1:decide (k<1)=true:=alA h1;clear hok;go_enter Tryz.func21,Tryz.ntmps21
   go_wp2_with fail
   refine (pcheck_any x cv _ hx HS.out).mono ?_;rintro e w1 ⟨rfl,hb1⟩;have y0:=(hB.out.below hb1 hlt).n;have y1:=(hB.out.below hb1 hlt).p;have y2:=(hB.out.below hb1 hlt).r;have HB1:=Lib.hid (bel_then hb1 hbW.out (by simp));clear hb1;rw [HC.out];go_wp2_with fail
   go_ret2
   exact ⟨by rw [HR.out.1,HR.out.2];rfl,HB1.out⟩
  ·by_cases h2:x.r<k
   ·have HR:Hid (modErr mPrime x k=2∧modVal mPrime x k=0):=mod_no (by unfold modB;rw [alB (show ¬ k≤x.r by omega)];simp);have d1:decide (k<1)=false:=alB h1;have d2:decide (x.r<k)=true:=alA h2;clear hok;go_enter Tryz.func21,Tryz.ntmps21
    go_wp2_with fail
    refine (pcheck_any x cv _ hx HS.out).mono ?_;rintro e w1 ⟨rfl,hb1⟩;have y0:=(hB.out.below hb1 hlt).n;have y1:=(hB.out.below hb1 hlt).p;have y2:=(hB.out.below hb1 hlt).r;have HB1:=Lib.hid (bel_then hb1 hbW.out (by simp));clear hb1;rw [HC.out];go_wp2_with fail
    go_ret2
    exact ⟨by rw [HR.out.1,HR.out.2];rfl,HB1.out⟩
   ·have HR:Hid (modErr mPrime x k=0∧modVal mPrime x k=powv mPrime x.n x.p k):=mod_yes (by unfold modB;rw [hok,alA (show 1≤k by omega),alA (show k≤x.r by omega)];rfl);have d1:decide (k<1)=false:=alB h1;have d2:decide (x.r<k)=false:=alB h2;have hr1:=hx.r1;have hp1:=hx.p1;clear hok;go_enter Tryz.func21,Tryz.ntmps21
    go_wp2_with fail
    refine (pcheck_any x cv _ hx HS.out).mono ?_;rintro e w1 ⟨rfl,hb1⟩;have y0:=(hB.out.below hb1 hlt).n;have y1:=(hB.out.below hb1 hlt).p;have y2:=(hB.out.below hb1 hlt).r;have HB1:=Lib.hid (bel_then hb1 hbW.out (by simp));clear hb1;rw [HC.out];go_wp2_with fail
    refine (ppower_any _ _ _ _ hn4 hn32 hp1 (by omega) (by omega)).mono ?_;rintro e w2 ⟨rfl,hb2⟩;have HB2:=Lib.hid (HB1.out.trans (hb2.mono HB1.out.size));clear hb2;go_wp2_with fail
    go_ret2
    exact ⟨by rw [HR.out.1,HR.out.2];rfl,HB2.out⟩
end
section
open Go.RowKit Wv
theorem par_rep {X : Cx} {x : Par} {v : Value} (hlen : x.ch.length ≤ 140737488351232) (hrng : ∀ q, q ∈ x.ch → q < 4294967296) (h : Rep X (.g (parC x)) v) : ∃ cv, v = x.val cv ∧ SliceAt X.w cv x.ch := by
  cases h with
  | g hc hr =>
  rename_i cvs;unfold parC at hc hr;match cvs, hc with
  | [c0, c1, c2, c3, c4, c5, c6], _ =>
    have e0 := rep_v (hr 0 _ c0 rfl rfl);have e1 := rep_v (hr 1 _ c1 rfl rfl);have e2 := rep_v (hr 2 _ c2 rfl rfl);have e4 := rep_v (hr 4 _ c4 rfl rfl);have e5 := rep_v (hr 5 _ c5 rfl rfl);have e6 := rep_v (hr 6 _ c6 rfl rfl);have h3 := hr 3 _ c3 rfl rfl;subst e0 e1 e2 e4 e5 e6;refine ⟨c3, rfl, ?_⟩;cases h3 with
    | @t _ _ _ p cap cs hl hcs hn hcap hp hrr =>
      refine ⟨p, cap, rfl, hn, hlen, fun hne => ?_⟩;obtain ⟨b, off, rfl, hq⟩ := hp (List.length_pos_iff.2 hne);refine ⟨b, off, rfl, ?_⟩;have key : ∀ i (hi : i < x.ch.length), cellAt X.w b (off + i) = some (.int .u32 (x.ch[i] : Nat)) := fun i hi => by
       have hi2 : i < cs.length := by rw [hcs, List.length_map]; exact hi
       have h5 := hq i cs[i] (List.getElem?_eq_getElem hi2);have h6 := hrr i (.v (.int .u32 x.ch[i])) cs[i] (by rw [List.getElem?_map, List.getElem?_eq_getElem hi]; rfl) (List.getElem?_eq_getElem hi2);rw [rep_v h6] at h5;exact h5.1
      exact ⟨cellAt_lt (key 0 (List.length_pos_iff.2 hne)), key, hrng⟩
theorem pmodulus_tc (x:Par) (k:Int) (hx:ParOk x) (hlen:x.ch.length≤140737488351232) (hrng: ∀ q,q∈x.ch→q<4294967296):TC Tryz.prog 21 [.g (parC x), .v (.int .i64 k)] (.tup [.v (.int .i64 (modVal mPrime x k:Nat)), .v (.int .i64 (modErr mPrime x k))]):=by
 refine ⟨by kernel_rfl,fun X vs hX hbad hr=>?_⟩;obtain ⟨h1,h2⟩:=hr;match vs,h1 with
 | [v0,v1],_=>
  obtain ⟨cv,rfl,hs⟩:=par_rep hlen hrng (h2 0 _ v0 rfl rfl);have e1:=rep_v (h2 1 _ v1 rfl rfl);subst e1;refine (pmod_any x cv k X.w hx hs).mono ?_;rintro e w' ⟨rfl,hb⟩;refine ⟨_,rfl,hb,fun m=>?_⟩;exact .tup (cvs:=[_,_]) rfl (fun i a y q1 q2=>by
   match i with
   | 0=>simp at q1 q2;subst q1 q2;exact .v _
   | 1=>simp at q1 q2;subst q1 q2;exact .v _
   | i+2=>simp at q1)
end
section
open Go.RowKit
theorem rgood_quiet (n:Int) (t q:Nat) (w:World) (hn4:4≤n) (hn:n≤32) (ht0:0<t) (ht:t≤2147483647) (hq:q<4294967296):
  Calls Tryz.prog 88 #[.int .i64 n, .int .i64 t, .int .u32 q] w fun r w'=>r= .returned (.bool (goodS rPrime ((2*n).toNat*t) q))∧w'=w:=
 (rgood_any n t q w hn4 hn ht0 ht hq).mono fun _ _ ⟨h1,h2⟩=>⟨h1,h2.symm⟩
theorem okB_no {pr:Nat→Bool} {x:Par} (h:isDim x.n=false∨lenB x.ch.length=false∨wtB x=false∨ ¬ 0<x.t pr∨goodS pr (stepOf pr x) x.sp=false∨(∃ q,q∈x.ch∧badB pr (stepOf pr x) x.sp q=true)∨ ¬ x.ch.Nodup):chk pr x=2:=by
 have:okB pr x=false:=by
  rw [okB_conds];rcases h with h | h | h | h | h | ⟨q,hq,h⟩ | h
  ·rw [h];rfl
  ·unfold conds;rw [h];simp
  ·unfold conds;rw [h];simp
  ·unfold conds;rw [alB h];simp
  ·unfold conds;rw [h];simp
  ·have:x.ch.any (badB pr (stepOf pr x) x.sp)=true:=List.any_eq_true.2 ⟨q,hq,h⟩;unfold conds;rw [this];simp
  ·unfold conds;rw [alB h];simp
 unfold chk;rw [this];rfl
theorem okB_yes {pr:Nat→Bool} {x:Par} (h1:isDim x.n=true) (h2:lenB x.ch.length=true) (h3:wtB x=true) (h4:0<x.t pr) (h5:goodS pr (stepOf pr x) x.sp=true)
  (h6: ∀ q,q∈x.ch→badB pr (stepOf pr x) x.sp q=false) (h7:x.ch.Nodup):chk pr x=0:=by
 have:okB pr x=true:=by
  have hb:x.ch.any (badB pr (stepOf pr x) x.sp)=false:=by
   rw [List.any_eq_false];intro q hq;rw [h6 q hq];simp
  rw [okB_conds,h1];unfold conds;rw [h2,h3,h5,hb,alA h4,alA h7];rfl
 unfold chk;rw [this];rfl
theorem nodup_snoc {l:List Nat} {i:Nat} (hi:i<l.length) (h:(l.take i).Nodup) (hne: ∀ j (hj:j<i),l[j]'(by omega)≠l[i]):(l.take (i+1)).Nodup:=by
 rw [List.take_succ_eq_append_getElem hi,List.nodup_append];refine ⟨h,by simp,?_⟩;intro a ha b hb;simp at hb;subst hb;obtain ⟨j,hj,rfl⟩:=List.mem_iff_getElem.1 ha;rw [List.getElem_take];exact hne j (by simp at hj;omega)
theorem dup_no {l:List Nat} {i j:Nat} (hi:i<l.length) (hj:j<i) (h:l[j]'(by omega)=l[i]): ¬ l.Nodup:=by
 intro hn;exact (List.pairwise_iff_getElem.1 hn) j i (by omega) hi hj h
theorem rcheck_early (x:Par) (p:Option Addr) (cap:Nat) (w:World) (h:isDim x.n=false∨lenB x.ch.length=false∨wtB x=false):
  Calls Tryz.prog 50 #[x.val (.slice p x.ch.length cap)] w fun r w'=>r= .returned (.int .i64 (chk rPrime x))∧Below w.heap.size w w':=by
 have hR:Hid (chk rPrime x=2):=okB_no (by rcases h with h | h | h<;>simp [h]);have call:=fun wx=>(rdim_any x.n wx)
 have CALL:=Lib.hid call;clear call;unfold Par.val;cases hd:isDim x.n with
 | false=>
  clear h;go_enter Tryz.func50,Tryz.ntmps50
  go_wp2_with fail
  refine (CALL.out _).mono ?_;rintro e w1 ⟨rfl,rfl⟩;rw [hd];go_wp2_with fail
  go_ret
  exact ⟨ret_int (by rw [hR.out]),(Below.refl _ _).alloc (Nat.le_refl _) _⟩
 | true=>
  by_cases l1:1≤x.ch.length
  case neg=>
   have d1:decide ((x.ch.length:Int)<1)=true:=alA (by omega);clear h;go_enter Tryz.func50,Tryz.ntmps50
   go_wp2_with fail
   refine (CALL.out _).mono ?_;rintro e w1 ⟨rfl,rfl⟩;rw [hd];go_wp2_with fail
   go_ret
   exact ⟨ret_int (by rw [hR.out]),(Below.refl _ _).alloc (Nat.le_refl _) _⟩
  have d1:decide ((x.ch.length:Int)<1)=false:=alB (by omega);by_cases l2:x.ch.length≤24
  case neg=>
   have d2:decide ((24:Int)<x.ch.length)=true:=alA (by omega);clear h;go_enter Tryz.func50,Tryz.ntmps50
   go_wp2_with fail
   refine (CALL.out _).mono ?_;rintro e w1 ⟨rfl,rfl⟩;rw [hd];go_wp2_with fail
   go_ret
   exact ⟨ret_int (by rw [hR.out]),(Below.refl _ _).alloc (Nat.le_refl _) _⟩
  have d2:decide ((24:Int)<x.ch.length)=false:=alB (by omega);have hw3:wtB x=false:=by
   rcases h with h | h | h
   ·rw [h] at hd;simp at hd
   ·unfold lenB at h;simp at h;omega
   ·exact h
  clear h;by_cases m1:x.wt<1
  ·have e1:decide (x.wt<1)=true:=alA m1;clear hw3;go_enter Tryz.func50,Tryz.ntmps50
   go_wp2_with fail
   refine (CALL.out _).mono ?_;rintro e w1 ⟨rfl,rfl⟩;rw [hd];go_wp2_with fail
   go_ret
   exact ⟨ret_int (by rw [hR.out]),(Below.refl _ _).alloc (Nat.le_refl _) _⟩
  have e1:decide (x.wt<1)=false:=alB m1;by_cases m2:x.n<x.wt
  ·have e2:decide (x.n<x.wt)=true:=alA m2;clear hw3;go_enter Tryz.func50,Tryz.ntmps50
   go_wp2_with fail
   refine (CALL.out _).mono ?_;rintro e w1 ⟨rfl,rfl⟩;rw [hd];go_wp2_with fail
   go_ret
   exact ⟨ret_int (by rw [hR.out]),(Below.refl _ _).alloc (Nat.le_refl _) _⟩
  have e2:decide (x.n<x.wt)=false:=alB m2;have e3:decide ((64:Int)<x.er)=true:=by
   apply alA;unfold wtB at hw3;have:=of_decide_eq_false hw3;omega
  clear hw3;go_enter Tryz.func50,Tryz.ntmps50
  go_wp2_with fail
  refine (CALL.out _).mono ?_;rintro e w1 ⟨rfl,rfl⟩;rw [hd];go_wp2_with fail
  go_ret
  exact ⟨ret_int (by rw [hR.out]),(Below.refl _ _).alloc (Nat.le_refl _) _⟩
theorem rcheck_late (x:Par) (b off cap:Nat) (w:World) (hx:ParOk x) (hr:RowAt w b off x.ch) (hd:isDim x.n=true) (hl:lenB x.ch.length=true) (hw:wtB x=true):
  Calls Tryz.prog 50 #[x.val (.slice (some ⟨b,off,none⟩) x.ch.length cap)] w fun r w'=>r= .returned (.int .i64 (chk rPrime x))∧Below w.heap.size w w':=by
 obtain ⟨l1,l2⟩:=of_decide_eq_true hl;obtain ⟨m1,m2,m3⟩:=of_decide_eq_true hw;have HL:=Lib.hid hl;have HW:=Lib.hid hw;clear hl hw;have hn4:4≤x.n∧x.n≤32:=by have:=isDim_cases hd;omega
 obtain ⟨hn4,hn32⟩:=hn4;unfold Par.val;go_enter Tryz.func50,Tryz.ntmps50
 go_wp2_with fail
 refine (rdim_any _ _).mono ?_;rintro e w1 ⟨rfl,rfl⟩;rw [hd];go_wp2_with fail
 refine (rplain_any _ _ _ _ hn4 hn32 hx.p1 hx.r0 hx.r1).mono ?_;rintro e w1 ⟨rfl,rfl⟩;have htl:=powv_le rPrime x.n x.p x.r;have hT:Hid (x.t rPrime=powv rPrime x.n x.p x.r):=rfl;generalize powv rPrime x.n x.p x.r=t at htl hT ⊢;by_cases t0:t=0
 ·have hR:Hid (chk rPrime x=2):=okB_no (by rw [hT.out,t0];simp);have e0:((t:Int)==0)=true:=beq_iff_eq.2 (by omega);clear t0;go_wp2_with fail
  go_ret
  exact ⟨ret_int (by rw [hR.out]),(Below.refl _ _).alloc (Nat.le_refl _) _⟩
 have e0:((t:Int)==0)=false:=beq_eq_false_iff_ne.2 (by omega);have hst:Hid (stepOf rPrime x=(2*x.n).toNat*t):=by show _=_;unfold stepOf;rw [hT.out]
 have tpos:0<t:=by omega
 have htp:Hid (0<x.t rPrime):=by show _<_;rw [hT.out];exact tpos
 clear t0;cases hg:goodS rPrime ((2*x.n).toNat*t) x.sp with
 | false=>
  have hR:Hid (chk rPrime x=2):=okB_no (by rw [hst.out,hg];simp);go_wp2_with (go_at_call 88;refine (rgood_any _ _ _ _ hn4 hn32 tpos htl hx.sp1).mono ?_;rintro e w1 ⟨rfl,rfl⟩;rw [hg])
  go_ret
  exact ⟨ret_int (by rw [hR.out]),(Below.refl _ _).alloc (Nat.le_refl _) _⟩
 | true=>
  have HG:=Lib.hid hg;go_wp2_with (go_at_call 88;refine (rgood_any _ _ _ _ hn4 hn32 tpos htl hx.sp1).mono ?_;rintro e w1 ⟨rfl,rfl⟩;rw [hg])
  clear hg;have hB:BoxP (w.alloc (.cells #[.int .i64 x.n, .int .u32 x.p, .int .i64 x.r, .slice (some ⟨b,off,none⟩) x.ch.length cap, .int .u32 x.sp, .int .i64 x.wt, .int .u32 x.er] 25)) w.heap.size x (.slice (some ⟨b,off,none⟩) x.ch.length cap):=by
   constructor<;>simp [go_sem]
  have hbW:Below w.heap.size w (w.alloc (.cells #[.int .i64 x.n, .int .u32 x.p, .int .i64 x.r, .slice (some ⟨b,off,none⟩) x.ch.length cap, .int .u32 x.sp, .int .i64 x.wt, .int .u32 x.er] 25)):=(Below.refl _ _).alloc (Nat.le_refl _) _;have hsW:w.heap.size<(w.alloc (.cells #[.int .i64 x.n, .int .u32 x.p, .int .i64 x.r, .slice (some ⟨b,off,none⟩) x.ch.length cap, .int .u32 x.sp, .int .i64 x.wt, .int .u32 x.er] 25)).heap.size:=by simp
  generalize w.alloc (.cells #[.int .i64 x.n, .int .u32 x.p, .int .i64 x.r, .slice (some ⟨b,off,none⟩) x.ch.length cap, .int .u32 x.sp, .int .i64 x.wt, .int .u32 x.er] 25)=W at hB hbW hsW ⊢;have hrW:=hr.below hbW hr.blk;have HB:=Lib.hid hB;clear hB;go_loopw [4,5] (fun vi _ wr=> ∃ i:Nat,vi= .int .i64 i∧i≤x.ch.length∧Hid (∀ j (hj:j<i) (hj2:j<x.ch.length),badB rPrime ((2*x.n).toNat*t) x.sp x.ch[j]=false)∧Hid ((x.ch.take i).Nodup)∧Below W.heap.size W wr) (fun vi _ _=>x.ch.length - (intOf vi).toNat)
  case atStart=>exact ⟨0,rfl,by omega,by intro j hj;omega,by simp [Hid],Below.refl _ _⟩
  case round=>
   obtain ⟨i,rfl,hi,hgd,hnd,hbel⟩:=hrel;have hB:=HB.out.below hbel hsW;have k0:=hB.n;have k3:=hB.ch;have k4:=hB.sp;clear hB;by_cases hlt:i<x.ch.length
   ·have hq:=hr.rng x.ch[i] (List.getElem_mem hlt);have hci:=(hrW.below hbel hrW.blk).cell i hlt;obtain ⟨q,hqe⟩: ∃ q,q=x.ch[i]:=⟨_,rfl⟩
    rw [←hqe] at hq hci;have HQ:=Lib.hid hqe;clear hqe;have i0:(0:Int)≤i:=by omega
    have i1:(i:Int)<x.ch.length:=by omega
    cases hg:goodS rPrime ((2*x.n).toNat*t) q with
    | false=>
     have hR:Hid (chk rPrime x=2):=okB_no (by
      right;right;right;right;right;left;exact ⟨x.ch[i],List.getElem_mem hlt,by rw [hst.out, ←HQ.out];unfold badB;rw [hg];simp⟩)
     go_wp2_with fail
     go_quiet ((go_at_call 88;exact Calls.quiet_of_same (rgood_quiet _ _ _ _ hn4 hn32 tpos htl hq)))
     go_wp2_with fail
     go_ret
     exact ⟨ret_int (by rw [hR.out]),hbW.trans ((below_drewN hbel _).mono (by omega))⟩
    | true=>
     by_cases hsp:q<x.sp
     case neg=>
      have s1:decide ((x.sp:Int)≤q)=true:=alA (by omega);have s2:decide (x.sp≤q)=true:=alA (by omega);have hR:Hid (chk rPrime x=2):=okB_no (by
       right;right;right;right;right;left;exact ⟨x.ch[i],List.getElem_mem hlt,by rw [←HQ.out];unfold badB;rw [alB hsp];simp⟩)
      go_wp2_with fail
      go_quiet ((go_at_call 88;exact Calls.quiet_of_same (rgood_quiet _ _ _ _ hn4 hn32 tpos htl hq)))
      go_wp2_with fail
      go_ret
      exact ⟨ret_int (by rw [hR.out]),hbW.trans ((below_drewN hbel _).mono (by omega))⟩
     have s1:decide ((x.sp:Int)≤q)=false:=alB (by omega);have s2:decide (x.sp≤q)=false:=alB (by omega);have hgd':Hid (∀ j (hj:j<i+1) (hj2:j<x.ch.length),badB rPrime ((2*x.n).toNat*t) x.sp x.ch[j]=false):=by
      intro j hj hj2;by_cases e:j=i
      ·subst e;rw [←HQ.out];unfold badB;rw [hg,alA hsp];rfl
      ·exact hgd.out j (by omega) hj2
     clear hgd;go_wp2_with fail
     go_quiet ((go_at_call 88;exact Calls.quiet_of_same (rgood_quiet _ _ _ _ hn4 hn32 tpos htl hq)))
     go_wp2_with fail
     have hbel2:=below_drewN hbel nq;clear hbel hg;generalize wr.drewN nq=wr2 at hbel2 ⊢;go_loopw [5] (fun vk w2=> ∃ k:Nat,vk= .int .i64 k∧k≤i∧Hid (∀ j (hj:j<k) (hj2:j<x.ch.length),x.ch[j]≠q)∧Below W.heap.size W w2) (fun vk _=>i - (intOf vk).toNat)
     case atStart=>exact ⟨0,rfl,by omega,by intro j hj;omega,hbel2⟩
     case round=>
      obtain ⟨k,rfl,hk,hne,hbel3⟩:=hrel;have hB3:=HB.out.below hbel3 hsW;have j3:=hB3.ch;clear hB3;by_cases hlk:k<i
      ·have hck:=(hrW.below hbel3 hrW.blk).cell k (by omega);have hci3:=(hrW.below hbel3 hrW.blk).cell i (by omega);rw [←HQ.out] at hci3;obtain ⟨qk,hqk⟩: ∃ q,q=x.ch[k]:=⟨_,rfl⟩
       rw [←hqk] at hck;have HQK:=Lib.hid hqk;clear hqk;have k0:(0:Int)≤k:=by omega
       have k1:(k:Int)<x.ch.length:=by omega
       by_cases he:qk=q
       ·have e1:((qk:Int)==(q:Int))=true:=beq_iff_eq.2 (by omega);have hR:Hid (chk rPrime x=2):=okB_no (by
         right;right;right;right;right;right;exact dup_no hlt hlk (by rw [←HQK.out, ←HQ.out];exact he))
        clear he;go_wp2_with fail
        go_quiet (fail)
        go_wp2_with fail
        go_ret
        exact ⟨ret_int (by rw [hR.out]),hbW.trans ((below_drewN hbel3 _).mono (by omega))⟩
       ·have e1:((qk:Int)==(q:Int))=false:=beq_eq_false_iff_ne.2 (by omega);have hne':Hid (∀ j (hj:j<k+1) (hj2:j<x.ch.length),x.ch[j]≠q):=by
         intro j hj hj2;by_cases e:j=k
         ·subst e;rw [←HQK.out];exact he
         ·exact hne.out j (by omega) hj2
        clear hne he;go_wp2_with fail
        go_quiet (fail)
        go_wp2_with fail
        go_roundw
        case rel=>exact ⟨k+1,by go_num,by omega,hne',below_drewN hbel3 _⟩
        case measure=>simp [intOf];omega
      ·have hnd':Hid ((x.ch.take (i+1)).Nodup):=nodup_snoc hlt hnd.out (fun j hj=>by rw [←HQ.out];exact hne.out j (by omega) (by omega));clear hnd hne;go_wp2_with fail
       go_roundw
       case rel=>exact ⟨i+1,by go_num,by omega,hgd',hnd',hbel3⟩
       case measure=>simp [intOf];omega
   ·obtain rfl:i=x.ch.length:=by omega
    have hR:Hid (chk rPrime x=0):=okB_yes hd HL.out HW.out htp.out (by rw [hst.out];exact HG.out) (by
      intro q hq;obtain ⟨j,hj,rfl⟩:=List.mem_iff_getElem.1 hq;rw [hst.out];exact hgd.out j hj hj) (by have:=hnd.out;rwa [List.take_length] at this)
    clear hgd hnd;go_wp2_with fail
    go_ret
    exact ⟨ret_int (by rw [hR.out]),hbW.trans (hbel.mono (by omega))⟩
theorem rcheck_any (x:Par) (cv:Value) (w:World) (hx:ParOk x) (hcv:SliceAt w cv x.ch):
  Calls Tryz.prog 50 #[x.val cv] w fun r w'=>r= .returned (.int .i64 (chk rPrime x))∧Below w.heap.size w w':=by
 obtain ⟨p,cap,rfl,hcap,hcap2,hrow⟩:=hcv;cases hd:isDim x.n with
 | false=>exact rcheck_early x p cap w (.inl hd)
 | true=>
  cases hl:lenB x.ch.length with
  | false=>exact rcheck_early x p cap w (.inr (.inl hl))
  | true=>
   cases hw:wtB x with
   | false=>exact rcheck_early x p cap w (.inr (.inr hw))
   | true=>
    have hne:x.ch≠[]:=by
     intro h;have:=of_decide_eq_true hl;rw [h] at this;simp at this
    obtain ⟨b,off,rfl,hr⟩:=hrow hne;exact rcheck_late x b off cap w hx hr hd hl hw
end
section
structure RDa where
 r:Nat
 b1:Nat
 s1:Bool
 b2:Nat
 s2:Bool
 b3:Nat
 s3:Bool
def num (b:Nat) (s:Bool) (o:Nat):Nat:=cond s (b ^ o+1) (b ^ o - 1)
def gG (D:RDa) (o:Nat):Nat:=Nat.gcd (Nat.gcd (num D.b1 D.s1 o) (num D.b2 D.s2 o)) (num D.b3 D.s3 o)
def filt (D:RDa) (o q:Nat):Bool:=cond (Nat.beq (D.b1 ^ o % q) (sg D.s1 q)) (cond (Nat.beq (D.b2 ^ o % q) (sg D.s2 q)) (Nat.beq (D.b3 ^ o % q) (sg D.s3 q)) false) false
def bad (n:Nat):Bool:=cond (SPk 2 n) (cond (SPk 7 n) (cond (SPk 61 n) false true) true) true
def badOr (n:Nat):Bool:=cond (Nat.ble 2147483648 n) true (bad n)
def allT (n:Nat) (f:Nat→Bool):Bool:=Nat.rec true (fun k ih=>cond (f k) ih false) n
theorem allT_spec (f:Nat→Bool): ∀ n,allT n f=true→ ∀ k,k<n→f k=true:=by
 intro n;induction n with
 | zero=>intro _ k hk;omega
 | succ n ih=>
  intro h k hk;have e:allT (n+1) f=cond (f n) (allT n f) false:=rfl;rw [e] at h;cases hf:f n with
  | false=>rw [hf] at h;cases h
  | true=>
   rw [hf] at h;by_cases hkn:k=n
   ·rw [hkn];exact hf
   ·exact ih h k (by omega)
def allM (m:Nat) (f:Nat→Bool):Bool:=allT m fun hi=>allT 1000 fun lo=>f (hi*1000+lo)
theorem allM_spec (f:Nat→Bool) (m:Nat) (h:allM m f=true) (k:Nat) (hk:k<m*1000):f k=true:=by
 have h1:=allT_spec _ m h (k / 1000) (by omega);have h2:=allT_spec _ 1000 h1 (k % 1000) (by omega);have:k / 1000*1000+k % 1000=k:=by omega
 rw [this] at h2;exact h2
def strip1 (f:Nat) (fuel:Nat):Nat→Nat:=Nat.rec (fun g=>g) (fun _ ih g=>cond (Nat.beq (g % f) 0) (force (g / f) ih) g) fuel
theorem strip1_dvd {f q:Nat} (hq:Pr q) (hf:0<f) (hfq:f<q): ∀ fuel g,q∣g→q∣strip1 f fuel g:=by
 intro fuel;induction fuel with
 | zero=>intro g h;exact h
 | succ n ih=>
  intro g h;have e:strip1 f (n+1) g=cond (Nat.beq (g % f) 0) (strip1 f n (g / f)) g:=by
   show cond _ (force _ _) _=_;rw [force_eq];rfl
  rw [e];cases hb:Nat.beq (g % f) 0 with
  | false=>exact h
  | true=>
   have h0:g % f=0:=Nat.eq_of_beq_eq_true hb;apply ih;have hg:g=f*(g / f):=by have:=Nat.div_add_mod g f;omega
   rw [hg] at h;exact hq.euclid h (fun hc=>by have:=Nat.le_of_dvd hf hc;omega)
theorem strip1_pos {f:Nat}: ∀ fuel g,0<g→0<strip1 f fuel g:=by
 intro fuel;induction fuel with
 | zero=>intro g h;exact h
 | succ n ih=>
  intro g h;have e:strip1 f (n+1) g=cond (Nat.beq (g % f) 0) (strip1 f n (g / f)) g:=by
   show cond _ (force _ _) _=_;rw [force_eq];rfl
  rw [e];cases hb:Nat.beq (g % f) 0 with
  | false=>exact h
  | true=>
   have h0:g % f=0:=Nat.eq_of_beq_eq_true hb;apply ih;have hg:g=f*(g / f):=by have:=Nat.div_add_mod g f;omega
   rcases Nat.eq_zero_or_pos (g / f) with hz | hz
   ·rw [hz] at hg;omega
   ·exact hz
def strip:List Nat→Nat→Nat
 | [],g=>g
 | f::l,g=>force (strip1 f 8 g) (strip l)
theorem strip_dvd {q:Nat} (hq:Pr q): ∀ (l:List Nat) (g:Nat),(∀ f,f∈l→0<f∧f<q)→q∣g→q∣strip l g:=by
 intro l;induction l with
 | nil=>intro g _ h;exact h
 | cons f l ih=>
  intro g hl h;have e:strip (f::l) g=strip l (strip1 f 8 g):=by show force _ _=_;rw [force_eq]
  rw [e];have:=hl f (by simp);exact ih _ (fun f hf=>hl f (by simp [hf])) (strip1_dvd hq this.1 this.2 8 g h)
theorem strip_pos: ∀ (l:List Nat) (g:Nat),0<g→0<strip l g:=by
 intro l;induction l with
 | nil=>intro g h;exact h
 | cons f l ih=>
  intro g h;have e:strip (f::l) g=strip l (strip1 f 8 g):=by show force _ _=_;rw [force_eq]
  rw [e];exact ih _ (strip1_pos 8 g h)
def chkA (D:RDa) (l:List Nat) (k:Nat):Bool:=
 cond (Nat.ble k 1) true (force (oddp (k - 1)) fun o=>force (gG D o) fun G=>cond (Nat.ble G 32768) true
  (force (strip l G) fun R=>allT (R / 32768) fun m=>cond (Nat.beq (R % (m+1)) 0) (force (R / (m+1)*k) badOr) true))
def allA (D:RDa) (l:List Nat):Bool:=allM 66 fun k=>cond (Nat.beq (k % D.r) 0) (cond (Nat.beq (k % 2) 1) (chkA D l k) true) true
def goodX (x q:Nat):Bool:=cond (Nat.beq (2 ^ x % q) 1) (cond (Nat.beq (7 ^ x % q) 1) (Nat.beq (61 ^ x % q) 1) false) false
def findc (q:Nat) (c:Nat):Nat:=Nat.rec 1 (fun c ih=>cond (Nat.beq ((q - 1) % (c+1)) 0) (cond (goodX ((q - 1) / (c+1)) q) (c+1) ih) ih) c
def minimal (L q:Nat):Bool:=
 cond (goodX L q) (allT 181 fun d=>cond (Nat.beq (L % (d+1)) 0)
  (cond (cond (Nat.beq d 0) true (cond (goodX (L / (d+1)) q) false true)) (cond (Nat.beq (d+1) L) true (cond (goodX (d+1) q) false true)) false) true) false
def chkB (D:RDa) (q:Nat):Bool:=
 cond (filt D (oddp (q - 1)) q) (force ((q - 1) / findc q 30) fun L=>cond (cond (Nat.ble L 32768) (minimal L q) false) (allT (2147483647 / q / L+1) fun j=>
  force (1+L*j) fun k=>cond (Nat.beq (k % D.r) 0) (force (q*k) badOr) true) false) true
def allB (D:RDa):Bool:=allM 33 fun q=>cond (Nat.ble q 300) true (cond (Nat.ble 32769 q) true (cond (Nat.beq (q % 2) 1) (chkB D q) true))
def subs:List Nat→List Nat
 | []=>[1]
 | q::l=>subs l++(subs l).map (q* ·)
def chkC (D:RDa) (small:List Nat):Bool:=
 (allT 301 fun q=>cond (Nat.beq (q % 2) 1) (cond (Nat.ble q 2) true (cond (filt D (oddp (q - 1)) q) (small.any (Nat.beq q)) true)) true) &&
 (small.all fun q=>Nat.beq (2 ^ (q*(q - 1)) % (q*q)) 1 && !(Nat.beq (2 ^ (q - 1) % (q*q)) 1)) &&
 ((subs small).all fun n=>cond (Nat.beq (n % D.r) 0) (cond (Nat.beq n D.r) true (badOr n)) true)
def rd3:RDa:=⟨3,2,true,7,false,61,false⟩
def strip3:List Nat:=[3,19,83,131,283,563,619,691,859,971,1123,1259,1459,1483,1571,1627,1699,1811,1907,1979,2099,2131,2243,2467,2659,2803,2819,3163,3307,3491,3499,3547,3659,3779,3923,4051,4091,4283,4651,4987,5003,5011,5059,5099,5171,5227,5323,5563,5659,5843,5851,5939,6299,6691,6907,7019,7027,7243,7307,7451,7507,7523,7691,7699,8011,8147,8179,8291,8419,8539,8707,8867,8963,9043,9467,9491,9883,9931,10099,10139,10267,10331,10531,10723,10867,10883,10939,10979,11443,11483,11731,12227,12323,12347,12379,12491,12547,12907,13163,13411,13523,13691,13859,13907,14411,14563,14747,14843,14923,15083,15259,15307,15643,15739,15907,16091,16187,16267,16547,16763,16883,16931,17099,17107,17419,17443,17491,17827,17939,18059,18427,18539,18731,18787,19211,19267,19379,19403,19507,19603,19739,19963,20011,20347,20627,21059,21187,21227,21467,22067,22091,22123,22147,22307,22531,22571,22643,22651,22739,22811,22963,23099,23131,23603,24043,24083,24107,24251,24419,24547,24659,25147,25171,25667,25819,26099,26227,26339,26347,26459,26731,27011,27179,27611,27691,27739,27803,27947,28019,28307,28411,28643,28867,28979,29027,29363,29483,29851,30211,30259,30427,30491,30539,30763,30931,31219,31307,31379,31643,31723,31883,31891,32003,32059,32203,32371,32443]
def small3:List Nat:=[3,19,83,131,283]
theorem a3:allA rd3 strip3=true:=by decide+kernel
theorem b3:allB rd3=true:=by decide+kernel
theorem c3:chkC rd3 small3=true:=by decide+kernel
def rd5:RDa:=⟨5,4,true,49,true,61,false⟩
def strip5:List Nat:=[5,13,229,269,733,797,853,1181,1277,2309,2693,2749,3461,3533,3709,3877,4133,4373,4597,4861,5381,5669,5869,6173,6709,7573,7621,7789,8221,8501,8581,9029,9677,9901,10253,10853,11093,11549,11941,12277,12829,12941,13093,13789,13933,14437,14461,14717,15053,15277,15413,15629,15973,16229,16253,16421,16901,17093,17909,17981,18133,18413,18541,18749,18773,19141,19157,19661,20149,20261,20389,20509,21773,22109,22189,22853,22861,23917,23957,24197,24373,24709,24889,25189,25693,26501,26813,26981,27109,27653,27733,28069,28181,28229,28573,28661,28789,28793,29021,29077,29581,29917,30133,30253,30509,30637,30757,31013,31237,31541,32213]
def small5:List Nat:=[5,13,229,269]
theorem a5:allA rd5 strip5=true:=by decide+kernel
theorem b5:allB rd5=true:=by decide+kernel
theorem c5:chkC rd5 small5=true:=by decide+kernel
def rd11:RDa:=⟨11,2,true,7,true,61,true⟩
def strip11:List Nat:=[11,43,67,211,331,499,547,739,883,907,947,1019,1187,1283,1499,1523,1579,1619,1787,2003,2011,2179,2251,2339,2347,2531,2843,2963,3019,3067,3203,3259,3347,3467,3571,3691,3739,3803,3851,4019,4211,4363,4547,4603,4643,4691,5107,5147,5419,5483,5867,5923,6211,6323,6379,6619,6659,6763,6841,6883,6899,7043,7219,7331,7459,7547,7723,7907,7963,8059,8243,8387,8563,8731,8747,9011,9059,9283,9587,9739,9811,9851,10067,10091,10259,10459,10651,10987,11131,11491,11579,11827,11867,11923,11939,12107,12163,12251,13003,13043,13147,13267,13451,13763,13931,14051,14683,14779,14851,14891,14939,14947,15107,15187,15227,15443,15451,15667,15731,15971,16067,16139,16843,16979,17011,17033,17123,17291,17467,17483,17539,17579,17627,17683,17707,17971,17987,18211,18307,18379,18523,18587,18859,18979,19259,19387,19427,19483,19531,19819,19979,20147,20323,20507,20563,20707,20771,20899,21211,21379,21611,21683,21739,22003,22051,22171,22283,23003,23027,23251,23291,23339,23459,23563,24179,24371,24851,24859,25243,25307,25411,25603,25643,25771,26251,26387,26891,27091,27259,27427,27539,27763,27827,27883,28123,28211,28219,28403,28571,28603,28627,28723,28771,29059,29243,29339,29611,29803,30307,30347,30643,31019,31147,31627,31859,32027,32251,32299,32323,32363,32531,32603]
def small11:List Nat:=[11,43,67,211]
theorem a11:allA rd11 strip11=true:=by decide+kernel
theorem b11:allB rd11=true:=by decide+kernel
theorem c11:chkC rd11 small11=true:=by decide+kernel
def rd13:RDa:=⟨13,4,true,49,true,61,false⟩
def strip13:List Nat:=[5,13,229,269,733,797,853,1181,1277,2309,2693,2749,3461,3533,3709,3877,4133,4373,4597,4861,5381,5669,5869,6173,6709,7573,7621,7789,8221,8501,8581,9029,9677,9901,10253,10853,11093,11549,11941,12277,12829,12941,13093,13789,13933,14437,14461,14717,15053,15277,15413,15629,15973,16229,16253,16421,16901,17093,17909,17981,18133,18413,18541,18749,18773,19141,19157,19661,20149,20261,20389,20509,21773,22109,22189,22853,22861,23917,23957,24197,24373,24709,24889,25189,25693,26501,26813,26981,27109,27653,27733,28069,28181,28229,28573,28661,28789,28793,29021,29077,29581,29917,30133,30253,30509,30637,30757,31013,31237,31541,32213]
def small13:List Nat:=[5,13,229,269]
theorem a13:allA rd13 strip13=true:=by decide+kernel
theorem b13:allB rd13=true:=by decide+kernel
theorem c13:chkC rd13 small13=true:=by decide+kernel
end
section
structure Pass (n:Nat):Prop where
 lo:3≤n
 hi:n<2147483648
 odd:n % 2=1
 n7: ¬ 7∣n
 n61: ¬ 61∣n
 p2:SP 2 n=true
 p7:SP 7 n=true
 p61:SP 61 n=true
variable {n:Nat}
theorem Pass.not_bad (h:Pass n):badOr n=false:=by
 have e:Nat.ble 2147483648 n=false:=by
  cases hb:Nat.ble 2147483648 n with
  | false=>rfl
  | true=>have:=Nat.le_of_ble_eq_true hb;have:=h.hi;omega
 have hi:=h.hi;have lo:=h.lo;have e2:SPk 2 n=true:=by rw [←SPk_eq 2 n (by omega) (by omega)];exact h.p2
 have e7:SPk 7 n=true:=by rw [←SPk_eq 7 n (by omega) (by omega)];exact h.p7
 have e61:SPk 61 n=true:=by rw [←SPk_eq 61 n (by omega) (by omega)];exact h.p61
 unfold badOr bad;rw [e,e2,e7,e61];rfl
structure Signs (D:RDa) (n:Nat):Prop where
 h1:D.b1 ^ oddp (n - 1) % n=sg D.s1 n
 h2:D.b2 ^ oddp (n - 1) % n=sg D.s2 n
 h3:D.b3 ^ oddp (n - 1) % n=sg D.s3 n
variable {T a r:Nat}
theorem per {e:Nat} (hr:2≤r) (hT:a ^ T % r=1):a ^ e % r=a ^ (e % T) % r:=by
 conv=>lhs;rw [←Nat.div_add_mod e T,Nat.pow_add,Nat.mul_mod,pow_one_mul hr hT,Nat.one_mul,Nat.mod_mod]
theorem kind0 (hr:2≤r) (hT0:0<T) (hT:a ^ T % r=1) (hk: ∀ e,e<T→a ^ e % r≠r - 1) (hd:r∣n) (hn:0<n) (h:SP a n=true):a ^ oddp (n - 1) % n=sg false n:=by
 rcases SP_true h with h | ⟨i,_,h⟩
 ·exact h
 ·have:=down_neg hr hd hn h;rw [per hr hT] at this;exact absurd this (hk _ (Nat.mod_lt _ hT0))
theorem kind1 (hr:2≤r) (hT0:0<T) (hT2:T % 2=0) (hT:a ^ T % r=1) (hk1: ∀ e,e<T→e % 2=1→a ^ e % r≠1) (hk: ∀ e,e<T→e % 2=0→a ^ e % r≠r - 1)
  (hodd:oddp (n - 1) % 2=1) (hd:r∣n) (hn:0<n) (h:SP a n=true):a ^ oddp (n - 1) % n=sg true n:=by
 rcases SP_true h with h | ⟨i,_,h⟩
 ·have:=down_one hr hd h;rw [per hr hT] at this;exact absurd this (hk1 _ (Nat.mod_lt _ hT0) (by rw [Nat.mod_mod_of_dvd _ (Nat.dvd_of_mod_eq_zero hT2)];exact hodd))
 ·cases i with
  | zero=>rw [Nat.pow_zero,Nat.mul_one] at h;exact h
  | succ i=>
   have:=down_neg hr hd hn h;rw [per hr hT] at this;refine absurd this (hk _ (Nat.mod_lt _ hT0) ?_);rw [Nat.mod_mod_of_dvd _ (Nat.dvd_of_mod_eq_zero hT2),Nat.pow_succ, ←Nat.mul_assoc];omega
theorem kind2 (hr:2≤r) (hT0:0<T) (hT4:T % 4=0) (hT:a ^ T % r=1) (hk1: ∀ e,e<T→e % 2=1→a ^ e % r≠1∧a ^ e % r≠r - 1) (hk: ∀ e,e<T→e % 4=0→a ^ e % r≠r - 1)
  (hodd:oddp (n - 1) % 2=1) (hd:r∣n) (hn:0<n) (h:SP a n=true):(a*a) ^ oddp (n - 1) % n=sg true n:=by
 have hT2:T % 2=0:=by omega
 have ho:=hk1 _ (Nat.mod_lt (oddp (n - 1)) hT0) (by rw [Nat.mod_mod_of_dvd _ (Nat.dvd_of_mod_eq_zero hT2)];exact hodd);rcases SP_true h with h | ⟨i,_,h⟩
 ·have:=down_one hr hd h;rw [per hr hT] at this;exact absurd this ho.1
 ·rcases i with _ | _ | i
  ·have:=down_neg hr hd hn h;rw [Nat.pow_zero,Nat.mul_one,per hr hT] at this;exact absurd this ho.2
  ·rw [Nat.mul_comm,Nat.pow_mul] at h;rw [←Nat.pow_two];exact h
  ·have:=down_neg hr hd hn h;rw [per hr hT] at this;refine absurd this (hk _ (Nat.mod_lt _ hT0) ?_);rw [Nat.mod_mod_of_dvd _ (Nat.dvd_of_mod_eq_zero hT4),Nat.pow_succ,Nat.pow_succ,Nat.mul_assoc, ←Nat.mul_assoc (oddp (n - 1))];omega
theorem Pass.odd1 (h:Pass n):oddp (n - 1) % 2=1∧oddp (n - 1)*2 ^ twos (n - 1)=n - 1:=odd_spec (by have:=h.lo;omega) (by have:=h.hi;omega)
theorem signs3 (h : Pass n) (hd : 3 ∣ n) : Signs rd3 n :=
  ⟨kind1 (T := 2) (by decide) (by decide) (by decide) (by decide) (by decide) (by decide) h.odd1.1 hd (by have := h.lo; omega) h.p2,
   kind0 (T := 2) (by decide) (by decide) (by decide) (by decide) hd (by have := h.lo; omega) h.p7,
   kind0 (T := 2) (by decide) (by decide) (by decide) (by decide) hd (by have := h.lo; omega) h.p61⟩
theorem signs5 (h : Pass n) (hd : 5 ∣ n) : Signs rd5 n :=
  ⟨kind2 (a := 2) (T := 4) (by decide) (by decide) (by decide) (by decide) (by decide) (by decide) h.odd1.1 hd (by have := h.lo; omega) h.p2,
   kind2 (a := 7) (T := 4) (by decide) (by decide) (by decide) (by decide) (by decide) (by decide) h.odd1.1 hd (by have := h.lo; omega) h.p7,
   kind0 (T := 4) (by decide) (by decide) (by decide) (by decide) hd (by have := h.lo; omega) h.p61⟩
theorem signs11 (h : Pass n) (hd : 11 ∣ n) : Signs rd11 n :=
  ⟨kind1 (T := 10) (by decide) (by decide) (by decide) (by decide) (by decide) (by decide) h.odd1.1 hd (by have := h.lo; omega) h.p2,
   kind1 (T := 10) (by decide) (by decide) (by decide) (by decide) (by decide) (by decide) h.odd1.1 hd (by have := h.lo; omega) h.p7,
   kind1 (T := 10) (by decide) (by decide) (by decide) (by decide) (by decide) (by decide) h.odd1.1 hd (by have := h.lo; omega) h.p61⟩
theorem signs13 (h : Pass n) (hd : 13 ∣ n) : Signs rd13 n :=
  ⟨kind2 (a := 2) (T := 12) (by decide) (by decide) (by decide) (by decide) (by decide) (by decide) h.odd1.1 hd (by have := h.lo; omega) h.p2,
   kind2 (a := 7) (T := 12) (by decide) (by decide) (by decide) (by decide) (by decide) (by decide) h.odd1.1 hd (by have := h.lo; omega) h.p7,
   kind0 (T := 12) (by decide) (by decide) (by decide) (by decide) hd (by have := h.lo; omega) h.p61⟩
def Bases (D:RDa):Prop:= ∀ b,b=D.b1∨b=D.b2∨b=D.b3→2≤b∧ ∀ q,Pr q→q≠2→q≠7→q≠61→ ¬ q∣b
theorem pr2:Pr 2:=⟨by decide,by intro m hm;have:=Nat.le_of_dvd (by decide) hm;rcases (show m=0∨m=1∨m=2 by omega) with rfl | rfl | rfl<;>simp_all⟩
theorem pr_small {p:Nat} (h2:2≤p) (h: ∀ m,m≤p→m∣p→m=1∨m=p):Pr p:=⟨h2,fun m hm=>h m (Nat.le_of_dvd (by omega) hm) hm⟩
theorem pr7:Pr 7:=pr_small (by decide) (by decide)
theorem pr61:Pr 61:=pr_small (by decide) (by decide)
variable {q:Nat}
theorem pr_eq {p:Nat} (hp:Pr p) (hq:Pr q) (h:q∣p):q=p:=by
 rcases hp.2 q h with h | h
 ·have:=hq.1;omega
 ·exact h
theorem not_dvd_a (hq:Pr q) (h2:q≠2) (h7:q≠7) (h61:q≠61): ¬ q∣2∧ ¬ q∣7∧ ¬ q∣61:=
 ⟨fun h=>h2 (pr_eq pr2 hq h),fun h=>h7 (pr_eq pr7 hq h),fun h=>h61 (pr_eq pr61 hq h)⟩
variable {b:Nat}
theorem not_dvd_mul (hq:Pr q) (ha: ¬ q∣a) (hb: ¬ q∣b): ¬ q∣a*b:=fun h=>hb (hq.euclid h ha)
theorem bases_of {D:RDa} (h: ∀ b,b=D.b1∨b=D.b2∨b=D.b3→b=2∨b=7∨b=61∨b=2*2∨b=7*7):Bases D:=by
 intro b hb;rcases h b hb with rfl | rfl | rfl | rfl | rfl
 ·exact ⟨by decide,fun q hq h2 h7 h61=>(not_dvd_a hq h2 h7 h61).1⟩
 ·exact ⟨by decide,fun q hq h2 h7 h61=>(not_dvd_a hq h2 h7 h61).2.1⟩
 ·exact ⟨by decide,fun q hq h2 h7 h61=>(not_dvd_a hq h2 h7 h61).2.2⟩
 ·exact ⟨by decide,fun q hq h2 h7 h61=>not_dvd_mul hq (not_dvd_a hq h2 h7 h61).1 (not_dvd_a hq h2 h7 h61).1⟩
 ·exact ⟨by decide,fun q hq h2 h7 h61=>not_dvd_mul hq (not_dvd_a hq h2 h7 h61).2.1 (not_dvd_a hq h2 h7 h61).2.1⟩
theorem bases3:Bases rd3:=bases_of (by intro b hb;simp [rd3] at hb;omega)
theorem bases5:Bases rd5:=bases_of (by intro b hb;simp [rd5] at hb;omega)
theorem bases11:Bases rd11:=bases_of (by intro b hb;simp [rd11] at hb;omega)
theorem bases13:Bases rd13:=bases_of (by intro b hb;simp [rd13] at hb;omega)
variable {s:Bool}
theorem full {d t:Nat}  (hn:2≤n) (ht:1≤t) (hd:d*2 ^ t=n - 1) (h:b ^ d % n=sg s n):b ^ (n - 1) % n=1:=by
 obtain ⟨u,rfl⟩: ∃ u,t=u+1:=⟨t - 1,by omega⟩
 have e:n - 1=d*2*2 ^ u:=by rw [←hd,Nat.pow_succ,Nat.mul_comm (2 ^ u) 2,Nat.mul_assoc]
 rw [e];apply pow_one_mul hn;rw [Nat.pow_mul,Nat.pow_two];cases s with
 | true=>exact neg_sq hn h
 | false=>
  have h':b ^ d % n=1:=h;rw [Nat.mul_mod,h'];exact Nat.mod_eq_of_lt (by omega)
theorem Pass.two (h:Pass n):1≤twos (n - 1):=by
 have h1:=h.odd1;rcases Nat.eq_zero_or_pos (twos (n - 1)) with hz | hz
 ·rw [hz,Nat.pow_zero,Nat.mul_one] at h1;have:=h.odd;omega
 ·exact hz
structure PrOf (q n:Nat):Prop where
 pr:Pr q
 dvd:q∣n
 ge3:3≤q
 ne:q≠2∧q≠7∧q≠61
theorem Pass.prOf (h:Pass n) (hq:Pr q) (hd:q∣n):PrOf q n:=by
 have h2:q≠2:=by
  intro e;subst e;have:=h.odd;omega
 refine ⟨hq,hd,by have:=hq.1;omega,h2,?_,?_⟩
 ·intro e;subst e;exact h.n7 hd
 ·intro e;subst e;exact h.n61 hd
variable {o y:Nat}
theorem filt_of {D:RDa} {s:Nat} (hP:Pass n) (hS:Signs D n) (hq:PrOf q n) (ho:o % 2=1) (hy:o*2 ^ s=y)
  (h1:D.b1 ^ y % q=1) (h2:D.b2 ^ y % q=1) (h3:D.b3 ^ y % q=1):
  D.b1 ^ o % q=sg D.s1 q∧D.b2 ^ o % q=sg D.s2 q∧D.b3 ^ o % q=sg D.s3 q:=by
 have hn:0<n:=by have:=hP.lo;omega
 have hq2:=hq.pr.1;exact ⟨transfer hq.pr hq.ge3 hP.odd1.1 ho hy (down_sg hq2 hq.dvd hn hS.h1) h1,
  transfer hq.pr hq.ge3 hP.odd1.1 ho hy (down_sg hq2 hq.dvd hn hS.h2) h2,
  transfer hq.pr hq.ge3 hP.odd1.1 ho hy (down_sg hq2 hq.dvd hn hS.h3) h3⟩
theorem filt_true {D:RDa}  (h:D.b1 ^ o % q=sg D.s1 q∧D.b2 ^ o % q=sg D.s2 q∧D.b3 ^ o % q=sg D.s3 q):filt D o q=true:=by
 unfold filt;rw [h.1,h.2.1,h.2.2,Nat.beq_refl,Nat.beq_refl,Nat.beq_refl];rfl
theorem filt_q {D:RDa}  (hP:Pass n) (hS:Signs D n) (hB:Bases D) (hq:PrOf q n) (hlt:q<4294967296):filt D (oddp (q - 1)) q=true:=by
 have ho:=odd_spec (m:=q - 1) (by have:=hq.ge3;omega) (by omega);have fer: ∀ b,b=D.b1∨b=D.b2∨b=D.b3→b ^ (q - 1) % q=1:=fun b hb=>hq.pr.fermat ((hB b hb).2 q hq.pr hq.ne.1 hq.ne.2.1 hq.ne.2.2)
 exact filt_true (filt_of hP hS hq ho.1 ho.2 (fer _ (by simp)) (fer _ (by simp)) (fer _ (by simp)))
theorem at_k {k:Nat} (hq:PrOf q n) (hn:n=q*k) (hk:1≤k) (hb: ¬ q∣b) (h:b ^ (n - 1) % n=1):b ^ (k - 1) % q=1:=by
 have h1:=down_one hq.pr.1 hq.dvd h;have e:n - 1=(q - 1)*k+(k - 1):=by
  obtain ⟨p,rfl⟩: ∃ p,q=p+1:=⟨q - 1,by have:=hq.ge3;omega⟩
  rw [hn,Nat.add_sub_cancel,Nat.add_mul,Nat.one_mul];omega
 rw [e] at h1;exact pow_one_add (pow_one_mul hq.pr.1 (hq.pr.fermat hb) k) h1
theorem num_dvd (hq:2≤q) (h:b ^ o % q=sg s q):q∣num b s o:=by
 cases s with
 | false=>exact dvd_of_one h
 | true=>
  have h':b ^ o % q=q - 1:=h;show q∣b ^ o+1;have:=Nat.div_add_mod (b ^ o) q;rw [h'] at this;exact ⟨b ^ o / q+1,by rw [Nat.mul_add,Nat.mul_one];omega⟩
theorem num_pos (hb:2≤b) (ho:o % 2=1):0<num b s o:=by
 cases s with
 | true=>exact Nat.succ_pos _
 | false=>
  show 0<b ^ o - 1;have h1:b ^ 1≤b ^ o:=Nat.pow_le_pow_right (by omega) (by omega);rw [Nat.pow_one] at h1;omega
theorem caseA {D:RDa} {l:List Nat}  (hP:Pass n) (hS:Signs D n) (hB:Bases D) (hrp:Pr D.r) (hr:D.r∣n) (hA:allA D l=true) (hl: ∀ f,f∈l→0<f∧f≤32768) (hq:PrOf q n) (hlt:32768<q) (hrq:D.r≠q):False:=by
 obtain ⟨k,hk⟩:=hq.dvd;have hn:=hP.hi;have hlo:=hP.lo;have hk1:1≤k:=by
  rcases Nat.eq_zero_or_pos k with h | h
  ·rw [h] at hk;omega
  ·exact h
 have hrk:D.r∣k:=by
  rw [hk] at hr;exact hrp.euclid hr (fun h=>hrq (pr_eq hq.pr hrp h))
 have hkr:D.r≤k:=Nat.le_of_dvd (by omega) hrk;have hr2:=hrp.1;have hkb:k<66000:=by
  apply Classical.byContradiction;intro hc;have:32769*66000≤q*k:=Nat.mul_le_mul (by omega) (by omega);omega
 have hkodd:k % 2=1:=by
  have h:=hP.odd;rw [hk,Nat.mul_mod] at h;rcases Nat.mod_two_eq_zero_or_one k with h0 | h0
  ·rw [h0] at h;simp at h
  ·exact h0
 have hc:=allM_spec _ _ hA k hkb;rw [show Nat.beq (k % D.r) 0=true by rw [Nat.mod_eq_zero_of_dvd hrk];rfl,show Nat.beq (k % 2) 1=true by rw [hkodd];rfl] at hc;have hc:chkA D l k=true:=hc;unfold chkA at hc;rw [show Nat.ble k 1=false by
  cases hb:Nat.ble k 1 with
  | false=>rfl
  | true=>have:=Nat.le_of_ble_eq_true hb;omega] at hc
 have hc:force (oddp (k - 1)) (fun o=>force (gG D o) fun G=>cond (Nat.ble G 32768) true
  (force (strip l G) fun R=>allT (R / 32768) fun m=>cond (Nat.beq (R % (m+1)) 0) (force (R / (m+1)*k) badOr) true))=true:=hc
 rw [force_eq,force_eq] at hc;have ho:=odd_spec (m:=k - 1) (by omega) (by omega);have full': ∀ b s,(b=D.b1∨b=D.b2∨b=D.b3)→b ^ oddp (n - 1) % n=sg s n→b ^ (k - 1) % q=1:=fun b s hb h=>
  at_k hq hk hk1 ((hB b hb).2 q hq.pr hq.ne.1 hq.ne.2.1 hq.ne.2.2) (full (by omega) hP.two hP.odd1.2 h)
 obtain ⟨f1,f2,f3⟩:=filt_of hP hS hq ho.1 ho.2 (full' _ _ (by simp) hS.h1) (full' _ _ (by simp) hS.h2) (full' _ _ (by simp) hS.h3);have hq2:=hq.pr.1;have hG:q∣gG D (oddp (k - 1)):=Nat.dvd_gcd (Nat.dvd_gcd (num_dvd hq2 f1) (num_dvd hq2 f2)) (num_dvd hq2 f3);have hG0:0<gG D (oddp (k - 1)):=Nat.gcd_pos_of_pos_right _ (num_pos (hB _ (by simp)).1 ho.1);generalize gG D (oddp (k - 1))=G at hc hG hG0;cases hb:Nat.ble G 32768 with
 | true=>
  have h1:=Nat.le_of_ble_eq_true hb;have h2:=Nat.le_of_dvd hG0 hG;omega
 | false=>
  rw [hb] at hc;have hc:force (strip l G) (fun R=>allT (R / 32768) fun m=>cond (Nat.beq (R % (m+1)) 0) (force (R / (m+1)*k) badOr) true)=true:=hc;rw [force_eq] at hc;have hR:=strip_dvd hq.pr l G (fun f hf=>⟨(hl f hf).1,by have:=(hl f hf).2;omega⟩) hG;have hR0:=strip_pos l G hG0;generalize strip l G=R at hc hR hR0;obtain ⟨m,hm⟩:=hR;have hm1:1≤m:=by
   rcases Nat.eq_zero_or_pos m with h | h
   ·rw [h] at hm;omega
   ·exact h
  have hle:m≤R / 32768:=by
   rw [Nat.le_div_iff_mul_le (by omega),hm,Nat.mul_comm q];exact Nat.mul_le_mul_left m (by omega)
  have h5:=allT_spec _ _ hc (m - 1) (by omega);rw [show m - 1+1=m by omega,show R % m=0 by rw [hm];exact Nat.mul_mod_left q m] at h5;have h5:force (R / m*k) badOr=true:=h5;rw [force_eq,show R / m=q by rw [hm];exact Nat.mul_div_cancel q (by omega), ←hk,hP.not_bad] at h5;cases h5
variable {x:Nat}
theorem good_iff :goodX x q=true↔2 ^ x % q=1∧7 ^ x % q=1∧61 ^ x % q=1:=by
 unfold goodX;constructor
 ·intro h;cases h1:Nat.beq (2 ^ x % q) 1 with
  | false=>rw [h1] at h;cases h
  | true=>
   cases h2:Nat.beq (7 ^ x % q) 1 with
   | false=>rw [h1,h2] at h;cases h
   | true=>
    rw [h1,h2] at h;exact ⟨Nat.eq_of_beq_eq_true h1,Nat.eq_of_beq_eq_true h2,Nat.eq_of_beq_eq_true h⟩
 ·rintro ⟨h1,h2,h3⟩;rw [h1,h2,h3];rfl
theorem goodX_dvd (hq:2≤q) (h:goodX x q=true) (hd:x∣y):goodX y q=true:=by
 obtain ⟨h1,h2,h3⟩:=good_iff.1 h;exact good_iff.2 ⟨pow_one_dvd hq h1 hd,pow_one_dvd hq h2 hd,pow_one_dvd hq h3 hd⟩
theorem goodX_gcd (hq:2≤q) (h:goodX x q=true) (h':goodX y q=true):goodX (Nat.gcd x y) q=true:=by
 obtain ⟨h1,h2,h3⟩:=good_iff.1 h;obtain ⟨g1,g2,g3⟩:=good_iff.1 h';exact good_iff.2 ⟨pow_gcd hq _ _ h1 g1,pow_gcd hq _ _ h2 g2,pow_gcd hq _ _ h3 g3⟩
theorem minimal_dvd {L:Nat} (hq:2≤q) (hL0:0<L) (hL:L≤32768) (hm:minimal L q=true) (hy:goodX y q=true):L∣y:=by
 unfold minimal at hm;cases hg:goodX L q with
 | false=>rw [hg] at hm;cases hm
 | true=>
  rw [hg] at hm;have hm:allT 181 (fun d=>cond (Nat.beq (L % (d+1)) 0) (cond (cond (Nat.beq d 0) true (cond (goodX (L / (d+1)) q) false true)) (cond (Nat.beq (d+1) L) true (cond (goodX (d+1) q) false true)) false) true)=true:=hm;have hall: ∀ d,d<181→L % (d+1)=0→(d=0∨goodX (L / (d+1)) q=false)∧(d+1=L∨goodX (d+1) q=false):=by
   intro d hd h0;have h:=allT_spec _ 181 hm d hd;rw [h0] at h;have h:cond (cond (Nat.beq d 0) true (cond (goodX (L / (d+1)) q) false true)) (cond (Nat.beq (d+1) L) true (cond (goodX (d+1) q) false true)) false=true:=h;constructor
   ·cases hb:Nat.beq d 0 with
    | true=>exact .inl (Nat.eq_of_beq_eq_true hb)
    | false=>
     right;rw [hb] at h;cases hx:goodX (L / (d+1)) q with
     | false=>rfl
     | true=>rw [hx] at h;cases h
   ·cases hb:Nat.beq (d+1) L with
    | true=>exact .inl (Nat.eq_of_beq_eq_true hb)
    | false=>
     right;cases hx:goodX (d+1) q with
     | false=>rfl
     | true=>
      rw [hb,hx] at h;cases hc1:cond (Nat.beq d 0) true (cond (goodX (L / (d+1)) q) false true) with
      | true=>rw [hc1] at h;cases h
      | false=>rw [hc1] at h;cases h
  have hgg:=goodX_gcd hq hg hy;obtain ⟨m,hm'⟩:=Nat.gcd_dvd_left L y;by_cases h1:m=1
  ·rw [h1,Nat.mul_one] at hm';rw [hm'];exact Nat.gcd_dvd_right L y
  ·exfalso;have hm0:m≠0:=by intro e;rw [e] at hm';omega
   obtain ⟨p,hp,hpm⟩:=exists_pr m (by omega);obtain ⟨c,hc⟩:=hpm;have hLp:L=p*(Nat.gcd L y*c):=by
    rw [hc] at hm';rw [Nat.mul_left_comm];exact hm'
   have hp0:=hp.1;have hdiv:L / p=Nat.gcd L y*c:=by
    have:p*(Nat.gcd L y*c) / p=Nat.gcd L y*c:=Nat.mul_div_cancel_left _ (by omega);rw [←hLp] at this;exact this
   have hgood:goodX (L / p) q=true:=by rw [hdiv];exact goodX_dvd hq hgg (Nat.dvd_mul_right _ _)
   by_cases hp181:p≤181
   ·have hmod:L % p=0:=by rw [hLp];exact Nat.mul_mod_right _ _
    have:=(hall (p - 1) (by omega) (by rw [show p - 1+1=p by omega];exact hmod)).1;rw [show p - 1+1=p by omega,hgood] at this;rcases this with h | h
    ·omega
    ·cases h
   ·have he:L / p≤180:=by
     have:L / p≤32768 / 182:=Nat.le_trans (Nat.div_le_div_right hL) (Nat.div_le_div_left (by omega) (by omega));omega
    have hLe:L=p*(L / p):=by rw [hdiv];exact hLp
    have he0:0<L / p:=by
     rcases Nat.eq_zero_or_pos (L / p) with h | h
     ·rw [h] at hLe;omega
     ·exact h
    have hmod:L % (L / p)=0:=by
     conv=>lhs;rw [hLe]
     have:p*(L / p) / p=L / p:=Nat.mul_div_cancel_left _ (by omega);rw [this];exact Nat.mul_mod_left _ _
    have:=(hall (L / p - 1) (by omega) (by rw [show L / p - 1+1=L / p by omega];exact hmod)).2;rw [show L / p - 1+1=L / p by omega,hgood] at this;rcases this with h | h
    ·have:p*(L / p)≥2*(L / p):=Nat.mul_le_mul_right _ hp0;omega
    ·cases h
theorem caseB {D:RDa}  (hP:Pass n) (hS:Signs D n) (hB:Bases D) (hrp:Pr D.r) (hr:D.r∣n) (hA:allB D=true) (hq:PrOf q n) (hlo:300<q) (hlt:q≤32768) (hrq:D.r≠q):False:=by
 obtain ⟨k,hk⟩:=hq.dvd;have hn:=hP.hi;have hn3:=hP.lo;have hk1:1≤k:=by
  rcases Nat.eq_zero_or_pos k with h | h
  ·rw [h] at hk;omega
  ·exact h
 have hrk:D.r∣k:=by
  rw [hk] at hr;exact hrp.euclid hr (fun h=>hrq (pr_eq hq.pr hrp h))
 have hqodd:q % 2=1:=by
  have h:=hP.odd;rw [hk,Nat.mul_mod] at h;rcases Nat.mod_two_eq_zero_or_one q with h0 | h0
  ·rw [h0] at h;simp at h
  ·exact h0
 have hc:=allM_spec _ _ hA q (by omega);rw [show Nat.ble q 300=false by
   cases hb:Nat.ble q 300 with
   | false=>rfl
   | true=>have:=Nat.le_of_ble_eq_true hb;omega,
  show Nat.ble 32769 q=false by
   cases hb:Nat.ble 32769 q with
   | false=>rfl
   | true=>have:=Nat.le_of_ble_eq_true hb;omega,show Nat.beq (q % 2) 1=true by rw [hqodd];rfl] at hc
 have hc:chkB D q=true:=hc;unfold chkB at hc;rw [filt_q hP hS hB hq (by omega)] at hc;have hc:force ((q - 1) / findc q 30) (fun L=>cond (cond (Nat.ble L 32768) (minimal L q) false) (allT (2147483647 / q / L+1) fun j=>
  force (1+L*j) fun k=>cond (Nat.beq (k % D.r) 0) (force (q*k) badOr) true) false)=true:=hc
 rw [force_eq] at hc;generalize (q - 1) / findc q 30=L at hc;cases hL:Nat.ble L 32768 with
 | false=>rw [hL] at hc;cases hc
 | true=>
  cases hm:minimal L q with
  | false=>rw [hL,hm] at hc;cases hc
  | true=>
   rw [hL,hm] at hc;have hc:allT (2147483647 / q / L+1) (fun j=>force (1+L*j) fun k=>cond (Nat.beq (k % D.r) 0) (force (q*k) badOr) true)=true:=hc;have hL2:=Nat.le_of_ble_eq_true hL;have nd:=not_dvd_a hq.pr hq.ne.1 hq.ne.2.1 hq.ne.2.2;have hq2:=hq.pr.1;have fullA: ∀ a,SP a n=true→a ^ (n - 1) % n=1:=by
    intro a ha;rcases SP_true ha with h | ⟨i,hi,h⟩
    ·exact full (s:=false) (by omega) hP.two hP.odd1.2 h
    ·have e:n - 1=oddp (n - 1)*2 ^ i*2*2 ^ (twos (n - 1) - i - 1):=by
      conv=>lhs;rw [←hP.odd1.2]
      rw [Nat.mul_assoc,Nat.mul_assoc, ←Nat.pow_succ', ←Nat.pow_add];congr 2;omega
     conv=>lhs;rw [e]
     apply pow_one_mul (by omega);rw [Nat.pow_mul,Nat.pow_two];exact neg_sq (by omega) h
   have hgood:goodX (k - 1) q=true:=good_iff.2 ⟨at_k hq hk hk1 nd.1 (fullA 2 hP.p2),at_k hq hk hk1 nd.2.1 (fullA 7 hP.p7),at_k hq hk hk1 nd.2.2 (fullA 61 hP.p61)⟩;have hL0:0<L:=by
    rcases Nat.eq_zero_or_pos L with h | h
    ·exfalso;rw [h] at hm;have h0:=allT_spec (fun d=>cond (Nat.beq (0 % (d+1)) 0) (cond (cond (Nat.beq d 0) true (cond (goodX (0 / (d+1)) q) false true)) (cond (Nat.beq (d+1) 0) true (cond (goodX (d+1) q) false true)) false) true) 181 (by
      unfold minimal at hm;cases hg:goodX 0 q with
      | false=>rw [hg] at hm;cases hm
      | true=>rw [hg] at hm;exact hm) 1 (by omega)
     have hz:goodX (0 / (1+1)) q=true:=by
      apply good_iff.2;have:1 % q=1:=Nat.mod_eq_of_lt (by omega);exact ⟨this,this,this⟩
     rw [hz] at h0;cases h0
    ·exact h
   obtain ⟨j,hj⟩:=minimal_dvd hq2 hL0 hL2 hm hgood;have hkj:k=1+L*j:=by omega
   have hjb:j<2147483647 / q / L+1:=by
    have h1:L*j≤2147483647 / q:=by
     rw [Nat.le_div_iff_mul_le (by omega)];have:k*q≤2147483647:=by rw [Nat.mul_comm, ←hk];omega
     have h2:L*j*q≤k*q:=Nat.mul_le_mul_right q (by omega);omega
    have h2:j≤2147483647 / q / L:=by
     rw [Nat.le_div_iff_mul_le hL0,Nat.mul_comm];exact h1
    omega
   have h5:=allT_spec _ _ hc j hjb;have h5:force (1+L*j) (fun k=>cond (Nat.beq (k % D.r) 0) (force (q*k) badOr) true)=true:=h5;rw [force_eq, ←hkj,show Nat.beq (k % D.r) 0=true by rw [Nat.mod_eq_zero_of_dvd hrk];rfl] at h5;have h5:force (q*k) badOr=true:=h5;rw [force_eq, ←hk,hP.not_bad] at h5;cases h5
theorem subs_of: ∀ (l:List Nat) (n:Nat),0<n→(∀ p,Pr p→p∣n→p∈l)→(∀ p,p∈l→Pr p→ ¬ p*p∣n)→n∈subs l:=by
 intro l;induction l with
 | nil=>
  intro n h0 h _;have:n=1:=by
   apply Classical.byContradiction;intro hc;obtain ⟨p,hp,hd⟩:=exists_pr n (by omega);have:=h p hp hd;simp at this
  rw [this];simp [subs]
 | cons q l ih=>
  intro n h0 h hs;unfold subs;rw [List.mem_append];by_cases hq:Pr q∧q∣n
  ·obtain ⟨hqp,m,hm⟩:=hq;right;rw [List.mem_map];have hm0:0<m:=by
    rcases Nat.eq_zero_or_pos m with e | e
    ·rw [e] at hm;omega
    ·exact e
   refine ⟨m,ih m hm0 ?_ ?_,hm.symm⟩
   ·intro p hp hd;have hpn:p∣n:=by rw [hm];exact Nat.dvd_trans hd (Nat.dvd_mul_left _ _)
    have:=h p hp hpn;rw [List.mem_cons] at this;rcases this with e | e
    ·exfalso;subst e;exact hs p (by simp) hp (by rw [hm];exact Nat.mul_dvd_mul (Nat.dvd_refl p) hd)
    ·exact e
   ·intro p hp hpp hd;exact hs p (by simp [hp]) hpp (by rw [hm];exact Nat.dvd_trans hd (Nat.dvd_mul_left _ _))
  ·left;refine ih n h0 ?_ (fun p hp hpp=>hs p (by simp [hp]) hpp);intro p hp hd;have:=h p hp hd;rw [List.mem_cons] at this;rcases this with e | e
   ·exfalso;subst e;exact hq ⟨hp,hd⟩
   ·exact e
theorem caseC {D:RDa} {small:List Nat}  (hP:Pass n) (hS:Signs D n) (hB:Bases D) (hr:D.r∣n) (hC:chkC D small=true) (hall: ∀ q,Pr q→q∣n→q≤300):n=D.r:=by
 unfold chkC at hC;simp only [Bool.and_eq_true] at hC;obtain ⟨⟨c1,c2⟩,c3⟩:=hC;have hn3:=hP.lo;have mem: ∀ q,Pr q→q∣n→q∈small:=by
  intro q hq hd;have hof:=hP.prOf hq hd;have h:=allT_spec _ _ c1 q (by have:=hall q hq hd;omega);have hqodd:q % 2=1:=by
   have h:=hP.odd;obtain ⟨k,hk⟩:=hd;rw [hk,Nat.mul_mod] at h;rcases Nat.mod_two_eq_zero_or_one q with h0 | h0
   ·rw [h0] at h;simp at h
   ·exact h0
  rw [show Nat.beq (q % 2) 1=true by rw [hqodd];rfl,show Nat.ble q 2=false by
   cases hb:Nat.ble q 2 with
   | false=>rfl
   | true=>have:=Nat.le_of_ble_eq_true hb;have:=hof.ge3;omega,filt_q hP hS hB hof (by have:=hall q hq hd;omega)] at h
  have h:small.any (Nat.beq q)=true:=h;obtain ⟨x,hx,he⟩:=List.any_eq_true.1 h;rw [Nat.eq_of_beq_eq_true he];exact hx
 have sq: ∀ q,q∈small→Pr q→ ¬ q*q∣n:=by
  intro q hq hqp hd;have hqn:q∣n:=Nat.dvd_trans (Nat.dvd_mul_right q q) hd;have h:=List.all_eq_true.1 c2 q hq;simp only [Bool.and_eq_true,Bool.not_eq_true'] at h;obtain ⟨h1,h2⟩:=h;have h1:=Nat.eq_of_beq_eq_true h1;have h2:=Nat.ne_of_beq_eq_false h2;have hq2:=hqp.1;have hqq:2≤q*q:=Nat.le_trans hq2 (Nat.le_mul_of_pos_left q (by omega));apply h2;have hb:2 ^ (n - 1) % n=1:=by
   rcases SP_true hP.p2 with h | ⟨i,hi,h⟩
   ·exact full (s:=false) (by omega) hP.two hP.odd1.2 h
   ·have e:n - 1=oddp (n - 1)*2 ^ i*2*2 ^ (twos (n - 1) - i - 1):=by
     conv=>lhs;rw [←hP.odd1.2]
     rw [Nat.mul_assoc,Nat.mul_assoc, ←Nat.pow_succ', ←Nat.pow_add];congr 2;omega
    conv=>lhs;rw [e]
    apply pow_one_mul (by omega);rw [Nat.pow_mul,Nat.pow_two];exact neg_sq (by omega) h
  have hb2:=down_one hqq hd hb;have hg:=pow_gcd hqq (n - 1) (q*(q - 1)) hb2 h1;have hcop:Nat.gcd (n - 1) q=1:=by
   rw [Nat.gcd_comm];apply hqp.coprime;intro hc;have:q∣n - (n - 1):=Nat.dvd_sub hqn hc;rw [show n - (n - 1)=1 by omega] at this;have:=Nat.le_of_dvd (by omega) this;omega
  have hdv:Nat.gcd (n - 1) (q*(q - 1))∣q - 1:=by
   have:=Nat.gcd_mul_right_dvd_mul_gcd (n - 1) q (q - 1);rw [hcop,Nat.one_mul] at this;exact Nat.dvd_trans this (Nat.gcd_dvd_right _ _)
  exact pow_one_dvd hqq hg hdv
 have hin:=subs_of small n (by omega) mem sq;have h:=List.all_eq_true.1 c3 n hin;rw [show Nat.beq (n % D.r) 0=true by rw [Nat.mod_eq_zero_of_dvd hr];rfl] at h;have h:cond (Nat.beq n D.r) true (badOr n)=true:=h;cases hb:Nat.beq n D.r with
 | true=>exact Nat.eq_of_beq_eq_true hb
 | false=>
  rw [hb] at h;have h:badOr n=true:=h;rw [hP.not_bad] at h;cases h
theorem only_r {D:RDa} {l small:List Nat}  (hP:Pass n) (hS:Signs D n) (hB:Bases D) (hrp:Pr D.r) (hr3:D.r≤300) (hr:D.r∣n) (hA:allA D l=true) (hl: ∀ f,f∈l→0<f∧f≤32768) (hBB:allB D=true) (hC:chkC D small=true):n=D.r:=by
 apply caseC hP hS hB hr hC;intro q hq hd;apply Classical.byContradiction;intro hc;have hof:=hP.prOf hq hd;by_cases hbig:32768<q
 ·exact caseA hP hS hB hrp hr hA hl hof hbig (by omega)
 ·exact caseB hP hS hB hrp hr hBB hof (by omega) (by omega) (by omega)
theorem l3: ∀ f,f∈strip3→0<f∧f≤32768:=by decide+kernel
theorem l5: ∀ f,f∈strip5→0<f∧f≤32768:=by decide+kernel
theorem l11: ∀ f,f∈strip11→0<f∧f≤32768:=by decide+kernel
theorem l13: ∀ f,f∈strip13→0<f∧f≤32768:=by decide+kernel
theorem pr3:Pr 3:=pr_small (by decide) (by decide)
theorem pr5:Pr 5:=pr_small (by decide) (by decide)
theorem pr11:Pr 11:=pr_small (by decide) (by decide)
theorem pr13:Pr 13:=pr_small (by decide) (by decide)
theorem only3 (hP:Pass n) (h:3∣n):n=3:=only_r (D:=rd3) hP (signs3 hP h) bases3 pr3 (by decide) h a3 l3 b3 c3
theorem only5 (hP:Pass n) (h:5∣n):n=5:=only_r (D:=rd5) hP (signs5 hP h) bases5 pr5 (by decide) h a5 l5 b5 c5
theorem only11 (hP:Pass n) (h:11∣n):n=11:=only_r (D:=rd11) hP (signs11 hP h) bases11 pr11 (by decide) h a11 l11 b11 c11
theorem only13 (hP:Pass n) (h:13∣n):n=13:=only_r (D:=rd13) hP (signs13 hP h) bases13 pr13 (by decide) h a13 l13 b13 c13
theorem rPrime_iff (n:Nat):rPrime n=true↔n=2∨n=7∨n=61∨(2<n∧n % 2=1∧0<n % 7∧0<n % 61∧SP 2 n=true∧SP 7 n=true∧SP 61 n=true):=by
 unfold rPrime;simp only [Bool.or_eq_true,Bool.and_eq_true,beq_iff_eq,decide_eq_true_eq];constructor
 ·rintro (((h | h) | h) | ⟨⟨⟨⟨⟨⟨h1,h2⟩,h3⟩,h4⟩,h5⟩,h6⟩,h7⟩)
  ·exact .inl h
  ·exact .inr (.inl h)
  ·exact .inr (.inr (.inl h))
  ·exact .inr (.inr (.inr ⟨h1,h2,h3,h4,h5,h6,h7⟩))
 ·rintro (h | h | h | ⟨h1,h2,h3,h4,h5,h6,h7⟩)
  ·exact .inl (.inl (.inl h))
  ·exact .inl (.inl (.inr h))
  ·exact .inl (.inr h)
  ·exact .inr ⟨⟨⟨⟨⟨⟨h1,h2⟩,h3⟩,h4⟩,h5⟩,h6⟩,h7⟩
theorem prime_eq (hn:n<2147483648):mPrime n=rPrime n:=by
 by_cases h2:n<2
 ·have e1:mPrime n=false:=by unfold mPrime;rw [if_pos h2]
  rw [e1];symm;rw [←Bool.not_eq_true,rPrime_iff];omega
 ·by_cases hno: ∀ p,p∈smalls→n % p≠0
  ·have hf:smalls.find? (fun p=>n % p==0)=none:=List.find?_eq_none.2 (by intro q hq;simpa using hno q hq);have e1:mPrime n=(SP 2 n && (SP 7 n && SP 61 n)):=by
    unfold mPrime;rw [if_neg h2,hf]
   have d2:=hno 2 (by decide);have d7:=hno 7 (by decide);have d61:=hno 61 (by decide);rw [e1,Bool.eq_iff_iff,rPrime_iff];simp only [Bool.and_eq_true];constructor
   ·rintro ⟨h5,h6,h7⟩;exact .inr (.inr (.inr ⟨by omega,by omega,by omega,by omega,h5,h6,h7⟩))
   ·rintro (h | h | h | ⟨_,_,_,_,h5,h6,h7⟩)
    ·rw [h] at d2;exact absurd rfl d2
    ·rw [h] at d7;exact absurd rfl d7
    ·rw [h] at d61;exact absurd rfl d61
    ·exact ⟨h5,h6,h7⟩
  ·have hex: ∃ p,smalls.find? (fun p=>n % p==0)=some p:=by
    cases hf:smalls.find? (fun p=>n % p==0) with
    | some p=>exact ⟨p,rfl⟩
    | none=>
     exfalso;apply hno;intro p hp;have:=List.find?_eq_none.1 hf p hp;simpa using this
   obtain ⟨p,hf⟩:=hex;have e1:mPrime n=(n==p):=by unfold mPrime;rw [if_neg h2,hf]
   have hmem:=List.mem_of_find?_eq_some hf;have hdiv:n % p=0:=by have:=List.find?_some hf;simpa using this
   rw [e1,Bool.eq_iff_iff,beq_iff_eq];constructor
   ·intro h;subst h;have all: ∀ q,q∈smalls→rPrime q=true:=by
     intro q hq;simp only [smalls,List.mem_cons,List.not_mem_nil,or_false] at hq;rcases hq with rfl | rfl | rfl | rfl | rfl | rfl | rfl<;>(rw [rPrimeK_eq _ (by omega)];decide+kernel)
    exact all n hmem
   ·intro hr;rw [rPrime_iff] at hr;have hdv:p∣n:=Nat.dvd_of_mod_eq_zero hdiv;simp only [smalls,List.mem_cons,List.not_mem_nil,or_false] at hmem;rcases hr with rfl | rfl | rfl | ⟨h1,h3,h4,h5,h6,h7,h8⟩
    ·have:=Nat.le_of_dvd (by omega) hdv;rcases hmem with rfl | rfl | rfl | rfl | rfl | rfl | rfl<;>omega
    ·have hle:=Nat.le_of_dvd (by omega) hdv;rcases hmem with rfl | rfl | rfl | rfl | rfl | rfl | rfl<;>simp_all
    ·have hle:=Nat.le_of_dvd (by omega) hdv;rcases hmem with rfl | rfl | rfl | rfl | rfl | rfl | rfl<;>simp_all
    ·have hP:Pass n:=⟨by omega,hn,h3,fun h=>by have:=Nat.mod_eq_zero_of_dvd h;omega,fun h=>by have:=Nat.mod_eq_zero_of_dvd h;omega,h6,h7,h8⟩
     rcases hmem with rfl | rfl | rfl | rfl | rfl | rfl | rfl
     ·omega
     ·exact only3 hP hdv
     ·exact only5 hP hdv
     ·omega
     ·exact only11 hP hdv
     ·exact only13 hP hdv
     ·omega
end
section
theorem powv_eq (n:Int) (p:Nat) (e:Int):powv mPrime n p e=powv rPrime n p e:=by
 by_cases h:p<65536
 ·unfold powv;rw [prime_eq (show p<2147483648 by omega)]
 ·rw [powv_no (by omega),powv_no (by omega)]
theorem goodS_eq (s q:Nat):goodS mPrime s q=goodS rPrime s q:=by
 unfold goodS;by_cases h:q≤2147483647
 ·rw [prime_eq (by omega)]
 ·rw [alB h];rfl
theorem t_eq (x:Par):x.t mPrime=x.t rPrime:=powv_eq _ _ _
theorem badB_eq (s sp q:Nat):badB mPrime s sp q=badB rPrime s sp q:=by unfold badB;rw [goodS_eq]
theorem okB_eq (x:Par):okB mPrime x=okB rPrime x:=by
 unfold okB stepOf;rw [t_eq,goodS_eq];congr 7;congr 1;exact funext fun q=>badB_eq _ _ q
end
section
open Go.RowKit
theorem modB_eq (x:Par) (k:Int):modB mPrime x k=modB rPrime x k:=by unfold modB;rw [okB_eq]
theorem modErr_eq (x:Par) (k:Int):modErr mPrime x k=modErr rPrime x k:=by unfold modErr;rw [modB_eq]
theorem modVal_eq (x:Par) (k:Int):modVal mPrime x k=modVal rPrime x k:=by unfold modVal;rw [modB_eq,powv_eq]
theorem rmod_any (x:Par) (cv:Value) (k:Int) (w:World) (hx:ParOk x) (hcv:SliceAt w cv x.ch):
  Calls Tryz.prog 27 #[x.val cv, .int .i64 k] w fun r w'=>r= .returned (.tuple #[.int .i64 (modVal rPrime x k:Nat), .int .i64 (modErr rPrime x k)])∧Below w.heap.size w w':=by
 have hB:Hid (BoxP (w.alloc (.cells #[.int .i64 x.n, .int .u32 x.p, .int .i64 x.r,cv, .int .u32 x.sp, .int .i64 x.wt, .int .u32 x.er] 25)) w.heap.size x cv):=by constructor<;>simp [go_sem]
 have hbW:Hid (Below w.heap.size w (w.alloc (.cells #[.int .i64 x.n, .int .u32 x.p, .int .i64 x.r,cv, .int .u32 x.sp, .int .i64 x.wt, .int .u32 x.er] 25))):=(Below.refl _ _).alloc (Nat.le_refl _) _;have HS:Hid (SliceAt (w.alloc (.cells #[.int .i64 x.n, .int .u32 x.p, .int .i64 x.r,cv, .int .u32 x.sp, .int .i64 x.wt, .int .u32 x.er] 25)) cv x.ch):=hcv.below hbW.out;have hlt:w.heap.size<(w.alloc (.cells #[.int .i64 x.n, .int .u32 x.p, .int .i64 x.r,cv, .int .u32 x.sp, .int .i64 x.wt, .int .u32 x.er] 25)).heap.size:=by simp
 unfold Par.val;cases hok:okB rPrime x with
 | false=>
  have HC:Hid (chk rPrime x=2):=chk_two hok;have HR:Hid (modErr rPrime x k=2∧modVal rPrime x k=0):=mod_no (by unfold modB;rw [hok];rfl);clear hok;go_enter Tryz.func27,Tryz.ntmps27
  go_wp2_with fail
  refine (rcheck_any x cv _ hx HS.out).mono ?_;rintro e w1 ⟨rfl,hb1⟩;have y0:=(hB.out.below hb1 hlt).n;have y1:=(hB.out.below hb1 hlt).p;have y2:=(hB.out.below hb1 hlt).r;have HB1:=Lib.hid (bel_then hb1 hbW.out (by simp));clear hb1;rw [HC.out];go_wp2_with fail
  go_ret2
  exact ⟨by rw [HR.out.1,HR.out.2];rfl,HB1.out⟩
 | true=>
  have hd:=okB_dim hok;have hn4:=hd.1;have hn32:=hd.2;have HC:Hid (chk rPrime x=0):=chk_ok hok;clear hd;by_cases h1:k<1
  ·have HR:Hid (modErr rPrime x k=2∧modVal rPrime x k=0):=mod_no (by unfold modB;rw [alB (show ¬ 1≤k by omega)];simp);have d1:decide (k<1)=true:=alA h1;clear hok;go_enter Tryz.func27,Tryz.ntmps27
   go_wp2_with fail
   refine (rcheck_any x cv _ hx HS.out).mono ?_;rintro e w1 ⟨rfl,hb1⟩;have y0:=(hB.out.below hb1 hlt).n;have y1:=(hB.out.below hb1 hlt).p;have y2:=(hB.out.below hb1 hlt).r;have HB1:=Lib.hid (bel_then hb1 hbW.out (by simp));clear hb1;rw [HC.out];go_wp2_with fail
   go_ret2
   exact ⟨by rw [HR.out.1,HR.out.2];rfl,HB1.out⟩
  ·by_cases h2:x.r<k
   ·have HR:Hid (modErr rPrime x k=2∧modVal rPrime x k=0):=mod_no (by unfold modB;rw [alB (show ¬ k≤x.r by omega)];simp);have d1:decide (k<1)=false:=alB h1;have d2:decide (x.r<k)=true:=alA h2;clear hok;go_enter Tryz.func27,Tryz.ntmps27
    go_wp2_with fail
    refine (rcheck_any x cv _ hx HS.out).mono ?_;rintro e w1 ⟨rfl,hb1⟩;have y0:=(hB.out.below hb1 hlt).n;have y1:=(hB.out.below hb1 hlt).p;have y2:=(hB.out.below hb1 hlt).r;have HB1:=Lib.hid (bel_then hb1 hbW.out (by simp));clear hb1;rw [HC.out];go_wp2_with fail
    go_ret2
    exact ⟨by rw [HR.out.1,HR.out.2];rfl,HB1.out⟩
   ·have HR:Hid (modErr rPrime x k=0∧modVal rPrime x k=powv rPrime x.n x.p k):=mod_yes (by unfold modB;rw [hok,alA (show 1≤k by omega),alA (show k≤x.r by omega)];rfl);have d1:decide (k<1)=false:=alB h1;have d2:decide (x.r<k)=false:=alB h2;have hr1:=hx.r1;have hp1:=hx.p1;clear hok;go_enter Tryz.func27,Tryz.ntmps27
    go_wp2_with fail
    refine (rcheck_any x cv _ hx HS.out).mono ?_;rintro e w1 ⟨rfl,hb1⟩;have y0:=(hB.out.below hb1 hlt).n;have y1:=(hB.out.below hb1 hlt).p;have y2:=(hB.out.below hb1 hlt).r;have HB1:=Lib.hid (bel_then hb1 hbW.out (by simp));clear hb1;rw [HC.out];go_wp2_with fail
    refine (rplain_any _ _ _ _ hn4 hn32 hp1 (by omega) (by omega)).mono ?_;rintro e w2 ⟨rfl,rfl⟩;go_wp2_with fail
    go_ret2
    exact ⟨by rw [HR.out.1,HR.out.2];rfl,HB1.out⟩
end
section
open Go.RowKit Wv
theorem rmodulus_tc (x:Par) (k:Int) (hx:ParOk x) (hlen:x.ch.length≤140737488351232) (hrng: ∀ q,q∈x.ch→q<4294967296):TC Tryz.prog 27 [.g (parC x), .v (.int .i64 k)] (.tup [.v (.int .i64 (modVal mPrime x k:Nat)), .v (.int .i64 (modErr mPrime x k))]):=by
 rw [modVal_eq,modErr_eq];refine ⟨by kernel_rfl,fun X vs hX hbad hr=>?_⟩;obtain ⟨h1,h2⟩:=hr;match vs,h1 with
 | [v0,v1],_=>
  obtain ⟨cv,rfl,hs⟩:=par_rep hlen hrng (h2 0 _ v0 rfl rfl);have e1:=rep_v (h2 1 _ v1 rfl rfl);subst e1;refine (rmod_any x cv k X.w hx hs).mono ?_;rintro e w' ⟨rfl,hb⟩;refine ⟨_,rfl,hb,fun m=>?_⟩;exact .tup (cvs:=[_,_]) rfl (fun i a y q1 q2=>by
   match i with
   | 0=>simp at q1 q2;subst q1 q2;exact .v _
   | 1=>simp at q1 q2;subst q1 q2;exact .v _
   | i+2=>simp at q1)
end
section
open Go.RowKit Wv
abbrev SEnv:=List (ByteArray × (Nat→Nat))
def lookS:SEnv→ByteArray→Option (Nat→Nat)
 | [],_=>none
 | p::r,s=>if s=p.1 then some p.2 else lookS r s
def putS:SEnv→ByteArray→(Nat→Nat)→SEnv
 | [],s,f=>[(s,f)]
 | p::r,s,f=>if s=p.1 then (s,f)::r else p::putS r s f
def nmE (es:SEnv):List (Value × AV):=es.map fun p=>(.string p.1, .v (.bool true))
theorem look_putS (s s':ByteArray) (f:Nat→Nat): ∀ es:SEnv,lookS (putS es s f) s'=if s'=s then some f else lookS es s'
 | []=>rfl
 | p::q=>by
  have ih:=look_putS s s' f q;unfold putS;by_cases e:s=p.1
  ·rw [if_pos e];show (if s'=s then some f else lookS q s')=if s'=s then some f else (if s'=p.1 then some p.2 else lookS q s')
   by_cases e2:s'=s
   ·rw [if_pos e2,if_pos e2]
   ·rw [if_neg e2,if_neg e2,if_neg (by rw [←e];exact e2)]
  ·rw [if_neg e];show (if s'=p.1 then some p.2 else lookS (putS q s f) s')=if s'=s then some f else (if s'=p.1 then some p.2 else lookS q s')
   rw [ih];by_cases e2:s'=p.1
   ·rw [if_pos e2,if_neg (by rw [e2];exact fun h=>e h.symm),if_pos e2]
   ·rw [if_neg e2,if_neg e2]
theorem nmE_clo (es:SEnv): ∀ a,a∈(nmE es).map (·.2)→Clo a:=by
 intro a ha;unfold nmE at ha;rw [List.map_map] at ha;obtain ⟨p,_,rfl⟩:=List.mem_map.1 ha;exact .v _
def pkV (s:ByteArray) (j:Nat):Value:= .agg #[.string s, .int .i64 j]
abbrev kkF:KK:= .flat [none,some .i64]
theorem kk_pk (s:ByteArray) (j:Nat):keyK kkF (pkV s j)=true:=rfl
theorem pk_eq (s s':ByteArray) (j j':Nat):keyE (pkV s j) (pkV s' j')=decide (s=s'∧j=j'):=by
 show (decide (s=s') && (decide ((j:Int)=j') && true))=_;rw [Bool.and_true,show decide ((j:Int)=j')=decide (j=j') from decide_eq_decide.2 (by omega)];simp
structure LtOk (N:Nat) (es:SEnv) (M:List (Value × AV)):Prop where
 kb:keysB kkF M=true
 clo: ∀ a,a∈M.map (·.2)→Clo a
 get: ∀ s f,lookS es s=some f→ ∀ j,j<N→lookM (pkV s j) M=some (.v (.int .u32 (f j)))
 lt: ∀ s f,lookS es s=some f→ ∀ j,j<N→f j<2 ^ N
abbrev capN:List AV:=[.ptr 7 0, .ptr 0 0, .ptr 5 0, .ptr 3 0, .ptr 6 0]
def hN (N:Nat) (C:List AV) (es:SEnv) (M:List (Value × AV)):Hp:=
 [some (.blk [.v (.int .i64 N)]),some (.blk C),some (.map M),some (.blk [.mp 2]),some (.map (nmE es)),some (.blk [.mp 4]),some (.blk [.v (.int .i64 (N / 2:Nat))]),some (.blk [.fn (.func 68) [] capN])]
theorem cap_rn:RnL id 8 capN capN:=⟨.ptr (by omega), .ptr (by omega), .ptr (by omega), .ptr (by omega), .ptr (by omega),trivial⟩
variable {M:List (Value × AV)}
theorem hN_rn (N : Nat) {C : List AV} (es : SEnv)  (hC : ∀ a, a ∈ C → Clo a) (hM : ∀ a, a ∈ M.map (·.2) → Clo a) : ∀ (i : Nat) (o : Option Ob), (hN N C es M)[i]? = some o → ∃ o', o = some o' ∧ RnO id 8 o' o' := by
  intro i o ho;unfold hN at ho;match i with
  | 0 => simp at ho; subst ho; exact ⟨_, rfl, .clo (.v _), trivial⟩
  | 1 => simp at ho; subst ho; exact ⟨_, rfl, RnL.clo hC⟩
  | 2 => simp at ho; subst ho; exact ⟨_, rfl, rfl, RnL.clo hM⟩
  | 3 => simp at ho; subst ho; exact ⟨_, rfl, .mp (by omega), trivial⟩
  | 4 => simp at ho; subst ho; exact ⟨_, rfl, rfl, RnL.clo (nmE_clo es)⟩
  | 5 => simp at ho; subst ho; exact ⟨_, rfl, .mp (by omega), trivial⟩
  | 6 => simp at ho; subst ho; exact ⟨_, rfl, .clo (.v _), trivial⟩
  | 7 => simp at ho; subst ho; exact ⟨_, rfl, .fn rfl rfl (by simp) (fun i a b h1 h2 => by
      match i with
      | 0 => simp at h1 h2; subst h1 h2; exact .ptr (by omega)
      | 1 => simp at h1 h2; subst h1 h2; exact .ptr (by omega)
      | 2 => simp at h1 h2; subst h1 h2; exact .ptr (by omega)
      | 3 => simp at h1 h2; subst h1 h2; exact .ptr (by omega)
      | 4 => simp at h1 h2; subst h1 h2; exact .ptr (by omega)
      | i + 5 => simp at h1), trivial⟩
  | i + 8 => simp at ho
theorem RD.hN {N:Nat} {C:List AV} {es:SEnv}  {a:AV} {R p:AV→Prop} (hC: ∀ a,a∈C→Clo a) (hM: ∀ a,a∈M.map (·.2)→Clo a) (T:RD Tryz.prog 68 (a::capN) (hN N C es M) R p) (r:Hp) (ha:Clo a) (hR: ∀ r,R r→Clo r) (hp: ∀ r,p r→Clo r):HTP Tryz.prog 68 (a::capN) (hN N C es M++r) (fun q h'=>R q∧h'=hN N C es M++r) (fun q h'=>p q∧h'=hN N C es M++r):=
 RD.ext T r ⟨.clo ha,cap_rn⟩ (hN_rn N es hC hM) hR hp
theorem _root_.Go.Proofs.YthlhibpfagekfaaGreat.Wv.HTP.wk {P:Program} {f:FuncId} {args args':List AV} {h:Hp} {R p:AV→Hp→Prop} (T:HTP P f args' h R p) (ha:WkL args args'):HTP P f args h R p:=
 ⟨T.1,fun X vs hX hh q=>T.2 X vs hX hh (q.wk ha)⟩
theorem kk_form {v:Value} (h:keyK kkF v=true): ∃ (x:ByteArray) (z:Int),v= .agg #[.string x, .int .i64 z]:=by
 cases v<;>try (cases h;done)
 rename_i a;obtain ⟨l⟩:=a;have h:keyFL [none,some .i64] l=true:=h;match l with
 | []=>cases h
 | [_]=>simp [keyFL] at h
 | x::y::z::r=>simp [keyFL] at h
 | [x,y]=>
  simp only [keyFL,Bool.and_true,Bool.and_eq_true] at h;obtain ⟨h1,h2⟩:=h;cases x<;>simp [key1] at h1;cases y<;>simp [key1] at h2;subst h2;exact ⟨_,_,rfl⟩
theorem look_pm (s s':ByteArray) (j j':Nat) (a:AV):keysB kkF M=true→lookM (pkV s' j') (putM (pkV s j) a M)=if s'=s∧j'=j then some a else lookM (pkV s' j') M:=by
 induction M with
 | nil=>
  intro _;show (if keyE (pkV s' j') (pkV s j)=true then some a else none)=_;rw [pk_eq];by_cases e:s'=s∧j'=j
  ·rw [if_pos (alA e),if_pos e]
  ·rw [if_neg (by simpa using e),if_neg e];rfl
 | cons p r ih=>
  intro h;unfold keysB at h ih;rw [List.all_cons,Bool.and_eq_true] at h;obtain ⟨x,z,hp⟩:=kk_form h.1;have ih:=ih h.2;have hk: ∀ (s:ByteArray) (j:Nat),keyE (pkV s j) p.1=decide (s=x∧(j:Int)=z):=fun s j=>by
   rw [hp];show (decide (s=x) && (decide ((j:Int)=z) && true))=_;simp
  have e0: ∀ (s:ByteArray) (j:Nat),lookM (pkV s j) (p::r)=if keyE (pkV s j) p.1=true then some p.2 else lookM (pkV s j) r:=fun _ _=>rfl
  have e1:putM (pkV s j) a (p::r)=if keyE (pkV s j) p.1=true then (pkV s j,a)::r else p::putM (pkV s j) a r:=rfl
  rw [e0,e1,hk,hk];by_cases q:s=x∧(j:Int)=z
  ·rw [if_pos (alA q)];show (if keyE (pkV s' j') (pkV s j)=true then some a else lookM (pkV s' j') r)=_;rw [pk_eq];by_cases e:s'=s∧j'=j
   ·rw [if_pos (alA e),if_pos e]
   ·rw [if_neg (by simpa using e),if_neg e,if_neg];rw [decide_eq_true_eq];rintro ⟨u1,u2⟩;exact e ⟨u1.trans q.1.symm,by omega⟩
  ·rw [if_neg (by rw [decide_eq_true_eq];exact q)];show (if keyE (pkV s' j') p.1=true then some p.2 else lookM (pkV s' j') (putM (pkV s j) a r))=_;rw [hk,ih];by_cases e:s'=s∧j'=j
   ·rw [if_pos e,if_pos e,if_neg];rw [decide_eq_true_eq,e.1,e.2];exact q
   ·rw [if_neg e,if_neg e]
theorem kb_pm (s:ByteArray) (j:Nat) (a:AV):keysB kkF M=true→keysB kkF (putM (pkV s j) a M)=true:=by
 induction M with
 | nil=>exact fun _=>rfl
 | cons p r ih=>
  intro h;unfold keysB at h ih ⊢;rw [List.all_cons,Bool.and_eq_true] at h;show List.all (if keyE (pkV s j) p.1=true then (pkV s j,a)::r else p::putM (pkV s j) a r) _=true;split
  ·rw [List.all_cons,Bool.and_eq_true];exact ⟨kk_pk s j,h.2⟩
  ·rw [List.all_cons,Bool.and_eq_true];exact ⟨h.1,ih h.2⟩
theorem clo_pm (k:Value) (a:AV) (ha:Clo a):(∀ b,b∈M.map (·.2)→Clo b)→ ∀ b,b∈(putM k a M).map (·.2)→Clo b:=by
 induction M with
 | nil=>intro _ b hb;rcases List.mem_cons.1 hb with rfl | h;exact ha;cases h
 | cons p r ih=>
  intro h b hb;have hb:b∈(if keyE k p.1=true then (k,a)::r else p::putM k a r).map (·.2):=hb;split at hb
  ·rcases List.mem_cons.1 hb with rfl | h'
   ·exact ha
   ·exact h b (List.mem_cons_of_mem _ h')
  ·rcases List.mem_cons.1 hb with rfl | h'
   ·exact h _ (List.mem_cons_self ..)
   ·exact ih (fun b hb=>h b (List.mem_cons_of_mem _ hb)) b h'
def ltP (M:List (Value × AV)) (s:ByteArray) (f:Nat→Nat):Nat→List (Value × AV)
 | 0=>M
 | j+1=>putM (pkV s j) (.v (.int .u32 (f j))) (ltP M s f j)
variable {f:Nat→Nat}{s:ByteArray}
theorem kb_ltP (h:keysB kkF M=true): ∀ m,keysB kkF (ltP M s f m)=true
 | 0=>h
 | m+1=>kb_pm _ _ _ (kb_ltP h m)
theorem clo_ltP (h: ∀ b,b∈M.map (·.2)→Clo b): ∀ m b,b∈(ltP M s f m).map (·.2)→Clo b
 | 0=>h
 | m+1=>clo_pm _ _ (.v _) (clo_ltP h m)
theorem look_ltP (h:keysB kkF M=true) (s':ByteArray) (j':Nat): ∀ m,lookM (pkV s' j') (ltP M s f m)=if s'=s∧j'<m then some (.v (.int .u32 (f j'))) else lookM (pkV s' j') M
 | 0=>by rw [if_neg (by omega)];rfl
 | m+1=>by
  show lookM (pkV s' j') (putM (pkV s m) _ (ltP M s f m))=_;rw [look_pm _ _ _ _ _ (kb_ltP h m),look_ltP h s' j' m];by_cases e:s'=s∧j'=m
  ·rw [if_pos e,if_pos ⟨e.1,by omega⟩,e.2]
  ·rw [if_neg e];by_cases q:s'=s∧j'<m
   ·rw [if_pos q,if_pos ⟨q.1,by omega⟩]
   ·rw [if_neg q,if_neg];rintro ⟨u,v⟩;by_cases w:j'=m
    ·exact e ⟨u,w⟩
    ·exact q ⟨u,by omega⟩
theorem LtOk.put {N:Nat} {es:SEnv}  (h:LtOk N es M) (s:ByteArray) (f:Nat→Nat) (hf: ∀ j,j<N→f j<2 ^ N):LtOk N (putS es s f) (ltP M s f N) where
 kb:=kb_ltP h.kb N
 clo:=clo_ltP h.clo N
 get:=fun s' f' e j hj=>by
  rw [look_ltP h.kb];rw [look_putS] at e;by_cases q:s'=s
  ·rw [if_pos q] at e;injection e with e;rw [if_pos ⟨q,hj⟩,e]
  ·rw [if_neg q] at e;rw [if_neg (fun w=>q w.1)];exact h.get s' f' e j hj
 lt:=fun s' f' e j hj=>by
  rw [look_putS] at e;by_cases q:s'=s
  ·rw [if_pos q] at e;injection e with e;rw [←e];exact hf j hj
  ·rw [if_neg q] at e;exact h.lt s' f' e j hj
end
section
open Go.RowKit Wv
end
section
open Go.RowKit Wv
end
section
open Go.RowKit Wv
end
section
open Go.RowKit Wv
end
section
open Go.RowKit Wv
end
section
open Go.RowKit Wv
theorem mod_facts {x:Par} (h:modErr mPrime x x.r=0):2≤modVal mPrime x x.r∧modVal mPrime x x.r≤2147483647∧4≤x.n∧x.n≤32:=by
 unfold modErr at h;cases hb:modB mPrime x x.r with
 | false=>rw [hb] at h;cases h
 | true=>
  have hv:=(mod_yes hb).2;unfold modB at hb;rw [Bool.and_eq_true] at hb;have hd:=okB_dim hb.1;have ht:0<x.t mPrime:=by
   have:=hb.1;unfold okB at this;simp only [Bool.and_eq_true,decide_eq_true_eq] at this;exact this.2.1
  have hle:=powv_le mPrime x.n x.p x.r;have e:x.t mPrime=powv mPrime x.n x.p x.r:=rfl;refine ⟨?_,by omega,hd⟩;rw [hv];rw [e] at ht;unfold powv at ht ⊢;split at ht
  ·next hq=>
   rw [if_pos hq];have:x.p ^ 1≤x.p ^ x.r.toNat:=Nat.pow_le_pow_right (by omega) (by omega);rw [Nat.pow_one] at this;omega
  ·omega
end
section
open Go.RowKit Wv
theorem mod_even {x:Par} (h:modErr mPrime x x.r=0): ∃ N:Nat,x.n=N∧4≤N∧N≤32∧N % 2=0:=by
 unfold modErr at h;cases hb:modB mPrime x x.r with
 | false=>rw [hb] at h;cases h
 | true=>
  unfold modB at hb;rw [Bool.and_eq_true] at hb;have hd:isDim x.n=true:=by have:=hb.1;rw [okB_conds] at this;simp only [Bool.and_eq_true] at this;exact this.1
  refine ⟨x.n.toNat,?_⟩;rcases isDim_cases hd with e | e | e | e<;>omega
end
section
open Go.RowKit Wv
end
section
open Go.RowKit Wv
end
section
open Go.RowKit Wv
end
section
open Go.RowKit Wv
end
section
open Go.RowKit Wv
theorem mod_odd {x:Par} (h:modErr mPrime x x.r=0):3≤modVal mPrime x x.r∧modVal mPrime x x.r % 2=1∧modVal mPrime x x.r≤2147483647:=by
 obtain ⟨h1,h2,h3,_⟩:=mod_facts h;suffices ho:modVal mPrime x x.r % 2=1 by exact ⟨by omega,ho,h2⟩
 unfold modVal at h1 ⊢;split at h1
 ·next hb=>
  rw [if_pos hb];unfold powv at h1 ⊢;split at h1
  ·next hq=>
   rw [if_pos hq];have h4:=hq.2.2.2.1;have e:(2*x.n).toNat=2*x.n.toNat:=by omega
   have h5:=Nat.mod_mod_of_dvd x.p (show 2∣2*x.n.toNat from ⟨_,rfl⟩);rw [←e,h4] at h5;rw [Nat.pow_mod, ←h5,Nat.one_mod,Nat.one_pow]
  ·omega
 ·omega
end
section
open Go.RowKit Wv
def jG (m:Nat) (ln:Nat→Nat) (vs:Nat→Nat→Int):AV:= .t m 1 (tab m fun i=>roA (ln i) (vs i))
theorem jG_clo (m:Nat) (ln:Nat→Nat) (vs:Nat→Nat→Int):Clo (jG m ln vs):=by
 unfold jG;simp only [Wv.BC];exact fun i _=>roA_clo _ _
end
section
open Go.RowKit Wv
theorem any_mono {p:Nat→Bool} {n k:Nat} (hk:k≤n) (h:anyN k p=true):anyN n p=true:=by
 unfold anyN at*;rw [List.any_eq_true] at*;obtain ⟨x,hx,hpx⟩:=h;exact ⟨x,List.mem_range.2 (by have:=List.mem_range.1 hx;omega),hpx⟩
theorem anyA_succ (p:Nat→Bool) (n:Nat):anyN (n+1) p=(anyN n p || p n):=by
 unfold anyN;rw [List.range_succ,List.any_append];simp
def grB (m:Nat) (ln:Nat→Nat):Bool:=anyN m (fun i=>decide (100<ln i)) || decide (50<m)
theorem lgreat_tc (m:Nat) (ln:Nat→Nat) (vs:Nat→Nat→Int) (hm:m≤140737488351232) (hl: ∀ i,i<m→ln i≤140737488351232):TC Tryz.prog 5 [jG m ln vs] (.v (.bool (grB m ln))):=by
 have hg:grB m ln=(anyN m (fun i=>decide (100<ln i)) || decide (50<m)):=rfl;generalize grB m ln=B at*;unfold jG roA;refine Wv.TC.by 19 [3,0,7,15,2] [] [.tmp 2] Tryz.func5 rfl rfl rfl ?clo ?_
 case clo=>simp only [Wv.BC]
 refine Wv.W ?_;refine wfor (σ:=Nat) (fun i=>[(0, .t m 1 (tab m fun i=> .t (ln i) 1 (tab (ln i) fun j=> .v (.int .i64 (vs i j))))),(3, .v (.int .i64 i))]) (fun _=>[]) (fun i=>i≤m∧anyN i (fun i=>decide (100<ln i))=false) (fun i=>m - i) 0 ⟨Nat.zero_le _,rfl⟩ Wv.V Wv.V ?_;rintro i ⟨hi,hb⟩;by_cases hlt:i<m
 ·have e1:(i:Int)<m:=by omega
  have hli:=hl i hlt;by_cases c:100<ln i
  ·have hB:B=true:=by
    rw [hg,any_mono (k:=i+1) (by omega) (by rw [anyA_succ,hb,alA c];rfl)];rfl
   simp (disch:=first|exact Wv.D|fail) only [Wv.B,simprocAttr,alA e1,alA (show ((ln i:Nat):Int)>100 by omega),alA (show (100:Int)<(ln i:Nat) by omega)];rw [hB]
  ·simp (disch:=first|exact Wv.D|fail) only [Wv.B,simprocAttr,alA e1,alB (show ¬ ((ln i:Nat):Int)>100 by omega),alB (show ¬ (100:Int)<(ln i:Nat) by omega)];refine k_next (i+1) ⟨by omega,by rw [anyA_succ,hb,alB c];rfl⟩ (by omega) rfl Wv.V2
 ·obtain rfl:i=m:=by omega
  have hB:decide ((50:Int)<(i:Nat))=B:=by
   rw [hg,hb,Bool.false_or];by_cases c:50<i
   ·rw [alA c,alA (by omega)]
   ·rw [alB c,alB (by omega)]
  have hB':decide ((i:Int)>50)=B:=hB;simp (disch:=first|exact Wv.D|fail) only [Wv.B,simprocAttr,Int.lt_irrefl,decide_false,hB,hB']
end
section
open Go.RowKit Wv
theorem ame (x:Par) (t e:Int) (he:e≠0) (TM:TC Tryz.prog 21 [.g (parC x), .v (.int .i64 x.r)] (.tup [.v (.int .i64 t), .v (.int .i64 e)])) (m:Nat) (ln:Nat→Nat) (vs:Nat→Nat→Int) (ns:Nat) (sl:Nat→Int)
  (A D E F:List AV) (hA: ∀ a,a∈A→Clo a) (hD: ∀ a,a∈D→Clo a) (hE: ∀ a,a∈E→Clo a) (hF: ∀ a,a∈F→Clo a) (uA:AV):
  HT Tryz.prog 9 [.g (parC x),vsA m ln vs,roA ns sl,uA] [some (.blk A),some (.blk D),some (.blk E),some (.blk F)] (fun r h'=>r= .tup [.v (.slice none 0 0), .v (.int .i64 2)]∧h'=[some (.blk A),some (.blk D),some (.blk E),some (.blk F)]):=by
 have hP:=parC_clo x;suffices T:HT Tryz.prog 9 [.g (parC x),vsA m ln vs,roA ns sl,uA] [some (.blk A),some (.blk D),some (.blk E),some (.blk F)] (fun r h'=>r= .tup [.v (.slice none 0 0), .v (.int .i64 2)]∧ ∃ q,h'=[some (.blk A),some (.blk D),some (.blk E),some (.blk F)]++q) by
  refine (T.amW ?_).alT ?_
  ·rintro r h' ⟨rfl,q,rfl⟩;exact ⟨by simp only [Wv.BL, ↓reduceIte,Nat.reduceLeDiff],fun a ha=> .clo (hA a ha),fun a ha=> .clo (hD a ha),fun a ha=> .clo (hE a ha),fun a ha=> .clo (hF a ha),trivial⟩
  ·rintro r h2 ⟨h',⟨rfl,q,rfl⟩,rfl⟩;exact ⟨rfl,rfl⟩
 unfold parC vsA vcA roA at*;refine Wv.HT.by 110 [0,4,11,1,2,43,10,49,48,50,47,14,12,70,74,73,75,72,17,82,81,83,80,3,22,94,18,20,21,15,8,9] [(1000000,4)] [.tmp 8, .tmp 9] Tryz.func9 rfl rfl rfl ?base ?_
 case base=>rfl
 refine Wv.W ?_;refine call_TC TM rfl (cloA2 (.g hP) (.v _)) Wv.c ?_;simp (disch:=first|exact Wv.D|fail) only [Wv.B,simprocAttr,alB he];exact ⟨[_],rfl⟩
theorem amB (x:Par) (t e:Int) (he:e≠0) (TM:TC Tryz.prog 27 [.g (parC x), .v (.int .i64 x.r)] (.tup [.v (.int .i64 t), .v (.int .i64 e)])) (m:Nat) (ln:Nat→Nat) (vs:Nat→Nat→Int) (ns:Nat) (sl:Nat→Int)
  (A D E F:List AV) (hA: ∀ a,a∈A→Clo a) (hD: ∀ a,a∈D→Clo a) (hE: ∀ a,a∈E→Clo a) (hF: ∀ a,a∈F→Clo a) (uA:AV):
  HT Tryz.prog 10 [.g (parC x),vsA m ln vs,roA ns sl,uA] [some (.blk A),some (.blk D),some (.blk E),some (.blk F)] (fun r h'=>r= .tup [.v (.slice none 0 0), .v (.int .i64 2)]∧h'=[some (.blk A),some (.blk D),some (.blk E),some (.blk F)]):=by
 have hP:=parC_clo x;suffices T:HT Tryz.prog 10 [.g (parC x),vsA m ln vs,roA ns sl,uA] [some (.blk A),some (.blk D),some (.blk E),some (.blk F)] (fun r h'=>r= .tup [.v (.slice none 0 0), .v (.int .i64 2)]∧ ∃ q,h'=[some (.blk A),some (.blk D),some (.blk E),some (.blk F)]++q) by
  refine (T.amW ?_).alT ?_
  ·rintro r h' ⟨rfl,q,rfl⟩;exact ⟨by simp only [Wv.BL, ↓reduceIte,Nat.reduceLeDiff],fun a ha=> .clo (hA a ha),fun a ha=> .clo (hD a ha),fun a ha=> .clo (hE a ha),fun a ha=> .clo (hF a ha),trivial⟩
  ·rintro r h2 ⟨h',⟨rfl,q,rfl⟩,rfl⟩;exact ⟨rfl,rfl⟩
 unfold parC vsA vcA roA at*;refine Wv.HT.by 100 [0,4,11,1,2,39,12,43,10,54,14,58,16,70,3,18,81,15,17,13,8,9] [(7,7),(1000000,4)] [.tmp 8, .tmp 9] Tryz.func10 rfl rfl rfl ?base ?_
 case base=>rfl
 refine Wv.W ?_;refine call_TC TM rfl (cloA2 (.g hP) (.v _)) Wv.c ?_;simp (disch:=first|exact Wv.D|fail) only [Wv.B,simprocAttr,alB he];exact ⟨[_],rfl⟩
theorem anj {h:Int} {sl f:Nat→Int} {a:Nat}: ∀ q,(alF (fun _=>none) h sl f a q).2.2=a∧((alF (fun _=>none) h sl f a (q+1)).1=false)
 | 0=>⟨rfl,rfl⟩
 | q+1=>by
  obtain ⟨h1,h2⟩:=anj (h:=h) (sl:=sl) (f:=f) (a:=a) q;have h0:(alF (fun _=>none) h sl f a (q+1)).2.2=a:=by
   show (stepS _ h (sl q) (alF (fun _=>none) h sl f a q)).2.2=a;unfold stepS;split<;>exact h1
  refine ⟨h0,?_⟩;rw [alY (q:=q+1) h2 1];exact h2
theorem amr {h:Int} {sl:Nat→Int} {ns:Nat} {vs:Nat→Nat→Int} {a:Nat}: ∀ i,(alD (fun _=>none) h sl ns vs a i).2.2=a
 | 0=>rfl
 | i+1=>by
  have ih:=amr (h:=h) (sl:=sl) (ns:=ns) (vs:=vs) (a:=a) i;show (amy _ i (alD (fun _=>none) h sl ns vs a i)).2.2=a;unfold amy;split
  ·exact (anj ns).1.trans ih
  ·exact ih
theorem anc {h:Int} {sl:Nat→Int} {ns m:Nat} {vs:Nat→Nat→Int} {a:Nat} (hz:ns=0∨m=0):(alD (fun _=>none) h sl ns vs a m).1=true:=by
 rcases hz with rfl | rfl
 ·induction m with
  | zero=>rfl
  | succ i ih=>rw [alU ih];rfl
 ·rfl
theorem ane {h:Int} {sl:Nat→Int} {ns m:Nat} {vs:Nat→Nat→Int} {a:Nat} (h1:ns≠0) (h2:m≠0):(alD (fun _=>none) h sl ns vs a m).1=false:=by
 obtain ⟨k,rfl⟩: ∃ k,ns=k+1:=⟨ns - 1,by omega⟩
 have e:(alD (fun _=>none) h sl (k+1) vs a 1).1=false:=by
  rw [alU (show (alD (fun _=>none) h sl (k+1) vs a 0).1=true from rfl)];exact (anj k).2
 rw [amd (i:=1) e (by omega)];exact e
theorem amC (x:Par) (hx:ParOk x) (hlen:x.ch.length≤140737488351232) (hrng: ∀ q,q∈x.ch→q<4294967296) (m:Nat) (ln:Nat→Nat) (vs:Nat→Nat→Int) (ns:Nat) (sl:Nat→Int) (hm:m≤140737488351232) (hln: ∀ i,i<m→ln i≤140737488351232) (hns:ns≤140737488351232) (hvr: ∀ i,i<m→ ∀ j,j<ln i→ -9223372036854775808≤vs i j∧vs i j≤9223372036854775807)
  (A D:List AV) (hA: ∀ a,a∈A→Clo a) (hD: ∀ a,a∈D→Clo a) (s:ByteArray) (hs:s.size≤1000000):
  ∃ (R Rn:AV) (f g:Int) (p:Nat),p≤8*s.size∧Clo R∧(∀ h,close2 h R=some (R,h))∧Clo Rn∧
   HT Tryz.prog 9 [.g (parC x),vsA m ln vs,roA ns sl, .ptr 2 0] [some (.blk A),some (.blk D),some (.blk (alE s 0)),some (.blk (rsC s 0))] (fun r h'=>r= .tup [R, .v (.int .i64 f)]∧h'=[some (.blk A),some (.blk D),some (.blk (alE s p)),some (.blk (rsC s 0))])∧
   HT Tryz.prog 10 [.g (parC x),vsA m ln vs,roA ns sl, .ptr 3 0] [some (.blk A),some (.blk D),some (.blk (alE s p)),some (.blk (rsC s 0))] (fun r h'=>r= .tup [R, .v (.int .i64 f)]∧h'=[some (.blk A),some (.blk D),some (.blk (alE s p)),some (.blk (rsC s p))])∧
   HT Tryz.prog 9 [.g (parC x),vsA m ln vs,roA ns sl, .v (.pointer none)] [some (.blk A),some (.blk D),some (.blk (alE s p)),some (.blk (rsC s p))] (fun r h'=>r= .tup [Rn, .v (.int .i64 g)]∧h'=[some (.blk A),some (.blk D),some (.blk (alE s p)),some (.blk (rsC s p))])∧
   TC Tryz.prog 11 [R,R] (.v (.bool true))∧(f=2→g=2)∧(f≠2→(ns=0∨m=0)→g=0)∧(f≠2→ns≠0→m≠0→g=1):=by
 have TM:=pmodulus_tc x x.r hx hlen hrng;have TR:=rmodulus_tc x x.r hx hlen hrng;have TN:TC Tryz.prog 11 [.v (.slice none 0 0), .v (.slice none 0 0)] (.v (.bool true)):=(alR 0 (fun _=>0) (fun _ _=>0) (by omega) fun i hi=>absurd hi (Nat.not_lt_zero i)).wk ⟨Wk.nil 1,Wk.nil 1,trivial⟩ (Wk.refl _);by_cases hm0:modErr mPrime x x.r=0;rotate_left
 ·exact ⟨.v (.slice none 0 0), .v (.slice none 0 0),2,2,0,Nat.zero_le _, .v _,fun _=>rfl, .v _,ame x _ _ hm0 TM m ln vs ns sl A D _ _ hA hD (alG s 0) (alI s 0) _,amB x _ _ hm0 TR m ln vs ns sl A D _ _ hA hD (alG s 0) (alI s 0) _,ame x _ _ hm0 TM m ln vs ns sl A D _ _ hA hD (alG s 0) (alI s 0) _,TN,fun _=>rfl,fun h=>absurd rfl h,fun h=>absurd rfl h⟩
 obtain ⟨ht3,hto,ht31⟩:=mod_odd hm0;obtain ⟨N,hxN,hN4,hN32,hN2⟩:=mod_even hm0;rw [hm0] at TM TR;generalize modVal mPrime x x.r=t at*;have P1:=amj x N t hxN hN4 hN32 ht3 ht31 hto TM m ln vs ns sl hm hln hns hvr A D (rsC s 0) hA hD (alI s 0) s 0 hs (Nat.zero_le _) (.ptr 2 0) (alC s t) 4 (.inl ⟨rfl,rfl,rfl⟩);have P2:=fun p=>amS x N t hxN hN4 hN32 ht3 ht31 hto TR m ln vs ns sl hm hln hns A D (alE s p) hA hD (alG s p) s 0 hs (Nat.zero_le _)
 have P3:=fun p hp=>amj x N t hxN hN4 hN32 ht3 ht31 hto TM m ln vs ns sl hm hln hns hvr A D (rsC s p) hA hD (alI s p) s p hs hp (.v (.pointer none)) (fun _=>none) 1 (.inr ⟨rfl,rfl,rfl⟩)
 have hpos:=alW (B:=alC s t) (h:=((t:Int) - 1) / 2) (sl:=sl) (ns:=ns) (vs:=vs) (L:=8*s.size) (fun a v b e=>(alM e).2.2) (Nat.zero_le _) m;generalize (decide (8<m) || (!ascB N ns sl || anyN m fun i=>badV N t (ln i) (vs i)))=bad at*;generalize alD (alC s t) (((t:Int) - 1) / 2) sl ns vs 0 m=q at*;cases bad with
 | true=>
  have hpl: ∀ code q,alJ N m code true q= .tup [.v (.slice none 0 0), .v (.int .i64 2)]:=fun _ _=>rfl
  rw [if_pos rfl,hpl] at P1;have P2:=P2 0;rw [if_pos rfl,hpl] at P2;have P3:=P3 0 (Nat.zero_le _);rw [if_pos rfl,hpl] at P3;exact ⟨.v (.slice none 0 0), .v (.slice none 0 0),2,2,0,Nat.zero_le _, .v _,fun _=>rfl, .v _,P1,P2,P3,TN,fun _=>rfl,fun h=>absurd rfl h,fun h=>absurd rfl h⟩
 | false=>
  rw [if_neg (by decide)] at P1;have P2:=P2 q.2.2;rw [if_neg (by decide)] at P2;have P3:=P3 q.2.2 hpos;rw [if_neg (by decide),amr] at P3;have hok:=anc (h:=((t:Int) - 1) / 2) (sl:=sl) (ns:=ns) (m:=m) (vs:=vs) (a:=q.2.2);have hno:=ane (h:=((t:Int) - 1) / 2) (sl:=sl) (ns:=ns) (m:=m) (vs:=vs) (a:=q.2.2);generalize alD (fun _=>none) (((t:Int) - 1) / 2) sl ns vs q.2.2 m=qn at*;have hR: ∀ code (q:Bool × (Nat→Nat→Int) × Nat),q.1=true→alJ N m code false q= .tup [vsA m (fun _=>N) q.2.1, .v (.int .i64 0)]:=fun code q h=>by unfold alJ;rw [if_neg (by decide),if_pos h]
  have hF: ∀ code (q:Bool × (Nat→Nat→Int) × Nat),q.1=false→alJ N m code false q= .tup [.v (.slice none 0 0), .v (.int .i64 code)]:=fun code q h=>by unfold alJ;rw [if_neg (by decide),if_neg (by rw [h];decide)]
  have key: ∃ (Rn:AV) (g:Int),alJ N m 1 false qn= .tup [Rn, .v (.int .i64 g)]∧Clo Rn∧((ns=0∨m=0)→g=0)∧(ns≠0→m≠0→g=1):=by
   by_cases hz:ns=0∨m=0
   ·exact ⟨_,_,hR 1 qn (hok hz),jG_clo _ _ _,fun _=>rfl,fun h1 h2=>(hz.elim h1 h2).elim⟩
   ·have h1:ns≠0:=fun h=>hz (.inl h)
    have h2:m≠0:=fun h=>hz (.inr h)
    exact ⟨_,_,hF 1 qn (hno h1 h2), .v _,fun h=>absurd h hz,fun _ _=>rfl⟩
  obtain ⟨Rn,g,hg,hcn,hg0,hg1⟩:=key;rw [hg] at P3;cases hq:q.1 with
  | true=>
   rw [hR 4 q hq] at P1 P2;exact ⟨_,Rn,0,g,q.2.2,hpos,jG_clo _ _ _,fun _=>rfl,hcn,P1,P2,P3,alR m (fun _=>N) q.2.1 hm fun _ _=>by omega,fun h=>(by omega),fun _=>hg0,fun _=>hg1⟩
  | false=>
   rw [hF 4 q hq] at P1 P2;exact ⟨_,Rn,4,g,q.2.2,hpos, .v _,fun _=>rfl,hcn,P1,P2,P3,TN,fun h=>(by omega),fun _=>hg0,fun _=>hg1⟩
end
end Go.Proofs.YthlhibpfagekfaaGreat
namespace Go.Proofs.YthlhibpfagekfaaGreat.Wv
section
def tbAud:List (FuncId × FI):=[
 (40,⟨[0,1,3,4,10,29,2,43,11,52,51,53,50,15,78,13,14,93,92,94,91,17,111,110,112,109,18,20,6,7],[(13,10),(3000013,msk),(18,10),(3000018,msk)]⟩),
 (11,⟨[5,0,1,15,27,4],[(4,8)]⟩),
 (31,⟨[0,1,10,5,14,25,4],[(6,8),(3000006,msk)]⟩),
 (4,⟨[1,3,5,7,9,11,13,15,4,6,8,12,14,0],[(5,7),(7,1000000),(5000007,8003)]⟩),
 (18,⟨[0,1,4,5,2,11,24,3,13,12,40,14,8,9],[(7,9),(3000007,msk)]⟩),
 (19,⟨[0,1,10,5,14,25,4],[(6,8),(3000006,msk)]⟩),
 (20,⟨[1,0,12,11,13,10,8,4,7,2,9,26,6],[]⟩),
 (17,⟨[0,1,3,4,10,26,2,32,39,38,40,37,12,15,13,50,55,54,56,53,11,17,6,7],[]⟩),
 (16,⟨[0,1,3,4,10,19,2,28,6,7],[]⟩),
 (23,⟨[0,7,4,15,3,2],[]⟩),
 (24,⟨[0,7,4,15,3,2],[]⟩),
 (69,⟨[0,1,3,16,2,31,30,32,5,6,59,8,7,10,9,75,74,76,12,13,11,4],[(2,6),(3000002,msk),(7,9),(3000007,msk),(20,6),(3000020,msk)]⟩),
 (25,⟨[0,4,2],[]⟩),
 (15,⟨[0,3,2],[]⟩),
 (9,⟨[0,4,11,1,2,43,10,49,48,50,47,14,12,70,74,73,75,72,17,82,81,83,80,3,22,94,18,20,21,15,8,9],[]⟩),
 (6,⟨[0,5,2],[]⟩),
 (41,⟨[0,1,10,13,12,14,5,24,4],[(6,8),(3000006,msk)]⟩),
 (42,⟨[0,12,11,13,10,6,1,21,20,22,19,7,9,4],[]⟩),
 (43,⟨[0,1,2,3,5],[(1,29),(3000001,msk)]⟩),
 (44,⟨[0,1,4],[]⟩),
 (22,⟨[1,9,8,10,7,6,0,5,33,4],[]⟩),
 (38,⟨[0,1,2,8,6,5,7,3,27,26,28,25,10,11,37,36,38,35,12,13,58,57,59,56,16,67,66,68,65,14,17,18,4],[]⟩),
 (39,⟨[4,5,0,3,11,2],[]⟩),
 (101,⟨[0,1,4],[]⟩),
 (103,⟨[0,1,4],[]⟩),
 (93,⟨[0,21,3,25,45,2],[]⟩),
 (60,⟨[0,1,2],[]⟩),
 (61,⟨[0,4,1,9,3,38,2],[]⟩),
 (108,⟨[0,5,1,4],[]⟩),
 (109,⟨[0,3,2],[]⟩),
 (110,⟨[0,1,3],[(1,10),(3000001,msk)]⟩),
 (111,⟨[1,14,15,19,2,0,25,3,40,55,64,79,4,100,5,115,128,6,142,7,159,174,190,189,191,188,10,12,9],[(7,12),(3000007,msk),(9,12),(3000009,msk),(13,12),(3000013,msk),(15,17),(3000015,msk),(17,11),(3000017,msk),(19,10),(3000019,msk),(21,10),(3000021,msk),(23,14),(3000023,msk),(25,12),(3000025,msk),(27,9),(3000027,msk)]⟩),
 (112,⟨[2,9,14,0,7,1,6],[]⟩),
 (113,⟨[1,0,5,18,28,4],[]⟩),
 (36,⟨[0,10,2,5,6,22,30,7,62,78,3,4],[(8,1000000),(3000008,msk),(12,1000000),(3000012,msk),(16,1000000),(3000016,msk),(5000008,4003),(5000012,7004)]⟩),
 (70,⟨[0,8,7,9,1,5,16,4],[]⟩),
 (68,⟨[0,6,24,23,25,8,10,1,42,41,43,40,9,12,2,13,55,54,56,59,77,14,3,87,4,97,5,121,136,150,160,62,61,63,60,16,7],[(6,8),(3000006,msk),(28,19),(3000028,msk),(30,10),(3000030,msk),(21,8),(3000021,msk)]⟩),
 (79,⟨[0,1,4],[]⟩),
 (82,⟨[0,4,2],[]⟩),
 (128,⟨[0,8,7,9,1,5,16,4],[]⟩),
 (129,⟨[0,8,7,9,1,5,16,4],[]⟩),
 (132,⟨[0,1,4],[]⟩),
 (134,⟨[0,1,4],[]⟩),
 (91,⟨[0,2],[]⟩),
 (121,⟨[5,0,9,1,17,4],[]⟩),
 (122,⟨[0],[]⟩),
 (92,⟨[0,2],[]⟩),
 (183,⟨[0,2],[]⟩),
 (184,⟨[0,2],[]⟩),
 (96,⟨[0,4,1,9,3,2],[]⟩),
 (97,⟨[0,4,1,9,3,2],[]⟩),
 (98,⟨[0,3,1,8,17,2],[]⟩),
 (54,⟨[4,0,41,45,55,63,3,83,109,112,126,7,74,5,82,6,140,2],[(16,5),(3000016,msk)]⟩),
 (55,⟨[0,1,7],[]⟩),
 (56,⟨[0,28,3,2],[]⟩),
 (57,⟨[0,1,8,4],[]⟩),
 (58,⟨[0,8,3,2],[]⟩),
 (59,⟨[0,19,21,4,3,2],[(7,4),(3000007,msk)]⟩),
 (115,⟨[0,8,7,9,1,5,16,4],[]⟩),
 (160,⟨[0,8,7,9,1,5,16,4],[]⟩),
 (161,⟨[0,8,7,9,1,5,16,4],[]⟩),
 (94,⟨[0,1,4],[]⟩),
 (95,⟨[0,7,3,2],[(3,3),(3000003,msk)]⟩),
 (123,⟨[0,5,2,22],[]⟩),
 (157,⟨[0,10,2,12,24,30,3,6,4,43,51,5],[]⟩),
 (158,⟨[0,21,7,5,6,39,1,68,80,4],[]⟩),
 (176,⟨[0,7,3,15,2],[]⟩),
 (177,⟨[0,1,13,5,25,33,4],[(5,5),(3000005,msk)]⟩),
 (182,⟨[0,2],[]⟩)]
theorem tbAud_ok:tbB Tryz.prog tbAud=true:=by kernel_rfl
end
end Go.Proofs.YthlhibpfagekfaaGreat.Wv
