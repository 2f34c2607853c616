/- Parts of a proof. -/
import Derived.Test.YtljfgdlgmdcmfaaGreatQvn
import Derived.Test.YtljfgdlgmdcmfaaGreatQvl
import Derived.Test.YtljfgdlgmdcmfaaGreatQvk
import Derived.Test.YtljfgdlgmdcmfaaGreatQvp
set_option linter.unusedVariables false
set_option linter.unusedSimpArgs false
set_option maxHeartbeats 3200000
set_option maxRecDepth 100000
namespace Go.Proofs.YtljfgdlgmdcmfaaGreat
section
open Go.RowKit Wv
theorem VH (n:Nat) (f:Nat→Int) (hn:n≤140737488351232):TC Tryz.prog 117 [.t n 1 (tab n fun i=> .v (.int .i64 (f i))), .t n 1 (tab n fun i=> .v (.int .i64 (f i)))] (.v (.bool true)):=by
 refine Wv.TC.by 32 [5,0,1,15,26,4] [(4,8)] [.tmp 4] Tryz.func117 rfl rfl rfl ?clo ?_
 case clo=>simp only [Wv.BC]
 refine Wv.W ?_;refine aQ (σ:=Nat) (fun i=>[(0, .t n 1 (tab n fun i=> .v (.int .i64 (f i)))),(1, .t n 1 (tab n fun i=> .v (.int .i64 (f i)))),(5, .v (.int .i64 i))]) (fun _=>[])
  (fun i=>i≤n) (fun i=>n - i) 0 (Nat.zero_le _) rfl Wv.V ?_
 intro i hi;by_cases hlt:i<n
 ·have e1:(i:Int)<n:=by omega
  refine Wv.W1 (ah e1) ?_;refine au (i+1) (by omega) (by omega) rfl Wv.V2
 ·obtain rfl:n=i:=by omega
  exact Wv.V2f @Int.lt_irrefl @decide_false
theorem G6 (n:Nat) (f:Nat→ByteArray) (hn:n≤140737488351232):TC Tryz.prog 70 [bG n f,bG n f] (.v (.bool true)):=by
 unfold bG;refine Wv.TC.by 32 [5,0,1,15,26,4] [(4,8)] [.tmp 4] Tryz.func70 rfl rfl rfl ?clo ?_
 case clo=>simp only [Wv.BC]
 refine Wv.W ?_;refine aQ (σ:=Nat) (fun i=>[(0, .t n 1 (tab n fun i=> .v (.string (f i)))),(1, .t n 1 (tab n fun i=> .v (.string (f i)))),(5, .v (.int .i64 i))]) (fun _=>[])
  (fun i=>i≤n) (fun i=>n - i) 0 (Nat.zero_le _) rfl Wv.V ?_
 intro i hi;by_cases hlt:i<n
 ·have e1:(i:Int)<n:=by omega
  refine Wv.W1 (ah e1) ?_;refine au (i+1) (by omega) (by omega) rfl Wv.V2
 ·obtain rfl:n=i:=by omega
  exact Wv.V2f @Int.lt_irrefl @decide_false
theorem VI (x:Ex) (h:okE x):TC Tryz.prog 71 [.g (exC x), .g (exC x)] (.v (.bool true)):=by
 induction x with
 | nil=>exact h.elim
 | mk k s n nl li na ar ih=>
 obtain ⟨hs,hnl,hna,hh⟩:=h;have TI:=VH nl li hnl;have hdA: ∀ i,i<na→ ∃ r,List.drop (i*5) (cO na fun i=>exC (ar i))=exC (ar i)++r:=fun i hi=>bH (f:=fun i=>exC (ar i)) (fun i=>gJ (ar i)) hi
 rw [dh];generalize (cO na fun i=>exC (ar i))=E at*;refine Wv.TC.by 61 [0,1,2,3,41,5,46,60,4] [(6,10)] [.tmp 4] Tryz.func71 rfl rfl rfl ?clo ?_
 case clo=>simp only [Wv.BC]
 refine Wv.W ?_;refine ak TI rfl Wv.c Wv.c ?_;refine Wv.W ?_;refine aQ (σ:=Nat) (fun i=>[(2, .ptr 0 0),(3, .ptr 1 0),(5, .v (.int .i64 i))])
  (fun _=>[some (.blk [.v (.int .i64 k), .v (.string s), .v (.int .i64 n), .t nl 1 (tab nl fun i=> .v (.int .i64 (li i))), .t na 5 E]),some (.blk [.v (.int .i64 k), .v (.string s), .v (.int .i64 n), .t nl 1 (tab nl fun i=> .v (.int .i64 (li i))), .t na 5 E])])
  (fun i=>i≤na) (fun i=>na - i) 0 (Nat.zero_le _) rfl Wv.V ?_
 intro i hi;by_cases hlt:i<na
 ·have e1:(i:Int)<na:=by omega
  have T:=ih i (hh i hlt);have hG:=bU (ar i);obtain ⟨r,hd⟩:=hdA i hlt;obtain ⟨c0,c1,c2,c3,c4,c5,c6,h5⟩:=pI (ar i);rw [h5] at T hG hd;simp only [List.cons_append,List.nil_append] at hd;refine Wv.W2 (ah e1) hd ?_;refine ak T rfl (lJ hG hG) Wv.c ?_;refine Wv.W ?_;refine au (i+1) (by omega) (by omega) rfl Wv.V2
 ·obtain rfl:na=i:=by omega
  exact Wv.V2f @Int.lt_irrefl @decide_false
theorem aa6 (c:Ci) (h:okC c):TC Tryz.prog 22 [.g (ciC c), .g (ciC c)] (.v (.bool true)):=by
 have T1:=G6 c.ni c.fi h.ni;have T2:=G6 c.no c.fo h.no;have hc1:=jW c.ni c.fi;have hc2:=jW c.no c.fo;have hnl:=h.nl;have hdr: ∀ i,i<c.nl→ ∃ r,List.drop (i*6) c.lets= .v (.string (c.ln i))::(exC (c.le i)++r):=fun i hi=>by
  obtain ⟨r,h⟩:=bH (f:=fun i=>iD (c.ln i) (c.le i)) (fun i=>gV _ _) hi;exact ⟨r,h⟩
 have hle:=fun i hi=>(h.le i hi).1
 unfold ciC bG;unfold bG at T1 T2 hc1 hc2;generalize c.lets=L at*;refine Wv.TC.by 72 [0,1,2,3,35,5,40,71,4] [(6,26)] [.tmp 4] Tryz.func22 rfl rfl rfl ?clo ?_
 case clo=>simp only [Wv.BC]
 refine Wv.W ?_;refine ak T1 rfl (lJ hc1 hc1) Wv.c ?_;refine Wv.W ?_;refine ak T2 rfl (lJ hc2 hc2) Wv.c ?_;refine Wv.W ?_;refine aQ (σ:=Nat) (fun i=>[(2, .ptr 0 0),(3, .ptr 1 0),(5, .v (.int .i64 i))])
  (fun _=>[some (.blk [.v (.string c.name), .t c.ni 1 (tab c.ni fun i=> .v (.string (c.fi i))), .t c.nl 6 L, .t c.no 1 (tab c.no fun i=> .v (.string (c.fo i)))]),some (.blk [.v (.string c.name), .t c.ni 1 (tab c.ni fun i=> .v (.string (c.fi i))), .t c.nl 6 L, .t c.no 1 (tab c.no fun i=> .v (.string (c.fo i)))])])
  (fun i=>i≤c.nl) (fun i=>c.nl - i) 0 (Nat.zero_le _) rfl Wv.V ?_
 intro i hi;by_cases hlt:i<c.nl
 ·have e1:(i:Int)<c.nl:=by omega
  have T:=VI (c.le i) (hle i hlt);have hG:=bU (c.le i);obtain ⟨r,hd⟩:=hdr i hlt;obtain ⟨c0,c1,c2,c3,c4,c5,c6,h5⟩:=pI (c.le i);rw [h5] at T hG hd;simp only [List.cons_append,List.nil_append] at hd;refine Wv.W2 (ah e1) hd ?_;refine ak T rfl (lJ hG hG) Wv.c ?_;refine Wv.W ?_;refine au (i+1) (by omega) (by omega) rfl Wv.V2
 ·obtain rfl:i=c.nl:=by omega
  exact Wv.V2f @Int.lt_irrefl @decide_false
end
section
open Go.RowKit Wv
def eqR (x:Par) (c:Ci) (m:Nat) (ln:Nat→Nat) (vs:Nat→Nat→Int) (r:AV) (h:Hp):Prop:=
 (∃ z,r= .tup [.v (.slice none 0 0), .v (.int .i64 z)]∧TC Tryz.prog 34 [.g (dN x), .g (ciC c),vsA m ln vs] (.tup [.v (.slice none 0 0), .v (.int .i64 z)]))∨
 (∃ (N:Nat) (o:Nat→Nat→Int),N≤32∧c.no≤8∧r= .tup [.own 4 c.no, .v (.int .i64 0)]∧TC Tryz.prog 34 [.g (dN x), .g (ciC c),vsA m ln vs] (.tup [vsA c.no (fun _=>N) o, .v (.int .i64 0)])∧
  ∃ a b d es,h=some (.blk a)::some (.blk b)::some (.map es)::some (.blk d)::some (.arr 43 1 (tab c.no fun a=> .own (5+2*a) N) 0)::rwH 5 N o c.no)
theorem VJ (x:Par) (hx:qY x) (hlen:x.ch.length≤140737488351232) (lH: ∀ q,q∈x.ch→q<4294967296) (c:Ci) (hc:okC c) (hnl:c.nl≤1000000) (hni:c.ni≤1000000) (hcn: ∀ i,i<c.nl→bC (c.le i)≤1000000) (m:Nat) (ln:Nat→Nat) (vs:Nat→Nat→Int) (hm:m≤140737488351232) (hln: ∀ i,i<m→ln i≤140737488351232):
  ∃ Q:AV→Hp→Prop,HT Tryz.prog 33 [.g (dN x), .g (ciC c),vsA m ln vs] [] Q∧(∀ r h,Q r h→ShR r∧ ∀ o,o∈h→ShO o)∧ ∀ r h,Q r h→eqR x c m ln vs r h:=by
 have PT:=UW x hx hlen lH c hc;have RT:=Vy x hx hlen lH c hc hnl hni hcn;have PM:=zS x x.r hx hlen lH;have RM:=zW x x.r hx hlen lH;by_cases he:(fG (fK ay x x.r) c (ruA x (eY ay x x.r))).2.2=0
 ·have hm0:=(LV he).1;obtain ⟨ht3,hto,anI⟩:=afe hm0;obtain ⟨N,hxN,hN4,ajB,hN2⟩:=aag hm0;have hno:c.no≤8:=(ai8 hc he).2;rw [hm0] at PM RM;obtain ⟨G,GR,hE⟩:=VE (vs:=vs) hxN ht3 hto hN4 hc he;have hE:=hE m ln;generalize fG (fK ay x x.r) c (ruA x (eY ay x x.r))=q at*;obtain ⟨s1,at1,e1⟩:=q;obtain rfl:e1=0:=he;have R:=aa1 x c N _ 0 at1 s1 hxN (by omega) (by omega) (by omega) hN4 ajB hN2 RT RM hc m ln vs hm hln fun _=>GR
  rw [hE] at R;refine ⟨_,ZN x c N _ 0 at1 s1 hxN (by omega) (by omega) (by omega) hN4 ajB hN2 PT PM hc m ln vs hm hln fun _=>G,fun r h q=>aiG q,fun r h q=>?_⟩;rcases q with ⟨z,hz,rfl,_⟩ | ⟨hz,rfl,a,b,d,es,rfl⟩
  ·rw [hz] at R;exact .inl ⟨z,rfl,R⟩
  ·rw [hz] at R;exact .inr ⟨N,_,ajB,hno,rfl,R,a,b,d,es,rfl⟩
 ·generalize fG (fK ay x x.r) c (ruA x (eY ay x x.r))=q at*;obtain ⟨s1,at1,e1⟩:=q;have A:=VF x c e1 at1 s1 he PT m ln vs;refine ⟨_,A.ht (aeC (.g (dI x)) (tq c) (aa3 m ln vs)) Wv.c [],fun r h ⟨q1,q2⟩=>⟨q1▸ .inl (.inl Wv.c),q2▸nZ⟩,fun r h ⟨q1,_⟩=> .inl ⟨e1,q1,PE x c e1 at1 s1 he RT m ln vs⟩⟩
theorem RN (x:Par) (hx:qY x) (hlen:x.ch.length≤140737488351232) (lH: ∀ q,q∈x.ch→q<4294967296) (c:Ci) (h:EN c) (m:Nat) (ln:Nat→Nat) (vs:Nat→Nat→Int) (hm:m≤140737488351232) (hln: ∀ i,i<m→ln i≤140737488351232):
  TC Tryz.prog 7 [.g (dN x), .g (ciC c),vsA m ln vs] (.v (.bool true)):=by
 have hCg:=tq c;have hPg:Clo (.g (dN x)):= .g (dI x);have hVg:Clo (vsA m ln vs):=aa3 m ln vs;have TB:=Og c h 10000 (by omega) (by omega);have TH:=fun hnl hcn=>Uo (dN x) (dI x) x.p _ _ _ _ _ _ rfl (by have:=hx.p1;omega) c h hnl hcn
 have TG:TC Tryz.prog 31 [vsA m ln vs] _:=VG m ln vs hm hln;have hG:grB m ln=(aI m (fun i=>decide (100<ln i)) || decide (50<m)):=rfl;have hok:=fun hb=>ah2 h (most:=10000) (by omega) (by omega) hb
 have hsm:=fun hb=>ajA h (most:=10000) (by omega) (by omega) hb
 have EV:=fun hc hnl hni hcn=>VJ x hx hlen lH c hc hnl hni hcn m ln vs hm hln
 have TS:=aa6 c;have HC:=fun hc hni hno hnl hle=>OZ (dN x) (ciC c) (dI x) (qj c) c hc hni hno hnl hle
 have CT:=U1 m ln vs;have SM:=vw m ln vs hm hln;have SN:=vw 0 (fun _=>0) (fun _ _=>0) (by omega) fun _ _=>by omega
 have hll:=wM c;obtain ⟨CH,hCH⟩: ∃ CH,CH=x.ch.map fun (c:Nat)=>AV.v (.int .u32 c):=⟨_,rfl⟩
 have hP7:dN x=[.v (.int .i64 x.n), .v (.int .u32 x.p), .v (.int .i64 x.r), .t x.ch.length 1 CH, .v (.int .u32 x.sp), .v (.int .i64 x.wt), .v (.int .u32 x.er)]:=by rw [hCH];rfl
 unfold eqR at EV;rw [hP7] at hPg TH EV HC ⊢;unfold ciC bG vsA vcA at*;refine Wv.TC.by 97 [0,1,16,3,4,2,33,7,8,9,11,10,12,72,13,76,14,85,6] [] [.tmp 6] Tryz.func7 rfl rfl rfl ?clo ?_
 case clo=>simp only [Wv.BC]
 refine Wv.W ?_;refine ak OQ rfl Wv.c Wv.c ?_;by_cases amm:(x.ch.length:Int)>100
 ·exact Wv.V1 (ah amm)
 refine Wv.W1 (aj amm) ?_;refine ak TB rfl (Ad hCg (.v _)) Wv.c ?_;cases hb:KN c 10000 with
 | true=>exact Wv.V
 | false=>
 obtain ⟨hc,hnl,hcn⟩:=hok hb;obtain ⟨b1,b2,b3,b4⟩:=hsm hb;refine Wv.W ?_;refine ak (TH hnl fun i hi=>by have:=hcn i hi;omega) rfl (Ad hPg hCg) Wv.c ?_;cases Qe x.p c with
 | true=>exact Wv.V
 | false=>
 refine Wv.W ?_;refine ak TG rfl (dR hVg) Wv.c ?_;cases hg:grB m ln with
 | true=>exact Wv.V
 | false=>
 obtain ⟨anJ,amn⟩:m≤50∧ ∀ i,i<m→ln i≤100:=by
  have hG:=hG.symm.trans hg;rw [Bool.or_eq_false_iff] at hG;refine ⟨by have:=of_decide_eq_false hG.2;omega,fun i hi=>?_⟩;have h1:=hG.1;unfold aI at h1;have:=List.any_eq_false.1 h1 i (List.mem_range.2 hi);have:=of_decide_eq_false (by simpa using this:decide (100<ln i)=false);omega
 have HC:=HC hc (by omega) (by omega) (by omega) fun i hi=>⟨by have:=hcn i hi;omega,b4 i hi⟩
 have CT:=CT (by omega) fun i hi=>by have:=amn i hi;omega
 obtain ⟨Q,EH,EQ,EE⟩:=EV hc hnl (by omega) fun i hi=>by have:=hcn i hi;omega
 have TS:=TS hc;refine Wv.W ?_;refine aB (fst:=[]) (cap:=[]) HC ?_;rintro av h' ⟨rfl,o2,o3,rfl⟩;refine Wv.W1 hll ?_;refine ak CT rfl (dR hVg) Wv.c ?_;refine Wv.W1 hll ?_;refine ZM (fun h2=>HT.fresh (h:=h2) EH (aeC hPg hCg hVg) EQ) ?_;refine Wv.W1 hll ?_;refine iE rfl ?_;rintro av h' ⟨r0,h0,hq,rfl,rfl⟩;rcases EE _ _ hq with ⟨z,rfl,ER⟩ | ⟨N,o,hN,hno,rfl,ER,pa,pb,pd,pe,rfl⟩
 ·simp only [List.length_cons,List.length_nil,Nat.reduceAdd,shR,sh1,List.map_cons,List.map_nil];generalize h0.map (shO _)=R0;refine Wv.W ?_;refine ak ER rfl (aeC hPg hCg hVg) Wv.c ?_;refine Wv.W ?_;refine P9 SN rfl ⟨Wk.nil 1,Wk.nil 1,trivial⟩ Wv.c Wv.c ?_;refine Wv.W ?_;refine jV TS (Ad hCg hCg) Wv.c ?_;refine Wv.W1 hll ?_;refine iE rfl ?_;refine Wv.W ?_;refine ak SM rfl (Ad hVg hVg) Wv.c ?_;refine Wv.W ?_;refine jU (σ:=Nat) (fun i=>[(2, .t m 1 (tab m fun i=> .t (ln i) 1 (tab (ln i) fun j=> .v (.int .i64 (vs i j))))),(8, .t m 1 (tab m fun i=> .t (ln i) 1 (tab (ln i) fun j=> .v (.int .i64 (vs i j))))),(9, .v (.slice none 0 0)),(13, .v (.int .i64 i))]) (fun _=>[]) (fun i=>i=0) (fun _=>0) 0 rfl ?_ ?_
  ·refine Ent.Iz 0 (Nat.le_refl _) ?_ ?_ rfl ?_
   ·exact Wv.V
   ·simp only [Wv.BL, ↓reduceIte,Nat.reduceLeDiff]
   ·simp only [Wv.BL, ↓reduceIte,Nat.reduceLeDiff]
  rintro i rfl;refine Wv.W ?_;refine ak SM rfl (Ad hVg hVg) Wv.c ?_;exact Wv.V
 ·simp only [List.length_cons,List.length_nil,Nat.reduceAdd,shR,sh1,shO,List.map_cons,List.map_nil,aev,ZO];have SO:=vw c.no (fun _=>N) o (by omega) fun _ _=>by omega
  unfold vsA vcA at SO;obtain ⟨OP,hOP⟩: ∃ OP,OP=some (Ob.blk [.v (.int .i64 x.n), .v (.int .u32 x.p), .v (.int .i64 x.r), .t x.ch.length 1 CH, .v (.int .u32 x.sp), .v (.int .i64 x.wt), .v (.int .u32 x.er)]):=⟨_,rfl⟩
  obtain ⟨OC,hOC⟩: ∃ OC,OC=some (Ob.blk [.v (.string c.name), .t c.ni 1 (tab c.ni fun i=> .v (.string (c.fi i))), .t c.nl 6 c.lets, .t c.no 1 (tab c.no fun i=> .v (.string (c.fo i)))]):=⟨_,rfl⟩
  obtain ⟨OL,hOL⟩: ∃ OL,OL=some (Ob.arr 49 6 c.lets (c.nl*6)):=⟨_,rfl⟩
  obtain ⟨OO,hOO⟩: ∃ OO,OO=some (Ob.blk [.v (.string c.name), .t c.ni 1 (tab c.ni fun i=> .v (.string (c.fi i))), .own 4 c.nl, .t c.no 1 (tab c.no fun i=> .v (.string (c.fo i)))]):=⟨_,rfl⟩
  refine Wv.W ?_;refine ak ER rfl (aeC hPg hCg hVg) Wv.c ?_;refine Wv.W ?_;refine jd 2 SO (List.cons_eq_cons.2 ⟨aex rfl fun a ha=>ZP (p:=[_,_,_,_,_,_,_,_,_,_,_]) rfl ha,List.cons_eq_cons.2 ⟨rfl,rfl⟩⟩) Wv.c (.v _) ?_;refine Wv.W ?_;refine jV TS (Ad hCg hCg) Wv.c ?_;refine Wv.W1 hll ?_;refine iE rfl ?_;refine Wv.W ?_;refine ak SM rfl (Ad hVg hVg) Wv.c ?_;refine Wv.W ?_;refine jU (σ:=Nat) (fun i=>[(2, .t m 1 (tab m fun i=> .t (ln i) 1 (tab (ln i) fun j=> .v (.int .i64 (vs i j))))),(8, .t m 1 (tab m fun i=> .t (ln i) 1 (tab (ln i) fun j=> .v (.int .i64 (vs i j))))),(9, .own 10 c.no),(13, .v (.int .i64 i))]) (fun i=>OP::OC::o2::o3::OL::OO::none::none::none::none::some (.arr 43 1 (tab c.no fun a=> .own (11+2*a) N) 0)::rwH 11 N (fun a j=>if a<i then 77 else o a j) c.no) (fun i=>i≤c.no) (fun i=>c.no - i) 0 (Nat.zero_le _) ?_ ?_
  ·have e0:rwH 11 N (fun a j=>if a<0 then 77 else o a j) c.no=rwH 11 N o c.no:=lZ fun a _ j _=>if_neg (Nat.not_lt_zero a)
   simp only [e0,hOP,hOC,hOL,hOO];exact Ent.fit Wv.V
  intro i hi;by_cases hlt:i<c.no
  ·have e1:(i:Int)<c.no:=by omega
   obtain ⟨G,hGd⟩: ∃ G:Nat→Nat→Nat→Int, ∀ k a j,G k a j=if a<i then 77 else if a=i∧j<k then 77 else o a j:=⟨_,fun _ _ _=>rfl⟩
   have e2:rwH 11 N (G 0) c.no=rwH 11 N (fun a j=>if a<i then 77 else o a j) c.no:=lZ fun a _ j _=>by
    rw [hGd,if_neg (show ¬ (a=i∧j<0) by omega)]
   refine Wv.W1 (ah e1) ?_;refine aQ (σ:=Nat) (fun k=>[(2, .t m 1 (tab m fun i=> .t (ln i) 1 (tab (ln i) fun j=> .v (.int .i64 (vs i j))))),(8, .t m 1 (tab m fun i=> .t (ln i) 1 (tab (ln i) fun j=> .v (.int .i64 (vs i j))))),(9, .own 10 c.no),(13, .v (.int .i64 i)),(14, .v (.int .i64 k))]) (fun k=>OP::OC::o2::o3::OL::OO::none::none::none::none::some (.arr 43 1 (tab c.no fun a=> .own (11+2*a) N) 0)::rwH 11 N (G k) c.no) (fun k=>k≤N) (fun k=>N - k) 0 (Nat.zero_le _) (by rw [e2]) Wv.V ?_;intro k hk;have hget: ∀ p0 p1 p2 p3 p4 p5 p6 p7 p8 p9 p10:Option Ob,(p0::p1::p2::p3::p4::p5::p6::p7::p8::p9::p10::rwH 11 N (G k) c.no)[11+2*i]? =some (some (.arr 2 1 (tab N fun j=> .v (.int .i64 (G k i j))) 0)):=fun p0 p1 p2 p3 p4 p5 p6 p7 p8 p9 p10=>ZP (p:=[p0,p1,p2,p3,p4,p5,p6,p7,p8,p9,p10]) rfl hlt
   by_cases hlk:k<N
   ·have e3:(k:Int)<N:=by omega
    have hnx:rwH 11 N (fun a j=>if a=i then (if j=k then 77 else G k i j) else G k a j) c.no=rwH 11 N (G (k+1)) c.no:=lZ fun a _ j _=>by
     show (if a=i then (if j=k then (77:Int) else G k i j) else G k a j)=_;rw [hGd,hGd,hGd];by_cases q1:a=i
     ·subst q1;rw [if_pos rfl,if_neg (Nat.lt_irrefl a)];by_cases q2:j=k
      ·subst q2;rw [if_pos rfl,if_neg (Nat.lt_irrefl a),if_pos ⟨rfl,by omega⟩]
      ·rw [if_neg q2,if_neg (Nat.lt_irrefl a)];by_cases q3:j<k
       ·rw [if_pos ⟨rfl,q3⟩,if_pos ⟨rfl,by omega⟩]
       ·rw [if_neg (fun q=>q3 q.2),if_neg (fun q=>by have:=q.2;omega)]
     ·rw [if_neg q1];by_cases q2:a<i
      ·rw [if_pos q2,if_pos q2]
      ·rw [if_neg q2,if_neg q2,if_neg (fun q=>q1 q.1),if_neg (fun q=>q1 q.1)]
    have hput: ∀ p0 p1 p2 p3 p4 p5 p6 p7 p8 p9 p10:Option Ob,(p0::p1::p2::p3::p4::p5::p6::p7::p8::p9::p10::rwH 11 N (G k) c.no).set (11+2*i) (some (.arr 2 1 (tab N fun j=>if j=k then .v (.int .i64 77) else .v (.int .i64 (G k i j))) 0))=p0::p1::p2::p3::p4::p5::p6::p7::p8::p9::p10::rwH 11 N (G (k+1)) c.no:=fun p0 p1 p2 p3 p4 p5 p6 p7 p8 p9 p10=>by
     rw [aS fun j _=>(by split<;>rfl:(if j=k then AV.v (.int .i64 77) else .v (.int .i64 (G k i j)))= .v (.int .i64 (if j=k then 77 else G k i j))), ←hnx];exact aew (p:=[p0,p1,p2,p3,p4,p5,p6,p7,p8,p9,p10]) rfl hlt
    refine Wv.W4 (ah e3) hget hput @dB ?_;refine au (k+1) (show k+1≤N by omega) (by omega) rfl Wv.V2
   ·obtain rfl:k=N:=by omega
    have e5:rwH 11 k (G k) c.no=rwH 11 k (fun a j=>if a<i+1 then 77 else o a j) c.no:=lZ fun a _ j hj=>by
     show G k a j=if a<i+1 then 77 else o a j
     rw [hGd];by_cases q:a<i
     ·rw [if_pos q,if_pos (by omega)]
     ·rw [if_neg q];by_cases q2:a=i
      ·rw [if_pos ⟨q2,hj⟩,if_pos (by omega)]
      ·rw [if_neg (fun w=>q2 w.1),if_neg (by omega)]
    refine Wv.W3 @Int.lt_irrefl @decide_false hget ?_;refine au (i+1) (show i+1≤c.no by omega) (by omega) (by rw [e5]) Wv.V2
  ·obtain rfl:i=c.no:=by omega
   refine Wv.W2 @Int.lt_irrefl @decide_false ?_;refine ak SM rfl (Ad hVg hVg) Wv.c ?_;exact Wv.V
end
end Go.Proofs.YtljfgdlgmdcmfaaGreat
