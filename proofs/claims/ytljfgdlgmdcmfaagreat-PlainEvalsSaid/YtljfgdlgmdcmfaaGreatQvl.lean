/- Parts of a proof. -/
import Derived.Test.YtljfgdlgmdcmfaaGreatQvk
import Derived.Test.YtljfgdlgmdcmfaaGreatQvh
import Derived.Test.YtljfgdlgmdcmfaaGreatQvj
import Derived.Test.YtljfgdlgmdcmfaaGreatQvg
import Derived.Test.YtljfgdlgmdcmfaaGreatQvf
import Derived.WalkKit
import Derived.WalkSpells
import Derived.WalkLawsBesides
import Derived.Handy
set_option linter.unusedVariables false
set_option linter.unusedSimpArgs false
set_option maxHeartbeats 1600000
set_option maxRecDepth 100000
namespace Go.Proofs.YtljfgdlgmdcmfaaGreat
section
open Go.RowKit Wv
theorem UN (n:Nat) (f:Nat→Int) (h1:1≤n) (h2:n≤100000):HT Tryz.prog 80 [vcA n f] [] (fun r h'=>r= .own 0 n∧h'=[some (.arr 2 1 (tab n fun j=> .v (.int .i64 (f j))) 0)]):=by
 unfold vcA;refine Wv.HT.byO 8 [0,4,2] [(1000000,0)] [.tmp 2] Tryz.func80 rfl rfl rfl ?base ?_
 case base=>rfl
 have hnil: ∀ (h:Hp) (c:List AV),zx h (.t n 1 c)=some false:=fun _ _=>if_pos h1
 exact Wv.V3 hnil @wV @wU
def rwO (d N:Nat) (f:Nat→Nat→Int) (a:Nat):Hp:=[some (.arr 2 1 (tab N fun j=> .v (.int .i64 (f a j))) 0),some (.arr 43 1 [.own (d+2*a) N] 0)]
def rwH (d N:Nat) (f:Nat→Nat→Int):Nat→Hp
 | 0=>[]
 | i+1=>rwH d N f i++rwO d N f i
theorem gK {d N:Nat} {f:Nat→Nat→Int}: ∀ i,(rwH d N f i).length=2*i
 | 0=>rfl
 | i+1=>by
  show (rwH d N f i++rwO d N f i).length=_;rw [List.length_append,gK i];show 2*i+2=_;omega
def evQ (N:Nat) (t e:Int) (c:Ci) (m:Nat) (ln:Nat→Nat) (vs:Nat→Nat→Int) (r:AV) (h:Hp):Prop:=
 (∃ z,Ed N t e c m ln vs= .tup [.v (.slice none 0 0), .v (.int .i64 z)]∧r= .tup [.v (.slice none 0 0), .v (.int .i64 z)]∧ ∀ o,o∈h→ShO o)∨
 (Ed N t e c m ln vs= .tup [.t c.no 1 (tab c.no fun i=>vcA N (mZ N t c vs i)), .v (.int .i64 0)]∧r= .tup [.own 4 c.no, .v (.int .i64 0)]∧
  ∃ a b d es,h=some (.blk a)::some (.blk b)::some (.map es)::some (.blk d)::some (.arr 43 1 (tab c.no fun a=> .own (5+2*a) N) 0)::rwH 5 N (mZ N t c vs) c.no)
theorem gQ {c:List AV}:ShO (some (.blk c)):=fun _ _ _ _ e=>by cases e
theorem Bj {c:List (Value × AV)}:ShO (some (.map c)):=fun _ _ _ _ e=>by cases e
theorem nZ: ∀ o:Option Ob,o∈([]:Hp)→ShO o:=fun o h=>by cases h
theorem cZ {o:Option Ob} {l:Hp} (h:ShO o) (k: ∀ o,o∈l→ShO o): ∀ p,p∈o::l→ShO p:=List.forall_mem_cons.2 ⟨h,k⟩
theorem ZN (x:Par) (c:Ci) (N:Nat) (t e at_:Int) (ss:List (Bool × Nat)) (hx:x.n=N) (ht:3≤t) (hodd:t % 2=1) (ht':t≤2147483647) (hN:4≤N) (hN2:N≤32) (hN3:N % 2=0)
  (TT:TC Tryz.prog 19 [.g (dN x), .g (ciC c)] (typeA (ss,at_,e))) (TM:TC Tryz.prog 60 [.g (dN x), .v (.int .i64 x.r)] (.tup [.v (.int .i64 t), .v (.int .i64 0)])) (hok:okC c)
  (m:Nat) (ln:Nat→Nat) (vs:Nat→Nat→Int) (hm:m≤140737488351232) (hln: ∀ i,i<m→ln i≤140737488351232) (hgo:e=0→goC N t c vs):
  HT Tryz.prog 33 [.g (dN x), .g (ciC c),vsA m ln vs] [] (evQ N t e c m ln vs):=by
 have hP:=dI x;have hcc:=qj c;have hll:=wM c;have hlc:=iV c;have hnl:=hok.nl;have hni:=hok.ni;have hA:Ed N t e c m ln vs=if e≠0 then .tup [.v (.slice none 0 0), .v (.int .i64 e)] else if m≠c.ni then .tup [.v (.slice none 0 0), .v (.int .i64 2)] else if aI m (fun i=>Ec N t (ln i) (vs i))=true then .tup [.v (.slice none 0 0), .v (.int .i64 2)]
  else .tup [.t c.no 1 (tab c.no fun i=>vcA N (mZ N t c vs i)), .v (.int .i64 0)]:=rfl
 have hE2: ∀ z h,Ed N t e c m ln vs= .tup [.v (.slice none 0 0), .v (.int .i64 z)]→(∀ o,o∈h→ShO o)→evQ N t e c m ln vs (.tup [.v (.slice none 0 0), .v (.int .i64 z)]) h:=fun z h h1 h2=> .inl ⟨z,h1,rfl,h2⟩
 unfold vsA vcA;unfold dN ciC bG at*;rw [hx] at*;refine Wv.HT.byO 127 [0,1,3,4,10,29,2,43,11,52,51,53,50,15,78,13,14,93,92,94,91,17,111,110,112,109,18,20,6,7] [(13,10),(18,10),(1000000,0)] [.tmp 6, .tmp 7] Tryz.func33 rfl rfl rfl ?base ?_
 case base=>rfl
 unfold typeA at TT;refine Wv.W ?_;refine ak TT rfl (wS (.g hP) (.g hcc)) (by simp only [Wv.BC];exact kX _) ?_;by_cases he:e=0
 ·rw [if_neg (fun q=>q he)] at hA;refine Wv.W1 (ah he) ?_;refine ak TM rfl (wS (.g hP) Wv.c) Wv.c ?_;by_cases hmi:m=c.ni
  ·rw [if_neg (fun q=>q hmi)] at hA;have e1:(m:Int)=c.ni:=by omega
   have hdr: ∀ i,i<c.nl→ ∃ r,List.drop (i*6) c.lets=iD (c.ln i) (c.le i)++r:=fun i hi=>bH (f:=fun i=>iD (c.ln i) (c.le i)) (fun i=>gV _ _) hi
   generalize c.lets=L at hll hlc hdr ⊢;obtain ⟨hgl,hgn,hgs⟩:=hgo he;have hq:(t - 1).tdiv 2=(t - 1) / 2:=Int.tdiv_eq_ediv_of_nonneg (by omega);have hq2:(0 - (t - 1)).tdiv 2= -((t - 1) / 2):=by rw [Int.zero_sub,Int.neg_tdiv,hq]
   have hput:=OV N;refine Wv.W1 (ah e1) ?_;refine aQ (σ:=Nat) (fun i=>[(3, .ptr 0 0),(4, .ptr 1 0),(11, .v (.int .i64 t)),(13, .ptr 3 0),(50, .t m 1 (tab m fun i=> .t (ln i) 1 (tab (ln i) fun j=> .v (.int .i64 (vs i j))))),(51, .v (.int .i64 m)),(52, .v (.int .i64 i))])
    (fun i=>[some (.blk [.v (.int .i64 N), .v (.int .u32 x.p), .v (.int .i64 x.r), .t x.ch.length 1 (x.ch.map fun (c:Nat)=> .v (.int .u32 c)), .v (.int .u32 x.sp), .v (.int .i64 x.wt), .v (.int .u32 x.er)]),some (.blk [.v (.string c.name), .t c.ni 1 (tab c.ni fun i=> .v (.string (c.fi i))), .t c.nl 6 L, .t c.no 1 (tab c.no fun i=> .v (.string (c.fo i)))]),some (.map (enE N (yX c.fi vs i))),some (.blk [.v (.int .i64 N), .v (.int .i64 t), .mp 2])])
    (fun i=>i≤m∧ ∀ a,a<i→Ec N t (ln a) (vs a)=false) (fun i=>m - i) 0 ⟨Nat.zero_le _,fun a h=>absurd h (Nat.not_lt_zero a)⟩ (by simp (disch:=first|exact Wv.D|fail) only [Wv.B,simprocAttr,yX,enE]) Wv.V ?_
   rintro i ⟨hi,hgood⟩;by_cases hlt:i<m
   ·have e2:(i:Int)<m:=by omega
    have hli:=hln i hlt;have hbv:Ec N t (ln i) (vs i)=(!decide ((ln i:Int)=N) || (decide (mxN (vs i) (ln i - 1)>(t - 1) / 2) || decide (mnN (vs i) (ln i - 1)< -((t - 1) / 2)))):=rfl;have hbad:Ec N t (ln i) (vs i)=true→Ed N t e c m ln vs= .tup [.v (.slice none 0 0), .v (.int .i64 2)]:=fun h=>by
     rw [hA];exact if_pos (by unfold aI;exact List.any_eq_true.2 ⟨i,List.mem_range.2 hlt,h⟩)
    by_cases hL:(ln i:Int)=N
    ·have Tx:=aes (ln i) (vs i) (by omega) hli;have Tn:=aeu (ln i) (vs i) (by omega) hli;have hLn:ln i=N:=by omega
     unfold vcA at Tx Tn;rw [ah hL,Bool.not_true,Bool.false_or] at hbv;refine Wv.W3 (ah e2) (ah hL) hq ?_;refine ak Tx rfl Wv.c Wv.c ?_;by_cases h1:mxN (vs i) (ln i - 1)>(t - 1) / 2
     ·rw [ah h1,Bool.true_or] at hbv;have hbd:=hbad hbv;refine Wv.W4 hq (ah h1) @wV @wU ?_;exact hE2 _ _ hbd (cZ gQ (cZ gQ (cZ Bj (cZ gQ nZ))))
     ·rw [aj h1,Bool.false_or] at hbv;refine Wv.W2 hq (aj h1) ?_;refine ak Tn rfl Wv.c Wv.c ?_;by_cases h2:mnN (vs i) (ln i - 1)< -((t - 1) / 2)
      ·rw [ah h2] at hbv;have hbd:=hbad hbv;refine Wv.W4 hq2 (ah h2) @wV @wU ?_;exact hE2 _ _ hbd (cZ gQ (cZ gQ (cZ Bj (cZ gQ nZ))))
      ·rw [aj h2] at hbv;have Gp:=hput (c.fi i) (vs i) (yX c.fi vs i);unfold vcA at Gp;rw [hLn] at h2 ⊢;simp (disch:=first|exact Wv.D|fail) only [Wv.B,simprocAttr,hq2,aj h2,Gp,LM];refine au (i+1) ⟨by omega,fun a ha=>by by_cases q:a=i;exact q▸hbv;exact hgood a (by omega)⟩ (by omega) (by simp (disch:=first|exact Wv.D|fail) only [Wv.B,simprocAttr,hLn,yX]) Wv.V2
    ·rw [aj hL,Bool.not_false,Bool.true_or] at hbv;have hbd:=hbad hbv;refine Wv.W4 (ah e2) (aj hL) @wV @wU ?_;exact hE2 _ _ hbd (cZ gQ (cZ gQ (cZ Bj (cZ gQ nZ))))
   ·obtain rfl:i=m:=by omega
    have hnb: ¬ aI i (fun i=>Ec N t (ln i) (vs i))=true:=by
     unfold aI;intro h;obtain ⟨a,ha,hb⟩:=List.any_eq_true.1 h;rw [hgood a (List.mem_range.1 ha)] at hb;cases hb
    rw [if_neg hnb] at hA;have hev: ∀ i,i≤c.nl→okV N t (pG N t c vs i):=by
     intro k;induction k with
     | zero=>
      intro _;show okV N t (yX c.fi vs c.ni);rw [←hmi];have: ∀ a,a≤i→okV N t (yX c.fi vs a):=by
       intro a;induction a with
       | zero=>intro _ s f h;cases h
       | succ a ih2=>intro ha;exact QG (ih2 (by omega)) (aiE (hgood a (by omega)) hN).2
      exact this i (Nat.le_refl _)
     | succ k ih2=>
      intro hk;exact QG (ih2 (by omega)) (ZH ht hodd (ih2 (by omega)) (c.le k) (hgl k (by omega)).2.2)
    refine Wv.W2 @Int.lt_irrefl @decide_false ?_;clear hgood hi hlt hnb hln;refine aQ (σ:=Nat) (fun i=>[(3, .ptr 0 0),(4, .ptr 1 0),(13, .ptr 3 0),(91, .t c.nl 6 L),(92, .v (.int .i64 c.nl)),(93, .v (.int .i64 i))])
     (fun i=>[some (.blk [.v (.int .i64 N), .v (.int .u32 x.p), .v (.int .i64 x.r), .t x.ch.length 1 (x.ch.map fun (c:Nat)=> .v (.int .u32 c)), .v (.int .u32 x.sp), .v (.int .i64 x.wt), .v (.int .u32 x.er)]),some (.blk [.v (.string c.name), .t c.ni 1 (tab c.ni fun i=> .v (.string (c.fi i))), .t c.nl 6 L, .t c.no 1 (tab c.no fun i=> .v (.string (c.fo i)))]),some (.map (enE N (pG N t c vs i))),some (.blk [.v (.int .i64 N), .v (.int .i64 t), .mp 2])])
     (fun i=>i≤c.nl) (fun i=>c.nl - i) 0 (Nat.zero_le _) (by simp (disch:=first|exact Wv.D|fail) only [Wv.B,simprocAttr,pG,UM,hmi]) Wv.V ?_
    intro i hi;by_cases hlt:i<c.nl
    ·have e2:(i:Int)<c.nl:=by omega
     obtain ⟨r2,hd⟩:=hdr i hlt;obtain ⟨ho1,hf1,hg1⟩:=hgl i hlt;have TE:=aiC N t (pG N t c vs i) ht hodd ht' hN hN2 hN3 (hev i hi) (c.le i) ho1 hf1 hg1;have hG:=bU (c.le i);have hGl:=rC (c.ln i) (c.le i);obtain ⟨k',s',n',nl',li',na',ar',hy⟩:=lQ ho1;have hy2:exC (c.le i)=_:=(congrArg exC hy).trans (dh k' s' n' nl' li' na' ar');unfold iD at hd hGl;rw [hy2] at hd TE hG hGl;simp only [List.cons_append,List.nil_append] at hd;have Gp:=OV N (c.ln i) (evX N t (pG N t c vs i) (c.le i)) (pG N t c vs i);have hnx:pG N t c vs (i+1)=bY (pG N t c vs i) (c.ln i) (evX N t (pG N t c vs i) (c.le i)):=rfl;rw [←hnx] at Gp;have hE:=rdV TE;unfold vcA at Gp hE;refine Wv.W2 (ah e2) hd ?_;refine dD (fst:=[]) (cap:=[]) (hE _ _ _ (dR hG) (by rintro r rfl;simp only [Wv.BC]) (by rintro r h;exact h.elim)) ?_ (by rintro av h' ⟨h,_⟩;exact h.elim);simp (disch:=first|exact Wv.D|fail) only [Wv.B,simprocAttr,Gp,LM];refine Wv.iO (i+1) 4 (by first | decide | exact Nat.le_of_ble_eq_true rfl) (by omega) (by omega) (Wv.V2f @bJ hnx) (Wv.V3 @Int.natCast_add @Int.natCast_one hnx) (by simp only [Wv.BL, ↓reduceIte,Nat.reduceLeDiff,eq_true hlc,eq_true hlc,nU,ZG]<;>omega) (by simp only [Wv.BL, ↓reduceIte,Nat.reduceLeDiff,eq_true hlc,eq_true hlc,nU,ZG]<;>omega)
    ·obtain rfl:i=c.nl:=by omega
     refine Wv.W2 @Int.lt_irrefl @decide_false ?_;refine jU (σ:=Nat) (fun i=>[(4, .ptr 1 0),(13, .ptr 3 0),(18, .own 4 i),(109, .t c.no 1 (tab c.no fun i=> .v (.string (c.fo i)))),(110, .v (.int .i64 c.no)),(111, .v (.int .i64 i))])
      (fun i=>[some (.blk [.v (.int .i64 N), .v (.int .u32 x.p), .v (.int .i64 x.r), .t x.ch.length 1 (x.ch.map fun (c:Nat)=> .v (.int .u32 c)), .v (.int .u32 x.sp), .v (.int .i64 x.wt), .v (.int .u32 x.er)]),some (.blk [.v (.string c.name), .t c.ni 1 (tab c.ni fun i=> .v (.string (c.fi i))), .t c.nl 6 L, .t c.no 1 (tab c.no fun i=> .v (.string (c.fo i)))]),some (.map (enE N (pG N t c vs c.nl))),some (.blk [.v (.int .i64 N), .v (.int .i64 t), .mp 2]),some (.arr 43 1 (tab i fun a=> .own (5+2*a) N) 0)]++rwH 5 N (mZ N t c vs) i)
      (fun i=>i≤c.no) (fun i=>c.no - i) 0 (Nat.zero_le _) ?_ ?_
     ·refine Ent.trans (Ent.nil 18 43 1 (by omega) rfl) (Ent.fit ?_);exact Wv.V
     intro i hi;by_cases hlt:i<c.no
     ·have e2:(i:Int)<c.no:=by omega
      have hlm:=I5 N (c.fo i) (pG N t c vs c.nl);have hsm:=hgs i hlt;have hof:mZ N t c vs i=(fH (pG N t c vs c.nl) (c.fo i)).getD fun _=>0:=rfl
      cases hq3:fH (pG N t c vs c.nl) (c.fo i) with
      | none=>rw [hq3] at hsm;cases hsm
      | some f=>
      rw [hq3] at hlm hof;have ane:f=mZ N t c vs i:=hof.symm;subst ane;simp only [Option.map_some,vcA] at hlm;obtain ⟨H,hH⟩: ∃ H:Hp,H=[some (.blk [.v (.int .i64 N), .v (.int .u32 x.p), .v (.int .i64 x.r), .t x.ch.length 1 (x.ch.map fun (c:Nat)=> .v (.int .u32 c)), .v (.int .u32 x.sp), .v (.int .i64 x.wt), .v (.int .u32 x.er)]),some (.blk [.v (.string c.name), .t c.ni 1 (tab c.ni fun i=> .v (.string (c.fi i))), .t c.nl 6 L, .t c.no 1 (tab c.no fun i=> .v (.string (c.fo i)))]),some (.map (enE N (pG N t c vs c.nl))),some (.blk [.v (.int .i64 N), .v (.int .i64 t), .mp 2]),some (.arr 43 1 (tab i fun a=> .own (5+2*a) N) 0)]++rwH 5 N (mZ N t c vs) i:=⟨_,rfl⟩
      have eL:H.length=5+2*i:=by rw [hH];simp only [List.length_append,List.length_cons,List.length_nil,gK]
      have TC1:=(HT.fresh (h:=H) (UN N (mZ N t c vs i) (by omega) (by omega)) (by unfold vcA;simp only [Wv.BC]) fun r h' ⟨q1,q2⟩=>⟨.inl (q1▸ .inr ⟨_,_,rfl⟩),q2▸cZ (fun _ _ _ _ e a ha=> .inl (by
       injection e with e;injection e with e1 e2 e3 e4;subst e3;obtain ⟨z,_,rfl⟩:=List.mem_map.1 ha;exact .v _)) nZ⟩).alP fun r h' ⟨r0,h0,⟨q1,q2⟩,q3,q4⟩=>(by
       subst q1 q2;rw [eL] at q3 q4;have hm: ∀ k,(tab N fun j=>AV.v (.int .i64 (mZ N t c vs i j))).map (sh1 k)=tab N fun j=> .v (.int .i64 (mZ N t c vs i j)):=fun k=>by unfold tab;rw [List.map_map];rfl
       refine ⟨q3.trans (congrArg (fun k=>AV.own k N) (Nat.zero_add _)),q4.trans ?_⟩;show H++[some (Ob.arr 2 1 ((tab N fun j=>AV.v (.int .i64 (mZ N t c vs i j))).map (sh1 (5+2*i))) 0)]=H++[some (Ob.arr 2 1 (tab N fun j=> .v (.int .i64 (mZ N t c vs i j))) 0)];rw [hm]:r=AV.own (5+2*i) N∧h'=H++[some (Ob.arr 2 1 (tab N fun j=> .v (.int .i64 (mZ N t c vs i j))) 0)])
      subst hH;have hg: ∀ o0 o1 o2 o3 o4 o5:Option Ob,(o0::o1::o2::o3::o4::(rwH 5 N (mZ N t c vs) i++[o5]))[5+2*i]? =some o5:=fun o0 o1 o2 o3 o4 o5=>by
       rw [show 5+2*i=2*i+1+1+1+1+1 by omega];simp only [List.getElem?_cons_succ];rw [List.getElem?_append_right (by rw [gK];exact Nat.le_refl _),gK,Nat.sub_self];rfl
      have hcl: ∀ o0 o1 o2 o3 o4:Option Ob,cellsA (o0::o1::o2::o3::o4::(rwH 5 N (mZ N t c vs) i++[some (Ob.arr 2 1 (tab N fun j=> .v (.int .i64 (mZ N t c vs i j))) 0)])) (.own (5+2*i) N)=some [.own (5+2*i) N]:=fun o0 o1 o2 o3 o4=>oK (by
       rw [mP,hg];show decide ((tab N fun j=>AV.v (.int .i64 (mZ N t c vs i j))).length=N*1)=true;rw [iC,Nat.mul_one,ah rfl])
      have hg2: ∀ o5 o6:Option Ob,(rwH 5 N (mZ N t c vs) i++[o5]++[o6])[2*i+1]? =some o6:=fun o5 o6=>by
       rw [List.getElem?_append_right (by rw [List.length_append,gK];exact Nat.le_refl _),List.length_append,gK,List.length_singleton,Nat.sub_self];rfl
      have hg3: ∀ o0 o1 o2 o3 o4 o5 o6:Option Ob,(o0::o1::o2::o3::o4::(rwH 5 N (mZ N t c vs) i++[o5]++[o6]))[5+2*i]? =some o5:=fun o0 o1 o2 o3 o4 o5 o6=>by
       rw [show 5+2*i=2*i+1+1+1+1+1 by omega];simp only [List.getElem?_cons_succ];rw [List.getElem?_append_left (by rw [List.length_append,gK];exact Nat.lt_succ_self _),List.getElem?_append_right (by rw [gK];exact Nat.le_refl _),gK,Nat.sub_self];rfl
      unfold vcA at TC1;refine Wv.W3 (ah e2) @LM hlm ?_;refine aB (fst:=[]) (cap:=[]) TC1 ?_;rintro av h' ⟨rfl,rfl⟩;refine Wv.W5 @gK hg hcl hg2 hg3 ?_;refine au (i+1) (show i+1≤c.no by omega) (by omega) ?_ Wv.V2;have e1:(tab i fun a=>AV.own (5+2*a) N)++[AV.own (5+2*i) N]=tab (i+1) fun a=> .own (5+2*a) N:=bJ.symm
      rw [e1,List.append_assoc];rfl
     ·obtain rfl:i=c.no:=by omega
      refine Wv.W4 @Int.lt_irrefl @decide_false @wV @wU ?_;exact .inr ⟨hA,rfl,_,_,_,_,rfl⟩
  ·rw [if_pos hmi] at hA;have e1: ¬ (m:Int)=c.ni:=by omega
   refine Wv.W3 (aj e1) @wV @wU ?_;exact hE2 _ _ hA (cZ gQ (cZ gQ nZ))
 ·rw [if_pos he] at hA;refine Wv.W3 (aj he) @wV @wU ?_;exact hE2 _ _ hA (cZ gQ (cZ gQ nZ))
end
end Go.Proofs.YtljfgdlgmdcmfaaGreat
namespace Go.Proofs.YtljfgdlgmdcmfaaGreat.Wv
section
open Go.RowKit
def vB:Nat→Hp→AV→AV
 | 0,_,a=>a
 | k+1,h, .own id n=>match h[id]? with
  | some (some (.arr _ s cells _))=>bif Nat.beq cells.length (n*s) then .t n s (cells.map (vB k h)) else .own id n
  | _=> .own id n
 | k+1,h, .ptr id 0=>match h[id]? with
  | some (some (.blk cells))=> .tp (cells.map (vB k h))
  | _=> .ptr id 0
 | k+1,h, .g l=> .g (l.map (vB k h))
 | _+1,_,a=>a
def Cx.EW (X:Cx):Cx:=⟨X.w,X.m,X.h,fun _ _=>False,X.ds⟩
theorem Rep.EW {X:Cx} {a:AV} {v:Value} (h:Rep X a v):Rep X.EW a v:=by
 induction h with
 | v x=>exact .v x
 | none x=>exact .none x
 | t hl hc hn hcap hp hr ih=>
  refine .t hl hc hn hcap (fun h0=>?_) ih;obtain ⟨b,off,e,k⟩:=hp h0;exact ⟨b,off,e,fun i x hx=>⟨(k i x hx).1,fun q=>q⟩⟩
 | g hc hr ih=>exact .g hc ih
 | tup hc hr ih=>exact .tup hc ih
 | tp hc hp hr ih=>exact .tp hc (fun i x hx=>⟨(hp i x hx).1,fun q=>q⟩) ih
 | fn h1 h2 r1 r2 ih1 ih2=>exact .fn h1 h2 ih1 ih2
 | ifc h ih=>exact .ifc ih
 | e0 b=>exact .e0 b
 | own hid h=>exact .own hid h
 | ptr hid h=>exact .ptr hid h
 | ap hid h=>exact .ap hid h
 | mp hid h=>exact .mp hid h
 | tm hb hm hl hk hr ih=>exact .tm hb hm hl hk ih
theorem afx {X:Cx} (hX:Ok X): ∀ (k:Nat) (a:AV) (v:Value),Rep X a v→Rep X.EW (vB k X.h a) v
 | 0,a,v,hr=>hr.EW
 | k+1,a,v,hr=>by
  have ih:=afx hX k;have ihL: ∀ {l:List AV} {vs:List Value},(∀ (i:Nat) (a:AV) (x:Value),l[i]? =some a→vs[i]? =some x→Rep X a x)→ ∀ (i:Nat) (a:AV) (x:Value),(l.map (vB k X.h))[i]? =some a→vs[i]? =some x→Rep X.EW a x:=fun hr i a x h1 h2=>by
   rw [List.getElem?_map] at h1;obtain ⟨b,h3,rfl⟩:=Option.map_eq_some_iff.1 h1;exact ih b x (hr i b x h3 h2)
  cases a with
  | own id n=>
   simp only [vB];split
   ·next T s cells fz hid=>
    cases hb:Nat.beq cells.length (n*s) with
    | false=>exact hr.EW
    | true=>
     have hln:=Nat.eq_of_beq_eq_true hb;cases hr with
     | own hlt hq=>
     have e1:=(hq _ _ _ _ hid).2 hln;subst e1;obtain ⟨g1,g2,n',g3,g4⟩:=hX.arr id T s cells fz hid;have hnn:n'=n:=Nat.eq_of_mul_eq_mul_right g2 (by rw [←g3, ←hln]);subst hnn;rcases g4 with ⟨g4,g5⟩ | ⟨b',cvs,g4⟩
     ·subst g5;have hn0:n'=0:=by
       rcases Nat.mul_eq_zero.1 hln.symm with h0 | h0
       ·exact h0
       ·omega
      subst hn0;rw [g4];exact .t (p:=Option.none) (cap:=0) (cvs:=[]) (by simp) (by simp) (Nat.le_refl _) (Nat.zero_le _) (fun h=>by omega) fun i a x q=>by simp at q
     ·have hsv:aY (X.m id) n'= .slice (some ⟨b',0,Option.none⟩) n' (X.m id).2:=by unfold aY;rw [g4.at_];rfl
      have hcv:cells.length≤cvs.size:=by rw [g4.sz,g3];exact Nat.mul_le_mul_right _ g4.cap
      rw [hsv];refine .t (cvs:=cvs.toList.take cells.length) (by rw [List.length_map];exact hln) (by rw [List.length_take,Array.length_toList,List.length_map];exact Nat.min_eq_left hcv) g4.cap g4.iQ (fun _=>⟨b',0,rfl,fun j x hx=>⟨?_,fun q=>q⟩⟩) (ihL fun j c x q1 q2=>?_)
      ·rw [List.getElem?_take] at hx;split at hx
       ·rw [Nat.zero_add];show cellAt X.w b' j=some x;rw [aZ g4.blk];simpa using hx
       ·cases hx
      ·rw [List.getElem?_take] at q2;split at q2
       ·exact g4.rep j c x q1 (by simpa using q2)
       ·cases q2
   ·exact hr.EW
  | ptr id off=>
   cases off with
   | succ off=>exact hr.EW
   | zero=>
    simp only [vB];split
    ·next cells hid=>
     cases hr with
     | ptr hlt hq=>
     obtain ⟨b,h1,rfl⟩:=hq cells hid;obtain ⟨b',cvs,T,h2,h3,h4,h5,h6⟩:=hX.blk id cells hid;rw [h1] at h2;injection h2 with h2;subst h2;refine .tp (cvs:=cvs.toList) (by rw [Array.length_toList,List.length_map];exact h4) (fun j x hx=>⟨?_,fun q=>q⟩) (ihL fun j c x q1 q2=>h6 j c x q1 (by simpa using q2));rw [Nat.zero_add];show cellAt X.w b j=some x;rw [aZ h3];simpa using hx
    ·exact hr.EW
  | g l=>
   cases hr with
   | g hc hrr=>exact .g (by rw [List.length_map];exact hc) (ihL hrr)
  | _=>exact hr.EW
inductive Bare:AV→Prop
 | v (x:Value):Bare (.v x)
 | g {l:List AV} (h: ∀ (a:AV),a∈l→Bare a):Bare (.g l)
 | tup {l:List AV} (h: ∀ (a:AV),a∈l→Bare a):Bare (.tup l)
theorem Rep.bare {X Y:Cx} {a:AV} {v:Value} (h:Rep X a v) (hb:Bare a):Rep Y a v:=by
 induction h with
 | v x=>exact .v x
 | g hc hr ih=>cases hb with | g h=>exact .g hc fun i a x h1 h2=>ih i a x h1 h2 (h a (List.mem_of_getElem? h1))
 | tup hc hr ih=>cases hb with | tup h=>exact .tup hc fun i a x h1 h2=>ih i a x h1 h2 (h a (List.mem_of_getElem? h1))
 | _=>cases hb
variable {P:Program}{args args':List AV}{h:Hp}
theorem TC.lend {f:FuncId}   {res:AV} (k:Nat) (T:TC P f args' res) (hv:args.map (vB k h)=args') (hc: ∀ (a:AV),a∈args'→Clo a) (hres:Bare res):HT P f args h fun r h2=>r=res∧h2=h:=by
 refine ⟨T.1,fun X vs hX hh hr=>?_⟩;subst hh;have Wp:fJ ⟨X.w,X.m,[],fun _ _=>False,X.ds⟩ args' vs:=by
  rw [←hv] at hc ⊢;refine ⟨by rw [List.length_map];exact hr.1,fun i a x h1 h2=>?_⟩;have hm:=hc a (List.mem_of_getElem? h1);rw [List.getElem?_map] at h1;obtain ⟨b,h3,rfl⟩:=Option.map_eq_some_iff.1 h1;exact (afx hX k b x (hr.2 i b x h3 h2)).clo hm fun b o u hu _=>⟨hu,fun q=>q⟩
 have hT:=T.2 ⟨X.w,X.m,[],fun _ _=>False,X.ds⟩ vs rfl (fun _ _ q=>q.elim) Wp;refine hT.mono ?_;rintro e w' ⟨v,rfl,hbel,hv'⟩;have S:Step X ⟨w',X.m,X.h,X.bad,X.ds⟩:=by
  refine ⟨hbel.os,hbel.tape,hbel.output,hbel.size,fun b hb _=>hbel.block b hb,fun b o x hx hb=>⟨?_,hb⟩,Nat.le_refl _,fun i T' s c f' _ hi=>⟨c,f',hi,Nat.le_refl _,fun _=>rfl⟩,fun i c _ hi=>⟨c,hi,rfl⟩,fun b hb=> .inr hb,fun _ _ hb=> .inl hb,fun i c _ hi=>⟨c,hi,rfl⟩,rfl⟩;unfold cellAt at hx ⊢;rw [hbel.cell (p:=⟨b,o,none⟩) (eH hx)];exact hx
 have hZ:Ok ⟨w',X.m,X.h,X.bad,X.ds⟩:=by
  refine ⟨fun id cells hi=>?_,fun id T' s cells fz hi=>?_,hX.inj,fun b o hb=>Nat.lt_of_lt_of_le (hX.dX b o hb) hbel.size,fun id es hi=>?_⟩
  ·obtain ⟨b,cvs,T',h1,h2,h3,h4,h5⟩:=hX.blk id cells hi;exact ⟨b,cvs,T',h1,by rw [←h2];exact hbel.block b (hX.lt ⟨id,⟨_,hi⟩,h1⟩),h3,h4,fun j a x q1 q2=>(h5 j a x q1 q2).mono S⟩
  ·obtain ⟨g1,g2,n,g3,g4⟩:=hX.arr id T' s cells fz hi;refine ⟨g1,g2,n,g3,?_⟩;rcases g4 with g4 | ⟨b,cvs,g4⟩
   ·exact .inl g4
   ·exact .inr ⟨b,cvs,⟨g4.at_,by rw [←g4.blk];exact hbel.block b (hX.lt ⟨id,⟨_,hi⟩,g4.at_⟩),g4.cap,g4.iQ,g4.sz,g4.bad,fun j a x q1 q2=>(g4.rep j a x q1 q2).mono S,g4.good⟩⟩
  ·obtain ⟨b,ents,clock,h1,h2,h3⟩:=hX.map id es hi;exact ⟨b,ents,clock,h1,by rw [←h2];exact hbel.block b (hX.lt ⟨id,⟨_,hi⟩,h1⟩),h3.mono S⟩
 exact ⟨v,⟨w',X.m,X.h,X.bad,X.ds⟩,res,rfl,rfl,S,hZ,(hv' X.m).bare hres,rfl,rfl⟩
theorem jd {p₀:AV→Hp→Prop} {K:AV→Hp→Prop}  {fid:FuncId}  {res:AV} (k:Nat) (T:TC P fid args' res) (hv:args.map (vB k h)=args') (hc: ∀ (a:AV),a∈args'→Clo a) (hres:Bare res) (hK:K res h):zI P p₀ K h (.fn (.func fid) [] []) args:=by
 refine aB (R:=fun r h2=>r=res∧h2=h) ?_ ?_
 ·rw [List.nil_append,List.append_nil];exact T.lend k hv hc hres
 ·rintro av h2 ⟨rfl,rfl⟩;exact hK
theorem UO {p₀:AV→Hp→Prop} {K:AV→Prop}  {fid:FuncId}  {res:AV} (k:Nat) (T:TC P fid args' res) (hv:args.map (vB k h)=args') (hc: ∀ (a:AV),a∈args'→Clo a) (hres:Bare res) (hK:K res):P5 P p₀ K h (.fn (.func fid) [] []) args:=by
 refine ⟨fid,[],[],rfl,res,?_,hK⟩;rw [List.nil_append,List.append_nil];exact (T.lend k hv hc hres).toP _
end
end Go.Proofs.YtljfgdlgmdcmfaaGreat.Wv
namespace Go.Proofs.YtljfgdlgmdcmfaaGreat
section
open Go.RowKit Wv
variable {N d k n:Nat}
theorem aev :(tab n fun a=>AV.own (d+2*a) N).map (sh1 k)=tab n fun a=> .own (d+k+2*a) N:=by
 unfold tab;rw [List.map_map];refine List.map_congr_left fun a _=>?_
 show AV.own (d+2*a+k) N= .own (d+k+2*a) N;rw [show d+2*a+k=d+k+2*a by omega]
variable {f:Nat→Nat→Int}
theorem aiF {a:Nat}:(rwO d N f a).map (shO k)=rwO (d+k) N f a:=by
 have h1:(tab N fun j=>AV.v (.int .i64 (f a j))).map (sh1 k)=tab N fun j=> .v (.int .i64 (f a j)):=by unfold tab;rw [List.map_map];rfl
 show [some (Ob.arr 2 1 ((tab N fun j=>AV.v (.int .i64 (f a j))).map (sh1 k)) 0),some (Ob.arr 43 1 [.own (d+2*a+k) N] 0)]=_;rw [h1,show d+2*a+k=d+k+2*a by omega];rfl
theorem ZO : ∀ n,(rwH d N f n).map (shO k)=rwH (d+k) N f n
 | 0=>rfl
 | n+1=>by
  show (rwH d N f n++rwO d N f n).map (shO k)=rwH (d+k) N f n++rwO (d+k) N f n;rw [List.map_append,ZO n,aiF]
theorem QJ : ∀ {n i},i<n→(rwH d N f n)[2*i]? =some (some (.arr 2 1 (tab N fun j=> .v (.int .i64 (f i j))) 0))
 | 0,i,h=>absurd h (Nat.not_lt_zero i)
 | n+1,i,h=>by
  show (rwH d N f n++rwO d N f n)[2*i]? =_;by_cases e:i=n
  ·subst e;rw [List.getElem?_append_right (by rw [gK];exact Nat.le_refl _),gK,Nat.sub_self];rfl
  ·rw [List.getElem?_append_left (by rw [gK];omega)];exact QJ (by omega)
theorem ZP {p:Hp} {i:Nat}  (hp:p.length=d) (hi:i<n):(p++rwH d N f n)[d+2*i]? =some (some (.arr 2 1 (tab N fun j=> .v (.int .i64 (f i j))) 0)):=by
 rw [List.getElem?_append_right (by omega),show d+2*i - p.length=2*i by omega];exact QJ hi
theorem lZ {g:Nat→Nat→Int}: ∀ {n},(∀ a,a<n→ ∀ j,j<N→f a j=g a j)→rwH d N f n=rwH d N g n
 | 0,_=>rfl
 | n+1,h=>by
  show rwH d N f n++rwO d N f n=rwH d N g n++rwO d N g n;rw [lZ fun a ha=>h a (by omega)];unfold rwO;rw [aS fun j hj=>(by rw [h n (by omega) j hj]:AV.v (.int .i64 (f n j))= .v (.int .i64 (g n j)))]
theorem QK {d N:Nat} {f:Nat→Nat→Int} {g:Nat→Int}: ∀ {n i},i<n→(rwH d N f n).set (2*i) (some (.arr 2 1 (tab N fun j=> .v (.int .i64 (g j))) 0))=rwH d N (fun a j=>if a=i then g j else f a j) n
 | 0,i,h=>absurd h (Nat.not_lt_zero i)
 | n+1,i,h=>by
  show (rwH d N f n++rwO d N f n).set (2*i) _=rwH d N (fun a j=>if a=i then g j else f a j) n++rwO d N (fun a j=>if a=i then g j else f a j) n;by_cases e:i=n
  ·subst e;rw [List.set_append_right _ _ (by rw [gK];exact Nat.le_refl _),gK,Nat.sub_self,lZ (f:=fun a j=>if a=i then g j else f a j) (g:=f) fun a ha j _=>if_neg (by omega)];unfold rwO;simp only [if_true];rfl
  ·rw [List.set_append_left _ _ (by rw [gK];omega),QK (by omega)];unfold rwO;simp only [if_neg (show ¬ n=i by omega)]
theorem aew {p:Hp} {i:Nat}  {g:Nat→Int} (hp:p.length=d) (hi:i<n):(p++rwH d N f n).set (d+2*i) (some (.arr 2 1 (tab N fun j=> .v (.int .i64 (g j))) 0))=p++rwH d N (fun a j=>if a=i then g j else f a j) n:=by
 rw [List.set_append_right _ _ (by omega),show d+2*i - p.length=2*i by omega,QK hi]
theorem ZQ {d N:Nat} {f:Nat→Nat→Int}: ∀ n, ∀ o,o∈rwH d N f n→ShO o
 | 0,o,h=>by cases h
 | n+1,o,h=>by
  rcases List.mem_append.1 (show o∈rwH d N f n++rwO d N f n from h) with h | h
  ·exact ZQ n o h
  ·refine cZ (fun _ _ _ _ e a ha=> .inl ?_) (cZ (fun _ _ _ _ e a ha=> .inr ?_) nZ) o h
   ·injection e with e;injection e with _ _ e3 _;subst e3;obtain ⟨z,_,rfl⟩:=List.mem_map.1 ha;exact .v _
   ·injection e with e;injection e with _ _ e3 _;subst e3;rw [List.mem_singleton] at ha;exact ⟨_,_,ha⟩
theorem aiG {t e:Int} {c:Ci} {m:Nat} {ln:Nat→Nat} {vs:Nat→Nat→Int} {r:AV} {h:Hp} (q:evQ N t e c m ln vs r h):ShR r∧ ∀ o,o∈h→ShO o:=by
 rcases q with ⟨z,_,rfl,hh⟩ | ⟨_,rfl,a,b,d,es,rfl⟩
 ·exact ⟨.inl (.inl Wv.c),hh⟩
 ·refine ⟨.inr ⟨_,rfl,List.forall_mem_cons.2 ⟨.inr ⟨_,_,rfl⟩,List.forall_mem_cons.2 ⟨.inl (.v _),fun _ h=>by cases h⟩⟩⟩,cZ gQ (cZ gQ (cZ Bj (cZ gQ (cZ (fun _ _ _ _ e a ha=> .inr ?_) (ZQ _)))))⟩;injection e with e;injection e with _ _ e3 _;subst e3;obtain ⟨z,_,rfl⟩:=List.mem_map.1 ha;exact ⟨_,_,rfl⟩
theorem aex {h:Hp} {id no z:Nat} {T:TypeId}  (h1:h[id]? =some (some (.arr T 1 (tab no fun a=> .own (d+2*a) N) z))) (h2: ∀ a,a<no→h[d+2*a]? =some (some (.arr 2 1 (tab N fun j=> .v (.int .i64 (f a j))) 0))):
  vB 2 h (.own id no)= .t no 1 (tab no fun i=> .t N 1 (tab N fun j=> .v (.int .i64 (f i j)))):=by
 have hl:(tab no fun a=>AV.own (d+2*a) N).length=no:=iC;have hr: ∀ a,a<no→vB 1 h (.own (d+2*a) N)= .t N 1 (tab N fun j=> .v (.int .i64 (f a j))):=fun a ha=>by
  have hl2:(tab N fun j=>AV.v (.int .i64 (f a j))).length=N:=iC;show (match h[d+2*a]? with | some (some (.arr _ s cells _))=>bif Nat.beq cells.length (N*s) then AV.t N s (cells.map (vB 0 h)) else .own (d+2*a) N | _=> .own (d+2*a) N)=_;rw [h2 a ha];show (bif Nat.beq (tab N fun j=>AV.v (.int .i64 (f a j))).length (N*1) then _ else _)=_;rw [hl2,Nat.mul_one,Nat.beq_refl];show AV.t N 1 _=_;congr 1;unfold tab;rw [List.map_map];rfl
 show (match h[id]? with | some (some (.arr _ s cells _))=>bif Nat.beq cells.length (no*s) then AV.t no s (cells.map (vB 1 h)) else .own id no | _=> .own id no)=_;rw [h1];show (bif Nat.beq (tab no fun a=>AV.own (d+2*a) N).length (no*1) then _ else _)=_;rw [hl,Nat.mul_one,Nat.beq_refl];show AV.t no 1 _=_;congr 1;unfold tab;rw [List.map_map];exact List.map_congr_left fun i hi=>hr i (List.mem_range.1 hi)
end
section
open Go.RowKit Wv
def roA (n:Nat) (f:Nat→Int):AV:= .t n 1 (tab n fun j=> .v (.int .i64 (f j)))
theorem aey (n:Nat) (f:Nat→Int):Clo (roA n f):=by unfold roA;simp only [Wv.BC]
end
section
open Go.RowKit Wv
abbrev Ee:=List (ByteArray × (Nat→Nat))
def xu:Ee→ByteArray→Option (Nat→Nat)
 | [],_=>none
 | p::r,s=>if s=p.1 then some p.2 else xu r s
def ZR:Ee→ByteArray→(Nat→Nat)→Ee
 | [],s,f=>[(s,f)]
 | p::r,s,f=>if s=p.1 then (s,f)::r else p::ZR r s f
def nmE (es:Ee):List (Value × AV):=es.map fun p=>(.string p.1, .v (.bool true))
theorem yY (s s':ByteArray) (f:Nat→Nat): ∀ es:Ee,xu (ZR es s f) s'=if s'=s then some f else xu es s'
 | []=>rfl
 | p::q=>by
  have ih:=yY s s' f q;unfold ZR;by_cases e:s=p.1
  ·rw [if_pos e];show (if s'=s then some f else xu q s')=if s'=s then some f else (if s'=p.1 then some p.2 else xu q s')
   by_cases e2:s'=s
   ·rw [if_pos e2,if_pos e2]
   ·rw [if_neg e2,if_neg e2,if_neg (by rw [←e];exact e2)]
  ·rw [if_neg e];show (if s'=p.1 then some p.2 else xu (ZR q s f) s')=if s'=s then some f else (if s'=p.1 then some p.2 else xu q s')
   rw [ih];by_cases e2:s'=p.1
   ·rw [if_pos e2,if_neg (by rw [e2];exact fun h=>e h.symm),if_pos e2]
   ·rw [if_neg e2,if_neg e2]
theorem aez (es:Ee): ∀ a,a∈(nmE es).map (·.2)→Clo a:=by
 intro a ha;unfold nmE at ha;rw [List.map_map] at ha;obtain ⟨p,_,rfl⟩:=List.mem_map.1 ha;exact .v _
def pkV (s:ByteArray) (j:Nat):Value:= .agg #[.string s, .int .i64 j]
abbrev kkF:KK:= .flat [none,some .i64]
theorem alQ (s:ByteArray) (j:Nat):fO kkF (pkV s j)=true:=rfl
theorem afy (s s':ByteArray) (j j':Nat):keyE (pkV s j) (pkV s' j')=decide (s=s'∧j=j'):=by
 show (decide (s=s') && (decide ((j:Int)=j') && true))=_;rw [Bool.and_true,show decide ((j:Int)=j')=decide (j=j') from decide_eq_decide.2 (by omega)];simp
structure aiH (N:Nat) (es:Ee) (M:List (Value × AV)):Prop where
 kb:keysB kkF M=true
 clo: ∀ a,a∈M.map (·.2)→Clo a
 get: ∀ s f,xu es s=some f→ ∀ j,j<N→eP (pkV s j) M=some (.v (.int .u32 (f j)))
 lt: ∀ s f,xu es s=some f→ ∀ j,j<N→f j<2 ^ N
def goS:Ex→Prop
 | .nil=>False
 | .mk k s n nl li na ar=>(1≤k∧k≤15)∧(na:Int)=argN k.toNat∧(-4294967295≤n∧n≤4294967295)∧(k=8→0≤n)∧ ∀ i,i<na→goS (ar i)
abbrev ZT:List AV:=[.ptr 7 0, .ptr 0 0, .ptr 5 0, .ptr 3 0, .ptr 6 0]
def hN (N:Nat) (C:List AV) (es:Ee) (M:List (Value × AV)):Hp:=
 [some (.blk [.v (.int .i64 N)]),some (.blk C),some (.map M),some (.blk [.mp 2]),some (.map (nmE es)),some (.blk [.mp 4]),some (.blk [.v (.int .i64 (N / 2:Nat))]),some (.blk [.fn (.func 136) [] ZT])]
theorem aiI:RnL id 8 ZT ZT:=⟨.ptr (by omega), .ptr (by omega), .ptr (by omega), .ptr (by omega), .ptr (by omega),trivial⟩
variable {M:List (Value × AV)}
theorem alR   (N : Nat) {C : List AV} (es : Ee  )  (hC : ∀ a, a ∈ C → Clo a) (hM : ∀ a, a ∈ M.map (·.2) → Clo a) : ∀ (i : Nat) (o : Option Ob), (hN N C es M)[i]? = some o → ∃ o', o = some o' ∧ RnO id 8 o' o' := by
  intro i o ho;unfold hN at ho;match i with
  | 0 => simp at ho; subst ho; exact ⟨_, rfl, .clo (.v _), trivial⟩
  | 1 => simp at ho; subst ho; exact ⟨_, rfl, RnL.clo hC⟩
  | 2 => simp at ho; subst ho; exact ⟨_, rfl, rfl, RnL.clo hM⟩
  | 3 => simp at ho; subst ho; exact ⟨_, rfl, .mp (by omega), trivial⟩
  | 4 => simp at ho; subst ho; exact ⟨_, rfl, rfl, RnL.clo (aez     es)⟩
  | 5 => simp at ho; subst ho; exact ⟨_, rfl, .mp (by omega), trivial⟩
  | 6 => simp at ho; subst ho; exact ⟨_, rfl, .clo (.v _), trivial⟩
  | 7 => simp at ho; subst ho; exact ⟨_, rfl, .fn rfl rfl (by simp) (fun i a b h1 h2 => by
      match i with
      | 0 => simp at h1 h2; subst h1 h2; exact .ptr (by omega)
      | 1 => simp at h1 h2; subst h1 h2; exact .ptr (by omega)
      | 2 => simp at h1 h2; subst h1 h2; exact .ptr (by omega)
      | 3 => simp at h1 h2; subst h1 h2; exact .ptr (by omega)
      | 4 => simp at h1 h2; subst h1 h2; exact .ptr (by omega)
      | i + 5 => simp at h1), trivial⟩
  | i + 8 => simp at ho
theorem RD.hN {N:Nat} {C:List AV} {es:Ee}  {a:AV} {R p:AV→Prop} (hC: ∀ a,a∈C→Clo a) (hM: ∀ a,a∈M.map (·.2)→Clo a) (T:RD Tryz.prog 136 (a::ZT) (hN N C es M) R p) (r:Hp) (ha:Clo a) (hR: ∀ r,R r→Clo r) (hp: ∀ r,p r→Clo r):HTP Tryz.prog 136 (a::ZT) (hN N C es M++r) (fun q h'=>R q∧h'=hN N C es M++r) (fun q h'=>p q∧h'=hN N C es M++r):=
 RD.ext T r ⟨.clo ha,aiI⟩ (alR N es hC hM) hR hp
theorem _root_.Go.Proofs.YtljfgdlgmdcmfaaGreat.Wv.HTP.wk {P:Program} {f:FuncId} {args args':List AV} {h:Hp} {R p:AV→Hp→Prop} (T:HTP P f args' h R p) (ha:WkL args args'):HTP P f args h R p:=
 ⟨T.1,fun X vs hX hh q=>T.2 X vs hX hh (q.wk ha)⟩
theorem aeA {v:Value} (h:fO kkF v=true): ∃ (x:ByteArray) (z:Int),v= .agg #[.string x, .int .i64 z]:=by
 cases v<;>try (cases h;done)
 rename_i a;obtain ⟨l⟩:=a;have h:jf [none,some .i64] l=true:=h;match l with
 | []=>cases h
 | [_]=>simp [jf] at h
 | x::y::z::r=>simp [jf] at h
 | [x,y]=>
  simp only [jf,Bool.and_true,Bool.and_eq_true] at h;obtain ⟨h1,h2⟩:=h;cases x<;>simp [key1] at h1;cases y<;>simp [key1] at h2;subst h2;exact ⟨_,_,rfl⟩
theorem aeB (s s':ByteArray) (j j':Nat) (a:AV):keysB kkF M=true→eP (pkV s' j') (kF (pkV s j) a M)=if s'=s∧j'=j then some a else eP (pkV s' j') M:=by
 induction M with
 | nil=>
  intro _;show (if keyE (pkV s' j') (pkV s j)=true then some a else none)=_;rw [afy];by_cases e:s'=s∧j'=j
  ·rw [if_pos (ah e),if_pos e]
  ·rw [if_neg (by simpa using e),if_neg e];rfl
 | cons p r ih=>
  intro h;unfold keysB at h ih;rw [List.all_cons,Bool.and_eq_true] at h;obtain ⟨x,z,hp⟩:=aeA h.1;have ih:=ih h.2;have hk: ∀ (s:ByteArray) (j:Nat),keyE (pkV s j) p.1=decide (s=x∧(j:Int)=z):=fun s j=>by
   rw [hp];show (decide (s=x) && (decide ((j:Int)=z) && true))=_;simp
  have e0: ∀ (s:ByteArray) (j:Nat),eP (pkV s j) (p::r)=if keyE (pkV s j) p.1=true then some p.2 else eP (pkV s j) r:=fun _ _=>rfl
  have e1:kF (pkV s j) a (p::r)=if keyE (pkV s j) p.1=true then (pkV s j,a)::r else p::kF (pkV s j) a r:=rfl
  rw [e0,e1,hk,hk];by_cases q:s=x∧(j:Int)=z
  ·rw [if_pos (ah q)];show (if keyE (pkV s' j') (pkV s j)=true then some a else eP (pkV s' j') r)=_;rw [afy];by_cases e:s'=s∧j'=j
   ·rw [if_pos (ah e),if_pos e]
   ·rw [if_neg (by simpa using e),if_neg e,if_neg];rw [decide_eq_true_eq];rintro ⟨u1,u2⟩;exact e ⟨u1.trans q.1.symm,by omega⟩
  ·rw [if_neg (by rw [decide_eq_true_eq];exact q)];show (if keyE (pkV s' j') p.1=true then some p.2 else eP (pkV s' j') (kF (pkV s j) a r))=_;rw [hk,ih];by_cases e:s'=s∧j'=j
   ·rw [if_pos e,if_pos e,if_neg];rw [decide_eq_true_eq,e.1,e.2];exact q
   ·rw [if_neg e,if_neg e]
theorem alS (s:ByteArray) (j:Nat) (a:AV):keysB kkF M=true→keysB kkF (kF (pkV s j) a M)=true:=by
 induction M with
 | nil=>exact fun _=>rfl
 | cons p r ih=>
  intro h;unfold keysB at h ih ⊢;rw [List.all_cons,Bool.and_eq_true] at h;show List.all (if keyE (pkV s j) p.1=true then (pkV s j,a)::r else p::kF (pkV s j) a r) _=true;split
  ·rw [List.all_cons,Bool.and_eq_true];exact ⟨alQ s j,h.2⟩
  ·rw [List.all_cons,Bool.and_eq_true];exact ⟨h.1,ih h.2⟩
theorem aiJ (k:Value) (a:AV) (ha:Clo a):(∀ b,b∈M.map (·.2)→Clo b)→ ∀ b,b∈(kF k a M).map (·.2)→Clo b:=by
 induction M with
 | nil=>intro _ b hb;rcases List.mem_cons.1 hb with rfl | h;exact ha;cases h
 | cons p r ih=>
  intro h b hb;have hb:b∈(if keyE k p.1=true then (k,a)::r else p::kF k a r).map (·.2):=hb;split at hb
  ·rcases List.mem_cons.1 hb with rfl | h'
   ·exact ha
   ·exact h b (List.mem_cons_of_mem _ h')
  ·rcases List.mem_cons.1 hb with rfl | h'
   ·exact h _ (List.mem_cons_self ..)
   ·exact ih (fun b hb=>h b (List.mem_cons_of_mem _ hb)) b h'
def ltP (M:List (Value × AV)) (s:ByteArray) (f:Nat→Nat):Nat→List (Value × AV)
 | 0=>M
 | j+1=>kF (pkV s j) (.v (.int .u32 (f j))) (ltP M s f j)
variable {f:Nat→Nat}{s:ByteArray}
theorem OW (h:keysB kkF M=true): ∀ m,keysB kkF (ltP M s f m)=true
 | 0=>h
 | m+1=>alS _ _ _ (OW h m)
theorem QL (h: ∀ b,b∈M.map (·.2)→Clo b): ∀ m b,b∈(ltP M s f m).map (·.2)→Clo b
 | 0=>h
 | m+1=>aiJ _ _ (.v _) (QL h m)
theorem LU (h:keysB kkF M=true) (s':ByteArray) (j':Nat): ∀ m,eP (pkV s' j') (ltP M s f m)=if s'=s∧j'<m then some (.v (.int .u32 (f j'))) else eP (pkV s' j') M
 | 0=>by rw [if_neg (by omega)];rfl
 | m+1=>by
  show eP (pkV s' j') (kF (pkV s m) _ (ltP M s f m))=_;rw [aeB _ _ _ _ _ (OW h m),LU h s' j' m];by_cases e:s'=s∧j'=m
  ·rw [if_pos e,if_pos ⟨e.1,by omega⟩,e.2]
  ·rw [if_neg e];by_cases q:s'=s∧j'<m
   ·rw [if_pos q,if_pos ⟨q.1,by omega⟩]
   ·rw [if_neg q,if_neg];rintro ⟨u,v⟩;by_cases w:j'=m
    ·exact e ⟨u,w⟩
    ·exact q ⟨u,by omega⟩
theorem aiH.put {N:Nat} {es:Ee}  (h:aiH N es M) (s:ByteArray) (f:Nat→Nat) (hf: ∀ j,j<N→f j<2 ^ N):aiH N (ZR es s f) (ltP M s f N) where
 kb:=OW h.kb N
 clo:=QL h.clo N
 get:=fun s' f' e j hj=>by
  rw [LU h.kb];rw [yY] at e;by_cases q:s'=s
  ·rw [if_pos q] at e;injection e with e;rw [if_pos ⟨q,hj⟩,e]
  ·rw [if_neg q] at e;rw [if_neg (fun w=>q w.1)];exact h.get s' f' e j hj
 lt:=fun s' f' e j hj=>by
  rw [yY] at e;by_cases q:s'=s
  ·rw [if_pos q] at e;injection e with e;rw [←e];exact hf j hj
  ·rw [if_neg q] at e;exact h.lt s' f' e j hj
end
section
open Go.RowKit Wv
end
section
open Go.RowKit Wv
def goD (c:Ci):Prop:=(∀ i,i<c.nl→okE (c.le i)∧goS (c.le i))∧c.no≤8
end
section
open Wv
end
section
open Go.RowKit Wv
end
section
open Go.RowKit Wv
def sN (n:Nat):Option Nat:=findF (fun s=>Nat.ble n (2 ^ s)) 8
end
section
open Go.RowKit Wv
end
section
open Go.RowKit Wv
variable {ns:Nms}{ru:Ex→Nat→Except Int Nat}
theorem ZU {k:Int} {s:ByteArray} {n:Int} {nl:Nat} {li:Nat→Int} {na:Nat} {ar:Nat→Ex} (hk:k≠1):shE ns ru (.mk k s n nl li na ar)=DC (ru (.mk k s n nl li na ar)) (bK (fun i=>shE ns ru (ar i)) na):=by
 show (if k=1 then _ else _)=_;rw [if_neg hk]
theorem ZV {k:Int} {s:ByteArray} {n:Int} {nl:Nat} {li:Nat→Int} {na:Nat} {ar:Nat→Ex} (hk:k=1):shE ns ru (.mk k s n nl li na ar)=Dz (aF ns s):=by
 show (if k=1 then _ else _)=_;rw [if_pos hk]
theorem OX (f:Nat→Except Int (Bool × Nat)) (n:Nat):bK f (n+1)=match bK f n with
  | .error e=> .error e
  | .ok (kn,d,u)=>match f n with
   | .error e=> .error e
   | .ok (k',d')=> .ok (kn && k',max d d',if k'=true then u else u+1):=rfl
theorem alT (hru: ∀ x u er,ru x u= .error er→er≠0): ∀ (x:Ex),aW x=true→ ∀ er,shE ns ru x= .error er→er≠0:=by
 intro x;induction x with
 | nil=>intro h;cases h
 | mk k s n nl li na ar ih=>
  intro hf er hr;obtain ⟨hk,hna,har⟩:=gu hf;by_cases k1:k=1
  ·rw [ZV k1] at hr;cases hq:aF ns s with
   | some p=>rw [hq] at hr;cases hr
   | none=>rw [hq] at hr;injection hr with hr;subst hr;decide
  ·rw [ZU k1] at hr;have fold: ∀ m,m≤na→ ∀ er,bK (fun i=>shE ns ru (ar i)) m= .error er→er≠0:=by
    intro m;induction m with
    | zero=>intro _ er h;cases h
    | succ m ihm=>
     intro hm er h;rw [OX] at h;cases h1:bK (fun i=>shE ns ru (ar i)) m with
     | error e=>rw [h1] at h;injection h with h;subst h;exact ihm (by omega) _ h1
     | ok q=>
      obtain ⟨kn,d,u⟩:=q;rw [h1] at h;simp only at h;cases h2:shE ns ru (ar m) with
      | error e=>rw [h2] at h;injection h with h;subst h;exact ih m (har m (by omega)) _ h2
      | ok r=>rw [h2] at h;cases h
   cases h1:bK (fun i=>shE ns ru (ar i)) na with
   | error e=>rw [h1] at hr;injection hr with hr;subst hr;exact fold na (Nat.le_refl _) _ h1
   | ok q=>
    obtain ⟨kn,d,u⟩:=q;rw [h1] at hr;have hr':yH kn d (ru (.mk k s n nl li na ar) u)= .error er:=hr;cases hu:ru (.mk k s n nl li na ar) u with
    | error e=>rw [hu] at hr';injection hr' with hr';subst hr';exact hru _ _ _ hu
    | ok m=>
     rw [hu] at hr';have h8:(if (if kn=true then 0 else d+m)≤8 then Except.ok (kn,if kn=true then 0 else d+m) else .error 232)=(Except.error er:Except Int (Bool × Nat)):=hr';by_cases hle:(if kn=true then 0 else d+m)≤8
     ·rw [if_pos hle] at h8;cases h8
     ·rw [if_neg hle] at h8;injection h8 with h8;subst h8;decide
theorem aiK (x:Par) (t:Nat): ∀ e u er,ruA x t e u= .error er→er≠0:=by
 intro e u er h;cases e with
 | nil=>cases h
 | mk k s n nl li na ar=>
  have z: ∀ {b:Prop} [Decidable b] {v:Except Int Nat} {w:Int},w≠0→(v= .error er→er≠0)→(if b then v else .error w)=(Except.error er:Except Int Nat)→er≠0:=fun {b _ v w} hw hv hq=>by
   split at hq
   ·exact hv hq
   ·injection hq with hq;subst hq;exact hw
  have ok: ∀ {v:Nat},(Except.ok v:Except Int Nat)= .error er→er≠0:=fun h=>by cases h
  unfold ruA at h;simp only at h;split at h
  ·exact z (by decide) ok h
  split at h
  ·exact z (by decide) ok h
  split at h
  ·exact ok h
  split at h
  ·exact z (by decide) ok h
  split at h
  ·exact z (by decide) ok h
  split at h
  ·exact z (by decide) ok h
  split at h
  ·unfold DY at h;exact z (by decide) (z (by decide) ok) h
  split at h
  ·unfold II at h;exact z (by decide) (z (by decide) ok) h
  split at h
  ·exact z (by decide) ok h
  ·exact ok h
section
variable {ln:Nat→ByteArray} {ns0:Nms}
theorem Gq (sh:Nms→Nat→Except Int (Bool × Nat)) (i:Nat):fF ns0 ln sh (i+1)=Af ln sh i (fF ns0 ln sh i):=rfl
theorem ZW {f:Nms→Nat→Except Int (Bool × Nat)}: ∀ {n:Nat},(∀ i,i<n→ ∀ ns er,f ns i= .error er→er≠0)→ ∀ {j er},fF ns0 ln f n= .error (j,er)→er≠0
 | 0,_,j,er,hq=>by cases hq
 | n+1,hf,j,er,hq=>by
  rw [Gq] at hq;cases h1:fF ns0 ln f n with
  | error e=>
   rw [h1] at hq;have hq':(Except.error e:Except (Nat × Int) (Nms × List (Bool × Nat)))= .error (j,er):=hq;injection hq' with hq';subst hq';exact ZW (fun i hi=>hf i (by omega)) h1
  | ok p=>
   obtain ⟨ns,ss⟩:=p;rw [h1] at hq;have hq':(if (aF ns (ln n)).isSome=true then Except.error (n,230) else UE ns ss n (ln n) (f ns n))=(Except.error (j,er):Except (Nat × Int) (Nms × List (Bool × Nat))):=hq;by_cases hs:(aF ns (ln n)).isSome=true
   ·rw [if_pos hs] at hq';injection hq' with hq';injection hq' with h3 h4;subst h4;decide
   ·rw [if_neg hs] at hq';cases h2:f ns n with
    | ok r=>rw [h2] at hq';cases hq'
    | error e=>
     rw [h2] at hq';have hq2:(Except.error (n,e):Except (Nat × Int) (Nms × List (Bool × Nat)))= .error (j,er):=hq';injection hq2 with hq2;injection hq2 with h3 h4;subst h4;exact hf n (by omega) ns _ h2
end
structure anw (q r:List (Bool × Nat) × Int × Int) (fld:Bool):Prop where
 same:q.2.2=0→fld=false→r.2.2=0∧q.1=r.1
 field:q.2.2=0→fld=true→r.2.2=231∧0≤r.2.1
 other:q.2.2≠0→r.2.2=0→q.2.2=233∧0≤q.2.1
end
section
open Go.RowKit Wv
theorem vg {s:ByteArray} {ns':Nms}: ∀ {ns:Nms},aF (ns++ns') s=(match aF ns s with | some r=>some r | none=>aF ns' s)
 | []=>rfl
 | p::r=>by
  show (if s=p.1 then some p.2 else aF (r++ns') s)=match (if s=p.1 then some p.2 else aF r s) with | some r=>some r | none=>aF ns' s
  by_cases h:s=p.1
  ·rw [if_pos h,if_pos h]
  ·rw [if_neg h,if_neg h];exact vg
section
variable {ln:Nat→ByteArray} {ns0:Nms}
theorem Gs {f:Nms→Nat→Except Int (Bool × Nat)}: ∀ {n:Nat} {ns:Nms} {ss:List (Bool × Nat)},fF ns0 ln f n= .ok (ns,ss)→ss.length=n∧ ∀ i,i<n→ ∃ ns' ss' r,fF ns0 ln f i= .ok (ns',ss')∧f ns' i= .ok r∧ss[i]? =some r∧aF ns (ln i)=some r∧ ∀ s r',aF ns' s=some r'→aF ns s=some r'
 | 0,ns,ss,h=>by
  have h':(Except.ok (ns0,[]):Except (Nat × Int) (Nms × List (Bool × Nat)))= .ok (ns,ss):=h;injection h' with h';injection h' with h1 h2;subst h2;exact ⟨rfl,fun i hi=>by omega⟩
 | n+1,ns,ss,h=>by
  rw [Gq] at h;cases h1:fF ns0 ln f n with
  | error e=>rw [h1] at h;cases h
  | ok p=>
   obtain ⟨ns1,ss1⟩:=p;rw [h1] at h;have h':(if (aF ns1 (ln n)).isSome=true then Except.error (n,230) else UE ns1 ss1 n (ln n) (f ns1 n))=(Except.ok (ns,ss):Except (Nat × Int) (Nms × List (Bool × Nat))):=h;obtain ⟨i1,i2⟩:=Gs h1;by_cases hs:(aF ns1 (ln n)).isSome=true
   ·rw [if_pos hs] at h';cases h'
   ·rw [if_neg hs] at h';have hs':aF ns1 (ln n)=none:=by simpa using hs
    cases h2:f ns1 n with
    | error e=>rw [h2] at h';cases h'
    | ok r=>
     rw [h2] at h';have h3:(Except.ok (ns1++[(ln n,r)],ss1++[r]):Except (Nat × Int) (Nms × List (Bool × Nat)))= .ok (ns,ss):=h';injection h3 with h3;injection h3 with h4 h5;subst h4 h5;have hmono: ∀ s r',aF ns1 s=some r'→aF (ns1++[(ln n,r)]) s=some r':=fun s r' q=>by rw [vg,q]
     refine ⟨by rw [List.length_append,i1];rfl,fun i hi=>?_⟩;by_cases q:i<n
     ·obtain ⟨ns',ss',r',a1,a2,a3,a4,a5⟩:=i2 i q;exact ⟨ns',ss',r',a1,a2,by rw [List.getElem?_append_left (by omega)];exact a3,hmono _ _ a4,fun s r' h=>hmono _ _ (a5 s r' h)⟩
     ·obtain rfl:i=n:=by omega
      refine ⟨ns1,ss1,r,h1,h2,by rw [List.getElem?_append_right (by omega),i1,Nat.sub_self];rfl,?_,hmono⟩;rw [vg,hs'];show (if ln i=ln i then some r else none)=some r;rw [if_pos rfl]
end
end
section
open Go.RowKit Wv
theorem aeC {a b c:AV} (h1:Clo a) (h2:Clo b) (h3:Clo c): ∀ x,x∈[a,b,c]→Clo x:=by simp only [Wv.BC];exact ⟨h1,h2,h3⟩
end
section
open Go.RowKit Wv
theorem OY {h:Hp} {a a':AV} {r r':List AV} (h1:uy h a=some a') (h2:JO h r=some r'):JO h (a::r)=some (a'::r'):=by
 unfold JO at*;show (match uy h a,EI (uy h) r with | some a',some r'=>some (a'::r') | _,_=>none)=_;rw [h1,h2]
end
section
open Go.RowKit Wv
theorem aiL {k:Int} {s:ByteArray} {m:Int} {nl:Nat} {li:Nat→Int} {na:Nat} {ar:Nat→Ex}:na+1≤bC (.mk k s m nl li na ar):=by
 have h1: ∀ x,1≤bC x:=fun x=>by
  cases x with
  | nil=>exact Nat.le_refl 1
  | mk k s m nl li na ar=>exact yA 1 _ na
 have h2: ∀ n,n+1≤dM 1 (fun i=>bC (ar i)) n:=fun n=>by
  induction n with
  | zero=>exact Nat.le_refl 1
  | succ n ih=>have:=h1 (ar n);show n+1+1≤dM 1 (fun i=>bC (ar i)) n+bC (ar n);omega
 exact h2 na
theorem UQ {h:Hp}:JO h []=some []:=rfl
theorem pI (y:Ex): ∃ (k:Int) (s:ByteArray) (m:Int) (a:Nat) (l:List AV) (b:Nat) (r:List AV),exC y=[.v (.int .i64 k), .v (.string s), .v (.int .i64 m), .t a 1 l, .t b 5 r]:=by cases y<;>exact ⟨_,_,_,_,_,_,_,rfl⟩
end
section
open Go.RowKit Wv
def smL:Ex→Prop
 | .nil=>True
 | .mk k s n nl li na ar=>nl≤1000000∧ ∀ i,i<na→smL (ar i)
theorem ZX: ∀ x,okE x→bC x≤1000000→smL x→TC Tryz.prog 59 [.g (exC x)] (.g (exC x)):=by
 intro x;induction x with
 | nil=>intro h _ _;exact h.elim
 | mk k s m nl li na ar ih=>
 rintro ⟨hs,hnl,hna,hh⟩ hc hlo;obtain ⟨hl0,hl1⟩:=hlo;have hRc:=bU (.mk k s m nl li na ar);have hcn: ∀ i,i<na→bC (ar i)≤1000000:=fun i hi=>by
  have h1:dM 1 (fun i=>bC (ar i)) na≤1000000:=hc;have h2:dM 1 (fun i=>bC (ar i)) i+bC (ar i)≤dM 1 (fun i=>bC (ar i)) na:=qZ 1 (fun i=>bC (ar i)) hi;omega
 have hnc:na+1≤bC (.mk k s m nl li na ar):=aiL;have hdA: ∀ i,i<na→ ∃ r,List.drop (i*5) (cO na fun i=>exC (ar i))=exC (ar i)++r:=fun i hi=>bH (f:=fun i=>exC (ar i)) (fun i=>gJ (ar i)) hi
 have hC2: ∀ i a,a∈cO i (fun i=>exC (ar i))→Clo a:=fun i=>dw fun i _=>eX _
 have hC:=hC2 na;have hS2:=fun i=>kT i (fun i=>exC (ar i))
 have hN2: ∀ i,(cO i fun i=>exC (ar i)).length=i*5:=fun i=>mQ fun i=>gJ _
 rw [dh] at hRc ⊢;obtain ⟨L,hL⟩: ∃ L,L=cO na fun i=>exC (ar i):=⟨_,rfl⟩
 refine Wv.TC.by 29 [0,1,4,14,3,2] [] [.cell 2 46] Tryz.func59 rfl rfl rfl ?clo ?_
 case clo=>exact hRc
 rw [←hL] at hdA hC;have hfin: ∀ l:List AV,l=(cO na fun i=>exC (ar i))→AV.g [.v (.int .i64 k), .v (.string s), .v (.int .i64 m), .t nl 1 (tab nl fun i=> .v (.int .i64 (li i))), .t na 5 l]= .g [.v (.int .i64 k), .v (.string s), .v (.int .i64 m), .t nl 1 (tab nl fun i=> .v (.int .i64 (li i))), .t na 5 (cO na fun i=>exC (ar i))]:=fun l e=>by rw [e]
 rw [←hL];refine Wv.W ?_;refine jU (σ:=Nat) (fun i=>[(1, .ptr 0 0),(2, .ptr 1 0),(3, .own 3 i),(4, .v (.int .i64 i))])
  (fun i=>[some (.blk [.v (.int .i64 k), .v (.string s), .v (.int .i64 m), .own 2 nl, .t na 5 L]),some (.blk [.v (.int .i64 0), .v (.string ⟨#[]⟩), .v (.int .i64 0), .v (.slice none 0 0), .v (.slice none 0 0)]),some (.arr 2 1 (tab nl fun i=> .v (.int .i64 (li i))) 0),some (.arr 46 5 (cO i fun i=>exC (ar i)) 0)])
  (fun i=>i≤na) (fun i=>na - i) 0 (Nat.zero_le _) ?_ ?_
 ·refine Ent.trans (Ent.nil 3 46 5 (by omega) rfl) (Ent.fit ?_);exact Wv.V
 intro i hi;by_cases hlt:i<na
 ·have e1:(i:Int)<na:=by omega
  have T:=ih i (hh i hlt) (hcn i hlt) (hl1 i hlt);have hG:=bU (ar i);have hoy:=hh i hlt;have hs2:=hS2 i;have hc2:=hC2 (i+1);have hn2:=hN2 i;have ZY: ∀ m,loL m (cO (i+1) fun i=>exC (ar i))=True:=fun m=>eq_true fun a ha=> .clo (hc2 a ha)
  obtain ⟨r,hd⟩:=hdA i hlt;obtain ⟨c0,c1,c2,c3,c4,c5,c6,h5⟩:=pI (ar i);simp only [h5,List.cons_append,List.nil_append] at hd hs2;rw [h5] at T hG;refine Wv.W3 (ah e1) hd hn2 ?_;refine ak T rfl (dR hG) hG ?_;refine Wv.W1 hn2 ?_;refine Wv.iO (i+1) 4 (by first | decide | exact Nat.le_of_ble_eq_true rfl) (by omega) (by omega) (Wv.V2f @bJ hs2) (Wv.V3 @Int.natCast_add @Int.natCast_one hs2) (by simp only [Wv.BL, ↓reduceIte,Nat.reduceLeDiff,ZY,eq_true hC]<;>omega) (by simp only [Wv.BL, ↓reduceIte,Nat.reduceLeDiff,ZY,eq_true hC]<;>omega)
 ·obtain rfl:i=na:=by omega
  have hn2:=hN2 i;have hcl: ∀ a b c z,cellsA [a,b,c,some (.arr 46 5 (cO i fun i=>exC (ar i)) z)] (.own 3 i)=some [.own 3 i]:=fun a b c z=>oK (by rw [mP];show decide _=true;rw [hn2];simp)
  refine Wv.W4 @Int.lt_irrefl @decide_false hn2 hcl ?_;rw [hL]
theorem OZ (A B:List AV) (hA: ∀ a,a∈A→Clo a) (hB: ∀ a,a∈B→Clo a) (c:Ci) (h:okC c) (hni:c.ni≤100000) (hno:c.no≤100000) (hnl:c.nl≤100000) (hle: ∀ i,i<c.nl→bC (c.le i)≤1000000∧smL (c.le i)):
  HT Tryz.prog 18 [.g (ciC c)] [some (.blk A),some (.blk B)] (fun r h'=>r= .g [.v (.string c.name),bG c.ni c.fi, .own 4 c.nl,bG c.no c.fo]∧ ∃ a b,h'=[some (.blk A),some (.blk B),a,b,some (.arr 49 6 c.lets 0)]):=by
 have hLc:=iV c;have hdr: ∀ i,i<c.nl→ ∃ r,List.drop (i*6) c.lets= .v (.string (c.ln i))::(exC (c.le i)++r):=fun i hi=>by
  obtain ⟨r,h⟩:=bH (f:=fun i=>iD (c.ln i) (c.le i)) (fun i=>gV _ _) hi;exact ⟨r,h⟩
 have hC2: ∀ i a,a∈cO i (fun i=>iD (c.ln i) (c.le i))→Clo a:=fun i=>dw fun i _=>rC _ _
 have hS2:=fun i=>kT i (fun i=>iD (c.ln i) (c.le i))
 have hN2: ∀ i,(cO i fun i=>iD (c.ln i) (c.le i)).length=i*6:=fun i=>mQ fun i=>gV _ _
 have hlets:c.lets=cO c.nl fun i=>iD (c.ln i) (c.le i):=rfl
 unfold ciC bG;obtain ⟨LL,hLL⟩: ∃ LL,LL=c.lets:=⟨_,rfl⟩
 refine Wv.HT.byO 42 [0,1,4,19,3,2] [(1,9),(1000000,2),(6,16),(3000006,16)] [.cell 2 29] Tryz.func18 rfl rfl rfl ?base ?_
 case base=>rfl
 rw [←hLL];have alU: ∀ a,a∈LL→Clo a:=by rw [hLL];exact hLc
 have hAl: ∀ m,loL m A=True:=fun m=>eq_true fun a ha=> .clo (hA a ha)
 have hBl: ∀ m,loL m B=True:=fun m=>eq_true fun a ha=> .clo (hB a ha)
 have tS: ∀ (n:Nat) (f:Nat→ByteArray) (h:Hp),(tab n fun i=>AV.v (.string (f i))).all (kE h)=true:=fun n f h=>P7 fun _ _=>rfl
 refine Wv.W1 tS ?_;refine jU (σ:=Nat) (fun i=>[(1, .ptr 2 0),(2, .ptr 3 0),(3, .own 4 i),(4, .v (.int .i64 i))])
  (fun i=>[some (.blk A),some (.blk B),some (.blk [.v (.string c.name), .t c.ni 1 (tab c.ni fun i=> .v (.string (c.fi i))), .t c.nl 6 LL, .t c.no 1 (tab c.no fun i=> .v (.string (c.fo i)))]),some (.blk [.v (.string ⟨#[]⟩), .v (.slice none 0 0), .v (.slice none 0 0), .v (.slice none 0 0)]),some (.arr 49 6 (cO i fun i=>iD (c.ln i) (c.le i)) 0)])
  (fun i=>i≤c.nl) (fun i=>c.nl - i) 0 (Nat.zero_le _) ?_ ?_
 ·refine Ent.trans (Ent.nil 3 49 6 (by omega) rfl) (Ent.fit ?_);exact Wv.V
 intro i hi;by_cases hlt:i<c.nl
 ·have e1:(i:Int)<c.nl:=by omega
  have hoy:=(h.le i hlt).1;have T:=ZX (c.le i) hoy (hle i hlt).1 (hle i hlt).2;have hG:=bU (c.le i);have hs2:=hS2 i;have hc2:=hC2 (i+1);have hn2:=hN2 i;have ZY: ∀ m,loL m (cO (i+1) fun i=>iD (c.ln i) (c.le i))=True:=fun m=>eq_true fun a ha=> .clo (hc2 a ha)
  obtain ⟨r,hd⟩:=hdr i hlt;have hlet:iD (c.ln i) (c.le i)= .v (.string (c.ln i))::exC (c.le i):=rfl;obtain ⟨c0,c1,c2,c3,c4,c5,c6,h5⟩:=pI (c.le i);rw [hlet] at hs2;simp only [h5,List.cons_append,List.nil_append] at hd hs2;rw [h5] at T hG;rw [←hLL] at hd;refine Wv.W3 (ah e1) hd hn2 ?_;refine eU T (OY (FT hG) UQ) (dR hG) hG ?_;refine Wv.W1 hn2 ?_;refine Wv.iO (i+1) 5 (by first | decide | exact Nat.le_of_ble_eq_true rfl) (by omega) (by omega) (Wv.V2f @bJ hs2) (Wv.V3 @Int.natCast_add @Int.natCast_one hs2) (by simp only [Wv.BL, ↓reduceIte,Nat.reduceLeDiff,ZY,hAl,hBl,eq_true alU]<;>omega) (by simp only [Wv.BL, ↓reduceIte,Nat.reduceLeDiff,ZY,hAl,hBl,eq_true alU]<;>omega)
 ·obtain rfl:i=c.nl:=by omega
  have hn2:=hN2 c.nl;rw [←hlets, ←hLL] at hn2;have hcl: ∀ a b c' d z,cellsA [a,b,c',d,some (.arr 49 6 LL z)] (.own 4 c.nl)=some [.own 4 c.nl]:=fun a b c' d z=>oK (by rw [mP];show decide _=true;rw [hn2];simp)
  rw [←hlets, ←hLL];simp (disch:=first|exact Wv.D|fail) only [Wv.B,simprocAttr,Int.lt_irrefl,decide_false,hn2,hcl,wV,wU];exact ⟨_,_,rfl⟩
end
section
open Go.RowKit Wv
theorem LV {me:Int} {c:Ci} {ru:Ex→Nat→Except Int Nat} (h:(fG me c ru).2.2=0):me=0∧dS c=0∧fG me c ru=qA c ru:=by
 unfold fG at h ⊢;by_cases h1:me=0
 ·rw [if_neg (by simp [h1])] at h ⊢;by_cases h2:dS c=0
  ·exact ⟨h1,h2,by rw [if_neg (by simp [h2])]⟩
  ·rw [if_pos (by simpa using h2)] at h;exact absurd h h2
 ·rw [if_pos (by simpa using h1)] at h;cases h
end
section
open Go.RowKit
theorem xw (n out a e:Nat) (he:e % 2=1):out*a ^ e % n=(out*a % n)*(a*a % n) ^ (e / 2) % n:=by
 have h:e=2*(e / 2)+1:=by omega
 have h2:a ^ e=a*(a*a) ^ (e / 2):=by
  conv=>lhs;rw [h]
  rw [Nat.pow_succ,Nat.pow_mul,Nat.pow_two,Nat.mul_comm]
 rw [h2, ←Nat.mul_assoc,Nat.mul_mod,Nat.pow_mod (a*a) (e / 2) n, ←Nat.mul_mod_mod,Nat.mod_mod];simp [Nat.mul_mod,Nat.pow_mod]
theorem uF (n out a e:Nat) (he:e % 2=0):out*a ^ e % n=out*(a*a % n) ^ (e / 2) % n:=by
 have h:e=2*(e / 2):=by omega
 have h2:a ^ e=(a*a) ^ (e / 2):=by
  conv=>lhs;rw [h]
  rw [Nat.pow_mul,Nat.pow_two]
 rw [h2,Nat.mul_mod,Nat.pow_mod (a*a) (e / 2) n];simp [Nat.mul_mod,Nat.pow_mod]
theorem LW (d:Nat) (h:d<4294967296):bits BinOp.and IntKind.u32 (d:Int) 1=((d % 2:Nat):Int):=by
 have h1:=u32_and (d:Int) 1 (by omega) (by omega) (by omega) (by omega);rw [h1];show ((d &&& 1:Nat):Int)=_;rw [Nat.and_one_is_mod]
variable {d:Nat}
theorem Ef {t m:Nat} (hev:d % 2=0) (h:d*2 ^ t=m):d / 2*2 ^ (t+1)=m:=by
 rw [Nat.pow_succ,Nat.mul_comm (2 ^ t) 2, ←Nat.mul_assoc,show d / 2*2=d by omega];exact h
variable {n:Nat}
theorem qm {t:Nat} (ht:1≤t) (h:d*2 ^ t=n - 1):2*d≤n - 1:=by
 obtain ⟨s,rfl⟩: ∃ s,t=s+1:=⟨t - 1,by omega⟩
 rw [Nat.pow_succ, ←Nat.mul_assoc] at h;have:=Nat.mul_le_mul_left d (Nat.one_le_two_pow (n:=s));omega
theorem UR {s m:Nat} (h:d*2 ^ (s+1)=m):d*2*2 ^ s=m:=by
 rw [Nat.pow_succ,Nat.mul_comm (2 ^ s) 2, ←Nat.mul_assoc] at h;exact h
def xA (n k:Nat):Prop:= ∀ p,p∈smalls.take k→n % p≠0
theorem Ja {k p:Nat} (h:xA n k) (hp:smalls[k]? =some p) (hd:n % p≠0):xA n (k+1):=by
 intro q hq;rw [List.take_add_one] at hq;rcases List.mem_append.1 hq with h1 | h1
 ·exact h q h1
 ·rw [hp] at h1;simp at h1;subst h1;exact hd
theorem Jb {k p:Nat} (h2: ¬ n<2) (h:xA n k) (hp:smalls[k]? =some p) (hd:n % p=0):ay n=(n==p):=by
 have hf:smalls.find? (fun p=>n % p==0)=some p:=by
  have hk:k<smalls.length:=(List.getElem?_eq_some_iff.1 hp).1;have e:smalls=smalls.take k++p::smalls.drop (k+1):=by
   have hpk:smalls[k]=p:=(List.getElem?_eq_some_iff.1 hp).2;rw [←hpk,List.getElem_cons_drop,List.take_append_drop]
  rw [e,List.find?_append,List.find?_eq_none.2 (by intro q hq;simpa using h q hq)];simp [hd]
 unfold ay;rw [if_neg h2,hf]
theorem LX (h2: ¬ n<2) (h:xA n 7):ay n=(SP 2 n && (SP 7 n && SP 61 n)):=by
 have hf:smalls.find? (fun p=>n % p==0)=none:=List.find?_eq_none.2 (by intro q hq;simpa using h q (by simpa [smalls] using hq));unfold ay;rw [if_neg h2,hf]
end
section
open Go.RowKit Wv
def hB1 (n:Nat):Hp:=[some (.blk [.v (.int .u64 n)])]
theorem lG {a b n:Nat} (ha:a<4294967296) (hb:b<4294967296) (hn:1≤n):(a:Int)*(b:Int)=((a*b:Nat):Int)∧a*b≤18446744065119617025∧((a*b:Nat):Int).tmod (n:Int)=((a*b % n:Nat):Int)∧a*b % n<n:=
 ⟨(Int.natCast_mul a b).symm,Nat.mul_le_mul (show a≤4294967295 by omega) (show b≤4294967295 by omega),by rw [Int.tmod_eq_emod_of_nonneg (by omega),Int.natCast_emod],Nat.mod_lt _ (by omega)⟩
theorem LY (n a b:Nat) (ha:a<4294967296) (hb:b<4294967296) (hn:1≤n) (hn2:n<4294967296):HT Tryz.prog 262 [.v (.int .u32 a), .v (.int .u32 b), .ptr 0 0] (hB1 n) (fun r h'=>r= .v (.int .u32 (a*b % n:Nat))∧h'=hB1 n):=by
 obtain ⟨e1,e2,e3,e4⟩:=lG ha hb hn;generalize a*b % n=z at*;generalize a*b=y at*;unfold hB1;refine Wv.HT.by 14 [0,1,2,5] [(1000000,1)] [.tmp 5] Tryz.func262 rfl rfl rfl ?base ?_
 case base=>rfl
 exact Wv.V2f e1 e3
theorem aeD (n:Nat) (hn2:n<4294967296):HT Tryz.prog 243 [.v (.int .u32 n)] [] (fun r h'=>r= .fn (.func 262) [] [.ptr 0 0]∧h'=hB1 n):=by
 unfold hB1;refine Wv.HT.by 7 [0,3,2] [(1000000,0)] [.tmp 2] Tryz.func243 rfl rfl rfl ?base ?_
 case base=>rfl
 exact Wv.V
theorem aiM (a e n:Nat) (ha:a<4294967296) (he:e<18446744073709551616) (hn:2≤n) (hn2:n<4294967296):TC Tryz.prog 228 [.v (.int .u32 a), .v (.int .u64 e), .v (.int .u32 n)] (.v (.int .u32 (uT a e n))):=by
 refine Wv.TC.by 27 [2,1,12,17,7,8,0,6] [] [.tmp 6] Tryz.func228 rfl rfl rfl ?clo ?_
 case clo=>simp only [Wv.BC]
 refine Wv.W ?_;refine aB (fst:=[]) (cap:=[]) (aeD n hn2) ?_;rintro av h' ⟨rfl,rfl⟩;refine Wv.W ?_;refine aQ (σ:=Nat × Nat × Nat) (fun q=>[(0, .v (.int .u32 q.1)),(1, .v (.int .u64 q.2.1)),(7, .fn (.func 262) [] [.ptr 0 0]),(8, .v (.int .u32 q.2.2))])
  (fun _=>hB1 n) (fun q=>q.1<4294967296∧q.2.1≤e∧q.2.2<n∧q.2.2*q.1 ^ q.2.1 % n=uT a e n) (fun q=>q.2.1) (a,e,1) ⟨ha,Nat.le_refl _,by simp only;omega,by simp only [Nat.one_mul];rfl⟩ rfl Wv.V ?_
 rintro ⟨a',e',o⟩ ⟨h1,h2,h3,h4⟩;simp only at h1 h2 h3 h4 ⊢;by_cases h0:0<e'
 ·have eb:IntKind.u64.wrap ((BitVec.ofInt IntKind.u64.bits (e':Int) &&& BitVec.ofInt IntKind.u64.bits 1).toNat)=((e' % 2:Nat):Int):=(and_one_u64 (e':Int) (by omega) (by omega)).trans (by omega);have es:(e':Int).fdiv (2 ^ min 1 64)=((e' / 2:Nat):Int):=by rw [show ((2:Int) ^ min 1 64)=2 from rfl,Int.fdiv_eq_ediv_of_nonneg _ (by omega)];omega
  have d0:=ah (show (e':Int)>0 by omega);obtain ⟨-, -, -,m1⟩:=lG (n:=n) h1 h1 (by omega);have P2:=LY n a' a' h1 h1 (by omega) hn2;by_cases h5:e' % 2=1
  ·obtain ⟨-, -, -,m2⟩:=lG (n:=n) (show o<4294967296 by omega) h1 (by omega);have P1:=LY n o a' (by omega) h1 (by omega) hn2;have hst:=xw n o a' e' h5;refine Wv.W3 d0 eb (ah (show ((e' % 2:Nat):Int)=1 by omega)) ?_;refine aB (fst:=[]) (cap:=[.ptr 0 0]) P1 ?_;rintro av h' ⟨rfl,rfl⟩;refine Wv.W ?_;refine aB (fst:=[]) (cap:=[.ptr 0 0]) P2 ?_;rintro av h' ⟨rfl,rfl⟩;refine Wv.W1 es ?_;refine au (a'*a' % n,e' / 2,o*a' % n) ⟨by simp only;omega,by simp only;omega,m2,hst.symm.trans h4⟩ (by simp only;omega) rfl Wv.V
  ·have hst:=uF n o a' e' (by omega);refine Wv.W3 d0 eb (aj (show ¬ ((e' % 2:Nat):Int)=1 by omega)) ?_;refine aB (fst:=[]) (cap:=[.ptr 0 0]) P2 ?_;rintro av h' ⟨rfl,rfl⟩;refine Wv.W1 es ?_;refine au (a'*a' % n,e' / 2,o) ⟨by simp only;omega,by simp only;omega,h3,hst.symm.trans h4⟩ (by simp only;omega) rfl Wv.V
 ·obtain rfl:e'=0:=by omega
  rw [Nat.pow_zero,Nat.mul_one,Nat.mod_eq_of_lt h3] at h4;exact Wv.V2f (aj (show ¬ ((0:Nat):Int)>0 by omega)) h4
theorem LZ (d:Nat) (h:d<4294967296):IntKind.u32.wrap ((BitVec.ofInt IntKind.u32.bits (d:Int) &&& BitVec.ofInt IntKind.u32.bits 1).toNat)=((d % 2:Nat):Int):=LW d h
theorem L6 (e:Nat):(e:Int).fdiv (2 ^ min 1 32)=((e / 2:Nat):Int):=by rw [show ((2:Int) ^ min 1 32)=2 from rfl,Int.fdiv_eq_ediv_of_nonneg _ (by omega)];omega
theorem fV (a n:Nat):(a:Int).tmod (n:Int)=((a % n:Nat):Int):=by rw [Int.tmod_eq_emod_of_nonneg (by omega),Int.natCast_emod]
theorem aeE (a n:Nat) (ha:a<4294967296) (hn:3≤n) (hn2:n<4294967296) (hodd:n % 2=1):TC Tryz.prog 205 [.v (.int .u32 a), .v (.int .u32 n)] (.v (.bool (SP a n))):=by
 have hmd:a % n<n:=Nat.mod_lt _ (by omega);have e1:(n:Int) - 1=((n - 1:Nat):Int):=by omega
 refine Wv.TC.by 50 [1,5,12,6,0,7,31,34,33,35,48,4] [] [.tmp 4] Tryz.func205 rfl rfl rfl ?clo ?_
 case clo=>simp only [Wv.BC]
 refine Wv.W1 e1 ?_;refine aQ (σ:=Nat × Nat) (fun q=>[(0, .v (.int .u32 a)),(1, .v (.int .u32 n)),(5, .v (.int .u32 q.1)),(6, .v (.int .i64 q.2))])
  (fun _=>[]) (fun q=>0<q.1∧q.1<4294967296∧q.2<32∧q.1*2 ^ q.2=n - 1) (fun q=>q.1) (n - 1,0) ⟨by simp only;omega,by simp only;omega,by simp only;omega,by simp only;omega⟩ rfl Wv.V ?_
 rintro ⟨d,t⟩ ⟨h1,h2,h3,h4⟩;simp only at h1 h2 h3 h4 ⊢;by_cases hev:d % 2=0
 ·have hI2:=Ef hev h4;have ht2:t+1<32:=Di (m:=n - 1) (by omega) (by omega) hI2;simp (disch:=first|exact Wv.D|fail) only [Wv.B,simprocAttr,LZ d h2,ah (show ((d % 2:Nat):Int)=0 by omega),L6];refine au (d / 2,t+1) ⟨by simp only;omega,by simp only;omega,ht2,hI2⟩ (by simp only;omega) rfl (Wv.V3 @L6 @Int.natCast_add @Int.natCast_one)
 simp (disch:=first|exact Wv.D|fail) only [Wv.B,simprocAttr,LZ d h2,aj (show ¬ ((d % 2:Nat):Int)=0 by omega),fV];refine ak (aiM (a % n) d n (by omega) (by omega) (by omega) hn2) rfl Wv.c Wv.c ?_;have hS:=afn (a:=a) (n:=n) (x:=uT (a % n) d n) h3 (by omega) h4 rfl;have hlt:uT (a % n) d n<n:=Nat.mod_lt _ (by omega);generalize uT (a % n) d n=x0 at*;obtain ⟨s,rfl⟩: ∃ s,t=s+1:=by
  cases t with
  | zero=>simp at h4;omega
  | succ t=>exact ⟨t,rfl⟩
 have es:((s+1:Nat):Int) - 1=s:=by omega
 by_cases c1:x0=1
 ·subst c1;simp (disch:=first|exact Wv.D|fail) only [Wv.B,simprocAttr,hS,BEq.rfl,Bool.true_or]
 have n1:(x0==1)=false:=by simp [c1]
 by_cases c2:x0=n - 1
 ·rw [n1,yc c2,Bool.false_or] at hS;exact Wv.V4 (aj (show ¬ ((x0:Nat):Int)=1 by omega)) e1 (ah (show (x0:Int)=((n - 1:Nat):Int) by omega)) hS
 rw [n1,uU c2,Bool.false_or] at hS;refine Wv.W4 (aj (show ¬ ((x0:Nat):Int)=1 by omega)) e1 (aj (show ¬ (x0:Int)=((n - 1:Nat):Int) by omega)) es ?_;refine aQ (σ:=Nat × Nat) (fun q=>[(1, .v (.int .u32 n)),(7, .v (.int .u32 q.1)),(33, .v (.int .i64 s)),(34, .v (.int .i64 q.2))])
  (fun _=>[]) (fun q=>q.1<n∧q.2≤s∧SP a n=lq n (q.1*q.1 % n) (s - q.2)) (fun q=>s - q.2) (x0,0) ⟨hlt,Nat.zero_le _,hS⟩ rfl Wv.V ?_
 rintro ⟨x,k⟩ ⟨k1,k2,k3⟩;simp only at k1 k2 k3 ⊢;obtain ⟨m1,m2,m3,m4⟩:=lG (n:=n) (show x<4294967296 by omega) (show x<4294967296 by omega) (by omega);by_cases hks:k<s
 ·obtain ⟨r,hr⟩: ∃ r,s - k=r+1:=⟨s - k - 1,by omega⟩
  rw [hr] at k3;generalize x*x % n=z at*;generalize x*x=y at*;by_cases c3:z=n - 1
  ·rw [yc c3] at k3;simp (disch:=first|exact Wv.D|fail) only [Wv.B,simprocAttr,ah (show (k:Int)<s by omega),m1,m3,e1,ah (show (z:Int)=((n - 1:Nat):Int) by omega),k3]
  ·rw [uU c3] at k3;refine Wv.W5 (ah (show (k:Int)<s by omega)) m1 m3 e1 (aj (show ¬ (z:Int)=((n - 1:Nat):Int) by omega)) ?_;refine au (z,k+1) ⟨m4,by simp only;omega,by simp only;rw [k3,show s - (k+1)=r by omega]⟩ (by simp only;omega) rfl Wv.V2
 ·rw [show s - k=0 by omega] at k3;simp (disch:=first|exact Wv.D|fail) only [Wv.B,simprocAttr,aj (show ¬ (k:Int)<s by omega),k3,lq]
end
section
open Go.RowKit Wv
def smA:List AV:=[.v (.int .u32 2), .v (.int .u32 3), .v (.int .u32 5), .v (.int .u32 7), .v (.int .u32 11), .v (.int .u32 13), .v (.int .u32 61)]
theorem L8 (n:Nat) (hn2:n<4294967296):TC Tryz.prog 139 [.v (.int .u32 n)] (.v (.bool (ay n))):=by
 refine Wv.TC.by 30 [0,8,10,11,9,4,16,22,23,21,6,28,2] [] [.tmp 2] Tryz.func139 rfl rfl rfl ?clo ?_
 case clo=>simp only [Wv.BC]
 by_cases h2:n<2
 ·have hM:ay n=false:=if_pos h2;exact Wv.V2f (ah (show (n:Int)<2 by omega)) hM
 refine Wv.W1 (aj (show ¬ (n:Int)<2 by omega)) ?_;refine aQ (σ:=Nat) (fun i=>[(0, .v (.int .u32 n)),(9, .g smA),(10, .v (.int .i64 i))])
  (fun _=>[]) (fun i=>i≤7∧xA n i) (fun i=>7 - i) 0 ⟨Nat.zero_le _,fun p hp=>by simp at hp⟩ rfl (by simp (disch:=first|exact Wv.D|fail) only [Wv.B,simprocAttr,smA]) ?_
 rintro i ⟨h3,h4⟩;by_cases hi:i<7
 ·obtain ⟨p,hp,hix,hp1,hp2⟩: ∃ p,smalls[i]? =some p∧mD Tryz.prog 235 (.g smA) (i:Int)=some (.v (.int .u32 (p:Nat)))∧1≤p∧p≤61:=by
   rcases (show i=0∨i=1∨i=2∨i=3∨i=4∨i=5∨i=6 by omega) with rfl | rfl | rfl | rfl | rfl | rfl | rfl<;>exact ⟨_,rfl,by kernel_rfl,by decide,by decide⟩
  by_cases hd:n % p=0
  ·have hM:=Jb h2 h4 hp hd;by_cases hq:n=p
   ·rw [beq_iff_eq.2 hq] at hM;simp (disch:=first|exact Wv.D|fail) only [Wv.B,simprocAttr,ah (show (i:Int)<7 by omega),hix,fV,ah (show ((n % p:Nat):Int)=0 by omega),ah (show (n:Int)=p by omega),hM]
   ·rw [beq_eq_false_iff_ne.2 hq] at hM;simp (disch:=first|exact Wv.D|fail) only [Wv.B,simprocAttr,ah (show (i:Int)<7 by omega),hix,fV,ah (show ((n % p:Nat):Int)=0 by omega),aj (show ¬ (n:Int)=p by omega),hM]
  ·refine Wv.W4 (ah (show (i:Int)<7 by omega)) hix @fV (aj (show ¬ ((n % p:Nat):Int)=0 by omega)) ?_;refine au (i+1) ⟨by omega,Ja h4 hp hd⟩ (by omega) rfl Wv.V2
 obtain rfl:i=7:=by omega
 have hM:=LX h2 h4;have hodd:n % 2=1:=by have:=h4 2 (by simp [smalls]);omega
 have h3n:n % 3≠0:=h4 3 (by simp [smalls]);refine Wv.W1 (aj (show ¬ (((7:Nat):Int)<7) by omega)) ?_;refine aQ (σ:=Nat) (fun i=>[(0, .v (.int .u32 n)),(21, .g [.v (.int .u32 2), .v (.int .u32 7), .v (.int .u32 61)]),(22, .v (.int .i64 i))])
  (fun _=>[]) (fun i=>i≤3∧ ∀ p,p∈[2,7,61].take i→SP p n=true) (fun i=>3 - i) 0 ⟨Nat.zero_le _,fun p hp=>by simp at hp⟩ rfl Wv.V ?_
 rintro i ⟨k3,k4⟩;by_cases hi:i<3
 ·obtain ⟨p,hp,hix,hp1,hp2⟩: ∃ p,[2,7,61][i]? =some p∧mD Tryz.prog 236 (.g [.v (.int .u32 2), .v (.int .u32 7), .v (.int .u32 61)]) (i:Int)=some (.v (.int .u32 (p:Nat)))∧1≤p∧p≤61:=by
   rcases (show i=0∨i=1∨i=2 by omega) with rfl | rfl | rfl<;>exact ⟨_,rfl,by kernel_rfl,by decide,by decide⟩
  refine Wv.W2 (ah (show (i:Int)<3 by omega)) hix ?_;refine ak (aeE p n (by omega) (by omega) hn2 hodd) rfl Wv.c Wv.c ?_;cases hs:SP p n with
  | true=>
   refine Wv.W ?_;refine au (i+1) ⟨by omega,fun q hq=>?_⟩ (by omega) rfl Wv.V2;rw [List.take_add_one,hp] at hq;rcases List.mem_append.1 hq with q1 | q1
   ·exact k4 q q1
   ·obtain rfl:q=p:=by simpa using q1
    exact hs
  | false=>
   have hF:ay n=false:=by
    rcases (show i=0∨i=1∨i=2 by omega) with rfl | rfl | rfl
    ·obtain rfl:2=p:=by simpa using hp
     rw [hM,hs];rfl
    ·obtain rfl:7=p:=by simpa using hp
     rw [hM,hs];simp
    ·obtain rfl:61=p:=by simpa using hp
     rw [hM,hs];simp
   simp (disch:=first|exact Wv.D|fail) only [Wv.B,simprocAttr,hF]
 obtain rfl:i=3:=by omega
 have hT:ay n=true:=by rw [hM,k4 2 (by simp),k4 7 (by simp),k4 61 (by simp)];rfl
 exact Wv.V2f (aj (show ¬ (((3:Nat):Int)<3) by omega)) hT
theorem Eh (n a b:Nat) (ha:a<4294967296) (hb:b<4294967296) (hn:1≤n) (hn2:n<4294967296):TC Tryz.prog 222 [.v (.int .u32 a), .v (.int .u32 b), .v (.int .u32 n)] (.v (.int .u32 (a*b % n:Nat))):=by
 obtain ⟨e1,e2,e3,e4⟩:=lG ha hb hn;generalize a*b % n=z at*;generalize a*b=y at*;refine Wv.TC.by 16 [0,1,2,6] [] [.tmp 6] Tryz.func222 rfl rfl rfl ?clo ?_
 case clo=>simp only [Wv.BC]
 exact Wv.V2f e1 e3
theorem aiN (a e n:Nat) (ha:a<4294967296) (he:e<18446744073709551616) (hn:2≤n) (hn2:n<4294967296):TC Tryz.prog 221 [.v (.int .u32 a), .v (.int .u64 e), .v (.int .u32 n)] (.v (.int .u32 (uT a e n))):=by
 refine Wv.TC.by 24 [1,9,12,7,0,2,6] [] [.tmp 6] Tryz.func221 rfl rfl rfl ?clo ?_
 case clo=>simp only [Wv.BC]
 refine Wv.W ?_;refine aQ (σ:=Nat × Nat × Nat) (fun q=>[(0, .v (.int .u32 q.1)),(1, .v (.int .u64 q.2.1)),(2, .v (.int .u32 n)),(7, .v (.int .u32 q.2.2))])
  (fun _=>[]) (fun q=>q.1<4294967296∧q.2.1≤e∧q.2.2<n∧q.2.2*q.1 ^ q.2.1 % n=uT a e n) (fun q=>q.2.1) (a,e,1) ⟨ha,Nat.le_refl _,by simp only;omega,by simp only [Nat.one_mul];rfl⟩ rfl Wv.V ?_
 rintro ⟨a',e',o⟩ ⟨h1,h2,h3,h4⟩;simp only at h1 h2 h3 h4 ⊢;by_cases h0:0<e'
 ·have es:(e':Int).tdiv 2=((e' / 2:Nat):Int):=by rw [Int.tdiv_eq_ediv_of_nonneg (by omega)];omega
  have er:(e':Int).tmod 2=((e' % 2:Nat):Int):=fV e' 2;have d0:=ah (show (e':Int)>0 by omega);obtain ⟨-, -, -,m1⟩:=lG (n:=n) h1 h1 (by omega);have P2:=Eh n a' a' h1 h1 (by omega) hn2;by_cases h5:e' % 2=1
  ·obtain ⟨-, -, -,m2⟩:=lG (n:=n) (show o<4294967296 by omega) h1 (by omega);have hst:=xw n o a' e' h5;refine Wv.W3 d0 er (ah (show ((e' % 2:Nat):Int)=1 by omega)) ?_;refine ak (Eh n o a' (by omega) h1 (by omega) hn2) rfl Wv.c Wv.c ?_;refine Wv.W ?_;refine ak P2 rfl Wv.c Wv.c ?_;refine Wv.W1 es ?_;refine au (a'*a' % n,e' / 2,o*a' % n) ⟨by simp only;omega,by simp only;omega,m2,hst.symm.trans h4⟩ (by simp only;omega) rfl Wv.V
  ·have hst:=uF n o a' e' (by omega);refine Wv.W3 d0 er (aj (show ¬ ((e' % 2:Nat):Int)=1 by omega)) ?_;refine ak P2 rfl Wv.c Wv.c ?_;refine Wv.W1 es ?_;refine au (a'*a' % n,e' / 2,o) ⟨by simp only;omega,by simp only;omega,h3,hst.symm.trans h4⟩ (by simp only;omega) rfl Wv.V
 ·obtain rfl:e'=0:=by omega
  rw [Nat.pow_zero,Nat.mul_one,Nat.mod_eq_of_lt h3] at h4;exact Wv.V2f (aj (show ¬ ((0:Nat):Int)>0 by omega)) h4
end
section
open Go.RowKit Wv
theorem UU (a n:Nat) (ha:a<4294967296) (hn:3≤n) (hn2:n<4294967296) (hodd:n % 2=1):TC Tryz.prog 190 [.v (.int .u32 a), .v (.int .u32 n)] (.v (.bool (SP a n))):=by
 have hmd:a % n<n:=Nat.mod_lt _ (by omega);have e1:(n:Int) - 1=((n - 1:Nat):Int):=by omega
 refine Wv.TC.by 37 [1,5,11,0,6,22,26,32,4] [] [.tmp 4] Tryz.func190 rfl rfl rfl ?clo ?_
 case clo=>simp only [Wv.BC]
 refine Wv.W1 e1 ?_;refine aQ (σ:=Nat × Nat) (fun q=>[(0, .v (.int .u32 a)),(1, .v (.int .u32 n)),(5, .v (.int .u32 q.1))])
  (fun _=>[]) (fun q=>0<q.1∧q.1<4294967296∧q.2<32∧q.1*2 ^ q.2=n - 1) (fun q=>q.1) (n - 1,0) ⟨by simp only;omega,by simp only;omega,by simp only;omega,by simp only;omega⟩ rfl Wv.V ?_
 rintro ⟨d,t⟩ ⟨h1,h2,h3,h4⟩;simp only at h1 h2 h3 h4 ⊢;have er:(d:Int).tmod 2=((d % 2:Nat):Int):=fV d 2;by_cases hev:d % 2=0
 ·have hI2:=Ef hev h4;have ht2:t+1<32:=Di (m:=n - 1) (by omega) (by omega) hI2;have es:(d:Int).tdiv 2=((d / 2:Nat):Int):=by rw [Int.tdiv_eq_ediv_of_nonneg (by omega)];omega
  refine Wv.W2 er (ah (show ((d % 2:Nat):Int)=0 by omega)) ?_;refine au (d / 2,t+1) ⟨by simp only;omega,by simp only;omega,ht2,hI2⟩ (by simp only;omega) rfl (Wv.V1 es)
 refine Wv.W3 er (aj (show ¬ ((d % 2:Nat):Int)=0 by omega)) @fV ?_;refine ak (aiN (a % n) d n (by omega) (by omega) (by omega) hn2) rfl Wv.c Wv.c ?_;have hS:=afn (a:=a) (n:=n) (x:=uT (a % n) d n) h3 (by omega) h4 rfl;have hlt:uT (a % n) d n<n:=Nat.mod_lt _ (by omega);generalize uT (a % n) d n=x0 at*;have ht1:1≤t:=by
  cases t with
  | zero=>simp at h4;omega
  | succ t=>omega
 by_cases c1:x0=1
 ·subst c1;simp (disch:=first|exact Wv.D|fail) only [Wv.B,simprocAttr,hS,BEq.rfl,Bool.true_or]
 rw [show (x0==1)=false by simp [c1],Bool.false_or] at hS;refine Wv.W1 (aj (show ¬ ((x0:Nat):Int)=1 by omega)) ?_;refine aQ (σ:=Nat × Nat × Nat) (fun q=>[(1, .v (.int .u32 n)),(5, .v (.int .u32 q.1)),(6, .v (.int .u32 q.2.1))])
  (fun _=>[]) (fun q=>0<q.1∧q.1≤n - 1∧q.2.1<n∧q.1*2 ^ q.2.2=n - 1∧SP a n=lq n q.2.1 q.2.2) (fun q=>n - q.1) (d,x0,t) ⟨h1,by simp only;have:=qm ht1 h4;omega,hlt,h4,hS⟩ rfl Wv.V ?_
 rintro ⟨d',x,k⟩ ⟨k1,k2,k3,k4,k5⟩;simp only at k1 k2 k3 k4 k5 ⊢;by_cases hlt2:d'<n - 1
 ·obtain ⟨s,rfl⟩: ∃ s,k=s+1:=by
   cases k with
   | zero=>simp at k4;omega
   | succ k=>exact ⟨k,rfl⟩
  have hdb:=qm (by omega) k4;by_cases c3:x=n - 1
  ·rw [yc c3] at k5;exact Wv.V4 e1 (ah (show (d':Int)<((n - 1:Nat):Int) by omega)) (ah (show (x:Int)=((n - 1:Nat):Int) by omega)) k5
  ·rw [uU c3] at k5;obtain ⟨-, -, -,m1⟩:=lG (n:=n) (show x<4294967296 by omega) (show x<4294967296 by omega) (by omega);have e2:(d':Int)*2=((d'*2:Nat):Int):=by omega
   refine Wv.W3 e1 (ah (show (d':Int)<((n - 1:Nat):Int) by omega)) (aj (show ¬ (x:Int)=((n - 1:Nat):Int) by omega)) ?_;refine ak (Eh n x x (by omega) (by omega) (by omega) hn2) rfl Wv.c Wv.c ?_;refine Wv.W ?_;refine au (d'*2,x*x % n,s) ⟨by simp only;omega,by simp only;omega,m1,UR k4,k5⟩ (by simp only;omega) rfl (Wv.V1 e2)
 ·have hk0:k=0:=by
   cases k with
   | zero=>rfl
   | succ k=>have:=qm (by omega) k4;omega
  rw [hk0] at k5;simp (disch:=first|exact Wv.D|fail) only [Wv.B,simprocAttr,e1,aj (show ¬ (d':Int)<((n - 1:Nat):Int) by omega),k5,lq]
theorem L9 (n:Nat) (hn2:n<4294967296):TC Tryz.prog 118 [.v (.int .u32 n)] (.v (.bool (aH n))):=by
 refine Wv.TC.by 42 [0,12,2] [] [.tmp 2] Tryz.func118 rfl rfl rfl ?clo ?_
 case clo=>simp only [Wv.BC]
 by_cases h2:n=2
 ·have hR:aH n=true:=by unfold aH;rw [h2];rfl
  exact Wv.V2f (ah (show (n:Int)=2 by omega)) hR
 by_cases h7:n=7
 ·have hR:aH n=true:=by unfold aH;rw [h7];rfl
  exact Wv.V3 (aj (show ¬ (n:Int)=2 by omega)) (ah (show (n:Int)=7 by omega)) hR
 by_cases h61:n=61
 ·have hR:aH n=true:=by unfold aH;rw [h61];rfl
  exact Wv.V4 (aj (show ¬ (n:Int)=2 by omega)) (aj (show ¬ (n:Int)=7 by omega)) (ah (show (n:Int)=61 by omega)) hR
 have hR:aH n=(decide (2<n) && decide (n % 2=1) && decide (0<n % 7) && decide (0<n % 61) && SP 2 n && SP 7 n && SP 61 n):=by
  unfold aH;rw [beq_eq_false_iff_ne.2 h2,beq_eq_false_iff_ne.2 h7,beq_eq_false_iff_ne.2 h61];rfl
 have r2:(n:Int).tmod 2=((n % 2:Nat):Int):=fV n 2;have r7:(n:Int).tmod 7=((n % 7:Nat):Int):=fV n 7;have r61:(n:Int).tmod 61=((n % 61:Nat):Int):=fV n 61;refine Wv.W3 (aj (show ¬ (n:Int)=2 by omega)) (aj (show ¬ (n:Int)=7 by omega)) (aj (show ¬ (n:Int)=61 by omega)) ?_;by_cases c1:2<n
 case neg=>
  rw [aj c1] at hR;exact Wv.V3 (aj (show ¬ (n:Int)>2 by omega)) hR @Bool.false_and
 by_cases c2:n % 2=1
 case neg=>
  rw [aj c2,Bool.and_false] at hR;exact Wv.V5 (ah (show (n:Int)>2 by omega)) r2 (aj (show ¬ ((n % 2:Nat):Int)=1 by omega)) hR @Bool.false_and
 by_cases c3:0<n % 7
 case neg=>
  rw [aj c3,Bool.and_false] at hR;simp (disch:=first|exact Wv.D|fail) only [Wv.B,simprocAttr,ah (show (n:Int)>2 by omega),r2,r7,ah (show ((n % 2:Nat):Int)=1 by omega),aj (show ¬ ((n % 7:Nat):Int)>0 by omega),hR,Bool.false_and]
 by_cases c4:0<n % 61
 case neg=>
  rw [aj c4,Bool.and_false] at hR;simp (disch:=first|exact Wv.D|fail) only [Wv.B,simprocAttr,ah (show (n:Int)>2 by omega),r2,r7,r61,ah (show ((n % 2:Nat):Int)=1 by omega),ah (show ((n % 7:Nat):Int)>0 by omega),aj (show ¬ ((n % 61:Nat):Int)>0 by omega),hR,Bool.false_and]
 rw [ah c1,ah c2,ah c3,ah c4] at hR;have S:=fun a (h:a<4294967296)=>UU a n h (by omega) hn2 c2
 simp (disch:=first|exact Wv.D|fail) only [Wv.B,simprocAttr,ah (show (n:Int)>2 by omega),r2,r7,r61,ah (show ((n % 2:Nat):Int)=1 by omega),ah (show ((n % 7:Nat):Int)>0 by omega),ah (show ((n % 61:Nat):Int)>0 by omega)];refine ak (S 2 (by omega)) rfl Wv.c Wv.c ?_;cases s2:SP 2 n with
 | false=>
  rw [s2] at hR;simp (disch:=first|exact Wv.D|fail) only [Wv.B,simprocAttr,hR,Bool.false_and,Bool.and_false]
 | true=>
 refine Wv.W ?_;refine ak (S 7 (by omega)) rfl Wv.c Wv.c ?_;cases s7:SP 7 n with
 | false=>
  rw [s7] at hR;simp (disch:=first|exact Wv.D|fail) only [Wv.B,simprocAttr,hR,Bool.false_and,Bool.and_false]
 | true=>
 refine Wv.W ?_;refine ak (S 61 (by omega)) rfl Wv.c Wv.c ?_;rw [s2,s7] at hR;exact Wv.V3 hR @Bool.true_and @Bool.and_true
end
section
open Go.RowKit Wv
theorem alV (k:Nat) (h:k<29):(IntKind.i64.wrap ((BitVec.ofInt IntKind.i64.bits ((k+4:Nat):Int) &&& BitVec.ofInt IntKind.i64.bits ((k+3:Nat):Int)).toNat)==0)=jo ((k+4:Nat):Int):=
 (by decide: ∀ k:Nat,k<29→(IntKind.i64.wrap ((BitVec.ofInt IntKind.i64.bits ((k+4:Nat):Int) &&& BitVec.ofInt IntKind.i64.bits ((k+3:Nat):Int)).toNat)==0)=jo ((k+4:Nat):Int)) k h
theorem aiO (n:Int) (h0: -9223372036854775808≤n) (h1:n≤9223372036854775807):TC Tryz.prog 137 [.v (.int .i64 n)] (.v (.bool (jo n))):=by
 refine Wv.TC.by 16 [0,2] [] [.tmp 2] Tryz.func137 rfl rfl rfl ?clo ?_
 case clo=>simp only [Wv.BC]
 by_cases h4:n≥4
 ·by_cases h32:n≤32
  ·obtain ⟨k,rfl⟩: ∃ k:Nat,n=((k+4:Nat):Int):=⟨n.toNat - 4,by omega⟩
   have e:((k+4:Nat):Int) - 1=((k+3:Nat):Int):=by omega
   have hb:=alV k (by omega);rw [←hb];refine Wv.W3 (ah h4) (ah h32) e ?_;rfl
  ·have hd:jo n=false:=by unfold jo;simp;omega
   exact Wv.V3 (ah h4) (aj h32) hd
 ·have hd:jo n=false:=by unfold jo;simp;omega
  exact Wv.V2f (aj h4) hd
theorem aiP (n:Int) (h0: -9223372036854775808≤n) (h1:n≤9223372036854775807):TC Tryz.prog 73 [.v (.int .i64 n)] (.v (.bool (jo n))):=by
 refine Wv.TC.by 17 [0,2] [] [.tmp 2] Tryz.func73 rfl rfl rfl ?clo ?_
 case clo=>simp only [Wv.BC]
 by_cases h4:n=4
 ·subst h4;refine Wv.W ?_;rfl
 by_cases h8:n=8
 ·subst h8;refine Wv.W ?_;rfl
 by_cases h16:n=16
 ·subst h16;refine Wv.W ?_;rfl
 by_cases h32:n=32
 ·subst h32;refine Wv.W ?_;rfl
 have hd:jo n=false:=by unfold jo;simp;omega
 exact Wv.V5 (aj h4) (aj h8) (aj h16) (aj h32) hd
theorem Mc (n:Int) (p:Nat) (e:Int) (hn4:4≤n) (hn:n≤32) (hp:p<4294967296) (he0: -9223372036854775808≤e) (he1:e≤9223372036854775807):TC Tryz.prog 101 [.v (.int .i64 n), .v (.int .u32 p), .v (.int .i64 e)] (.v (.int .i64 (iL ay n p e:Nat))):=by
 have er:(p:Int).tmod (2*n)=((p % (2*n).toNat:Nat):Int):=by rw [show 2*n=(((2*n).toNat:Nat):Int) by omega];exact fV p _
 refine Wv.TC.by 42 [1,0,2,30,32,31,33,7,39,6] [] [.tmp 6] Tryz.func101 rfl rfl rfl ?clo ?_
 case clo=>simp only [Wv.BC]
 by_cases c1:p<3
 ·have hR:iL ay n p e=0:=jy (by omega);exact Wv.V3 (ah (show (p:Int)<3 by omega)) hR @Int.natCast_zero
 have d1:=aj (show ¬ (p:Int)<3 by omega);by_cases c2:p<65536
 case neg=>
  have hR:iL ay n p e=0:=jy (by omega);exact Wv.V4 d1 (ah (show (p:Int)≥65536 by omega)) hR @Int.natCast_zero
 refine Wv.W2 d1 (aj (show ¬ (p:Int)≥65536 by omega)) ?_;refine ak (L8 p hp) rfl Wv.c Wv.c ?_;cases c3:ay p with
 | false=>
  have hR:iL ay n p e=0:=jy (by rw [c3];simp);simp (disch:=first|exact Wv.D|fail) only [Wv.B,simprocAttr,hR,Int.natCast_zero]
 | true=>
 by_cases c4:p % (2*n).toNat=1
 case neg=>
  have hR:iL ay n p e=0:=jy (fun q=>c4 q.2.2.2.1);exact Wv.V4 er (aj (show ¬ ((p % (2*n).toNat:Nat):Int)=1 by omega)) hR @Int.natCast_zero
 by_cases c5:e<1
 ·have hR:iL ay n p e=0:=jy (by omega);exact Wv.V5 er (ah (show ((p % (2*n).toNat:Nat):Int)=1 by omega)) (ah c5) hR @Int.natCast_zero
 refine Wv.W3 er (ah (show ((p % (2*n).toNat:Nat):Int)=1 by omega)) (aj c5) ?_;refine aQ (σ:=Nat) (fun i=>[(1, .v (.int .u32 p)),(7, .v (.int .i64 (p ^ i:Nat))),(31, .v (.int .i64 e)),(32, .v (.int .i64 i))]) (fun _=>[]) (fun i=>(i:Int)≤e∧p ^ i≤2147483647) (fun i=>e.toNat - i) 0 ⟨by omega,by simp⟩ rfl (Wv.V1 @Nat.pow_zero) ?_;rintro i ⟨k1,k2⟩;try simp only at k1 k2 ⊢
 by_cases hie:(i:Int)<e
 ·have es:((p ^ i:Nat):Int)*(p:Int)=((p ^ (i+1):Nat):Int):=by rw [Nat.pow_succ,Int.natCast_mul]
  have hb:p ^ (i+1)≤2147483647*65535:=by rw [Nat.pow_succ];exact Nat.mul_le_mul k2 (by omega)
  by_cases hbig:p ^ (i+1)>2147483647
  ·have hR:iL ay n p e=0:=KC (by omega) (k:=i+1) (by omega) hbig;generalize p ^ (i+1)=y at*;generalize p ^ i=z at*;exact Wv.V5 (ah hie) es (ah (show (y:Int)>2147483647 by omega)) hR @Int.natCast_zero
  ·have hv:p ^ (i+1)≤2147483647:=by omega
   have d6:=aj (show ¬ ((p ^ (i+1):Nat):Int)>2147483647 by omega);have hx: ∀ y,y=p ^ (i+1)→p ^ (i+1)=y:=fun y h=>h.symm
   refine Wv.W3 (ah hie) es d6 ?_;refine au (i+1) ⟨by omega,hv⟩ (by omega) rfl Wv.V2
 ·have hR:iL ay n p e=p ^ i:=KD ⟨by omega,by omega,c3,c4,by omega⟩ (by omega) k2;exact Wv.V2f (aj hie) hR
theorem Md (n:Int) (p:Nat) (e:Int) (hn4:4≤n) (hn:n≤32) (hp:p<4294967296) (he0: -9223372036854775808≤e) (he1:e≤9223372036854775807):TC Tryz.prog 74 [.v (.int .i64 n), .v (.int .u32 p), .v (.int .i64 e)] (.v (.int .i64 (iL aH n p e:Nat))):=by
 have er:(p:Int).tmod (2*n)=((p % (2*n).toNat:Nat):Int):=by rw [show 2*n=(((2*n).toNat:Nat):Int) by omega];exact fV p _
 refine Wv.TC.by 44 [1,0,2,31,8,34,7,42,6] [] [.tmp 6] Tryz.func74 rfl rfl rfl ?clo ?_
 case clo=>simp only [Wv.BC]
 by_cases c1:p<3
 ·have hR:iL aH n p e=0:=jy (by omega);exact Wv.V3 (ah (show (p:Int)<3 by omega)) hR @Int.natCast_zero
 have d1:=aj (show ¬ (p:Int)<3 by omega);by_cases c2:p<65536
 case neg=>
  have hR:iL aH n p e=0:=jy (by omega);exact Wv.V4 d1 (ah (show (p:Int)≥65536 by omega)) hR @Int.natCast_zero
 refine Wv.W2 d1 (aj (show ¬ (p:Int)≥65536 by omega)) ?_;refine ak (L9 p hp) rfl Wv.c Wv.c ?_;cases c3:aH p with
 | false=>
  have hR:iL aH n p e=0:=jy (by rw [c3];simp);simp (disch:=first|exact Wv.D|fail) only [Wv.B,simprocAttr,hR,Int.natCast_zero]
 | true=>
 by_cases c4:p % (2*n).toNat=1
 case neg=>
  have hR:iL aH n p e=0:=jy (fun q=>c4 q.2.2.2.1);exact Wv.V4 er (aj (show ¬ ((p % (2*n).toNat:Nat):Int)=1 by omega)) hR @Int.natCast_zero
 by_cases c5:e<1
 ·have hR:iL aH n p e=0:=jy (by omega);exact Wv.V5 er (ah (show ((p % (2*n).toNat:Nat):Int)=1 by omega)) (ah c5) hR @Int.natCast_zero
 refine Wv.W3 er (ah (show ((p % (2*n).toNat:Nat):Int)=1 by omega)) (aj c5) ?_;refine aQ (σ:=Nat) (fun i=>[(1, .v (.int .u32 p)),(2, .v (.int .i64 e)),(7, .v (.int .i64 (p ^ i:Nat))),(8, .v (.int .i64 i))]) (fun _=>[]) (fun i=>(i:Int)≤e∧p ^ i≤2147483647) (fun i=>e.toNat - i) 0 ⟨by omega,by simp⟩ rfl (Wv.V1 @Nat.pow_zero) ?_;rintro i ⟨k1,k2⟩;try simp only at k1 k2 ⊢
 by_cases hie:(i:Int)<e
 ·have es:((p ^ i:Nat):Int)*(p:Int)=((p ^ (i+1):Nat):Int):=by rw [Nat.pow_succ,Int.natCast_mul]
  have hb:p ^ (i+1)≤2147483647*65535:=by rw [Nat.pow_succ];exact Nat.mul_le_mul k2 (by omega)
  by_cases hbig:p ^ (i+1)>2147483647
  ·have hR:iL aH n p e=0:=KC (by omega) (k:=i+1) (by omega) hbig;generalize p ^ (i+1)=y at*;generalize p ^ i=z at*;exact Wv.V5 (ah hie) es (ah (show (y:Int)>2147483647 by omega)) hR @Int.natCast_zero
  ·have hv:p ^ (i+1)≤2147483647:=by omega
   have d6:=aj (show ¬ ((p ^ (i+1):Nat):Int)>2147483647 by omega);have hx: ∀ y,y=p ^ (i+1)→p ^ (i+1)=y:=fun y h=>h.symm
   refine Wv.W3 (ah hie) es d6 ?_;refine au (i+1) ⟨by omega,hv⟩ (by omega) rfl Wv.V2
 ·have hR:iL aH n p e=p ^ i:=KD ⟨by omega,by omega,c3,c4,by omega⟩ (by omega) k2;exact Wv.V2f (aj hie) hR
end
section
open Go.RowKit Wv
def qo (x:Par):List AV:=[.v (.int .i64 x.n), .v (.int .u32 x.p), .v (.int .i64 x.r), .t x.ch.length 1 (tab x.ch.length fun i=> .v (.int .u32 (x.ch[i]! :Nat))), .v (.int .u32 x.sp), .v (.int .i64 x.wt), .v (.int .u32 x.er)]
theorem aiQ (l:List Nat):(l.map fun c:Nat=>AV.v (.int .u32 c))=tab l.length fun i=>AV.v (.int .u32 (l[i]! :Nat)):=by
 refine List.ext_getElem? fun i=>?_
 by_cases h:i<l.length
 ·simp [tab,h]
 ·simp [tab,h]
theorem Jc (x:Par):dN x=qo x:=by unfold dN qo;rw [aiQ]
def Jd:List AV:=[.fn (.func 140) [] [.ptr 1 0], .fn (.func 141) [] [.ptr 0 0], .fn (.func 142) [] [.ptr 0 0], .fn (.func 143) [] [.ptr 3 0, .ptr 0 0], .fn (.func 144) [] [.ptr 0 0, .ptr 3 0], .fn (.func 147) [] [.ptr 0 0]]
def hC (x:Par) (t s:Nat):Hp:=[some (.blk (qo x)),some (.blk [.v (.int .i64 t)]),some (.blk [.v (.int .i64 s)]),some (.blk [.fn (.func 138) [] [.ptr 2 0]]),some (.arr 30 1 Jd 0)]
theorem afz (x:Par) (t s q:Nat) (hq:q<4294967296) (hs0:0<s) (hs1:s≤137438953408):HT Tryz.prog 138 [.v (.int .u32 q), .ptr 2 0] (hC x t s) (fun r h'=>r= .v (.bool (jF ay s q))∧h'=hC x t s):=by
 have er:(q:Int).tmod (s:Int)=((q % s:Nat):Int):=fV q s;have hG:jF ay s q=(decide (1073741824<q) && (decide (q≤2147483647) && (decide (q % s=1) && ay q))):=rfl;unfold hC;refine Wv.HT.by 22 [0,1,3] [(1000000,5)] [.tmp 3] Tryz.func138 rfl rfl rfl ?base ?_
 case base=>rfl
 by_cases c1:1073741824<q
 case neg=>
  rw [aj c1,Bool.false_and] at hG;exact Wv.V2f (aj (show ¬ (q:Int)>1073741824 by omega)) hG
 by_cases c2:q≤2147483647
 case neg=>
  rw [aj c2,Bool.false_and,Bool.and_false] at hG;exact Wv.V3 (ah (show (q:Int)>1073741824 by omega)) (aj (show ¬ (q:Int)≤2147483647 by omega)) hG
 by_cases c3:q % s=1
 case neg=>
  rw [aj c3,Bool.false_and,Bool.and_false,Bool.and_false] at hG;exact Wv.V5 (ah (show (q:Int)>1073741824 by omega)) (ah (show (q:Int)≤2147483647 by omega)) er (aj (show ¬ ((q % s:Nat):Int)=1 by omega)) hG
 rw [ah c1,ah c2,ah c3,Bool.true_and,Bool.true_and,Bool.true_and] at hG;refine Wv.W4 (ah (show (q:Int)>1073741824 by omega)) (ah (show (q:Int)≤2147483647 by omega)) er (ah (show ((q % s:Nat):Int)=1 by omega)) ?_;refine ak (L8 q hq) rfl Wv.c Wv.c ?_;exact Wv.V1 hG
theorem alW (x:Par) (t s:Nat):HT Tryz.prog 140 [.ptr 1 0] (hC x t s) (fun r h'=>r= .v (.bool (decide (0<t)))∧h'=hC x t s):=by
 have e:decide (0<t)=decide (0<(t:Int)):=decide_eq_decide.2 ⟨fun h=>by omega,fun h=>by omega⟩;unfold hC;refine Wv.HT.by 4 [0,1] [(1000000,5)] [.tmp 1] Tryz.func140 rfl rfl rfl ?base ?_
 case base=>rfl
 exact Wv.V1 e
theorem alX (x:Par) (t s:Nat):HT Tryz.prog 141 [.ptr 0 0] (hC x t s) (fun r h'=>r= .v (.bool (qc x.ch.length))∧h'=hC x t s):=by
 have e:qc x.ch.length=decide (1≤x.ch.length∧x.ch.length≤24):=rfl;unfold hC qo;generalize x.ch.length=m at*;refine Wv.HT.by 12 [0,1] [(1000000,5)] [.tmp 1] Tryz.func141 rfl rfl rfl ?base ?_
 case base=>rfl
 by_cases h1:1≤m
 ·have e2:qc m=decide ((m:Int)≤24):=by rw [e];exact decide_eq_decide.2 ⟨fun h=>by omega,fun h=>by omega⟩
  exact Wv.V2f (ah (show (m:Int)≥1 by omega)) e2
 ·have e2:qc m=false:=by rw [e];exact aj (by omega)
  exact Wv.V2f (aj (show ¬ (m:Int)≥1 by omega)) e2
theorem alY (x:Par) (t s:Nat):HT Tryz.prog 142 [.ptr 0 0] (hC x t s) (fun r h'=>r= .v (.bool (wtB x))∧h'=hC x t s):=by
 have e:wtB x=decide (1≤x.wt∧x.wt≤x.n∧x.er≤64):=rfl;unfold hC qo;refine Wv.HT.by 17 [0,1] [(1000000,5)] [.tmp 1] Tryz.func142 rfl rfl rfl ?base ?_
 case base=>rfl
 by_cases h1:x.wt≥1
 ·by_cases h2:x.wt≤x.n
  ·have e2:wtB x=decide ((x.er:Int)≤64):=by rw [e];exact decide_eq_decide.2 ⟨fun h=>by omega,fun h=>by omega⟩
   exact Wv.V3 (ah h1) (ah h2) e2
  ·have e2:wtB x=false:=by rw [e];exact aj (by omega)
   exact Wv.V3 (ah h1) (aj h2) e2
 ·have e2:wtB x=false:=by rw [e];exact aj (by omega)
  exact Wv.V2f (aj h1) e2
theorem alZ (x:Par) (t s:Nat) (hq:x.sp<4294967296) (hs0:0<s) (hs1:s≤137438953408):HT Tryz.prog 143 [.ptr 3 0, .ptr 0 0] (hC x t s) (fun r h'=>r= .v (.bool (jF ay s x.sp))∧h'=hC x t s):=by
 have H:=afz x t s x.sp hq hs0 hs1;unfold hC qo at*;refine Wv.HT.by 7 [0,1,2] [(1000000,5)] [.tmp 2] Tryz.func143 rfl rfl rfl ?base ?_
 case base=>rfl
 refine Wv.W ?_;refine aB (fst:=[]) (cap:=[.ptr 2 0]) H ?_;rintro av h' ⟨rfl,rfl⟩;exact Wv.V
theorem aiR (x:Par) (t s q:Nat) (hq:q<4294967296) (hs0:0<s) (hs1:s≤137438953408):HT Tryz.prog 146 [.v (.int .u32 q), .ptr 0 0, .ptr 3 0] (hC x t s) (fun r h'=>r= .v (.bool (nD ay s x.sp q))∧h'=hC x t s):=by
 have H:=afz x t s q hq hs0 hs1;have hB:nD ay s x.sp q=!(decide (q<x.sp) && jF ay s q):=rfl;unfold hC qo at*;refine Wv.HT.by 15 [0,1,2,4] [(1000000,5)] [.tmp 4] Tryz.func146 rfl rfl rfl ?base ?_
 case base=>rfl
 by_cases h1:q<x.sp
 ·rw [ah h1,Bool.true_and] at hB;refine Wv.W1 (aj (show ¬ (q:Int)≥x.sp by omega)) ?_;refine aB (fst:=[]) (cap:=[.ptr 2 0]) H ?_;rintro av h' ⟨rfl,rfl⟩;exact Wv.V1 hB
 ·rw [aj h1,Bool.false_and,Bool.not_false] at hB;exact Wv.V2f (ah (show (q:Int)≥x.sp by omega)) hB
end
section
open Go.RowKit Wv
def Me (l:List Nat):AV:= .t l.length 1 (tab l.length fun i=> .v (.int .u32 (l[i]! :Nat)))
theorem Z4 {p:Nat→Bool} {l:List Nat} {i:Nat} (hi:i<l.length) (h:(l.take i).any p=false) (hp:p l[i]! =false):(l.take (i+1)).any p=false:=by
 rw [List.take_succ_eq_append_getElem hi,List.any_append,h,Bool.false_or];rw [getElem!_pos l i hi] at hp;simp [hp]
theorem Z5 {p:Nat→Bool} {l:List Nat} {i:Nat} (hi:i<l.length) (hp:p l[i]! =true):l.any p=true:=by
 rw [getElem!_pos l i hi] at hp;exact List.any_eq_true.2 ⟨_,List.getElem_mem hi,hp⟩
def aiS (x:Par) (s:Nat) (r:AV):Prop:= ∃ z:Int,r= .v (.int .i64 z)∧ -1≤z∧z≤140737488351232∧decide (z≥0)=x.ch.any (nD ay s x.sp)
theorem aiT (x:Par) (t s:Nat) (hl:x.ch.length≤140737488351232) (lH: ∀ q,q∈x.ch→q<4294967296) (hs0:0<s) (hs1:s≤137438953408):HT Tryz.prog 206 [Me x.ch, .fn (.func 146) [] [.ptr 0 0, .ptr 3 0]] (hC x t s) (fun r h'=>aiS x s r∧h'=hC x t s):=by
 have K:=fun q hq=>aiR x t s q hq hs0 hs1
 have e5:hC x t s=[some (.blk (qo x)),some (.blk [.v (.int .i64 t)]),some (.blk [.v (.int .i64 s)]),some (.blk [.fn (.func 138) [] [.ptr 2 0]]),some (.arr 30 1 Jd 0)]:=rfl;unfold Me;rw [e5];refine Wv.HT.by 19 [0,8,7,9,1,5,16,4] [(1000000,5)] [.tmp 4] Tryz.func206 rfl rfl rfl ?base ?_
 case base=>rfl
 refine Wv.W ?_;refine aQ (σ:=Nat) (fun i=>[(0, .t x.ch.length 1 (tab x.ch.length fun i=> .v (.int .u32 (x.ch[i]! :Nat)))),(1, .fn (.func 146) [] [.ptr 0 0, .ptr 3 0]),(7, .v (.int .i64 x.ch.length)),(8, .v (.int .i64 i))])
  (fun _=>hC x t s) (fun i=>i≤x.ch.length∧(x.ch.take i).any (nD ay s x.sp)=false) (fun i=>x.ch.length - i) 0 ⟨Nat.zero_le _,by simp⟩ rfl Wv.V ?_
 rintro i ⟨h1,h2⟩;try simp only at h1 h2 ⊢
 by_cases hi:i<x.ch.length
 ·have hq:x.ch[i]! <4294967296:=by rw [getElem!_pos x.ch i hi];exact lH _ (List.getElem_mem hi)
  have H:=K _ hq;rw [e5] at H;refine Wv.W2 (ah (show (i:Int)<x.ch.length by omega)) e5 ?_;refine aB (fst:=[]) (cap:=[.ptr 0 0, .ptr 3 0]) H ?_;rintro av h' ⟨rfl,rfl⟩;cases hb:nD ay s x.sp x.ch[i]! with
  | true=>
   have hR:aiS x s (.v (.int .i64 i)):=⟨i,rfl,by omega,by omega,by rw [Z5 hi hb];exact ah (by omega)⟩
   refine Wv.W1 e5 ?_;exact hR
  | false=>
   refine Wv.W ?_;refine au (i+1) ⟨by omega,Z4 hi h2 hb⟩ (by omega) rfl Wv.V2
 ·have hF:x.ch.any (nD ay s x.sp)=false:=by rw [List.take_of_length_le (by omega)] at h2;exact h2
  have hR:aiS x s (.v (.int .i64 (-1))):=⟨-1,rfl,by omega,by omega,by rw [hF];exact aj (by omega)⟩
  refine Wv.W2 (aj (show ¬ (i:Int)<x.ch.length by omega)) e5 ?_;exact hR
theorem aeF (x:Par) (t s:Nat) (hl:x.ch.length≤140737488351232) (lH: ∀ q,q∈x.ch→q<4294967296) (hs0:0<s) (hs1:s≤137438953408):HT Tryz.prog 145 [Me x.ch, .fn (.func 146) [] [.ptr 0 0, .ptr 3 0]] (hC x t s) (fun r h'=>r= .v (.bool (x.ch.any (nD ay s x.sp)))∧h'=hC x t s):=by
 have H:=aiT x t s hl lH hs0 hs1;unfold Me hC at*;refine Wv.HT.by 9 [0,1,4] [(1000000,5)] [.tmp 4] Tryz.func145 rfl rfl rfl ?base ?_
 case base=>rfl
 refine Wv.W ?_;refine aB (fst:=[]) (cap:=[]) H ?_;rintro av h' ⟨⟨z,rfl,z1,z2,z3⟩,rfl⟩;exact Wv.V1 z3
theorem al0 (x:Par) (t s:Nat) (hl:x.ch.length≤140737488351232) (lH: ∀ q,q∈x.ch→q<4294967296) (hs0:0<s) (hs1:s≤137438953408):HT Tryz.prog 144 [.ptr 0 0, .ptr 3 0] (hC x t s) (fun r h'=>r= .v (.bool (!(x.ch.any (nD ay s x.sp))))∧h'=hC x t s):=by
 have H:=aeF x t s hl lH hs0 hs1;unfold Me hC qo at*;refine Wv.HT.by 8 [0,1,2] [(1000000,5)] [.tmp 2] Tryz.func144 rfl rfl rfl ?base ?_
 case base=>rfl
 refine Wv.W ?_;refine aB (fst:=[]) (cap:=[]) H ?_;rintro av h' ⟨rfl,rfl⟩;exact Wv.V
theorem Z7 (x:Par) (t s:Nat) (hl:x.ch.length≤24) (h1:1≤x.ch.length):HT Tryz.prog 148 [Me x.ch] (hC x t s) (fun r h'=>r= .own 5 x.ch.length∧h'=hC x t s++[some (.arr 22 1 (tab x.ch.length fun i=> .v (.int .u32 (x.ch[i]! :Nat))) 0)]):=by
 obtain ⟨m,hm⟩: ∃ m,x.ch.length=m+1:=⟨x.ch.length - 1,by omega⟩
 have hn: ∀ h,zx h (.t x.ch.length 1 (tab x.ch.length fun i=> .v (.int .u32 (x.ch[i]! :Nat))))=some false:=fun h=>by rw [hm];rfl
 unfold Me hC;refine Wv.HT.byO 8 [0,4,2] [(1000000,5)] [.tmp 2] Tryz.func148 rfl rfl rfl ?base ?_
 case base=>rfl
 simp (disch:=first|exact Wv.D|fail) only [Wv.B,simprocAttr,hn,wV,wU,List.cons_append,List.nil_append]
end
end Go.Proofs.YtljfgdlgmdcmfaaGreat
