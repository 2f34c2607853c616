/- Parts of a proof. -/
import Derived.Test.YtljfgdlgmdcmfaaGreatQto
import Derived.Test.YtljfgdlgmdcmfaaGreatQtn
import Derived.Test.YtljfgdlgmdcmfaaGreatQtf
import Derived.Test.YtljfgdlgmdcmfaaGreatQtj
import Derived.Test.YtljfgdlgmdcmfaaGreatQtg
set_option linter.unusedVariables false
set_option linter.unusedSimpArgs false
set_option maxHeartbeats 3200000
set_option maxRecDepth 100000
namespace Go.Proofs.YtljfgdlgmdcmfaaGreat
section
open Go.RowKit
theorem VF (x:Par) (k:Int):qK aj x k=qK ay x k:=by unfold qK;rw [ahQ]
theorem XD (x:Par) (k:Int):dR aj x k=dR ay x k:=by unfold dR;rw [VF]
theorem XE (x:Par) (k:Int):dN aj x k=dN ay x k:=by unfold dN;rw [VF,VE]
theorem acj (x:Par) (cv:Value) (k:Int) (w:World) (hx:o8 x) (hcv:SliceAt w cv x.ch):
  Calls Tryz.prog 36 #[x.val cv, .int .i64 k] w fun r w'=>r= .returned (.tuple #[.int .i64 (dN ay x k:Nat), .int .i64 (dR ay x k)])∧Below w.heap.size w w':=by
 have hB:Hid (um (w.alloc (.cells #[.int .i64 x.n, .int .u32 x.p, .int .i64 x.r,cv, .int .u32 x.sp, .int .i64 x.wt, .int .u32 x.er] 25)) w.heap.size x cv):=by constructor<;>simp [go_sem]
 have hbW:Hid (Below w.heap.size w (w.alloc (.cells #[.int .i64 x.n, .int .u32 x.p, .int .i64 x.r,cv, .int .u32 x.sp, .int .i64 x.wt, .int .u32 x.er] 25))):=(Below.refl _ _).alloc (Nat.le_refl _) _
 have HS:Hid (SliceAt (w.alloc (.cells #[.int .i64 x.n, .int .u32 x.p, .int .i64 x.r,cv, .int .u32 x.sp, .int .i64 x.wt, .int .u32 x.er] 25)) cv x.ch):=hcv.below hbW.out
 have hlt:w.heap.size<(w.alloc (.cells #[.int .i64 x.n, .int .u32 x.p, .int .i64 x.r,cv, .int .u32 x.sp, .int .i64 x.wt, .int .u32 x.er] 25)).heap.size:=by simp
 unfold Par.val
 cases hok:okB ay x with
 | false=>
  have HC:Hid (chk ay x=2):=UQ hok
  have HR:Hid (dR ay x k=2∧dN ay x k=0):=xY (by unfold qK;rw [hok];rfl)
  clear hok
  go_enter Tryz.func36,Tryz.ntmps36
  go_wp2_with fail
  refine (oW x cv _ hx HS.out).mono ?_
  rintro e w1 ⟨rfl,hb1⟩
  have y0:=(hB.out.below hb1 hlt).n;have y1:=(hB.out.below hb1 hlt).p;have y2:=(hB.out.below hb1 hlt).r
  have HB1:=Lib.hid (kS hb1 hbW.out (by simp))
  clear hb1
  rw [HC.out]
  go_wp2_with fail
  go_ret2
  exact ⟨by rw [HR.out.1,HR.out.2];rfl,HB1.out⟩
 | true=>
  have hd:=Ii hok
  have hn4:=hd.1;have hn32:=hd.2
  have HC:Hid (chk ay x=0):=aaC hok
  clear hd
  by_cases h1:k<1
  ·have HR:Hid (dR ay x k=2∧dN ay x k=0):=xY (by unfold qK;rw [decide_eq_false (show ¬ 1≤k by omega)];simp)
   have d1:decide (k<1)=true:=decide_eq_true h1
   clear hok
   go_enter Tryz.func36,Tryz.ntmps36
   go_wp2_with fail
   refine (oW x cv _ hx HS.out).mono ?_
   rintro e w1 ⟨rfl,hb1⟩
   have y0:=(hB.out.below hb1 hlt).n;have y1:=(hB.out.below hb1 hlt).p;have y2:=(hB.out.below hb1 hlt).r
   have HB1:=Lib.hid (kS hb1 hbW.out (by simp))
   clear hb1
   rw [HC.out]
   go_wp2_with fail
   go_ret2
   exact ⟨by rw [HR.out.1,HR.out.2];rfl,HB1.out⟩
  ·by_cases h2:x.r<k
   ·have HR:Hid (dR ay x k=2∧dN ay x k=0):=xY (by unfold qK;rw [decide_eq_false (show ¬ k≤x.r by omega)];simp)
    have d1:decide (k<1)=false:=decide_eq_false h1
    have d2:decide (x.r<k)=true:=decide_eq_true h2
    clear hok
    go_enter Tryz.func36,Tryz.ntmps36
    go_wp2_with fail
    refine (oW x cv _ hx HS.out).mono ?_
    rintro e w1 ⟨rfl,hb1⟩
    have y0:=(hB.out.below hb1 hlt).n;have y1:=(hB.out.below hb1 hlt).p;have y2:=(hB.out.below hb1 hlt).r
    have HB1:=Lib.hid (kS hb1 hbW.out (by simp))
    clear hb1
    rw [HC.out]
    go_wp2_with fail
    go_ret2
    exact ⟨by rw [HR.out.1,HR.out.2];rfl,HB1.out⟩
   ·have HR:Hid (dR ay x k=0∧dN ay x k=gQ ay x.n x.p k):=Ij (by unfold qK;rw [hok,decide_eq_true (show 1≤k by omega),decide_eq_true (show k≤x.r by omega)];rfl)
    have d1:decide (k<1)=false:=decide_eq_false h1
    have d2:decide (x.r<k)=false:=decide_eq_false h2
    have hr1:=hx.r1
    have hp1:=hx.p1
    clear hok
    go_enter Tryz.func36,Tryz.ntmps36
    go_wp2_with fail
    refine (oW x cv _ hx HS.out).mono ?_
    rintro e w1 ⟨rfl,hb1⟩
    have y0:=(hB.out.below hb1 hlt).n;have y1:=(hB.out.below hb1 hlt).p;have y2:=(hB.out.below hb1 hlt).r
    have HB1:=Lib.hid (kS hb1 hbW.out (by simp))
    clear hb1
    rw [HC.out]
    go_wp2_with fail
    refine (CB _ _ _ _ hn4 hn32 hp1 (by omega) (by omega)).mono ?_
    rintro e w2 ⟨rfl,rfl⟩
    go_wp2_with fail
    go_ret2
    exact ⟨by rw [HR.out.1,HR.out.2];rfl,HB1.out⟩
end
section
open Go.RowKit Wv
theorem Oe (x:Par) (k:Int) (hx:o8 x) (hlen:x.ch.length≤140737488351232) (zk: ∀ q,q∈x.ch→q<4294967296):TC Tryz.prog 36 [.g (fU x), .v (.int .i64 k)] (.tup [.v (.int .i64 (dN aj x k:Nat)), .v (.int .i64 (dR aj x k))]):=by
 rw [XE,XD]
 refine ⟨by kernel_rfl,fun X vs hX hbad hr=>?_⟩
 obtain ⟨h1,h2⟩:=hr
 match vs,h1 with
 | [v0,v1],_=>
  obtain ⟨cv,rfl,hs⟩:=Vx hlen zk (h2 0 _ v0 rfl rfl)
  have e1:=nU (h2 1 _ v1 rfl rfl)
  subst e1
  refine (acj x cv k X.w hx hs).mono ?_
  rintro e w' ⟨rfl,hb⟩
  refine ⟨_,rfl,hb,fun m=>?_⟩
  exact .tup (cvs:=[_,_]) rfl (fun i a y q1 q2=>by
   match i with
   | 0=>simp at q1 q2;subst q1 q2;exact .v _
   | 1=>simp at q1 q2;subst q1 q2;exact .v _
   | i+2=>simp at q1)
end
section
open Go.RowKit Wv
def smL:Ex→Prop
 | .nil=>True
 | .mk k s n nl li na ar=>nl≤1000000∧ ∀ i,i<na→smL (ar i)
theorem acn: ∀ x,okE x→aY x≤1000000→smL x→TC Tryz.prog 59 [.g (exC x)] (.g (exC x)):=by
 intro x
 induction x with
 | nil=>intro h _ _;exact h.elim
 | mk k s m nl li na ar ih=>
 rintro ⟨hs,hnl,hna,hh⟩ hc hlo
 obtain ⟨hl0,hl1⟩:=hlo
 have hRc:=bQ (.mk k s m nl li na ar)
 have hcn: ∀ i,i<na→aY (ar i)≤1000000:=fun i hi=>by
  have h1:dB 1 (fun i=>aY (ar i)) na≤1000000:=hc
  have h2:dB 1 (fun i=>aY (ar i)) i+aY (ar i)≤dB 1 (fun i=>aY (ar i)) na:=qo 1 (fun i=>aY (ar i)) hi
  omega
 have hnc:na+1≤aY (.mk k s m nl li na ar):=ahx
 have hdA: ∀ i,i<na→ ∃ r,List.drop (i*5) (bT na fun i=>exC (ar i))=exC (ar i)++r:=fun i hi=>bP (f:=fun i=>exC (ar i)) (fun i=>iC (ar i)) hi
 have hC2: ∀ i a,a∈bT i (fun i=>exC (ar i))→Clo a:=fun i=>dG fun i _=>eF _
 have hC:=hC2 na
 have hS2:=fun i=>qY i (fun i=>exC (ar i))
 have hN2: ∀ i,(bT i fun i=>exC (ar i)).length=i*5:=fun i=>nM fun i=>iC _
 rw [dA] at hRc ⊢
 obtain ⟨L,hL⟩: ∃ L,L=bT na fun i=>exC (ar i):=⟨_,rfl⟩
 refine Wv.TC.by 29 [0,1,4,14,3,2] [] [.cell 2 46] Tryz.func59 rfl rfl rfl ?clo ?_
 case clo=>exact hRc
 rw [←hL] at hdA hC
 have hfin: ∀ l:List AV,l=(bT na fun i=>exC (ar i))→AV.g [.v (.int .i64 k), .v (.string s), .v (.int .i64 m), .t nl 1 (tab nl fun i=> .v (.int .i64 (li i))), .t na 5 l]= .g [.v (.int .i64 k), .v (.string s), .v (.int .i64 m), .t nl 1 (tab nl fun i=> .v (.int .i64 (li i))), .t na 5 (bT na fun i=>exC (ar i))]:=fun l e=>by rw [e]
 rw [←hL]
 refine Wv.W ?_
 refine qj (σ:=Nat) (fun i=>[(1, .ptr 0 0),(2, .ptr 1 0),(3, .own 3 i),(4, .v (.int .i64 i))])
  (fun i=>[some (.blk [.v (.int .i64 k), .v (.string s), .v (.int .i64 m), .own 2 nl, .t na 5 L]),some (.blk [.v (.int .i64 0), .v (.string ⟨#[]⟩), .v (.int .i64 0), .v (.slice none 0 0), .v (.slice none 0 0)]),some (.arr 2 1 (tab nl fun i=> .v (.int .i64 (li i))) 0),some (.arr 46 5 (bT i fun i=>exC (ar i)) 0)])
  (fun i=>i≤na) (fun i=>na - i) 0 (Nat.zero_le _) ?_ ?_
 ·refine Ent.trans (Ent.nil 3 46 5 (by omega) rfl) (Ent.fit ?_)
  exact Wv.V
 intro i hi
 by_cases hlt:i<na
 ·have e1:(i:Int)<na:=by omega
  have T:=ih i (hh i hlt) (hcn i hlt) (hl1 i hlt)
  have hG:=bQ (ar i)
  have hoy:=hh i hlt
  have hs2:=hS2 i
  have hc2:=hC2 (i+1)
  have hn2:=hN2 i
  have aco: ∀ m,loL m (bT (i+1) fun i=>exC (ar i))=True:=fun m=>eq_true fun a ha=> .clo (hc2 a ha)
  obtain ⟨r,hd⟩:=hdA i hlt
  obtain ⟨c0,c1,c2,c3,c4,c5,c6,h5⟩:=nX (ar i)
  simp only [h5,List.cons_append,List.nil_append] at hd hs2
  rw [h5] at T hG
  simp (disch:=first|exact Wv.D|fail) only [Wv.B,simprocAttr,decide_eq_true e1,hd,hn2]
  refine ah T rfl (dW hG) hG ?_
  simp (disch:=first|exact Wv.D|fail) only [Wv.B,simprocAttr,hn2]
  refine Wv.jd (i+1) 4 (by first | decide | exact Nat.le_of_ble_eq_true rfl) (by omega) (by omega) (by simp (disch:=first|exact Wv.D|fail) only [Wv.B,simprocAttr,dH,hs2]) (by simp (disch:=first|exact Wv.D|fail) only [Wv.B,simprocAttr,Int.natCast_add,Int.natCast_one,hs2]) (by simp only [Wv.BL, ↓reduceIte,Nat.reduceLeDiff,aco,eq_true hC]<;>omega) (by simp only [Wv.BL, ↓reduceIte,Nat.reduceLeDiff,aco,eq_true hC]<;>omega)
 ·obtain rfl:i=na:=by omega
  have hn2:=hN2 i
  have hcl: ∀ a b c z,cellsA [a,b,c,some (.arr 46 5 (bT i fun i=>exC (ar i)) z)] (.own 3 i)=some [.own 3 i]:=fun a b c z=>qh (by rw [mY];show decide _=true;rw [hn2];simp)
  simp (disch:=first|exact Wv.D|fail) only [Wv.B,simprocAttr,Int.lt_irrefl,decide_false,hn2,hcl]
  rw [hL]
theorem P6 (A B:List AV) (hA: ∀ a,a∈A→Clo a) (hB: ∀ a,a∈B→Clo a) (c:Ci) (h:okC c) (hni:c.ni≤100000) (hno:c.no≤100000) (hnl:c.nl≤100000) (hle: ∀ i,i<c.nl→aY (c.le i)≤1000000∧smL (c.le i)):
  HT Tryz.prog 18 [.g (ciC c)] [some (.blk A),some (.blk B)] (fun r h'=>r= .g [.v (.string c.name),bn c.ni c.fi, .own 4 c.nl,bn c.no c.fo]∧ ∃ a b,h'=[some (.blk A),some (.blk B),a,b,some (.arr 49 6 c.lets 0)]):=by
 have hLc:=jO c
 have hdr: ∀ i,i<c.nl→ ∃ r,List.drop (i*6) c.lets= .v (.string (c.ln i))::(exC (c.le i)++r):=fun i hi=>by
  obtain ⟨r,h⟩:=bP (f:=fun i=>iY (c.ln i) (c.le i)) (fun i=>iG _ _) hi
  exact ⟨r,h⟩
 have hC2: ∀ i a,a∈bT i (fun i=>iY (c.ln i) (c.le i))→Clo a:=fun i=>dG fun i _=>BQ _ _
 have hS2:=fun i=>qY i (fun i=>iY (c.ln i) (c.le i))
 have hN2: ∀ i,(bT i fun i=>iY (c.ln i) (c.le i)).length=i*6:=fun i=>nM fun i=>iG _ _
 have hlets:c.lets=bT c.nl fun i=>iY (c.ln i) (c.le i):=rfl
 unfold ciC bn
 obtain ⟨LL,hLL⟩: ∃ LL,LL=c.lets:=⟨_,rfl⟩
 refine Wv.HT.byO 42 [0,1,4,19,3,2] [(1,9),(1000000,2),(6,16),(3000006,16)] [.cell 2 29] Tryz.func18 rfl rfl rfl ?base ?_
 case base=>rfl
 rw [←hLL]
 have ajC: ∀ a,a∈LL→Clo a:=by rw [hLL];exact hLc
 have hAl: ∀ m,loL m A=True:=fun m=>eq_true fun a ha=> .clo (hA a ha)
 have hBl: ∀ m,loL m B=True:=fun m=>eq_true fun a ha=> .clo (hB a ha)
 have tS: ∀ (n:Nat) (f:Nat→ByteArray) (h:Hp),(tab n fun i=>AV.v (.string (f i))).all (jV h)=true:=fun n f h=>Uk fun _ _=>rfl
 simp (disch:=first|exact Wv.D|fail) only [Wv.B,simprocAttr,tS]
 refine qj (σ:=Nat) (fun i=>[(1, .ptr 2 0),(2, .ptr 3 0),(3, .own 4 i),(4, .v (.int .i64 i))])
  (fun i=>[some (.blk A),some (.blk B),some (.blk [.v (.string c.name), .t c.ni 1 (tab c.ni fun i=> .v (.string (c.fi i))), .t c.nl 6 LL, .t c.no 1 (tab c.no fun i=> .v (.string (c.fo i)))]),some (.blk [.v (.string ⟨#[]⟩), .v (.slice none 0 0), .v (.slice none 0 0), .v (.slice none 0 0)]),some (.arr 49 6 (bT i fun i=>iY (c.ln i) (c.le i)) 0)])
  (fun i=>i≤c.nl) (fun i=>c.nl - i) 0 (Nat.zero_le _) ?_ ?_
 ·refine Ent.trans (Ent.nil 3 49 6 (by omega) rfl) (Ent.fit ?_)
  exact Wv.V
 intro i hi
 by_cases hlt:i<c.nl
 ·have e1:(i:Int)<c.nl:=by omega
  have hoy:=(h.le i hlt).1
  have T:=acn (c.le i) hoy (hle i hlt).1 (hle i hlt).2
  have hG:=bQ (c.le i)
  have hs2:=hS2 i
  have hc2:=hC2 (i+1)
  have hn2:=hN2 i
  have aco: ∀ m,loL m (bT (i+1) fun i=>iY (c.ln i) (c.le i))=True:=fun m=>eq_true fun a ha=> .clo (hc2 a ha)
  obtain ⟨r,hd⟩:=hdr i hlt
  have hlet:iY (c.ln i) (c.le i)= .v (.string (c.ln i))::exC (c.le i):=rfl
  obtain ⟨c0,c1,c2,c3,c4,c5,c6,h5⟩:=nX (c.le i)
  rw [hlet] at hs2
  simp only [h5,List.cons_append,List.nil_append] at hd hs2
  rw [h5] at T hG
  rw [←hLL] at hd
  simp (disch:=first|exact Wv.D|fail) only [Wv.B,simprocAttr,decide_eq_true e1,hd,hn2]
  refine gq T (PS (EY hG) Xm) (dW hG) hG ?_
  simp (disch:=first|exact Wv.D|fail) only [Wv.B,simprocAttr,hn2]
  refine Wv.jd (i+1) 5 (by first | decide | exact Nat.le_of_ble_eq_true rfl) (by omega) (by omega) (by simp (disch:=first|exact Wv.D|fail) only [Wv.B,simprocAttr,dH,hs2]) (by simp (disch:=first|exact Wv.D|fail) only [Wv.B,simprocAttr,Int.natCast_add,Int.natCast_one,hs2]) (by simp only [Wv.BL, ↓reduceIte,Nat.reduceLeDiff,aco,hAl,hBl,eq_true ajC]<;>omega) (by simp only [Wv.BL, ↓reduceIte,Nat.reduceLeDiff,aco,hAl,hBl,eq_true ajC]<;>omega)
 ·obtain rfl:i=c.nl:=by omega
  have hn2:=hN2 c.nl
  rw [←hlets, ←hLL] at hn2
  have hcl: ∀ a b c' d z,cellsA [a,b,c',d,some (.arr 49 6 LL z)] (.own 4 c.nl)=some [.own 4 c.nl]:=fun a b c' d z=>qh (by rw [mY];show decide _=true;rw [hn2];simp)
  rw [←hlets, ←hLL]
  simp (disch:=first|exact Wv.D|fail) only [Wv.B,simprocAttr,Int.lt_irrefl,decide_false,hn2,hcl,aiP,aiO]
  exact ⟨_,_,rfl⟩
end
section
open Go.RowKit Wv
end
section
open Go.RowKit Wv
theorem Gi {x:Par} (h:dR aj x x.r=0):2≤dN aj x x.r∧dN aj x x.r≤2147483647∧4≤x.n∧x.n≤32:=by
 unfold dR at h
 cases hb:qK aj x x.r with
 | false=>rw [hb] at h;cases h
 | true=>
  have hv:=(Ij hb).2
  unfold qK at hb
  rw [Bool.and_eq_true] at hb
  have hd:=Ii hb.1
  have ht:0<x.t aj:=by
   have:=hb.1
   unfold okB at this
   simp only [Bool.and_eq_true,decide_eq_true_eq] at this
   exact this.2.1
  have hle:=GY aj x.n x.p x.r
  have e:x.t aj=gQ aj x.n x.p x.r:=rfl
  refine ⟨?_,by omega,hd⟩
  rw [hv]
  rw [e] at ht
  unfold gQ at ht ⊢
  split at ht
  ·next hq=>
   rw [if_pos hq]
   have:x.p ^ 1≤x.p ^ x.r.toNat:=Nat.pow_le_pow_right (by omega) (by omega)
   rw [Nat.pow_one] at this
   omega
  ·omega
theorem XF (x:Par) (hx:o8 x) (hlen:x.ch.length≤140737488351232) (zk: ∀ q,q∈x.ch→q<4294967296) (c:Ci) (hc:okC c):TC Tryz.prog 19 [.g (fU x), .g (ciC c)] (typeA (iJ (dR aj x x.r) c (ruA x (dN aj x x.r)))):=
 Nu x c (ruA x (dN aj x x.r)) ksA (dN aj x x.r) (dR aj x x.r) (NZ x x.r hx hlen zk) hc (fun h ns=>by
  obtain ⟨h1,h2,h3,h4⟩:=Gi h
  exact ahk x _ ns h1 (by omega) (by omega) (by omega)) fun i hi=>ahj _ (hc.le i hi).1
end
section
open Go.RowKit Wv
theorem XG (x:Par) (hx:o8 x) (hlen:x.ch.length≤140737488351232) (zk: ∀ q,q∈x.ch→q<4294967296) (c:Ci) (hc:okC c) (hcn:c.nl≤1000000) (hni:c.ni≤1000000) (hce: ∀ i,i<c.nl→aY (c.le i)≤1000000):
  TC Tryz.prog 20 [.g (fU x), .g (ciC c)] (typeA (iJ (dR aj x x.r) c (ruA x (dN aj x x.r)))):=by
 have T:=Xt x c (dN aj x x.r) (dR aj x x.r) (Oe x x.r hx hlen zk) hc hcn hni hce (fun h=>by
  obtain ⟨h1,h2,h3,h4⟩:=Gi h
  exact ⟨h1,by omega,by omega,by omega⟩)
 exact T.res (ahB fun h=>Xq _ _ _ h)
end
section
open Go.RowKit Wv
theorem XH (n:Nat) (f:Nat→Int) (hn:n≤140737488351232):TC Tryz.prog 117 [.t n 1 (tab n fun i=> .v (.int .i64 (f i))), .t n 1 (tab n fun i=> .v (.int .i64 (f i)))] (.v (.bool true)):=by
 refine Wv.TC.by 32 [5,0,1,15,26,4] [(4,8)] [.tmp 4] Tryz.func117 rfl rfl rfl ?clo ?_
 case clo=>simp only [Wv.BC]
 refine Wv.W ?_
 refine dQ (σ:=Nat) (fun i=>[(0, .t n 1 (tab n fun i=> .v (.int .i64 (f i)))),(1, .t n 1 (tab n fun i=> .v (.int .i64 (f i)))),(5, .v (.int .i64 i))]) (fun _=>[])
  (fun i=>i≤n) (fun i=>n - i) 0 (Nat.zero_le _) rfl Wv.V ?_
 intro i hi
 by_cases hlt:i<n
 ·have e1:(i:Int)<n:=by omega
  simp (disch:=first|exact Wv.D|fail) only [Wv.B,simprocAttr,decide_eq_true e1]
  refine aH (i+1) (by omega) (by omega) rfl Wv.V2
 ·obtain rfl:n=i:=by omega
  simp (disch:=first|exact Wv.D|fail) only [Wv.B,simprocAttr,Int.lt_irrefl,decide_false]
theorem Gj (n:Nat) (f:Nat→ByteArray) (hn:n≤140737488351232):TC Tryz.prog 70 [bn n f,bn n f] (.v (.bool true)):=by
 unfold bn
 refine Wv.TC.by 32 [5,0,1,15,26,4] [(4,8)] [.tmp 4] Tryz.func70 rfl rfl rfl ?clo ?_
 case clo=>simp only [Wv.BC]
 refine Wv.W ?_
 refine dQ (σ:=Nat) (fun i=>[(0, .t n 1 (tab n fun i=> .v (.string (f i)))),(1, .t n 1 (tab n fun i=> .v (.string (f i)))),(5, .v (.int .i64 i))]) (fun _=>[])
  (fun i=>i≤n) (fun i=>n - i) 0 (Nat.zero_le _) rfl Wv.V ?_
 intro i hi
 by_cases hlt:i<n
 ·have e1:(i:Int)<n:=by omega
  simp (disch:=first|exact Wv.D|fail) only [Wv.B,simprocAttr,decide_eq_true e1]
  refine aH (i+1) (by omega) (by omega) rfl Wv.V2
 ·obtain rfl:n=i:=by omega
  simp (disch:=first|exact Wv.D|fail) only [Wv.B,simprocAttr,Int.lt_irrefl,decide_false]
theorem XI (x:Ex) (h:okE x):TC Tryz.prog 71 [.g (exC x), .g (exC x)] (.v (.bool true)):=by
 induction x with
 | nil=>exact h.elim
 | mk k s n nl li na ar ih=>
 obtain ⟨hs,hnl,hna,hh⟩:=h
 have TI:=XH nl li hnl
 have hdA: ∀ i,i<na→ ∃ r,List.drop (i*5) (bT na fun i=>exC (ar i))=exC (ar i)++r:=fun i hi=>bP (f:=fun i=>exC (ar i)) (fun i=>iC (ar i)) hi
 rw [dA]
 generalize (bT na fun i=>exC (ar i))=E at*
 refine Wv.TC.by 61 [0,1,2,3,41,5,46,60,4] [(6,10)] [.tmp 4] Tryz.func71 rfl rfl rfl ?clo ?_
 case clo=>simp only [Wv.BC]
 refine Wv.W ?_
 refine ah TI rfl Wv.c Wv.c ?_
 refine Wv.W ?_
 refine dQ (σ:=Nat) (fun i=>[(2, .ptr 0 0),(3, .ptr 1 0),(5, .v (.int .i64 i))])
  (fun _=>[some (.blk [.v (.int .i64 k), .v (.string s), .v (.int .i64 n), .t nl 1 (tab nl fun i=> .v (.int .i64 (li i))), .t na 5 E]),some (.blk [.v (.int .i64 k), .v (.string s), .v (.int .i64 n), .t nl 1 (tab nl fun i=> .v (.int .i64 (li i))), .t na 5 E])])
  (fun i=>i≤na) (fun i=>na - i) 0 (Nat.zero_le _) rfl Wv.V ?_
 intro i hi
 by_cases hlt:i<na
 ·have e1:(i:Int)<na:=by omega
  have T:=ih i (hh i hlt)
  have hG:=bQ (ar i)
  obtain ⟨r,hd⟩:=hdA i hlt
  obtain ⟨c0,c1,c2,c3,c4,c5,c6,h5⟩:=nX (ar i)
  rw [h5] at T hG hd
  simp only [List.cons_append,List.nil_append] at hd
  simp (disch:=first|exact Wv.D|fail) only [Wv.B,simprocAttr,decide_eq_true e1,hd]
  refine ah T rfl (jf hG hG) Wv.c ?_
  refine Wv.W ?_
  refine aH (i+1) (by omega) (by omega) rfl Wv.V2
 ·obtain rfl:na=i:=by omega
  simp (disch:=first|exact Wv.D|fail) only [Wv.B,simprocAttr,Int.lt_irrefl,decide_false]
theorem acp (c:Ci) (h:okC c):TC Tryz.prog 22 [.g (ciC c), .g (ciC c)] (.v (.bool true)):=by
 have T1:=Gj c.ni c.fi h.ni
 have T2:=Gj c.no c.fo h.no
 have hc1:=jL c.ni c.fi
 have hc2:=jL c.no c.fo
 have hnl:=h.nl
 have hdr: ∀ i,i<c.nl→ ∃ r,List.drop (i*6) c.lets= .v (.string (c.ln i))::(exC (c.le i)++r):=fun i hi=>by
  obtain ⟨r,h⟩:=bP (f:=fun i=>iY (c.ln i) (c.le i)) (fun i=>iG _ _) hi
  exact ⟨r,h⟩
 have hle:=fun i hi=>(h.le i hi).1
 unfold ciC bn
 unfold bn at T1 T2 hc1 hc2
 generalize c.lets=L at*
 refine Wv.TC.by 72 [0,1,2,3,35,5,40,71,4] [(6,26)] [.tmp 4] Tryz.func22 rfl rfl rfl ?clo ?_
 case clo=>simp only [Wv.BC]
 refine Wv.W ?_
 refine ah T1 rfl (jf hc1 hc1) Wv.c ?_
 refine Wv.W ?_
 refine ah T2 rfl (jf hc2 hc2) Wv.c ?_
 refine Wv.W ?_
 refine dQ (σ:=Nat) (fun i=>[(2, .ptr 0 0),(3, .ptr 1 0),(5, .v (.int .i64 i))])
  (fun _=>[some (.blk [.v (.string c.name), .t c.ni 1 (tab c.ni fun i=> .v (.string (c.fi i))), .t c.nl 6 L, .t c.no 1 (tab c.no fun i=> .v (.string (c.fo i)))]),some (.blk [.v (.string c.name), .t c.ni 1 (tab c.ni fun i=> .v (.string (c.fi i))), .t c.nl 6 L, .t c.no 1 (tab c.no fun i=> .v (.string (c.fo i)))])])
  (fun i=>i≤c.nl) (fun i=>c.nl - i) 0 (Nat.zero_le _) rfl Wv.V ?_
 intro i hi
 by_cases hlt:i<c.nl
 ·have e1:(i:Int)<c.nl:=by omega
  have T:=XI (c.le i) (hle i hlt)
  have hG:=bQ (c.le i)
  obtain ⟨r,hd⟩:=hdr i hlt
  obtain ⟨c0,c1,c2,c3,c4,c5,c6,h5⟩:=nX (c.le i)
  rw [h5] at T hG hd
  simp only [List.cons_append,List.nil_append] at hd
  simp (disch:=first|exact Wv.D|fail) only [Wv.B,simprocAttr,decide_eq_true e1,hd]
  refine ah T rfl (jf hG hG) Wv.c ?_
  refine Wv.W ?_
  refine aH (i+1) (by omega) (by omega) rfl Wv.V2
 ·obtain rfl:i=c.nl:=by omega
  simp (disch:=first|exact Wv.D|fail) only [Wv.B,simprocAttr,Int.lt_irrefl,decide_false]
end
section
open Go.RowKit Wv
theorem acr: ∀ (e:Ex),okE e→ ∀ (l:Int),l≤1000000→0≤cO e l→cO e l≤l∧smL e:=by
 intro e
 induction e with
 | nil=>intro h;exact h.elim
 | mk k s n nl li na ar ih=>
  rintro ⟨h1,h2,h3,h4⟩ l hl h
  rw [vG] at h ⊢
  have key: ∀ m,m≤na→0≤dZ (fun i x=>cO (ar i) x) (l - 1 - nl - s.size) m→dZ (fun i x=>cO (ar i) x) (l - 1 - nl - s.size) m≤l - 1 - nl - s.size∧0≤l - 1 - nl - s.size∧ ∀ j,j<m→smL (ar j):=by
   intro m
   induction m with
   | zero=>intro _ hq;exact ⟨Int.le_refl _,hq,fun j hj=>by omega⟩
   | succ m ihm=>
    intro hm hq
    have e1:dZ (fun i x=>cO (ar i) x) (l - 1 - nl - s.size) (m+1)=if dZ (fun i x=>cO (ar i) x) (l - 1 - nl - s.size) m<0 then dZ (fun i x=>cO (ar i) x) (l - 1 - nl - s.size) m else cO (ar m) (dZ (fun i x=>cO (ar i) x) (l - 1 - nl - s.size) m):=rfl
    by_cases hn:dZ (fun i x=>cO (ar i) x) (l - 1 - nl - s.size) m<0
    ·rw [e1,if_pos hn] at hq;omega
    ·rw [e1,if_neg hn] at hq ⊢
     obtain ⟨g1,g2,g3⟩:=ihm (by omega) (by omega)
     obtain ⟨g4,g5⟩:=ih m (h4 m (by omega)) _ (by omega) hq
     refine ⟨by omega,g2,fun j hj=>?_⟩
     by_cases e:j=m
     ·subst e;exact g5
     ·exact g3 j (by omega)
  obtain ⟨g1,g2,g3⟩:=key na (Nat.le_refl _) h
  exact ⟨by omega,by omega,g3⟩
variable {most:Int}
theorem adY {c:Ci} (h:DN c)  (h0:most≤1000000): ∀ i,i≤c.nl→0≤jv c most i→jv c most i≤most∧ ∀ j,j<i→smL (c.le j):=by
 intro i
 induction i with
 | zero=>exact fun _ q=>⟨by show most - c.name.size≤most;omega,fun j hj=>by omega⟩
 | succ i ih=>
  intro hi hq
  rw [tZ] at hq ⊢
  by_cases hn:jv c most i<0
  ·rw [if_pos hn] at hq;omega
  ·rw [if_neg hn] at hq ⊢
   obtain ⟨g1,g2⟩:=ih (by omega) (by omega)
   obtain ⟨g3,g4⟩:=acr (c.le i) (h.le i (by omega)) _ (by omega) hq
   refine ⟨by omega,fun j hj=>?_⟩
   by_cases e:j=i
   ·subst e;exact g4
   ·exact g2 j (by omega)
theorem VG (f:Nat→ByteArray): ∀ (i:Nat),(i:Int)≤wW f i
 | 0=>Int.le_refl _
 | i+1=>by
  have:=VG f i
  rw [E5];omega
theorem VH {n:Nat} {f:Nat→ByteArray}  (h0:0≤most) (h:qp n f most=false):(n:Int)≤most:=by
 cases n with
 | zero=>exact h0
 | succ n=>
  unfold qp bg at h
  have h1:=List.any_eq_false.1 h n (List.mem_range.2 (Nat.lt_succ_self n))
  have h2:=of_decide_eq_false (by simpa using h1:decide (most - wW f n≤((f n).size:Int))=false)
  have:=VG f n
  omega
theorem ahR {c:Ci} (h:DN c)  (h0:0≤most) (h1:most≤1000000) (hb:L6 c most=false):(c.ni:Int)≤most∧(c.no:Int)≤most∧(c.nl:Int)≤most∧ ∀ i,i<c.nl→smL (c.le i):=by
 unfold L6 at hb
 simp only [Bool.or_eq_false_iff,decide_eq_false_iff_not] at hb
 obtain ⟨b1,b2,b3,b4⟩:=hb
 exact ⟨VH h0 b1,VH h0 b2,by omega,(adY h h1 c.nl (Nat.le_refl _) (by omega)).2⟩
end
section
open Go.RowKit Wv
theorem Og {ns0:Nms} {ln:Nat→ByteArray} {sh:Nms→Nat→Except Int (Bool × Nat)}: ∀ {i:Nat} {q:Nms × List (Bool × Nat)},jR ns0 ln sh i= .ok q→q.2.length=i
 | 0,q,h=>by injection h with h;subst h;rfl
 | i+1,q,h=>by
  have h:Hy ln sh i (jR ns0 ln sh i)= .ok q:=h
  cases hp:jR ns0 ln sh i with
  | error e=>rw [hp] at h;cases h
  | ok p=>
   have ih:=Og hp
   rw [hp] at h
   obtain ⟨ns,ss⟩:=p
   have h:(if (bI ns (ln i)).isSome=true then .error (i,230) else abk ns ss i (ln i) (sh ns i))=(.ok q:Except (Nat × Int) (Nms × List (Bool × Nat))):=h
   split at h
   ·cases h
   ·cases hs:sh ns i with
    | error e=>rw [hs] at h;cases h
    | ok r=>
     rw [hs] at h
     injection h with h
     subst h
     show (ss++[r]).length=i+1
     rw [List.length_append]
     have ih:ss.length=i:=ih
     rw [ih];rfl
theorem XJ (me:Int) (c:Ci) (ru:Ex→Nat→Except Int Nat):(iJ me c ru).1.length≤c.nl:=by
 unfold iJ
 split
 ·exact Nat.zero_le _
 ·split
  ·exact Nat.zero_le _
  ·unfold sQ
   split
   ·exact Nat.zero_le _
   ·next ns _=>
    cases hp:jR ns c.ln (fun ns i=>shE ns ru (c.le i)) c.nl with
    | error e=>exact Nat.zero_le _
    | ok p=>
     have:=Og hp
     obtain ⟨n2,ss⟩:=p
     show (lastT ss c.nl (outT n2 c.fo c.no)).1.length≤c.nl
     cases outT n2 c.fo c.no with
     | none=>show ss.length≤c.nl;have h2:ss.length=c.nl:=this;omega
     | some e=>exact Nat.zero_le _
theorem VI (x:Par) (hx:o8 x) (hlen:x.ch.length≤140737488351232) (zk: ∀ q,q∈x.ch→q<4294967296) (c:Ci) (h:DN c):TC Tryz.prog 3 [.g (fU x), .g (ciC c)] (.v (.bool true)):=by
 have TB:=OI c h 20000 (by omega) (by omega)
 have hCg:=vF c
 have hPg:Clo (.g (fU x)):= .g (iI x)
 have hpp:=hx.p1
 obtain ⟨CH,hCH⟩: ∃ CH,CH=x.ch.map fun (c:Nat)=>AV.v (.int .u32 c):=⟨_,rfl⟩
 have hP7:fU x=[.v (.int .i64 x.n), .v (.int .u32 x.p), .v (.int .i64 x.r), .t x.ch.length 1 CH, .v (.int .u32 x.sp), .v (.int .i64 x.wt), .v (.int .u32 x.er)]:=by rw [hCH];rfl
 have hCf:=GX c
 have hPf:=iI x
 refine Wv.TC.by 61 [0,1,13,2,3,26,5,6,9,7,10,8,11,4] [] [.tmp 4] Tryz.func3 rfl rfl rfl ?clo ?_
 case clo=>simp only [Wv.BC]
 by_cases akw:x.ch.length≤100
 rotate_left
 ·rw [hP7] at hPg ⊢
  unfold ciC bn at*
  refine Wv.W ?_
  refine ah Dy rfl Wv.c Wv.c ?_
  simp (disch:=first|exact Wv.D|fail) only [Wv.B,simprocAttr,decide_eq_true (show (x.ch.length:Int)>100 by omega)]
 have d1:decide ((x.ch.length:Int)>100)=false:=decide_eq_false (by omega)
 cases hb:L6 c 20000 with
 | true=>
  rw [hP7] at hPg ⊢
  unfold ciC bn at*
  refine Wv.W ?_
  refine ah Dy rfl Wv.c Wv.c ?_
  simp (disch:=first|exact Wv.D|fail) only [Wv.B,simprocAttr,d1]
  refine ah TB rfl (jf hCg (.v _)) Wv.c ?_
  simp (disch:=first|exact Wv.D|fail) only [Wv.B,simprocAttr,hb]
 | false=>
 obtain ⟨hok,hnl,hcn⟩:=agf h (by omega) (by omega) hb
 obtain ⟨b1,b2,b3,b4⟩:=ahR h (by omega) (by omega) hb
 have ahS: ∀ i,i<c.nl→aY (c.le i)≤1000000:=fun i hi=>by have:=hcn i hi;omega
 have TH:=Ws (fU x) (iI x) x.p _ _ _ _ _ _ hP7 (by omega) c h hnl ahS
 have TA:=XF x hx hlen zk c hok
 have TR:=XG x hx hlen zk c hok hnl (by omega) ahS
 have TS:=acp c hok
 have HC:=P6 (fU x) (ciC c) hPf hCf c hok (by omega) (by omega) (by omega) fun i hi=>⟨ahS i hi,b4 i hi⟩
 have hll:=LY c
 rw [hP7] at hPg TH TA TR HC ⊢
 unfold ciC bn at*
 have hQl:=XJ (dR aj x x.r) c (ruA x (dN aj x x.r))
 generalize iJ (dR aj x x.r) c (ruA x (dN aj x x.r))=q at*
 obtain ⟨s1,at1,e1⟩:=q
 have hqc:=xM (s1,at1,e1)
 have t1:typeA (s1,at1,e1)= .tup [.t s1.length 2 (shL s1), .v (.int .i64 at1), .v (.int .i64 e1)]:=rfl
 rw [t1] at TA TR hqc
 have S:=Xk s1 (by have h2:s1.length≤c.nl:=hQl;omega)
 have hsc:=oP s1
 generalize UN x.p c=hv at*
 refine Wv.W ?_
 refine ah Dy rfl Wv.c Wv.c ?_
 simp (disch:=first|exact Wv.D|fail) only [Wv.B,simprocAttr,d1]
 refine ah TB rfl (jf hCg (.v _)) Wv.c ?_
 simp (disch:=first|exact Wv.D|fail) only [Wv.B,simprocAttr,hb]
 refine ah TH rfl (jf hPg hCg) Wv.c ?_
 cases hv with
 | true=>simp (disch:=first|exact Wv.D|fail) only [Wv.B,simprocAttr]
 | false=>
 refine Wv.W ?_
 refine dF (fst:=[]) (cap:=[]) HC ?_
 rintro av h' ⟨rfl,o2,o3,rfl⟩
 simp (disch:=first|exact Wv.D|fail) only [Wv.B,simprocAttr,hll]
 refine ji TA (jf hPg hCg) hqc ?_
 simp (disch:=first|exact Wv.D|fail) only [Wv.B,simprocAttr,hll]
 refine gK rfl ?_
 refine Wv.W ?_
 refine ah TR rfl (jf hPg hCg) hqc ?_
 refine Wv.W ?_
 refine ah S rfl (jf (.t hsc) (.t hsc)) Wv.c ?_
 simp (disch:=first|exact Wv.D|fail) only [Wv.B,simprocAttr,hll]
 refine ji TS (jf hCg hCg) Wv.c ?_
 simp (disch:=first|exact Wv.D|fail) only [Wv.B,simprocAttr,hll]
 refine gK rfl ?_
 exact Wv.V
end
end Go.Proofs.YtljfgdlgmdcmfaaGreat
