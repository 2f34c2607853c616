/- Parts of a proof. -/
import Derived.Test.YtljfgdlgmdcmfaaGreatQwk
import Derived.Test.YtljfgdlgmdcmfaaGreatQwm
import Derived.Test.YtljfgdlgmdcmfaaGreatQwp
set_option linter.unusedVariables false
set_option linter.unusedSimpArgs false
set_option maxHeartbeats 3200000
set_option maxRecDepth 100000
namespace Go.Proofs.YtljfgdlgmdcmfaaGreat
section
open Go.RowKit Wv
theorem Qc (x:Par) (c:Ci) (e at_:Int) (ss:List (Bool × Nat)) (he:e≠0)
  (TT:TC Tryz.prog 20 [.g (dQ x), .g (ciC c)] (typeA (ss,at_,e))) (m:Nat) (ln:Nat→Nat) (vs:Nat→Nat→Int):
  TC Tryz.prog 34 [.g (dQ x), .g (ciC c),vsA m ln vs] (.tup [.v (.slice none 0 0), .v (.int .i64 e)]):=by
 have hP:=dV x;have hcc:=tu c;unfold dQ ciC bT vsA vcA at*;refine Wv.TC.by 132 [0,1,3,4,10,26,2,40,11,14,49,60,13,15,84,17,115,16,6,7] [(11,7),(13,16),(17,21)] [.tmp 6, .tmp 7] Tryz.func34 rfl rfl rfl ?clo ?_
 case clo=>simp only [Wv.BC]
 unfold typeA at TT;refine Wv.W ?_;refine ak TT rfl (zM (.g hP) (.g hcc)) (by simp only [Wv.BC];exact lT _) ?_;exact Wv.V1 (aj he)
theorem EG (x:Par) (c:Ci) (m:Nat) (ln:Nat→Nat) (vs:Nat→Nat→Int) (R:AV) (e:Int) (hR:Clo R) (T:TC Tryz.prog 34 [.g (dQ x), .g (ciC c),vsA m ln vs] (.tup [R, .v (.int .i64 e)])):
  TC Tryz.prog 40 [.g (dQ x), .g (ciC c),vsA m ln vs] (.v (.bool (decide (e=0)))):=by
 have hP:=dV x;have hcc:=tu c;unfold dQ ciC bT vsA vcA at*;refine Wv.TC.by 18 [0,1,3,4,2,8,6] [] [.tmp 6] Tryz.func40 rfl rfl rfl ?clo ?_
 case clo=>simp only [Wv.BC]
 refine Wv.W ?_;refine ak T rfl (Z5 (.g hP) (.g hcc) Wv.c) (by simp only [Wv.BC];exact hR) ?_;exact Wv.V
theorem abv {N:Nat} {t:Int} {f:Nat→Int} (hN:4≤N) (h: ∀ j,j<N→ -((t - 1) / 2)≤f j∧f j≤(t - 1) / 2):vF N t N f=false:=by
 unfold vF;simp only [Bool.or_eq_false_iff,decide_eq_false_iff_not,Bool.not_eq_false',decide_eq_true_eq];refine ⟨trivial,?_,?_⟩
 ·have:=(Jq (f:=f) (h:=(t - 1) / 2) (N - 1)).2 fun j hj=>(h j (by omega)).2
  omega
 ·have:=(Jr (f:=f) (h:= -((t - 1) / 2)) (N - 1)).2 fun j hj=>(h j (by omega)).1
  omega
theorem fits_any (x:Par) (hx:qA x) (hlen:x.ch.length≤140737488351232) (kD: ∀ q,q∈x.ch→q<4294967296) (c:Ci) (hc:okC c) (hnl:c.nl≤1000000) (hni:c.ni≤1000000) (hcn: ∀ i,i<c.nl→bV (c.le i)≤1000000) (m:Nat) (ln:Nat→Nat) (vs:Nat→Nat→Int) (hm:m≤140737488351232) (hln: ∀ i,i<m→ln i≤140737488351232):
  TC Tryz.prog 40 [.g (dQ x), .g (ciC c),vsA m ln vs] (.v (.bool false))∨
   (TC Tryz.prog 40 [.g (dQ x), .g (ciC c),vsA m ln vs] (.v (.bool true))∧(eY (dX au x x.r) c (ruA x (bI au x x.r))).2.2=0∧m=c.ni∧
    ∃ N:Nat,x.n=N∧4≤N∧N≤32∧N % 2=0∧ ∀ i,i<m→ln i=N∧ ∀ j,j<N→ -((((bI au x x.r:Nat):Int) - 1) / 2)≤vs i j∧vs i j≤(((bI au x x.r:Nat):Int) - 1) / 2):=by
 have TT:=VK x hx hlen kD c hc hnl hni hcn;have TM:=zW x x.r hx hlen kD;by_cases he:(eY (dX au x x.r) c (ruA x (bI au x x.r))).2.2=0
 ·have hm0:=(xB he).1;obtain ⟨ht3,hto,aoD⟩:=JE hm0;obtain ⟨N,hxN,hN4,VT,hN2⟩:=aai hm0;rw [hm0] at TM;obtain ⟨_,GR,hE⟩:=VQ (vs:=vs) hxN ht3 hto hN4 hc he;have hE:=hE m ln;generalize eY (dX au x x.r) c (ruA x (bI au x x.r))=q at*;obtain ⟨s1,at1,e1⟩:=q;obtain rfl:e1=0:=he;have R:=abo x c N _ 0 at1 s1 hxN (by omega) (by omega) (by omega) hN4 VT hN2 TT TM hc m ln vs hm hln fun _=>GR
  rw [hE] at R;rcases Qb (N:=N) (t:=((bI au x x.r:Nat):Int)) (c:=c) (m:=m) (ln:=ln) (vs:=vs) hN4 with e | ⟨hmi,abw,e⟩
  ·rw [e] at R;exact .inl (EG x c m ln vs _ 2 (.v _) R)
  ·rw [e] at R;exact .inr ⟨EG x c m ln vs _ 0 (abr _ _ _) R,rfl,hmi,N,hxN,hN4,VT,hN2,abw⟩
 ·generalize eY (dX au x x.r) c (ruA x (bI au x x.r))=q at*;obtain ⟨s1,at1,e1⟩:=q;have R:=EG x c m ln vs _ e1 (.v _) (Qc x c e1 at1 s1 he TT m ln vs);rw [aj he] at R;exact .inl R
theorem SA (x:Par) (hx:qA x) (hlen:x.ch.length≤140737488351232) (kD: ∀ q,q∈x.ch→q<4294967296) (c:Ci) (h:Io c) (m:Nat) (ln:Nat→Nat) (vs:Nat→Nat→Int) (a:Int) (sw:Bool) (hm:m≤140737488351232) (hln: ∀ i,i<m→ln i≤140737488351232)
  (ha: -9223372036854775808≤a∧a≤9223372036854775807):TC Tryz.prog 9 [.g (dQ x), .g (ciC c), .g [vsA m ln vs, .v (.int .i64 a), .v (.bool sw)]] (.v (.bool true)):=by
 have hCg:=wU c;have hPg:Clo (.g (dQ x)):= .g (dV x);have hVg:Clo (vsA m ln vs):=abr m ln vs;have TB:=OC c h 5000 (by omega) (by omega);have TH:=fun hnl hcn=>UF (dQ x) (dV x) x.p _ _ _ _ _ _ rfl (by have:=hx.p1;omega) c h hnl hcn
 have TG:TC Tryz.prog 31 [vsA m ln vs] _:=VR m ln vs hm hln;have TV:=aaE c h;have hG:grB m ln=(aG m (fun i=>decide (100<ln i)) || decide (50<m)):=rfl;have hok:=fun hb=>aio h (most:=5000) (by omega) (by omega) hb
 have EV:=abq x hx hlen kD c;have hgD:=fun hc=>ajL (x:=x) (me:=dX au x x.r) (t:=bI au x x.r) (c:=c) hc
 have hm0:=xB (me:=dX au x x.r) (c:=c) (ru:=ruA x (bI au x x.r));have hmo:= @JE x;have FT:=fun hc hnl hni hcn=>fits_any x hx hlen kD c hc hnl hni hcn m ln vs hm hln
 obtain ⟨CH,hCH⟩: ∃ CH,CH=x.ch.map fun (c:Nat)=>AV.v (.int .u32 c):=⟨_,rfl⟩
 have hP7:dQ x=[.v (.int .i64 x.n), .v (.int .u32 x.p), .v (.int .i64 x.r), .t x.ch.length 1 CH, .v (.int .u32 x.sp), .v (.int .i64 x.wt), .v (.int .u32 x.er)]:=by rw [hCH];rfl
 rw [hP7] at hPg TH EV FT ⊢;unfold ciC bT vsA vcA at*;refine Wv.TC.by 90 [0,1,2,13,3,4,5,44,7,9,11,10,8,6] [(7,14)] [.tmp 6] Tryz.func9 rfl rfl rfl ?clo ?_
 case clo=>simp only [Wv.BC]
 refine Wv.W ?_;refine ak Pv rfl Wv.c Wv.c ?_;by_cases anz:(x.ch.length:Int)>100
 ·exact Wv.V1 (ah anz)
 refine Wv.W1 (aj anz) ?_;refine ak TB rfl (UD hCg (.v _)) Wv.c ?_;cases hb:OB c 5000 with
 | true=>exact Wv.V
 | false=>
 obtain ⟨hc,hnl,hcn⟩:=hok hb;have hni:=hc.ni;refine Wv.W ?_;refine ak (TH hnl fun i hi=>by have:=hcn i hi;omega) rfl (UD hPg hCg) Wv.c ?_;cases Qx x.p c with
 | true=>exact Wv.V
 | false=>
 refine Wv.W ?_;refine ak TG rfl (dM hVg) Wv.c ?_;cases hg:grB m ln with
 | true=>exact Wv.V
 | false=>
 have aoQ:m≤50:=by
  have hG:=hG.symm.trans hg;rw [Bool.or_eq_false_iff] at hG;have:=of_decide_eq_false hG.2;omega
 have aoR:(c.ni:Int)≤5000:=by
  unfold OB at hb;rw [Bool.or_eq_false_iff] at hb;exact afD (by omega) hb.1
 refine Wv.W ?_;rcases FT hc hnl (by omega) fun i hi=>by have:=hcn i hi;omega with F | ⟨F,he,rfl,N,hxN,hN4,VT,hN2,abw⟩
 ·refine ak F rfl (Z5 hPg hCg hVg) Wv.c ?_;exact Wv.V1 @Bool.not_false
 have hr:(tab c.ni fun i=>AV.t (ln i) 1 (tab (ln i) fun j=> .v (.int .i64 (vs i j))))=tab c.ni fun i=> .t N 1 (tab N fun j=> .v (.int .i64 (vs i j))):=aP fun i hi=>by rw [(abw i hi).1]
 rw [hr] at F hVg ⊢;refine ak F rfl (Z5 hPg hCg hVg) Wv.c ?_;refine Wv.W1 @Bool.not_true ?_;refine ak TV rfl (dM hCg) Wv.c ?_;cases hev:aay c with
 | false=>exact Wv.V1 @Bool.not_false
 | true=>
 have hgD:=hgD hc he;have hno:c.no≤8:=hgD.2;obtain ⟨ht3,hto,aoD⟩:=hmo (hm0 he).1;have EV:=fun vs=>EV hc N hxN hN4 VT hN2 he c.ni (fun _=>N) vs (by omega) fun _ _=>by omega
 obtain ⟨k,hk⟩: ∃ k:Nat,a % ((N / 2:Nat):Int)=k:=⟨(a % ((N / 2:Nat):Int)).toNat,by have:=Int.emod_nonneg a (show ((N / 2:Nat):Int)≠0 by omega);omega⟩
 have hkN:k<N / 2:=by have:=Int.emod_lt_of_pos a (show (0:Int)<(N / 2:Nat) by omega);omega
 have PK:=abu a (N / 2) (by omega) (by omega) ha;rw [hk] at PK;have hq:((N:Nat):Int).tdiv 2=(N / 2:Nat):=by rw [Int.tdiv_eq_ediv_of_nonneg (by omega)];omega
 have ho: ∀ i,i<c.no→ ∀ j,j<N→oJ N (bI au x x.r:Nat) c (fun i j=>vs i (iZ N k sw j)) i j=oJ N (bI au x x.r:Nat) c vs i (iZ N k sw j):=fun i _ j hj=>aaz hN4 hN2 hgD hev (fun _ _ _ _=>rfl) hj
 have E1:=EV vs;have E2:=EV fun i j=>vs i (iZ N k sw j)
 rw [Ho fun i hi=>abv hN4 (abw i hi).2] at E1;rw [Ho fun i hi=>abv hN4 fun j hj=>(abw i hi).2 _ (Gz hN4 hN2 k sw hj).1] at E2;have T1:=Eo N c.ni vs k sw hN4 VT hN2 (by omega) (by omega) (by omega);have T2:=Eo N c.no (oJ N (bI au x x.r:Nat) c vs) k sw hN4 VT hN2 (by omega) (by omega) (by omega);have SM:=PI c.no (fun _=>N) (oJ N (bI au x x.r:Nat) c fun i j=>vs i (iZ N k sw j)) (by omega) fun _ _=>by omega
 have hso:(tab c.no fun i=>AV.t N 1 (tab N fun j=> .v (.int .i64 (oJ N (bI au x x.r:Nat) c vs i (iZ N k sw j)))))=tab c.no fun i=> .t N 1 (tab N fun j=> .v (.int .i64 (oJ N (bI au x x.r:Nat) c (fun i j=>vs i (iZ N k sw j)) i j))):=aP fun i hi=>by rw [aP fun j hj=>by rw [←ho i hi j hj]]
 unfold vsA vcA at E1 E2 T1 T2 SM;rw [hso] at T2;generalize oJ N (bI au x x.r:Nat) c vs=o1 at*;generalize (oJ N (bI au x x.r:Nat) c fun i j=>vs i (iZ N k sw j))=o2 at*;rw [hxN] at hPg E1 E2 ⊢;refine Wv.W2 @Bool.not_true hq ?_;refine ak PK rfl Wv.c Wv.c ?_;refine Wv.W ?_;refine ak E1 rfl (Z5 hPg hCg Wv.c) Wv.c ?_;refine Wv.W ?_;refine dZ T1 (jD rfl (jD rfl (jD rfl (jD rfl Gv)))) Wv.c Wv.c ?_;refine Wv.W ?_;refine dZ E2 (jD (yh hPg) (jD (yh hCg) (jD rfl Gv))) (Z5 hPg hCg Wv.c) Wv.c ?_;refine Wv.W ?_;refine ak T2 rfl Wv.c Wv.c ?_;refine Wv.W ?_;refine ak SM rfl Wv.c Wv.c ?_;exact Wv.V
end
end Go.Proofs.YtljfgdlgmdcmfaaGreat
