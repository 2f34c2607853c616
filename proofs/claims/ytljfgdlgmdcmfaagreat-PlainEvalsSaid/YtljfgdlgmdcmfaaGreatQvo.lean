/- Parts of a proof. -/
import Derived.Test.YtljfgdlgmdcmfaaGreatQvn
import Derived.Lib.ItoaNum
import Derived.Test.YtljfgdlgmdcmfaaGreatQvl
import Derived.Test.YtljfgdlgmdcmfaaGreatQvj
import Derived.Test.YtljfgdlgmdcmfaaGreatQvm
set_option linter.unusedVariables false
set_option linter.unusedSimpArgs false
set_option maxHeartbeats 3200000
set_option maxRecDepth 100000
namespace Go.Proofs.YtljfgdlgmdcmfaaGreat
section
open Go.RowKit Wv
theorem MV (n:Int) (h:n≤4611686018427387904):dU n≤62∧n≤((2 ^ dU n:Nat):Int)∧ ∀ j,j<dU n→((2 ^ j:Nat):Int)<n:=by
 unfold dU;by_cases h1:n≤1
 ·rw [if_pos h1];exact ⟨by omega,by show n≤1;exact h1,fun j hj=>by omega⟩
 ·rw [if_neg h1];obtain ⟨x,hx⟩: ∃ x:Nat,n=(x:Int)+1:=⟨(n - 1).toNat,by omega⟩
  have hx2:(n - 1).toNat=x:=by omega
  rw [hx2];obtain ⟨b1,b2,b3⟩:=Lib.bitLenAux_bounds 64 x (by show x<18446744073709551616;omega) (by omega);have e:Lib.bitLen x=Lib.bitLenAux 64 x:=rfl;rw [e];generalize Lib.bitLenAux 64 x=L at*;refine ⟨?_,by omega,fun j hj=>?_⟩
  ·refine Classical.byContradiction fun hh=>?_
   have:=Nat.pow_le_pow_right (n:=2) (by decide) (show 62≤L - 1 by omega);have e:2 ^ 62=4611686018427387904:=rfl;omega
  ·have:=Nat.pow_le_pow_right (n:=2) (by decide) (show j≤L - 1 by omega);omega
theorem uj (n:Int) (h:n≤4611686018427387904):TC Tryz.prog 188 [.v (.int .i64 n)] (.v (.int .i64 (dU n))):=by
 obtain ⟨f1,f2,f3⟩:=MV n h;generalize dU n=L at*;refine Wv.TC.by 12 [3,0,8,2] [] [.tmp 2] Tryz.func188 rfl rfl rfl ?clo ?_
 case clo=>simp only [Wv.BC]
 refine Wv.W ?_;refine aQ (σ:=Nat) (fun e=>[(0, .v (.int .i64 n)),(3, .v (.int .i64 e))]) (fun _=>[]) (fun e=>e≤L) (fun e=>L - e) 0 (Nat.zero_le _) rfl Wv.V ?_;intro e he;have hm:min e 64=e:=by omega
 have hp:2 ^ e≤4611686018427387904:=Nat.pow_le_pow_right (n:=2) (by decide) (show e≤62 by omega);have hp0:0<2 ^ e:=Nat.pow_pos (by decide);have hw:IntKind.i64.wrap ((2:Int) ^ e)=((2 ^ e:Nat):Int):=by
  have e2:((2:Int) ^ e)=((2 ^ e:Nat):Int):=by rw [Int.natCast_pow];rfl
  rw [e2];generalize 2 ^ e=q at*;rw [IntKind.wrap_i64];omega
 by_cases hlt:e<L
 ·have q:=f3 e hlt;generalize ((2 ^ e:Nat):Int)=z at*;refine Wv.W5 @Int.toNat_natCast hm @Int.one_mul hw (ah q) ?_;refine au (e+1) (by omega) (by omega) rfl Wv.V2
 ·obtain rfl:L=e:=by omega
  have q: ¬ ((2 ^ L:Nat):Int)<n:=by omega
  generalize ((2 ^ L:Nat):Int)=z at*;exact Wv.V5 @Int.toNat_natCast hm @Int.one_mul hw (aj q)
def Aj (t:Nat) (val:Nat→Int):List Nat:=if Jh t t id=true then [] else nH t t id (jk t val) t
def zk (t:Nat) (val:Nat→Int):Nat:=dJ (fun i=>(Aj t val).getD i 0) (Aj t val).length - 1
theorem MW {t:Nat} (h2:2≤t) (val:Nat→Int):(Aj t val).length≤1+3*t:=by
 unfold Aj;split
 ·exact Nat.zero_le _
 ·exact (BD h2 t id (jk t val) (fun i _=>tN (by omega) val i) t (Nat.le_refl _)).2
theorem aaB (t:Nat) (val:Nat→Int) (h2:2≤t) (h256:t≤256):
  TC Tryz.prog 241 [.v (.int .u32 t),fU t id,fU t (jk t val)] (.tup [dn (Aj t val), .v (.int .i64 (if Jh t t id=true then 7 else 0))]):=by
 refine (O9 t t id (jk t val) h2 (by omega) h256 (fun i hi=>hi) fun i hi=>tN (by omega) val i).res ?_;unfold MP Aj;cases Jh t t id with
 | true=>exact Wk.tup ⟨Wk.nil 1,Wk.refl _,trivial⟩
 | false=>exact Wk.refl _
theorem aaC {a t:Int} (ht:0<t):(a.tmod t+t).tmod t=(a+t) % t:=by
 have h1:=Int.lt_tmod_of_pos a ht;rw [Int.tmod_eq_emod_of_nonneg (by omega),Int.tmod_def,Int.add_emod_right,Int.add_emod_right,Int.sub_mul_emod_self_left]
theorem Pg (N r:Int) (t m:Nat) (nm:Nat→ByteArray) (sh:Nat→Bool × Nat) (val:Nat→Int) (h2:2≤t) (h256:t≤256) (hb: ∀ i,i<t→inB (val i)=true):
  TC Tryz.prog 219 [.tp (yC N t r m nm sh), .t t 1 (tab t fun i=> .v (.int .i64 (val i)))] (.v (.int .i64 (zk t val))):=by
 have TI:=aaB t val h2 h256;have hD:zk t val=dJ (fun i=>(Aj t val).getD i 0) (Aj t val).length - 1:=rfl;have hll:=MW h2 val;have hv: ∀ i,i<t→ -4294967295≤val i∧val i≤4294967295:=fun i hi=>by
  have h:=hb i hi;unfold inB at h;rw [Bool.and_eq_true] at h;exact ⟨of_decide_eq_true h.1,of_decide_eq_true h.2⟩
 generalize Aj t val=l at*;generalize (if Jh t t id=true then 7 else 0:Int)=er at*;generalize zk t val=D at*;unfold yC bG;refine Wv.TC.by 70 [7,1,15,5,6,0,11,8,60,67,10,4] [(6,19),(3000006,3)] [.tmp 4] Tryz.func219 rfl rfl rfl ?clo ?_
 case clo=>simp only [Wv.BC]
 have hYc:=vC N t r m nm sh;unfold yC bG at hYc;generalize shM m sh=L at*;have hLl: ∀ k,lo k _=True:=fun k=>eq_true (.clo hYc)
 refine Wv.W ?_;refine jU (σ:=Nat) (fun i=>[(0, .tp [.v (.int .i64 N), .v (.int .i64 t), .v (.int .i64 r), .t m 1 (tab m fun i=> .v (.string (nm i))), .t m 2 L]),(1, .t t 1 (tab t fun i=> .v (.int .i64 (val i)))),(5, .own 0 i),(6, .own 1 i),(7, .v (.int .i64 i))])
  (fun i=>[some (.arr 22 1 (tab i fun i=> .v (.int .u32 (i:Nat))) 0),some (.arr 22 1 (tab i fun i=> .v (.int .u32 (jk t val i:Nat))) 0)]) (fun i=>i≤t) (fun i=>t - i) 0 (Nat.zero_le _) ?_ ?_
 ·refine Ent.trans (Ent.nil 5 22 1 (by omega) rfl) (Ent.trans (Ent.nil 6 22 1 (by omega) rfl) (Ent.fit ?_));exact Wv.V
 intro i hi;by_cases hlt:i<t
 ·have e1:(i:Int)<(t:Int):=by omega
  have ht0: ¬ (t:Int)=0:=by omega
  obtain ⟨v1,v2⟩:=hv i hlt;have e2:((val i).tmod t+t).tmod t=((jk t val i:Nat):Int):=by rw [aaC (by omega)];exact (IB (by omega) val i).symm
  have e3:=tN (t:=t) (by omega) val i;have m1:=Int.lt_tmod_of_pos (val i) (show (0:Int)<t by omega);have m2:=Int.tmod_lt_of_pos (val i) (show (0:Int)<t by omega);refine Wv.W3 (ah e1) (aj ht0) e2 ?_;refine Wv.iO (i+1) 2 (by first | decide | exact Nat.le_of_ble_eq_true rfl) (by omega) (by omega) (Wv.V1 @bJ) Wv.V2 (by simp only [Wv.BL, ↓reduceIte,Nat.reduceLeDiff,hLl]<;>omega) (by simp only [Wv.BL, ↓reduceIte,Nat.reduceLeDiff,hLl]<;>omega)
 ·obtain rfl:t=i:=by omega
  refine Wv.W2 @Int.lt_irrefl @decide_false ?_;refine jV TI (by simp only [Wv.BC,bg,lC]) (by simp only [Wv.BC,bg]) ?_;refine Wv.W ?_;refine iE rfl ?_;simp (disch:=first|exact Wv.D|fail) only [Wv.B,simprocAttr,dn,fU];refine aQ (σ:=Nat) (fun i=>[(8, .t l.length 1 (tab l.length fun i=> .v (.int .u32 (l.getD i 0:Nat)))),(10, .v (.int .i64 (dJ (fun i=>l.getD i 0) i - 1:Nat))),(11, .v (.int .i64 i))])
   (fun _=>[some (.arr 22 1 (tab t fun i=> .v (.int .u32 (i:Nat))) t),some (.arr 22 1 (tab t fun i=> .v (.int .u32 (jk t val i:Nat))) t)]) (fun i=>i≤l.length) (fun i=>l.length - i) 0 (Nat.zero_le _) Wv.V (by simp (disch:=first|exact Wv.D|fail) only [Wv.B,simprocAttr];rfl) ?_
  clear hv hb TI;intro i hi;by_cases hlt:i<l.length
  ·have e1:(i:Int)<(l.length:Int):=by omega
   have hs:=iW (fun i=>l.getD i 0) i;by_cases hz:l.getD i 0=0
   ·rw [if_pos hz] at hs;refine Wv.W2 (ah e1) hz ?_;refine au (i+1) (by omega) (by omega) rfl (Wv.V3 hs @Int.natCast_add @Int.natCast_one)
   ·rw [if_neg hz] at hs;have hz': ¬ ((l.getD i 0:Nat):Int)=0:=by omega
    have hs':dJ (fun i=>l.getD i 0) (i+1) - 1=i:=by rw [hs];rfl
    refine Wv.W2 (ah e1) (aj hz') ?_;refine au (i+1) (by omega) (by omega) rfl (by simp (disch:=first|exact Wv.D|fail) only [Wv.B,simprocAttr,hs',Int.natCast_add,Int.natCast_one])
  ·obtain rfl:i=l.length:=by omega
   exact Wv.V3 @Int.lt_irrefl @decide_false hD
end
section
open Go.RowKit Wv
variable {m:Nat}
theorem MX (a b:List Nat) (hb: ∀ i,b.getD i 0<m) (i:Nat):eqm m (cI (minL m a b) i) (cI a i+ -1*cI b i):=by
 unfold minL;rw [qp,En];by_cases h:i<max a.length b.length
 ·rw [if_pos h];unfold U9;have e1:(if i<a.length then a.getD i 0 else 0)=a.getD i 0:=by
   by_cases h:i<a.length
   ·rw [if_pos h]
   ·rw [if_neg h];simp [Nat.le_of_not_lt h]
  have e2:(if i<b.length then b.getD i 0 else 0)=b.getD i 0:=by
   by_cases h:i<b.length
   ·rw [if_pos h]
   ·rw [if_neg h];simp [Nat.le_of_not_lt h]
  rw [e1,e2];exact (xJ (Nat.le_of_lt (hb i))).trans ⟨0,by unfold cI;grind⟩
 ·rw [if_neg h,gY (l:=a) (by omega),gY (l:=b) (by omega)];exact ⟨0,by grind⟩
theorem Q8 (a b:List Nat) (hb: ∀ i,b.getD i 0<m) (x:Int):eqm m (evL (minL m a b) x) (evL a x - evL b x):=by
 obtain ⟨N,h1,h2,h3⟩: ∃ N,(minL m a b).length≤N∧a.length≤N∧b.length≤N:=⟨max a.length b.length,xH _ _ _,by omega,by omega⟩
 rw [←je h1, ←je h2, ←je h3];have:=uh (n:=N) (f:=cI a) (g:=cI b) (c:= -1) (x:=x);refine (pK fun i _=>MX a b hb i).trans ⟨0,by rw [this];grind⟩
variable {f:Nat→Nat}{i:Nat}
theorem Eo {g:Nat→Nat} : ∀ {k:Nat},(∀ j,j<k→g (i - j)=0)→cvS m f g i k=0
 | 0,_=>rfl
 | k+1,h=>by
  unfold cvS;rw [Eo fun j hj=>h j (by omega),h k (by omega),Nat.mul_zero];exact Nat.zero_mod _
theorem Q9 (a:List Nat) (i:Nat):atF a.length (fun i=>a.getD i 0) i=a.getD i 0:=by
 unfold atF;by_cases h:i<a.length
 ·rw [if_pos h]
 ·rw [if_neg h];simp [Nat.le_of_not_lt h]
theorem GH (m u:Nat) (a:List Nat) (i:Nat):eqm m (cI (kD m a [u,1]) i) (upF (cI a) i+u*cI a i):=by
 unfold kD;rw [qp,En];have h2:[u,1].length=2:=rfl;rw [h2];have ha:=Q9 a;generalize hf:atF a.length (fun i=>a.getD i 0)=f at*;have g0:atF 2 (fun i=>[u,1].getD i 0) 0=u:=rfl;have g1:atF 2 (fun i=>[u,1].getD i 0) 1=1:=rfl;have g2: ∀ j,2≤j→atF 2 (fun i=>[u,1].getD i 0) j=0:=fun j hj=>if_neg (by omega)
 generalize atF 2 (fun i=>[u,1].getD i 0)=g at*;by_cases h:i<a.length+2
 ·rw [if_pos h];cases i with
  | zero=>
   have e:cvS m f g 0 (0+1)=(0+f 0*u) % m:=by simp only [cvS,Nat.sub_zero,g0]
   rw [e,ha];refine (eqm.nat m _).trans ⟨0,?_⟩;rw [Int.natCast_add,Int.natCast_mul];simp only [upF,cI];grind
  | succ i=>
   have e0:cvS m f g (i+1) i=0:=Eo fun j hj=>g2 _ (by omega)
   have e1:cvS m f g (i+1) (i+1)=(0+f i*1) % m:=by
    show (cvS m f g (i+1) i+f i*g (i+1 - i)) % m=_;rw [e0,show i+1 - i=1 by omega,g1]
   have e:cvS m f g (i+1) (i+1+1)=((0+f i*1) % m+f (i+1)*u) % m:=by
    show (cvS m f g (i+1) (i+1)+f (i+1)*g (i+1 - (i+1))) % m=_;rw [e1,Nat.sub_self,g0]
   rw [e,ha,ha];refine (eqm.nat m _).trans ?_;rw [Int.natCast_add,Int.natCast_mul];refine ((eqm.nat m _).add eqm.rfl').trans ⟨0,?_⟩;rw [Int.natCast_add,Int.natCast_mul];simp only [upF,cI];grind
 ·rw [if_neg h,gY (l:=a) (by omega)];obtain ⟨j,rfl⟩: ∃ j,i=j+1:=⟨i - 1,by omega⟩
  show eqm m 0 (cI a j+u*0);rw [gY (by omega)];exact ⟨0,by grind⟩
theorem GI (m c:Nat) (a:List Nat) (i:Nat):eqm m (cI (kD m a [c]) i) (c*cI a i):=by
 unfold kD;rw [qp,En];have h2:[c].length=1:=rfl;rw [h2];have ha:=Q9 a;generalize hf:atF a.length (fun i=>a.getD i 0)=f at*;have g0:atF 1 (fun i=>[c].getD i 0) 0=c:=rfl;have g2: ∀ j,1≤j→atF 1 (fun i=>[c].getD i 0) j=0:=fun j hj=>if_neg (by omega)
 generalize atF 1 (fun i=>[c].getD i 0)=g at*;by_cases h:i<a.length+1
 ·rw [if_pos h];have e0:cvS m f g i i=0:=Eo fun j hj=>g2 _ (by omega)
  have e:cvS m f g i (i+1)=(0+f i*c) % m:=by
   show (cvS m f g i i+f i*g (i - i)) % m=_;rw [e0,Nat.sub_self,g0]
  rw [e,ha];refine (eqm.nat m _).trans ⟨0,?_⟩;rw [Int.natCast_add,Int.natCast_mul];simp only [cI];grind
 ·rw [if_neg h,gY (l:=a) (by omega)];exact ⟨0,by grind⟩
theorem aaD (m:Nat) (a:List Nat) (u:Nat) (x:Int):eqm m (evL (kD m a [u,1]) x) ((x+u)*evL a x):=
 Q5 (rP _ _ _) (GH m u a) x
theorem aaE (m:Nat) (a:List Nat) (c:Nat) (x:Int):eqm m (evL (kD m a [c]) x) (c*evL a x):=by
 have h1:(kD m a [c]).length≤a.length+1:=rP _ _ _;rw [←je h1, ←je (show a.length≤a.length+1 by omega)];have:=uh (n:=a.length+1) (f:=fun _=>0) (g:=cI a) (c:=c) (x:=x);rw [Ej fun _=>rfl] at this;refine (pK (g:=fun i=>0+(c:Int)*cI a i) fun i _=>(GI m c a i).trans ⟨0,by grind⟩).trans ⟨0,by rw [this];grind⟩
def dgL (l:List Nat) (d:Nat):Prop:= ∀ j,d≤j→cI l j=0
theorem Vd {v:Nat} (hv:v<m) (h:eqm m (v:Int) 0):v=0:=by
 obtain ⟨c,h⟩:=h;have h2:((v:Int)) % m=0:=by rw [h,Int.zero_add,Int.mul_emod_right]
 rw [Int.emod_eq_of_lt (by omega) (by omega)] at h2;omega
theorem Jj {l:List Nat} {j:Nat} (hl:l.getD j 0<m) (h:eqm m (cI l j) 0):cI l j=0:=by
 unfold cI at h ⊢;rw [Vd hl h];rfl
variable {a:List Nat}{d:Nat}
theorem aeR {u:Nat} (hm:2≤m)  (h:dgL a d):dgL (kD m a [u,1]) (d+1):=fun j hj=>by
 refine Jj (Bq (by omega) _ _ _) ((GH m u a j).trans ⟨0,?_⟩);obtain ⟨i,rfl⟩: ∃ i,j=i+1:=⟨j - 1,by omega⟩
 show cI a i+u*cI a (i+1)=_;rw [h i (by omega),h (i+1) (by omega)];grind
theorem aeS {c:Nat} (hm:2≤m)  (h:dgL a d):dgL (kD m a [c]) d:=fun j hj=>by
 refine Jj (Bq (by omega) _ _ _) ((GI m c a j).trans ⟨0,?_⟩);rw [h j hj];grind
theorem Rf (h:dgL a d):dgL (aX a) d:=fun j hj=>by rw [qp];exact h j hj
theorem aaF (hm:2≤m) {b:List Nat} (hb: ∀ i,b.getD i 0<m) (h1:dgL a d) (h2:dgL b d):dgL (minL m a b) d:=fun j hj=>by
 refine Jj (BA (by omega) _ _ _) ((MX a b hb j).trans ⟨0,?_⟩);rw [h1 j hj,h2 j hj];grind
theorem ajg (l:List Nat):dgL l l.length:=fun j hj=>gY hj
theorem afC {l:List Nat}  (h:dgL l d) (x:Int):evF (cI l) d x=evL l x:=by
 rcases Nat.le_total l.length d with q | q
 ·exact je q x
 ·obtain ⟨k,hk⟩: ∃ k,l.length=d+k:=⟨l.length - d,by omega⟩
  unfold evL;rw [hk];exact (Ji h).symm
theorem Rh {m:Nat} (hm:2≤m) (xs ys:Nat→Nat) (i:Nat): ∀ k,dgL (iI m xs ys i k) (if k≤i then k+1 else k)
 | 0=>by rw [if_pos (Nat.zero_le _)];exact ajg [ys i]
 | k+1=>by
  have ih:=Rh hm xs ys i k;unfold iI;by_cases e:k=i
  ·subst e;rw [if_pos rfl,if_neg (by omega)];rw [if_pos (Nat.le_refl _)] at ih;exact ih
  ·rw [if_neg e];have h1:=aeS (c:=(jq ((xs i+m - xs k) % m) m).1) hm (aeR (u:=(m - xs k) % m) hm (Rf ih));by_cases h:k+1≤i
   ·rw [if_pos h];rw [if_pos (by omega)] at h1;exact h1
   ·rw [if_neg h];rw [if_neg (by omega)] at h1;exact h1
theorem MZ {m n:Nat} (hm:2≤m) (xs ys:Nat→Nat) (hx: ∀ i,i<n→xs i<m) (hu: ∀ i k,k<n→i<n→k≠i→jJ m ((xs i:Int) - xs k)) (i:Nat) (hi:i<n): ∀ k,k≤n→eqm m (evL (iI m xs ys i k) (xs i)) (ys i)∧ ∀ j,j<k→j≠i→eqm m (evL (iI m xs ys i k) (xs j)) 0
 | 0,_=>⟨⟨0,by show ((ys i:Nat):Int)+(xs i:Int)*0=_;grind⟩,fun j hj=>by omega⟩
 | k+1,hk=>by
  obtain ⟨h1,h2⟩:=MZ hm xs ys hx hu i hi k (by omega);unfold iI;by_cases e:k=i
  ·rw [if_pos e];exact ⟨h1,fun j hj hne=>h2 j (by omega) hne⟩
  ·rw [if_neg e];generalize iI m xs ys i k=P at*;have hz:=Q7 (Nat.le_of_lt (hx k (by omega)));have hs:=xJ (a:=xs i) (Nat.le_of_lt (hx k (by omega)));have hinv:=(Em hm ((hu i k (by omega) hi e).congr hs.symm)).2;generalize (jq ((xs i+m - xs k) % m) m).1=iv at*;have hE: ∀ x:Int,eqm m (evL (kD m (kD m (aX P) [(m - xs k) % m,1]) [iv]) x) (iv*((x - xs k)*evL P x)):=fun x=>by
    refine (aaE m _ iv x).trans (eqm.rfl'.mul ((aaD m _ _ x).trans ?_));rw [MR];exact ((eqm.rfl'.add hz).mul eqm.rfl').trans ⟨0,by grind⟩
   refine ⟨(hE _).trans ?_,fun j hj hne=>(hE _).trans ?_⟩
   ·have h3:=(eqm.rfl' (a:=(iv:Int))).mul hs.symm;obtain ⟨c1,q1⟩:=h3.trans hinv;obtain ⟨c2,q2⟩:=h1;refine ⟨(iv*((xs i:Int) - xs k))*c2+ys i*c1,?_⟩;rw [q2];have:(iv:Int)*(((xs i:Int) - xs k)*(ys i+m*c2))=(iv*((xs i:Int) - xs k))*ys i+m*((iv*((xs i:Int) - xs k))*c2):=by grind
    rw [this];have q3:(iv*((xs i:Int) - xs k))*ys i=(1+m*c1)*ys i:=by rw [q1]
    rw [q3];grind
   ·by_cases ej:j=k
    ·subst ej;exact ⟨0,by grind⟩
    ·obtain ⟨c2,q2⟩:=h2 j (by omega) hne;exact ⟨iv*((xs j:Int) - xs k)*c2,by rw [q2];grind⟩
theorem aeT (hm:2≤m) (xs ys:Nat→Nat) (i:Nat) (hy:ys i<m) (k:Nat): ∀ j,(aX (iI m xs ys i k)).getD j 0<m:=mX (by omega) (xI hm xs ys i hy k).1
theorem Ri {m n:Nat} (hm:2≤m) (xs ys:Nat→Nat) (hx: ∀ i,i<n→xs i<m) (hy: ∀ i,i<n→ys i<m) (hu: ∀ i k,k<n→i<n→k≠i→jJ m ((xs i:Int) - xs k)): ∀ i,i≤n→(∀ j,j<i→eqm m (evL (nH m n xs ys i) (xs j)) (ys j))∧(∀ j,i≤j→j<n→eqm m (evL (nH m n xs ys i) (xs j)) 0)∧dgL (nH m n xs ys i) n
 | 0,_=>⟨fun j hj=>by omega,fun j _ _=>⟨0,by show (0:Int)=_;grind⟩,fun j hj=>gY (l:=[]) (Nat.zero_le _)⟩
 | i+1,hi=>by
  obtain ⟨h1,h2,h3⟩:=Ri hm xs ys hx hy hu i (by omega);obtain ⟨p1,p2⟩:=MZ hm xs ys hx hu i (by omega) n (Nat.le_refl _);have pd:=Rh hm xs ys i n;rw [if_neg (by omega)] at pd;have pl:=aeT hm xs ys i (hy i (by omega)) n;unfold nH;generalize nH m n xs ys i=O at*;have hnl: ∀ j,(minL m [] (aX (iI m xs ys i n))).getD j 0<m:=BA (by omega) _ _;have hE: ∀ x:Int,eqm m (evL (minL m O (minL m [] (aX (iI m xs ys i n)))) x) (evL O x+evL (iI m xs ys i n) x):=fun x=>by
   refine (Q8 _ _ hnl x).trans ((eqm.rfl'.sub (Q8 _ _ pl x)).trans ?_);rw [MR];exact ⟨0,by show evL O x - (0 - evL (iI m xs ys i n) x)=_;grind⟩
  refine ⟨fun j hj=>(hE _).trans ?_,fun j hj hj2=>(hE _).trans ?_,aaF hm hnl h3 (aaF hm pl (fun j hj=>gY (l:=[]) (Nat.zero_le _)) (Rf pd))⟩
  ·by_cases e:j=i
   ·subst e;obtain ⟨c1,q1⟩:=h2 j (Nat.le_refl _) (by omega);obtain ⟨c2,q2⟩:=p1;exact ⟨c1+c2,by rw [q1,q2];grind⟩
   ·obtain ⟨c1,q1⟩:=h1 j (by omega);obtain ⟨c2,q2⟩:=p2 j (by omega) e;exact ⟨c1+c2,by rw [q1,q2];grind⟩
  ·obtain ⟨c1,q1⟩:=h2 j (by omega) hj2;obtain ⟨c2,q2⟩:=p2 j hj2 (by omega);exact ⟨c1+c2,by rw [q1,q2];grind⟩
variable {n:Nat}
theorem aaG (hm:2≤m) (xs ys:Nat→Nat) (hx: ∀ i,i<n→xs i<m) (hy: ∀ i,i<n→ys i<m) (hu: ∀ i k,k<n→i<n→k≠i→jJ m ((xs i:Int) - xs k)) (j:Nat):(aX (bZ m xs ys n).1).getD j 0=(nH m n xs ys n).getD j 0:=by
 obtain ⟨n1,_,_⟩:=MS hm xs ys hx (fun i k hk hi=>hu i k (by omega) hi (by omega)) n (Nat.le_refl _);obtain ⟨o1,_,o3⟩:=Ri hm xs ys hx hy hu n (Nat.le_refl _);obtain ⟨k1,_,k3,_⟩:=AX hm xs ys n;obtain ⟨l1,_⟩:=BD hm n xs ys hy n (Nat.le_refl _);rw [Gz];generalize (bZ m xs ys n).1=P at*;generalize nH m n xs ys n=O at*;have dP:dgL P n:=fun j hj=>gY (by omega)
 by_cases hj:j<n
 ·have hr:=roots (m:=m) (xs:=fun i=>(xs i:Int)) n (fun i=>cI P i+ -1*cI O i) (fun i hi=>by
   rw [uh,afC dP,afC o3];obtain ⟨c1,q1⟩:=n1 i hi;obtain ⟨c2,q2⟩:=o1 i hi;exact ⟨c1 - c2,by rw [q1,q2];grind⟩) (fun i k hk hi=>hu i k (by omega) hi (by omega)) j hj
  obtain ⟨c,hc⟩:=hr;have h1:=k1 j;have h2:=l1 j;unfold cI at hc;generalize P.getD j 0=u at*;generalize O.getD j 0=v at*;have e:(u:Int)=v+m*c:=by grind
  have e2:((u:Int)) % m=(v:Int) % m:=by rw [e,Int.add_mul_emod_self_left]
  rw [Int.emod_eq_of_lt (by omega) (by omega),Int.emod_eq_of_lt (by omega) (by omega)] at e2;omega
 ·have h1:=dP j (by omega);have h2:=o3 j (by omega);unfold cI at h1 h2;omega
theorem vF (h: ∀ i,n≤i→f i=0): ∀ k,dJ f (n+k)=dJ f n
 | 0=>rfl
 | k+1=>by
  show dJ f ((n+k)+1)=_;rw [iW,if_pos (h _ (by omega))];exact vF h k
variable {k:Nat}
theorem Ph (h1: ∀ i,n≤i→f i=0) (h2: ∀ i,k≤i→f i=0):dJ f n=dJ f k:=by
 rcases Nat.le_total n k with q | q
 ·obtain ⟨d,rfl⟩: ∃ d,k=n+d:=⟨k - n,by omega⟩
  exact (vF h1 d).symm
 ·obtain ⟨d,rfl⟩: ∃ d,n=k+d:=⟨n - k,by omega⟩
  exact vF h2 d
theorem BG {i k:Nat}: ∀ {n:Nat},(i,k)∈prs n↔k<i∧i<n
 | 0=>by simp [prs]
 | n+1=>by
  show (i,k)∈prs n++rowP n n↔_;rw [List.mem_append,BG (n:=n)];unfold rowP;rw [List.mem_map];constructor
  ·rintro (h | ⟨j,hj,e⟩)
   ·omega
   ·have:=List.mem_range.1 hj;injection e with e1 e2;omega
  ·rintro ⟨h1,h2⟩;by_cases e:i=n
   ·exact .inr ⟨k,List.mem_range.2 (by omega),by rw [e]⟩
   ·exact .inl ⟨h1,by omega⟩
theorem Ep {xs:Nat→Nat}  (hm:2≤m) (hk:xs k<m) (h:Nat.gcd m ((xs i+m - xs k) % m)=1):jJ m ((xs i:Int) - xs k):=
 (aax hm (Nat.mod_lt _ (by omega)) h).congr (xJ (Nat.le_of_lt hk))
theorem Es {xs:Nat→Nat}  (hm:2≤m) (hk:xs k<m) (h:jJ m ((xs i:Int) - xs k)):Nat.gcd m ((xs i+m - xs k) % m)=1:=
 (Em hm (h.congr (xJ (Nat.le_of_lt hk)).symm)).1
theorem aaH {m a b:Int} (h:jJ m (a - b)):jJ m (b - a):=by
 obtain ⟨x,c,h⟩:=h;exact ⟨-x,c,by grind⟩
theorem aaI {t:Nat} (h2:2≤t) (val:Nat→Int):Ae t val=dU (zk t val):=by
 have hyl: ∀ i,i<t→jk t val i<t:=fun i _=>tN (by omega) val i
 unfold Ae zk Aj kU;cases hl:Jh t t id with
 | true=>
  rw [if_pos rfl];have hx: ¬ (prs t).all (mJ t id)=true:=fun hall=>by
   unfold Jh aI at hl;obtain ⟨i,hi,h⟩:=List.any_eq_true.1 hl;obtain ⟨k,hk,h⟩:=List.any_eq_true.1 h;have hi:=List.mem_range.1 hi;have hk:=List.mem_range.1 hk;unfold okP at h;rw [Bool.not_eq_true',Bool.or_eq_false_iff] at h;have hne:=of_decide_eq_false h.1;have hg:=of_decide_eq_false h.2;rcases Nat.lt_or_gt_of_ne hne with q | q
   ·have:=List.all_eq_true.1 hall (i,k) (BG.2 ⟨q,hi⟩);exact hg (of_decide_eq_true this)
   ·have:=List.all_eq_true.1 hall (k,i) (BG.2 ⟨q,hk⟩);have h3:=of_decide_eq_true this;exact hg (Es (xs:=id) h2 hk (aaH (Ep (xs:=id) h2 hi h3)))
  rw [if_neg hx]
 | false=>
  have hu: ∀ i k,k<t→i<t→k≠i→jJ t (((id i:Nat):Int) - (id k:Nat)):=fun i k hk hi hne=>by
   unfold Jh aI at hl;have h:=List.any_eq_false.1 hl i (List.mem_range.2 hi);have h:=List.any_eq_false.1 (Bool.eq_false_iff.2 h) k (List.mem_range.2 hk);have h:okP t id i k=true:=by simpa using h
   unfold okP at h;rw [aj hne,Bool.false_or] at h;exact Ep (xs:=id) h2 hk (of_decide_eq_true h)
  have hall:(prs t).all (mJ t id)=true:=List.all_eq_true.2 fun p hp=>by
   obtain ⟨q1,q2⟩:=BG.1 (show (p.1,p.2)∈prs t from hp);exact ah (Es (xs:=id) h2 (show id p.2<t by show p.2<t;omega) (hu p.1 p.2 (by omega) q2 (by omega)))
  rw [if_pos hall];have key:=aaG (n:=t) h2 id (jk t val) (fun i hi=>hi) hyl hu;show dU ((dJ (fun i=>(aX (bZ t id (jk t val) t).1).getD i 0) (aX (bZ t id (jk t val) t).1).length - 1:Nat):Int)=_;have e:(fun i=>(aX (bZ t id (jk t val) t).1).getD i 0)=fun i=>(nH t t id (jk t val) t).getD i 0:=funext key
  rw [e];rw [Ph (f:=fun i=>(nH t t id (jk t val) t).getD i 0) (n:=(aX (bZ t id (jk t val) t).1).length) (k:=(nH t t id (jk t val) t).length) (fun i hi=>by rw [←key i];simp [hi]) (fun i hi=>by simp [hi])];rfl
end
section
open Go.RowKit Wv
def Jk (t:Nat) (k n:Int) (nl:Nat) (li:Nat→Int):Nat × Int:=if k=11 then (if nl=t∧jM t nl li 0 t=true then (dU (zk t li),0) else (0,233))
 else if k=13 then (if IG t n=true then (dU (zk t (xg n)),0) else (0,233)) else (dU ((t:Int) - 1),0)
theorem Ve (N r:Int) (t m:Nat) (nm:Nat→ByteArray) (sh:Nat→Bool × Nat) (k:Int) (s:ByteArray) (n:Int) (nl:Nat) (li:Nat→Int) (na:Nat) (ar:Nat→Ex) (h2:2≤t) (ht':t≤4611686018427387904) (hk:k=11∨k=13→t≤256) (hnl:nl≤140737488351232) (hli: ∀ i,i<nl→inB (li i)=true):
  TC Tryz.prog 189 [.tp (yC N t r m nm sh), .g (exC (.mk k s n nl li na ar))] (.tup [.v (.int .i64 (Jk t k n nl li).1), .v (.int .i64 (Jk t k n nl li).2)]):=by
 have hx:=bU (.mk k s n nl li na ar);have TL:=ML N t r m nm sh nl li t hnl hli (by omega) (by omega);have TD:=fun val h256 hb=>Pg N r t m nm sh val h2 h256 hb
 have hY:=vC N t r m nm sh;have hR:Jk t k n nl li=if k=11 then (if nl=t∧jM t nl li 0 t=true then (dU (zk t li),0) else (0,233))
  else if k=13 then (if IG t n=true then (dU (zk t (xg n)),0) else (0,233)) else (dU ((t:Int) - 1),0):=rfl
 generalize Jk t k n nl li=R at*;have amb: ∀ val,t≤256→(zk t val:Int)≤1000:=fun val h=>by
  have h1:=MW h2 val;have h3:=wX (fun i=>(Aj t val).getD i 0) (Aj t val).length;unfold zk;omega
 have hlo: ∀ j,lo j (.tp (yC N t r m nm sh))=True:=fun j=>eq_true (.clo hY)
 simp only [yC,bG] at TL TD hY hlo ⊢;simp only [dh] at hx ⊢;have hA:Clo (.t na 5 (cO na fun i=>exC (ar i))):= .t (dw fun i _=>eX _);generalize (AV.t na 5 (cO na fun i=>exC (ar i)))=A at*;have hAl: ∀ j,lo j A=True:=fun j=>eq_true (.clo hA)
 generalize shM m sh=L2 at*;refine Wv.TC.by 75 [1,3,9,10,0,30,36,49,7,55,6,4,5] [(3,16),(7,10)] [.tmp 4, .tmp 5] Tryz.func189 rfl rfl rfl ?clo ?_
 case clo=>simp only [Wv.BC]
 by_cases k1:k=11
 ·subst k1;rw [if_pos rfl] at hR;have h256:=hk (.inl rfl);by_cases g1:nl=t
  ·subst g1;cases hl:jM nl nl li 0 nl with
   | true=>
    rw [hl] at TL;rw [if_pos ⟨rfl,hl⟩] at hR;have T:=TD li h256 hli;have hd:=amb li h256;generalize zk nl li=D at*;subst hR;have TS:=uj (D:Nat) (by omega);refine Wv.W ?_;refine ak TL rfl (by simp only [Wv.BC];exact hY) Wv.c ?_;refine Wv.W ?_;refine ak T rfl (by simp only [Wv.BC];exact hY) Wv.c ?_;refine Wv.W ?_;refine ak TS rfl Wv.c Wv.c ?_;simp (disch:=first|exact Wv.D|fail) only [Wv.B,simprocAttr]
   | false=>
    rw [hl] at TL;rw [if_neg (fun h=>by rw [hl] at h;cases h.2)] at hR;subst hR;refine Wv.W ?_;refine ak TL rfl (by simp only [Wv.BC];exact hY) Wv.c ?_;simp (disch:=first|exact Wv.D|fail) only [Wv.B,simprocAttr]
  ·have e1: ¬ (nl:Int)=(t:Int):=by omega
   rw [if_neg (fun h=>g1 h.1)] at hR;subst hR;exact Wv.V1 (aj e1)
 ·rw [if_neg k1] at hR;by_cases k2:k=13
  ·subst k2;rw [if_pos rfl] at hR;have h256:=hk (.inr rfl);by_cases g1:0≤n
   ·have e1: ¬ n<0:=by omega
    by_cases g2:n≤(t:Int)
    ·have e2: ¬ (t:Int)<n:=by omega
     rw [if_pos (by unfold IG;rw [ah g1,ah g2];rfl)] at hR;have T:=TD (xg n) h256 (fun i _=>by unfold xg;split<;>decide);have hd:=amb (xg n) h256;generalize zk t (xg n)=D at*;subst hR;have TS:=uj (D:Nat) (by omega);have hlv: ∀ i:Nat,(if (i:Int)<n then 1 else 0:Int)=xg n i:=fun i=>rfl
     refine Wv.W2 (aj e1) (aj e2) ?_;refine jU (σ:=Nat) (fun i=>[(0, .tp [.v (.int .i64 N), .v (.int .i64 t), .v (.int .i64 r), .t m 1 (tab m fun i=> .v (.string (nm i))), .t m 2 L2]),(3, .ptr 0 0),(6, .own 1 i),(7, .v (.int .i64 i))])
      (fun i=>[some (.blk [.v (.int .i64 13), .v (.string s), .v (.int .i64 n), .t nl 1 (tab nl fun i=> .v (.int .i64 (li i))),A]),some (.arr 2 1 (tab i fun i=> .v (.int .i64 (xg n i))) 0)]) (fun i=>i≤t) (fun i=>t - i) 0 (Nat.zero_le _) ?_ ?_
     ·refine Ent.trans (Ent.nil 6 2 1 (by omega) rfl) (Ent.fit ?_);exact Wv.V
     intro i hi;by_cases hlt:i<t
     ·have e3:(i:Int)<(t:Int):=by omega
      have TE:=aaq i n;rw [hlv] at TE;refine Wv.W1 (ah e3) ?_;refine ak TE rfl Wv.c Wv.c ?_;refine Wv.W ?_;refine Wv.iO (i+1) 2 (by first | decide | exact Nat.le_of_ble_eq_true rfl) (by omega) (by omega) (Wv.V1 @bJ) Wv.V2 (by simp only [Wv.BL, ↓reduceIte,Nat.reduceLeDiff,hlo,hAl]<;>omega) (by simp only [Wv.BL, ↓reduceIte,Nat.reduceLeDiff,hlo,hAl]<;>omega)
     ·obtain rfl:t=i:=by omega
      refine Wv.W2 @Int.lt_irrefl @decide_false ?_;refine jV T (by simp only [Wv.BC];exact hY) Wv.c ?_;refine Wv.W ?_;refine iE rfl ?_;refine Wv.W ?_;refine ak TS rfl Wv.c Wv.c ?_;exact Wv.V
    ·have e2:(t:Int)<n:=by omega
     rw [if_neg (by unfold IG;rw [aj g2,Bool.and_false];decide)] at hR;subst hR;exact Wv.V2f (aj e1) (ah e2)
   ·have e1:n<0:=by omega
    rw [if_neg (by unfold IG;rw [aj g1,Bool.false_and];decide)] at hR;subst hR;exact Wv.V1 (ah e1)
  ·rw [if_neg k2] at hR;have TS:=uj ((t:Int) - 1) (by omega);subst hR;refine Wv.W2 (aj k1) (aj k2) ?_;refine ak TS rfl Wv.c Wv.c ?_;exact Wv.V
end
section
open Go.RowKit Wv
def szR (b:Bool):Int:=if b=true then 0 else 233
def vG (N r:Int) (t:Nat) (o:Option (Bool × Nat)) (k n:Int) (nl:Nat) (li:Nat→Int) (unk:Nat):Nat × Int:=
 if k=1 then (0,if o.isSome=true then 0 else 230)
 else if k=2 then (0,szR (nG t n))
 else if k=3 then (0,szR (jM t nl li 0 N))
 else if k=8 then (0,szR (decide (0≤n) && decide (n<N / 2)))
 else if k=10 then (0,szR (decide ((nl:Int)≤N) && !aI nl fun i=>!decide (li i=0) && !decide (li i=1)))
 else if k=14 then (dU n,szR (decide (1≤n) && decide (n≤64)))
 else if k=7 then (if unk=2 then 1 else 0,0)
 else if k=11∨k=13∨k=12 then (if r=1∧(k=12∨t≤256) then Jk t k n nl li else (0,231))
 else (0,0)
def zn (o:Option (Bool × Nat)) (k:Int) (q:Bool × Nat):Bool × Nat:=if k=1 then o.getD q else q
theorem aeU (N r:Int) (t m:Nat) (nm:Nat→ByteArray) (sh:Nat→Bool × Nat) (k:Int) (s:ByteArray) (n:Int) (nl:Nat) (li:Nat→Int) (na:Nat) (ar:Nat→Ex) (unk:Nat) (q:Bool × Nat) (A B:List AV) (hAc: ∀ a,a∈A→Clo a) (hBc: ∀ a,a∈B→Clo a) (h2:2≤t) (ht':t≤4611686018427387904) (hN:0≤N) (hN':N≤4611686018427387904) (hm:m≤140737488351232) (hnl:nl≤140737488351232) (hli: ∀ i,i<nl→inB (li i)=true) (hn:inB n=true):
  HT Tryz.prog 116 [.tp (yC N t r m nm sh), .g (exC (.mk k s n nl li na ar)), .v (.int .i64 unk), .ptr 2 0] [some (.blk A),some (.blk B),some (.blk [.v (.bool q.1), .v (.int .i64 q.2)])]
   (fun v h'=>v= .tup [.v (.int .i64 (vG N r t (fiR m nm sh s) k n nl li unk).1), .v (.int .i64 (vG N r t (fiR m nm sh s) k n nl li unk).2)]∧ ∃ L,h'=some (.blk A)::some (.blk B)::some (.blk [.v (.bool (zn (fiR m nm sh s) k q).1), .v (.int .i64 (zn (fiR m nm sh s) k q).2)])::L):=by
 have hx:=bU (.mk k s n nl li na ar);have TF:=xG N t r m nm sh s hm;have hFc:=Bl (fiR m nm sh s);have TB:=QW N t r m nm sh n hn (by omega) (by omega);have TL:=ML N t r m nm sh nl li N hnl hli (by omega) (by omega);have TM:=aao nl li hnl;have TP:=uj n (by unfold inB at hn;rw [Bool.and_eq_true] at hn;have:=of_decide_eq_true hn.2;omega);have TZ:=fun b=>aap b
 have TD:=fun hk=>Ve N r t m nm sh k s n nl li na ar h2 ht' hk hnl hli
 have hY:=vC N t r m nm sh;have hq1:N.tdiv 2=N / 2:=Int.tdiv_eq_ediv_of_nonneg hN;have hA:Clo (.t na 5 (cO na fun i=>exC (ar i))):= .t (dw fun i _=>eX _);obtain ⟨R,hR⟩: ∃ R,R=vG N r t (fiR m nm sh s) k n nl li unk:=⟨_,rfl⟩
 obtain ⟨S,hS⟩: ∃ S,S=zn (fiR m nm sh s) k q:=⟨_,rfl⟩
 rw [←hR, ←hS];unfold vG at hR;unfold zn at hS;generalize fiR m nm sh s=o at*;have hZ: ∀ b:Bool,(if b=true then 0 else 233:Int)=szR b:=fun b=>rfl
 simp only [hZ] at TZ;have hAl: ∀ j,loL j A=True:=fun j=>eq_true fun a ha=> .clo (hAc a ha)
 have hBl: ∀ j,loL j B=True:=fun j=>eq_true fun a ha=> .clo (hBc a ha)
 simp only [yC,bG] at TF TB TL TD hY ⊢;simp only [dh] at hx TD ⊢;generalize (cO na fun i=>exC (ar i))=E at*;generalize shM m sh=L2 at*;refine Wv.HT.by 122 [1,5,13,14,0,11,24,3,10,28,35,46,62,78,92,2,95,96,116,8,9] [(10,7),(12,11),(14,9),(16,7),(1000000,3)] [.tmp 8, .tmp 9] Tryz.func116 rfl rfl rfl ?base ?_
 case base=>rfl
 by_cases k1:k=1
 ·subst k1;rw [if_pos rfl] at hR hS;unfold fiA shA at TF hFc;cases o with
  | none=>
   have hS':S=q:=hS;have hR':R=(0,230):=hR;simp only [Option.isSome_none,Option.getD_none] at TF hFc;refine Wv.W ?_;refine ak TF rfl (by simp only [Wv.BC];exact hY) hFc ?_;rw [hS',hR'];refine Wv.W ?_;exact ⟨_,rfl⟩
  | some a=>
   have hS':S=a:=hS;have hR':R=(0,0):=hR;simp only [Option.isSome_some,Option.getD_some] at TF hFc;refine Wv.W ?_;refine ak TF rfl (by simp only [Wv.BC];exact hY) hFc ?_;refine Wv.W ?_;rw [hS',hR'];refine Wv.W ?_;exact ⟨_,rfl⟩
 rw [if_neg k1] at hR hS;rw [hS];clear hS TF hFc;by_cases k2:k=2
 ·subst k2;rw [if_pos rfl] at hR;refine Wv.W ?_;refine ak TB rfl (by simp only [Wv.BC];exact hY) Wv.c ?_;refine Wv.W ?_;refine ak (TZ _) rfl Wv.c Wv.c ?_;refine Wv.W1 hR ?_;exact ⟨_,rfl⟩
 rw [if_neg k2] at hR;by_cases k3:k=3
 ·subst k3;rw [if_pos rfl] at hR;refine Wv.W ?_;refine ak TL rfl (by simp only [Wv.BC];exact hY) Wv.c ?_;refine Wv.W ?_;refine ak (TZ _) rfl Wv.c Wv.c ?_;refine Wv.W1 hR ?_;exact ⟨_,rfl⟩
 rw [if_neg k3] at hR;by_cases k8:k=8
 ·subst k8;rw [if_pos rfl] at hR;by_cases g1:0≤n
  ·have e3:(decide (0≤n) && decide (n<N / 2))=decide (n<N / 2):=by rw [ah g1,Bool.true_and]
   rw [e3] at hR;refine Wv.W2 (ah g1) hq1 ?_;refine ak (TZ _) rfl Wv.c Wv.c ?_;refine Wv.W1 hR ?_;exact ⟨_,rfl⟩
  ·have e3:(decide (0≤n) && decide (n<N / 2))=false:=by rw [aj g1,Bool.false_and]
   rw [e3] at hR;refine Wv.W1 (aj g1) ?_;refine ak (TZ _) rfl Wv.c Wv.c ?_;refine Wv.W1 hR ?_;exact ⟨_,rfl⟩
 rw [if_neg k8] at hR;by_cases k10:k=10
 ·subst k10;rw [if_pos rfl] at hR;by_cases g1:(nl:Int)≤N
  ·rw [ah g1,Bool.true_and] at hR;refine Wv.W1 (ah g1) ?_;refine ak TM rfl Wv.c Wv.c ?_;refine Wv.W ?_;refine ak (TZ _) rfl Wv.c Wv.c ?_;refine Wv.W1 hR ?_;exact ⟨_,rfl⟩
  ·rw [aj g1,Bool.false_and] at hR;refine Wv.W1 (aj g1) ?_;refine ak (TZ _) rfl Wv.c Wv.c ?_;refine Wv.W1 hR ?_;exact ⟨_,rfl⟩
 rw [if_neg k10] at hR;by_cases k14:k=14
 ·subst k14;rw [if_pos rfl] at hR;by_cases g1:1≤n
  ·rw [ah g1,Bool.true_and] at hR;refine Wv.W1 (ah g1) ?_;refine eU TP rfl Wv.c Wv.c ?_;refine Wv.W1 (ah g1) ?_;refine ak (TZ _) rfl Wv.c Wv.c ?_;refine Wv.W1 hR ?_;exact ⟨_,rfl⟩
  ·rw [aj g1,Bool.false_and] at hR;refine Wv.W1 (aj g1) ?_;refine eU TP rfl Wv.c Wv.c ?_;refine Wv.W1 (aj g1) ?_;refine ak (TZ _) rfl Wv.c Wv.c ?_;refine Wv.W1 hR ?_;exact ⟨_,rfl⟩
 rw [if_neg k14] at hR;by_cases k7:k=7
 ·subst k7;rw [if_pos rfl] at hR;by_cases g1:unk=2
  ·have e1:(unk:Int)=2:=by omega
   rw [if_pos g1] at hR;refine Wv.W2 (ah e1) hR ?_;exact ⟨_,rfl⟩
  ·have e1: ¬ (unk:Int)=2:=by omega
   rw [if_neg g1] at hR;refine Wv.W2 (aj e1) hR ?_;exact ⟨_,rfl⟩
 rw [if_neg k7] at hR;by_cases kf:k=11∨k=13∨k=12
 ·rw [if_pos kf] at hR;by_cases g1:r=1
  ·by_cases g2:k=12∨t≤256
   ·have T:=TD (fun h=>by omega);rw [if_pos ⟨g1,g2⟩] at hR;rw [←hR] at T;by_cases k11:k=11
    ·subst k11;have e2: ¬ (256:Int)<(t:Int):=by omega
     refine Wv.W2 (ah g1) (aj e2) ?_;refine ak T rfl (lJ hY hx) Wv.c ?_;refine Wv.W ?_;exact ⟨_,rfl⟩
    ·by_cases k13:k=13
     ·subst k13;have e2: ¬ (256:Int)<(t:Int):=by omega
      refine Wv.W2 (ah g1) (aj e2) ?_;refine ak T rfl (lJ hY hx) Wv.c ?_;refine Wv.W ?_;exact ⟨_,rfl⟩
     ·have k12:k=12:=by omega
      subst k12;refine Wv.W1 (ah g1) ?_;refine ak T rfl (lJ hY hx) Wv.c ?_;refine Wv.W ?_;exact ⟨_,rfl⟩
   ·rw [if_neg (fun h=>g2 h.2)] at hR;have e2:(256:Int)<(t:Int):=by omega
    rcases (by omega:k=11∨k=13) with rfl | rfl
    ·refine Wv.W3 (ah g1) (ah e2) hR ?_;exact ⟨_,rfl⟩
    ·refine Wv.W3 (ah g1) (ah e2) hR ?_;exact ⟨_,rfl⟩
  ·rw [if_neg (fun h=>g1 h.1)] at hR;rcases kf with rfl | rfl | rfl
   ·refine Wv.W2 (aj g1) hR ?_;exact ⟨_,rfl⟩
   ·refine Wv.W2 (aj g1) hR ?_;exact ⟨_,rfl⟩
   ·refine Wv.W2 (aj g1) hR ?_;exact ⟨_,rfl⟩
 rw [if_neg kf] at hR;have k11: ¬ k=11:=fun h=>kf (.inl h)
 have k13: ¬ k=13:=fun h=>kf (.inr (.inl h))
 have k12: ¬ k=12:=fun h=>kf (.inr (.inr h))
 simp (disch:=first|exact Wv.D|fail) only [Wv.B,simprocAttr,aj k1,aj k2,aj k3,aj k8,aj k10,aj k14,aj k7,aj k11,aj k12,aj k13,hR];exact ⟨_,rfl⟩
end
section
open Go.RowKit Wv
def vH (w:Nat × Int) (q:Bool × Nat):Except Int (Bool × Nat):=
 if w.2=0 then (if (if q.1=true then 0 else q.2+w.1)≤8 then .ok (q.1,if q.1=true then 0 else q.2+w.1) else .error 232) else .error w.2
def amc (own:Nat→Nat × Int) (st:Bool × Nat→Bool × Nat):Except Int (Bool × Nat × Nat)→Except Int (Bool × Nat)
 | .error e=> .error e
 | .ok (kn,d,u)=>vH (own u) (st (kn,d))
def shF (fd:ByteArray→Option (Bool × Nat)) (N r:Int) (t:Nat):Ex→Except Int (Bool × Nat)
 | .nil=> .error 1
 | .mk k s n nl li na ar=>amc (vG N r t (fd s) k n nl li) (zn (fd s) k) (bK (fun i=>shF fd N r t (ar i)) na)
def ng:Except Int (Bool × Nat)→AV
 | .ok q=> .tup [shA q, .v (.int .i64 0)]
 | .error e=> .tup [shA (false,0), .v (.int .i64 e)]
theorem GK (o:Except Int (Bool × Nat)):Clo (ng o):=by
 cases o with
 | ok q=>unfold ng shA;simp only [Wv.BC]
 | error e=>unfold ng shA;simp only [Wv.BC]
theorem GL {f:Nat→Except Int (Bool × Nat)} (hf: ∀ i e,f i= .error e→e≠0): ∀ {n:Nat} {e:Int},bK f n= .error e→e≠0
 | 0,e,h=>by cases h
 | n+1,e,h=>by
  simp only [bK] at h;split at h
  ·next e' h1=>injection h with h;subst h;exact GL hf h1
  ·next kn d u h1=>
   split at h
   ·next e' h2=>injection h with h;subst h;exact hf _ _ h2
   ·cases h
variable {q:Bool × Nat}
theorem aaJ {w:Nat × Int}  {e:Int} (h:vH w q= .error e):e≠0:=by
 unfold vH at h;by_cases h0:w.2=0
 ·rw [if_pos h0] at h;by_cases h1:(if q.1=true then 0 else q.2+w.1)≤8
  ·rw [if_pos h1] at h;cases h
  ·rw [if_neg h1] at h;injection h with h;subst h;decide
 ·rw [if_neg h0] at h;injection h with h;subst h;exact h0
theorem aeV {w:Nat × Int} {p:Bool × Nat} (h:vH w q= .ok p):p.2≤8:=by
 unfold vH at h;by_cases h0:w.2=0
 ·rw [if_pos h0] at h;by_cases h1:(if q.1=true then 0 else q.2+w.1)≤8
  ·rw [if_pos h1] at h;injection h with h;subst h;exact h1
  ·rw [if_neg h1] at h;cases h
 ·rw [if_neg h0] at h;cases h
theorem Rj (fd:ByteArray→Option (Bool × Nat)) (N r:Int) (t:Nat) (x:Ex): ∀ e,shF fd N r t x= .error e→e≠0:=by
 induction x with
 | nil=>intro e h;injection h with h;subst h;decide
 | mk k s n nl li na ar ih=>
  intro e h;unfold shF at h;cases hq:bK (fun i=>shF fd N r t (ar i)) na with
  | error e'=>
   rw [hq] at h;injection h with h;subst h;exact GL (fun i e=>ih i e) hq
  | ok w=>
   obtain ⟨kn,d,u⟩:=w;rw [hq] at h;exact aaJ (show vH _ _= .error e from h)
theorem ajh (fd:ByteArray→Option (Bool × Nat)) (N r:Int) (t:Nat) (x:Ex)  (h:shF fd N r t x= .ok q):q.2≤8:=by
 rcases x with _ | ⟨k,s,n,nl,li,na,ar⟩
 ·cases h
 unfold shF at h;cases hq:bK (fun i=>shF fd N r t (ar i)) na with
 | error e'=>rw [hq] at h;cases h
 | ok w=>
  obtain ⟨kn,d,u⟩:=w;rw [hq] at h;exact aeV (show vH _ _= .ok q from h)
theorem aeW {N r:Int} {t:Nat} {o:Option (Bool × Nat)} {k n:Int} {nl:Nat} {li:Nat→Int} {u:Nat}:(vG N r t o k n nl li u).1≤64:=by
 have h1: ∀ n,dU n≤64:=wZ;unfold vG;repeat' split
 all_goals first | exact Nat.zero_le _ | exact h1 _ | (show (1:Nat)≤64;decide) | skip
 unfold Jk;repeat' split
 all_goals first | exact Nat.zero_le _ | exact h1 _
theorem aeX (N r:Int) (t m:Nat) (nm:Nat→ByteArray) (sh:Nat→Bool × Nat) (h2:2≤t) (ht':t≤4611686018427387904) (hN:0≤N) (hN':N≤4611686018427387904) (hm:m≤140737488351232) (hsh: ∀ i,i<m→(sh i).2≤8) (x:Ex) (ho:okE x) (hf:aW x=true):
  TC Tryz.prog 69 [.tp (yC N t r m nm sh), .g (exC x)] (ng (shF (fiR m nm sh) N r t x)):=by
 induction x with
 | nil=>exact ho.elim
 | mk k s n nl li na ar ih=>
 obtain ⟨hs,hnl,hna,hh⟩:=ho;have ⟨⟨hk1,hk2⟩,ah4,hfa⟩:=gu hf;have hn:=Qp hf;have hli:=Gj hf;have hY:=vC N t r m nm sh;have hcE: ∀ a,a∈exC (.mk k s n nl li na ar)→Clo a:=eX _;have TO:=fun (u:Nat) (q:Bool × Nat)=>aeU N r t m nm sh k s n nl li na ar u q (exC (.mk k s n nl li na ar)) [.v (.bool false), .v (.int .i64 0)] hcE (by intro a ha;simp only [List.mem_cons,List.not_mem_nil,or_false] at ha;rcases ha with rfl | rfl<;>exact .v _) h2 ht' hN hN' hm hnl hli hn
 have hRd:shF (fiR m nm sh) N r t (.mk k s n nl li na ar)=amc (vG N r t (fiR m nm sh s) k n nl li) (zn (fiR m nm sh s) k) (bK (fun i=>shF (fiR m nm sh) N r t (ar i)) na):=rfl;have hRc:=GK (shF (fiR m nm sh) N r t (.mk k s n nl li na ar));have hOl: ∀ u,(vG N r t (fiR m nm sh s) k n nl li u).1≤64:=fun u=>aeW
 have hSl: ∀ q:Bool × Nat,q.2≤8→(zn (fiR m nm sh s) k q).2≤8:=fun q hq=>by
  unfold zn;split
  ·cases hf2:fiR m nm sh s with
   | none=>exact hq
   | some a=>
    unfold fiR at hf2;obtain ⟨i,hi,rfl⟩:=Option.map_eq_some_iff.1 hf2;exact hsh i (Lc hi)
  ·exact hq
 have hle: ∀ i q,shF (fiR m nm sh) N r t (ar i)= .ok q→q.2≤8:=fun i q h=>ajh _ _ _ _ _ h
 have hbad: ∀ i e,shF (fiR m nm sh) N r t (ar i)= .error e→e≠0:=fun i e h=>Rj _ _ _ _ _ e h
 have IH: ∀ i,i<na→TC Tryz.prog 69 [.tp (yC N t r m nm sh), .g (exC (ar i))] (ng (shF (fiR m nm sh) N r t (ar i))):=fun i hi=>ih i (hh i hi) (hfa i hi)
 generalize shF (fiR m nm sh) N r t (.mk k s n nl li na ar)=R at*;generalize vG N r t (fiR m nm sh s) k n nl li=W at*;generalize zn (fiR m nm sh s) k=Z at*;generalize hfE:(fun i=>shF (fiR m nm sh) N r t (ar i))=fE at*;have hfi: ∀ i,shF (fiR m nm sh) N r t (ar i)=fE i:=fun i=>by rw [←hfE]
 simp only [hfi] at hle hbad IH;clear hfi hfE ih;have hdA: ∀ i,i<na→ ∃ r,List.drop (i*5) (cO na fun i=>exC (ar i))=exC (ar i)++r:=fun i hi=>bH (f:=fun i=>exC (ar i)) (fun i=>gJ (ar i)) hi
 have hAc: ∀ a,a∈(cO na fun i=>exC (ar i))→Clo a:=dw fun i _=>eX _
 simp only [dh] at TO ⊢;generalize (cO na fun i=>exC (ar i))=E at*;have hEl: ∀ j,loL j E=True:=fun j=>eq_true fun a ha=> .clo (hAc a ha)
 have hYl: ∀ j,lo j (.tp (yC N t r m nm sh))=True:=fun j=>eq_true (.clo hY)
 generalize yC N t r m nm sh=Y at*;refine Wv.TC.by 77 [1,8,3,18,0,10,32,4,6,9,50,7,12,61,11,70,74,5] [] [.cell 4 42, .tmp 5] Tryz.func69 rfl rfl rfl ?clo ?_
 case clo=>exact hRc
 refine Wv.W ?_;refine aQ (σ:=Nat × Bool × Nat × Nat) (fun w=>[(0, .tp Y),(3, .ptr 0 0),(4, .ptr 1 0),(5, .v (.int .i64 0)),(6, .ptr 2 0),(7, .v (.int .i64 w.2.2.2)),(8, .v (.int .i64 w.1))])
  (fun w=>[some (.blk [.v (.int .i64 k), .v (.string s), .v (.int .i64 n), .t nl 1 (tab nl fun i=> .v (.int .i64 (li i))), .t na 5 E]),some (.blk [.v (.bool false), .v (.int .i64 0)]),some (.blk [.v (.bool w.2.1), .v (.int .i64 w.2.2.1)])])
  (fun w=>w.1≤na∧bK fE w.1= .ok w.2) (fun w=>na - w.1) (0,true,0,0) ⟨Nat.zero_le _,rfl⟩ Wv.V Wv.V ?_
 rintro ⟨i,kn,d,u⟩ ⟨hi,hfo⟩;simp only at hi hfo ⊢;have hbd:=rF (f:=fE) (fun j r h=>hle j r h) hfo;simp only at hbd;by_cases hlt:i<na
 ·have e1:(i:Int)<(na:Int):=by omega
  have T:=IH i hlt;have hG:=bU (ar i);obtain ⟨rr,hd⟩:=hdA i hlt;obtain ⟨c0,c1,c2,c3,c4,c5,c6,h5⟩:=pI (ar i);rw [h5] at T hG hd;simp only [List.cons_append,List.nil_append] at hd;have hnx:bK fE (i+1)=match fE i with
   | .error e=> .error e
   | .ok (k',d')=> .ok (kn && k',max d d',if k'=true then u else u+1):=by
   simp only [bK,hfo];cases fE i<;>rfl
  have hbi:=hbad i;have ank:=hle i;have hrc:=GK (fE i);have hfe: ∀ e,bK fE (i+1)= .error e→bK fE na= .error e:=fun e h=>yI h (by omega)
  cases hO:fE i with
  | error e=>
   rw [hO] at T hnx hrc;have hne:=hbi e hO;have hRe:=hfe e hnx;rw [hRe] at hRd;have hR2:R= .error e:=hRd;unfold ng shA at T hrc;refine Wv.W2 (ah e1) hd ?_;refine ak T rfl (lJ hY hG) hrc ?_;refine Wv.W1 (aj hne) ?_;rw [hR2];unfold ng shA;simp (disch:=first|exact Wv.D|fail) only [Wv.B,simprocAttr]
  | ok q=>
   obtain ⟨k2,d2⟩:=q;rw [hO] at T hnx hrc;have hd2:=ank _ hO;simp only at hd2 hnx;unfold ng shA at T hrc;have hmx:(if (d2:Int)>(d:Int) then (d2:Int) else (d:Int))=((max d d2:Nat):Int):=by split<;>omega
   refine Wv.W2 (ah e1) hd ?_;refine ak T rfl (lJ hY hG) hrc ?_;cases kn with
   | true=>
    cases k2 with
    | true=>
     refine Wv.W1 hmx ?_;refine Wv.iO ((i+1,true,max d d2,u)) 3 (by first | decide | exact Nat.le_of_ble_eq_true rfl) (⟨by omega,hnx⟩) (by omega) (Wv.V1 @bJ) Wv.V2 (by simp only [Wv.BL, ↓reduceIte,Nat.reduceLeDiff,hYl,hEl]<;>omega) (by simp only [Wv.BL, ↓reduceIte,Nat.reduceLeDiff,hYl,hEl]<;>omega)
    | false=>
     refine Wv.W1 hmx ?_;refine Wv.iO ((i+1,false,max d d2,u+1)) 3 (by first | decide | exact Nat.le_of_ble_eq_true rfl) (⟨by omega,hnx⟩) (by omega) (Wv.V1 @bJ) Wv.V2 (by simp only [Wv.BL, ↓reduceIte,Nat.reduceLeDiff,hYl,hEl]<;>omega) (by simp only [Wv.BL, ↓reduceIte,Nat.reduceLeDiff,hYl,hEl]<;>omega)
   | false=>
    cases k2 with
    | true=>
     refine Wv.W1 hmx ?_;refine Wv.iO ((i+1,false,max d d2,u)) 3 (by first | decide | exact Nat.le_of_ble_eq_true rfl) (⟨by omega,hnx⟩) (by omega) (Wv.V1 @bJ) Wv.V2 (by simp only [Wv.BL, ↓reduceIte,Nat.reduceLeDiff,hYl,hEl]<;>omega) (by simp only [Wv.BL, ↓reduceIte,Nat.reduceLeDiff,hYl,hEl]<;>omega)
    | false=>
     refine Wv.W1 hmx ?_;refine Wv.iO ((i+1,false,max d d2,u+1)) 3 (by first | decide | exact Nat.le_of_ble_eq_true rfl) (⟨by omega,hnx⟩) (by omega) (Wv.V1 @bJ) Wv.V2 (by simp only [Wv.BL, ↓reduceIte,Nat.reduceLeDiff,hYl,hEl]<;>omega) (by simp only [Wv.BL, ↓reduceIte,Nat.reduceLeDiff,hYl,hEl]<;>omega)
 ·obtain rfl:na=i:=by omega
  rw [hfo] at hRd;have Na:R=vH (W u) (Z (kn,d)):=hRd;have T:=TO u (kn,d);have hol:=hOl u;have hsl:=hSl (kn,d) hbd.1;clear hRd TO IH;generalize W u=w at*;generalize Z (kn,d)=z at*;obtain ⟨w1,w2⟩:=w;obtain ⟨z1,z2⟩:=z;unfold vH at Na;simp only at Na T hol hsl;refine Wv.W2 @Int.lt_irrefl @decide_false ?_;refine aB (fst:=[]) (cap:=[]) T ?_;rintro av h' ⟨rfl,L,rfl⟩;by_cases hw:w2=0
  ·subst hw;rw [if_pos rfl] at Na;cases z1 with
   | true=>
    have hR2:R= .ok (true,0):=Na;refine Wv.W ?_;rw [hR2];unfold ng shA;simp (disch:=first|exact Wv.D|fail) only [Wv.B,simprocAttr]
   | false=>
    by_cases h8:z2+w1≤8
    ·have hR2:R= .ok (false,z2+w1):=by rw [Na];exact if_pos h8
     have e8: ¬ (8:Int)<(z2:Int)+(w1:Int):=by omega
     refine Wv.W1 (aj e8) ?_;rw [hR2];unfold ng shA;exact Wv.V1 @Int.natCast_add
    ·have hR2:R= .error 232:=by rw [Na];exact if_neg h8
     have e8:(8:Int)<(z2:Int)+(w1:Int):=by omega
     refine Wv.W1 (ah e8) ?_;rw [hR2];unfold ng shA;exact Wv.V
  ·rw [if_neg hw] at Na;refine Wv.W1 (aj hw) ?_;rw [Na];unfold ng shA;exact Wv.V
end
section
open Go.RowKit Wv
theorem zU {f g:Nat→Except Int (Bool × Nat)}: ∀ {n:Nat},(∀ i,i<n→f i=g i)→bK f n=bK g n
 | 0,_=>rfl
 | n+1,h=>by
  unfold bK;rw [zU fun i hi=>h i (by omega),h n (by omega)]
def Vf (w:Nat × Int):Except Int Nat:=if w.2=0 then .ok w.1 else .error w.2
theorem aaK (kn:Bool) (d:Nat) (w:Nat × Int):yH kn d (Vf w)=vH w (kn,d):=by
 unfold Vf vH;by_cases h:w.2=0
 ·rw [if_pos h,if_pos h];rfl
 ·rw [if_neg h,if_neg h];rfl
theorem Et (a:Nat) (b:Bool):Vf (a,szR b)=if b=true then .ok a else .error 233:=by
 cases b<;>rfl
theorem Rk (a:Nat) (c:Prop) [Decidable c]:Vf (if c then (a,0) else (0,233))=if c then .ok a else .error 233:=by
 split<;>rfl
theorem Nc (t nl:Nat) (li:Nat→Int):(nl=t∧jM t nl li 0 t=true)↔jM t nl li t t=true:=by
 constructor
 ·rintro ⟨rfl,h⟩;unfold jM at h ⊢;rw [Bool.and_eq_true] at h;rw [h.2,ah (Int.le_refl _)];rfl
 ·intro h;have h1:=IJ h;refine ⟨h1.1,?_⟩;unfold jM at h ⊢;rw [Bool.and_eq_true] at h;rw [h.2,ah (show (0:Int)≤nl by omega)];rfl
theorem Vg (x:Par) (t:Nat) (o:Option (Bool × Nat)) (k:Int) (s:ByteArray) (n:Int) (nl:Nat) (li:Nat→Int) (na:Nat) (ar:Nat→Ex) (u:Nat) (h2:2≤t) (hk:k≠1) (hu:u≤2):
  ruA x t (.mk k s n nl li na ar) u=Vf (vG x.n x.r t o k n nl li u):=by
 unfold ruA vG;dsimp only
 rw [if_neg hk];by_cases k2:k=2
 ·rw [if_pos k2,if_pos k2,Et]
 rw [if_neg k2,if_neg k2];by_cases k3:k=3
 ·rw [if_pos k3,if_pos k3,Et]
 rw [if_neg k3,if_neg k3];by_cases k7:k=7
 ·subst k7;show (Except.ok (if u<2 then 0 else 1):Except Int Nat)=Vf (if u=2 then 1 else 0,0);by_cases hq:u=2
  ·rw [if_pos hq,if_neg (show ¬ u<2 by omega)];rfl
  ·rw [if_neg hq,if_pos (show u<2 by omega)];rfl
 rw [if_neg k7];by_cases k8:k=8
 ·rw [if_pos k8,if_pos k8,Et];rfl
 rw [if_neg k8,if_neg k8];by_cases k10:k=10
 ·rw [if_pos k10,if_pos k10,Et];rfl
 rw [if_neg k10,if_neg k10];by_cases k14:k=14
 ·rw [if_pos k14,if_pos k14,Et];rfl
 rw [if_neg k14,if_neg k14,if_neg k7];by_cases k11:k=11
 ·rw [if_pos k11,if_pos (show k=11∨k=13∨k=12 from .inl k11)];unfold DY EP;by_cases hr:x.r=1
  ·by_cases ht:t≤256
   ·rw [ah hr,ah (show (t:Int)≤256 by omega),if_pos (show (true && true)=true from rfl),if_pos (show x.r=1∧(k=12∨t≤256) from ⟨hr, .inr ht⟩)];unfold Jk;rw [if_pos k11,Rk,aaI h2];by_cases hl:jM t nl li t t=true
    ·rw [if_pos hl,if_pos ((Nc t nl li).2 hl)]
    ·rw [if_neg hl,if_neg fun h=>hl ((Nc t nl li).1 h)]
   ·rw [aj (show ¬ (t:Int)≤256 by omega),Bool.and_false,if_neg (by decide),if_neg (show ¬ (x.r=1∧(k=12∨t≤256)) by omega)];rfl
  ·rw [aj hr,Bool.false_and,if_neg (by decide),if_neg (show ¬ (x.r=1∧(k=12∨t≤256)) from fun h=>hr h.1)];rfl
 rw [if_neg k11];by_cases k13:k=13
 ·rw [if_pos k13,if_pos (show k=11∨k=13∨k=12 from .inr (.inl k13))];unfold II EP;by_cases hr:x.r=1
  ·by_cases ht:t≤256
   ·rw [ah hr,ah (show (t:Int)≤256 by omega),if_pos (show (true && true)=true from rfl),if_pos (show x.r=1∧(k=12∨t≤256) from ⟨hr, .inr ht⟩)];unfold Jk;rw [if_neg k11,if_pos k13,Rk,aaI h2]
   ·rw [aj (show ¬ (t:Int)≤256 by omega),Bool.and_false,if_neg (by decide),if_neg (show ¬ (x.r=1∧(k=12∨t≤256)) by omega)];rfl
  ·rw [aj hr,Bool.false_and,if_neg (by decide),if_neg (show ¬ (x.r=1∧(k=12∨t≤256)) from fun h=>hr h.1)];rfl
 rw [if_neg k13];by_cases k12:k=12
 ·rw [if_pos k12,if_pos (show k=11∨k=13∨k=12 from .inr (.inr k12))];by_cases hr:x.r=1
  ·rw [if_pos hr,if_pos (show x.r=1∧(k=12∨t≤256) from ⟨hr, .inl k12⟩)];unfold Jk;rw [if_neg k11,if_neg k13];rfl
  ·rw [if_neg hr,if_neg (show ¬ (x.r=1∧(k=12∨t≤256)) from fun h=>hr h.1)];rfl
 rw [if_neg k12,if_neg (by omega)];rfl
theorem Vh {s:ByteArray} {n:Int} {nl:Nat} {li:Nat→Int} {na:Nat} {ar:Nat→Ex} (h:aW (.mk 1 s n nl li na ar)=true):na=0:=by
 unfold aW at h;simp only [Bool.and_eq_true,Bool.not_eq_true',decide_eq_true_eq,decide_eq_false_iff_not] at h;have:=h.2.2.2.1;have e:argN (1:Int).toNat=0:=rfl;rw [e] at this;omega
theorem Rl (x:Par) (t:Nat) (ns:Nms) (fd:ByteArray→Option (Bool × Nat)) (h2:2≤t) (hfd: ∀ s,aF ns s=fd s) (hq: ∀ s q,fd s=some q→q.2≤8∧(q.1=true→q.2=0)) (e:Ex) (ho:okE e) (hf:aW e=true):shF fd x.n x.r t e=shE ns (ruA x t) e:=by
 induction e with
 | nil=>exact ho.elim
 | mk k s n nl li na ar ih=>
  obtain ⟨_,_,_,hh⟩:=ho;have ⟨_,hna,hfa⟩:=gu hf;unfold shF shE;by_cases hk:k=1
  ·subst hk;obtain rfl:=Vh hf;rw [if_pos rfl,hfd];show vH (vG x.n x.r t (fd s) 1 n nl li 0) (zn (fd s) 1 (true,0))=_;unfold vG zn;rw [if_pos rfl,if_pos rfl];cases ho:fd s with
   | none=>rfl
   | some q=>
    obtain ⟨q1,q2⟩:=hq s q ho;obtain ⟨kn,d⟩:=q;show vH (0,0) (kn,d)= .ok (kn,d);unfold vH;rw [if_pos rfl];cases kn with
    | true=>
     have:d=0:=q2 rfl;subst this;rfl
    | false=>
     show (if d+0≤8 then (.ok (false,d+0):Except Int (Bool × Nat)) else .error 232)=_;rw [if_pos (show d+0≤8 from q1)];rfl
  ·rw [if_neg hk,zU fun i hi=>ih i (hh i hi) (hfa i hi)];cases hfo:bK (fun i=>shE ns (ruA x t) (ar i)) na with
   | error e=>rfl
   | ok w=>
    obtain ⟨kn,d,u⟩:=w;have hu:u≤na:=(rF (fun i r h=>yJ (fun s r h=>by rw [hfd] at h;exact (hq s r h).1) (ar i) h) hfo).2;show vH (vG x.n x.r t (fd s) k n nl li u) (zn (fd s) k (kn,d))=yH kn d (ruA x t (.mk k s n nl li na ar) u);rw [Vg x t (fd s) k s n nl li na ar u h2 hk (by omega),aaK];unfold zn;rw [if_neg hk]
theorem aji {ns:Nms} {ru:Ex→Nat→Except Int Nat} (hn: ∀ s r,aF ns s=some r→r.1=true→r.2=0) (x:Ex) {r:Bool × Nat} (h:shE ns ru x= .ok r):r.1=true→r.2=0:=by
 rcases x with _ | ⟨k,s,n,nl,li,na,ar⟩
 ·cases h
 unfold shE at h;by_cases hk:k=1
 ·rw [if_pos hk] at h;cases hf:aF ns s with
  | none=>rw [hf] at h;cases h
  | some r'=>rw [hf] at h;simp only [Dz] at h;injection h with h;subst h;exact hn s _ hf
 ·rw [if_neg hk] at h;cases hf:bK (fun i=>shE ns ru (ar i)) na with
  | error e=>rw [hf] at h;cases h
  | ok q=>
   obtain ⟨kn,d,u⟩:=q;rw [hf] at h;simp only [DC] at h;cases hr:ru (.mk k s n nl li na ar) u with
   | error e=>rw [hr] at h;cases h
   | ok m=>
    rw [hr] at h;simp only [yH] at h;intro hkn;by_cases hle:(if kn=true then 0 else d+m)≤8
    ·rw [if_pos hle] at h;injection h with h;subst h;simp only at hkn ⊢;rw [if_pos hkn]
    ·rw [if_neg hle] at h;cases h
end
section
open Go.RowKit Wv
def nmT (ns:Nms):List AV:=ns.map fun p=> .v (.string p.1)
def shT (ns:Nms):List AV:=ns.flatMap fun p=>[.v (.bool p.2.1), .v (.int .i64 p.2.2)]
def nmN (ns:Nms) (i:Nat):ByteArray:=(ns.getD i (⟨#[]⟩,false,0)).1
def shN (ns:Nms) (i:Nat):Bool × Nat:=(ns.getD i (⟨#[]⟩,false,0)).2
theorem BH (ns:Nms):(nmT ns).length=ns.length:=List.length_map ..
theorem xK: ∀ ns:Nms,(shT ns).length=ns.length*2
 | []=>rfl
 | p::r=>by
  show (_::_::shT r).length=_;rw [List.length_cons,List.length_cons,xK r,List.length_cons];omega
theorem aeY: ∀ ns:Nms,(tab ns.length fun i=>AV.v (.string (nmN ns i)))=nmT ns:=fun ns=>by
 unfold tab nmT nmN;apply List.ext_getElem (by simp);intro i h1 h2;have h3:i<ns.length:=by simpa using h1
 simp [h3]
theorem Ro: ∀ ns:Nms,shM ns.length (shN ns)=shT ns
 | []=>rfl
 | p::r=>by
  have ih:=Ro r;unfold shM at ih ⊢;show cO (r.length+1) _=_;unfold cO at ih ⊢;rw [List.range_succ_eq_map,List.flatMap_cons,List.flatMap_map];show [AV.v (.bool p.2.1),AV.v (.int .i64 p.2.2)]++(List.range r.length).flatMap (fun i=>[AV.v (.bool (shN r i).1),AV.v (.int .i64 (shN r i).2)])=_;rw [ih];rfl
theorem ajj (ns:Nms): ∀ a,a∈nmT ns→Clo a:=fun a ha=>by
 obtain ⟨p,_,rfl⟩:=List.mem_map.1 ha;exact .v _
theorem aeZ (ns:Nms): ∀ a,a∈shT ns→Clo a:=fun a ha=>by
 obtain ⟨p,_,h⟩:=List.mem_flatMap.1 ha;simp only [List.mem_cons,List.not_mem_nil,or_false] at h;rcases h with rfl | rfl<;>exact .v _
theorem GN (k:Nat) (l:Nms):loL k (nmT l)=True:=eq_true fun a ha=> .clo (ajj l a ha)
theorem GU (k:Nat) (l:Nms):loL k (shT l)=True:=eq_true fun a ha=> .clo (aeZ l a ha)
theorem Nh (ns:Nms) (s:ByteArray) (q:Bool × Nat):nmT (ns++[(s,q)])=nmT ns++[.v (.string s)]:=by simp [nmT]
theorem Nj (ns:Nms) (s:ByteArray) (q:Bool × Nat):shT (ns++[(s,q)])=shT ns++[.v (.bool q.1), .v (.int .i64 q.2)]:=by simp [shT]
theorem vI (s:ByteArray): ∀ ns:Nms,fiR ns.length (nmN ns) (shN ns) s=aF ns s:=fun ns=>by
 unfold fiR;have key: ∀ (l:Nms),(findF (fun i=>decide (nmN l i=s)) l.length).map (shN l)=aF l s:=fun l=>by
  induction l with
  | nil=>rfl
  | cons p r ih=>
   show (findF (fun i=>decide (nmN (p::r) i=s)) (r.length+1)).map (shN (p::r))=if s=p.1 then some p.2 else aF r s
   by_cases e:s=p.1
   ·rw [if_pos e,iF (p:=fun i=>decide (nmN (p::r) i=s)) (i:=0) (Nat.zero_lt_succ _) (ah e.symm) fun j hj=>by omega];rfl
   ·rw [if_neg e, ←ih];have h0:decide (nmN (p::r) 0=s)=false:=aj fun q=>e q.symm
    by_cases hx: ∃ j,j<r.length∧decide (nmN r j=s)=true∧ ∀ k,k<j→decide (nmN r k=s)=false
    ·obtain ⟨j,h1,h2,h3⟩:=hx;rw [iF (p:=fun i=>decide (nmN r i=s)) h1 h2 h3,iF (p:=fun i=>decide (nmN (p::r) i=s)) (i:=j+1) (by simpa using h1) h2 fun k hk=>by
      cases k with
      | zero=>exact h0
      | succ k=>exact h3 k (by omega)]
     rfl
    ·have hn: ∀ j,j<r.length→decide (nmN r j=s)=false:=fun j=>by
      induction j using Nat.strongRecOn with
      | _ j ihj=>
       intro hj;cases q:decide (nmN r j=s) with
       | false=>rfl
       | true=>exact absurd ⟨j,hj,q,fun k hk=>ihj k hk (by omega)⟩ hx
     rw [gq (p:=fun i=>decide (nmN r i=s)) hn,gq (p:=fun i=>decide (nmN (p::r) i=s)) fun k hk=>by
      cases k with
      | zero=>exact h0
      | succ k=>exact hn k (by simpa using hk)]
     rfl
 exact key ns
theorem Jl (o:Option (Bool × Nat)):Bare (fiA o):=by
 unfold fiA shA;refine .tup fun a ha=>?_
 simp only [List.mem_cons,List.not_mem_nil,or_false] at ha;rcases ha with rfl | rfl
 ·refine .g fun a ha=>?_
  simp only [List.mem_cons,List.not_mem_nil,or_false] at ha;rcases ha with rfl | rfl<;>exact .v _
 ·exact .v _
theorem aaL (o:Except Int (Bool × Nat)):Bare (ng o):=by
 have hs: ∀ q:Bool × Nat,Bare (shA q):=fun q=>by
  unfold shA;refine .g fun a ha=>?_
  simp only [List.mem_cons,List.not_mem_nil,or_false] at ha;rcases ha with rfl | rfl<;>exact .v _
 cases o with
 | ok q=>
  refine .tup fun a ha=>?_
  simp only [List.mem_cons,List.not_mem_nil,or_false] at ha;rcases ha with rfl | rfl
  ·exact hs q
  ·exact .v _
 | error e=>
  refine .tup fun a ha=>?_
  simp only [List.mem_cons,List.not_mem_nil,or_false] at ha;rcases ha with rfl | rfl
  ·exact hs _
  ·exact .v _
variable {ns:Nms}
theorem rQ {h:Hp} {N r:Int} {t:Nat}  {f3 f4:Nat} {T3 T4:TypeId} (h2:h[2]? =some (some (.blk [.v (.int .i64 N), .v (.int .i64 t), .v (.int .i64 r), .own 3 ns.length, .own 4 ns.length]))) (h3:h[3]? =some (some (.arr T3 1 (nmT ns) f3))) (h4:h[4]? =some (some (.arr T4 2 (shT ns) f4))):
  vB 2 h (.ptr 2 0)= .tp (yC N t r ns.length (nmN ns) (shN ns)):=by
 have b3:Nat.beq (nmT ns).length (ns.length*1)=true:=by rw [BH,Nat.mul_one];exact Nat.beq_refl _
 have b4:Nat.beq (shT ns).length (ns.length*2)=true:=by rw [xK];exact Nat.beq_refl _
 have e0: ∀ l:List AV,l.map (vB 0 h)=l:=fun l=>List.map_id' l
 have e3:vB 1 h (.own 3 ns.length)= .t ns.length 1 (nmT ns):=by
  show (match h[3]? with | some (some (.arr _ s cells _))=>bif Nat.beq cells.length (ns.length*s) then AV.t ns.length s (cells.map (vB 0 h)) else .own 3 ns.length | _=> .own 3 ns.length)=_;rw [h3];show (bif Nat.beq (nmT ns).length (ns.length*1) then AV.t ns.length 1 ((nmT ns).map (vB 0 h)) else .own 3 ns.length)=_;rw [b3,e0];rfl
 have e4:vB 1 h (.own 4 ns.length)= .t ns.length 2 (shT ns):=by
  show (match h[4]? with | some (some (.arr _ s cells _))=>bif Nat.beq cells.length (ns.length*s) then AV.t ns.length s (cells.map (vB 0 h)) else .own 4 ns.length | _=> .own 4 ns.length)=_;rw [h4];show (bif Nat.beq (shT ns).length (ns.length*2) then AV.t ns.length 2 ((shT ns).map (vB 0 h)) else .own 4 ns.length)=_;rw [b4,e0];rfl
 have e5:vB 2 h (.ptr 2 0)= .tp ([.v (.int .i64 N), .v (.int .i64 t), .v (.int .i64 r), .own 3 ns.length, .own 4 ns.length].map (vB 1 h)):=by
  show (match h[2]? with | some (some (.blk cells))=>AV.tp (cells.map (vB 1 h)) | _=> .ptr 2 0)=_;rw [h2]
 rw [e5];show AV.tp [vB 1 h _,vB 1 h _,vB 1 h _,vB 1 h _,vB 1 h _]=_;rw [e3,e4];unfold yC bG;rw [aeY,Ro];rfl
def tyR (q:List (Bool × Nat) × Int × Int):AV:=if q.2.2=0 then typeA q else EO q.2.1 q.2.2
theorem ae0 (q:List (Bool × Nat) × Int × Int):Clo (tyR q):=by
 unfold tyR typeA EO;split
 ·simp only [Wv.BC];exact kX _
 ·simp only [Wv.BC]
theorem ajk {q:List (Bool × Nat) × Int × Int} (h:q.2.2≠0→q.1=[]):Wk (tyR q) (typeA q):=by
 unfold tyR;by_cases e:q.2.2=0
 ·rw [if_pos e];exact Wk.refl _
 ·rw [if_neg e];unfold EO typeA;rw [h e];exact Wk.tup ⟨Wk.nil 2,Wk.refl _,Wk.refl _,trivial⟩
theorem aaM (c:Ci) (o:Except (Nat × Int) (Nms × List (Bool × Nat))):(Lj c o).2.2≠0→(Lj c o).1=[]:=by
 intro h;cases o with
 | error q=>rfl
 | ok q=>
  show (lastT q.2 c.nl (outT q.1 c.fo c.no)).1=[];have h:(lastT q.2 c.nl (outT q.1 c.fo c.no)).2.2≠0:=h;cases hq:outT q.1 c.fo c.no with
  | none=>rw [hq] at h;exact absurd rfl h
  | some e=>rfl
theorem Vj (me:Int) (c:Ci) (ru:Ex→Nat→Except Int Nat):(fG me c ru).2.2≠0→(fG me c ru).1=[]:=by
 unfold fG;split
 ·intro _;rfl
 ·split
  ·intro _;rfl
  ·unfold qA;split
   ·intro _;rfl
   ·exact aaM _ _
def okN (ns:Nms):Prop:= ∀ p,p∈ns→p.2.2≤8∧(p.2.1=true→p.2.2=0)
theorem Nk {s:ByteArray} {q:Bool × Nat} (h:okN ns) (hq:q.2≤8∧(q.1=true→q.2=0)):okN (ns++[(s,q)]):=fun p hp=>by
 rcases List.mem_append.1 hp with h1 | h1
 ·exact h p h1
 ·rw [List.mem_singleton] at h1;subst h1;exact hq
theorem GV {s:ByteArray} {q:Bool × Nat}: ∀ {ns:Nms},aF ns s=some q→ ∃ p,p∈ns∧p.2=q
 | p::r,h=>by
  have h:(if s=p.1 then some p.2 else aF r s)=some q:=h;by_cases e:s=p.1
  ·rw [if_pos e] at h;injection h with h;exact ⟨p,List.mem_cons_self ..,h⟩
  ·rw [if_neg e] at h;obtain ⟨p',h1,h2⟩:=GV h;exact ⟨p',List.mem_cons_of_mem _ h1,h2⟩
theorem xM (h:okN ns) {s:ByteArray} {q:Bool × Nat} (hq:aF ns s=some q):q.2≤8∧(q.1=true→q.2=0):=by
 obtain ⟨p,h1,rfl⟩:=GV hq;exact h p h1
theorem ajl (h:okN ns) {i:Nat} (hi:i<ns.length):(shN ns i).2≤8:=by
 unfold shN;rw [List.getD_eq_getElem?_getD,List.getElem?_eq_getElem hi];exact (h _ (List.getElem_mem hi)).1
theorem Vk (n:Nat):aU (some (.v (.int .i64 (n:Nat)))) 0=some n:=by simp [aU,qB]
theorem Pj {P:Program} {h:Hp} {T T':TypeId} {id n s fz a b:Nat} {cells:List AV} {lo hi:Option AV} (hid:h[id]? =some (some (.arr T' s cells fz))) (ha:aU lo 0=some a) (hb:aU hi n=some b) (hs:(aG P T).bind (szP P)=some s) (hl:cells.length=n*s) (h1:a≤b) (h2:b≤n):
  iK P h T (.own id n) lo hi=some (.t (b - a) s ((cells.take (b*s)).drop (a*s)),h.set id (some (.arr T' s cells cells.length))):=by
 unfold iK;simp only [hid,ha,hb,hs,hl,h1,h2,and_self,if_true]
theorem Vl (x:Par) (c:Ci) (mv:Nat) (me:Int) (T1:TC Tryz.prog 36 [.g (dN x), .v (.int .i64 x.r)] (.tup [.v (.int .i64 mv), .v (.int .i64 me)])) (hc:okC c) (hcn:c.nl≤1000000) (hni:c.ni≤1000000) (hce: ∀ i,i<c.nl→bC (c.le i)≤1000000)
  (hme:me=0→2≤mv∧mv≤4611686018427387904∧0≤x.n∧x.n≤4611686018427387904):
  TC Tryz.prog 20 [.g (dN x), .g (ciC c)] (tyR (fG me c (ruA x mv))):=by
 have hRc:=ae0 (fG me c (ruA x mv));have hQ:fG me c (ruA x mv)=if me≠0 then ([],0,2) else if dS c≠0 then ([],0,dS c) else qA c (ruA x mv):=rfl
 have TK:=O8 c hc hcn hce;have hPg:Clo (.g (dN x)):=by simp only [Wv.BC];exact dI x
 have hCg:=tq c;generalize fG me c (ruA x mv)=R at*;unfold ciC bG at TK hCg ⊢;unfold dN at T1 hPg ⊢;have hLc:=iV c;have hCh: ∀ a,a∈(x.ch.map fun (q:Nat)=>AV.v (.int .u32 q))→Clo a:=KP x.ch;generalize (x.ch.map fun (q:Nat)=>AV.v (.int .u32 q))=CH at*;refine Wv.TC.by 179 [0,1,2,8,29,3,33,7,10,46,9,12,59,13,88,15,102,17,116,16,18,148,20,162,19,167,4,5,6] [(30,4),(32,4),(33,7),(14,1000000),(24,1000000)] [.tmp 4, .tmp 5, .tmp 6] Tryz.func20 rfl rfl rfl ?clo ?_
 case clo=>exact hRc
 refine Wv.W ?_;refine ak T1 rfl (lJ hPg (.v _)) Wv.c ?_;by_cases hm:me=0
 case neg=>
  rw [if_pos hm] at hQ;subst hQ;refine Wv.W1 (aj hm) ?_;unfold tyR EO;exact Wv.V
 subst hm;rw [if_neg (by decide)] at hQ;refine Wv.W ?_;refine ak TK rfl (Oo hCg) Wv.c ?_;by_cases hk:dS c=0
 case neg=>
  rw [if_pos hk] at hQ;subst hQ;refine Wv.W1 (aj hk) ?_;unfold tyR EO;rw [if_neg hk]
 rw [if_neg (by rw [hk];decide)] at hQ;refine Wv.W1 (ah hk) ?_;obtain ⟨hm2,hm3,hN1,hN2⟩:=hme rfl;have hCt:Clo (.t c.nl 6 c.lets):= .t hLc;generalize hLL:c.lets=LL at*;have Vm: ∀ j,loL j LL=True:=fun j=>eq_true fun a ha=> .clo (hLc a ha)
 have Vo: ∀ j,loL j CH=True:=fun j=>eq_true fun a ha=> .clo (hCh a ha)
 unfold qA at hQ;have anF:=hc.ni;refine jU (σ:=Nat × Nms) (fun w=>[(2, .ptr 0 0),(3, .ptr 1 0),(9, .ptr 2 0),(10, .v (.int .i64 w.1))])
  (fun w=>[some (.blk [.v (.int .i64 x.n), .v (.int .u32 x.p), .v (.int .i64 x.r), .t x.ch.length 1 CH, .v (.int .u32 x.sp), .v (.int .i64 x.wt), .v (.int .u32 x.er)]),some (.blk [.v (.string c.name), .t c.ni 1 (tab c.ni fun i=> .v (.string (c.fi i))), .t c.nl 6 LL, .t c.no 1 (tab c.no fun i=> .v (.string (c.fo i)))]),some (.blk [.v (.int .i64 x.n), .v (.int .i64 mv), .v (.int .i64 x.r), .own 3 w.2.length, .own 4 w.2.length]),some (.arr 9 1 (nmT w.2) 0),some (.arr 42 2 (shT w.2) 0)])
  (fun w=>w.1≤c.ni∧iR c.fi w.1=some w.2∧w.2.length=w.1∧okN w.2) (fun w=>c.ni - w.1) (0,[]) ⟨Nat.zero_le _,rfl,rfl,fun p h=>by cases h⟩ ?_ ?_
 ·refine Ent.trans (Ent.adD 2 3 9 1 _ (by omega) rfl rfl) (Ent.trans (Ent.adD 2 4 42 2 _ (by omega) rfl rfl) (Ent.fit ?_));exact Wv.V
 rintro ⟨i,ns⟩ ⟨hi,hins,hlen,hok⟩;simp only at hi hins hlen hok ⊢;by_cases hlt:i<c.ni
 ·have e1:(i:Int)<c.ni:=by omega
  have T:=xG x.n mv x.r ns.length (nmN ns) (shN ns) (c.fi i) (by omega);have hy:=vC x.n mv x.r ns.length (nmN ns) (shN ns);rw [vI] at T;have hb:=Jl (aF ns (c.fi i));have hfc:=Bl (aF ns (c.fi i));have hnx:iR c.fi (i+1)=match aF ns (c.fi i) with | some _=>none | none=>some (ns++[(c.fi i,false,0)]):=by
   show (iR c.fi i).bind _=_;rw [hins];rfl
  have hbad:iR c.fi (i+1)=none→iR c.fi c.ni=none:=fun h=>yL h (by omega)
  cases hf:aF ns (c.fi i) with
  | some q=>
   rw [hf] at hnx T hb hfc;rw [hbad hnx] at hQ;have hQ':R=([], -1,230):=hQ;simp only [fiA,shA,Option.isSome_some,Option.getD_some] at T hb hfc;refine Wv.W1 (ah e1) ?_;refine jd 2 T (by rw [List.map_cons,rQ (ns:=ns) rfl rfl rfl];rfl) (lJ hy (.v _)) hb ?_;refine Wv.W ?_;rw [hQ'];rfl
  | none=>
   rw [hf] at hnx T hb hfc;simp only [fiA,shA,Option.isSome_none,Option.getD_none] at T hb hfc;refine Wv.W1 (ah e1) ?_;refine jd 2 T (by rw [List.map_cons,rQ (ns:=ns) rfl rfl rfl];rfl) (lJ hy (.v _)) hb ?_;refine Wv.W ?_;have hnl:=BH ns;have hsl:=xK ns;have ajm: ∀ a b c' d f z,cellsA [a,b,c',some (.arr 9 1 (nmT ns++[.v (.string (c.fi i))]) z),d,f] (.own 3 (ns.length+1))=some [.own 3 (ns.length+1)]:=fun a b c' d f z=>oK (by rw [mP];show decide _=true;exact ah (by rw [List.length_append,hnl];simp))
   have ajn: ∀ a b c' d f z,cellsA [a,b,c',d,some (.arr 42 2 (shT ns++[.v (.bool false), .v (.int .i64 0)]) z),f] (.own 4 (ns.length+1))=some [.own 4 (ns.length+1)]:=fun a b c' d f z=>oK (by rw [mP];show decide _=true;exact ah (by rw [List.length_append,hsl];simp;omega))
   refine Zu (L:=[0,1,2,8,29,3,33,7,10,46,9,12,59,13,88,15,102,17,116,16,18,148,20,162,19,167,4,5,6]) (by kernel_rfl) 19 12 24 (.own 3 (ns.length+1)) (by kernel_rfl) rfl rfl rfl rfl rfl ⟨_,rfl,rfl⟩ rfl ?_;simp (disch:=first|exact Wv.D|fail) only [Wv.B,simprocAttr,lY,lX,lW,lV,lU,ajm,ajn,hnl,hsl,ah (show ns.length*2+2=(ns.length+1)*2 by omega)];have hsn:=Nh ns (c.fi i) (false,0);have hss:=Nj ns (c.fi i) (false,0);have hll:(ns++[(c.fi i,false,0)]).length=ns.length+1:=by simp
   have hok2:okN (ns++[(c.fi i,false,0)]):=Nk hok ⟨Nat.zero_le _,fun h=>by cases h⟩;refine Wv.iO ((i+1,ns++[(c.fi i,false,0)])) 5 (by first | decide | exact Nat.le_of_ble_eq_true rfl) (⟨by omega,hnx,by rw [hll,hlen],hok2⟩) (by omega) (Wv.V4 @bJ hsn hss hll) (Wv.V5 @Int.natCast_add @Int.natCast_one hsn hss hll) (by simp only [Wv.BL, ↓reduceIte,Nat.reduceLeDiff,Vm,Vo,eq_true hLc,eq_true hCh,GN,GU]<;>omega) (by simp only [Wv.BL, ↓reduceIte,Nat.reduceLeDiff,Vm,Vo,eq_true hLc,eq_true hCh,GN,GU]<;>omega)
 obtain rfl:i=c.ni:=by omega
 clear hlt;rw [hins] at hQ;replace hQ:R=Lj c (fF ns c.ln (fun ns i=>shE ns (ruA x mv) (c.le i)) c.nl):=hQ
 have hnl:=BH ns;have hsl:=xK ns;have hdr: ∀ i,i<c.nl→ ∃ r,List.drop (i*6) LL= .v (.string (c.ln i))::(exC (c.le i)++r):=fun i hi=>by
  obtain ⟨r,h⟩:=bH (f:=fun i=>iD (c.ln i) (c.le i)) (fun i=>gV _ _) hi;exact ⟨r,by rw [←hLL];exact h⟩
 have hnm:c.nl≤1000000:=hcn;refine Wv.W2 @Int.lt_irrefl @decide_false ?_;obtain ⟨ns0,hns0⟩: ∃ ns0,ns0=ns:=⟨_,rfl⟩
 rw [←hns0] at hQ;refine aQ (σ:=Nat × Nms × List (Bool × Nat)) (fun w=>[(2, .ptr 0 0),(3, .ptr 1 0),(9, .ptr 2 0),(13, .v (.int .i64 w.1))])
  (fun w=>[some (.blk [.v (.int .i64 x.n), .v (.int .u32 x.p), .v (.int .i64 x.r), .t x.ch.length 1 CH, .v (.int .u32 x.sp), .v (.int .i64 x.wt), .v (.int .u32 x.er)]),some (.blk [.v (.string c.name), .t c.ni 1 (tab c.ni fun i=> .v (.string (c.fi i))), .t c.nl 6 LL, .t c.no 1 (tab c.no fun i=> .v (.string (c.fo i)))]),some (.blk [.v (.int .i64 x.n), .v (.int .i64 mv), .v (.int .i64 x.r), .own 3 w.2.1.length, .own 4 w.2.1.length]),some (.arr 9 1 (nmT w.2.1) 0),some (.arr 42 2 (shT w.2.1) 0)])
  (fun w=>w.1≤c.nl∧fF ns0 c.ln (fun ns i=>shE ns (ruA x mv) (c.le i)) w.1= .ok w.2∧w.2.1.length=c.ni+w.1∧okN w.2.1∧(shT w.2.1).drop (c.ni*2)=shL w.2.2∧w.2.2.length=w.1) (fun w=>c.nl - w.1) (0,ns,[]) ⟨Nat.zero_le _,by rw [hns0];rfl,hlen,hok,by rw [←hlen, ←hsl,List.drop_length];rfl,rfl⟩ rfl Wv.V ?_
 clear hok hins hlen hnl hsl hns0 ns hi;rintro ⟨i,ns,ss⟩ ⟨hi,hins,hlen,hok,hdrop,hsl2⟩;simp only at hi hins hlen hok hdrop hsl2 ⊢;have hnl:=BH ns;have hsl:=xK ns;have hy:=vC x.n mv x.r ns.length (nmN ns) (shN ns);by_cases hlt:i<c.nl
 ·have e1:(i:Int)<c.nl:=by omega
  have T:=xG x.n mv x.r ns.length (nmN ns) (shN ns) (c.ln i) (by omega);rw [vI] at T;have hb:=Jl (aF ns (c.ln i));have hfc:=Bl (aF ns (c.ln i));obtain ⟨rr,hd⟩:=hdr i hlt;have hnx:fF ns0 c.ln (fun ns i=>shE ns (ruA x mv) (c.le i)) (i+1)=if (aF ns (c.ln i)).isSome=true then .error (i,230) else UE ns ss i (c.ln i) (shE ns (ruA x mv) (c.le i)):=by
   show Af _ _ i (fF _ _ _ i)=_;rw [hins];rfl
  have hbad: ∀ q,fF ns0 c.ln (fun ns i=>shE ns (ruA x mv) (c.le i)) (i+1)= .error q→fF ns0 c.ln (fun ns i=>shE ns (ruA x mv) (c.le i)) c.nl= .error q:=fun q h=>rH h (by omega)
  have hoy:=(hc.le i hlt).1;have hfo:=mY hk hlt;have T2:=aeX x.n x.r mv ns.length (nmN ns) (shN ns) hm2 hm3 hN1 hN2 (by omega) (fun j hj=>ajl hok hj) (c.le i) hoy hfo;have hne: ∀ e,shE ns (ruA x mv) (c.le i)= .error e→e≠0:=fun e he=>Rj (fiR ns.length (nmN ns) (shN ns)) x.n x.r mv (c.le i) e (by rw [Rl x mv ns _ hm2 (fun s=>(vI s ns).symm) (fun s q h=>xM hok (by rw [←vI];exact h)) (c.le i) hoy hfo];exact he)
  rw [Rl x mv ns _ hm2 (fun s=>(vI s ns).symm) (fun s q h=>xM hok (by rw [←vI];exact h)) (c.le i) hoy hfo] at T2;have hb2:=aaL (shE ns (ruA x mv) (c.le i));have anl: ∀ q,shE ns (ruA x mv) (c.le i)= .ok q→q.2≤8∧(q.1=true→q.2=0):=fun q hq=>⟨yJ (fun s r h=>(xM hok h).1) (c.le i) hq,aji (fun s r h=>(xM hok h).2) (c.le i) hq⟩
  have hG:=bU (c.le i);obtain ⟨c0,c1,c2,c3,c4,c5,c6,h5⟩:=pI (c.le i);rw [h5] at T2 hG hd;simp only [List.cons_append,List.nil_append] at hd;cases hf:aF ns (c.ln i) with
  | some q=>
   rw [hf] at hnx T hb hfc;rw [hbad _ hnx] at hQ;have hQ':R=([],((i:Nat):Int),230):=hQ;simp only [fiA,shA,Option.isSome_some,Option.getD_some] at T hb hfc;refine Wv.W2 (ah e1) hd ?_;refine jd 2 T (by rw [List.map_cons,rQ (ns:=ns) rfl rfl rfl];rfl) (lJ hy (.v _)) hb ?_;refine Wv.W ?_;rw [hQ'];rfl
  | none=>
   rw [hf] at hnx T hb hfc;simp only [fiA,shA,Option.isSome_none,Option.getD_none] at T hb hfc;refine Wv.W2 (ah e1) hd ?_;refine jd 2 T (by rw [List.map_cons,rQ (ns:=ns) rfl rfl rfl];rfl) (lJ hy (.v _)) hb ?_;simp (disch:=first|exact Wv.D|fail) only [Wv.B,simprocAttr,hd];cases hO:shE ns (ruA x mv) (c.le i) with
   | error e=>
    rw [hO] at T2 hb2 hnx;have hne:=hne e hO;rw [hbad _ hnx] at hQ;have hQ':R=([],((i:Nat):Int),e):=hQ;unfold ng shA at T2 hb2;refine jd 2 T2 (by rw [List.map_cons,rQ (ns:=ns) rfl rfl rfl];rfl) (lJ hy hG) hb2 ?_;refine Wv.W1 (aj hne) ?_;rw [hQ'];unfold tyR EO;rw [if_neg hne]
   | ok q=>
    rw [hO] at T2 hb2 hnx;obtain ⟨q1,q2⟩:=q;have hq8:=anl _ hO;unfold ng shA at T2 hb2;refine jd 2 T2 (by rw [List.map_cons,rQ (ns:=ns) rfl rfl rfl];rfl) (lJ hy hG) hb2 ?_;refine Wv.W ?_;have ajm: ∀ a b c' d f g z,cellsA [a,b,c',some (.arr 9 1 (nmT ns++[.v (.string (c.ln i))]) z),d,f,g] (.own 3 (ns.length+1))=some [.own 3 (ns.length+1)]:=fun a b c' d f g z=>oK (by rw [mP];show decide _=true;exact ah (by rw [List.length_append,hnl];simp))
    have ajn: ∀ a b c' d f g z,cellsA [a,b,c',d,some (.arr 42 2 (shT ns++[.v (.bool q1), .v (.int .i64 q2)]) z),f,g] (.own 4 (ns.length+1))=some [.own 4 (ns.length+1)]:=fun a b c' d f g z=>oK (by rw [mP];show decide _=true;exact ah (by rw [List.length_append,hsl];simp;omega))
    refine Zu (L:=[0,1,2,8,29,3,33,7,10,46,9,12,59,13,88,15,102,17,116,16,18,148,20,162,19,167,4,5,6]) (by kernel_rfl) 20 13 24 (.own 3 (ns.length+1)) (by kernel_rfl) rfl rfl rfl rfl rfl ⟨_,rfl,rfl⟩ rfl ?_;simp (disch:=first|exact Wv.D|fail) only [Wv.B,simprocAttr,hd,lY,lX,lW,lV,lU,ajm,ajn,hnl,hsl,ah (show ns.length*2+2=(ns.length+1)*2 by omega)];have hsn:=Nh ns (c.ln i) (q1,q2);have hss:=Nj ns (c.ln i) (q1,q2);have hll:(ns++[(c.ln i,q1,q2)]).length=ns.length+1:=by simp
    have hok2:okN (ns++[(c.ln i,q1,q2)]):=Nk hok hq8;have anm:(shT (ns++[(c.ln i,q1,q2)])).drop (c.ni*2)=shL (ss++[(q1,q2)]):=by
     rw [hss,List.drop_append_of_le_length (by omega),hdrop];unfold shL;rw [List.flatMap_append];rfl
    refine Wv.iO ((i+1,ns++[(c.ln i,q1,q2)],ss++[(q1,q2)])) 5 (by first | decide | exact Nat.le_of_ble_eq_true rfl) (⟨by omega,hnx,by rw [hll];omega,hok2,anm,by rw [List.length_append,hsl2];rfl⟩) (by omega) (Wv.V4 @bJ hsn hss hll) (Wv.V5 @Int.natCast_add @Int.natCast_one hsn hss hll) (by simp only [Wv.BL, ↓reduceIte,Nat.reduceLeDiff,Vm,Vo,eq_true hLc,eq_true hCh,GN,GU]<;>omega) (by simp only [Wv.BL, ↓reduceIte,Nat.reduceLeDiff,Vm,Vo,eq_true hLc,eq_true hCh,GN,GU]<;>omega)
 obtain rfl:i=c.nl:=by omega
 clear hlt;rw [hins] at hQ;replace hQ:R=lastT ss c.nl (outT ns c.fo c.no):=hQ
 have anG:=hc.no;refine Wv.W2 @Int.lt_irrefl @decide_false ?_;refine aQ (σ:=Nat) (fun i=>[(2, .ptr 0 0),(3, .ptr 1 0),(9, .ptr 2 0),(18, .v (.int .i64 i))])
  (fun _=>[some (.blk [.v (.int .i64 x.n), .v (.int .u32 x.p), .v (.int .i64 x.r), .t x.ch.length 1 CH, .v (.int .u32 x.sp), .v (.int .i64 x.wt), .v (.int .u32 x.er)]),some (.blk [.v (.string c.name), .t c.ni 1 (tab c.ni fun i=> .v (.string (c.fi i))), .t c.nl 6 LL, .t c.no 1 (tab c.no fun i=> .v (.string (c.fo i)))]),some (.blk [.v (.int .i64 x.n), .v (.int .i64 mv), .v (.int .i64 x.r), .own 3 ns.length, .own 4 ns.length]),some (.arr 9 1 (nmT ns) 0),some (.arr 42 2 (shT ns) 0)])
  (fun i=>i≤c.no∧outT ns c.fo i=none) (fun i=>c.no - i) 0 ⟨Nat.zero_le _,rfl⟩ rfl Wv.V ?_
 rintro i ⟨hi2,hout⟩;by_cases hlt:i<c.no
 ·have e1:(i:Int)<c.no:=by omega
  have T:=xG x.n mv x.r ns.length (nmN ns) (shN ns) (c.fo i) (by omega);rw [vI] at T;have hb:=Jl (aF ns (c.fo i));have hnx:outT ns c.fo (i+1)=IE (aF ns (c.fo i)):=by
   show (match outT ns c.fo i with | some e=>some e | none=>IE (aF ns (c.fo i)))=_;rw [hout]
  have hbad: ∀ e,outT ns c.fo (i+1)=some e→outT ns c.fo c.no=some e:=fun e h=>tX h (by omega)
  cases hf:aF ns (c.fo i) with
  | none=>
   rw [hf] at hnx T hb;rw [hbad _ hnx] at hQ;have hQ':R=([],((c.nl:Nat):Int),230):=hQ;simp only [fiA,shA,Option.isSome_none,Option.getD_none] at T hb;refine Wv.W1 (ah e1) ?_;refine jd 2 T (by rw [List.map_cons,rQ (ns:=ns) rfl rfl rfl];rfl) (lJ hy (.v _)) hb ?_;refine Wv.W ?_;rw [hQ'];rfl
  | some q=>
   rw [hf] at hnx T hb;obtain ⟨q1,q2⟩:=q;simp only [fiA,shA,Option.isSome_some,Option.getD_some] at T hb;refine Wv.W1 (ah e1) ?_;refine jd 2 T (by rw [List.map_cons,rQ (ns:=ns) rfl rfl rfl];rfl) (lJ hy (.v _)) hb ?_;cases q1 with
   | true=>
    rw [hbad _ hnx] at hQ;have hQ':R=([],((c.nl:Nat):Int),234):=hQ;refine Wv.W ?_;rw [hQ'];rfl
   | false=>
    refine Wv.W ?_;refine Wv.iO (i+1) 5 (by first | decide | exact Nat.le_of_ble_eq_true rfl) (⟨by omega,hnx⟩) (by omega) (Wv.V1 @bJ) Wv.V2 (by simp only [Wv.BL, ↓reduceIte,Nat.reduceLeDiff,Vm,Vo,eq_true hLc,eq_true hCh,GN,GU]<;>omega) (by simp only [Wv.BL, ↓reduceIte,Nat.reduceLeDiff,Vm,Vo,eq_true hLc,eq_true hCh,GN,GU]<;>omega)
 ·obtain rfl:i=c.no:=by omega
  rw [hout] at hQ;have hQ':R=(ss,0,0):=hQ;refine Wv.W5 @Int.lt_irrefl @decide_false hnl hsl hdrop ?_;have hT:AV.t (ns.length - c.ni) 2 (List.drop (c.ni*2) (List.take (ns.length*2) (shT ns)))= .t c.nl 2 (shL ss):=by
   rw [List.take_of_length_le (by omega),hdrop,hlen,Nat.add_sub_cancel_left]
  rw [Pj (T':=42) (s:=2) (cells:=shT ns) (fz:=ns.length*2) (a:=c.ni) (b:=ns.length)]
  case hid=>rfl
  case ha=>exact Vk c.ni
  case hb=>rfl
  case hs=>rfl
  case hl=>exact hsl
  case h1=>omega
  case h2=>exact Nat.le_refl _
  rw [hT];have hcs: ∀ h,cellsA h (.t c.nl 2 (shL ss))=some [.t c.nl 2 (shL ss)]:=fun h=>rfl
  refine Wv.W1 hcs ?_;rw [hQ', ←hsl2];rfl
end
section
open Go.RowKit Wv
theorem aaN (x:Par) (hx:qY x) (hlen:x.ch.length≤140737488351232) (lH: ∀ q,q∈x.ch→q<4294967296):TC Tryz.prog 83 [.g (dN x)] (.v (.int .i64 (chk aH x))):=by
 have hcx:=dI x;have hno:=ahW (pr:=aH) (x:=x);have hwt:wtB x=decide (1≤x.wt∧x.wt≤x.n∧x.er≤64):=rfl;have hle:qc x.ch.length=decide (1≤x.ch.length∧x.ch.length≤24):=rfl;rw [Jc];unfold qo;refine Wv.TC.by 100 [0,1,38,3,56,4,61,83,5,86,99,2] [(9,18),(14,10)] [.tmp 2] Tryz.func83 rfl rfl rfl ?clo ?_
 case clo=>simp only [Wv.BC]
 refine Wv.W ?_;refine ak (aiP x.n hx.n0 hx.n1) rfl Wv.c Wv.c ?_;cases hd:jo x.n with
 | false=>exact Wv.V1 (hno (.inl hd))
 | true=>
 have hn:4≤x.n∧x.n≤32:=by have:=nT hd;omega
 by_cases l1:x.ch.length<1
 ·exact Wv.V2f (ah (show (x.ch.length:Int)<1 by omega)) (hno (.inr (.inl (hle.trans (aj (by omega))))))
 have dl1:=aj (show ¬ (x.ch.length:Int)<1 by omega);by_cases l2:x.ch.length>24
 ·exact Wv.V3 dl1 (ah (show (x.ch.length:Int)>24 by omega)) (hno (.inr (.inl (hle.trans (aj (by omega))))))
 have dl2:=aj (show ¬ (x.ch.length:Int)>24 by omega);by_cases w1:x.wt<1
 ·exact Wv.V4 dl1 dl2 (ah w1) (hno (.inr (.inr (.inl (hwt.trans (aj (by omega)))))))
 by_cases w2:x.wt>x.n
 ·exact Wv.V5 dl1 dl2 (aj w1) (ah w2) (hno (.inr (.inr (.inl (hwt.trans (aj (by omega)))))))
 by_cases w3:x.er>64
 ·simp (disch:=first|exact Wv.D|fail) only [Wv.B,simprocAttr,dl1,dl2,aj w1,aj w2,ah (show (x.er:Int)>64 by omega),hno (.inr (.inr (.inl (hwt.trans (aj (by omega))))))]
 have l3:qc x.ch.length=true:=hle.trans (ah (by omega));have w4:wtB x=true:=hwt.trans (ah (by omega));refine Wv.W5 dl1 dl2 (aj w1) (aj w2) (aj (show ¬ (x.er:Int)>64 by omega)) ?_;refine ak (Md x.n x.p x.r hn.1 hn.2 hx.p1 hx.r0 hx.r1) rfl Wv.c Wv.c ?_;have ht:=Ic aH x.n x.p x.r;have hsd:stepOf aH x=(2*x.n).toNat*iL aH x.n x.p x.r:=rfl;have htd:x.t aH=iL aH x.n x.p x.r:=rfl;rw [←htd] at ht hsd ⊢;by_cases t0:0<x.t aH
 case neg=>
  have e0:x.t aH=0:=by omega
  rw [e0];exact Wv.V2f @Int.natCast_zero (hno (.inr (.inr (.inr (.inl t0)))))
 have hyes:=adV (pr:=aH) hd l3 w4 t0;have G:=fun q hq=>aeM x.n (x.t aH) q hn.1 hn.2 t0 ht hq
 rw [←hsd] at G;refine Wv.W1 (aj (show ¬ (x.t aH:Int)=0 by omega)) ?_;refine ak (G x.sp hx.sp1) rfl Wv.c Wv.c ?_;cases hg:jF aH (stepOf aH x) x.sp with
 | false=>exact Wv.V1 (hno (.inr (.inr (.inr (.inr (.inl hg))))))
 | true=>
 have hbd: ∀ q,nD aH (stepOf aH x) x.sp q=!(decide (q<x.sp) && jF aH (stepOf aH x) q):=fun q=>rfl
 have hat: ∀ j,(h:j<x.ch.length)→x.ch[j]! =x.ch[j]:=fun j h=>getElem!_pos x.ch j h
 have hmem: ∀ j,j<x.ch.length→x.ch[j]!∈x.ch:=fun j h=>by rw [hat j h];exact List.getElem_mem h
 generalize x.t aH=t at*;generalize stepOf aH x=s at*;refine Wv.W ?_;refine aQ (σ:=Nat) (fun i=>[(1, .ptr 0 0),(3, .v (.int .i64 t)),(4, .v (.int .i64 i))])
  (fun _=>[some (.blk (qo x))]) (fun i=>i≤x.ch.length∧(∀ j,j<i→nD aH s x.sp x.ch[j]! =false)∧(x.ch.take i).Nodup) (fun i=>x.ch.length - i) 0 ⟨Nat.zero_le _,fun j h=>by omega,by simp⟩ rfl Wv.V ?_
 rintro i ⟨h1,h2,h3⟩;try simp only at h1 h2 h3 ⊢
 unfold qo;by_cases hi:i<x.ch.length
 case neg=>
  have hR:=hyes hg (fun q hq=>by
   obtain ⟨j,hj,rfl⟩:=List.mem_iff_getElem.1 hq;rw [←hat j hj];exact h2 j (by omega)) (by rw [List.take_of_length_le (by omega)] at h3;exact h3)
  exact Wv.V2f (aj (show ¬ (i:Int)<x.ch.length by omega)) hR
 have hqi:=hmem i hi;refine Wv.W1 (ah (show (i:Int)<x.ch.length by omega)) ?_;refine eU (G x.ch[i]! (lH _ hqi)) rfl Wv.c Wv.c ?_;cases hgi:jF aH s x.ch[i]! with
 | false=>
  have hR:=hno (.inr (.inr (.inr (.inr (.inr (.inl ⟨_,hqi,by rw [hbd,hgi,Bool.and_false];rfl⟩))))));simp (disch:=first|exact Wv.D|fail) only [Wv.B,simprocAttr,hR]
 | true=>
 by_cases hsp:x.ch[i]! <x.sp
 case neg=>
  have hR:=hno (.inr (.inr (.inr (.inr (.inr (.inl ⟨_,hqi,by rw [hbd,aj hsp];rfl⟩))))));exact Wv.V2f (ah (show (x.ch[i]! :Int)≥x.sp by omega)) hR
 refine Wv.W1 (aj (show ¬ (x.ch[i]! :Int)≥x.sp by omega)) ?_;refine aQ (σ:=Nat) (fun k=>[(1, .ptr 0 0),(3, .v (.int .i64 t)),(4, .v (.int .i64 i)),(5, .v (.int .i64 k))])
  (fun _=>[some (.blk (qo x))]) (fun k=>k≤i∧ ∀ j,j<k→x.ch[j]!≠x.ch[i]!) (fun k=>i - k) 0 ⟨Nat.zero_le _,fun j h=>by omega⟩ rfl Wv.V ?_
 rintro k ⟨k1,k2⟩;try simp only at k1 k2 ⊢
 unfold qo;by_cases hki:k<i
 ·by_cases he:x.ch[k]! =x.ch[i]!
  ·have hR:=hno (.inr (.inr (.inr (.inr (.inr (.inr (ahX hi hki (by rw [←hat k (by omega), ←hat i hi];exact he))))))));exact Wv.V3 (ah (show (k:Int)<i by omega)) (ah (show (x.ch[k]! :Int)=x.ch[i]! by omega)) hR
  ·refine Wv.W2 (ah (show (k:Int)<i by omega)) (aj (show ¬ (x.ch[k]! :Int)=x.ch[i]! by omega)) ?_;refine au (k+1) ⟨by omega,fun j hj=>?_⟩ (by omega) rfl Wv.V2;rcases (show j<k∨j=k by omega) with q | rfl
   ·exact k2 j q
   ·exact he
 ·refine Wv.W1 (aj (show ¬ (k:Int)<i by omega)) ?_;refine au (i+1) ⟨by omega,fun j hj=>?_,NV hi h3 fun j hj=>?_⟩ (by omega) rfl Wv.V2
  ·rcases (show j<i∨j=i by omega) with q | rfl
   ·exact h2 j q
   ·rw [hbd,hgi,ah hsp];rfl
  ·rw [←hat j (by omega), ←hat i hi];exact k2 j (by omega)
end
section
open Go.RowKit Wv
theorem ae1 (x:Par) (k:Int) (hx:qY x) (hlen:x.ch.length≤140737488351232) (lH: ∀ q,q∈x.ch→q<4294967296):TC Tryz.prog 36 [.g (dN x), .v (.int .i64 k)] (.tup [.v (.int .i64 (eY aH x k:Nat)), .v (.int .i64 (fK aH x k))]):=by
 have hC:=aaN x hx hlen lH;have hcx:Clo (.g (dN x)):= .g (dI x);rw [Jc] at*;unfold qo at*;refine Wv.TC.by 25 [0,2,1,18,4,5] [] [.tmp 4, .tmp 5] Tryz.func36 rfl rfl rfl ?clo ?_
 case clo=>simp only [Wv.BC]
 refine Wv.W ?_;refine ak hC rfl (by simp only [Wv.BC]<;>exact hcx) Wv.c ?_;cases hok:okB aH x with
 | false=>
  have hR:=yh (k:=k) (show kS aH x k=false by unfold kS;rw [hok];rfl);rw [Ig hok];simp (disch:=first|exact Wv.D|fail) only [Wv.B,simprocAttr,hR.1,hR.2,Int.natCast_zero]
 | true=>
 have hn:=Ii hok;rw [YM hok];by_cases h1:k<1
 ·have hR:=yh (k:=k) (show kS aH x k=false by unfold kS;rw [aj (show ¬ 1≤k by omega)];simp);simp (disch:=first|exact Wv.D|fail) only [Wv.B,simprocAttr,ah h1,hR.1,hR.2,Int.natCast_zero]
 by_cases h2:k>x.r
 ·have hR:=yh (k:=k) (show kS aH x k=false by unfold kS;rw [aj (show ¬ k≤x.r by omega)];simp);simp (disch:=first|exact Wv.D|fail) only [Wv.B,simprocAttr,aj h1,ah h2,hR.1,hR.2,Int.natCast_zero]
 have hR:=Ij (k:=k) (show kS aH x k=true by unfold kS;rw [hok,ah (show 1≤k by omega),ah (show k≤x.r by omega)];rfl);have:=hx.r1;refine Wv.W2 (aj h1) (aj h2) ?_;refine ak (Md x.n x.p k hn.1 hn.2 hx.p1 (by omega) (by omega)) rfl Wv.c Wv.c ?_;simp (disch:=first|exact Wv.D|fail) only [Wv.B,simprocAttr,hR.1,hR.2]
end
end Go.Proofs.YtljfgdlgmdcmfaaGreat
