/- Parts of a proof. -/
import Derived.Test.YtljfgdlgmdcmfaaGreatQwn
import Derived.Test.YtljfgdlgmdcmfaaGreatQwk
import Derived.Test.YtljfgdlgmdcmfaaGreatQwj
import Derived.Test.YtljfgdlgmdcmfaaGreatQwl
set_option linter.unusedVariables false
set_option linter.unusedSimpArgs false
set_option maxHeartbeats 3200000
set_option maxRecDepth 100000
namespace Go.Proofs.YtljfgdlgmdcmfaaGreat
section
open Go.RowKit Wv
variable {m:Nat}
theorem NC (a b:List Nat) (hb: ∀ i,b.getD i 0<m) (i:Nat):eqm m (cI (minL m a b) i) (cI a i+ -1*cI b i):=by
 unfold minL;rw [qp,Eu];by_cases h:i<max a.length b.length
 ·rw [if_pos h];unfold Vl;have e1:(if i<a.length then a.getD i 0 else 0)=a.getD i 0:=by
   by_cases h:i<a.length
   ·rw [if_pos h]
   ·rw [if_neg h];simp [Nat.le_of_not_lt h]
  have e2:(if i<b.length then b.getD i 0 else 0)=b.getD i 0:=by
   by_cases h:i<b.length
   ·rw [if_pos h]
   ·rw [if_neg h];simp [Nat.le_of_not_lt h]
  rw [e1,e2];exact (xO (Nat.le_of_lt (hb i))).trans ⟨0,by unfold cI;grind⟩
 ·rw [if_neg h,gV (l:=a) (by omega),gV (l:=b) (by omega)];exact ⟨0,by grind⟩
theorem RF (a b:List Nat) (hb: ∀ i,b.getD i 0<m) (x:Int):eqm m (evL (minL m a b) x) (evL a x - evL b x):=by
 obtain ⟨N,h1,h2,h3⟩: ∃ N,(minL m a b).length≤N∧a.length≤N∧b.length≤N:=⟨max a.length b.length,xK _ _ _,by omega,by omega⟩
 rw [←jc h1, ←jc h2, ←jc h3];have:=um (n:=N) (f:=cI a) (g:=cI b) (c:= -1) (x:=x);refine (pJ fun i _=>NC a b hb i).trans ⟨0,by rw [this];grind⟩
variable {f:Nat→Nat}{i:Nat}
theorem Ew {g:Nat→Nat} : ∀ {k:Nat},(∀ j,j<k→g (i - j)=0)→cvS m f g i k=0
 | 0,_=>rfl
 | k+1,h=>by
  unfold cvS;rw [Ew fun j hj=>h j (by omega),h k (by omega),Nat.mul_zero];exact Nat.zero_mod _
theorem RG (a:List Nat) (i:Nat):atF a.length (fun i=>a.getD i 0) i=a.getD i 0:=by
 unfold atF;by_cases h:i<a.length
 ·rw [if_pos h]
 ·rw [if_neg h];simp [Nat.le_of_not_lt h]
theorem GY (m u:Nat) (a:List Nat) (i:Nat):eqm m (cI (ku m a [u,1]) i) (upF (cI a) i+u*cI a i):=by
 unfold ku;rw [qp,Eu];have h2:[u,1].length=2:=rfl;rw [h2];have ha:=RG a;generalize hf:atF a.length (fun i=>a.getD i 0)=f at*;have g0:atF 2 (fun i=>[u,1].getD i 0) 0=u:=rfl;have g1:atF 2 (fun i=>[u,1].getD i 0) 1=1:=rfl;have g2: ∀ j,2≤j→atF 2 (fun i=>[u,1].getD i 0) j=0:=fun j hj=>if_neg (by omega)
 generalize atF 2 (fun i=>[u,1].getD i 0)=g at*;by_cases h:i<a.length+2
 ·rw [if_pos h];cases i with
  | zero=>
   have e:cvS m f g 0 (0+1)=(0+f 0*u) % m:=by simp only [cvS,Nat.sub_zero,g0]
   rw [e,ha];refine (eqm.nat m _).trans ⟨0,?_⟩;rw [Int.natCast_add,Int.natCast_mul];simp only [upF,cI];grind
  | succ i=>
   have e0:cvS m f g (i+1) i=0:=Ew fun j hj=>g2 _ (by omega)
   have e1:cvS m f g (i+1) (i+1)=(0+f i*1) % m:=by
    show (cvS m f g (i+1) i+f i*g (i+1 - i)) % m=_;rw [e0,show i+1 - i=1 by omega,g1]
   have e:cvS m f g (i+1) (i+1+1)=((0+f i*1) % m+f (i+1)*u) % m:=by
    show (cvS m f g (i+1) (i+1)+f (i+1)*g (i+1 - (i+1))) % m=_;rw [e1,Nat.sub_self,g0]
   rw [e,ha,ha];refine (eqm.nat m _).trans ?_;rw [Int.natCast_add,Int.natCast_mul];refine ((eqm.nat m _).add eqm.rfl').trans ⟨0,?_⟩;rw [Int.natCast_add,Int.natCast_mul];simp only [upF,cI];grind
 ·rw [if_neg h,gV (l:=a) (by omega)];obtain ⟨j,rfl⟩: ∃ j,i=j+1:=⟨i - 1,by omega⟩
  show eqm m 0 (cI a j+u*0);rw [gV (by omega)];exact ⟨0,by grind⟩
theorem GZ (m c:Nat) (a:List Nat) (i:Nat):eqm m (cI (ku m a [c]) i) (c*cI a i):=by
 unfold ku;rw [qp,Eu];have h2:[c].length=1:=rfl;rw [h2];have ha:=RG a;generalize hf:atF a.length (fun i=>a.getD i 0)=f at*;have g0:atF 1 (fun i=>[c].getD i 0) 0=c:=rfl;have g2: ∀ j,1≤j→atF 1 (fun i=>[c].getD i 0) j=0:=fun j hj=>if_neg (by omega)
 generalize atF 1 (fun i=>[c].getD i 0)=g at*;by_cases h:i<a.length+1
 ·rw [if_pos h];have e0:cvS m f g i i=0:=Ew fun j hj=>g2 _ (by omega)
  have e:cvS m f g i (i+1)=(0+f i*c) % m:=by
   show (cvS m f g i i+f i*g (i - i)) % m=_;rw [e0,Nat.sub_self,g0]
  rw [e,ha];refine (eqm.nat m _).trans ⟨0,?_⟩;rw [Int.natCast_add,Int.natCast_mul];simp only [cI];grind
 ·rw [if_neg h,gV (l:=a) (by omega)];exact ⟨0,by grind⟩
theorem aaX (m:Nat) (a:List Nat) (u:Nat) (x:Int):eqm m (evL (ku m a [u,1]) x) ((x+u)*evL a x):=
 Ry (rV _ _ _) (GY m u a) x
theorem aaY (m:Nat) (a:List Nat) (c:Nat) (x:Int):eqm m (evL (ku m a [c]) x) (c*evL a x):=by
 have h1:(ku m a [c]).length≤a.length+1:=rV _ _ _;rw [←jc h1, ←jc (show a.length≤a.length+1 by omega)];have:=um (n:=a.length+1) (f:=fun _=>0) (g:=cI a) (c:=c) (x:=x);rw [Es fun _=>rfl] at this;refine (pJ (g:=fun i=>0+(c:Int)*cI a i) fun i _=>(GZ m c a i).trans ⟨0,by grind⟩).trans ⟨0,by rw [this];grind⟩
def dgL (l:List Nat) (d:Nat):Prop:= ∀ j,d≤j→cI l j=0
theorem Vp {v:Nat} (hv:v<m) (h:eqm m (v:Int) 0):v=0:=by
 obtain ⟨c,h⟩:=h;have h2:((v:Int)) % m=0:=by rw [h,Int.zero_add,Int.mul_emod_right]
 rw [Int.emod_eq_of_lt (by omega) (by omega)] at h2;omega
theorem Jw {l:List Nat} {j:Nat} (hl:l.getD j 0<m) (h:eqm m (cI l j) 0):cI l j=0:=by
 unfold cI at h ⊢;rw [Vp hl h];rfl
variable {a:List Nat}{d:Nat}
theorem aff {u:Nat} (hm:2≤m)  (h:dgL a d):dgL (ku m a [u,1]) (d+1):=fun j hj=>by
 refine Jw (BA (by omega) _ _ _) ((GY m u a j).trans ⟨0,?_⟩);obtain ⟨i,rfl⟩: ∃ i,j=i+1:=⟨j - 1,by omega⟩
 show cI a i+u*cI a (i+1)=_;rw [h i (by omega),h (i+1) (by omega)];grind
theorem afg {c:Nat} (hm:2≤m)  (h:dgL a d):dgL (ku m a [c]) d:=fun j hj=>by
 refine Jw (BA (by omega) _ _ _) ((GZ m c a j).trans ⟨0,?_⟩);rw [h j hj];grind
theorem RH (h:dgL a d):dgL (aX a) d:=fun j hj=>by rw [qp];exact h j hj
theorem aaZ (hm:2≤m) {b:List Nat} (hb: ∀ i,b.getD i 0<m) (h1:dgL a d) (h2:dgL b d):dgL (minL m a b) d:=fun j hj=>by
 refine Jw (BD (by omega) _ _ _) ((NC a b hb j).trans ⟨0,?_⟩);rw [h1 j hj,h2 j hj];grind
theorem ajW (l:List Nat):dgL l l.length:=fun j hj=>gV hj
theorem af5 {l:List Nat}  (h:dgL l d) (x:Int):evF (cI l) d x=evL l x:=by
 rcases Nat.le_total l.length d with q | q
 ·exact jc q x
 ·obtain ⟨k,hk⟩: ∃ k,l.length=d+k:=⟨l.length - d,by omega⟩
  unfold evL;rw [hk];exact (Jv h).symm
theorem RJ {m:Nat} (hm:2≤m) (xs ys:Nat→Nat) (i:Nat): ∀ k,dgL (iE m xs ys i k) (if k≤i then k+1 else k)
 | 0=>by rw [if_pos (Nat.zero_le _)];exact ajW [ys i]
 | k+1=>by
  have ih:=RJ hm xs ys i k;unfold iE;by_cases e:k=i
  ·subst e;rw [if_pos rfl,if_neg (by omega)];rw [if_pos (Nat.le_refl _)] at ih;exact ih
  ·rw [if_neg e];have h1:=afg (c:=(jm ((xs i+m - xs k) % m) m).1) hm (aff (u:=(m - xs k) % m) hm (RH ih));by_cases h:k+1≤i
   ·rw [if_pos h];rw [if_pos (by omega)] at h1;exact h1
   ·rw [if_neg h];rw [if_neg (by omega)] at h1;exact h1
theorem ND {m n:Nat} (hm:2≤m) (xs ys:Nat→Nat) (hx: ∀ i,i<n→xs i<m) (hu: ∀ i k,k<n→i<n→k≠i→jH m ((xs i:Int) - xs k)) (i:Nat) (hi:i<n): ∀ k,k≤n→eqm m (evL (iE m xs ys i k) (xs i)) (ys i)∧ ∀ j,j<k→j≠i→eqm m (evL (iE m xs ys i k) (xs j)) 0
 | 0,_=>⟨⟨0,by show ((ys i:Nat):Int)+(xs i:Int)*0=_;grind⟩,fun j hj=>by omega⟩
 | k+1,hk=>by
  obtain ⟨h1,h2⟩:=ND hm xs ys hx hu i hi k (by omega);unfold iE;by_cases e:k=i
  ·rw [if_pos e];exact ⟨h1,fun j hj hne=>h2 j (by omega) hne⟩
  ·rw [if_neg e];generalize iE m xs ys i k=P at*;have hz:=Rz (Nat.le_of_lt (hx k (by omega)));have hs:=xO (a:=xs i) (Nat.le_of_lt (hx k (by omega)));have hinv:=(Et hm ((hu i k (by omega) hi e).congr hs.symm)).2;generalize (jm ((xs i+m - xs k) % m) m).1=iv at*;have hE: ∀ x:Int,eqm m (evL (ku m (ku m (aX P) [(m - xs k) % m,1]) [iv]) x) (iv*((x - xs k)*evL P x)):=fun x=>by
    refine (aaY m _ iv x).trans (eqm.rfl'.mul ((aaX m _ _ x).trans ?_));rw [Nv];exact ((eqm.rfl'.add hz).mul eqm.rfl').trans ⟨0,by grind⟩
   refine ⟨(hE _).trans ?_,fun j hj hne=>(hE _).trans ?_⟩
   ·have h3:=(eqm.rfl' (a:=(iv:Int))).mul hs.symm;obtain ⟨c1,q1⟩:=h3.trans hinv;obtain ⟨c2,q2⟩:=h1;refine ⟨(iv*((xs i:Int) - xs k))*c2+ys i*c1,?_⟩;rw [q2];have:(iv:Int)*(((xs i:Int) - xs k)*(ys i+m*c2))=(iv*((xs i:Int) - xs k))*ys i+m*((iv*((xs i:Int) - xs k))*c2):=by grind
    rw [this];have q3:(iv*((xs i:Int) - xs k))*ys i=(1+m*c1)*ys i:=by rw [q1]
    rw [q3];grind
   ·by_cases ej:j=k
    ·subst ej;exact ⟨0,by grind⟩
    ·obtain ⟨c2,q2⟩:=h2 j (by omega) hne;exact ⟨iv*((xs j:Int) - xs k)*c2,by rw [q2];grind⟩
theorem afh (hm:2≤m) (xs ys:Nat→Nat) (i:Nat) (hy:ys i<m) (k:Nat): ∀ j,(aX (iE m xs ys i k)).getD j 0<m:=mW (by omega) (xM hm xs ys i hy k).1
theorem RN {m n:Nat} (hm:2≤m) (xs ys:Nat→Nat) (hx: ∀ i,i<n→xs i<m) (hy: ∀ i,i<n→ys i<m) (hu: ∀ i k,k<n→i<n→k≠i→jH m ((xs i:Int) - xs k)): ∀ i,i≤n→(∀ j,j<i→eqm m (evL (nC m n xs ys i) (xs j)) (ys j))∧(∀ j,i≤j→j<n→eqm m (evL (nC m n xs ys i) (xs j)) 0)∧dgL (nC m n xs ys i) n
 | 0,_=>⟨fun j hj=>by omega,fun j _ _=>⟨0,by show (0:Int)=_;grind⟩,fun j hj=>gV (l:=[]) (Nat.zero_le _)⟩
 | i+1,hi=>by
  obtain ⟨h1,h2,h3⟩:=RN hm xs ys hx hy hu i (by omega);obtain ⟨p1,p2⟩:=ND hm xs ys hx hu i (by omega) n (Nat.le_refl _);have pd:=RJ hm xs ys i n;rw [if_neg (by omega)] at pd;have pl:=afh hm xs ys i (hy i (by omega)) n;unfold nC;generalize nC m n xs ys i=O at*;have hnl: ∀ j,(minL m [] (aX (iE m xs ys i n))).getD j 0<m:=BD (by omega) _ _;have hE: ∀ x:Int,eqm m (evL (minL m O (minL m [] (aX (iE m xs ys i n)))) x) (evL O x+evL (iE m xs ys i n) x):=fun x=>by
   refine (RF _ _ hnl x).trans ((eqm.rfl'.sub (RF _ _ pl x)).trans ?_);rw [Nv];exact ⟨0,by show evL O x - (0 - evL (iE m xs ys i n) x)=_;grind⟩
  refine ⟨fun j hj=>(hE _).trans ?_,fun j hj hj2=>(hE _).trans ?_,aaZ hm hnl h3 (aaZ hm pl (fun j hj=>gV (l:=[]) (Nat.zero_le _)) (RH pd))⟩
  ·by_cases e:j=i
   ·subst e;obtain ⟨c1,q1⟩:=h2 j (Nat.le_refl _) (by omega);obtain ⟨c2,q2⟩:=p1;exact ⟨c1+c2,by rw [q1,q2];grind⟩
   ·obtain ⟨c1,q1⟩:=h1 j (by omega);obtain ⟨c2,q2⟩:=p2 j (by omega) e;exact ⟨c1+c2,by rw [q1,q2];grind⟩
  ·obtain ⟨c1,q1⟩:=h2 j (by omega) hj2;obtain ⟨c2,q2⟩:=p2 j hj2 (by omega);exact ⟨c1+c2,by rw [q1,q2];grind⟩
variable {n:Nat}
theorem aa0 (hm:2≤m) (xs ys:Nat→Nat) (hx: ∀ i,i<n→xs i<m) (hy: ∀ i,i<n→ys i<m) (hu: ∀ i k,k<n→i<n→k≠i→jH m ((xs i:Int) - xs k)) (j:Nat):(aX (bZ m xs ys n).1).getD j 0=(nC m n xs ys n).getD j 0:=by
 obtain ⟨n1,_,_⟩:=Nw hm xs ys hx (fun i k hk hi=>hu i k (by omega) hi (by omega)) n (Nat.le_refl _);obtain ⟨o1,_,o3⟩:=RN hm xs ys hx hy hu n (Nat.le_refl _);obtain ⟨k1,_,k3,_⟩:=AU hm xs ys n;obtain ⟨l1,_⟩:=BF hm n xs ys hy n (Nat.le_refl _);rw [GX];generalize (bZ m xs ys n).1=P at*;generalize nC m n xs ys n=O at*;have dP:dgL P n:=fun j hj=>gV (by omega)
 by_cases hj:j<n
 ·have hr:=roots (m:=m) (xs:=fun i=>(xs i:Int)) n (fun i=>cI P i+ -1*cI O i) (fun i hi=>by
   rw [um,af5 dP,af5 o3];obtain ⟨c1,q1⟩:=n1 i hi;obtain ⟨c2,q2⟩:=o1 i hi;exact ⟨c1 - c2,by rw [q1,q2];grind⟩) (fun i k hk hi=>hu i k (by omega) hi (by omega)) j hj
  obtain ⟨c,hc⟩:=hr;have h1:=k1 j;have h2:=l1 j;unfold cI at hc;generalize P.getD j 0=u at*;generalize O.getD j 0=v at*;have e:(u:Int)=v+m*c:=by grind
  have e2:((u:Int)) % m=(v:Int) % m:=by rw [e,Int.add_mul_emod_self_left]
  rw [Int.emod_eq_of_lt (by omega) (by omega),Int.emod_eq_of_lt (by omega) (by omega)] at e2;omega
 ·have h1:=dP j (by omega);have h2:=o3 j (by omega);unfold cI at h1 h2;omega
theorem vM (h: ∀ i,n≤i→f i=0): ∀ k,dF f (n+k)=dF f n
 | 0=>rfl
 | k+1=>by
  show dF f ((n+k)+1)=_;rw [iq,if_pos (h _ (by omega))];exact vM h k
variable {k:Nat}
theorem PV (h1: ∀ i,n≤i→f i=0) (h2: ∀ i,k≤i→f i=0):dF f n=dF f k:=by
 rcases Nat.le_total n k with q | q
 ·obtain ⟨d,rfl⟩: ∃ d,k=n+d:=⟨k - n,by omega⟩
  exact (vM h1 d).symm
 ·obtain ⟨d,rfl⟩: ∃ d,n=k+d:=⟨n - k,by omega⟩
  exact vM h2 d
theorem BH {i k:Nat}: ∀ {n:Nat},(i,k)∈prs n↔k<i∧i<n
 | 0=>by simp [prs]
 | n+1=>by
  show (i,k)∈prs n++rowP n n↔_;rw [List.mem_append,BH (n:=n)];unfold rowP;rw [List.mem_map];constructor
  ·rintro (h | ⟨j,hj,e⟩)
   ·omega
   ·have:=List.mem_range.1 hj;injection e with e1 e2;omega
  ·rintro ⟨h1,h2⟩;by_cases e:i=n
   ·exact .inr ⟨k,List.mem_range.2 (by omega),by rw [e]⟩
   ·exact .inl ⟨h1,by omega⟩
theorem Ey {xs:Nat→Nat}  (hm:2≤m) (hk:xs k<m) (h:Nat.gcd m ((xs i+m - xs k) % m)=1):jH m ((xs i:Int) - xs k):=
 (aaR hm (Nat.mod_lt _ (by omega)) h).congr (xO (Nat.le_of_lt hk))
theorem Ez {xs:Nat→Nat}  (hm:2≤m) (hk:xs k<m) (h:jH m ((xs i:Int) - xs k)):Nat.gcd m ((xs i+m - xs k) % m)=1:=
 (Et hm (h.congr (xO (Nat.le_of_lt hk)).symm)).1
theorem aa1 {m a b:Int} (h:jH m (a - b)):jH m (b - a):=by
 obtain ⟨x,c,h⟩:=h;exact ⟨-x,c,by grind⟩
theorem aa2 {t:Nat} (h2:2≤t) (val:Nat→Int):Ad t val=dO (zk t val):=by
 have hyl: ∀ i,i<t→iY t val i<t:=fun i _=>qh (by omega) val i
 unfold Ad zk Ai kT;cases hl:Ju t t id with
 | true=>
  rw [if_pos rfl];have hx: ¬ (prs t).all (mJ t id)=true:=fun hall=>by
   unfold Ju aG at hl;obtain ⟨i,hi,h⟩:=List.any_eq_true.1 hl;obtain ⟨k,hk,h⟩:=List.any_eq_true.1 h;have hi:=List.mem_range.1 hi;have hk:=List.mem_range.1 hk;unfold okP at h;rw [Bool.not_eq_true',Bool.or_eq_false_iff] at h;have hne:=of_decide_eq_false h.1;have hg:=of_decide_eq_false h.2;rcases Nat.lt_or_gt_of_ne hne with q | q
   ·have:=List.all_eq_true.1 hall (i,k) (BH.2 ⟨q,hi⟩);exact hg (of_decide_eq_true this)
   ·have:=List.all_eq_true.1 hall (k,i) (BH.2 ⟨q,hk⟩);have h3:=of_decide_eq_true this;exact hg (Ez (xs:=id) h2 hk (aa1 (Ey (xs:=id) h2 hi h3)))
  rw [if_neg hx]
 | false=>
  have hu: ∀ i k,k<t→i<t→k≠i→jH t (((id i:Nat):Int) - (id k:Nat)):=fun i k hk hi hne=>by
   unfold Ju aG at hl;have h:=List.any_eq_false.1 hl i (List.mem_range.2 hi);have h:=List.any_eq_false.1 (Bool.eq_false_iff.2 h) k (List.mem_range.2 hk);have h:okP t id i k=true:=by simpa using h
   unfold okP at h;rw [aj hne,Bool.false_or] at h;exact Ey (xs:=id) h2 hk (of_decide_eq_true h)
  have hall:(prs t).all (mJ t id)=true:=List.all_eq_true.2 fun p hp=>by
   obtain ⟨q1,q2⟩:=BH.1 (show (p.1,p.2)∈prs t from hp);exact ah (Ez (xs:=id) h2 (show id p.2<t by show p.2<t;omega) (hu p.1 p.2 (by omega) q2 (by omega)))
  rw [if_pos hall];have key:=aa0 (n:=t) h2 id (iY t val) (fun i hi=>hi) hyl hu;show dO ((dF (fun i=>(aX (bZ t id (iY t val) t).1).getD i 0) (aX (bZ t id (iY t val) t).1).length - 1:Nat):Int)=_;have e:(fun i=>(aX (bZ t id (iY t val) t).1).getD i 0)=fun i=>(nC t t id (iY t val) t).getD i 0:=funext key
  rw [e];rw [PV (f:=fun i=>(nC t t id (iY t val) t).getD i 0) (n:=(aX (bZ t id (iY t val) t).1).length) (k:=(nC t t id (iY t val) t).length) (fun i hi=>by rw [←key i];simp [hi]) (fun i hi=>by simp [hi])];rfl
end
section
open Go.RowKit Wv
def Jy (t:Nat) (k n:Int) (nl:Nat) (li:Nat→Int):Nat × Int:=if k=11 then (if nl=t∧jL t nl li 0 t=true then (dO (zk t li),0) else (0,233))
 else if k=13 then (if IX t n=true then (dO (zk t (xu n)),0) else (0,233)) else (dO ((t:Int) - 1),0)
theorem Vq (N r:Int) (t m:Nat) (nm:Nat→ByteArray) (sh:Nat→Bool × Nat) (k:Int) (s:ByteArray) (n:Int) (nl:Nat) (li:Nat→Int) (na:Nat) (ar:Nat→Ex) (h2:2≤t) (ht':t≤4611686018427387904) (hk:k=11∨k=13→t≤256) (hnl:nl≤140737488351232) (hli: ∀ i,i<nl→inB (li i)=true):
  TC Tryz.prog 189 [.tp (yC N t r m nm sh), .g (exC (.mk k s n nl li na ar))] (.tup [.v (.int .i64 (Jy t k n nl li).1), .v (.int .i64 (Jy t k n nl li).2)]):=by
 have hx:=dh (.mk k s n nl li na ar);have TL:=Np N t r m nm sh nl li t hnl hli (by omega) (by omega);have TD:=fun val h256 hb=>PU N r t m nm sh val h2 h256 hb
 have hY:=vK N t r m nm sh;have hR:Jy t k n nl li=if k=11 then (if nl=t∧jL t nl li 0 t=true then (dO (zk t li),0) else (0,233))
  else if k=13 then (if IX t n=true then (dO (zk t (xu n)),0) else (0,233)) else (dO ((t:Int) - 1),0):=rfl
 generalize Jy t k n nl li=R at*;have anl: ∀ val,t≤256→(zk t val:Int)≤1000:=fun val h=>by
  have h1:=Nz h2 val;have h3:=rH (fun i=>(Ai t val).getD i 0) (Ai t val).length;unfold zk;omega
 have hlo: ∀ j,lo j (.tp (yC N t r m nm sh))=True:=fun j=>eq_true (.clo hY)
 simp only [yC,bT] at TL TD hY hlo ⊢;simp only [cO] at hx ⊢;have hA:Clo (.t na 5 (dH na fun i=>exC (ar i))):= .t (dB fun i _=>eU _);generalize (AV.t na 5 (dH na fun i=>exC (ar i)))=A at*;have hAl: ∀ j,lo j A=True:=fun j=>eq_true (.clo hA)
 generalize shM m sh=L2 at*;refine Wv.TC.by 75 [1,3,9,10,0,30,36,49,7,55,6,4,5] [(3,16),(7,10)] [.tmp 4, .tmp 5] Tryz.func189 rfl rfl rfl ?clo ?_
 case clo=>simp only [Wv.BC]
 by_cases k1:k=11
 ·subst k1;rw [if_pos rfl] at hR;have h256:=hk (.inl rfl);by_cases g1:nl=t
  ·subst g1;cases hl:jL nl nl li 0 nl with
   | true=>
    rw [hl] at TL;rw [if_pos ⟨rfl,hl⟩] at hR;have T:=TD li h256 hli;have hd:=anl li h256;generalize zk nl li=D at*;subst hR;have TS:=uo (D:Nat) (by omega);refine Wv.W ?_;refine ak TL rfl (by simp only [Wv.BC];exact hY) Wv.c ?_;refine Wv.W ?_;refine ak T rfl (by simp only [Wv.BC];exact hY) Wv.c ?_;refine Wv.W ?_;refine ak TS rfl Wv.c Wv.c ?_;simp (disch:=first|exact Wv.D|fail) only [Wv.B,simprocAttr]
   | false=>
    rw [hl] at TL;rw [if_neg (fun h=>by rw [hl] at h;cases h.2)] at hR;subst hR;refine Wv.W ?_;refine ak TL rfl (by simp only [Wv.BC];exact hY) Wv.c ?_;simp (disch:=first|exact Wv.D|fail) only [Wv.B,simprocAttr]
  ·have e1: ¬ (nl:Int)=(t:Int):=by omega
   rw [if_neg (fun h=>g1 h.1)] at hR;subst hR;exact Wv.V1 (aj e1)
 ·rw [if_neg k1] at hR;by_cases k2:k=13
  ·subst k2;rw [if_pos rfl] at hR;have h256:=hk (.inr rfl);by_cases g1:0≤n
   ·have e1: ¬ n<0:=by omega
    by_cases g2:n≤(t:Int)
    ·have e2: ¬ (t:Int)<n:=by omega
     rw [if_pos (by unfold IX;rw [ah g1,ah g2];rfl)] at hR;have T:=TD (xu n) h256 (fun i _=>by unfold xu;split<;>decide);have hd:=anl (xu n) h256;generalize zk t (xu n)=D at*;subst hR;have TS:=uo (D:Nat) (by omega);have hlv: ∀ i:Nat,(if (i:Int)<n then 1 else 0:Int)=xu n i:=fun i=>rfl
     refine Wv.W2 (aj e1) (aj e2) ?_;refine lQ (σ:=Nat) (fun i=>[(0, .tp [.v (.int .i64 N), .v (.int .i64 t), .v (.int .i64 r), .t m 1 (tab m fun i=> .v (.string (nm i))), .t m 2 L2]),(3, .ptr 0 0),(6, .own 1 i),(7, .v (.int .i64 i))])
      (fun i=>[some (.blk [.v (.int .i64 13), .v (.string s), .v (.int .i64 n), .t nl 1 (tab nl fun i=> .v (.int .i64 (li i))),A]),some (.arr 2 1 (tab i fun i=> .v (.int .i64 (xu n i))) 0)]) (fun i=>i≤t) (fun i=>t - i) 0 (Nat.zero_le _) ?_ ?_
     ·refine Ent.trans (Ent.nil 6 2 1 (by omega) rfl) (Ent.fit ?_);exact Wv.V
     intro i hi;by_cases hlt:i<t
     ·have e3:(i:Int)<(t:Int):=by omega
      have TE:=aaK i n;rw [hlv] at TE;refine Wv.W1 (ah e3) ?_;refine ak TE rfl Wv.c Wv.c ?_;refine Wv.W ?_;refine Wv.iw (i+1) 2 (by first | decide | exact Nat.le_of_ble_eq_true rfl) (by omega) (by omega) (Wv.V1 @bG) Wv.V2 (by simp only [Wv.BL, ↓reduceIte,Nat.reduceLeDiff,hlo,hAl]<;>omega) (by simp only [Wv.BL, ↓reduceIte,Nat.reduceLeDiff,hlo,hAl]<;>omega)
     ·obtain rfl:t=i:=by omega
      refine Wv.W2 @Int.lt_irrefl @decide_false ?_;refine kW T (by simp only [Wv.BC];exact hY) Wv.c ?_;refine Wv.W ?_;refine jk rfl ?_;refine Wv.W ?_;refine ak TS rfl Wv.c Wv.c ?_;exact Wv.V
    ·have e2:(t:Int)<n:=by omega
     rw [if_neg (by unfold IX;rw [aj g2,Bool.and_false];decide)] at hR;subst hR;exact Wv.V2f (aj e1) (ah e2)
   ·have e1:n<0:=by omega
    rw [if_neg (by unfold IX;rw [aj g1,Bool.false_and];decide)] at hR;subst hR;exact Wv.V1 (ah e1)
  ·rw [if_neg k2] at hR;have TS:=uo ((t:Int) - 1) (by omega);subst hR;refine Wv.W2 (aj k1) (aj k2) ?_;refine ak TS rfl Wv.c Wv.c ?_;exact Wv.V
end
section
open Go.RowKit Wv
def szR (b:Bool):Int:=if b=true then 0 else 233
def vN (N r:Int) (t:Nat) (o:Option (Bool × Nat)) (k n:Int) (nl:Nat) (li:Nat→Int) (unk:Nat):Nat × Int:=
 if k=1 then (0,if o.isSome=true then 0 else 230)
 else if k=2 then (0,szR (ny t n))
 else if k=3 then (0,szR (jL t nl li 0 N))
 else if k=8 then (0,szR (decide (0≤n) && decide (n<N / 2)))
 else if k=10 then (0,szR (decide ((nl:Int)≤N) && !aG nl fun i=>!decide (li i=0) && !decide (li i=1)))
 else if k=14 then (dO n,szR (decide (1≤n) && decide (n≤64)))
 else if k=7 then (if unk=2 then 1 else 0,0)
 else if k=11∨k=13∨k=12 then (if r=1∧(k=12∨t≤256) then Jy t k n nl li else (0,231))
 else (0,0)
def zn (o:Option (Bool × Nat)) (k:Int) (q:Bool × Nat):Bool × Nat:=if k=1 then o.getD q else q
theorem afi (N r:Int) (t m:Nat) (nm:Nat→ByteArray) (sh:Nat→Bool × Nat) (k:Int) (s:ByteArray) (n:Int) (nl:Nat) (li:Nat→Int) (na:Nat) (ar:Nat→Ex) (unk:Nat) (q:Bool × Nat) (A B:List AV) (hAc: ∀ a,a∈A→Clo a) (hBc: ∀ a,a∈B→Clo a) (h2:2≤t) (ht':t≤4611686018427387904) (hN:0≤N) (hN':N≤4611686018427387904) (hm:m≤140737488351232) (hnl:nl≤140737488351232) (hli: ∀ i,i<nl→inB (li i)=true) (hn:inB n=true):
  HT Tryz.prog 116 [.tp (yC N t r m nm sh), .g (exC (.mk k s n nl li na ar)), .v (.int .i64 unk), .ptr 2 0] [some (.blk A),some (.blk B),some (.blk [.v (.bool q.1), .v (.int .i64 q.2)])]
   (fun v h'=>v= .tup [.v (.int .i64 (vN N r t (fiR m nm sh s) k n nl li unk).1), .v (.int .i64 (vN N r t (fiR m nm sh s) k n nl li unk).2)]∧ ∃ L,h'=some (.blk A)::some (.blk B)::some (.blk [.v (.bool (zn (fiR m nm sh s) k q).1), .v (.int .i64 (zn (fiR m nm sh s) k q).2)])::L):=by
 have hx:=dh (.mk k s n nl li na ar);have TF:=xJ N t r m nm sh s hm;have hFc:=Bo (fiR m nm sh s);have TB:=Rt N t r m nm sh n hn (by omega) (by omega);have TL:=Np N t r m nm sh nl li N hnl hli (by omega) (by omega);have TM:=aaI nl li hnl;have TP:=uo n (by unfold inB at hn;rw [Bool.and_eq_true] at hn;have:=of_decide_eq_true hn.2;omega);have TZ:=fun b=>aaJ b
 have TD:=fun hk=>Vq N r t m nm sh k s n nl li na ar h2 ht' hk hnl hli
 have hY:=vK N t r m nm sh;have hq1:N.tdiv 2=N / 2:=Int.tdiv_eq_ediv_of_nonneg hN;have hA:Clo (.t na 5 (dH na fun i=>exC (ar i))):= .t (dB fun i _=>eU _);obtain ⟨R,hR⟩: ∃ R,R=vN N r t (fiR m nm sh s) k n nl li unk:=⟨_,rfl⟩
 obtain ⟨S,hS⟩: ∃ S,S=zn (fiR m nm sh s) k q:=⟨_,rfl⟩
 rw [←hR, ←hS];unfold vN at hR;unfold zn at hS;generalize fiR m nm sh s=o at*;have hZ: ∀ b:Bool,(if b=true then 0 else 233:Int)=szR b:=fun b=>rfl
 simp only [hZ] at TZ;have hAl: ∀ j,loL j A=True:=fun j=>eq_true fun a ha=> .clo (hAc a ha)
 have hBl: ∀ j,loL j B=True:=fun j=>eq_true fun a ha=> .clo (hBc a ha)
 simp only [yC,bT] at TF TB TL TD hY ⊢;simp only [cO] at hx TD ⊢;generalize (dH na fun i=>exC (ar i))=E at*;generalize shM m sh=L2 at*;refine Wv.HT.by 122 [1,5,13,14,0,11,24,3,10,28,35,46,62,78,92,2,95,96,116,8,9] [(10,7),(12,11),(14,9),(16,7),(1000000,3)] [.tmp 8, .tmp 9] Tryz.func116 rfl rfl rfl ?base ?_
 case base=>rfl
 by_cases k1:k=1
 ·subst k1;rw [if_pos rfl] at hR hS;unfold fiA shA at TF hFc;cases o with
  | none=>
   have hS':S=q:=hS;have hR':R=(0,230):=hR;simp only [Option.isSome_none,Option.getD_none] at TF hFc;refine Wv.W ?_;refine ak TF rfl (by simp only [Wv.BC];exact hY) hFc ?_;rw [hS',hR'];refine Wv.W ?_;exact ⟨_,rfl⟩
  | some a=>
   have hS':S=a:=hS;have hR':R=(0,0):=hR;simp only [Option.isSome_some,Option.getD_some] at TF hFc;refine Wv.W ?_;refine ak TF rfl (by simp only [Wv.BC];exact hY) hFc ?_;refine Wv.W ?_;rw [hS',hR'];refine Wv.W ?_;exact ⟨_,rfl⟩
 rw [if_neg k1] at hR hS;rw [hS];clear hS TF hFc;by_cases k2:k=2
 ·subst k2;rw [if_pos rfl] at hR;refine Wv.W ?_;refine ak TB rfl (by simp only [Wv.BC];exact hY) Wv.c ?_;refine Wv.W ?_;refine ak (TZ _) rfl Wv.c Wv.c ?_;refine Wv.W1 hR ?_;exact ⟨_,rfl⟩
 rw [if_neg k2] at hR;by_cases k3:k=3
 ·subst k3;rw [if_pos rfl] at hR;refine Wv.W ?_;refine ak TL rfl (by simp only [Wv.BC];exact hY) Wv.c ?_;refine Wv.W ?_;refine ak (TZ _) rfl Wv.c Wv.c ?_;refine Wv.W1 hR ?_;exact ⟨_,rfl⟩
 rw [if_neg k3] at hR;by_cases k8:k=8
 ·subst k8;rw [if_pos rfl] at hR;by_cases g1:0≤n
  ·have e3:(decide (0≤n) && decide (n<N / 2))=decide (n<N / 2):=by rw [ah g1,Bool.true_and]
   rw [e3] at hR;refine Wv.W2 (ah g1) hq1 ?_;refine ak (TZ _) rfl Wv.c Wv.c ?_;refine Wv.W1 hR ?_;exact ⟨_,rfl⟩
  ·have e3:(decide (0≤n) && decide (n<N / 2))=false:=by rw [aj g1,Bool.false_and]
   rw [e3] at hR;refine Wv.W1 (aj g1) ?_;refine ak (TZ _) rfl Wv.c Wv.c ?_;refine Wv.W1 hR ?_;exact ⟨_,rfl⟩
 rw [if_neg k8] at hR;by_cases k10:k=10
 ·subst k10;rw [if_pos rfl] at hR;by_cases g1:(nl:Int)≤N
  ·rw [ah g1,Bool.true_and] at hR;refine Wv.W1 (ah g1) ?_;refine ak TM rfl Wv.c Wv.c ?_;refine Wv.W ?_;refine ak (TZ _) rfl Wv.c Wv.c ?_;refine Wv.W1 hR ?_;exact ⟨_,rfl⟩
  ·rw [aj g1,Bool.false_and] at hR;refine Wv.W1 (aj g1) ?_;refine ak (TZ _) rfl Wv.c Wv.c ?_;refine Wv.W1 hR ?_;exact ⟨_,rfl⟩
 rw [if_neg k10] at hR;by_cases k14:k=14
 ·subst k14;rw [if_pos rfl] at hR;by_cases g1:1≤n
  ·rw [ah g1,Bool.true_and] at hR;refine Wv.W1 (ah g1) ?_;refine dZ TP rfl Wv.c Wv.c ?_;refine Wv.W1 (ah g1) ?_;refine ak (TZ _) rfl Wv.c Wv.c ?_;refine Wv.W1 hR ?_;exact ⟨_,rfl⟩
  ·rw [aj g1,Bool.false_and] at hR;refine Wv.W1 (aj g1) ?_;refine dZ TP rfl Wv.c Wv.c ?_;refine Wv.W1 (aj g1) ?_;refine ak (TZ _) rfl Wv.c Wv.c ?_;refine Wv.W1 hR ?_;exact ⟨_,rfl⟩
 rw [if_neg k14] at hR;by_cases k7:k=7
 ·subst k7;rw [if_pos rfl] at hR;by_cases g1:unk=2
  ·have e1:(unk:Int)=2:=by omega
   rw [if_pos g1] at hR;refine Wv.W2 (ah e1) hR ?_;exact ⟨_,rfl⟩
  ·have e1: ¬ (unk:Int)=2:=by omega
   rw [if_neg g1] at hR;refine Wv.W2 (aj e1) hR ?_;exact ⟨_,rfl⟩
 rw [if_neg k7] at hR;by_cases kf:k=11∨k=13∨k=12
 ·rw [if_pos kf] at hR;by_cases g1:r=1
  ·by_cases g2:k=12∨t≤256
   ·have T:=TD (fun h=>by omega);rw [if_pos ⟨g1,g2⟩] at hR;rw [←hR] at T;by_cases k11:k=11
    ·subst k11;have e2: ¬ (256:Int)<(t:Int):=by omega
     refine Wv.W2 (ah g1) (aj e2) ?_;refine ak T rfl (oK hY hx) Wv.c ?_;refine Wv.W ?_;exact ⟨_,rfl⟩
    ·by_cases k13:k=13
     ·subst k13;have e2: ¬ (256:Int)<(t:Int):=by omega
      refine Wv.W2 (ah g1) (aj e2) ?_;refine ak T rfl (oK hY hx) Wv.c ?_;refine Wv.W ?_;exact ⟨_,rfl⟩
     ·have k12:k=12:=by omega
      subst k12;refine Wv.W1 (ah g1) ?_;refine ak T rfl (oK hY hx) Wv.c ?_;refine Wv.W ?_;exact ⟨_,rfl⟩
   ·rw [if_neg (fun h=>g2 h.2)] at hR;have e2:(256:Int)<(t:Int):=by omega
    rcases (by omega:k=11∨k=13) with rfl | rfl
    ·refine Wv.W3 (ah g1) (ah e2) hR ?_;exact ⟨_,rfl⟩
    ·refine Wv.W3 (ah g1) (ah e2) hR ?_;exact ⟨_,rfl⟩
  ·rw [if_neg (fun h=>g1 h.1)] at hR;rcases kf with rfl | rfl | rfl
   ·refine Wv.W2 (aj g1) hR ?_;exact ⟨_,rfl⟩
   ·refine Wv.W2 (aj g1) hR ?_;exact ⟨_,rfl⟩
   ·refine Wv.W2 (aj g1) hR ?_;exact ⟨_,rfl⟩
 rw [if_neg kf] at hR;have k11: ¬ k=11:=fun h=>kf (.inl h)
 have k13: ¬ k=13:=fun h=>kf (.inr (.inl h))
 have k12: ¬ k=12:=fun h=>kf (.inr (.inr h))
 simp (disch:=first|exact Wv.D|fail) only [Wv.B,simprocAttr,aj k1,aj k2,aj k3,aj k8,aj k10,aj k14,aj k7,aj k11,aj k12,aj k13,hR];exact ⟨_,rfl⟩
end
section
open Go.RowKit Wv
def vP (w:Nat × Int) (q:Bool × Nat):Except Int (Bool × Nat):=
 if w.2=0 then (if (if q.1=true then 0 else q.2+w.1)≤8 then .ok (q.1,if q.1=true then 0 else q.2+w.1) else .error 232) else .error w.2
def anm (own:Nat→Nat × Int) (st:Bool × Nat→Bool × Nat):Except Int (Bool × Nat × Nat)→Except Int (Bool × Nat)
 | .error e=> .error e
 | .ok (kn,d,u)=>vP (own u) (st (kn,d))
def shF (fd:ByteArray→Option (Bool × Nat)) (N r:Int) (t:Nat):Ex→Except Int (Bool × Nat)
 | .nil=> .error 1
 | .mk k s n nl li na ar=>anm (vN N r t (fd s) k n nl li) (zn (fd s) k) (bH (fun i=>shF fd N r t (ar i)) na)
def mY:Except Int (Bool × Nat)→AV
 | .ok q=> .tup [shA q, .v (.int .i64 0)]
 | .error e=> .tup [shA (false,0), .v (.int .i64 e)]
theorem G5 (o:Except Int (Bool × Nat)):Clo (mY o):=by
 cases o with
 | ok q=>unfold mY shA;simp only [Wv.BC]
 | error e=>unfold mY shA;simp only [Wv.BC]
theorem G6 {f:Nat→Except Int (Bool × Nat)} (hf: ∀ i e,f i= .error e→e≠0): ∀ {n:Nat} {e:Int},bH f n= .error e→e≠0
 | 0,e,h=>by cases h
 | n+1,e,h=>by
  simp only [bH] at h;split at h
  ·next e' h1=>injection h with h;subst h;exact G6 hf h1
  ·next kn d u h1=>
   split at h
   ·next e' h2=>injection h with h;subst h;exact hf _ _ h2
   ·cases h
variable {q:Bool × Nat}
theorem aa3 {w:Nat × Int}  {e:Int} (h:vP w q= .error e):e≠0:=by
 unfold vP at h;by_cases h0:w.2=0
 ·rw [if_pos h0] at h;by_cases h1:(if q.1=true then 0 else q.2+w.1)≤8
  ·rw [if_pos h1] at h;cases h
  ·rw [if_neg h1] at h;injection h with h;subst h;decide
 ·rw [if_neg h0] at h;injection h with h;subst h;exact h0
theorem afj {w:Nat × Int} {p:Bool × Nat} (h:vP w q= .ok p):p.2≤8:=by
 unfold vP at h;by_cases h0:w.2=0
 ·rw [if_pos h0] at h;by_cases h1:(if q.1=true then 0 else q.2+w.1)≤8
  ·rw [if_pos h1] at h;injection h with h;subst h;exact h1
  ·rw [if_neg h1] at h;cases h
 ·rw [if_neg h0] at h;cases h
theorem RQ (fd:ByteArray→Option (Bool × Nat)) (N r:Int) (t:Nat) (x:Ex): ∀ e,shF fd N r t x= .error e→e≠0:=by
 induction x with
 | nil=>intro e h;injection h with h;subst h;decide
 | mk k s n nl li na ar ih=>
  intro e h;unfold shF at h;cases hq:bH (fun i=>shF fd N r t (ar i)) na with
  | error e'=>
   rw [hq] at h;injection h with h;subst h;exact G6 (fun i e=>ih i e) hq
  | ok w=>
   obtain ⟨kn,d,u⟩:=w;rw [hq] at h;exact aa3 (show vP _ _= .error e from h)
theorem ajX (fd:ByteArray→Option (Bool × Nat)) (N r:Int) (t:Nat) (x:Ex)  (h:shF fd N r t x= .ok q):q.2≤8:=by
 rcases x with _ | ⟨k,s,n,nl,li,na,ar⟩
 ·cases h
 unfold shF at h;cases hq:bH (fun i=>shF fd N r t (ar i)) na with
 | error e'=>rw [hq] at h;cases h
 | ok w=>
  obtain ⟨kn,d,u⟩:=w;rw [hq] at h;exact afj (show vP _ _= .ok q from h)
theorem afk {N r:Int} {t:Nat} {o:Option (Bool × Nat)} {k n:Int} {nl:Nat} {li:Nat→Int} {u:Nat}:(vN N r t o k n nl li u).1≤64:=by
 have h1: ∀ n,dO n≤64:=xq;unfold vN;repeat' split
 all_goals first | exact Nat.zero_le _ | exact h1 _ | (show (1:Nat)≤64;decide) | skip
 unfold Jy;repeat' split
 all_goals first | exact Nat.zero_le _ | exact h1 _
theorem afl (N r:Int) (t m:Nat) (nm:Nat→ByteArray) (sh:Nat→Bool × Nat) (h2:2≤t) (ht':t≤4611686018427387904) (hN:0≤N) (hN':N≤4611686018427387904) (hm:m≤140737488351232) (hsh: ∀ i,i<m→(sh i).2≤8) (x:Ex) (ho:okE x) (hf:aW x=true):
  TC Tryz.prog 69 [.tp (yC N t r m nm sh), .g (exC x)] (mY (shF (fiR m nm sh) N r t x)):=by
 induction x with
 | nil=>exact ho.elim
 | mk k s n nl li na ar ih=>
 obtain ⟨hs,hnl,hna,hh⟩:=ho;have ⟨⟨hk1,hk2⟩,aiy,hfa⟩:=gq hf;have hn:=QK hf;have hli:=Gp hf;have hY:=vK N t r m nm sh;have hcE: ∀ a,a∈exC (.mk k s n nl li na ar)→Clo a:=eU _;have TO:=fun (u:Nat) (q:Bool × Nat)=>afi N r t m nm sh k s n nl li na ar u q (exC (.mk k s n nl li na ar)) [.v (.bool false), .v (.int .i64 0)] hcE (by intro a ha;simp only [List.mem_cons,List.not_mem_nil,or_false] at ha;rcases ha with rfl | rfl<;>exact .v _) h2 ht' hN hN' hm hnl hli hn
 have hRd:shF (fiR m nm sh) N r t (.mk k s n nl li na ar)=anm (vN N r t (fiR m nm sh s) k n nl li) (zn (fiR m nm sh s) k) (bH (fun i=>shF (fiR m nm sh) N r t (ar i)) na):=rfl;have hRc:=G5 (shF (fiR m nm sh) N r t (.mk k s n nl li na ar));have hOl: ∀ u,(vN N r t (fiR m nm sh s) k n nl li u).1≤64:=fun u=>afk
 have hSl: ∀ q:Bool × Nat,q.2≤8→(zn (fiR m nm sh s) k q).2≤8:=fun q hq=>by
  unfold zn;split
  ·cases hf2:fiR m nm sh s with
   | none=>exact hq
   | some a=>
    unfold fiR at hf2;obtain ⟨i,hi,rfl⟩:=Option.map_eq_some_iff.1 hf2;exact hsh i (LD hi)
  ·exact hq
 have hle: ∀ i q,shF (fiR m nm sh) N r t (ar i)= .ok q→q.2≤8:=fun i q h=>ajX _ _ _ _ _ h
 have hbad: ∀ i e,shF (fiR m nm sh) N r t (ar i)= .error e→e≠0:=fun i e h=>RQ _ _ _ _ _ e h
 have IH: ∀ i,i<na→TC Tryz.prog 69 [.tp (yC N t r m nm sh), .g (exC (ar i))] (mY (shF (fiR m nm sh) N r t (ar i))):=fun i hi=>ih i (hh i hi) (hfa i hi)
 generalize shF (fiR m nm sh) N r t (.mk k s n nl li na ar)=R at*;generalize vN N r t (fiR m nm sh s) k n nl li=W at*;generalize zn (fiR m nm sh s) k=Z at*;generalize hfE:(fun i=>shF (fiR m nm sh) N r t (ar i))=fE at*;have hfi: ∀ i,shF (fiR m nm sh) N r t (ar i)=fE i:=fun i=>by rw [←hfE]
 simp only [hfi] at hle hbad IH;clear hfi hfE ih;have hdA: ∀ i,i<na→ ∃ r,List.drop (i*5) (dH na fun i=>exC (ar i))=exC (ar i)++r:=fun i hi=>bM (f:=fun i=>exC (ar i)) (fun i=>iK (ar i)) hi
 have hAc: ∀ a,a∈(dH na fun i=>exC (ar i))→Clo a:=dB fun i _=>eU _
 simp only [cO] at TO ⊢;generalize (dH na fun i=>exC (ar i))=E at*;have hEl: ∀ j,loL j E=True:=fun j=>eq_true fun a ha=> .clo (hAc a ha)
 have hYl: ∀ j,lo j (.tp (yC N t r m nm sh))=True:=fun j=>eq_true (.clo hY)
 generalize yC N t r m nm sh=Y at*;refine Wv.TC.by 77 [1,8,3,18,0,10,32,4,6,9,50,7,12,61,11,70,74,5] [] [.cell 4 42, .tmp 5] Tryz.func69 rfl rfl rfl ?clo ?_
 case clo=>exact hRc
 refine Wv.W ?_;refine aT (σ:=Nat × Bool × Nat × Nat) (fun w=>[(0, .tp Y),(3, .ptr 0 0),(4, .ptr 1 0),(5, .v (.int .i64 0)),(6, .ptr 2 0),(7, .v (.int .i64 w.2.2.2)),(8, .v (.int .i64 w.1))])
  (fun w=>[some (.blk [.v (.int .i64 k), .v (.string s), .v (.int .i64 n), .t nl 1 (tab nl fun i=> .v (.int .i64 (li i))), .t na 5 E]),some (.blk [.v (.bool false), .v (.int .i64 0)]),some (.blk [.v (.bool w.2.1), .v (.int .i64 w.2.2.1)])])
  (fun w=>w.1≤na∧bH fE w.1= .ok w.2) (fun w=>na - w.1) (0,true,0,0) ⟨Nat.zero_le _,rfl⟩ Wv.V Wv.V ?_
 rintro ⟨i,kn,d,u⟩ ⟨hi,hfo⟩;simp only at hi hfo ⊢;have hbd:=rF (f:=fE) (fun j r h=>hle j r h) hfo;simp only at hbd;by_cases hlt:i<na
 ·have e1:(i:Int)<(na:Int):=by omega
  have T:=IH i hlt;have hG:=dh (ar i);obtain ⟨rr,hd⟩:=hdA i hlt;obtain ⟨c0,c1,c2,c3,c4,c5,c6,h5⟩:=MB (ar i);rw [h5] at T hG hd;simp only [List.cons_append,List.nil_append] at hd;have hnx:bH fE (i+1)=match fE i with
   | .error e=> .error e
   | .ok (k',d')=> .ok (kn && k',max d d',if k'=true then u else u+1):=by
   simp only [bH,hfo];cases fE i<;>rfl
  have hbi:=hbad i;have aou:=hle i;have hrc:=G5 (fE i);have hfe: ∀ e,bH fE (i+1)= .error e→bH fE na= .error e:=fun e h=>yK h (by omega)
  cases hO:fE i with
  | error e=>
   rw [hO] at T hnx hrc;have hne:=hbi e hO;have hRe:=hfe e hnx;rw [hRe] at hRd;have hR2:R= .error e:=hRd;unfold mY shA at T hrc;refine Wv.W2 (ah e1) hd ?_;refine ak T rfl (oK hY hG) hrc ?_;refine Wv.W1 (aj hne) ?_;rw [hR2];unfold mY shA;simp (disch:=first|exact Wv.D|fail) only [Wv.B,simprocAttr]
  | ok q=>
   obtain ⟨k2,d2⟩:=q;rw [hO] at T hnx hrc;have hd2:=aou _ hO;simp only at hd2 hnx;unfold mY shA at T hrc;have hmx:(if (d2:Int)>(d:Int) then (d2:Int) else (d:Int))=((max d d2:Nat):Int):=by split<;>omega
   refine Wv.W2 (ah e1) hd ?_;refine ak T rfl (oK hY hG) hrc ?_;cases kn with
   | true=>
    cases k2 with
    | true=>
     refine Wv.W1 hmx ?_;refine Wv.iw ((i+1,true,max d d2,u)) 3 (by first | decide | exact Nat.le_of_ble_eq_true rfl) (⟨by omega,hnx⟩) (by omega) (Wv.V1 @bG) Wv.V2 (by simp only [Wv.BL, ↓reduceIte,Nat.reduceLeDiff,hYl,hEl]<;>omega) (by simp only [Wv.BL, ↓reduceIte,Nat.reduceLeDiff,hYl,hEl]<;>omega)
    | false=>
     refine Wv.W1 hmx ?_;refine Wv.iw ((i+1,false,max d d2,u+1)) 3 (by first | decide | exact Nat.le_of_ble_eq_true rfl) (⟨by omega,hnx⟩) (by omega) (Wv.V1 @bG) Wv.V2 (by simp only [Wv.BL, ↓reduceIte,Nat.reduceLeDiff,hYl,hEl]<;>omega) (by simp only [Wv.BL, ↓reduceIte,Nat.reduceLeDiff,hYl,hEl]<;>omega)
   | false=>
    cases k2 with
    | true=>
     refine Wv.W1 hmx ?_;refine Wv.iw ((i+1,false,max d d2,u)) 3 (by first | decide | exact Nat.le_of_ble_eq_true rfl) (⟨by omega,hnx⟩) (by omega) (Wv.V1 @bG) Wv.V2 (by simp only [Wv.BL, ↓reduceIte,Nat.reduceLeDiff,hYl,hEl]<;>omega) (by simp only [Wv.BL, ↓reduceIte,Nat.reduceLeDiff,hYl,hEl]<;>omega)
    | false=>
     refine Wv.W1 hmx ?_;refine Wv.iw ((i+1,false,max d d2,u+1)) 3 (by first | decide | exact Nat.le_of_ble_eq_true rfl) (⟨by omega,hnx⟩) (by omega) (Wv.V1 @bG) Wv.V2 (by simp only [Wv.BL, ↓reduceIte,Nat.reduceLeDiff,hYl,hEl]<;>omega) (by simp only [Wv.BL, ↓reduceIte,Nat.reduceLeDiff,hYl,hEl]<;>omega)
 ·obtain rfl:na=i:=by omega
  rw [hfo] at hRd;have NG:R=vP (W u) (Z (kn,d)):=hRd;have T:=TO u (kn,d);have hol:=hOl u;have hsl:=hSl (kn,d) hbd.1;clear hRd TO IH;generalize W u=w at*;generalize Z (kn,d)=z at*;obtain ⟨w1,w2⟩:=w;obtain ⟨z1,z2⟩:=z;unfold vP at NG;simp only at NG T hol hsl;refine Wv.W2 @Int.lt_irrefl @decide_false ?_;refine aC (fst:=[]) (cap:=[]) T ?_;rintro av h' ⟨rfl,L,rfl⟩;by_cases hw:w2=0
  ·subst hw;rw [if_pos rfl] at NG;cases z1 with
   | true=>
    have hR2:R= .ok (true,0):=NG;refine Wv.W ?_;rw [hR2];unfold mY shA;simp (disch:=first|exact Wv.D|fail) only [Wv.B,simprocAttr]
   | false=>
    by_cases h8:z2+w1≤8
    ·have hR2:R= .ok (false,z2+w1):=by rw [NG];exact if_pos h8
     have e8: ¬ (8:Int)<(z2:Int)+(w1:Int):=by omega
     refine Wv.W1 (aj e8) ?_;rw [hR2];unfold mY shA;exact Wv.V1 @Int.natCast_add
    ·have hR2:R= .error 232:=by rw [NG];exact if_neg h8
     have e8:(8:Int)<(z2:Int)+(w1:Int):=by omega
     refine Wv.W1 (ah e8) ?_;rw [hR2];unfold mY shA;exact Wv.V
  ·rw [if_neg hw] at NG;refine Wv.W1 (aj hw) ?_;rw [NG];unfold mY shA;exact Wv.V
end
section
open Go.RowKit Wv
theorem zU {f g:Nat→Except Int (Bool × Nat)}: ∀ {n:Nat},(∀ i,i<n→f i=g i)→bH f n=bH g n
 | 0,_=>rfl
 | n+1,h=>by
  unfold bH;rw [zU fun i hi=>h i (by omega),h n (by omega)]
def Vr (w:Nat × Int):Except Int Nat:=if w.2=0 then .ok w.1 else .error w.2
theorem aa4 (kn:Bool) (d:Nat) (w:Nat × Int):yJ kn d (Vr w)=vP w (kn,d):=by
 unfold Vr vP;by_cases h:w.2=0
 ·rw [if_pos h,if_pos h];rfl
 ·rw [if_neg h,if_neg h];rfl
theorem EC (a:Nat) (b:Bool):Vr (a,szR b)=if b=true then .ok a else .error 233:=by
 cases b<;>rfl
theorem RS (a:Nat) (c:Prop) [Decidable c]:Vr (if c then (a,0) else (0,233))=if c then .ok a else .error 233:=by
 split<;>rfl
theorem NH (t nl:Nat) (li:Nat→Int):(nl=t∧jL t nl li 0 t=true)↔jL t nl li t t=true:=by
 constructor
 ·rintro ⟨rfl,h⟩;unfold jL at h ⊢;rw [Bool.and_eq_true] at h;rw [h.2,ah (Int.le_refl _)];rfl
 ·intro h;have h1:=IZ h;refine ⟨h1.1,?_⟩;unfold jL at h ⊢;rw [Bool.and_eq_true] at h;rw [h.2,ah (show (0:Int)≤nl by omega)];rfl
theorem Vs (x:Par) (t:Nat) (o:Option (Bool × Nat)) (k:Int) (s:ByteArray) (n:Int) (nl:Nat) (li:Nat→Int) (na:Nat) (ar:Nat→Ex) (u:Nat) (h2:2≤t) (hk:k≠1) (hu:u≤2):
  ruA x t (.mk k s n nl li na ar) u=Vr (vN x.n x.r t o k n nl li u):=by
 unfold ruA vN;dsimp only
 rw [if_neg hk];by_cases k2:k=2
 ·rw [if_pos k2,if_pos k2,EC]
 rw [if_neg k2,if_neg k2];by_cases k3:k=3
 ·rw [if_pos k3,if_pos k3,EC]
 rw [if_neg k3,if_neg k3];by_cases k7:k=7
 ·subst k7;show (Except.ok (if u<2 then 0 else 1):Except Int Nat)=Vr (if u=2 then 1 else 0,0);by_cases hq:u=2
  ·rw [if_pos hq,if_neg (show ¬ u<2 by omega)];rfl
  ·rw [if_neg hq,if_pos (show u<2 by omega)];rfl
 rw [if_neg k7];by_cases k8:k=8
 ·rw [if_pos k8,if_pos k8,EC];rfl
 rw [if_neg k8,if_neg k8];by_cases k10:k=10
 ·rw [if_pos k10,if_pos k10,EC];rfl
 rw [if_neg k10,if_neg k10];by_cases k14:k=14
 ·rw [if_pos k14,if_pos k14,EC];rfl
 rw [if_neg k14,if_neg k14,if_neg k7];by_cases k11:k=11
 ·rw [if_pos k11,if_pos (show k=11∨k=13∨k=12 from .inl k11)];unfold D8 EU;by_cases hr:x.r=1
  ·by_cases ht:t≤256
   ·rw [ah hr,ah (show (t:Int)≤256 by omega),if_pos (show (true && true)=true from rfl),if_pos (show x.r=1∧(k=12∨t≤256) from ⟨hr, .inr ht⟩)];unfold Jy;rw [if_pos k11,RS,aa2 h2];by_cases hl:jL t nl li t t=true
    ·rw [if_pos hl,if_pos ((NH t nl li).2 hl)]
    ·rw [if_neg hl,if_neg fun h=>hl ((NH t nl li).1 h)]
   ·rw [aj (show ¬ (t:Int)≤256 by omega),Bool.and_false,if_neg (by decide),if_neg (show ¬ (x.r=1∧(k=12∨t≤256)) by omega)];rfl
  ·rw [aj hr,Bool.false_and,if_neg (by decide),if_neg (show ¬ (x.r=1∧(k=12∨t≤256)) from fun h=>hr h.1)];rfl
 rw [if_neg k11];by_cases k13:k=13
 ·rw [if_pos k13,if_pos (show k=11∨k=13∨k=12 from .inr (.inl k13))];unfold IY EU;by_cases hr:x.r=1
  ·by_cases ht:t≤256
   ·rw [ah hr,ah (show (t:Int)≤256 by omega),if_pos (show (true && true)=true from rfl),if_pos (show x.r=1∧(k=12∨t≤256) from ⟨hr, .inr ht⟩)];unfold Jy;rw [if_neg k11,if_pos k13,RS,aa2 h2]
   ·rw [aj (show ¬ (t:Int)≤256 by omega),Bool.and_false,if_neg (by decide),if_neg (show ¬ (x.r=1∧(k=12∨t≤256)) by omega)];rfl
  ·rw [aj hr,Bool.false_and,if_neg (by decide),if_neg (show ¬ (x.r=1∧(k=12∨t≤256)) from fun h=>hr h.1)];rfl
 rw [if_neg k13];by_cases k12:k=12
 ·rw [if_pos k12,if_pos (show k=11∨k=13∨k=12 from .inr (.inr k12))];by_cases hr:x.r=1
  ·rw [if_pos hr,if_pos (show x.r=1∧(k=12∨t≤256) from ⟨hr, .inl k12⟩)];unfold Jy;rw [if_neg k11,if_neg k13];rfl
  ·rw [if_neg hr,if_neg (show ¬ (x.r=1∧(k=12∨t≤256)) from fun h=>hr h.1)];rfl
 rw [if_neg k12,if_neg (by omega)];rfl
theorem Vt {s:ByteArray} {n:Int} {nl:Nat} {li:Nat→Int} {na:Nat} {ar:Nat→Ex} (h:aW (.mk 1 s n nl li na ar)=true):na=0:=by
 unfold aW at h;simp only [Bool.and_eq_true,Bool.not_eq_true',decide_eq_true_eq,decide_eq_false_iff_not] at h;have:=h.2.2.2.1;have e:argN (1:Int).toNat=0:=rfl;rw [e] at this;omega
theorem RU (x:Par) (t:Nat) (ns:Nms) (fd:ByteArray→Option (Bool × Nat)) (h2:2≤t) (hfd: ∀ s,aF ns s=fd s) (hq: ∀ s q,fd s=some q→q.2≤8∧(q.1=true→q.2=0)) (e:Ex) (ho:okE e) (hf:aW e=true):shF fd x.n x.r t e=shE ns (ruA x t) e:=by
 induction e with
 | nil=>exact ho.elim
 | mk k s n nl li na ar ih=>
  obtain ⟨_,_,_,hh⟩:=ho;have ⟨_,hna,hfa⟩:=gq hf;unfold shF shE;by_cases hk:k=1
  ·subst hk;obtain rfl:=Vt hf;rw [if_pos rfl,hfd];show vP (vN x.n x.r t (fd s) 1 n nl li 0) (zn (fd s) 1 (true,0))=_;unfold vN zn;rw [if_pos rfl,if_pos rfl];cases ho:fd s with
   | none=>rfl
   | some q=>
    obtain ⟨q1,q2⟩:=hq s q ho;obtain ⟨kn,d⟩:=q;show vP (0,0) (kn,d)= .ok (kn,d);unfold vP;rw [if_pos rfl];cases kn with
    | true=>
     have:d=0:=q2 rfl;subst this;rfl
    | false=>
     show (if d+0≤8 then (.ok (false,d+0):Except Int (Bool × Nat)) else .error 232)=_;rw [if_pos (show d+0≤8 from q1)];rfl
  ·rw [if_neg hk,zU fun i hi=>ih i (hh i hi) (hfa i hi)];cases hfo:bH (fun i=>shE ns (ruA x t) (ar i)) na with
   | error e=>rfl
   | ok w=>
    obtain ⟨kn,d,u⟩:=w;have hu:u≤na:=(rF (fun i r h=>yL (fun s r h=>by rw [hfd] at h;exact (hq s r h).1) (ar i) h) hfo).2;show vP (vN x.n x.r t (fd s) k n nl li u) (zn (fd s) k (kn,d))=yJ kn d (ruA x t (.mk k s n nl li na ar) u);rw [Vs x t (fd s) k s n nl li na ar u h2 hk (by omega),aa4];unfold zn;rw [if_neg hk]
theorem ajY {ns:Nms} {ru:Ex→Nat→Except Int Nat} (hn: ∀ s r,aF ns s=some r→r.1=true→r.2=0) (x:Ex) {r:Bool × Nat} (h:shE ns ru x= .ok r):r.1=true→r.2=0:=by
 rcases x with _ | ⟨k,s,n,nl,li,na,ar⟩
 ·cases h
 unfold shE at h;by_cases hk:k=1
 ·rw [if_pos hk] at h;cases hf:aF ns s with
  | none=>rw [hf] at h;cases h
  | some r'=>rw [hf] at h;simp only [DK] at h;injection h with h;subst h;exact hn s _ hf
 ·rw [if_neg hk] at h;cases hf:bH (fun i=>shE ns ru (ar i)) na with
  | error e=>rw [hf] at h;cases h
  | ok q=>
   obtain ⟨kn,d,u⟩:=q;rw [hf] at h;simp only [DL] at h;cases hr:ru (.mk k s n nl li na ar) u with
   | error e=>rw [hr] at h;cases h
   | ok m=>
    rw [hr] at h;simp only [yJ] at h;intro hkn;by_cases hle:(if kn=true then 0 else d+m)≤8
    ·rw [if_pos hle] at h;injection h with h;subst h;simp only at hkn ⊢;rw [if_pos hkn]
    ·rw [if_neg hle] at h;cases h
end
end Go.Proofs.YtljfgdlgmdcmfaaGreat
namespace Go.Proofs.YtljfgdlgmdcmfaaGreat.Wv
section
open Go.RowKit
def vB:Nat→Hp→AV→AV
 | 0,_,a=>a
 | k+1,h, .own id n=>match h[id]? with
  | some (some (.arr _ s cells _))=>bif Nat.beq cells.length (n*s) then .t n s (cells.map (vB k h)) else .own id n
  | _=> .own id n
 | k+1,h, .ptr id 0=>match h[id]? with
  | some (some (.blk cells))=> .tp (cells.map (vB k h))
  | _=> .ptr id 0
 | k+1,h, .g l=> .g (l.map (vB k h))
 | _+1,_,a=>a
def Cx.EZ (X:Cx):Cx:=⟨X.w,X.m,X.h,fun _ _=>False,X.ds⟩
theorem Rep.EZ {X:Cx} {a:AV} {v:Value} (h:Rep X a v):Rep X.EZ a v:=by
 induction h with
 | v x=>exact .v x
 | none x=>exact .none x
 | t hl hc hn hcap hp hr ih=>
  refine .t hl hc hn hcap (fun h0=>?_) ih;obtain ⟨b,off,e,k⟩:=hp h0;exact ⟨b,off,e,fun i x hx=>⟨(k i x hx).1,fun q=>q⟩⟩
 | g hc hr ih=>exact .g hc ih
 | tup hc hr ih=>exact .tup hc ih
 | tp hc hp hr ih=>exact .tp hc (fun i x hx=>⟨(hp i x hx).1,fun q=>q⟩) ih
 | fn h1 h2 r1 r2 ih1 ih2=>exact .fn h1 h2 ih1 ih2
 | ifc h ih=>exact .ifc ih
 | e0 b=>exact .e0 b
 | own hid h=>exact .own hid h
 | ptr hid h=>exact .ptr hid h
 | ap hid h=>exact .ap hid h
 | mp hid h=>exact .mp hid h
 | tm hb hm hl hk hr ih=>exact .tm hb hm hl hk ih
theorem af6 {X:Cx} (hX:Ok X): ∀ (k:Nat) (a:AV) (v:Value),Rep X a v→Rep X.EZ (vB k X.h a) v
 | 0,a,v,hr=>hr.EZ
 | k+1,a,v,hr=>by
  have ih:=af6 hX k;have ihL: ∀ {l:List AV} {vs:List Value},(∀ (i:Nat) (a:AV) (x:Value),l[i]? =some a→vs[i]? =some x→Rep X a x)→ ∀ (i:Nat) (a:AV) (x:Value),(l.map (vB k X.h))[i]? =some a→vs[i]? =some x→Rep X.EZ a x:=fun hr i a x h1 h2=>by
   rw [List.getElem?_map] at h1;obtain ⟨b,h3,rfl⟩:=Option.map_eq_some_iff.1 h1;exact ih b x (hr i b x h3 h2)
  cases a with
  | own id n=>
   simp only [vB];split
   ·next T s cells fz hid=>
    cases hb:Nat.beq cells.length (n*s) with
    | false=>exact hr.EZ
    | true=>
     have hln:=Nat.eq_of_beq_eq_true hb;cases hr with
     | own hlt hq=>
     have e1:=(hq _ _ _ _ hid).2 hln;subst e1;obtain ⟨g1,g2,n',g3,g4⟩:=hX.arr id T s cells fz hid;have hnn:n'=n:=Nat.eq_of_mul_eq_mul_right g2 (by rw [←g3, ←hln]);subst hnn;rcases g4 with ⟨g4,g5⟩ | ⟨b',cvs,g4⟩
     ·subst g5;have hn0:n'=0:=by
       rcases Nat.mul_eq_zero.1 hln.symm with h0 | h0
       ·exact h0
       ·omega
      subst hn0;rw [g4];exact .t (p:=Option.none) (cap:=0) (cvs:=[]) (by simp) (by simp) (Nat.le_refl _) (Nat.zero_le _) (fun h=>by omega) fun i a x q=>by simp at q
     ·have hsv:aY (X.m id) n'= .slice (some ⟨b',0,Option.none⟩) n' (X.m id).2:=by unfold aY;rw [g4.at_];rfl
      have hcv:cells.length≤cvs.size:=by rw [g4.sz,g3];exact Nat.mul_le_mul_right _ g4.cap
      rw [hsv];refine .t (cvs:=cvs.toList.take cells.length) (by rw [List.length_map];exact hln) (by rw [List.length_take,Array.length_toList,List.length_map];exact Nat.min_eq_left hcv) g4.cap g4.iU (fun _=>⟨b',0,rfl,fun j x hx=>⟨?_,fun q=>q⟩⟩) (ihL fun j c x q1 q2=>?_)
      ·rw [List.getElem?_take] at hx;split at hx
       ·rw [Nat.zero_add];show cellAt X.w b' j=some x;rw [bn g4.blk];simpa using hx
       ·cases hx
      ·rw [List.getElem?_take] at q2;split at q2
       ·exact g4.rep j c x q1 (by simpa using q2)
       ·cases q2
   ·exact hr.EZ
  | ptr id off=>
   cases off with
   | succ off=>exact hr.EZ
   | zero=>
    simp only [vB];split
    ·next cells hid=>
     cases hr with
     | ptr hlt hq=>
     obtain ⟨b,h1,rfl⟩:=hq cells hid;obtain ⟨b',cvs,T,h2,h3,h4,h5,h6⟩:=hX.blk id cells hid;rw [h1] at h2;injection h2 with h2;subst h2;refine .tp (cvs:=cvs.toList) (by rw [Array.length_toList,List.length_map];exact h4) (fun j x hx=>⟨?_,fun q=>q⟩) (ihL fun j c x q1 q2=>h6 j c x q1 (by simpa using q2));rw [Nat.zero_add];show cellAt X.w b j=some x;rw [bn h3];simpa using hx
    ·exact hr.EZ
  | g l=>
   cases hr with
   | g hc hrr=>exact .g (by rw [List.length_map];exact hc) (ihL hrr)
  | _=>exact hr.EZ
inductive Bare:AV→Prop
 | v (x:Value):Bare (.v x)
 | g {l:List AV} (h: ∀ (a:AV),a∈l→Bare a):Bare (.g l)
 | tup {l:List AV} (h: ∀ (a:AV),a∈l→Bare a):Bare (.tup l)
theorem Rep.bare {X Y:Cx} {a:AV} {v:Value} (h:Rep X a v) (hb:Bare a):Rep Y a v:=by
 induction h with
 | v x=>exact .v x
 | g hc hr ih=>cases hb with | g h=>exact .g hc fun i a x h1 h2=>ih i a x h1 h2 (h a (List.mem_of_getElem? h1))
 | tup hc hr ih=>cases hb with | tup h=>exact .tup hc fun i a x h1 h2=>ih i a x h1 h2 (h a (List.mem_of_getElem? h1))
 | _=>cases hb
variable {P:Program}{args args':List AV}{h:Hp}
theorem TC.lend {f:FuncId}   {res:AV} (k:Nat) (T:TC P f args' res) (hv:args.map (vB k h)=args') (hc: ∀ (a:AV),a∈args'→Clo a) (hres:Bare res):HT P f args h fun r h2=>r=res∧h2=h:=by
 refine ⟨T.1,fun X vs hX hh hr=>?_⟩;subst hh;have Oa:fJ ⟨X.w,X.m,[],fun _ _=>False,X.ds⟩ args' vs:=by
  rw [←hv] at hc ⊢;refine ⟨by rw [List.length_map];exact hr.1,fun i a x h1 h2=>?_⟩;have hm:=hc a (List.mem_of_getElem? h1);rw [List.getElem?_map] at h1;obtain ⟨b,h3,rfl⟩:=Option.map_eq_some_iff.1 h1;exact (af6 hX k b x (hr.2 i b x h3 h2)).clo hm fun b o u hu _=>⟨hu,fun q=>q⟩
 have hT:=T.2 ⟨X.w,X.m,[],fun _ _=>False,X.ds⟩ vs rfl (fun _ _ q=>q.elim) Oa;refine hT.mono ?_;rintro e w' ⟨v,rfl,hbel,hv'⟩;have S:Step X ⟨w',X.m,X.h,X.bad,X.ds⟩:=by
  refine ⟨hbel.os,hbel.tape,hbel.output,hbel.size,fun b hb _=>hbel.block b hb,fun b o x hx hb=>⟨?_,hb⟩,Nat.le_refl _,fun i T' s c f' _ hi=>⟨c,f',hi,Nat.le_refl _,fun _=>rfl⟩,fun i c _ hi=>⟨c,hi,rfl⟩,fun b hb=> .inr hb,fun _ _ hb=> .inl hb,fun i c _ hi=>⟨c,hi,rfl⟩,rfl⟩;unfold cellAt at hx ⊢;rw [hbel.cell (p:=⟨b,o,none⟩) (eH hx)];exact hx
 have hZ:Ok ⟨w',X.m,X.h,X.bad,X.ds⟩:=by
  refine ⟨fun id cells hi=>?_,fun id T' s cells fz hi=>?_,hX.inj,fun b o hb=>Nat.lt_of_lt_of_le (hX.eX b o hb) hbel.size,fun id es hi=>?_⟩
  ·obtain ⟨b,cvs,T',h1,h2,h3,h4,h5⟩:=hX.blk id cells hi;exact ⟨b,cvs,T',h1,by rw [←h2];exact hbel.block b (hX.lt ⟨id,⟨_,hi⟩,h1⟩),h3,h4,fun j a x q1 q2=>(h5 j a x q1 q2).mono S⟩
  ·obtain ⟨g1,g2,n,g3,g4⟩:=hX.arr id T' s cells fz hi;refine ⟨g1,g2,n,g3,?_⟩;rcases g4 with g4 | ⟨b,cvs,g4⟩
   ·exact .inl g4
   ·exact .inr ⟨b,cvs,⟨g4.at_,by rw [←g4.blk];exact hbel.block b (hX.lt ⟨id,⟨_,hi⟩,g4.at_⟩),g4.cap,g4.iU,g4.sz,g4.bad,fun j a x q1 q2=>(g4.rep j a x q1 q2).mono S,g4.good⟩⟩
  ·obtain ⟨b,ents,clock,h1,h2,h3⟩:=hX.map id es hi;exact ⟨b,ents,clock,h1,by rw [←h2];exact hbel.block b (hX.lt ⟨id,⟨_,hi⟩,h1⟩),h3.mono S⟩
 exact ⟨v,⟨w',X.m,X.h,X.bad,X.ds⟩,res,rfl,rfl,S,hZ,(hv' X.m).bare hres,rfl,rfl⟩
theorem jI {p₀:AV→Hp→Prop} {K:AV→Hp→Prop}  {fid:FuncId}  {res:AV} (k:Nat) (T:TC P fid args' res) (hv:args.map (vB k h)=args') (hc: ∀ (a:AV),a∈args'→Clo a) (hres:Bare res) (hK:K res h):Dc P p₀ K h (.fn (.func fid) [] []) args:=by
 refine aC (R:=fun r h2=>r=res∧h2=h) ?_ ?_
 ·rw [List.nil_append,List.append_nil];exact T.lend k hv hc hres
 ·rintro av h2 ⟨rfl,rfl⟩;exact hK
theorem Vu {p₀:AV→Hp→Prop} {K:AV→Prop}  {fid:FuncId}  {res:AV} (k:Nat) (T:TC P fid args' res) (hv:args.map (vB k h)=args') (hc: ∀ (a:AV),a∈args'→Clo a) (hres:Bare res) (hK:K res):Qr P p₀ K h (.fn (.func fid) [] []) args:=by
 refine ⟨fid,[],[],rfl,res,?_,hK⟩;rw [List.nil_append,List.append_nil];exact (T.lend k hv hc hres).toP _
end
end Go.Proofs.YtljfgdlgmdcmfaaGreat.Wv
namespace Go.Proofs.YtljfgdlgmdcmfaaGreat
section
open Go.RowKit Wv
def nmT (ns:Nms):List AV:=ns.map fun p=> .v (.string p.1)
def shT (ns:Nms):List AV:=ns.flatMap fun p=>[.v (.bool p.2.1), .v (.int .i64 p.2.2)]
def nmN (ns:Nms) (i:Nat):ByteArray:=(ns.getD i (⟨#[]⟩,false,0)).1
def shN (ns:Nms) (i:Nat):Bool × Nat:=(ns.getD i (⟨#[]⟩,false,0)).2
theorem BI (ns:Nms):(nmT ns).length=ns.length:=List.length_map ..
theorem xP: ∀ ns:Nms,(shT ns).length=ns.length*2
 | []=>rfl
 | p::r=>by
  show (_::_::shT r).length=_;rw [List.length_cons,List.length_cons,xP r,List.length_cons];omega
theorem afm: ∀ ns:Nms,(tab ns.length fun i=>AV.v (.string (nmN ns i)))=nmT ns:=fun ns=>by
 unfold tab nmT nmN;apply List.ext_getElem (by simp);intro i h1 h2;have h3:i<ns.length:=by simpa using h1
 simp [h3]
theorem RV: ∀ ns:Nms,shM ns.length (shN ns)=shT ns
 | []=>rfl
 | p::r=>by
  have ih:=RV r;unfold shM at ih ⊢;show dH (r.length+1) _=_;unfold dH at ih ⊢;rw [List.range_succ_eq_map,List.flatMap_cons,List.flatMap_map];show [AV.v (.bool p.2.1),AV.v (.int .i64 p.2.2)]++(List.range r.length).flatMap (fun i=>[AV.v (.bool (shN r i).1),AV.v (.int .i64 (shN r i).2)])=_;rw [ih];rfl
theorem ajZ (ns:Nms): ∀ a,a∈nmT ns→Clo a:=fun a ha=>by
 obtain ⟨p,_,rfl⟩:=List.mem_map.1 ha;exact .v _
theorem afn (ns:Nms): ∀ a,a∈shT ns→Clo a:=fun a ha=>by
 obtain ⟨p,_,h⟩:=List.mem_flatMap.1 ha;simp only [List.mem_cons,List.not_mem_nil,or_false] at h;rcases h with rfl | rfl<;>exact .v _
theorem G7 (k:Nat) (l:Nms):loL k (nmT l)=True:=eq_true fun a ha=> .clo (ajZ l a ha)
theorem G8 (k:Nat) (l:Nms):loL k (shT l)=True:=eq_true fun a ha=> .clo (afn l a ha)
theorem NI (ns:Nms) (s:ByteArray) (q:Bool × Nat):nmT (ns++[(s,q)])=nmT ns++[.v (.string s)]:=by simp [nmT]
theorem NJ (ns:Nms) (s:ByteArray) (q:Bool × Nat):shT (ns++[(s,q)])=shT ns++[.v (.bool q.1), .v (.int .i64 q.2)]:=by simp [shT]
theorem vS (s:ByteArray): ∀ ns:Nms,fiR ns.length (nmN ns) (shN ns) s=aF ns s:=fun ns=>by
 unfold fiR;have key: ∀ (l:Nms),(findF (fun i=>decide (nmN l i=s)) l.length).map (shN l)=aF l s:=fun l=>by
  induction l with
  | nil=>rfl
  | cons p r ih=>
   show (findF (fun i=>decide (nmN (p::r) i=s)) (r.length+1)).map (shN (p::r))=if s=p.1 then some p.2 else aF r s
   by_cases e:s=p.1
   ·rw [if_pos e,iy (p:=fun i=>decide (nmN (p::r) i=s)) (i:=0) (Nat.zero_lt_succ _) (ah e.symm) fun j hj=>by omega];rfl
   ·rw [if_neg e, ←ih];have h0:decide (nmN (p::r) 0=s)=false:=aj fun q=>e q.symm
    by_cases hx: ∃ j,j<r.length∧decide (nmN r j=s)=true∧ ∀ k,k<j→decide (nmN r k=s)=false
    ·obtain ⟨j,h1,h2,h3⟩:=hx;rw [iy (p:=fun i=>decide (nmN r i=s)) h1 h2 h3,iy (p:=fun i=>decide (nmN (p::r) i=s)) (i:=j+1) (by simpa using h1) h2 fun k hk=>by
      cases k with
      | zero=>exact h0
      | succ k=>exact h3 k (by omega)]
     rfl
    ·have hn: ∀ j,j<r.length→decide (nmN r j=s)=false:=fun j=>by
      induction j using Nat.strongRecOn with
      | _ j ihj=>
       intro hj;cases q:decide (nmN r j=s) with
       | false=>rfl
       | true=>exact absurd ⟨j,hj,q,fun k hk=>ihj k hk (by omega)⟩ hx
     rw [fZ (p:=fun i=>decide (nmN r i=s)) hn,fZ (p:=fun i=>decide (nmN (p::r) i=s)) fun k hk=>by
      cases k with
      | zero=>exact h0
      | succ k=>exact hn k (by simpa using hk)]
     rfl
 exact key ns
theorem Jz (o:Option (Bool × Nat)):Bare (fiA o):=by
 unfold fiA shA;refine .tup fun a ha=>?_
 simp only [List.mem_cons,List.not_mem_nil,or_false] at ha;rcases ha with rfl | rfl
 ·refine .g fun a ha=>?_
  simp only [List.mem_cons,List.not_mem_nil,or_false] at ha;rcases ha with rfl | rfl<;>exact .v _
 ·exact .v _
theorem aa5 (o:Except Int (Bool × Nat)):Bare (mY o):=by
 have hs: ∀ q:Bool × Nat,Bare (shA q):=fun q=>by
  unfold shA;refine .g fun a ha=>?_
  simp only [List.mem_cons,List.not_mem_nil,or_false] at ha;rcases ha with rfl | rfl<;>exact .v _
 cases o with
 | ok q=>
  refine .tup fun a ha=>?_
  simp only [List.mem_cons,List.not_mem_nil,or_false] at ha;rcases ha with rfl | rfl
  ·exact hs q
  ·exact .v _
 | error e=>
  refine .tup fun a ha=>?_
  simp only [List.mem_cons,List.not_mem_nil,or_false] at ha;rcases ha with rfl | rfl
  ·exact hs _
  ·exact .v _
variable {ns:Nms}
theorem rW {h:Hp} {N r:Int} {t:Nat}  {f3 f4:Nat} {T3 T4:TypeId} (h2:h[2]? =some (some (.blk [.v (.int .i64 N), .v (.int .i64 t), .v (.int .i64 r), .own 3 ns.length, .own 4 ns.length]))) (h3:h[3]? =some (some (.arr T3 1 (nmT ns) f3))) (h4:h[4]? =some (some (.arr T4 2 (shT ns) f4))):
  vB 2 h (.ptr 2 0)= .tp (yC N t r ns.length (nmN ns) (shN ns)):=by
 have b3:Nat.beq (nmT ns).length (ns.length*1)=true:=by rw [BI,Nat.mul_one];exact Nat.beq_refl _
 have b4:Nat.beq (shT ns).length (ns.length*2)=true:=by rw [xP];exact Nat.beq_refl _
 have e0: ∀ l:List AV,l.map (vB 0 h)=l:=fun l=>List.map_id' l
 have e3:vB 1 h (.own 3 ns.length)= .t ns.length 1 (nmT ns):=by
  show (match h[3]? with | some (some (.arr _ s cells _))=>bif Nat.beq cells.length (ns.length*s) then AV.t ns.length s (cells.map (vB 0 h)) else .own 3 ns.length | _=> .own 3 ns.length)=_;rw [h3];show (bif Nat.beq (nmT ns).length (ns.length*1) then AV.t ns.length 1 ((nmT ns).map (vB 0 h)) else .own 3 ns.length)=_;rw [b3,e0];rfl
 have e4:vB 1 h (.own 4 ns.length)= .t ns.length 2 (shT ns):=by
  show (match h[4]? with | some (some (.arr _ s cells _))=>bif Nat.beq cells.length (ns.length*s) then AV.t ns.length s (cells.map (vB 0 h)) else .own 4 ns.length | _=> .own 4 ns.length)=_;rw [h4];show (bif Nat.beq (shT ns).length (ns.length*2) then AV.t ns.length 2 ((shT ns).map (vB 0 h)) else .own 4 ns.length)=_;rw [b4,e0];rfl
 have e5:vB 2 h (.ptr 2 0)= .tp ([.v (.int .i64 N), .v (.int .i64 t), .v (.int .i64 r), .own 3 ns.length, .own 4 ns.length].map (vB 1 h)):=by
  show (match h[2]? with | some (some (.blk cells))=>AV.tp (cells.map (vB 1 h)) | _=> .ptr 2 0)=_;rw [h2]
 rw [e5];show AV.tp [vB 1 h _,vB 1 h _,vB 1 h _,vB 1 h _,vB 1 h _]=_;rw [e3,e4];unfold yC bT;rw [afm,RV];rfl
def tyR (q:List (Bool × Nat) × Int × Int):AV:=if q.2.2=0 then typeA q else ET q.2.1 q.2.2
theorem afo (q:List (Bool × Nat) × Int × Int):Clo (tyR q):=by
 unfold tyR typeA ET;split
 ·simp only [Wv.BC];exact lT _
 ·simp only [Wv.BC]
theorem aj0 {q:List (Bool × Nat) × Int × Int} (h:q.2.2≠0→q.1=[]):Wk (tyR q) (typeA q):=by
 unfold tyR;by_cases e:q.2.2=0
 ·rw [if_pos e];exact Wk.refl _
 ·rw [if_neg e];unfold ET typeA;rw [h e];exact Wk.tup ⟨Wk.nil 2,Wk.refl _,Wk.refl _,trivial⟩
theorem aa6 (c:Ci) (o:Except (Nat × Int) (Nms × List (Bool × Nat))):(LU c o).2.2≠0→(LU c o).1=[]:=by
 intro h;cases o with
 | error q=>rfl
 | ok q=>
  show (lastT q.2 c.nl (outT q.1 c.fo c.no)).1=[];have h:(lastT q.2 c.nl (outT q.1 c.fo c.no)).2.2≠0:=h;cases hq:outT q.1 c.fo c.no with
  | none=>rw [hq] at h;exact absurd rfl h
  | some e=>rfl
theorem Vw (me:Int) (c:Ci) (ru:Ex→Nat→Except Int Nat):(eY me c ru).2.2≠0→(eY me c ru).1=[]:=by
 unfold eY;split
 ·intro _;rfl
 ·split
  ·intro _;rfl
  ·unfold qB;split
   ·intro _;rfl
   ·exact aa6 _ _
def okN (ns:Nms):Prop:= ∀ p,p∈ns→p.2.2≤8∧(p.2.1=true→p.2.2=0)
theorem NK {s:ByteArray} {q:Bool × Nat} (h:okN ns) (hq:q.2≤8∧(q.1=true→q.2=0)):okN (ns++[(s,q)]):=fun p hp=>by
 rcases List.mem_append.1 hp with h1 | h1
 ·exact h p h1
 ·rw [List.mem_singleton] at h1;subst h1;exact hq
theorem G9 {s:ByteArray} {q:Bool × Nat}: ∀ {ns:Nms},aF ns s=some q→ ∃ p,p∈ns∧p.2=q
 | p::r,h=>by
  have h:(if s=p.1 then some p.2 else aF r s)=some q:=h;by_cases e:s=p.1
  ·rw [if_pos e] at h;injection h with h;exact ⟨p,List.mem_cons_self ..,h⟩
  ·rw [if_neg e] at h;obtain ⟨p',h1,h2⟩:=G9 h;exact ⟨p',List.mem_cons_of_mem _ h1,h2⟩
theorem xQ (h:okN ns) {s:ByteArray} {q:Bool × Nat} (hq:aF ns s=some q):q.2≤8∧(q.1=true→q.2=0):=by
 obtain ⟨p,h1,rfl⟩:=G9 hq;exact h p h1
theorem aj1 (h:okN ns) {i:Nat} (hi:i<ns.length):(shN ns i).2≤8:=by
 unfold shN;rw [List.getD_eq_getElem?_getD,List.getElem?_eq_getElem hi];exact (h _ (List.getElem_mem hi)).1
theorem Vx (n:Nat):aU (some (.v (.int .i64 (n:Nat)))) 0=some n:=by simp [aU,qC]
theorem PW {P:Program} {h:Hp} {T T':TypeId} {id n s fz a b:Nat} {cells:List AV} {lo hi:Option AV} (hid:h[id]? =some (some (.arr T' s cells fz))) (ha:aU lo 0=some a) (hb:aU hi n=some b) (hs:(aH P T).bind (szP P)=some s) (hl:cells.length=n*s) (h1:a≤b) (h2:b≤n):
  iG P h T (.own id n) lo hi=some (.t (b - a) s ((cells.take (b*s)).drop (a*s)),h.set id (some (.arr T' s cells cells.length))):=by
 unfold iG;simp only [hid,ha,hb,hs,hl,h1,h2,and_self,if_true]
theorem Vy (x:Par) (c:Ci) (mv:Nat) (me:Int) (T1:TC Tryz.prog 36 [.g (dQ x), .v (.int .i64 x.r)] (.tup [.v (.int .i64 mv), .v (.int .i64 me)])) (hc:okC c) (hcn:c.nl≤1000000) (hni:c.ni≤1000000) (hce: ∀ i,i<c.nl→bV (c.le i)≤1000000)
  (hme:me=0→2≤mv∧mv≤4611686018427387904∧0≤x.n∧x.n≤4611686018427387904):
  TC Tryz.prog 20 [.g (dQ x), .g (ciC c)] (tyR (eY me c (ruA x mv))):=by
 have hRc:=afo (eY me c (ruA x mv));have hQ:eY me c (ruA x mv)=if me≠0 then ([],0,2) else if dN c≠0 then ([],0,dN c) else qB c (ruA x mv):=rfl
 have TK:=PO c hc hcn hce;have hPg:Clo (.g (dQ x)):=by simp only [Wv.BC];exact dV x
 have hCg:=wU c;generalize eY me c (ruA x mv)=R at*;unfold ciC bT at TK hCg ⊢;unfold dQ at T1 hPg ⊢;have hLc:=iR c;have hCh: ∀ a,a∈(x.ch.map fun (q:Nat)=>AV.v (.int .u32 q))→Clo a:=Le x.ch;generalize (x.ch.map fun (q:Nat)=>AV.v (.int .u32 q))=CH at*;refine Wv.TC.by 179 [0,1,2,8,29,3,33,7,10,46,9,12,59,13,88,15,102,17,116,16,18,148,20,162,19,167,4,5,6] [(30,4),(32,4),(33,7),(14,1000000),(24,1000000)] [.tmp 4, .tmp 5, .tmp 6] Tryz.func20 rfl rfl rfl ?clo ?_
 case clo=>exact hRc
 refine Wv.W ?_;refine ak T1 rfl (oK hPg (.v _)) Wv.c ?_;by_cases hm:me=0
 case neg=>
  rw [if_pos hm] at hQ;subst hQ;refine Wv.W1 (aj hm) ?_;unfold tyR ET;exact Wv.V
 subst hm;rw [if_neg (by decide)] at hQ;refine Wv.W ?_;refine ak TK rfl (OQ hCg) Wv.c ?_;by_cases hk:dN c=0
 case neg=>
  rw [if_pos hk] at hQ;subst hQ;refine Wv.W1 (aj hk) ?_;unfold tyR ET;rw [if_neg hk]
 rw [if_neg (by rw [hk];decide)] at hQ;refine Wv.W1 (ah hk) ?_;obtain ⟨hm2,hm3,hN1,hN2⟩:=hme rfl;have hCt:Clo (.t c.nl 6 c.lets):= .t hLc;generalize hLL:c.lets=LL at*;have Vz: ∀ j,loL j LL=True:=fun j=>eq_true fun a ha=> .clo (hLc a ha)
 have VA: ∀ j,loL j CH=True:=fun j=>eq_true fun a ha=> .clo (hCh a ha)
 unfold qB at hQ;have aoN:=hc.ni;refine lQ (σ:=Nat × Nms) (fun w=>[(2, .ptr 0 0),(3, .ptr 1 0),(9, .ptr 2 0),(10, .v (.int .i64 w.1))])
  (fun w=>[some (.blk [.v (.int .i64 x.n), .v (.int .u32 x.p), .v (.int .i64 x.r), .t x.ch.length 1 CH, .v (.int .u32 x.sp), .v (.int .i64 x.wt), .v (.int .u32 x.er)]),some (.blk [.v (.string c.name), .t c.ni 1 (tab c.ni fun i=> .v (.string (c.fi i))), .t c.nl 6 LL, .t c.no 1 (tab c.no fun i=> .v (.string (c.fo i)))]),some (.blk [.v (.int .i64 x.n), .v (.int .i64 mv), .v (.int .i64 x.r), .own 3 w.2.length, .own 4 w.2.length]),some (.arr 9 1 (nmT w.2) 0),some (.arr 42 2 (shT w.2) 0)])
  (fun w=>w.1≤c.ni∧iM c.fi w.1=some w.2∧w.2.length=w.1∧okN w.2) (fun w=>c.ni - w.1) (0,[]) ⟨Nat.zero_le _,rfl,rfl,fun p h=>by cases h⟩ ?_ ?_
 ·refine Ent.trans (Ent.ad1 2 3 9 1 _ (by omega) rfl rfl) (Ent.trans (Ent.ad1 2 4 42 2 _ (by omega) rfl rfl) (Ent.fit ?_));exact Wv.V
 rintro ⟨i,ns⟩ ⟨hi,hins,hlen,hok⟩;simp only at hi hins hlen hok ⊢;by_cases hlt:i<c.ni
 ·have e1:(i:Int)<c.ni:=by omega
  have T:=xJ x.n mv x.r ns.length (nmN ns) (shN ns) (c.fi i) (by omega);have hy:=vK x.n mv x.r ns.length (nmN ns) (shN ns);rw [vS] at T;have hb:=Jz (aF ns (c.fi i));have hfc:=Bo (aF ns (c.fi i));have hnx:iM c.fi (i+1)=match aF ns (c.fi i) with | some _=>none | none=>some (ns++[(c.fi i,false,0)]):=by
   show (iM c.fi i).bind _=_;rw [hins];rfl
  have hbad:iM c.fi (i+1)=none→iM c.fi c.ni=none:=fun h=>yN h (by omega)
  cases hf:aF ns (c.fi i) with
  | some q=>
   rw [hf] at hnx T hb hfc;rw [hbad hnx] at hQ;have hQ':R=([], -1,230):=hQ;simp only [fiA,shA,Option.isSome_some,Option.getD_some] at T hb hfc;refine Wv.W1 (ah e1) ?_;refine jI 2 T (by rw [List.map_cons,rW (ns:=ns) rfl rfl rfl];rfl) (oK hy (.v _)) hb ?_;refine Wv.W ?_;rw [hQ'];rfl
  | none=>
   rw [hf] at hnx T hb hfc;simp only [fiA,shA,Option.isSome_none,Option.getD_none] at T hb hfc;refine Wv.W1 (ah e1) ?_;refine jI 2 T (by rw [List.map_cons,rW (ns:=ns) rfl rfl rfl];rfl) (oK hy (.v _)) hb ?_;refine Wv.W ?_;have hnl:=BI ns;have hsl:=xP ns;have aj2: ∀ a b c' d f z,cellsA [a,b,c',some (.arr 9 1 (nmT ns++[.v (.string (c.fi i))]) z),d,f] (.own 3 (ns.length+1))=some [.own 3 (ns.length+1)]:=fun a b c' d f z=>uX (by rw [qV];show decide _=true;exact ah (by rw [List.length_append,hnl];simp))
   have aj3: ∀ a b c' d f z,cellsA [a,b,c',d,some (.arr 42 2 (shT ns++[.v (.bool false), .v (.int .i64 0)]) z),f] (.own 4 (ns.length+1))=some [.own 4 (ns.length+1)]:=fun a b c' d f z=>uX (by rw [qV];show decide _=true;exact ah (by rw [List.length_append,hsl];simp;omega))
   refine ZL (L:=[0,1,2,8,29,3,33,7,10,46,9,12,59,13,88,15,102,17,116,16,18,148,20,162,19,167,4,5,6]) (by kernel_rfl) 19 12 24 (.own 3 (ns.length+1)) (by kernel_rfl) rfl rfl rfl rfl rfl ⟨_,rfl,rfl⟩ rfl ?_;simp (disch:=first|exact Wv.D|fail) only [Wv.B,simprocAttr,lZ,lY,lX,lW,lV,aj2,aj3,hnl,hsl,ah (show ns.length*2+2=(ns.length+1)*2 by omega)];have hsn:=NI ns (c.fi i) (false,0);have hss:=NJ ns (c.fi i) (false,0);have hll:(ns++[(c.fi i,false,0)]).length=ns.length+1:=by simp
   have hok2:okN (ns++[(c.fi i,false,0)]):=NK hok ⟨Nat.zero_le _,fun h=>by cases h⟩;refine Wv.iw ((i+1,ns++[(c.fi i,false,0)])) 5 (by first | decide | exact Nat.le_of_ble_eq_true rfl) (⟨by omega,hnx,by rw [hll,hlen],hok2⟩) (by omega) (by simp (disch:=first|exact Wv.D|fail) only [Wv.B,simprocAttr,bG,hsn,hss,hll]) (by simp (disch:=first|exact Wv.D|fail) only [Wv.B,simprocAttr,Int.natCast_add,Int.natCast_one,hsn,hss,hll]) (by simp only [Wv.BL, ↓reduceIte,Nat.reduceLeDiff,Vz,VA,eq_true hLc,eq_true hCh,G7,G8]<;>omega) (by simp only [Wv.BL, ↓reduceIte,Nat.reduceLeDiff,Vz,VA,eq_true hLc,eq_true hCh,G7,G8]<;>omega)
 obtain rfl:i=c.ni:=by omega
 clear hlt;rw [hins] at hQ;replace hQ:R=LU c (fG ns c.ln (fun ns i=>shE ns (ruA x mv) (c.le i)) c.nl):=hQ
 have hnl:=BI ns;have hsl:=xP ns;have hdr: ∀ i,i<c.nl→ ∃ r,List.drop (i*6) LL= .v (.string (c.ln i))::(exC (c.le i)++r):=fun i hi=>by
  obtain ⟨r,h⟩:=bM (f:=fun i=>jg (c.ln i) (c.le i)) (fun i=>iQ _ _) hi;exact ⟨r,by rw [←hLL];exact h⟩
 have hnm:c.nl≤1000000:=hcn;refine Wv.W2 @Int.lt_irrefl @decide_false ?_;obtain ⟨ns0,hns0⟩: ∃ ns0,ns0=ns:=⟨_,rfl⟩
 rw [←hns0] at hQ;refine aT (σ:=Nat × Nms × List (Bool × Nat)) (fun w=>[(2, .ptr 0 0),(3, .ptr 1 0),(9, .ptr 2 0),(13, .v (.int .i64 w.1))])
  (fun w=>[some (.blk [.v (.int .i64 x.n), .v (.int .u32 x.p), .v (.int .i64 x.r), .t x.ch.length 1 CH, .v (.int .u32 x.sp), .v (.int .i64 x.wt), .v (.int .u32 x.er)]),some (.blk [.v (.string c.name), .t c.ni 1 (tab c.ni fun i=> .v (.string (c.fi i))), .t c.nl 6 LL, .t c.no 1 (tab c.no fun i=> .v (.string (c.fo i)))]),some (.blk [.v (.int .i64 x.n), .v (.int .i64 mv), .v (.int .i64 x.r), .own 3 w.2.1.length, .own 4 w.2.1.length]),some (.arr 9 1 (nmT w.2.1) 0),some (.arr 42 2 (shT w.2.1) 0)])
  (fun w=>w.1≤c.nl∧fG ns0 c.ln (fun ns i=>shE ns (ruA x mv) (c.le i)) w.1= .ok w.2∧w.2.1.length=c.ni+w.1∧okN w.2.1∧(shT w.2.1).drop (c.ni*2)=shL w.2.2∧w.2.2.length=w.1) (fun w=>c.nl - w.1) (0,ns,[]) ⟨Nat.zero_le _,by rw [hns0];rfl,hlen,hok,by rw [←hlen, ←hsl,List.drop_length];rfl,rfl⟩ rfl Wv.V ?_
 clear hok hins hlen hnl hsl hns0 ns hi;rintro ⟨i,ns,ss⟩ ⟨hi,hins,hlen,hok,hdrop,hsl2⟩;simp only at hi hins hlen hok hdrop hsl2 ⊢;have hnl:=BI ns;have hsl:=xP ns;have hy:=vK x.n mv x.r ns.length (nmN ns) (shN ns);by_cases hlt:i<c.nl
 ·have e1:(i:Int)<c.nl:=by omega
  have T:=xJ x.n mv x.r ns.length (nmN ns) (shN ns) (c.ln i) (by omega);rw [vS] at T;have hb:=Jz (aF ns (c.ln i));have hfc:=Bo (aF ns (c.ln i));obtain ⟨rr,hd⟩:=hdr i hlt;have hnx:fG ns0 c.ln (fun ns i=>shE ns (ruA x mv) (c.le i)) (i+1)=if (aF ns (c.ln i)).isSome=true then .error (i,230) else U0 ns ss i (c.ln i) (shE ns (ruA x mv) (c.le i)):=by
   show Ae _ _ i (fG _ _ _ i)=_;rw [hins];rfl
  have hbad: ∀ q,fG ns0 c.ln (fun ns i=>shE ns (ruA x mv) (c.le i)) (i+1)= .error q→fG ns0 c.ln (fun ns i=>shE ns (ruA x mv) (c.le i)) c.nl= .error q:=fun q h=>rJ h (by omega)
  have hoy:=(hc.le i hlt).1;have hfo:=mX hk hlt;have T2:=afl x.n x.r mv ns.length (nmN ns) (shN ns) hm2 hm3 hN1 hN2 (by omega) (fun j hj=>aj1 hok hj) (c.le i) hoy hfo;have hne: ∀ e,shE ns (ruA x mv) (c.le i)= .error e→e≠0:=fun e he=>RQ (fiR ns.length (nmN ns) (shN ns)) x.n x.r mv (c.le i) e (by rw [RU x mv ns _ hm2 (fun s=>(vS s ns).symm) (fun s q h=>xQ hok (by rw [←vS];exact h)) (c.le i) hoy hfo];exact he)
  rw [RU x mv ns _ hm2 (fun s=>(vS s ns).symm) (fun s q h=>xQ hok (by rw [←vS];exact h)) (c.le i) hoy hfo] at T2;have hb2:=aa5 (shE ns (ruA x mv) (c.le i));have aov: ∀ q,shE ns (ruA x mv) (c.le i)= .ok q→q.2≤8∧(q.1=true→q.2=0):=fun q hq=>⟨yL (fun s r h=>(xQ hok h).1) (c.le i) hq,ajY (fun s r h=>(xQ hok h).2) (c.le i) hq⟩
  have hG:=dh (c.le i);obtain ⟨c0,c1,c2,c3,c4,c5,c6,h5⟩:=MB (c.le i);rw [h5] at T2 hG hd;simp only [List.cons_append,List.nil_append] at hd;cases hf:aF ns (c.ln i) with
  | some q=>
   rw [hf] at hnx T hb hfc;rw [hbad _ hnx] at hQ;have hQ':R=([],((i:Nat):Int),230):=hQ;simp only [fiA,shA,Option.isSome_some,Option.getD_some] at T hb hfc;refine Wv.W2 (ah e1) hd ?_;refine jI 2 T (by rw [List.map_cons,rW (ns:=ns) rfl rfl rfl];rfl) (oK hy (.v _)) hb ?_;refine Wv.W ?_;rw [hQ'];rfl
  | none=>
   rw [hf] at hnx T hb hfc;simp only [fiA,shA,Option.isSome_none,Option.getD_none] at T hb hfc;refine Wv.W2 (ah e1) hd ?_;refine jI 2 T (by rw [List.map_cons,rW (ns:=ns) rfl rfl rfl];rfl) (oK hy (.v _)) hb ?_;simp (disch:=first|exact Wv.D|fail) only [Wv.B,simprocAttr,hd];cases hO:shE ns (ruA x mv) (c.le i) with
   | error e=>
    rw [hO] at T2 hb2 hnx;have hne:=hne e hO;rw [hbad _ hnx] at hQ;have hQ':R=([],((i:Nat):Int),e):=hQ;unfold mY shA at T2 hb2;refine jI 2 T2 (by rw [List.map_cons,rW (ns:=ns) rfl rfl rfl];rfl) (oK hy hG) hb2 ?_;refine Wv.W1 (aj hne) ?_;rw [hQ'];unfold tyR ET;rw [if_neg hne]
   | ok q=>
    rw [hO] at T2 hb2 hnx;obtain ⟨q1,q2⟩:=q;have hq8:=aov _ hO;unfold mY shA at T2 hb2;refine jI 2 T2 (by rw [List.map_cons,rW (ns:=ns) rfl rfl rfl];rfl) (oK hy hG) hb2 ?_;refine Wv.W ?_;have aj2: ∀ a b c' d f g z,cellsA [a,b,c',some (.arr 9 1 (nmT ns++[.v (.string (c.ln i))]) z),d,f,g] (.own 3 (ns.length+1))=some [.own 3 (ns.length+1)]:=fun a b c' d f g z=>uX (by rw [qV];show decide _=true;exact ah (by rw [List.length_append,hnl];simp))
    have aj3: ∀ a b c' d f g z,cellsA [a,b,c',d,some (.arr 42 2 (shT ns++[.v (.bool q1), .v (.int .i64 q2)]) z),f,g] (.own 4 (ns.length+1))=some [.own 4 (ns.length+1)]:=fun a b c' d f g z=>uX (by rw [qV];show decide _=true;exact ah (by rw [List.length_append,hsl];simp;omega))
    refine ZL (L:=[0,1,2,8,29,3,33,7,10,46,9,12,59,13,88,15,102,17,116,16,18,148,20,162,19,167,4,5,6]) (by kernel_rfl) 20 13 24 (.own 3 (ns.length+1)) (by kernel_rfl) rfl rfl rfl rfl rfl ⟨_,rfl,rfl⟩ rfl ?_;simp (disch:=first|exact Wv.D|fail) only [Wv.B,simprocAttr,hd,lZ,lY,lX,lW,lV,aj2,aj3,hnl,hsl,ah (show ns.length*2+2=(ns.length+1)*2 by omega)];have hsn:=NI ns (c.ln i) (q1,q2);have hss:=NJ ns (c.ln i) (q1,q2);have hll:(ns++[(c.ln i,q1,q2)]).length=ns.length+1:=by simp
    have hok2:okN (ns++[(c.ln i,q1,q2)]):=NK hok hq8;have aow:(shT (ns++[(c.ln i,q1,q2)])).drop (c.ni*2)=shL (ss++[(q1,q2)]):=by
     rw [hss,List.drop_append_of_le_length (by omega),hdrop];unfold shL;rw [List.flatMap_append];rfl
    refine Wv.iw ((i+1,ns++[(c.ln i,q1,q2)],ss++[(q1,q2)])) 5 (by first | decide | exact Nat.le_of_ble_eq_true rfl) (⟨by omega,hnx,by rw [hll];omega,hok2,aow,by rw [List.length_append,hsl2];rfl⟩) (by omega) (by simp (disch:=first|exact Wv.D|fail) only [Wv.B,simprocAttr,bG,hsn,hss,hll]) (by simp (disch:=first|exact Wv.D|fail) only [Wv.B,simprocAttr,Int.natCast_add,Int.natCast_one,hsn,hss,hll]) (by simp only [Wv.BL, ↓reduceIte,Nat.reduceLeDiff,Vz,VA,eq_true hLc,eq_true hCh,G7,G8]<;>omega) (by simp only [Wv.BL, ↓reduceIte,Nat.reduceLeDiff,Vz,VA,eq_true hLc,eq_true hCh,G7,G8]<;>omega)
 obtain rfl:i=c.nl:=by omega
 clear hlt;rw [hins] at hQ;replace hQ:R=lastT ss c.nl (outT ns c.fo c.no):=hQ
 have aoO:=hc.no;refine Wv.W2 @Int.lt_irrefl @decide_false ?_;refine aT (σ:=Nat) (fun i=>[(2, .ptr 0 0),(3, .ptr 1 0),(9, .ptr 2 0),(18, .v (.int .i64 i))])
  (fun _=>[some (.blk [.v (.int .i64 x.n), .v (.int .u32 x.p), .v (.int .i64 x.r), .t x.ch.length 1 CH, .v (.int .u32 x.sp), .v (.int .i64 x.wt), .v (.int .u32 x.er)]),some (.blk [.v (.string c.name), .t c.ni 1 (tab c.ni fun i=> .v (.string (c.fi i))), .t c.nl 6 LL, .t c.no 1 (tab c.no fun i=> .v (.string (c.fo i)))]),some (.blk [.v (.int .i64 x.n), .v (.int .i64 mv), .v (.int .i64 x.r), .own 3 ns.length, .own 4 ns.length]),some (.arr 9 1 (nmT ns) 0),some (.arr 42 2 (shT ns) 0)])
  (fun i=>i≤c.no∧outT ns c.fo i=none) (fun i=>c.no - i) 0 ⟨Nat.zero_le _,rfl⟩ rfl Wv.V ?_
 rintro i ⟨hi2,hout⟩;by_cases hlt:i<c.no
 ·have e1:(i:Int)<c.no:=by omega
  have T:=xJ x.n mv x.r ns.length (nmN ns) (shN ns) (c.fo i) (by omega);rw [vS] at T;have hb:=Jz (aF ns (c.fo i));have hnx:outT ns c.fo (i+1)=IW (aF ns (c.fo i)):=by
   show (match outT ns c.fo i with | some e=>some e | none=>IW (aF ns (c.fo i)))=_;rw [hout]
  have hbad: ∀ e,outT ns c.fo (i+1)=some e→outT ns c.fo c.no=some e:=fun e h=>tZ h (by omega)
  cases hf:aF ns (c.fo i) with
  | none=>
   rw [hf] at hnx T hb;rw [hbad _ hnx] at hQ;have hQ':R=([],((c.nl:Nat):Int),230):=hQ;simp only [fiA,shA,Option.isSome_none,Option.getD_none] at T hb;refine Wv.W1 (ah e1) ?_;refine jI 2 T (by rw [List.map_cons,rW (ns:=ns) rfl rfl rfl];rfl) (oK hy (.v _)) hb ?_;refine Wv.W ?_;rw [hQ'];rfl
  | some q=>
   rw [hf] at hnx T hb;obtain ⟨q1,q2⟩:=q;simp only [fiA,shA,Option.isSome_some,Option.getD_some] at T hb;refine Wv.W1 (ah e1) ?_;refine jI 2 T (by rw [List.map_cons,rW (ns:=ns) rfl rfl rfl];rfl) (oK hy (.v _)) hb ?_;cases q1 with
   | true=>
    rw [hbad _ hnx] at hQ;have hQ':R=([],((c.nl:Nat):Int),234):=hQ;refine Wv.W ?_;rw [hQ'];rfl
   | false=>
    refine Wv.W ?_;refine Wv.iw (i+1) 5 (by first | decide | exact Nat.le_of_ble_eq_true rfl) (⟨by omega,hnx⟩) (by omega) (Wv.V1 @bG) Wv.V2 (by simp only [Wv.BL, ↓reduceIte,Nat.reduceLeDiff,Vz,VA,eq_true hLc,eq_true hCh,G7,G8]<;>omega) (by simp only [Wv.BL, ↓reduceIte,Nat.reduceLeDiff,Vz,VA,eq_true hLc,eq_true hCh,G7,G8]<;>omega)
 ·obtain rfl:i=c.no:=by omega
  rw [hout] at hQ;have hQ':R=(ss,0,0):=hQ;simp (disch:=first|exact Wv.D|fail) only [Wv.B,simprocAttr,Int.lt_irrefl,decide_false,hnl,hsl,hdrop];have hT:AV.t (ns.length - c.ni) 2 (List.drop (c.ni*2) (List.take (ns.length*2) (shT ns)))= .t c.nl 2 (shL ss):=by
   rw [List.take_of_length_le (by omega),hdrop,hlen,Nat.add_sub_cancel_left]
  rw [PW (T':=42) (s:=2) (cells:=shT ns) (fz:=ns.length*2) (a:=c.ni) (b:=ns.length)]
  case hid=>rfl
  case ha=>exact Vx c.ni
  case hb=>rfl
  case hs=>rfl
  case hl=>exact hsl
  case h1=>omega
  case h2=>exact Nat.le_refl _
  rw [hT];have hcs: ∀ h,cellsA h (.t c.nl 2 (shL ss))=some [.t c.nl 2 (shL ss)]:=fun h=>rfl
  refine Wv.W1 hcs ?_;rw [hQ', ←hsl2];rfl
end
section
open Go.RowKit Wv
theorem aa7 (x:Par) (hx:qA x) (hlen:x.ch.length≤140737488351232) (kD: ∀ q,q∈x.ch→q<4294967296):TC Tryz.prog 83 [.g (dQ x)] (.v (.int .i64 (chk aI x))):=by
 have hcx:=dV x;have hno:=ait (pr:=aI) (x:=x);have hwt:wtB x=decide (1≤x.wt∧x.wt≤x.n∧x.er≤64):=rfl;have hle:pY x.ch.length=decide (1≤x.ch.length∧x.ch.length≤24):=rfl;rw [Je];unfold ql;refine Wv.TC.by 100 [0,1,38,3,56,4,61,83,5,86,99,2] [(9,18),(14,10)] [.tmp 2] Tryz.func83 rfl rfl rfl ?clo ?_
 case clo=>simp only [Wv.BC]
 refine Wv.W ?_;refine ak (ajs x.n hx.n0 hx.n1) rfl Wv.c Wv.c ?_;cases hd:jl x.n with
 | false=>exact Wv.V1 (hno (.inl hd))
 | true=>
 have hn:4≤x.n∧x.n≤32:=by have:=nO hd;omega
 by_cases l1:x.ch.length<1
 ·exact Wv.V2f (ah (show (x.ch.length:Int)<1 by omega)) (hno (.inr (.inl (hle.trans (aj (by omega))))))
 have dl1:=aj (show ¬ (x.ch.length:Int)<1 by omega);by_cases l2:x.ch.length>24
 ·exact Wv.V3 dl1 (ah (show (x.ch.length:Int)>24 by omega)) (hno (.inr (.inl (hle.trans (aj (by omega))))))
 have dl2:=aj (show ¬ (x.ch.length:Int)>24 by omega);by_cases w1:x.wt<1
 ·simp (disch:=first|exact Wv.D|fail) only [Wv.B,simprocAttr,dl1,dl2,ah w1,hno (.inr (.inr (.inl (hwt.trans (aj (by omega))))))]
 by_cases w2:x.wt>x.n
 ·simp (disch:=first|exact Wv.D|fail) only [Wv.B,simprocAttr,dl1,dl2,aj w1,ah w2,hno (.inr (.inr (.inl (hwt.trans (aj (by omega))))))]
 by_cases w3:x.er>64
 ·simp (disch:=first|exact Wv.D|fail) only [Wv.B,simprocAttr,dl1,dl2,aj w1,aj w2,ah (show (x.er:Int)>64 by omega),hno (.inr (.inr (.inl (hwt.trans (aj (by omega))))))]
 have l3:pY x.ch.length=true:=hle.trans (ah (by omega));have w4:wtB x=true:=hwt.trans (ah (by omega));simp (disch:=first|exact Wv.D|fail) only [Wv.B,simprocAttr,dl1,dl2,aj w1,aj w2,aj (show ¬ (x.er:Int)>64 by omega)];refine ak (MN x.n x.p x.r hn.1 hn.2 hx.p1 hx.r0 hx.r1) rfl Wv.c Wv.c ?_;have ht:=Ip aI x.n x.p x.r;have hsd:stepOf aI x=(2*x.n).toNat*iH aI x.n x.p x.r:=rfl;have htd:x.t aI=iH aI x.n x.p x.r:=rfl;rw [←htd] at ht hsd ⊢;by_cases t0:0<x.t aI
 case neg=>
  have e0:x.t aI=0:=by omega
  rw [e0];exact Wv.V2f @Int.natCast_zero (hno (.inr (.inr (.inr (.inl t0)))))
 have hyes:=aes (pr:=aI) hd l3 w4 t0;have G:=fun q hq=>ae3 x.n (x.t aI) q hn.1 hn.2 t0 ht hq
 rw [←hsd] at G;refine Wv.W1 (aj (show ¬ (x.t aI:Int)=0 by omega)) ?_;refine ak (G x.sp hx.sp1) rfl Wv.c Wv.c ?_;cases hg:jE aI (stepOf aI x) x.sp with
 | false=>exact Wv.V1 (hno (.inr (.inr (.inr (.inr (.inl hg))))))
 | true=>
 have hbd: ∀ q,ng aI (stepOf aI x) x.sp q=!(decide (q<x.sp) && jE aI (stepOf aI x) q):=fun q=>rfl
 have hat: ∀ j,(h:j<x.ch.length)→x.ch[j]! =x.ch[j]:=fun j h=>getElem!_pos x.ch j h
 have hmem: ∀ j,j<x.ch.length→x.ch[j]!∈x.ch:=fun j h=>by rw [hat j h];exact List.getElem_mem h
 generalize x.t aI=t at*;generalize stepOf aI x=s at*;refine Wv.W ?_;refine aT (σ:=Nat) (fun i=>[(1, .ptr 0 0),(3, .v (.int .i64 t)),(4, .v (.int .i64 i))])
  (fun _=>[some (.blk (ql x))]) (fun i=>i≤x.ch.length∧(∀ j,j<i→ng aI s x.sp x.ch[j]! =false)∧(x.ch.take i).Nodup) (fun i=>x.ch.length - i) 0 ⟨Nat.zero_le _,fun j h=>by omega,by simp⟩ rfl Wv.V ?_
 rintro i ⟨h1,h2,h3⟩;try simp only at h1 h2 h3 ⊢
 unfold ql;by_cases hi:i<x.ch.length
 case neg=>
  have hR:=hyes hg (fun q hq=>by
   obtain ⟨j,hj,rfl⟩:=List.mem_iff_getElem.1 hq;rw [←hat j hj];exact h2 j (by omega)) (by rw [List.take_of_length_le (by omega)] at h3;exact h3)
  exact Wv.V2f (aj (show ¬ (i:Int)<x.ch.length by omega)) hR
 have hqi:=hmem i hi;refine Wv.W1 (ah (show (i:Int)<x.ch.length by omega)) ?_;refine dZ (G x.ch[i]! (kD _ hqi)) rfl Wv.c Wv.c ?_;cases hgi:jE aI s x.ch[i]! with
 | false=>
  have hR:=hno (.inr (.inr (.inr (.inr (.inr (.inl ⟨_,hqi,by rw [hbd,hgi,Bool.and_false];rfl⟩))))));simp (disch:=first|exact Wv.D|fail) only [Wv.B,simprocAttr,hR]
 | true=>
 by_cases hsp:x.ch[i]! <x.sp
 case neg=>
  have hR:=hno (.inr (.inr (.inr (.inr (.inr (.inl ⟨_,hqi,by rw [hbd,aj hsp];rfl⟩))))));exact Wv.V2f (ah (show (x.ch[i]! :Int)≥x.sp by omega)) hR
 refine Wv.W1 (aj (show ¬ (x.ch[i]! :Int)≥x.sp by omega)) ?_;refine aT (σ:=Nat) (fun k=>[(1, .ptr 0 0),(3, .v (.int .i64 t)),(4, .v (.int .i64 i)),(5, .v (.int .i64 k))])
  (fun _=>[some (.blk (ql x))]) (fun k=>k≤i∧ ∀ j,j<k→x.ch[j]!≠x.ch[i]!) (fun k=>i - k) 0 ⟨Nat.zero_le _,fun j h=>by omega⟩ rfl Wv.V ?_
 rintro k ⟨k1,k2⟩;try simp only at k1 k2 ⊢
 unfold ql;by_cases hki:k<i
 ·by_cases he:x.ch[k]! =x.ch[i]!
  ·have hR:=hno (.inr (.inr (.inr (.inr (.inr (.inr (aiu hi hki (by rw [←hat k (by omega), ←hat i hi];exact he))))))));exact Wv.V3 (ah (show (k:Int)<i by omega)) (ah (show (x.ch[k]! :Int)=x.ch[i]! by omega)) hR
  ·refine Wv.W2 (ah (show (k:Int)<i by omega)) (aj (show ¬ (x.ch[k]! :Int)=x.ch[i]! by omega)) ?_;refine ay (k+1) ⟨by omega,fun j hj=>?_⟩ (by omega) rfl Wv.V2;rcases (show j<k∨j=k by omega) with q | rfl
   ·exact k2 j q
   ·exact he
 ·refine Wv.W1 (aj (show ¬ (k:Int)<i by omega)) ?_;refine ay (i+1) ⟨by omega,fun j hj=>?_,OH hi h3 fun j hj=>?_⟩ (by omega) rfl Wv.V2
  ·rcases (show j<i∨j=i by omega) with q | rfl
   ·exact h2 j q
   ·rw [hbd,hgi,ah hsp];rfl
  ·rw [←hat j (by omega), ←hat i hi];exact k2 j (by omega)
end
section
open Go.RowKit Wv
theorem afp (x:Par) (k:Int) (hx:qA x) (hlen:x.ch.length≤140737488351232) (kD: ∀ q,q∈x.ch→q<4294967296):TC Tryz.prog 36 [.g (dQ x), .v (.int .i64 k)] (.tup [.v (.int .i64 (bI aI x k:Nat)), .v (.int .i64 (dX aI x k))]):=by
 have hC:=aa7 x hx hlen kD;have hcx:Clo (.g (dQ x)):= .g (dV x);rw [Je] at*;unfold ql at*;refine Wv.TC.by 25 [0,2,1,18,4,5] [] [.tmp 4, .tmp 5] Tryz.func36 rfl rfl rfl ?clo ?_
 case clo=>simp only [Wv.BC]
 refine Wv.W ?_;refine ak hC rfl (by simp only [Wv.BC]<;>exact hcx) Wv.c ?_;cases hok:okB aI x with
 | false=>
  have hR:=yI (k:=k) (show kS aI x k=false by unfold kS;rw [hok];rfl);rw [Ir hok];simp (disch:=first|exact Wv.D|fail) only [Wv.B,simprocAttr,hR.1,hR.2,Int.natCast_zero]
 | true=>
 have hn:=Iw hok;rw [Y4 hok];by_cases h1:k<1
 ·have hR:=yI (k:=k) (show kS aI x k=false by unfold kS;rw [aj (show ¬ 1≤k by omega)];simp);simp (disch:=first|exact Wv.D|fail) only [Wv.B,simprocAttr,ah h1,hR.1,hR.2,Int.natCast_zero]
 by_cases h2:k>x.r
 ·have hR:=yI (k:=k) (show kS aI x k=false by unfold kS;rw [aj (show ¬ k≤x.r by omega)];simp);simp (disch:=first|exact Wv.D|fail) only [Wv.B,simprocAttr,aj h1,ah h2,hR.1,hR.2,Int.natCast_zero]
 have hR:=Iy (k:=k) (show kS aI x k=true by unfold kS;rw [hok,ah (show 1≤k by omega),ah (show k≤x.r by omega)];rfl);have:=hx.r1;refine Wv.W2 (aj h1) (aj h2) ?_;refine ak (MN x.n x.p k hn.1 hn.2 hx.p1 (by omega) (by omega)) rfl Wv.c Wv.c ?_;simp (disch:=first|exact Wv.D|fail) only [Wv.B,simprocAttr,hR.1,hR.2]
end
end Go.Proofs.YtljfgdlgmdcmfaaGreat
