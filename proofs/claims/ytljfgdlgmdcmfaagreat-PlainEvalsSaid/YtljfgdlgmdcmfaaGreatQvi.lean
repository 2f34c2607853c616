/- Parts of a proof. -/
import Derived.Test.YtljfgdlgmdcmfaaGreatQvh
import Derived.Test.YtljfgdlgmdcmfaaGreatQvg
import Derived.OrdersHeld
import Derived.Recover
import Derived.Deep.RegionHeldLaw
import Derived.Test.YtljfgdlgmdcmfaaGreatQvf
import Derived.Defers
set_option linter.unusedVariables false
set_option linter.unusedSimpArgs false
set_option maxHeartbeats 1600000
set_option maxRecDepth 100000
namespace Go.Proofs.YtljfgdlgmdcmfaaGreat
section
open Go.RowKit Wv
structure EuI (n a x y:Nat) (u v:Int):Prop where
 xn:x≤n
 yx:y<x
 du:(n:Int)∣u*a - x
 dv:(n:Int)∣v*a - y
 sg:(u≤0∧0≤v∧ -(u*y)+v*x=n)∨(0≤u∧v≤0∧u*y+ -(v*x)=n)
 u0: -(n:Int)≤u
 u1:u≤n
 v0: -(n:Int)≤v
 v1:v≤n
 gc:Nat.gcd x y=Nat.gcd n a
variable {a n:Nat}
theorem EuI.start (hn:2≤n) (ha:a<n):EuI n a n a 0 1:=by
 refine ⟨Nat.le_refl _,ha,?_,?_, .inl ⟨by omega,by omega,by simp⟩,by omega,by omega,by omega,by omega,rfl⟩
 ·simp
 ·simp
variable {x:Nat}
theorem EuI.step {y:Nat} {u v:Int} (h:EuI n a x y u v) (hy:0<y):EuI n a y (x % y) v (u - ((x / y:Nat):Int)*v):=by
 have hx:(x:Int)=((x / y:Nat):Int)*y+(x % y:Nat):=by
  have:=Nat.div_add_mod x y;have h2:((y*(x / y)+x % y:Nat):Int)=(x:Int):=by rw [this]
  rw [Int.natCast_add,Int.natCast_mul,Int.mul_comm] at h2;exact h2.symm
 have hr:x % y<y:=Nat.mod_lt _ hy;obtain ⟨xn,yx,du,dv,sg,u0,u1,v0,v1,gc⟩:=h;generalize (x / y)=q at hx ⊢;have hrn:(0:Int)≤((x % y:Nat):Int):=by omega
 generalize hrr:((x % y:Nat):Int)=r at hx hrn;have h1:v*(x:Int)=v*((q:Int)*y)+v*r:=by rw [hx,Int.mul_add]
 have h2:((q:Int)*v)*y=v*((q:Int)*y):=by rw [Int.mul_comm (q:Int) v,Int.mul_assoc]
 have h3:(u - (q:Int)*v)*y=u*y - ((q:Int)*v)*y:=Int.sub_mul _ _ _;have hd:(n:Int)∣(u - (q:Int)*v)*a - r:=by
  have e:(u - (q:Int)*v)*a - r=(u*a - x) - (q:Int)*(v*a - y):=by
   rw [Int.sub_mul,Int.mul_sub,hx,Int.mul_assoc];omega
  rw [e];exact Int.dvd_sub du (Int.dvd_mul_of_dvd_right dv)
 have hg:Nat.gcd y (x % y)=Nat.gcd n a:=by rw [←gc,Nat.gcd_comm x y,Nat.gcd_rec y x,Nat.gcd_comm]
 rcases sg with ⟨s1,s2,s3⟩ | ⟨s1,s2,s3⟩
 ·have hqv:0≤(q:Int)*v:=Int.mul_nonneg (by omega) s2;have hvr:0≤v*r:=Int.mul_nonneg s2 hrn;have hb: -(u - (q:Int)*v)*1≤ -(u - (q:Int)*v)*(y:Int):=Int.mul_le_mul_of_nonneg_left (by omega) (by omega);rw [Int.neg_mul (u - (q:Int)*v) (y:Int)] at hb;exact ⟨by omega,hr,dv,by rw [hrr];exact hd, .inr ⟨s2,by omega,by rw [hrr];omega⟩,v0,v1,by omega,by omega,hg⟩
 ·have hqv:(q:Int)*v≤0:=Int.mul_nonpos_of_nonneg_of_nonpos (by omega) s2;have hvr:v*r≤0:=Int.mul_nonpos_of_nonpos_of_nonneg s2 hrn;have hb:(u - (q:Int)*v)*1≤(u - (q:Int)*v)*(y:Int):=Int.mul_le_mul_of_nonneg_left (by omega) (by omega);exact ⟨by omega,hr,dv,by rw [hrr];exact hd, .inl ⟨s2,by omega,by rw [hrr];omega⟩,v0,v1,by omega,by omega,hg⟩
def Ol (a n:Nat):Nat:=(findF (fun i=>decide (i*a % n=1)) n).getD 0
def jq (a n:Nat):Nat × Int:=if Nat.gcd n a=1 then (Ol a n,0) else (0,4)
variable {i:Nat}
theorem Om {j:Nat} (hi:i<n) (hj:j<n) (h1:i*a % n=1) (h2:j*a % n=1):i=j:=by
 have e1:(i*(j*a)) % n=i % n:=by rw [Nat.mul_mod,h2,Nat.mul_one,Nat.mod_mod]
 have e2:(j*(i*a)) % n=j % n:=by rw [Nat.mul_mod,h1,Nat.mul_one,Nat.mod_mod]
 have e3:i*(j*a)=j*(i*a):=by rw [←Nat.mul_assoc, ←Nat.mul_assoc,Nat.mul_comm i j]
 rw [e3,e2,Nat.mod_eq_of_lt hi,Nat.mod_eq_of_lt hj] at e1;exact e1.symm
theorem Qh (hi:i<n) (h:i*a % n=1):Ol a n=i:=by
 unfold Ol;rw [iF (p:=fun i=>decide (i*a % n=1)) hi (ah h) (fun j hj=>aj fun e=>by
  have:=Om (a:=a) (n:=n) (i:=j) (j:=i) (by omega) hi e h;omega)]
 rfl
def Uw (u:Int) (n:Nat):Int:=if u<0 then u+n else u
theorem EuI.fin {u v:Int} (h:EuI n a x 0 u v) (hn:2≤n) (hx:x=1):0≤Uw u n∧Uw u n<n∧Uw u n=Ol a n:=by
 subst hx;obtain ⟨k,hk⟩:=h.du;have hu0:=h.u0;have hu1:=h.u1;have key: ∀ (z:Int),(n:Int)∣z*a - ((1:Nat):Int)→0≤z→z≤n→z<n∧z=Ol a n:=by
  rintro z ⟨q,hq⟩ h0 h1;have hne:z≠n:=fun e=>by
   subst e;have:(n:Int)*((a:Int) - q)=1:=by rw [Int.mul_sub];omega
   have h3:((n:Int)*((a:Int) - q)) % (n:Int)=0:=Int.mul_emod_right _ _;rw [this,Int.emod_eq_of_lt (by omega) (by omega)] at h3;omega
  obtain ⟨m,rfl⟩: ∃ m:Nat,z=m:=⟨z.toNat,by omega⟩
  have hm:m<n:=by omega
  refine ⟨by omega,?_⟩;have e:m*a % n=1:=by
   have h2:((m*a:Nat):Int) % (n:Int)=1:=by
    rw [Int.natCast_mul];have:(m:Int)*(a:Int)=1+(n:Int)*q:=by omega
    rw [this,Int.add_mul_emod_self_left];exact Int.emod_eq_of_lt (by omega) (by omega)
   have h3:((m*a % n:Nat):Int)=1:=by rw [Int.natCast_emod];exact h2
   omega
  rw [Qh hm e]
 unfold Uw;split
 ·next hu=>
  have:=key (u+n) ⟨k+a,by rw [Int.add_mul,Int.mul_add];omega⟩ (by omega) (by omega);exact ⟨by omega,this.1,this.2⟩
 ·next hu=>
  have:=key u ⟨k,hk⟩ (by omega) hu1;exact ⟨by omega,this.1,this.2⟩
theorem Y4 (a n:Nat) (h1:2≤n) (h2:n≤2147483647) (ha:a<n):TC Tryz.prog 265 [.v (.int .u32 n), .t 1 1 [.v (.int .u32 a)]] (.v (.bool true)):=by
 refine Wv.TC.by 23 [1,9,8,10,7,6,0,15,4] [] [.tmp 4] Tryz.func265 rfl rfl rfl ?clo ?_
 case clo=>simp only [Wv.BC]
 refine Wv.W ?_;refine aQ (σ:=Nat) (fun i=>[(0, .v (.int .u32 n)),(7, .t 1 1 [.v (.int .u32 a)]),(8, .v (.int .i64 1)),(9, .v (.int .i64 i))]) (fun i=>[]) (fun i=>i≤1) (fun i=>1 - i) 0 (by omega) Wv.V Wv.V ?_;intro i hi;have d1: ¬ (n:Int)≤(a:Int):=by omega
 have d2:(2:Int)≤(n:Int):=by omega
 have d3:(n:Int)≤2147483647:=by omega
 by_cases hlt:i<1
 ·have:i=0:=by omega
  subst this;refine Wv.W1 (aj d1) ?_;refine au 1 (by omega) (by omega) Wv.V (Wv.V1 @Int.natCast_one)
 ·have:i=1:=by omega
  subst this;exact Wv.V3 @Int.natCast_one (ah d2) (ah d3)
theorem Qi (a n:Nat) (h1:2≤n) (h2:n≤2147483647) (ha:a<n):TC Tryz.prog 251 [.v (.int .u32 a), .v (.int .u32 n)] (.tup [.v (.int .u32 (jq a n).1), .v (.int .i64 (jq a n).2)]):=by
 refine Wv.TC.by 47 [1,0,15,7,21,6,10,9,8,38,40,4,5] [] [.tmp 4, .tmp 5] Tryz.func251 rfl rfl rfl ?clo ?_
 case clo=>simp only [Wv.BC]
 refine Wv.W ?_;refine ak (Y4 a n h1 h2 ha) rfl Wv.c Wv.c ?_;refine Wv.W ?_;have HS:=EuI.start h1 ha;refine aQ (σ:=Nat × Nat × Int × Int) (fun s=>[(1, .v (.int .u32 n)),(6, .v (.int .i64 (s.1:Nat))),(7, .v (.int .i64 (s.2.1:Nat))),(8, .v (.int .i64 s.2.2.1)),(9, .v (.int .i64 s.2.2.2))]) (fun s=>[some (.arr 22 1 [.v (.int .u32 a)] 1)])
  (fun s=>EuI n a s.1 s.2.1 s.2.2.1 s.2.2.2) (fun s=>s.2.1) (n,a,0,1) HS Wv.V Wv.V ?_
 rintro ⟨x,y,u,v⟩ he;simp only at he ⊢;by_cases hy:0<y
 ·have hy0: ¬ ((y:Int)=0):=by omega
  have hs:=he.step hy;have hxn:=he.xn;have hu0:=he.u0;have hu1:=he.u1;have hv0':=hs.v0;have am6:=hs.v1;have hdm:=Nat.div_add_mod x y;have hr:x % y<y:=Nat.mod_lt _ hy;have edt:(x:Int).tdiv (y:Int)=((x / y:Nat):Int):=by rw [Int.tdiv_eq_ediv_of_nonneg (by omega)];exact (Int.natCast_ediv x y).symm
  generalize x / y=q at*;generalize x % y=r at*;have hqy:((y*q+r:Nat):Int)=(x:Int):=by rw [hdm]
  rw [Int.natCast_add,Int.natCast_mul,Int.mul_comm] at hqy;have hq0:(0:Int)≤(q:Int)*(y:Int):=Int.mul_nonneg (by omega) (by omega);have hqx:(q:Int)≤(x:Int):=by
   have h:(q:Int)*1≤(q:Int)*(y:Int):=Int.mul_le_mul_of_nonneg_left (by omega) (by omega);omega
  have e2:IntKind.i64.wrap ((q:Int)*(y:Int))=(q:Int)*(y:Int):=by rw [IntKind.wrap_i64];omega
  have e3:(x:Int) - (q:Int)*(y:Int)=(r:Int):=by omega
  have e4:IntKind.i64.wrap ((q:Int)*v)=(q:Int)*v:=by rw [IntKind.wrap_i64];omega
  have e5:IntKind.i64.wrap (u - (q:Int)*v)=u - (q:Int)*v:=by rw [IntKind.wrap_i64];omega
  simp (disch:=first|exact Wv.D|fail) only [Wv.B,simprocAttr,aj hy0,edt,e2,e3,e4,e5];refine au (y,r,v,u - (q:Int)*v) hs hr Wv.V Wv.V
 ·obtain rfl:y=0:=by omega
  have hg:=he.gc;rw [Nat.gcd_zero_right] at hg;by_cases hx:x=1
  ·have hi:jq a n=(Ol a n,0):=if_pos (by rw [←hg,hx]);obtain ⟨f1,f2,f3⟩:=he.fin h1 hx;subst hx;have hf:Uw u n=if u<0 then u+n else u:=rfl
   have hu0:=he.u0;have hu1:=he.u1;by_cases hu:u<0
   ·rw [if_pos hu] at hf;refine Wv.W2 (ah hu) hi ?_;rw [←f3,hf]
   ·rw [if_neg hu] at hf;refine Wv.W2 (aj hu) hi ?_;rw [←f3,hf]
  ·have hi:jq a n=(0,4):=if_neg (fun e=>hx (by rw [hg,e]));have hx': ¬ ((x:Int)=1):=by omega
   exact Wv.V2f (aj hx') hi
theorem Oo {a:AV} (h1:Clo a): ∀ x,x∈[a]→Clo x:=by simp only [Wv.BC];exact h1
theorem rG {x y:Int} (hx:0≤x):x.tmod y=x % y:=Int.tmod_eq_emod_of_nonneg hx
def ofT (n:Nat) (f:Nat→Nat):List Nat:=(List.range n).map f
theorem tK (n:Nat) (f:Nat→Nat):(ofT n f).length=n:=by simp [ofT]
theorem AU (n:Nat) (f:Nat→Nat) (i:Nat):(ofT n f).getD i 0=if i<n then f i else 0:=by
 unfold ofT;by_cases h:i<n
 ·simp [h]
 ·simp [h]
theorem KX (l:List Nat):ofT l.length (fun i=>l.getD i 0)=l:=by
 apply List.ext_getElem (by simp [ofT]);intro i h1 h2;simp [ofT,h2]
theorem Y5 (n k:Nat) (f:Nat→Nat) (h:k≤n):(ofT n f).take k=ofT k f:=by
 unfold ofT;rw [←List.map_take,List.take_range,Nat.min_eq_left h]
def fU (n:Nat) (f:Nat→Nat):AV:= .t n 1 (tab n fun i=> .v (.int .u32 (f i:Nat)))
def dn (l:List Nat):AV:=fU l.length fun i=>l.getD i 0
theorem KY (n:Nat) (f:Nat→Nat):dn (ofT n f)=fU n f:=by
 unfold dn fU;rw [tK,aS (f':=fun i=> .v (.int .u32 (f i:Nat))) fun i hi=>by show AV.v (.int .u32 (((ofT n f).getD i 0:Nat):Int))=_;rw [AU,if_pos hi]]
theorem lC (n:Nat) (f:Nat→Nat):Clo (fU n f):=by unfold fU;simp only [Wv.BC]
theorem bg (l:List Nat):Clo (dn l):=lC _ _
def dJ (f:Nat→Nat):Nat→Nat
 | 0=>0
 | n+1=>if f n=0 then dJ f n else n+1
theorem iW (f:Nat→Nat) (n:Nat):dJ f (n+1)=if f n=0 then dJ f n else n+1:=rfl
theorem wX (f:Nat→Nat): ∀ n,dJ f n≤n
 | 0=>Nat.le_refl _
 | n+1=>by
  unfold dJ;split
  ·have:=wX f n;omega
  ·exact Nat.le_refl _
theorem zQ {f g:Nat→Nat}: ∀ {n:Nat},(∀ i,i<n→f i=g i)→dJ f n=dJ g n
 | 0,_=>rfl
 | n+1,h=>by
  unfold dJ;rw [h n (by omega),zQ (n:=n) fun i hi=>h i (by omega)]
def aX (l:List Nat):List Nat:=l.take (dJ (fun i=>l.getD i 0) l.length)
theorem F7 (n:Nat) (f:Nat→Nat):aX (ofT n f)=ofT (dJ f n) f:=by
 unfold aX;rw [tK,zQ (g:=f) fun i hi=>by rw [AU,if_pos hi]];exact Y5 _ _ _ (wX f n)
theorem DN (n:Nat) (f:Nat→Nat) (hn:n≤140737488351232):TC Tryz.prog 255 [fU n f] (dn (aX (ofT n f))):=by
 rw [F7,KY];unfold fU;refine Wv.TC.by 21 [0,14,2] [] [.tmp 2] Tryz.func255 rfl rfl rfl ?clo ?_
 case clo=>simp only [Wv.BC]
 refine Wv.W ?_;refine aQ (σ:=Nat) (fun k=>[(0,fU k f)]) (fun k=>[]) (fun k=>k≤n∧dJ f k=dJ f n) (fun k=>k) n ⟨Nat.le_refl _,rfl⟩ Wv.V (by simp (disch:=first|exact Wv.D|fail) only [Wv.B,simprocAttr,fU]) ?_;rintro k ⟨hk,he⟩;unfold fU;cases k with
 | zero=>
  have e0:dJ f n=0:=he.symm;simp (disch:=first|exact Wv.D|fail) only [Wv.B,simprocAttr,e0]
 | succ k=>
  have e1:((k+1:Nat):Int) - 1=(k:Int):=by omega
  have e2:(0:Int)<((k+1:Nat):Int):=by omega
  by_cases hd:f k=0
  ·have he':dJ f k=dJ f n:=by rw [←he,iW,if_pos hd]
   refine Wv.W3 e1 (ah e2) hd ?_;refine au k ⟨by omega,he'⟩ (by omega) Wv.V Wv.V
  ·have he':dJ f n=k+1:=by rw [←he,iW,if_neg hd]
   have hd': ¬ ((f k:Nat):Int)=0:=by omega
   simp (disch:=first|exact Wv.D|fail) only [Wv.B,simprocAttr,e1,ah e2,aj hd',he']
def DR (m:Nat) (f:Nat→Nat) (x n:Nat):Nat→Nat
 | 0=>0
 | k+1=>(DR m f x n k*x+f (n - 1 - k)) % m
def mV (m:Nat) (l:List Nat) (x:Nat):Nat:=DR m (fun i=>l.getD i 0) x l.length l.length
variable {m:Nat}
theorem Qj (hm:0<m) (f:Nat→Nat) (x n k:Nat):DR m f x n k<m:=by
 cases k with
 | zero=>exact hm
 | succ k=>exact Nat.mod_lt _ hm
theorem pq {v:Nat} (hv:v<m) (hx:x<m) (hm:m≤2147483647):v*x≤4611686014132420609:=
 Nat.le_trans (Nat.mul_le_mul (show v≤2147483647 by omega) (show x≤2147483647 by omega)) (by decide)
theorem F8 (m:Nat) (l:List Nat) (x:Nat) (h1:2≤m) (h2:m≤2147483647) (hl: ∀ i,l.getD i 0<m) (hx:x<m) (hn:l.length≤140737488351232):
  TC Tryz.prog 252 [.v (.int .u32 m),dn l, .v (.int .u32 x)] (.v (.int .u32 (mV m l x:Nat))):=by
 unfold dn mV;obtain ⟨f,hf⟩: ∃ f:Nat→Nat,(fun i=>l.getD i 0)=f:=⟨_,rfl⟩
 have hl': ∀ i,f i<m:=fun i=>by rw [←hf];exact hl i
 rw [hf];clear hl hf;generalize l.length=n at*;unfold fU;refine Wv.TC.by 31 [1,8,13,7,2,0,6] [] [.tmp 6] Tryz.func252 rfl rfl rfl ?clo ?_
 case clo=>simp only [Wv.BC]
 refine Wv.W ?_;refine aQ (σ:=Nat) (fun k=>[(0, .v (.int .u32 m)),(1,fU n f),(2, .v (.int .u32 x)),(7, .v (.int .u64 (DR m f x n k:Nat))),(8, .v (.int .i64 ((n:Int) - 1 - k)))]) (fun k=>[]) (fun k=>k≤n) (fun k=>n - k) 0 (Nat.zero_le _) Wv.V (by simp (disch:=first|exact Wv.D|fail) only [Wv.B,simprocAttr,fU];rfl) ?_;intro k hk;have hv:=Qj (m:=m) (by omega) f x n k;have hm0: ¬ ((m:Int)=0):=by omega
 have e0:DR m f x n (k+1)=(DR m f x n k*x+f (n - 1 - k)) % m:=rfl;unfold fU;by_cases hlt:k<n
 ·have e1:(0:Int)≤(n:Int) - 1 - k:=by omega
  have e2:(n:Int) - 1 - k=((n - 1 - k:Nat):Int):=by omega
  have hf:=hl' (n - 1 - k);have hb:=pq hv hx h2;have e5:((n - 1 - k:Nat):Int) - 1=(n:Int) - 1 - ((k+1:Nat):Int):=by omega
  have e6:0<n - k:=by omega
  have hj:n - 1 - k<n:=by omega
  have e3:((DR m f x n (k+1):Nat):Int)=((DR m f x n k:Int)*(x:Int)+(f (n - 1 - k):Int)) % (m:Int):=by rw [e0,Int.natCast_emod,Int.natCast_add,Int.natCast_mul]
  clear e0;generalize DR m f x n k=v at*;generalize n - 1 - k=j at*;have hb':((v*x:Nat):Int)≤4611686014132420609:=by omega
  have hb0:0≤((v*x:Nat):Int):=by omega
  rw [Int.natCast_mul] at hb' hb0;refine Wv.W3 (ah e1) e2 @rG ?_;refine au (k+1) (by omega) (by omega) Wv.V (Wv.V2f e3 e5)
 ·obtain rfl:k=n:=by omega
  have e1: ¬ (0:Int)≤(k:Int) - 1 - k:=by omega
  exact Wv.V1 (aj e1)
theorem F9 {m:Nat} {g:Nat→AV}: ∀ {k n:Nat} {f:Nat→AV},m≤n→k≤m→dW (tab n f) (m - k) (tab k fun i=>g (i+(m - k)))=tab n fun i=>if m - k≤i∧i<m then g i else f i
 | 0,n,f,h,hk=>by
  show tab n f=_;exact aS fun i hi=>by rw [if_neg (by omega)]
 | k+1,n,f,h,hk=>by
  have e1:(tab (k+1) fun i=>g (i+(m - (k+1))))=g (m - (k+1))::tab k fun i=>g (i+(m - k)):=by
   unfold tab;rw [List.range_succ_eq_map,List.map_cons,List.map_map,Nat.zero_add];congr 1;apply List.map_congr_left;intro i hi;show g (i+1+(m - (k+1)))=_;congr 1;omega
  rw [e1];show dW ((tab n f).set (m - (k+1)) _) (m - (k+1)+1) _=_;rw [dB,show m - (k+1)+1=m - k by omega,F9 (k:=k) h (by omega)];refine aS fun i hi=>?_
  by_cases q:i=m - (k+1)
  ·subst q;rw [if_neg (by omega),if_pos rfl,if_pos (by omega)]
  ·by_cases q2:m - k≤i∧i<m
   ·rw [if_pos q2,if_pos (by omega)]
   ·rw [if_neg q2,if_neg q,if_neg (by omega)]
theorem Oq {f g:Nat→AV} (h:m≤n):dW (tab n f) 0 (tab m g)=tab n fun i=>if i<m then g i else f i:=by
 have:=F9 (g:=g) (f:=f) h (Nat.le_refl m);rw [Nat.sub_self] at this;simp only [Nat.add_zero,Nat.zero_le,true_and] at this;exact this
def cbF (m c:Nat) (f g:Nat→Nat) (k i:Nat):Nat:=if i<k then (f i+g i*c) % m else f i
theorem aib (m c:Nat) (f g:Nat→Nat) (k:Nat):cbF m c f g k k=f k:=by unfold cbF;rw [if_neg (by omega)]
theorem Y6 (m c:Nat) (f g:Nat→Nat) (k i:Nat):cbF m c f g (k+1) i=if i=k then (f k+g k*c) % m else cbF m c f g k i:=by
 unfold cbF;by_cases e:i=k
 ·subst e;rw [if_pos (by omega),if_pos rfl]
 ·rw [if_neg e];by_cases h:i<k
  ·rw [if_pos h,if_pos (by omega)]
  ·rw [if_neg h,if_neg (by omega)]
def mW (m:Nat) (a b:List Nat) (c:Nat):List Nat:=aX (ofT (max a.length b.length) fun i=>if i<b.length then (a.getD i 0+b.getD i 0*c) % m else a.getD i 0)
theorem KZ (m:Nat) (a b:List Nat) (c:Nat) (h1:2≤m) (h2:m≤2147483647) (ha: ∀ i,a.getD i 0<m) (hb: ∀ i,b.getD i 0<m) (hc:c<m) (hn:a.length≤1000000000) (hk:b.length≤1000000000):
  TC Tryz.prog 253 [.v (.int .u32 m),dn a,dn b, .v (.int .u32 c)] (dn (mW m a b c)):=by
 unfold mW dn;have ha0: ∀ i,a.length≤i→a.getD i 0=0:=fun i h=>by simp [h]
 have hT:=DN (max a.length b.length) (fun i=>if i<b.length then (a.getD i 0+b.getD i 0*c) % m else a.getD i 0) (by omega);generalize (aX (ofT (max a.length b.length) fun i=>if i<b.length then (a.getD i 0+b.getD i 0*c) % m else a.getD i 0))=R at*;have hRc:=bg R;unfold dn at hT hRc;obtain ⟨f,hf⟩: ∃ f:Nat→Nat,f=fun i=>a.getD i 0:=⟨_,rfl⟩
 obtain ⟨g,hg⟩: ∃ g:Nat→Nat,g=fun i=>b.getD i 0:=⟨_,rfl⟩
 have ef: ∀ i,a.getD i 0=f i:=fun i=>by rw [hf]
 have eg: ∀ i,b.getD i 0=g i:=fun i=>by rw [hg]
 simp only [ef,eg] at*;clear ef eg hf hg;generalize a.length=p at*;generalize b.length=q at*;unfold fU at*;have hcF: ∀ k i,cbF m c f g k i<m:=fun k i=>by unfold cbF;split;exact Nat.mod_lt _ (by omega);exact ha i
 have hTe:(fun i=>AV.v (Value.int IntKind.u32 (((fun i=>if i<q then (f i+g i*c) % m else f i) i:Nat):Int)))=fun i=>AV.v (.int .u32 (cbF m c f g q i:Nat)):=rfl
 have hmx:(if (q:Int)>(p:Int) then (q:Int) else (p:Int)).toNat=max p q:=by split<;>omega
 have hmy:(if (q:Int)>(p:Int) then (q:Int) else (p:Int))=((max p q:Nat):Int):=by split<;>omega
 have hpN:p≤max p q:=Nat.le_max_left _ _;have hqN:q≤max p q:=Nat.le_max_right _ _;have hNN:max p q≤1000000000:=by omega
 rw [hTe] at hT;clear hTe;generalize max p q=N at*;have h0:(tab N fun i=>if i<p then AV.v (.int .u32 (f i:Nat)) else AV.v (.int .u32 0))=tab N fun i=>AV.v (.int .u32 (cbF m c f g 0 i:Nat)):=aS fun i hi=>by
  by_cases h:i<p
  ·rw [if_pos h];rfl
  ·rw [if_neg h];show _=AV.v (.int .u32 (f i:Nat));rw [ha0 i (by omega)];rfl
 refine Wv.TC.by 49 [1,2,9,23,22,24,21,10,11,3,0,8] [] [.tmp 8] Tryz.func253 rfl rfl rfl ?clo ?_
 case clo=>exact hRc
 refine Wv.W3 @Oq hmx h0 ?_;clear h0;refine aQ (σ:=Nat) (fun k=>[(0, .v (.int .u32 m)),(3, .v (.int .u32 c)),(9, .own 0 N),(21, .t q 1 (tab q fun i=> .v (.int .u32 (g i:Nat)))),(22, .v (.int .i64 q)),(23, .v (.int .i64 k))])
  (fun k=>[some (.arr 22 1 (tab N fun i=> .v (.int .u32 (cbF m c f g k i:Nat))) 0)]) (fun k=>k≤q) (fun k=>q - k) 0 (Nat.zero_le _) rfl Wv.V ?_
 intro k hk;by_cases hlt:k<q
 ·have e1:(k:Int)<(q:Int):=by omega
  have hb1:=pq (hb k) hc h2;have hf:=ha k;have hg:=hb k;have hcc:=Y6 m c f g k;have hck:cbF m c f g k k=f k:=aib m c f g k;have hb':(((g k)*c:Nat):Int)≤4611686014132420609:=by omega
  have hb0:0≤(((g k)*c:Nat):Int):=by omega
  rw [Int.natCast_mul] at hb' hb0;have e7:IntKind.u32.wrap ((((f k:Nat):Int)+((g k:Nat):Int)*(c:Int)) % (m:Int))=(((f k+g k*c) % m:Nat):Int):=by
   have h8:(((f k+g k*c) % m:Nat):Int)=(((f k:Nat):Int)+((g k:Nat):Int)*(c:Int)) % (m:Int):=by rw [Int.natCast_emod,Int.natCast_add,Int.natCast_mul]
   have h9:(f k+g k*c) % m<m:=Nat.mod_lt _ (by omega);rw [←h8,IntKind.wrap_u32];omega
  have h8:(tab N fun i=>if i=k then AV.v (.int .u32 (((f k+g k*c) % m:Nat):Int)) else AV.v (.int .u32 (cbF m c f g k i:Nat)))=tab N fun i=>AV.v (.int .u32 (cbF m c f g (k+1) i:Nat)):=aS fun i hi=>by
   rw [hcc];by_cases h:i=k
   ·rw [if_pos h,if_pos h]
   ·rw [if_neg h,if_neg h]
  simp (disch:=first|exact Wv.D|fail) only [Wv.B,simprocAttr,ah e1,hck,rG,dB,e7,h8];refine au (k+1) (by omega) (by omega) rfl Wv.V2
 ·obtain rfl:k=q:=by omega
  refine Wv.W2 @Int.lt_irrefl @decide_false ?_;refine jV hT (Oo Wv.c) hRc ?_;refine Wv.W ?_;refine iE rfl ?_;exact Wv.V
def cvF (m q:Nat) (f g:Nat→Nat):Nat→Nat→Nat
 | 0,j=>0
 | i+1,j=>if i≤j∧j<i+q then (cvF m q f g i j+f i*g (j - i)) % m else cvF m q f g i j
def cvR (m q:Nat) (f g:Nat→Nat) (i k j:Nat):Nat:=if i≤j∧j<i+k then (cvF m q f g i j+f i*g (j - i)) % m else cvF m q f g i j
theorem Y7 (m q:Nat) (f g:Nat→Nat) (i j:Nat):cvR m q f g i 0 j=cvF m q f g i j:=by unfold cvR;rw [if_neg (by omega)]
theorem aic (m q:Nat) (f g:Nat→Nat) (i k:Nat):cvR m q f g i k (i+k)=cvF m q f g i (i+k):=by unfold cvR;rw [if_neg (by omega)]
theorem Y8 (m q:Nat) (f g:Nat→Nat) (i k j:Nat):cvR m q f g i (k+1) j=if j=i+k then (cvF m q f g i (i+k)+f i*g k) % m else cvR m q f g i k j:=by
 unfold cvR;by_cases e:j=i+k
 ·subst e;rw [if_pos (by omega),if_pos rfl,Nat.add_sub_cancel_left]
 ·rw [if_neg e];by_cases h:i≤j∧j<i+k
  ·rw [if_pos h,if_pos (by omega)]
  ·rw [if_neg h,if_neg (by omega)]
theorem Ot (hm:0<m) (q:Nat) (f g:Nat→Nat): ∀ i j,cvF m q f g i j<m
 | 0,j=>hm
 | i+1,j=>by
  unfold cvF;split
  ·exact Nat.mod_lt _ hm
  ·exact Ot hm q f g i j
def jY (m:Nat) (a b:List Nat):List Nat:=if a.length=0∨b.length=0 then [] else aX (ofT (a.length+b.length - 1) (cvF m b.length (fun i=>a.getD i 0) (fun i=>b.getD i 0) a.length))
theorem La (m:Nat) (a b:List Nat) (h1:2≤m) (h2:m≤2147483647) (ha: ∀ i,a.getD i 0<m) (hb: ∀ i,b.getD i 0<m) (hn:a.length≤1000000000) (hk:b.length≤1000000000):
  TC Tryz.prog 254 [.v (.int .u32 m),dn a,dn b] (dn (jY m a b)):=by
 by_cases hz:a.length=0∨b.length=0
 ·unfold jY;rw [if_pos hz];have T:TC Tryz.prog 254 [.v (.int .u32 m),dn a,dn b] (.v (.slice none 0 0)):=by
   unfold dn fU;generalize a.length=p at*;generalize b.length=q at*;refine Wv.TC.by 67 [1,2,19,29,28,30,27,36,35,37,34,7,8,10,9,11,0,6] [] [.tmp 6] Tryz.func254 rfl rfl rfl ?clo ?_
   case clo=>simp only [Wv.BC]
   by_cases h:p=0
   ·have e1:(p:Int)=0:=by omega
    exact Wv.V2f e1 (ah e1)
   ·have e1: ¬ (p:Int)=0:=by omega
    have e2:(q:Int)=0:=by omega
    exact Wv.V2f (aj e1) e2
  exact T.wk (⟨Wk.refl _,Wk.refl _,Wk.refl _,trivial⟩:WkL [AV.v (.int .u32 m),dn a,dn b] [AV.v (.int .u32 m),dn a,dn b]) (Wk.nil 1)
 have hp0:0<a.length:=by omega
 have hq0:0<b.length:=by omega
 unfold jY;rw [if_neg hz];clear hz;have hT:=DN (a.length+b.length - 1) (cvF m b.length (fun i=>a.getD i 0) (fun i=>b.getD i 0) a.length) (by omega);generalize (aX (ofT (a.length+b.length - 1) (cvF m b.length (fun i=>a.getD i 0) (fun i=>b.getD i 0) a.length)))=R at*;have hRc:=bg R;unfold dn at hT hRc ⊢;obtain ⟨f,hf⟩: ∃ f:Nat→Nat,f=fun i=>a.getD i 0:=⟨_,rfl⟩
 obtain ⟨g,hg⟩: ∃ g:Nat→Nat,g=fun i=>b.getD i 0:=⟨_,rfl⟩
 have ef: ∀ i,a.getD i 0=f i:=fun i=>by rw [hf]
 have eg: ∀ i,b.getD i 0=g i:=fun i=>by rw [hg]
 simp only [ef,eg] at*;clear ef eg hf hg;generalize a.length=p at*;generalize b.length=q at*;unfold fU at*;have hN:((p:Int)+(q:Int) - 1).toNat=p+q - 1:=by omega
 obtain ⟨N,hNe⟩: ∃ N,N=p+q - 1:=⟨_,rfl⟩
 rw [←hNe] at hN hT;have hNN:N≤2000000000:=by omega
 have h0:(tab N fun i=>AV.v (.int .u32 0))=tab N fun i=>AV.v (.int .u32 (cvF m q f g 0 i:Nat)):=rfl
 refine Wv.TC.by 67 [1,2,19,29,28,30,27,36,35,37,34,7,8,10,9,11,0,6] [] [.tmp 6] Tryz.func254 rfl rfl rfl ?clo ?_
 case clo=>exact hRc
 have e1: ¬ (p:Int)=0:=by omega
 have e2: ¬ (q:Int)=0:=by omega
 refine Wv.W4 (aj e1) (aj e2) hN h0 ?_;clear h0 hN;refine aQ (σ:=Nat) (fun i=>[(0, .v (.int .u32 m)),(2, .t q 1 (tab q fun i=> .v (.int .u32 (g i:Nat)))),(7, .own 0 N),(27, .t p 1 (tab p fun i=> .v (.int .u32 (f i:Nat)))),(28, .v (.int .i64 p)),(29, .v (.int .i64 i))])
  (fun i=>[some (.arr 22 1 (tab N fun j=> .v (.int .u32 (cvF m q f g i j:Nat))) 0)]) (fun i=>i≤p) (fun i=>p - i) 0 (Nat.zero_le _) rfl Wv.V ?_
 intro i hi;by_cases hlt:i<p
 ·have e3:(i:Int)<(p:Int):=by omega
  refine Wv.W1 (ah e3) ?_;have h0:(tab N fun j=>AV.v (.int .u32 (cvF m q f g i j:Nat)))=tab N fun j=>AV.v (.int .u32 (cvR m q f g i 0 j:Nat)):=aS fun j hj=>by rw [Y7]
  refine aQ (σ:=Nat) (fun k=>[(0, .v (.int .u32 m)),(2, .t q 1 (tab q fun i=> .v (.int .u32 (g i:Nat)))),(7, .own 0 N),(8, .v (.int .i64 i)),(9, .v (.int .u32 (f i:Nat))),(27, .t p 1 (tab p fun i=> .v (.int .u32 (f i:Nat)))),(28, .v (.int .i64 p)),(29, .v (.int .i64 i)),(34, .t q 1 (tab q fun i=> .v (.int .u32 (g i:Nat)))),(35, .v (.int .i64 q)),(36, .v (.int .i64 k))])
   (fun k=>[some (.arr 22 1 (tab N fun j=> .v (.int .u32 (cvR m q f g i k j:Nat))) 0)]) (fun k=>k≤q) (fun k=>q - k) 0 (Nat.zero_le _) (by rw [h0]) Wv.V ?_
  clear h0;intro k hkk;by_cases hlt2:k<q
  ·have e4:(k:Int)<(q:Int):=by omega
   have hb1:=pq (ha i) (hb k) h2;have hb':(((f i)*(g k):Nat):Int)≤4611686014132420609:=by omega
   have hb0:0≤(((f i)*(g k):Nat):Int):=by omega
   rw [Int.natCast_mul] at hb' hb0;have hik:i+k<N:=by omega
   have hfi:=ha i;have hgk:=hb k;have e5:(i:Int)+(k:Int)=((i+k:Nat):Int):=by omega
   have hc0:=Ot (m:=m) (by omega) q f g i (i+k);have hck:cvR m q f g i k (i+k)=cvF m q f g i (i+k):=aic m q f g i k;have e7:IntKind.u32.wrap ((((cvF m q f g i (i+k):Nat):Int)+((f i:Nat):Int)*((g k:Nat):Int)) % (m:Int))=(((cvF m q f g i (i+k)+f i*g k) % m:Nat):Int):=by
    have h8:(((cvF m q f g i (i+k)+f i*g k) % m:Nat):Int)=(((cvF m q f g i (i+k):Nat):Int)+((f i:Nat):Int)*((g k:Nat):Int)) % (m:Int):=by rw [Int.natCast_emod,Int.natCast_add,Int.natCast_mul]
    have h9:(cvF m q f g i (i+k)+f i*g k) % m<m:=Nat.mod_lt _ (by omega);rw [←h8,IntKind.wrap_u32];omega
   have h8:(tab N fun j=>if j=i+k then AV.v (.int .u32 (((cvF m q f g i (i+k)+f i*g k) % m:Nat):Int)) else AV.v (.int .u32 (cvR m q f g i k j:Nat)))=tab N fun j=>AV.v (.int .u32 (cvR m q f g i (k+1) j:Nat)):=aS fun j hj=>by
    rw [Y8];by_cases h:j=i+k
    ·rw [if_pos h,if_pos h]
    ·rw [if_neg h,if_neg h]
   simp (disch:=first|exact Wv.D|fail) only [Wv.B,simprocAttr,ah e4,e5,hck,rG,dB,e7,h8];refine au (k+1) (by omega) (by omega) rfl Wv.V2
  ·obtain rfl:k=q:=by omega
   have h1':(fun j=>cvR m k f g i k j)=cvF m k f g (i+1):=rfl;refine Wv.W2 @Int.lt_irrefl @decide_false ?_;refine au (i+1) (by omega) (by omega) rfl Wv.V2
 ·obtain rfl:i=p:=by omega
  refine Wv.W2 @Int.lt_irrefl @decide_false ?_;refine jV hT (Oo Wv.c) hRc ?_;refine Wv.W ?_;refine iE rfl ?_;exact Wv.V
def bZ    (m : Nat) (xs ys : Nat → Nat) : Nat → List Nat × List Nat
  | 0 => ([], [1])
  | i + 1 => (mW    m (bZ    m xs ys i).1 (bZ    m xs ys i).2 ((ys i + m - mV   m (bZ    m xs ys i).1 (xs i)) % m * (jq   (mV   m (bZ    m xs ys i).2 (xs i)) m).1 % m),
      jY    m (bZ    m xs ys i).2 [(m - xs i) % m, 1])
def mJ (m:Nat) (xs:Nat→Nat) (p:Nat × Nat):Bool:=decide (Nat.gcd m ((xs p.1+m - xs p.2) % m)=1)
def yK (m n:Nat) (xs ys:Nat→Nat):AV:=if (prs n).all (mJ m xs)=true then .tup [dn (aX (bZ m xs ys n).1), .v (.int .i64 0)] else .tup [.v (.slice none 0 0), .v (.int .i64 7)]
theorem Ou (m n:Nat) (xs ys:Nat→Nat):Clo (yK m n xs ys):=by
 unfold yK;split
 ·simp only [Wv.BC,bg]
 ·simp only [Wv.BC]
def kU (m n:Nat) (xs ys:Nat→Nat):List Nat × Int:=if (prs n).all (mJ m xs)=true then (aX (bZ m xs ys n).1,0) else ([],7)
theorem iJ (l:List Nat):(aX l).length≤l.length:=by unfold aX;rw [List.length_take];exact Nat.min_le_right _ _
theorem mX (hm:0<m) {l:List Nat} (h: ∀ i,l.getD i 0<m) (i:Nat):(aX l).getD i 0<m:=by
 unfold aX;rw [List.getD_eq_getElem?_getD,List.getElem?_take];split
 ·have:=h i;rwa [List.getD_eq_getElem?_getD] at this
 ·exact hm
theorem Iw (hm:0<m)  {f:Nat→Nat} (h: ∀ i,f i<m) (i:Nat):(ofT n f).getD i 0<m:=by
 rw [AU];split
 ·exact h i
 ·exact hm
theorem Y9 (hm:0<m) {a b:List Nat} {c:Nat} (ha: ∀ i,a.getD i 0<m) (i:Nat):(mW m a b c).getD i 0<m:=
 mX hm (Iw hm fun i=>by split;exact Nat.mod_lt _ hm;exact ha i) i
theorem Gf (m:Nat) (a b:List Nat) (c:Nat):(mW m a b c).length≤max a.length b.length:=by
 have:=iJ (ofT (max a.length b.length) fun i=>if i<b.length then (a.getD i 0+b.getD i 0*c) % m else a.getD i 0);rw [tK] at this;exact this
theorem Za (hm:0<m) (a b:List Nat) (i:Nat):(jY m a b).getD i 0<m:=by
 unfold jY;split
 ·exact hm
 ·exact mX hm (Iw hm fun i=>Ot hm _ _ _ _ _) i
theorem Gg (m:Nat) (a b:List Nat):(jY m a b).length≤a.length+b.length - 1:=by
 unfold jY;split
 ·exact Nat.zero_le _
 ·have:=iJ (ofT (a.length+b.length - 1) (cvF m b.length (fun i=>a.getD i 0) (fun i=>b.getD i 0) a.length));rw [tK] at this;exact this
theorem AX      {m : Nat} (hm : 2 ≤ m) (xs ys : Nat → Nat) : ∀ i, (∀ j, (bZ    m xs ys i).1.getD j 0 < m) ∧ (∀ j, (bZ    m xs ys i).2.getD j 0 < m) ∧ (bZ    m xs ys i).1.length ≤ i ∧ (bZ    m xs ys i).2.length ≤ i + 1
  | 0 => ⟨fun j => by show ([] : List Nat).getD j 0 < m; rw [List.getD_nil]; omega, fun j => by
      show ([1] : List Nat).getD j 0 < m;cases j with
      | zero => show 1 < m; omega
      | succ j => show 0 < m; omega, Nat.le_refl _, Nat.le_refl _⟩
  | i + 1 => by
    obtain ⟨h1, h2, h3, h4⟩ := AX      hm xs ys i;refine ⟨Y9       (by omega) h1, Za       (by omega) _ _, ?_, ?_⟩
    · have := Gf        m (bZ    m xs ys i).1 (bZ    m xs ys i).2 ((ys i + m - mV   m (bZ    m xs ys i).1 (xs i)) % m * (jq   (mV   m (bZ    m xs ys i).2 (xs i)) m).1 % m)
      show (mW    _ _ _ _).length ≤ _;omega
    · have := Gg        m (bZ    m xs ys i).2 [(m - xs i) % m, 1]
      show (jY    _ _ _).length ≤ _;simp only [List.length_cons, List.length_nil] at this;omega
theorem Lc {p:Nat→Bool}  (h:findF p n=some i):i<n:=by
 by_cases hx: ∃ j,j<n∧p j=true
 ·obtain ⟨j,hj,hp⟩:=hx;have key: ∀ k,(∀ j,j<k→p j=false)∨ ∃ j,j<k∧p j=true∧ ∀ i,i<j→p i=false:=fun k=>by
   induction k with
   | zero=>exact .inl fun j hj=>by omega
   | succ k ih=>
    rcases ih with q | ⟨j,q1,q2,q3⟩
    ·cases hq:p k with
     | true=>exact .inr ⟨k,by omega,hq,q⟩
     | false=>
      refine .inl fun j hj=>?_
      by_cases e:j=k
      ·subst e;exact hq
      ·exact q j (by omega)
    ·exact .inr ⟨j,by omega,q2,q3⟩
  rcases key n with q | ⟨k,q1,q2,q3⟩
  ·rw [q j hj] at hp;cases hp
  ·rw [iF q1 q2 q3] at h;injection h with h;omega
 ·rw [gq fun j hj=>by cases hq:p j with | false=>rfl | true=>exact absurd ⟨j,hj,hq⟩ hx] at h;cases h
theorem Qk (hn:0<n):(jq a n).1<n:=by
 unfold jq;split
 ·show (findF (fun i=>decide (i*a % n=1)) n).getD 0<n;cases h:findF (fun i=>decide (i*a % n=1)) n with
  | none=>exact hn
  | some i=>exact Lc h
 ·exact hn
theorem Iy (hm:0<m) (l:List Nat) (x:Nat):mV m l x<m:=Qj hm _ _ _ _
theorem Ux (n:Nat) (h:Hp) (hh:loH h.length h):HT Tryz.prog 250 [.v (.int .i64 n)] h (fun r h'=>r= .fn (.func 264) [] [.ptr h.length 0]∧h'=h++[some (.blk [.v (.int .i64 n)])]):=by
 refine Wv.HT.by 4 [0,1,2] [(1000000,h.length)] [.tmp 2] Tryz.func250 rfl rfl rfl ?base ?_
 case base=>rfl
 exact Wv.V
theorem Ov (m n:Nat) (xs ys:Nat→Nat) (h1:2≤m) (h2:m≤2147483647) (hn:n≤256) (hx: ∀ i,i<n→xs i<m) (hy: ∀ i,i<n→ys i<m):
  TC Tryz.prog 240 [.v (.int .u32 m),fU n xs,fU n ys] (yK m n xs ys):=by
 have hRc:=Ou m n xs ys;unfold fU;refine Wv.TC.by 137 [0,1,3,4,2,32,6,7,35,38,37,39,8,54,58,59,60,9,10,12,80,84,83,85,82,14,16,15,13,17,19] [(8,14),(14,18),(22,9),(23,21),(25,9)] [.cell 6 23, .cell 7 35] Tryz.func240 rfl rfl rfl ?clo ?_
 case clo=>exact hRc
 have d1: ¬ (m:Int)<2:=by omega
 have d2: ¬ (2147483647:Int)<(m:Int):=by omega
 have d3: ¬ (256:Int)<(n:Int):=by omega
 refine Wv.W3 (aj d1) (aj d2) (aj d3) ?_;refine aQ (σ:=Nat) (fun i=>[(2, .t n 1 (tab n fun i=> .v (.int .u32 (ys i:Nat)))),(3, .ptr 0 0),(4, .ptr 1 0),(6, .ptr 2 0),(7, .ptr 3 0),(37, .v (.int .i64 n)),(38, .v (.int .i64 i))])
  (fun i=>[some (.blk [.v (.int .u32 m)]),some (.blk [.t n 1 (tab n fun i=> .v (.int .u32 (xs i:Nat)))]),some (.blk [.v (.slice none 0 0)]),some (.blk [.v (.int .i64 0)])]) (fun i=>i≤n) (fun i=>n - i) 0 (Nat.zero_le _) rfl Wv.V ?_
 intro i hi;by_cases hlt:i<n
 ·have e3:(i:Int)<(n:Int):=by omega
  have hxi:=hx i hlt;have hyi:=hy i hlt;have e4: ¬ (m:Int)≤(xs i:Nat):=by omega
  have e5: ¬ (m:Int)≤(ys i:Nat):=by omega
  refine Wv.W3 (ah e3) (aj e4) (aj e5) ?_;refine au (i+1) (by omega) (by omega) rfl Wv.V2
 obtain rfl:n=i:=by omega
 refine Wv.W2 @Int.lt_irrefl @decide_false ?_;refine aB (fst:=[]) (cap:=[]) (Ux n _ ?_) ?_
 ·simp only [Wv.BL, ↓reduceIte,Nat.reduceLeDiff]
 rintro av h' ⟨rfl,rfl⟩;refine Wv.W ?_;obtain ⟨HH,hHH⟩: ∃ HH:Hp,HH=[some (.blk [.v (.int .u32 m)]),some (.blk [.t n 1 (tab n fun i=> .v (.int .u32 (xs i:Nat)))]),some (.blk [.v (.slice none 0 0)]),some (.blk [.v (.int .i64 0)]),some (.blk [.v (.int .i64 n)])]:=⟨_,rfl⟩
 rw [←hHH];refine ah6 (L:=[0,1,3,4,2,32,6,7,35,38,37,39,8,54,58,59,60,9,10,12,80,84,83,85,82,14,16,15,13,17,19]) (ks':=[(8,14),(14,18),(22,9),(23,21),(25,9),(1000000,5)]) (by kernel_rfl) rfl (by kernel_rfl) (Oj n (by rw [hHH];rfl) (by omega)) (fun _=>rfl) (by kernel_rfl) (by kernel_rfl) (by kernel_rfl) (by rw [hHH];rfl)
  (fun x=>(9, .v (.int .i64 (x.1.1:Nat)))::(10, .v (.int .i64 (x.1.2:Nat)))::[(3, .ptr 0 0),(4, .ptr 1 0),(6, .ptr 2 0),(7, .ptr 3 0)])
  (fun a x=>KU 59 60 9 10 (.int .i64 (x.1.1:Nat)) (.int .i64 (x.1.2:Nat)) a)
  ?assign ?rel (fun pre h'=>h'=HH∧ ∀ p,p∈pre→mJ m xs p.1=true) (fun c pre h'=>c= .ret∧h'=[some (.blk [.v (.int .u32 m)]),some (.blk [.t n 1 (tab n fun i=> .v (.int .u32 (xs i:Nat)))]),some (.blk [.v (.slice none 0 0)]),some (.blk [.v (.int .i64 7)]),some (.blk [.v (.int .i64 n)])]∧ ∃ p,p∈pre∧mJ m xs p.1=false)
  ?nt ?ntx ?ids ?h0 ?body ?done ?stop
 case h0=>exact ⟨rfl,fun p hp=>(List.not_mem_nil hp).elim⟩
 case assign=>exact fun a l x W K hs hK=>assign2 rfl rfl rfl rfl rfl rfl hs (by decide) (by decide) (by decide) (by decide) hK
 case rel=>
  intro a x hs;refine am5 hs (by decide) (by decide) (by decide) ?_;intro y hy;simp only [List.mem_cons,List.not_mem_nil,or_false] at hy;rcases hy with rfl | rfl | rfl | rfl<;>exact ⟨rfl,by decide,by decide,by decide,by decide⟩
 case nt=>
  rintro pre h' ⟨rfl,_⟩;subst hHH;exact ⟨fun a ha=> .clo (by rw [List.mem_singleton] at ha;subst ha;exact .v _),fun a ha=> .clo (by rw [List.mem_singleton] at ha;subst ha;simp only [Wv.BC]),fun a ha=> .clo (by rw [List.mem_singleton] at ha;subst ha;exact .v _),fun a ha=> .clo (by rw [List.mem_singleton] at ha;subst ha;exact .v _),fun a ha=> .clo (by rw [List.mem_singleton] at ha;subst ha;exact .v _),trivial⟩
 case ntx=>
  rintro c pre h' ⟨_,rfl,_⟩;exact ⟨fun a ha=> .clo (by rw [List.mem_singleton] at ha;subst ha;exact .v _),fun a ha=> .clo (by rw [List.mem_singleton] at ha;subst ha;simp only [Wv.BC]),fun a ha=> .clo (by rw [List.mem_singleton] at ha;subst ha;exact .v _),fun a ha=> .clo (by rw [List.mem_singleton] at ha;subst ha;exact .v _),fun a ha=> .clo (by rw [List.mem_singleton] at ha;subst ha;exact .v _),trivial⟩
 case ids=>
  intro i hi;rw [List.mem_singleton] at hi;subst hi;refine ⟨by rw [hHH];exact Nat.le_refl _,[.int .i64 n],?_⟩;rintro pre h' ⟨rfl,_⟩;rw [hHH];rfl
 case stop=>
  rintro c pre h' hsp ⟨rfl,rfl,p,hp,hb⟩;have hQ:yK m n xs ys= .tup [.v (.slice none 0 0), .v (.int .i64 7)]:=if_neg fun hall=>by
   have:=List.all_eq_true.1 hall p.1 (hsp.subset (List.mem_map_of_mem hp));rw [this] at hb;cases hb
  unfold Exx;exact Wv.V1 hQ
 case body=>
  rintro pre ⟨⟨i,k⟩,hi,hk⟩ h' ⟨rfl,hp⟩ _ _;subst hHH;simp only at hi hk;have hxi:=hx i hi;have hxk:=hx k (by omega);have hk':k<n:=by omega
  have hm: ¬ (m:Int)=0:=by omega
  have hr:(xs i+m - xs k) % m<m:=Nat.mod_lt _ (by omega);have e1:((xs i:Int)+(m:Int) - (xs k:Int)) % (m:Int)=(((xs i+m - xs k) % m:Nat):Int):=by
   rw [Int.natCast_emod];congr 1;omega
  have hpb:mJ m xs (i,k)=decide (Nat.gcd m ((xs i+m - xs k) % m)=1):=rfl;refine Wv.W3 (aj hm) @rG e1 ?_;generalize (xs i+m - xs k) % m=z at*;refine eU (Qi z m h1 h2 hr) rfl Wv.c Wv.c ?_;by_cases hg:Nat.gcd m z=1
  ·have hv:(jq z m).2=0:=by unfold jq;rw [if_pos hg]
   refine Wv.W1 hv ?_;refine ⟨_,_,Ent.refl _ _ _ _,rfl,fun p hq=>?_⟩;rcases List.mem_append.1 hq with hq | hq
   ·exact hp p hq
   ·rw [List.mem_singleton] at hq;subst hq;exact hpb.trans (ah hg)
  ·have hv:(jq z m).2=4:=by unfold jq;rw [if_neg hg]
   refine Wv.W1 hv ?_;exact ⟨rfl,rfl,⟨(i,k),hi,hk⟩,List.mem_append_right _ (List.mem_singleton.2 rfl),hpb.trans (aj hg)⟩
 case done=>
  rintro zs h' hz ⟨rfl,hp⟩;have hall:(prs n).all (mJ m xs)=true:=by
   rw [←hz,List.all_map];exact List.all_eq_true.2 fun p hp'=>hp p hp'
  have hR:yK m n xs ys= .tup [dn (aX (bZ m xs ys n).1), .v (.int .i64 0)]:=if_pos hall;rw [hR] at hRc ⊢;clear hR hp hz;subst hHH;refine Wv.W ?_;refine jU (σ:=Nat) (fun i=>[(2, .t n 1 (tab n fun i=> .v (.int .u32 (ys i:Nat)))),(3, .ptr 0 0),(4, .ptr 1 0),(6, .ptr 2 0),(7, .ptr 3 0),(13,dn (bZ m xs ys i).1),(14,dn (bZ m xs ys i).2),(82, .t n 1 (tab n fun i=> .v (.int .u32 (xs i:Nat)))),(83, .v (.int .i64 n)),(84, .v (.int .i64 i))])
   (fun i=>[some (.blk [.v (.int .u32 m)]),some (.blk [.t n 1 (tab n fun i=> .v (.int .u32 (xs i:Nat)))]),some (.blk [.v (.slice none 0 0)]),some (.blk [.v (.int .i64 0)])]) (fun i=>i≤n) (fun i=>n - i) 0 (Nat.zero_le _) ?_ ?_
  ·refine Ent.trans (Ent.wk 13 _ (.t 0 1 []) rfl (Wk.nil 1)) (Ent.trans (Ent.close 14 (.own 5 1) (.t 1 1 [.v (.int .u32 1)]) _ rfl rfl) (Ent.cut 4 (Nat.zero_le _) ?_ ?_ ?_))
   ·refine Wv.W ?_;exact ⟨rfl,rfl⟩
   ·simp only [Wv.BL, ↓reduceIte,Nat.reduceLeDiff];exact ⟨by omega,by omega, .clo (bg _), .clo (bg _)⟩
   ·simp only [List.set_cons_zero,List.set_cons_succ];simp only [Wv.BL, ↓reduceIte,Nat.reduceLeDiff]
  ·intro i hi;obtain ⟨hb1,hb2,hb3,hb4⟩:=AX h1 xs ys i;by_cases hlt:i<n
   ·have e3:(i:Int)<(n:Int):=by omega
    have hxi:=hx i hlt;have hyi:=hy i hlt;have hnx:bZ m xs ys (i+1)=(mW m (bZ m xs ys i).1 (bZ m xs ys i).2 ((ys i+m - mV m (bZ m xs ys i).1 (xs i)) % m*(jq (mV m (bZ m xs ys i).2 (xs i)) m).1 % m),jY m (bZ m xs ys i).2 [(m - xs i) % m,1]):=rfl;generalize (bZ m xs ys i).1=O at*;generalize (bZ m xs ys i).2=B at*;have hvB:=Iy (m:=m) (by omega) B (xs i);have hvO:=Iy (m:=m) (by omega) O (xs i);have TB:=F8 m B (xs i) h1 h2 hb2 hxi (by omega);have TO:=F8 m O (xs i) h1 h2 hb1 hxi (by omega);have TI:=Qi (mV m B (xs i)) m h1 h2 hvB;have hiv:=Qk (a:=mV m B (xs i)) (n:=m) (by omega);refine Wv.W1 (ah e3) ?_;generalize mV m B (xs i)=vB at*;generalize mV m O (xs i)=vO at*;generalize (jq vB m).1=iv at*;generalize (jq vB m).2=ie at*;have hm0: ¬ (m:Int)=0:=by omega
    have hw:(ys i+m - vO) % m<m:=Nat.mod_lt _ (by omega);have hc:(ys i+m - vO) % m*iv % m<m:=Nat.mod_lt _ (by omega);have f1:((ys i:Int)+(m:Int) - (vO:Int)) % (m:Int)=(((ys i+m - vO) % m:Nat):Int):=by
     rw [Int.natCast_emod];congr 1;omega
    have hz:(m - xs i) % m<m:=Nat.mod_lt _ (by omega);have f4:((m:Int) - (xs i:Int)) % (m:Int)=(((m - xs i) % m:Nat):Int):=by
     rw [Int.natCast_emod];congr 1;omega
    have hmb:=pq hw hiv h2;have f2:(((ys i+m - vO) % m:Nat):Int)*(iv:Int) % (m:Int)=(((ys i+m - vO) % m*iv % m:Nat):Int):=by
     rw [Int.natCast_emod ((ys i+m - vO) % m*iv),Int.natCast_mul]
    have TC1:=KZ m O B ((ys i+m - vO) % m*iv % m) h1 h2 hb1 hb2 hc (by omega) (by omega);have TP:TC Tryz.prog 254 [.v (.int .u32 m),dn B, .t 2 1 [.v (.int .u32 ((m - xs i) % m:Nat)), .v (.int .u32 1)]] (dn (jY m B [(m - xs i) % m,1])):=La m B [(m - xs i) % m,1] h1 h2 hb2 (fun j=>by
     match j with
     | 0=>exact hz
     | 1=>show 1<m;omega
     | j+2=>show 0<m;omega) (by omega) (by show 2≤_;omega)
    have hr1:=bg (mW m O B ((ys i+m - vO) % m*iv % m));have hr2:=bg (jY m B [(m - xs i) % m,1]);have e1:dn (bZ m xs ys (i+1)).1=dn (mW m O B ((ys i+m - vO) % m*iv % m)):=by rw [hnx]
    have e2:dn (bZ m xs ys (i+1)).2=dn (jY m B [(m - xs i) % m,1]):=by rw [hnx]
    clear hnx;generalize dn (mW m O B ((ys i+m - vO) % m*iv % m))=O' at*;generalize dn (jY m B [(m - xs i) % m,1])=B' at*;generalize (ys i+m - vO) % m*iv % m=c at*;have am7:(((ys i+m - vO) % m*iv:Nat):Int)≤4611686014132420609:=by omega
    have am8:0≤(((ys i+m - vO) % m*iv:Nat):Int):=by omega
    rw [Int.natCast_mul] at am7 am8;clear hmb;generalize (ys i+m - vO) % m=u at*;generalize (m - xs i) % m=z at*;refine eU TB rfl (by simp only [Wv.BC,bg]) Wv.c ?_;refine Wv.W ?_;refine eU TI rfl Wv.c Wv.c ?_;refine Wv.W2 (aj hm0) @rG ?_;refine eU TO rfl (by simp only [Wv.BC,bg]) Wv.c ?_;refine Wv.W4 (aj hm0) @rG f1 f2 ?_;refine ak TC1 rfl (by simp only [Wv.BC,bg]) hr1 ?_;refine Wv.W3 (aj hm0) @rG f4 ?_;refine eU TP rfl (by simp only [Wv.BC,bg]) hr2 ?_;refine Wv.W ?_;refine au (i+1) (by omega) (by omega) rfl (Wv.V4 e1 e2 @Int.natCast_add @Int.natCast_one)
   ·obtain rfl:n=i:=by omega
    have T:=DN (bZ m xs ys n).1.length (fun i=>(bZ m xs ys n).1.getD i 0) (by omega);rw [KX] at T;have T':TC Tryz.prog 255 [dn (bZ m xs ys n).1] (dn (aX (bZ m xs ys n).1)):=T;clear T;refine Wv.W2 @Int.lt_irrefl @decide_false ?_;refine ak T' rfl (by simp only [Wv.BC,bg]) (bg _) ?_;simp (disch:=first|exact Wv.D|fail) only [Wv.B,simprocAttr,dn,fU]
theorem Uy (m n:Nat) (xs ys:Nat→Nat) (h1:2≤m) (h2:m≤2147483647) (hn:n≤256) (hx: ∀ i,i<n→xs i<m) (hy: ∀ i,i<n→ys i<m):
  TC Tryz.prog 240 [.v (.int .u32 m),fU n xs,fU n ys] (.tup [dn (kU m n xs ys).1, .v (.int .i64 (kU m n xs ys).2)]):=by
 refine (Ov m n xs ys h1 h2 hn hx hy).wk (⟨Wk.refl _,Wk.refl _,Wk.refl _,trivial⟩:WkL [AV.v (.int .u32 m),fU n xs,fU n ys] [AV.v (.int .u32 m),fU n xs,fU n ys]) ?_;unfold yK kU;split
 ·exact Wk.refl _
 ·exact Wk.tup (⟨Wk.nil 1,Wk.refl _,trivial⟩:WkL [.v (.slice none 0 0), .v (.int .i64 7)] [.t 0 1 [], .v (.int .i64 7)])
end
end Go.Proofs.YtljfgdlgmdcmfaaGreat
namespace Go.Proofs.YtljfgdlgmdcmfaaGreat.Wv
section
open Go.RowKit
theorem alB {X:Cx} (hX:Ok X) {id off fz s:Nat} {T:TypeId} {cells:List AV} {b:AV} (h:X.h[id]? =some (some (.arr T s cells fz))) (hab: ∀ (bk n:Nat) (cvs:Array Value),afg X id T s cells fz n bk cvs→ ∀ x,cvs[off]? =some x→Rep X b x):
  ∃ Y,Y.w=X.w∧Y.m=X.m∧Y.h=X.h.set id (some (.arr T s (cells.set off b) fz))∧Step X Y∧Ok Y:=by
 have hid:id<X.h.length:=(List.getElem?_eq_some_iff.1 h).1;have S:Step X ⟨X.w,X.m,X.h.set id (some (.arr T s (cells.set off b) fz)),X.bad,X.ds⟩:=by
  refine ⟨rfl,rfl,rfl,Nat.le_refl _,fun _ _ _=>rfl,fun _ _ _ h1 h2=>⟨h1,h2⟩,by simp,fun i T' s' c f _ hi=>?_,fun i c _ hi=>?_,fun c hc=>?_,fun _ _ hb=> .inl hb,fun i c _ hi=>?_,rfl⟩
  ·by_cases e:i=id
   ·subst e;simp only at hi;rw [List.getElem?_set_self hid] at hi;injection hi with hi;injection hi with hi;injection hi with e1 e2 e3 e4;subst e1 e2 e3 e4;exact ⟨cells,fz,h,by simp,fun _=>rfl⟩
   ·simp only at hi;rw [cu e] at hi;exact ⟨c,f,hi,Nat.le_refl _,fun _=>rfl⟩
  ·by_cases e:i=id
   ·subst e;simp only at hi;rw [List.getElem?_set_self hid] at hi;injection hi with hi;cases hi
   ·simp only at hi;rw [cu e] at hi;exact ⟨c,hi,rfl⟩
  ·obtain ⟨i,⟨o,ho⟩,hc⟩:=hc;by_cases e:i=id
   ·subst e;exact .inr ⟨i,⟨_,h⟩,hc⟩
   ·simp only at ho;rw [cu e] at ho;exact .inr ⟨i,⟨o,ho⟩,hc⟩
  ·by_cases e:i=id
   ·subst e;simp only at hi;rw [List.getElem?_set_self hid] at hi;injection hi with hi;cases hi
   ·simp only at hi;rw [cu e] at hi;exact ⟨c,hi,rfl⟩
 have live: ∀ i,Cx.live ⟨X.w,X.m,X.h.set id (some (.arr T s (cells.set off b) fz)),X.bad,X.ds⟩ i→X.live i:=fun i ⟨o,ho⟩=>by
  by_cases e:i=id
  ·subst e;exact ⟨_,h⟩
  ·simp only at ho;rw [cu e] at ho;exact ⟨o,ho⟩
 refine ⟨⟨X.w,X.m,X.h.set id (some (.arr T s (cells.set off b) fz)),X.bad,X.ds⟩,rfl,rfl,rfl,S,fun i c hi=>?_,fun i T' s' c f hi=>?_,fun i j c hi hj=>hX.inj i j c (live i hi) (live j hj),hX.dX,fun i es hi=>?_⟩
 ·by_cases e:i=id
  ·subst e;simp only at hi;rw [List.getElem?_set_self hid] at hi;injection hi with hi;cases hi
  ·simp only at hi;rw [cu e] at hi;obtain ⟨g,cvs,T',h1,h2,h3,h4,h5⟩:=hX.blk i c hi;exact ⟨g,cvs,T',h1,h2,h3,h4,fun j a' x q1 q2=>(h5 j a' x q1 q2).mono S⟩
 ·by_cases e:i=id
  ·subst e;simp only at hi;rw [List.getElem?_set_self hid] at hi;injection hi with hi;injection hi with hi;injection hi with e1 e2 e3 e4;subst e1 e2 e3 e4;obtain ⟨g1,g2,n,g3,g4⟩:=hX.arr i T s cells fz h;refine ⟨by simpa using g1,g2,n,by simpa using g3,?_⟩;rcases g4 with ⟨g4,g5⟩ | ⟨g,cvs,g4⟩
   ·exact .inl ⟨g4,by rw [g5];rfl⟩
   ·refine .inr ⟨g,cvs,⟨g4.at_,g4.blk,g4.cap,g4.iQ,g4.sz,g4.bad,fun j a' x q1 q2=>?_,g4.good⟩⟩;suffices hx:Rep X a' x from hx.mono S
    rw [List.getElem?_set] at q1;split at q1
    ·next hj=>
     subst hj;split at q1
     ·injection q1 with q1;subst q1;exact hab g n cvs g4 x q2
     ·cases q1
    ·exact g4.rep j a' x q1 q2
  ·simp only at hi;rw [cu e] at hi;obtain ⟨g1,g2,n,g3,g4⟩:=hX.arr i T' s' c f hi;refine ⟨g1,g2,n,g3,?_⟩;rcases g4 with g4 | ⟨g,cvs,g4⟩
   ·exact .inl g4
   ·exact .inr ⟨g,cvs,⟨g4.at_,g4.blk,g4.cap,g4.iQ,g4.sz,g4.bad,fun j a' x q1 q2=>(g4.rep j a' x q1 q2).mono S,g4.good⟩⟩
 ·by_cases e:i=id
  ·subst e;simp only at hi;rw [List.getElem?_set_self hid] at hi;injection hi with hi;cases hi
  ·simp only at hi;rw [cu e] at hi;obtain ⟨g,ents,clock,h1,h2,h3⟩:=hX.map i es hi;exact ⟨g,ents,clock,h1,h2,h3.mono S⟩
theorem Ent.Zb {n0 N:Nat} {e:Ev} {h:Hp} (id off:Nat) {T:TypeId} {s fz:Nat} {cells:List AV} {a a':AV} {h':Hp} (hc:h[id]? =some (some (.arr T s cells fz))) (ha:cells[off]? =some a) (hcl:fD h a=some (a',h')) (hk:h'[id]? =h[id]?):
  Ent n0 N e h e (h'.set id (some (.arr T s (cells.set off a') fz))):=fun X act hh hn hX hE=>by
 subst hh;obtain ⟨g1,g2,n,g3,g4⟩:=hX.arr id T s cells fz hc;have hoff:off<cells.length:=(List.getElem?_eq_some_iff.1 ha).1;rcases g4 with ⟨_,g5⟩ | ⟨bk,cvs,g4⟩
 ·rw [g5] at hoff;exact absurd hoff (Nat.not_lt_zero _)
 have hsz:off<cvs.size:=by
  have:=g4.sz;have h2:=Nat.mul_le_mul_right s g4.cap;omega
 have hv:=g4.rep off a cvs[off] ha (Array.getElem?_eq_getElem hsz);obtain ⟨Y,y1,y2,y3,y4,y5⟩:=su X a a' h' _ hX hcl hv;have hY:Y.h[id]? =some (some (.arr T s cells fz)):=by rw [y4,hk];exact hc
 have hid:id<X.h.length:=(List.getElem?_eq_some_iff.1 hc).1;obtain ⟨c2,f2,q1,q2,q3⟩:=y2.oh id T s cells fz hid hY;rw [hc] at q1;injection q1 with q1;injection q1 with q1;injection q1 with _ _ e3 _;have hm:=q3 (by rw [e3]);obtain ⟨Z,z1,z2,z3,z4,z5⟩:=alB y3 (id:=id) (off:=off) (b:=a') hY (fun b2 n2 anC k x hx=>by
  have e1:bk=b2:=by
   have:=k.at_;rw [hm,g4.at_] at this;injection this
  subst e1;have e2:=k.blk;rw [y1,g4.blk] at e2;injection e2 with e2;injection e2 with e2;subst e2;rw [Array.getElem?_eq_getElem hsz] at hx;injection hx with hx;subst hx;exact y5)
 exact ⟨Z,z1.trans y1,by rw [z3,y4],(y2.trans hX z4).toN hn,z5,hE.mono (y2.trans hX z4)⟩
theorem Ent.Iz {n0 N:Nat} {e e':Ev} {h h2:Hp} (m:Nat) (hm:n0≤m) (hf:wC e' e) (he:loE m e') (hh:h.take m=h2) (hl:loH m h2):Ent n0 N e h e' h2:=by
 subst hh;exact Ent.cut m hm hf he hl
end
end Go.Proofs.YtljfgdlgmdcmfaaGreat.Wv
namespace Go.Proofs.YtljfgdlgmdcmfaaGreat
section
open Go.RowKit Wv
variable {d:Nat}{v:Value}
theorem ad7 {a:Act}   (j:Nat) (hd:d<a.tmps.size):(a.put (some d) v).eval (.tmp j)=if d=j then v else a.eval (.tmp j):=by
 show (a.tmps.setIfInBounds d v).getD j undef=_;rw [o9];by_cases e:d=j
 ·subst e;rw [if_pos ⟨rfl,hd⟩,if_pos rfl]
 ·rw [if_neg (fun h=>e h.1),if_neg e];rfl
theorem Uz {a:Act}  :(a.put (some d) v).tmps.size=a.tmps.size:=by
 show (a.tmps.setIfInBounds d v).size=_;exact Array.size_setIfInBounds
def fr (n:Nat) (D:List Deferred) (A:Act) (l:List (Nat × Value)):Prop:=A.tmps.size=n∧A.defers=D∧ ∀ p,p∈l→A.eval (.tmp p.1)=p.2
variable {n:Nat}
theorem eF {D:List Deferred} {A:Act} {l:List (Nat × Value)} (F:fr n D A l) (i:Nat) {p:Nat × Value} (h:l[i]? =some p):A.eval (.tmp p.1)=p.2:=F.2.2 p (List.mem_of_getElem? h)
theorem ji {D:List Deferred} {A B:Act} {l:List (Nat × Value)}  (F:fr n D A l) (h:A.put (some d) v=B) (hd:d<n) (hl:l.all (fun p=>!Nat.beq d p.1)=true):fr n D B ((d,v)::l):=by
 subst h;have g:=fun j=>ad7 (a:=A) (v:=v) j (show d<A.tmps.size by rw [F.1];exact hd)
 refine ⟨Uz.trans F.1,F.2.1,List.forall_mem_cons.2 ⟨(g d).trans (if_pos rfl),fun p hp=>(g p.1).trans ((if_neg fun e=>?_).trans (F.2.2 p hp))⟩⟩;have:=List.all_eq_true.1 hl p hp;rw [e,Nat.beq_refl] at this;cases this
def jk (t:Nat) (f:Nat→Int) (v:Nat):Nat:=((f v+t) % t).toNat
def Ae (t:Nat) (f:Nat→Int):Nat:=dU ((dJ (fun i=>(kU t t id (jk t f)).1.getD i 0) (kU t t id (jk t f)).1.length - 1:Nat):Int)
theorem IB {t:Nat} (ht:0<t) (f:Nat→Int) (v:Nat):((jk t f v:Nat):Int)=(f v+t) % t:=Int.toNat_of_nonneg (Int.emod_nonneg _ (by omega))
theorem tN {t:Nat} (ht:0<t) (f:Nat→Int) (v:Nat):jk t f v<t:=by
 have h1:=IB ht f v;have h2:(f v+t) % t<t:=Int.emod_lt_of_pos _ (by omega);omega
def xiF (k i:Nat):Nat:=if i<k then i else 0
def yiF (t:Nat) (f:Nat→Int) (k i:Nat):Nat:=if i<k then jk t f i else 0
theorem Ld (i:Nat):xiF 0 i=0:=if_neg (Nat.not_lt_zero _)
theorem Le (t:Nat) (f:Nat→Int) (i:Nat):yiF t f 0 i=0:=if_neg (Nat.not_lt_zero _)
theorem UA {t:Nat} (h2:2≤t) (xs ys:Nat→Nat):(kU t n xs ys).1.length≤n:=by
 unfold kU;split
 ·exact Nat.le_trans (iJ _) (AX h2 xs ys n).2.2.1
 ·exact Nat.zero_le _
theorem Zc {t:Nat}:(tab t fun i=>AV.v (.int .u32 (xiF t i:Nat)))=tab t fun i=>AV.v (.int .u32 (id i:Nat)):=aS fun i hi=>by unfold xiF;rw [if_pos hi];rfl
theorem Zd {t:Nat} {f:Nat→Int}:(tab t fun i=>AV.v (.int .u32 (yiF t f t i:Nat)))=tab t fun i=>AV.v (.int .u32 (jk t f i:Nat)):=aS fun i hi=>by unfold yiF;rw [if_pos hi]
theorem Ze {t k:Nat}:(tab t fun i=>if i=k then AV.v (.int .u32 (k:Nat)) else AV.v (.int .u32 (xiF k i:Nat)))=tab t fun i=>AV.v (.int .u32 (xiF (k+1) i:Nat)):=aS fun i hi=>by
 unfold xiF;by_cases e:i=k
 ·subst e;rw [if_pos rfl,if_pos (by omega)]
 ·rw [if_neg e];by_cases h:i<k
  ·rw [if_pos h,if_pos (by omega)]
  ·rw [if_neg h,if_neg (by omega)]
theorem Zf {t k:Nat} {f:Nat→Int}:(tab t fun i=>if i=k then AV.v (.int .u32 (jk t f k:Nat)) else AV.v (.int .u32 (yiF t f k i:Nat)))=tab t fun i=>AV.v (.int .u32 (yiF t f (k+1) i:Nat)):=aS fun i hi=>by
 unfold yiF;by_cases e:i=k
 ·subst e;rw [if_pos rfl,if_pos (by omega)]
 ·rw [if_neg e];by_cases h:i<k
  ·rw [if_pos h,if_pos (by omega)]
  ·rw [if_neg h,if_neg (by omega)]
theorem Ox {h:Hp} (k:Int) (s:ByteArray) (n:Int) (nl:Nat) (li:Nat→Int) (A:AV) (hA:Clo A) (hh:h[2]? =some (some (.blk [.v (.int .i64 k), .v (.string s), .v (.int .i64 n), .t nl 1 (tab nl fun i=> .v (.int .i64 (li i))),A]))) (v:Nat) (hv:v<nl) (hn:nl≤140737488351232):
  HT Tryz.prog 217 [.v (.int .i64 v), .ptr 2 0] h (fun q h'=>q= .v (.int .i64 (li v))∧h'=h):=by
 refine Wv.HT.by 9 [1,0,3] [(1000000,h.length)] [.tmp 3] Tryz.func217 rfl rfl rfl ?base ?_
 case base=>rfl
 exact Wv.V1 hh
theorem UC {h:Hp} (k:Int) (s:ByteArray) (n:Int) (A B:AV) (hh:h[2]? =some (some (.blk [.v (.int .i64 k), .v (.string s), .v (.int .i64 n),A,B]))) (v:Nat):
  HT Tryz.prog 218 [.v (.int .i64 v), .ptr 2 0] h (fun q h'=>q= .v (.int .i64 (if (v:Int)<n then 1 else 0))∧h'=h):=by
 refine Wv.HT.by 8 [0,1,7,3] [(1000000,h.length)] [.tmp 3] Tryz.func218 rfl rfl rfl ?base ?_
 case base=>rfl
 by_cases hv:(v:Int)<n
 ·simp (disch:=first|exact Wv.D|fail) only [Wv.B,simprocAttr,hh,ah hv,if_pos hv]
 ·simp (disch:=first|exact Wv.D|fail) only [Wv.B,simprocAttr,hh,aj hv,if_neg hv]
theorem DT (x:Par) (t:Nat) (ns:Nms) (C:List AV) (fid:FuncId) (val:Nat→Int) (h2:2≤t) (h256:t≤256)
  (hval: ∀ h:Hp,h[2]? =some (some (.blk C))→ ∀ v,v<t→HT Tryz.prog fid [.v (.int .i64 v), .ptr 2 0] h (fun q h'=>q= .v (.int .i64 (val v))∧h'=h)) (hlo: ∀ v,v<t→0≤val v+t) (hhi: ∀ v,v<t→val v≤4294967295):
  HT Tryz.prog 216 [.ptr 0 0, .fn (.func fid) [] [.ptr 2 0]] (hT x t ns++[(some (Ob.blk C):Option Ob)]) (fun q h'=>q= .v (.int .i64 (Ae t val))∧h'.take 3=hT x t ns++[some (Ob.blk C)]):=by
 unfold hT tyC;simp only [List.cons_append,List.nil_append];refine Wv.HT.by 74 [0,5,23,22,24,7,6,1,8,10,64,71,4] [(5,20),(1000000,3),(1,1000000),(3000005,24)] [.tmp 4] Tryz.func216 rfl rfl rfl ?base ?_
 case base=>rfl
 refine Wv.W ?_;intro X a hbs hh hX hE;have hsz:a.tmps.size=74:=hE.size;have hp0:Rep X (.ptr 0 0) (a.tmps.getD 0 undef):=hE.rep 0;have hp1:Rep X (.fn (.func fid) [] [.ptr 2 0]) (a.tmps.getD 1 undef):=hE.rep 1;obtain ⟨b,hb,hv0⟩: ∃ b,(X.m 0).1=some b∧a.tmps.getD 0 undef= .pointer (some ⟨b,0,none⟩):=by
  generalize a.tmps.getD 0 undef=q at hp0;cases hp0 with
  | ptr hid hp=>exact hp _ (by rw [hh];rfl)
 obtain ⟨b',cvs,T,g1,g2,g3,g4,g5⟩:=hX.blk 0 _ (by rw [hh];rfl);rw [hb] at g1;injection g1 with g1;subst g1;have hcell:X.w.cell? ⟨b,7,none⟩=some (.int .i64 t):=by
  have e1:cellAt X.w b 7=cvs[7]? :=aZ g2;have hlt:7<cvs.size:=by rw [g3];show 7<9;decide
  have e2:=g5 7 (.v (.int .i64 t)) cvs[7] rfl (Array.getElem?_eq_getElem hlt);rw [Array.getElem?_eq_getElem hlt] at e1;generalize cvs[7]=q at e1 e2;cases e2;exact e1
 obtain ⟨Y0,y1,y2,y3,y4⟩:=CX hX;have hcell0:Y0.w.cell? ⟨b,7,none⟩=some (.int .i64 t):=by rw [y1];exact hcell
 have hmA:vU Tryz.prog 23 (t:Int) (t:Int)=some (22,1,tab t fun i=> .v (.int .u32 0)):=by
  exact Wv.V
 have hmk: ∀ (Y:Cx),Ok Y→ ∃ v Z,(Instr.makeSlice 23 (.int .i64 t) (.int .i64 t)).run Tryz.prog Y.w= .ok v Z.w∧Step Y Z∧Ok Z∧Rep Z (.own Y.h.length (t:Int).toNat) v∧Z.h=Y.h++[some (.arr 22 1 (tab t fun i=> .v (.int .u32 0)) 0)]:=fun Y hY=>PL hY hmA
 have cellT: ∀ (Y:Cx),Ok Y→Step X Y→X.h<+:Y.h→Y.w.cell? ⟨b,7,none⟩=some (.int .i64 t):=fun Y hY S hpre=>by
  have h0:Y.h[0]? =X.h[0]? :=by
   obtain ⟨r,hr⟩:=hpre;rw [←hr,List.getElem?_append_left (by rw [hh];exact Nat.zero_lt_succ _)]
  have h1:X.h[0]? =some (some (.blk [.v (.int .i64 x.n), .v (.int .u32 x.p), .v (.int .i64 x.r), .t x.ch.length 1 (x.ch.map fun (c:Nat)=> .v (.int .u32 c)), .v (.int .u32 x.sp), .v (.int .i64 x.wt), .v (.int .u32 x.er), .v (.int .i64 t), .mp 1])):=by rw [hh];rfl
  obtain ⟨c',q1,q2⟩:=S.l7 0 _ (by rw [hh];exact Nat.zero_lt_succ _) (h0.trans h1);obtain ⟨b',cvs,T,g1,g2,g3,g4,g5⟩:=hY.blk 0 _ (h0.trans h1);rw [q2,hb] at g1;injection g1 with g1;subst g1;have e1:cellAt Y.w b 7=cvs[7]? :=aZ g2;have hlt:7<cvs.size:=by rw [g3];show 7<9;decide
  have e2:=g5 7 (.v (.int .i64 t)) cvs[7] rfl (Array.getElem?_eq_getElem hlt);rw [Array.getElem?_eq_getElem hlt] at e1;generalize cvs[7]=q at e1 e2;cases e2;exact e1
 obtain ⟨EE,hEE⟩: ∃ EE:Nat→Nat→Ev,EE=fun i j=>[(0, .ptr 0 0),(1, .fn (.func fid) [] [.ptr 2 0]),(4, .v (.int .i64 0)),(5, .own i t),(6, .own j t)]:=⟨_,rfl⟩
 have hp4:Rep X (.v (.int .i64 0)) (a.tmps.getD 4 undef):=hE.rep 4;have htn:(t:Int).toNat=t:=Int.toNat_natCast t;refine wp_mono (wp_region_held (S:=fun w=>w.cell? ⟨b,7,none⟩=some (.int .i64 t)) (Q:=fun ex a' w'=>ex= .normal∧ ∃ (Y:Cx) (i j:Nat),Y.w=w'∧Step X Y∧Ok Y∧aN Y 74 (EE i j) a'∧Y.h=X.h++[some (.arr 22 1 (tab t fun i=> .v (.int .u32 0)) 0),some (.arr 22 1 (tab t fun i=> .v (.int .u32 0)) 0)]∧((i=3∧j=4)∨(i=4∧j=3))) (by kernel_rfl) ?_) ?_
 ·rw [←y1];have F:fr 74 a.defers a [(0, .pointer (some ⟨b,0,none⟩)),(1,a.eval (.tmp 1)),(4,a.eval (.tmp 4))]:=⟨hsz,rfl,List.forall_mem_cons.2 ⟨hv0,List.forall_mem_cons.2 ⟨rfl,List.forall_mem_cons.2 ⟨rfl,fun _ h=>by cases h⟩⟩⟩⟩
  refine wpAnyH_take (i:=0) (v:= .pointer (some ⟨b,0,none⟩)) rfl (by kernel_rfl) (by kernel_rfl) (by kernel_rfl) (fun _ _ _ h=>by cases h.1) (.inl ⟨rfl,fun w hw=>?_⟩) hcell0 ?_
  ·have hw':w.cell? ⟨b,7,none⟩=some (.int .i64 t):=hw;have e':=eF F 0 rfl;simp only [Act.eval,Array.getD_eq_getD_getElem?] at e';simp [execOp,go_sem,e',hw']
  generalize hA:a.put _ _=A0;have F:=ji (d:=11) (v:= .pointer (some ⟨b,0,none⟩)) F hA (by decide) rfl;clear hA;refine wpAnyH_take (i:=1) (v:= .pointer (some ⟨b,0,none⟩)) rfl (by kernel_rfl) (by kernel_rfl) (by kernel_rfl) (fun _ _ _ h=>by cases h.1) (.inl ⟨rfl,fun w hw=>?_⟩) hcell0 ?_
  ·have hw':w.cell? ⟨b,7,none⟩=some (.int .i64 t):=hw;have e':=eF F 0 rfl;simp only [Act.eval,Array.getD_eq_getD_getElem?] at e';simp [execOp,go_sem,e',hw']
  generalize hA:A0.put _ _=A1;have F:=ji (d:=12) (v:= .pointer (some ⟨b,0,none⟩)) F hA (by decide) rfl;clear hA;refine wpAnyH_take (i:=2) (v:= .pointer (some ⟨b,7,none⟩)) rfl (by kernel_rfl) (by kernel_rfl) (by kernel_rfl) (fun _ _ _ h=>by cases h.1) (.inl ⟨rfl,fun w hw=>?_⟩) hcell0 ?_
  ·have hw':w.cell? ⟨b,7,none⟩=some (.int .i64 t):=hw;have e':=eF F 0 rfl;simp only [Act.eval,Array.getD_eq_getD_getElem?] at e';simp [execOp,go_sem,e',hw']
  generalize hA:A1.put _ _=A2;have F:=ji (d:=13) (v:= .pointer (some ⟨b,7,none⟩)) F hA (by decide) rfl;clear hA;refine wpAnyH_take (i:=3) (v:= .int .i64 t) rfl (by kernel_rfl) (by kernel_rfl) (by kernel_rfl) (fun _ _ _ h=>by cases h.1) (.inl ⟨rfl,fun w hw=>?_⟩) hcell0 ?_
  ·have hw':w.cell? ⟨b,7,none⟩=some (.int .i64 t):=hw;have e':=eF F 0 rfl;simp only [Act.eval,Array.getD_eq_getD_getElem?] at e';simp [execOp,go_sem,e',hw']
  generalize hA:A2.put _ _=A3;have F:=ji (d:=14) (v:= .int .i64 t) F hA (by decide) rfl;clear hA;refine wpAnyH_take (i:=5) (v:= .pointer (some ⟨b,0,none⟩)) rfl (by kernel_rfl) (by kernel_rfl) (by kernel_rfl) (fun _ _ _ h=>by cases h.1) (.inl ⟨rfl,fun w hw=>?_⟩) hcell0 ?_
  ·have hw':w.cell? ⟨b,7,none⟩=some (.int .i64 t):=hw;have e':=eF F 4 rfl;simp only [Act.eval,Array.getD_eq_getD_getElem?] at e';simp [execOp,go_sem,e',hw']
  generalize hA:A3.put _ _=A4;have F:=ji (d:=16) (v:= .pointer (some ⟨b,0,none⟩)) F hA (by decide) rfl;clear hA;refine wpAnyH_take (i:=6) (v:= .pointer (some ⟨b,0,none⟩)) rfl (by kernel_rfl) (by kernel_rfl) (by kernel_rfl) (fun _ _ _ h=>by cases h.1) (.inl ⟨rfl,fun w hw=>?_⟩) hcell0 ?_
  ·have hw':w.cell? ⟨b,7,none⟩=some (.int .i64 t):=hw;have e':=eF F 0 rfl;simp only [Act.eval,Array.getD_eq_getD_getElem?] at e';simp [execOp,go_sem,e',hw']
  generalize hA:A4.put _ _=A5;have F:=ji (d:=17) (v:= .pointer (some ⟨b,0,none⟩)) F hA (by decide) rfl;clear hA;refine wpAnyH_take (i:=7) (v:= .pointer (some ⟨b,7,none⟩)) rfl (by kernel_rfl) (by kernel_rfl) (by kernel_rfl) (fun _ _ _ h=>by cases h.1) (.inl ⟨rfl,fun w hw=>?_⟩) hcell0 ?_
  ·have hw':w.cell? ⟨b,7,none⟩=some (.int .i64 t):=hw;have e':=eF F 0 rfl;simp only [Act.eval,Array.getD_eq_getD_getElem?] at e';simp [execOp,go_sem,e',hw']
  generalize hA:A5.put _ _=A6;have F:=ji (d:=18) (v:= .pointer (some ⟨b,7,none⟩)) F hA (by decide) rfl;clear hA;refine wpAnyH_take (i:=8) (v:= .int .i64 t) rfl (by kernel_rfl) (by kernel_rfl) (by kernel_rfl) (fun _ _ _ h=>by cases h.1) (.inl ⟨rfl,fun w hw=>?_⟩) hcell0 ?_
  ·have hw':w.cell? ⟨b,7,none⟩=some (.int .i64 t):=hw;have e':=eF F 0 rfl;simp only [Act.eval,Array.getD_eq_getD_getElem?] at e';simp [execOp,go_sem,e',hw']
  generalize hA:A6.put _ _=A7;have F:=ji (d:=19) (v:= .int .i64 t) F hA (by decide) rfl;clear hA;refine wpAnyH_all (rs:=[4,9]) (by kernel_rfl) (by decide) ?_;intro i hi;have hi':i=4∨i=9:=by simpa using hi
  clear hi;obtain ⟨v1,Z1,r1,S1,ok1,aa8,hz1⟩:=hmk Y0 y4;have St1:=y3.trans hX S1;have c1:=cellT Z1 ok1 St1 ⟨_,by rw [hz1,y2]⟩;rcases hi' with rfl | rfl
  ·refine wW rfl rfl (v:=v1) (w':=Z1.w) ?_ ⟨c1,?_⟩
   ·have e':=eF F 4 rfl;simp only [Act.eval,Array.getD_eq_getD_getElem?] at e';simp [execOp,Act.eval,e',r1]
   generalize hA:A7.put _ _=B0;have F:=ji (d:=15) (v:=v1) F hA (by decide) rfl;clear hA;refine wpAnyH_take (i:=10) (v:=v1) rfl (by kernel_rfl) (by kernel_rfl) (by kernel_rfl) (fun _ _ _ h=>by cases h.1) (.inl ⟨rfl,fun w hw=>?_⟩) c1 ?_
   ·have e':=eF F 0 rfl;simp only [Act.eval,Array.getD_eq_getD_getElem?] at e';simp [execOp,go_sem,Act.eval,e']
   generalize hA:B0.put _ _=B1;have F:=ji (d:=5) (v:=v1) F hA (by decide) rfl;clear hA;refine wpAnyH_all (rs:=[9]) (by kernel_rfl) (by decide) ?_;intro i hi;rw [List.mem_singleton] at hi;subst hi;obtain ⟨v2,Z2,r2,S2,ok2,VK,hz2⟩:=hmk Z1 ok1;have St2:=St1.trans hX S2;have c2:=cellT Z2 ok2 St2 ⟨_,by rw [hz2,hz1,y2,List.append_assoc]⟩;refine wW rfl rfl (v:=v2) (w':=Z2.w) ?_ ⟨c2,?_⟩
   ·have e':=eF F 2 rfl;simp only [Act.eval,Array.getD_eq_getD_getElem?] at e';simp [execOp,Act.eval,e',r2]
   generalize hA:B1.put _ _=B2;have F:=ji (d:=20) (v:=v2) F hA (by decide) rfl;clear hA;refine wpAnyH_take (i:=11) (v:=v2) rfl (by kernel_rfl) (by kernel_rfl) (by kernel_rfl) (fun _ _ _ h=>by cases h.1) (.inl ⟨rfl,fun w hw=>?_⟩) c2 ?_
   ·have e':=eF F 0 rfl;simp only [Act.eval,Array.getD_eq_getD_getElem?] at e';simp [execOp,go_sem,Act.eval,e']
   generalize hA:B2.put _ _=B3;have F:=ji (d:=6) (v:=v2) F hA (by decide) rfl;clear hA;refine wpAnyH_done (by kernel_rfl) ⟨rfl,Z2,3,4,rfl,St2,ok2,⟨F.2.1.trans (hE.defers.trans St2.dse.symm),F.1,?_⟩,?_, .inl ⟨rfl,rfl⟩⟩ _
   ·intro d;rw [hEE];rcases AQ [(0, .ptr 0 0),(1, .fn (.func fid) [] [.ptr 2 0]),(4, .v (.int .i64 0)),(5, .own 3 t),(6, .own 4 t)] d with q | ⟨y,q1,q2,q3⟩
    ·rw [q];exact .none _
    ·rw [q3];show Rep Z2 y.2 (B3.eval (.tmp d));simp only [List.mem_cons,List.not_mem_nil,or_false] at q1;rcases q1 with rfl | rfl | rfl | rfl | rfl<;>(simp only at q2;subst q2)
     ·rw [show B3.eval (.tmp 0)=a.tmps.getD 0 undef from (eF F 12 rfl).trans hv0.symm];exact hp0.mono St2
     ·rw [show B3.eval (.tmp 1)=_ from eF F 13 rfl];exact hp1.mono St2
     ·rw [show B3.eval (.tmp 4)=_ from eF F 14 rfl];exact hp4.mono St2
     ·rw [show B3.eval (.tmp 5)=v1 from eF F 2 rfl];have h3:=aa8.mono S2;simpa [hz1,y2,hh,htn] using h3
     ·rw [show B3.eval (.tmp 6)=v2 from eF F 0 rfl];have h3:=VK;simpa [hz1,y2,hh,htn] using h3
   ·rw [hz2,hz1,y2,List.append_assoc];rfl
  ·refine wW rfl rfl (v:=v1) (w':=Z1.w) ?_ ⟨c1,?_⟩
   ·have e':=eF F 0 rfl;simp only [Act.eval,Array.getD_eq_getD_getElem?] at e';simp [execOp,Act.eval,e',r1]
   generalize hA:A7.put _ _=B0;have F:=ji (d:=20) (v:=v1) F hA (by decide) rfl;clear hA;refine wpAnyH_all (rs:=[4]) (by kernel_rfl) (by decide) ?_;intro i hi;rw [List.mem_singleton] at hi;subst hi;obtain ⟨v2,Z2,r2,S2,ok2,VK,hz2⟩:=hmk Z1 ok1;have St2:=St1.trans hX S2;have c2:=cellT Z2 ok2 St2 ⟨_,by rw [hz2,hz1,y2,List.append_assoc]⟩;refine wW rfl rfl (v:=v2) (w':=Z2.w) ?_ ⟨c2,?_⟩
   ·have e':=eF F 5 rfl;simp only [Act.eval,Array.getD_eq_getD_getElem?] at e';simp [execOp,Act.eval,e',r2]
   generalize hA:B0.put _ _=B1;have F:=ji (d:=15) (v:=v2) F hA (by decide) rfl;clear hA;refine wpAnyH_take (i:=10) (v:=v2) rfl (by kernel_rfl) (by kernel_rfl) (by kernel_rfl) (fun _ _ _ h=>by cases h.1) (.inl ⟨rfl,fun w hw=>?_⟩) c2 ?_
   ·have e':=eF F 0 rfl;simp only [Act.eval,Array.getD_eq_getD_getElem?] at e';simp [execOp,go_sem,Act.eval,e']
   generalize hA:B1.put _ _=B2;have F:=ji (d:=5) (v:=v2) F hA (by decide) rfl;clear hA;refine wpAnyH_take (i:=11) (v:=v1) rfl (by kernel_rfl) (by kernel_rfl) (by kernel_rfl) (fun _ _ _ h=>by cases h.1) (.inl ⟨rfl,fun w hw=>?_⟩) c2 ?_
   ·have e':=eF F 2 rfl;simp only [Act.eval,Array.getD_eq_getD_getElem?] at e';simp [execOp,go_sem,Act.eval,e']
   generalize hA:B2.put _ _=B3;have F:=ji (d:=6) (v:=v1) F hA (by decide) rfl;clear hA;refine wpAnyH_done (by kernel_rfl) ⟨rfl,Z2,4,3,rfl,St2,ok2,⟨F.2.1.trans (hE.defers.trans St2.dse.symm),F.1,?_⟩,?_, .inr ⟨rfl,rfl⟩⟩ _
   ·intro d;rw [hEE];rcases AQ [(0, .ptr 0 0),(1, .fn (.func fid) [] [.ptr 2 0]),(4, .v (.int .i64 0)),(5, .own 4 t),(6, .own 3 t)] d with q | ⟨y,q1,q2,q3⟩
    ·rw [q];exact .none _
    ·rw [q3];show Rep Z2 y.2 (B3.eval (.tmp d));simp only [List.mem_cons,List.not_mem_nil,or_false] at q1;rcases q1 with rfl | rfl | rfl | rfl | rfl<;>(simp only at q2;subst q2)
     ·rw [show B3.eval (.tmp 0)=a.tmps.getD 0 undef from (eF F 12 rfl).trans hv0.symm];exact hp0.mono St2
     ·rw [show B3.eval (.tmp 1)=_ from eF F 13 rfl];exact hp1.mono St2
     ·rw [show B3.eval (.tmp 4)=_ from eF F 14 rfl];exact hp4.mono St2
     ·rw [show B3.eval (.tmp 5)=v2 from eF F 1 rfl];have h3:=VK;simpa [hz1,y2,hh,htn] using h3
     ·rw [show B3.eval (.tmp 6)=v1 from eF F 0 rfl];have h3:=aa8.mono S2;simpa [hz1,y2,hh,htn] using h3
   ·rw [hz2,hz1,y2,List.append_assoc];rfl
 ·rintro ex a' w' ⟨rfl,Y,i,j,rfl,S,hY,hEY,hYh,hij⟩;refine ⟨Y,_,rfl,S.toN hbs,hY,hEY,?_⟩;rw [hYh,hh,hEE];clear hp0 hp1 hp4 cellT hmk hcell0 hcell g5 g3 g2 g4 hv0 hb y1 y2 y3 y4 hX hE hsz hh hbs S hY hEY hYh hEE;have TI:=Uy t t id (jk t val) h2 (by omega) h256 (fun i hi=>hi) (fun i hi=>tN (by omega) val i);have hD:Ae t val=dU ((dJ (fun i=>(kU t t id (jk t val)).1.getD i 0) (kU t t id (jk t val)).1.length - 1:Nat):Int):=rfl;have hll:(kU t t id (jk t val)).1.length≤256:=Nat.le_trans (UA h2 id (jk t val)) h256;generalize Ae t val=dg at*;generalize (kU t t id (jk t val)).1=l at*;generalize (kU t t id (jk t val)).2=er at*;rcases hij with ⟨rfl,rfl⟩ | ⟨rfl,rfl⟩
  case' inl=>
   refine Wv.W ?_;refine aQ (σ:=Nat) (fun k=>[(0, .ptr 0 0),(1, .fn (.func fid) [] [.ptr 2 0]),(5, .own 3 t),(6, .own 4 t),(22, .v (.int .i64 t)),(23, .v (.int .i64 k))])
    (fun k=>[some (.blk [.v (.int .i64 x.n), .v (.int .u32 x.p), .v (.int .i64 x.r), .t x.ch.length 1 (x.ch.map fun (c:Nat)=> .v (.int .u32 c)), .v (.int .u32 x.sp), .v (.int .i64 x.wt), .v (.int .u32 x.er), .v (.int .i64 t), .mp 1]),some (.map (nsE ns)),some (.blk C),some (.arr 22 1 (tab t fun i=> .v (.int .u32 (xiF k i:Nat))) 0),some (.arr 22 1 (tab t fun i=> .v (.int .u32 (yiF t val k i:Nat))) 0)])
    (fun k=>k≤t) (fun k=>t - k) 0 (Nat.zero_le _) (Wv.V3 @Ld @Le @Int.natCast_zero) Wv.V ?_
  case' inr=>
   refine Wv.W ?_;refine aQ (σ:=Nat) (fun k=>[(0, .ptr 0 0),(1, .fn (.func fid) [] [.ptr 2 0]),(5, .own 4 t),(6, .own 3 t),(22, .v (.int .i64 t)),(23, .v (.int .i64 k))])
    (fun k=>[some (.blk [.v (.int .i64 x.n), .v (.int .u32 x.p), .v (.int .i64 x.r), .t x.ch.length 1 (x.ch.map fun (c:Nat)=> .v (.int .u32 c)), .v (.int .u32 x.sp), .v (.int .i64 x.wt), .v (.int .u32 x.er), .v (.int .i64 t), .mp 1]),some (.map (nsE ns)),some (.blk C),some (.arr 22 1 (tab t fun i=> .v (.int .u32 (yiF t val k i:Nat))) 0),some (.arr 22 1 (tab t fun i=> .v (.int .u32 (xiF k i:Nat))) 0)])
    (fun k=>k≤t) (fun k=>t - k) 0 (Nat.zero_le _) (Wv.V3 @Ld @Le @Int.natCast_zero) Wv.V ?_
  all_goals
   intro k hk;by_cases hlt:k<t
   ·have e1:(k:Int)<(t:Int):=by omega
    have hv0:=hlo k hlt;have hv1:=hhi k hlt;have ht0: ¬ (t:Int)=0:=by omega
    have e2:(val k+t).tmod t=((jk t val k:Nat):Int):=by rw [Int.tmod_eq_emod_of_nonneg hv0];exact (IB (by omega) val k).symm
    have e3:=tN (t:=t) (by omega) val k;refine Wv.W1 (ah e1) ?_;refine dD (fst:=[]) (cap:=[.ptr 2 0]) ((hval _ rfl k hlt).toP (fun _ _=>False)) ?_ (fun _ _ q=>q.elim);refine Wv.W5 (aj ht0) e2 @dB @Ze @Zf ?_;refine au (k+1) (by omega) (by omega) Wv.V Wv.V2
   ·obtain rfl:t=k:=by omega
    refine Wv.W4 @Int.lt_irrefl @decide_false @Zc @Zd ?_;refine jV TI (by simp only [Wv.BC,bg,lC]) (by simp only [Wv.BC,bg]) ?_;refine Wv.W ?_;refine iE rfl ?_;simp (disch:=first|exact Wv.D|fail) only [Wv.B,simprocAttr,dn,fU];first
    | refine aQ (σ:=Nat) (fun m=>[(8, .t l.length 1 (tab l.length fun i=> .v (.int .u32 (l.getD i 0:Nat)))),(10, .v (.int .i64 ((m:Int) - 1)))]) (fun m=>[some (.blk [.v (.int .i64 x.n), .v (.int .u32 x.p), .v (.int .i64 x.r), .t x.ch.length 1 (x.ch.map fun (c:Nat)=> .v (.int .u32 c)), .v (.int .u32 x.sp), .v (.int .i64 x.wt), .v (.int .u32 x.er), .v (.int .i64 t), .mp 1]),some (.map (nsE ns)),some (.blk C),some (.arr 22 1 (tab t fun i=> .v (.int .u32 (id i:Nat))) t),some (.arr 22 1 (tab t fun i=> .v (.int .u32 (jk t val i:Nat))) t)]) (fun m=>m≤l.length∧dJ (fun i=>l.getD i 0) m=dJ (fun i=>l.getD i 0) l.length) (fun m=>m) l.length ⟨Nat.le_refl _,rfl⟩ Wv.V Wv.V ?_
    | refine aQ (σ:=Nat) (fun m=>[(8, .t l.length 1 (tab l.length fun i=> .v (.int .u32 (l.getD i 0:Nat)))),(10, .v (.int .i64 ((m:Int) - 1)))]) (fun m=>[some (.blk [.v (.int .i64 x.n), .v (.int .u32 x.p), .v (.int .i64 x.r), .t x.ch.length 1 (x.ch.map fun (c:Nat)=> .v (.int .u32 c)), .v (.int .u32 x.sp), .v (.int .i64 x.wt), .v (.int .u32 x.er), .v (.int .i64 t), .mp 1]),some (.map (nsE ns)),some (.blk C),some (.arr 22 1 (tab t fun i=> .v (.int .u32 (jk t val i:Nat))) t),some (.arr 22 1 (tab t fun i=> .v (.int .u32 (id i:Nat))) t)]) (fun m=>m≤l.length∧dJ (fun i=>l.getD i 0) m=dJ (fun i=>l.getD i 0) l.length) (fun m=>m) l.length ⟨Nat.le_refl _,rfl⟩ Wv.V Wv.V ?_
    rintro m ⟨hm,hm2⟩;by_cases h1m:1<m
    ·have q1:(0:Int)<(m:Int) - 1:=by omega
     obtain ⟨j,rfl⟩: ∃ j,m=j+1:=⟨m - 1,by omega⟩
     have q2:((j+1:Nat):Int) - 1=(j:Int):=by omega
     rw [iW] at hm2;by_cases hz:l.getD j 0=0
     ·rw [if_pos hz] at hm2;refine Wv.W3 q2 (ah q1) hz ?_;refine au j ⟨by omega,hm2⟩ (by omega) rfl Wv.V
     ·rw [if_neg hz] at hm2;have hz': ¬ ((l.getD j 0:Nat):Int)=0:=by omega
      rw [←hm2,Nat.add_sub_cancel] at hD;refine Wv.W3 q2 (ah q1) (aj hz') ?_;refine ak (yB j (by omega)) rfl Wv.c Wv.c ?_;exact Wv.V1 hD
    ·have q1: ¬ (0:Int)<(m:Int) - 1:=by omega
     have hle:=wX (fun i=>l.getD i 0) m;have h0:dJ (fun i=>l.getD i 0) l.length - 1=0:=by omega
     rw [h0] at hD;have hD':dg=0:=hD;simp (disch:=first|exact Wv.D|fail) only [Wv.B,simprocAttr,aj q1,hD']
end
section
open Go.RowKit
theorem aie (a0 a1 a2 a3:Addr) (w:World):
  CallsD Tryz.prog 62 #[.pointer (some a0), .pointer (some a1), .pointer (some a2), .pointer (some a3)] .returning w fun e u' w'=>u'= .returning∧(e= .returned (.tuple #[])∧w'=w):=by
 refine callsD_of_wpS Tryz.func62 rfl fun c₀ cs hu=>?_
 refine wpS_seq (wpS_region ?_);simp [wpOpsS,go_sem,recoverD,hu,Tryz.ntmps62,Exit.thenS];refine wpS_of_wp ?_;go_wp2
 cases c₀;simp_all [bodyPostS,results,Tryz.results62,Exit.inBlock,Exit.then]
theorem UD (v:Value) (w:World):(Instr.typeAssert (.iface 98 v) 20 98 true).run Tryz.prog w= .ok (.tuple #[v, .bool true]) w:=by
 simp [Instr.typeAssert,go_sem]
theorem Zg (b0 b1 b2 b3:Nat) (e pl:Int) (s0:Value) (i0 e0:Int) (w:World) (h0:w.cell? ⟨b0,0,none⟩=some (.int .i64 pl)) (h1:w.cell? ⟨b1,0,none⟩=some s0) (h2:w.cell? ⟨b2,0,none⟩=some (.int .i64 i0)) (h3:w.cell? ⟨b3,0,none⟩=some (.int .i64 e0)) (z1:w.frozen? ⟨b1,0,none⟩=false) (z2:w.frozen? ⟨b2,0,none⟩=false) (z3:w.frozen? ⟨b3,0,none⟩=false)
  (n01:b0≠b1) (n02:b0≠b2) (n03:b0≠b3) (n12:b1≠b2) (n13:b1≠b3) (n23:b2≠b3):
  CallsD Tryz.prog 62 #[.pointer (some ⟨b0,0,none⟩), .pointer (some ⟨b1,0,none⟩), .pointer (some ⟨b2,0,none⟩), .pointer (some ⟨b3,0,none⟩)] (.panicking [{v:= .iface 98 (.agg #[.int .i64 e]),recovered:=false}]) w fun r u' w'=>
   u'= .panicking [{v:= .iface 98 (.agg #[.int .i64 e]),recovered:=true}]∧(r= .returned (.tuple #[])∧w'=((((w.alloc (.cells #[.int .i64 e] 98)).setCell ⟨b1,0,none⟩ (.slice none 0 0)).setCell ⟨b2,0,none⟩ (.int .i64 pl)).setCell ⟨b3,0,none⟩ (.int .i64 e)).drew):=by
 have l0:=World.block_lt_of_cell? w _ h0;have l1:=World.block_lt_of_cell? w _ h1;have l2:=World.block_lt_of_cell? w _ h2;have l3:=World.block_lt_of_cell? w _ h3;simp only at l0 l1 l2 l3;have m0:w.heap.size≠b0:=by omega
 have m1:w.heap.size≠b1:=by omega
 have m2:w.heap.size≠b2:=by omega
 have m3:w.heap.size≠b3:=by omega
 have x0:(w.alloc (.cells #[.int .i64 e] 98)).cell? ⟨b0,0,none⟩=some (.int .i64 pl):=by simp [go_sem,l0,h0]
 have x1:(w.alloc (.cells #[.int .i64 e] 98)).cell? ⟨b1,0,none⟩=some s0:=by simp [go_sem,l1,h1]
 have x2:(w.alloc (.cells #[.int .i64 e] 98)).cell? ⟨b2,0,none⟩=some (.int .i64 i0):=by simp [go_sem,l2,h2]
 have x3:(w.alloc (.cells #[.int .i64 e] 98)).cell? ⟨b3,0,none⟩=some (.int .i64 e0):=by simp [go_sem,l3,h3]
 have x4:(w.alloc (.cells #[.int .i64 e] 98)).cell? ⟨w.heap.size,0,none⟩=some (.int .i64 e):=by simp [go_sem]
 have y1:(w.alloc (.cells #[.int .i64 e] 98)).frozen? ⟨b1,0,none⟩=false:=by simp [go_sem,l1,z1]
 have y2:(w.alloc (.cells #[.int .i64 e] 98)).frozen? ⟨b2,0,none⟩=false:=by simp [go_sem,l2,z2]
 have y3:(w.alloc (.cells #[.int .i64 e] 98)).frozen? ⟨b3,0,none⟩=false:=by simp [go_sem,l3,z3]
 refine callsD_of_wpS Tryz.func62 rfl fun c₀ cs hu=>?_
 refine wpS_seq (wpS_region ?_);simp [wpOpsS,go_sem,recoverD,hu,Tryz.ntmps62,Exit.thenS];refine wpS_of_wp ?_;have hta:=UD (.agg #[.int .i64 e]) w;go_wp2
 clear h0 h1 h2 h3 z1 z2 z3 hta l0 l1 l2 l3;generalize hW:w.alloc (.cells #[.int .i64 e] 98)=W at x0 x1 x2 x3 x4 y1 y2 y3 ⊢;generalize w.heap.size=b4 at m0 m1 m2 m3 x4 ⊢;go_region
 all_goals
  clear x0 x1 x2 x3 x4 y1 y2 y3 m0 m1 m2 m3 n01 n02 n03 n12 n13 n23;go_wp2
  cases c₀;simp_all [bodyPostS,results,Tryz.results62]
end
section
open Go.RowKit Wv
theorem Gh (x:Par) (t:Int) (ns:Nms) (s:ByteArray):RD Tryz.prog 63 [.ptr 0 0, .v (.string s)] (hT x t ns) (fun r=>aF ns s=none∧r= .tup []) (fun r=>aF ns s≠none∧r=lu 230):=by
 refine RD.of ?_ (by rintro r ⟨_,rfl⟩;exact .clo Wv.c) (by rintro r ⟨_,rfl⟩;exact .clo (iG 230)) (KI x t ns);have hlm:=wR s ns;unfold hT tyC;refine Wv.HTP.by 18 [0,1,5] [(1000000,2)] [] Tryz.func63 rfl rfl rfl ?base ?_
 case base=>rfl
 cases hq:aF ns s with
 | none=>
  rw [hq] at hlm;simp only [Option.map_none] at hlm;refine Wv.W2 @zN hlm ?_;refine aJ (fst:=[]) (cap:=[]) (bI true 230) ?_ (by rintro av h' ⟨hb,_⟩;cases hb);rintro av h' ⟨_,rfl,rfl⟩;simp (disch:=first|exact Wv.D|fail) only [Wv.B,simprocAttr,hq]
 | some r=>
  rw [hq] at hlm;simp only [Option.map_some,shA] at hlm;refine Wv.W2 @zN hlm ?_;refine aJ (fst:=[]) (cap:=[]) (bI false 230) (by rintro av h' ⟨hb,_⟩;cases hb) ?_;rintro av h' ⟨_,rfl,rfl⟩;simp (disch:=first|exact Wv.D|fail) only [Wv.B,simprocAttr,bV,hq]
theorem Zh (s:ByteArray) (r:Bool × Nat): ∀ ns:Nms,aF ns s=none→kF (.string s) (shA r) (nsE ns)=nsE (ns++[(s,r)])
 | [],_=>rfl
 | p::q,h=>by
  unfold aF at h;by_cases e:s=p.1
  ·rw [if_pos e] at h;cases h
  ·rw [if_neg e] at h;have ih:=Zh s r q h;show (if keyE (.string s) (.string p.1)=true then _ else _)=_;have:keyE (.string s) (.string p.1)=decide (s=p.1):=C9;rw [this,if_neg (by simp [e])];show (Value.string p.1,shA p.2)::kF (.string s) (shA r) (nsE q)=_;rw [ih];rfl
theorem DU {m:Nat}: ∀ {h:Hp},loH m h→loH m (h.map froze)
 | [],q=>q
 | none::r,q=>DU (h:=r) q
 | some (.blk c)::r,q=>⟨q.1,DU q.2⟩
 | some (.arr T s c fz)::r,q=>⟨q.1,DU q.2⟩
 | some (.map es)::r,q=>⟨q.1,DU q.2⟩
theorem tV {m:Nat}: ∀ {a b:Hp},loH m (a++b)=(loH m a∧loH m b)
 | [],b=>by show loH m b=(True∧loH m b);rw [true_and]
 | none::r,b=>tV (a:=r)
 | some (.blk c)::r,b=>by show (loL m c∧loH m (r++b))=((loL m c∧loH m r)∧loH m b);rw [tV,and_assoc]
 | some (.arr T s c fz)::r,b=>by show (loL m c∧loH m (r++b))=((loL m c∧loH m r)∧loH m b);rw [tV,and_assoc]
 | some (.map es)::r,b=>by show (loL m (es.map (·.2))∧loH m (r++b))=((loL m (es.map (·.2))∧loH m r)∧loH m b);rw [tV,and_assoc]
theorem DV (o0 o1 o2 o3 o4 o5:Option Ob) (r0:Hp) (P:List AV) (hP:P.length=8) (ns:Nms) (s:ByteArray) (r:Bool × Nat) (hn:aF ns s=none) (hlo:loH (r0.length+8) (o0::o1::o2::o3::o4::o5::some (.map (nsE ns))::some (.blk (P++[.mp 6]))::r0)):
  HT Tryz.prog 64 [.ptr 7 0, .v (.string s),shA r] (o0::o1::o2::o3::o4::o5::some (.map (nsE ns))::some (.blk (P++[.mp 6]))::r0)
   (fun q h'=>q= .tup []∧h'=froze o0::froze o1::froze o2::froze o3::froze o4::froze o5::some (.map (nsE (ns++[(s,r)])))::some (.blk (P++[.mp 6]))::r0.map froze):=by
 have hput:=Zh s r ns hn;unfold shA at hput ⊢;match P,hP with
 | [p0,p1,p2,p3,p4,p5,p6,p7],_=>
 simp only [List.cons_append,List.nil_append] at hlo ⊢;have T:HT Tryz.prog 64 [.ptr 7 0, .v (.string s), .g [.v (.bool r.1), .v (.int .i64 r.2)]] (o0::o1::o2::o3::o4::o5::some (.map (nsE ns))::some (.blk [p0,p1,p2,p3,p4,p5,p6,p7, .mp 6])::r0)
   (fun q h'=>q= .tup []∧h'.take (r0.length+8)=froze o0::froze o1::froze o2::froze o3::froze o4::froze o5::some (.map (nsE (ns++[(s,r)])))::some (.blk [p0,p1,p2,p3,p4,p5,p6,p7, .mp 6])::r0.map froze):=by
  refine Wv.HT.by 12 [2,0,1,5] [(1,6),(1000000,r0.length+8)] [] Tryz.func64 rfl rfl rfl ?base ?_
  case base=>rfl
  have hget: ∀ o:Option Ob,(List.map froze (r0++[o]))[r0.length]? =some (froze o):=fun o=>by rw [List.getElem?_map,List.getElem?_concat_length];rfl
  have hend: ∀ o:Option Ob,List.take r0.length (List.map froze (r0++[o]))=List.map froze r0:=fun o=>by
   rw [List.map_append,List.take_append_of_le_length (by rw [List.length_map];exact Nat.le_refl _),List.take_of_length_le (by rw [List.length_map];exact Nat.le_refl _)]
  simp (disch:=first|exact Wv.D|fail) only [Wv.B,simprocAttr,zN,hput,hget,hend,List.length_cons]
 have hfin:loH (r0.length+8) (froze o0::froze o1::froze o2::froze o3::froze o4::froze o5::some (.map (nsE (ns++[(s,r)])))::some (.blk [p0,p1,p2,p3,p4,p5,p6,p7, .mp 6])::r0.map froze):=by
  have h1:=DU hlo;have e1: ∀ es:List (Value × AV),List.map froze (o0::o1::o2::o3::o4::o5::some (.map es)::some (.blk [p0,p1,p2,p3,p4,p5,p6,p7, .mp 6])::r0)=[froze o0,froze o1,froze o2,froze o3,froze o4,froze o5]++some (.map es)::some (.blk [p0,p1,p2,p3,p4,p5,p6,p7, .mp 6])::r0.map froze:=fun es=>rfl
  rw [e1,tV] at h1;show loH _ ([froze o0,froze o1,froze o2,froze o3,froze o4,froze o5]++some (.map (nsE (ns++[(s,r)])))::some (.blk [p0,p1,p2,p3,p4,p5,p6,p7, .mp 6])::r0.map froze);rw [tV];exact ⟨h1.1,fun a ha=> .clo (tu _ a ha),h1.2.2⟩
 refine (((T.toP fun _ _=>False).cut (fun q h' e=>?_) (fun _ _ e=>e.elim)).mono ?_ ?_).toT fun _ _ e=>e
 ·obtain ⟨rfl,e⟩:=e;refine ⟨.clo Wv.c,?_⟩;simp only [List.length_cons];rw [e];exact hfin
 ·rintro q h2 ⟨h',⟨rfl,e⟩,rfl⟩;refine ⟨rfl,?_⟩;simp only [List.length_cons];exact e
 ·rintro q h2 ⟨_,e,_⟩;exact e.elim
def tyP (x:Par) (t:Int):List AV:=[.v (.int .i64 x.n), .v (.int .u32 x.p), .v (.int .i64 x.r), .t x.ch.length 1 (x.ch.map fun (c:Nat)=> .v (.int .u32 c)), .v (.int .u32 x.sp), .v (.int .i64 x.wt), .v (.int .u32 x.er), .v (.int .i64 t)]
theorem Ql (x:Par) (t:Int): ∀ a,a∈tyP x t→Clo a:=by
 have h:=dI x;simp only [dN,List.mem_cons,List.not_mem_nil,or_false,forall_eq_or_imp,forall_eq] at h;obtain ⟨h1,h2,h3,h4,h5,h6,h7⟩:=h;unfold tyP;simp only [List.mem_cons,List.not_mem_nil,or_false,forall_eq_or_imp,forall_eq];exact ⟨h1,h2,h3,h4,h5,h6,h7, .v _⟩
theorem aif {x:Par} {t:Int} {ns:Nms} {f:FuncId} {args:List AV} {R p:AV→Prop} (T:RD Tryz.prog f (.ptr 0 0::args) (hT x t ns) R p) (o0 o1 o2 o3 o4 o5:Option Ob) (r:Hp) (ha: ∀ (a:AV),a∈args→Clo a) (hR: ∀ r,R r→Clo r) (hp: ∀ r,p r→Clo r):
  RD Tryz.prog f (.ptr 7 0::args) (o0::o1::o2::o3::o4::o5::some (.map (nsE ns))::some (.blk (tyP x t++[.mp 6]))::r) R p:=by
 have h:=dI x;simp only [dN,List.mem_cons,List.not_mem_nil,or_false,forall_eq_or_imp,forall_eq] at h;obtain ⟨h1,h2,h3,h4,h5,h6,h7⟩:=h;refine RD.frame (σ:=fun i=>if i=0 then 7 else 6) T ⟨fun i j hi hj e=>?_,fun i o ho=>?_⟩ ⟨.ptr (by show 0<2;omega),RnL.clo ha⟩ hR hp
 ·have hi':i<2:=hi;have hj':j<2:=hj;have e':(if i=0 then 7 else 6)=(if j=0 then 7 else 6):=e;split at e'<;>split at e'<;>omega
 ·unfold hT at ho ⊢;match i with
  | 0=>
   simp at ho;subst ho;exact ⟨_,_,rfl,rfl, .clo h1, .clo h2, .clo h3, .clo h4, .clo h5, .clo h6, .clo h7, .clo (.v _), .mp (by show 1<2;omega),trivial⟩
  | 1=>
   simp at ho;subst ho;exact ⟨_,_,rfl,rfl,rfl,RnL.clo (tu ns)⟩
  | i+2=>simp at ho
end
end Go.Proofs.YtljfgdlgmdcmfaaGreat
namespace Go.Proofs.YtljfgdlgmdcmfaaGreat.Wv
section
open Go.RowKit
def Lh:List Code→Code→Code
 | [],c=>c
 | a::l,c=> .seq a (Lh l c)
theorem DW {P:Program} (bT:P.follows .mixedOrders=true) {N:Nat} {L:List Nat} {ks:List (Nat × Nat)} {QA:dA} {Post:Exit→Act→World→Prop} {last rest:Code} (hx: ∀ i e h, ¬ QA (.exit i) e h) (hp: ∀ av e h, ¬ QA (.panic av) e h):
  ∀ (l:List Code) (X:Cx) (e:Ev) (a:Act),dL N ks (Lh l last)=true→Ac (Lh l last)=true→base ks≤X.h.length→Ok X→aN X N e a→bP P N L ks (Lh l last) QA e X.h→
   (∀ (Y:Cx) (e':Ev) (a':Act),aT (base ks) X Y→Ok Y→aN Y N e' a'→QA .normal e' Y.h→rest.wp P Post a' Y.w)→
   (∀ (Y:Cx) (e':Ev) (a':Act),aT (base ks) X Y→Ok Y→aN Y N e' a'→QA .ret e' Y.h→Post .ret a' Y.w)→(Lh l (.seq last rest)).wp P Post a X.w
 | [],X,e,a,hk,hf,hn,hX,hE,hw,hr,hq=>by
  refine wp_seq (wp_mono (dH bT last QA X e a hk hf hn hX hE hw) ?_);intro ex a' w' hpost;have:=hpost.elim;cases this with
  | ok x ex Y e2 a2 S hY hE2 h hx2=>
   rcases hx2 with ⟨rfl,rfl⟩ | ⟨i,rfl,rfl⟩ | ⟨rfl,rfl⟩ | ⟨v,av,rfl,rfl,hr2⟩
   ·exact hr Y e2 _ S hY hE2 h
   ·exact (hx _ _ _ h).elim
   ·exact hq Y e2 _ S hY hE2 h
   ·exact (hp _ _ _ h).elim
 | c::l,X,e,a,hk,hf,hn,hX,hE,hw,hr,hq=>by
  unfold Lh at hk hf hw ⊢;simp only [dL,Bool.and_eq_true] at hk;simp only [Ac,Bool.and_eq_true] at hf;refine wp_seq (wp_mono (dH bT c _ X e a hk.1 hf.1 hn hX hE hw) ?_);intro ex a' w' hpost;have:=hpost.elim;cases this with
  | ok x ex Y e2 a2 S hY hE2 h hx2=>
   rcases hx2 with ⟨rfl,rfl⟩ | ⟨i,rfl,rfl⟩ | ⟨rfl,rfl⟩ | ⟨v,av,rfl,rfl,hr2⟩
   ·exact DW bT hx hp l Y e2 _ hk.2 hf.2 S.len hY hE2 h (fun Z e3 a3 S3 hZ hE3 q=>hr Z e3 a3 (S.trans hX S3) hZ hE3 q) (fun Z e3 a3 S3 hZ hE3 q=>hq Z e3 a3 (S.trans hX S3) hZ hE3 q)
   ·exact (hx _ _ _ h).elim
   ·exact hq Y e2 _ S hY hE2 h
   ·exact (hp _ _ _ h).elim
theorem IC {P:Program} {id:Nat} {t:Tmp} {G:FuncId} {caps:Array Operand} {ty1 ty2:TypeId} {p1 p2:String} {e1 e2:Array Edge} {Q:Exit→Act→World→Prop} {a:Act} {w:World} (ht:t<a.tmps.size)
  (h:Q .normal {tmps:=a.tmps.setIfInBounds t (.func (.func G) #[] (caps.map a.eval)),defers:={target:= .fn (.func G) (caps.map a.eval),args:= #[]}::a.defers} w):
  (Code.region id #[⟨some t, .makeFunc (.func G) #[] caps,ty1,p1,e1,none⟩,⟨none, .defer ⟨.value (.tmp t), #[], #[]⟩,ty2,p2,e2,none⟩] false).wp P Q a w:=by
 refine wp_region ?_;have hmf: ∀ (fn:Fn) (first cap:Array Value) (w:World),(Instr.makeFunc fn first cap).run P w= .ok (.func fn first cap) w:=fun _ _ _ _=>rfl
 simp [wpOps,go_sem,hmf,Act.put,Act.eval,ht];exact .inl (.inl h)
end
end Go.Proofs.YtljfgdlgmdcmfaaGreat.Wv
