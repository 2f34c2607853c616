/- Parts of a proof. -/
import Derived.Test.YtljfgdlgmdcmfaaGreatQrk
import Derived.Test.YtljfgdlgmdcmfaaGreatQrf
import Derived.OrdersHeld
set_option linter.unusedVariables false
set_option linter.unusedSimpArgs false
set_option maxHeartbeats 1600000
set_option maxRecDepth 100000
namespace Go.Proofs.YtljfgdlgmdcmfaaGreat
section
open Go.RowKit Wv
structure EuI (n a x y:Nat) (u v:Int):Prop where
 xn:x≤n
 yx:y<x
 du:(n:Int)∣u*a - x
 dv:(n:Int)∣v*a - y
 sg:(u≤0∧0≤v∧ -(u*y)+v*x=n)∨(0≤u∧v≤0∧u*y+ -(v*x)=n)
 u0: -(n:Int)≤u
 u1:u≤n
 v0: -(n:Int)≤v
 v1:v≤n
 gc:Nat.gcd x y=Nat.gcd n a
variable {a n:Nat}
theorem EuI.start (hn:2≤n) (ha:a<n):EuI n a n a 0 1:=by
 refine ⟨Nat.le_refl _,ha,?_,?_, .inl ⟨by omega,by omega,by simp⟩,by omega,by omega,by omega,by omega,rfl⟩
 ·simp
 ·simp
variable {x:Nat}
theorem EuI.step {y:Nat} {u v:Int} (h:EuI n a x y u v) (hy:0<y):EuI n a y (x % y) v (u - ((x / y:Nat):Int)*v):=by
 have hx:(x:Int)=((x / y:Nat):Int)*y+(x % y:Nat):=by
  have:=Nat.div_add_mod x y;have h2:((y*(x / y)+x % y:Nat):Int)=(x:Int):=by rw [this]
  rw [Int.natCast_add,Int.natCast_mul,Int.mul_comm] at h2;exact h2.symm
 have hr:x % y<y:=Nat.mod_lt _ hy;obtain ⟨xn,yx,du,dv,sg,u0,u1,v0,v1,gc⟩:=h;generalize (x / y)=q at hx ⊢;have hrn:(0:Int)≤((x % y:Nat):Int):=by omega
 generalize hrr:((x % y:Nat):Int)=r at hx hrn;have h1:v*(x:Int)=v*((q:Int)*y)+v*r:=by rw [hx,Int.mul_add]
 have h2:((q:Int)*v)*y=v*((q:Int)*y):=by rw [Int.mul_comm (q:Int) v,Int.mul_assoc]
 have h3:(u - (q:Int)*v)*y=u*y - ((q:Int)*v)*y:=Int.sub_mul _ _ _;have hd:(n:Int)∣(u - (q:Int)*v)*a - r:=by
  have e:(u - (q:Int)*v)*a - r=(u*a - x) - (q:Int)*(v*a - y):=by
   rw [Int.sub_mul,Int.mul_sub,hx,Int.mul_assoc];omega
  rw [e];exact Int.dvd_sub du (Int.dvd_mul_of_dvd_right dv)
 have hg:Nat.gcd y (x % y)=Nat.gcd n a:=by rw [←gc,Nat.gcd_comm x y,Nat.gcd_rec y x,Nat.gcd_comm]
 rcases sg with ⟨s1,s2,s3⟩ | ⟨s1,s2,s3⟩
 ·have hqv:0≤(q:Int)*v:=Int.mul_nonneg (by omega) s2;have hvr:0≤v*r:=Int.mul_nonneg s2 hrn;have hb: -(u - (q:Int)*v)*1≤ -(u - (q:Int)*v)*(y:Int):=Int.mul_le_mul_of_nonneg_left (by omega) (by omega);rw [Int.neg_mul (u - (q:Int)*v) (y:Int)] at hb;exact ⟨by omega,hr,dv,by rw [hrr];exact hd, .inr ⟨s2,by omega,by rw [hrr];omega⟩,v0,v1,by omega,by omega,hg⟩
 ·have hqv:(q:Int)*v≤0:=Int.mul_nonpos_of_nonneg_of_nonpos (by omega) s2;have hvr:v*r≤0:=Int.mul_nonpos_of_nonpos_of_nonneg s2 hrn;have hb:(u - (q:Int)*v)*1≤(u - (q:Int)*v)*(y:Int):=Int.mul_le_mul_of_nonneg_left (by omega) (by omega);exact ⟨by omega,hr,dv,by rw [hrr];exact hd, .inl ⟨s2,by omega,by rw [hrr];omega⟩,v0,v1,by omega,by omega,hg⟩
def QG (a n:Nat):Nat:=(findF (fun i=>decide (i*a % n=1)) n).getD 0
def tK (a n:Nat):Nat × Int:=if Nat.gcd n a=1 then (QG a n,0) else (0,4)
variable {i:Nat}
theorem LD {j:Nat} (hi:i<n) (hj:j<n) (h1:i*a % n=1) (h2:j*a % n=1):i=j:=by
 have e1:(i*(j*a)) % n=i % n:=by rw [Nat.mul_mod,h2,Nat.mul_one,Nat.mod_mod]
 have e2:(j*(i*a)) % n=j % n:=by rw [Nat.mul_mod,h1,Nat.mul_one,Nat.mod_mod]
 have e3:i*(j*a)=j*(i*a):=by rw [←Nat.mul_assoc, ←Nat.mul_assoc,Nat.mul_comm i j]
 rw [e3,e2,Nat.mod_eq_of_lt hi,Nat.mod_eq_of_lt hj] at e1;exact e1.symm
theorem abB (hi:i<n) (h:i*a % n=1):QG a n=i:=by
 unfold QG;rw [kC (p:=fun i=>decide (i*a % n=1)) hi (ah h) (fun j hj=>aj fun e=>by
  have:=LD (a:=a) (n:=n) (i:=j) (j:=i) (by omega) hi e h;omega)]
 rfl
def WQ (u:Int) (n:Nat):Int:=if u<0 then u+n else u
theorem EuI.fin {u v:Int} (h:EuI n a x 0 u v) (hn:2≤n) (hx:x=1):0≤WQ u n∧WQ u n<n∧WQ u n=QG a n:=by
 subst hx;obtain ⟨k,hk⟩:=h.du;have hu0:=h.u0;have hu1:=h.u1;have key: ∀ (z:Int),(n:Int)∣z*a - ((1:Nat):Int)→0≤z→z≤n→z<n∧z=QG a n:=by
  rintro z ⟨q,hq⟩ h0 h1;have hne:z≠n:=fun e=>by
   subst e;have:(n:Int)*((a:Int) - q)=1:=by rw [Int.mul_sub];omega
   have h3:((n:Int)*((a:Int) - q)) % (n:Int)=0:=Int.mul_emod_right _ _;rw [this,Int.emod_eq_of_lt (by omega) (by omega)] at h3;omega
  obtain ⟨m,rfl⟩: ∃ m:Nat,z=m:=⟨z.toNat,by omega⟩
  have hm:m<n:=by omega
  refine ⟨by omega,?_⟩;have e:m*a % n=1:=by
   have h2:((m*a:Nat):Int) % (n:Int)=1:=by
    rw [Int.natCast_mul];have:(m:Int)*(a:Int)=1+(n:Int)*q:=by omega
    rw [this,Int.add_mul_emod_self_left];exact Int.emod_eq_of_lt (by omega) (by omega)
   have h3:((m*a % n:Nat):Int)=1:=by rw [Int.natCast_emod];exact h2
   omega
  rw [abB hm e]
 unfold WQ;split
 ·next hu=>
  have:=key (u+n) ⟨k+a,by rw [Int.add_mul,Int.mul_add];omega⟩ (by omega) (by omega);exact ⟨by omega,this.1,this.2⟩
 ·next hu=>
  have:=key u ⟨k,hk⟩ (by omega) hu1;exact ⟨by omega,this.1,this.2⟩
theorem WR (a n:Nat) (h1:2≤n) (h2:n≤2147483647) (ha:a<n):TC Tryz.prog 265 [.v (.int .u32 n), .t 1 1 [.v (.int .u32 a)]] (.v (.bool true)):=by
 refine Wv.TC.by 23 [1,9,8,10,7,6,0,15,4] [] [.tmp 4] Tryz.func265 rfl rfl rfl ?clo ?_
 case clo=>simp only [Wv.BC]
 refine Wv.W ?_;refine dI (σ:=Nat) (fun i=>[(0, .v (.int .u32 n)),(7, .t 1 1 [.v (.int .u32 a)]),(8, .v (.int .i64 1)),(9, .v (.int .i64 i))]) (fun i=>[]) (fun i=>i≤1) (fun i=>1 - i) 0 (by omega) Wv.V Wv.V ?_;intro i hi;have d1: ¬ (n:Int)≤(a:Int):=by omega
 have d2:(2:Int)≤(n:Int):=by omega
 have d3:(n:Int)≤2147483647:=by omega
 by_cases hlt:i<1
 ·have:i=0:=by omega
  subst this;simp (disch:=first|exact Wv.D|fail) only [Wv.B,simprocAttr,aj d1];refine aJ 1 (by omega) (by omega) Wv.V (by simp (disch:=first|exact Wv.D|fail) only [Wv.B,simprocAttr,Int.natCast_one])
 ·have:i=1:=by omega
  subst this;simp (disch:=first|exact Wv.D|fail) only [Wv.B,simprocAttr,Int.natCast_one,ah d2,ah d3]
theorem N9 (a n:Nat) (h1:2≤n) (h2:n≤2147483647) (ha:a<n):TC Tryz.prog 251 [.v (.int .u32 a), .v (.int .u32 n)] (.tup [.v (.int .u32 (tK a n).1), .v (.int .i64 (tK a n).2)]):=by
 refine Wv.TC.by 47 [1,0,15,7,21,6,10,9,8,38,40,4,5] [] [.tmp 4, .tmp 5] Tryz.func251 rfl rfl rfl ?clo ?_
 case clo=>simp only [Wv.BC]
 refine Wv.W ?_;refine aA (WR a n h1 h2 ha) rfl Wv.c Wv.c ?_;refine Wv.W ?_;have HS:=EuI.start h1 ha;refine dI (σ:=Nat × Nat × Int × Int) (fun s=>[(1, .v (.int .u32 n)),(6, .v (.int .i64 (s.1:Nat))),(7, .v (.int .i64 (s.2.1:Nat))),(8, .v (.int .i64 s.2.2.1)),(9, .v (.int .i64 s.2.2.2))]) (fun s=>[some (.arr 22 1 [.v (.int .u32 a)] 1)])
  (fun s=>EuI n a s.1 s.2.1 s.2.2.1 s.2.2.2) (fun s=>s.2.1) (n,a,0,1) HS Wv.V Wv.V ?_
 rintro ⟨x,y,u,v⟩ he;simp only at he ⊢;by_cases hy:0<y
 ·have hy0: ¬ ((y:Int)=0):=by omega
  have hs:=he.step hy;have hxn:=he.xn;have hu0:=he.u0;have hu1:=he.u1;have hv0':=hs.v0;have alp:=hs.v1;have hdm:=Nat.div_add_mod x y;have hr:x % y<y:=Nat.mod_lt _ hy;have edt:(x:Int).tdiv (y:Int)=((x / y:Nat):Int):=by rw [Int.tdiv_eq_ediv_of_nonneg (by omega)];exact (Int.natCast_ediv x y).symm
  generalize x / y=q at*;generalize x % y=r at*;have hqy:((y*q+r:Nat):Int)=(x:Int):=by rw [hdm]
  rw [Int.natCast_add,Int.natCast_mul,Int.mul_comm] at hqy;have hq0:(0:Int)≤(q:Int)*(y:Int):=Int.mul_nonneg (by omega) (by omega);have hqx:(q:Int)≤(x:Int):=by
   have h:(q:Int)*1≤(q:Int)*(y:Int):=Int.mul_le_mul_of_nonneg_left (by omega) (by omega);omega
  have e2:IntKind.i64.wrap ((q:Int)*(y:Int))=(q:Int)*(y:Int):=by rw [IntKind.wrap_i64];omega
  have e3:(x:Int) - (q:Int)*(y:Int)=(r:Int):=by omega
  have e4:IntKind.i64.wrap ((q:Int)*v)=(q:Int)*v:=by rw [IntKind.wrap_i64];omega
  have e5:IntKind.i64.wrap (u - (q:Int)*v)=u - (q:Int)*v:=by rw [IntKind.wrap_i64];omega
  simp (disch:=first|exact Wv.D|fail) only [Wv.B,simprocAttr,aj hy0,edt,e2,e3,e4,e5];refine aJ (y,r,v,u - (q:Int)*v) hs hr Wv.V Wv.V
 ·obtain rfl:y=0:=by omega
  have hg:=he.gc;rw [Nat.gcd_zero_right] at hg;by_cases hx:x=1
  ·have hi:tK a n=(QG a n,0):=if_pos (by rw [←hg,hx]);obtain ⟨f1,f2,f3⟩:=he.fin h1 hx;subst hx;have hf:WQ u n=if u<0 then u+n else u:=rfl
   have hu0:=he.u0;have hu1:=he.u1;by_cases hu:u<0
   ·rw [if_pos hu] at hf;simp (disch:=first|exact Wv.D|fail) only [Wv.B,simprocAttr,ah hu,hi];rw [←f3,hf]
   ·rw [if_neg hu] at hf;simp (disch:=first|exact Wv.D|fail) only [Wv.B,simprocAttr,aj hu,hi];rw [←f3,hf]
  ·have hi:tK a n=(0,4):=if_neg (fun e=>hx (by rw [hg,e]));have hx': ¬ ((x:Int)=1):=by omega
   simp (disch:=first|exact Wv.D|fail) only [Wv.B,simprocAttr,aj hx',hi]
theorem ajg {a:AV} (h1:Clo a): ∀ x,x∈[a]→Clo x:=by simp only [Wv.BC];exact h1
theorem BM {x y:Int} (hx:0≤x):x.tmod y=x % y:=Int.tmod_eq_emod_of_nonneg hx
def ofT (n:Nat) (f:Nat→Nat):List Nat:=(List.range n).map f
theorem yY (n:Nat) (f:Nat→Nat):(ofT n f).length=n:=by simp [ofT]
theorem F7 (n:Nat) (f:Nat→Nat) (i:Nat):(ofT n f).getD i 0=if i<n then f i else 0:=by
 unfold ofT;by_cases h:i<n
 ·simp [h]
 ·simp [h]
theorem WS (l:List Nat):ofT l.length (fun i=>l.getD i 0)=l:=by
 apply List.ext_getElem (by simp [ofT]);intro i h1 h2;simp [ofT,h2]
theorem WT (n k:Nat) (f:Nat→Nat) (h:k≤n):(ofT n f).take k=ofT k f:=by
 unfold ofT;rw [←List.map_take,List.take_range,Nat.min_eq_left h]
def jI (n:Nat) (f:Nat→Nat):AV:= .t n 1 (tab n fun i=> .v (.int .u32 (f i:Nat)))
def fU (l:List Nat):AV:=jI l.length fun i=>l.getD i 0
theorem WU (n:Nat) (f:Nat→Nat):fU (ofT n f)=jI n f:=by
 unfold fU jI;rw [yY,aC (f':=fun i=> .v (.int .u32 (f i:Nat))) fun i hi=>by show AV.v (.int .u32 (((ofT n f).getD i 0:Nat):Int))=_;rw [F7,if_pos hi]]
theorem BN (n:Nat) (f:Nat→Nat):Clo (jI n f):=by unfold jI;simp only [Wv.BC]
theorem dO (l:List Nat):Clo (fU l):=BN _ _
def ig (f:Nat→Nat):Nat→Nat
 | 0=>0
 | n+1=>if f n=0 then ig f n else n+1
theorem oK (f:Nat→Nat) (n:Nat):ig f (n+1)=if f n=0 then ig f n else n+1:=rfl
theorem vJ (f:Nat→Nat): ∀ n,ig f n≤n
 | 0=>Nat.le_refl _
 | n+1=>by
  unfold ig;split
  ·have:=vJ f n;omega
  ·exact Nat.le_refl _
theorem yu {f g:Nat→Nat}: ∀ {n:Nat},(∀ i,i<n→f i=g i)→ig f n=ig g n
 | 0,_=>rfl
 | n+1,h=>by
  unfold ig;rw [h n (by omega),yu (n:=n) fun i hi=>h i (by omega)]
def lK (l:List Nat):List Nat:=l.take (ig (fun i=>l.getD i 0) l.length)
theorem QH (n:Nat) (f:Nat→Nat):lK (ofT n f)=ofT (ig f n) f:=by
 unfold lK;rw [yY,yu (g:=f) fun i hi=>by rw [F7,if_pos hi]];exact WT _ _ _ (vJ f n)
theorem BO (n:Nat) (f:Nat→Nat) (hn:n≤140737488351232):TC Tryz.prog 255 [jI n f] (fU (lK (ofT n f))):=by
 rw [QH,WU];unfold jI;refine Wv.TC.by 21 [0,14,2] [] [.tmp 2] Tryz.func255 rfl rfl rfl ?clo ?_
 case clo=>simp only [Wv.BC]
 refine Wv.W ?_;refine dI (σ:=Nat) (fun k=>[(0,jI k f)]) (fun k=>[]) (fun k=>k≤n∧ig f k=ig f n) (fun k=>k) n ⟨Nat.le_refl _,rfl⟩ Wv.V (by simp (disch:=first|exact Wv.D|fail) only [Wv.B,simprocAttr,jI]) ?_;rintro k ⟨hk,he⟩;unfold jI;cases k with
 | zero=>
  have e0:ig f n=0:=he.symm;simp (disch:=first|exact Wv.D|fail) only [Wv.B,simprocAttr,e0]
 | succ k=>
  have e1:((k+1:Nat):Int) - 1=(k:Int):=by omega
  have e2:(0:Int)<((k+1:Nat):Int):=by omega
  by_cases hd:f k=0
  ·have he':ig f k=ig f n:=by rw [←he,oK,if_pos hd]
   simp (disch:=first|exact Wv.D|fail) only [Wv.B,simprocAttr,e1,ah e2,hd];refine aJ k ⟨by omega,he'⟩ (by omega) Wv.V Wv.V
  ·have he':ig f n=k+1:=by rw [←he,oK,if_neg hd]
   have hd': ¬ ((f k:Nat):Int)=0:=by omega
   simp (disch:=first|exact Wv.D|fail) only [Wv.B,simprocAttr,e1,ah e2,aj hd',he']
def F8 (m:Nat) (f:Nat→Nat) (x n:Nat):Nat→Nat
 | 0=>0
 | k+1=>(F8 m f x n k*x+f (n - 1 - k)) % m
def wS (m:Nat) (l:List Nat) (x:Nat):Nat:=F8 m (fun i=>l.getD i 0) x l.length l.length
variable {m:Nat}
theorem Oa (hm:0<m) (f:Nat→Nat) (x n k:Nat):F8 m f x n k<m:=by
 cases k with
 | zero=>exact hm
 | succ k=>exact Nat.mod_lt _ hm
theorem qV {v:Nat} (hv:v<m) (hx:x<m) (hm:m≤2147483647):v*x≤4611686014132420609:=
 Nat.le_trans (Nat.mul_le_mul (show v≤2147483647 by omega) (show x≤2147483647 by omega)) (by decide)
theorem Eh (m:Nat) (l:List Nat) (x:Nat) (h1:2≤m) (h2:m≤2147483647) (hl: ∀ i,l.getD i 0<m) (hx:x<m) (hn:l.length≤140737488351232):
  TC Tryz.prog 252 [.v (.int .u32 m),fU l, .v (.int .u32 x)] (.v (.int .u32 (wS m l x:Nat))):=by
 unfold fU wS;obtain ⟨f,hf⟩: ∃ f:Nat→Nat,(fun i=>l.getD i 0)=f:=⟨_,rfl⟩
 have hl': ∀ i,f i<m:=fun i=>by rw [←hf];exact hl i
 rw [hf];clear hl hf;generalize l.length=n at*;unfold jI;refine Wv.TC.by 31 [1,8,13,7,2,0,6] [] [.tmp 6] Tryz.func252 rfl rfl rfl ?clo ?_
 case clo=>simp only [Wv.BC]
 refine Wv.W ?_;refine dI (σ:=Nat) (fun k=>[(0, .v (.int .u32 m)),(1,jI n f),(2, .v (.int .u32 x)),(7, .v (.int .u64 (F8 m f x n k:Nat))),(8, .v (.int .i64 ((n:Int) - 1 - k)))]) (fun k=>[]) (fun k=>k≤n) (fun k=>n - k) 0 (Nat.zero_le _) Wv.V (by simp (disch:=first|exact Wv.D|fail) only [Wv.B,simprocAttr,jI];rfl) ?_;intro k hk;have hv:=Oa (m:=m) (by omega) f x n k;have hm0: ¬ ((m:Int)=0):=by omega
 have e0:F8 m f x n (k+1)=(F8 m f x n k*x+f (n - 1 - k)) % m:=rfl;unfold jI;by_cases hlt:k<n
 ·have e1:(0:Int)≤(n:Int) - 1 - k:=by omega
  have e2:(n:Int) - 1 - k=((n - 1 - k:Nat):Int):=by omega
  have hf:=hl' (n - 1 - k);have hb:=qV hv hx h2;have e5:((n - 1 - k:Nat):Int) - 1=(n:Int) - 1 - ((k+1:Nat):Int):=by omega
  have e6:0<n - k:=by omega
  have hj:n - 1 - k<n:=by omega
  have e3:((F8 m f x n (k+1):Nat):Int)=((F8 m f x n k:Int)*(x:Int)+(f (n - 1 - k):Int)) % (m:Int):=by rw [e0,Int.natCast_emod,Int.natCast_add,Int.natCast_mul]
  clear e0;generalize F8 m f x n k=v at*;generalize n - 1 - k=j at*;have hb':((v*x:Nat):Int)≤4611686014132420609:=by omega
  have hb0:0≤((v*x:Nat):Int):=by omega
  rw [Int.natCast_mul] at hb' hb0;simp (disch:=first|exact Wv.D|fail) only [Wv.B,simprocAttr,ah e1,e2,BM];refine aJ (k+1) (by omega) (by omega) Wv.V (by simp (disch:=first|exact Wv.D|fail) only [Wv.B,simprocAttr,e3,e5])
 ·obtain rfl:k=n:=by omega
  have e1: ¬ (0:Int)≤(k:Int) - 1 - k:=by omega
  simp (disch:=first|exact Wv.D|fail) only [Wv.B,simprocAttr,aj e1]
theorem Ei {m:Nat} {g:Nat→AV}: ∀ {k n:Nat} {f:Nat→AV},m≤n→k≤m→dK (tab n f) (m - k) (tab k fun i=>g (i+(m - k)))=tab n fun i=>if m - k≤i∧i<m then g i else f i
 | 0,n,f,h,hk=>by
  show tab n f=_;exact aC fun i hi=>by rw [if_neg (by omega)]
 | k+1,n,f,h,hk=>by
  have e1:(tab (k+1) fun i=>g (i+(m - (k+1))))=g (m - (k+1))::tab k fun i=>g (i+(m - k)):=by
   unfold tab;rw [List.range_succ_eq_map,List.map_cons,List.map_map,Nat.zero_add];congr 1;apply List.map_congr_left;intro i hi;show g (i+1+(m - (k+1)))=_;congr 1;omega
  rw [e1];show dK ((tab n f).set (m - (k+1)) _) (m - (k+1)+1) _=_;rw [dF,show m - (k+1)+1=m - k by omega,Ei (k:=k) h (by omega)];refine aC fun i hi=>?_
  by_cases q:i=m - (k+1)
  ·subst q;rw [if_neg (by omega),if_pos rfl,if_pos (by omega)]
  ·by_cases q2:m - k≤i∧i<m
   ·rw [if_pos q2,if_pos (by omega)]
   ·rw [if_neg q2,if_neg q,if_neg (by omega)]
theorem LG {f g:Nat→AV} (h:m≤n):dK (tab n f) 0 (tab m g)=tab n fun i=>if i<m then g i else f i:=by
 have:=Ei (g:=g) (f:=f) h (Nat.le_refl m);rw [Nat.sub_self] at this;simp only [Nat.add_zero,Nat.zero_le,true_and] at this;exact this
def cbF (m c:Nat) (f g:Nat→Nat) (k i:Nat):Nat:=if i<k then (f i+g i*c) % m else f i
theorem afW (m c:Nat) (f g:Nat→Nat) (k:Nat):cbF m c f g k k=f k:=by unfold cbF;rw [if_neg (by omega)]
theorem WV (m c:Nat) (f g:Nat→Nat) (k i:Nat):cbF m c f g (k+1) i=if i=k then (f k+g k*c) % m else cbF m c f g k i:=by
 unfold cbF;by_cases e:i=k
 ·subst e;rw [if_pos (by omega),if_pos rfl]
 ·rw [if_neg e];by_cases h:i<k
  ·rw [if_pos h,if_pos (by omega)]
  ·rw [if_neg h,if_neg (by omega)]
def rP (m:Nat) (a b:List Nat) (c:Nat):List Nat:=lK (ofT (max a.length b.length) fun i=>if i<b.length then (a.getD i 0+b.getD i 0*c) % m else a.getD i 0)
theorem Jp (m:Nat) (a b:List Nat) (c:Nat) (h1:2≤m) (h2:m≤2147483647) (ha: ∀ i,a.getD i 0<m) (hb: ∀ i,b.getD i 0<m) (hc:c<m) (hn:a.length≤1000000000) (hk:b.length≤1000000000):
  TC Tryz.prog 253 [.v (.int .u32 m),fU a,fU b, .v (.int .u32 c)] (fU (rP m a b c)):=by
 unfold rP fU;have ha0: ∀ i,a.length≤i→a.getD i 0=0:=fun i h=>by simp [h]
 have hT:=BO (max a.length b.length) (fun i=>if i<b.length then (a.getD i 0+b.getD i 0*c) % m else a.getD i 0) (by omega);generalize (lK (ofT (max a.length b.length) fun i=>if i<b.length then (a.getD i 0+b.getD i 0*c) % m else a.getD i 0))=R at*;have hRc:=dO R;unfold fU at hT hRc;obtain ⟨f,hf⟩: ∃ f:Nat→Nat,f=fun i=>a.getD i 0:=⟨_,rfl⟩
 obtain ⟨g,hg⟩: ∃ g:Nat→Nat,g=fun i=>b.getD i 0:=⟨_,rfl⟩
 have ef: ∀ i,a.getD i 0=f i:=fun i=>by rw [hf]
 have eg: ∀ i,b.getD i 0=g i:=fun i=>by rw [hg]
 simp only [ef,eg] at*;clear ef eg hf hg;generalize a.length=p at*;generalize b.length=q at*;unfold jI at*;have hcF: ∀ k i,cbF m c f g k i<m:=fun k i=>by unfold cbF;split;exact Nat.mod_lt _ (by omega);exact ha i
 have hTe:(fun i=>AV.v (Value.int IntKind.u32 (((fun i=>if i<q then (f i+g i*c) % m else f i) i:Nat):Int)))=fun i=>AV.v (.int .u32 (cbF m c f g q i:Nat)):=rfl
 have hmx:(if (q:Int)>(p:Int) then (q:Int) else (p:Int)).toNat=max p q:=by split<;>omega
 have hmy:(if (q:Int)>(p:Int) then (q:Int) else (p:Int))=((max p q:Nat):Int):=by split<;>omega
 have hpN:p≤max p q:=Nat.le_max_left _ _;have hqN:q≤max p q:=Nat.le_max_right _ _;have hNN:max p q≤1000000000:=by omega
 rw [hTe] at hT;clear hTe;generalize max p q=N at*;have h0:(tab N fun i=>if i<p then AV.v (.int .u32 (f i:Nat)) else AV.v (.int .u32 0))=tab N fun i=>AV.v (.int .u32 (cbF m c f g 0 i:Nat)):=aC fun i hi=>by
  by_cases h:i<p
  ·rw [if_pos h];rfl
  ·rw [if_neg h];show _=AV.v (.int .u32 (f i:Nat));rw [ha0 i (by omega)];rfl
 refine Wv.TC.by 49 [1,2,9,23,22,24,21,10,11,3,0,8] [] [.tmp 8] Tryz.func253 rfl rfl rfl ?clo ?_
 case clo=>exact hRc
 simp (disch:=first|exact Wv.D|fail) only [Wv.B,simprocAttr,LG,hmx,h0];clear h0;refine dI (σ:=Nat) (fun k=>[(0, .v (.int .u32 m)),(3, .v (.int .u32 c)),(9, .own 0 N),(21, .t q 1 (tab q fun i=> .v (.int .u32 (g i:Nat)))),(22, .v (.int .i64 q)),(23, .v (.int .i64 k))])
  (fun k=>[some (.arr 22 1 (tab N fun i=> .v (.int .u32 (cbF m c f g k i:Nat))) 0)]) (fun k=>k≤q) (fun k=>q - k) 0 (Nat.zero_le _) rfl Wv.V ?_
 intro k hk;by_cases hlt:k<q
 ·have e1:(k:Int)<(q:Int):=by omega
  have hb1:=qV (hb k) hc h2;have hf:=ha k;have hg:=hb k;have hcc:=WV m c f g k;have hck:cbF m c f g k k=f k:=afW m c f g k;have hb':(((g k)*c:Nat):Int)≤4611686014132420609:=by omega
  have hb0:0≤(((g k)*c:Nat):Int):=by omega
  rw [Int.natCast_mul] at hb' hb0;have e7:IntKind.u32.wrap ((((f k:Nat):Int)+((g k:Nat):Int)*(c:Int)) % (m:Int))=(((f k+g k*c) % m:Nat):Int):=by
   have h8:(((f k+g k*c) % m:Nat):Int)=(((f k:Nat):Int)+((g k:Nat):Int)*(c:Int)) % (m:Int):=by rw [Int.natCast_emod,Int.natCast_add,Int.natCast_mul]
   have h9:(f k+g k*c) % m<m:=Nat.mod_lt _ (by omega);rw [←h8,IntKind.wrap_u32];omega
  have h8:(tab N fun i=>if i=k then AV.v (.int .u32 (((f k+g k*c) % m:Nat):Int)) else AV.v (.int .u32 (cbF m c f g k i:Nat)))=tab N fun i=>AV.v (.int .u32 (cbF m c f g (k+1) i:Nat)):=aC fun i hi=>by
   rw [hcc];by_cases h:i=k
   ·rw [if_pos h,if_pos h]
   ·rw [if_neg h,if_neg h]
  simp (disch:=first|exact Wv.D|fail) only [Wv.B,simprocAttr,ah e1,hck,BM,dF,e7,h8];refine aJ (k+1) (by omega) (by omega) rfl Wv.V2
 ·obtain rfl:k=q:=by omega
  simp (disch:=first|exact Wv.D|fail) only [Wv.B,simprocAttr,Int.lt_irrefl,decide_false];refine yO hT (ajg Wv.c) hRc ?_;refine Wv.W ?_;refine uH rfl ?_;exact Wv.V
def cvF (m q:Nat) (f g:Nat→Nat):Nat→Nat→Nat
 | 0,j=>0
 | i+1,j=>if i≤j∧j<i+q then (cvF m q f g i j+f i*g (j - i)) % m else cvF m q f g i j
def cvR (m q:Nat) (f g:Nat→Nat) (i k j:Nat):Nat:=if i≤j∧j<i+k then (cvF m q f g i j+f i*g (j - i)) % m else cvF m q f g i j
theorem WW (m q:Nat) (f g:Nat→Nat) (i j:Nat):cvR m q f g i 0 j=cvF m q f g i j:=by unfold cvR;rw [if_neg (by omega)]
theorem afX (m q:Nat) (f g:Nat→Nat) (i k:Nat):cvR m q f g i k (i+k)=cvF m q f g i (i+k):=by unfold cvR;rw [if_neg (by omega)]
theorem WX (m q:Nat) (f g:Nat→Nat) (i k j:Nat):cvR m q f g i (k+1) j=if j=i+k then (cvF m q f g i (i+k)+f i*g k) % m else cvR m q f g i k j:=by
 unfold cvR;by_cases e:j=i+k
 ·subst e;rw [if_pos (by omega),if_pos rfl,Nat.add_sub_cancel_left]
 ·rw [if_neg e];by_cases h:i≤j∧j<i+k
  ·rw [if_pos h,if_pos (by omega)]
  ·rw [if_neg h,if_neg (by omega)]
theorem LH (hm:0<m) (q:Nat) (f g:Nat→Nat): ∀ i j,cvF m q f g i j<m
 | 0,j=>hm
 | i+1,j=>by
  unfold cvF;split
  ·exact Nat.mod_lt _ hm
  ·exact LH hm q f g i j
def lY (m:Nat) (a b:List Nat):List Nat:=if a.length=0∨b.length=0 then [] else lK (ofT (a.length+b.length - 1) (cvF m b.length (fun i=>a.getD i 0) (fun i=>b.getD i 0) a.length))
theorem Jq (m:Nat) (a b:List Nat) (h1:2≤m) (h2:m≤2147483647) (ha: ∀ i,a.getD i 0<m) (hb: ∀ i,b.getD i 0<m) (hn:a.length≤1000000000) (hk:b.length≤1000000000):
  TC Tryz.prog 254 [.v (.int .u32 m),fU a,fU b] (fU (lY m a b)):=by
 by_cases hz:a.length=0∨b.length=0
 ·unfold lY;rw [if_pos hz];have T:TC Tryz.prog 254 [.v (.int .u32 m),fU a,fU b] (.v (.slice none 0 0)):=by
   unfold fU jI;generalize a.length=p at*;generalize b.length=q at*;refine Wv.TC.by 67 [1,2,19,29,28,30,27,36,35,37,34,7,8,10,9,11,0,6] [] [.tmp 6] Tryz.func254 rfl rfl rfl ?clo ?_
   case clo=>simp only [Wv.BC]
   by_cases h:p=0
   ·have e1:(p:Int)=0:=by omega
    simp (disch:=first|exact Wv.D|fail) only [Wv.B,simprocAttr,e1,ah e1]
   ·have e1: ¬ (p:Int)=0:=by omega
    have e2:(q:Int)=0:=by omega
    simp (disch:=first|exact Wv.D|fail) only [Wv.B,simprocAttr,aj e1,e2]
  exact T.wk (⟨Wk.refl _,Wk.refl _,Wk.refl _,trivial⟩:WkL [AV.v (.int .u32 m),fU a,fU b] [AV.v (.int .u32 m),fU a,fU b]) (Wk.nil 1)
 have hp0:0<a.length:=by omega
 have hq0:0<b.length:=by omega
 unfold lY;rw [if_neg hz];clear hz;have hT:=BO (a.length+b.length - 1) (cvF m b.length (fun i=>a.getD i 0) (fun i=>b.getD i 0) a.length) (by omega);generalize (lK (ofT (a.length+b.length - 1) (cvF m b.length (fun i=>a.getD i 0) (fun i=>b.getD i 0) a.length)))=R at*;have hRc:=dO R;unfold fU at hT hRc ⊢;obtain ⟨f,hf⟩: ∃ f:Nat→Nat,f=fun i=>a.getD i 0:=⟨_,rfl⟩
 obtain ⟨g,hg⟩: ∃ g:Nat→Nat,g=fun i=>b.getD i 0:=⟨_,rfl⟩
 have ef: ∀ i,a.getD i 0=f i:=fun i=>by rw [hf]
 have eg: ∀ i,b.getD i 0=g i:=fun i=>by rw [hg]
 simp only [ef,eg] at*;clear ef eg hf hg;generalize a.length=p at*;generalize b.length=q at*;unfold jI at*;have hN:((p:Int)+(q:Int) - 1).toNat=p+q - 1:=by omega
 obtain ⟨N,hNe⟩: ∃ N,N=p+q - 1:=⟨_,rfl⟩
 rw [←hNe] at hN hT;have hNN:N≤2000000000:=by omega
 have h0:(tab N fun i=>AV.v (.int .u32 0))=tab N fun i=>AV.v (.int .u32 (cvF m q f g 0 i:Nat)):=rfl
 refine Wv.TC.by 67 [1,2,19,29,28,30,27,36,35,37,34,7,8,10,9,11,0,6] [] [.tmp 6] Tryz.func254 rfl rfl rfl ?clo ?_
 case clo=>exact hRc
 have e1: ¬ (p:Int)=0:=by omega
 have e2: ¬ (q:Int)=0:=by omega
 simp (disch:=first|exact Wv.D|fail) only [Wv.B,simprocAttr,aj e1,aj e2,hN,h0];clear h0 hN;refine dI (σ:=Nat) (fun i=>[(0, .v (.int .u32 m)),(2, .t q 1 (tab q fun i=> .v (.int .u32 (g i:Nat)))),(7, .own 0 N),(27, .t p 1 (tab p fun i=> .v (.int .u32 (f i:Nat)))),(28, .v (.int .i64 p)),(29, .v (.int .i64 i))])
  (fun i=>[some (.arr 22 1 (tab N fun j=> .v (.int .u32 (cvF m q f g i j:Nat))) 0)]) (fun i=>i≤p) (fun i=>p - i) 0 (Nat.zero_le _) rfl Wv.V ?_
 intro i hi;by_cases hlt:i<p
 ·have e3:(i:Int)<(p:Int):=by omega
  simp (disch:=first|exact Wv.D|fail) only [Wv.B,simprocAttr,ah e3];have h0:(tab N fun j=>AV.v (.int .u32 (cvF m q f g i j:Nat)))=tab N fun j=>AV.v (.int .u32 (cvR m q f g i 0 j:Nat)):=aC fun j hj=>by rw [WW]
  refine dI (σ:=Nat) (fun k=>[(0, .v (.int .u32 m)),(2, .t q 1 (tab q fun i=> .v (.int .u32 (g i:Nat)))),(7, .own 0 N),(8, .v (.int .i64 i)),(9, .v (.int .u32 (f i:Nat))),(27, .t p 1 (tab p fun i=> .v (.int .u32 (f i:Nat)))),(28, .v (.int .i64 p)),(29, .v (.int .i64 i)),(34, .t q 1 (tab q fun i=> .v (.int .u32 (g i:Nat)))),(35, .v (.int .i64 q)),(36, .v (.int .i64 k))])
   (fun k=>[some (.arr 22 1 (tab N fun j=> .v (.int .u32 (cvR m q f g i k j:Nat))) 0)]) (fun k=>k≤q) (fun k=>q - k) 0 (Nat.zero_le _) (by rw [h0]) Wv.V ?_
  clear h0;intro k hkk;by_cases hlt2:k<q
  ·have e4:(k:Int)<(q:Int):=by omega
   have hb1:=qV (ha i) (hb k) h2;have hb':(((f i)*(g k):Nat):Int)≤4611686014132420609:=by omega
   have hb0:0≤(((f i)*(g k):Nat):Int):=by omega
   rw [Int.natCast_mul] at hb' hb0;have hik:i+k<N:=by omega
   have hfi:=ha i;have hgk:=hb k;have e5:(i:Int)+(k:Int)=((i+k:Nat):Int):=by omega
   have hc0:=LH (m:=m) (by omega) q f g i (i+k);have hck:cvR m q f g i k (i+k)=cvF m q f g i (i+k):=afX m q f g i k;have e7:IntKind.u32.wrap ((((cvF m q f g i (i+k):Nat):Int)+((f i:Nat):Int)*((g k:Nat):Int)) % (m:Int))=(((cvF m q f g i (i+k)+f i*g k) % m:Nat):Int):=by
    have h8:(((cvF m q f g i (i+k)+f i*g k) % m:Nat):Int)=(((cvF m q f g i (i+k):Nat):Int)+((f i:Nat):Int)*((g k:Nat):Int)) % (m:Int):=by rw [Int.natCast_emod,Int.natCast_add,Int.natCast_mul]
    have h9:(cvF m q f g i (i+k)+f i*g k) % m<m:=Nat.mod_lt _ (by omega);rw [←h8,IntKind.wrap_u32];omega
   have h8:(tab N fun j=>if j=i+k then AV.v (.int .u32 (((cvF m q f g i (i+k)+f i*g k) % m:Nat):Int)) else AV.v (.int .u32 (cvR m q f g i k j:Nat)))=tab N fun j=>AV.v (.int .u32 (cvR m q f g i (k+1) j:Nat)):=aC fun j hj=>by
    rw [WX];by_cases h:j=i+k
    ·rw [if_pos h,if_pos h]
    ·rw [if_neg h,if_neg h]
   simp (disch:=first|exact Wv.D|fail) only [Wv.B,simprocAttr,ah e4,e5,hck,BM,dF,e7,h8];refine aJ (k+1) (by omega) (by omega) rfl Wv.V2
  ·obtain rfl:k=q:=by omega
   have h1':(fun j=>cvR m k f g i k j)=cvF m k f g (i+1):=rfl;simp (disch:=first|exact Wv.D|fail) only [Wv.B,simprocAttr,Int.lt_irrefl,decide_false];refine aJ (i+1) (by omega) (by omega) rfl Wv.V2
 ·obtain rfl:i=p:=by omega
  simp (disch:=first|exact Wv.D|fail) only [Wv.B,simprocAttr,Int.lt_irrefl,decide_false];refine yO hT (ajg Wv.c) hRc ?_;refine Wv.W ?_;refine uH rfl ?_;exact Wv.V
def dU    (m : Nat) (xs ys : Nat → Nat) : Nat → List Nat × List Nat
  | 0 => ([], [1])
  | i + 1 => (rP    m (dU    m xs ys i).1 (dU    m xs ys i).2 ((ys i + m - wS   m (dU    m xs ys i).1 (xs i)) % m * (tK   (wS   m (dU    m xs ys i).2 (xs i)) m).1 % m),
      lY    m (dU    m xs ys i).2 [(m - xs i) % m, 1])
def nH (m:Nat) (xs:Nat→Nat) (p:Nat × Nat):Bool:=decide (Nat.gcd m ((xs p.1+m - xs p.2) % m)=1)
def wU (m n:Nat) (xs ys:Nat→Nat):AV:=if (prs n).all (nH m xs)=true then .tup [fU (lK (dU m xs ys n).1), .v (.int .i64 0)] else .tup [.v (.slice none 0 0), .v (.int .i64 7)]
theorem LJ (m n:Nat) (xs ys:Nat→Nat):Clo (wU m n xs ys):=by
 unfold wU;split
 ·simp only [Wv.BC,dO]
 ·simp only [Wv.BC]
def kM (m n:Nat) (xs ys:Nat→Nat):List Nat × Int:=if (prs n).all (nH m xs)=true then (lK (dU m xs ys n).1,0) else ([],7)
theorem wV (l:List Nat):(lK l).length≤l.length:=by unfold lK;rw [List.length_take];exact Nat.min_le_right _ _
theorem Jr (hm:0<m) {l:List Nat} (h: ∀ i,l.getD i 0<m) (i:Nat):(lK l).getD i 0<m:=by
 unfold lK;rw [List.getD_eq_getElem?_getD,List.getElem?_take];split
 ·have:=h i;rwa [List.getD_eq_getElem?_getD] at this
 ·exact hm
theorem WY (hm:0<m)  {f:Nat→Nat} (h: ∀ i,f i<m) (i:Nat):(ofT n f).getD i 0<m:=by
 rw [F7];split
 ·exact h i
 ·exact hm
theorem WZ (hm:0<m) {a b:List Nat} {c:Nat} (ha: ∀ i,a.getD i 0<m) (i:Nat):(rP m a b c).getD i 0<m:=
 Jr hm (WY hm fun i=>by split;exact Nat.mod_lt _ hm;exact ha i) i
theorem QI (m:Nat) (a b:List Nat) (c:Nat):(rP m a b c).length≤max a.length b.length:=by
 have:=wV (ofT (max a.length b.length) fun i=>if i<b.length then (a.getD i 0+b.getD i 0*c) % m else a.getD i 0);rw [yY] at this;exact this
theorem W9 (hm:0<m) (a b:List Nat) (i:Nat):(lY m a b).getD i 0<m:=by
 unfold lY;split
 ·exact hm
 ·exact Jr hm (WY hm fun i=>LH hm _ _ _ _ _) i
theorem QJ (m:Nat) (a b:List Nat):(lY m a b).length≤a.length+b.length - 1:=by
 unfold lY;split
 ·exact Nat.zero_le _
 ·have:=wV (ofT (a.length+b.length - 1) (cvF m b.length (fun i=>a.getD i 0) (fun i=>b.getD i 0) a.length));rw [yY] at this;exact this
theorem F9      {m : Nat} (hm : 2 ≤ m) (xs ys : Nat → Nat) : ∀ i, (∀ j, (dU    m xs ys i).1.getD j 0 < m) ∧ (∀ j, (dU    m xs ys i).2.getD j 0 < m) ∧ (dU    m xs ys i).1.length ≤ i ∧ (dU    m xs ys i).2.length ≤ i + 1
  | 0 => ⟨fun j => by show ([] : List Nat).getD j 0 < m; rw [List.getD_nil]; omega, fun j => by
      show ([1] : List Nat).getD j 0 < m;cases j with
      | zero => show 1 < m; omega
      | succ j => show 0 < m; omega, Nat.le_refl _, Nat.le_refl _⟩
  | i + 1 => by
    obtain ⟨h1, h2, h3, h4⟩ := F9      hm xs ys i;refine ⟨WZ       (by omega) h1, W9       (by omega) _ _, ?_, ?_⟩
    · have := QI        m (dU    m xs ys i).1 (dU    m xs ys i).2 ((ys i + m - wS   m (dU    m xs ys i).1 (xs i)) % m * (tK   (wS   m (dU    m xs ys i).2 (xs i)) m).1 % m)
      show (rP    _ _ _ _).length ≤ _;omega
    · have := QJ        m (dU    m xs ys i).2 [(m - xs i) % m, 1]
      show (lY    _ _ _).length ≤ _;simp only [List.length_cons, List.length_nil] at this;omega
theorem Xa {p:Nat→Bool}  (h:findF p n=some i):i<n:=by
 by_cases hx: ∃ j,j<n∧p j=true
 ·obtain ⟨j,hj,hp⟩:=hx;have key: ∀ k,(∀ j,j<k→p j=false)∨ ∃ j,j<k∧p j=true∧ ∀ i,i<j→p i=false:=fun k=>by
   induction k with
   | zero=>exact .inl fun j hj=>by omega
   | succ k ih=>
    rcases ih with q | ⟨j,q1,q2,q3⟩
    ·cases hq:p k with
     | true=>exact .inr ⟨k,by omega,hq,q⟩
     | false=>
      refine .inl fun j hj=>?_
      by_cases e:j=k
      ·subst e;exact hq
      ·exact q j (by omega)
    ·exact .inr ⟨j,by omega,q2,q3⟩
  rcases key n with q | ⟨k,q1,q2,q3⟩
  ·rw [q j hj] at hp;cases hp
  ·rw [kC q1 q2 q3] at h;injection h with h;omega
 ·rw [je fun j hj=>by cases hq:p j with | false=>rfl | true=>exact absurd ⟨j,hj,hq⟩ hx] at h;cases h
theorem abC (hn:0<n):(tK a n).1<n:=by
 unfold tK;split
 ·show (findF (fun i=>decide (i*a % n=1)) n).getD 0<n;cases h:findF (fun i=>decide (i*a % n=1)) n with
  | none=>exact hn
  | some i=>exact Xa h
 ·exact hn
theorem Oc (hm:0<m) (l:List Nat) (x:Nat):wS m l x<m:=Oa hm _ _ _ _
theorem QK (n:Nat) (h:Hp) (hh:loH h.length h):HT Tryz.prog 250 [.v (.int .i64 n)] h (fun r h'=>r= .fn (.func 264) [] [.ptr h.length 0]∧h'=h++[some (.blk [.v (.int .i64 n)])]):=by
 refine Wv.HT.by 4 [0,1,2] [(1000000,h.length)] [.tmp 2] Tryz.func250 rfl rfl rfl ?base ?_
 case base=>rfl
 exact Wv.V
theorem LK (m n:Nat) (xs ys:Nat→Nat) (h1:2≤m) (h2:m≤2147483647) (hn:n≤256) (hx: ∀ i,i<n→xs i<m) (hy: ∀ i,i<n→ys i<m):
  TC Tryz.prog 240 [.v (.int .u32 m),jI n xs,jI n ys] (wU m n xs ys):=by
 have hRc:=LJ m n xs ys;unfold jI;refine Wv.TC.by 137 [0,1,3,4,2,32,6,7,35,38,37,39,8,54,58,59,60,9,10,12,80,84,83,85,82,14,16,15,13,17,19] [(8,14),(14,18),(22,9),(23,21),(25,9)] [.cell 6 23, .cell 7 35] Tryz.func240 rfl rfl rfl ?clo ?_
 case clo=>exact hRc
 have d1: ¬ (m:Int)<2:=by omega
 have d2: ¬ (2147483647:Int)<(m:Int):=by omega
 have d3: ¬ (256:Int)<(n:Int):=by omega
 simp (disch:=first|exact Wv.D|fail) only [Wv.B,simprocAttr,aj d1,aj d2,aj d3];refine dI (σ:=Nat) (fun i=>[(2, .t n 1 (tab n fun i=> .v (.int .u32 (ys i:Nat)))),(3, .ptr 0 0),(4, .ptr 1 0),(6, .ptr 2 0),(7, .ptr 3 0),(37, .v (.int .i64 n)),(38, .v (.int .i64 i))])
  (fun i=>[some (.blk [.v (.int .u32 m)]),some (.blk [.t n 1 (tab n fun i=> .v (.int .u32 (xs i:Nat)))]),some (.blk [.v (.slice none 0 0)]),some (.blk [.v (.int .i64 0)])]) (fun i=>i≤n) (fun i=>n - i) 0 (Nat.zero_le _) rfl Wv.V ?_
 intro i hi;by_cases hlt:i<n
 ·have e3:(i:Int)<(n:Int):=by omega
  have hxi:=hx i hlt;have hyi:=hy i hlt;have e4: ¬ (m:Int)≤(xs i:Nat):=by omega
  have e5: ¬ (m:Int)≤(ys i:Nat):=by omega
  simp (disch:=first|exact Wv.D|fail) only [Wv.B,simprocAttr,ah e3,aj e4,aj e5];refine aJ (i+1) (by omega) (by omega) rfl Wv.V2
 obtain rfl:n=i:=by omega
 simp (disch:=first|exact Wv.D|fail) only [Wv.B,simprocAttr,Int.lt_irrefl,decide_false];refine bZ (fst:=[]) (cap:=[]) (QK n _ ?_) ?_
 ·simp only [Wv.BL, ↓reduceIte,Nat.reduceLeDiff]
 rintro av h' ⟨rfl,rfl⟩;refine Wv.W ?_;obtain ⟨HH,hHH⟩: ∃ HH:Hp,HH=[some (.blk [.v (.int .u32 m)]),some (.blk [.t n 1 (tab n fun i=> .v (.int .u32 (xs i:Nat)))]),some (.blk [.v (.slice none 0 0)]),some (.blk [.v (.int .i64 0)]),some (.blk [.v (.int .i64 n)])]:=⟨_,rfl⟩
 rw [←hHH];refine afR (L:=[0,1,3,4,2,32,6,7,35,38,37,39,8,54,58,59,60,9,10,12,80,84,83,85,82,14,16,15,13,17,19]) (ks':=[(8,14),(14,18),(22,9),(23,21),(25,9),(1000000,5)]) (by kernel_rfl) rfl (by kernel_rfl) (LC n (by rw [hHH];rfl) (by omega)) (fun _=>rfl) (by kernel_rfl) (by kernel_rfl) (by kernel_rfl) (by rw [hHH];rfl)
  (fun x=>(9, .v (.int .i64 (x.1.1:Nat)))::(10, .v (.int .i64 (x.1.2:Nat)))::[(3, .ptr 0 0),(4, .ptr 1 0),(6, .ptr 2 0),(7, .ptr 3 0)])
  (fun a x=>Jm 59 60 9 10 (.int .i64 (x.1.1:Nat)) (.int .i64 (x.1.2:Nat)) a)
  ?assign ?rel (fun pre h'=>h'=HH∧ ∀ p,p∈pre→nH m xs p.1=true) (fun c pre h'=>c= .ret∧h'=[some (.blk [.v (.int .u32 m)]),some (.blk [.t n 1 (tab n fun i=> .v (.int .u32 (xs i:Nat)))]),some (.blk [.v (.slice none 0 0)]),some (.blk [.v (.int .i64 7)]),some (.blk [.v (.int .i64 n)])]∧ ∃ p,p∈pre∧nH m xs p.1=false)
  ?nt ?ntx ?ids ?h0 ?body ?done ?stop
 case h0=>exact ⟨rfl,fun p hp=>(List.not_mem_nil hp).elim⟩
 case assign=>exact fun a l x W K hs hK=>assign2 rfl rfl rfl rfl rfl rfl hs (by decide) (by decide) (by decide) (by decide) hK
 case rel=>
  intro a x hs;refine ak1 hs (by decide) (by decide) (by decide) ?_;intro y hy;simp only [List.mem_cons,List.not_mem_nil,or_false] at hy;rcases hy with rfl | rfl | rfl | rfl<;>exact ⟨rfl,by decide,by decide,by decide,by decide⟩
 case nt=>
  rintro pre h' ⟨rfl,_⟩;subst hHH;exact ⟨fun a ha=> .clo (by rw [List.mem_singleton] at ha;subst ha;exact .v _),fun a ha=> .clo (by rw [List.mem_singleton] at ha;subst ha;simp only [Wv.BC]),fun a ha=> .clo (by rw [List.mem_singleton] at ha;subst ha;exact .v _),fun a ha=> .clo (by rw [List.mem_singleton] at ha;subst ha;exact .v _),fun a ha=> .clo (by rw [List.mem_singleton] at ha;subst ha;exact .v _),trivial⟩
 case ntx=>
  rintro c pre h' ⟨_,rfl,_⟩;exact ⟨fun a ha=> .clo (by rw [List.mem_singleton] at ha;subst ha;exact .v _),fun a ha=> .clo (by rw [List.mem_singleton] at ha;subst ha;simp only [Wv.BC]),fun a ha=> .clo (by rw [List.mem_singleton] at ha;subst ha;exact .v _),fun a ha=> .clo (by rw [List.mem_singleton] at ha;subst ha;exact .v _),fun a ha=> .clo (by rw [List.mem_singleton] at ha;subst ha;exact .v _),trivial⟩
 case ids=>
  intro i hi;rw [List.mem_singleton] at hi;subst hi;refine ⟨by rw [hHH];exact Nat.le_refl _,[.int .i64 n],?_⟩;rintro pre h' ⟨rfl,_⟩;rw [hHH];rfl
 case stop=>
  rintro c pre h' hsp ⟨rfl,rfl,p,hp,hb⟩;have hQ:wU m n xs ys= .tup [.v (.slice none 0 0), .v (.int .i64 7)]:=if_neg fun hall=>by
   have:=List.all_eq_true.1 hall p.1 (hsp.subset (List.mem_map_of_mem hp));rw [this] at hb;cases hb
  unfold Exx;simp (disch:=first|exact Wv.D|fail) only [Wv.B,simprocAttr,hQ]
 case body=>
  rintro pre ⟨⟨i,k⟩,hi,hk⟩ h' ⟨rfl,hp⟩ _ _;subst hHH;simp only at hi hk;have hxi:=hx i hi;have hxk:=hx k (by omega);have hk':k<n:=by omega
  have hm: ¬ (m:Int)=0:=by omega
  have hr:(xs i+m - xs k) % m<m:=Nat.mod_lt _ (by omega);have e1:((xs i:Int)+(m:Int) - (xs k:Int)) % (m:Int)=(((xs i+m - xs k) % m:Nat):Int):=by
   rw [Int.natCast_emod];congr 1;omega
  have hpb:nH m xs (i,k)=decide (Nat.gcd m ((xs i+m - xs k) % m)=1):=rfl;simp (disch:=first|exact Wv.D|fail) only [Wv.B,simprocAttr,aj hm,BM,e1];generalize (xs i+m - xs k) % m=z at*;refine iG (N9 z m h1 h2 hr) rfl Wv.c Wv.c ?_;by_cases hg:Nat.gcd m z=1
  ·have hv:(tK z m).2=0:=by unfold tK;rw [if_pos hg]
   simp (disch:=first|exact Wv.D|fail) only [Wv.B,simprocAttr,hv];refine ⟨_,_,Ent.refl _ _ _ _,rfl,fun p hq=>?_⟩;rcases List.mem_append.1 hq with hq | hq
   ·exact hp p hq
   ·rw [List.mem_singleton] at hq;subst hq;exact hpb.trans (ah hg)
  ·have hv:(tK z m).2=4:=by unfold tK;rw [if_neg hg]
   simp (disch:=first|exact Wv.D|fail) only [Wv.B,simprocAttr,hv];exact ⟨rfl,rfl,⟨(i,k),hi,hk⟩,List.mem_append_right _ (List.mem_singleton.2 rfl),hpb.trans (aj hg)⟩
 case done=>
  rintro zs h' hz ⟨rfl,hp⟩;have hall:(prs n).all (nH m xs)=true:=by
   rw [←hz,List.all_map];exact List.all_eq_true.2 fun p hp'=>hp p hp'
  have hR:wU m n xs ys= .tup [fU (lK (dU m xs ys n).1), .v (.int .i64 0)]:=if_pos hall;rw [hR] at hRc ⊢;clear hR hp hz;subst hHH;refine Wv.W ?_;refine Ag (σ:=Nat) (fun i=>[(2, .t n 1 (tab n fun i=> .v (.int .u32 (ys i:Nat)))),(3, .ptr 0 0),(4, .ptr 1 0),(6, .ptr 2 0),(7, .ptr 3 0),(13,fU (dU m xs ys i).1),(14,fU (dU m xs ys i).2),(82, .t n 1 (tab n fun i=> .v (.int .u32 (xs i:Nat)))),(83, .v (.int .i64 n)),(84, .v (.int .i64 i))])
   (fun i=>[some (.blk [.v (.int .u32 m)]),some (.blk [.t n 1 (tab n fun i=> .v (.int .u32 (xs i:Nat)))]),some (.blk [.v (.slice none 0 0)]),some (.blk [.v (.int .i64 0)])]) (fun i=>i≤n) (fun i=>n - i) 0 (Nat.zero_le _) ?_ ?_
  ·refine Ent.trans (Ent.wk 13 _ (.t 0 1 []) rfl (Wk.nil 1)) (Ent.trans (Ent.close 14 (.own 5 1) (.t 1 1 [.v (.int .u32 1)]) _ rfl rfl) (Ent.cut 4 (Nat.zero_le _) ?_ ?_ ?_))
   ·simp (disch:=first|exact Wv.D|fail) only [Wv.B,simprocAttr];exact ⟨rfl,rfl⟩
   ·simp only [Wv.BL, ↓reduceIte,Nat.reduceLeDiff];exact ⟨by omega,by omega, .clo (dO _), .clo (dO _)⟩
   ·simp only [List.set_cons_zero,List.set_cons_succ];simp only [Wv.BL, ↓reduceIte,Nat.reduceLeDiff]
  ·intro i hi;obtain ⟨hb1,hb2,hb3,hb4⟩:=F9 h1 xs ys i;by_cases hlt:i<n
   ·have e3:(i:Int)<(n:Int):=by omega
    have hxi:=hx i hlt;have hyi:=hy i hlt;have hnx:dU m xs ys (i+1)=(rP m (dU m xs ys i).1 (dU m xs ys i).2 ((ys i+m - wS m (dU m xs ys i).1 (xs i)) % m*(tK (wS m (dU m xs ys i).2 (xs i)) m).1 % m),lY m (dU m xs ys i).2 [(m - xs i) % m,1]):=rfl;generalize (dU m xs ys i).1=O at*;generalize (dU m xs ys i).2=B at*;have hvB:=Oc (m:=m) (by omega) B (xs i);have hvO:=Oc (m:=m) (by omega) O (xs i);have TB:=Eh m B (xs i) h1 h2 hb2 hxi (by omega);have TO:=Eh m O (xs i) h1 h2 hb1 hxi (by omega);have TI:=N9 (wS m B (xs i)) m h1 h2 hvB;have hiv:=abC (a:=wS m B (xs i)) (n:=m) (by omega);simp (disch:=first|exact Wv.D|fail) only [Wv.B,simprocAttr,ah e3];generalize wS m B (xs i)=vB at*;generalize wS m O (xs i)=vO at*;generalize (tK vB m).1=iv at*;generalize (tK vB m).2=ie at*;have hm0: ¬ (m:Int)=0:=by omega
    have hw:(ys i+m - vO) % m<m:=Nat.mod_lt _ (by omega);have hc:(ys i+m - vO) % m*iv % m<m:=Nat.mod_lt _ (by omega);have f1:((ys i:Int)+(m:Int) - (vO:Int)) % (m:Int)=(((ys i+m - vO) % m:Nat):Int):=by
     rw [Int.natCast_emod];congr 1;omega
    have hz:(m - xs i) % m<m:=Nat.mod_lt _ (by omega);have f4:((m:Int) - (xs i:Int)) % (m:Int)=(((m - xs i) % m:Nat):Int):=by
     rw [Int.natCast_emod];congr 1;omega
    have hmb:=qV hw hiv h2;have f2:(((ys i+m - vO) % m:Nat):Int)*(iv:Int) % (m:Int)=(((ys i+m - vO) % m*iv % m:Nat):Int):=by
     rw [Int.natCast_emod ((ys i+m - vO) % m*iv),Int.natCast_mul]
    have TC1:=Jp m O B ((ys i+m - vO) % m*iv % m) h1 h2 hb1 hb2 hc (by omega) (by omega);have TP:TC Tryz.prog 254 [.v (.int .u32 m),fU B, .t 2 1 [.v (.int .u32 ((m - xs i) % m:Nat)), .v (.int .u32 1)]] (fU (lY m B [(m - xs i) % m,1])):=Jq m B [(m - xs i) % m,1] h1 h2 hb2 (fun j=>by
     match j with
     | 0=>exact hz
     | 1=>show 1<m;omega
     | j+2=>show 0<m;omega) (by omega) (by show 2≤_;omega)
    have hr1:=dO (rP m O B ((ys i+m - vO) % m*iv % m));have hr2:=dO (lY m B [(m - xs i) % m,1]);have e1:fU (dU m xs ys (i+1)).1=fU (rP m O B ((ys i+m - vO) % m*iv % m)):=by rw [hnx]
    have e2:fU (dU m xs ys (i+1)).2=fU (lY m B [(m - xs i) % m,1]):=by rw [hnx]
    clear hnx;generalize fU (rP m O B ((ys i+m - vO) % m*iv % m))=O' at*;generalize fU (lY m B [(m - xs i) % m,1])=B' at*;generalize (ys i+m - vO) % m*iv % m=c at*;have ak2:(((ys i+m - vO) % m*iv:Nat):Int)≤4611686014132420609:=by omega
    have ak3:0≤(((ys i+m - vO) % m*iv:Nat):Int):=by omega
    rw [Int.natCast_mul] at ak2 ak3;clear hmb;generalize (ys i+m - vO) % m=u at*;generalize (m - xs i) % m=z at*;refine iG TB rfl (by simp only [Wv.BC,dO]) Wv.c ?_;refine Wv.W ?_;refine iG TI rfl Wv.c Wv.c ?_;simp (disch:=first|exact Wv.D|fail) only [Wv.B,simprocAttr,aj hm0,BM];refine iG TO rfl (by simp only [Wv.BC,dO]) Wv.c ?_;simp (disch:=first|exact Wv.D|fail) only [Wv.B,simprocAttr,aj hm0,BM,f1,f2];refine aA TC1 rfl (by simp only [Wv.BC,dO]) hr1 ?_;simp (disch:=first|exact Wv.D|fail) only [Wv.B,simprocAttr,aj hm0,BM,f4];refine iG TP rfl (by simp only [Wv.BC,dO]) hr2 ?_;refine Wv.W ?_;refine aJ (i+1) (by omega) (by omega) rfl (by simp (disch:=first|exact Wv.D|fail) only [Wv.B,simprocAttr,e1,e2,Int.natCast_add,Int.natCast_one])
   ·obtain rfl:n=i:=by omega
    have T:=BO (dU m xs ys n).1.length (fun i=>(dU m xs ys n).1.getD i 0) (by omega);rw [WS] at T;have T':TC Tryz.prog 255 [fU (dU m xs ys n).1] (fU (lK (dU m xs ys n).1)):=T;clear T;simp (disch:=first|exact Wv.D|fail) only [Wv.B,simprocAttr,Int.lt_irrefl,decide_false];refine aA T' rfl (by simp only [Wv.BC,dO]) (dO _) ?_;simp (disch:=first|exact Wv.D|fail) only [Wv.B,simprocAttr,fU,jI]
theorem QL (m n:Nat) (xs ys:Nat→Nat) (h1:2≤m) (h2:m≤2147483647) (hn:n≤256) (hx: ∀ i,i<n→xs i<m) (hy: ∀ i,i<n→ys i<m):
  TC Tryz.prog 240 [.v (.int .u32 m),jI n xs,jI n ys] (.tup [fU (kM m n xs ys).1, .v (.int .i64 (kM m n xs ys).2)]):=by
 refine (LK m n xs ys h1 h2 hn hx hy).wk (⟨Wk.refl _,Wk.refl _,Wk.refl _,trivial⟩:WkL [AV.v (.int .u32 m),jI n xs,jI n ys] [AV.v (.int .u32 m),jI n xs,jI n ys]) ?_;unfold wU kM;split
 ·exact Wk.refl _
 ·exact Wk.tup (⟨Wk.nil 1,Wk.refl _,trivial⟩:WkL [.v (.slice none 0 0), .v (.int .i64 7)] [.t 0 1 [], .v (.int .i64 7)])
end
section
open Go.RowKit Wv
theorem fH {a:Act} {d:Nat} {v:Value} (j:Nat) (hd:d<a.tmps.size):(a.put (some d) v).eval (.tmp j)=if d=j then v else a.eval (.tmp j):=by
 show (a.tmps.setIfInBounds d v).getD j undef=_;rw [nS];by_cases e:d=j
 ·subst e;rw [if_pos ⟨rfl,hd⟩,if_pos rfl]
 ·rw [if_neg (fun h=>e h.1),if_neg e];rfl
theorem dw {a:Act} {d:Nat} {v:Value}:(a.put (some d) v).tmps.size=a.tmps.size:=by
 show (a.tmps.setIfInBounds d v).size=_;exact Array.size_setIfInBounds
def oW (t:Nat) (f:Nat→Int) (v:Nat):Nat:=((f v+t) % t).toNat
def C9 (t:Nat) (f:Nat→Int):Nat:=jS ((ig (fun i=>(kM t t id (oW t f)).1.getD i 0) (kM t t id (oW t f)).1.length - 1:Nat):Int)
theorem Gf {t:Nat} (ht:0<t) (f:Nat→Int) (v:Nat):((oW t f v:Nat):Int)=(f v+t) % t:=Int.toNat_of_nonneg (Int.emod_nonneg _ (by omega))
theorem Gg {t:Nat} (ht:0<t) (f:Nat→Int) (v:Nat):oW t f v<t:=by
 have h1:=Gf ht f v;have h2:(f v+t) % t<t:=Int.emod_lt_of_pos _ (by omega);omega
def xiF (k i:Nat):Nat:=if i<k then i else 0
def yiF (t:Nat) (f:Nat→Int) (k i:Nat):Nat:=if i<k then oW t f i else 0
theorem Js (i:Nat):xiF 0 i=0:=if_neg (Nat.not_lt_zero _)
theorem Jt (t:Nat) (f:Nat→Int) (i:Nat):yiF t f 0 i=0:=if_neg (Nat.not_lt_zero _)
theorem QM {t n:Nat} (h2:2≤t) (xs ys:Nat→Nat):(kM t n xs ys).1.length≤n:=by
 unfold kM;split
 ·exact Nat.le_trans (wV _) (F9 h2 xs ys n).2.2.1
 ·exact Nat.zero_le _
theorem Ju {t:Nat}:(tab t fun i=>AV.v (.int .u32 (xiF t i:Nat)))=tab t fun i=>AV.v (.int .u32 (id i:Nat)):=aC fun i hi=>by unfold xiF;rw [if_pos hi];rfl
theorem Jv {t:Nat} {f:Nat→Int}:(tab t fun i=>AV.v (.int .u32 (yiF t f t i:Nat)))=tab t fun i=>AV.v (.int .u32 (oW t f i:Nat)):=aC fun i hi=>by unfold yiF;rw [if_pos hi]
theorem Jw {t k:Nat}:(tab t fun i=>if i=k then AV.v (.int .u32 (k:Nat)) else AV.v (.int .u32 (xiF k i:Nat)))=tab t fun i=>AV.v (.int .u32 (xiF (k+1) i:Nat)):=aC fun i hi=>by
 unfold xiF;by_cases e:i=k
 ·subst e;rw [if_pos rfl,if_pos (by omega)]
 ·rw [if_neg e];by_cases h:i<k
  ·rw [if_pos h,if_pos (by omega)]
  ·rw [if_neg h,if_neg (by omega)]
theorem Jy {t k:Nat} {f:Nat→Int}:(tab t fun i=>if i=k then AV.v (.int .u32 (oW t f k:Nat)) else AV.v (.int .u32 (yiF t f k i:Nat)))=tab t fun i=>AV.v (.int .u32 (yiF t f (k+1) i:Nat)):=aC fun i hi=>by
 unfold yiF;by_cases e:i=k
 ·subst e;rw [if_pos rfl,if_pos (by omega)]
 ·rw [if_neg e];by_cases h:i<k
  ·rw [if_pos h,if_pos (by omega)]
  ·rw [if_neg h,if_neg (by omega)]
theorem LM {h:Hp} (k:Int) (s:ByteArray) (n:Int) (nl:Nat) (li:Nat→Int) (A:AV) (hA:Clo A) (hh:h[2]? =some (some (.blk [.v (.int .i64 k), .v (.string s), .v (.int .i64 n), .t nl 1 (tab nl fun i=> .v (.int .i64 (li i))),A]))) (v:Nat) (hv:v<nl) (hn:nl≤140737488351232):
  HT Tryz.prog 217 [.v (.int .i64 v), .ptr 2 0] h (fun q h'=>q= .v (.int .i64 (li v))∧h'=h):=by
 refine Wv.HT.by 9 [1,0,3] [(1000000,h.length)] [.tmp 3] Tryz.func217 rfl rfl rfl ?base ?_
 case base=>rfl
 simp (disch:=first|exact Wv.D|fail) only [Wv.B,simprocAttr,hh]
theorem QN {h:Hp} (k:Int) (s:ByteArray) (n:Int) (A B:AV) (hh:h[2]? =some (some (.blk [.v (.int .i64 k), .v (.string s), .v (.int .i64 n),A,B]))) (v:Nat):
  HT Tryz.prog 218 [.v (.int .i64 v), .ptr 2 0] h (fun q h'=>q= .v (.int .i64 (if (v:Int)<n then 1 else 0))∧h'=h):=by
 refine Wv.HT.by 8 [0,1,7,3] [(1000000,h.length)] [.tmp 3] Tryz.func218 rfl rfl rfl ?base ?_
 case base=>rfl
 by_cases hv:(v:Int)<n
 ·simp (disch:=first|exact Wv.D|fail) only [Wv.B,simprocAttr,hh,ah hv,if_pos hv]
 ·simp (disch:=first|exact Wv.D|fail) only [Wv.B,simprocAttr,hh,aj hv,if_neg hv]
theorem BP (x:Par) (t:Nat) (ns:Nms) (C:List AV) (fid:FuncId) (val:Nat→Int) (h2:2≤t) (h256:t≤256)
  (hval: ∀ h:Hp,h[2]? =some (some (.blk C))→ ∀ v,v<t→HT Tryz.prog fid [.v (.int .i64 v), .ptr 2 0] h (fun q h'=>q= .v (.int .i64 (val v))∧h'=h)) (hlo: ∀ v,v<t→0≤val v+t) (hhi: ∀ v,v<t→val v≤4294967295):
  HT Tryz.prog 216 [.ptr 0 0, .fn (.func fid) [] [.ptr 2 0]] (hT x t ns++[(some (Ob.blk C):Option Ob)]) (fun q h'=>q= .v (.int .i64 (C9 t val))∧h'.take 3=hT x t ns++[some (Ob.blk C)]):=by
 unfold hT tyC;simp only [List.cons_append,List.nil_append];refine Wv.HT.by 74 [0,5,23,22,24,7,6,1,8,10,64,71,4] [(5,20),(1000000,3),(1,1000000),(3000005,24)] [.tmp 4] Tryz.func216 rfl rfl rfl ?base ?_
 case base=>rfl
 refine Wv.W ?_;intro X a hbs hh hX hE;have hsz:a.tmps.size=74:=hE.size;have hp0:Rep X (.ptr 0 0) (a.tmps.getD 0 undef):=hE.rep 0;have hp1:Rep X (.fn (.func fid) [] [.ptr 2 0]) (a.tmps.getD 1 undef):=hE.rep 1;obtain ⟨b,hb,hv0⟩: ∃ b,(X.m 0).1=some b∧a.tmps.getD 0 undef= .pointer (some ⟨b,0,none⟩):=by
  generalize a.tmps.getD 0 undef=q at hp0;cases hp0 with
  | ptr hid hp=>exact hp _ (by rw [hh];rfl)
 obtain ⟨b',cvs,T,g1,g2,g3,g4,g5⟩:=hX.blk 0 _ (by rw [hh];rfl);rw [hb] at g1;injection g1 with g1;subst g1;have hcell:X.w.cell? ⟨b,7,none⟩=some (.int .i64 t):=by
  have e1:cellAt X.w b 7=cvs[7]? :=bP g2;have hlt:7<cvs.size:=by rw [g3];show 7<9;decide
  have e2:=g5 7 (.v (.int .i64 t)) cvs[7] rfl (Array.getElem?_eq_getElem hlt);rw [Array.getElem?_eq_getElem hlt] at e1;generalize cvs[7]=q at e1 e2;cases e2;exact e1
 obtain ⟨Y0,y1,y2,y3,y4⟩:=Ac hX;have hcell0:Y0.w.cell? ⟨b,7,none⟩=some (.int .i64 t):=by rw [y1];exact hcell
 have hmA:ug Tryz.prog 23 (t:Int) (t:Int)=some (22,1,tab t fun i=> .v (.int .u32 0)):=by
  exact Wv.V
 have hmk: ∀ (Y:Cx),Ok Y→ ∃ v Z,(Instr.makeSlice 23 (.int .i64 t) (.int .i64 t)).run Tryz.prog Y.w= .ok v Z.w∧Step Y Z∧Ok Z∧Rep Z (.own Y.h.length (t:Int).toNat) v∧Z.h=Y.h++[some (.arr 22 1 (tab t fun i=> .v (.int .u32 0)) 0)]:=fun Y hY=>Nl hY hmA
 have cellT: ∀ (Y:Cx),Ok Y→Step X Y→X.h<+:Y.h→Y.w.cell? ⟨b,7,none⟩=some (.int .i64 t):=fun Y hY S hpre=>by
  have h0:Y.h[0]? =X.h[0]? :=by
   obtain ⟨r,hr⟩:=hpre;rw [←hr,List.getElem?_append_left (by rw [hh];exact Nat.zero_lt_succ _)]
  have h1:X.h[0]? =some (some (.blk [.v (.int .i64 x.n), .v (.int .u32 x.p), .v (.int .i64 x.r), .t x.ch.length 1 (x.ch.map fun (c:Nat)=> .v (.int .u32 c)), .v (.int .u32 x.sp), .v (.int .i64 x.wt), .v (.int .u32 x.er), .v (.int .i64 t), .mp 1])):=by rw [hh];rfl
  obtain ⟨c',q1,q2⟩:=S.lq 0 _ (by rw [hh];exact Nat.zero_lt_succ _) (h0.trans h1);obtain ⟨b',cvs,T,g1,g2,g3,g4,g5⟩:=hY.blk 0 _ (h0.trans h1);rw [q2,hb] at g1;injection g1 with g1;subst g1;have e1:cellAt Y.w b 7=cvs[7]? :=bP g2;have hlt:7<cvs.size:=by rw [g3];show 7<9;decide
  have e2:=g5 7 (.v (.int .i64 t)) cvs[7] rfl (Array.getElem?_eq_getElem hlt);rw [Array.getElem?_eq_getElem hlt] at e1;generalize cvs[7]=q at e1 e2;cases e2;exact e1
 obtain ⟨EE,hEE⟩: ∃ EE:Nat→Nat→Ev,EE=fun i j=>[(0, .ptr 0 0),(1, .fn (.func fid) [] [.ptr 2 0]),(4, .v (.int .i64 0)),(5, .own i t),(6, .own j t)]:=⟨_,rfl⟩
 have hp4:Rep X (.v (.int .i64 0)) (a.tmps.getD 4 undef):=hE.rep 4;have htn:(t:Int).toNat=t:=Int.toNat_natCast t;refine wp_mono (wp_region_held (S:=fun w=>w.cell? ⟨b,7,none⟩=some (.int .i64 t)) (Q:=fun ex a' w'=>ex= .normal∧ ∃ (Y:Cx) (i j:Nat),Y.w=w'∧Step X Y∧Ok Y∧aO Y 74 (EE i j) a'∧Y.h=X.h++[some (.arr 22 1 (tab t fun i=> .v (.int .u32 0)) 0),some (.arr 22 1 (tab t fun i=> .v (.int .u32 0)) 0)]∧((i=3∧j=4)∨(i=4∧j=3))) (by kernel_rfl) ?_) ?_
 ·rw [←y1];have da:a.defers=a.defers:=rfl;have sa:a.tmps.size=74:=hsz;have abD:a.eval (.tmp 0)= .pointer (some ⟨b,0,none⟩):=hv0;have ak4:a.eval (.tmp 1)=a.eval (.tmp 1):=rfl;have ak5:a.eval (.tmp 4)=a.eval (.tmp 4):=rfl;refine wpAnyH_take (i:=0) (v:= .pointer (some ⟨b,0,none⟩)) rfl (by kernel_rfl) (by kernel_rfl) (by kernel_rfl) (fun _ _ _ h=>by cases h.1) (.inl ⟨rfl,fun w hw=>?y0⟩) hcell0 ?_
  case y0=>
   have hw':w.cell? ⟨b,7,none⟩=some (.int .i64 t):=hw;have e':=abD;simp only [Act.eval,Array.getD_eq_getD_getElem?] at e';simp [execOp,go_sem,e',hw']
  generalize hA0:a.put _ _=A0;have sA0:A0.tmps.size=74:=by rw [←hA0];exact dw.trans sa
  have gA0: ∀ j,A0.eval (.tmp j)=if 11=j then .pointer (some ⟨b,0,none⟩) else a.eval (.tmp j):=fun j=>by rw [←hA0];exact fH j (by rw [sa];decide)
  have dA0:A0.defers=a.defers:=by rw [←hA0];exact da
  have ajh:A0.eval (.tmp 0)= .pointer (some ⟨b,0,none⟩):=(gA0 _).trans ((if_neg (by decide)).trans abD);have afY:A0.eval (.tmp 11)= .pointer (some ⟨b,0,none⟩):=(gA0 _).trans (if_pos rfl);have aji:A0.eval (.tmp 1)=a.eval (.tmp 1):=(gA0 _).trans ((if_neg (by decide)).trans ak4);have ajj:A0.eval (.tmp 4)=a.eval (.tmp 4):=(gA0 _).trans ((if_neg (by decide)).trans ak5);clear hA0 gA0;refine wpAnyH_take (i:=1) (v:= .pointer (some ⟨b,0,none⟩)) rfl (by kernel_rfl) (by kernel_rfl) (by kernel_rfl) (fun _ _ _ h=>by cases h.1) (.inl ⟨rfl,fun w hw=>?y1⟩) hcell0 ?_
  case y1=>
   have hw':w.cell? ⟨b,7,none⟩=some (.int .i64 t):=hw;have e':=afY;simp only [Act.eval,Array.getD_eq_getD_getElem?] at e';simp [execOp,go_sem,e',hw']
  generalize hA1:A0.put _ _=A1;have sA1:A1.tmps.size=74:=by rw [←hA1];exact dw.trans sA0
  have gA1: ∀ j,A1.eval (.tmp j)=if 12=j then .pointer (some ⟨b,0,none⟩) else A0.eval (.tmp j):=fun j=>by rw [←hA1];exact fH j (by rw [sA0];decide)
  have dA1:A1.defers=a.defers:=by rw [←hA1];exact dA0
  have ajk:A1.eval (.tmp 0)= .pointer (some ⟨b,0,none⟩):=(gA1 _).trans ((if_neg (by decide)).trans ajh);have afZ:A1.eval (.tmp 12)= .pointer (some ⟨b,0,none⟩):=(gA1 _).trans (if_pos rfl);have ajl:A1.eval (.tmp 1)=a.eval (.tmp 1):=(gA1 _).trans ((if_neg (by decide)).trans aji);have ajm:A1.eval (.tmp 4)=a.eval (.tmp 4):=(gA1 _).trans ((if_neg (by decide)).trans ajj);clear hA1 gA1;refine wpAnyH_take (i:=2) (v:= .pointer (some ⟨b,7,none⟩)) rfl (by kernel_rfl) (by kernel_rfl) (by kernel_rfl) (fun _ _ _ h=>by cases h.1) (.inl ⟨rfl,fun w hw=>?y2⟩) hcell0 ?_
  case y2=>
   have hw':w.cell? ⟨b,7,none⟩=some (.int .i64 t):=hw;have e':=afZ;simp only [Act.eval,Array.getD_eq_getD_getElem?] at e';simp [execOp,go_sem,e',hw']
  generalize hA2:A1.put _ _=A2;have sA2:A2.tmps.size=74:=by rw [←hA2];exact dw.trans sA1
  have gA2: ∀ j,A2.eval (.tmp j)=if 13=j then .pointer (some ⟨b,7,none⟩) else A1.eval (.tmp j):=fun j=>by rw [←hA2];exact fH j (by rw [sA1];decide)
  have dA2:A2.defers=a.defers:=by rw [←hA2];exact dA1
  have ajn:A2.eval (.tmp 0)= .pointer (some ⟨b,0,none⟩):=(gA2 _).trans ((if_neg (by decide)).trans ajk);have af0:A2.eval (.tmp 13)= .pointer (some ⟨b,7,none⟩):=(gA2 _).trans (if_pos rfl);have ajo:A2.eval (.tmp 1)=a.eval (.tmp 1):=(gA2 _).trans ((if_neg (by decide)).trans ajl);have ajp:A2.eval (.tmp 4)=a.eval (.tmp 4):=(gA2 _).trans ((if_neg (by decide)).trans ajm);clear hA2 gA2;refine wpAnyH_take (i:=3) (v:= .int .i64 t) rfl (by kernel_rfl) (by kernel_rfl) (by kernel_rfl) (fun _ _ _ h=>by cases h.1) (.inl ⟨rfl,fun w hw=>?y3⟩) hcell0 ?_
  case y3=>
   have hw':w.cell? ⟨b,7,none⟩=some (.int .i64 t):=hw;have e':=af0;simp only [Act.eval,Array.getD_eq_getD_getElem?] at e';simp [execOp,go_sem,e',hw']
  generalize hA3:A2.put _ _=A3;have sA3:A3.tmps.size=74:=by rw [←hA3];exact dw.trans sA2
  have gA3: ∀ j,A3.eval (.tmp j)=if 14=j then .int .i64 t else A2.eval (.tmp j):=fun j=>by rw [←hA3];exact fH j (by rw [sA2];decide)
  have dA3:A3.defers=a.defers:=by rw [←hA3];exact dA2
  have acJ:A3.eval (.tmp 0)= .pointer (some ⟨b,0,none⟩):=(gA3 _).trans ((if_neg (by decide)).trans ajn);have af2:A3.eval (.tmp 14)= .int .i64 t:=(gA3 _).trans (if_pos rfl);have ajq:A3.eval (.tmp 1)=a.eval (.tmp 1):=(gA3 _).trans ((if_neg (by decide)).trans ajo);have ajr:A3.eval (.tmp 4)=a.eval (.tmp 4):=(gA3 _).trans ((if_neg (by decide)).trans ajp);clear hA3 gA3;refine wpAnyH_take (i:=5) (v:= .pointer (some ⟨b,0,none⟩)) rfl (by kernel_rfl) (by kernel_rfl) (by kernel_rfl) (fun _ _ _ h=>by cases h.1) (.inl ⟨rfl,fun w hw=>?y5⟩) hcell0 ?_
  case y5=>
   have hw':w.cell? ⟨b,7,none⟩=some (.int .i64 t):=hw;have e':=acJ;simp only [Act.eval,Array.getD_eq_getD_getElem?] at e';simp [execOp,go_sem,e',hw']
  generalize hA4:A3.put _ _=A4;have sA4:A4.tmps.size=74:=by rw [←hA4];exact dw.trans sA3
  have gA4: ∀ j,A4.eval (.tmp j)=if 16=j then .pointer (some ⟨b,0,none⟩) else A3.eval (.tmp j):=fun j=>by rw [←hA4];exact fH j (by rw [sA3];decide)
  have dA4:A4.defers=a.defers:=by rw [←hA4];exact dA3
  have ajs:A4.eval (.tmp 0)= .pointer (some ⟨b,0,none⟩):=(gA4 _).trans ((if_neg (by decide)).trans acJ);have af4:A4.eval (.tmp 14)= .int .i64 t:=(gA4 _).trans ((if_neg (by decide)).trans af2);have af5:A4.eval (.tmp 16)= .pointer (some ⟨b,0,none⟩):=(gA4 _).trans (if_pos rfl);have ajt:A4.eval (.tmp 1)=a.eval (.tmp 1):=(gA4 _).trans ((if_neg (by decide)).trans ajq);have aju:A4.eval (.tmp 4)=a.eval (.tmp 4):=(gA4 _).trans ((if_neg (by decide)).trans ajr);clear hA4 gA4;refine wpAnyH_take (i:=6) (v:= .pointer (some ⟨b,0,none⟩)) rfl (by kernel_rfl) (by kernel_rfl) (by kernel_rfl) (fun _ _ _ h=>by cases h.1) (.inl ⟨rfl,fun w hw=>?y6⟩) hcell0 ?_
  case y6=>
   have hw':w.cell? ⟨b,7,none⟩=some (.int .i64 t):=hw;have e':=af5;simp only [Act.eval,Array.getD_eq_getD_getElem?] at e';simp [execOp,go_sem,e',hw']
  generalize hA5:A4.put _ _=A5;have sA5:A5.tmps.size=74:=by rw [←hA5];exact dw.trans sA4
  have gA5: ∀ j,A5.eval (.tmp j)=if 17=j then .pointer (some ⟨b,0,none⟩) else A4.eval (.tmp j):=fun j=>by rw [←hA5];exact fH j (by rw [sA4];decide)
  have dA5:A5.defers=a.defers:=by rw [←hA5];exact dA4
  have ajv:A5.eval (.tmp 0)= .pointer (some ⟨b,0,none⟩):=(gA5 _).trans ((if_neg (by decide)).trans ajs);have af6:A5.eval (.tmp 14)= .int .i64 t:=(gA5 _).trans ((if_neg (by decide)).trans af4);have af7:A5.eval (.tmp 17)= .pointer (some ⟨b,0,none⟩):=(gA5 _).trans (if_pos rfl);have ajw:A5.eval (.tmp 1)=a.eval (.tmp 1):=(gA5 _).trans ((if_neg (by decide)).trans ajt);have ajx:A5.eval (.tmp 4)=a.eval (.tmp 4):=(gA5 _).trans ((if_neg (by decide)).trans aju);clear hA5 gA5;refine wpAnyH_take (i:=7) (v:= .pointer (some ⟨b,7,none⟩)) rfl (by kernel_rfl) (by kernel_rfl) (by kernel_rfl) (fun _ _ _ h=>by cases h.1) (.inl ⟨rfl,fun w hw=>?y7⟩) hcell0 ?_
  case y7=>
   have hw':w.cell? ⟨b,7,none⟩=some (.int .i64 t):=hw;have e':=af7;simp only [Act.eval,Array.getD_eq_getD_getElem?] at e';simp [execOp,go_sem,e',hw']
  generalize hA6:A5.put _ _=A6;have sA6:A6.tmps.size=74:=by rw [←hA6];exact dw.trans sA5
  have gA6: ∀ j,A6.eval (.tmp j)=if 18=j then .pointer (some ⟨b,7,none⟩) else A5.eval (.tmp j):=fun j=>by rw [←hA6];exact fH j (by rw [sA5];decide)
  have dA6:A6.defers=a.defers:=by rw [←hA6];exact dA5
  have ajy:A6.eval (.tmp 0)= .pointer (some ⟨b,0,none⟩):=(gA6 _).trans ((if_neg (by decide)).trans ajv);have af8:A6.eval (.tmp 14)= .int .i64 t:=(gA6 _).trans ((if_neg (by decide)).trans af6);have af9:A6.eval (.tmp 18)= .pointer (some ⟨b,7,none⟩):=(gA6 _).trans (if_pos rfl);have ajz:A6.eval (.tmp 1)=a.eval (.tmp 1):=(gA6 _).trans ((if_neg (by decide)).trans ajw);have ajA:A6.eval (.tmp 4)=a.eval (.tmp 4):=(gA6 _).trans ((if_neg (by decide)).trans ajx);clear hA6 gA6;refine wpAnyH_take (i:=8) (v:= .int .i64 t) rfl (by kernel_rfl) (by kernel_rfl) (by kernel_rfl) (fun _ _ _ h=>by cases h.1) (.inl ⟨rfl,fun w hw=>?y8⟩) hcell0 ?_
  case y8=>
   have hw':w.cell? ⟨b,7,none⟩=some (.int .i64 t):=hw;have e':=af9;simp only [Act.eval,Array.getD_eq_getD_getElem?] at e';simp [execOp,go_sem,e',hw']
  generalize hA7:A6.put _ _=A7;have sA7:A7.tmps.size=74:=by rw [←hA7];exact dw.trans sA6
  have gA7: ∀ j,A7.eval (.tmp j)=if 19=j then .int .i64 t else A6.eval (.tmp j):=fun j=>by rw [←hA7];exact fH j (by rw [sA6];decide)
  have dA7:A7.defers=a.defers:=by rw [←hA7];exact dA6
  have acK:A7.eval (.tmp 0)= .pointer (some ⟨b,0,none⟩):=(gA7 _).trans ((if_neg (by decide)).trans ajy);have LP:A7.eval (.tmp 14)= .int .i64 t:=(gA7 _).trans ((if_neg (by decide)).trans af8);have LQ:A7.eval (.tmp 19)= .int .i64 t:=(gA7 _).trans (if_pos rfl);have acL:A7.eval (.tmp 1)=a.eval (.tmp 1):=(gA7 _).trans ((if_neg (by decide)).trans ajz);have acM:A7.eval (.tmp 4)=a.eval (.tmp 4):=(gA7 _).trans ((if_neg (by decide)).trans ajA);clear hA7 gA7;refine wpAnyH_all (rs:=[4,9]) (by kernel_rfl) (by decide) ?_;intro i hi;have hi':i=4∨i=9:=by simpa using hi
  clear hi;obtain ⟨v1,Z1,r1,S1,ok1,Yn,hz1⟩:=hmk Y0 y4;have St1:=y3.trans hX S1;have c1:=cellT Z1 ok1 St1 ⟨_,by rw [hz1,y2]⟩;rcases hi' with rfl | rfl
  ·refine vI rfl rfl (v:=v1) (w':=Z1.w) ?_ ⟨c1,?_⟩
   ·have e':=LP;simp only [Act.eval,Array.getD_eq_getD_getElem?] at e';simp [execOp,Act.eval,e',r1]
   generalize hB1:A7.put _ _=B1;have sB1:B1.tmps.size=74:=by rw [←hB1];exact dw.trans sA7
   have gB1: ∀ j,B1.eval (.tmp j)=if 15=j then v1 else A7.eval (.tmp j):=fun j=>by rw [←hB1];exact fH j (by rw [sA7];decide)
   have dB1:B1.defers=a.defers:=by rw [←hB1];exact dA7
   have Xb:B1.eval (.tmp 0)= .pointer (some ⟨b,0,none⟩):=(gB1 _).trans ((if_neg (by decide)).trans acK);have Gh:B1.eval (.tmp 14)= .int .i64 t:=(gB1 _).trans ((if_neg (by decide)).trans LP);have LU:B1.eval (.tmp 19)= .int .i64 t:=(gB1 _).trans ((if_neg (by decide)).trans LQ);have Xc:B1.eval (.tmp 15)=v1:=(gB1 _).trans (if_pos rfl);have Xd:B1.eval (.tmp 1)=a.eval (.tmp 1):=(gB1 _).trans ((if_neg (by decide)).trans acL);have Xe:B1.eval (.tmp 4)=a.eval (.tmp 4):=(gB1 _).trans ((if_neg (by decide)).trans acM);clear hB1 gB1;refine wpAnyH_take (i:=10) (v:=v1) rfl (by kernel_rfl) (by kernel_rfl) (by kernel_rfl) (fun _ _ _ h=>by cases h.1) (.inl ⟨rfl,fun w hw=>?z1⟩) c1 ?_
   case z1=>
    have e':=Xc;simp only [Act.eval,Array.getD_eq_getD_getElem?] at e';simp [execOp,go_sem,Act.eval,e']
   generalize hB2:B1.put _ _=B2;have sB2:B2.tmps.size=74:=by rw [←hB2];exact dw.trans sB1
   have gB2: ∀ j,B2.eval (.tmp j)=if 5=j then v1 else B1.eval (.tmp j):=fun j=>by rw [←hB2];exact fH j (by rw [sB1];decide)
   have dB2:B2.defers=a.defers:=by rw [←hB2];exact dB1
   have ajB:B2.eval (.tmp 0)= .pointer (some ⟨b,0,none⟩):=(gB2 _).trans ((if_neg (by decide)).trans Xb);have aga:B2.eval (.tmp 14)= .int .i64 t:=(gB2 _).trans ((if_neg (by decide)).trans Gh);have Xf:B2.eval (.tmp 19)= .int .i64 t:=(gB2 _).trans ((if_neg (by decide)).trans LU);have agb:B2.eval (.tmp 15)=v1:=(gB2 _).trans ((if_neg (by decide)).trans Xc);have ajC:B2.eval (.tmp 5)=v1:=(gB2 _).trans (if_pos rfl);have ajD:B2.eval (.tmp 1)=a.eval (.tmp 1):=(gB2 _).trans ((if_neg (by decide)).trans Xd);have ajE:B2.eval (.tmp 4)=a.eval (.tmp 4):=(gB2 _).trans ((if_neg (by decide)).trans Xe);clear hB2 gB2;refine wpAnyH_all (rs:=[9]) (by kernel_rfl) (by decide) ?_;intro i hi;rw [List.mem_singleton] at hi;subst hi;obtain ⟨v2,Z2,r2,S2,ok2,RF,hz2⟩:=hmk Z1 ok1;have St2:=St1.trans hX S2;have c2:=cellT Z2 ok2 St2 ⟨_,by rw [hz2,hz1,y2,List.append_assoc]⟩;refine vI rfl rfl (v:=v2) (w':=Z2.w) ?_ ⟨c2,?_⟩
   ·have e':=Xf;simp only [Act.eval,Array.getD_eq_getD_getElem?] at e';simp [execOp,Act.eval,e',r2]
   generalize hB3:B2.put _ _=B3;have sB3:B3.tmps.size=74:=by rw [←hB3];exact dw.trans sB2
   have gB3: ∀ j,B3.eval (.tmp j)=if 20=j then v2 else B2.eval (.tmp j):=fun j=>by rw [←hB3];exact fH j (by rw [sB2];decide)
   have dB3:B3.defers=a.defers:=by rw [←hB3];exact dB2
   have Xg:B3.eval (.tmp 0)= .pointer (some ⟨b,0,none⟩):=(gB3 _).trans ((if_neg (by decide)).trans ajB);have LV:B3.eval (.tmp 14)= .int .i64 t:=(gB3 _).trans ((if_neg (by decide)).trans aga);have LW:B3.eval (.tmp 19)= .int .i64 t:=(gB3 _).trans ((if_neg (by decide)).trans Xf);have Gi:B3.eval (.tmp 15)=v1:=(gB3 _).trans ((if_neg (by decide)).trans agb);have ajF:B3.eval (.tmp 5)=v1:=(gB3 _).trans ((if_neg (by decide)).trans ajC);have Gj:B3.eval (.tmp 20)=v2:=(gB3 _).trans (if_pos rfl);have Xh:B3.eval (.tmp 1)=a.eval (.tmp 1):=(gB3 _).trans ((if_neg (by decide)).trans ajD);have Xi:B3.eval (.tmp 4)=a.eval (.tmp 4):=(gB3 _).trans ((if_neg (by decide)).trans ajE);clear hB3 gB3;refine wpAnyH_take (i:=11) (v:=v2) rfl (by kernel_rfl) (by kernel_rfl) (by kernel_rfl) (fun _ _ _ h=>by cases h.1) (.inl ⟨rfl,fun w hw=>?z2⟩) c2 ?_
   case z2=>
    have e':=Gj;simp only [Act.eval,Array.getD_eq_getD_getElem?] at e';simp [execOp,go_sem,Act.eval,e']
   generalize hB5:B3.put _ _=B5;have sB5:B5.tmps.size=74:=by rw [←hB5];exact dw.trans sB3
   have gB5: ∀ j,B5.eval (.tmp j)=if 6=j then v2 else B3.eval (.tmp j):=fun j=>by rw [←hB5];exact fH j (by rw [sB3];decide)
   have dB5:B5.defers=a.defers:=by rw [←hB5];exact dB3
   have Xj:B5.eval (.tmp 0)= .pointer (some ⟨b,0,none⟩):=(gB5 _).trans ((if_neg (by decide)).trans Xg);have agc:B5.eval (.tmp 14)= .int .i64 t:=(gB5 _).trans ((if_neg (by decide)).trans LV);have agd:B5.eval (.tmp 19)= .int .i64 t:=(gB5 _).trans ((if_neg (by decide)).trans LW);have agf:B5.eval (.tmp 15)=v1:=(gB5 _).trans ((if_neg (by decide)).trans Gi);have Xk:B5.eval (.tmp 5)=v1:=(gB5 _).trans ((if_neg (by decide)).trans ajF);have agh:B5.eval (.tmp 20)=v2:=(gB5 _).trans ((if_neg (by decide)).trans Gj);have Xl:B5.eval (.tmp 6)=v2:=(gB5 _).trans (if_pos rfl);have Xm:B5.eval (.tmp 1)=a.eval (.tmp 1):=(gB5 _).trans ((if_neg (by decide)).trans Xh);have Xn:B5.eval (.tmp 4)=a.eval (.tmp 4):=(gB5 _).trans ((if_neg (by decide)).trans Xi);clear hB5 gB5;refine wpAnyH_done (by kernel_rfl) ⟨rfl,Z2,3,4,rfl,St2,ok2,⟨dB5.trans (hE.defers.trans St2.dse.symm),sB5,?_⟩,?_,?_⟩ _
   ·intro d;rw [hEE];rcases yX [(0, .ptr 0 0),(1, .fn (.func fid) [] [.ptr 2 0]),(4, .v (.int .i64 0)),(5, .own 3 t),(6, .own 4 t)] d with q | ⟨y,q1,q2,q3⟩
    ·rw [q];exact .none _
    ·rw [q3];show Rep Z2 y.2 (B5.eval (.tmp d));simp only [List.mem_cons,List.not_mem_nil,or_false] at q1;rcases q1 with rfl | rfl | rfl | rfl | rfl<;>(simp only at q2;subst q2)
     ·rw [Xj, ←abD];exact hp0.mono St2
     ·rw [Xm];exact hp1.mono St2
     ·rw [Xn];exact hp4.mono St2
     ·rw [Xk];have h3:=(Yn.mono S2);simpa [hz1,y2,hh,htn] using h3
     ·rw [Xl];have h3:=RF;simpa [hz1,y2,hh,htn] using h3
   ·rw [hz2,hz1,y2,List.append_assoc];rfl
   ·exact .inl ⟨rfl,rfl⟩
  ·refine vI rfl rfl (v:=v1) (w':=Z1.w) ?_ ⟨c1,?_⟩
   ·have e':=LQ;simp only [Act.eval,Array.getD_eq_getD_getElem?] at e';simp [execOp,Act.eval,e',r1]
   generalize hB1:A7.put _ _=B1;have sB1:B1.tmps.size=74:=by rw [←hB1];exact dw.trans sA7
   have gB1: ∀ j,B1.eval (.tmp j)=if 20=j then v1 else A7.eval (.tmp j):=fun j=>by rw [←hB1];exact fH j (by rw [sA7];decide)
   have dB1:B1.defers=a.defers:=by rw [←hB1];exact dA7
   have Xb:B1.eval (.tmp 0)= .pointer (some ⟨b,0,none⟩):=(gB1 _).trans ((if_neg (by decide)).trans acK);have Gh:B1.eval (.tmp 14)= .int .i64 t:=(gB1 _).trans ((if_neg (by decide)).trans LP);have LU:B1.eval (.tmp 19)= .int .i64 t:=(gB1 _).trans ((if_neg (by decide)).trans LQ);have agi:B1.eval (.tmp 20)=v1:=(gB1 _).trans (if_pos rfl);have Xd:B1.eval (.tmp 1)=a.eval (.tmp 1):=(gB1 _).trans ((if_neg (by decide)).trans acL);have Xe:B1.eval (.tmp 4)=a.eval (.tmp 4):=(gB1 _).trans ((if_neg (by decide)).trans acM);clear hB1 gB1;refine wpAnyH_all (rs:=[4]) (by kernel_rfl) (by decide) ?_;intro i hi;rw [List.mem_singleton] at hi;subst hi;obtain ⟨v2,Z2,r2,S2,ok2,RF,hz2⟩:=hmk Z1 ok1;have St2:=St1.trans hX S2;have c2:=cellT Z2 ok2 St2 ⟨_,by rw [hz2,hz1,y2,List.append_assoc]⟩;refine vI rfl rfl (v:=v2) (w':=Z2.w) ?_ ⟨c2,?_⟩
   ·have e':=Gh;simp only [Act.eval,Array.getD_eq_getD_getElem?] at e';simp [execOp,Act.eval,e',r2]
   generalize hB3:B1.put _ _=B3;have sB3:B3.tmps.size=74:=by rw [←hB3];exact dw.trans sB1
   have gB3: ∀ j,B3.eval (.tmp j)=if 15=j then v2 else B1.eval (.tmp j):=fun j=>by rw [←hB3];exact fH j (by rw [sB1];decide)
   have dB3:B3.defers=a.defers:=by rw [←hB3];exact dB1
   have Xg:B3.eval (.tmp 0)= .pointer (some ⟨b,0,none⟩):=(gB3 _).trans ((if_neg (by decide)).trans Xb);have LV:B3.eval (.tmp 14)= .int .i64 t:=(gB3 _).trans ((if_neg (by decide)).trans Gh);have LW:B3.eval (.tmp 19)= .int .i64 t:=(gB3 _).trans ((if_neg (by decide)).trans LU);have Gj:B3.eval (.tmp 20)=v1:=(gB3 _).trans ((if_neg (by decide)).trans agi);have Gi:B3.eval (.tmp 15)=v2:=(gB3 _).trans (if_pos rfl);have Xh:B3.eval (.tmp 1)=a.eval (.tmp 1):=(gB3 _).trans ((if_neg (by decide)).trans Xd);have Xi:B3.eval (.tmp 4)=a.eval (.tmp 4):=(gB3 _).trans ((if_neg (by decide)).trans Xe);clear hB3 gB3;refine wpAnyH_take (i:=10) (v:=v2) rfl (by kernel_rfl) (by kernel_rfl) (by kernel_rfl) (fun _ _ _ h=>by cases h.1) (.inl ⟨rfl,fun w hw=>?z1⟩) c2 ?_
   case z1=>
    have e':=Gi;simp only [Act.eval,Array.getD_eq_getD_getElem?] at e';simp [execOp,go_sem,Act.eval,e']
   generalize hB4:B3.put _ _=B4;have sB4:B4.tmps.size=74:=by rw [←hB4];exact dw.trans sB3
   have gB4: ∀ j,B4.eval (.tmp j)=if 5=j then v2 else B3.eval (.tmp j):=fun j=>by rw [←hB4];exact fH j (by rw [sB3];decide)
   have dB4:B4.defers=a.defers:=by rw [←hB4];exact dB3
   have ajG:B4.eval (.tmp 0)= .pointer (some ⟨b,0,none⟩):=(gB4 _).trans ((if_neg (by decide)).trans Xg);have agj:B4.eval (.tmp 14)= .int .i64 t:=(gB4 _).trans ((if_neg (by decide)).trans LV);have agk:B4.eval (.tmp 19)= .int .i64 t:=(gB4 _).trans ((if_neg (by decide)).trans LW);have Xo:B4.eval (.tmp 20)=v1:=(gB4 _).trans ((if_neg (by decide)).trans Gj);have agl:B4.eval (.tmp 15)=v2:=(gB4 _).trans ((if_neg (by decide)).trans Gi);have ajH:B4.eval (.tmp 5)=v2:=(gB4 _).trans (if_pos rfl);have ajI:B4.eval (.tmp 1)=a.eval (.tmp 1):=(gB4 _).trans ((if_neg (by decide)).trans Xh);have ajJ:B4.eval (.tmp 4)=a.eval (.tmp 4):=(gB4 _).trans ((if_neg (by decide)).trans Xi);clear hB4 gB4;refine wpAnyH_take (i:=11) (v:=v1) rfl (by kernel_rfl) (by kernel_rfl) (by kernel_rfl) (fun _ _ _ h=>by cases h.1) (.inl ⟨rfl,fun w hw=>?z2⟩) c2 ?_
   case z2=>
    have e':=Xo;simp only [Act.eval,Array.getD_eq_getD_getElem?] at e';simp [execOp,go_sem,Act.eval,e']
   generalize hB5:B4.put _ _=B5;have sB5:B5.tmps.size=74:=by rw [←hB5];exact dw.trans sB4
   have gB5: ∀ j,B5.eval (.tmp j)=if 6=j then v1 else B4.eval (.tmp j):=fun j=>by rw [←hB5];exact fH j (by rw [sB4];decide)
   have dB5:B5.defers=a.defers:=by rw [←hB5];exact dB4
   have Xj:B5.eval (.tmp 0)= .pointer (some ⟨b,0,none⟩):=(gB5 _).trans ((if_neg (by decide)).trans ajG);have agc:B5.eval (.tmp 14)= .int .i64 t:=(gB5 _).trans ((if_neg (by decide)).trans agj);have agd:B5.eval (.tmp 19)= .int .i64 t:=(gB5 _).trans ((if_neg (by decide)).trans agk);have agh:B5.eval (.tmp 20)=v1:=(gB5 _).trans ((if_neg (by decide)).trans Xo);have agf:B5.eval (.tmp 15)=v2:=(gB5 _).trans ((if_neg (by decide)).trans agl);have Xk:B5.eval (.tmp 5)=v2:=(gB5 _).trans ((if_neg (by decide)).trans ajH);have Xl:B5.eval (.tmp 6)=v1:=(gB5 _).trans (if_pos rfl);have Xm:B5.eval (.tmp 1)=a.eval (.tmp 1):=(gB5 _).trans ((if_neg (by decide)).trans ajI);have Xn:B5.eval (.tmp 4)=a.eval (.tmp 4):=(gB5 _).trans ((if_neg (by decide)).trans ajJ);clear hB5 gB5;refine wpAnyH_done (by kernel_rfl) ⟨rfl,Z2,4,3,rfl,St2,ok2,⟨dB5.trans (hE.defers.trans St2.dse.symm),sB5,?_⟩,?_,?_⟩ _
   ·intro d;rw [hEE];rcases yX [(0, .ptr 0 0),(1, .fn (.func fid) [] [.ptr 2 0]),(4, .v (.int .i64 0)),(5, .own 4 t),(6, .own 3 t)] d with q | ⟨y,q1,q2,q3⟩
    ·rw [q];exact .none _
    ·rw [q3];show Rep Z2 y.2 (B5.eval (.tmp d));simp only [List.mem_cons,List.not_mem_nil,or_false] at q1;rcases q1 with rfl | rfl | rfl | rfl | rfl<;>(simp only at q2;subst q2)
     ·rw [Xj, ←abD];exact hp0.mono St2
     ·rw [Xm];exact hp1.mono St2
     ·rw [Xn];exact hp4.mono St2
     ·rw [Xk];have h3:=RF;simpa [hz1,y2,hh,htn] using h3
     ·rw [Xl];have h3:=(Yn.mono S2);simpa [hz1,y2,hh,htn] using h3
   ·rw [hz2,hz1,y2,List.append_assoc];rfl
   ·exact .inr ⟨rfl,rfl⟩
 ·rintro ex a' w' ⟨rfl,Y,i,j,rfl,S,hY,hEY,hYh,hij⟩;refine ⟨Y,_,rfl,S.toN hbs,hY,hEY,?_⟩;rw [hYh,hh,hEE];clear hp0 hp1 hp4 cellT hmk hcell0 hcell g5 g3 g2 g4 hv0 hb y1 y2 y3 y4 hX hE hsz hh hbs S hY hEY hYh hEE;have TI:=QL t t id (oW t val) h2 (by omega) h256 (fun i hi=>hi) (fun i hi=>Gg (by omega) val i);have hD:C9 t val=jS ((ig (fun i=>(kM t t id (oW t val)).1.getD i 0) (kM t t id (oW t val)).1.length - 1:Nat):Int):=rfl;have hll:(kM t t id (oW t val)).1.length≤256:=Nat.le_trans (QM h2 id (oW t val)) h256;generalize C9 t val=dg at*;generalize (kM t t id (oW t val)).1=l at*;generalize (kM t t id (oW t val)).2=er at*;rcases hij with ⟨rfl,rfl⟩ | ⟨rfl,rfl⟩
  ·simp (disch:=first|exact Wv.D|fail) only [Wv.B,simprocAttr];refine dI (σ:=Nat) (fun k=>[(0, .ptr 0 0),(1, .fn (.func fid) [] [.ptr 2 0]),(5, .own 3 t),(6, .own 4 t),(22, .v (.int .i64 t)),(23, .v (.int .i64 k))])
    (fun k=>[some (.blk [.v (.int .i64 x.n), .v (.int .u32 x.p), .v (.int .i64 x.r), .t x.ch.length 1 (x.ch.map fun (c:Nat)=> .v (.int .u32 c)), .v (.int .u32 x.sp), .v (.int .i64 x.wt), .v (.int .u32 x.er), .v (.int .i64 t), .mp 1]),some (.map (nsE ns)),some (.blk C),some (.arr 22 1 (tab t fun i=> .v (.int .u32 (xiF k i:Nat))) 0),some (.arr 22 1 (tab t fun i=> .v (.int .u32 (yiF t val k i:Nat))) 0)])
    (fun k=>k≤t) (fun k=>t - k) 0 (Nat.zero_le _) (by simp (disch:=first|exact Wv.D|fail) only [Wv.B,simprocAttr,Js,Jt,Int.natCast_zero]) Wv.V ?_
   intro k hk;by_cases hlt:k<t
   ·have e1:(k:Int)<(t:Int):=by omega
    have hv0:=hlo k hlt;have hv1:=hhi k hlt;have ht0: ¬ (t:Int)=0:=by omega
    have e2:(val k+t).tmod t=((oW t val k:Nat):Int):=by rw [Int.tmod_eq_emod_of_nonneg hv0];exact (Gf (by omega) val k).symm
    have e3:=Gg (t:=t) (by omega) val k;simp (disch:=first|exact Wv.D|fail) only [Wv.B,simprocAttr,ah e1];refine bU (fst:=[]) (cap:=[.ptr 2 0]) ((hval _ rfl k hlt).toP (fun _ _=>False)) ?_ (fun _ _ q=>q.elim);simp (disch:=first|exact Wv.D|fail) only [Wv.B,simprocAttr,aj ht0,e2,dF,Jw,Jy];refine aJ (k+1) (by omega) (by omega) Wv.V Wv.V2
   ·obtain rfl:t=k:=by omega
    simp (disch:=first|exact Wv.D|fail) only [Wv.B,simprocAttr,Int.lt_irrefl,decide_false,Ju,Jv];refine yO TI (by simp only [Wv.BC,dO,BN]) (by simp only [Wv.BC,dO]) ?_;refine Wv.W ?_;refine uH rfl ?_;simp (disch:=first|exact Wv.D|fail) only [Wv.B,simprocAttr,fU,jI];refine dI (σ:=Nat) (fun m=>[(8, .t l.length 1 (tab l.length fun i=> .v (.int .u32 (l.getD i 0:Nat)))),(10, .v (.int .i64 ((m:Int) - 1)))]) (fun m=>[some (.blk [.v (.int .i64 x.n), .v (.int .u32 x.p), .v (.int .i64 x.r), .t x.ch.length 1 (x.ch.map fun (c:Nat)=> .v (.int .u32 c)), .v (.int .u32 x.sp), .v (.int .i64 x.wt), .v (.int .u32 x.er), .v (.int .i64 t), .mp 1]),some (.map (nsE ns)),some (.blk C),some (.arr 22 1 (tab t fun i=> .v (.int .u32 (id i:Nat))) t),some (.arr 22 1 (tab t fun i=> .v (.int .u32 (oW t val i:Nat))) t)])
     (fun m=>m≤l.length∧ig (fun i=>l.getD i 0) m=ig (fun i=>l.getD i 0) l.length) (fun m=>m) l.length ⟨Nat.le_refl _,rfl⟩ Wv.V Wv.V ?_
    rintro m ⟨hm,hm2⟩;by_cases h1m:1<m
    ·have q1:(0:Int)<(m:Int) - 1:=by omega
     obtain ⟨j,rfl⟩: ∃ j,m=j+1:=⟨m - 1,by omega⟩
     have q2:((j+1:Nat):Int) - 1=(j:Int):=by omega
     rw [oK] at hm2;by_cases hz:l.getD j 0=0
     ·rw [if_pos hz] at hm2;simp (disch:=first|exact Wv.D|fail) only [Wv.B,simprocAttr,q2,ah q1,hz];refine aJ j ⟨by omega,hm2⟩ (by omega) rfl Wv.V
     ·rw [if_neg hz] at hm2;have hz': ¬ ((l.getD j 0:Nat):Int)=0:=by omega
      rw [←hm2,Nat.add_sub_cancel] at hD;simp (disch:=first|exact Wv.D|fail) only [Wv.B,simprocAttr,q2,ah q1,aj hz'];refine aA (qM j (by omega)) rfl Wv.c Wv.c ?_;simp (disch:=first|exact Wv.D|fail) only [Wv.B,simprocAttr,hD]
    ·have q1: ¬ (0:Int)<(m:Int) - 1:=by omega
     have hle:=vJ (fun i=>l.getD i 0) m;have h0:ig (fun i=>l.getD i 0) l.length - 1=0:=by omega
     rw [h0] at hD;have hD':dg=0:=hD;simp (disch:=first|exact Wv.D|fail) only [Wv.B,simprocAttr,aj q1,hD']
  ·simp (disch:=first|exact Wv.D|fail) only [Wv.B,simprocAttr];refine dI (σ:=Nat) (fun k=>[(0, .ptr 0 0),(1, .fn (.func fid) [] [.ptr 2 0]),(5, .own 4 t),(6, .own 3 t),(22, .v (.int .i64 t)),(23, .v (.int .i64 k))])
    (fun k=>[some (.blk [.v (.int .i64 x.n), .v (.int .u32 x.p), .v (.int .i64 x.r), .t x.ch.length 1 (x.ch.map fun (c:Nat)=> .v (.int .u32 c)), .v (.int .u32 x.sp), .v (.int .i64 x.wt), .v (.int .u32 x.er), .v (.int .i64 t), .mp 1]),some (.map (nsE ns)),some (.blk C),some (.arr 22 1 (tab t fun i=> .v (.int .u32 (yiF t val k i:Nat))) 0),some (.arr 22 1 (tab t fun i=> .v (.int .u32 (xiF k i:Nat))) 0)])
    (fun k=>k≤t) (fun k=>t - k) 0 (Nat.zero_le _) (by simp (disch:=first|exact Wv.D|fail) only [Wv.B,simprocAttr,Js,Jt,Int.natCast_zero]) Wv.V ?_
   intro k hk;by_cases hlt:k<t
   ·have e1:(k:Int)<(t:Int):=by omega
    have hv0:=hlo k hlt;have hv1:=hhi k hlt;have ht0: ¬ (t:Int)=0:=by omega
    have e2:(val k+t).tmod t=((oW t val k:Nat):Int):=by rw [Int.tmod_eq_emod_of_nonneg hv0];exact (Gf (by omega) val k).symm
    have e3:=Gg (t:=t) (by omega) val k;simp (disch:=first|exact Wv.D|fail) only [Wv.B,simprocAttr,ah e1];refine bU (fst:=[]) (cap:=[.ptr 2 0]) ((hval _ rfl k hlt).toP (fun _ _=>False)) ?_ (fun _ _ q=>q.elim);simp (disch:=first|exact Wv.D|fail) only [Wv.B,simprocAttr,aj ht0,e2,dF,Jw,Jy];refine aJ (k+1) (by omega) (by omega) Wv.V Wv.V2
   ·obtain rfl:t=k:=by omega
    simp (disch:=first|exact Wv.D|fail) only [Wv.B,simprocAttr,Int.lt_irrefl,decide_false,Ju,Jv];refine yO TI (by simp only [Wv.BC,dO,BN]) (by simp only [Wv.BC,dO]) ?_;refine Wv.W ?_;refine uH rfl ?_;simp (disch:=first|exact Wv.D|fail) only [Wv.B,simprocAttr,fU,jI];refine dI (σ:=Nat) (fun m=>[(8, .t l.length 1 (tab l.length fun i=> .v (.int .u32 (l.getD i 0:Nat)))),(10, .v (.int .i64 ((m:Int) - 1)))]) (fun m=>[some (.blk [.v (.int .i64 x.n), .v (.int .u32 x.p), .v (.int .i64 x.r), .t x.ch.length 1 (x.ch.map fun (c:Nat)=> .v (.int .u32 c)), .v (.int .u32 x.sp), .v (.int .i64 x.wt), .v (.int .u32 x.er), .v (.int .i64 t), .mp 1]),some (.map (nsE ns)),some (.blk C),some (.arr 22 1 (tab t fun i=> .v (.int .u32 (oW t val i:Nat))) t),some (.arr 22 1 (tab t fun i=> .v (.int .u32 (id i:Nat))) t)])
     (fun m=>m≤l.length∧ig (fun i=>l.getD i 0) m=ig (fun i=>l.getD i 0) l.length) (fun m=>m) l.length ⟨Nat.le_refl _,rfl⟩ Wv.V Wv.V ?_
    rintro m ⟨hm,hm2⟩;by_cases h1m:1<m
    ·have q1:(0:Int)<(m:Int) - 1:=by omega
     obtain ⟨j,rfl⟩: ∃ j,m=j+1:=⟨m - 1,by omega⟩
     have q2:((j+1:Nat):Int) - 1=(j:Int):=by omega
     rw [oK] at hm2;by_cases hz:l.getD j 0=0
     ·rw [if_pos hz] at hm2;simp (disch:=first|exact Wv.D|fail) only [Wv.B,simprocAttr,q2,ah q1,hz];refine aJ j ⟨by omega,hm2⟩ (by omega) rfl Wv.V
     ·rw [if_neg hz] at hm2;have hz': ¬ ((l.getD j 0:Nat):Int)=0:=by omega
      rw [←hm2,Nat.add_sub_cancel] at hD;simp (disch:=first|exact Wv.D|fail) only [Wv.B,simprocAttr,q2,ah q1,aj hz'];refine aA (qM j (by omega)) rfl Wv.c Wv.c ?_;simp (disch:=first|exact Wv.D|fail) only [Wv.B,simprocAttr,hD]
    ·have q1: ¬ (0:Int)<(m:Int) - 1:=by omega
     have hle:=vJ (fun i=>l.getD i 0) m;have h0:ig (fun i=>l.getD i 0) l.length - 1=0:=by omega
     rw [h0] at hD;have hD':dg=0:=hD;simp (disch:=first|exact Wv.D|fail) only [Wv.B,simprocAttr,aj q1,hD']
end
section
open Go.RowKit Wv
theorem Ej: ∀ (f x:Nat),Lib.bitLenAux f x≤f
 | 0,x=>Nat.le_refl _
 | f+1,x=>by
  unfold Lib.bitLenAux;split
  ·exact Nat.zero_le _
  ·have:=Ej f (x / 2);omega
theorem BQ (n:Int):jS n≤64:=by
 unfold jS;split
 ·exact Nat.zero_le _
 ·exact Ej 64 _
theorem abE {k:Int} {s:ByteArray} {n:Int} {nl:Nat} {li:Nat→Int} {na:Nat} {ar:Nat→Ex} (h:dn (.mk k s n nl li na ar)=true):inB n=true:=by
 unfold dn at h;simp only [Bool.and_eq_true] at h;exact h.2.2.2.2.2.2.1
end
section
open Go.RowKit Wv
def Jz (x:Par) (t:Nat):Bool:=decide (x.r=1) && decide ((t:Int)≤256)
def Dc (x:Par) (t:Nat) (nl:Nat) (li:Nat→Int):Except Int Nat:=if Jz x t=true then (if qm t nl li t t=true then .ok (C9 t li) else .error 233) else .error 231
def abG (t:Nat) (n:Int):Bool:=decide (0≤n) && decide (n≤(t:Int))
def QO (n:Int) (v:Nat):Int:=if (v:Int)<n then 1 else 0
def JA (x:Par) (t:Nat) (n:Int):Except Int Nat:=if Jz x t=true then (if abG t n=true then .ok (C9 t (QO n)) else .error 233) else .error 231
theorem Oe {t nl:Nat} {li:Nat→Int} (h:qm t nl li t t=true):nl=t∧ ∀ i,i<t→vw t (li i)=true:=by
 unfold qm at h;simp only [Bool.and_eq_true,decide_eq_true_eq,Bool.not_eq_true'] at h;obtain ⟨h1,h2,h3⟩:=h;have e:nl=t:=by omega
 subst e;refine ⟨rfl,fun i hi=>?_⟩;unfold bf at h3;have:=List.any_eq_false.1 h3 i (List.mem_range.2 hi);simpa using this
theorem Xp {t:Nat} {n:Int} (h:vw t n=true):0≤n+t∧n≤t:=by
 unfold vw at h;have h':=of_decide_eq_true h;split at h'<;>constructor<;>omega
theorem take2 {h:Hp} {a b c:Option Ob} (q:List.take 3 h=[a,b,c]):List.take 2 h=[a,b]:=by
 have:List.take 2 h=List.take 2 (List.take 3 h):=by rw [List.take_take];rfl
 rw [this,q];rfl
theorem JB (x : Par) (t : Nat) (ns : Nms) (k : Int) (s : ByteArray) (n : Int) (nl : Nat) (li : Nat → Int) (na : Nat) (ar : Nat → Ex) (unk : Nat) (hn : nl ≤ 140737488351232) (hin : ∀ i, i < nl → inB (li i) = true) (ht : 2 ≤ t) (ht' : t ≤ 4611686018427387904) :
    iJ x t ns 170 (.mk k s n nl li na ar) unk (Dc x t nl li) := by
  refine iJ.of ?_;have hR : Dc x t nl li = if Jz x t = true then (if qm t nl li t t = true then .ok (C9 t li) else .error 233) else .error 231 := rfl
  have hF : Jz x t = (decide (x.r = 1) && decide ((t : Int) ≤ 256)) := rfl;have hY := yh x t ns nl li t t hn hin (by omega) (by omega);have hZ := BI x t ns nl li t t hn hin (by omega) (by omega);have hB := Oe (t := t) (nl := nl) (li := li);rw [dJ];have hM := eX (n := na) (f := fun i => exC (ar i)) fun i _ => gZ (ar i)
  generalize gI na (fun i => exC (ar i)) = M at *;have Xq := fun (h2 : t ≤ 256) (hb : qm t nl li t t = true) => BP x t ns [.v (.int .i64 k), .v (.string s), .v (.int .i64 n), .t nl 1 (tab nl fun i => .v (.int .i64 (li i))), .t na 5 M] 217 li ht h2
    (fun h hh v hv => LM k s n nl li (.t na 5 M) (.t hM) hh v (by rw [(hB hb).1]; exact hv) hn) (fun v hv => (Xp ((hB hb).2 v hv)).1) (fun v hv => by have := (Xp ((hB hb).2 v hv)).2; omega)
  clear hB;generalize hbb : qm t nl li t t = b at *;clear hbb;generalize C9 t li = dg at *;generalize Jz x t = fb at *;generalize Dc x t nl li = R at *;unfold hT tyC at *;simp only [List.cons_append, List.nil_append] at Xq;obtain ⟨c, hc⟩ : ∃ c : Nat, c = if b = true then 0 else 1 := ⟨_, rfl⟩
  refine Wv.HTP.by 36 [1, 0, 4, 6] [(2, 12), (1000000, 2), (4000002, c)] [.tmp 6] Tryz.func170 rfl rfl rfl ?base ?_
  case base => rfl
  cases h1 : decide (x.r = 1) <;> cases h2 : decide ((t : Int) ≤ 256);all_goals
    rw [h1, h2] at hF;simp (disch:=first|exact Wv.D|fail) only [Wv.B, simprocAttr, h1, h2];first
    | (have hfb : fb = false := hF
       subst hfb;refine aI (fst := []) (cap := []) (bg _ 231) (by rintro av h' ⟨hb, _⟩; cases hb) ?_;rintro av h' ⟨_, rfl, rfl⟩;simp (disch:=first|exact Wv.D|fail) only [Wv.B, simprocAttr, bI];exact ⟨231, hR, rfl⟩)
    | skip
  have hfb : fb = true := hF;subst hfb;have Xr : t ≤ 256 := by have := of_decide_eq_true h2; omega
  refine aI (fst := []) (cap := []) (bg _ 231) ?_ (by rintro av h' ⟨hb, _⟩; cases hb);rintro av h' ⟨_, rfl, rfl⟩;cases b with
  | false =>
    have hc1 : c = 1 := hc;refine Wv.W ?_;refine bU (fst := []) (cap := []) (hZ rfl (.t 1 1 []) _) ?_ ?_
    · simp (disch:=first|exact Wv.D|fail) only [Wv.B, simprocAttr, hc1]
      exact ⟨11, _, _, rfl, rfl, rfl, rfl, rfl⟩
    · rintro av h' ⟨rfl, rfl⟩
      simp (disch:=first|exact Wv.D|fail) only [Wv.B, simprocAttr, bI];exact ⟨233, hR, rfl⟩
  | true =>
    have hc1 : c = 0 := hc;refine Wv.W ?_;refine bU (fst := []) (cap := []) (hY rfl _) ?_ (fun _ _ q => q.elim);simp (disch:=first|exact Wv.D|fail) only [Wv.B, simprocAttr, hc1];refine bZ (fst := []) (cap := []) (Xq Xr rfl) ?_;rintro av h' ⟨rfl, hh'⟩;refine Wv.W ?_;exact ⟨⟨dg, hR, rfl⟩, take2 hh'⟩
theorem LX (x : Par) (t : Nat) (ns : Nms) (k : Int) (s : ByteArray) (n : Int) (nl : Nat) (li : Nat → Int) (na : Nat) (ar : Nat → Ex) (unk : Nat) (ht : 2 ≤ t) :
    iJ x t ns 171 (.mk k s n nl li na ar) unk (JA x t n) := by
  refine iJ.of ?_;have hR : JA x t n = if Jz x t = true then (if abG t n = true then .ok (C9 t (QO n)) else .error 233) else .error 231 := rfl
  have hF : Jz x t = (decide (x.r = 1) && decide ((t : Int) ≤ 256)) := rfl;have hB : abG t n = (decide (0 ≤ n) && decide (n ≤ (t : Int))) := rfl;rw [dJ];have hM := eX (n := na) (f := fun i => exC (ar i)) fun i _ => gZ (ar i)
  generalize gI na (fun i => exC (ar i)) = M at *;have Xq := fun (h2 : t ≤ 256) => BP x t ns [.v (.int .i64 k), .v (.string s), .v (.int .i64 n), .t nl 1 (tab nl fun i => .v (.int .i64 (li i))), .t na 5 M] 218 (QO n) ht h2
    (fun h hh v hv => QN k s n (.t nl 1 (tab nl fun i => .v (.int .i64 (li i)))) (.t na 5 M) hh v) (fun v hv => by unfold QO; split <;> omega) (fun v hv => by unfold QO; split <;> omega)
  generalize C9 t (QO n) = dg at *;generalize Jz x t = fb at *;generalize abG t n = b at *;generalize JA x t n = R at *;unfold hT tyC at *;simp only [List.cons_append, List.nil_append] at Xq;obtain ⟨c, hc⟩ : ∃ c : Nat, c = if b = true then 0 else 1 := ⟨_, rfl⟩
  refine Wv.HTP.by 37 [1, 0, 4, 6] [(2, 13), (1000000, 2), (4000002, c)] [.tmp 6] Tryz.func171 rfl rfl rfl ?base ?_
  case base => rfl
  cases h1 : decide (x.r = 1) <;> cases h2 : decide ((t : Int) ≤ 256);all_goals
    rw [h1, h2] at hF;simp (disch:=first|exact Wv.D|fail) only [Wv.B, simprocAttr, h1, h2];first
    | (have hfb : fb = false := hF
       subst hfb;refine aI (fst := []) (cap := []) (bg _ 231) (by rintro av h' ⟨hb, _⟩; cases hb) ?_;rintro av h' ⟨_, rfl, rfl⟩;simp (disch:=first|exact Wv.D|fail) only [Wv.B, simprocAttr, bI];exact ⟨231, hR, rfl⟩)
    | skip
  have hfb : fb = true := hF;subst hfb;have Xr : t ≤ 256 := by have := of_decide_eq_true h2; omega
  refine aI (fst := []) (cap := []) (bg _ 231) ?_ (by rintro av h' ⟨hb, _⟩; cases hb);rintro av h' ⟨_, rfl, rfl⟩;cases h3 : decide (0 ≤ n) <;> cases h4 : decide (n ≤ (t : Int));all_goals
    rw [h3, h4] at hB;simp (disch:=first|exact Wv.D|fail) only [Wv.B, simprocAttr, h3, h4];first
    | (have hbt : b = true := hB
       subst hbt;have hc1 : c = 0 := hc;refine bU (fst := []) (cap := []) (tJ 233) ?_ (fun _ _ q => q.elim);simp (disch:=first|exact Wv.D|fail) only [Wv.B, simprocAttr, hc1];refine bZ (fst := []) (cap := []) (Xq Xr) ?_;rintro av h' ⟨rfl, hh'⟩;refine Wv.W ?_;exact ⟨⟨dg, hR, rfl⟩, take2 hh'⟩)
    | (have hbt : b = false := hB
       subst hbt;have hc1 : c = 1 := hc;refine bU (fst := []) (cap := []) (qQ 233 (.t 1 1 [])) ?_ ?_
       · simp (disch:=first|exact Wv.D|fail) only [Wv.B, simprocAttr, hc1]
         exact ⟨12, _, _, rfl, rfl, rfl, rfl, rfl⟩
       · rintro av h' ⟨rfl, rfl⟩
         simp (disch:=first|exact Wv.D|fail) only [Wv.B, simprocAttr, bI];exact ⟨233, hR, rfl⟩)
def ruA (x:Par) (t:Nat):Ex→Nat→Except Int Nat
 | .nil,_=> .ok 0
 | .mk k s n nl li na ar,unk=>
  if k=2 then (if vw t n=true then .ok 0 else .error 233)
  else if k=3 then (if qm t nl li 0 x.n=true then .ok 0 else .error 233)
  else if k=7 then .ok (if unk<2 then 0 else 1)
  else if k=8 then (if Jk x n=true then .ok 0 else .error 233)
  else if k=10 then (if yj x nl li=true then .ok 0 else .error 233)
  else if k=14 then (if Qr n=true then .ok (jS n) else .error 233)
  else if k=11 then Dc x t nl li
  else if k=13 then JA x t n
  else if k=12 then (if x.r=1 then .ok (jS ((t:Int) - 1)) else .error 231)
  else .ok 0
def ksA (e:Ex):Prop:=True
theorem Xt: ∀ (e:Ex),okE e→abo ksA e:=by
 intro e;induction e with
 | nil=>intro h;exact h.elim
 | mk k s n nl li na ar ih=>exact fun h=>⟨trivial,fun i hi=>ih i (h.2.2.2 i hi)⟩
theorem QS {k:Int} {s:ByteArray} {n:Int} {nl:Nat} {li:Nat→Int} {na:Nat} {ar:Nat→Ex} (h:dn (.mk k s n nl li na ar)=true): ∀ i,i<nl→inB (li i)=true:=by
 unfold dn at h;simp only [Bool.and_eq_true,Bool.not_eq_true'] at h;have h8:=h.2.2.2.2.2.2.2.1;intro i hi;unfold bf at h8;have:=List.any_eq_false.1 h8 i (List.mem_range.2 hi);simpa using this
theorem Og (t:Nat) (f:Nat→Int):C9 t f≤64:=BQ _
theorem Xu (x:Par) (t:Nat) (ns:Nms) (ht:2≤t) (ht':t≤4611686018427387904) (hN:0≤x.n) (hN':x.n≤4611686018427387904):FP x t ns (ruA x t) ksA:=by
 intro e unk _ ho hf hu;obtain ⟨k,s,n,nl,li,na,ar,rfl⟩:=kU ho;have hin:=abE hf;have hli:=QS hf;have hnl:nl≤140737488351232:=ho.2.1;obtain ⟨⟨hk1,hk2⟩,_⟩:=jh hf;have hk:k=1∨k=2∨k=3∨k=4∨k=5∨k=6∨k=7∨k=8∨k=9∨k=10∨k=11∨k=12∨k=13∨k=14∨k=15:=by omega
 have z: ∀ {b:Bool} {v:Nat} {er:Int} (m:Nat),v≤64→(if b=true then Except.ok v else .error er)=(Except.ok m:Except Int Nat)→m≤4294967296:=fun {b v er} m hv h=>by
  split at h
  ·injection h with h;omega
  ·cases h
 rcases hk with rfl | rfl | rfl | rfl | rfl | rfl | rfl | rfl | rfl | rfl | rfl | rfl | rfl | rfl | rfl
 ·exact ⟨fun m h=>by injection h with h;subst h;exact Nat.zero_le _,rfl⟩
 ·exact ⟨fun m h=>z m (Nat.zero_le _) h,FD x t ns 2 s n nl li na ar unk hin (by omega) (by omega)⟩
 ·exact ⟨fun m h=>z m (Nat.zero_le _) h,FZ x t ns 3 s n nl li na ar unk hnl hli (by omega) (by omega)⟩
 ·exact ⟨fun m h=>by injection h with h;subst h;exact Nat.zero_le _,rfl⟩
 ·exact ⟨fun m h=>by injection h with h;subst h;exact Nat.zero_le _,rfl⟩
 ·exact ⟨fun m h=>by injection h with h;subst h;exact Nat.zero_le _,rfl⟩
 ·refine ⟨fun m h=>?_,CY x t ns _ ho unk⟩;have h':(Except.ok (if unk<2 then 0 else 1):Except Int Nat)= .ok m:=h;injection h' with h';subst h';split<;>omega
 ·exact ⟨fun m h=>z m (Nat.zero_le _) h,QF x t ns 8 s n nl li na ar unk hN hN'⟩
 ·exact ⟨fun m h=>by injection h with h;subst h;exact Nat.zero_le _,rfl⟩
 ·exact ⟨fun m h=>z m (Nat.zero_le _) h,Lu x t ns 10 s n nl li na ar unk hnl⟩
 ·refine ⟨fun m h=>?_,JB x t ns 11 s n nl li na ar unk hnl hli ht (by omega)⟩;have h':Dc x t nl li= .ok m:=h;unfold Dc at h';split at h'
  ·exact z m (Og _ _) h'
  ·cases h'
 ·refine ⟨fun m h=>?_,Jl x t ns 12 s n nl li na ar unk (by omega) (by omega)⟩;have h':(if x.r=1 then Except.ok (jS ((t:Int) - 1)) else .error 231)=(.ok m:Except Int Nat):=h;split at h'
  ·injection h' with h';subst h';exact Nat.le_trans (BQ _) (by omega)
  ·cases h'
 ·refine ⟨fun m h=>?_,LX x t ns 13 s n nl li na ar unk ht⟩;have h':JA x t n= .ok m:=h;unfold JA at h';split at h'
  ·exact z m (Og _ _) h'
  ·cases h'
 ·exact ⟨fun m h=>z m (BQ _) h,Jb x t ns 14 s n nl li na ar unk⟩
 ·exact ⟨fun m h=>by injection h with h;subst h;exact Nat.zero_le _,rfl⟩
end
end Go.Proofs.YtljfgdlgmdcmfaaGreat
