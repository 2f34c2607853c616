/- Parts of a proof. -/
import Derived.Test.YtljfgdlgmdcmfaaGreatQvf
import Derived.Test.YtljfgdlgmdcmfaaGreatQvm
import Derived.Test.YtljfgdlgmdcmfaaGreatQvo
import Derived.Test.YtljfgdlgmdcmfaaGreatQvn
import Derived.Test.YtljfgdlgmdcmfaaGreatQvl
import Derived.Test.YtljfgdlgmdcmfaaGreatQvk
import Derived.Test.YtljfgdlgmdcmfaaGreatQvi
import Derived.Test.YtljfgdlgmdcmfaaGreatQvg
import Derived.Test.YtljfgdlgmdcmfaaGreatQvh
set_option linter.unusedVariables false
set_option linter.unusedSimpArgs false
set_option maxHeartbeats 1600000
set_option maxRecDepth 100000
namespace Go.Proofs.YtljfgdlgmdcmfaaGreat
section
structure RDa where
 r:Nat
 b1:Nat
 s1:Bool
 b2:Nat
 s2:Bool
 b3:Nat
 s3:Bool
def num (b:Nat) (s:Bool) (o:Nat):Nat:=cond s (b ^ o+1) (b ^ o - 1)
def gG (D:RDa) (o:Nat):Nat:=Nat.gcd (Nat.gcd (num D.b1 D.s1 o) (num D.b2 D.s2 o)) (num D.b3 D.s3 o)
def aaO (D:RDa) (o q:Nat):Bool:=cond (Nat.beq (D.b1 ^ o % q) (sg D.s1 q)) (cond (Nat.beq (D.b2 ^ o % q) (sg D.s2 q)) (Nat.beq (D.b3 ^ o % q) (sg D.s3 q)) false) false
def bad (n:Nat):Bool:=cond (SPk 2 n) (cond (SPk 7 n) (cond (SPk 61 n) false true) true) true
def og (n:Nat):Bool:=cond (Nat.ble 2147483648 n) true (bad n)
def allT (n:Nat) (f:Nat→Bool):Bool:=Nat.rec true (fun k ih=>cond (f k) ih false) n
theorem kV (f:Nat→Bool): ∀ n,allT n f=true→ ∀ k,k<n→f k=true:=by
 intro n;induction n with
 | zero=>intro _ k hk;omega
 | succ n ih=>
  intro h k hk;have e:allT (n+1) f=cond (f n) (allT n f) false:=rfl;rw [e] at h;cases hf:f n with
  | false=>rw [hf] at h;cases h
  | true=>
   rw [hf] at h;by_cases hkn:k=n
   ·rw [hkn];exact hf
   ·exact ih h k (by omega)
def allM (m:Nat) (f:Nat→Bool):Bool:=allT m fun hi=>allT 1000 fun lo=>f (hi*1000+lo)
theorem GX (f:Nat→Bool) (m:Nat) (h:allM m f=true) (k:Nat) (hk:k<m*1000):f k=true:=by
 have h1:=kV _ m h (k / 1000) (by omega);have h2:=kV _ 1000 h1 (k % 1000) (by omega);have:k / 1000*1000+k % 1000=k:=by omega
 rw [this] at h2;exact h2
def qw (f:Nat) (fuel:Nat):Nat→Nat:=Nat.rec (fun g=>g) (fun _ ih g=>cond (Nat.beq (g % f) 0) (force (g / f) ih) g) fuel
theorem Pm {f q:Nat} (hq:Pr q) (hf:0<f) (hfq:f<q): ∀ fuel g,q∣g→q∣qw f fuel g:=by
 intro fuel;induction fuel with
 | zero=>intro g h;exact h
 | succ n ih=>
  intro g h;have e:qw f (n+1) g=cond (Nat.beq (g % f) 0) (qw f n (g / f)) g:=by
   show cond _ (force _ _) _=_;rw [force_eq];rfl
  rw [e];cases hb:Nat.beq (g % f) 0 with
  | false=>exact h
  | true=>
   have h0:g % f=0:=Nat.eq_of_beq_eq_true hb;apply ih;have hg:g=f*(g / f):=by have:=Nat.div_add_mod g f;omega
   rw [hg] at h;exact hq.uV h (fun hc=>by have:=Nat.le_of_dvd hf hc;omega)
theorem Pn {f:Nat}: ∀ fuel g,0<g→0<qw f fuel g:=by
 intro fuel;induction fuel with
 | zero=>intro g h;exact h
 | succ n ih=>
  intro g h;have e:qw f (n+1) g=cond (Nat.beq (g % f) 0) (qw f n (g / f)) g:=by
   show cond _ (force _ _) _=_;rw [force_eq];rfl
  rw [e];cases hb:Nat.beq (g % f) 0 with
  | false=>exact h
  | true=>
   have h0:g % f=0:=Nat.eq_of_beq_eq_true hb;apply ih;have hg:g=f*(g / f):=by have:=Nat.div_add_mod g f;omega
   rcases Nat.eq_zero_or_pos (g / f) with hz | hz
   ·rw [hz] at hg;omega
   ·exact hz
def strip:List Nat→Nat→Nat
 | [],g=>g
 | f::l,g=>force (qw f 8 g) (strip l)
theorem Vp {q:Nat} (hq:Pr q): ∀ (l:List Nat) (g:Nat),(∀ f,f∈l→0<f∧f<q)→q∣g→q∣strip l g:=by
 intro l;induction l with
 | nil=>intro g _ h;exact h
 | cons f l ih=>
  intro g hl h;have e:strip (f::l) g=strip l (qw f 8 g):=by show force _ _=_;rw [force_eq]
  rw [e];have:=hl f (by simp);exact ih _ (fun f hf=>hl f (by simp [hf])) (Pm hq this.1 this.2 8 g h)
theorem Vq: ∀ (l:List Nat) (g:Nat),0<g→0<strip l g:=by
 intro l;induction l with
 | nil=>intro g h;exact h
 | cons f l ih=>
  intro g h;have e:strip (f::l) g=strip l (qw f 8 g):=by show force _ _=_;rw [force_eq]
  rw [e];exact ih _ (Pn 8 g h)
def ajo (D:RDa) (l:List Nat) (k:Nat):Bool:=
 cond (Nat.ble k 1) true (force (jc (k - 1)) fun o=>force (gG D o) fun G=>cond (Nat.ble G 32768) true
  (force (strip l G) fun R=>allT (R / 32768) fun m=>cond (Nat.beq (R % (m+1)) 0) (force (R / (m+1)*k) og) true))
def allA (D:RDa) (l:List Nat):Bool:=allM 66 fun k=>cond (Nat.beq (k % D.r) 0) (cond (Nat.beq (k % 2) 1) (ajo D l k) true) true
def gI (x q:Nat):Bool:=cond (Nat.beq (2 ^ x % q) 1) (cond (Nat.beq (7 ^ x % q) 1) (Nat.beq (61 ^ x % q) 1) false) false
def aaP (q:Nat) (c:Nat):Nat:=Nat.rec 1 (fun c ih=>cond (Nat.beq ((q - 1) % (c+1)) 0) (cond (gI ((q - 1) / (c+1)) q) (c+1) ih) ih) c
def minimal (L q:Nat):Bool:=
 cond (gI L q) (allT 181 fun d=>cond (Nat.beq (L % (d+1)) 0)
  (cond (cond (Nat.beq d 0) true (cond (gI (L / (d+1)) q) false true)) (cond (Nat.beq (d+1) L) true (cond (gI (d+1) q) false true)) false) true) false
def ajp (D:RDa) (q:Nat):Bool:=
 cond (aaO D (jc (q - 1)) q) (force ((q - 1) / aaP q 30) fun L=>cond (cond (Nat.ble L 32768) (minimal L q) false) (allT (2147483647 / q / L+1) fun j=>
  force (1+L*j) fun k=>cond (Nat.beq (k % D.r) 0) (force (q*k) og) true) false) true
def allB (D:RDa):Bool:=allM 33 fun q=>cond (Nat.ble q 300) true (cond (Nat.ble 32769 q) true (cond (Nat.beq (q % 2) 1) (ajp D q) true))
def subs:List Nat→List Nat
 | []=>[1]
 | q::l=>subs l++(subs l).map (q* ·)
def Po (D:RDa) (small:List Nat):Bool:=
 (allT 301 fun q=>cond (Nat.beq (q % 2) 1) (cond (Nat.ble q 2) true (cond (aaO D (jc (q - 1)) q) (small.any (Nat.beq q)) true)) true) &&
 (small.all fun q=>Nat.beq (2 ^ (q*(q - 1)) % (q*q)) 1 && !(Nat.beq (2 ^ (q - 1) % (q*q)) 1)) &&
 ((subs small).all fun n=>cond (Nat.beq (n % D.r) 0) (cond (Nat.beq n D.r) true (og n)) true)
def rd3:RDa:=⟨3,2,true,7,false,61,false⟩
def aaQ:List Nat:=[3,19,83,131,283,563,619,691,859,971,1123,1259,1459,1483,1571,1627,1699,1811,1907,1979,2099,2131,2243,2467,2659,2803,2819,3163,3307,3491,3499,3547,3659,3779,3923,4051,4091,4283,4651,4987,5003,5011,5059,5099,5171,5227,5323,5563,5659,5843,5851,5939,6299,6691,6907,7019,7027,7243,7307,7451,7507,7523,7691,7699,8011,8147,8179,8291,8419,8539,8707,8867,8963,9043,9467,9491,9883,9931,10099,10139,10267,10331,10531,10723,10867,10883,10939,10979,11443,11483,11731,12227,12323,12347,12379,12491,12547,12907,13163,13411,13523,13691,13859,13907,14411,14563,14747,14843,14923,15083,15259,15307,15643,15739,15907,16091,16187,16267,16547,16763,16883,16931,17099,17107,17419,17443,17491,17827,17939,18059,18427,18539,18731,18787,19211,19267,19379,19403,19507,19603,19739,19963,20011,20347,20627,21059,21187,21227,21467,22067,22091,22123,22147,22307,22531,22571,22643,22651,22739,22811,22963,23099,23131,23603,24043,24083,24107,24251,24419,24547,24659,25147,25171,25667,25819,26099,26227,26339,26347,26459,26731,27011,27179,27611,27691,27739,27803,27947,28019,28307,28411,28643,28867,28979,29027,29363,29483,29851,30211,30259,30427,30491,30539,30763,30931,31219,31307,31379,31643,31723,31883,31891,32003,32059,32203,32371,32443]
def ajq:List Nat:=[3,19,83,131,283]
theorem a3:allA rd3 aaQ=true:=by decide+kernel
theorem b3:allB rd3=true:=by decide+kernel
theorem c3:Po rd3 ajq=true:=by decide+kernel
def rd5:RDa:=⟨5,4,true,49,true,61,false⟩
def aaR:List Nat:=[5,13,229,269,733,797,853,1181,1277,2309,2693,2749,3461,3533,3709,3877,4133,4373,4597,4861,5381,5669,5869,6173,6709,7573,7621,7789,8221,8501,8581,9029,9677,9901,10253,10853,11093,11549,11941,12277,12829,12941,13093,13789,13933,14437,14461,14717,15053,15277,15413,15629,15973,16229,16253,16421,16901,17093,17909,17981,18133,18413,18541,18749,18773,19141,19157,19661,20149,20261,20389,20509,21773,22109,22189,22853,22861,23917,23957,24197,24373,24709,24889,25189,25693,26501,26813,26981,27109,27653,27733,28069,28181,28229,28573,28661,28789,28793,29021,29077,29581,29917,30133,30253,30509,30637,30757,31013,31237,31541,32213]
def ajr:List Nat:=[5,13,229,269]
theorem a5:allA rd5 aaR=true:=by decide+kernel
theorem b5:allB rd5=true:=by decide+kernel
theorem c5:Po rd5 ajr=true:=by decide+kernel
def Pq:RDa:=⟨11,2,true,7,true,61,true⟩
def Rq:List Nat:=[11,43,67,211,331,499,547,739,883,907,947,1019,1187,1283,1499,1523,1579,1619,1787,2003,2011,2179,2251,2339,2347,2531,2843,2963,3019,3067,3203,3259,3347,3467,3571,3691,3739,3803,3851,4019,4211,4363,4547,4603,4643,4691,5107,5147,5419,5483,5867,5923,6211,6323,6379,6619,6659,6763,6841,6883,6899,7043,7219,7331,7459,7547,7723,7907,7963,8059,8243,8387,8563,8731,8747,9011,9059,9283,9587,9739,9811,9851,10067,10091,10259,10459,10651,10987,11131,11491,11579,11827,11867,11923,11939,12107,12163,12251,13003,13043,13147,13267,13451,13763,13931,14051,14683,14779,14851,14891,14939,14947,15107,15187,15227,15443,15451,15667,15731,15971,16067,16139,16843,16979,17011,17033,17123,17291,17467,17483,17539,17579,17627,17683,17707,17971,17987,18211,18307,18379,18523,18587,18859,18979,19259,19387,19427,19483,19531,19819,19979,20147,20323,20507,20563,20707,20771,20899,21211,21379,21611,21683,21739,22003,22051,22171,22283,23003,23027,23251,23291,23339,23459,23563,24179,24371,24851,24859,25243,25307,25411,25603,25643,25771,26251,26387,26891,27091,27259,27427,27539,27763,27827,27883,28123,28211,28219,28403,28571,28603,28627,28723,28771,29059,29243,29339,29611,29803,30307,30347,30643,31019,31147,31627,31859,32027,32251,32299,32323,32363,32531,32603]
def ae2:List Nat:=[11,43,67,211]
theorem a11:allA Pq Rq=true:=by decide+kernel
theorem b11:allB Pq=true:=by decide+kernel
theorem c11:Po Pq ae2=true:=by decide+kernel
def Pv:RDa:=⟨13,4,true,49,true,61,false⟩
def Rt:List Nat:=[5,13,229,269,733,797,853,1181,1277,2309,2693,2749,3461,3533,3709,3877,4133,4373,4597,4861,5381,5669,5869,6173,6709,7573,7621,7789,8221,8501,8581,9029,9677,9901,10253,10853,11093,11549,11941,12277,12829,12941,13093,13789,13933,14437,14461,14717,15053,15277,15413,15629,15973,16229,16253,16421,16901,17093,17909,17981,18133,18413,18541,18749,18773,19141,19157,19661,20149,20261,20389,20509,21773,22109,22189,22853,22861,23917,23957,24197,24373,24709,24889,25189,25693,26501,26813,26981,27109,27653,27733,28069,28181,28229,28573,28661,28789,28793,29021,29077,29581,29917,30133,30253,30509,30637,30757,31013,31237,31541,32213]
def ae3:List Nat:=[5,13,229,269]
theorem a13:allA Pv Rt=true:=by decide+kernel
theorem b13:allB Pv=true:=by decide+kernel
theorem c13:Po Pv ae3=true:=by decide+kernel
end
section
structure Pass (n:Nat):Prop where
 lo:3≤n
 hi:n<2147483648
 odd:n % 2=1
 n7: ¬ 7∣n
 n61: ¬ 61∣n
 p2:SP 2 n=true
 p7:SP 7 n=true
 p61:SP 61 n=true
variable {n:Nat}
theorem Pass.Jm (h:Pass n):og n=false:=by
 have e:Nat.ble 2147483648 n=false:=by
  cases hb:Nat.ble 2147483648 n with
  | false=>rfl
  | true=>have:=Nat.le_of_ble_eq_true hb;have:=h.hi;omega
 have hi:=h.hi;have lo:=h.lo;have e2:SPk 2 n=true:=by rw [←yg 2 n (by omega) (by omega)];exact h.p2
 have e7:SPk 7 n=true:=by rw [←yg 7 n (by omega) (by omega)];exact h.p7
 have e61:SPk 61 n=true:=by rw [←yg 61 n (by omega) (by omega)];exact h.p61
 unfold og bad;rw [e,e2,e7,e61];rfl
structure uG (D:RDa) (n:Nat):Prop where
 h1:D.b1 ^ jc (n - 1) % n=sg D.s1 n
 h2:D.b2 ^ jc (n - 1) % n=sg D.s2 n
 h3:D.b3 ^ jc (n - 1) % n=sg D.s3 n
variable {T a r:Nat}
theorem per {e:Nat} (hr:2≤r) (hT:a ^ T % r=1):a ^ e % r=a ^ (e % T) % r:=by
 conv=>lhs;rw [←Nat.div_add_mod e T,Nat.pow_add,Nat.mul_mod,ig hr hT,Nat.one_mul,Nat.mod_mod]
theorem Ru (hr:2≤r) (hT0:0<T) (hT:a ^ T % r=1) (hk: ∀ e,e<T→a ^ e % r≠r - 1) (hd:r∣n) (hn:0<n) (h:SP a n=true):a ^ jc (n - 1) % n=sg false n:=by
 rcases wI h with h | ⟨i,_,h⟩
 ·exact h
 ·have:=qX hr hd hn h;rw [per hr hT] at this;exact absurd this (hk _ (Nat.mod_lt _ hT0))
theorem Rw (hr:2≤r) (hT0:0<T) (hT2:T % 2=0) (hT:a ^ T % r=1) (hk1: ∀ e,e<T→e % 2=1→a ^ e % r≠1) (hk: ∀ e,e<T→e % 2=0→a ^ e % r≠r - 1)
  (hodd:jc (n - 1) % 2=1) (hd:r∣n) (hn:0<n) (h:SP a n=true):a ^ jc (n - 1) % n=sg true n:=by
 rcases wI h with h | ⟨i,_,h⟩
 ·have:=qW hr hd h;rw [per hr hT] at this;exact absurd this (hk1 _ (Nat.mod_lt _ hT0) (by rw [Nat.mod_mod_of_dvd _ (Nat.dvd_of_mod_eq_zero hT2)];exact hodd))
 ·cases i with
  | zero=>rw [Nat.pow_zero,Nat.mul_one] at h;exact h
  | succ i=>
   have:=qX hr hd hn h;rw [per hr hT] at this;refine absurd this (hk _ (Nat.mod_lt _ hT0) ?_);rw [Nat.mod_mod_of_dvd _ (Nat.dvd_of_mod_eq_zero hT2),Nat.pow_succ, ←Nat.mul_assoc];omega
theorem kind2 (hr:2≤r) (hT0:0<T) (hT4:T % 4=0) (hT:a ^ T % r=1) (hk1: ∀ e,e<T→e % 2=1→a ^ e % r≠1∧a ^ e % r≠r - 1) (hk: ∀ e,e<T→e % 4=0→a ^ e % r≠r - 1)
  (hodd:jc (n - 1) % 2=1) (hd:r∣n) (hn:0<n) (h:SP a n=true):(a*a) ^ jc (n - 1) % n=sg true n:=by
 have hT2:T % 2=0:=by omega
 have ho:=hk1 _ (Nat.mod_lt (jc (n - 1)) hT0) (by rw [Nat.mod_mod_of_dvd _ (Nat.dvd_of_mod_eq_zero hT2)];exact hodd);rcases wI h with h | ⟨i,_,h⟩
 ·have:=qW hr hd h;rw [per hr hT] at this;exact absurd this ho.1
 ·rcases i with _ | _ | i
  ·have:=qX hr hd hn h;rw [Nat.pow_zero,Nat.mul_one,per hr hT] at this;exact absurd this ho.2
  ·rw [Nat.mul_comm,Nat.pow_mul] at h;rw [←Nat.pow_two];exact h
  ·have:=qX hr hd hn h;rw [per hr hT] at this;refine absurd this (hk _ (Nat.mod_lt _ hT0) ?_);rw [Nat.mod_mod_of_dvd _ (Nat.dvd_of_mod_eq_zero hT4),Nat.pow_succ,Nat.pow_succ,Nat.mul_assoc, ←Nat.mul_assoc (jc (n - 1))];omega
theorem Pass.rV (h:Pass n):jc (n - 1) % 2=1∧jc (n - 1)*2 ^ wH (n - 1)=n - 1:=Dn (by have:=h.lo;omega) (by have:=h.hi;omega)
theorem ajs (h : Pass n) (hd : 3 ∣ n) : uG rd3 n :=
  ⟨Rw (T := 2) (by decide) (by decide) (by decide) (by decide) (by decide) (by decide) h.rV.1 hd (by have := h.lo; omega) h.p2,
   Ru (T := 2) (by decide) (by decide) (by decide) (by decide) hd (by have := h.lo; omega) h.p7,
   Ru (T := 2) (by decide) (by decide) (by decide) (by decide) hd (by have := h.lo; omega) h.p61⟩
theorem ajt (h : Pass n) (hd : 5 ∣ n) : uG rd5 n :=
  ⟨kind2 (a := 2) (T := 4) (by decide) (by decide) (by decide) (by decide) (by decide) (by decide) h.rV.1 hd (by have := h.lo; omega) h.p2,
   kind2 (a := 7) (T := 4) (by decide) (by decide) (by decide) (by decide) (by decide) (by decide) h.rV.1 hd (by have := h.lo; omega) h.p7,
   Ru (T := 4) (by decide) (by decide) (by decide) (by decide) hd (by have := h.lo; omega) h.p61⟩
theorem ae4 (h : Pass n) (hd : 11 ∣ n) : uG Pq n :=
  ⟨Rw (T := 10) (by decide) (by decide) (by decide) (by decide) (by decide) (by decide) h.rV.1 hd (by have := h.lo; omega) h.p2,
   Rw (T := 10) (by decide) (by decide) (by decide) (by decide) (by decide) (by decide) h.rV.1 hd (by have := h.lo; omega) h.p7,
   Rw (T := 10) (by decide) (by decide) (by decide) (by decide) (by decide) (by decide) h.rV.1 hd (by have := h.lo; omega) h.p61⟩
theorem ae5 (h : Pass n) (hd : 13 ∣ n) : uG Pv n :=
  ⟨kind2 (a := 2) (T := 12) (by decide) (by decide) (by decide) (by decide) (by decide) (by decide) h.rV.1 hd (by have := h.lo; omega) h.p2,
   kind2 (a := 7) (T := 12) (by decide) (by decide) (by decide) (by decide) (by decide) (by decide) h.rV.1 hd (by have := h.lo; omega) h.p7,
   Ru (T := 12) (by decide) (by decide) (by decide) (by decide) hd (by have := h.lo; omega) h.p61⟩
def uH (D:RDa):Prop:= ∀ b,b=D.b1∨b=D.b2∨b=D.b3→2≤b∧ ∀ q,Pr q→q≠2→q≠7→q≠61→ ¬ q∣b
theorem pr2:Pr 2:=⟨by decide,by intro m hm;have:=Nat.le_of_dvd (by decide) hm;rcases (show m=0∨m=1∨m=2 by omega) with rfl | rfl | rfl<;>simp_all⟩
theorem pO {p:Nat} (h2:2≤p) (h: ∀ m,m≤p→m∣p→m=1∨m=p):Pr p:=⟨h2,fun m hm=>h m (Nat.le_of_dvd (by omega) hm) hm⟩
theorem pr7:Pr 7:=pO (by decide) (by decide)
theorem ano:Pr 61:=pO (by decide) (by decide)
variable {q:Nat}
theorem Nl {p:Nat} (hp:Pr p) (hq:Pr q) (h:q∣p):q=p:=by
 rcases hp.2 q h with h | h
 ·have:=hq.1;omega
 ·exact h
theorem jK (hq:Pr q) (h2:q≠2) (h7:q≠7) (h61:q≠61): ¬ q∣2∧ ¬ q∣7∧ ¬ q∣61:=
 ⟨fun h=>h2 (Nl pr2 hq h),fun h=>h7 (Nl pr7 hq h),fun h=>h61 (Nl ano hq h)⟩
variable {b:Nat}
theorem zV (hq:Pr q) (ha: ¬ q∣a) (hb: ¬ q∣b): ¬ q∣a*b:=fun h=>hb (hq.uV h ha)
theorem xO {D:RDa} (h: ∀ b,b=D.b1∨b=D.b2∨b=D.b3→b=2∨b=7∨b=61∨b=2*2∨b=7*7):uH D:=by
 intro b hb;rcases h b hb with rfl | rfl | rfl | rfl | rfl
 ·exact ⟨by decide,fun q hq h2 h7 h61=>(jK hq h2 h7 h61).1⟩
 ·exact ⟨by decide,fun q hq h2 h7 h61=>(jK hq h2 h7 h61).2.1⟩
 ·exact ⟨by decide,fun q hq h2 h7 h61=>(jK hq h2 h7 h61).2.2⟩
 ·exact ⟨by decide,fun q hq h2 h7 h61=>zV hq (jK hq h2 h7 h61).1 (jK hq h2 h7 h61).1⟩
 ·exact ⟨by decide,fun q hq h2 h7 h61=>zV hq (jK hq h2 h7 h61).2.1 (jK hq h2 h7 h61).2.1⟩
theorem aju:uH rd3:=xO (by intro b hb;simp [rd3] at hb;omega)
theorem ajv:uH rd5:=xO (by intro b hb;simp [rd5] at hb;omega)
theorem ae6:uH Pq:=xO (by intro b hb;simp [Pq] at hb;omega)
theorem ae7:uH Pv:=xO (by intro b hb;simp [Pv] at hb;omega)
variable {s:Bool}
theorem full {d t:Nat}  (hn:2≤n) (ht:1≤t) (hd:d*2 ^ t=n - 1) (h:b ^ d % n=sg s n):b ^ (n - 1) % n=1:=by
 obtain ⟨u,rfl⟩: ∃ u,t=u+1:=⟨t - 1,by omega⟩
 have e:n - 1=d*2*2 ^ u:=by rw [←hd,Nat.pow_succ,Nat.mul_comm (2 ^ u) 2,Nat.mul_assoc]
 rw [e];apply ig hn;rw [Nat.pow_mul,Nat.pow_two];cases s with
 | true=>exact Dp hn h
 | false=>
  have h':b ^ d % n=1:=h;rw [Nat.mul_mod,h'];exact Nat.mod_eq_of_lt (by omega)
theorem Pass.two (h:Pass n):1≤wH (n - 1):=by
 have h1:=h.rV;rcases Nat.eq_zero_or_pos (wH (n - 1)) with hz | hz
 ·rw [hz,Nat.pow_zero,Nat.mul_one] at h1;have:=h.odd;omega
 ·exact hz
structure Vr (q n:Nat):Prop where
 pr:Pr q
 dvd:q∣n
 ge3:3≤q
 ne:q≠2∧q≠7∧q≠61
theorem Pass.amd (h:Pass n) (hq:Pr q) (hd:q∣n):Vr q n:=by
 have h2:q≠2:=by
  intro e;subst e;have:=h.odd;omega
 refine ⟨hq,hd,by have:=hq.1;omega,h2,?_,?_⟩
 ·intro e;subst e;exact h.n7 hd
 ·intro e;subst e;exact h.n61 hd
variable {o y:Nat}
theorem Rx {D:RDa} {s:Nat} (hP:Pass n) (hS:uG D n) (hq:Vr q n) (ho:o % 2=1) (hy:o*2 ^ s=y)
  (h1:D.b1 ^ y % q=1) (h2:D.b2 ^ y % q=1) (h3:D.b3 ^ y % q=1):
  D.b1 ^ o % q=sg D.s1 q∧D.b2 ^ o % q=sg D.s2 q∧D.b3 ^ o % q=sg D.s3 q:=by
 have hn:0<n:=by have:=hP.lo;omega
 have hq2:=hq.pr.1;exact ⟨transfer hq.pr hq.ge3 hP.rV.1 ho hy (Ie hq2 hq.dvd hn hS.h1) h1,
  transfer hq.pr hq.ge3 hP.rV.1 ho hy (Ie hq2 hq.dvd hn hS.h2) h2,
  transfer hq.pr hq.ge3 hP.rV.1 ho hy (Ie hq2 hq.dvd hn hS.h3) h3⟩
theorem Vs {D:RDa}  (h:D.b1 ^ o % q=sg D.s1 q∧D.b2 ^ o % q=sg D.s2 q∧D.b3 ^ o % q=sg D.s3 q):aaO D o q=true:=by
 unfold aaO;rw [h.1,h.2.1,h.2.2,Nat.beq_refl,Nat.beq_refl,Nat.beq_refl];rfl
theorem aaS {D:RDa}  (hP:Pass n) (hS:uG D n) (hB:uH D) (hq:Vr q n) (hlt:q<4294967296):aaO D (jc (q - 1)) q=true:=by
 have ho:=Dn (m:=q - 1) (by have:=hq.ge3;omega) (by omega);have fer: ∀ b,b=D.b1∨b=D.b2∨b=D.b3→b ^ (q - 1) % q=1:=fun b hb=>hq.pr.YK ((hB b hb).2 q hq.pr hq.ne.1 hq.ne.2.1 hq.ne.2.2)
 exact Vs (Rx hP hS hq ho.1 ho.2 (fer _ (by simp)) (fer _ (by simp)) (fer _ (by simp)))
theorem at_k {k:Nat} (hq:Vr q n) (hn:n=q*k) (hk:1≤k) (hb: ¬ q∣b) (h:b ^ (n - 1) % n=1):b ^ (k - 1) % q=1:=by
 have h1:=qW hq.pr.1 hq.dvd h;have e:n - 1=(q - 1)*k+(k - 1):=by
  obtain ⟨p,rfl⟩: ∃ p,q=p+1:=⟨q - 1,by have:=hq.ge3;omega⟩
  rw [hn,Nat.add_sub_cancel,Nat.add_mul,Nat.one_mul];omega
 rw [e] at h1;exact zM (ig hq.pr.1 (hq.pr.YK hb) k) h1
theorem Jo (hq:2≤q) (h:b ^ o % q=sg s q):q∣num b s o:=by
 cases s with
 | false=>exact Dl h
 | true=>
  have h':b ^ o % q=q - 1:=h;show q∣b ^ o+1;have:=Nat.div_add_mod (b ^ o) q;rw [h'] at this;exact ⟨b ^ o / q+1,by rw [Nat.mul_add,Nat.mul_one];omega⟩
theorem ae8 (hb:2≤b) (ho:o % 2=1):0<num b s o:=by
 cases s with
 | true=>exact Nat.succ_pos _
 | false=>
  show 0<b ^ o - 1;have h1:b ^ 1≤b ^ o:=Nat.pow_le_pow_right (by omega) (by omega);rw [Nat.pow_one] at h1;omega
theorem caseA {D:RDa} {l:List Nat}  (hP:Pass n) (hS:uG D n) (hB:uH D) (hrp:Pr D.r) (hr:D.r∣n) (hA:allA D l=true) (hl: ∀ f,f∈l→0<f∧f≤32768) (hq:Vr q n) (hlt:32768<q) (hrq:D.r≠q):False:=by
 obtain ⟨k,hk⟩:=hq.dvd;have hn:=hP.hi;have hlo:=hP.lo;have hk1:1≤k:=by
  rcases Nat.eq_zero_or_pos k with h | h
  ·rw [h] at hk;omega
  ·exact h
 have hrk:D.r∣k:=by
  rw [hk] at hr;exact hrp.uV hr (fun h=>hrq (Nl hq.pr hrp h))
 have hkr:D.r≤k:=Nat.le_of_dvd (by omega) hrk;have hr2:=hrp.1;have hkb:k<66000:=by
  apply Classical.byContradiction;intro hc;have:32769*66000≤q*k:=Nat.mul_le_mul (by omega) (by omega);omega
 have ame:k % 2=1:=by
  have h:=hP.odd;rw [hk,Nat.mul_mod] at h;rcases Nat.mod_two_eq_zero_or_one k with h0 | h0
  ·rw [h0] at h;simp at h
  ·exact h0
 have hc:=GX _ _ hA k hkb;rw [show Nat.beq (k % D.r) 0=true by rw [Nat.mod_eq_zero_of_dvd hrk];rfl,show Nat.beq (k % 2) 1=true by rw [ame];rfl] at hc;have hc:ajo D l k=true:=hc;unfold ajo at hc;rw [show Nat.ble k 1=false by
  cases hb:Nat.ble k 1 with
  | false=>rfl
  | true=>have:=Nat.le_of_ble_eq_true hb;omega] at hc
 have hc:force (jc (k - 1)) (fun o=>force (gG D o) fun G=>cond (Nat.ble G 32768) true
  (force (strip l G) fun R=>allT (R / 32768) fun m=>cond (Nat.beq (R % (m+1)) 0) (force (R / (m+1)*k) og) true))=true:=hc
 rw [force_eq,force_eq] at hc;have ho:=Dn (m:=k - 1) (by omega) (by omega);have full': ∀ b s,(b=D.b1∨b=D.b2∨b=D.b3)→b ^ jc (n - 1) % n=sg s n→b ^ (k - 1) % q=1:=fun b s hb h=>
  at_k hq hk hk1 ((hB b hb).2 q hq.pr hq.ne.1 hq.ne.2.1 hq.ne.2.2) (full (by omega) hP.two hP.rV.2 h)
 obtain ⟨f1,f2,f3⟩:=Rx hP hS hq ho.1 ho.2 (full' _ _ (by simp) hS.h1) (full' _ _ (by simp) hS.h2) (full' _ _ (by simp) hS.h3);have hq2:=hq.pr.1;have hG:q∣gG D (jc (k - 1)):=Nat.dvd_gcd (Nat.dvd_gcd (Jo hq2 f1) (Jo hq2 f2)) (Jo hq2 f3);have hG0:0<gG D (jc (k - 1)):=Nat.gcd_pos_of_pos_right _ (ae8 (hB _ (by simp)).1 ho.1);generalize gG D (jc (k - 1))=G at hc hG hG0;cases hb:Nat.ble G 32768 with
 | true=>
  have h1:=Nat.le_of_ble_eq_true hb;have h2:=Nat.le_of_dvd hG0 hG;omega
 | false=>
  rw [hb] at hc;have hc:force (strip l G) (fun R=>allT (R / 32768) fun m=>cond (Nat.beq (R % (m+1)) 0) (force (R / (m+1)*k) og) true)=true:=hc;rw [force_eq] at hc;have hR:=Vp hq.pr l G (fun f hf=>⟨(hl f hf).1,by have:=(hl f hf).2;omega⟩) hG;have hR0:=Vq l G hG0;generalize strip l G=R at hc hR hR0;obtain ⟨m,hm⟩:=hR;have hm1:1≤m:=by
   rcases Nat.eq_zero_or_pos m with h | h
   ·rw [h] at hm;omega
   ·exact h
  have hle:m≤R / 32768:=by
   rw [Nat.le_div_iff_mul_le (by omega),hm,Nat.mul_comm q];exact Nat.mul_le_mul_left m (by omega)
  have h5:=kV _ _ hc (m - 1) (by omega);rw [show m - 1+1=m by omega,show R % m=0 by rw [hm];exact Nat.mul_mod_left q m] at h5;have h5:force (R / m*k) og=true:=h5;rw [force_eq,show R / m=q by rw [hm];exact Nat.mul_div_cancel q (by omega), ←hk,hP.Jm] at h5;cases h5
variable {x:Nat}
theorem ny :gI x q=true↔2 ^ x % q=1∧7 ^ x % q=1∧61 ^ x % q=1:=by
 unfold gI;constructor
 ·intro h;cases h1:Nat.beq (2 ^ x % q) 1 with
  | false=>rw [h1] at h;cases h
  | true=>
   cases h2:Nat.beq (7 ^ x % q) 1 with
   | false=>rw [h1,h2] at h;cases h
   | true=>
    rw [h1,h2] at h;exact ⟨Nat.eq_of_beq_eq_true h1,Nat.eq_of_beq_eq_true h2,Nat.eq_of_beq_eq_true h⟩
 ·rintro ⟨h1,h2,h3⟩;rw [h1,h2,h3];rfl
theorem Vt (hq:2≤q) (h:gI x q=true) (hd:x∣y):gI y q=true:=by
 obtain ⟨h1,h2,h3⟩:=ny.1 h;exact ny.2 ⟨jH hq h1 hd,jH hq h2 hd,jH hq h3 hd⟩
theorem Vu (hq:2≤q) (h:gI x q=true) (h':gI y q=true):gI (Nat.gcd x y) q=true:=by
 obtain ⟨h1,h2,h3⟩:=ny.1 h;obtain ⟨g1,g2,g3⟩:=ny.1 h';exact ny.2 ⟨sU hq _ _ h1 g1,sU hq _ _ h2 g2,sU hq _ _ h3 g3⟩
theorem Np {L:Nat} (hq:2≤q) (hL0:0<L) (hL:L≤32768) (hm:minimal L q=true) (hy:gI y q=true):L∣y:=by
 unfold minimal at hm;cases hg:gI L q with
 | false=>rw [hg] at hm;cases hm
 | true=>
  rw [hg] at hm;have hm:allT 181 (fun d=>cond (Nat.beq (L % (d+1)) 0) (cond (cond (Nat.beq d 0) true (cond (gI (L / (d+1)) q) false true)) (cond (Nat.beq (d+1) L) true (cond (gI (d+1) q) false true)) false) true)=true:=hm;have hall: ∀ d,d<181→L % (d+1)=0→(d=0∨gI (L / (d+1)) q=false)∧(d+1=L∨gI (d+1) q=false):=by
   intro d hd h0;have h:=kV _ 181 hm d hd;rw [h0] at h;have h:cond (cond (Nat.beq d 0) true (cond (gI (L / (d+1)) q) false true)) (cond (Nat.beq (d+1) L) true (cond (gI (d+1) q) false true)) false=true:=h;constructor
   ·cases hb:Nat.beq d 0 with
    | true=>exact .inl (Nat.eq_of_beq_eq_true hb)
    | false=>
     right;rw [hb] at h;cases hx:gI (L / (d+1)) q with
     | false=>rfl
     | true=>rw [hx] at h;cases h
   ·cases hb:Nat.beq (d+1) L with
    | true=>exact .inl (Nat.eq_of_beq_eq_true hb)
    | false=>
     right;cases hx:gI (d+1) q with
     | false=>rfl
     | true=>
      rw [hb,hx] at h;cases hc1:cond (Nat.beq d 0) true (cond (gI (L / (d+1)) q) false true) with
      | true=>rw [hc1] at h;cases h
      | false=>rw [hc1] at h;cases h
  have hgg:=Vu hq hg hy;obtain ⟨m,hm'⟩:=Nat.gcd_dvd_left L y;by_cases h1:m=1
  ·rw [h1,Nat.mul_one] at hm';rw [hm'];exact Nat.gcd_dvd_right L y
  ·exfalso;have hm0:m≠0:=by intro e;rw [e] at hm';omega
   obtain ⟨p,hp,hpm⟩:=FU m (by omega);obtain ⟨c,hc⟩:=hpm;have hLp:L=p*(Nat.gcd L y*c):=by
    rw [hc] at hm';rw [Nat.mul_left_comm];exact hm'
   have hp0:=hp.1;have hdiv:L / p=Nat.gcd L y*c:=by
    have:p*(Nat.gcd L y*c) / p=Nat.gcd L y*c:=Nat.mul_div_cancel_left _ (by omega);rw [←hLp] at this;exact this
   have hgood:gI (L / p) q=true:=by rw [hdiv];exact Vt hq hgg (Nat.dvd_mul_right _ _)
   by_cases anz:p≤181
   ·have hmod:L % p=0:=by rw [hLp];exact Nat.mul_mod_right _ _
    have:=(hall (p - 1) (by omega) (by rw [show p - 1+1=p by omega];exact hmod)).1;rw [show p - 1+1=p by omega,hgood] at this;rcases this with h | h
    ·omega
    ·cases h
   ·have he:L / p≤180:=by
     have:L / p≤32768 / 182:=Nat.le_trans (Nat.div_le_div_right hL) (Nat.div_le_div_left (by omega) (by omega));omega
    have hLe:L=p*(L / p):=by rw [hdiv];exact hLp
    have he0:0<L / p:=by
     rcases Nat.eq_zero_or_pos (L / p) with h | h
     ·rw [h] at hLe;omega
     ·exact h
    have hmod:L % (L / p)=0:=by
     conv=>lhs;rw [hLe]
     have:p*(L / p) / p=L / p:=Nat.mul_div_cancel_left _ (by omega);rw [this];exact Nat.mul_mod_left _ _
    have:=(hall (L / p - 1) (by omega) (by rw [show L / p - 1+1=L / p by omega];exact hmod)).2;rw [show L / p - 1+1=L / p by omega,hgood] at this;rcases this with h | h
    ·have:p*(L / p)≥2*(L / p):=Nat.mul_le_mul_right _ hp0;omega
    ·cases h
theorem amf {D:RDa}  (hP:Pass n) (hS:uG D n) (hB:uH D) (hrp:Pr D.r) (hr:D.r∣n) (hA:allB D=true) (hq:Vr q n) (hlo:300<q) (hlt:q≤32768) (hrq:D.r≠q):False:=by
 obtain ⟨k,hk⟩:=hq.dvd;have hn:=hP.hi;have hn3:=hP.lo;have hk1:1≤k:=by
  rcases Nat.eq_zero_or_pos k with h | h
  ·rw [h] at hk;omega
  ·exact h
 have hrk:D.r∣k:=by
  rw [hk] at hr;exact hrp.uV hr (fun h=>hrq (Nl hq.pr hrp h))
 have aaT:q % 2=1:=by
  have h:=hP.odd;rw [hk,Nat.mul_mod] at h;rcases Nat.mod_two_eq_zero_or_one q with h0 | h0
  ·rw [h0] at h;simp at h
  ·exact h0
 have hc:=GX _ _ hA q (by omega);rw [show Nat.ble q 300=false by
   cases hb:Nat.ble q 300 with
   | false=>rfl
   | true=>have:=Nat.le_of_ble_eq_true hb;omega,
  show Nat.ble 32769 q=false by
   cases hb:Nat.ble 32769 q with
   | false=>rfl
   | true=>have:=Nat.le_of_ble_eq_true hb;omega,show Nat.beq (q % 2) 1=true by rw [aaT];rfl] at hc
 have hc:ajp D q=true:=hc;unfold ajp at hc;rw [aaS hP hS hB hq (by omega)] at hc;have hc:force ((q - 1) / aaP q 30) (fun L=>cond (cond (Nat.ble L 32768) (minimal L q) false) (allT (2147483647 / q / L+1) fun j=>
  force (1+L*j) fun k=>cond (Nat.beq (k % D.r) 0) (force (q*k) og) true) false)=true:=hc
 rw [force_eq] at hc;generalize (q - 1) / aaP q 30=L at hc;cases hL:Nat.ble L 32768 with
 | false=>rw [hL] at hc;cases hc
 | true=>
  cases hm:minimal L q with
  | false=>rw [hL,hm] at hc;cases hc
  | true=>
   rw [hL,hm] at hc;have hc:allT (2147483647 / q / L+1) (fun j=>force (1+L*j) fun k=>cond (Nat.beq (k % D.r) 0) (force (q*k) og) true)=true:=hc;have hL2:=Nat.le_of_ble_eq_true hL;have nd:=jK hq.pr hq.ne.1 hq.ne.2.1 hq.ne.2.2;have hq2:=hq.pr.1;have aaU: ∀ a,SP a n=true→a ^ (n - 1) % n=1:=by
    intro a ha;rcases wI ha with h | ⟨i,hi,h⟩
    ·exact full (s:=false) (by omega) hP.two hP.rV.2 h
    ·have e:n - 1=jc (n - 1)*2 ^ i*2*2 ^ (wH (n - 1) - i - 1):=by
      conv=>lhs;rw [←hP.rV.2]
      rw [Nat.mul_assoc,Nat.mul_assoc, ←Nat.pow_succ', ←Nat.pow_add];congr 2;omega
     conv=>lhs;rw [e]
     apply ig (by omega);rw [Nat.pow_mul,Nat.pow_two];exact Dp (by omega) h
   have hgood:gI (k - 1) q=true:=ny.2 ⟨at_k hq hk hk1 nd.1 (aaU 2 hP.p2),at_k hq hk hk1 nd.2.1 (aaU 7 hP.p7),at_k hq hk hk1 nd.2.2 (aaU 61 hP.p61)⟩;have hL0:0<L:=by
    rcases Nat.eq_zero_or_pos L with h | h
    ·exfalso;rw [h] at hm;have h0:=kV (fun d=>cond (Nat.beq (0 % (d+1)) 0) (cond (cond (Nat.beq d 0) true (cond (gI (0 / (d+1)) q) false true)) (cond (Nat.beq (d+1) 0) true (cond (gI (d+1) q) false true)) false) true) 181 (by
      unfold minimal at hm;cases hg:gI 0 q with
      | false=>rw [hg] at hm;cases hm
      | true=>rw [hg] at hm;exact hm) 1 (by omega)
     have hz:gI (0 / (1+1)) q=true:=by
      apply ny.2;have:1 % q=1:=Nat.mod_eq_of_lt (by omega);exact ⟨this,this,this⟩
     rw [hz] at h0;cases h0
    ·exact h
   obtain ⟨j,hj⟩:=Np hq2 hL0 hL2 hm hgood;have hkj:k=1+L*j:=by omega
   have hjb:j<2147483647 / q / L+1:=by
    have h1:L*j≤2147483647 / q:=by
     rw [Nat.le_div_iff_mul_le (by omega)];have:k*q≤2147483647:=by rw [Nat.mul_comm, ←hk];omega
     have h2:L*j*q≤k*q:=Nat.mul_le_mul_right q (by omega);omega
    have h2:j≤2147483647 / q / L:=by
     rw [Nat.le_div_iff_mul_le hL0,Nat.mul_comm];exact h1
    omega
   have h5:=kV _ _ hc j hjb;have h5:force (1+L*j) (fun k=>cond (Nat.beq (k % D.r) 0) (force (q*k) og) true)=true:=h5;rw [force_eq, ←hkj,show Nat.beq (k % D.r) 0=true by rw [Nat.mod_eq_zero_of_dvd hrk];rfl] at h5;have h5:force (q*k) og=true:=h5;rw [force_eq, ←hk,hP.Jm] at h5;cases h5
theorem ae9: ∀ (l:List Nat) (n:Nat),0<n→(∀ p,Pr p→p∣n→p∈l)→(∀ p,p∈l→Pr p→ ¬ p*p∣n)→n∈subs l:=by
 intro l;induction l with
 | nil=>
  intro n h0 h _;have:n=1:=by
   apply Classical.byContradiction;intro hc;obtain ⟨p,hp,hd⟩:=FU n (by omega);have:=h p hp hd;simp at this
  rw [this];simp [subs]
 | cons q l ih=>
  intro n h0 h hs;unfold subs;rw [List.mem_append];by_cases hq:Pr q∧q∣n
  ·obtain ⟨hqp,m,hm⟩:=hq;right;rw [List.mem_map];have hm0:0<m:=by
    rcases Nat.eq_zero_or_pos m with e | e
    ·rw [e] at hm;omega
    ·exact e
   refine ⟨m,ih m hm0 ?_ ?_,hm.symm⟩
   ·intro p hp hd;have hpn:p∣n:=by rw [hm];exact Nat.dvd_trans hd (Nat.dvd_mul_left _ _)
    have:=h p hp hpn;rw [List.mem_cons] at this;rcases this with e | e
    ·exfalso;subst e;exact hs p (by simp) hp (by rw [hm];exact Nat.mul_dvd_mul (Nat.dvd_refl p) hd)
    ·exact e
   ·intro p hp hpp hd;exact hs p (by simp [hp]) hpp (by rw [hm];exact Nat.dvd_trans hd (Nat.dvd_mul_left _ _))
  ·left;refine ih n h0 ?_ (fun p hp hpp=>hs p (by simp [hp]) hpp);intro p hp hd;have:=h p hp hd;rw [List.mem_cons] at this;rcases this with e | e
   ·exfalso;subst e;exact hq ⟨hp,hd⟩
   ·exact e
theorem amg {D:RDa} {small:List Nat}  (hP:Pass n) (hS:uG D n) (hB:uH D) (hr:D.r∣n) (hC:Po D small=true) (hall: ∀ q,Pr q→q∣n→q≤300):n=D.r:=by
 unfold Po at hC;simp only [Bool.and_eq_true] at hC;obtain ⟨⟨c1,c2⟩,c3⟩:=hC;have hn3:=hP.lo;have mem: ∀ q,Pr q→q∣n→q∈small:=by
  intro q hq hd;have hof:=hP.amd hq hd;have h:=kV _ _ c1 q (by have:=hall q hq hd;omega);have aaT:q % 2=1:=by
   have h:=hP.odd;obtain ⟨k,hk⟩:=hd;rw [hk,Nat.mul_mod] at h;rcases Nat.mod_two_eq_zero_or_one q with h0 | h0
   ·rw [h0] at h;simp at h
   ·exact h0
  rw [show Nat.beq (q % 2) 1=true by rw [aaT];rfl,show Nat.ble q 2=false by
   cases hb:Nat.ble q 2 with
   | false=>rfl
   | true=>have:=Nat.le_of_ble_eq_true hb;have:=hof.ge3;omega,aaS hP hS hB hof (by have:=hall q hq hd;omega)] at h
  have h:small.any (Nat.beq q)=true:=h;obtain ⟨x,hx,he⟩:=List.any_eq_true.1 h;rw [Nat.eq_of_beq_eq_true he];exact hx
 have sq: ∀ q,q∈small→Pr q→ ¬ q*q∣n:=by
  intro q hq hqp hd;have hqn:q∣n:=Nat.dvd_trans (Nat.dvd_mul_right q q) hd;have h:=List.all_eq_true.1 c2 q hq;simp only [Bool.and_eq_true,Bool.not_eq_true'] at h;obtain ⟨h1,h2⟩:=h;have h1:=Nat.eq_of_beq_eq_true h1;have h2:=Nat.ne_of_beq_eq_false h2;have hq2:=hqp.1;have hqq:2≤q*q:=Nat.le_trans hq2 (Nat.le_mul_of_pos_left q (by omega));apply h2;have hb:2 ^ (n - 1) % n=1:=by
   rcases wI hP.p2 with h | ⟨i,hi,h⟩
   ·exact full (s:=false) (by omega) hP.two hP.rV.2 h
   ·have e:n - 1=jc (n - 1)*2 ^ i*2*2 ^ (wH (n - 1) - i - 1):=by
     conv=>lhs;rw [←hP.rV.2]
     rw [Nat.mul_assoc,Nat.mul_assoc, ←Nat.pow_succ', ←Nat.pow_add];congr 2;omega
    conv=>lhs;rw [e]
    apply ig (by omega);rw [Nat.pow_mul,Nat.pow_two];exact Dp (by omega) h
  have hb2:=qW hqq hd hb;have hg:=sU hqq (n - 1) (q*(q - 1)) hb2 h1;have anp:Nat.gcd (n - 1) q=1:=by
   rw [Nat.gcd_comm];apply hqp.coprime;intro hc;have:q∣n - (n - 1):=Nat.dvd_sub hqn hc;rw [show n - (n - 1)=1 by omega] at this;have:=Nat.le_of_dvd (by omega) this;omega
  have hdv:Nat.gcd (n - 1) (q*(q - 1))∣q - 1:=by
   have:=Nat.gcd_mul_right_dvd_mul_gcd (n - 1) q (q - 1);rw [anp,Nat.one_mul] at this;exact Nat.dvd_trans this (Nat.gcd_dvd_right _ _)
  exact jH hqq hg hdv
 have hin:=ae9 small n (by omega) mem sq;have h:=List.all_eq_true.1 c3 n hin;rw [show Nat.beq (n % D.r) 0=true by rw [Nat.mod_eq_zero_of_dvd hr];rfl] at h;have h:cond (Nat.beq n D.r) true (og n)=true:=h;cases hb:Nat.beq n D.r with
 | true=>exact Nat.eq_of_beq_eq_true hb
 | false=>
  rw [hb] at h;have h:og n=true:=h;rw [hP.Jm] at h;cases h
theorem Jp {D:RDa} {l small:List Nat}  (hP:Pass n) (hS:uG D n) (hB:uH D) (hrp:Pr D.r) (hr3:D.r≤300) (hr:D.r∣n) (hA:allA D l=true) (hl: ∀ f,f∈l→0<f∧f≤32768) (hBB:allB D=true) (hC:Po D small=true):n=D.r:=by
 apply amg hP hS hB hr hC;intro q hq hd;apply Classical.byContradiction;intro hc;have hof:=hP.amd hq hd;by_cases hbig:32768<q
 ·exact caseA hP hS hB hrp hr hA hl hof hbig (by omega)
 ·exact amf hP hS hB hrp hr hBB hof (by omega) (by omega) (by omega)
theorem l3: ∀ f,f∈aaQ→0<f∧f≤32768:=by decide+kernel
theorem l5: ∀ f,f∈aaR→0<f∧f≤32768:=by decide+kernel
theorem l11: ∀ f,f∈Rq→0<f∧f≤32768:=by decide+kernel
theorem l13: ∀ f,f∈Rt→0<f∧f≤32768:=by decide+kernel
theorem pr3:Pr 3:=pO (by decide) (by decide)
theorem pr5:Pr 5:=pO (by decide) (by decide)
theorem anq:Pr 11:=pO (by decide) (by decide)
theorem anr:Pr 13:=pO (by decide) (by decide)
theorem amh (hP:Pass n) (h:3∣n):n=3:=Jp (D:=rd3) hP (ajs hP h) aju pr3 (by decide) h a3 l3 b3 c3
theorem ami (hP:Pass n) (h:5∣n):n=5:=Jp (D:=rd5) hP (ajt hP h) ajv pr5 (by decide) h a5 l5 b5 c5
theorem ajw (hP:Pass n) (h:11∣n):n=11:=Jp (D:=Pq) hP (ae4 hP h) ae6 anq (by decide) h a11 l11 b11 c11
theorem ajx (hP:Pass n) (h:13∣n):n=13:=Jp (D:=Pv) hP (ae5 hP h) ae7 anr (by decide) h a13 l13 b13 c13
theorem vJ (n:Nat):aH n=true↔n=2∨n=7∨n=61∨(2<n∧n % 2=1∧0<n % 7∧0<n % 61∧SP 2 n=true∧SP 7 n=true∧SP 61 n=true):=by
 unfold aH;simp only [Bool.or_eq_true,Bool.and_eq_true,beq_iff_eq,decide_eq_true_eq];constructor
 ·rintro (((h | h) | h) | ⟨⟨⟨⟨⟨⟨h1,h2⟩,h3⟩,h4⟩,h5⟩,h6⟩,h7⟩)
  ·exact .inl h
  ·exact .inr (.inl h)
  ·exact .inr (.inr (.inl h))
  ·exact .inr (.inr (.inr ⟨h1,h2,h3,h4,h5,h6,h7⟩))
 ·rintro (h | h | h | ⟨h1,h2,h3,h4,h5,h6,h7⟩)
  ·exact .inl (.inl (.inl h))
  ·exact .inl (.inl (.inr h))
  ·exact .inl (.inr h)
  ·exact .inr ⟨⟨⟨⟨⟨⟨h1,h2⟩,h3⟩,h4⟩,h5⟩,h6⟩,h7⟩
theorem Nq (hn:n<2147483648):ay n=aH n:=by
 by_cases h2:n<2
 ·have e1:ay n=false:=by unfold ay;rw [if_pos h2]
  rw [e1];symm;rw [←Bool.not_eq_true,vJ];omega
 ·by_cases hno: ∀ p,p∈smalls→n % p≠0
  ·have hf:smalls.find? (fun p=>n % p==0)=none:=List.find?_eq_none.2 (by intro q hq;simpa using hno q hq);have e1:ay n=(SP 2 n && (SP 7 n && SP 61 n)):=by
    unfold ay;rw [if_neg h2,hf]
   have d2:=hno 2 (by decide);have d7:=hno 7 (by decide);have d61:=hno 61 (by decide);rw [e1,Bool.eq_iff_iff,vJ];simp only [Bool.and_eq_true];constructor
   ·rintro ⟨h5,h6,h7⟩;exact .inr (.inr (.inr ⟨by omega,by omega,by omega,by omega,h5,h6,h7⟩))
   ·rintro (h | h | h | ⟨_,_,_,_,h5,h6,h7⟩)
    ·rw [h] at d2;exact absurd rfl d2
    ·rw [h] at d7;exact absurd rfl d7
    ·rw [h] at d61;exact absurd rfl d61
    ·exact ⟨h5,h6,h7⟩
  ·have hex: ∃ p,smalls.find? (fun p=>n % p==0)=some p:=by
    cases hf:smalls.find? (fun p=>n % p==0) with
    | some p=>exact ⟨p,rfl⟩
    | none=>
     exfalso;apply hno;intro p hp;have:=List.find?_eq_none.1 hf p hp;simpa using this
   obtain ⟨p,hf⟩:=hex;have e1:ay n=(n==p):=by unfold ay;rw [if_neg h2,hf]
   have hmem:=List.mem_of_find?_eq_some hf;have hdiv:n % p=0:=by have:=List.find?_some hf;simpa using this
   rw [e1,Bool.eq_iff_iff,beq_iff_eq];constructor
   ·intro h;subst h;have all: ∀ q,q∈smalls→aH q=true:=by
     intro q hq;simp only [smalls,List.mem_cons,List.not_mem_nil,or_false] at hq;rcases hq with rfl | rfl | rfl | rfl | rfl | rfl | rfl<;>(rw [NT _ (by omega)];decide+kernel)
    exact all n hmem
   ·intro hr;rw [vJ] at hr;have hdv:p∣n:=Nat.dvd_of_mod_eq_zero hdiv;simp only [smalls,List.mem_cons,List.not_mem_nil,or_false] at hmem;rcases hr with rfl | rfl | rfl | ⟨h1,h3,h4,h5,h6,h7,h8⟩
    ·have:=Nat.le_of_dvd (by omega) hdv;rcases hmem with rfl | rfl | rfl | rfl | rfl | rfl | rfl<;>omega
    ·have hle:=Nat.le_of_dvd (by omega) hdv;rcases hmem with rfl | rfl | rfl | rfl | rfl | rfl | rfl<;>simp_all
    ·have hle:=Nat.le_of_dvd (by omega) hdv;rcases hmem with rfl | rfl | rfl | rfl | rfl | rfl | rfl<;>simp_all
    ·have hP:Pass n:=⟨by omega,hn,h3,fun h=>by have:=Nat.mod_eq_zero_of_dvd h;omega,fun h=>by have:=Nat.mod_eq_zero_of_dvd h;omega,h6,h7,h8⟩
     rcases hmem with rfl | rfl | rfl | rfl | rfl | rfl | rfl
     ·omega
     ·exact amh hP hdv
     ·exact ami hP hdv
     ·omega
     ·exact ajw hP hdv
     ·exact ajx hP hdv
     ·omega
end
section
theorem Ry (n:Int) (p:Nat) (e:Int):iL ay n p e=iL aH n p e:=by
 by_cases h:p<65536
 ·unfold iL;rw [Nq (show p<2147483648 by omega)]
 ·rw [jy (by omega),jy (by omega)]
theorem Nr (s q:Nat):jF ay s q=jF aH s q:=by
 unfold jF;by_cases h:q≤2147483647
 ·rw [Nq (by omega)]
 ·rw [aj h];rfl
theorem t_eq (x:Par):x.t ay=x.t aH:=Ry _ _ _
theorem afa (s sp q:Nat):nD ay s sp q=nD aH s sp q:=by unfold nD;rw [Nr]
theorem ajy (x:Par):okB ay x=okB aH x:=by
 unfold okB stepOf;rw [t_eq,Nr];congr 7;congr 1;exact funext fun q=>afa _ _ q
end
section
open Go.RowKit Wv
theorem Rz (x:Par) (k:Int):kS ay x k=kS aH x k:=by unfold kS;rw [ajy]
theorem Vw (x:Par) (k:Int):fK ay x k=fK aH x k:=by unfold fK;rw [Rz]
theorem Vx (x:Par) (k:Int):eY ay x k=eY aH x k:=by unfold eY;rw [Rz,Ry]
theorem zW (x:Par) (k:Int) (hx:qY x) (hlen:x.ch.length≤140737488351232) (lH: ∀ q,q∈x.ch→q<4294967296):TC Tryz.prog 36 [.g (dN x), .v (.int .i64 k)] (.tup [.v (.int .i64 (eY ay x k:Nat)), .v (.int .i64 (fK ay x k))]):=by
 rw [Vx,Vw];exact ae1 x k hx hlen lH
end
section
open Go.RowKit Wv
theorem Vy (x:Par) (hx:qY x) (hlen:x.ch.length≤140737488351232) (lH: ∀ q,q∈x.ch→q<4294967296) (c:Ci) (hc:okC c) (hcn:c.nl≤1000000) (hni:c.ni≤1000000) (hce: ∀ i,i<c.nl→bC (c.le i)≤1000000):
  TC Tryz.prog 20 [.g (dN x), .g (ciC c)] (typeA (fG (fK ay x x.r) c (ruA x (eY ay x x.r)))):=by
 have T:=Vl x c (eY ay x x.r) (fK ay x x.r) (zW x x.r hx hlen lH) hc hcn hni hce (fun h=>by
  obtain ⟨h1,h2,h3,h4⟩:=yZ h;exact ⟨h1,by omega,by omega,by omega⟩)
 exact T.res (ajk fun h=>Vj _ _ _ h)
end
section
open Go.RowKit Wv
def Ak (N:Nat) (t k n:Int) (li ls:Nat→Int) (A:Nat→Nat→Int) (j:Nat):Int:=if k=14 then rpw t (A 0 j) n.toNat else slZ N t k n li ls A j
theorem Px {t a:Int} (ht:0<t) (h1: -t<a) (h2:a<t):a.tmod t=a:=by
 by_cases c:0≤a
 ·rw [Int.tmod_eq_emod_of_nonneg c,Int.emod_eq_of_lt c h2]
 ·obtain ⟨b,rfl⟩: ∃ b,a= -b:=⟨-a,by omega⟩
  rw [Int.neg_tmod,Int.tmod_eq_emod_of_nonneg (by omega),Int.emod_eq_of_lt (by omega) (by omega)]
def slA (N:Nat) (t:Int) (V:AV):AV:= .tp [.v (.int .i64 N), .v (.int .i64 t),V]
def agA (N na:Nat) (A:Nat→Nat→Int):AV:= .t na 1 (tab na fun i=> .t N 1 (tab N fun j=> .v (.int .i64 (A i j))))
theorem aaV (N:Nat) (t:Int) (V:AV) (hV:Clo V) (k:Int) (s:ByteArray) (n:Int) (nl:Nat) (li:Nat→Int) (na:Nat) (L:List AV) (A:Nat→Nat→Int) (j:Nat) (ht:3≤t) (ho:t % 2=1) (ht':t≤2147483647) (hN:4≤N) (hN2:N≤32) (hN3:N % 2=0) (hj:j<N) (hnl:nl≤140737488351232)
  (hA: ∀ i,i<na→ ∀ j,j<N→ -((t - 1) / 2)≤A i j∧A i j≤(t - 1) / 2) (hk:2≤k∧k≤15) (hna:(na:Int)=argN k.toNat) (hn:inB n=true) (hls: ∀ j,j<N→inB (uZ nl li j)=true) (h8:k=8→0≤n) (h11:k=11→t≤nl) (h14:k=14→0≤n) (hL: ∀ a,a∈L→Clo a):
  TC Tryz.prog 126 [slA N t V, .g [.v (.int .i64 k), .v (.string s), .v (.int .i64 n), .t nl 1 (tab nl fun i=> .v (.int .i64 (li i))), .t na 5 L],agA N na A, .v (.int .i64 j)] (.v (.int .i64 (Ak N t k n li (lsF k nl li) A j))):=by
 have hn': -4294967295≤n∧n≤4294967295:=by
  unfold inB at hn;rw [Bool.and_eq_true] at hn;exact ⟨of_decide_eq_true hn.1,of_decide_eq_true hn.2⟩
 have hat:=aja nl li j hnl (by omega);obtain ⟨Z,hZ⟩: ∃ Z,Ak N t k n li (lsF k nl li) A j=Z:=⟨_,rfl⟩
 rw [hZ];unfold Ak slZ lsF at hZ;have hkk:k=2∨k=3∨k=4∨k=5∨k=6∨k=7∨k=8∨k=9∨k=10∨k=11∨k=12∨k=13∨k=14∨k=15:=by omega
 have z1:(0:Int).tmod t=0:=Int.zero_tmod t;have z2:(0+t).tmod t=0:=by rw [Int.zero_add,Int.tmod_self]
 have z3:t.tmod t=0:=Int.tmod_self;have hjN:(j:Int)<N:=by omega
 have ha0:0<na→(A 0 j).tmod t=A 0 j∧0≤(A 0 j+t).tmod t∧(A 0 j+t).tmod t<t∧ -((t - 1) / 2)≤A 0 j∧A 0 j≤(t - 1) / 2:=fun h=>by
  have h1:=hA 0 h j hj;have h2:=IZ ht h1;unfold yU at h2;exact ⟨Px (by omega) (by omega) (by omega),h2.1,h2.2,h1⟩
 unfold vcA at hat;unfold slA agA;refine Wv.TC.by 162 [1,2,16,3,25,9,0,5,49,50,54,60,10,65,70,74,79,94,107,115,11,122,128,135,13,150,12,8] [(6,15),(21,11),(23,9),(33,7)] [.tmp 8] Tryz.func126 rfl rfl rfl ?clo ?_
 case clo=>simp only [Wv.BC]
 rcases hkk with rfl | rfl | rfl | rfl | rfl | rfl | rfl | rfl | rfl | rfl | rfl | rfl | rfl | rfl<;>simp only [Int.reduceEq, ↓reduceIte,or_false,or_true,false_or,true_or] at hZ
 ·have hna':na=0:=by have:argN (2:Int).toNat=0:=rfl;omega
  subst hna';refine Wv.W3 z1 z2 z3 ?_;rw [hZ]
 ·have hna':na=0:=by have:argN (3:Int).toNat=0:=rfl;omega
  subst hna';refine Wv.W3 z1 z2 z3 ?_;rw [hZ] at hat;refine ak hat rfl Wv.c Wv.c ?_;exact Wv.V
 ·have hna':na=2:=by have:argN (4:Int).toNat=2:=rfl;omega
  subst hna';obtain ⟨q1,q2,q3,q4,q5⟩:=ha0 (by omega);have a1:=hA 1 (by omega) j hj;generalize qe:(A 0 j+t).tmod t=q at*;refine Wv.W2 q1 qe ?_;rw [hZ]
 ·have hna':na=2:=by have:argN (5:Int).toNat=2:=rfl;omega
  subst hna';obtain ⟨q1,q2,q3,q4,q5⟩:=ha0 (by omega);have a1:=hA 1 (by omega) j hj;generalize qe:(A 0 j+t).tmod t=q at*;refine Wv.W2 q1 qe ?_;rw [hZ]
 ·have hna':na=1:=by have:argN (6:Int).toNat=1:=rfl;omega
  subst hna';obtain ⟨q1,q2,q3,q4,q5⟩:=ha0 (by omega);generalize qe:(A 0 j+t).tmod t=q at*;refine Wv.W2 q1 qe ?_;rw [hZ]
 ·have hna':na=2:=by have:argN (7:Int).toNat=2:=rfl;omega
  subst hna';obtain ⟨q1,q2,q3,q4,q5⟩:=ha0 (by omega);have a0:=yR ht' (hA 0 (by omega) j hj) (hA 1 (by omega) j hj);generalize qe:(A 0 j+t).tmod t=q at*;refine Wv.W2 q1 qe ?_;rw [hZ]
 ·have hna':na=1:=by have:argN (8:Int).toNat=1:=rfl;omega
  subst hna';obtain ⟨q1,q2,q3,q4,q5⟩:=ha0 (by omega);have T:=UY N j n hN hN2 hj (h8 rfl) (by omega);have hr:=ZI (n:=n) hN hN3 hj;generalize IY N n j=m at*;generalize qe:(A 0 j+t).tmod t=q at*;refine Wv.W2 q1 qe ?_;refine eU T rfl Wv.c Wv.c ?_;refine Wv.W ?_;rw [hZ]
 ·have hna':na=1:=by have:argN (9:Int).toNat=1:=rfl;omega
  subst hna';obtain ⟨q1,q2,q3,q4,q5⟩:=ha0 (by omega);have T:=UZ N j hN hN2 hj;have hr:=Nat.mod_lt (j+N / 2) (show N>0 by omega);generalize (j+N / 2) % N=m at*;generalize qe:(A 0 j+t).tmod t=q at*;refine Wv.W2 q1 qe ?_;refine eU T rfl Wv.c Wv.c ?_;refine Wv.W ?_;rw [hZ]
 ·have hna':na=1:=by have:argN (10:Int).toNat=1:=rfl;omega
  subst hna';obtain ⟨q1,q2,q3,q4,q5⟩:=ha0 (by omega);have a1:=lsm (hls j hj) ht' (hA 0 (by omega) j hj);generalize uZ nl li j=w at*;generalize qe:(A 0 j+t).tmod t=q at*;refine Wv.W2 q1 qe ?_;refine ak hat rfl Wv.c Wv.c ?_;refine Wv.W ?_;rw [hZ]
 ·have hna':na=1:=by have:argN (11:Int).toNat=1:=rfl;omega
  subst hna';obtain ⟨q1,q2,q3,q4,q5⟩:=ha0 (by omega);have anb:=h11 rfl;unfold yU at hZ;generalize qe:(A 0 j+t).tmod t=q at*;obtain ⟨m,rfl⟩:=Int.eq_ofNat_of_zero_le q2;have e0:((m:Int)).toNat=m:=rfl;rw [e0] at hZ;refine Wv.W2 q1 qe ?_;rw [hZ]
 ·have hna':na=2:=by have:argN (12:Int).toNat=2:=rfl;omega
  subst hna';obtain ⟨q1,q2,q3,q4,q5⟩:=ha0 (by omega);have T:=QU (decide (A 0 j=A 1 j));have e:(if decide (A 0 j=A 1 j)=true then (1:Int) else 0)=Z:=by
   rw [←hZ];by_cases q:A 0 j=A 1 j
   ·rw [if_pos q,if_pos (ah q)]
   ·rw [if_neg q,if_neg (by simp [q])]
  rw [e] at T;generalize qe:(A 0 j+t).tmod t=q at*;refine Wv.W2 q1 qe ?_;refine ak T rfl Wv.c Wv.c ?_;exact Wv.V
 ·have hna':na=1:=by have:argN (13:Int).toNat=1:=rfl;omega
  subst hna';obtain ⟨q1,q2,q3,q4,q5⟩:=ha0 (by omega);unfold yU at hZ;have T:=QU (decide ((A 0 j+t).tmod t<n));have e:(if decide ((A 0 j+t).tmod t<n)=true then (1:Int) else 0)=Z:=by
   rw [←hZ];by_cases q:(A 0 j+t).tmod t<n
   ·rw [if_pos q,if_pos (ah q)]
   ·rw [if_neg q,if_neg (by simp [q])]
  rw [e] at T;generalize qe:(A 0 j+t).tmod t=q at*;refine Wv.W2 q1 qe ?_;refine ak T rfl Wv.c Wv.c ?_;exact Wv.V
 ·have hna':na=1:=by have:argN (14:Int).toNat=1:=rfl;omega
  subst hna';obtain ⟨q1,q2,q3,q4,q5⟩:=ha0 (by omega);obtain ⟨m,rfl⟩:=Int.eq_ofNat_of_zero_le (h14 rfl);have e0:((m:Int)).toNat=m:=rfl;rw [e0] at hZ;have T:=aeP t (A 0 j) m ht ho ht' (hA 0 (by omega) j hj) (by omega);rw [hZ] at T;generalize qe:(A 0 j+t).tmod t=q at*;refine Wv.W2 q1 qe ?_;refine ak T rfl Wv.c Wv.c ?_;exact Wv.V
 ·have hna':na=1:=by have:argN (15:Int).toNat=1:=rfl;omega
  subst hna';obtain ⟨q1,q2,q3,q4,q5⟩:=ha0 (by omega);have hsb:=I4 (f:=A 0) (N:=N) ht' (fun j hj=>hA 0 (by omega) j hj);generalize qe:(A 0 j+t).tmod t=q at*;refine Wv.W2 q1 qe ?_;refine aQ (σ:=Nat) (fun i=>[(0, .tp [.v (.int .i64 N), .v (.int .i64 t),V]),(2, .t 1 1 (tab 1 fun i=> .t N 1 (tab N fun j=> .v (.int .i64 (A i j))))),(12, .v (.int .i64 (yV (A 0) i))),(13, .v (.int .i64 i))])
   (fun _=>[some (.blk [.v (.int .i64 15), .v (.string s), .v (.int .i64 n), .t nl 1 (tab nl fun i=> .v (.int .i64 (li i))), .t 1 5 L])]) (fun i=>i≤N) (fun i=>N - i) 0 (Nat.zero_le _) Wv.V (by simp (disch:=first|exact Wv.D|fail) only [Wv.B,simprocAttr,yV]) ?_
  intro i hi;by_cases hlt:i<N
  ·have e1:(i:Int)<N:=by omega
   have b1:=hsb i hi;have b2:=hA 0 (by omega) i hlt;have hs:yV (A 0) i+A 0 i=yV (A 0) (i+1):=rfl;have b3:=hsb (i+1) (by omega);refine Wv.W2 (ah e1) hs ?_;refine au (i+1) (by omega) (by omega) rfl Wv.V2
  ·obtain rfl:i=N:=by omega
   refine Wv.W2 @Int.lt_irrefl @decide_false ?_;rw [hZ]
end
section
open Go.RowKit Wv
def nvM (N m:Nat) (en:Nat→ByteArray) (ev:Nat→Nat→Int):List AV:=cO m fun i=>[.v (.string (en i)),vcA N (ev i)]
theorem xP (N m:Nat) (en:Nat→ByteArray) (ev:Nat→Nat→Int):(nvM N m en ev).length=m*2:=mQ fun i=>rfl
theorem xQ (N m:Nat) (en:Nat→ByteArray) (ev:Nat→Nat→Int): ∀ a,a∈nvM N m en ev→Clo a:=dw fun i _ a ha=>by
 simp only [List.mem_cons,List.not_mem_nil,or_false] at ha;rcases ha with rfl | rfl
 ·exact .v _
 ·exact uf _ _
def hW (N:Nat) (t:Int) (m:Nat) (en:Nat→ByteArray) (ev:Nat→Nat→Int):Hp:=[some (.blk [.v (.int .i64 N), .v (.int .i64 t), .own 1 m]),some (.arr 135 2 (nvM N m en ev) 0)]
theorem amj (N:Nat) (t:Int) (m:Nat) (en:Nat→ByteArray) (ev:Nat→Nat→Int):loH (hW N t m en ev).length (hW N t m en ev):=by
 refine ⟨?_,fun a ha=> .clo (xQ N m en ev a ha),trivial⟩;unfold loL;simp only [List.mem_cons,List.not_mem_nil,or_false,forall_eq_or_imp,forall_eq];exact ⟨.clo (.v _), .clo (.v _), .own (by show 1<2;omega)⟩
theorem amk (N:Nat) (t:Int) (m:Nat) (en:Nat→ByteArray) (ev:Nat→Nat→Int): ∀ (i:Nat) (o:Option Ob),(hW N t m en ev)[i]? =some o→ ∃ o',o=some o'∧RnO id (hW N t m en ev).length o' o':=by
 intro i o ho;unfold hW at ho ⊢;match i with
 | 0=>simp at ho;subst ho;exact ⟨_,rfl, .clo (.v _), .clo (.v _), .own (by show 1<2;omega),trivial⟩
 | 1=>simp at ho;subst ho;exact ⟨_,rfl,rfl,rfl,rfl,RnL.clo (xQ N m en ev)⟩
 | i+2=>simp at ho
variable {N m:Nat}{en:Nat→ByteArray}{ev:Nat→Nat→Int}
theorem RD.hW {t:Int}    {f:FuncId} {args:List AV} {R p:AV→Prop} (T:RD Tryz.prog f (.ptr 0 0::args) (hW N t m en ev) R p) (r:Hp) (ha: ∀ (a:AV),a∈args→Clo a) (hR: ∀ r,R r→Clo r) (hp: ∀ r,p r→Clo r):HTP Tryz.prog f (.ptr 0 0::args) (hW N t m en ev++r) (fun q h'=>R q∧h'=hW N t m en ev++r) (fun q h'=>p q∧h'=hW N t m en ev++r):=
 RD.ext T r ⟨.ptr (by show 0<2;omega),RnL.clo ha⟩ (amk N t m en ev) hR hp
theorem aaW {h:Hp}  {t:Int}    {fz:Nat} {T:TypeId} (h0:h[0]? =some (some (.blk [.v (.int .i64 N), .v (.int .i64 t), .own 1 m]))) (h1:h[1]? =some (some (.arr T 2 (nvM N m en ev) fz))):vB 2 h (.ptr 0 0)=slA N t (.t m 2 (nvM N m en ev)):=by
 have b1:Nat.beq (nvM N m en ev).length (m*2)=true:=by rw [xP];exact Nat.beq_refl _
 have e0: ∀ l:List AV,l.map (vB 0 h)=l:=fun l=>List.map_id' l
 have e1:vB 1 h (.own 1 m)= .t m 2 (nvM N m en ev):=by
  show (match h[1]? with | some (some (.arr _ s cells _))=>bif Nat.beq cells.length (m*s) then AV.t m s (cells.map (vB 0 h)) else .own 1 m | _=> .own 1 m)=_;rw [h1];show (bif Nat.beq (nvM N m en ev).length (m*2) then AV.t m 2 ((nvM N m en ev).map (vB 0 h)) else .own 1 m)=_;rw [b1,e0];rfl
 have e5:vB 2 h (.ptr 0 0)= .tp ([.v (.int .i64 N), .v (.int .i64 t), .own 1 m].map (vB 1 h)):=by
  show (match h[0]? with | some (some (.blk cells))=>AV.tp (cells.map (vB 1 h)) | _=> .ptr 0 0)=_;rw [h0]
 rw [e5];show AV.tp [vB 1 h _,vB 1 h _,vB 1 h _]=_;rw [e1];rfl
theorem ajz {h:Hp} {n fz:Nat} {A:Nat→Nat→Int} {T:TypeId} (h3:h[3]? =some (some (.arr T 1 (tab n fun i=> .t N 1 (tab N fun j=> .v (.int .i64 (A i j)))) fz))):vB 2 h (.own 3 n)=agA N n A:=by
 have b1:Nat.beq (tab n fun i=>AV.t N 1 (tab N fun j=> .v (.int .i64 (A i j)))).length (n*1)=true:=by rw [iC,Nat.mul_one];exact Nat.beq_refl _
 have e1:(tab n fun i=>AV.t N 1 (tab N fun j=> .v (.int .i64 (A i j)))).map (vB 1 h)=tab n fun i=>AV.t N 1 (tab N fun j=> .v (.int .i64 (A i j))):=by
  unfold tab;rw [List.map_map];rfl
 show (match h[3]? with | some (some (.arr _ s cells _))=>bif Nat.beq cells.length (n*s) then AV.t n s (cells.map (vB 1 h)) else .own 3 n | _=> .own 3 n)=_;rw [h3];show (bif Nat.beq (tab n fun i=>AV.t N 1 (tab N fun j=> .v (.int .i64 (A i j)))).length (n*1) then AV.t n 1 ((tab n fun i=>AV.t N 1 (tab N fun j=> .v (.int .i64 (A i j)))).map (vB 1 h)) else .own 3 n)=_;rw [b1,e1];rfl
def rvX (N:Nat) (t:Int) (m:Nat) (en:Nat→ByteArray) (ev:Nat→Nat→Int):Ex→Nat→Int
 | .nil=>fun _=>0
 | .mk k s n nl li na ar=>if k=1 then (match findF (fun i=>decide (en i=s)) m with | some i=>ev i | none=>fun _=>0) else fun j=>rbN t (Ak N t k n li (lsF k nl li) (fun i=>rvX N t m en ev (ar i)) j)
def goW (N:Nat) (t:Int) (m:Nat) (en:Nat→ByteArray):Ex→Prop
 | .nil=>False
 | .mk k s n nl li na ar=>(k=1→(findF (fun i=>decide (en i=s)) m).isSome=true)∧(k=8→0≤n)∧(k=11→t≤nl)∧(k=14→0≤n)∧(k=3∨k=10→nl≤N)∧ ∀ i,i<na→goW N t m en (ar i)
theorem aaX {t:Int}    (ht:3≤t) (ho:t % 2=1) (hvv: ∀ i,i<m→ ∀ j,j<N→ -((t - 1) / 2)≤ev i j∧ev i j≤(t - 1) / 2) (e:Ex): ∀ j,j<N→ -((t - 1) / 2)≤rvX N t m en ev e j∧rvX N t m en ev e j≤(t - 1) / 2:=by
 intro j hj;cases e with
 | nil=>show _≤(0:Int)∧(0:Int)≤_;omega
 | mk k s n nl li na ar=>
  unfold rvX;split
  ·cases hf:findF (fun i=>decide (en i=s)) m with
   | none=>show _≤(0:Int)∧(0:Int)≤_;omega
   | some i=>
    have hi:i<m:=by
     unfold findF at hf;have:=List.mem_of_find?_eq_some hf;exact List.mem_range.1 this
    exact hvv i hi j hj
  ·exact aaj ht ho
theorem aaY (N:Nat) (t:Int) (m:Nat) (en:Nat→ByteArray) (ev:Nat→Nat→Int) (hm:m≤1000) (ht:3≤t) (hodd:t % 2=1) (ht':t≤2147483647) (hN:4≤N) (hN2:N≤32) (hN3:N % 2=0) (hvv: ∀ i,i<m→ ∀ j,j<N→ -((t - 1) / 2)≤ev i j∧ev i j≤(t - 1) / 2) (e:Ex) (ho:okE e) (hf:aW e=true) (hg:goW N t m en e):
  RD Tryz.prog 82 [.ptr 0 0, .g (exC e)] (hW N t m en ev) (fun r=>r=vcA N (rvX N t m en ev e)) (fun _=>False):=by
 induction e with
 | nil=>exact ho.elim
 | mk k s n nl li na ar ih=>
 obtain ⟨hs,hnl,hna,hh⟩:=ho;have ⟨⟨hk1,hk2⟩,ah4,hfa⟩:=gu hf;have hna':=A8 hf;refine RD.of ?_ (by rintro r rfl;exact .clo (uf _ _)) (fun r q=>q.elim) (amj N t m en ev);rw [dh];have hlW:=fun (h:Hp) h0 h1=>aaW (h:=h) (N:=N) (t:=t) (m:=m) (en:=en) (ev:=ev) (fz:=0) (T:=135) h0 h1
 have hSp:rvX N t m en ev (.mk k s n nl li na ar)=if k=1 then (match findF (fun i=>decide (en i=s)) m with | some i=>ev i | none=>fun _=>0) else fun j=>rbN t (Ak N t k n li (lsF k nl li) (fun i=>rvX N t m en ev (ar i)) j):=rfl
 have hvA:=fun i=>aaX (en:=en) ht hodd hvv (ar i)
 have hdn: ∀ i,i<m→ ∃ r,List.drop (i*2) (nvM N m en ev)= .v (.string (en i))::vcA N (ev i)::r:=fun i hi=>bH (f:=fun i=>[.v (.string (en i)),vcA N (ev i)]) (fun i=>rfl) hi
 have hln:=xP N m en ev;have hcn:=xQ N m en ev;have Py: ∀ k,loL k (nvM N m en ev)=True:=fun k=>eq_true fun a ha=> .clo (hcn a ha)
 have hLc:=dw (n:=na) (f:=fun i=>exC (ar i)) fun i _=>eX (ar i)
 have hdr: ∀ i,i<na→ ∃ r,List.drop (i*5) (cO na fun i=>exC (ar i))=exC (ar i)++r:=fun i hi=>bH (f:=fun i=>exC (ar i)) (fun i=>gJ (ar i)) hi
 have hE:=fun i hi=>RD.hW (ih i (hh i hi) (hfa i hi) (hg.2.2.2.2.2 i hi))
 clear ih;generalize rvX N t m en ev (.mk k s n nl li na ar)=V at hSp ⊢;obtain ⟨A,hAe⟩: ∃ A:Nat→Nat→Int, ∀ i,rvX N t m en ev (ar i)=A i:=⟨_,fun _=>rfl⟩
 simp only [hAe] at hSp hvA hE;clear hAe;unfold hW at hE ⊢;refine Wv.HTP.by 80 [1,6,3,14,5,0,29,7,36,49,9,63,8,4] [(10,10),(16,10),(1000000,2),(3000010,10),(3000016,26)] [.tmp 4] Tryz.func82 rfl rfl rfl ?base ?_
 case base=>rfl
 generalize hLL:(cO na fun i=>exC (ar i))=L at*;refine Wv.W ?_;refine jU (σ:=Nat) (fun i=>[(0, .ptr 0 0),(3, .ptr 2 0),(5, .own 3 i),(6, .v (.int .i64 i))])
  (fun i=>[some (.blk [.v (.int .i64 N), .v (.int .i64 t), .own 1 m]),some (.arr 135 2 (nvM N m en ev) 0),some (.blk [.v (.int .i64 k), .v (.string s), .v (.int .i64 n), .t nl 1 (tab nl fun i=> .v (.int .i64 (li i))), .t na 5 L]),some (.arr 43 1 (tab i fun a=> .t N 1 (tab N fun j=> .v (.int .i64 (A a j)))) 0)])
  (fun i=>i≤na) (fun i=>na - i) 0 (Nat.zero_le _) ?_ ?_
 ·refine Ent.trans (Ent.nil 5 43 1 (by omega) rfl) (Ent.fit ?_);exact Wv.V
 intro i hi;by_cases hlt:i<na
 ·have e1:(i:Int)<na:=by omega
  obtain ⟨r2,hd⟩:=hdr i hlt;have hG:=bU (ar i);obtain ⟨k',s',n',nl',li',na',ar',hy⟩:=lQ (hh i hlt);have hy2:exC (ar i)=_:=(congrArg exC hy).trans (dh k' s' n' nl' li' na' ar');have hEi:=hE i hlt;rw [hy2] at hd hEi hG;simp only [List.cons_append,List.nil_append] at hd;unfold vcA at hEi;refine Wv.W2 (ah e1) hd ?_;refine aJ (fst:=[]) (cap:=[]) (hEi _ (dR hG) (by rintro r rfl;simp only [Wv.BC]) (by rintro r h;exact h.elim)) ?_ (by rintro av h' ⟨h,_⟩;exact h.elim);rintro av h' ⟨rfl,rfl⟩;refine Wv.W ?_;refine Wv.iO (i+1) 4 (by first | decide | exact Nat.le_of_ble_eq_true rfl) (show i+1≤na by omega) (by omega) (Wv.V2f @bJ @bJ) (Wv.V3 @Int.natCast_add @Int.natCast_one @bJ) (by simp only [Wv.BL, ↓reduceIte,Nat.reduceLeDiff,Py,eq_true hLc]<;>omega) (by simp only [Wv.BL, ↓reduceIte,Nat.reduceLeDiff,Py,eq_true hLc]<;>omega)
 obtain rfl:i=na:=by omega
 refine Wv.W2 @Int.lt_irrefl @decide_false ?_;by_cases c1:k=1
 ·rw [if_pos c1] at hSp;have hq:=hg.1 c1;refine Wv.W1 (ah c1) ?_;refine aQ (σ:=Nat) (fun q=>[(0, .ptr 0 0),(3, .ptr 2 0),(7, .v (.int .i64 q))])
   (fun _=>[some (.blk [.v (.int .i64 N), .v (.int .i64 t), .own 1 m]),some (.arr 135 2 (nvM N m en ev) 0),some (.blk [.v (.int .i64 k), .v (.string s), .v (.int .i64 n), .t nl 1 (tab nl fun i=> .v (.int .i64 (li i))), .t i 5 L]),some (.arr 43 1 (tab i fun a=> .t N 1 (tab N fun j=> .v (.int .i64 (A a j)))) 0)])
   (fun q=>q≤m∧ ∀ j,j<q→decide (en j=s)=false) (fun q=>m - q) 0 ⟨Nat.zero_le _,fun j hj=>by omega⟩ Wv.V Wv.V ?_
  rintro q ⟨hqm,hb⟩;by_cases hlq:q<m
  ·have e2:(q:Int)<m:=by omega
   obtain ⟨r,hd⟩:=hdn q hlq;unfold vcA at hd;cases hc:decide (en q=s) with
   | true=>
    have hff:=iF (p:=fun i=>decide (en i=s)) hlq hc hb;rw [hff] at hSp;simp only at hSp;subst hSp;have hgx:(nvM N m en ev)[q*2+1]? =some (.t N 1 (tab N fun j=> .v (.int .i64 (ev q j)))):=by rw [←List.getElem?_drop,hd];rfl
    simp (disch:=first|exact Wv.D|fail) only [Wv.B,simprocAttr,ah e2,hd,hc,hln,hgx,vcA]
   | false=>
    refine Wv.W4 (ah e2) hd hc hln ?_;refine au (q+1) ⟨by omega,fun j hj=>?_⟩ (by omega) rfl Wv.V2;by_cases e:j=q
    ·subst e;exact hc
    ·exact hb j (by omega)
  ·obtain rfl:q=m:=by omega
   have hff:=gq hb;rw [hff] at hq;cases hq
 rw [if_neg c1] at hSp;have hVj: ∀ j,V j=rbN t (Ak N t k n li (lsF k nl li) A j):=fun j=>congrFun hSp j
 have hin:=Eb hf;have hli:=QE hf;obtain ⟨_,h8,h11,h14,aiD,_⟩:=hg;have hAA: ∀ a,a<i→ ∀ j,j<N→ -((t - 1) / 2)≤A a j∧A a j≤(t - 1) / 2:=fun a _=>hvA a
 have hS:=fun (j:Nat) hj=>aaV N t (.t m 2 (nvM N m en ev)) (.t hcn) k s n nl li i L A j ht hodd ht' hN hN2 hN3 hj hnl hAA ⟨by omega,hk2⟩ hna' hin (I7 N hli) h8 h11 h14 hLc
 have ant: ∀ j,j<N→inB (lsF k nl li j)=true:=fun j hj=>by
  unfold lsF;split
  ·exact I7 N hli j hj
  ·rfl
 have hin2:=fun (j:Nat) (hj:j<N)=>ZK (n:=n) (k:=k) (li:=li) (ls:=lsF k nl li) (N:=N) (A:=A) (j:=j) ht hodd ht' hN hN2 hN3 hin hli hna' ⟨by omega,hk2⟩ hAA h8 h11 h14 ant hj
 have hrs: ∀ j,j<N→ -9223372036854775808≤Ak N t k n li (lsF k nl li) A j∧Ak N t k n li (lsF k nl li) A j≤9223372036854775807:=fun j hj=>by
  unfold Ak;split
  ·have:=O5 (a:=A 0 j) ht hodd n.toNat;omega
  ·have:=hin2 j hj;omega
 have hB:=fun (j:Nat) hj=>QT t (Ak N t k n li (lsF k nl li) A j) ht ht' (hrs j hj)
 simp only [←hVj] at hB;refine Wv.W1 (aj c1) ?_;refine jU (σ:=Nat) (fun j=>[(0, .ptr 0 0),(3, .ptr 2 0),(5, .own 3 i),(8, .own 4 j),(9, .v (.int .i64 j))])
  (fun j=>[some (.blk [.v (.int .i64 N), .v (.int .i64 t), .own 1 m]),some (.arr 135 2 (nvM N m en ev) 0),some (.blk [.v (.int .i64 k), .v (.string s), .v (.int .i64 n), .t nl 1 (tab nl fun i=> .v (.int .i64 (li i))), .t i 5 L]),some (.arr 43 1 (tab i fun a=> .t N 1 (tab N fun j=> .v (.int .i64 (A a j)))) 0),some (.arr 2 1 (tab j fun j=> .v (.int .i64 (V j))) 0)])
  (fun j=>j≤N) (fun j=>N - j) 0 (Nat.zero_le _) ?_ ?_
 ·refine Ent.trans (Ent.nil 8 2 1 (by omega) rfl) (Ent.fit ?_);exact Wv.V
 intro j hj;by_cases hlj:j<N
 ·have e2:(j:Int)<N:=by omega
  have hSj:=hS j hlj;have hBj:=hB j hlj;refine Wv.W1 (ah e2) ?_;refine UO 2 hSj ?_ ?_ (.v _) ?_
  ·show [vB 2 _ _,vB 2 _ _,vB 2 _ _,vB 2 _ _]=_;rw [aaW (fz:=0) rfl rfl,ajz (fz:=0) rfl];rfl
  ·intro a ha;simp only [List.mem_cons,List.not_mem_nil,or_false] at ha;rcases ha with rfl | rfl | rfl | rfl
   ·unfold slA;exact .tp (List.forall_mem_cons.2 ⟨.v _,List.forall_mem_cons.2 ⟨.v _,List.forall_mem_cons.2 ⟨.t hcn,fun _ h=>by cases h⟩⟩⟩)
   ·simp only [Wv.BC];exact hLc
   ·unfold agA;simp only [Wv.BC]
   ·exact .v _
  refine Wv.W ?_;refine ak hBj rfl Wv.c Wv.c ?_;refine Wv.W ?_;refine Wv.iO (j+1) 5 (by first | decide | exact Nat.le_of_ble_eq_true rfl) (show j+1≤N by omega) (by omega) (Wv.V2f @bJ @bJ) (Wv.V3 @Int.natCast_add @Int.natCast_one @bJ) (by simp only [Wv.BL, ↓reduceIte,Nat.reduceLeDiff,Py,eq_true hLc]<;>omega) (by simp only [Wv.BL, ↓reduceIte,Nat.reduceLeDiff,Py,eq_true hLc]<;>omega)
 ·obtain rfl:j=N:=by omega
  simp (disch:=first|exact Wv.D|fail) only [Wv.B,simprocAttr,Int.lt_irrefl,decide_false,vcA]
end
section
open Go.RowKit Wv
theorem Eu {t n:Int} (ht:3≤t): ∃ q,lT t n=n+t*q:=by
 have h:=Int.mul_tdiv_add_tmod n t;unfold lT;split
 ·exact ⟨-(n.tdiv t) - 1,by rw [Int.mul_sub,Int.mul_neg,Int.mul_one];omega⟩
 ·split
  ·exact ⟨-(n.tdiv t)+1,by rw [Int.mul_add,Int.mul_neg,Int.mul_one];omega⟩
  ·exact ⟨-(n.tdiv t),by rw [Int.mul_neg];omega⟩
theorem afb {t a b q:Int} (ht:3≤t) (ho:t % 2=1) (ha: -((t - 1) / 2)≤a∧a≤(t - 1) / 2) (hb: -((t - 1) / 2)≤b∧b≤(t - 1) / 2) (h:a=b+t*q):a=b:=by
 have h1:q<1:=by
  refine Int.not_le.1 fun c=>?_
  have:=Int.mul_le_mul_of_nonneg_left c (show 0≤t by omega);omega
 have h2: -1<q:=by
  refine Int.not_le.1 fun c=>?_
  have:=Int.mul_le_mul_of_nonneg_left c (show 0≤t by omega);omega
 obtain rfl:q=0:=by omega
 omega
theorem zo {t:Int} (ht:3≤t): ∀ (f:Nat) (o a:Int) (k:Nat),k<2 ^ f→ ∃ q,Ah t f o a k=o*a ^ k+t*q
 | 0,o,a,k,hk=>by
  have:k=0:=by simpa using hk
  subst this;exact ⟨0,by show o=_;simp⟩
 | f+1,o,a,k,hk=>by
  unfold Ah;by_cases h0:k=0
  ·subst h0;exact ⟨0,by simp⟩
  ·rw [if_pos (show (k:Int)>0 by omega)];have e1:(k:Int) / 2=((k / 2:Nat):Int):=rfl;rw [e1];obtain ⟨q1,h1⟩:=Eu (n:=a*a) ht;obtain ⟨q2,h2⟩:=Eu (n:=o*a) ht;have hk2:k / 2<2 ^ f:=by rw [Nat.pow_succ] at hk;omega
   have pw: ∀ m:Nat, ∃ q,(a*a+t*q1) ^ m=(a*a) ^ m+t*q:=by
    intro m;induction m with
    | zero=>exact ⟨0,by simp⟩
    | succ m ih=>
     obtain ⟨q,hq⟩:=ih;refine ⟨q*(a*a)+(a*a) ^ m*q1+t*q*q1,?_⟩;rw [Int.pow_succ,Int.pow_succ,hq];grind
   obtain ⟨q3,h3⟩:=pw (k / 2);have h4:(a*a) ^ (k / 2)=a ^ (2*(k / 2)):=by rw [Int.pow_mul,show a ^ 2=a*a by rw [Int.pow_succ,Int.pow_succ];simp]
   by_cases hod:(k:Int) % 2=1
   ·obtain ⟨q,hq⟩:=zo ht f (lT t (o*a)) (lT t (a*a)) (k / 2) hk2;rw [if_pos hod];have h5:a ^ k=a ^ (2*(k / 2))*a:=by rw [←Int.pow_succ];congr 1;omega
    refine ⟨(o*a)*q3+q2*a ^ (2*(k / 2))+t*q2*q3+q,?_⟩;rw [hq,h1,h3,h2,h4,h5];grind
   ·obtain ⟨q,hq⟩:=zo ht f o (lT t (a*a)) (k / 2) hk2;rw [if_neg hod];have h5:a ^ k=a ^ (2*(k / 2)):=by congr 1;omega
    refine ⟨o*q3+q,?_⟩;rw [hq,h1,h3,h4,h5];grind
theorem Ns {t a:Int} (ht:3≤t) (ho:t % 2=1): ∀ k:Nat, ∃ q,rpw t a k=a ^ k+t*q
 | 0=>⟨0,by show (1:Int)=_;simp⟩
 | k+1=>by
  obtain ⟨q,hq⟩:=Ns ht ho k;obtain ⟨q1,h1⟩:=Eu (n:=rpw t a k*a) ht;refine ⟨q*a+q1,?_⟩;show rbN t (rpw t a k*a)=_;rw [aak ht ho,h1,hq,Int.pow_succ];grind
theorem aaZ {t a:Int} {k:Nat} (ht:3≤t) (ho:t % 2=1) (hk:k<18446744073709551616):rpw t a k=LK t a k:=by
 obtain ⟨q,hq⟩:=Ns (a:=a) ht ho k;obtain ⟨q',hq'⟩:=zo ht 64 1 a k (by simpa using hk);have e:LK t a k=Ah t 64 1 a k:=rfl;refine afb (q:=q - q') ht ho (O5 ht ho k) (ZJ ht ho) ?_;rw [hq,e,hq'];grind
theorem Vz {N:Nat} {t k n:Int} {li ls:Nat→Int} {A:Nat→Nat→Int} {j:Nat} (ht:3≤t) (ho:t % 2=1) (h14:k=14→0≤n∧n≤4294967295):rbN t (Ak N t k n li ls A j)=lT t (slZ N t k n li ls A j):=by
 rw [aak ht ho];unfold Ak;split
 ·next h=>
  obtain ⟨h1,h2⟩:=h14 h;obtain ⟨m,rfl⟩: ∃ m:Nat,n=m:=⟨n.toNat,by omega⟩
  rw [Int.toNat_natCast,aaZ ht ho (by omega)];subst h;rfl
 ·rfl
end
section
open Go.RowKit Wv
def enC (c:Ci) (q:Nat):ByteArray:=if q<c.ni then c.fi q else c.ln (q - c.ni)
def evS (N:Nat) (t:Int) (c:Ci) (vs:Nat→Nat→Int):Nat→Nat→Nat→Int
 | 0=>vs
 | i+1=>fun q=>if q=c.ni+i then rvX N t (c.ni+i) (enC c) (evS N t c vs i) (c.le i) else evS N t c vs i q
theorem Pz {n:Nat} {f g:Nat→List AV} (h: ∀ i,i<n→f i=g i):cO n f=cO n g:=by
 induction n with
 | zero=>rfl
 | succ n ih=>rw [kT,kT,ih fun i hi=>h i (by omega),h n (by omega)]
theorem Nu (N m:Nat) (en:Nat→ByteArray) (ev:Nat→Nat→Int):nvM N (m+1) en ev=nvM N m en ev++[.v (.string (en m)),vcA N (ev m)]:=kT m _
theorem Jq {N:Nat} {t:Int} {c:Ci} {vs:Nat→Nat→Int} (ht:3≤t) (ho:t % 2=1) (h0: ∀ q,q<c.ni→ ∀ j,j<N→ -((t - 1) / 2)≤vs q j∧vs q j≤(t - 1) / 2): ∀ i q,q<c.ni+i→ ∀ j,j<N→ -((t - 1) / 2)≤evS N t c vs i q j∧evS N t c vs i q j≤(t - 1) / 2
 | 0,q,hq,j,hj=>h0 q hq j hj
 | i+1,q,hq,j,hj=>by
  show -((t - 1) / 2)≤(if q=c.ni+i then rvX N t (c.ni+i) (enC c) (evS N t c vs i) (c.le i) else evS N t c vs i q) j∧(if q=c.ni+i then rvX N t (c.ni+i) (enC c) (evS N t c vs i) (c.le i) else evS N t c vs i q) j≤_;split
  ·exact aaX ht ho (Jq ht ho h0 i) (c.le i) j hj
  ·exact Jq ht ho h0 i q (by omega) j hj
theorem aa0 (N:Nat) (t:Int) (c:Ci) (vs:Nat→Nat→Int) (i:Nat):nvM N (c.ni+(i+1)) (enC c) (evS N t c vs (i+1))=nvM N (c.ni+i) (enC c) (evS N t c vs i)++[.v (.string (c.ln i)),vcA N (rvX N t (c.ni+i) (enC c) (evS N t c vs i) (c.le i))]:=by
 show nvM N ((c.ni+i)+1) _ _=_;rw [Nu];have e1:enC c (c.ni+i)=c.ln i:=by unfold enC;rw [if_neg (by omega),Nat.add_sub_cancel_left]
 have e2:evS N t c vs (i+1) (c.ni+i)=rvX N t (c.ni+i) (enC c) (evS N t c vs i) (c.le i):=if_pos rfl;have e3:nvM N (c.ni+i) (enC c) (evS N t c vs (i+1))=nvM N (c.ni+i) (enC c) (evS N t c vs i):=Pz fun q hq=>by
  have:evS N t c vs (i+1) q=evS N t c vs i q:=if_neg (by omega);rw [this]
 rw [e1,e2,e3]
theorem rdW {N:Nat} {t:Int} {m:Nat} {en:Nat→ByteArray} {ev:Nat→Nat→Int} {f:FuncId} {args:List AV} {R p:AV→Prop} (T:RD Tryz.prog f (.ptr 0 0::args) (hW N t m en ev) R p) (o0 o1:Option Ob) (r:Hp) (ha: ∀ (a:AV),a∈args→Clo a) (hR: ∀ r,R r→Clo r) (hp: ∀ r,p r→Clo r):
  RD Tryz.prog f (.ptr 2 0::args) (o0::o1::some (.blk [.v (.int .i64 N), .v (.int .i64 t), .own 3 m])::some (.arr 135 2 (nvM N m en ev) 0)::r) R p:=by
 refine RD.frame (σ:=fun i=>i+2) T ⟨fun i j hi hj e=>?_,fun i o ho=>?_⟩ ⟨.ptr (by show 0<2;omega),RnL.clo ha⟩ hR hp
 ·have e':i+2=j+2:=e;omega
 ·unfold hW at ho ⊢;match i with
  | 0=>
   simp at ho;subst ho;exact ⟨_,_,rfl,rfl, .clo (.v _), .clo (.v _), .own (by show 1<2;omega),trivial⟩
  | 1=>
   simp at ho;subst ho;exact ⟨_,_,rfl,rfl,rfl,rfl,rfl,RnL.clo (xQ N m en ev)⟩
  | i+2=>simp at ho
def nmR (s:ByteArray):Ex:= .mk 1 s 0 0 (fun _=>0) 0 (fun _=> .nil)
def zq (N:Nat) (t:Int) (c:Ci) (vs:Nat→Nat→Int) (o:Nat):Nat→Int:=rvX N t (c.ni+c.nl) (enC c) (evS N t c vs c.nl) (nmR (c.fo o))
def goR (N:Nat) (t:Int) (c:Ci):Prop:=
 (∀ i,i<c.nl→okE (c.le i)∧aW (c.le i)=true∧goW N t (c.ni+i) (enC c) (c.le i))∧c.ni≤8∧c.nl≤60∧c.no≤8∧ ∀ i,i<c.no→(findF (fun q=>decide (enC c q=c.fo i)) (c.ni+c.nl)).isSome=true∧aW (nmR (c.fo i))=true
def Ew (N:Nat) (t e:Int) (c:Ci) (m:Nat) (ln:Nat→Nat) (vs:Nat→Nat→Int):AV:=
 if e≠0 then .tup [.v (.slice none 0 0), .v (.int .i64 e)] else if m≠c.ni then .tup [.v (.slice none 0 0), .v (.int .i64 2)] else if aI m (fun i=>!vk N t (ln i) (vs i))=true then .tup [.v (.slice none 0 0), .v (.int .i64 2)]
 else .tup [.t c.no 1 (tab c.no fun i=>vcA N (zq N t c vs i)), .v (.int .i64 0)]
theorem aa1 (x:Par) (c:Ci) (N:Nat) (t e at_:Int) (ss:List (Bool × Nat)) (hx:x.n=N) (ht:3≤t) (hodd:t % 2=1) (ht':t≤2147483647) (hN:4≤N) (hN2:N≤32) (hN3:N % 2=0)
  (TT:TC Tryz.prog 20 [.g (dN x), .g (ciC c)] (typeA (ss,at_,e))) (TM:TC Tryz.prog 36 [.g (dN x), .v (.int .i64 x.r)] (.tup [.v (.int .i64 t), .v (.int .i64 0)])) (hok:okC c)
  (m:Nat) (ln:Nat→Nat) (vs:Nat→Nat→Int) (hm:m≤140737488351232) (hln: ∀ i,i<m→ln i≤140737488351232) (hgo:e=0→goR N t c):
  TC Tryz.prog 34 [.g (dN x), .g (ciC c),vsA m ln vs] (Ew N t e c m ln vs):=by
 have hP:=dI x;have hcc:=qj c;have hll:=wM c;have hlc:=iV c;have hnl:=hok.nl;have hni:=hok.ni;have hA:Ew N t e c m ln vs=if e≠0 then .tup [.v (.slice none 0 0), .v (.int .i64 e)] else if m≠c.ni then .tup [.v (.slice none 0 0), .v (.int .i64 2)] else if aI m (fun i=>!vk N t (ln i) (vs i))=true then .tup [.v (.slice none 0 0), .v (.int .i64 2)]
  else .tup [.t c.no 1 (tab c.no fun i=>vcA N (zq N t c vs i)), .v (.int .i64 0)]:=rfl
 have Wp: ∀ a,a=Ew N t e c m ln vs→Clo a:=by
  rintro a rfl;unfold Ew vcA;split
  ·simp only [Wv.BC]
  ·split
   ·simp only [Wv.BC]
   ·split<;>simp only [Wv.BC]
 unfold vsA vcA;unfold dN ciC bG at*;rw [hx] at*;refine Wv.TC.by 132 [0,1,3,4,10,26,2,40,11,14,49,60,13,15,84,17,115,16,6,7] [(11,7),(13,16),(17,21),(3000011,8),(3000013,8),(3000017,8)] [.tmp 6, .tmp 7] Tryz.func34 rfl rfl rfl ?clo ?_
 case clo=>exact Wp _ rfl
 unfold typeA at TT;refine Wv.W ?_;refine ak TT rfl (wS (.g hP) (.g hcc)) (by simp only [Wv.BC];exact kX _) ?_;by_cases he:e=0
 ·rw [if_neg (fun q=>q he)] at hA;refine Wv.W1 (ah he) ?_;refine ak TM rfl (wS (.g hP) Wv.c) Wv.c ?_;by_cases hmi:m=c.ni
  ·rw [if_neg (fun q=>q hmi)] at hA;have e1:(m:Int)=c.ni:=by omega
   have hdr: ∀ i,i<c.nl→ ∃ r,List.drop (i*6) c.lets=iD (c.ln i) (c.le i)++r:=fun i hi=>bH (f:=fun i=>iD (c.ln i) (c.le i)) (fun i=>gV _ _) hi
   generalize c.lets=L at hll hlc hdr ⊢;obtain ⟨hgl,hg1,hg2,hg3,hgs⟩:=hgo he;have Py: ∀ k m ev,loL k (nvM N m (enC c) ev)=True:=fun k m ev=>eq_true fun a ha=> .clo (xQ N m (enC c) ev a ha)
   have anH:=fun m ev=>xP N m (enC c) ev
   have hn0: ∀ ev,nvM N 0 (enC c) ev=[]:=fun ev=>rfl
   refine Wv.W1 (ah e1) ?_;refine jU (σ:=Nat) (fun i=>[(2, .t m 1 (tab m fun i=> .t (ln i) 1 (tab (ln i) fun j=> .v (.int .i64 (vs i j))))),(3, .ptr 0 0),(4, .ptr 1 0),(11, .v (.int .i64 t)),(13, .ptr 2 0),(14, .v (.int .i64 i))])
    (fun i=>[some (.blk [.v (.int .i64 N), .v (.int .u32 x.p), .v (.int .i64 x.r), .t x.ch.length 1 (x.ch.map fun (c:Nat)=> .v (.int .u32 c)), .v (.int .u32 x.sp), .v (.int .i64 x.wt), .v (.int .u32 x.er)]),some (.blk [.v (.string c.name), .t c.ni 1 (tab c.ni fun i=> .v (.string (c.fi i))), .t c.nl 6 L, .t c.no 1 (tab c.no fun i=> .v (.string (c.fo i)))]),some (.blk [.v (.int .i64 N), .v (.int .i64 t), .own 3 i]),some (.arr 135 2 (nvM N i (enC c) vs) 0)])
    (fun i=>i≤m∧ ∀ a,a<i→vk N t (ln a) (vs a)=true) (fun i=>m - i) 0 ⟨Nat.zero_le _,fun a h=>absurd h (Nat.not_lt_zero a)⟩ ?_ ?_
   ·refine Ent.trans (Ent.adD 2 2 135 2 _ (by omega) rfl rfl) (Ent.fit ?_);exact Wv.V1 hn0
   rintro i ⟨hi,hgood⟩;by_cases hlt:i<m
   ·have e2:(i:Int)<m:=by omega
    have hli:=hln i hlt;have TV:=aeO N t (ln i) (vs i) ht hodd ht' hli hN2;have hbad:vk N t (ln i) (vs i)=false→Ew N t e c m ln vs= .tup [.v (.slice none 0 0), .v (.int .i64 2)]:=fun h=>by
     rw [hA];exact if_pos (by unfold aI;exact List.any_eq_true.2 ⟨i,List.mem_range.2 hlt,by rw [h];rfl⟩)
    have hLn:vk N t (ln i) (vs i)=true→ln i=N:=fun h=>by
     unfold vk at h;rw [Bool.and_eq_true] at h;exact of_decide_eq_true h.2
    have hic:i<c.ni:=by omega
    have hen:enC c i=c.fi i:=if_pos hic;unfold vcA at TV;refine Wv.W1 (ah e2) ?_;refine ak TV rfl Wv.c Wv.c ?_;cases hv:vk N t (ln i) (vs i) with
    | false=>
     have hbd:=hbad hv;simp (disch:=first|exact Wv.D|fail) only [Wv.B,simprocAttr,hbd]
    | true=>
     have hl:=hLn hv;have hsn:=Nu N i (enC c) vs;rw [hen] at hsn;unfold vcA at hsn;have hl2:=xP N i (enC c) vs;have hcl: ∀ a b c' z,cellsA [a,b,c',some (.arr 135 2 (nvM N i (enC c) vs++[.v (.string (c.fi i)), .t (ln i) 1 (tab (ln i) fun j=> .v (.int .i64 (vs i j)))]) z)] (.own 3 (i+1))=some [.own 3 (i+1)]:=fun a b c' z=>oK (by rw [mP];show decide _=true;exact ah (by rw [List.length_append,hl2];show i*2+2=(i+1)*2;omega))
     have hdl:decide ((nvM N i (enC c) vs).length+2=(i+1)*2)=true:=ah (by rw [hl2];omega);refine Wv.W2 hcl hdl ?_;refine au (i+1) ⟨by omega,fun a ha=>by by_cases q:a=i;exact q▸hv;exact hgood a (by omega)⟩ (by omega) (Wv.V2f hsn hl) Wv.V2
   ·obtain rfl:i=m:=by omega
    have hnb: ¬ aI i (fun i=>!vk N t (ln i) (vs i))=true:=by
     unfold aI;intro h;obtain ⟨a,ha,hb⟩:=List.any_eq_true.1 h;rw [hgood a (List.mem_range.1 ha)] at hb;cases hb
    rw [if_neg hnb] at hA;have h0: ∀ q,q<c.ni→ ∀ j,j<N→ -((t - 1) / 2)≤vs q j∧vs q j≤(t - 1) / 2:=fun q hq j hj=>by
     have hv:=hgood q (by omega);unfold vk at hv;rw [Bool.and_eq_true] at hv;have hN':ln q=N:=of_decide_eq_true hv.2;have h1:aI (ln q) (fun i=>decide (vs q i< -((t - 1) / 2)) || decide ((t - 1) / 2<vs q i))=false:=by simpa using hv.1
     unfold aI at h1;have h2:=List.any_eq_false.1 h1 j (List.mem_range.2 (by omega));simp only [Bool.or_eq_true,decide_eq_true_eq,not_or] at h2;omega
    refine Wv.W2 @Int.lt_irrefl @decide_false ?_;clear hgood hi hlt hnb hln;refine aQ (σ:=Nat) (fun i=>[(3, .ptr 0 0),(4, .ptr 1 0),(13, .ptr 2 0),(15, .v (.int .i64 i))])
     (fun i=>[some (.blk [.v (.int .i64 N), .v (.int .u32 x.p), .v (.int .i64 x.r), .t x.ch.length 1 (x.ch.map fun (c:Nat)=> .v (.int .u32 c)), .v (.int .u32 x.sp), .v (.int .i64 x.wt), .v (.int .u32 x.er)]),some (.blk [.v (.string c.name), .t c.ni 1 (tab c.ni fun i=> .v (.string (c.fi i))), .t c.nl 6 L, .t c.no 1 (tab c.no fun i=> .v (.string (c.fo i)))]),some (.blk [.v (.int .i64 N), .v (.int .i64 t), .own 3 (c.ni+i)]),some (.arr 135 2 (nvM N (c.ni+i) (enC c) (evS N t c vs i)) 0)])
     (fun i=>i≤c.nl) (fun i=>c.nl - i) 0 (Nat.zero_le _) (by simp (disch:=first|exact Wv.D|fail) only [Wv.B,simprocAttr,hmi,evS]) Wv.V ?_
    intro i hi;by_cases hlt:i<c.nl
    ·have e2:(i:Int)<c.nl:=by omega
     obtain ⟨r2,hd⟩:=hdr i hlt;obtain ⟨ho1,hf1,hw1⟩:=hgl i hlt;have TE:=aaY N t (c.ni+i) (enC c) (evS N t c vs i) (by omega) ht hodd ht' hN hN2 hN3 (Jq ht hodd h0 i) (c.le i) ho1 hf1 hw1;have hG:=bU (c.le i);have hGl:=rC (c.ln i) (c.le i);have hnx:=aa0 N t c vs i;have hl2:=xP N (c.ni+i) (enC c) (evS N t c vs i);have hadd:c.ni+(i+1)=c.ni+i+1:=rfl;obtain ⟨k',s',n',nl',li',na',ar',hy⟩:=lQ ho1;have hy2:exC (c.le i)=_:=(congrArg exC hy).trans (dh k' s' n' nl' li' na' ar');unfold iD at hd hGl;rw [hy2] at hd TE hG hGl;simp only [List.cons_append,List.nil_append] at hd;have hE:=rdW TE;unfold vcA at hnx hE;refine Wv.W2 (ah e2) hd ?_;refine dD (fst:=[]) (cap:=[]) (hE _ _ _ (dR hG) (by rintro r rfl;simp only [Wv.BC]) (by rintro r h;exact h.elim)) ?_ (by rintro av h' ⟨h,_⟩;exact h.elim);have hcl: ∀ a b c' z,cellsA [a,b,c',some (.arr 135 2 (nvM N (c.ni+i) (enC c) (evS N t c vs i)++[.v (.string (c.ln i)), .t N 1 (tab N fun j=> .v (.int .i64 (rvX N t (c.ni+i) (enC c) (evS N t c vs i) (c.le i) j)))]) z)] (.own 3 (c.ni+i+1))=some [.own 3 (c.ni+i+1)]:=fun a b c' z=>oK (by rw [mP];show decide _=true;exact ah (by rw [List.length_append,hl2];show (c.ni+i)*2+2=(c.ni+i+1)*2;omega))
     have hdl:decide ((nvM N (c.ni+i) (enC c) (evS N t c vs i)).length+2=(c.ni+i+1)*2)=true:=ah (by rw [hl2];omega);refine Wv.W2 hcl hdl ?_;refine au (i+1) (show i+1≤c.nl by omega) (by omega) (by rw [hnx];rfl) Wv.V2
    ·obtain rfl:i=c.nl:=by omega
     refine Wv.W2 @Int.lt_irrefl @decide_false ?_;have hlv2:=Py;refine jU (σ:=Nat) (fun i=>[(4, .ptr 1 0),(13, .ptr 2 0),(16, .own 4 i),(17, .v (.int .i64 i))])
      (fun i=>[some (.blk [.v (.int .i64 N), .v (.int .u32 x.p), .v (.int .i64 x.r), .t x.ch.length 1 (x.ch.map fun (c:Nat)=> .v (.int .u32 c)), .v (.int .u32 x.sp), .v (.int .i64 x.wt), .v (.int .u32 x.er)]),some (.blk [.v (.string c.name), .t c.ni 1 (tab c.ni fun i=> .v (.string (c.fi i))), .t c.nl 6 L, .t c.no 1 (tab c.no fun i=> .v (.string (c.fo i)))]),some (.blk [.v (.int .i64 N), .v (.int .i64 t), .own 3 (c.ni+c.nl)]),some (.arr 135 2 (nvM N (c.ni+c.nl) (enC c) (evS N t c vs c.nl)) 0),some (.arr 43 1 (tab i fun o=> .t N 1 (tab N fun j=> .v (.int .i64 (zq N t c vs o j)))) 0)])
      (fun i=>i≤c.no) (fun i=>c.no - i) 0 (Nat.zero_le _) ?_ ?_
     ·refine Ent.trans (Ent.nil 16 43 1 (by omega) rfl) (Ent.fit ?_);exact Wv.V
     intro i hi;by_cases hlt:i<c.no
     ·have e2:(i:Int)<c.no:=by omega
      have hgn:goW N t (c.ni+c.nl) (enC c) (nmR (c.fo i)):=⟨fun _=>(hgs i hlt).1,fun h=>by omega,fun h=>by omega,fun h=>by omega,fun h=>by omega,fun j hj=>absurd hj (Nat.not_lt_zero j)⟩
      have hfo:=hok.fo i hlt;have TE:=aaY N t (c.ni+c.nl) (enC c) (evS N t c vs c.nl) (by omega) ht hodd ht' hN hN2 hN3 (Jq ht hodd h0 c.nl) (nmR (c.fo i)) ⟨hfo,by omega,by omega,fun j hj=>absurd hj (Nat.not_lt_zero j)⟩ (hgs i hlt).2 hgn;have hnE:exC (nmR (c.fo i))=[.v (.int .i64 1), .v (.string (c.fo i)), .v (.int .i64 0), .t 0 1 [], .t 0 5 []]:=rfl;rw [hnE] at TE;have hE:=rdW TE;have hoV:rvX N t (c.ni+c.nl) (enC c) (evS N t c vs c.nl) (nmR (c.fo i))=zq N t c vs i:=rfl;rw [hoV] at hE;unfold vcA at hE;refine Wv.W1 (ah e2) ?_;refine aJ (fst:=[]) (cap:=[]) (HTP.pre (args1:=[.ptr 2 0, .g [.v (.int .i64 1), .v (.string (c.fo i)), .v (.int .i64 0), .t 0 1 [], .t 0 5 []]]) (fun X vs hX hh hr=>⟨X,rfl,Step.refl X,hX,hh,fJ.wk (show WkL [.ptr 2 0, .g [.v (.int .i64 1), .v (.string (c.fo i)), .v (.int .i64 0), .v (.slice none 0 0), .v (.slice none 0 0)]] [.ptr 2 0, .g [.v (.int .i64 1), .v (.string (c.fo i)), .v (.int .i64 0), .t 0 1 [], .t 0 5 []]] from ⟨Wk.refl _,Wk.g (show WkL [.v (.int .i64 1), .v (.string (c.fo i)), .v (.int .i64 0), .v (.slice none 0 0), .v (.slice none 0 0)] [.v (.int .i64 1), .v (.string (c.fo i)), .v (.int .i64 0), .t 0 1 [], .t 0 5 []] from ⟨Wk.refl _,Wk.refl _,Wk.refl _,Wk.nil 1,Wk.nil 5,trivial⟩),trivial⟩) hr⟩) (hE _ _ _ Wv.c (by rintro r rfl;simp only [Wv.BC]) (by rintro r h;exact h.elim))) ?_ (by rintro av h' ⟨h,_⟩;exact h.elim);rintro av h' ⟨rfl,rfl⟩;refine Wv.W ?_;have hset:((tab i fun o=>AV.t N 1 (tab N fun j=> .v (.int .i64 (zq N t c vs o j))))++[AV.own 5 N]).set i (AV.t N 1 (tab N fun j=> .v (.int .i64 (zq N t c vs i j))))=tab (i+1) fun o=>AV.t N 1 (tab N fun j=> .v (.int .i64 (zq N t c vs o j))):=by
       rw [bJ (f:=fun o=>AV.t N 1 (tab N fun j=> .v (.int .i64 (zq N t c vs o j)))),List.set_append_right i _ (by rw [iC];exact Nat.le_refl _),iC,Nat.sub_self];rfl
      have hget:((tab i fun o=>AV.t N 1 (tab N fun j=> .v (.int .i64 (zq N t c vs o j))))++[AV.own 5 N])[i]? =some (AV.own 5 N):=by
       rw [List.getElem?_append_right (by rw [iC];exact Nat.le_refl _),iC,Nat.sub_self];rfl
      refine NJ (i+1) (Ent.trans (Ent.Zb 4 i (a:= .own 5 N) (a':= .t N 1 (tab N fun j=> .v (.int .i64 (zq N t c vs i j)))) rfl hget (if_pos (by rw [iC,Nat.mul_one])) rfl) (Ent.Iz 5 (by first | decide | exact Nat.le_of_ble_eq_true rfl) ?_ ?_ ?_ ?_)) (show i+1≤c.no by omega) (by omega)
      ·exact Wv.V2f @Int.natCast_add @Int.natCast_one
      ·simp only [Wv.BL, ↓reduceIte,Nat.reduceLeDiff]<;>omega
      ·simp only [List.set_cons_succ,List.set_cons_zero,List.take_succ_cons,List.take_zero,hset]
      ·simp only [Wv.BL, ↓reduceIte,Nat.reduceLeDiff,Py,eq_true hlc,nU]<;>omega
     ·obtain rfl:i=c.no:=by omega
      unfold vcA at hA;exact Wv.V3 @Int.lt_irrefl @decide_false hA
  ·rw [if_pos hmi] at hA;have e1: ¬ (m:Int)=c.ni:=by omega
   exact Wv.V2f (aj e1) hA
 ·rw [if_pos he] at hA;exact Wv.V2f (aj he) hA
end
section
open Go.RowKit Wv
variable {N:Nat}
theorem VA {t k n:Int} {li ls:Nat→Int} {A B:Nat→Nat→Int} {j na:Nat} (hk:2≤k∧k≤15) (hna:(na:Int)=argN k.toNat) (h: ∀ i,i<na→A i=B i):slZ N t k n li ls A j=slZ N t k n li ls B j:=by
 have hkk:k=2∨k=3∨k=4∨k=5∨k=6∨k=7∨k=8∨k=9∨k=10∨k=11∨k=12∨k=13∨k=14∨k=15:=by omega
 rcases hkk with rfl | rfl | rfl | rfl | rfl | rfl | rfl | rfl | rfl | rfl | rfl | rfl | rfl | rfl
 ·simp only [slZ, ↓reduceIte]
 ·simp only [slZ,Int.reduceEq, ↓reduceIte]
 ·have:na=2:=by have:argN (4:Int).toNat=2:=rfl;omega
  simp only [slZ,Int.reduceEq, ↓reduceIte,h 0 (by omega),h 1 (by omega)]
 ·have:na=2:=by have:argN (5:Int).toNat=2:=rfl;omega
  simp only [slZ,Int.reduceEq, ↓reduceIte,h 0 (by omega),h 1 (by omega)]
 ·have:na=1:=by have:argN (6:Int).toNat=1:=rfl;omega
  simp only [slZ,Int.reduceEq, ↓reduceIte,h 0 (by omega)]
 ·have:na=2:=by have:argN (7:Int).toNat=2:=rfl;omega
  simp only [slZ,Int.reduceEq, ↓reduceIte,h 0 (by omega),h 1 (by omega)]
 ·have:na=1:=by have:argN (8:Int).toNat=1:=rfl;omega
  simp only [slZ,Int.reduceEq, ↓reduceIte,h 0 (by omega)]
 ·have:na=1:=by have:argN (9:Int).toNat=1:=rfl;omega
  simp only [slZ,Int.reduceEq, ↓reduceIte,h 0 (by omega)]
 ·have:na=1:=by have:argN (10:Int).toNat=1:=rfl;omega
  simp only [slZ,Int.reduceEq, ↓reduceIte,h 0 (by omega)]
 ·have:na=1:=by have:argN (11:Int).toNat=1:=rfl;omega
  simp only [slZ,Int.reduceEq, ↓reduceIte,h 0 (by omega)]
 ·have:na=2:=by have:argN (12:Int).toNat=2:=rfl;omega
  simp only [slZ,Int.reduceEq, ↓reduceIte,h 0 (by omega),h 1 (by omega)]
 ·have:na=1:=by have:argN (13:Int).toNat=1:=rfl;omega
  simp only [slZ,Int.reduceEq, ↓reduceIte,h 0 (by omega)]
 ·have:na=1:=by have:argN (14:Int).toNat=1:=rfl;omega
  simp only [slZ,Int.reduceEq, ↓reduceIte,h 0 (by omega)]
 ·have:na=1:=by have:argN (15:Int).toNat=1:=rfl;omega
  simp only [slZ,Int.reduceEq, ↓reduceIte,h 0 (by omega)]
variable {en:Nat→ByteArray}{es:Env}{ev:Nat→Nat→Int}{m:Nat}
theorem aml {t:Int}     (ht:3≤t) (ho:t % 2=1) (hR: ∀ s,fH es s=(findF (fun i=>decide (en i=s)) m).map ev): ∀ e:Ex,okE e→aW e=true→goE N t es e→rvX N t m en ev e=evX N t es e:=by
 intro e;induction e with
 | nil=>intro h;exact h.elim
 | mk k s n nl li na ar ih=>
  intro hok hf hg;have ⟨⟨hk1,hk2⟩,_,hfa⟩:=gu hf;have hna:=A8 hf;have hin:=I8 (Eb hf);have hA: ∀ i,i<na→rvX N t m en ev (ar i)=evX N t es (ar i):=fun i hi=>ih i (hok.2.2.2 i hi) (hfa i hi) (hg.2.2.2.2.2 i hi)
  unfold rvX evX;by_cases c:k=1
  ·rw [if_pos c,if_pos c,hR s];cases findF (fun i=>decide (en i=s)) m<;>rfl
  ·rw [if_neg c,if_neg c];funext j
   rw [Vz ht ho (fun h=>⟨hg.2.2.2.1 h,hin.2⟩)];rw [VA (A:=fun i=>rvX N t m en ev (ar i)) (B:=fun i=>evX N t es (ar i)) ⟨by omega,hk2⟩ hna hA]
theorem anu {t:Int}     (hR: ∀ s,fH es s=(findF (fun i=>decide (en i=s)) m).map ev): ∀ e:Ex,goE N t es e→goW N t m en e:=by
 intro e;induction e with
 | nil=>intro h;exact h.elim
 | mk k s n nl li na ar ih=>
  intro hg;refine ⟨fun h=>?_,hg.2.1,hg.2.2.1,hg.2.2.2.1,hg.2.2.2.2.1,fun i hi=>ih i (hg.2.2.2.2.2 i hi)⟩;have:=hg.1 h;rw [hR s] at this;cases hq:findF (fun i=>decide (en i=s)) m with
  | none=>rw [hq] at this;cases this
  | some i=>rfl
theorem qx (p:Nat→Bool) (n:Nat):findF p (n+1)=match findF p n with | some i=>some i | none=>if p n=true then some n else none:=by
 unfold findF;rw [List.range_succ,List.find?_append];cases hq:List.find? p (List.range n) with
 | some i=>rfl
 | none=>
  show (List.find? p [n])=_;cases hp:p n with
  | true=>simp [hp]
  | false=>simp [hp]
theorem aa2 {ev':Nat→Nat→Int}  {s0:ByteArray} {f:Nat→Int} (hR: ∀ s,fH es s=(findF (fun i=>decide (en i=s)) m).map ev) (hs:en m=s0) (hf:ev' m=f) (he: ∀ q,q<m→ev' q=ev q) (hn:findF (fun i=>decide (en i=s0)) m=none): ∀ s,fH (bY es s0 f) s=(findF (fun i=>decide (en i=s)) (m+1)).map ev':=by
 intro s;rw [xq,qx];by_cases c:s=s0
 ·subst c;rw [if_pos rfl,hn];simp only [hs,decide_true,if_true,Option.map_some,hf]
 ·rw [if_neg c,hR s];cases hq:findF (fun i=>decide (en i=s)) m with
  | some i=>
   have hi:i<m:=by
    unfold findF at hq;exact List.mem_range.1 (List.mem_of_find?_eq_some hq)
   simp only [Option.map_some,he i hi]
  | none=>
   have:decide (en m=s)=false:=aj (by rw [hs];exact fun h=>c h.symm);simp only [this,Bool.false_eq_true,if_false];rfl
end
section
open Go.RowKit Wv
variable {s:ByteArray}
theorem afc (h:nameB s=true):aW (nmR s)=true:=by
 unfold nmR aW;rw [if_pos rfl,h];rfl
theorem zX {p q:Nat→Bool}: ∀ {n:Nat},(∀ i,i<n→p i=q i)→findF p n=findF q n
 | 0,_=>rfl
 | n+1,h=>by rw [qx,qx,zX fun i hi=>h i (by omega),h n (by omega)]
theorem GY {s':ByteArray} {r:Bool × Nat}: ∀ {ns:Nms},(aF (ns++[(s',r)]) s).isSome=((aF ns s).isSome || decide (s=s'))
 | []=>by
  show (if s=s' then some r else aF [] s).isSome=(false || decide (s=s'));by_cases e:s=s'
  ·rw [if_pos e,ah e];rfl
  ·rw [if_neg e,aj e];rfl
 | p::ns=>by
  show (if s=p.1 then some p.2 else aF (ns++[(s',r)]) s).isSome=((if s=p.1 then some p.2 else aF ns s).isSome || decide (s=s'));by_cases e:s=p.1
  ·rw [if_pos e,if_pos e];rfl
  ·rw [if_neg e,if_neg e];exact GY
variable {en:Nat→ByteArray}{m:Nat}
theorem VB :(findF (fun q=>decide (en q=s)) (m+1)).isSome=((findF (fun q=>decide (en q=s)) m).isSome || decide (s=en m)):=by
 rw [qx];cases findF (fun q=>decide (en q=s)) m with
 | some i=>rfl
 | none=>
  by_cases e:s=en m
  ·rw [ah e,ah e.symm];rfl
  ·rw [aj e,aj (fun h=>e h.symm)];rfl
def Nv (m:Nat) (en:Nat→ByteArray) (ev:Nat→Nat→Int) (ns:Nms) (es:Env):Prop:=(∀ s,(aF ns s).isSome=(findF (fun q=>decide (en q=s)) m).isSome)∧ ∀ s,fH es s=(findF (fun q=>decide (en q=s)) m).map ev
theorem VD {ev:Nat→Nat→Int} {ns:Nms} {es:Env} (h:Nv m en ev ns es)  (hn:(aF ns s).isSome=false):findF (fun q=>decide (en q=s)) m=none:=by
 rw [h.1 s] at hn;cases hq:findF (fun q=>decide (en q=s)) m with
 | none=>rfl
 | some i=>rw [hq] at hn;cases hn
variable {N:Nat}
theorem GZ {ev ev':Nat→Nat→Int} {ns:Nms} {es:Env} {s0:ByteArray} {r:Bool × Nat} {f:Nat→Int} (h:Nv m en ev ns es) (hs:en m=s0) (hf:ev' m=f) (he: ∀ q,q<m→ev' q=ev q) (hn:(aF ns s0).isSome=false):Nv (m+1) en ev' (ns++[(s0,r)]) (bY es s0 f):=
 ⟨fun s=>by rw [GY,VB,h.1 s,hs],aa2 h.2 hs hf he (VD h hn)⟩
theorem RF {N:Nat} {f:Nat→ByteArray} {vs:Nat→Nat→Int}: ∀ {n:Nat} {ns:Nms},iR f n=some ns→Nv n f vs ns (yX f vs n)
 | 0,ns,h=>by injection h with h;subst h;exact ⟨fun s=>rfl,fun s=>rfl⟩
 | n+1,ns,h=>by
  simp only [iR] at h;obtain ⟨ns1,h1,h2⟩:=Option.bind_eq_some_iff.1 h;cases hf:aF ns1 (f n) with
  | some r=>rw [hf] at h2;cases h2
  | none=>
   rw [hf] at h2;injection h2 with h2;subst h2;exact GZ (RF (N:=N) h1) rfl rfl (fun _ _=>rfl) (by rw [hf];rfl)
theorem RG {x:Par} {N t:Nat} {c:Ci} {vs:Nat→Nat→Int} {ns0:Nms} (ht:3≤t) (hodd:t % 2=1) (h0:Nv c.ni (enC c) vs ns0 (yX c.fi vs c.ni)) (hg: ∀ i,i<c.nl→okE (c.le i)∧aW (c.le i)=true∧goE N t (pG N t c vs i) (c.le i)): ∀ {n:Nat} {ns:Nms} {ss:List (Bool × Nat)},n≤c.nl→fF ns0 c.ln (fun ns i=>shE ns (ruA x t) (c.le i)) n= .ok (ns,ss)→Nv (c.ni+n) (enC c) (evS N t c vs n) ns (pG N t c vs n)
 | 0,ns,ss,_,h=>by
  have h':(Except.ok (ns0,[]):Except (Nat × Int) (Nms × List (Bool × Nat)))= .ok (ns,ss):=h;injection h' with h';injection h' with h1 h2;subst h1;exact h0
 | n+1,ns,ss,hn,h=>by
  simp only [fF] at h;cases h1:fF ns0 c.ln (fun ns i=>shE ns (ruA x t) (c.le i)) n with
  | error e=>rw [h1] at h;cases h
  | ok p=>
   obtain ⟨ns1,ss1⟩:=p;rw [h1] at h;have ih:=RG ht hodd h0 hg (by omega) h1;simp only [Af] at h;split at h
   ·cases h
   ·next hnone=>
    cases h2:shE ns1 (ruA x t) (c.le n) with
    | error e=>rw [h2] at h;cases h
    | ok r=>
     rw [h2] at h;have h3:(Except.ok (ns1++[(c.ln n,r)],ss1++[r]):Except (Nat × Int) (Nms × List (Bool × Nat)))= .ok (ns,ss):=h;injection h3 with h3;injection h3 with h4 h5;subst h4;obtain ⟨g1,g2,g3⟩:=hg n (by omega);have hev:=aml (N:=N) (t:=(t:Int)) (by omega) (by omega) ih.2 (c.le n) g1 g2 g3;refine GZ (m:=c.ni+n) ih ?_ ?_ (fun q hq=>if_neg (by omega)) (by simpa using hnone)
     ·unfold enC;rw [if_neg (by omega),Nat.add_sub_cancel_left]
     ·exact (if_pos rfl).trans hev
theorem afd {t:Int} {n:Nat} {f:Nat→Int} (h4:4≤N):(!vk N t n f)=Ec N t n f:=by
 unfold vk Ec;by_cases e:n=N
 ·subst e;rw [ah rfl,ah rfl,Bool.and_true,Bool.not_not,Bool.not_true,Bool.false_or];have h1:=OT (f:=f) (h:=(t - 1) / 2) (n - 1);have h2:=OU (f:=f) (h:= -((t - 1) / 2)) (n - 1);by_cases c1:mxN f (n - 1)>(t - 1) / 2
  ·rw [ah c1,Bool.true_or];unfold aI;rw [List.any_eq_true];refine Classical.byContradiction fun hc=>absurd (h1.2 fun i hi=>?_) (by omega)
   refine Classical.byContradiction fun hi2=>hc ⟨i,List.mem_range.2 (by omega),?_⟩
   rw [ah (show (t - 1) / 2<f i by omega)];simp
  ·rw [aj c1,Bool.false_or];by_cases c2:mnN f (n - 1)< -((t - 1) / 2)
   ·rw [ah c2];unfold aI;rw [List.any_eq_true];refine Classical.byContradiction fun hc=>absurd (h2.2 fun i hi=>?_) (by omega)
    refine Classical.byContradiction fun hi2=>hc ⟨i,List.mem_range.2 (by omega),?_⟩
    rw [ah (show f i< -((t - 1) / 2) by omega)];rfl
   ·rw [aj c2];unfold aI;rw [List.any_eq_false];intro i hi;have hi':=List.mem_range.1 hi;have a1:=h1.1 (by omega) i (by omega);have a2:=h2.1 (by omega) i (by omega);rw [aj (show ¬ f i< -((t - 1) / 2) by omega),aj (show ¬ (t - 1) / 2<f i by omega)];decide
 ·rw [aj e,aj (show ¬ (n:Int)=N by omega),Bool.and_false];simp
theorem PD {c:Ci} (h:dS c=0):c.ni≤8∧c.nl≤60∧c.no≤8∧ ∀ i,i<c.no→nameB (c.fo i)=true:=by
 unfold dS at h;split at h
 ·cases h
 ·next h1=>
  simp only [Bool.or_eq_true,not_or,Bool.not_eq_true,Bool.not_eq_true',Bool.not_eq_false] at h1;obtain ⟨_,_,h3,_,h5⟩:=h1;unfold rD at h5;simp only [Bool.and_eq_true,decide_eq_true_eq,Bool.not_eq_false'] at h5;refine ⟨by omega,by omega,by omega,fun i hi=>?_⟩;unfold aI at h3;have:=List.any_eq_false.1 h3 i (List.mem_range.2 hi);simpa using this
theorem VE {x:Par} {me:Int} {t:Nat} {c:Ci} {vs:Nat→Nat→Int} (hx:x.n=N) (ht:3≤t) (hodd:t % 2=1) (hN:4≤N) (hc:okC c) (h:(fG me c (ruA x t)).2.2=0):
  goC N t c vs∧goR N t c∧ ∀ m ln,Ew N t 0 c m ln vs=Ed N t 0 c m ln vs:=by
 have G:=al7 (N:=N) (vs:=vs) hx hc h;refine ⟨G,?_⟩;unfold fG at h;split at h
 ·cases h
 split at h
 ·next hn=>exact absurd h hn
 next h1 h2=>
 have hck:dS c=0:=by simpa using h2
 obtain ⟨k1,k2,k3,k4⟩:=PD hck;unfold qA at h;cases hi:iR c.fi c.ni with
 | none=>rw [hi] at h;cases h
 | some ns=>
  rw [hi] at h;simp only at h;have hfi: ∀ s,findF (fun q=>decide (c.fi q=s)) c.ni=findF (fun q=>decide (enC c q=s)) c.ni:=fun s=>zX fun i hi=>by unfold enC;rw [if_pos hi]
  have R0:Nv c.ni (enC c) vs ns (yX c.fi vs c.ni):=by
   have R:=RF (N:=N) (vs:=vs) hi;exact ⟨fun s=>by rw [R.1 s,hfi],fun s=>by rw [R.2 s,hfi]⟩
  have pre: ∀ {n:Nat},n≤c.nl→ ∃ ns' ss,fF ns c.ln (fun ns i=>shE ns (ruA x t) (c.le i)) n= .ok (ns',ss):=fun {n} hn=>by
   cases hl:fF ns c.ln (fun ns i=>shE ns (ruA x t) (c.le i)) n with
   | ok q=>exact ⟨q.1,q.2,rfl⟩
   | error q=>
    have he:=rH hl hn;rw [he] at h;exact absurd h (Jg (fun i hi=>(hc.le i hi).1) he)
  have R: ∀ n,n≤c.nl→ ∃ ns',Nv (c.ni+n) (enC c) (evS N t c vs n) ns' (pG N t c vs n):=fun n hn=>by
   obtain ⟨ns',ss,hl⟩:=pre hn;exact ⟨ns',RG ht hodd R0 G.1 hn hl⟩
  refine ⟨⟨fun i hi=>?_,k1,k2,k3,fun i hi=>⟨?_,afc (k4 i hi)⟩⟩,fun m ln=>?_⟩
  ·obtain ⟨_,r⟩:=R i (by omega);exact ⟨(G.1 i hi).1,(G.1 i hi).2.1,anu r.2 _ (G.1 i hi).2.2⟩
  ·obtain ⟨_,r⟩:=R c.nl (Nat.le_refl _);have:=G.2.2 i hi;rw [r.2] at this;cases hq:findF (fun q=>decide (enC c q=c.fo i)) (c.ni+c.nl) with
   | none=>rw [hq] at this;cases this
   | some j=>rfl
  ·have hv:(fun i=>!vk N t (ln i) (vs i))=fun i=>Ec N t (ln i) (vs i):=funext fun i=>afd hN
   have ho:(fun i=>vcA N (zq N t c vs i))=fun i=>vcA N (mZ N t c vs i):=funext fun o=>by
    obtain ⟨_,r⟩:=R c.nl (Nat.le_refl _);have:zq N t c vs o=mZ N t c vs o:=by
     unfold zq mZ nmR rvX;rw [if_pos rfl,r.2 (c.fo o)];cases findF (fun q=>decide (enC c q=c.fo o)) (c.ni+c.nl)<;>rfl
    rw [this]
   unfold Ew Ed;rw [hv,ho]
end
section
open Go.RowKit Wv
end
section
open Go.RowKit Wv
end
section
open Go.RowKit Wv
theorem afe {x:Par} (h:fK ay x x.r=0):3≤eY ay x x.r∧eY ay x x.r % 2=1∧eY ay x x.r≤2147483647:=by
 obtain ⟨h1,h2,h3,_⟩:=yZ h;suffices ho:eY ay x x.r % 2=1 by exact ⟨by omega,ho,h2⟩
 unfold eY at h1 ⊢;split at h1
 ·next hb=>
  rw [if_pos hb];unfold iL at h1 ⊢;split at h1
  ·next hq=>
   rw [if_pos hq];have h4:=hq.2.2.2.1;have e:(2*x.n).toNat=2*x.n.toNat:=by omega
   have h5:=Nat.mod_mod_of_dvd x.p (show 2∣2*x.n.toNat from ⟨_,rfl⟩);rw [←e,h4] at h5;rw [Nat.pow_mod, ←h5,Nat.one_mod,Nat.one_pow]
  ·omega
 ·omega
theorem VF (x:Par) (c:Ci) (e at_:Int) (ss:List (Bool × Nat)) (he:e≠0)
  (TT:TC Tryz.prog 19 [.g (dN x), .g (ciC c)] (typeA (ss,at_,e))) (m:Nat) (ln:Nat→Nat) (vs:Nat→Nat→Int):
  TC Tryz.prog 33 [.g (dN x), .g (ciC c),vsA m ln vs] (.tup [.v (.slice none 0 0), .v (.int .i64 e)]):=by
 have hP:=dI x;have hcc:=qj c;unfold dN ciC bG vsA vcA at*;refine Wv.TC.by 127 [0,1,3,4,10,29,2,43,11,52,51,53,50,15,78,13,14,93,92,94,91,17,111,110,112,109,18,20,6,7] [(13,10),(18,10)] [.tmp 6, .tmp 7] Tryz.func33 rfl rfl rfl ?clo ?_
 case clo=>simp only [Wv.BC]
 unfold typeA at TT;refine Wv.W ?_;refine ak TT rfl (wS (.g hP) (.g hcc)) (by simp only [Wv.BC];exact kX _) ?_;exact Wv.V1 (aj he)
end
section
open Go.RowKit Wv
def jG (m:Nat) (ln:Nat→Nat) (vs:Nat→Nat→Int):AV:= .t m 1 (tab m fun i=>roA (ln i) (vs i))
theorem aa3 (m:Nat) (ln:Nat→Nat) (vs:Nat→Nat→Int):Clo (jG m ln vs):=by
 unfold jG;simp only [Wv.BC];exact fun i _=>aey _ _
end
section
open Go.RowKit Wv
theorem aa4 {p:Nat→Bool} {n k:Nat} (hk:k≤n) (h:aI k p=true):aI n p=true:=by
 unfold aI at*;rw [List.any_eq_true] at*;obtain ⟨x,hx,hpx⟩:=h;exact ⟨x,List.mem_range.2 (by have:=List.mem_range.1 hx;omega),hpx⟩
theorem G5 (p:Nat→Bool) (n:Nat):aI (n+1) p=(aI n p || p n):=by
 unfold aI;rw [List.range_succ,List.any_append];simp
def grB (m:Nat) (ln:Nat→Nat):Bool:=aI m (fun i=>decide (100<ln i)) || decide (50<m)
theorem VG (m:Nat) (ln:Nat→Nat) (vs:Nat→Nat→Int) (hm:m≤140737488351232) (hl: ∀ i,i<m→ln i≤140737488351232):TC Tryz.prog 31 [jG m ln vs] (.v (.bool (grB m ln))):=by
 have hg:grB m ln=(aI m (fun i=>decide (100<ln i)) || decide (50<m)):=rfl;generalize grB m ln=B at*;unfold jG roA;refine Wv.TC.by 19 [3,0,7,15,2] [] [.tmp 2] Tryz.func31 rfl rfl rfl ?clo ?_
 case clo=>simp only [Wv.BC]
 refine Wv.W ?_;refine aQ (σ:=Nat) (fun i=>[(0, .t m 1 (tab m fun i=> .t (ln i) 1 (tab (ln i) fun j=> .v (.int .i64 (vs i j))))),(3, .v (.int .i64 i))]) (fun _=>[]) (fun i=>i≤m∧aI i (fun i=>decide (100<ln i))=false) (fun i=>m - i) 0 ⟨Nat.zero_le _,rfl⟩ Wv.V Wv.V ?_;rintro i ⟨hi,hb⟩;by_cases hlt:i<m
 ·have e1:(i:Int)<m:=by omega
  have hli:=hl i hlt;by_cases c:100<ln i
  ·have hB:B=true:=by
    rw [hg,aa4 (k:=i+1) (by omega) (by rw [G5,hb,ah c];rfl)];rfl
   refine Wv.W3 (ah e1) (ah (show ((ln i:Nat):Int)>100 by omega)) (ah (show (100:Int)<(ln i:Nat) by omega)) ?_;rw [hB]
  ·refine Wv.W3 (ah e1) (aj (show ¬ ((ln i:Nat):Int)>100 by omega)) (aj (show ¬ (100:Int)<(ln i:Nat) by omega)) ?_;refine au (i+1) ⟨by omega,by rw [G5,hb,aj c];rfl⟩ (by omega) rfl Wv.V2
 ·obtain rfl:i=m:=by omega
  have hB:decide ((50:Int)<(i:Nat))=B:=by
   rw [hg,hb,Bool.false_or];by_cases c:50<i
   ·rw [ah c,ah (by omega)]
   ·rw [aj c,aj (by omega)]
  have hB':decide ((i:Int)>50)=B:=hB;simp (disch:=first|exact Wv.D|fail) only [Wv.B,simprocAttr,Int.lt_irrefl,decide_false,hB,hB']
end
section
open Go.RowKit Wv
end
section
open Go.RowKit Wv
end
section
open Go.RowKit Wv
theorem aa5: ∀ (e:Ex),okE e→ ∀ (l:Int),l≤1000000→0≤dG e l→dG e l≤l∧smL e:=by
 intro e;induction e with
 | nil=>intro h;exact h.elim
 | mk k s n nl li na ar ih=>
  rintro ⟨h1,h2,h3,h4⟩ l hl h;rw [wO] at h ⊢;have key: ∀ m,m≤na→0≤fC (fun i x=>dG (ar i) x) (l - 1 - nl - s.size) m→fC (fun i x=>dG (ar i) x) (l - 1 - nl - s.size) m≤l - 1 - nl - s.size∧0≤l - 1 - nl - s.size∧ ∀ j,j<m→smL (ar j):=by
   intro m;induction m with
   | zero=>intro _ hq;exact ⟨Int.le_refl _,hq,fun j hj=>by omega⟩
   | succ m ihm=>
    intro hm hq;have e1:fC (fun i x=>dG (ar i) x) (l - 1 - nl - s.size) (m+1)=if fC (fun i x=>dG (ar i) x) (l - 1 - nl - s.size) m<0 then fC (fun i x=>dG (ar i) x) (l - 1 - nl - s.size) m else dG (ar m) (fC (fun i x=>dG (ar i) x) (l - 1 - nl - s.size) m):=rfl
    by_cases hn:fC (fun i x=>dG (ar i) x) (l - 1 - nl - s.size) m<0
    ·rw [e1,if_pos hn] at hq;omega
    ·rw [e1,if_neg hn] at hq ⊢;obtain ⟨g1,g2,g3⟩:=ihm (by omega) (by omega);obtain ⟨g4,g5⟩:=ih m (h4 m (by omega)) _ (by omega) hq;refine ⟨by omega,g2,fun j hj=>?_⟩;by_cases e:j=m
     ·subst e;exact g5
     ·exact g3 j (by omega)
  obtain ⟨g1,g2,g3⟩:=key na (Nat.le_refl _) h;exact ⟨by omega,by omega,g3⟩
variable {most:Int}
theorem aff {c:Ci} (h:EN c)  (h0:most≤1000000): ∀ i,i≤c.nl→0≤jI c most i→jI c most i≤most∧ ∀ j,j<i→smL (c.le j):=by
 intro i;induction i with
 | zero=>exact fun _ q=>⟨by show most - c.name.size≤most;omega,fun j hj=>by omega⟩
 | succ i ih=>
  intro hi hq;rw [uX] at hq ⊢;by_cases hn:jI c most i<0
  ·rw [if_pos hn] at hq;omega
  ·rw [if_neg hn] at hq ⊢;obtain ⟨g1,g2⟩:=ih (by omega) (by omega);obtain ⟨g3,g4⟩:=aa5 (c.le i) (h.le i (by omega)) _ (by omega) hq;refine ⟨by omega,fun j hj=>?_⟩;by_cases e:j=i
   ·subst e;exact g4
   ·exact g2 j (by omega)
theorem RH (f:Nat→ByteArray): ∀ (i:Nat),(i:Int)≤yE f i
 | 0=>Int.le_refl _
 | i+1=>by
  have:=RH f i;rw [FW];omega
theorem RJ {n:Nat} {f:Nat→ByteArray}  (h0:0≤most) (h:rE n f most=false):(n:Int)≤most:=by
 cases n with
 | zero=>exact h0
 | succ n=>
  unfold rE aI at h;have h1:=List.any_eq_false.1 h n (List.mem_range.2 (Nat.lt_succ_self n));have h2:=of_decide_eq_false (by simpa using h1:decide (most - yE f n≤((f n).size:Int))=false);have:=RH f n;omega
theorem ajA {c:Ci} (h:EN c)  (h0:0≤most) (h1:most≤1000000) (hb:KN c most=false):(c.ni:Int)≤most∧(c.no:Int)≤most∧(c.nl:Int)≤most∧ ∀ i,i<c.nl→smL (c.le i):=by
 unfold KN at hb;simp only [Bool.or_eq_false_iff,decide_eq_false_iff_not] at hb;obtain ⟨b1,b2,b3,b4⟩:=hb;exact ⟨RJ h0 b1,RJ h0 b2,by omega,(aff h h1 c.nl (Nat.le_refl _) (by omega)).2⟩
end
section
open Go.RowKit Wv
theorem PE (x:Par) (c:Ci) (e at_:Int) (ss:List (Bool × Nat)) (he:e≠0)
  (TT:TC Tryz.prog 20 [.g (dN x), .g (ciC c)] (typeA (ss,at_,e))) (m:Nat) (ln:Nat→Nat) (vs:Nat→Nat→Int):
  TC Tryz.prog 34 [.g (dN x), .g (ciC c),vsA m ln vs] (.tup [.v (.slice none 0 0), .v (.int .i64 e)]):=by
 have hP:=dI x;have hcc:=qj c;unfold dN ciC bG vsA vcA at*;refine Wv.TC.by 132 [0,1,3,4,10,26,2,40,11,14,49,60,13,15,84,17,115,16,6,7] [(11,7),(13,16),(17,21)] [.tmp 6, .tmp 7] Tryz.func34 rfl rfl rfl ?clo ?_
 case clo=>simp only [Wv.BC]
 unfold typeA at TT;refine Wv.W ?_;refine ak TT rfl (wS (.g hP) (.g hcc)) (by simp only [Wv.BC];exact kX _) ?_;exact Wv.V1 (aj he)
end
end Go.Proofs.YtljfgdlgmdcmfaaGreat
