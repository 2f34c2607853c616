/- Parts of a proof. -/
import Derived.Test.YtljfgdlgmdcmfaaGreatQsg
import Derived.Test.YtljfgdlgmdcmfaaGreatQsl
import Derived.Test.YtljfgdlgmdcmfaaGreatQso
import Derived.Test.YtljfgdlgmdcmfaaGreatQsh
import Derived.Test.YtljfgdlgmdcmfaaGreatQsm
import Derived.Test.YtljfgdlgmdcmfaaGreatQsf
import Derived.Test.YtljfgdlgmdcmfaaGreatQsk
set_option linter.unusedVariables false
set_option linter.unusedSimpArgs false
set_option maxHeartbeats 3200000
set_option maxRecDepth 100000
namespace Go.Proofs.YtljfgdlgmdcmfaaGreat
section
structure RDa where
 r:Nat
 b1:Nat
 s1:Bool
 b2:Nat
 s2:Bool
 b3:Nat
 s3:Bool
def num (b:Nat) (s:Bool) (o:Nat):Nat:=cond s (b ^ o+1) (b ^ o - 1)
def gG (D:RDa) (o:Nat):Nat:=Nat.gcd (Nat.gcd (num D.b1 D.s1 o) (num D.b2 D.s2 o)) (num D.b3 D.s3 o)
def Z7 (D:RDa) (o q:Nat):Bool:=cond (Nat.beq (D.b1 ^ o % q) (sg D.s1 q)) (cond (Nat.beq (D.b2 ^ o % q) (sg D.s2 q)) (Nat.beq (D.b3 ^ o % q) (sg D.s3 q)) false) false
def bad (n:Nat):Bool:=cond (SPk 2 n) (cond (SPk 7 n) (cond (SPk 61 n) false true) true) true
def nN (n:Nat):Bool:=cond (Nat.ble 2147483648 n) true (bad n)
def allT (n:Nat) (f:Nat→Bool):Bool:=Nat.rec true (fun k ih=>cond (f k) ih false) n
theorem kS (f:Nat→Bool): ∀ n,allT n f=true→ ∀ k,k<n→f k=true:=by
 intro n;induction n with
 | zero=>intro _ k hk;omega
 | succ n ih=>
  intro h k hk;have e:allT (n+1) f=cond (f n) (allT n f) false:=rfl;rw [e] at h;cases hf:f n with
  | false=>rw [hf] at h;cases h
  | true=>
   rw [hf] at h;by_cases hkn:k=n
   ·rw [hkn];exact hf
   ·exact ih h k (by omega)
def allM (m:Nat) (f:Nat→Bool):Bool:=allT m fun hi=>allT 1000 fun lo=>f (hi*1000+lo)
theorem Gi (f:Nat→Bool) (m:Nat) (h:allM m f=true) (k:Nat) (hk:k<m*1000):f k=true:=by
 have h1:=kS _ m h (k / 1000) (by omega);have h2:=kS _ 1000 h1 (k % 1000) (by omega);have:k / 1000*1000+k % 1000=k:=by omega
 rw [this] at h2;exact h2
def pW (f:Nat) (fuel:Nat):Nat→Nat:=Nat.rec (fun g=>g) (fun _ ih g=>cond (Nat.beq (g % f) 0) (force (g / f) ih) g) fuel
theorem OQ {f q:Nat} (hq:Pr q) (hf:0<f) (hfq:f<q): ∀ fuel g,q∣g→q∣pW f fuel g:=by
 intro fuel;induction fuel with
 | zero=>intro g h;exact h
 | succ n ih=>
  intro g h;have e:pW f (n+1) g=cond (Nat.beq (g % f) 0) (pW f n (g / f)) g:=by
   show cond _ (force _ _) _=_;rw [force_eq];rfl
  rw [e];cases hb:Nat.beq (g % f) 0 with
  | false=>exact h
  | true=>
   have h0:g % f=0:=Nat.eq_of_beq_eq_true hb;apply ih;have hg:g=f*(g / f):=by have:=Nat.div_add_mod g f;omega
   rw [hg] at h;exact hq.uG h (fun hc=>by have:=Nat.le_of_dvd hf hc;omega)
theorem OT {f:Nat}: ∀ fuel g,0<g→0<pW f fuel g:=by
 intro fuel;induction fuel with
 | zero=>intro g h;exact h
 | succ n ih=>
  intro g h;have e:pW f (n+1) g=cond (Nat.beq (g % f) 0) (pW f n (g / f)) g:=by
   show cond _ (force _ _) _=_;rw [force_eq];rfl
  rw [e];cases hb:Nat.beq (g % f) 0 with
  | false=>exact h
  | true=>
   have h0:g % f=0:=Nat.eq_of_beq_eq_true hb;apply ih;have hg:g=f*(g / f):=by have:=Nat.div_add_mod g f;omega
   rcases Nat.eq_zero_or_pos (g / f) with hz | hz
   ·rw [hz] at hg;omega
   ·exact hz
def strip:List Nat→Nat→Nat
 | [],g=>g
 | f::l,g=>force (pW f 8 g) (strip l)
theorem UH {q:Nat} (hq:Pr q): ∀ (l:List Nat) (g:Nat),(∀ f,f∈l→0<f∧f<q)→q∣g→q∣strip l g:=by
 intro l;induction l with
 | nil=>intro g _ h;exact h
 | cons f l ih=>
  intro g hl h;have e:strip (f::l) g=strip l (pW f 8 g):=by show force _ _=_;rw [force_eq]
  rw [e];have:=hl f (by simp);exact ih _ (fun f hf=>hl f (by simp [hf])) (OQ hq this.1 this.2 8 g h)
theorem UJ: ∀ (l:List Nat) (g:Nat),0<g→0<strip l g:=by
 intro l;induction l with
 | nil=>intro g h;exact h
 | cons f l ih=>
  intro g h;have e:strip (f::l) g=strip l (pW f 8 g):=by show force _ _=_;rw [force_eq]
  rw [e];exact ih _ (OT 8 g h)
def aiU (D:RDa) (l:List Nat) (k:Nat):Bool:=
 cond (Nat.ble k 1) true (force (iV (k - 1)) fun o=>force (gG D o) fun G=>cond (Nat.ble G 32768) true
  (force (strip l G) fun R=>allT (R / 32768) fun m=>cond (Nat.beq (R % (m+1)) 0) (force (R / (m+1)*k) nN) true))
def allA (D:RDa) (l:List Nat):Bool:=allM 66 fun k=>cond (Nat.beq (k % D.r) 0) (cond (Nat.beq (k % 2) 1) (aiU D l k) true) true
def gu (x q:Nat):Bool:=cond (Nat.beq (2 ^ x % q) 1) (cond (Nat.beq (7 ^ x % q) 1) (Nat.beq (61 ^ x % q) 1) false) false
def Z8 (q:Nat) (c:Nat):Nat:=Nat.rec 1 (fun c ih=>cond (Nat.beq ((q - 1) % (c+1)) 0) (cond (gu ((q - 1) / (c+1)) q) (c+1) ih) ih) c
def minimal (L q:Nat):Bool:=
 cond (gu L q) (allT 181 fun d=>cond (Nat.beq (L % (d+1)) 0)
  (cond (cond (Nat.beq d 0) true (cond (gu (L / (d+1)) q) false true)) (cond (Nat.beq (d+1) L) true (cond (gu (d+1) q) false true)) false) true) false
def aiV (D:RDa) (q:Nat):Bool:=
 cond (Z7 D (iV (q - 1)) q) (force ((q - 1) / Z8 q 30) fun L=>cond (cond (Nat.ble L 32768) (minimal L q) false) (allT (2147483647 / q / L+1) fun j=>
  force (1+L*j) fun k=>cond (Nat.beq (k % D.r) 0) (force (q*k) nN) true) false) true
def allB (D:RDa):Bool:=allM 33 fun q=>cond (Nat.ble q 300) true (cond (Nat.ble 32769 q) true (cond (Nat.beq (q % 2) 1) (aiV D q) true))
def subs:List Nat→List Nat
 | []=>[1]
 | q::l=>subs l++(subs l).map (q* ·)
def OU (D:RDa) (small:List Nat):Bool:=
 (allT 301 fun q=>cond (Nat.beq (q % 2) 1) (cond (Nat.ble q 2) true (cond (Z7 D (iV (q - 1)) q) (small.any (Nat.beq q)) true)) true) &&
 (small.all fun q=>Nat.beq (2 ^ (q*(q - 1)) % (q*q)) 1 && !(Nat.beq (2 ^ (q - 1) % (q*q)) 1)) &&
 ((subs small).all fun n=>cond (Nat.beq (n % D.r) 0) (cond (Nat.beq n D.r) true (nN n)) true)
def rd3:RDa:=⟨3,2,true,7,false,61,false⟩
def Z9:List Nat:=[3,19,83,131,283,563,619,691,859,971,1123,1259,1459,1483,1571,1627,1699,1811,1907,1979,2099,2131,2243,2467,2659,2803,2819,3163,3307,3491,3499,3547,3659,3779,3923,4051,4091,4283,4651,4987,5003,5011,5059,5099,5171,5227,5323,5563,5659,5843,5851,5939,6299,6691,6907,7019,7027,7243,7307,7451,7507,7523,7691,7699,8011,8147,8179,8291,8419,8539,8707,8867,8963,9043,9467,9491,9883,9931,10099,10139,10267,10331,10531,10723,10867,10883,10939,10979,11443,11483,11731,12227,12323,12347,12379,12491,12547,12907,13163,13411,13523,13691,13859,13907,14411,14563,14747,14843,14923,15083,15259,15307,15643,15739,15907,16091,16187,16267,16547,16763,16883,16931,17099,17107,17419,17443,17491,17827,17939,18059,18427,18539,18731,18787,19211,19267,19379,19403,19507,19603,19739,19963,20011,20347,20627,21059,21187,21227,21467,22067,22091,22123,22147,22307,22531,22571,22643,22651,22739,22811,22963,23099,23131,23603,24043,24083,24107,24251,24419,24547,24659,25147,25171,25667,25819,26099,26227,26339,26347,26459,26731,27011,27179,27611,27691,27739,27803,27947,28019,28307,28411,28643,28867,28979,29027,29363,29483,29851,30211,30259,30427,30491,30539,30763,30931,31219,31307,31379,31643,31723,31883,31891,32003,32059,32203,32371,32443]
def aiW:List Nat:=[3,19,83,131,283]
theorem a3:allA rd3 Z9=true:=by decide+kernel
theorem b3:allB rd3=true:=by decide+kernel
theorem c3:OU rd3 aiW=true:=by decide+kernel
def rd5:RDa:=⟨5,4,true,49,true,61,false⟩
def aac:List Nat:=[5,13,229,269,733,797,853,1181,1277,2309,2693,2749,3461,3533,3709,3877,4133,4373,4597,4861,5381,5669,5869,6173,6709,7573,7621,7789,8221,8501,8581,9029,9677,9901,10253,10853,11093,11549,11941,12277,12829,12941,13093,13789,13933,14437,14461,14717,15053,15277,15413,15629,15973,16229,16253,16421,16901,17093,17909,17981,18133,18413,18541,18749,18773,19141,19157,19661,20149,20261,20389,20509,21773,22109,22189,22853,22861,23917,23957,24197,24373,24709,24889,25189,25693,26501,26813,26981,27109,27653,27733,28069,28181,28229,28573,28661,28789,28793,29021,29077,29581,29917,30133,30253,30509,30637,30757,31013,31237,31541,32213]
def aiX:List Nat:=[5,13,229,269]
theorem a5:allA rd5 aac=true:=by decide+kernel
theorem b5:allB rd5=true:=by decide+kernel
theorem c5:OU rd5 aiX=true:=by decide+kernel
def OV:RDa:=⟨11,2,true,7,true,61,true⟩
def QH:List Nat:=[11,43,67,211,331,499,547,739,883,907,947,1019,1187,1283,1499,1523,1579,1619,1787,2003,2011,2179,2251,2339,2347,2531,2843,2963,3019,3067,3203,3259,3347,3467,3571,3691,3739,3803,3851,4019,4211,4363,4547,4603,4643,4691,5107,5147,5419,5483,5867,5923,6211,6323,6379,6619,6659,6763,6841,6883,6899,7043,7219,7331,7459,7547,7723,7907,7963,8059,8243,8387,8563,8731,8747,9011,9059,9283,9587,9739,9811,9851,10067,10091,10259,10459,10651,10987,11131,11491,11579,11827,11867,11923,11939,12107,12163,12251,13003,13043,13147,13267,13451,13763,13931,14051,14683,14779,14851,14891,14939,14947,15107,15187,15227,15443,15451,15667,15731,15971,16067,16139,16843,16979,17011,17033,17123,17291,17467,17483,17539,17579,17627,17683,17707,17971,17987,18211,18307,18379,18523,18587,18859,18979,19259,19387,19427,19483,19531,19819,19979,20147,20323,20507,20563,20707,20771,20899,21211,21379,21611,21683,21739,22003,22051,22171,22283,23003,23027,23251,23291,23339,23459,23563,24179,24371,24851,24859,25243,25307,25411,25603,25643,25771,26251,26387,26891,27091,27259,27427,27539,27763,27827,27883,28123,28211,28219,28403,28571,28603,28627,28723,28771,29059,29243,29339,29611,29803,30307,30347,30643,31019,31147,31627,31859,32027,32251,32299,32323,32363,32531,32603]
def aed:List Nat:=[11,43,67,211]
theorem a11:allA OV QH=true:=by decide+kernel
theorem b11:allB OV=true:=by decide+kernel
theorem c11:OU OV aed=true:=by decide+kernel
def OW:RDa:=⟨13,4,true,49,true,61,false⟩
def QI:List Nat:=[5,13,229,269,733,797,853,1181,1277,2309,2693,2749,3461,3533,3709,3877,4133,4373,4597,4861,5381,5669,5869,6173,6709,7573,7621,7789,8221,8501,8581,9029,9677,9901,10253,10853,11093,11549,11941,12277,12829,12941,13093,13789,13933,14437,14461,14717,15053,15277,15413,15629,15973,16229,16253,16421,16901,17093,17909,17981,18133,18413,18541,18749,18773,19141,19157,19661,20149,20261,20389,20509,21773,22109,22189,22853,22861,23917,23957,24197,24373,24709,24889,25189,25693,26501,26813,26981,27109,27653,27733,28069,28181,28229,28573,28661,28789,28793,29021,29077,29581,29917,30133,30253,30509,30637,30757,31013,31237,31541,32213]
def aee:List Nat:=[5,13,229,269]
theorem a13:allA OW QI=true:=by decide+kernel
theorem b13:allB OW=true:=by decide+kernel
theorem c13:OU OW aee=true:=by decide+kernel
end
section
structure Pass (n:Nat):Prop where
 lo:3≤n
 hi:n<2147483648
 odd:n % 2=1
 n7: ¬ 7∣n
 n61: ¬ 61∣n
 p2:SP 2 n=true
 p7:SP 7 n=true
 p61:SP 61 n=true
variable {n:Nat}
theorem Pass.IJ (h:Pass n):nN n=false:=by
 have e:Nat.ble 2147483648 n=false:=by
  cases hb:Nat.ble 2147483648 n with
  | false=>rfl
  | true=>have:=Nat.le_of_ble_eq_true hb;have:=h.hi;omega
 have hi:=h.hi;have lo:=h.lo;have e2:SPk 2 n=true:=by rw [←xI 2 n (by omega) (by omega)];exact h.p2
 have e7:SPk 7 n=true:=by rw [←xI 7 n (by omega) (by omega)];exact h.p7
 have e61:SPk 61 n=true:=by rw [←xI 61 n (by omega) (by omega)];exact h.p61
 unfold nN bad;rw [e,e2,e7,e61];rfl
structure uf (D:RDa) (n:Nat):Prop where
 h1:D.b1 ^ iV (n - 1) % n=sg D.s1 n
 h2:D.b2 ^ iV (n - 1) % n=sg D.s2 n
 h3:D.b3 ^ iV (n - 1) % n=sg D.s3 n
variable {T a r:Nat}
theorem per {e:Nat} (hr:2≤r) (hT:a ^ T % r=1):a ^ e % r=a ^ (e % T) % r:=by
 conv=>lhs;rw [←Nat.div_add_mod e T,Nat.pow_add,Nat.mul_mod,gW hr hT,Nat.one_mul,Nat.mod_mod]
theorem QJ (hr:2≤r) (hT0:0<T) (hT:a ^ T % r=1) (hk: ∀ e,e<T→a ^ e % r≠r - 1) (hd:r∣n) (hn:0<n) (h:SP a n=true):a ^ iV (n - 1) % n=sg false n:=by
 rcases wo h with h | ⟨i,_,h⟩
 ·exact h
 ·have:=qL hr hd hn h;rw [per hr hT] at this;exact absurd this (hk _ (Nat.mod_lt _ hT0))
theorem QK (hr:2≤r) (hT0:0<T) (hT2:T % 2=0) (hT:a ^ T % r=1) (hk1: ∀ e,e<T→e % 2=1→a ^ e % r≠1) (hk: ∀ e,e<T→e % 2=0→a ^ e % r≠r - 1)
  (hodd:iV (n - 1) % 2=1) (hd:r∣n) (hn:0<n) (h:SP a n=true):a ^ iV (n - 1) % n=sg true n:=by
 rcases wo h with h | ⟨i,_,h⟩
 ·have:=qK hr hd h;rw [per hr hT] at this;exact absurd this (hk1 _ (Nat.mod_lt _ hT0) (by rw [Nat.mod_mod_of_dvd _ (Nat.dvd_of_mod_eq_zero hT2)];exact hodd))
 ·cases i with
  | zero=>rw [Nat.pow_zero,Nat.mul_one] at h;exact h
  | succ i=>
   have:=qL hr hd hn h;rw [per hr hT] at this;refine absurd this (hk _ (Nat.mod_lt _ hT0) ?_);rw [Nat.mod_mod_of_dvd _ (Nat.dvd_of_mod_eq_zero hT2),Nat.pow_succ, ←Nat.mul_assoc];omega
theorem kind2 (hr:2≤r) (hT0:0<T) (hT4:T % 4=0) (hT:a ^ T % r=1) (hk1: ∀ e,e<T→e % 2=1→a ^ e % r≠1∧a ^ e % r≠r - 1) (hk: ∀ e,e<T→e % 4=0→a ^ e % r≠r - 1)
  (hodd:iV (n - 1) % 2=1) (hd:r∣n) (hn:0<n) (h:SP a n=true):(a*a) ^ iV (n - 1) % n=sg true n:=by
 have hT2:T % 2=0:=by omega
 have ho:=hk1 _ (Nat.mod_lt (iV (n - 1)) hT0) (by rw [Nat.mod_mod_of_dvd _ (Nat.dvd_of_mod_eq_zero hT2)];exact hodd);rcases wo h with h | ⟨i,_,h⟩
 ·have:=qK hr hd h;rw [per hr hT] at this;exact absurd this ho.1
 ·rcases i with _ | _ | i
  ·have:=qL hr hd hn h;rw [Nat.pow_zero,Nat.mul_one,per hr hT] at this;exact absurd this ho.2
  ·rw [Nat.mul_comm,Nat.pow_mul] at h;rw [←Nat.pow_two];exact h
  ·have:=qL hr hd hn h;rw [per hr hT] at this;refine absurd this (hk _ (Nat.mod_lt _ hT0) ?_);rw [Nat.mod_mod_of_dvd _ (Nat.dvd_of_mod_eq_zero hT4),Nat.pow_succ,Nat.pow_succ,Nat.mul_assoc, ←Nat.mul_assoc (iV (n - 1))];omega
theorem Pass.qZ (h:Pass n):iV (n - 1) % 2=1∧iV (n - 1)*2 ^ vZ (n - 1)=n - 1:=CU (by have:=h.lo;omega) (by have:=h.hi;omega)
theorem aiY (h : Pass n) (hd : 3 ∣ n) : uf rd3 n :=
  ⟨QK (T := 2) (by decide) (by decide) (by decide) (by decide) (by decide) (by decide) h.qZ.1 hd (by have := h.lo; omega) h.p2,
   QJ (T := 2) (by decide) (by decide) (by decide) (by decide) hd (by have := h.lo; omega) h.p7,
   QJ (T := 2) (by decide) (by decide) (by decide) (by decide) hd (by have := h.lo; omega) h.p61⟩
theorem aiZ (h : Pass n) (hd : 5 ∣ n) : uf rd5 n :=
  ⟨kind2 (a := 2) (T := 4) (by decide) (by decide) (by decide) (by decide) (by decide) (by decide) h.qZ.1 hd (by have := h.lo; omega) h.p2,
   kind2 (a := 7) (T := 4) (by decide) (by decide) (by decide) (by decide) (by decide) (by decide) h.qZ.1 hd (by have := h.lo; omega) h.p7,
   QJ (T := 4) (by decide) (by decide) (by decide) (by decide) hd (by have := h.lo; omega) h.p61⟩
theorem aef (h : Pass n) (hd : 11 ∣ n) : uf OV n :=
  ⟨QK (T := 10) (by decide) (by decide) (by decide) (by decide) (by decide) (by decide) h.qZ.1 hd (by have := h.lo; omega) h.p2,
   QK (T := 10) (by decide) (by decide) (by decide) (by decide) (by decide) (by decide) h.qZ.1 hd (by have := h.lo; omega) h.p7,
   QK (T := 10) (by decide) (by decide) (by decide) (by decide) (by decide) (by decide) h.qZ.1 hd (by have := h.lo; omega) h.p61⟩
theorem aeg (h : Pass n) (hd : 13 ∣ n) : uf OW n :=
  ⟨kind2 (a := 2) (T := 12) (by decide) (by decide) (by decide) (by decide) (by decide) (by decide) h.qZ.1 hd (by have := h.lo; omega) h.p2,
   kind2 (a := 7) (T := 12) (by decide) (by decide) (by decide) (by decide) (by decide) (by decide) h.qZ.1 hd (by have := h.lo; omega) h.p7,
   QJ (T := 12) (by decide) (by decide) (by decide) (by decide) hd (by have := h.lo; omega) h.p61⟩
def ug (D:RDa):Prop:= ∀ b,b=D.b1∨b=D.b2∨b=D.b3→2≤b∧ ∀ q,Pr q→q≠2→q≠7→q≠61→ ¬ q∣b
theorem pr2:Pr 2:=⟨by decide,by intro m hm;have:=Nat.le_of_dvd (by decide) hm;rcases (show m=0∨m=1∨m=2 by omega) with rfl | rfl | rfl<;>simp_all⟩
theorem oW {p:Nat} (h2:2≤p) (h: ∀ m,m≤p→m∣p→m=1∨m=p):Pr p:=⟨h2,fun m hm=>h m (Nat.le_of_dvd (by omega) hm) hm⟩
theorem pr7:Pr 7:=oW (by decide) (by decide)
theorem anh:Pr 61:=oW (by decide) (by decide)
variable {q:Nat}
theorem Me {p:Nat} (hp:Pr p) (hq:Pr q) (h:q∣p):q=p:=by
 rcases hp.2 q h with h | h
 ·have:=hq.1;omega
 ·exact h
theorem jJ (hq:Pr q) (h2:q≠2) (h7:q≠7) (h61:q≠61): ¬ q∣2∧ ¬ q∣7∧ ¬ q∣61:=
 ⟨fun h=>h2 (Me pr2 hq h),fun h=>h7 (Me pr7 hq h),fun h=>h61 (Me anh hq h)⟩
variable {b:Nat}
theorem zk (hq:Pr q) (ha: ¬ q∣a) (hb: ¬ q∣b): ¬ q∣a*b:=fun h=>hb (hq.uG h ha)
theorem wW {D:RDa} (h: ∀ b,b=D.b1∨b=D.b2∨b=D.b3→b=2∨b=7∨b=61∨b=2*2∨b=7*7):ug D:=by
 intro b hb;rcases h b hb with rfl | rfl | rfl | rfl | rfl
 ·exact ⟨by decide,fun q hq h2 h7 h61=>(jJ hq h2 h7 h61).1⟩
 ·exact ⟨by decide,fun q hq h2 h7 h61=>(jJ hq h2 h7 h61).2.1⟩
 ·exact ⟨by decide,fun q hq h2 h7 h61=>(jJ hq h2 h7 h61).2.2⟩
 ·exact ⟨by decide,fun q hq h2 h7 h61=>zk hq (jJ hq h2 h7 h61).1 (jJ hq h2 h7 h61).1⟩
 ·exact ⟨by decide,fun q hq h2 h7 h61=>zk hq (jJ hq h2 h7 h61).2.1 (jJ hq h2 h7 h61).2.1⟩
theorem ai0:ug rd3:=wW (by intro b hb;simp [rd3] at hb;omega)
theorem ai1:ug rd5:=wW (by intro b hb;simp [rd5] at hb;omega)
theorem aeh:ug OV:=wW (by intro b hb;simp [OV] at hb;omega)
theorem aei:ug OW:=wW (by intro b hb;simp [OW] at hb;omega)
variable {s:Bool}
theorem full {d t:Nat}  (hn:2≤n) (ht:1≤t) (hd:d*2 ^ t=n - 1) (h:b ^ d % n=sg s n):b ^ (n - 1) % n=1:=by
 obtain ⟨u,rfl⟩: ∃ u,t=u+1:=⟨t - 1,by omega⟩
 have e:n - 1=d*2*2 ^ u:=by rw [←hd,Nat.pow_succ,Nat.mul_comm (2 ^ u) 2,Nat.mul_assoc]
 rw [e];apply gW hn;rw [Nat.pow_mul,Nat.pow_two];cases s with
 | true=>exact CV hn h
 | false=>
  have h':b ^ d % n=1:=h;rw [Nat.mul_mod,h'];exact Nat.mod_eq_of_lt (by omega)
theorem Pass.two (h:Pass n):1≤vZ (n - 1):=by
 have h1:=h.qZ;rcases Nat.eq_zero_or_pos (vZ (n - 1)) with hz | hz
 ·rw [hz,Nat.pow_zero,Nat.mul_one] at h1;have:=h.odd;omega
 ·exact hz
structure UK (q n:Nat):Prop where
 pr:Pr q
 dvd:q∣n
 ge3:3≤q
 ne:q≠2∧q≠7∧q≠61
theorem Pass.al9 (h:Pass n) (hq:Pr q) (hd:q∣n):UK q n:=by
 have h2:q≠2:=by
  intro e;subst e;have:=h.odd;omega
 refine ⟨hq,hd,by have:=hq.1;omega,h2,?_,?_⟩
 ·intro e;subst e;exact h.n7 hd
 ·intro e;subst e;exact h.n61 hd
variable {o y:Nat}
theorem QL {D:RDa} {s:Nat} (hP:Pass n) (hS:uf D n) (hq:UK q n) (ho:o % 2=1) (hy:o*2 ^ s=y)
  (h1:D.b1 ^ y % q=1) (h2:D.b2 ^ y % q=1) (h3:D.b3 ^ y % q=1):
  D.b1 ^ o % q=sg D.s1 q∧D.b2 ^ o % q=sg D.s2 q∧D.b3 ^ o % q=sg D.s3 q:=by
 have hn:0<n:=by have:=hP.lo;omega
 have hq2:=hq.pr.1;exact ⟨transfer hq.pr hq.ge3 hP.qZ.1 ho hy (GZ hq2 hq.dvd hn hS.h1) h1,
  transfer hq.pr hq.ge3 hP.qZ.1 ho hy (GZ hq2 hq.dvd hn hS.h2) h2,
  transfer hq.pr hq.ge3 hP.qZ.1 ho hy (GZ hq2 hq.dvd hn hS.h3) h3⟩
theorem UL {D:RDa}  (h:D.b1 ^ o % q=sg D.s1 q∧D.b2 ^ o % q=sg D.s2 q∧D.b3 ^ o % q=sg D.s3 q):Z7 D o q=true:=by
 unfold Z7;rw [h.1,h.2.1,h.2.2,Nat.beq_refl,Nat.beq_refl,Nat.beq_refl];rfl
theorem aad {D:RDa}  (hP:Pass n) (hS:uf D n) (hB:ug D) (hq:UK q n) (hlt:q<4294967296):Z7 D (iV (q - 1)) q=true:=by
 have ho:=CU (m:=q - 1) (by have:=hq.ge3;omega) (by omega);have fer: ∀ b,b=D.b1∨b=D.b2∨b=D.b3→b ^ (q - 1) % q=1:=fun b hb=>hq.pr.X9 ((hB b hb).2 q hq.pr hq.ne.1 hq.ne.2.1 hq.ne.2.2)
 exact UL (QL hP hS hq ho.1 ho.2 (fer _ (by simp)) (fer _ (by simp)) (fer _ (by simp)))
theorem at_k {k:Nat} (hq:UK q n) (hn:n=q*k) (hk:1≤k) (hb: ¬ q∣b) (h:b ^ (n - 1) % n=1):b ^ (k - 1) % q=1:=by
 have h1:=qK hq.pr.1 hq.dvd h;have e:n - 1=(q - 1)*k+(k - 1):=by
  obtain ⟨p,rfl⟩: ∃ p,q=p+1:=⟨q - 1,by have:=hq.ge3;omega⟩
  rw [hn,Nat.add_sub_cancel,Nat.add_mul,Nat.one_mul];omega
 rw [e] at h1;exact yS (gW hq.pr.1 (hq.pr.X9 hb) k) h1
theorem IK (hq:2≤q) (h:b ^ o % q=sg s q):q∣num b s o:=by
 cases s with
 | false=>exact CS h
 | true=>
  have h':b ^ o % q=q - 1:=h;show q∣b ^ o+1;have:=Nat.div_add_mod (b ^ o) q;rw [h'] at this;exact ⟨b ^ o / q+1,by rw [Nat.mul_add,Nat.mul_one];omega⟩
theorem aej (hb:2≤b) (ho:o % 2=1):0<num b s o:=by
 cases s with
 | true=>exact Nat.succ_pos _
 | false=>
  show 0<b ^ o - 1;have h1:b ^ 1≤b ^ o:=Nat.pow_le_pow_right (by omega) (by omega);rw [Nat.pow_one] at h1;omega
theorem caseA {D:RDa} {l:List Nat}  (hP:Pass n) (hS:uf D n) (hB:ug D) (hrp:Pr D.r) (hr:D.r∣n) (hA:allA D l=true) (hl: ∀ f,f∈l→0<f∧f≤32768) (hq:UK q n) (hlt:32768<q) (hrq:D.r≠q):False:=by
 obtain ⟨k,hk⟩:=hq.dvd;have hn:=hP.hi;have hlo:=hP.lo;have hk1:1≤k:=by
  rcases Nat.eq_zero_or_pos k with h | h
  ·rw [h] at hk;omega
  ·exact h
 have hrk:D.r∣k:=by
  rw [hk] at hr;exact hrp.uG hr (fun h=>hrq (Me hq.pr hrp h))
 have hkr:D.r≤k:=Nat.le_of_dvd (by omega) hrk;have hr2:=hrp.1;have hkb:k<66000:=by
  apply Classical.byContradiction;intro hc;have:32769*66000≤q*k:=Nat.mul_le_mul (by omega) (by omega);omega
 have ama:k % 2=1:=by
  have h:=hP.odd;rw [hk,Nat.mul_mod] at h;rcases Nat.mod_two_eq_zero_or_one k with h0 | h0
  ·rw [h0] at h;simp at h
  ·exact h0
 have hc:=Gi _ _ hA k hkb;rw [show Nat.beq (k % D.r) 0=true by rw [Nat.mod_eq_zero_of_dvd hrk];rfl,show Nat.beq (k % 2) 1=true by rw [ama];rfl] at hc;have hc:aiU D l k=true:=hc;unfold aiU at hc;rw [show Nat.ble k 1=false by
  cases hb:Nat.ble k 1 with
  | false=>rfl
  | true=>have:=Nat.le_of_ble_eq_true hb;omega] at hc
 have hc:force (iV (k - 1)) (fun o=>force (gG D o) fun G=>cond (Nat.ble G 32768) true
  (force (strip l G) fun R=>allT (R / 32768) fun m=>cond (Nat.beq (R % (m+1)) 0) (force (R / (m+1)*k) nN) true))=true:=hc
 rw [force_eq,force_eq] at hc;have ho:=CU (m:=k - 1) (by omega) (by omega);have full': ∀ b s,(b=D.b1∨b=D.b2∨b=D.b3)→b ^ iV (n - 1) % n=sg s n→b ^ (k - 1) % q=1:=fun b s hb h=>
  at_k hq hk hk1 ((hB b hb).2 q hq.pr hq.ne.1 hq.ne.2.1 hq.ne.2.2) (full (by omega) hP.two hP.qZ.2 h)
 obtain ⟨f1,f2,f3⟩:=QL hP hS hq ho.1 ho.2 (full' _ _ (by simp) hS.h1) (full' _ _ (by simp) hS.h2) (full' _ _ (by simp) hS.h3);have hq2:=hq.pr.1;have hG:q∣gG D (iV (k - 1)):=Nat.dvd_gcd (Nat.dvd_gcd (IK hq2 f1) (IK hq2 f2)) (IK hq2 f3);have hG0:0<gG D (iV (k - 1)):=Nat.gcd_pos_of_pos_right _ (aej (hB _ (by simp)).1 ho.1);generalize gG D (iV (k - 1))=G at hc hG hG0;cases hb:Nat.ble G 32768 with
 | true=>
  have h1:=Nat.le_of_ble_eq_true hb;have h2:=Nat.le_of_dvd hG0 hG;omega
 | false=>
  rw [hb] at hc;have hc:force (strip l G) (fun R=>allT (R / 32768) fun m=>cond (Nat.beq (R % (m+1)) 0) (force (R / (m+1)*k) nN) true)=true:=hc;rw [force_eq] at hc;have hR:=UH hq.pr l G (fun f hf=>⟨(hl f hf).1,by have:=(hl f hf).2;omega⟩) hG;have hR0:=UJ l G hG0;generalize strip l G=R at hc hR hR0;obtain ⟨m,hm⟩:=hR;have hm1:1≤m:=by
   rcases Nat.eq_zero_or_pos m with h | h
   ·rw [h] at hm;omega
   ·exact h
  have hle:m≤R / 32768:=by
   rw [Nat.le_div_iff_mul_le (by omega),hm,Nat.mul_comm q];exact Nat.mul_le_mul_left m (by omega)
  have h5:=kS _ _ hc (m - 1) (by omega);rw [show m - 1+1=m by omega,show R % m=0 by rw [hm];exact Nat.mul_mod_left q m] at h5;have h5:force (R / m*k) nN=true:=h5;rw [force_eq,show R / m=q by rw [hm];exact Nat.mul_div_cancel q (by omega), ←hk,hP.IJ] at h5;cases h5
variable {x:Nat}
theorem mP :gu x q=true↔2 ^ x % q=1∧7 ^ x % q=1∧61 ^ x % q=1:=by
 unfold gu;constructor
 ·intro h;cases h1:Nat.beq (2 ^ x % q) 1 with
  | false=>rw [h1] at h;cases h
  | true=>
   cases h2:Nat.beq (7 ^ x % q) 1 with
   | false=>rw [h1,h2] at h;cases h
   | true=>
    rw [h1,h2] at h;exact ⟨Nat.eq_of_beq_eq_true h1,Nat.eq_of_beq_eq_true h2,Nat.eq_of_beq_eq_true h⟩
 ·rintro ⟨h1,h2,h3⟩;rw [h1,h2,h3];rfl
theorem UM (hq:2≤q) (h:gu x q=true) (hd:x∣y):gu y q=true:=by
 obtain ⟨h1,h2,h3⟩:=mP.1 h;exact mP.2 ⟨jG hq h1 hd,jG hq h2 hd,jG hq h3 hd⟩
theorem UN (hq:2≤q) (h:gu x q=true) (h':gu y q=true):gu (Nat.gcd x y) q=true:=by
 obtain ⟨h1,h2,h3⟩:=mP.1 h;obtain ⟨g1,g2,g3⟩:=mP.1 h';exact mP.2 ⟨rM hq _ _ h1 g1,rM hq _ _ h2 g2,rM hq _ _ h3 g3⟩
theorem MB {L:Nat} (hq:2≤q) (hL0:0<L) (hL:L≤32768) (hm:minimal L q=true) (hy:gu y q=true):L∣y:=by
 unfold minimal at hm;cases hg:gu L q with
 | false=>rw [hg] at hm;cases hm
 | true=>
  rw [hg] at hm;have hm:allT 181 (fun d=>cond (Nat.beq (L % (d+1)) 0) (cond (cond (Nat.beq d 0) true (cond (gu (L / (d+1)) q) false true)) (cond (Nat.beq (d+1) L) true (cond (gu (d+1) q) false true)) false) true)=true:=hm;have hall: ∀ d,d<181→L % (d+1)=0→(d=0∨gu (L / (d+1)) q=false)∧(d+1=L∨gu (d+1) q=false):=by
   intro d hd h0;have h:=kS _ 181 hm d hd;rw [h0] at h;have h:cond (cond (Nat.beq d 0) true (cond (gu (L / (d+1)) q) false true)) (cond (Nat.beq (d+1) L) true (cond (gu (d+1) q) false true)) false=true:=h;constructor
   ·cases hb:Nat.beq d 0 with
    | true=>exact .inl (Nat.eq_of_beq_eq_true hb)
    | false=>
     right;rw [hb] at h;cases hx:gu (L / (d+1)) q with
     | false=>rfl
     | true=>rw [hx] at h;cases h
   ·cases hb:Nat.beq (d+1) L with
    | true=>exact .inl (Nat.eq_of_beq_eq_true hb)
    | false=>
     right;cases hx:gu (d+1) q with
     | false=>rfl
     | true=>
      rw [hb,hx] at h;cases hc1:cond (Nat.beq d 0) true (cond (gu (L / (d+1)) q) false true) with
      | true=>rw [hc1] at h;cases h
      | false=>rw [hc1] at h;cases h
  have hgg:=UN hq hg hy;obtain ⟨m,hm'⟩:=Nat.gcd_dvd_left L y;by_cases h1:m=1
  ·rw [h1,Nat.mul_one] at hm';rw [hm'];exact Nat.gcd_dvd_right L y
  ·exfalso;have hm0:m≠0:=by intro e;rw [e] at hm';omega
   obtain ⟨p,hp,hpm⟩:=Fb m (by omega);obtain ⟨c,hc⟩:=hpm;have hLp:L=p*(Nat.gcd L y*c):=by
    rw [hc] at hm';rw [Nat.mul_left_comm];exact hm'
   have hp0:=hp.1;have hdiv:L / p=Nat.gcd L y*c:=by
    have:p*(Nat.gcd L y*c) / p=Nat.gcd L y*c:=Nat.mul_div_cancel_left _ (by omega);rw [←hLp] at this;exact this
   have hgood:gu (L / p) q=true:=by rw [hdiv];exact UM hq hgg (Nat.dvd_mul_right _ _)
   by_cases ant:p≤181
   ·have hmod:L % p=0:=by rw [hLp];exact Nat.mul_mod_right _ _
    have:=(hall (p - 1) (by omega) (by rw [show p - 1+1=p by omega];exact hmod)).1;rw [show p - 1+1=p by omega,hgood] at this;rcases this with h | h
    ·omega
    ·cases h
   ·have he:L / p≤180:=by
     have:L / p≤32768 / 182:=Nat.le_trans (Nat.div_le_div_right hL) (Nat.div_le_div_left (by omega) (by omega));omega
    have hLe:L=p*(L / p):=by rw [hdiv];exact hLp
    have he0:0<L / p:=by
     rcases Nat.eq_zero_or_pos (L / p) with h | h
     ·rw [h] at hLe;omega
     ·exact h
    have hmod:L % (L / p)=0:=by
     conv=>lhs;rw [hLe]
     have:p*(L / p) / p=L / p:=Nat.mul_div_cancel_left _ (by omega);rw [this];exact Nat.mul_mod_left _ _
    have:=(hall (L / p - 1) (by omega) (by rw [show L / p - 1+1=L / p by omega];exact hmod)).2;rw [show L / p - 1+1=L / p by omega,hgood] at this;rcases this with h | h
    ·have:p*(L / p)≥2*(L / p):=Nat.mul_le_mul_right _ hp0;omega
    ·cases h
theorem amb {D:RDa}  (hP:Pass n) (hS:uf D n) (hB:ug D) (hrp:Pr D.r) (hr:D.r∣n) (hA:allB D=true) (hq:UK q n) (hlo:300<q) (hlt:q≤32768) (hrq:D.r≠q):False:=by
 obtain ⟨k,hk⟩:=hq.dvd;have hn:=hP.hi;have hn3:=hP.lo;have hk1:1≤k:=by
  rcases Nat.eq_zero_or_pos k with h | h
  ·rw [h] at hk;omega
  ·exact h
 have hrk:D.r∣k:=by
  rw [hk] at hr;exact hrp.uG hr (fun h=>hrq (Me hq.pr hrp h))
 have aae:q % 2=1:=by
  have h:=hP.odd;rw [hk,Nat.mul_mod] at h;rcases Nat.mod_two_eq_zero_or_one q with h0 | h0
  ·rw [h0] at h;simp at h
  ·exact h0
 have hc:=Gi _ _ hA q (by omega);rw [show Nat.ble q 300=false by
   cases hb:Nat.ble q 300 with
   | false=>rfl
   | true=>have:=Nat.le_of_ble_eq_true hb;omega,
  show Nat.ble 32769 q=false by
   cases hb:Nat.ble 32769 q with
   | false=>rfl
   | true=>have:=Nat.le_of_ble_eq_true hb;omega,show Nat.beq (q % 2) 1=true by rw [aae];rfl] at hc
 have hc:aiV D q=true:=hc;unfold aiV at hc;rw [aad hP hS hB hq (by omega)] at hc;have hc:force ((q - 1) / Z8 q 30) (fun L=>cond (cond (Nat.ble L 32768) (minimal L q) false) (allT (2147483647 / q / L+1) fun j=>
  force (1+L*j) fun k=>cond (Nat.beq (k % D.r) 0) (force (q*k) nN) true) false)=true:=hc
 rw [force_eq] at hc;generalize (q - 1) / Z8 q 30=L at hc;cases hL:Nat.ble L 32768 with
 | false=>rw [hL] at hc;cases hc
 | true=>
  cases hm:minimal L q with
  | false=>rw [hL,hm] at hc;cases hc
  | true=>
   rw [hL,hm] at hc;have hc:allT (2147483647 / q / L+1) (fun j=>force (1+L*j) fun k=>cond (Nat.beq (k % D.r) 0) (force (q*k) nN) true)=true:=hc;have hL2:=Nat.le_of_ble_eq_true hL;have nd:=jJ hq.pr hq.ne.1 hq.ne.2.1 hq.ne.2.2;have hq2:=hq.pr.1;have aaf: ∀ a,SP a n=true→a ^ (n - 1) % n=1:=by
    intro a ha;rcases wo ha with h | ⟨i,hi,h⟩
    ·exact full (s:=false) (by omega) hP.two hP.qZ.2 h
    ·have e:n - 1=iV (n - 1)*2 ^ i*2*2 ^ (vZ (n - 1) - i - 1):=by
      conv=>lhs;rw [←hP.qZ.2]
      rw [Nat.mul_assoc,Nat.mul_assoc, ←Nat.pow_succ', ←Nat.pow_add];congr 2;omega
     conv=>lhs;rw [e]
     apply gW (by omega);rw [Nat.pow_mul,Nat.pow_two];exact CV (by omega) h
   have hgood:gu (k - 1) q=true:=mP.2 ⟨at_k hq hk hk1 nd.1 (aaf 2 hP.p2),at_k hq hk hk1 nd.2.1 (aaf 7 hP.p7),at_k hq hk hk1 nd.2.2 (aaf 61 hP.p61)⟩;have hL0:0<L:=by
    rcases Nat.eq_zero_or_pos L with h | h
    ·exfalso;rw [h] at hm;have h0:=kS (fun d=>cond (Nat.beq (0 % (d+1)) 0) (cond (cond (Nat.beq d 0) true (cond (gu (0 / (d+1)) q) false true)) (cond (Nat.beq (d+1) 0) true (cond (gu (d+1) q) false true)) false) true) 181 (by
      unfold minimal at hm;cases hg:gu 0 q with
      | false=>rw [hg] at hm;cases hm
      | true=>rw [hg] at hm;exact hm) 1 (by omega)
     have hz:gu (0 / (1+1)) q=true:=by
      apply mP.2;have:1 % q=1:=Nat.mod_eq_of_lt (by omega);exact ⟨this,this,this⟩
     rw [hz] at h0;cases h0
    ·exact h
   obtain ⟨j,hj⟩:=MB hq2 hL0 hL2 hm hgood;have hkj:k=1+L*j:=by omega
   have hjb:j<2147483647 / q / L+1:=by
    have h1:L*j≤2147483647 / q:=by
     rw [Nat.le_div_iff_mul_le (by omega)];have:k*q≤2147483647:=by rw [Nat.mul_comm, ←hk];omega
     have h2:L*j*q≤k*q:=Nat.mul_le_mul_right q (by omega);omega
    have h2:j≤2147483647 / q / L:=by
     rw [Nat.le_div_iff_mul_le hL0,Nat.mul_comm];exact h1
    omega
   have h5:=kS _ _ hc j hjb;have h5:force (1+L*j) (fun k=>cond (Nat.beq (k % D.r) 0) (force (q*k) nN) true)=true:=h5;rw [force_eq, ←hkj,show Nat.beq (k % D.r) 0=true by rw [Nat.mod_eq_zero_of_dvd hrk];rfl] at h5;have h5:force (q*k) nN=true:=h5;rw [force_eq, ←hk,hP.IJ] at h5;cases h5
theorem aek: ∀ (l:List Nat) (n:Nat),0<n→(∀ p,Pr p→p∣n→p∈l)→(∀ p,p∈l→Pr p→ ¬ p*p∣n)→n∈subs l:=by
 intro l;induction l with
 | nil=>
  intro n h0 h _;have:n=1:=by
   apply Classical.byContradiction;intro hc;obtain ⟨p,hp,hd⟩:=Fb n (by omega);have:=h p hp hd;simp at this
  rw [this];simp [subs]
 | cons q l ih=>
  intro n h0 h hs;unfold subs;rw [List.mem_append];by_cases hq:Pr q∧q∣n
  ·obtain ⟨hqp,m,hm⟩:=hq;right;rw [List.mem_map];have hm0:0<m:=by
    rcases Nat.eq_zero_or_pos m with e | e
    ·rw [e] at hm;omega
    ·exact e
   refine ⟨m,ih m hm0 ?_ ?_,hm.symm⟩
   ·intro p hp hd;have hpn:p∣n:=by rw [hm];exact Nat.dvd_trans hd (Nat.dvd_mul_left _ _)
    have:=h p hp hpn;rw [List.mem_cons] at this;rcases this with e | e
    ·exfalso;subst e;exact hs p (by simp) hp (by rw [hm];exact Nat.mul_dvd_mul (Nat.dvd_refl p) hd)
    ·exact e
   ·intro p hp hpp hd;exact hs p (by simp [hp]) hpp (by rw [hm];exact Nat.dvd_trans hd (Nat.dvd_mul_left _ _))
  ·left;refine ih n h0 ?_ (fun p hp hpp=>hs p (by simp [hp]) hpp);intro p hp hd;have:=h p hp hd;rw [List.mem_cons] at this;rcases this with e | e
   ·exfalso;subst e;exact hq ⟨hp,hd⟩
   ·exact e
theorem amc {D:RDa} {small:List Nat}  (hP:Pass n) (hS:uf D n) (hB:ug D) (hr:D.r∣n) (hC:OU D small=true) (hall: ∀ q,Pr q→q∣n→q≤300):n=D.r:=by
 unfold OU at hC;simp only [Bool.and_eq_true] at hC;obtain ⟨⟨c1,c2⟩,c3⟩:=hC;have hn3:=hP.lo;have mem: ∀ q,Pr q→q∣n→q∈small:=by
  intro q hq hd;have hof:=hP.al9 hq hd;have h:=kS _ _ c1 q (by have:=hall q hq hd;omega);have aae:q % 2=1:=by
   have h:=hP.odd;obtain ⟨k,hk⟩:=hd;rw [hk,Nat.mul_mod] at h;rcases Nat.mod_two_eq_zero_or_one q with h0 | h0
   ·rw [h0] at h;simp at h
   ·exact h0
  rw [show Nat.beq (q % 2) 1=true by rw [aae];rfl,show Nat.ble q 2=false by
   cases hb:Nat.ble q 2 with
   | false=>rfl
   | true=>have:=Nat.le_of_ble_eq_true hb;have:=hof.ge3;omega,aad hP hS hB hof (by have:=hall q hq hd;omega)] at h
  have h:small.any (Nat.beq q)=true:=h;obtain ⟨x,hx,he⟩:=List.any_eq_true.1 h;rw [Nat.eq_of_beq_eq_true he];exact hx
 have sq: ∀ q,q∈small→Pr q→ ¬ q*q∣n:=by
  intro q hq hqp hd;have hqn:q∣n:=Nat.dvd_trans (Nat.dvd_mul_right q q) hd;have h:=List.all_eq_true.1 c2 q hq;simp only [Bool.and_eq_true,Bool.not_eq_true'] at h;obtain ⟨h1,h2⟩:=h;have h1:=Nat.eq_of_beq_eq_true h1;have h2:=Nat.ne_of_beq_eq_false h2;have hq2:=hqp.1;have hqq:2≤q*q:=Nat.le_trans hq2 (Nat.le_mul_of_pos_left q (by omega));apply h2;have hb:2 ^ (n - 1) % n=1:=by
   rcases wo hP.p2 with h | ⟨i,hi,h⟩
   ·exact full (s:=false) (by omega) hP.two hP.qZ.2 h
   ·have e:n - 1=iV (n - 1)*2 ^ i*2*2 ^ (vZ (n - 1) - i - 1):=by
     conv=>lhs;rw [←hP.qZ.2]
     rw [Nat.mul_assoc,Nat.mul_assoc, ←Nat.pow_succ', ←Nat.pow_add];congr 2;omega
    conv=>lhs;rw [e]
    apply gW (by omega);rw [Nat.pow_mul,Nat.pow_two];exact CV (by omega) h
  have hb2:=qK hqq hd hb;have hg:=rM hqq (n - 1) (q*(q - 1)) hb2 h1;have ani:Nat.gcd (n - 1) q=1:=by
   rw [Nat.gcd_comm];apply hqp.coprime;intro hc;have:q∣n - (n - 1):=Nat.dvd_sub hqn hc;rw [show n - (n - 1)=1 by omega] at this;have:=Nat.le_of_dvd (by omega) this;omega
  have hdv:Nat.gcd (n - 1) (q*(q - 1))∣q - 1:=by
   have:=Nat.gcd_mul_right_dvd_mul_gcd (n - 1) q (q - 1);rw [ani,Nat.one_mul] at this;exact Nat.dvd_trans this (Nat.gcd_dvd_right _ _)
  exact jG hqq hg hdv
 have hin:=aek small n (by omega) mem sq;have h:=List.all_eq_true.1 c3 n hin;rw [show Nat.beq (n % D.r) 0=true by rw [Nat.mod_eq_zero_of_dvd hr];rfl] at h;have h:cond (Nat.beq n D.r) true (nN n)=true:=h;cases hb:Nat.beq n D.r with
 | true=>exact Nat.eq_of_beq_eq_true hb
 | false=>
  rw [hb] at h;have h:nN n=true:=h;rw [hP.IJ] at h;cases h
theorem IL {D:RDa} {l small:List Nat}  (hP:Pass n) (hS:uf D n) (hB:ug D) (hrp:Pr D.r) (hr3:D.r≤300) (hr:D.r∣n) (hA:allA D l=true) (hl: ∀ f,f∈l→0<f∧f≤32768) (hBB:allB D=true) (hC:OU D small=true):n=D.r:=by
 apply amc hP hS hB hr hC;intro q hq hd;apply Classical.byContradiction;intro hc;have hof:=hP.al9 hq hd;by_cases hbig:32768<q
 ·exact caseA hP hS hB hrp hr hA hl hof hbig (by omega)
 ·exact amb hP hS hB hrp hr hBB hof (by omega) (by omega) (by omega)
theorem l3: ∀ f,f∈Z9→0<f∧f≤32768:=by decide+kernel
theorem l5: ∀ f,f∈aac→0<f∧f≤32768:=by decide+kernel
theorem l11: ∀ f,f∈QH→0<f∧f≤32768:=by decide+kernel
theorem l13: ∀ f,f∈QI→0<f∧f≤32768:=by decide+kernel
theorem pr3:Pr 3:=oW (by decide) (by decide)
theorem pr5:Pr 5:=oW (by decide) (by decide)
theorem anj:Pr 11:=oW (by decide) (by decide)
theorem ank:Pr 13:=oW (by decide) (by decide)
theorem amd (hP:Pass n) (h:3∣n):n=3:=IL (D:=rd3) hP (aiY hP h) ai0 pr3 (by decide) h a3 l3 b3 c3
theorem ame (hP:Pass n) (h:5∣n):n=5:=IL (D:=rd5) hP (aiZ hP h) ai1 pr5 (by decide) h a5 l5 b5 c5
theorem ai2 (hP:Pass n) (h:11∣n):n=11:=IL (D:=OV) hP (aef hP h) aeh anj (by decide) h a11 l11 b11 c11
theorem ai3 (hP:Pass n) (h:13∣n):n=13:=IL (D:=OW) hP (aeg hP h) aei ank (by decide) h a13 l13 b13 c13
theorem uP (n:Nat):aG n=true↔n=2∨n=7∨n=61∨(2<n∧n % 2=1∧0<n % 7∧0<n % 61∧SP 2 n=true∧SP 7 n=true∧SP 61 n=true):=by
 unfold aG;simp only [Bool.or_eq_true,Bool.and_eq_true,beq_iff_eq,decide_eq_true_eq];constructor
 ·rintro (((h | h) | h) | ⟨⟨⟨⟨⟨⟨h1,h2⟩,h3⟩,h4⟩,h5⟩,h6⟩,h7⟩)
  ·exact .inl h
  ·exact .inr (.inl h)
  ·exact .inr (.inr (.inl h))
  ·exact .inr (.inr (.inr ⟨h1,h2,h3,h4,h5,h6,h7⟩))
 ·rintro (h | h | h | ⟨h1,h2,h3,h4,h5,h6,h7⟩)
  ·exact .inl (.inl (.inl h))
  ·exact .inl (.inl (.inr h))
  ·exact .inl (.inr h)
  ·exact .inr ⟨⟨⟨⟨⟨⟨h1,h2⟩,h3⟩,h4⟩,h5⟩,h6⟩,h7⟩
theorem MC (hn:n<2147483648):au n=aG n:=by
 by_cases h2:n<2
 ·have e1:au n=false:=by unfold au;rw [if_pos h2]
  rw [e1];symm;rw [←Bool.not_eq_true,uP];omega
 ·by_cases hno: ∀ p,p∈smalls→n % p≠0
  ·have hf:smalls.find? (fun p=>n % p==0)=none:=List.find?_eq_none.2 (by intro q hq;simpa using hno q hq);have e1:au n=(SP 2 n && (SP 7 n && SP 61 n)):=by
    unfold au;rw [if_neg h2,hf]
   have d2:=hno 2 (by decide);have d7:=hno 7 (by decide);have d61:=hno 61 (by decide);rw [e1,Bool.eq_iff_iff,uP];simp only [Bool.and_eq_true];constructor
   ·rintro ⟨h5,h6,h7⟩;exact .inr (.inr (.inr ⟨by omega,by omega,by omega,by omega,h5,h6,h7⟩))
   ·rintro (h | h | h | ⟨_,_,_,_,h5,h6,h7⟩)
    ·rw [h] at d2;exact absurd rfl d2
    ·rw [h] at d7;exact absurd rfl d7
    ·rw [h] at d61;exact absurd rfl d61
    ·exact ⟨h5,h6,h7⟩
  ·have hex: ∃ p,smalls.find? (fun p=>n % p==0)=some p:=by
    cases hf:smalls.find? (fun p=>n % p==0) with
    | some p=>exact ⟨p,rfl⟩
    | none=>
     exfalso;apply hno;intro p hp;have:=List.find?_eq_none.1 hf p hp;simpa using this
   obtain ⟨p,hf⟩:=hex;have e1:au n=(n==p):=by unfold au;rw [if_neg h2,hf]
   have hmem:=List.mem_of_find?_eq_some hf;have hdiv:n % p=0:=by have:=List.find?_some hf;simpa using this
   rw [e1,Bool.eq_iff_iff,beq_iff_eq];constructor
   ·intro h;subst h;have all: ∀ q,q∈smalls→aG q=true:=by
     intro q hq;simp only [smalls,List.mem_cons,List.not_mem_nil,or_false] at hq;rcases hq with rfl | rfl | rfl | rfl | rfl | rfl | rfl<;>(rw [Nu _ (by omega)];decide+kernel)
    exact all n hmem
   ·intro hr;rw [uP] at hr;have hdv:p∣n:=Nat.dvd_of_mod_eq_zero hdiv;simp only [smalls,List.mem_cons,List.not_mem_nil,or_false] at hmem;rcases hr with rfl | rfl | rfl | ⟨h1,h3,h4,h5,h6,h7,h8⟩
    ·have:=Nat.le_of_dvd (by omega) hdv;rcases hmem with rfl | rfl | rfl | rfl | rfl | rfl | rfl<;>omega
    ·have hle:=Nat.le_of_dvd (by omega) hdv;rcases hmem with rfl | rfl | rfl | rfl | rfl | rfl | rfl<;>simp_all
    ·have hle:=Nat.le_of_dvd (by omega) hdv;rcases hmem with rfl | rfl | rfl | rfl | rfl | rfl | rfl<;>simp_all
    ·have hP:Pass n:=⟨by omega,hn,h3,fun h=>by have:=Nat.mod_eq_zero_of_dvd h;omega,fun h=>by have:=Nat.mod_eq_zero_of_dvd h;omega,h6,h7,h8⟩
     rcases hmem with rfl | rfl | rfl | rfl | rfl | rfl | rfl
     ·omega
     ·exact amd hP hdv
     ·exact ame hP hdv
     ·omega
     ·exact ai2 hP hdv
     ·exact ai3 hP hdv
     ·omega
end
section
theorem QM (n:Int) (p:Nat) (e:Int):iG au n p e=iG aG n p e:=by
 by_cases h:p<65536
 ·unfold iG;rw [MC (show p<2147483648 by omega)]
 ·rw [jr (by omega),jr (by omega)]
theorem MF (s q:Nat):jF au s q=jF aG s q:=by
 unfold jF;by_cases h:q≤2147483647
 ·rw [MC (by omega)]
 ·rw [aj h];rfl
theorem t_eq (x:Par):x.t au=x.t aG:=QM _ _ _
theorem ael (s sp q:Nat):mQ au s sp q=mQ aG s sp q:=by unfold mQ;rw [MF]
theorem ai4 (x:Par):okB au x=okB aG x:=by
 unfold okB stepOf;rw [t_eq,MF];congr 7;congr 1;exact funext fun q=>ael _ _ q
end
section
open Go.RowKit Wv
theorem QN (x:Par) (k:Int):kN au x k=kN aG x k:=by unfold kN;rw [ai4]
theorem UO (x:Par) (k:Int):eu au x k=eu aG x k:=by unfold eu;rw [QN]
theorem UQ (x:Par) (k:Int):dF au x k=dF aG x k:=by unfold dF;rw [QN,QM]
theorem zn (x:Par) (k:Int) (hx:qM x) (hlen:x.ch.length≤140737488351232) (lq: ∀ q,q∈x.ch→q<4294967296):TC Tryz.prog 36 [.g (fD x), .v (.int .i64 k)] (.tup [.v (.int .i64 (dF au x k:Nat)), .v (.int .i64 (eu au x k))]):=by
 rw [UQ,UO];exact aec x k hx hlen lq
end
section
open Go.RowKit Wv
theorem UR (x:Par) (hx:qM x) (hlen:x.ch.length≤140737488351232) (lq: ∀ q,q∈x.ch→q<4294967296) (c:Ci) (hc:okC c) (hcn:c.nl≤1000000) (hni:c.ni≤1000000) (hce: ∀ i,i<c.nl→bQ (c.le i)≤1000000):
  TC Tryz.prog 20 [.g (fD x), .g (ciC c)] (typeA (fP (eu au x x.r) c (ruA x (dF au x x.r)))):=by
 have T:=UE x c (dF au x x.r) (eu au x x.r) (zn x x.r hx hlen lq) hc hcn hni hce (fun h=>by
  obtain ⟨h1,h2,h3,h4⟩:=yg h;exact ⟨h1,by omega,by omega,by omega⟩)
 exact T.res (aiQ fun h=>UC _ _ _ h)
end
section
open Go.RowKit Wv
end
end Go.Proofs.YtljfgdlgmdcmfaaGreat
namespace Go.Proofs.YtljfgdlgmdcmfaaGreat.Wv
section
open Go.RowKit
theorem amf {X:Cx} (hX:Ok X) {id off fz s:Nat} {T:TypeId} {cells:List AV} {b:AV} (h:X.h[id]? =some (some (.arr T s cells fz))) (hab: ∀ (bk n:Nat) (cvs:Array Value),aen X id T s cells fz n bk cvs→ ∀ x,cvs[off]? =some x→Rep X b x):
  ∃ Y,Y.w=X.w∧Y.m=X.m∧Y.h=X.h.set id (some (.arr T s (cells.set off b) fz))∧Step X Y∧Ok Y:=by
 have hid:id<X.h.length:=(List.getElem?_eq_some_iff.1 h).1;have S:Step X ⟨X.w,X.m,X.h.set id (some (.arr T s (cells.set off b) fz)),X.bad,X.ds⟩:=by
  refine ⟨rfl,rfl,rfl,Nat.le_refl _,fun _ _ _=>rfl,fun _ _ _ h1 h2=>⟨h1,h2⟩,by simp,fun i T' s' c f _ hi=>?_,fun i c _ hi=>?_,fun c hc=>?_,fun _ _ hb=> .inl hb,fun i c _ hi=>?_,rfl⟩
  ·by_cases e:i=id
   ·subst e;simp only at hi;rw [List.getElem?_set_self hid] at hi;injection hi with hi;injection hi with hi;injection hi with e1 e2 e3 e4;subst e1 e2 e3 e4;exact ⟨cells,fz,h,by simp,fun _=>rfl⟩
   ·simp only at hi;rw [bV e] at hi;exact ⟨c,f,hi,Nat.le_refl _,fun _=>rfl⟩
  ·by_cases e:i=id
   ·subst e;simp only at hi;rw [List.getElem?_set_self hid] at hi;injection hi with hi;cases hi
   ·simp only at hi;rw [bV e] at hi;exact ⟨c,hi,rfl⟩
  ·obtain ⟨i,⟨o,ho⟩,hc⟩:=hc;by_cases e:i=id
   ·subst e;exact .inr ⟨i,⟨_,h⟩,hc⟩
   ·simp only at ho;rw [bV e] at ho;exact .inr ⟨i,⟨o,ho⟩,hc⟩
  ·by_cases e:i=id
   ·subst e;simp only at hi;rw [List.getElem?_set_self hid] at hi;injection hi with hi;cases hi
   ·simp only at hi;rw [bV e] at hi;exact ⟨c,hi,rfl⟩
 have live: ∀ i,Cx.live ⟨X.w,X.m,X.h.set id (some (.arr T s (cells.set off b) fz)),X.bad,X.ds⟩ i→X.live i:=fun i ⟨o,ho⟩=>by
  by_cases e:i=id
  ·subst e;exact ⟨_,h⟩
  ·simp only at ho;rw [bV e] at ho;exact ⟨o,ho⟩
 refine ⟨⟨X.w,X.m,X.h.set id (some (.arr T s (cells.set off b) fz)),X.bad,X.ds⟩,rfl,rfl,rfl,S,fun i c hi=>?_,fun i T' s' c f hi=>?_,fun i j c hi hj=>hX.inj i j c (live i hi) (live j hj),hX.eF,fun i es hi=>?_⟩
 ·by_cases e:i=id
  ·subst e;simp only at hi;rw [List.getElem?_set_self hid] at hi;injection hi with hi;cases hi
  ·simp only at hi;rw [bV e] at hi;obtain ⟨g,cvs,T',h1,h2,h3,h4,h5⟩:=hX.blk i c hi;exact ⟨g,cvs,T',h1,h2,h3,h4,fun j a' x q1 q2=>(h5 j a' x q1 q2).mono S⟩
 ·by_cases e:i=id
  ·subst e;simp only at hi;rw [List.getElem?_set_self hid] at hi;injection hi with hi;injection hi with hi;injection hi with e1 e2 e3 e4;subst e1 e2 e3 e4;obtain ⟨g1,g2,n,g3,g4⟩:=hX.arr i T s cells fz h;refine ⟨by simpa using g1,g2,n,by simpa using g3,?_⟩;rcases g4 with ⟨g4,g5⟩ | ⟨g,cvs,g4⟩
   ·exact .inl ⟨g4,by rw [g5];rfl⟩
   ·refine .inr ⟨g,cvs,⟨g4.at_,g4.blk,g4.cap,g4.iR,g4.sz,g4.bad,fun j a' x q1 q2=>?_,g4.good⟩⟩;suffices hx:Rep X a' x from hx.mono S
    rw [List.getElem?_set] at q1;split at q1
    ·next hj=>
     subst hj;split at q1
     ·injection q1 with q1;subst q1;exact hab g n cvs g4 x q2
     ·cases q1
    ·exact g4.rep j a' x q1 q2
  ·simp only at hi;rw [bV e] at hi;obtain ⟨g1,g2,n,g3,g4⟩:=hX.arr i T' s' c f hi;refine ⟨g1,g2,n,g3,?_⟩;rcases g4 with g4 | ⟨g,cvs,g4⟩
   ·exact .inl g4
   ·exact .inr ⟨g,cvs,⟨g4.at_,g4.blk,g4.cap,g4.iR,g4.sz,g4.bad,fun j a' x q1 q2=>(g4.rep j a' x q1 q2).mono S,g4.good⟩⟩
 ·by_cases e:i=id
  ·subst e;simp only at hi;rw [List.getElem?_set_self hid] at hi;injection hi with hi;cases hi
  ·simp only at hi;rw [bV e] at hi;obtain ⟨g,ents,clock,h1,h2,h3⟩:=hX.map i es hi;exact ⟨g,ents,clock,h1,h2,h3.mono S⟩
theorem Ent.D6 {n0 N:Nat} {e:Ev} {h:Hp} (id off:Nat) {T:TypeId} {s fz:Nat} {cells:List AV} {a a':AV} {h':Hp} (hc:h[id]? =some (some (.arr T s cells fz))) (ha:cells[off]? =some a) (hcl:fC h a=some (a',h')) (hk:h'[id]? =h[id]?):
  Ent n0 N e h e (h'.set id (some (.arr T s (cells.set off a') fz))):=fun X act hh hn hX hE=>by
 subst hh;obtain ⟨g1,g2,n,g3,g4⟩:=hX.arr id T s cells fz hc;have hoff:off<cells.length:=(List.getElem?_eq_some_iff.1 ha).1;rcases g4 with ⟨_,g5⟩ | ⟨bk,cvs,g4⟩
 ·rw [g5] at hoff;exact absurd hoff (Nat.not_lt_zero _)
 have hsz:off<cvs.size:=by
  have:=g4.sz;have h2:=Nat.mul_le_mul_right s g4.cap;omega
 have hv:=g4.rep off a cvs[off] ha (Array.getElem?_eq_getElem hsz);obtain ⟨Y,y1,y2,y3,y4,y5⟩:=rG X a a' h' _ hX hcl hv;have hY:Y.h[id]? =some (some (.arr T s cells fz)):=by rw [y4,hk];exact hc
 have hid:id<X.h.length:=(List.getElem?_eq_some_iff.1 hc).1;obtain ⟨c2,f2,q1,q2,q3⟩:=y2.nO id T s cells fz hid hY;rw [hc] at q1;injection q1 with q1;injection q1 with q1;injection q1 with _ _ e3 _;have hm:=q3 (by rw [e3]);obtain ⟨Z,z1,z2,z3,z4,z5⟩:=amf y3 (id:=id) (off:=off) (b:=a') hY (fun b2 n2 anC k x hx=>by
  have e1:bk=b2:=by
   have:=k.at_;rw [hm,g4.at_] at this;injection this
  subst e1;have e2:=k.blk;rw [y1,g4.blk] at e2;injection e2 with e2;injection e2 with e2;subst e2;rw [Array.getElem?_eq_getElem hsz] at hx;injection hx with hx;subst hx;exact y5)
 exact ⟨Z,z1.trans y1,by rw [z3,y4],(y2.trans hX z4).toN hn,z5,hE.mono (y2.trans hX z4)⟩
theorem Ent.Es {n0 N:Nat} {e e':Ev} {h h2:Hp} (m:Nat) (hm:n0≤m) (hf:vJ e' e) (he:loE m e') (hh:h.take m=h2) (hl:loH m h2):Ent n0 N e h e' h2:=by
 subst hh;exact Ent.cut m hm hf he hl
end
end Go.Proofs.YtljfgdlgmdcmfaaGreat.Wv
namespace Go.Proofs.YtljfgdlgmdcmfaaGreat
section
open Go.RowKit Wv
end
section
open Go.RowKit Wv
theorem QO {x:Par} (h:eu au x x.r=0):3≤dF au x x.r∧dF au x x.r % 2=1∧dF au x x.r≤2147483647:=by
 obtain ⟨h1,h2,h3,_⟩:=yg h;suffices ho:dF au x x.r % 2=1 by exact ⟨by omega,ho,h2⟩
 unfold dF at h1 ⊢;split at h1
 ·next hb=>
  rw [if_pos hb];unfold iG at h1 ⊢;split at h1
  ·next hq=>
   rw [if_pos hq];have h4:=hq.2.2.2.1;have e:(2*x.n).toNat=2*x.n.toNat:=by omega
   have h5:=Nat.mod_mod_of_dvd x.p (show 2∣2*x.n.toNat from ⟨_,rfl⟩);rw [←e,h4] at h5;rw [Nat.pow_mod, ←h5,Nat.one_mod,Nat.one_pow]
  ·omega
 ·omega
theorem aag (x:Par) (hx:qM x) (hlen:x.ch.length≤140737488351232) (lq: ∀ q,q∈x.ch→q<4294967296) (c:Ci) (hok:okC c) (N:Nat) (hxN:x.n=N) (hN:4≤N) (hN2:N≤32) (hN3:N % 2=0)
  (he:(fP (eu au x x.r) c (ruA x (dF au x x.r))).2.2=0) (m:Nat) (ln:Nat→Nat) (vs:Nat→Nat→Int) (hm:m≤140737488351232) (hln: ∀ i,i<m→ln i≤140737488351232):
  TC Tryz.prog 33 [.g (fD x), .g (ciC c),vsA m ln vs] (yZ N (dF au x x.r:Nat) 0 c m ln vs):=by
 have hm0:=(DF he).1;have hmo:=QO hm0;have TM:=yY x x.r hx hlen lq;rw [hm0] at TM;have TT:=Ud x hx hlen lq c hok;have hgo:=fun (_:(0:Int)=0)=>alZ (N:=N) (vs:=vs) hxN hok he
 generalize fP (eu au x x.r) c (ruA x (dF au x x.r))=q at*;obtain ⟨s1,at1,e1⟩:=q;obtain rfl:e1=0:=he;exact Zm x c N _ 0 at1 s1 hxN (by omega) (by omega) (by omega) hN hN2 hN3 TT TM hok m ln vs hm hln hgo
end
section
open Go.RowKit Wv
end
section
open Go.RowKit Wv
end
section
open Go.RowKit Wv
def rbN (t n:Int):Int:=if (t - 1) / 2<((n.tmod t)+t).tmod t then ((n.tmod t)+t).tmod t - t else ((n.tmod t)+t).tmod t
theorem aah {t n:Int} (ht:3≤t) (ho:t % 2=1): -((t - 1) / 2)≤rbN t n∧rbN t n≤(t - 1) / 2:=by
 have h1:=tmod_in (n:=n) ht;have h2:=Int.tmod_nonneg (a:=n.tmod t+t) t (by omega);have h3:=Int.tmod_lt_of_pos (n.tmod t+t) (show 0<t by omega);unfold rbN;generalize (n.tmod t+t).tmod t=m at*;split<;>omega
theorem QS (t n:Int) (ht:3≤t) (ht':t≤2147483647) (hn: -9223372036854775808≤n∧n≤9223372036854775807):TC Tryz.prog 38 [.v (.int .i64 t), .v (.int .i64 n)] (.v (.int .i64 (rbN t n))):=by
 have hq:(t - 1).tdiv 2=(t - 1) / 2:=Int.tdiv_eq_ediv_of_nonneg (by omega);have h1:=tmod_in (n:=n) ht;have hB:rbN t n=if (t - 1) / 2<((n.tmod t)+t).tmod t then ((n.tmod t)+t).tmod t - t else ((n.tmod t)+t).tmod t:=rfl
 have h2:=Int.tmod_nonneg (a:=n.tmod t+t) t (by omega);have h3:=Int.tmod_lt_of_pos (n.tmod t+t) (show 0<t by omega);generalize rbN t n=B at*;refine Wv.TC.by 21 [1,0,16,4] [] [.tmp 4] Tryz.func38 rfl rfl rfl ?clo ?_
 case clo=>simp only [Wv.BC]
 generalize hm:n.tmod t=m at*;generalize hk:(m+t).tmod t=k at*;by_cases c:(t - 1) / 2<k
 ·rw [if_pos c] at hB;simp (disch:=first|exact Wv.D|fail) only [Wv.B,simprocAttr,hm,hk,hq,ah c];rw [hB]
 ·rw [if_neg c] at hB;simp (disch:=first|exact Wv.D|fail) only [Wv.B,simprocAttr,hm,hk,hq,aj c];rw [hB]
end
section
open Go.RowKit Wv
theorem Gj {N:Nat} {t:Int} {c:Ci} {vs:Nat→Nat→Int} (h: ∀ i,i<c.ni→DR N t N (vs i)=false):yZ N t 0 c c.ni (fun _=>N) vs= .tup [vsA c.no (fun _=>N) (qV N t c vs), .v (.int .i64 0)]:=by
 unfold yZ;rw [if_neg (by decide),if_neg (fun q=>q rfl),if_neg]
 ·rfl
 ·unfold aQ;intro q;obtain ⟨i,hi,e⟩:=List.any_eq_true.1 q;rw [h i (List.mem_range.1 hi)] at e;cases e
end
section
open Go.RowKit Wv
theorem OX {h:Hp} {id jd n N T T2 k z:Nat} {w:Nat→Int} {vs:Nat→Nat→Int} (h1:h[id]? =some (some (.arr T 1 (tab n fun a=>if a=k then AV.own jd N else .t N 1 (tab N fun j=> .v (.int .i64 (vs a j)))) z))) (hz:z=n) (h2:h[jd]? =some (some (.arr T2 1 (tab N fun j=> .v (.int .i64 (w j))) (tab N fun j=>AV.v (.int .i64 (w j))).length))):
  iI 2 h (.own id n)= .t n 1 (tab n fun i=> .t N 1 (tab N fun j=> .v (.int .i64 (if i=k then w j else vs i j)))):=by
 have hl:(tab n fun a=>if a=k then AV.own jd N else .t N 1 (tab N fun j=> .v (.int .i64 (vs a j)))).length=n:=dZ;have hl2:(tab N fun j=>AV.v (.int .i64 (w j))).length=N:=dZ;have hm: ∀ f:Nat→Int,(tab N fun x=>AV.v (.int .i64 (f x))).map (iI 0 h)=tab N fun x=>AV.v (.int .i64 (f x)):=fun f=>by
  unfold tab;rw [List.map_map];exact List.map_congr_left fun x _=>rfl
 have hr:iI 1 h (.own jd N)= .t N 1 (tab N fun j=> .v (.int .i64 (w j))):=by
  show (match h[jd]? with | some (some (.arr _ s cells fz))=>bif Nat.beq cells.length (N*s) && Nat.beq fz cells.length then AV.t N s (cells.map (iI 0 h)) else .own jd N | _=> .own jd N)=_;rw [h2];show (bif Nat.beq (tab N fun j=>AV.v (.int .i64 (w j))).length (N*1) && Nat.beq (tab N fun j=>AV.v (.int .i64 (w j))).length (tab N fun j=>AV.v (.int .i64 (w j))).length then _ else _)=_;rw [hl2,Nat.mul_one,Nat.beq_refl,hm];rfl
 show (match h[id]? with | some (some (.arr _ s cells fz))=>bif Nat.beq cells.length (n*s) && Nat.beq fz cells.length then AV.t n s (cells.map (iI 1 h)) else .own id n | _=> .own id n)=_;rw [h1];show (bif Nat.beq (tab n fun a=>if a=k then AV.own jd N else .t N 1 (tab N fun j=> .v (.int .i64 (vs a j)))).length (n*1) && Nat.beq z (tab n fun a=>if a=k then AV.own jd N else .t N 1 (tab N fun j=> .v (.int .i64 (vs a j)))).length then _ else _)=_;rw [hl,hz,Nat.mul_one,Nat.beq_refl];show AV.t n 1 _=_;congr 1;unfold tab;rw [List.map_map];refine List.map_congr_left fun i _=>?_
 show iI 1 h (if i=k then AV.own jd N else .t N 1 (tab N fun j=> .v (.int .i64 (vs i j))))= .t N 1 (tab N fun j=> .v (.int .i64 (if i=k then w j else vs i j)));by_cases q:i=k
 ·simp only [if_pos q];exact hr
 ·simp only [if_neg q];rfl
theorem D7 (n:Int) (m:Nat) (hm:1≤m) (hm2:m≤1000000) (hn: -9223372036854775808≤n∧n≤9223372036854775807):TC Tryz.prog 39 [.v (.int .i64 n), .v (.int .i64 m)] (.v (.int .i64 (n % (m:Int)))):=by
 have hE:n % (m:Int)=if n.tmod m<0 then n.tmod m+m else n.tmod m:=by
  have h:=Int.emod_emod_of_dvd;rw [Int.tmod_eq_emod];have h1:=Int.emod_nonneg n (show (m:Int)≠0 by omega);have h2:=Int.emod_lt_of_pos n (show (0:Int)<m by omega);have h3:((m:Int).natAbs:Int)=m:=by omega
  split<;>split<;>omega
 have hlo: -(m:Int)<n.tmod m∧n.tmod m<m:=by
  rw [Int.tmod_eq_emod];have h1:=Int.emod_nonneg n (show (m:Int)≠0 by omega);have h2:=Int.emod_lt_of_pos n (show (0:Int)<m by omega);have h3:((m:Int).natAbs:Int)=m:=by omega
  split<;>omega
 generalize n % (m:Int)=r at*;refine Wv.TC.by 15 [0,1,5,10,4] [] [.tmp 4] Tryz.func39 rfl rfl rfl ?clo ?_
 case clo=>simp only [Wv.BC]
 by_cases hq:n.tmod m<0
 ·rw [if_pos hq] at hE;subst hE;exact Wv.V1 (ah hq)
 ·rw [if_neg hq] at hE;subst hE;exact Wv.V1 (aj hq)
end
section
open Go.RowKit Wv
theorem aai {N:Nat} {t:Int} {f:Nat→Int} (hN:4≤N) (h: ∀ j,j<N→ -((t - 1) / 2)≤f j∧f j≤(t - 1) / 2):DR N t N f=false:=by
 unfold DR;simp only [Bool.or_eq_false_iff,decide_eq_false_iff_not,Bool.not_eq_false',decide_eq_true_eq];refine ⟨trivial,?_,?_⟩
 ·have:=(Oy (f:=f) (h:=(t - 1) / 2) (N - 1)).2 fun j hj=>(h j (by omega)).2
  omega
 ·have:=(Oz (f:=f) (h:= -((t - 1) / 2)) (N - 1)).2 fun j hj=>(h j (by omega)).1
  omega
theorem QT (x:Par) (hx:qM x) (hlen:x.ch.length≤140737488351232) (lq: ∀ q,q∈x.ch→q<4294967296) (c:Ci) (h:GX c) (a0 a1 a2:Int) (h0: -9223372036854775808≤a0∧a0≤9223372036854775807) (h1: -9223372036854775808≤a1∧a1≤9223372036854775807) (h2: -9223372036854775808≤a2∧a2≤9223372036854775807):
  TC Tryz.prog 8 [.g (fD x), .g (ciC c), .g [.v (.int .i64 a0), .v (.int .i64 a1), .v (.int .i64 a2)]] (.v (.bool true)):=by
 have hCg:=vV c;have hPg:Clo (.g (fD x)):= .g (fF x);have TB:=Nq c h 5000 (by omega) (by omega);have TL:=OD c h;have TM:=zn x x.r hx hlen lq;have anD:=h.nl;have anE:=h.ni;have TH:=fun hnl hcn=>SY (fD x) (fF x) x.p _ _ _ _ _ _ rfl (by have:=hx.p1;omega) c h hnl hcn
 have hok:=fun hb=>ag7 h (most:=5000) (by omega) (by omega) hb
 have TT:=UR x hx hlen lq c;have EV:=aag x hx hlen lq c;have hgD:=fun hc=>aiw (x:=x) (me:=eu au x x.r) (t:=dF au x x.r) (c:=c) hc
 have hgM:=aiF (x:=x) (me:=eu au x x.r) (t:=dF au x x.r) (c:=c);have hmo:= @QO x;have hme:= @Ze x;obtain ⟨CH,hCH⟩: ∃ CH,CH=x.ch.map fun (c:Nat)=>AV.v (.int .u32 c):=⟨_,rfl⟩
 have hP7:fD x=[.v (.int .i64 x.n), .v (.int .u32 x.p), .v (.int .i64 x.r), .t x.ch.length 1 CH, .v (.int .u32 x.sp), .v (.int .i64 x.wt), .v (.int .u32 x.er)]:=by rw [hCH];rfl
 rw [hP7] at hPg TM TH TT EV ⊢;unfold ciC bW at*;refine Wv.TC.by 217 [0,1,2,23,3,8,4,64,73,11,78,13,87,12,7,5,9,10,14,15,17,19,16,18,166,20,170,190,21,194,216,6] [(19,9),(20,15),(28,16),(33,18),(3000019,152),(3000020,152)] [.tmp 6] Tryz.func8 rfl rfl rfl ?clo ?_
 case clo=>simp only [Wv.BC]
 refine Wv.W ?_;refine ak Oi rfl Wv.c Wv.c ?_;refine Wv.W ?_;refine ak TM rfl (Cm hPg (.v _)) Wv.c ?_;by_cases he:eu au x x.r=0
 case neg=>exact Wv.V1 (aj he)
 rw [he] at TM;by_cases amg:(x.ch.length:Int)>100
 ·exact Wv.V1 (ah amg)
 refine Wv.W1 (aj amg) ?_;refine ak TB rfl (Cm hCg (.v _)) Wv.c ?_;cases hb:SX c 5000 with
 | true=>exact Wv.V
 | false=>
 obtain ⟨hc,hnl,hcn⟩:=hok hb;refine Wv.W ?_;refine ak (TH hnl fun i hi=>by have:=hcn i hi;omega) rfl (Cm hPg hCg) Wv.c ?_;cases Py x.p c with
 | true=>exact Wv.V
 | false=>
 refine Wv.W ?_;refine ak TL rfl (Cm hCg (.v _)) Wv.c ?_;cases hl:Zt c with
 | false=>exact Wv.V1 @Bool.not_false
 | true=>
 by_cases n0:c.ni=0
 ·exact Wv.V2f @Bool.not_true (ah (show (c.ni:Int)=0 by omega))
 by_cases n8:c.ni>8
 ·exact Wv.V3 @Bool.not_true (aj (show ¬ (c.ni:Int)=0 by omega)) (ah (show (c.ni:Int)>8 by omega))
 refine Wv.W3 @Bool.not_true (aj (show ¬ (c.ni:Int)=0 by omega)) (aj (show ¬ (c.ni:Int)>8 by omega)) ?_;have TT:=TT hc hnl (by omega) fun i hi=>by have:=hcn i hi;omega
 unfold typeA at TT;generalize fP (eu au x x.r) c (ruA x (dF au x x.r))=q at*;obtain ⟨s1,at1,e1⟩:=q;refine ak TT rfl (Cm hPg hCg) (by simp only [Wv.BC];exact nI _) ?_;by_cases he1:e1=0
 case neg=>exact Wv.V1 (aj he1)
 subst he1;have hgD:=hgD hc rfl;have hgM:=hgM rfl;obtain ⟨ht3,hto,anF⟩:=hmo he;obtain ⟨N,hxN,hN4,anl,hN2⟩:=hme he;have EV:=fun m ln vs h1 h2=>EV hc N hxN hN4 anl hN2 rfl m ln vs h1 h2
 have hno:c.no≤8:=hgD.2;have anm: ∀ (v w:Nat→Nat→Int) (m:Nat),(∀ i,i<c.ni→v i m=w i m)→ ∀ q,q<c.no→m<N→qV N (dF au x x.r:Nat) c v q m=qV N (dF au x x.r:Nat) c w q m:=fun v w m hvw q hq hm2=>Zv hN4 hN2 hgD hgM hl hvw hq hm2
 generalize dF au x x.r=t at*;obtain ⟨P,hP⟩: ∃ P:Nat,a2 % 1000=P:=⟨(a2 % 1000).toNat,by omega⟩
 obtain ⟨k,hk⟩: ∃ k:Nat,a0 % (c.ni:Int)=k:=⟨(a0 % (c.ni:Int)).toNat,by have:=Int.emod_nonneg a0 (show (c.ni:Int)≠0 by omega);omega⟩
 obtain ⟨s,hs⟩: ∃ s:Nat,a1 % (N:Int)=s:=⟨(a1 % (N:Int)).toNat,by have:=Int.emod_nonneg a1 (show (N:Int)≠0 by omega);omega⟩
 have hkn:k<c.ni:=by have:=Int.emod_lt_of_pos a0 (show (0:Int)<c.ni by omega);omega
 have hsN:s<N:=by have:=Int.emod_lt_of_pos a1 (show (0:Int)<N by omega);omega
 have hP1:P<1000:=by omega
 have P2:TC Tryz.prog 39 [.v (.int .i64 a2), .v (.int .i64 1000)] (.v (.int .i64 P)):=hP▸D7 a2 1000 (by omega) (by omega) h2;have P0:=D7 a0 c.ni (by omega) (by omega) h0;have P1:=D7 a1 N (by omega) (by omega) h1;rw [hk] at P0;rw [hs] at P1;obtain ⟨vs,hvs⟩: ∃ vs:Nat→Nat→Int, ∀ i j,vs i j=rbN t ((P:Int)*(3*(i:Int)+(j:Int)+1)):=⟨_,fun _ _=>rfl⟩
 have aaj: ∀ i j, -(((t:Int) - 1) / 2)≤vs i j∧vs i j≤((t:Int) - 1) / 2:=fun i j=>by rw [hvs];exact aah (by omega) (by omega)
 have hpr: ∀ i j:Nat,i<8→j<32→0≤(P:Int)*(3*(i:Int)+(j:Int)+1)∧(P:Int)*(3*(i:Int)+(j:Int)+1)≤57000:=fun i j hi hj=>by
  have e:(P:Int)*(3*(i:Int)+(j:Int)+1)=((P*(3*i+j+1):Nat):Int):=by rw [Int.natCast_mul];rfl
  have:=Nat.mul_le_mul (show P≤999 by omega) (show 3*i+j+1≤57 by omega);omega
 have B1: ∀ i j:Nat,i<8→j<32→TC Tryz.prog 38 [.v (.int .i64 t), .v (.int .i64 ((P:Int)*(3*(i:Int)+(j:Int)+1)))] (.v (.int .i64 (vs i j))):=fun i j hi hj=>by
  rw [hvs i j];exact QS t _ (by omega) (by omega) (by have:=hpr i j hi hj;omega)
 rw [hxN] at hPg EV ⊢;have hvk:=aaj k s;have BL:=QS t (vs k s+1) (by omega) (by omega) (by have:=aaj k s;omega);have amh:=aah (t:=(t:Int)) (n:=vs k s+1) (by omega) (by omega);obtain ⟨z,hz⟩: ∃ z,z=rbN t (vs k s+1):=⟨_,rfl⟩
 rw [←hz] at BL amh;have hset:(tab N fun j=>if j=s then AV.v (.int .i64 z) else .v (.int .i64 (vs k j)))=tab N fun j=> .v (.int .i64 (if j=s then z else vs k j)):=aN fun j _=>by split<;>rfl
 have E1:=EV c.ni (fun _=>N) vs (by omega) fun _ _=>by omega
 have E2:=EV c.ni (fun _=>N) (fun i j=>if i=k then (if j=s then z else vs k j) else vs i j) (by omega) fun _ _=>by omega
 rw [Gj fun i hi=>aai hN4 fun j _=>aaj i j] at E1;rw [Gj fun i hi=>aai hN4 fun j _=>by
  show _≤(if i=k then (if j=s then z else vs k j) else vs i j)∧(if i=k then (if j=s then z else vs k j) else vs i j)≤_;split
  ·split
   ·exact amh
   ·exact aaj k j
  ·exact aaj i j] at E2
 have hsame: ∀ q,q<c.no→ ∀ m,m<N→ ¬ m=s→qV N t c vs q m=qV N t c (fun i j=>if i=k then (if j=s then z else vs k j) else vs i j) q m:=fun q hq m hm hms=>anm _ _ m (fun i hi=>by
  show vs i m=if i=k then (if m=s then z else vs k m) else vs i m
  by_cases e:i=k
  ·rw [if_pos e,if_neg hms,e]
  ·rw [if_neg e]) q hq hm
 generalize qV N t c vs=o1 at*;generalize qV N t c (fun i j=>if i=k then (if j=s then z else vs k j) else vs i j)=o2 at*;unfold vsA vcA at E1 E2;have aem: ∀ m,lo m (.t x.ch.length 1 CH)=True:=fun m=>eq_true (.clo (by cases hPg with | g h=>exact h _ (by simp)))
 have ai5: ∀ m,lo m (.t c.nl 6 c.lets)=True:=fun m=>eq_true (.clo (by cases hCg with | g h=>exact h _ (by simp)))
 obtain ⟨OP,hOP⟩: ∃ OP,OP=some (Ob.blk [.v (.int .i64 (N:Nat)), .v (.int .u32 x.p), .v (.int .i64 x.r), .t x.ch.length 1 CH, .v (.int .u32 x.sp), .v (.int .i64 x.wt), .v (.int .u32 x.er)]):=⟨_,rfl⟩
 obtain ⟨OC,hOC⟩: ∃ OC,OC=some (Ob.blk [.v (.string c.name), .t c.ni 1 (tab c.ni fun i=> .v (.string (c.fi i))), .t c.nl 6 c.lets, .t c.no 1 (tab c.no fun i=> .v (.string (c.fo i)))]):=⟨_,rfl⟩
 obtain ⟨OA,hOA⟩: ∃ OA,OA=some (Ob.blk [.v (.int .i64 a0), .v (.int .i64 a1), .v (.int .i64 a2)]):=⟨_,rfl⟩
 refine Wv.W ?_;refine pY (σ:=Nat) (fun i=>[(3, .ptr 0 0),(4, .ptr 1 0),(5, .ptr 2 0),(7, .v (.int .i64 t)),(9, .own 3 i),(10, .own 4 i),(11, .v (.int .i64 i))])
  (fun i=>if i≤k then [OP,OC,OA,some (.arr 43 1 (tab i fun a=> .t N 1 (tab N fun j=> .v (.int .i64 (vs a j)))) 0),some (.arr 43 1 (tab i fun a=> .t N 1 (tab N fun j=> .v (.int .i64 (vs a j)))) 0)]
   else [OP,OC,OA,some (.arr 43 1 (tab i fun a=> .t N 1 (tab N fun j=> .v (.int .i64 (vs a j)))) 0),some (.arr 43 1 (tab i fun a=>if a=k then .own 7 N else .t N 1 (tab N fun j=> .v (.int .i64 (vs a j)))) 0),some (.arr 2 1 (tab N fun j=> .v (.int .i64 (vs k j))) N),some (.arr 43 1 [.own 5 N] 0),some (.arr 2 1 (tab N fun j=> .v (.int .i64 (vs k j))) 0)])
  (fun i=>i≤c.ni) (fun i=>c.ni - i) 0 (Nat.zero_le _) ?_ ?_
 ·rw [if_pos (Nat.zero_le _),hOP,hOC,hOA];refine Ent.trans (Ent.nil 9 43 1 (by omega) rfl) (Ent.trans (Ent.nil 10 43 1 (by omega) rfl) (Ent.fit ?_));exact Wv.V
 intro i hi;by_cases hlt:i<c.ni
 ·have e1:(i:Int)<c.ni:=by omega
  have hap: ∀ (L:List AV) (x y:AV),L.length=i→(L++[x]).set i y=L++[y]:=fun L x y hL=>by
   rw [List.set_append_right i _ (by rw [hL];exact Nat.le_refl _),hL,Nat.sub_self];rfl
  have hge: ∀ (L:List AV) (x:AV),L.length=i→(L++[x])[i]? =some x:=fun L x hL=>by
   rw [List.getElem?_append_right (by rw [hL];exact Nat.le_refl _),hL,Nat.sub_self];rfl
  have hset: ∀ j,(tab N fun a=>if a=j then AV.v (.int .i64 (vs i j)) else .v (.int .i64 (if a<j then vs i a else 0)))=tab N fun a=> .v (.int .i64 (if a<j+1 then vs i a else 0)):=fun j=>aN fun a _=>by
   by_cases q:a=j
   ·subst q;rw [if_pos rfl,if_pos (by omega)]
   ·rw [if_neg q];by_cases q2:a<j
    ·rw [if_pos q2,if_pos (by omega)]
    ·rw [if_neg q2,if_neg (by omega)]
  have hsn: ∀ y:AV,(tab i fun a=>AV.t N 1 (tab N fun b=> .v (.int .i64 (vs a b))))++[y]=tab (i+1) fun a=>if a=i then y else AV.t N 1 (tab N fun b=> .v (.int .i64 (vs a b))):=fun y=>by
   rw [aN fun a (ha:a<i)=>(if_neg (by omega):(if a=i then y else AV.t N 1 (tab N fun b=> .v (.int .i64 (vs a b))))=_).symm];exact (congrArg (fun z=>(tab i fun a=>if a=i then y else AV.t N 1 (tab N fun b=> .v (.int .i64 (vs a b))))++[z]) (if_pos rfl).symm).trans (bZ (f:=fun a=>if a=i then y else AV.t N 1 (tab N fun b=> .v (.int .i64 (vs a b))))).symm
  have hs0:(tab i fun a=>AV.t N 1 (tab N fun b=> .v (.int .i64 (vs a b))))++[AV.t N 1 (tab N fun b=> .v (.int .i64 (vs i b)))]=tab (i+1) fun a=>AV.t N 1 (tab N fun b=> .v (.int .i64 (vs a b))):=bZ.symm
  by_cases hik:i≤k
  ·rw [if_pos hik,hOP,hOC,hOA];refine Wv.W1 (ah e1) ?_;refine aV (σ:=Nat) (fun j=>[(3, .ptr 0 0),(4, .ptr 1 0),(5, .ptr 2 0),(7, .v (.int .i64 t)),(9, .own 3 i),(10, .own 4 i),(11, .v (.int .i64 i)),(12, .own 5 N),(13, .v (.int .i64 j))])
    (fun j=>[OP,OC,OA,some (.arr 43 1 (tab i fun a=> .t N 1 (tab N fun j=> .v (.int .i64 (vs a j)))) 0),some (.arr 43 1 (tab i fun a=> .t N 1 (tab N fun j=> .v (.int .i64 (vs a j)))) 0),some (.arr 2 1 (tab N fun a=> .v (.int .i64 (if a<j then vs i a else 0))) 0)])
    (fun j=>j≤N) (fun j=>N - j) 0 (Nat.zero_le _) (by rw [hOP,hOC,hOA];simp (disch:=first|exact Wv.D|fail) only [Wv.B,simprocAttr,Nat.not_lt_zero,if_false]) Wv.V ?_
   intro j hj;rw [hOP,hOC,hOA];by_cases hlj:j<N
   ·have e2:(j:Int)<N:=by omega
    have hp:=hpr i j (by omega) (by omega);have B1:=B1 i j (by omega) (by omega);have hset:=hset j;refine Wv.W1 (ah e2) ?_;refine ak P2 rfl Wv.c Wv.c ?_;refine Wv.W ?_;refine ak B1 rfl Wv.c Wv.c ?_;refine Wv.W ?_;refine ay (j+1) (show j+1≤N by omega) (by omega) (by simp (disch:=first|exact Wv.D|fail) only [Wv.B,simprocAttr,List.set_cons_succ,List.set_cons_zero,bY,hset]) Wv.V2
   obtain rfl:j=N:=by omega
   have hrow:(tab j fun a=>AV.v (.int .i64 (if a<j then vs i a else 0)))=tab j fun a=> .v (.int .i64 (vs i a)):=aN fun a ha=>by rw [if_pos ha]
   refine Wv.W3 @Int.lt_irrefl @decide_false hrow ?_;by_cases ano:i=k
   ·subst ano;refine GL (i+1) ?_ (show i+1≤c.ni by omega) (by omega);rw [if_neg (show ¬ i+1≤i by omega)];refine Ent.trans (Ent.D6 3 i (a:= .own 5 j) (a':= .t j 1 (tab j fun b=> .v (.int .i64 (vs i b)))) rfl (hge _ _ dZ) (if_pos (by rw [dZ,Nat.mul_one])) rfl) (Ent.Es 8 (by first | decide | exact Nat.le_of_ble_eq_true rfl) ?_ ?_ ?_ ?_)
    ·exact Wv.V2f @Int.natCast_add @Int.natCast_one
    ·simp only [Wv.BL, ↓reduceIte,Nat.reduceLeDiff]<;>omega
    ·simp only [List.set_cons_succ,List.set_cons_zero,List.take_succ_cons,List.take_zero,hap _ _ _ dZ,hs0,hsn (.own 7 _),dZ]
    ·simp only [Wv.BL, ↓reduceIte,Nat.reduceLeDiff,aem,ai5]<;>exact ⟨fun a ha=>by split<;>simp only [Wv.BL, ↓reduceIte,Nat.reduceLeDiff]<;>omega,by omega⟩
   ·refine GL (i+1) ?_ (show i+1≤c.ni by omega) (by omega);rw [if_pos (show i+1≤k by omega)];refine Ent.trans (Ent.D6 3 i (a:= .own 5 j) (a':= .t j 1 (tab j fun b=> .v (.int .i64 (vs i b)))) rfl (hge _ _ dZ) (if_pos (by rw [dZ,Nat.mul_one])) rfl) (Ent.trans (Ent.D6 4 i (a:= .own 7 j) (a':= .t j 1 (tab j fun b=> .v (.int .i64 (vs i b)))) rfl (hge _ _ dZ) (if_pos (by rw [dZ,Nat.mul_one])) rfl) (Ent.Es 5 (by first | decide | exact Nat.le_of_ble_eq_true rfl) ?_ ?_ ?_ ?_))
    ·exact Wv.V2f @Int.natCast_add @Int.natCast_one
    ·simp only [Wv.BL, ↓reduceIte,Nat.reduceLeDiff]<;>omega
    ·simp only [List.set_cons_succ,List.set_cons_zero,List.take_succ_cons,List.take_zero,hap _ _ _ dZ,bZ]
    ·simp only [Wv.BL, ↓reduceIte,Nat.reduceLeDiff,aem,ai5]<;>omega
  ·rw [if_neg hik,hOP,hOC,hOA];refine Wv.W1 (ah e1) ?_;refine aV (σ:=Nat) (fun j=>[(3, .ptr 0 0),(4, .ptr 1 0),(5, .ptr 2 0),(7, .v (.int .i64 t)),(9, .own 3 i),(10, .own 4 i),(11, .v (.int .i64 i)),(12, .own 8 N),(13, .v (.int .i64 j))])
    (fun j=>[OP,OC,OA,some (.arr 43 1 (tab i fun a=> .t N 1 (tab N fun j=> .v (.int .i64 (vs a j)))) 0),some (.arr 43 1 (tab i fun a=>if a=k then .own 7 N else .t N 1 (tab N fun j=> .v (.int .i64 (vs a j)))) 0),some (.arr 2 1 (tab N fun j=> .v (.int .i64 (vs k j))) N),some (.arr 43 1 [.own 5 N] 0),some (.arr 2 1 (tab N fun j=> .v (.int .i64 (vs k j))) 0),some (.arr 2 1 (tab N fun a=> .v (.int .i64 (if a<j then vs i a else 0))) 0)])
    (fun j=>j≤N) (fun j=>N - j) 0 (Nat.zero_le _) (by rw [hOP,hOC,hOA];simp (disch:=first|exact Wv.D|fail) only [Wv.B,simprocAttr,Nat.not_lt_zero,if_false]) Wv.V ?_
   intro j hj;rw [hOP,hOC,hOA];by_cases hlj:j<N
   ·have e2:(j:Int)<N:=by omega
    have hp:=hpr i j (by omega) (by omega);have B1:=B1 i j (by omega) (by omega);have hset:=hset j;refine Wv.W1 (ah e2) ?_;refine ak P2 rfl Wv.c Wv.c ?_;refine Wv.W ?_;refine ak B1 rfl Wv.c Wv.c ?_;refine Wv.W ?_;refine ay (j+1) (show j+1≤N by omega) (by omega) (by simp (disch:=first|exact Wv.D|fail) only [Wv.B,simprocAttr,List.set_cons_succ,List.set_cons_zero,bY,hset]) Wv.V2
   obtain rfl:j=N:=by omega
   have hrow:(tab j fun a=>AV.v (.int .i64 (if a<j then vs i a else 0)))=tab j fun a=> .v (.int .i64 (vs i a)):=aN fun a ha=>by rw [if_pos ha]
   refine Wv.W3 @Int.lt_irrefl @decide_false hrow ?_;have hsk:(tab i fun a=>if a=k then AV.own 7 j else .t j 1 (tab j fun b=> .v (.int .i64 (vs a b))))++[AV.t j 1 (tab j fun b=> .v (.int .i64 (vs i b)))]=tab (i+1) fun a=>if a=k then .own 7 j else AV.t j 1 (tab j fun b=> .v (.int .i64 (vs a b))):=
    (congrArg (fun z=>(tab i fun a=>if a=k then AV.own 7 j else .t j 1 (tab j fun b=> .v (.int .i64 (vs a b))))++[z]) (if_neg (show ¬ i=k by omega)).symm).trans (bZ (f:=fun a=>if a=k then AV.own 7 j else .t j 1 (tab j fun b=> .v (.int .i64 (vs a b))))).symm
   refine GL (i+1) ?_ (show i+1≤c.ni by omega) (by omega);rw [if_neg (show ¬ i+1≤k by omega)];refine Ent.trans (Ent.D6 3 i (a:= .own 8 j) (a':= .t j 1 (tab j fun b=> .v (.int .i64 (vs i b)))) rfl (hge _ _ dZ) (if_pos (by rw [dZ,Nat.mul_one])) rfl) (Ent.trans (Ent.D6 4 i (a:= .own 10 j) (a':= .t j 1 (tab j fun b=> .v (.int .i64 (vs i b)))) rfl (hge _ _ dZ) (if_pos (by rw [dZ,Nat.mul_one])) rfl) (Ent.Es 8 (by first | decide | exact Nat.le_of_ble_eq_true rfl) ?_ ?_ ?_ ?_))
   ·exact Wv.V2f @Int.natCast_add @Int.natCast_one
   ·simp only [Wv.BL, ↓reduceIte,Nat.reduceLeDiff]<;>omega
   ·simp only [List.set_cons_succ,List.set_cons_zero,List.take_succ_cons,List.take_zero,hap _ _ _ dZ,hsk,bZ]
   ·simp only [Wv.BL, ↓reduceIte,Nat.reduceLeDiff,aem,ai5]<;>exact ⟨fun a ha=>by split<;>simp only [Wv.BL, ↓reduceIte,Nat.reduceLeDiff]<;>omega,by omega⟩
 obtain rfl:i=c.ni:=by omega
 rw [if_neg (by omega),hOP,hOC,hOA];refine Wv.W2 @Int.lt_irrefl @decide_false ?_;refine eU P0 (pO rfl (pO rfl FP)) Wv.c Wv.c ?_;refine Wv.W ?_;refine ak P1 rfl Wv.c Wv.c ?_;refine Wv.W ?_;refine eU BL (pO rfl (pO rfl FP)) Wv.c Wv.c ?_;refine Wv.W2 @bY hset ?_;refine jT E1 (alM hPg hCg Wv.c) Wv.c ?_;refine Wv.W ?_;refine iM rfl ?_;refine Wv.W ?_;refine adl (args2:=[_,_, .t c.ni 1 (tab c.ni fun i=> .t N 1 (tab N fun j=> .v (.int .i64 (if i=k then (if j=s then z else vs k j) else vs i j))))]) 2 E2
  (List.cons_eq_cons.2 ⟨rfl,List.cons_eq_cons.2 ⟨rfl,List.cons_eq_cons.2 ⟨OX rfl dZ rfl,rfl⟩⟩⟩) ⟨Wk.refl _,Wk.refl _,Wk.refl _,trivial⟩ (alM hPg hCg Wv.c) Wv.c ?_
 refine Wv.W ?_;refine pY (σ:=Nat) (fun i=>[(3, .ptr 0 0),(15, .v (.int .i64 s)),(16, .t c.no 1 (tab c.no fun i=> .t N 1 (tab N fun j=> .v (.int .i64 (o1 i j))))),(18, .t c.no 1 (tab c.no fun i=> .t N 1 (tab N fun j=> .v (.int .i64 (o2 i j))))),(20, .v (.int .i64 i))])
  (fun _=>[OP]) (fun i=>i≤c.no) (fun i=>c.no - i) 0 (Nat.zero_le _) ?_ ?_
 ·rw [hOP];refine Ent.Es 1 (by first | decide | exact Nat.le_of_ble_eq_true rfl) ?_ ?_ rfl ?_
  ·exact Wv.V
  ·simp only [Wv.BL, ↓reduceIte,Nat.reduceLeDiff]
  ·simp only [Wv.BL, ↓reduceIte,Nat.reduceLeDiff,aem]
 intro i hi;rw [hOP];by_cases hlt:i<c.no
 ·have e1:(i:Int)<c.no:=by omega
  refine Wv.W1 (ah e1) ?_;refine aV (σ:=Nat) (fun m=>[(3, .ptr 0 0),(15, .v (.int .i64 s)),(16, .t c.no 1 (tab c.no fun i=> .t N 1 (tab N fun j=> .v (.int .i64 (o1 i j))))),(18, .t c.no 1 (tab c.no fun i=> .t N 1 (tab N fun j=> .v (.int .i64 (o2 i j))))),(20, .v (.int .i64 i)),(21, .v (.int .i64 m))])
   (fun _=>[OP]) (fun m=>m≤N) (fun m=>N - m) 0 (Nat.zero_le _) (by rw [hOP]) Wv.V ?_
  intro m hm;rw [hOP];by_cases hlm:m<N
  ·have e2:(m:Int)<N:=by omega
   by_cases hms:m=s
   ·refine Wv.W2 (ah e2) (ah (show (m:Int)=s by omega)) ?_;refine ay (m+1) (show m+1≤N by omega) (by omega) rfl Wv.V2
   ·have ho:=hsame i hlt m hlm hms;refine Wv.W3 (ah e2) (aj (show ¬ (m:Int)=s by omega)) ho ?_;refine ay (m+1) (show m+1≤N by omega) (by omega) rfl Wv.V2
  obtain rfl:m=N:=by omega
  refine Wv.W2 @Int.lt_irrefl @decide_false ?_;refine ay (i+1) (show i+1≤c.no by omega) (by omega) rfl Wv.V2
 ·obtain rfl:i=c.no:=by omega
  exact Wv.V2f @Int.lt_irrefl @decide_false
end
end Go.Proofs.YtljfgdlgmdcmfaaGreat
