/- Parts of a proof. -/
import Derived.Test.YtljfgdlgmdcmfaaGreatQtg
import Derived.Test.YtljfgdlgmdcmfaaGreatChecked
import Derived.WalkKit
import Derived.WalkSpells
import Derived.WalkLawsBesides
import Derived.Handy
import Derived.Lib.Hide
set_option maxHeartbeats 1000000
namespace Go.Proofs.YtljfgdlgmdcmfaaGreat
section
def v2f:Nat→Nat→Nat
 | 0,_=>0
 | f+1,m=>if m % 2=0 then v2f f (m / 2)+1 else 0
def vJ (m:Nat):Nat:=v2f 32 m
def iO (m:Nat):Nat:=m / 2 ^ vJ m
theorem agi: ∀ (f t d:Nat),t<f→d % 2=1→v2f f (d*2 ^ t)=t:=by
 intro f
 induction f with
 | zero=>intro t d h;omega
 | succ f ih=>
  intro t d h hd
  cases t with
  | zero=>simp [v2f,hd]
  | succ t=>
   have h1:d*2 ^ (t+1)=2*(d*2 ^ t):=by rw [Nat.pow_succ];rw [←Nat.mul_assoc,Nat.mul_comm]
   have h2:d*2 ^ (t+1) % 2=0:=by rw [h1];omega
   have h3:d*2 ^ (t+1) / 2=d*2 ^ t:=by rw [h1];omega
   rw [v2f,if_pos h2,h3,ih t d (by omega) hd]
variable {d:Nat}
theorem L8 {m t:Nat} (ht:t<32) (hd:d % 2=1) (h:d*2 ^ t=m):vJ m=t∧iO m=d:=by
 have h1:vJ m=t:=by rw [←h];exact agi 32 t d ht hd
 refine ⟨h1,?_⟩
 unfold iO
 rw [h1, ←h,Nat.mul_div_cancel _ (Nat.pow_pos (by omega))]
def kM (n:Nat):Nat→Nat→Bool
 | _,0=>false
 | x,k+1=>x==n - 1 || kM n (x*x % n) k
def uf (a e n:Nat):Nat:=a ^ e % n
def SP (a n:Nat):Bool:=uf (a % n) (iO (n - 1)) n==1 || kM n (uf (a % n) (iO (n - 1)) n) (vJ (n - 1))
variable {n x:Nat}
theorem afA {a t:Nat} (ht:t<32) (hd:d % 2=1) (h:d*2 ^ t=n - 1) (hx:x=uf (a % n) d n):SP a n=(x==1 || kM n x t):=by
 obtain ⟨h1,h2⟩:=L8 ht hd h
 unfold SP
 rw [h1,h2,hx]
theorem wZ {k:Nat} (h:x=n - 1):kM n x (k+1)=true:=by simp [kM,h]
theorem ug {k:Nat} (h:x≠n - 1):kM n x (k+1)=kM n (x*x % n) k:=by simp [kM,h]
theorem BU {t m:Nat} (hm:m<4294967296) (hd:0<d) (h:d*2 ^ t=m):t<32:=by
 apply Classical.byContradiction
 intro hc
 have h1:2 ^ 32≤2 ^ t:=Nat.pow_le_pow_right (by omega) (by omega)
 have h2:1*2 ^ t≤d*2 ^ t:=Nat.mul_le_mul_right _ hd
 have h3:(2:Nat) ^ 32=4294967296:=by decide
 omega
def smalls:List Nat:=[2,3,5,7,11,13,61]
def aj (n:Nat):Bool:=
 if n<2 then false else match smalls.find? (fun p=>n % p==0) with
  | some p=>n==p
  | none=>SP 2 n && (SP 7 n && SP 61 n)
def ay (n:Nat):Bool:=
 n==2 || n==7 || n==61 || (decide (2<n) && decide (n % 2=1) && decide (0<n % 7) && decide (0<n % 61) && SP 2 n && SP 7 n && SP 61 n)
end
section
def iT (n:Int):Bool:=n==4 || n==8 || n==16 || n==32
variable {n:Int}
theorem qw (h:iT n=true):n=4∨n=8∨n=16∨n=32:=by
 unfold iT at h;simp at h;omega
def gQ (pr:Nat→Bool) (n:Int) (p:Nat) (e:Int):Nat:=
 if 3≤p∧p<65536∧pr p=true∧p % (2*n).toNat=1∧1≤e∧p ^ e.toNat≤2147483647 then p ^ e.toNat else 0
theorem GY (pr:Nat→Bool) (n:Int) (p:Nat) (e:Int):gQ pr n p e≤2147483647:=by
 unfold gQ;split
 ·rename_i h;exact h.2.2.2.2.2
 ·omega
variable {e:Int}{p:Nat}{pr:Nat→Bool}
theorem jk (h: ¬ (3≤p∧p<65536∧pr p=true∧p % (2*n).toNat=1∧1≤e)):gQ pr n p e=0:=by
 unfold gQ;rw [if_neg];intro hc;exact h ⟨hc.1,hc.2.1,hc.2.2.1,hc.2.2.2.1,hc.2.2.2.2.1⟩
theorem L9 {k:Nat} (hp:3≤p) (hk:(k:Int)≤e) (h:2147483647<p ^ k):gQ pr n p e=0:=by
 unfold gQ;rw [if_neg];intro hc
 have:p ^ k≤p ^ e.toNat:=Nat.pow_le_pow_right (by omega) (by omega)
 omega
theorem Mc {k:Nat} (h:3≤p∧p<65536∧pr p=true∧p % (2*n).toNat=1∧1≤e) (hk:(k:Int)=e) (hb:p ^ k≤2147483647):gQ pr n p e=p ^ k:=by
 have:e.toNat=k:=by omega
 unfold gQ;rw [this,if_pos ⟨h.1,h.2.1,h.2.2.1,h.2.2.2.1,h.2.2.2.2,hb⟩]
def dM (pr:Nat→Bool) (s q:Nat):Bool:=
 decide (1073741824<q) && (decide (q≤2147483647) && (decide (q % s=1) && pr q))
def Par.t (pr:Nat→Bool) (x:Par):Nat:=gQ pr x.n x.p x.r
def wtB (x:Par):Bool:=decide (1≤x.wt∧x.wt≤x.n∧x.er≤64)
def mZ (n:Nat):Bool:=decide (1≤n∧n≤24)
def jq (pr:Nat→Bool) (s sp q:Nat):Bool:=!(decide (q<sp) && dM pr s q)
def stepOf (pr:Nat→Bool) (x:Par):Nat:=(2*x.n).toNat*x.t pr
def okB (pr:Nat→Bool) (x:Par):Bool:=
 iT x.n && (decide (0<x.t pr) && (mZ x.ch.length && (wtB x && (dM pr (stepOf pr x) x.sp && (!(x.ch.any (jq pr (stepOf pr x) x.sp)) && decide x.ch.Nodup)))))
def chk (pr:Nat→Bool) (x:Par):Int:=if okB pr x then 0 else 2
end
section
theorem OJ (x k:Nat):(x==k)=Nat.beq x k:=by
 rw [Bool.eq_iff_iff,beq_iff_eq,Nat.beq_eq]
def force {α:Type} (n:Nat) (f:Nat→α):α:=Nat.rec (f 0) (fun k _=>f (k+1)) n
theorem force_eq {α:Type} (n:Nat) (f:Nat→α):force n f=f n:=by cases n<;>rfl
def pwk (n:Nat) (fuel:Nat):Nat→Nat→Nat→Nat:=
 Nat.rec (fun _ _ out=>out) (fun _ ih a e out=>cond (Nat.beq e 0) out
  (force (a*a % n) fun a2=>force (e / 2) fun e2=>force (cond (Nat.beq (e % 2) 1) (out*a % n) out) fun o2=>ih a2 e2 o2)) fuel
theorem agj (n:Nat): ∀ (fuel a e out:Nat),e<2 ^ fuel→out<n→pwk n fuel a e out=out*a ^ e % n:=by
 intro fuel
 induction fuel with
 | zero=>
  intro a e out he ho
  have:e=0:=by simpa using he
  subst this
  show out=_
  rw [Nat.pow_zero,Nat.mul_one,Nat.mod_eq_of_lt ho]
 | succ f ih=>
  intro a e out he ho
  have e1:pwk n (f+1) a e out=cond (Nat.beq e 0) out (pwk n f (a*a % n) (e / 2) (cond (Nat.beq (e % 2) 1) (out*a % n) out)):=by
   show cond _ _ (force _ _)=_
   rw [force_eq,force_eq,force_eq];rfl
  rw [e1]
  cases h0:Nat.beq e 0 with
  | true=>
   have:e=0:=Nat.eq_of_beq_eq_true h0
   subst this
   show out=_
   rw [Nat.pow_zero,Nat.mul_one,Nat.mod_eq_of_lt ho]
  | false=>
   have he2:e / 2<2 ^ f:=by rw [Nat.pow_succ] at he;omega
   show pwk n f (a*a % n) (e / 2) _=_
   cases h1:Nat.beq (e % 2) 1 with
   | true=>
    have h:e % 2=1:=Nat.eq_of_beq_eq_true h1
    show pwk n f (a*a % n) (e / 2) (out*a % n)=_
    rw [ih _ _ _ he2 (Nat.mod_lt _ (by omega))]
    have h2:a ^ e=a*(a*a) ^ (e / 2):=by
     conv=>lhs;rw [show e=2*(e / 2)+1 by omega]
     rw [Nat.pow_succ,Nat.pow_mul,Nat.pow_two,Nat.mul_comm]
    rw [h2, ←Nat.mul_assoc]
    simp [Nat.mul_mod,Nat.pow_mod]
   | false=>
    have h:e % 2=0:=by have:=Nat.ne_of_beq_eq_false h1;omega
    show pwk n f (a*a % n) (e / 2) out=_
    rw [ih _ _ _ he2 ho]
    have h2:a ^ e=(a*a) ^ (e / 2):=by
     conv=>lhs;rw [show e=2*(e / 2) by omega]
     rw [Nat.pow_mul,Nat.pow_two]
    rw [h2]
    simp [Nat.mul_mod,Nat.pow_mod]
def ac1 (n fuel:Nat):Nat→Bool:=
 Nat.rec (fun _=>false) (fun _ ih x=>cond (Nat.beq x (n - 1)) true (force (x*x % n) fun y=>ih y)) fuel
theorem ac2 (n:Nat): ∀ (k x:Nat),ac1 n k x=kM n x k:=by
 intro k
 induction k with
 | zero=>intro x;rfl
 | succ k ih=>
  intro x
  have e1:ac1 n (k+1) x=cond (Nat.beq x (n - 1)) true (ac1 n k (x*x % n)):=by
   show cond _ _ (force _ _)=_
   rw [force_eq];rfl
  rw [e1,ih,kM]
  rw [OJ]
  cases Nat.beq x (n - 1)<;>rfl
def SPk (a n:Nat):Bool:=
 force (vJ (n - 1)) fun t=>force ((n - 1) / 2 ^ t) fun d=>force (pwk n 32 (a % n) d 1) fun x=>cond (Nat.beq x 1) true (ac1 n t x)
theorem xg (a n:Nat) (hn:2≤n) (hn2:n<4294967296):SP a n=SPk a n:=by
 unfold SPk
 rw [force_eq,force_eq,force_eq,ac2]
 have hd:(n - 1) / 2 ^ vJ (n - 1)=iO (n - 1):=rfl
 have hlt:iO (n - 1)<2 ^ 32:=by
  rw [←hd]
  have:=Nat.div_le_self (n - 1) (2 ^ vJ (n - 1))
  have h3:(2:Nat) ^ 32=4294967296:=by decide
  omega
 rw [hd,agj n 32 (a % n) _ 1 hlt (by omega),Nat.one_mul]
 unfold SP uf
 rw [OJ]
 cases Nat.beq ((a % n) ^ iO (n - 1) % n) 1<;>rfl
def UO (n:Nat):Bool:=
 cond (Nat.beq n 2) true (cond (Nat.beq n 7) true (cond (Nat.beq n 61) true
  (cond (Nat.ble n 2) false (cond (Nat.beq (n % 2) 0) false (cond (Nat.beq (n % 7) 0) false (cond (Nat.beq (n % 61) 0) false (cond (SPk 2 n) (cond (SPk 7 n) (SPk 61 n) false) false)))))))
theorem OL (n:Nat) (hn2:n<4294967296):ay n=UO n:=by
 unfold ay UO
 by_cases h:2<n
 ·rw [xg 2 n (by omega) hn2,xg 7 n (by omega) hn2,xg 61 n (by omega) hn2]
  rw [OJ,OJ,OJ]
  have e1:Nat.ble n 2=false:=by
   cases hb:Nat.ble n 2 with
   | false=>rfl
   | true=>have:=Nat.le_of_ble_eq_true hb;omega
  have m2:decide (n % 2=1)=!(Nat.beq (n % 2) 0):=by
   have e:Nat.beq (n % 2) 0=decide (n % 2=0):=by rw [←OJ,Bool.eq_iff_iff,beq_iff_eq,decide_eq_true_eq]
   rw [e,Bool.eq_iff_iff,decide_eq_true_eq,Bool.not_eq_true',decide_eq_false_iff_not];omega
  have mk: ∀ k:Nat,decide (0<n % k)=!(Nat.beq (n % k) 0):=by
   intro k
   have e:Nat.beq (n % k) 0=decide (n % k=0):=by rw [←OJ,Bool.eq_iff_iff,beq_iff_eq,decide_eq_true_eq]
   rw [e,Bool.eq_iff_iff,decide_eq_true_eq,Bool.not_eq_true',decide_eq_false_iff_not];omega
  rw [e1,m2,mk,mk,decide_eq_true h]
  cases Nat.beq n 2<;>cases Nat.beq n 7<;>cases Nat.beq n 61<;>cases Nat.beq (n % 2) 0<;>cases Nat.beq (n % 7) 0<;>cases Nat.beq (n % 61) 0<;>cases SPk 2 n<;>cases SPk 7 n<;>cases SPk 61 n<;>rfl
 ·have e1:Nat.ble n 2=true:=Nat.ble_eq_true_of_le (by omega)
  rcases (show n=0∨n=1∨n=2 by omega) with rfl | rfl | rfl<;>rfl
end
section
def Pr (p:Nat):Prop:=2≤p∧ ∀ m,m∣p→m=1∨m=p
theorem E8: ∀ n,2≤n→ ∃ p,Pr p∧p∣n:=by
 intro n
 induction n using Nat.strongRecOn with
 | ind n ih=>
  intro h
  by_cases hp:Pr n
  ·exact ⟨n,hp,Nat.dvd_refl n⟩
  ·have: ∃ m,m∣n∧m≠1∧m≠n:=by
    apply Classical.byContradiction
    intro hc
    apply hp
    refine ⟨h,fun m hm=>?_⟩
    apply Classical.byContradiction
    intro hc2
    exact hc ⟨m,hm,fun e=>hc2 (.inl e),fun e=>hc2 (.inr e)⟩
   obtain ⟨m,hm,h1,h2⟩:=this
   have hle:=Nat.le_of_dvd (by omega) hm
   have h0:m≠0:=by intro e;subst e;have:=Nat.eq_zero_of_zero_dvd hm;omega
   obtain ⟨p,hpp,hpm⟩:=ih m (by omega) (by omega)
   exact ⟨p,hpp,Nat.dvd_trans hpm hm⟩
variable {a p:Nat}
theorem Pr.coprime (hp:Pr p) (h: ¬ p∣a):Nat.gcd p a=1:=by
 rcases hp.2 _ (Nat.gcd_dvd_left p a) with h1 | h1
 ·exact h1
 ·exact absurd (h1▸Nat.gcd_dvd_right p a) h
theorem Pr.uh {b:Nat} (hp:Pr p) (h:p∣a*b) (ha: ¬ p∣a):p∣b:=by
 have:Nat.Coprime p a:=hp.coprime ha
 exact this.dvd_of_dvd_mul_left h
def C:Nat→Nat→Nat
 | _,0=>1
 | 0,_+1=>0
 | n+1,k+1=>C n k+C n (k+1)
theorem BX (n:Nat):C n 0=1:=by cases n<;>rfl
theorem ac3: ∀ n k,n<k→C n k=0:=by
 intro n
 induction n with
 | zero=>intro k h;cases k with
  | zero=>omega
  | succ k=>rfl
 | succ n ih=>intro k h;cases k with
  | zero=>omega
  | succ k=>rw [C,ih k (by omega),ih (k+1) (by omega)]
theorem agk: ∀ n,C n n=1:=by
 intro n
 induction n with
 | zero=>rfl
 | succ n ih=>rw [C,ih,ac3 n (n+1) (by omega)]
theorem aay: ∀ n k,(k+1)*C (n+1) (k+1)=(n+1)*C n k:=by
 intro n
 induction n with
 | zero=>intro k;cases k with
  | zero=>rfl
  | succ k=>rw [ac3 0 (k+1) (by omega),ac3 (0+1) (k+1+1) (by omega)];simp
 | succ n ih=>intro k;cases k with
  | zero=>
   have:=ih 0
   have e:C (n+1+1) (0+1)=C (n+1) 0+C (n+1) (0+1):=rfl
   rw [e,BX]
   rw [BX] at this
   omega
  | succ j=>
   have h1:=ih j
   have h2:=ih (j+1)
   rw [C,Nat.mul_add,h2]
   have h3:C (n+1) (j+1)=C n j+C n (j+1):=rfl
   have e1:(j+1+1)*C (n+1) (j+1)=(n+1)*C n j+C (n+1) (j+1):=by rw [Nat.succ_mul,h1]
   rw [e1,h3,show (n+1+1)*(C n j+C n (j+1))=(n+1)*(C n j+C n (j+1))+(C n j+C n (j+1)) from Nat.succ_mul _ _,Nat.mul_add]
   omega
def S (n x:Nat):Nat→Nat
 | 0=>0
 | m+1=>S n x m+C n m*x ^ m
theorem aiz (n x:Nat): ∀ m,S (n+1) x (m+1)=S n x (m+1)+x*S n x m:=by
 intro m
 induction m with
 | zero=>simp [S,BX]
 | succ m ih=>
  have e1:S (n+1) x (m+1+1)=S (n+1) x (m+1)+C (n+1) (m+1)*x ^ (m+1):=rfl
  have e2:S n x (m+1+1)=S n x (m+1)+C n (m+1)*x ^ (m+1):=rfl
  have e3:S n x (m+1)=S n x m+C n m*x ^ m:=rfl
  have e4:C (n+1) (m+1)=C n m+C n (m+1):=rfl
  have e5:x*(C n m*x ^ m)=C n m*x ^ (m+1):=by rw [Nat.pow_succ,Nat.mul_left_comm,Nat.mul_comm x (x ^ m)]
  rw [e1,ih,e2,e4,Nat.add_mul]
  conv=>rhs;rw [e3,Nat.mul_add,e5]
  rw [e3];omega
theorem aiA (x:Nat): ∀ n,(x+1) ^ n=S n x (n+1):=by
 intro n
 induction n with
 | zero=>simp [S,BX]
 | succ n ih=>
  have e:S n x (n+1+1)=S n x (n+1):=by
   show S n x (n+1)+C n (n+1)*x ^ (n+1)=_
   rw [ac3 n (n+1) (by omega)];omega
  rw [aiz,e,Nat.pow_succ,ih,Nat.mul_add,Nat.mul_one,Nat.mul_comm x];omega
theorem Pr.aiB (hp:Pr p) {k:Nat} (h0:0<k) (h1:k<p):p∣C p k:=by
 obtain ⟨n,rfl⟩: ∃ n,p=n+1:=⟨p - 1,by omega⟩
 obtain ⟨j,rfl⟩: ∃ j,k=j+1:=⟨k - 1,by omega⟩
 have h:=aay n j
 have hd:n+1∣(j+1)*C (n+1) (j+1):=by rw [h];exact Nat.dvd_mul_right _ _
 refine hp.uh hd ?_
 intro hc
 have:=Nat.le_of_dvd (by omega) hc
 omega
theorem Pr.aiC (hp:Pr p) (x:Nat): ∀ m,m+1≤p→S p x (m+1) % p=1 % p:=by
 intro m
 induction m with
 | zero=>intro _;simp [S,BX]
 | succ m ih=>
  intro h
  show (S p x (m+1)+C p (m+1)*x ^ (m+1)) % p=_
  obtain ⟨c,hc⟩:=hp.aiB (k:=m+1) (by omega) (by omega)
  rw [hc,Nat.mul_assoc,Nat.add_mul_mod_self_left,ih (by omega)]
theorem Pr.aaz (hp:Pr p) (x:Nat):(x+1) ^ p % p=(x ^ p+1) % p:=by
 rw [aiA]
 show (S p x p+C p p*x ^ p) % p=_
 obtain ⟨m,hm⟩: ∃ m,p=m+1:=⟨p - 1,by have:=hp.1;omega⟩
 have h:=hp.aiC x m (by omega)
 rw [←hm] at h
 rw [agk,Nat.one_mul,Nat.add_mod,h, ←Nat.add_mod,Nat.add_comm]
theorem Pr.little (hp:Pr p): ∀ a,a ^ p % p=a % p:=by
 intro a
 induction a with
 | zero=>rw [Nat.zero_pow (by have:=hp.1;omega)]
 | succ a ih=>rw [hp.aaz,Nat.add_mod,ih, ←Nat.add_mod]
variable {m x:Nat}
theorem BZ (hm:2≤m) (hx:1≤x) (h:m∣x - 1):x % m=1:=by
 obtain ⟨c,hc⟩:=h
 have:x=1+m*c:=by omega
 rw [this,Nat.add_mul_mod_self_left];exact Nat.mod_eq_of_lt (by omega)
theorem Cb (h:x % m=1):m∣x - 1:=by
 have h2:=Nat.div_add_mod x m
 rw [h] at h2
 exact ⟨x / m,by omega⟩
theorem Pr.aaA (hp:Pr p)  (ha: ¬ p∣a):a ^ (p - 1) % p=1:=by
 have h2:=hp.1
 have ha0:0<a:=by
  rcases Nat.eq_zero_or_pos a with h | h
  ·subst h;exact absurd (Nat.dvd_zero p) ha
  ·exact h
 have h1:1≤a ^ (p - 1):=Nat.pow_pos ha0
 apply BZ h2 h1
 refine hp.uh (a:=a) ?_ ha
 have e:a*(a ^ (p - 1) - 1)=a ^ p - a:=by
  rw [Nat.mul_sub,Nat.mul_one]
  congr 1
  rw [Nat.mul_comm, ←Nat.pow_succ];congr 1;omega
 rw [e]
 exact Nat.dvd_of_mod_eq_zero (Nat.sub_mod_eq_zero_of_mod_eq (hp.little a))
theorem fV (hm:2≤m) (h:a ^ x % m=1) (c:Nat):a ^ (x*c) % m=1:=by
 rw [Nat.pow_mul,Nat.pow_mod,h,Nat.one_pow];exact Nat.mod_eq_of_lt (by omega)
variable {y:Nat}
theorem jy (hm:2≤m) (h:a ^ x % m=1) (hd:x∣y):a ^ y % m=1:=by
 obtain ⟨c,rfl⟩:=hd;exact fV hm h c
theorem yK (h:a ^ x % m=1) (h2:a ^ (x+y) % m=1):a ^ y % m=1:=by
 rw [Nat.pow_add,Nat.mul_mod,h,Nat.one_mul,Nat.mod_mod] at h2;exact h2
theorem qZ (hm:2≤m) (x y:Nat):a ^ x % m=1→a ^ y % m=1→a ^ Nat.gcd x y % m=1:=by
 induction x,y using Nat.gcd.induction with
 | H0 n=>intro _ h;rw [Nat.gcd_zero_left];exact h
 | H1 x y hx ih=>
  intro h1 h2
  rw [Nat.gcd_rec]
  refine ih ?_ h1
  have e:y=x*(y / x)+y % x:=(Nat.div_add_mod y x).symm
  rw [e] at h2
  exact yK (fV hm h1 _) h2
theorem aaB: ∀ f m,0<m→m<2 ^ f→ ∃ d,d % 2=1∧d*2 ^ v2f f m=m∧v2f f m<f:=by
 intro f
 induction f with
 | zero=>intro m h0 h1;simp at h1;omega
 | succ f ih=>
  intro m h0 h1
  by_cases hev:m % 2=0
  ·obtain ⟨d,hd,he,hlt⟩:=ih (m / 2) (by omega) (by rw [Nat.pow_succ] at h1;omega)
   have hv:v2f (f+1) m=v2f f (m / 2)+1:=by rw [v2f,if_pos hev]
   refine ⟨d,hd,?_,by omega⟩
   rw [hv,Nat.pow_succ, ←Nat.mul_assoc,he];omega
  ·have hv:v2f (f+1) m=0:=by rw [v2f,if_neg hev]
   exact ⟨m,by omega,by rw [hv];simp,by omega⟩
theorem Cc       (h0 : 0 < m) (h1 : m < 4294967296) : iO   m % 2 = 1 ∧ iO   m * 2 ^ vJ   m = m := by
  obtain ⟨d, hd, he, hlt⟩ := aaB      32 m h0 (by have : (2 : Nat) ^ 32 = 4294967296 := by decide
                                                  omega)
  obtain ⟨h1, h2⟩ := L8       (show v2f 32 m < 32 from hlt) hd he
  rw [h2]
  exact ⟨hd, by rw [h1]; exact he⟩
variable {n:Nat}
theorem OM {e:Nat}: ∀ k,kM n (a ^ e % n) k=true→ ∃ i,i<k∧a ^ (e*2 ^ i) % n=n - 1:=by
 intro k
 induction k generalizing e with
 | zero=>intro h;simp [kM] at h
 | succ k ih=>
  intro h
  simp only [kM,Bool.or_eq_true,beq_iff_eq] at h
  rcases h with h | h
  ·exact ⟨0,by omega,by simpa using h⟩
  ·have e2:(a ^ e % n)*(a ^ e % n) % n=a ^ (e*2) % n:=by
    rw [←Nat.mul_mod, ←Nat.pow_add,show e+e=e*2 by omega]
   rw [e2] at h
   obtain ⟨i,hi,hh⟩:=ih h
   exact ⟨i+1,by omega,by rw [Nat.pow_succ,Nat.mul_comm (2 ^ i) 2, ←Nat.mul_assoc];exact hh⟩
theorem vK (h:SP a n=true):a ^ iO (n - 1) % n=1∨ ∃ i,i<vJ (n - 1)∧a ^ (iO (n - 1)*2 ^ i) % n=n - 1:=by
 unfold SP uf at h
 rw [←Nat.pow_mod] at h
 simp only [Bool.or_eq_true,beq_iff_eq] at h
 rcases h with h | h
 ·exact .inl h
 ·exact .inr (OM _ h)
variable {q:Nat}
theorem qx (hq:2≤q) (hd:q∣n) (h:x % n=1):x % q=1:=by
 have h1:x % n % q=x % q:=Nat.mod_mod_of_dvd x hd
 rw [h] at h1
 rw [←h1];exact Nat.mod_eq_of_lt (by omega)
theorem qy (hq:2≤q) (hd:q∣n) (hn:0<n) (h:x % n=n - 1):x % q=q - 1:=by
 have h1:x % n % q=x % q:=Nat.mod_mod_of_dvd x hd
 rw [h] at h1
 rw [←h1]
 obtain ⟨k,rfl⟩:=hd
 have hk:0<k:=Nat.pos_of_mul_pos_left hn
 have e:q*k - 1=q - 1+q*(k - 1):=by
  obtain ⟨j,rfl⟩: ∃ j,k=j+1:=⟨k - 1,by omega⟩
  rw [Nat.mul_add,Nat.mul_one,Nat.add_sub_cancel];omega
 rw [e,Nat.add_mul_mod_self_left];exact Nat.mod_eq_of_lt (by omega)
def sg (neg:Bool) (q:Nat):Nat:=cond neg (q - 1) 1
theorem GZ {neg:Bool} (hq:2≤q) (hd:q∣n) (hn:0<n) (h:x % n=sg neg n):x % q=sg neg q:=by
 cases neg with
 | true=>exact qy hq hd hn h
 | false=>exact qx hq hd h
theorem Ce (hq:2≤q) (h:x % q=q - 1):x*x % q=1:=by
 rw [Nat.mul_mod,h]
 obtain ⟨j,rfl⟩: ∃ j,q=j+2:=⟨q - 2,by omega⟩
 have e:(j+2 - 1)*(j+2 - 1)=1+(j+2)*j:=by
  show (j+1)*(j+1)=_
  rw [Nat.add_mul,Nat.mul_add];simp [Nat.mul_add,Nat.add_mul];omega
 rw [e,Nat.add_mul_mod_self_left];exact Nat.mod_eq_of_lt (by omega)
theorem ac4 {o:Nat} (hq:2≤q) (h:x % q=q - 1) (ho:o % 2=1):x ^ o % q=q - 1:=by
 have e:o=2*(o / 2)+1:=by omega
 rw [e,Nat.pow_succ,Nat.pow_mul,Nat.pow_two,Nat.mul_mod,Nat.pow_mod,Ce hq h,Nat.one_pow,h,Nat.mod_eq_of_lt (show 1<q by omega),Nat.one_mul]
 exact Nat.mod_eq_of_lt (by omega)
theorem transfer {b d o s:Nat} {neg:Bool} (hp:Pr q) (hq:3≤q) (hd:d % 2=1) (ho:o % 2=1) (hy:o*2 ^ s=y) (h1:b ^ d % q=sg neg q) (h2:b ^ y % q=1):b ^ o % q=sg neg q:=by
 have hq2:2≤q:=hp.1
 have hdvd:Nat.gcd y d∣o:=by
  rw [←hy]
  have hg:=Nat.gcd_mul_right_dvd_mul_gcd d o (2 ^ s)
  have h3:Nat.gcd d (2 ^ s)=1:=by
   have:Nat.Coprime d (2 ^ s):=Nat.Coprime.pow_right s (by
    have:Nat.gcd 2 d=1:=by
     rw [Nat.gcd_rec,hd];rfl
    show Nat.gcd d 2=1;rw [Nat.gcd_comm];exact this)
   exact this
  rw [h3,Nat.mul_one] at hg
  rw [Nat.gcd_comm]
  exact Nat.dvd_trans hg (Nat.gcd_dvd_right d o)
 cases neg with
 | false=>exact jy hq2 (qZ hq2 y d h2 h1) hdvd
 | true=>
  have h1':b ^ d % q=q - 1:=h1
  have hdd:b ^ (d*2) % q=1:=by
   rw [Nat.pow_mul,Nat.pow_two];exact Ce hq2 h1'
  have aiD:Nat.gcd y (d*2)∣o*2:=by
   have hg:=Nat.gcd_mul_right_dvd_mul_gcd y d 2
   exact Nat.dvd_trans hg (Nat.mul_dvd_mul hdvd (Nat.gcd_dvd_right y 2))
  have h4:b ^ (o*2) % q=1:=jy hq2 (qZ hq2 y (d*2) h2 hdd) aiD
  show b ^ o % q=q - 1
  have hne:b ^ o % q≠1:=by
   intro hc
   have h5:b ^ (o*d) % q=1:=fV hq2 hc d
   rw [Nat.mul_comm,Nat.pow_mul] at h5
   have h6:=ac4 hq2 h1' ho
   omega
  have hpos:1≤b ^ o:=by
   rcases Nat.eq_zero_or_pos (b ^ o) with h | h
   ·rw [Nat.pow_mul,h] at h4;simp at h4
   ·exact h
  have hdv:q∣(b ^ o - 1)*(b ^ o+1):=by
   have h5:=Cb h4
   have e:b ^ (o*2) - 1=(b ^ o - 1)*(b ^ o+1):=by
    rw [Nat.pow_mul,Nat.pow_two]
    obtain ⟨z,hz⟩: ∃ z,b ^ o=z+1:=⟨b ^ o - 1,by omega⟩
    rw [hz];simp [Nat.mul_add,Nat.add_mul]
   rwa [←e]
  have hn1: ¬ q∣b ^ o - 1:=fun hc=>hne (BZ hq2 hpos hc)
  obtain ⟨c,hc⟩:=hp.uh hdv hn1
  have hc0:0<c:=by
   rcases Nat.eq_zero_or_pos c with h | h
   ·rw [h] at hc;simp at hc
   ·exact h
  obtain ⟨j,rfl⟩: ∃ j,c=j+1:=⟨c - 1,by omega⟩
  have e:b ^ o=q - 1+q*j:=by rw [Nat.mul_add,Nat.mul_one] at hc;omega
  rw [e,Nat.add_mul_mod_self_left];exact Nat.mod_eq_of_lt (by omega)
end
section
theorem UQ {pr:Nat→Bool} {x:Par} (h:okB pr x=false):chk pr x=2:=by unfold chk;rw [h];rfl
theorem aaC {pr:Nat→Bool} {x:Par} (h:okB pr x=true):chk pr x=0:=by unfold chk;rw [h];rfl
end
section
def Bd (M:Int) (l:List Int):Prop:= ∀ z,z∈l→ -M≤z∧z≤M
variable {M:Int}{l:List Int}
theorem Bd.mono {M':Int}  (h:Bd M l) (hM:M≤M'):Bd M' l:=fun z hz=>by have:=h z hz;omega
theorem Bd.getD (h:Bd M l) (hM:0≤M) (i:Nat): -M≤l.getD i 0∧l.getD i 0≤M:=by
 rw [List.getD_eq_getElem?_getD]
 by_cases hi:i<l.length
 ·rw [List.getElem?_eq_getElem hi];exact h _ (List.getElem_mem hi)
 ·rw [List.getElem?_eq_none (by omega)];show -M≤0∧0≤M;omega
theorem Bd.set (h:Bd M l) (i:Nat) {v:Int} (hv: -M≤v∧v≤M):Bd M (l.set i v):=fun z hz=>by
 rcases List.mem_or_eq_of_mem_set hz with h1 | h1
 ·exact h z h1
 ·rw [h1];exact hv
end
section
open Go.RowKit
theorem aU {k:IntKind} {a b:Int} (h:a=b):Ending.returned (.int k a)= .returned (.int k b):=by rw [h]
theorem au {a b:Bool} (h:a=b):Ending.returned (.bool a)= .returned (.bool b):=by rw [h]
theorem qA (a b n:Int) (ha0:0≤a) (ha:a<4294967296) (hb0:0≤b) (hb:b<4294967296) (hn:1≤n) (hn2:n<4294967296):
  0≤a*b∧a*b≤18446744065119617025∧0≤a*b % n∧a*b % n<n:=by
 refine ⟨Int.mul_nonneg ha0 hb0,?_,Int.emod_nonneg _ (by omega),Int.emod_lt_of_pos _ (by omega)⟩
 have h:a*b≤4294967295*4294967295:=Int.mul_le_mul (by omega) (by omega) hb0 (by omega)
 omega
theorem uj (a b n:Int) (w:World) (ha0:0≤a) (ha:a<4294967296) (hb0:0≤b) (hb:b<4294967296) (hn:1≤n) (hn2:n<4294967296):
  Calls Tryz.prog 222 #[.int .u32 a, .int .u32 b, .int .u32 n] w fun e w'=>e= .returned (.int .u32 (a*b % n))∧w=w':=by
 obtain ⟨h1,h2,h3,h4⟩:=qA a b n ha0 ha hb0 hb hn hn2
 go_enter Tryz.func222,Tryz.ntmps222
 go_wp2
 go_ret
 exact ⟨rfl,rfl⟩
theorem vM (n out a e:Nat) (he:e % 2=1):out*a ^ e % n=(out*a % n)*(a*a % n) ^ (e / 2) % n:=by
 have h:e=2*(e / 2)+1:=by omega
 have h2:a ^ e=a*(a*a) ^ (e / 2):=by
  conv=>lhs;rw [h]
  rw [Nat.pow_succ,Nat.pow_mul,Nat.pow_two,Nat.mul_comm]
 rw [h2, ←Nat.mul_assoc,Nat.mul_mod,Nat.pow_mod (a*a) (e / 2) n, ←Nat.mul_mod_mod,Nat.mod_mod]
 simp [Nat.mul_mod,Nat.pow_mod]
theorem rZ (n out a e:Nat) (he:e % 2=0):out*a ^ e % n=out*(a*a % n) ^ (e / 2) % n:=by
 have h:e=2*(e / 2):=by omega
 have h2:a ^ e=(a*a) ^ (e / 2):=by
  conv=>lhs;rw [h]
  rw [Nat.pow_mul,Nat.pow_two]
 rw [h2,Nat.mul_mod,Nat.pow_mod (a*a) (e / 2) n]
 simp [Nat.mul_mod,Nat.pow_mod]
theorem iH (a b n:Nat):(a:Int)*(b:Int) % (n:Int)=((a*b % n:Nat):Int):=by
 rw [Int.natCast_emod,Int.natCast_mul]
theorem OO (a e n:Nat) (w:World) (ha:a<4294967296) (he:e<18446744073709551616) (hn:2≤n) (hn2:n<4294967296):
  Calls Tryz.prog 221 #[.int .u32 a, .int .u64 e, .int .u32 n] w fun r w'=>r= .returned (.int .u32 (uf a e n))∧w=w':=by
 go_enter Tryz.func221,Tryz.ntmps221
 go_wp2
 go_loop [0,1,7] (fun va ve vo=> ∃ a' e' o':Nat,va= .int .u32 a'∧ve= .int .u64 e'∧vo= .int .u32 o'∧a'<4294967296∧e'≤e∧o'<n∧Hid (o'*a' ^ e' % n=uf a e n)) (fun _ ve _=>(intOf ve).toNat)
 case atStart=>exact ⟨a,e,1,rfl,rfl,rfl,ha,Nat.le_refl _,by omega,by show _=_;rw [Nat.one_mul];rfl⟩
 case round=>
  obtain ⟨a',e',o',rfl,rfl,rfl,ha',he',ho',hI⟩:=hrel
  have hmo:o'*a' % n<n:=Nat.mod_lt _ (by omega)
  have hma:a'*a' % n<n:=Nat.mod_lt _ (by omega)
  by_cases h0:0<e'
  ·by_cases h1:e' % 2=1
   ·have hst:=Lib.hid (vM n o' a' e' h1)
    go_wp2_with (go_at_call 222;refine (uj _ _ _ _ (by omega) (by omega) (by omega) (by omega) (by omega) (by omega)).mono ?_;rintro e w' ⟨rfl,rfl⟩)
    simp only [iH]
    go_round
    case rel=>exact ⟨a'*a' % n,e' / 2,o'*a' % n,rfl,rfl,rfl,by omega,by omega,by omega,(hst.out.symm.trans hI)⟩
    case measure=>simp [intOf];omega
   ·have hst:=Lib.hid (rZ n o' a' e' (by omega))
    go_wp2_with (go_at_call 222;refine (uj _ _ _ _ (by omega) (by omega) (by omega) (by omega) (by omega) (by omega)).mono ?_;rintro e w' ⟨rfl,rfl⟩)
    simp only [iH]
    go_round
    case rel=>exact ⟨a'*a' % n,e' / 2,o',rfl,rfl,rfl,by omega,by omega,by omega,(hst.out.symm.trans hI)⟩
    case measure=>simp [intOf];omega
  ·go_wp2
   go_ret
   obtain rfl:e'=0:=by omega
   have h:=hI.out
   rw [Nat.pow_zero,Nat.mul_one,Nat.mod_eq_of_lt ho'] at h
   exact ⟨aU (by rw [h]),rfl⟩
theorem su (a b n:Int) (p:Addr) (w:World) (hp:w.cell? p=some (.int .u64 n)) (ha0:0≤a) (ha:a<4294967296) (hb0:0≤b) (hb:b<4294967296) (hn:1≤n) (hn2:n<4294967296):
  Calls Tryz.prog 262 #[.int .u32 a, .int .u32 b, .pointer (some p)] w fun e w'=>e= .returned (.int .u32 (a*b % n))∧w=w':=by
 obtain ⟨h1,h2,h3,h4⟩:=qA a b n ha0 ha hb0 hb hn hn2
 go_enter Tryz.func262,Tryz.ntmps262
 go_wp2
 go_ret
 exact ⟨rfl,rfl⟩
theorem G5 (n:Int) (w:World) (hn:0≤n) (hn2:n<4294967296):
  Calls Tryz.prog 243 #[.int .u32 n] w fun r w'=>r= .returned (.func (.func 262) #[] #[.pointer (some ⟨w.heap.size,0,none⟩)])∧w.alloc (.cells #[.int .u64 n] 162)=w':=by
 go_enter Tryz.func243,Tryz.ntmps243
 go_wp2
 go_ret
 exact ⟨rfl,rfl⟩
theorem OQ (a e n:Nat) (w:World) (ha:a<4294967296) (he:e<18446744073709551616) (hn:2≤n) (hn2:n<4294967296):
  Calls Tryz.prog 228 #[.int .u32 a, .int .u64 e, .int .u32 n] w fun r w'=>r= .returned (.int .u32 (uf a e n))∧Below w.heap.size w w':=by
 go_enter Tryz.func228,Tryz.ntmps228
 go_wp2_with (go_at_call 243;refine (G5 _ _ (by omega) (by omega)).mono ?_;rintro e w' ⟨rfl,rfl⟩)
 go_loop [0,1,8] (fun va ve vo=> ∃ a' e' o':Nat,va= .int .u32 a'∧ve= .int .u64 e'∧vo= .int .u32 o'∧a'<4294967296∧e'≤e∧o'<n∧Hid (o'*a' ^ e' % n=uf a e n)) (fun _ ve _=>(intOf ve).toNat)
 case atStart=>exact ⟨a,e,1,rfl,rfl,rfl,ha,Nat.le_refl _,by omega,by show _=_;rw [Nat.one_mul];rfl⟩
 case round=>
  obtain ⟨a',e',o',rfl,rfl,rfl,ha',he',ho',hI⟩:=hrel
  have hmo:o'*a' % n<n:=Nat.mod_lt _ (by omega)
  have hma:a'*a' % n<n:=Nat.mod_lt _ (by omega)
  have hp:(w.alloc (.cells #[.int .u64 n] 162)).cell? ⟨w.heap.size,0,none⟩=some (.int .u64 n):=by simp [go_sem]
  by_cases h0:0<e'
  ·by_cases h1:e' % 2=1
   ·have hst:=Lib.hid (vM n o' a' e' h1)
    have hb:(bits BinOp.and IntKind.u64 (e':Int) 1==1)=true:=by rw [and_one_u64 _ (by omega) (by omega)];simp;omega
    go_wp2_with (go_at_call 262;refine (su _ _ _ _ _ hp (by omega) (by omega) (by omega) (by omega) (by omega) (by omega)).mono ?_;rintro e w' ⟨rfl,rfl⟩)
    simp only [iH]
    go_round
    case rel=>exact ⟨a'*a' % n,e' / 2,o'*a' % n,rfl,rfl,rfl,by omega,by omega,by omega,(hst.out.symm.trans hI)⟩
    case measure=>simp [intOf];omega
   ·have hst:=Lib.hid (rZ n o' a' e' (by omega))
    have hb:(bits BinOp.and IntKind.u64 (e':Int) 1==1)=false:=by rw [and_one_u64 _ (by omega) (by omega)];simp;omega
    go_wp2_with (go_at_call 262;refine (su _ _ _ _ _ hp (by omega) (by omega) (by omega) (by omega) (by omega) (by omega)).mono ?_;rintro e w' ⟨rfl,rfl⟩)
    simp only [iH]
    go_round
    case rel=>exact ⟨a'*a' % n,e' / 2,o',rfl,rfl,rfl,by omega,by omega,by omega,(hst.out.symm.trans hI)⟩
    case measure=>simp [intOf];omega
  ·go_wp2
   go_ret
   obtain rfl:e'=0:=by omega
   have h:=hI.out
   rw [Nat.pow_zero,Nat.mul_one,Nat.mod_eq_of_lt ho'] at h
   exact ⟨aU (by rw [h]),(Below.refl _ _).alloc (Nat.le_refl _) _⟩
end
section
open Go.RowKit
theorem yL (d:Nat) (h:d<4294967296):bits BinOp.and IntKind.u32 (d:Int) 1=((d % 2:Nat):Int):=by
 have h1:=u32_and (d:Int) 1 (by omega) (by omega) (by omega) (by omega)
 rw [h1];show ((d &&& 1:Nat):Int)=_;rw [Nat.and_one_is_mod]
variable {d:Nat}
theorem Cj {t m:Nat} (hev:d % 2=0) (h:d*2 ^ t=m):d / 2*2 ^ (t+1)=m:=by
 rw [Nat.pow_succ,Nat.mul_comm (2 ^ t) 2, ←Nat.mul_assoc,show d / 2*2=d by omega];exact h
theorem Md (a n:Nat) (w:World) (ha:a<4294967296) (hn:3≤n) (hn2:n<4294967296) (hodd:n % 2=1):
  Calls Tryz.prog 205 #[.int .u32 a, .int .u32 n] w fun r w'=>r= .returned (.bool (SP a n))∧Below w.heap.size w w':=by
 have hmd:a % n<n:=Nat.mod_lt _ (by omega)
 go_enter Tryz.func205,Tryz.ntmps205
 go_wp2_with fail
 go_loop [5,6] (fun vd vt=> ∃ d t:Nat,vd= .int .u32 d∧vt= .int .i64 t∧0<d∧d<4294967296∧t<32∧Hid (d*2 ^ t=n - 1)) (fun vd _=>(intOf vd).toNat)
 case atStart=>exact ⟨n - 1,0,by congr 1;omega,rfl,by omega,by omega,by omega,by show _=_;omega⟩
 case round=>
  obtain ⟨d,t,rfl,rfl,hd0,hd,ht,hI⟩:=hrel
  by_cases hev:d % 2=0
  ·have hb:(bits BinOp.and IntKind.u32 (d:Int) 1==0)=true:=by rw [yL d hd];simp;omega
   have hI2:=Cj hev hI.out
   have ht2:t+1<32:=BU (m:=n - 1) (by omega) (by omega) hI2
   have HI2:=Lib.hid hI2
   clear hI2 hI
   go_wp2_with fail
   go_round
   case rel=>exact ⟨d / 2,t+1,by go_num,by go_num,by omega,by omega,ht2,HI2⟩
   case measure=>simp [intOf];omega
  ·have hb:(bits BinOp.and IntKind.u32 (d:Int) 1==0)=false:=by rw [yL d hd];simp;omega
   have ht1:1≤t:=by
    cases t with
    | zero=>have h:=hI.out;simp at h;omega
    | succ t=>omega
   go_wp2_with fail
   rw [show (a:Int) % (n:Int)=((a % n:Nat):Int) by rw [Int.natCast_emod]]
   refine (OQ _ _ _ _ (by omega) (by omega) (by omega) (by omega)).mono ?_
   rintro e w1 ⟨rfl,hb1⟩
   have hS:=Lib.hid (afA (a:=a) (n:=n) (x:=uf (a % n) d n) ht (by omega) hI.out rfl)
   have hlt:uf (a % n) d n<n:=Nat.mod_lt _ (by omega)
   generalize uf (a % n) d n=x0 at hlt hS ⊢
   by_cases h1:x0=1
   ·have e1:((x0:Int)==1)=true:=by simp;omega
    have H1:=Lib.hid h1;clear h1
    go_wp2_with fail
    go_ret
    exact ⟨au (by rw [hS.out,H1.out];rfl),hb1⟩
   ·have e1:((x0:Int)==1)=false:=by simp;omega
    obtain ⟨s,rfl⟩: ∃ s,t=s+1:=⟨t - 1,by omega⟩
    by_cases h2:x0=n - 1
    ·have e2:((x0:Int)==(n:Int) - 1)=true:=by simp;omega
     have H2:=Lib.hid h2;clear h2
     go_wp2_with fail
     go_ret
     exact ⟨au (by rw [hS.out,wZ H2.out,Bool.or_true]),hb1⟩
    ·have e2:((x0:Int)==(n:Int) - 1)=false:=by simp;omega
     go_wp2_with fail
     have hS2:Hid (SP a n=kM n (x0*x0 % n) s):=by
      show _=_;rw [hS.out,ug h2,show (x0==1)=false by simp [h1],Bool.false_or]
     clear hS
     go_loop [7,34] (fun vx vk=> ∃ x k:Nat,vx= .int .u32 x∧vk= .int .i64 k∧x<n∧k≤s∧Hid (SP a n=kM n (x*x % n) (s - k))) (fun _ vk=>s - (intOf vk).toNat)
     case atStart=>exact ⟨x0,0,rfl,rfl,hlt,by omega,hS2⟩
     case round=>
      obtain ⟨x,k,rfl,rfl,hx,hk,hS3⟩:=hrel
      obtain ⟨m1,m2,m3,m4⟩:=qA x x n (by omega) (by omega) (by omega) (by omega) (by omega) (by omega)
      by_cases hks:k<s
      ·obtain ⟨r,hr⟩: ∃ r,s - k=r+1:=⟨s - k - 1,by omega⟩
       by_cases h3:x*x % n=n - 1
       ·have e3:((x:Int)*(x:Int) % (n:Int)==(n:Int) - 1)=true:=by rw [iH];generalize x*x % n=y at h3;exact beq_iff_eq.2 (by omega)
        have H3:=Lib.hid h3;clear h3
        have HR:=Lib.hid hr;clear hr
        go_wp2_with fail
        go_ret
        exact ⟨au (by rw [hS3.out,HR.out,wZ H3.out]),hb1⟩
       ·have e3:((x:Int)*(x:Int) % (n:Int)==(n:Int) - 1)=false:=by rw [iH];generalize x*x % n=y at h3;exact beq_eq_false_iff_ne.2 (by omega)
        have HR:=Lib.hid hr;clear hr
        go_wp2_with fail
        simp only [iH]
        go_round
        case rel=>exact ⟨x*x % n,k+1,rfl,by go_num,Nat.mod_lt _ (by omega),by omega,by show _=_;rw [hS3.out,HR.out,ug h3];congr 1;have:=HR.out;omega⟩
        case measure=>simp [intOf];omega
      ·go_wp2_with fail
       go_ret
       exact ⟨au (by rw [hS3.out,show s - k=0 by omega];rfl),hb1⟩
theorem oK {n t:Nat} (ht:1≤t) (h:d*2 ^ t=n - 1):2*d≤n - 1:=by
 obtain ⟨s,rfl⟩: ∃ s,t=s+1:=⟨t - 1,by omega⟩
 rw [Nat.pow_succ, ←Nat.mul_assoc] at h
 have:=Nat.mul_le_mul_left d (Nat.one_le_two_pow (n:=s))
 omega
theorem Wu {s m:Nat} (h:d*2 ^ (s+1)=m):d*2*2 ^ s=m:=by
 rw [Nat.pow_succ,Nat.mul_comm (2 ^ s) 2, ←Nat.mul_assoc] at h;exact h
theorem Me (a n:Nat) (w:World) (ha:a<4294967296) (hn:3≤n) (hn2:n<4294967296) (hodd:n % 2=1):
  Calls Tryz.prog 190 #[.int .u32 a, .int .u32 n] w fun r w'=>r= .returned (.bool (SP a n))∧w=w':=by
 have hmd:a % n<n:=Nat.mod_lt _ (by omega)
 go_enter Tryz.func190,Tryz.ntmps190
 go_wp2_with fail
 go_loop [5] (fun vd=> ∃ d t:Nat,vd= .int .u32 d∧0<d∧d<4294967296∧t<32∧Hid (d*2 ^ t=n - 1)) (fun vd=>(intOf vd).toNat)
 case atStart=>exact ⟨n - 1,0,by congr 1;omega,by omega,by omega,by omega,by show _=_;omega⟩
 case round=>
  obtain ⟨d,t,rfl,hd0,hd,ht,hI⟩:=hrel
  by_cases hev:d % 2=0
  ·have hI2:=Cj hev hI.out
   have ht2:t+1<32:=BU (m:=n - 1) (by omega) (by omega) hI2
   have HI2:=Lib.hid hI2
   clear hI2 hI
   have hb:((d:Int) % 2==0)=true:=beq_iff_eq.2 (by omega)
   go_wp2_with fail
   go_round
   case rel=>exact ⟨d / 2,t+1,by go_num,by omega,by omega,ht2,HI2⟩
   case measure=>simp [intOf];omega
  ·have ht1:1≤t:=by
    cases t with
    | zero=>have h:=hI.out;simp at h;omega
    | succ t=>omega
   have hb:((d:Int) % 2==0)=false:=beq_eq_false_iff_ne.2 (by omega)
   go_wp2_with fail
   rw [show (a:Int) % (n:Int)=((a % n:Nat):Int) by rw [Int.natCast_emod]]
   refine (OO _ _ _ _ (by omega) (by omega) (by omega) (by omega)).mono ?_
   rintro e w1 ⟨rfl,rfl⟩
   have hS:=Lib.hid (afA (a:=a) (n:=n) (x:=uf (a % n) d n) ht (by omega) hI.out rfl)
   have hlt:uf (a % n) d n<n:=Nat.mod_lt _ (by omega)
   generalize uf (a % n) d n=x0 at hlt hS ⊢
   by_cases h1:x0=1
   ·have e1:((x0:Int)==1)=true:=beq_iff_eq.2 (by omega)
    have H1:=Lib.hid h1;clear h1
    go_wp2_with fail
    go_ret
    exact ⟨au (by rw [hS.out,H1.out];rfl),rfl⟩
   ·have e1:((x0:Int)==1)=false:=beq_eq_false_iff_ne.2 (by omega)
    go_wp2_with fail
    have hS2:Hid (SP a n=kM n x0 t):=by
     show _=_;rw [hS.out,show (x0==1)=false by simp [h1],Bool.false_or]
    clear hS
    go_loop [5,6] (fun vd vx=> ∃ d' x k:Nat,vd= .int .u32 d'∧vx= .int .u32 x∧0<d'∧d'≤n - 1∧x<n∧Hid (d'*2 ^ k=n - 1)∧Hid (SP a n=kM n x k)) (fun vd _=>n - (intOf vd).toNat)
    case atStart=>exact ⟨d,x0,t,rfl,rfl,by omega,by have:=oK ht1 hI.out;omega,hlt,hI,hS2⟩
    case round=>
     obtain ⟨d',x,k,rfl,rfl,hd1,hd2,hx,hI3,hS3⟩:=hrel
     by_cases hlt2:d'<n - 1
     ·obtain ⟨s,rfl⟩: ∃ s,k=s+1:=by
       cases k with
       | zero=>have h:=hI3.out;simp at h;omega
       | succ k=>exact ⟨k,rfl⟩
      have hdb:=oK (by omega) hI3.out
      by_cases h3:x=n - 1
      ·have e3:((x:Int)==(n:Int) - 1)=true:=beq_iff_eq.2 (by omega)
       have H3:=Lib.hid h3;clear h3
       go_wp2_with fail
       go_ret
       exact ⟨au (by rw [hS3.out,wZ H3.out]),rfl⟩
      ·have e3:((x:Int)==(n:Int) - 1)=false:=beq_eq_false_iff_ne.2 (by omega)
       go_wp2_with (go_at_call 222;refine (uj _ _ _ _ (by omega) (by omega) (by omega) (by omega) (by omega) (by omega)).mono ?_;rintro e w' ⟨rfl,rfl⟩)
       simp only [iH]
       go_round
       case rel=>exact ⟨d'*2,x*x % n,s,by go_num,rfl,by omega,by omega,Nat.mod_lt _ (by omega),Wu hI3.out,by show _=_;rw [hS3.out,ug h3]⟩
       case measure=>simp [intOf];omega
     ·have hk0:k=0:=by
       cases k with
       | zero=>rfl
       | succ k=>have:=oK (by omega) hI3.out;omega
      have HK:=Lib.hid hk0;clear hk0
      go_wp2_with fail
      go_ret
      exact ⟨au (by rw [hS3.out,HK.out];rfl),rfl⟩
end
section
open Go.RowKit
theorem agl (w:World):(Instr.index 235 (.agg #[.int .u32 2, .int .u32 3, .int .u32 5, .int .u32 7, .int .u32 11, .int .u32 13, .int .u32 61]) (.int .i64 0)).run Tryz.prog w= .ok (.int .u32 2) w:=by kernel_rfl
theorem agm (w:World):(Instr.index 235 (.agg #[.int .u32 2, .int .u32 3, .int .u32 5, .int .u32 7, .int .u32 11, .int .u32 13, .int .u32 61]) (.int .i64 1)).run Tryz.prog w= .ok (.int .u32 3) w:=by kernel_rfl
theorem agn (w:World):(Instr.index 235 (.agg #[.int .u32 2, .int .u32 3, .int .u32 5, .int .u32 7, .int .u32 11, .int .u32 13, .int .u32 61]) (.int .i64 2)).run Tryz.prog w= .ok (.int .u32 5) w:=by kernel_rfl
theorem agp (w:World):(Instr.index 235 (.agg #[.int .u32 2, .int .u32 3, .int .u32 5, .int .u32 7, .int .u32 11, .int .u32 13, .int .u32 61]) (.int .i64 3)).run Tryz.prog w= .ok (.int .u32 7) w:=by kernel_rfl
theorem agq (w:World):(Instr.index 235 (.agg #[.int .u32 2, .int .u32 3, .int .u32 5, .int .u32 7, .int .u32 11, .int .u32 13, .int .u32 61]) (.int .i64 4)).run Tryz.prog w= .ok (.int .u32 11) w:=by kernel_rfl
theorem agr (w:World):(Instr.index 235 (.agg #[.int .u32 2, .int .u32 3, .int .u32 5, .int .u32 7, .int .u32 11, .int .u32 13, .int .u32 61]) (.int .i64 5)).run Tryz.prog w= .ok (.int .u32 13) w:=by kernel_rfl
theorem ags (w:World):(Instr.index 235 (.agg #[.int .u32 2, .int .u32 3, .int .u32 5, .int .u32 7, .int .u32 11, .int .u32 13, .int .u32 61]) (.int .i64 6)).run Tryz.prog w= .ok (.int .u32 61) w:=by kernel_rfl
theorem agt (w:World):(Instr.index 236 (.agg #[.int .u32 2, .int .u32 7, .int .u32 61]) (.int .i64 0)).run Tryz.prog w= .ok (.int .u32 2) w:=by kernel_rfl
theorem agu (w:World):(Instr.index 236 (.agg #[.int .u32 2, .int .u32 7, .int .u32 61]) (.int .i64 1)).run Tryz.prog w= .ok (.int .u32 7) w:=by kernel_rfl
theorem agv (w:World):(Instr.index 236 (.agg #[.int .u32 2, .int .u32 7, .int .u32 61]) (.int .i64 2)).run Tryz.prog w= .ok (.int .u32 61) w:=by kernel_rfl
theorem jA (a:Int) (n:Nat) (w:World) (ha0:0≤a) (ha:a<4294967296) (hn:3≤n) (hn2:n<4294967296) (hodd:n % 2=1):
  Calls Tryz.prog 205 #[.int .u32 a, .int .u32 n] w fun r w'=>r= .returned (.bool (SP a.toNat n))∧Below w.heap.size w w':=by
 obtain ⟨b,rfl⟩:=Int.eq_ofNat_of_zero_le ha0
 exact Md b n w (by omega) hn hn2 hodd
def vN (n k:Nat):Prop:= ∀ p,p∈smalls.take k→n % p≠0
variable {n:Nat}
theorem gy {k p:Nat} (h:vN n k) (hp:smalls[k]? =some p) (hd:n % p≠0):vN n (k+1):=by
 intro q hq
 rw [List.take_add_one] at hq
 rcases List.mem_append.1 hq with h1 | h1
 ·exact h q h1
 ·rw [hp] at h1;simp at h1;subst h1;exact hd
theorem gI {k p:Nat} (h2: ¬ n<2) (h:vN n k) (hp:smalls[k]? =some p) (hd:n % p=0):aj n=(n==p):=by
 have hf:smalls.find? (fun p=>n % p==0)=some p:=by
  have hk:k<smalls.length:=(List.getElem?_eq_some_iff.1 hp).1
  have e:smalls=smalls.take k++p::smalls.drop (k+1):=by
   have hpk:smalls[k]=p:=(List.getElem?_eq_some_iff.1 hp).2
   rw [←hpk,List.getElem_cons_drop,List.take_append_drop]
  rw [e,List.find?_append,List.find?_eq_none.2 (by intro q hq;simpa using h q hq)]
  simp [hd]
 unfold aj
 rw [if_neg h2,hf]
theorem MB (h2: ¬ n<2) (h:vN n 7):aj n=(SP 2 n && (SP 7 n && SP 61 n)):=by
 have hf:smalls.find? (fun p=>n % p==0)=none:=List.find?_eq_none.2 (by intro q hq;simpa using h q (by simpa [smalls] using hq))
 unfold aj
 rw [if_neg h2,hf]
theorem kD (n:Nat) (w:World) (hn2:n<4294967296):
  Calls Tryz.prog 139 #[.int .u32 n] w fun r w'=>r= .returned (.bool (aj n))∧Below w.heap.size w w':=by
 by_cases h2:n<2
 ·go_enter Tryz.func139,Tryz.ntmps139
  go_wp2_with fail
  go_ret
  exact ⟨au (by unfold aj;rw [if_pos h2]),Below.refl _ _⟩
 ·go_enter Tryz.func139,Tryz.ntmps139
  go_wp2_with fail
  go_loop [4,10] (fun _ vk=> ∃ k:Nat,vk= .int .i64 k∧k≤7∧Hid (vN n k)) (fun _ vk=>7 - (intOf vk).toNat)
  case atStart=>exact ⟨0,rfl,by omega,by intro p hp;simp at hp⟩
  case round=>
   obtain ⟨k,rfl,hk,hno⟩:=hrel
   rcases (show k=0∨k=1∨k=2∨k=3∨k=4∨k=5∨k=6∨k=7 by omega) with rfl | rfl | rfl | rfl | rfl | rfl | rfl | rfl
   ·have hix:=agl
    by_cases hd:n % 2=0
    ·have hM:=Lib.hid (gI h2 hno.out (show smalls[0]? =some 2 from rfl) hd)
     have hb:((n:Int) % 2==0)=true:=beq_iff_eq.2 (by omega)
     by_cases he:n=2
     ·have hq:((n:Int)==2)=true:=beq_iff_eq.2 (by omega)
      have HE:=Lib.hid he
      clear he hd
      go_wp2_with fail
      go_ret
      exact ⟨au (by rw [hM.out,HE.out];rfl),Below.refl _ _⟩
     ·have hq:((n:Int)==2)=false:=beq_eq_false_iff_ne.2 (by omega)
      clear hd
      go_wp2_with fail
      go_ret
      exact ⟨au (by rw [hM.out,beq_eq_false_iff_ne.2 he]),Below.refl _ _⟩
    ·have hb:((n:Int) % 2==0)=false:=beq_eq_false_iff_ne.2 (by omega)
     have hN:=Lib.hid (gy hno.out (show smalls[0]? =some 2 from rfl) hd)
     go_wp2_with fail
     go_round
     case rel=>exact ⟨1,rfl,by omega,hN⟩
     case measure=>simp [intOf]
   ·have hix:=agm
    by_cases hd:n % 3=0
    ·have hM:=Lib.hid (gI h2 hno.out (show smalls[1]? =some 3 from rfl) hd)
     have hb:((n:Int) % 3==0)=true:=beq_iff_eq.2 (by omega)
     by_cases he:n=3
     ·have hq:((n:Int)==3)=true:=beq_iff_eq.2 (by omega)
      have HE:=Lib.hid he
      clear he hd
      go_wp2_with fail
      go_ret
      exact ⟨au (by rw [hM.out,HE.out];rfl),Below.refl _ _⟩
     ·have hq:((n:Int)==3)=false:=beq_eq_false_iff_ne.2 (by omega)
      clear hd
      go_wp2_with fail
      go_ret
      exact ⟨au (by rw [hM.out,beq_eq_false_iff_ne.2 he]),Below.refl _ _⟩
    ·have hb:((n:Int) % 3==0)=false:=beq_eq_false_iff_ne.2 (by omega)
     have hN:=Lib.hid (gy hno.out (show smalls[1]? =some 3 from rfl) hd)
     go_wp2_with fail
     go_round
     case rel=>exact ⟨2,rfl,by omega,hN⟩
     case measure=>simp [intOf]
   ·have hix:=agn
    by_cases hd:n % 5=0
    ·have hM:=Lib.hid (gI h2 hno.out (show smalls[2]? =some 5 from rfl) hd)
     have hb:((n:Int) % 5==0)=true:=beq_iff_eq.2 (by omega)
     by_cases he:n=5
     ·have hq:((n:Int)==5)=true:=beq_iff_eq.2 (by omega)
      have HE:=Lib.hid he
      clear he hd
      go_wp2_with fail
      go_ret
      exact ⟨au (by rw [hM.out,HE.out];rfl),Below.refl _ _⟩
     ·have hq:((n:Int)==5)=false:=beq_eq_false_iff_ne.2 (by omega)
      clear hd
      go_wp2_with fail
      go_ret
      exact ⟨au (by rw [hM.out,beq_eq_false_iff_ne.2 he]),Below.refl _ _⟩
    ·have hb:((n:Int) % 5==0)=false:=beq_eq_false_iff_ne.2 (by omega)
     have hN:=Lib.hid (gy hno.out (show smalls[2]? =some 5 from rfl) hd)
     go_wp2_with fail
     go_round
     case rel=>exact ⟨3,rfl,by omega,hN⟩
     case measure=>simp [intOf]
   ·have hix:=agp
    by_cases hd:n % 7=0
    ·have hM:=Lib.hid (gI h2 hno.out (show smalls[3]? =some 7 from rfl) hd)
     have hb:((n:Int) % 7==0)=true:=beq_iff_eq.2 (by omega)
     by_cases he:n=7
     ·have hq:((n:Int)==7)=true:=beq_iff_eq.2 (by omega)
      have HE:=Lib.hid he
      clear he hd
      go_wp2_with fail
      go_ret
      exact ⟨au (by rw [hM.out,HE.out];rfl),Below.refl _ _⟩
     ·have hq:((n:Int)==7)=false:=beq_eq_false_iff_ne.2 (by omega)
      clear hd
      go_wp2_with fail
      go_ret
      exact ⟨au (by rw [hM.out,beq_eq_false_iff_ne.2 he]),Below.refl _ _⟩
    ·have hb:((n:Int) % 7==0)=false:=beq_eq_false_iff_ne.2 (by omega)
     have hN:=Lib.hid (gy hno.out (show smalls[3]? =some 7 from rfl) hd)
     go_wp2_with fail
     go_round
     case rel=>exact ⟨4,rfl,by omega,hN⟩
     case measure=>simp [intOf]
   ·have hix:=agq
    by_cases hd:n % 11=0
    ·have hM:=Lib.hid (gI h2 hno.out (show smalls[4]? =some 11 from rfl) hd)
     have hb:((n:Int) % 11==0)=true:=beq_iff_eq.2 (by omega)
     by_cases he:n=11
     ·have hq:((n:Int)==11)=true:=beq_iff_eq.2 (by omega)
      have HE:=Lib.hid he
      clear he hd
      go_wp2_with fail
      go_ret
      exact ⟨au (by rw [hM.out,HE.out];rfl),Below.refl _ _⟩
     ·have hq:((n:Int)==11)=false:=beq_eq_false_iff_ne.2 (by omega)
      clear hd
      go_wp2_with fail
      go_ret
      exact ⟨au (by rw [hM.out,beq_eq_false_iff_ne.2 he]),Below.refl _ _⟩
    ·have hb:((n:Int) % 11==0)=false:=beq_eq_false_iff_ne.2 (by omega)
     have hN:=Lib.hid (gy hno.out (show smalls[4]? =some 11 from rfl) hd)
     go_wp2_with fail
     go_round
     case rel=>exact ⟨5,rfl,by omega,hN⟩
     case measure=>simp [intOf]
   ·have hix:=agr
    by_cases hd:n % 13=0
    ·have hM:=Lib.hid (gI h2 hno.out (show smalls[5]? =some 13 from rfl) hd)
     have hb:((n:Int) % 13==0)=true:=beq_iff_eq.2 (by omega)
     by_cases he:n=13
     ·have hq:((n:Int)==13)=true:=beq_iff_eq.2 (by omega)
      have HE:=Lib.hid he
      clear he hd
      go_wp2_with fail
      go_ret
      exact ⟨au (by rw [hM.out,HE.out];rfl),Below.refl _ _⟩
     ·have hq:((n:Int)==13)=false:=beq_eq_false_iff_ne.2 (by omega)
      clear hd
      go_wp2_with fail
      go_ret
      exact ⟨au (by rw [hM.out,beq_eq_false_iff_ne.2 he]),Below.refl _ _⟩
    ·have hb:((n:Int) % 13==0)=false:=beq_eq_false_iff_ne.2 (by omega)
     have hN:=Lib.hid (gy hno.out (show smalls[5]? =some 13 from rfl) hd)
     go_wp2_with fail
     go_round
     case rel=>exact ⟨6,rfl,by omega,hN⟩
     case measure=>simp [intOf]
   ·have hix:=ags
    by_cases hd:n % 61=0
    ·have hM:=Lib.hid (gI h2 hno.out (show smalls[6]? =some 61 from rfl) hd)
     have hb:((n:Int) % 61==0)=true:=beq_iff_eq.2 (by omega)
     by_cases he:n=61
     ·have hq:((n:Int)==61)=true:=beq_iff_eq.2 (by omega)
      have HE:=Lib.hid he
      clear he hd
      go_wp2_with fail
      go_ret
      exact ⟨au (by rw [hM.out,HE.out];rfl),Below.refl _ _⟩
     ·have hq:((n:Int)==61)=false:=beq_eq_false_iff_ne.2 (by omega)
      clear hd
      go_wp2_with fail
      go_ret
      exact ⟨au (by rw [hM.out,beq_eq_false_iff_ne.2 he]),Below.refl _ _⟩
    ·have hb:((n:Int) % 61==0)=false:=beq_eq_false_iff_ne.2 (by omega)
     have hN:=Lib.hid (gy hno.out (show smalls[6]? =some 61 from rfl) hd)
     go_wp2_with fail
     go_round
     case rel=>exact ⟨7,rfl,by omega,hN⟩
     case measure=>simp [intOf]
   ·have hodd:n % 2=1:=by have:=hno.out 2 (by simp [smalls]);omega
    have hM:=Lib.hid (MB h2 hno.out)
    go_wp2_with fail
    go_loopw [6,22] (fun _ vk wr=> ∃ k:Nat,vk= .int .i64 k∧k≤3∧Hid (∀ p,p∈[2,7,61].take k→SP p n=true)∧Below w.heap.size w wr) (fun _ vk _=>3 - (intOf vk).toNat)
    case atStart=>exact ⟨0,rfl,by omega,by intro p hp;simp at hp,Below.refl _ _⟩
    case round=>
     obtain ⟨k,rfl,hk,hall,hbel⟩:=hrel
     have hbs:=hbel.size
     rcases (show k=0∨k=1∨k=2∨k=3 by omega) with rfl | rfl | rfl | rfl
     ·have hix:=agt
      by_cases hs:SP 2 n=true
      ·have HA:Hid (∀ p,p∈[2,7,61].take 1→SP p n=true):=by
        intro p hp;rw [List.take_add_one] at hp
        rcases List.mem_append.1 hp with h1 | h1
        ·exact hall.out p h1
        ·simp at h1;subst h1;exact hs
       go_wp2_with (go_at_call 205;refine (jA _ _ _ (by omega) (by omega) (by omega) (by omega) (by omega)).mono ?_;rintro e w1 ⟨rfl,hb1⟩)
       go_roundw
       case rel=>exact ⟨1,rfl,by omega,HA,hbel.trans (hb1.mono hbs)⟩
       case measure=>simp [intOf]
      ·have hs':SP 2 n=false:=by simpa using hs
       clear hs
       have HR:Hid (aj n=false):=by show _=_;rw [hM.out,hs'];simp
       go_wp2_with (go_at_call 205;refine (jA _ _ _ (by omega) (by omega) (by omega) (by omega) (by omega)).mono ?_;rintro e w1 ⟨rfl,hb1⟩)
       go_ret
       exact ⟨au (by rw [HR.out]),hbel.trans (hb1.mono hbs)⟩
     ·have hix:=agu
      by_cases hs:SP 7 n=true
      ·have HA:Hid (∀ p,p∈[2,7,61].take 2→SP p n=true):=by
        intro p hp;rw [List.take_add_one] at hp
        rcases List.mem_append.1 hp with h1 | h1
        ·exact hall.out p h1
        ·simp at h1;subst h1;exact hs
       go_wp2_with (go_at_call 205;refine (jA _ _ _ (by omega) (by omega) (by omega) (by omega) (by omega)).mono ?_;rintro e w1 ⟨rfl,hb1⟩)
       go_roundw
       case rel=>exact ⟨2,rfl,by omega,HA,hbel.trans (hb1.mono hbs)⟩
       case measure=>simp [intOf]
      ·have hs':SP 7 n=false:=by simpa using hs
       clear hs
       have HR:Hid (aj n=false):=by show _=_;rw [hM.out,hs'];simp
       go_wp2_with (go_at_call 205;refine (jA _ _ _ (by omega) (by omega) (by omega) (by omega) (by omega)).mono ?_;rintro e w1 ⟨rfl,hb1⟩)
       go_ret
       exact ⟨au (by rw [HR.out]),hbel.trans (hb1.mono hbs)⟩
     ·have hix:=agv
      by_cases hs:SP 61 n=true
      ·have HA:Hid (∀ p,p∈[2,7,61].take 3→SP p n=true):=by
        intro p hp;rw [List.take_add_one] at hp
        rcases List.mem_append.1 hp with h1 | h1
        ·exact hall.out p h1
        ·simp at h1;subst h1;exact hs
       go_wp2_with (go_at_call 205;refine (jA _ _ _ (by omega) (by omega) (by omega) (by omega) (by omega)).mono ?_;rintro e w1 ⟨rfl,hb1⟩)
       go_roundw
       case rel=>exact ⟨3,rfl,by omega,HA,hbel.trans (hb1.mono hbs)⟩
       case measure=>simp [intOf]
      ·have hs':SP 61 n=false:=by simpa using hs
       clear hs
       have HR:Hid (aj n=false):=by show _=_;rw [hM.out,hs'];simp
       go_wp2_with (go_at_call 205;refine (jA _ _ _ (by omega) (by omega) (by omega) (by omega) (by omega)).mono ?_;rintro e w1 ⟨rfl,hb1⟩)
       go_ret
       exact ⟨au (by rw [HR.out]),hbel.trans (hb1.mono hbs)⟩
     ·have HR:Hid (aj n=true):=by show _=_;rw [hM.out,hall.out 2 (by simp),hall.out 7 (by simp),hall.out 61 (by simp)];rfl
      go_wp2_with fail
      go_ret
      exact ⟨au (by rw [HR.out]),hbel⟩
theorem mg (a:Int) (n:Nat) (w:World) (ha0:0≤a) (ha:a<4294967296) (hn:3≤n) (hn2:n<4294967296) (hodd:n % 2=1):
  Calls Tryz.prog 190 #[.int .u32 a, .int .u32 n] w fun r w'=>r= .returned (.bool (SP a.toNat n))∧w=w':=by
 obtain ⟨b,rfl⟩:=Int.eq_ofNat_of_zero_le ha0
 exact Me b n w (by omega) hn hn2 hodd
theorem jr (n:Nat) (w:World) (hn2:n<4294967296):
  Calls Tryz.prog 118 #[.int .u32 n] w fun r w'=>r= .returned (.bool (ay n))∧w=w':=by
 by_cases h2:n=2
 ·subst h2
  go_enter Tryz.func118,Tryz.ntmps118
  go_wp2_with fail
  go_ret
  exact ⟨au (by rfl),rfl⟩
 have e2:((n:Int)==2)=false:=beq_eq_false_iff_ne.2 (by omega)
 by_cases h7:n=7
 ·subst h7
  go_enter Tryz.func118,Tryz.ntmps118
  go_wp2_with fail
  go_ret
  exact ⟨au (by rfl),rfl⟩
 have e7:((n:Int)==7)=false:=beq_eq_false_iff_ne.2 (by omega)
 by_cases h61:n=61
 ·subst h61
  go_enter Tryz.func118,Tryz.ntmps118
  go_wp2_with fail
  go_ret
  exact ⟨au (by rfl),rfl⟩
 have e61:((n:Int)==61)=false:=beq_eq_false_iff_ne.2 (by omega)
 have hR:ay n=(decide (2<n) && decide (n % 2=1) && decide (0<n % 7) && decide (0<n % 61) && SP 2 n && SP 7 n && SP 61 n):=by
  unfold ay
  rw [beq_eq_false_iff_ne.2 h2,beq_eq_false_iff_ne.2 h7,beq_eq_false_iff_ne.2 h61];rfl
 by_cases c1:2<n
 case neg=>
  have HR:Hid (ay n=false):=by show _=_;rw [hR,decide_eq_false c1];rfl
  clear hR
  go_enter Tryz.func118,Tryz.ntmps118
  go_wp2_with fail
  go_ret
  exact ⟨au (by rw [HR.out]),rfl⟩
 by_cases c2:n % 2=1
 case neg=>
  have d2:((n:Int) % 2==1)=false:=beq_eq_false_iff_ne.2 (by omega)
  have HR:Hid (ay n=false):=by show _=_;rw [hR,decide_eq_true c1,decide_eq_false c2];rfl
  clear hR
  go_enter Tryz.func118,Tryz.ntmps118
  go_wp2_with fail
  go_ret
  exact ⟨au (by rw [HR.out]),rfl⟩
 have d2:((n:Int) % 2==1)=true:=beq_iff_eq.2 (by omega)
 by_cases c3:0<n % 7
 case neg=>
  have d3: ¬ 0<(n:Int) % 7:=by omega
  have d3':decide (0<(n:Int) % 7)=false:=by simpa using d3
  have HR:Hid (ay n=false):=by show _=_;rw [hR,decide_eq_true c1,decide_eq_true c2,decide_eq_false c3];rfl
  clear hR
  go_enter Tryz.func118,Tryz.ntmps118
  go_wp2_with fail
  go_ret
  exact ⟨au (by rw [HR.out]),rfl⟩
 have d3:decide (0<(n:Int) % 7)=true:=by simp;omega
 by_cases c4:0<n % 61
 case neg=>
  have d4':decide (0<(n:Int) % 61)=false:=by simp;omega
  have HR:Hid (ay n=false):=by show _=_;rw [hR,decide_eq_true c1,decide_eq_true c2,decide_eq_true c3,decide_eq_false c4];rfl
  clear hR
  go_enter Tryz.func118,Tryz.ntmps118
  go_wp2_with fail
  go_ret
  exact ⟨au (by rw [HR.out]),rfl⟩
 have d4:decide (0<(n:Int) % 61)=true:=by simp;omega
 rw [decide_eq_true c1,decide_eq_true c2,decide_eq_true c3,decide_eq_true c4] at hR
 by_cases s2:SP 2 n=true
 case neg=>
  have s2':SP 2 n=false:=by simpa using s2
  clear s2
  have HR:Hid (ay n=false):=by show _=_;rw [hR,s2'];rfl
  clear hR
  go_enter Tryz.func118,Tryz.ntmps118
  go_wp2_with (go_at_call 190;refine (mg _ _ _ (by omega) (by omega) (by omega) (by omega) (by omega)).mono ?_;rintro e w1 ⟨rfl,rfl⟩)
  go_ret
  exact ⟨au (by rw [HR.out]),rfl⟩
 by_cases s7:SP 7 n=true
 case neg=>
  have s7':SP 7 n=false:=by simpa using s7
  clear s7
  have HR:Hid (ay n=false):=by show _=_;rw [hR,s2,s7'];rfl
  clear hR
  go_enter Tryz.func118,Tryz.ntmps118
  go_wp2_with (go_at_call 190;refine (mg _ _ _ (by omega) (by omega) (by omega) (by omega) (by omega)).mono ?_;rintro e w1 ⟨rfl,rfl⟩)
  go_ret
  exact ⟨au (by rw [HR.out]),rfl⟩
 by_cases s61:SP 61 n=true
 case neg=>
  have ajR:SP 61 n=false:=by simpa using s61
  clear s61
  have HR:Hid (ay n=false):=by show _=_;rw [hR,s2,s7,ajR];rfl
  clear hR
  go_enter Tryz.func118,Tryz.ntmps118
  go_wp2_with (go_at_call 190;refine (mg _ _ _ (by omega) (by omega) (by omega) (by omega) (by omega)).mono ?_;rintro e w1 ⟨rfl,rfl⟩)
  go_ret
  exact ⟨au (by rw [HR.out]),rfl⟩
 have HR:Hid (ay n=true):=by show _=_;rw [hR,s2,s7,s61];rfl
 clear hR
 go_enter Tryz.func118,Tryz.ntmps118
 go_wp2_with (go_at_call 190;refine (mg _ _ _ (by omega) (by omega) (by omega) (by omega) (by omega)).mono ?_;rintro e w1 ⟨rfl,rfl⟩)
 go_ret
 exact ⟨au (by rw [HR.out]),rfl⟩
end
section
open Go.RowKit
theorem aaD: ∀ k:Nat,k<29→(bits BinOp.and IntKind.i64 ((k:Int)+4) ((k:Int)+3)==0)=iT ((k:Int)+4):=by decide
theorem MC (n:Int) (w:World) (_h0: -9223372036854775808≤n) (_h1:n≤9223372036854775807):
  Calls Tryz.prog 137 #[.int .i64 n] w fun r w'=>r= .returned (.bool (iT n))∧w=w':=by
 by_cases h4:4≤n
 ·by_cases h32:n≤32
  ·have hk:=aaD (n - 4).toNat (by omega)
   have e1:(((n - 4).toNat:Nat):Int)=n - 4:=by omega
   rw [e1,show n - 4+4=n by omega,show n - 4+3=n - 1 by omega] at hk
   have d4:decide (4≤n)=true:=decide_eq_true h4
   have d32:decide (n≤32)=true:=decide_eq_true h32
   go_enter Tryz.func137,Tryz.ntmps137
   go_wp2_with fail
   go_ret
   exact ⟨au (by first | rfl | exact hk),rfl⟩
  ·have hR:Hid (iT n=false):=by
    show _=_
    unfold iT
    simp only [Bool.or_eq_false_iff,beq_eq_false_iff_ne];omega
   have d4:decide (4≤n)=true:=decide_eq_true h4
   have d32:decide (n≤32)=false:=decide_eq_false h32
   go_enter Tryz.func137,Tryz.ntmps137
   go_wp2_with fail
   go_ret
   exact ⟨au (by rw [hR.out]),rfl⟩
 ·have hR:Hid (iT n=false):=by
   show _=_
   unfold iT
   simp only [Bool.or_eq_false_iff,beq_eq_false_iff_ne];omega
  have d4:decide (4≤n)=false:=decide_eq_false h4
  go_enter Tryz.func137,Tryz.ntmps137
  go_wp2_with fail
  go_ret
  exact ⟨au (by rw [hR.out]),rfl⟩
theorem MF (n:Int) (w:World):
  Calls Tryz.prog 73 #[.int .i64 n] w fun r w'=>r= .returned (.bool (iT n))∧w=w':=by
 have hR:Hid (iT n=(n==4 || (n==8 || (n==16 || n==32)))):=by show _=_;unfold iT;simp only [Bool.or_assoc]
 cases h4:(n==4) with
 | true=>
  go_enter Tryz.func73,Tryz.ntmps73
  go_wp2_with fail
  go_ret
  exact ⟨au (by rw [hR.out,h4];rfl),rfl⟩
 | false=>
  cases h8:(n==8) with
  | true=>
   go_enter Tryz.func73,Tryz.ntmps73
   go_wp2_with fail
   go_ret
   exact ⟨au (by rw [hR.out,h4,h8];rfl),rfl⟩
  | false=>
   cases h16:(n==16) with
   | true=>
    go_enter Tryz.func73,Tryz.ntmps73
    go_wp2_with fail
    go_ret
    exact ⟨au (by rw [hR.out,h4,h8,h16];rfl),rfl⟩
   | false=>
    cases h32:(n==32) with
    | true=>
     go_enter Tryz.func73,Tryz.ntmps73
     go_wp2_with fail
     go_ret
     exact ⟨au (by rw [hR.out,h4,h8,h16,h32];rfl),rfl⟩
    | false=>
     go_enter Tryz.func73,Tryz.ntmps73
     go_wp2_with fail
     go_ret
     exact ⟨au (by rw [hR.out,h4,h8,h16,h32];rfl),rfl⟩
theorem Cm (n:Int) (p:Nat) (e:Int) (w:World) (hn4:4≤n) (hn:n≤32) (hp:p<4294967296) (he0: -9223372036854775808≤e) (he1:e≤9223372036854775807):
  Calls Tryz.prog 101 #[.int .i64 n, .int .u32 p, .int .i64 e] w fun r w'=>r= .returned (.int .i64 (gQ aj n p e:Nat))∧Below w.heap.size w w':=by
 by_cases c1:p<3
 case pos=>
  have d1:decide ((p:Int)<3)=true:=decide_eq_true (by omega)
  have hR:Hid (gQ aj n p e=0):=jk (by omega)
  go_enter Tryz.func101,Tryz.ntmps101
  go_wp2_with fail
  go_ret
  exact ⟨aU (by rw [hR.out];rfl),Below.refl _ _⟩
 have d1:decide ((p:Int)<3)=false:=decide_eq_false (by omega)
 by_cases c2:p<65536
 case neg=>
  have d2:decide ((65536:Int)≤p)=true:=decide_eq_true (by omega)
  have hR:Hid (gQ aj n p e=0):=jk (by omega)
  go_enter Tryz.func101,Tryz.ntmps101
  go_wp2_with fail
  go_ret
  exact ⟨aU (by rw [hR.out];rfl),Below.refl _ _⟩
 have d2:decide ((65536:Int)≤p)=false:=decide_eq_false (by omega)
 cases c3:aj p with
 | false=>
  have hR:Hid (gQ aj n p e=0):=jk (by rw [c3];simp)
  go_enter Tryz.func101,Tryz.ntmps101
  go_wp2_with (go_at_call 139;refine (kD _ _ (by omega)).mono ?_;rintro e w1 ⟨rfl,hb1⟩)
  go_ret
  exact ⟨aU (by rw [hR.out];rfl),hb1⟩
 | true=>
 by_cases c4:(p:Int) % (2*n)=1
 case neg=>
  have d4:((p:Int) % (2*n) !=1)=true:=by simpa using c4
  have hR:Hid (gQ aj n p e=0):=jk (by
   intro hc;apply c4;have h:=hc.2.2.2.1
   have:((p % (2*n).toNat:Nat):Int)=1:=by rw [h];rfl
   rw [Int.natCast_emod,Int.toNat_of_nonneg (by omega)] at this;exact this)
  clear c4
  go_enter Tryz.func101,Tryz.ntmps101
  go_wp2_with (go_at_call 139;refine (kD _ _ (by omega)).mono ?_;rintro e w1 ⟨rfl,hb1⟩)
  go_ret
  exact ⟨aU (by rw [hR.out];rfl),hb1⟩
 have d4:((p:Int) % (2*n) !=1)=false:=by simpa using c4
 have c4':p % (2*n).toNat=1:=by
  have:((p % (2*n).toNat:Nat):Int)=1:=by rw [Int.natCast_emod,Int.toNat_of_nonneg (by omega)];exact c4
  omega
 by_cases c5:1≤e
 case neg=>
  have d5:decide (e<1)=true:=decide_eq_true (by omega)
  have hR:Hid (gQ aj n p e=0):=jk (by omega)
  clear c4 c4'
  go_enter Tryz.func101,Tryz.ntmps101
  go_wp2_with (go_at_call 139;refine (kD _ _ (by omega)).mono ?_;rintro e w1 ⟨rfl,hb1⟩)
  go_ret
  exact ⟨aU (by rw [hR.out];rfl),hb1⟩
 have d5:decide (e<1)=false:=decide_eq_false (by omega)
 have hall:=Lib.hid (show 3≤p∧p<65536∧aj p=true∧p % (2*n).toNat=1∧1≤e from ⟨by omega,c2,c3,c4',c5⟩)
 clear c4 c4'
 go_enter Tryz.func101,Tryz.ntmps101
 go_wp2_with (go_at_call 139;refine (kD _ _ (by omega)).mono ?_;rintro e w1 ⟨rfl,hb1⟩)
 go_loop [7,32] (fun vt vk=> ∃ k t:Nat,vt= .int .i64 t∧vk= .int .i64 k∧(k:Int)≤e∧t≤2147483647∧Hid (p ^ k=t)) (fun _ vk=>(e - intOf vk).toNat)
 case atStart=>exact ⟨0,1,rfl,rfl,by omega,by omega,rfl⟩
 case round=>
  obtain ⟨k,t,rfl,rfl,hk,ht,hI⟩:=hrel
  have hm0:(0:Int)≤(t:Int)*(p:Int):=Int.mul_nonneg (by omega) (by omega)
  have hm1:(t:Int)*(p:Int)≤2147483647*65536:=Int.mul_le_mul (by omega) (by omega) (by omega) (by omega)
  have hstep:=Lib.hid (show p ^ (k+1)=t*p by rw [Nat.pow_succ,hI.out])
  by_cases hlt:(k:Int)<e
  ·by_cases hbig:2147483647<t*p
   ·have hb:(2147483647:Int)<(t:Int)*(p:Int):=by have:=Int.ofNat_lt.2 hbig;rw [Int.natCast_mul] at this;exact this
    have hR:Hid (gQ aj n p e=0):=L9 (k:=k+1) (by omega) (by omega) (by rw [hstep.out];exact hbig)
    clear hbig
    go_wp2_with fail
    go_ret
    exact ⟨aU (by rw [hR.out];rfl),hb1⟩
   ·have hb: ¬ (2147483647:Int)<(t:Int)*(p:Int):=by intro hc;apply hbig;rw [←Int.natCast_mul] at hc;exact Int.ofNat_lt.1 hc
    have hbig':=Lib.hid hbig
    clear hbig
    go_wp2_with fail
    go_round
    case rel=>exact ⟨k+1,t*p,by rw [Int.natCast_mul],by go_num,by omega,by have:=hbig'.out;omega,hstep.out⟩
    case measure=>simp [intOf];omega
  ·have hR:Hid (gQ aj n p e=t):=by
    show _=_;rw [Mc hall.out (k:=k) (by omega) (by rw [hI.out];exact ht),hI.out]
   go_wp2_with fail
   go_ret
   exact ⟨aU (by rw [hR.out]),hb1⟩
theorem CB (n:Int) (p:Nat) (e:Int) (w:World) (hn4:4≤n) (hn:n≤32) (hp:p<4294967296) (he0: -9223372036854775808≤e) (he1:e≤9223372036854775807):
  Calls Tryz.prog 74 #[.int .i64 n, .int .u32 p, .int .i64 e] w fun r w'=>r= .returned (.int .i64 (gQ ay n p e:Nat))∧w=w':=by
 by_cases c1:p<3
 case pos=>
  have d1:decide ((p:Int)<3)=true:=decide_eq_true (by omega)
  have hR:Hid (gQ ay n p e=0):=jk (by omega)
  go_enter Tryz.func74,Tryz.ntmps74
  go_wp2_with fail
  go_ret
  exact ⟨aU (by rw [hR.out];rfl),rfl⟩
 have d1:decide ((p:Int)<3)=false:=decide_eq_false (by omega)
 by_cases c2:p<65536
 case neg=>
  have d2:decide ((65536:Int)≤p)=true:=decide_eq_true (by omega)
  have hR:Hid (gQ ay n p e=0):=jk (by omega)
  go_enter Tryz.func74,Tryz.ntmps74
  go_wp2_with fail
  go_ret
  exact ⟨aU (by rw [hR.out];rfl),rfl⟩
 have d2:decide ((65536:Int)≤p)=false:=decide_eq_false (by omega)
 cases c3:ay p with
 | false=>
  have hR:Hid (gQ ay n p e=0):=jk (by rw [c3];simp)
  go_enter Tryz.func74,Tryz.ntmps74
  go_wp2_with (go_at_call 118;refine (jr _ _ (by omega)).mono ?_;rintro e w1 ⟨rfl,rfl⟩)
  go_ret
  exact ⟨aU (by rw [hR.out];rfl),rfl⟩
 | true=>
 by_cases c4:(p:Int) % (2*n)=1
 case neg=>
  have d4:((p:Int) % (2*n) !=1)=true:=by simpa using c4
  have hR:Hid (gQ ay n p e=0):=jk (by
   intro hc;apply c4;have h:=hc.2.2.2.1
   have:((p % (2*n).toNat:Nat):Int)=1:=by rw [h];rfl
   rw [Int.natCast_emod,Int.toNat_of_nonneg (by omega)] at this;exact this)
  clear c4
  go_enter Tryz.func74,Tryz.ntmps74
  go_wp2_with (go_at_call 118;refine (jr _ _ (by omega)).mono ?_;rintro e w1 ⟨rfl,rfl⟩)
  go_ret
  exact ⟨aU (by rw [hR.out];rfl),rfl⟩
 have d4:((p:Int) % (2*n) !=1)=false:=by simpa using c4
 have c4':p % (2*n).toNat=1:=by
  have:((p % (2*n).toNat:Nat):Int)=1:=by rw [Int.natCast_emod,Int.toNat_of_nonneg (by omega)];exact c4
  omega
 by_cases c5:1≤e
 case neg=>
  have d5:decide (e<1)=true:=decide_eq_true (by omega)
  have hR:Hid (gQ ay n p e=0):=jk (by omega)
  clear c4 c4'
  go_enter Tryz.func74,Tryz.ntmps74
  go_wp2_with (go_at_call 118;refine (jr _ _ (by omega)).mono ?_;rintro e w1 ⟨rfl,rfl⟩)
  go_ret
  exact ⟨aU (by rw [hR.out];rfl),rfl⟩
 have d5:decide (e<1)=false:=decide_eq_false (by omega)
 have hall:=Lib.hid (show 3≤p∧p<65536∧ay p=true∧p % (2*n).toNat=1∧1≤e from ⟨by omega,c2,c3,c4',c5⟩)
 clear c4 c4'
 go_enter Tryz.func74,Tryz.ntmps74
 go_wp2_with (go_at_call 118;refine (jr _ _ (by omega)).mono ?_;rintro e w1 ⟨rfl,rfl⟩)
 go_loop [7,8] (fun vt vk=> ∃ k t:Nat,vt= .int .i64 t∧vk= .int .i64 k∧(k:Int)≤e∧t≤2147483647∧Hid (p ^ k=t)) (fun _ vk=>(e - intOf vk).toNat)
 case atStart=>exact ⟨0,1,rfl,rfl,by omega,by omega,rfl⟩
 case round=>
  obtain ⟨k,t,rfl,rfl,hk,ht,hI⟩:=hrel
  have hm0:(0:Int)≤(t:Int)*(p:Int):=Int.mul_nonneg (by omega) (by omega)
  have hm1:(t:Int)*(p:Int)≤2147483647*65536:=Int.mul_le_mul (by omega) (by omega) (by omega) (by omega)
  have hstep:=Lib.hid (show p ^ (k+1)=t*p by rw [Nat.pow_succ,hI.out])
  by_cases hlt:(k:Int)<e
  ·by_cases hbig:2147483647<t*p
   ·have hb:(2147483647:Int)<(t:Int)*(p:Int):=by have:=Int.ofNat_lt.2 hbig;rw [Int.natCast_mul] at this;exact this
    have hR:Hid (gQ ay n p e=0):=L9 (k:=k+1) (by omega) (by omega) (by rw [hstep.out];exact hbig)
    clear hbig
    go_wp2_with fail
    go_ret
    exact ⟨aU (by rw [hR.out];rfl),rfl⟩
   ·have hb: ¬ (2147483647:Int)<(t:Int)*(p:Int):=by intro hc;apply hbig;rw [←Int.natCast_mul] at hc;exact Int.ofNat_lt.1 hc
    have hbig':=Lib.hid hbig
    clear hbig
    go_wp2_with fail
    go_round
    case rel=>exact ⟨k+1,t*p,by rw [Int.natCast_mul],by go_num,by omega,by have:=hbig'.out;omega,hstep.out⟩
    case measure=>simp [intOf];omega
  ·have hR:Hid (gQ ay n p e=t):=by
    show _=_;rw [Mc hall.out (k:=k) (by omega) (by rw [hI.out];exact ht),hI.out]
   go_wp2_with fail
   go_ret
   exact ⟨aU (by rw [hR.out]),rfl⟩
end
section
open Go.RowKit
theorem Fa (q s:Nat) (a:Addr) (w:World) (hq:q<4294967296) (hs0:0<s) (hs1:s≤137438953408) (ha:w.cell? a=some (.int .i64 s)):
  Calls Tryz.prog 138 #[.int .u32 q, .pointer (some a)] w fun r w'=>r= .returned (.bool (dM aj s q))∧Below w.heap.size w w':=by
 by_cases c1:1073741824<q
 case neg=>
  have d1:decide ((1073741824:Int)<q)=false:=decide_eq_false (by omega)
  have hR:Hid (dM aj s q=false):=by show _=_;unfold dM;rw [decide_eq_false c1];rfl
  go_enter Tryz.func138,Tryz.ntmps138
  go_wp2_with fail
  go_ret
  exact ⟨au (by rw [hR.out]),Below.refl _ _⟩
 have d1:decide ((1073741824:Int)<q)=true:=decide_eq_true (by omega)
 by_cases c2:q≤2147483647
 case neg=>
  have d2:decide ((q:Int)≤2147483647)=false:=decide_eq_false (by omega)
  have hR:Hid (dM aj s q=false):=by show _=_;unfold dM;rw [decide_eq_true c1,decide_eq_false c2];rfl
  go_enter Tryz.func138,Tryz.ntmps138
  go_wp2_with fail
  go_ret
  exact ⟨au (by rw [hR.out]),Below.refl _ _⟩
 have d2:decide ((q:Int)≤2147483647)=true:=decide_eq_true (by omega)
 by_cases c3:q % s=1
 case neg=>
  have d3:((q:Int) % (s:Int)==1)=false:=by
   apply beq_eq_false_iff_ne.2;intro hc;apply c3
   have:((q % s:Nat):Int)=1:=by rw [Int.natCast_emod];exact hc
   omega
  have hR:Hid (dM aj s q=false):=by show _=_;unfold dM;rw [decide_eq_false c3];simp
  clear c3
  go_enter Tryz.func138,Tryz.ntmps138
  go_wp2_with (fail)
  go_ret
  exact ⟨au (by rw [hR.out]),Below.refl _ _⟩
 have d3:((q:Int) % (s:Int)==1)=true:=by
  apply beq_iff_eq.2
  rw [←Int.natCast_emod,c3];rfl
 have H3:=Lib.hid c3
 clear c3
 cases c4:aj q with
 | false=>
  have hR:Hid (dM aj s q=false):=by show _=_;unfold dM;rw [c4];simp
  go_enter Tryz.func138,Tryz.ntmps138
  go_wp2_with (go_at_call 139;refine (kD _ _ (by omega)).mono ?_;rintro e w1 ⟨rfl,hb1⟩)
  go_ret
  exact ⟨au (by rw [hR.out]),hb1⟩
 | true=>
  have hR:Hid (dM aj s q=true):=by show _=_;unfold dM;rw [c4,decide_eq_true c1,decide_eq_true c2,decide_eq_true H3.out];rfl
  go_enter Tryz.func138,Tryz.ntmps138
  go_wp2_with (go_at_call 139;refine (kD _ _ (by omega)).mono ?_;rintro e w1 ⟨rfl,hb1⟩)
  go_ret
  exact ⟨au (by rw [hR.out]),hb1⟩
theorem xk (n:Int) (t q:Nat) (w:World) (hn4:4≤n) (hn:n≤32) (ht0:0<t) (ht:t≤2147483647) (hq:q<4294967296):
  Calls Tryz.prog 127 #[.int .i64 n, .int .i64 t, .int .u32 q] w fun r w'=>r= .returned (.bool (dM ay ((2*n).toNat*t) q))∧w=w':=by
 obtain ⟨m,rfl⟩:=Int.eq_ofNat_of_zero_le (show 0≤n by omega)
 have hS0:(2*(m:Int)).toNat=2*m:=by omega
 have hm0:(0:Int)<2*(m:Int)*(t:Int):=Int.mul_pos (by omega) (by omega)
 have hm1:2*(m:Int)*(t:Int)≤64*2147483647:=Int.mul_le_mul (by omega) (by omega) (by omega) (by omega)
 have hS:Hid (((2*(m:Int)).toNat*t:Nat)=2*(m:Int)*(t:Int)):=by show _=_;rw [hS0];simp
 clear hS0
 by_cases c1:1073741824<q
 case neg=>
  have d1:decide ((1073741824:Int)<q)=false:=decide_eq_false (by omega)
  have hR:Hid (dM ay ((2*(m:Int)).toNat*t) q=false):=by show _=_;unfold dM;rw [decide_eq_false c1];rfl
  go_enter Tryz.func127,Tryz.ntmps127
  go_wp2_with fail
  go_ret
  exact ⟨au (by rw [hR.out]),rfl⟩
 have d1:decide ((1073741824:Int)<q)=true:=decide_eq_true (by omega)
 by_cases c2:q≤2147483647
 case neg=>
  have d2:decide ((q:Int)≤2147483647)=false:=decide_eq_false (by omega)
  have hR:Hid (dM ay ((2*(m:Int)).toNat*t) q=false):=by show _=_;unfold dM;rw [decide_eq_true c1,decide_eq_false c2];rfl
  go_enter Tryz.func127,Tryz.ntmps127
  go_wp2_with fail
  go_ret
  exact ⟨au (by rw [hR.out]),rfl⟩
 have d2:decide ((q:Int)≤2147483647)=true:=decide_eq_true (by omega)
 cases c4:ay q with
 | false=>
  have hR:Hid (dM ay ((2*(m:Int)).toNat*t) q=false):=by show _=_;unfold dM;rw [c4];simp
  go_enter Tryz.func127,Tryz.ntmps127
  go_wp2_with (go_at_call 118;refine (jr _ _ (by omega)).mono ?_;rintro e w1 ⟨rfl,rfl⟩)
  go_ret
  exact ⟨au (by rw [hR.out]),rfl⟩
 | true=>
 by_cases c3:q % ((2*(m:Int)).toNat*t)=1
 case neg=>
  have d3:((q:Int) % (2*(m:Int)*(t:Int))==1)=false:=by
   apply beq_eq_false_iff_ne.2;intro hc;apply c3
   have:((q % ((2*(m:Int)).toNat*t):Nat):Int)=1:=by rw [Int.natCast_emod,hS.out];exact hc
   omega
  have hR:Hid (dM ay ((2*(m:Int)).toNat*t) q=false):=by show _=_;unfold dM;rw [decide_eq_false c3];simp
  clear c3
  go_enter Tryz.func127,Tryz.ntmps127
  go_wp2_with (go_at_call 118;refine (jr _ _ (by omega)).mono ?_;rintro e w1 ⟨rfl,rfl⟩)
  go_ret
  exact ⟨au (by rw [hR.out]),rfl⟩
 have d3:((q:Int) % (2*(m:Int)*(t:Int))==1)=true:=by
  apply beq_iff_eq.2
  rw [←hS.out, ←Int.natCast_emod,c3];rfl
 have hR:Hid (dM ay ((2*(m:Int)).toNat*t) q=true):=by show _=_;unfold dM;rw [c4,decide_eq_true c1,decide_eq_true c2,decide_eq_true c3];rfl
 clear c3
 go_enter Tryz.func127,Tryz.ntmps127
 go_wp2_with (go_at_call 118;refine (jr _ _ (by omega)).mono ?_;rintro e w1 ⟨rfl,rfl⟩)
 go_ret
 exact ⟨au (by rw [hR.out]),rfl⟩
end
section
open Go.RowKit
structure um (w:World) (a:Nat) (x:Par) (cv:Value):Prop where
 n:w.cell? ⟨a,0,none⟩=some (.int .i64 x.n)
 p:w.cell? ⟨a,1,none⟩=some (.int .u32 x.p)
 r:w.cell? ⟨a,2,none⟩=some (.int .i64 x.r)
 ch:w.cell? ⟨a,3,none⟩=some cv
 sp:w.cell? ⟨a,4,none⟩=some (.int .u32 x.sp)
 wt:w.cell? ⟨a,5,none⟩=some (.int .i64 x.wt)
 er:w.cell? ⟨a,6,none⟩=some (.int .u32 x.er)
theorem um.below {w w':World} {a B:Nat} {x:Par} {cv:Value} (h:um w a x cv) (hb:Below B w w') (ha:a<B):um w' a x cv:=by
 refine ⟨?_,?_,?_,?_,?_,?_,?_⟩<;>rw [hb.cell (p:=⟨a,_,none⟩) ha]
 ·exact h.n
 ·exact h.p
 ·exact h.r
 ·exact h.ch
 ·exact h.sp
 ·exact h.wt
 ·exact h.er
structure sJ (w:World) (b off:Nat) (l:List Nat):Prop where
 blk:b<w.heap.size
 cell: ∀ i (h:i<l.length),w.cell? ⟨b,off+i,none⟩=some (.int .u32 (l[i]:Nat))
 rng: ∀ q,q∈l→q<4294967296
variable {l:List Nat}
theorem sJ.below {w w':World} {b off B:Nat}  (h:sJ w b off l) (hb:Below B w w') (ha:b<B):sJ w' b off l:=
 ⟨Nat.lt_of_lt_of_le h.blk hb.size,fun i hi=>by rw [hb.cell (p:=⟨b,_,none⟩) ha];exact h.cell i hi,h.rng⟩
theorem ac5 (t:Nat) (a:Addr) (w:World) (ha:w.cell? a=some (.int .i64 t)):
  Calls Tryz.prog 140 #[.pointer (some a)] w fun r w'=>r= .returned (.bool (decide (0<t)))∧w=w':=by
 have hR:Hid (decide (0<t)=decide ((0:Int)<t)):=by show _=_;by_cases h:0<t<;>simp [h]
 go_enter Tryz.func140,Tryz.ntmps140
 go_wp2_with fail
 go_ret
 exact ⟨au (by rw [hR.out]),rfl⟩
theorem ac6 (a:Nat) (p:Option Addr) (n cap:Nat) (w:World) (ha:w.cell? ⟨a,3,none⟩=some (.slice p n cap)):
  Calls Tryz.prog 141 #[.pointer (some ⟨a,0,none⟩)] w fun r w'=>r= .returned (.bool (mZ n))∧w=w':=by
 by_cases h1:1≤n
 ·have d1:decide (1≤(n:Int))=true:=decide_eq_true (by omega)
  by_cases h2:n≤24
  ·have d2:decide ((n:Int)≤24)=true:=decide_eq_true (by omega)
   go_enter Tryz.func141,Tryz.ntmps141
   go_wp2_with fail
   go_ret
   exact ⟨au (by unfold mZ;rw [decide_eq_true (show 1≤n∧n≤24 from ⟨h1,h2⟩)]),rfl⟩
  ·have d2:decide ((n:Int)≤24)=false:=decide_eq_false (by omega)
   go_enter Tryz.func141,Tryz.ntmps141
   go_wp2_with fail
   go_ret
   exact ⟨au (by unfold mZ;rw [decide_eq_false (show ¬ (1≤n∧n≤24) by omega)]),rfl⟩
 ·have d1:decide (1≤(n:Int))=false:=decide_eq_false (by omega)
  go_enter Tryz.func141,Tryz.ntmps141
  go_wp2_with fail
  go_ret
  exact ⟨au (by unfold mZ;rw [decide_eq_false (show ¬ (1≤n∧n≤24) by omega)]),rfl⟩
theorem ac7 (a:Nat) (x:Par) (cv:Value) (w:World) (hB:um w a x cv):
  Calls Tryz.prog 142 #[.pointer (some ⟨a,0,none⟩)] w fun r w'=>r= .returned (.bool (wtB x))∧w=w':=by
 have l5:=hB.wt
 have l0:=hB.n
 have l6:=hB.er
 clear hB
 by_cases h1:1≤x.wt
 ·have d1:decide (1≤x.wt)=true:=decide_eq_true h1
  by_cases h2:x.wt≤x.n
  ·have d2:decide (x.wt≤x.n)=true:=decide_eq_true h2
   by_cases h3:x.er≤64
   ·have d3:decide ((x.er:Int)≤64)=true:=decide_eq_true (by omega)
    have hR:Hid (wtB x=true):=decide_eq_true ⟨h1,h2,h3⟩
    go_enter Tryz.func142,Tryz.ntmps142
    go_wp2_with fail
    go_ret
    exact ⟨au (by rw [hR.out]),rfl⟩
   ·have d3:decide ((x.er:Int)≤64)=false:=decide_eq_false (by omega)
    have hR:Hid (wtB x=false):=decide_eq_false (fun h=>h3 h.2.2)
    go_enter Tryz.func142,Tryz.ntmps142
    go_wp2_with fail
    go_ret
    exact ⟨au (by rw [hR.out]),rfl⟩
  ·have d2:decide (x.wt≤x.n)=false:=decide_eq_false h2
   have hR:Hid (wtB x=false):=decide_eq_false (fun h=>h2 h.2.1)
   go_enter Tryz.func142,Tryz.ntmps142
   go_wp2_with fail
   go_ret
   exact ⟨au (by rw [hR.out]),rfl⟩
 ·have d1:decide (1≤x.wt)=false:=decide_eq_false h1
  have hR:Hid (wtB x=false):=decide_eq_false (fun h=>h1 h.1)
  go_enter Tryz.func142,Tryz.ntmps142
  go_wp2_with fail
  go_ret
  exact ⟨au (by rw [hR.out]),rfl⟩
theorem ac8 (a f c:Nat) (s:Nat) (x:Par) (cv:Value) (w:World) (hB:um w a x cv) (hx:x.sp<4294967296) (hs0:0<s) (hs1:s≤137438953408)
  (hf:w.cell? ⟨f,0,none⟩=some (.func (.func 138) #[] #[.pointer (some ⟨c,0,none⟩)])) (hc:w.cell? ⟨c,0,none⟩=some (.int .i64 s)):
  Calls Tryz.prog 143 #[.pointer (some ⟨f,0,none⟩), .pointer (some ⟨a,0,none⟩)] w fun r w'=>r= .returned (.bool (dM aj s x.sp))∧Below w.heap.size w w':=by
 have l4:=hB.sp
 clear hB
 go_enter Tryz.func143,Tryz.ntmps143
 go_wp2_with (go_at_call 138;refine (Fa _ _ _ _ hx hs0 hs1 hc).mono ?_;rintro e w1 ⟨rfl,hb1⟩)
 go_ret
 exact ⟨rfl,hb1⟩
theorem MG (q a f c:Nat) (s:Nat) (x:Par) (cv:Value) (w:World) (hB:um w a x cv) (hq:q<4294967296) (hs0:0<s) (hs1:s≤137438953408)
  (hf:w.cell? ⟨f,0,none⟩=some (.func (.func 138) #[] #[.pointer (some ⟨c,0,none⟩)])) (hc:w.cell? ⟨c,0,none⟩=some (.int .i64 s)):
  Calls Tryz.prog 146 #[.int .u32 q, .pointer (some ⟨a,0,none⟩), .pointer (some ⟨f,0,none⟩)] w fun r w'=>r= .returned (.bool (jq aj s x.sp q))∧Below w.heap.size w w':=by
 have l4:=hB.sp
 clear hB
 by_cases h1:q<x.sp
 ·have d1:decide (x.sp≤q)=false:=decide_eq_false (by omega)
  have hR:Hid (jq aj s x.sp q=!(dM aj s q)):=by show _=_;unfold jq;rw [decide_eq_true h1];rfl
  go_enter Tryz.func146,Tryz.ntmps146
  go_wp2_with (go_at_call 138;refine (Fa _ _ _ _ hq hs0 hs1 hc).mono ?_;rintro e w1 ⟨rfl,hb1⟩)
  go_ret
  exact ⟨au (by rw [hR.out]),hb1⟩
 ·have d1:decide (x.sp≤q)=true:=decide_eq_true (by omega)
  have hR:Hid (jq aj s x.sp q=true):=by show _=_;unfold jq;rw [decide_eq_false h1];rfl
  go_enter Tryz.func146,Tryz.ntmps146
  go_wp2_with fail
  go_ret
  exact ⟨au (by rw [hR.out]),Below.refl _ _⟩
def idxOf (p:Nat→Bool) (l:List Nat):Int:=if l.any p then (l.findIdx p:Int) else -1
theorem idxOf_hit {p:Nat→Bool}  {k:Nat} (hk:k<l.length) (h0: ∀ j (hj:j<k),p (l[j]'(by omega))=false) (h1:p l[k]=true):idxOf p l=k:=by
 have e:l.findIdx p=k:=(List.findIdx_eq hk).2 ⟨h1,h0⟩
 unfold idxOf
 rw [if_pos (List.any_eq_true.2 ⟨l[k],List.getElem_mem hk,h1⟩),e]
theorem idxOf_miss {p:Nat→Bool}  (h0: ∀ j (hj:j<l.length),p l[j]=false):idxOf p l= -1:=by
 unfold idxOf
 rw [if_neg]
 intro h
 obtain ⟨x,hx,hpx⟩:=List.any_eq_true.1 h
 obtain ⟨j,hj,rfl⟩:=List.mem_iff_getElem.1 hx
 rw [h0 j hj] at hpx;exact absurd hpx (by simp)
theorem G6 (p:Nat→Bool) (l:List Nat):decide (0≤idxOf p l)=l.any p:=by
 unfold idxOf
 cases h:l.any p with
 | true=>simp
 | false=>simp
theorem aaE (b off cap a f c:Nat) (l:List Nat) (s:Nat) (x:Par) (cv:Value) (w:World) (hl:sJ w b off l) (hlen:l.length≤140737488351232) (hB:um w a x cv) (ha:a<w.heap.size) (hs0:0<s) (hs1:s≤137438953408)
  (hf:w.cell? ⟨f,0,none⟩=some (.func (.func 138) #[] #[.pointer (some ⟨c,0,none⟩)])) (hfw:f<w.heap.size) (hc:w.cell? ⟨c,0,none⟩=some (.int .i64 s)) (hcw:c<w.heap.size):
  Calls Tryz.prog 206 #[.slice (some ⟨b,off,none⟩) l.length cap, .func (.func 146) #[] #[.pointer (some ⟨a,0,none⟩), .pointer (some ⟨f,0,none⟩)]] w fun r w'=>
   r= .returned (.int .i64 (idxOf (jq aj s x.sp) l))∧Below w.heap.size w w':=by
 go_enter Tryz.func206,Tryz.ntmps206
 go_wp2_with fail
 go_loopw [5,8] (fun _ vk wr=> ∃ k:Nat,vk= .int .i64 k∧k≤l.length∧Hid (∀ j (hj:j<k) (hj2:j<l.length),jq aj s x.sp l[j]=false)∧Below w.heap.size w wr) (fun _ vk _=>l.length - (intOf vk).toNat)
 case atStart=>exact ⟨0,rfl,by omega,by intro j hj;omega,Below.refl _ _⟩
 case round=>
  obtain ⟨k,rfl,hk,hno,hbel⟩:=hrel
  have hsz:=hbel.size
  by_cases hlt:k<l.length
  ·have hq:=hl.rng l[k] (List.getElem_mem hlt)
   have hcell:wr.cell? ⟨b,off+k,none⟩=some (.int .u32 (l[k]:Nat)):=by rw [hbel.cell (p:=⟨b,_,none⟩) hl.blk];exact hl.cell k hlt
   have hB':=Lib.hid (hB.below hbel ha)
   have hf':Hid (wr.cell? ⟨f,0,none⟩=some (.func (.func 138) #[] #[.pointer (some ⟨c,0,none⟩)])):=by show _=_;rw [hbel.cell (p:=⟨f,0,none⟩) hfw];exact hf
   have hc':Hid (wr.cell? ⟨c,0,none⟩=some (.int .i64 s)):=by show _=_;rw [hbel.cell (p:=⟨c,0,none⟩) hcw];exact hc
   cases hv:jq aj s x.sp l[k] with
   | true=>
    have hR:Hid (idxOf (jq aj s x.sp) l=k):=idxOf_hit hlt (fun j hj=>hno.out j hj (by omega)) hv
    generalize l[k]=q at*
    have hv':=Lib.hid hv
    clear hv
    go_wp2_with (go_at_call 146;refine (MG _ _ _ _ _ _ _ _ hB'.out hq hs0 hs1 hf'.out hc'.out).mono ?_;rintro e w1 ⟨rfl,hb1⟩;rw [hv'.out])
    go_ret
    exact ⟨aU (by rw [hR.out]),hbel.trans (hb1.mono hsz)⟩
   | false=>
    have hno':Hid (∀ j (hj:j<k+1) (hj2:j<l.length),jq aj s x.sp l[j]=false):=by
     intro j hj hj2
     by_cases e:j=k
     ·subst e;exact hv
     ·exact hno.out j (by omega) hj2
    generalize l[k]=q at*
    have hv':=Lib.hid hv
    clear hv
    go_wp2_with (go_at_call 146;refine (MG _ _ _ _ _ _ _ _ hB'.out hq hs0 hs1 hf'.out hc'.out).mono ?_;rintro e w1 ⟨rfl,hb1⟩;rw [hv'.out])
    go_roundw
    case rel=>exact ⟨k+1,by go_num,by omega,hno',hbel.trans (hb1.mono hsz)⟩
    case measure=>simp [intOf];omega
  ·have hR:Hid (idxOf (jq aj s x.sp) l= -1):=idxOf_miss (fun j hj=>hno.out j (by omega) hj)
   go_wp2_with fail
   go_ret
   exact ⟨aU (by rw [hR.out]),hbel⟩
end
end Go.Proofs.YtljfgdlgmdcmfaaGreat
