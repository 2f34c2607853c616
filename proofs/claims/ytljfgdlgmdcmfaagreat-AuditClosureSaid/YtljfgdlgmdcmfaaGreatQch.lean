/- Parts of a proof: Plain numbers: the strong test to a base, as both texts compute it. Plain numbers: what the layer of parameters computes. Plain numbers: the strong test, as the kernel can compute it. Plain numbers: primes, Fermat's little theorem, exponents, and what the strong test says modulo a divisor. Plain numbers: what the layer of keys computes. Plain numbers: powers of secrets. Walks of the two packages' powers modulo a number: obscuraref01.times, obscuraref01.power, modular.product, modular.power. Walks of the strong test: modular.passes and obscuraref01.strong. Walks of the tests for primes: modular.Prime and obscuraref01.Prime. Walks of the parameters' small functions: dimension, power; the reference's dimension, plain, good. Walks of the parts of params.Check: the closures, slices.IndexFunc and ContainsFunc at uint32; the reference's good. Walks of the closures of params.Check, but for the last one. What a program bears that sorts numbers of 32 bits without sign: the bodies and types, by their numbers. The sort at uint32, A: turned by a program of mine from walks at int. -/
import Derived.Test.YtljfgdlgmdcmfaaGreatQcg
import Derived.Test.YtljfgdlgmdcmfaaGreatChecked
import Derived.WalkKit
import Derived.WalkSpells
import Derived.WalkLawsBesides
import Derived.Handy
import Derived.Lib.Hide
import Derived.Shelf.SlLaysM
import Derived.Shelf.SortM.WalkA6In
import Derived.Sort.Walk0
import Derived.OwnWalkIn
import Derived.TacticsInMore
import Derived.RegionIn
import Derived.LoopNIn
import Derived.LoopIn
import Derived.Sort.CutIn
import Derived.Sort.QuietIn
import Derived.Sort.AtCallIn
import Derived.Shelf.RegionOpen
import Derived.Shelf.AbstractIn
import Derived.Sort.WalkA
import Derived.Sort.BigQuietIn
import Derived.Sort.WalkA6
set_option maxHeartbeats 32000000
set_option maxRecDepth 1000000
namespace Go.Proofs.YtljfgdlgmdcmfaaGreat
section
def v2f:Nat→Nat→Nat
 | 0,_=>0
 | f+1,m=>if m % 2=0 then v2f f (m / 2)+1 else 0
def twos (m:Nat):Nat:=v2f 32 m
def oddp (m:Nat):Nat:=m / 2 ^ twos m
theorem v2f_eq: ∀ (f t d:Nat),t<f→d % 2=1→v2f f (d*2 ^ t)=t:=by
 intro f
 induction f with
 | zero=>intro t d h;omega
 | succ f ih=>
  intro t d h hd
  cases t with
  | zero=>simp [v2f,hd]
  | succ t=>
   have h1:d*2 ^ (t+1)=2*(d*2 ^ t):=by rw [Nat.pow_succ];rw [←Nat.mul_assoc,Nat.mul_comm]
   have h2:d*2 ^ (t+1) % 2=0:=by rw [h1];omega
   have h3:d*2 ^ (t+1) / 2=d*2 ^ t:=by rw [h1];omega
   rw [v2f,if_pos h2,h3,ih t d (by omega) hd]
theorem split_eq {m d t:Nat} (ht:t<32) (hd:d % 2=1) (h:d*2 ^ t=m):twos m=t∧oddp m=d:=by
 have h1:twos m=t:=by rw [←h];exact v2f_eq 32 t d ht hd
 refine ⟨h1,?_⟩
 unfold oddp
 rw [h1, ←h,Nat.mul_div_cancel _ (Nat.pow_pos (by omega))]
def anyEq (n:Nat):Nat→Nat→Bool
 | _,0=>false
 | x,k+1=>x==n - 1 || anyEq n (x*x % n) k
def pmod (a e n:Nat):Nat:=a ^ e % n
def SP (a n:Nat):Bool:=pmod (a % n) (oddp (n - 1)) n==1 || anyEq n (pmod (a % n) (oddp (n - 1)) n) (twos (n - 1))
theorem SP_of {a n d t x:Nat} (ht:t<32) (hd:d % 2=1) (h:d*2 ^ t=n - 1) (hx:x=pmod (a % n) d n):SP a n=(x==1 || anyEq n x t):=by
 obtain ⟨h1,h2⟩:=split_eq ht hd h
 unfold SP
 rw [h1,h2,hx]
theorem anyEq_hit {n x k:Nat} (h:x=n - 1):anyEq n x (k+1)=true:=by simp [anyEq,h]
theorem anyEq_miss {n x k:Nat} (h:x≠n - 1):anyEq n x (k+1)=anyEq n (x*x % n) k:=by simp [anyEq,h]
theorem two_pow_lt {t m d:Nat} (hm:m<4294967296) (hd:0<d) (h:d*2 ^ t=m):t<32:=by
 apply Classical.byContradiction
 intro hc
 have h1:2 ^ 32≤2 ^ t:=Nat.pow_le_pow_right (by omega) (by omega)
 have h2:1*2 ^ t≤d*2 ^ t:=Nat.mul_le_mul_right _ hd
 have h3:(2:Nat) ^ 32=4294967296:=by decide
 omega
def smalls:List Nat:=[2,3,5,7,11,13,61]
def mPrime (n:Nat):Bool:=
 if n<2 then false else match smalls.find? (fun p=>n % p==0) with
  | some p=>n==p
  | none=>SP 2 n && (SP 7 n && SP 61 n)
end
section
def isDim (n:Int):Bool:=n==4 || n==8 || n==16 || n==32
theorem isDim_cases {n:Int} (h:isDim n=true):n=4∨n=8∨n=16∨n=32:=by
 unfold isDim at h;simp at h;omega
def powv (pr:Nat→Bool) (n:Int) (p:Nat) (e:Int):Nat:=
 if 3≤p∧p<65536∧pr p=true∧p % (2*n).toNat=1∧1≤e∧p ^ e.toNat≤2147483647 then p ^ e.toNat else 0
theorem powv_le (pr:Nat→Bool) (n:Int) (p:Nat) (e:Int):powv pr n p e≤2147483647:=by
 unfold powv;split
 ·rename_i h;exact h.2.2.2.2.2
 ·omega
theorem powv_no {pr:Nat→Bool} {n:Int} {p:Nat} {e:Int} (h: ¬ (3≤p∧p<65536∧pr p=true∧p % (2*n).toNat=1∧1≤e)):powv pr n p e=0:=by
 unfold powv;rw [if_neg];intro hc;exact h ⟨hc.1,hc.2.1,hc.2.2.1,hc.2.2.2.1,hc.2.2.2.2.1⟩
theorem powv_big {pr:Nat→Bool} {n:Int} {p:Nat} {e:Int} {k:Nat} (hp:3≤p) (hk:(k:Int)≤e) (h:2147483647<p ^ k):powv pr n p e=0:=by
 unfold powv;rw [if_neg];intro hc
 have:p ^ k≤p ^ e.toNat:=Nat.pow_le_pow_right (by omega) (by omega)
 omega
theorem powv_yes {pr:Nat→Bool} {n:Int} {p:Nat} {e:Int} {k:Nat} (h:3≤p∧p<65536∧pr p=true∧p % (2*n).toNat=1∧1≤e) (hk:(k:Int)=e) (hb:p ^ k≤2147483647):powv pr n p e=p ^ k:=by
 have:e.toNat=k:=by omega
 unfold powv;rw [this,if_pos ⟨h.1,h.2.1,h.2.2.1,h.2.2.2.1,h.2.2.2.2,hb⟩]
def goodS (pr:Nat→Bool) (s q:Nat):Bool:=
 decide (1073741824<q) && (decide (q≤2147483647) && (decide (q % s=1) && pr q))
def Par.t (pr:Nat→Bool) (x:Par):Nat:=powv pr x.n x.p x.r
def wtB (x:Par):Bool:=decide (1≤x.wt∧x.wt≤x.n∧x.er≤64)
def lenB (n:Nat):Bool:=decide (1≤n∧n≤24)
def badB (pr:Nat→Bool) (s sp q:Nat):Bool:=!(decide (q<sp) && goodS pr s q)
def stepOf (pr:Nat→Bool) (x:Par):Nat:=(2*x.n).toNat*x.t pr
def okB (pr:Nat→Bool) (x:Par):Bool:=
 isDim x.n && (decide (0<x.t pr) && (lenB x.ch.length && (wtB x && (goodS pr (stepOf pr x) x.sp && (!(x.ch.any (badB pr (stepOf pr x) x.sp)) && decide x.ch.Nodup)))))
def chk (pr:Nat→Bool) (x:Par):Int:=if okB pr x then 0 else 2
end
section
end
section
def C:Nat→Nat→Nat
 | _,0=>1
 | 0,_+1=>0
 | n+1,k+1=>C n k+C n (k+1)
def S (n x:Nat):Nat→Nat
 | 0=>0
 | m+1=>S n x m+C n m*x ^ m
def sg (neg:Bool) (q:Nat):Nat:=cond neg (q - 1) 1
end
section
theorem chk_two {pr:Nat→Bool} {x:Par} (h:okB pr x=false):chk pr x=2:=by unfold chk;rw [h];rfl
theorem chk_ok {pr:Nat→Bool} {x:Par} (h:okB pr x=true):chk pr x=0:=by unfold chk;rw [h];rfl
end
section
def Bd (M:Int) (l:List Int):Prop:= ∀ z,z∈l→ -M≤z∧z≤M
theorem Bd.mono {M M':Int} {l:List Int} (h:Bd M l) (hM:M≤M'):Bd M' l:=fun z hz=>by have:=h z hz;omega
theorem Bd.getD {M:Int} {l:List Int} (h:Bd M l) (hM:0≤M) (i:Nat): -M≤l.getD i 0∧l.getD i 0≤M:=by
 rw [List.getD_eq_getElem?_getD]
 by_cases hi:i<l.length
 ·rw [List.getElem?_eq_getElem hi];exact h _ (List.getElem_mem hi)
 ·rw [List.getElem?_eq_none (by omega)];show -M≤0∧0≤M;omega
theorem Bd.set {M:Int} {l:List Int} (h:Bd M l) (i:Nat) {v:Int} (hv: -M≤v∧v≤M):Bd M (l.set i v):=fun z hz=>by
 rcases List.mem_or_eq_of_mem_set hz with h1 | h1
 ·exact h z h1
 ·rw [h1];exact hv
end
section
open Go.RowKit
theorem ret_int {k:IntKind} {a b:Int} (h:a=b):Ending.returned (.int k a)= .returned (.int k b):=by rw [h]
theorem ret_bool {a b:Bool} (h:a=b):Ending.returned (.bool a)= .returned (.bool b):=by rw [h]
theorem mulmod_fits (a b n:Int) (ha0:0≤a) (ha:a<4294967296) (hb0:0≤b) (hb:b<4294967296) (hn:1≤n) (hn2:n<4294967296):
  0≤a*b∧a*b≤18446744065119617025∧0≤a*b % n∧a*b % n<n:=by
 refine ⟨Int.mul_nonneg ha0 hb0,?_,Int.emod_nonneg _ (by omega),Int.emod_lt_of_pos _ (by omega)⟩
 have h:a*b≤4294967295*4294967295:=Int.mul_le_mul (by omega) (by omega) hb0 (by omega)
 omega
theorem pow_step_odd (n out a e:Nat) (he:e % 2=1):out*a ^ e % n=(out*a % n)*(a*a % n) ^ (e / 2) % n:=by
 have h:e=2*(e / 2)+1:=by omega
 have h2:a ^ e=a*(a*a) ^ (e / 2):=by
  conv=>lhs;rw [h]
  rw [Nat.pow_succ,Nat.pow_mul,Nat.pow_two,Nat.mul_comm]
 rw [h2, ←Nat.mul_assoc,Nat.mul_mod,Nat.pow_mod (a*a) (e / 2) n, ←Nat.mul_mod_mod,Nat.mod_mod]
 simp [Nat.mul_mod,Nat.pow_mod]
theorem pow_step_even (n out a e:Nat) (he:e % 2=0):out*a ^ e % n=out*(a*a % n) ^ (e / 2) % n:=by
 have h:e=2*(e / 2):=by omega
 have h2:a ^ e=(a*a) ^ (e / 2):=by
  conv=>lhs;rw [h]
  rw [Nat.pow_mul,Nat.pow_two]
 rw [h2,Nat.mul_mod,Nat.pow_mod (a*a) (e / 2) n]
 simp [Nat.mul_mod,Nat.pow_mod]
theorem mulmod_nat (a b n:Nat):(a:Int)*(b:Int) % (n:Int)=((a*b % n:Nat):Int):=by
 rw [Int.natCast_emod,Int.natCast_mul]
theorem mproduct1_any (a b n:Int) (p:Addr) (w:World) (hp:w.cell? p=some (.int .u64 n)) (ha0:0≤a) (ha:a<4294967296) (hb0:0≤b) (hb:b<4294967296) (hn:1≤n) (hn2:n<4294967296):
  Calls Tryz.prog 262 #[.int .u32 a, .int .u32 b, .pointer (some p)] w fun e w'=>e= .returned (.int .u32 (a*b % n))∧w=w':=by
 obtain ⟨h1,h2,h3,h4⟩:=mulmod_fits a b n ha0 ha hb0 hb hn hn2
 go_enter Tryz.func262,Tryz.ntmps262
 go_wp2
 go_ret
 exact ⟨rfl,rfl⟩
theorem mproduct_any (n:Int) (w:World) (hn:0≤n) (hn2:n<4294967296):
  Calls Tryz.prog 243 #[.int .u32 n] w fun r w'=>r= .returned (.func (.func 262) #[] #[.pointer (some ⟨w.heap.size,0,none⟩)])∧w.alloc (.cells #[.int .u64 n] 162)=w':=by
 go_enter Tryz.func243,Tryz.ntmps243
 go_wp2
 go_ret
 exact ⟨rfl,rfl⟩
theorem mpower_any (a e n:Nat) (w:World) (ha:a<4294967296) (he:e<18446744073709551616) (hn:2≤n) (hn2:n<4294967296):
  Calls Tryz.prog 228 #[.int .u32 a, .int .u64 e, .int .u32 n] w fun r w'=>r= .returned (.int .u32 (pmod a e n))∧Below w.heap.size w w':=by
 go_enter Tryz.func228,Tryz.ntmps228
 go_wp2_with (go_at_call 243;refine (mproduct_any _ _ (by omega) (by omega)).mono ?_;rintro e w' ⟨rfl,rfl⟩)
 go_loop [0,1,8] (fun va ve vo=> ∃ a' e' o':Nat,va= .int .u32 a'∧ve= .int .u64 e'∧vo= .int .u32 o'∧a'<4294967296∧e'≤e∧o'<n∧Hid (o'*a' ^ e' % n=pmod a e n)) (fun _ ve _=>(intOf ve).toNat)
 case atStart=>exact ⟨a,e,1,rfl,rfl,rfl,ha,Nat.le_refl _,by omega,by show _=_;rw [Nat.one_mul];rfl⟩
 case round=>
  obtain ⟨a',e',o',rfl,rfl,rfl,ha',he',ho',hI⟩:=hrel
  have hmo:o'*a' % n<n:=Nat.mod_lt _ (by omega)
  have hma:a'*a' % n<n:=Nat.mod_lt _ (by omega)
  have hp:(w.alloc (.cells #[.int .u64 n] 162)).cell? ⟨w.heap.size,0,none⟩=some (.int .u64 n):=by simp [go_sem]
  by_cases h0:0<e'
  ·by_cases h1:e' % 2=1
   ·have hst:=Lib.hid (pow_step_odd n o' a' e' h1)
    have hb:(bits BinOp.and IntKind.u64 (e':Int) 1==1)=true:=by rw [and_one_u64 _ (by omega) (by omega)];simp;omega
    go_wp2_with (go_at_call 262;refine (mproduct1_any _ _ _ _ _ hp (by omega) (by omega) (by omega) (by omega) (by omega) (by omega)).mono ?_;rintro e w' ⟨rfl,rfl⟩)
    simp only [mulmod_nat]
    go_round
    case rel=>exact ⟨a'*a' % n,e' / 2,o'*a' % n,rfl,rfl,rfl,by omega,by omega,by omega,(hst.out.symm.trans hI)⟩
    case measure=>simp [intOf];omega
   ·have hst:=Lib.hid (pow_step_even n o' a' e' (by omega))
    have hb:(bits BinOp.and IntKind.u64 (e':Int) 1==1)=false:=by rw [and_one_u64 _ (by omega) (by omega)];simp;omega
    go_wp2_with (go_at_call 262;refine (mproduct1_any _ _ _ _ _ hp (by omega) (by omega) (by omega) (by omega) (by omega) (by omega)).mono ?_;rintro e w' ⟨rfl,rfl⟩)
    simp only [mulmod_nat]
    go_round
    case rel=>exact ⟨a'*a' % n,e' / 2,o',rfl,rfl,rfl,by omega,by omega,by omega,(hst.out.symm.trans hI)⟩
    case measure=>simp [intOf];omega
  ·go_wp2
   go_ret
   obtain rfl:e'=0:=by omega
   have h:=hI.out
   rw [Nat.pow_zero,Nat.mul_one,Nat.mod_eq_of_lt ho'] at h
   exact ⟨ret_int (by rw [h]),(Below.refl _ _).alloc (Nat.le_refl _) _⟩
end
section
open Go.RowKit
theorem and_one_u32 (d:Nat) (h:d<4294967296):bits BinOp.and IntKind.u32 (d:Int) 1=((d % 2:Nat):Int):=by
 have h1:=u32_and (d:Int) 1 (by omega) (by omega) (by omega) (by omega)
 rw [h1];show ((d &&& 1:Nat):Int)=_;rw [Nat.and_one_is_mod]
theorem half_split {d t m:Nat} (hev:d % 2=0) (h:d*2 ^ t=m):d / 2*2 ^ (t+1)=m:=by
 rw [Nat.pow_succ,Nat.mul_comm (2 ^ t) 2, ←Nat.mul_assoc,show d / 2*2=d by omega];exact h
theorem mpasses_any (a n:Nat) (w:World) (ha:a<4294967296) (hn:3≤n) (hn2:n<4294967296) (hodd:n % 2=1):
  Calls Tryz.prog 205 #[.int .u32 a, .int .u32 n] w fun r w'=>r= .returned (.bool (SP a n))∧Below w.heap.size w w':=by
 have hmd:a % n<n:=Nat.mod_lt _ (by omega)
 go_enter Tryz.func205,Tryz.ntmps205
 go_wp2_with fail
 go_loop [5,6] (fun vd vt=> ∃ d t:Nat,vd= .int .u32 d∧vt= .int .i64 t∧0<d∧d<4294967296∧t<32∧Hid (d*2 ^ t=n - 1)) (fun vd _=>(intOf vd).toNat)
 case atStart=>exact ⟨n - 1,0,by congr 1;omega,rfl,by omega,by omega,by omega,by show _=_;omega⟩
 case round=>
  obtain ⟨d,t,rfl,rfl,hd0,hd,ht,hI⟩:=hrel
  by_cases hev:d % 2=0
  ·have hb:(bits BinOp.and IntKind.u32 (d:Int) 1==0)=true:=by rw [and_one_u32 d hd];simp;omega
   have hI2:=half_split hev hI.out
   have ht2:t+1<32:=two_pow_lt (m:=n - 1) (by omega) (by omega) hI2
   have HI2:=Lib.hid hI2
   clear hI2 hI
   go_wp2_with fail
   go_round
   case rel=>exact ⟨d / 2,t+1,by go_num,by go_num,by omega,by omega,ht2,HI2⟩
   case measure=>simp [intOf];omega
  ·have hb:(bits BinOp.and IntKind.u32 (d:Int) 1==0)=false:=by rw [and_one_u32 d hd];simp;omega
   have ht1:1≤t:=by
    cases t with
    | zero=>have h:=hI.out;simp at h;omega
    | succ t=>omega
   go_wp2_with fail
   rw [show (a:Int) % (n:Int)=((a % n:Nat):Int) by rw [Int.natCast_emod]]
   refine (mpower_any _ _ _ _ (by omega) (by omega) (by omega) (by omega)).mono ?_
   rintro e w1 ⟨rfl,hb1⟩
   have hS:=Lib.hid (SP_of (a:=a) (n:=n) (x:=pmod (a % n) d n) ht (by omega) hI.out rfl)
   have hlt:pmod (a % n) d n<n:=Nat.mod_lt _ (by omega)
   generalize pmod (a % n) d n=x0 at hlt hS ⊢
   by_cases h1:x0=1
   ·have e1:((x0:Int)==1)=true:=by simp;omega
    have H1:=Lib.hid h1;clear h1
    go_wp2_with fail
    go_ret
    exact ⟨ret_bool (by rw [hS.out,H1.out];rfl),hb1⟩
   ·have e1:((x0:Int)==1)=false:=by simp;omega
    obtain ⟨s,rfl⟩: ∃ s,t=s+1:=⟨t - 1,by omega⟩
    by_cases h2:x0=n - 1
    ·have e2:((x0:Int)==(n:Int) - 1)=true:=by simp;omega
     have H2:=Lib.hid h2;clear h2
     go_wp2_with fail
     go_ret
     exact ⟨ret_bool (by rw [hS.out,anyEq_hit H2.out,Bool.or_true]),hb1⟩
    ·have e2:((x0:Int)==(n:Int) - 1)=false:=by simp;omega
     go_wp2_with fail
     have hS2:Hid (SP a n=anyEq n (x0*x0 % n) s):=by
      show _=_;rw [hS.out,anyEq_miss h2,show (x0==1)=false by simp [h1],Bool.false_or]
     clear hS
     go_loop [7,34] (fun vx vk=> ∃ x k:Nat,vx= .int .u32 x∧vk= .int .i64 k∧x<n∧k≤s∧Hid (SP a n=anyEq n (x*x % n) (s - k))) (fun _ vk=>s - (intOf vk).toNat)
     case atStart=>exact ⟨x0,0,rfl,rfl,hlt,by omega,hS2⟩
     case round=>
      obtain ⟨x,k,rfl,rfl,hx,hk,hS3⟩:=hrel
      obtain ⟨m1,m2,m3,m4⟩:=mulmod_fits x x n (by omega) (by omega) (by omega) (by omega) (by omega) (by omega)
      by_cases hks:k<s
      ·obtain ⟨r,hr⟩: ∃ r,s - k=r+1:=⟨s - k - 1,by omega⟩
       by_cases h3:x*x % n=n - 1
       ·have e3:((x:Int)*(x:Int) % (n:Int)==(n:Int) - 1)=true:=by rw [mulmod_nat];generalize x*x % n=y at h3;exact beq_iff_eq.2 (by omega)
        have H3:=Lib.hid h3;clear h3
        have HR:=Lib.hid hr;clear hr
        go_wp2_with fail
        go_ret
        exact ⟨ret_bool (by rw [hS3.out,HR.out,anyEq_hit H3.out]),hb1⟩
       ·have e3:((x:Int)*(x:Int) % (n:Int)==(n:Int) - 1)=false:=by rw [mulmod_nat];generalize x*x % n=y at h3;exact beq_eq_false_iff_ne.2 (by omega)
        have HR:=Lib.hid hr;clear hr
        go_wp2_with fail
        simp only [mulmod_nat]
        go_round
        case rel=>exact ⟨x*x % n,k+1,rfl,by go_num,Nat.mod_lt _ (by omega),by omega,by show _=_;rw [hS3.out,HR.out,anyEq_miss h3];congr 1;have:=HR.out;omega⟩
        case measure=>simp [intOf];omega
      ·go_wp2_with fail
       go_ret
       exact ⟨ret_bool (by rw [hS3.out,show s - k=0 by omega];rfl),hb1⟩
end
section
open Go.RowKit
theorem seven0 (w:World):(Instr.index 235 (.agg #[.int .u32 2, .int .u32 3, .int .u32 5, .int .u32 7, .int .u32 11, .int .u32 13, .int .u32 61]) (.int .i64 0)).run Tryz.prog w= .ok (.int .u32 2) w:=by kernel_rfl
theorem seven1 (w:World):(Instr.index 235 (.agg #[.int .u32 2, .int .u32 3, .int .u32 5, .int .u32 7, .int .u32 11, .int .u32 13, .int .u32 61]) (.int .i64 1)).run Tryz.prog w= .ok (.int .u32 3) w:=by kernel_rfl
theorem seven2 (w:World):(Instr.index 235 (.agg #[.int .u32 2, .int .u32 3, .int .u32 5, .int .u32 7, .int .u32 11, .int .u32 13, .int .u32 61]) (.int .i64 2)).run Tryz.prog w= .ok (.int .u32 5) w:=by kernel_rfl
theorem seven3 (w:World):(Instr.index 235 (.agg #[.int .u32 2, .int .u32 3, .int .u32 5, .int .u32 7, .int .u32 11, .int .u32 13, .int .u32 61]) (.int .i64 3)).run Tryz.prog w= .ok (.int .u32 7) w:=by kernel_rfl
theorem seven4 (w:World):(Instr.index 235 (.agg #[.int .u32 2, .int .u32 3, .int .u32 5, .int .u32 7, .int .u32 11, .int .u32 13, .int .u32 61]) (.int .i64 4)).run Tryz.prog w= .ok (.int .u32 11) w:=by kernel_rfl
theorem seven5 (w:World):(Instr.index 235 (.agg #[.int .u32 2, .int .u32 3, .int .u32 5, .int .u32 7, .int .u32 11, .int .u32 13, .int .u32 61]) (.int .i64 5)).run Tryz.prog w= .ok (.int .u32 13) w:=by kernel_rfl
theorem seven6 (w:World):(Instr.index 235 (.agg #[.int .u32 2, .int .u32 3, .int .u32 5, .int .u32 7, .int .u32 11, .int .u32 13, .int .u32 61]) (.int .i64 6)).run Tryz.prog w= .ok (.int .u32 61) w:=by kernel_rfl
theorem three0 (w:World):(Instr.index 236 (.agg #[.int .u32 2, .int .u32 7, .int .u32 61]) (.int .i64 0)).run Tryz.prog w= .ok (.int .u32 2) w:=by kernel_rfl
theorem three1 (w:World):(Instr.index 236 (.agg #[.int .u32 2, .int .u32 7, .int .u32 61]) (.int .i64 1)).run Tryz.prog w= .ok (.int .u32 7) w:=by kernel_rfl
theorem three2 (w:World):(Instr.index 236 (.agg #[.int .u32 2, .int .u32 7, .int .u32 61]) (.int .i64 2)).run Tryz.prog w= .ok (.int .u32 61) w:=by kernel_rfl
theorem mpasses_int (a:Int) (n:Nat) (w:World) (ha0:0≤a) (ha:a<4294967296) (hn:3≤n) (hn2:n<4294967296) (hodd:n % 2=1):
  Calls Tryz.prog 205 #[.int .u32 a, .int .u32 n] w fun r w'=>r= .returned (.bool (SP a.toNat n))∧Below w.heap.size w w':=by
 obtain ⟨b,rfl⟩:=Int.eq_ofNat_of_zero_le ha0
 exact mpasses_any b n w (by omega) hn hn2 hodd
def NoSmall (n k:Nat):Prop:= ∀ p,p∈smalls.take k→n % p≠0
theorem noSmall_step {n k p:Nat} (h:NoSmall n k) (hp:smalls[k]? =some p) (hd:n % p≠0):NoSmall n (k+1):=by
 intro q hq
 rw [List.take_add_one] at hq
 rcases List.mem_append.1 hq with h1 | h1
 ·exact h q h1
 ·rw [hp] at h1;simp at h1;subst h1;exact hd
theorem mPrime_small {n k p:Nat} (h2: ¬ n<2) (h:NoSmall n k) (hp:smalls[k]? =some p) (hd:n % p=0):mPrime n=(n==p):=by
 have hf:smalls.find? (fun p=>n % p==0)=some p:=by
  have hk:k<smalls.length:=(List.getElem?_eq_some_iff.1 hp).1
  have e:smalls=smalls.take k++p::smalls.drop (k+1):=by
   have hpk:smalls[k]=p:=(List.getElem?_eq_some_iff.1 hp).2
   rw [←hpk,List.getElem_cons_drop,List.take_append_drop]
  rw [e,List.find?_append,List.find?_eq_none.2 (by intro q hq;simpa using h q hq)]
  simp [hd]
 unfold mPrime
 rw [if_neg h2,hf]
theorem mPrime_none {n:Nat} (h2: ¬ n<2) (h:NoSmall n 7):mPrime n=(SP 2 n && (SP 7 n && SP 61 n)):=by
 have hf:smalls.find? (fun p=>n % p==0)=none:=List.find?_eq_none.2 (by intro q hq;simpa using h q (by simpa [smalls] using hq))
 unfold mPrime
 rw [if_neg h2,hf]
theorem mPrime_any (n:Nat) (w:World) (hn2:n<4294967296):
  Calls Tryz.prog 139 #[.int .u32 n] w fun r w'=>r= .returned (.bool (mPrime n))∧Below w.heap.size w w':=by
 by_cases h2:n<2
 ·go_enter Tryz.func139,Tryz.ntmps139
  go_wp2_with fail
  go_ret
  exact ⟨ret_bool (by unfold mPrime;rw [if_pos h2]),Below.refl _ _⟩
 ·go_enter Tryz.func139,Tryz.ntmps139
  go_wp2_with fail
  go_loop [4,10] (fun _ vk=> ∃ k:Nat,vk= .int .i64 k∧k≤7∧Hid (NoSmall n k)) (fun _ vk=>7 - (intOf vk).toNat)
  case atStart=>exact ⟨0,rfl,by omega,by intro p hp;simp at hp⟩
  case round=>
   obtain ⟨k,rfl,hk,hno⟩:=hrel
   rcases (show k=0∨k=1∨k=2∨k=3∨k=4∨k=5∨k=6∨k=7 by omega) with rfl | rfl | rfl | rfl | rfl | rfl | rfl | rfl
   ·have hix:=seven0
    by_cases hd:n % 2=0
    ·have hM:=Lib.hid (mPrime_small h2 hno.out (show smalls[0]? =some 2 from rfl) hd)
     have hb:((n:Int) % 2==0)=true:=beq_iff_eq.2 (by omega)
     by_cases he:n=2
     ·have hq:((n:Int)==2)=true:=beq_iff_eq.2 (by omega)
      have HE:=Lib.hid he
      clear he hd
      go_wp2_with fail
      go_ret
      exact ⟨ret_bool (by rw [hM.out,HE.out];rfl),Below.refl _ _⟩
     ·have hq:((n:Int)==2)=false:=beq_eq_false_iff_ne.2 (by omega)
      clear hd
      go_wp2_with fail
      go_ret
      exact ⟨ret_bool (by rw [hM.out,beq_eq_false_iff_ne.2 he]),Below.refl _ _⟩
    ·have hb:((n:Int) % 2==0)=false:=beq_eq_false_iff_ne.2 (by omega)
     have hN:=Lib.hid (noSmall_step hno.out (show smalls[0]? =some 2 from rfl) hd)
     go_wp2_with fail
     go_round
     case rel=>exact ⟨1,rfl,by omega,hN⟩
     case measure=>simp [intOf]
   ·have hix:=seven1
    by_cases hd:n % 3=0
    ·have hM:=Lib.hid (mPrime_small h2 hno.out (show smalls[1]? =some 3 from rfl) hd)
     have hb:((n:Int) % 3==0)=true:=beq_iff_eq.2 (by omega)
     by_cases he:n=3
     ·have hq:((n:Int)==3)=true:=beq_iff_eq.2 (by omega)
      have HE:=Lib.hid he
      clear he hd
      go_wp2_with fail
      go_ret
      exact ⟨ret_bool (by rw [hM.out,HE.out];rfl),Below.refl _ _⟩
     ·have hq:((n:Int)==3)=false:=beq_eq_false_iff_ne.2 (by omega)
      clear hd
      go_wp2_with fail
      go_ret
      exact ⟨ret_bool (by rw [hM.out,beq_eq_false_iff_ne.2 he]),Below.refl _ _⟩
    ·have hb:((n:Int) % 3==0)=false:=beq_eq_false_iff_ne.2 (by omega)
     have hN:=Lib.hid (noSmall_step hno.out (show smalls[1]? =some 3 from rfl) hd)
     go_wp2_with fail
     go_round
     case rel=>exact ⟨2,rfl,by omega,hN⟩
     case measure=>simp [intOf]
   ·have hix:=seven2
    by_cases hd:n % 5=0
    ·have hM:=Lib.hid (mPrime_small h2 hno.out (show smalls[2]? =some 5 from rfl) hd)
     have hb:((n:Int) % 5==0)=true:=beq_iff_eq.2 (by omega)
     by_cases he:n=5
     ·have hq:((n:Int)==5)=true:=beq_iff_eq.2 (by omega)
      have HE:=Lib.hid he
      clear he hd
      go_wp2_with fail
      go_ret
      exact ⟨ret_bool (by rw [hM.out,HE.out];rfl),Below.refl _ _⟩
     ·have hq:((n:Int)==5)=false:=beq_eq_false_iff_ne.2 (by omega)
      clear hd
      go_wp2_with fail
      go_ret
      exact ⟨ret_bool (by rw [hM.out,beq_eq_false_iff_ne.2 he]),Below.refl _ _⟩
    ·have hb:((n:Int) % 5==0)=false:=beq_eq_false_iff_ne.2 (by omega)
     have hN:=Lib.hid (noSmall_step hno.out (show smalls[2]? =some 5 from rfl) hd)
     go_wp2_with fail
     go_round
     case rel=>exact ⟨3,rfl,by omega,hN⟩
     case measure=>simp [intOf]
   ·have hix:=seven3
    by_cases hd:n % 7=0
    ·have hM:=Lib.hid (mPrime_small h2 hno.out (show smalls[3]? =some 7 from rfl) hd)
     have hb:((n:Int) % 7==0)=true:=beq_iff_eq.2 (by omega)
     by_cases he:n=7
     ·have hq:((n:Int)==7)=true:=beq_iff_eq.2 (by omega)
      have HE:=Lib.hid he
      clear he hd
      go_wp2_with fail
      go_ret
      exact ⟨ret_bool (by rw [hM.out,HE.out];rfl),Below.refl _ _⟩
     ·have hq:((n:Int)==7)=false:=beq_eq_false_iff_ne.2 (by omega)
      clear hd
      go_wp2_with fail
      go_ret
      exact ⟨ret_bool (by rw [hM.out,beq_eq_false_iff_ne.2 he]),Below.refl _ _⟩
    ·have hb:((n:Int) % 7==0)=false:=beq_eq_false_iff_ne.2 (by omega)
     have hN:=Lib.hid (noSmall_step hno.out (show smalls[3]? =some 7 from rfl) hd)
     go_wp2_with fail
     go_round
     case rel=>exact ⟨4,rfl,by omega,hN⟩
     case measure=>simp [intOf]
   ·have hix:=seven4
    by_cases hd:n % 11=0
    ·have hM:=Lib.hid (mPrime_small h2 hno.out (show smalls[4]? =some 11 from rfl) hd)
     have hb:((n:Int) % 11==0)=true:=beq_iff_eq.2 (by omega)
     by_cases he:n=11
     ·have hq:((n:Int)==11)=true:=beq_iff_eq.2 (by omega)
      have HE:=Lib.hid he
      clear he hd
      go_wp2_with fail
      go_ret
      exact ⟨ret_bool (by rw [hM.out,HE.out];rfl),Below.refl _ _⟩
     ·have hq:((n:Int)==11)=false:=beq_eq_false_iff_ne.2 (by omega)
      clear hd
      go_wp2_with fail
      go_ret
      exact ⟨ret_bool (by rw [hM.out,beq_eq_false_iff_ne.2 he]),Below.refl _ _⟩
    ·have hb:((n:Int) % 11==0)=false:=beq_eq_false_iff_ne.2 (by omega)
     have hN:=Lib.hid (noSmall_step hno.out (show smalls[4]? =some 11 from rfl) hd)
     go_wp2_with fail
     go_round
     case rel=>exact ⟨5,rfl,by omega,hN⟩
     case measure=>simp [intOf]
   ·have hix:=seven5
    by_cases hd:n % 13=0
    ·have hM:=Lib.hid (mPrime_small h2 hno.out (show smalls[5]? =some 13 from rfl) hd)
     have hb:((n:Int) % 13==0)=true:=beq_iff_eq.2 (by omega)
     by_cases he:n=13
     ·have hq:((n:Int)==13)=true:=beq_iff_eq.2 (by omega)
      have HE:=Lib.hid he
      clear he hd
      go_wp2_with fail
      go_ret
      exact ⟨ret_bool (by rw [hM.out,HE.out];rfl),Below.refl _ _⟩
     ·have hq:((n:Int)==13)=false:=beq_eq_false_iff_ne.2 (by omega)
      clear hd
      go_wp2_with fail
      go_ret
      exact ⟨ret_bool (by rw [hM.out,beq_eq_false_iff_ne.2 he]),Below.refl _ _⟩
    ·have hb:((n:Int) % 13==0)=false:=beq_eq_false_iff_ne.2 (by omega)
     have hN:=Lib.hid (noSmall_step hno.out (show smalls[5]? =some 13 from rfl) hd)
     go_wp2_with fail
     go_round
     case rel=>exact ⟨6,rfl,by omega,hN⟩
     case measure=>simp [intOf]
   ·have hix:=seven6
    by_cases hd:n % 61=0
    ·have hM:=Lib.hid (mPrime_small h2 hno.out (show smalls[6]? =some 61 from rfl) hd)
     have hb:((n:Int) % 61==0)=true:=beq_iff_eq.2 (by omega)
     by_cases he:n=61
     ·have hq:((n:Int)==61)=true:=beq_iff_eq.2 (by omega)
      have HE:=Lib.hid he
      clear he hd
      go_wp2_with fail
      go_ret
      exact ⟨ret_bool (by rw [hM.out,HE.out];rfl),Below.refl _ _⟩
     ·have hq:((n:Int)==61)=false:=beq_eq_false_iff_ne.2 (by omega)
      clear hd
      go_wp2_with fail
      go_ret
      exact ⟨ret_bool (by rw [hM.out,beq_eq_false_iff_ne.2 he]),Below.refl _ _⟩
    ·have hb:((n:Int) % 61==0)=false:=beq_eq_false_iff_ne.2 (by omega)
     have hN:=Lib.hid (noSmall_step hno.out (show smalls[6]? =some 61 from rfl) hd)
     go_wp2_with fail
     go_round
     case rel=>exact ⟨7,rfl,by omega,hN⟩
     case measure=>simp [intOf]
   ·have hodd:n % 2=1:=by have:=hno.out 2 (by simp [smalls]);omega
    have hM:=Lib.hid (mPrime_none h2 hno.out)
    go_wp2_with fail
    go_loopw [6,22] (fun _ vk wr=> ∃ k:Nat,vk= .int .i64 k∧k≤3∧Hid (∀ p,p∈[2,7,61].take k→SP p n=true)∧Below w.heap.size w wr) (fun _ vk _=>3 - (intOf vk).toNat)
    case atStart=>exact ⟨0,rfl,by omega,by intro p hp;simp at hp,Below.refl _ _⟩
    case round=>
     obtain ⟨k,rfl,hk,hall,hbel⟩:=hrel
     have hbs:=hbel.size
     rcases (show k=0∨k=1∨k=2∨k=3 by omega) with rfl | rfl | rfl | rfl
     ·have hix:=three0
      by_cases hs:SP 2 n=true
      ·have HA:Hid (∀ p,p∈[2,7,61].take 1→SP p n=true):=by
        intro p hp;rw [List.take_add_one] at hp
        rcases List.mem_append.1 hp with h1 | h1
        ·exact hall.out p h1
        ·simp at h1;subst h1;exact hs
       go_wp2_with (go_at_call 205;refine (mpasses_int _ _ _ (by omega) (by omega) (by omega) (by omega) (by omega)).mono ?_;rintro e w1 ⟨rfl,hb1⟩)
       go_roundw
       case rel=>exact ⟨1,rfl,by omega,HA,hbel.trans (hb1.mono hbs)⟩
       case measure=>simp [intOf]
      ·have hs':SP 2 n=false:=by simpa using hs
       clear hs
       have HR:Hid (mPrime n=false):=by show _=_;rw [hM.out,hs'];simp
       go_wp2_with (go_at_call 205;refine (mpasses_int _ _ _ (by omega) (by omega) (by omega) (by omega) (by omega)).mono ?_;rintro e w1 ⟨rfl,hb1⟩)
       go_ret
       exact ⟨ret_bool (by rw [HR.out]),hbel.trans (hb1.mono hbs)⟩
     ·have hix:=three1
      by_cases hs:SP 7 n=true
      ·have HA:Hid (∀ p,p∈[2,7,61].take 2→SP p n=true):=by
        intro p hp;rw [List.take_add_one] at hp
        rcases List.mem_append.1 hp with h1 | h1
        ·exact hall.out p h1
        ·simp at h1;subst h1;exact hs
       go_wp2_with (go_at_call 205;refine (mpasses_int _ _ _ (by omega) (by omega) (by omega) (by omega) (by omega)).mono ?_;rintro e w1 ⟨rfl,hb1⟩)
       go_roundw
       case rel=>exact ⟨2,rfl,by omega,HA,hbel.trans (hb1.mono hbs)⟩
       case measure=>simp [intOf]
      ·have hs':SP 7 n=false:=by simpa using hs
       clear hs
       have HR:Hid (mPrime n=false):=by show _=_;rw [hM.out,hs'];simp
       go_wp2_with (go_at_call 205;refine (mpasses_int _ _ _ (by omega) (by omega) (by omega) (by omega) (by omega)).mono ?_;rintro e w1 ⟨rfl,hb1⟩)
       go_ret
       exact ⟨ret_bool (by rw [HR.out]),hbel.trans (hb1.mono hbs)⟩
     ·have hix:=three2
      by_cases hs:SP 61 n=true
      ·have HA:Hid (∀ p,p∈[2,7,61].take 3→SP p n=true):=by
        intro p hp;rw [List.take_add_one] at hp
        rcases List.mem_append.1 hp with h1 | h1
        ·exact hall.out p h1
        ·simp at h1;subst h1;exact hs
       go_wp2_with (go_at_call 205;refine (mpasses_int _ _ _ (by omega) (by omega) (by omega) (by omega) (by omega)).mono ?_;rintro e w1 ⟨rfl,hb1⟩)
       go_roundw
       case rel=>exact ⟨3,rfl,by omega,HA,hbel.trans (hb1.mono hbs)⟩
       case measure=>simp [intOf]
      ·have hs':SP 61 n=false:=by simpa using hs
       clear hs
       have HR:Hid (mPrime n=false):=by show _=_;rw [hM.out,hs'];simp
       go_wp2_with (go_at_call 205;refine (mpasses_int _ _ _ (by omega) (by omega) (by omega) (by omega) (by omega)).mono ?_;rintro e w1 ⟨rfl,hb1⟩)
       go_ret
       exact ⟨ret_bool (by rw [HR.out]),hbel.trans (hb1.mono hbs)⟩
     ·have HR:Hid (mPrime n=true):=by show _=_;rw [hM.out,hall.out 2 (by simp),hall.out 7 (by simp),hall.out 61 (by simp)];rfl
      go_wp2_with fail
      go_ret
      exact ⟨ret_bool (by rw [HR.out]),hbel⟩
end
section
open Go.RowKit
theorem dim_bits: ∀ k:Nat,k<29→(bits BinOp.and IntKind.i64 ((k:Int)+4) ((k:Int)+3)==0)=isDim ((k:Int)+4):=by decide
theorem pdim_any (n:Int) (w:World) (_h0: -9223372036854775808≤n) (_h1:n≤9223372036854775807):
  Calls Tryz.prog 137 #[.int .i64 n] w fun r w'=>r= .returned (.bool (isDim n))∧w=w':=by
 by_cases h4:4≤n
 ·by_cases h32:n≤32
  ·have hk:=dim_bits (n - 4).toNat (by omega)
   have e1:(((n - 4).toNat:Nat):Int)=n - 4:=by omega
   rw [e1,show n - 4+4=n by omega,show n - 4+3=n - 1 by omega] at hk
   have d4:decide (4≤n)=true:=decide_eq_true h4
   have d32:decide (n≤32)=true:=decide_eq_true h32
   go_enter Tryz.func137,Tryz.ntmps137
   go_wp2_with fail
   go_ret
   exact ⟨ret_bool (by first | rfl | exact hk),rfl⟩
  ·have hR:Hid (isDim n=false):=by
    show _=_
    unfold isDim
    simp only [Bool.or_eq_false_iff,beq_eq_false_iff_ne];omega
   have d4:decide (4≤n)=true:=decide_eq_true h4
   have d32:decide (n≤32)=false:=decide_eq_false h32
   go_enter Tryz.func137,Tryz.ntmps137
   go_wp2_with fail
   go_ret
   exact ⟨ret_bool (by rw [hR.out]),rfl⟩
 ·have hR:Hid (isDim n=false):=by
   show _=_
   unfold isDim
   simp only [Bool.or_eq_false_iff,beq_eq_false_iff_ne];omega
  have d4:decide (4≤n)=false:=decide_eq_false h4
  go_enter Tryz.func137,Tryz.ntmps137
  go_wp2_with fail
  go_ret
  exact ⟨ret_bool (by rw [hR.out]),rfl⟩
theorem ppower_any (n:Int) (p:Nat) (e:Int) (w:World) (hn4:4≤n) (hn:n≤32) (hp:p<4294967296) (he0: -9223372036854775808≤e) (he1:e≤9223372036854775807):
  Calls Tryz.prog 101 #[.int .i64 n, .int .u32 p, .int .i64 e] w fun r w'=>r= .returned (.int .i64 (powv mPrime n p e:Nat))∧Below w.heap.size w w':=by
 by_cases c1:p<3
 case pos=>
  have d1:decide ((p:Int)<3)=true:=decide_eq_true (by omega)
  have hR:Hid (powv mPrime n p e=0):=powv_no (by omega)
  go_enter Tryz.func101,Tryz.ntmps101
  go_wp2_with fail
  go_ret
  exact ⟨ret_int (by rw [hR.out];rfl),Below.refl _ _⟩
 have d1:decide ((p:Int)<3)=false:=decide_eq_false (by omega)
 by_cases c2:p<65536
 case neg=>
  have d2:decide ((65536:Int)≤p)=true:=decide_eq_true (by omega)
  have hR:Hid (powv mPrime n p e=0):=powv_no (by omega)
  go_enter Tryz.func101,Tryz.ntmps101
  go_wp2_with fail
  go_ret
  exact ⟨ret_int (by rw [hR.out];rfl),Below.refl _ _⟩
 have d2:decide ((65536:Int)≤p)=false:=decide_eq_false (by omega)
 cases c3:mPrime p with
 | false=>
  have hR:Hid (powv mPrime n p e=0):=powv_no (by rw [c3];simp)
  go_enter Tryz.func101,Tryz.ntmps101
  go_wp2_with (go_at_call 139;refine (mPrime_any _ _ (by omega)).mono ?_;rintro e w1 ⟨rfl,hb1⟩)
  go_ret
  exact ⟨ret_int (by rw [hR.out];rfl),hb1⟩
 | true=>
 by_cases c4:(p:Int) % (2*n)=1
 case neg=>
  have d4:((p:Int) % (2*n) !=1)=true:=by simpa using c4
  have hR:Hid (powv mPrime n p e=0):=powv_no (by
   intro hc;apply c4;have h:=hc.2.2.2.1
   have:((p % (2*n).toNat:Nat):Int)=1:=by rw [h];rfl
   rw [Int.natCast_emod,Int.toNat_of_nonneg (by omega)] at this;exact this)
  clear c4
  go_enter Tryz.func101,Tryz.ntmps101
  go_wp2_with (go_at_call 139;refine (mPrime_any _ _ (by omega)).mono ?_;rintro e w1 ⟨rfl,hb1⟩)
  go_ret
  exact ⟨ret_int (by rw [hR.out];rfl),hb1⟩
 have d4:((p:Int) % (2*n) !=1)=false:=by simpa using c4
 have c4':p % (2*n).toNat=1:=by
  have:((p % (2*n).toNat:Nat):Int)=1:=by rw [Int.natCast_emod,Int.toNat_of_nonneg (by omega)];exact c4
  omega
 by_cases c5:1≤e
 case neg=>
  have d5:decide (e<1)=true:=decide_eq_true (by omega)
  have hR:Hid (powv mPrime n p e=0):=powv_no (by omega)
  clear c4 c4'
  go_enter Tryz.func101,Tryz.ntmps101
  go_wp2_with (go_at_call 139;refine (mPrime_any _ _ (by omega)).mono ?_;rintro e w1 ⟨rfl,hb1⟩)
  go_ret
  exact ⟨ret_int (by rw [hR.out];rfl),hb1⟩
 have d5:decide (e<1)=false:=decide_eq_false (by omega)
 have hall:=Lib.hid (show 3≤p∧p<65536∧mPrime p=true∧p % (2*n).toNat=1∧1≤e from ⟨by omega,c2,c3,c4',c5⟩)
 clear c4 c4'
 go_enter Tryz.func101,Tryz.ntmps101
 go_wp2_with (go_at_call 139;refine (mPrime_any _ _ (by omega)).mono ?_;rintro e w1 ⟨rfl,hb1⟩)
 go_loop [7,32] (fun vt vk=> ∃ k t:Nat,vt= .int .i64 t∧vk= .int .i64 k∧(k:Int)≤e∧t≤2147483647∧Hid (p ^ k=t)) (fun _ vk=>(e - intOf vk).toNat)
 case atStart=>exact ⟨0,1,rfl,rfl,by omega,by omega,rfl⟩
 case round=>
  obtain ⟨k,t,rfl,rfl,hk,ht,hI⟩:=hrel
  have hm0:(0:Int)≤(t:Int)*(p:Int):=Int.mul_nonneg (by omega) (by omega)
  have hm1:(t:Int)*(p:Int)≤2147483647*65536:=Int.mul_le_mul (by omega) (by omega) (by omega) (by omega)
  have hstep:=Lib.hid (show p ^ (k+1)=t*p by rw [Nat.pow_succ,hI.out])
  by_cases hlt:(k:Int)<e
  ·by_cases hbig:2147483647<t*p
   ·have hb:(2147483647:Int)<(t:Int)*(p:Int):=by have:=Int.ofNat_lt.2 hbig;rw [Int.natCast_mul] at this;exact this
    have hR:Hid (powv mPrime n p e=0):=powv_big (k:=k+1) (by omega) (by omega) (by rw [hstep.out];exact hbig)
    clear hbig
    go_wp2_with fail
    go_ret
    exact ⟨ret_int (by rw [hR.out];rfl),hb1⟩
   ·have hb: ¬ (2147483647:Int)<(t:Int)*(p:Int):=by intro hc;apply hbig;rw [←Int.natCast_mul] at hc;exact Int.ofNat_lt.1 hc
    have hbig':=Lib.hid hbig
    clear hbig
    go_wp2_with fail
    go_round
    case rel=>exact ⟨k+1,t*p,by rw [Int.natCast_mul],by go_num,by omega,by have:=hbig'.out;omega,hstep.out⟩
    case measure=>simp [intOf];omega
  ·have hR:Hid (powv mPrime n p e=t):=by
    show _=_;rw [powv_yes hall.out (k:=k) (by omega) (by rw [hI.out];exact ht),hI.out]
   go_wp2_with fail
   go_ret
   exact ⟨ret_int (by rw [hR.out]),hb1⟩
end
section
open Go.RowKit
theorem pgood_any (q s:Nat) (a:Addr) (w:World) (hq:q<4294967296) (hs0:0<s) (hs1:s≤137438953408) (ha:w.cell? a=some (.int .i64 s)):
  Calls Tryz.prog 138 #[.int .u32 q, .pointer (some a)] w fun r w'=>r= .returned (.bool (goodS mPrime s q))∧Below w.heap.size w w':=by
 by_cases c1:1073741824<q
 case neg=>
  have d1:decide ((1073741824:Int)<q)=false:=decide_eq_false (by omega)
  have hR:Hid (goodS mPrime s q=false):=by show _=_;unfold goodS;rw [decide_eq_false c1];rfl
  go_enter Tryz.func138,Tryz.ntmps138
  go_wp2_with fail
  go_ret
  exact ⟨ret_bool (by rw [hR.out]),Below.refl _ _⟩
 have d1:decide ((1073741824:Int)<q)=true:=decide_eq_true (by omega)
 by_cases c2:q≤2147483647
 case neg=>
  have d2:decide ((q:Int)≤2147483647)=false:=decide_eq_false (by omega)
  have hR:Hid (goodS mPrime s q=false):=by show _=_;unfold goodS;rw [decide_eq_true c1,decide_eq_false c2];rfl
  go_enter Tryz.func138,Tryz.ntmps138
  go_wp2_with fail
  go_ret
  exact ⟨ret_bool (by rw [hR.out]),Below.refl _ _⟩
 have d2:decide ((q:Int)≤2147483647)=true:=decide_eq_true (by omega)
 by_cases c3:q % s=1
 case neg=>
  have d3:((q:Int) % (s:Int)==1)=false:=by
   apply beq_eq_false_iff_ne.2;intro hc;apply c3
   have:((q % s:Nat):Int)=1:=by rw [Int.natCast_emod];exact hc
   omega
  have hR:Hid (goodS mPrime s q=false):=by show _=_;unfold goodS;rw [decide_eq_false c3];simp
  clear c3
  go_enter Tryz.func138,Tryz.ntmps138
  go_wp2_with (fail)
  go_ret
  exact ⟨ret_bool (by rw [hR.out]),Below.refl _ _⟩
 have d3:((q:Int) % (s:Int)==1)=true:=by
  apply beq_iff_eq.2
  rw [←Int.natCast_emod,c3];rfl
 have H3:=Lib.hid c3
 clear c3
 cases c4:mPrime q with
 | false=>
  have hR:Hid (goodS mPrime s q=false):=by show _=_;unfold goodS;rw [c4];simp
  go_enter Tryz.func138,Tryz.ntmps138
  go_wp2_with (go_at_call 139;refine (mPrime_any _ _ (by omega)).mono ?_;rintro e w1 ⟨rfl,hb1⟩)
  go_ret
  exact ⟨ret_bool (by rw [hR.out]),hb1⟩
 | true=>
  have hR:Hid (goodS mPrime s q=true):=by show _=_;unfold goodS;rw [c4,decide_eq_true c1,decide_eq_true c2,decide_eq_true H3.out];rfl
  go_enter Tryz.func138,Tryz.ntmps138
  go_wp2_with (go_at_call 139;refine (mPrime_any _ _ (by omega)).mono ?_;rintro e w1 ⟨rfl,hb1⟩)
  go_ret
  exact ⟨ret_bool (by rw [hR.out]),hb1⟩
end
section
open Go.RowKit
structure BoxP (w:World) (a:Nat) (x:Par) (cv:Value):Prop where
 n:w.cell? ⟨a,0,none⟩=some (.int .i64 x.n)
 p:w.cell? ⟨a,1,none⟩=some (.int .u32 x.p)
 r:w.cell? ⟨a,2,none⟩=some (.int .i64 x.r)
 ch:w.cell? ⟨a,3,none⟩=some cv
 sp:w.cell? ⟨a,4,none⟩=some (.int .u32 x.sp)
 wt:w.cell? ⟨a,5,none⟩=some (.int .i64 x.wt)
 er:w.cell? ⟨a,6,none⟩=some (.int .u32 x.er)
theorem BoxP.below {w w':World} {a B:Nat} {x:Par} {cv:Value} (h:BoxP w a x cv) (hb:Below B w w') (ha:a<B):BoxP w' a x cv:=by
 refine ⟨?_,?_,?_,?_,?_,?_,?_⟩<;>rw [hb.cell (p:=⟨a,_,none⟩) ha]
 ·exact h.n
 ·exact h.p
 ·exact h.r
 ·exact h.ch
 ·exact h.sp
 ·exact h.wt
 ·exact h.er
structure RowAt (w:World) (b off:Nat) (l:List Nat):Prop where
 blk:b<w.heap.size
 cell: ∀ i (h:i<l.length),w.cell? ⟨b,off+i,none⟩=some (.int .u32 (l[i]:Nat))
 rng: ∀ q,q∈l→q<4294967296
theorem RowAt.below {w w':World} {b off B:Nat} {l:List Nat} (h:RowAt w b off l) (hb:Below B w w') (ha:b<B):RowAt w' b off l:=
 ⟨Nat.lt_of_lt_of_le h.blk hb.size,fun i hi=>by rw [hb.cell (p:=⟨b,_,none⟩) ha];exact h.cell i hi,h.rng⟩
theorem pc2_any (t:Nat) (a:Addr) (w:World) (ha:w.cell? a=some (.int .i64 t)):
  Calls Tryz.prog 140 #[.pointer (some a)] w fun r w'=>r= .returned (.bool (decide (0<t)))∧w=w':=by
 have hR:Hid (decide (0<t)=decide ((0:Int)<t)):=by show _=_;by_cases h:0<t<;>simp [h]
 go_enter Tryz.func140,Tryz.ntmps140
 go_wp2_with fail
 go_ret
 exact ⟨ret_bool (by rw [hR.out]),rfl⟩
theorem pc3_any (a:Nat) (p:Option Addr) (n cap:Nat) (w:World) (ha:w.cell? ⟨a,3,none⟩=some (.slice p n cap)):
  Calls Tryz.prog 141 #[.pointer (some ⟨a,0,none⟩)] w fun r w'=>r= .returned (.bool (lenB n))∧w=w':=by
 by_cases h1:1≤n
 ·have d1:decide (1≤(n:Int))=true:=decide_eq_true (by omega)
  by_cases h2:n≤24
  ·have d2:decide ((n:Int)≤24)=true:=decide_eq_true (by omega)
   go_enter Tryz.func141,Tryz.ntmps141
   go_wp2_with fail
   go_ret
   exact ⟨ret_bool (by unfold lenB;rw [decide_eq_true (show 1≤n∧n≤24 from ⟨h1,h2⟩)]),rfl⟩
  ·have d2:decide ((n:Int)≤24)=false:=decide_eq_false (by omega)
   go_enter Tryz.func141,Tryz.ntmps141
   go_wp2_with fail
   go_ret
   exact ⟨ret_bool (by unfold lenB;rw [decide_eq_false (show ¬ (1≤n∧n≤24) by omega)]),rfl⟩
 ·have d1:decide (1≤(n:Int))=false:=decide_eq_false (by omega)
  go_enter Tryz.func141,Tryz.ntmps141
  go_wp2_with fail
  go_ret
  exact ⟨ret_bool (by unfold lenB;rw [decide_eq_false (show ¬ (1≤n∧n≤24) by omega)]),rfl⟩
theorem pc4_any (a:Nat) (x:Par) (cv:Value) (w:World) (hB:BoxP w a x cv):
  Calls Tryz.prog 142 #[.pointer (some ⟨a,0,none⟩)] w fun r w'=>r= .returned (.bool (wtB x))∧w=w':=by
 have l5:=hB.wt
 have l0:=hB.n
 have l6:=hB.er
 clear hB
 by_cases h1:1≤x.wt
 ·have d1:decide (1≤x.wt)=true:=decide_eq_true h1
  by_cases h2:x.wt≤x.n
  ·have d2:decide (x.wt≤x.n)=true:=decide_eq_true h2
   by_cases h3:x.er≤64
   ·have d3:decide ((x.er:Int)≤64)=true:=decide_eq_true (by omega)
    have hR:Hid (wtB x=true):=decide_eq_true ⟨h1,h2,h3⟩
    go_enter Tryz.func142,Tryz.ntmps142
    go_wp2_with fail
    go_ret
    exact ⟨ret_bool (by rw [hR.out]),rfl⟩
   ·have d3:decide ((x.er:Int)≤64)=false:=decide_eq_false (by omega)
    have hR:Hid (wtB x=false):=decide_eq_false (fun h=>h3 h.2.2)
    go_enter Tryz.func142,Tryz.ntmps142
    go_wp2_with fail
    go_ret
    exact ⟨ret_bool (by rw [hR.out]),rfl⟩
  ·have d2:decide (x.wt≤x.n)=false:=decide_eq_false h2
   have hR:Hid (wtB x=false):=decide_eq_false (fun h=>h2 h.2.1)
   go_enter Tryz.func142,Tryz.ntmps142
   go_wp2_with fail
   go_ret
   exact ⟨ret_bool (by rw [hR.out]),rfl⟩
 ·have d1:decide (1≤x.wt)=false:=decide_eq_false h1
  have hR:Hid (wtB x=false):=decide_eq_false (fun h=>h1 h.1)
  go_enter Tryz.func142,Tryz.ntmps142
  go_wp2_with fail
  go_ret
  exact ⟨ret_bool (by rw [hR.out]),rfl⟩
theorem pc5_any (a f c:Nat) (s:Nat) (x:Par) (cv:Value) (w:World) (hB:BoxP w a x cv) (hx:x.sp<4294967296) (hs0:0<s) (hs1:s≤137438953408)
  (hf:w.cell? ⟨f,0,none⟩=some (.func (.func 138) #[] #[.pointer (some ⟨c,0,none⟩)])) (hc:w.cell? ⟨c,0,none⟩=some (.int .i64 s)):
  Calls Tryz.prog 143 #[.pointer (some ⟨f,0,none⟩), .pointer (some ⟨a,0,none⟩)] w fun r w'=>r= .returned (.bool (goodS mPrime s x.sp))∧Below w.heap.size w w':=by
 have l4:=hB.sp
 clear hB
 go_enter Tryz.func143,Tryz.ntmps143
 go_wp2_with (go_at_call 138;refine (pgood_any _ _ _ _ hx hs0 hs1 hc).mono ?_;rintro e w1 ⟨rfl,hb1⟩)
 go_ret
 exact ⟨rfl,hb1⟩
theorem pc61_any (q a f c:Nat) (s:Nat) (x:Par) (cv:Value) (w:World) (hB:BoxP w a x cv) (hq:q<4294967296) (hs0:0<s) (hs1:s≤137438953408)
  (hf:w.cell? ⟨f,0,none⟩=some (.func (.func 138) #[] #[.pointer (some ⟨c,0,none⟩)])) (hc:w.cell? ⟨c,0,none⟩=some (.int .i64 s)):
  Calls Tryz.prog 146 #[.int .u32 q, .pointer (some ⟨a,0,none⟩), .pointer (some ⟨f,0,none⟩)] w fun r w'=>r= .returned (.bool (badB mPrime s x.sp q))∧Below w.heap.size w w':=by
 have l4:=hB.sp
 clear hB
 by_cases h1:q<x.sp
 ·have d1:decide (x.sp≤q)=false:=decide_eq_false (by omega)
  have hR:Hid (badB mPrime s x.sp q=!(goodS mPrime s q)):=by show _=_;unfold badB;rw [decide_eq_true h1];rfl
  go_enter Tryz.func146,Tryz.ntmps146
  go_wp2_with (go_at_call 138;refine (pgood_any _ _ _ _ hq hs0 hs1 hc).mono ?_;rintro e w1 ⟨rfl,hb1⟩)
  go_ret
  exact ⟨ret_bool (by rw [hR.out]),hb1⟩
 ·have d1:decide (x.sp≤q)=true:=decide_eq_true (by omega)
  have hR:Hid (badB mPrime s x.sp q=true):=by show _=_;unfold badB;rw [decide_eq_false h1];rfl
  go_enter Tryz.func146,Tryz.ntmps146
  go_wp2_with fail
  go_ret
  exact ⟨ret_bool (by rw [hR.out]),Below.refl _ _⟩
def idxOf (p:Nat→Bool) (l:List Nat):Int:=if l.any p then (l.findIdx p:Int) else -1
theorem idxOf_hit {p:Nat→Bool} {l:List Nat} {k:Nat} (hk:k<l.length) (h0: ∀ j (hj:j<k),p (l[j]'(by omega))=false) (h1:p l[k]=true):idxOf p l=k:=by
 have e:l.findIdx p=k:=(List.findIdx_eq hk).2 ⟨h1,h0⟩
 unfold idxOf
 rw [if_pos (List.any_eq_true.2 ⟨l[k],List.getElem_mem hk,h1⟩),e]
theorem idxOf_miss {p:Nat→Bool} {l:List Nat} (h0: ∀ j (hj:j<l.length),p l[j]=false):idxOf p l= -1:=by
 unfold idxOf
 rw [if_neg]
 intro h
 obtain ⟨x,hx,hpx⟩:=List.any_eq_true.1 h
 obtain ⟨j,hj,rfl⟩:=List.mem_iff_getElem.1 hx
 rw [h0 j hj] at hpx;exact absurd hpx (by simp)
theorem idxOf_nonneg (p:Nat→Bool) (l:List Nat):decide (0≤idxOf p l)=l.any p:=by
 unfold idxOf
 cases h:l.any p with
 | true=>simp
 | false=>simp
theorem pidx_any (b off cap a f c:Nat) (l:List Nat) (s:Nat) (x:Par) (cv:Value) (w:World) (hl:RowAt w b off l) (hlen:l.length≤140737488351232) (hB:BoxP w a x cv) (ha:a<w.heap.size) (hs0:0<s) (hs1:s≤137438953408)
  (hf:w.cell? ⟨f,0,none⟩=some (.func (.func 138) #[] #[.pointer (some ⟨c,0,none⟩)])) (hfw:f<w.heap.size) (hc:w.cell? ⟨c,0,none⟩=some (.int .i64 s)) (hcw:c<w.heap.size):
  Calls Tryz.prog 206 #[.slice (some ⟨b,off,none⟩) l.length cap, .func (.func 146) #[] #[.pointer (some ⟨a,0,none⟩), .pointer (some ⟨f,0,none⟩)]] w fun r w'=>
   r= .returned (.int .i64 (idxOf (badB mPrime s x.sp) l))∧Below w.heap.size w w':=by
 go_enter Tryz.func206,Tryz.ntmps206
 go_wp2_with fail
 go_loopw [5,8] (fun _ vk wr=> ∃ k:Nat,vk= .int .i64 k∧k≤l.length∧Hid (∀ j (hj:j<k) (hj2:j<l.length),badB mPrime s x.sp l[j]=false)∧Below w.heap.size w wr) (fun _ vk _=>l.length - (intOf vk).toNat)
 case atStart=>exact ⟨0,rfl,by omega,by intro j hj;omega,Below.refl _ _⟩
 case round=>
  obtain ⟨k,rfl,hk,hno,hbel⟩:=hrel
  have hsz:=hbel.size
  by_cases hlt:k<l.length
  ·have hq:=hl.rng l[k] (List.getElem_mem hlt)
   have hcell:wr.cell? ⟨b,off+k,none⟩=some (.int .u32 (l[k]:Nat)):=by rw [hbel.cell (p:=⟨b,_,none⟩) hl.blk];exact hl.cell k hlt
   have hB':=Lib.hid (hB.below hbel ha)
   have hf':Hid (wr.cell? ⟨f,0,none⟩=some (.func (.func 138) #[] #[.pointer (some ⟨c,0,none⟩)])):=by show _=_;rw [hbel.cell (p:=⟨f,0,none⟩) hfw];exact hf
   have hc':Hid (wr.cell? ⟨c,0,none⟩=some (.int .i64 s)):=by show _=_;rw [hbel.cell (p:=⟨c,0,none⟩) hcw];exact hc
   cases hv:badB mPrime s x.sp l[k] with
   | true=>
    have hR:Hid (idxOf (badB mPrime s x.sp) l=k):=idxOf_hit hlt (fun j hj=>hno.out j hj (by omega)) hv
    generalize l[k]=q at*
    have hv':=Lib.hid hv
    clear hv
    go_wp2_with (go_at_call 146;refine (pc61_any _ _ _ _ _ _ _ _ hB'.out hq hs0 hs1 hf'.out hc'.out).mono ?_;rintro e w1 ⟨rfl,hb1⟩;rw [hv'.out])
    go_ret
    exact ⟨ret_int (by rw [hR.out]),hbel.trans (hb1.mono hsz)⟩
   | false=>
    have hno':Hid (∀ j (hj:j<k+1) (hj2:j<l.length),badB mPrime s x.sp l[j]=false):=by
     intro j hj hj2
     by_cases e:j=k
     ·subst e;exact hv
     ·exact hno.out j (by omega) hj2
    generalize l[k]=q at*
    have hv':=Lib.hid hv
    clear hv
    go_wp2_with (go_at_call 146;refine (pc61_any _ _ _ _ _ _ _ _ hB'.out hq hs0 hs1 hf'.out hc'.out).mono ?_;rintro e w1 ⟨rfl,hb1⟩;rw [hv'.out])
    go_roundw
    case rel=>exact ⟨k+1,by go_num,by omega,hno',hbel.trans (hb1.mono hsz)⟩
    case measure=>simp [intOf];omega
  ·have hR:Hid (idxOf (badB mPrime s x.sp) l= -1):=idxOf_miss (fun j hj=>hno.out j (by omega) hj)
   go_wp2_with fail
   go_ret
   exact ⟨ret_int (by rw [hR.out]),hbel⟩
end
section
open Go.Shelf Go.Proofs
abbrev srtL (ρ :Ren):List FuncId:=[ρ.f 5, ρ.f 7, ρ.f 8, ρ.f 10, ρ.f 11, ρ.f 12, ρ.f 13, ρ.f 14, ρ.f 15, ρ.f 16, ρ.f 17, ρ.f 18, ρ.f 20, ρ.f 30, ρ.f 31, ρ.f 32, ρ.f 33, ρ.f 34, ρ.f 35, ρ.f 40]
structure SlLaysU.n5 (P:Program) (ρ :Ren):Prop where
 mixed:P.follows .mixedOrders=true
 f5:Bears P (ρ.f 5) (SlBodyM.n5 ρ)
 f7:Bears P (ρ.f 7) (SlBodyM.n7 ρ)
 f8:P.funcs[ρ.f 8]? =some (SlBodyM.n8 ρ)
 f10:Bears P (ρ.f 10) (SlBodyM.n10 ρ)
 f11:Bears P (ρ.f 11) (SlBodyM.n11 ρ)
 f12:Bears P (ρ.f 12) (SlBodyM.n12 ρ)
 f13:Bears P (ρ.f 13) (SlBodyM.n13 ρ)
 f14:Bears P (ρ.f 14) (SlBodyM.n14 ρ)
 f15:Bears P (ρ.f 15) (SlBodyM.n15 ρ)
 f16:Bears P (ρ.f 16) (SlBodyM.n16 ρ)
 f17:Bears P (ρ.f 17) (SlBodyM.n17 ρ)
 f18:Bears P (ρ.f 18) (SlBodyM.n18 ρ)
 f19:P.funcs[ρ.f 19]? =some (SlBodyM.n19 ρ)
 f20:P.funcs[ρ.f 20]? =some (SlBodyM.n20 ρ)
 f30:Bears P (ρ.f 30) (SlBodyM.n30 ρ)
 f31:P.funcs[ρ.f 31]? =some (SlBodyM.n31 ρ)
 f32:P.funcs[ρ.f 32]? =some (SlBodyM.n32 ρ)
 f33:Bears P (ρ.f 33) (SlBodyM.n33 ρ)
 f34:Bears P (ρ.f 34) (SlBodyM.n34 ρ)
 f35:Bears P (ρ.f 35) (SlBodyM.n35 ρ)
 f40:Bears P (ρ.f 40) (SlBodyM.n40 ρ)
 t0:P.underlying (ρ.t 0)=some (TypeDesc.tuple #[])
 a0: ∀ w,(isAgg (ρ.t 0)).run P w= .ok false w
 z0: ∀ w,(Go.sizeOf (ρ.t 0)).run P w= .ok 1 w
 v0: ∀ w,(zeroValue (ρ.t 0)).run P w= .ok (Value.tuple #[]) w
 t3:P.underlying (ρ.t 3)=some (TypeDesc.int IntKind.i64)
 a3: ∀ w,(isAgg (ρ.t 3)).run P w= .ok false w
 z3: ∀ w,(Go.sizeOf (ρ.t 3)).run P w= .ok 1 w
 v3: ∀ w,(zeroValue (ρ.t 3)).run P w= .ok (Value.int IntKind.i64 0) w
 t4:P.underlying (ρ.t 4)=some (TypeDesc.bool)
 a4: ∀ w,(isAgg (ρ.t 4)).run P w= .ok false w
 z4: ∀ w,(Go.sizeOf (ρ.t 4)).run P w= .ok 1 w
 v4: ∀ w,(zeroValue (ρ.t 4)).run P w= .ok (Value.bool false) w
 t5:P.underlying (ρ.t 5)=some (TypeDesc.int IntKind.u8)
 a5: ∀ w,(isAgg (ρ.t 5)).run P w= .ok false w
 z5: ∀ w,(Go.sizeOf (ρ.t 5)).run P w= .ok 1 w
 v5: ∀ w,(zeroValue (ρ.t 5)).run P w= .ok (Value.int IntKind.u8 0) w
 t9:P.underlying (ρ.t 9)=some (TypeDesc.string)
 a9: ∀ w,(isAgg (ρ.t 9)).run P w= .ok false w
 z9: ∀ w,(Go.sizeOf (ρ.t 9)).run P w= .ok 1 w
 v9: ∀ w,(zeroValue (ρ.t 9)).run P w= .ok (Value.string {data:= #[]}) w
 t22:P.underlying (ρ.t 22)=some (TypeDesc.slice (ρ.t 25))
 a22: ∀ w,(isAgg (ρ.t 22)).run P w= .ok false w
 z22: ∀ w,(Go.sizeOf (ρ.t 22)).run P w= .ok 1 w
 v22: ∀ w,(zeroValue (ρ.t 22)).run P w= .ok (Value.slice none 0 0) w
 t23:P.underlying (ρ.t 23)=some (TypeDesc.slice (ρ.t 25))
 a23: ∀ w,(isAgg (ρ.t 23)).run P w= .ok false w
 z23: ∀ w,(Go.sizeOf (ρ.t 23)).run P w= .ok 1 w
 v23: ∀ w,(zeroValue (ρ.t 23)).run P w= .ok (Value.slice none 0 0) w
 t25:P.underlying (ρ.t 25)=some (TypeDesc.int IntKind.u32)
 a25: ∀ w,(isAgg (ρ.t 25)).run P w= .ok false w
 z25: ∀ w,(Go.sizeOf (ρ.t 25)).run P w= .ok 1 w
 v25: ∀ w,(zeroValue (ρ.t 25)).run P w= .ok (Value.int IntKind.u32 0) w
 t32:P.underlying (ρ.t 32)=some (TypeDesc.int IntKind.u64)
 a32: ∀ w,(isAgg (ρ.t 32)).run P w= .ok false w
 z32: ∀ w,(Go.sizeOf (ρ.t 32)).run P w= .ok 1 w
 v32: ∀ w,(zeroValue (ρ.t 32)).run P w= .ok (Value.int IntKind.u64 0) w
 t35:P.underlying (ρ.t 35)=some (TypeDesc.int IntKind.i64)
 a35: ∀ w,(isAgg (ρ.t 35)).run P w= .ok false w
 z35: ∀ w,(Go.sizeOf (ρ.t 35)).run P w= .ok 1 w
 v35: ∀ w,(zeroValue (ρ.t 35)).run P w= .ok (Value.int IntKind.i64 0) w
 t36:P.underlying (ρ.t 36)=some (TypeDesc.tuple #[ρ.t 3, ρ.t 35])
 a36: ∀ w,(isAgg (ρ.t 36)).run P w= .ok false w
 z36: ∀ w,(Go.sizeOf (ρ.t 36)).run P w= .ok 1 w
 v36: ∀ w,(zeroValue (ρ.t 36)).run P w= .ok (Value.tuple #[Value.int IntKind.i64 0,Value.int IntKind.i64 0]) w
 t41:P.underlying (ρ.t 41)=some (TypeDesc.tuple #[ρ.t 3, ρ.t 4])
 a41: ∀ w,(isAgg (ρ.t 41)).run P w= .ok false w
 z41: ∀ w,(Go.sizeOf (ρ.t 41)).run P w= .ok 1 w
 v41: ∀ w,(zeroValue (ρ.t 41)).run P w= .ok (Value.tuple #[Value.int IntKind.i64 0,Value.bool false]) w
 t44:P.underlying (ρ.t 44)=some (TypeDesc.int IntKind.u32)
 a44: ∀ w,(isAgg (ρ.t 44)).run P w= .ok false w
 z44: ∀ w,(Go.sizeOf (ρ.t 44)).run P w= .ok 1 w
 v44: ∀ w,(zeroValue (ρ.t 44)).run P w= .ok (Value.int IntKind.u32 0) w
 t46:P.underlying (ρ.t 46)=some (TypeDesc.int IntKind.u64)
 a46: ∀ w,(isAgg (ρ.t 46)).run P w= .ok false w
 z46: ∀ w,(Go.sizeOf (ρ.t 46)).run P w= .ok 1 w
 v46: ∀ w,(zeroValue (ρ.t 46)).run P w= .ok (Value.int IntKind.u64 0) w
 t53:P.underlying (ρ.t 53)=some (TypeDesc.int IntKind.u64)
 a53: ∀ w,(isAgg (ρ.t 53)).run P w= .ok false w
 z53: ∀ w,(Go.sizeOf (ρ.t 53)).run P w= .ok 1 w
 v53: ∀ w,(zeroValue (ρ.t 53)).run P w= .ok (Value.int IntKind.u64 0) w
 t57:P.underlying (ρ.t 57)=some (TypeDesc.pointer (ρ.t 3))
 a57: ∀ w,(isAgg (ρ.t 57)).run P w= .ok false w
 z57: ∀ w,(Go.sizeOf (ρ.t 57)).run P w= .ok 1 w
 v57: ∀ w,(zeroValue (ρ.t 57)).run P w= .ok (Value.pointer none) w
 t63:P.underlying (ρ.t 63)=some (TypeDesc.pointer (ρ.t 53))
 a63: ∀ w,(isAgg (ρ.t 63)).run P w= .ok false w
 z63: ∀ w,(Go.sizeOf (ρ.t 63)).run P w= .ok 1 w
 v63: ∀ w,(zeroValue (ρ.t 63)).run P w= .ok (Value.pointer none) w
 t64:P.underlying (ρ.t 64)=some (TypeDesc.tuple #[ρ.t 3, ρ.t 3])
 a64: ∀ w,(isAgg (ρ.t 64)).run P w= .ok false w
 z64: ∀ w,(Go.sizeOf (ρ.t 64)).run P w= .ok 1 w
 v64: ∀ w,(zeroValue (ρ.t 64)).run P w= .ok (Value.tuple #[Value.int IntKind.i64 0,Value.int IntKind.i64 0]) w
end
section
open Go.Proofs
abbrev encU:Int→Value:=Value.int .u32
section
open Go.Shelf
variable {P:Program} {ρ :Ren}
theorem AnySM.cmp_isNaN_intIn (Ly:SlLaysU.n5 P ρ) (D:Nat) (x:Int) (w:World):CallsIn (Fence.list (srtL ρ) (some D)) 0 P (ρ.f 35) #[.int .u32 x] w fun e w'=>e= .returned (.bool false)∧w'=w:=by
 have mixed:=Ly.mixed
 have t4:=Ly.t4;have a4:=Ly.a4;have z4:=Ly.z4;have v4:=Ly.v4;have t25:=Ly.t25;have a25:=Ly.a25;have z25:=Ly.z25;have v25:=Ly.v25
 obtain ⟨_,_,FG⟩:=Ly.f35
 gi_enter FG,SlBodyM.n35_ntmps ρ
 gi_wp2
 go_ret
 exact ⟨by simp,rfl⟩
theorem AnySM.cmp_Less_intIn (Ly:SlLaysU.n5 P ρ) (D:Nat) (x y:Int) (w:World):CallsIn (Fence.list (srtL ρ) (some D)) 1 P (ρ.f 16) #[.int .u32 x, .int .u32 y] w fun e w'=>e= .returned (.bool (Sort.ltInt x y))∧w'=w:=by
 have mixed:=Ly.mixed
 have t4:=Ly.t4;have a4:=Ly.a4;have z4:=Ly.z4;have v4:=Ly.v4;have t25:=Ly.t25;have a25:=Ly.a25;have z25:=Ly.z25;have v25:=Ly.v25
 have e215: ∀ args w,(callFunc (ρ.f 35) args).run P w= .ok (.enter (ρ.f 35) args) w:=Ly.f35.enters rfl
 obtain ⟨_,_,FG⟩:=Ly.f16
 gi_enter FG,SlBodyM.n16_ntmps ρ
 gi_wp2_with (gi_at_fn (ρ.f 35);refine (AnySM.cmp_isNaN_intIn {Ly with} D _ _).mono ?_;rintro e w' ⟨rfl,rfl⟩)
 go_ret
 exact ⟨rfl,rfl⟩
end
section
open Go.Shelf
variable {P:Program} {ρ :Ren}
open Go.RowKit Go.Sort
section
variable {α:Type} [Inhabited α] (lt:α→α→Bool)
end
section
variable {α:Type} [Inhabited α] (enc:α→Value)
end
theorem AnySM.insertionSort_intIn (Ly:SlLaysU.n5 P ρ) (D:Nat) (blk off cap a b:Nat) (d:Array Int) (w:World) (hH:Holds (Value.int .u32) w blk off d) (hab:a≤b) (hb:b≤d.size) (hsz:d.size<4611686018427387904):
  CallsIn (Fence.list (srtL ρ) (some D)) 2 P (ρ.f 10) #[.slice (some ⟨blk,off,none⟩) d.size cap, .int .i64 a, .int .i64 b] w fun e w'=>
   e= .returned (.tuple #[])∧ ∃ n,w'=putRow (Value.int .u32) (Sort.ahead w n) blk off (Sort.insertionSort ltInt d a b):=by
 have mixed:=Ly.mixed
 have t0:=Ly.t0;have a0:=Ly.a0;have z0:=Ly.z0;have v0:=Ly.v0;have t3:=Ly.t3;have a3:=Ly.a3;have z3:=Ly.z3;have v3:=Ly.v3;have t4:=Ly.t4;have a4:=Ly.a4;have z4:=Ly.z4;have v4:=Ly.v4;have t22:=Ly.t22;have a22:=Ly.a22;have z22:=Ly.z22;have v22:=Ly.v22;have t25:=Ly.t25;have a25:=Ly.a25;have z25:=Ly.z25;have v25:=Ly.v25
 have e216: ∀ args w,(callFunc (ρ.f 16) args).run P w= .ok (.enter (ρ.f 16) args) w:=Ly.f16.enters rfl
 obtain ⟨_,_,FG⟩:=Ly.f10
 gi_enter FG,SlBodyM.n10_ntmps ρ
 gi_wp2
 gi_loopw [6] (fun vi wr=> ∃ (i n:Nat) (dk:Array Int),vi= .int .i64 i∧a<i∧i≤b+1∧dk.size=d.size∧wr=putRow (Value.int .u32) (Sort.ahead w n) blk off dk∧
   insOuter ltInt a b i dk=insOuter ltInt a b (a+1) d) (fun vi _=>b+1 - (intOf vi).toNat)
 case atStart=>exact ⟨a+1,0,d,by go_num,by omega,by omega,rfl,(putRow_self _ _ _ _ _ hH).symm,rfl⟩
 case round=>
  obtain ⟨i,n,dk,rfl,hai,hib,hsk,hwr,hO⟩:=hrel
  have HO:Hid (insOuter ltInt a b i dk=insOuter ltInt a b (a+1) d):=hO
  clear hO
  gi_wp2
  ·
   gi_loopw [7] (fun vj wr2=> ∃ (j m:Nat) (dj:Array Int),vj= .int .i64 j∧a≤j∧j≤i∧dj.size=d.size∧wr2=putRow (Value.int .u32) (Sort.ahead w m) blk off dj∧
     insInner ltInt a j dj=insInner ltInt a i dk) (fun vj _=>(intOf vj).toNat)
   case atStart=>exact ⟨i,n,dk,rfl,by omega,Nat.le_refl _,hsk,rfl,rfl⟩
   case round=>
    obtain ⟨j,m,dj,rfl,haj,hji,hsj,hw2,hI⟩:=hrel
    have hlt:i<b:=by assumption
    obtain ⟨G,hG⟩: ∃ G:Nat→Int, ∀ t,G t=dj[t]! :=⟨fun t=>dj[t]!,fun _=>rfl⟩
    have hcw: ∀ t,t<d.size→wr.cell? ⟨blk,off+t,none⟩=some (.int .u32 (G t)):=fun t ht=>by
     rw [hw2,hG];exact cell?_putRow _ _ _ _ d dj (holds_ahead _ _ _ _ _ _ hH) hsj t (by omega)
    have hfw: ∀ t,t<d.size→wr.frozen? ⟨blk,off+t,none⟩=false:=fun t ht=>by
     rw [hw2,frozen?_putRow];exact ((holds_ahead _ _ m _ _ _ hH) t ht).2
    have HW:Hid (wr=putRow (Value.int .u32) (Sort.ahead w m) blk off dj):=hw2
    have HG:Hid (∀ t,G t=dj[t]!):=hG
    have HI:Hid (insInner ltInt a j dj=insInner ltInt a i dk):=hI
    clear hw2 hG hI hH
    have out:(j≤a∨ltInt dj[j]! dj[j - 1]! =false)→ ∀ q, ∃ i' n' dk',Value.int .i64 ((i:Int)+1)= .int .i64 (i':Nat)∧a<i'∧i'≤b+1∧dk'.size=d.size∧
      wr.drewN q=putRow (Value.int .u32) (Sort.ahead w n') blk off dk'∧insOuter ltInt a b i' dk'=insOuter ltInt a b (a+1) d:=fun hs q=>
     ⟨i+1,m+q,dj,by go_num,by omega,by omega,hsj,by rw [HW.out];exact putRow_drewN _ _ _ _ _ _ _,
      by rw [←HO.out,insOuter_go _ _ _ _ _ hlt, ←HI.out,insInner_stop _ _ _ _ hs]⟩
    have OUT:Hid _:=out
    clear out
    gi_wp2
    by_cases hja:a<j
    ·gi_big_quiet_th_o (first | (gi_at_fn (ρ.f 16);refine CallsIn.quiet_of_same (AnySM.cmp_Less_intIn {Ly with} D _ _ _)))
     gi_wp2
     ·
      have hl:ltInt (G j) (G (j - 1))=true:=by assumption
      gi_region_o
      all_goals gi_wp2
      go_roundw
      case rel=>
       refine ⟨j - 1,m+(nq+1),swp dj j (j - 1),by congr 1;omega,by omega,by omega,by rw [size_swp];exact hsj,?_,?_⟩
       ·rw [HW.out,HG.out,HG.out]
        exact swap_worldA _ w m (nq+1) blk off dj j (j - 1) (by omega) (by omega)
       ·rw [←HI.out,insInner_go ltInt a j dj hja (by rw [←HG.out, ←HG.out];exact hl)]
      case measure=>simp [intOf];omega
     ·
      have hl:ltInt (G j) (G (j - 1))=false:=by assumption
      go_roundw
      case rel=>exact OUT.out (Or.inr (by rw [←HG.out, ←HG.out];exact hl)) nq
      case measure=>simp [intOf];omega
    ·gi_big_quiet_th_o (first | (gi_at_fn (ρ.f 16);refine CallsIn.quiet_of_same (AnySM.cmp_Less_intIn {Ly with} D _ _ _)))
     gi_wp2
     go_roundw
     case rel=>exact OUT.out (Or.inl (by omega)) nq
     case measure=>simp [intOf];omega
  ·
   have hge: ¬ i<b:=by assumption
   go_end0
   exact ⟨rfl,n,by unfold Sort.insertionSort;rw [←HO.out,insOuter_stop _ _ _ _ _ hge]⟩
end
section
open Go.Shelf
variable {P:Program} {ρ :Ren}
open Go.RowKit Go.Sort
section
variable {α:Type} [Inhabited α] (lt:α→α→Bool)
end
section
variable {α:Type} [Inhabited α] (lt:α→α→Bool)
end
theorem AnySM.partialInsertionSort_intIn (Ly : SlLaysU.n5 P ρ) (D : Nat) (blk off cap a b : Nat) (d : Array Int) (w : World) (hH : Holds (Value.int .u32) w blk off d) (hab : a < b) (hb : b ≤ d.size) (hsz : d.size < 4611686018427387904) :
    CallsIn (Fence.list (srtL ρ) (some D)) 2 P (ρ.f 15) #[.slice (some ⟨blk, off, none⟩) d.size cap, .int .i64 a, .int .i64 b] w fun e w' =>
      e = .returned (.bool (Sort.partialInsertionSort ltInt d a b).2) ∧ ∃ n, w' = putRow (Value.int .u32) (Sort.ahead w n) blk off (Sort.partialInsertionSort ltInt d a b).1 := by
  have HH : Hid (Holds (Value.int .u32) w blk off d) := hH
  have HST : Hid (w = putRow (Value.int .u32) (Sort.ahead w 0) blk off d) := (putRow_self _ _ _ _ _ hH).symm
  clear hH
  have mixed := Ly.mixed
  have t0 := Ly.t0; have a0 := Ly.a0; have z0 := Ly.z0; have v0 := Ly.v0; have t3 := Ly.t3; have a3 := Ly.a3; have z3 := Ly.z3; have v3 := Ly.v3; have t4 := Ly.t4; have a4 := Ly.a4; have z4 := Ly.z4; have v4 := Ly.v4; have t22 := Ly.t22; have a22 := Ly.a22; have z22 := Ly.z22; have v22 := Ly.v22; have t25 := Ly.t25; have a25 := Ly.a25; have z25 := Ly.z25; have v25 := Ly.v25
  have e216 : ∀ args w, (callFunc (ρ.f 16) args).run P w = .ok (.enter (ρ.f 16) args) w := Ly.f16.enters rfl
  obtain ⟨_, _, FG⟩ := Ly.f15
  gi_enter FG, SlBodyM.n15_ntmps ρ
  gi_wp2
  gi_loopw [7, 8] (fun vi vs wr => ∃ (i s n : Nat) (dk : Array Int), vi = .int .i64 i ∧ vs = .int .i64 s ∧ s ≤ 5 ∧ a < i ∧ i ≤ b ∧ dk.size = d.size ∧ wr = putRow (Value.int .u32) (Sort.ahead w n) blk off dk ∧
      partialIns ltInt a b (5 - s) i dk = partialIns ltInt a b 5 (a + 1) d) (fun _ vs _ => 5 - (intOf vs).toNat)
  case atStart => exact ⟨a + 1, 0, 0, d, by go_num, rfl, by omega, by omega, by omega, rfl, HST.out, rfl⟩
  case round =>
    obtain ⟨i, s, n, dk, rfl, rfl, hs5, hai, hib, hsk, hwr, hO⟩ := hrel
    have HO : Hid (partialIns ltInt a b (5 - s) i dk = partialIns ltInt a b 5 (a + 1) d) := hO
    clear hO
    gi_wp2
    ·
      have hs : s < 5 := by omega
      gi_loopw [7] (fun vi wr2 => ∃ (k m : Nat), vi = .int .i64 k ∧ i ≤ k ∧ k ≤ b ∧ wr2 = putRow (Value.int .u32) (Sort.ahead w m) blk off dk ∧ scanSorted ltInt dk b k = scanSorted ltInt dk b i) (fun vi _ => b - (intOf vi).toNat)
      case atStart => exact ⟨i, n, rfl, Nat.le_refl _, hib, rfl, rfl⟩
      case round =>
        obtain ⟨k, m, rfl, hik, hkb, hw2, hS⟩ := hrel
        obtain ⟨G, hG⟩ : ∃ G : Nat → Int, ∀ t, G t = dk[t]! := ⟨fun t => dk[t]!, fun _ => rfl⟩
        have hcw : ∀ t, t < d.size → wr.cell? ⟨blk, off + t, none⟩ = some (.int .u32 (G t)) := fun t ht => by
          rw [hw2, hG]; exact cell?_putRow _ _ _ _ d dk (holds_ahead _ _ _ _ _ _ HH.out) hsk t (by omega)
        have hfw : ∀ t, t < d.size → wr.frozen? ⟨blk, off + t, none⟩ = false := fun t ht => by
          rw [hw2, frozen?_putRow]; exact ((holds_ahead _ _ m _ _ _ HH.out) t ht).2
        have HW : Hid (wr = putRow (Value.int .u32) (Sort.ahead w m) blk off dk) := hw2
        have HG : Hid (∀ t, G t = dk[t]!) := hG
        have HS : Hid (scanSorted ltInt dk b k = scanSorted ltInt dk b i) := hS
        clear hw2 hG hS
        gi_wp2
        by_cases hkb' : k < b
        · gi_big_quiet_th_o (first | (gi_at_fn (ρ.f 16); refine CallsIn.quiet_of_same (AnySM.cmp_Less_intIn { Ly with } D _ _ _)))
          gi_wp2
          all_goals first
            | (at_end
               have hl : ltInt (G k) (G (k - 1)) = false := by
                 have h : (!ltInt (G k) (G (k - 1))) = true := by assumption
                 simpa using h
               go_roundw
               case rel => exact ⟨k + 1, m + nq, by go_num, by omega, by omega, by rw [HW.out]; exact putRow_drewN _ _ _ _ _ _ _, by rw [← HS.out, scanSorted_go ltInt dk b k hkb' (by rw [← HG.out, ← HG.out]; exact hl)]⟩
               case measure => simp [intOf]; omega)
            | (have hl : ltInt (G k) (G (k - 1)) = true := by
                 have h : (!ltInt (G k) (G (k - 1))) = false := by assumption
                 simpa using h
               have HK : Hid (scanSorted ltInt dk b i = k) := by
                 show scanSorted ltInt dk b i = k
                 rw [← HS.out, scanSorted_stop ltInt dk b k (Or.inr (by rw [← HG.out, ← HG.out]; exact hl))]
               first
                 | (at_ret
                    have hv : Sort.partialInsertionSort ltInt d a b = (dk, false) := by
                      unfold Sort.partialInsertionSort
                      rw [← HO.out, pi_short ltInt a b s i dk hs (by rw [HK.out]; omega) (by omega)]
                    rw [hv]
                    go_ret
                    exact ⟨rfl, m + nq, by rw [HW.out]; exact putRow_drewN _ _ _ _ _ _ _⟩)
                 | (ati_region_m 11
                    have h50 : ¬ b - a < 50 := by omega
                    gi_region_o
                    have hsw : ((wr.drewN (nq + 1)).setCell ⟨blk, off + k, none⟩ (.int .u32 (G (k - 1)))).setCell ⟨blk, off + (k - 1), none⟩ (.int .u32 (G k)) = putRow (Value.int .u32) (Sort.ahead w (m + (nq + 1))) blk off (swp dk k (k - 1)) := by
                      rw [HW.out, HG.out, HG.out]
                      exact swap_worldA _ w m (nq + 1) blk off dk k (k - 1) (by omega) (by omega)
                    have hs1 : (swp dk k (k - 1)).size = d.size := by rw [size_swp]; exact hsk
                    gi_wp2
                    all_goals first
                      | (ati_loop_m
                         have hka : k - a ≥ 2 := by omega
                         gi_loopw [9] (fun vj wr2 => ∃ (j m2 : Nat) (dj : Array Int), vj = .int .i64 j ∧ j ≤ k - 1 ∧ dj.size = d.size ∧ wr2 = putRow (Value.int .u32) (Sort.ahead w m2) blk off dj ∧
                             shiftDown ltInt j dj = shiftDown ltInt (k - 1) (swp dk k (k - 1))) (fun vj _ => (intOf vj).toNat)
                         case atStart => exact ⟨k - 1, _, (swp dk k (k - 1)), by congr 1; omega, Nat.le_refl _, hs1, rfl, rfl⟩
                         case round =>
                           obtain ⟨j, m2, dj, rfl, hjk, hsj, hw2, hDn⟩ := hrel
                           obtain ⟨G, hG⟩ : ∃ G : Nat → Int, ∀ t, G t = dj[t]! := ⟨fun t => dj[t]!, fun _ => rfl⟩
                           have hcw : ∀ t, t < d.size → wr.cell? ⟨blk, off + t, none⟩ = some (.int .u32 (G t)) := fun t ht => by
                             rw [hw2, hG]; exact cell?_putRow _ _ _ _ d dj (holds_ahead _ _ _ _ _ _ HH.out) hsj t (by omega)
                           have hfw : ∀ t, t < d.size → wr.frozen? ⟨blk, off + t, none⟩ = false := fun t ht => by
                             rw [hw2, frozen?_putRow]; exact ((holds_ahead _ _ m2 _ _ _ HH.out) t ht).2
                           have HW : Hid (wr = putRow (Value.int .u32) (Sort.ahead w m2) blk off dj) := hw2
                           have HG : Hid (∀ t, G t = dj[t]!) := hG
                           have HDn : Hid (shiftDown ltInt j dj = shiftDown ltInt (k - 1) (swp dk k (k - 1))) := hDn
                           clear hw2 hG hDn hsw
                           gi_wp2
                           all_goals first
                             | (ati_region_m 16
                                gi_big_quiet_th_o (first | (gi_at_fn (ρ.f 16); refine CallsIn.quiet_of_same (AnySM.cmp_Less_intIn { Ly with } D _ _ _)))
                                gi_wp2
                                all_goals first
                                  | (ati_region_m 17
                                     have hl : ltInt (G j) (G (j - 1)) = true := by
                                       have h : (!ltInt (G j) (G (j - 1))) = false := by assumption
                                       simpa using h
                                     gi_region_o
                                     all_goals gi_wp2
                                     go_roundw
                                     case rel =>
                                       refine ⟨j - 1, m2 + (nq + 1), swp dj j (j - 1), by congr 1; omega, by omega, by rw [size_swp]; exact hsj, ?_, ?_⟩
                                       · rw [HW.out, HG.out, HG.out]
                                         exact swap_worldA _ w m2 (nq + 1) blk off dj j (j - 1) (by omega) (by omega)
                                       · rw [← HDn.out, shiftDown_go ltInt j dj (by omega) (by rw [← HG.out, ← HG.out]; exact hl)]
                                     case measure => simp [intOf]; omega)
                                  | (
                                     have hl : ltInt (G j) (G (j - 1)) = false := by
                                       have h : (!ltInt (G j) (G (j - 1))) = true := by assumption
                                       simpa using h
                                     have HD : Hid (fixDown ltInt a k (swp dk k (k - 1)) = dj) := by
                                       show fixDown ltInt a k (swp dk k (k - 1)) = dj
                                       unfold fixDown; rw [if_pos hka, ← HDn.out, shiftDown_stop ltInt j dj (Or.inr (by rw [← HG.out, ← HG.out]; exact hl))]
                                     first
                                       | (at_end
                                          go_roundw
                                          case rel =>
                                            refine ⟨k, s + 1, _, dj, rfl, by go_num, by omega, by omega, by omega, hsj, (by first | rfl | exact HW.out | (rw [HW.out]; exact putRow_drewN _ _ _ _ _ _ _)), ?_⟩
                                            rw [← HO.out, pi_go ltInt a b s i k dk hs HK.out (by omega) (by omega), HD.out, show fixUp ltInt b k dj = dj from by unfold fixUp; rw [if_neg (by omega)]]
                                          case measure => simp [intOf]; omega)
                                       | (ati_loop_m
                                          gi_loopw [10] (fun vj wr2 => ∃ (j m3 : Nat) (du : Array Int), vj = .int .i64 j ∧ k + 1 ≤ j ∧ j ≤ b ∧ du.size = d.size ∧ wr2 = putRow (Value.int .u32) (Sort.ahead w m3) blk off du ∧
                                              shiftUp ltInt b j du = shiftUp ltInt b (k + 1) dj) (fun vj _ => b - (intOf vj).toNat)
                                          case atStart => exact ⟨k + 1, _, dj, by go_num, Nat.le_refl _, by omega, hsj, (by first | rfl | exact HW.out | (rw [HW.out]; exact putRow_drewN _ _ _ _ _ _ _)), rfl⟩
                                          case round =>
                                            obtain ⟨j, m3, du, rfl, hkj, hjb, hsu, hw3, hU⟩ := hrel
                                            obtain ⟨G, hG⟩ : ∃ G : Nat → Int, ∀ t, G t = du[t]! := ⟨fun t => du[t]!, fun _ => rfl⟩
                                            have hcw : ∀ t, t < d.size → wr.cell? ⟨blk, off + t, none⟩ = some (.int .u32 (G t)) := fun t ht => by
                                              rw [hw3, hG]; exact cell?_putRow _ _ _ _ d du (holds_ahead _ _ _ _ _ _ HH.out) hsu t (by omega)
                                            have hfw : ∀ t, t < d.size → wr.frozen? ⟨blk, off + t, none⟩ = false := fun t ht => by
                                              rw [hw3, frozen?_putRow]; exact ((holds_ahead _ _ m3 _ _ _ HH.out) t ht).2
                                            have HW : Hid (wr = putRow (Value.int .u32) (Sort.ahead w m3) blk off du) := hw3
                                            have HG : Hid (∀ t, G t = du[t]!) := hG
                                            have HU : Hid (shiftUp ltInt b j du = shiftUp ltInt b (k + 1) dj) := hU
                                            clear hw3 hG hU
                                            gi_wp2
                                            all_goals first
                                              | (ati_region_m 22
                                                 gi_big_quiet_th_o (first | (gi_at_fn (ρ.f 16); refine CallsIn.quiet_of_same (AnySM.cmp_Less_intIn { Ly with } D _ _ _)))
                                                 gi_wp2
                                                 all_goals first
                                                   | (ati_region_m 23
                                                      have hl : ltInt (G j) (G (j - 1)) = true := by
                                                        have h : (!ltInt (G j) (G (j - 1))) = false := by assumption
                                                        simpa using h
                                                      gi_region_o
                                                      all_goals gi_wp2
                                                      go_roundw
                                                      case rel =>
                                                        refine ⟨j + 1, m3 + (nq + 1), swp du j (j - 1), by go_num, by omega, by omega, by rw [size_swp]; exact hsu, ?_, ?_⟩
                                                        · rw [HW.out, HG.out, HG.out]
                                                          exact swap_worldA _ w m3 (nq + 1) blk off du j (j - 1) (by omega) (by omega)
                                                        · rw [← HU.out, shiftUp_go ltInt b j du (by omega) (by rw [← HG.out, ← HG.out]; exact hl)]
                                                      case measure => simp [intOf]; omega)
                                                   | (at_end
                                                      have hl : ltInt (G j) (G (j - 1)) = false := by
                                                        have h : (!ltInt (G j) (G (j - 1))) = true := by assumption
                                                        simpa using h
                                                      go_roundw
                                                      case rel =>
                                                        refine ⟨k, s + 1, _, du, rfl, by go_num, by omega, by omega, by omega, hsu, (by first | rfl | exact HW.out | (rw [HW.out]; exact putRow_drewN _ _ _ _ _ _ _)), ?_⟩
                                                        rw [← HO.out, pi_go ltInt a b s i k dk hs HK.out (by omega) (by omega), HD.out, show fixUp ltInt b k dj = du from by unfold fixUp; rw [if_pos (by omega), ← HU.out, shiftUp_stop ltInt b j du (Or.inr (by rw [← HG.out, ← HG.out]; exact hl))]]
                                                      case measure => simp [intOf]; omega))
                                              | (at_end
                                                 go_roundw
                                                 case rel =>
                                                   refine ⟨k, s + 1, _, du, rfl, by go_num, by omega, by omega, by omega, hsu, (by first | rfl | exact HW.out | (rw [HW.out]; exact putRow_drewN _ _ _ _ _ _ _)), ?_⟩
                                                   rw [← HO.out, pi_go ltInt a b s i k dk hs HK.out (by omega) (by omega), HD.out, show fixUp ltInt b k dj = du from by unfold fixUp; rw [if_pos (by omega), ← HU.out, shiftUp_stop ltInt b j du (Or.inl (by omega))]]
                                                 case measure => simp [intOf]; omega))))
                             | (
                                have HD : Hid (fixDown ltInt a k (swp dk k (k - 1)) = dj) := by
                                  show fixDown ltInt a k (swp dk k (k - 1)) = dj
                                  unfold fixDown; rw [if_pos hka, ← HDn.out, shiftDown_stop ltInt j dj (Or.inl (by omega))]
                                first
                                  | (at_end
                                     go_roundw
                                     case rel =>
                                       refine ⟨k, s + 1, _, dj, rfl, by go_num, by omega, by omega, by omega, hsj, (by first | rfl | exact HW.out | (rw [HW.out]; exact putRow_drewN _ _ _ _ _ _ _)), ?_⟩
                                       rw [← HO.out, pi_go ltInt a b s i k dk hs HK.out (by omega) (by omega), HD.out, show fixUp ltInt b k dj = dj from by unfold fixUp; rw [if_neg (by omega)]]
                                     case measure => simp [intOf]; omega)
                                  | (ati_loop_m
                                     gi_loopw [10] (fun vj wr2 => ∃ (j m3 : Nat) (du : Array Int), vj = .int .i64 j ∧ k + 1 ≤ j ∧ j ≤ b ∧ du.size = d.size ∧ wr2 = putRow (Value.int .u32) (Sort.ahead w m3) blk off du ∧
                                         shiftUp ltInt b j du = shiftUp ltInt b (k + 1) dj) (fun vj _ => b - (intOf vj).toNat)
                                     case atStart => exact ⟨k + 1, _, dj, by go_num, Nat.le_refl _, by omega, hsj, (by first | rfl | exact HW.out | (rw [HW.out]; exact putRow_drewN _ _ _ _ _ _ _)), rfl⟩
                                     case round =>
                                       obtain ⟨j, m3, du, rfl, hkj, hjb, hsu, hw3, hU⟩ := hrel
                                       obtain ⟨G, hG⟩ : ∃ G : Nat → Int, ∀ t, G t = du[t]! := ⟨fun t => du[t]!, fun _ => rfl⟩
                                       have hcw : ∀ t, t < d.size → wr.cell? ⟨blk, off + t, none⟩ = some (.int .u32 (G t)) := fun t ht => by
                                         rw [hw3, hG]; exact cell?_putRow _ _ _ _ d du (holds_ahead _ _ _ _ _ _ HH.out) hsu t (by omega)
                                       have hfw : ∀ t, t < d.size → wr.frozen? ⟨blk, off + t, none⟩ = false := fun t ht => by
                                         rw [hw3, frozen?_putRow]; exact ((holds_ahead _ _ m3 _ _ _ HH.out) t ht).2
                                       have HW : Hid (wr = putRow (Value.int .u32) (Sort.ahead w m3) blk off du) := hw3
                                       have HG : Hid (∀ t, G t = du[t]!) := hG
                                       have HU : Hid (shiftUp ltInt b j du = shiftUp ltInt b (k + 1) dj) := hU
                                       clear hw3 hG hU
                                       gi_wp2
                                       all_goals first
                                         | (ati_region_m 22
                                            gi_big_quiet_th_o (first | (gi_at_fn (ρ.f 16); refine CallsIn.quiet_of_same (AnySM.cmp_Less_intIn { Ly with } D _ _ _)))
                                            gi_wp2
                                            all_goals first
                                              | (ati_region_m 23
                                                 have hl : ltInt (G j) (G (j - 1)) = true := by
                                                   have h : (!ltInt (G j) (G (j - 1))) = false := by assumption
                                                   simpa using h
                                                 gi_region_o
                                                 all_goals gi_wp2
                                                 go_roundw
                                                 case rel =>
                                                   refine ⟨j + 1, m3 + (nq + 1), swp du j (j - 1), by go_num, by omega, by omega, by rw [size_swp]; exact hsu, ?_, ?_⟩
                                                   · rw [HW.out, HG.out, HG.out]
                                                     exact swap_worldA _ w m3 (nq + 1) blk off du j (j - 1) (by omega) (by omega)
                                                   · rw [← HU.out, shiftUp_go ltInt b j du (by omega) (by rw [← HG.out, ← HG.out]; exact hl)]
                                                 case measure => simp [intOf]; omega)
                                              | (at_end
                                                 have hl : ltInt (G j) (G (j - 1)) = false := by
                                                   have h : (!ltInt (G j) (G (j - 1))) = true := by assumption
                                                   simpa using h
                                                 go_roundw
                                                 case rel =>
                                                   refine ⟨k, s + 1, _, du, rfl, by go_num, by omega, by omega, by omega, hsu, (by first | rfl | exact HW.out | (rw [HW.out]; exact putRow_drewN _ _ _ _ _ _ _)), ?_⟩
                                                   rw [← HO.out, pi_go ltInt a b s i k dk hs HK.out (by omega) (by omega), HD.out, show fixUp ltInt b k dj = du from by unfold fixUp; rw [if_pos (by omega), ← HU.out, shiftUp_stop ltInt b j du (Or.inr (by rw [← HG.out, ← HG.out]; exact hl))]]
                                                 case measure => simp [intOf]; omega))
                                         | (at_end
                                            go_roundw
                                            case rel =>
                                              refine ⟨k, s + 1, _, du, rfl, by go_num, by omega, by omega, by omega, hsu, (by first | rfl | exact HW.out | (rw [HW.out]; exact putRow_drewN _ _ _ _ _ _ _)), ?_⟩
                                              rw [← HO.out, pi_go ltInt a b s i k dk hs HK.out (by omega) (by omega), HD.out, show fixUp ltInt b k dj = du from by unfold fixUp; rw [if_pos (by omega), ← HU.out, shiftUp_stop ltInt b j du (Or.inl (by omega))]]
                                            case measure => simp [intOf]; omega))))
                      | (
                         have HD : Hid (fixDown ltInt a k (swp dk k (k - 1)) = (swp dk k (k - 1))) := by
                           show fixDown ltInt a k (swp dk k (k - 1)) = (swp dk k (k - 1))
                           unfold fixDown; rw [if_neg (by omega)]
                         first
                           | (at_end
                              go_roundw
                              case rel =>
                                refine ⟨k, s + 1, _, (swp dk k (k - 1)), rfl, by go_num, by omega, by omega, by omega, hs1, (by first | rfl | exact HW.out | (rw [HW.out]; exact putRow_drewN _ _ _ _ _ _ _)), ?_⟩
                                rw [← HO.out, pi_go ltInt a b s i k dk hs HK.out (by omega) (by omega), HD.out, show fixUp ltInt b k (swp dk k (k - 1)) = (swp dk k (k - 1)) from by unfold fixUp; rw [if_neg (by omega)]]
                              case measure => simp [intOf]; omega)
                           | (ati_loop_m
                              gi_loopw [10] (fun vj wr2 => ∃ (j m3 : Nat) (du : Array Int), vj = .int .i64 j ∧ k + 1 ≤ j ∧ j ≤ b ∧ du.size = d.size ∧ wr2 = putRow (Value.int .u32) (Sort.ahead w m3) blk off du ∧
                                  shiftUp ltInt b j du = shiftUp ltInt b (k + 1) (swp dk k (k - 1))) (fun vj _ => b - (intOf vj).toNat)
                              case atStart => exact ⟨k + 1, _, (swp dk k (k - 1)), by go_num, Nat.le_refl _, by omega, hs1, (by first | rfl | exact HW.out | (rw [HW.out]; exact putRow_drewN _ _ _ _ _ _ _)), rfl⟩
                              case round =>
                                obtain ⟨j, m3, du, rfl, hkj, hjb, hsu, hw3, hU⟩ := hrel
                                obtain ⟨G, hG⟩ : ∃ G : Nat → Int, ∀ t, G t = du[t]! := ⟨fun t => du[t]!, fun _ => rfl⟩
                                have hcw : ∀ t, t < d.size → wr.cell? ⟨blk, off + t, none⟩ = some (.int .u32 (G t)) := fun t ht => by
                                  rw [hw3, hG]; exact cell?_putRow _ _ _ _ d du (holds_ahead _ _ _ _ _ _ HH.out) hsu t (by omega)
                                have hfw : ∀ t, t < d.size → wr.frozen? ⟨blk, off + t, none⟩ = false := fun t ht => by
                                  rw [hw3, frozen?_putRow]; exact ((holds_ahead _ _ m3 _ _ _ HH.out) t ht).2
                                have HW : Hid (wr = putRow (Value.int .u32) (Sort.ahead w m3) blk off du) := hw3
                                have HG : Hid (∀ t, G t = du[t]!) := hG
                                have HU : Hid (shiftUp ltInt b j du = shiftUp ltInt b (k + 1) (swp dk k (k - 1))) := hU
                                clear hw3 hG hU
                                gi_wp2
                                all_goals first
                                  | (ati_region_m 22
                                     gi_big_quiet_th_o (first | (gi_at_fn (ρ.f 16); refine CallsIn.quiet_of_same (AnySM.cmp_Less_intIn { Ly with } D _ _ _)))
                                     gi_wp2
                                     all_goals first
                                       | (ati_region_m 23
                                          have hl : ltInt (G j) (G (j - 1)) = true := by
                                            have h : (!ltInt (G j) (G (j - 1))) = false := by assumption
                                            simpa using h
                                          gi_region_o
                                          all_goals gi_wp2
                                          go_roundw
                                          case rel =>
                                            refine ⟨j + 1, m3 + (nq + 1), swp du j (j - 1), by go_num, by omega, by omega, by rw [size_swp]; exact hsu, ?_, ?_⟩
                                            · rw [HW.out, HG.out, HG.out]
                                              exact swap_worldA _ w m3 (nq + 1) blk off du j (j - 1) (by omega) (by omega)
                                            · rw [← HU.out, shiftUp_go ltInt b j du (by omega) (by rw [← HG.out, ← HG.out]; exact hl)]
                                          case measure => simp [intOf]; omega)
                                       | (at_end
                                          have hl : ltInt (G j) (G (j - 1)) = false := by
                                            have h : (!ltInt (G j) (G (j - 1))) = true := by assumption
                                            simpa using h
                                          go_roundw
                                          case rel =>
                                            refine ⟨k, s + 1, _, du, rfl, by go_num, by omega, by omega, by omega, hsu, (by first | rfl | exact HW.out | (rw [HW.out]; exact putRow_drewN _ _ _ _ _ _ _)), ?_⟩
                                            rw [← HO.out, pi_go ltInt a b s i k dk hs HK.out (by omega) (by omega), HD.out, show fixUp ltInt b k (swp dk k (k - 1)) = du from by unfold fixUp; rw [if_pos (by omega), ← HU.out, shiftUp_stop ltInt b j du (Or.inr (by rw [← HG.out, ← HG.out]; exact hl))]]
                                          case measure => simp [intOf]; omega))
                                  | (at_end
                                     go_roundw
                                     case rel =>
                                       refine ⟨k, s + 1, _, du, rfl, by go_num, by omega, by omega, by omega, hsu, (by first | rfl | exact HW.out | (rw [HW.out]; exact putRow_drewN _ _ _ _ _ _ _)), ?_⟩
                                       rw [← HO.out, pi_go ltInt a b s i k dk hs HK.out (by omega) (by omega), HD.out, show fixUp ltInt b k (swp dk k (k - 1)) = du from by unfold fixUp; rw [if_pos (by omega), ← HU.out, shiftUp_stop ltInt b j du (Or.inl (by omega))]]
                                     case measure => simp [intOf]; omega)))))
        ·
          gi_big_quiet_th_o (first | (gi_at_fn (ρ.f 16); refine CallsIn.quiet_of_same (AnySM.cmp_Less_intIn { Ly with } D _ _ _)))
          gi_wp2
          obtain rfl : k = b := by omega
          have hv : Sort.partialInsertionSort ltInt d a k = (dk, true) := by
            unfold Sort.partialInsertionSort
            rw [← HO.out, pi_true ltInt a k s i dk hs (by rw [← HS.out, scanSorted_stop ltInt dk k k (Or.inl (by omega))])]
          rw [hv]
          go_ret
          exact ⟨rfl, m + nq, by rw [HW.out]; exact putRow_drewN _ _ _ _ _ _ _⟩
    ·
      obtain rfl : s = 5 := by omega
      have hv : Sort.partialInsertionSort ltInt d a b = (dk, false) := by
        unfold Sort.partialInsertionSort
        rw [← HO.out, pi_end]
      rw [hv]
      go_ret
      exact ⟨rfl, n, rfl⟩
end
end
end Go.Proofs.YtljfgdlgmdcmfaaGreat
