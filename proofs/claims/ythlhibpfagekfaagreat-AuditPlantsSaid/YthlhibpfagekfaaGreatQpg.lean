/- Parts of a proof. -/
import Derived.Test.YthlhibpfagekfaaGreatChecked
import Derived.Test.YthlhibpfagekfaaGreatQpf
import Derived.WalkKit
import Derived.WalkSpells
import Derived.WalkLawsBesides
import Derived.Handy
import Derived.Lib.Hide
import Derived.Shelf.SlLaysM
import Derived.Shelf.SortM.WalkA6In
import Derived.Sort.Walk0
import Derived.OwnWalkIn
import Derived.TacticsInMore
import Derived.RegionIn
import Derived.LoopNIn
import Derived.LoopIn
import Derived.Sort.CutIn
import Derived.Sort.QuietIn
import Derived.Sort.AtCallIn
import Derived.Shelf.RegionOpen
import Derived.Shelf.AbstractIn
import Derived.Sort.WalkA
import Derived.Sort.BigQuietIn
import Derived.Sort.WalkA6
set_option maxHeartbeats 32000000
set_option maxRecDepth 1000000
namespace Go.Proofs.YthlhibpfagekfaaGreat
section
open Go.RowKit
theorem ret_int {k:IntKind} {a b:Int} (h:a=b):Ending.returned (.int k a)= .returned (.int k b):=by rw [h]
theorem ret_bool {a b:Bool} (h:a=b):Ending.returned (.bool a)= .returned (.bool b):=by rw [h]
theorem mulmod_fits (a b n:Int) (ha0:0≤a) (ha:a<4294967296) (hb0:0≤b) (hb:b<4294967296) (hn:1≤n) (hn2:n<4294967296):
  0≤a*b∧a*b≤18446744065119617025∧0≤a*b % n∧a*b % n<n:=by
 refine ⟨Int.mul_nonneg ha0 hb0,?_,Int.emod_nonneg _ (by omega),Int.emod_lt_of_pos _ (by omega)⟩;have h:a*b≤4294967295*4294967295:=Int.mul_le_mul (by omega) (by omega) hb0 (by omega);omega
theorem rtimes_any (a b n:Int) (w:World) (ha0:0≤a) (ha:a<4294967296) (hb0:0≤b) (hb:b<4294967296) (hn:1≤n) (hn2:n<4294967296):
  Calls Tryz.prog 120 #[.int .u32 a, .int .u32 b, .int .u32 n] w fun e w'=>e= .returned (.int .u32 (a*b % n))∧w=w':=by
 obtain ⟨h1,h2,h3,h4⟩:=mulmod_fits a b n ha0 ha hb0 hb hn hn2;go_enter Tryz.func120,Tryz.ntmps120
 go_wp2
 go_ret
 exact ⟨rfl,rfl⟩
theorem pow_step_odd (n out a e:Nat) (he:e % 2=1):out*a ^ e % n=(out*a % n)*(a*a % n) ^ (e / 2) % n:=by
 have h:e=2*(e / 2)+1:=by omega
 have h2:a ^ e=a*(a*a) ^ (e / 2):=by
  conv=>lhs;rw [h]
  rw [Nat.pow_succ,Nat.pow_mul,Nat.pow_two,Nat.mul_comm]
 rw [h2, ←Nat.mul_assoc,Nat.mul_mod,Nat.pow_mod (a*a) (e / 2) n, ←Nat.mul_mod_mod,Nat.mod_mod];simp [Nat.mul_mod,Nat.pow_mod]
theorem pow_step_even (n out a e:Nat) (he:e % 2=0):out*a ^ e % n=out*(a*a % n) ^ (e / 2) % n:=by
 have h:e=2*(e / 2):=by omega
 have h2:a ^ e=(a*a) ^ (e / 2):=by
  conv=>lhs;rw [h]
  rw [Nat.pow_mul,Nat.pow_two]
 rw [h2,Nat.mul_mod,Nat.pow_mod (a*a) (e / 2) n];simp [Nat.mul_mod,Nat.pow_mod]
theorem mulmod_nat (a b n:Nat):(a:Int)*(b:Int) % (n:Int)=((a*b % n:Nat):Int):=by
 rw [Int.natCast_emod,Int.natCast_mul]
theorem rpower_any (a e n:Nat) (w:World) (ha:a<4294967296) (he:e<18446744073709551616) (hn:2≤n) (hn2:n<4294967296):
  Calls Tryz.prog 119 #[.int .u32 a, .int .u64 e, .int .u32 n] w fun r w'=>r= .returned (.int .u32 (pmod a e n))∧w=w':=by
 go_enter Tryz.func119,Tryz.ntmps119
 go_wp2
 go_loop [0,1,7] (fun va ve vo=> ∃ a' e' o':Nat,va= .int .u32 a'∧ve= .int .u64 e'∧vo= .int .u32 o'∧a'<4294967296∧e'≤e∧o'<n∧Hid (o'*a' ^ e' % n=pmod a e n)) (fun _ ve _=>(intOf ve).toNat)
 case atStart=>exact ⟨a,e,1,rfl,rfl,rfl,ha,Nat.le_refl _,by omega,by show _=_;rw [Nat.one_mul];rfl⟩
 case round=>
  obtain ⟨a',e',o',rfl,rfl,rfl,ha',he',ho',hI⟩:=hrel;have hmo:o'*a' % n<n:=Nat.mod_lt _ (by omega);have hma:a'*a' % n<n:=Nat.mod_lt _ (by omega);by_cases h0:0<e'
  ·by_cases h1:e' % 2=1
   ·have hst:=Lib.hid (pow_step_odd n o' a' e' h1);go_wp2_with (go_at_call 120;refine (rtimes_any _ _ _ _ (by omega) (by omega) (by omega) (by omega) (by omega) (by omega)).mono ?_;rintro e w' ⟨rfl,rfl⟩)
    simp only [mulmod_nat];go_round
    case rel=>exact ⟨a'*a' % n,e' / 2,o'*a' % n,rfl,rfl,rfl,by omega,by omega,by omega,(hst.out.symm.trans hI)⟩
    case measure=>simp [intOf];omega
   ·have hst:=Lib.hid (pow_step_even n o' a' e' (by omega));go_wp2_with (go_at_call 120;refine (rtimes_any _ _ _ _ (by omega) (by omega) (by omega) (by omega) (by omega) (by omega)).mono ?_;rintro e w' ⟨rfl,rfl⟩)
    simp only [mulmod_nat];go_round
    case rel=>exact ⟨a'*a' % n,e' / 2,o',rfl,rfl,rfl,by omega,by omega,by omega,(hst.out.symm.trans hI)⟩
    case measure=>simp [intOf];omega
  ·go_wp2
   go_ret
   obtain rfl:e'=0:=by omega
   have h:=hI.out;rw [Nat.pow_zero,Nat.mul_one,Nat.mod_eq_of_lt ho'] at h;exact ⟨ret_int (by rw [h]),rfl⟩
theorem mproduct1_any (a b n:Int) (p:Addr) (w:World) (hp:w.cell? p=some (.int .u64 n)) (ha0:0≤a) (ha:a<4294967296) (hb0:0≤b) (hb:b<4294967296) (hn:1≤n) (hn2:n<4294967296):
  Calls Tryz.prog 180 #[.int .u32 a, .int .u32 b, .pointer (some p)] w fun e w'=>e= .returned (.int .u32 (a*b % n))∧w=w':=by
 obtain ⟨h1,h2,h3,h4⟩:=mulmod_fits a b n ha0 ha hb0 hb hn hn2;go_enter Tryz.func180,Tryz.ntmps180
 go_wp2
 go_ret
 exact ⟨rfl,rfl⟩
theorem mproduct_any (n:Int) (w:World) (hn:0≤n) (hn2:n<4294967296):
  Calls Tryz.prog 169 #[.int .u32 n] w fun r w'=>r= .returned (.func (.func 180) #[] #[.pointer (some ⟨w.heap.size,0,none⟩)])∧w.alloc (.cells #[.int .u64 n] 67)=w':=by
 go_enter Tryz.func169,Tryz.ntmps169
 go_wp2
 go_ret
 exact ⟨rfl,rfl⟩
theorem mpower_any (a e n:Nat) (w:World) (ha:a<4294967296) (he:e<18446744073709551616) (hn:2≤n) (hn2:n<4294967296):
  Calls Tryz.prog 146 #[.int .u32 a, .int .u64 e, .int .u32 n] w fun r w'=>r= .returned (.int .u32 (pmod a e n))∧Below w.heap.size w w':=by
 go_enter Tryz.func146,Tryz.ntmps146
 go_wp2_with (go_at_call 169;refine (mproduct_any _ _ (by omega) (by omega)).mono ?_;rintro e w' ⟨rfl,rfl⟩)
 go_loop [0,1,8] (fun va ve vo=> ∃ a' e' o':Nat,va= .int .u32 a'∧ve= .int .u64 e'∧vo= .int .u32 o'∧a'<4294967296∧e'≤e∧o'<n∧Hid (o'*a' ^ e' % n=pmod a e n)) (fun _ ve _=>(intOf ve).toNat)
 case atStart=>exact ⟨a,e,1,rfl,rfl,rfl,ha,Nat.le_refl _,by omega,by show _=_;rw [Nat.one_mul];rfl⟩
 case round=>
  obtain ⟨a',e',o',rfl,rfl,rfl,ha',he',ho',hI⟩:=hrel;have hmo:o'*a' % n<n:=Nat.mod_lt _ (by omega);have hma:a'*a' % n<n:=Nat.mod_lt _ (by omega);have hp:(w.alloc (.cells #[.int .u64 n] 67)).cell? ⟨w.heap.size,0,none⟩=some (.int .u64 n):=by simp [go_sem]
  by_cases h0:0<e'
  ·by_cases h1:e' % 2=1
   ·have hst:=Lib.hid (pow_step_odd n o' a' e' h1);have hb:(bits BinOp.and IntKind.u64 (e':Int) 1==1)=true:=by rw [and_one_u64 _ (by omega) (by omega)];simp;omega
    go_wp2_with (go_at_call 180;refine (mproduct1_any _ _ _ _ _ hp (by omega) (by omega) (by omega) (by omega) (by omega) (by omega)).mono ?_;rintro e w' ⟨rfl,rfl⟩)
    simp only [mulmod_nat];go_round
    case rel=>exact ⟨a'*a' % n,e' / 2,o'*a' % n,rfl,rfl,rfl,by omega,by omega,by omega,(hst.out.symm.trans hI)⟩
    case measure=>simp [intOf];omega
   ·have hst:=Lib.hid (pow_step_even n o' a' e' (by omega));have hb:(bits BinOp.and IntKind.u64 (e':Int) 1==1)=false:=by rw [and_one_u64 _ (by omega) (by omega)];simp;omega
    go_wp2_with (go_at_call 180;refine (mproduct1_any _ _ _ _ _ hp (by omega) (by omega) (by omega) (by omega) (by omega) (by omega)).mono ?_;rintro e w' ⟨rfl,rfl⟩)
    simp only [mulmod_nat];go_round
    case rel=>exact ⟨a'*a' % n,e' / 2,o',rfl,rfl,rfl,by omega,by omega,by omega,(hst.out.symm.trans hI)⟩
    case measure=>simp [intOf];omega
  ·go_wp2
   go_ret
   obtain rfl:e'=0:=by omega
   have h:=hI.out;rw [Nat.pow_zero,Nat.mul_one,Nat.mod_eq_of_lt ho'] at h;exact ⟨ret_int (by rw [h]),(Below.refl _ _).alloc (Nat.le_refl _) _⟩
end
section
open Go.RowKit
theorem and_one_u32 (d:Nat) (h:d<4294967296):bits BinOp.and IntKind.u32 (d:Int) 1=((d % 2:Nat):Int):=by
 have h1:=u32_and (d:Int) 1 (by omega) (by omega) (by omega) (by omega);rw [h1];show ((d &&& 1:Nat):Int)=_;rw [Nat.and_one_is_mod]
variable {d:Nat}
theorem half_split {t m:Nat} (hev:d % 2=0) (h:d*2 ^ t=m):d / 2*2 ^ (t+1)=m:=by
 rw [Nat.pow_succ,Nat.mul_comm (2 ^ t) 2, ←Nat.mul_assoc,show d / 2*2=d by omega];exact h
theorem mpasses_any (a n:Nat) (w:World) (ha:a<4294967296) (hn:3≤n) (hn2:n<4294967296) (hodd:n % 2=1):
  Calls Tryz.prog 114 #[.int .u32 a, .int .u32 n] w fun r w'=>r= .returned (.bool (SP a n))∧Below w.heap.size w w':=by
 have hmd:a % n<n:=Nat.mod_lt _ (by omega);go_enter Tryz.func114,Tryz.ntmps114
 go_wp2_with fail
 go_loop [5,6] (fun vd vt=> ∃ d t:Nat,vd= .int .u32 d∧vt= .int .i64 t∧0<d∧d<4294967296∧t<32∧Hid (d*2 ^ t=n - 1)) (fun vd _=>(intOf vd).toNat)
 case atStart=>exact ⟨n - 1,0,by congr 1;omega,rfl,by omega,by omega,by omega,by show _=_;omega⟩
 case round=>
  obtain ⟨d,t,rfl,rfl,hd0,hd,ht,hI⟩:=hrel;by_cases hev:d % 2=0
  ·have hb:(bits BinOp.and IntKind.u32 (d:Int) 1==0)=true:=by rw [and_one_u32 d hd];simp;omega
   have hI2:=half_split hev hI.out;have ht2:t+1<32:=two_pow_lt (m:=n - 1) (by omega) (by omega) hI2;have HI2:=Lib.hid hI2;clear hI2 hI;go_wp2_with fail
   go_round
   case rel=>exact ⟨d / 2,t+1,by go_num,by go_num,by omega,by omega,ht2,HI2⟩
   case measure=>simp [intOf];omega
  ·have hb:(bits BinOp.and IntKind.u32 (d:Int) 1==0)=false:=by rw [and_one_u32 d hd];simp;omega
   have ht1:1≤t:=by
    cases t with
    | zero=>have h:=hI.out;simp at h;omega
    | succ t=>omega
   go_wp2_with fail
   rw [show (a:Int) % (n:Int)=((a % n:Nat):Int) by rw [Int.natCast_emod]];refine (mpower_any _ _ _ _ (by omega) (by omega) (by omega) (by omega)).mono ?_;rintro e w1 ⟨rfl,hb1⟩;have hS:=Lib.hid (SP_of (a:=a) (n:=n) (x:=pmod (a % n) d n) ht (by omega) hI.out rfl);have hlt:pmod (a % n) d n<n:=Nat.mod_lt _ (by omega);generalize pmod (a % n) d n=x0 at hlt hS ⊢;by_cases h1:x0=1
   ·have e1:((x0:Int)==1)=true:=by simp;omega
    have H1:=Lib.hid h1;clear h1;go_wp2_with fail
    go_ret
    exact ⟨ret_bool (by rw [hS.out,H1.out];rfl),hb1⟩
   ·have e1:((x0:Int)==1)=false:=by simp;omega
    obtain ⟨s,rfl⟩: ∃ s,t=s+1:=⟨t - 1,by omega⟩
    by_cases h2:x0=n - 1
    ·have e2:((x0:Int)==(n:Int) - 1)=true:=by simp;omega
     have H2:=Lib.hid h2;clear h2;go_wp2_with fail
     go_ret
     exact ⟨ret_bool (by rw [hS.out,anyEq_hit H2.out,Bool.or_true]),hb1⟩
    ·have e2:((x0:Int)==(n:Int) - 1)=false:=by simp;omega
     go_wp2_with fail
     have hS2:Hid (SP a n=anyEq n (x0*x0 % n) s):=by
      show _=_;rw [hS.out,anyEq_miss h2,show (x0==1)=false by simp [h1],Bool.false_or]
     clear hS;go_loop [7,34] (fun vx vk=> ∃ x k:Nat,vx= .int .u32 x∧vk= .int .i64 k∧x<n∧k≤s∧Hid (SP a n=anyEq n (x*x % n) (s - k))) (fun _ vk=>s - (intOf vk).toNat)
     case atStart=>exact ⟨x0,0,rfl,rfl,hlt,by omega,hS2⟩
     case round=>
      obtain ⟨x,k,rfl,rfl,hx,hk,hS3⟩:=hrel;obtain ⟨m1,m2,m3,m4⟩:=mulmod_fits x x n (by omega) (by omega) (by omega) (by omega) (by omega) (by omega);by_cases hks:k<s
      ·obtain ⟨r,hr⟩: ∃ r,s - k=r+1:=⟨s - k - 1,by omega⟩
       by_cases h3:x*x % n=n - 1
       ·have e3:((x:Int)*(x:Int) % (n:Int)==(n:Int) - 1)=true:=by rw [mulmod_nat];generalize x*x % n=y at h3;exact beq_iff_eq.2 (by omega)
        have H3:=Lib.hid h3;clear h3;have HR:=Lib.hid hr;clear hr;go_wp2_with fail
        go_ret
        exact ⟨ret_bool (by rw [hS3.out,HR.out,anyEq_hit H3.out]),hb1⟩
       ·have e3:((x:Int)*(x:Int) % (n:Int)==(n:Int) - 1)=false:=by rw [mulmod_nat];generalize x*x % n=y at h3;exact beq_eq_false_iff_ne.2 (by omega)
        have HR:=Lib.hid hr;clear hr;go_wp2_with fail
        simp only [mulmod_nat];go_round
        case rel=>exact ⟨x*x % n,k+1,rfl,by go_num,Nat.mod_lt _ (by omega),by omega,by show _=_;rw [hS3.out,HR.out,anyEq_miss h3];congr 1;have:=HR.out;omega⟩
        case measure=>simp [intOf];omega
      ·go_wp2_with fail
       go_ret
       exact ⟨ret_bool (by rw [hS3.out,show s - k=0 by omega];rfl),hb1⟩
theorem wrap_dec_nat {n t:Nat} (ht:1≤t) (h:d*2 ^ t=n - 1):2*d≤n - 1:=by
 obtain ⟨s,rfl⟩: ∃ s,t=s+1:=⟨t - 1,by omega⟩
 rw [Nat.pow_succ, ←Nat.mul_assoc] at h;have:=Nat.mul_le_mul_left d (Nat.one_le_two_pow (n:=s));omega
theorem dbl_split {s m:Nat} (h:d*2 ^ (s+1)=m):d*2*2 ^ s=m:=by
 rw [Nat.pow_succ,Nat.mul_comm (2 ^ s) 2, ←Nat.mul_assoc] at h;exact h
theorem rstrong_any (a n:Nat) (w:World) (ha:a<4294967296) (hn:3≤n) (hn2:n<4294967296) (hodd:n % 2=1):
  Calls Tryz.prog 90 #[.int .u32 a, .int .u32 n] w fun r w'=>r= .returned (.bool (SP a n))∧w=w':=by
 have hmd:a % n<n:=Nat.mod_lt _ (by omega);go_enter Tryz.func90,Tryz.ntmps90
 go_wp2_with fail
 go_loop [5] (fun vd=> ∃ d t:Nat,vd= .int .u32 d∧0<d∧d<4294967296∧t<32∧Hid (d*2 ^ t=n - 1)) (fun vd=>(intOf vd).toNat)
 case atStart=>exact ⟨n - 1,0,by congr 1;omega,by omega,by omega,by omega,by show _=_;omega⟩
 case round=>
  obtain ⟨d,t,rfl,hd0,hd,ht,hI⟩:=hrel;by_cases hev:d % 2=0
  ·have hI2:=half_split hev hI.out;have ht2:t+1<32:=two_pow_lt (m:=n - 1) (by omega) (by omega) hI2;have HI2:=Lib.hid hI2;clear hI2 hI;have hb:((d:Int) % 2==0)=true:=beq_iff_eq.2 (by omega);go_wp2_with fail
   go_round
   case rel=>exact ⟨d / 2,t+1,by go_num,by omega,by omega,ht2,HI2⟩
   case measure=>simp [intOf];omega
  ·have ht1:1≤t:=by
    cases t with
    | zero=>have h:=hI.out;simp at h;omega
    | succ t=>omega
   have hb:((d:Int) % 2==0)=false:=beq_eq_false_iff_ne.2 (by omega);go_wp2_with fail
   rw [show (a:Int) % (n:Int)=((a % n:Nat):Int) by rw [Int.natCast_emod]];refine (rpower_any _ _ _ _ (by omega) (by omega) (by omega) (by omega)).mono ?_;rintro e w1 ⟨rfl,rfl⟩;have hS:=Lib.hid (SP_of (a:=a) (n:=n) (x:=pmod (a % n) d n) ht (by omega) hI.out rfl);have hlt:pmod (a % n) d n<n:=Nat.mod_lt _ (by omega);generalize pmod (a % n) d n=x0 at hlt hS ⊢;by_cases h1:x0=1
   ·have e1:((x0:Int)==1)=true:=beq_iff_eq.2 (by omega);have H1:=Lib.hid h1;clear h1;go_wp2_with fail
    go_ret
    exact ⟨ret_bool (by rw [hS.out,H1.out];rfl),rfl⟩
   ·have e1:((x0:Int)==1)=false:=beq_eq_false_iff_ne.2 (by omega);go_wp2_with fail
    have hS2:Hid (SP a n=anyEq n x0 t):=by
     show _=_;rw [hS.out,show (x0==1)=false by simp [h1],Bool.false_or]
    clear hS;go_loop [5,6] (fun vd vx=> ∃ d' x k:Nat,vd= .int .u32 d'∧vx= .int .u32 x∧0<d'∧d'≤n - 1∧x<n∧Hid (d'*2 ^ k=n - 1)∧Hid (SP a n=anyEq n x k)) (fun vd _=>n - (intOf vd).toNat)
    case atStart=>exact ⟨d,x0,t,rfl,rfl,by omega,by have:=wrap_dec_nat ht1 hI.out;omega,hlt,hI,hS2⟩
    case round=>
     obtain ⟨d',x,k,rfl,rfl,hd1,hd2,hx,hI3,hS3⟩:=hrel;by_cases hlt2:d'<n - 1
     ·obtain ⟨s,rfl⟩: ∃ s,k=s+1:=by
       cases k with
       | zero=>have h:=hI3.out;simp at h;omega
       | succ k=>exact ⟨k,rfl⟩
      have hdb:=wrap_dec_nat (by omega) hI3.out;by_cases h3:x=n - 1
      ·have e3:((x:Int)==(n:Int) - 1)=true:=beq_iff_eq.2 (by omega);have H3:=Lib.hid h3;clear h3;go_wp2_with fail
       go_ret
       exact ⟨ret_bool (by rw [hS3.out,anyEq_hit H3.out]),rfl⟩
      ·have e3:((x:Int)==(n:Int) - 1)=false:=beq_eq_false_iff_ne.2 (by omega);go_wp2_with (go_at_call 120;refine (rtimes_any _ _ _ _ (by omega) (by omega) (by omega) (by omega) (by omega) (by omega)).mono ?_;rintro e w' ⟨rfl,rfl⟩)
       simp only [mulmod_nat];go_round
       case rel=>exact ⟨d'*2,x*x % n,s,by go_num,rfl,by omega,by omega,Nat.mod_lt _ (by omega),dbl_split hI3.out,by show _=_;rw [hS3.out,anyEq_miss h3]⟩
       case measure=>simp [intOf];omega
     ·have hk0:k=0:=by
       cases k with
       | zero=>rfl
       | succ k=>have:=wrap_dec_nat (by omega) hI3.out;omega
      have HK:=Lib.hid hk0;clear hk0;go_wp2_with fail
      go_ret
      exact ⟨ret_bool (by rw [hS3.out,HK.out];rfl),rfl⟩
end
section
open Go.RowKit
theorem seven0 (w:World):(Instr.index 157 (.agg #[.int .u32 2, .int .u32 3, .int .u32 5, .int .u32 7, .int .u32 11, .int .u32 13, .int .u32 61]) (.int .i64 0)).run Tryz.prog w= .ok (.int .u32 2) w:=by kernel_rfl
theorem seven1 (w:World):(Instr.index 157 (.agg #[.int .u32 2, .int .u32 3, .int .u32 5, .int .u32 7, .int .u32 11, .int .u32 13, .int .u32 61]) (.int .i64 1)).run Tryz.prog w= .ok (.int .u32 3) w:=by kernel_rfl
theorem seven2 (w:World):(Instr.index 157 (.agg #[.int .u32 2, .int .u32 3, .int .u32 5, .int .u32 7, .int .u32 11, .int .u32 13, .int .u32 61]) (.int .i64 2)).run Tryz.prog w= .ok (.int .u32 5) w:=by kernel_rfl
theorem seven3 (w:World):(Instr.index 157 (.agg #[.int .u32 2, .int .u32 3, .int .u32 5, .int .u32 7, .int .u32 11, .int .u32 13, .int .u32 61]) (.int .i64 3)).run Tryz.prog w= .ok (.int .u32 7) w:=by kernel_rfl
theorem seven4 (w:World):(Instr.index 157 (.agg #[.int .u32 2, .int .u32 3, .int .u32 5, .int .u32 7, .int .u32 11, .int .u32 13, .int .u32 61]) (.int .i64 4)).run Tryz.prog w= .ok (.int .u32 11) w:=by kernel_rfl
theorem seven5 (w:World):(Instr.index 157 (.agg #[.int .u32 2, .int .u32 3, .int .u32 5, .int .u32 7, .int .u32 11, .int .u32 13, .int .u32 61]) (.int .i64 5)).run Tryz.prog w= .ok (.int .u32 13) w:=by kernel_rfl
theorem seven6 (w:World):(Instr.index 157 (.agg #[.int .u32 2, .int .u32 3, .int .u32 5, .int .u32 7, .int .u32 11, .int .u32 13, .int .u32 61]) (.int .i64 6)).run Tryz.prog w= .ok (.int .u32 61) w:=by kernel_rfl
theorem three0 (w:World):(Instr.index 158 (.agg #[.int .u32 2, .int .u32 7, .int .u32 61]) (.int .i64 0)).run Tryz.prog w= .ok (.int .u32 2) w:=by kernel_rfl
theorem three1 (w:World):(Instr.index 158 (.agg #[.int .u32 2, .int .u32 7, .int .u32 61]) (.int .i64 1)).run Tryz.prog w= .ok (.int .u32 7) w:=by kernel_rfl
theorem three2 (w:World):(Instr.index 158 (.agg #[.int .u32 2, .int .u32 7, .int .u32 61]) (.int .i64 2)).run Tryz.prog w= .ok (.int .u32 61) w:=by kernel_rfl
theorem mpasses_int (a:Int) (n:Nat) (w:World) (ha0:0≤a) (ha:a<4294967296) (hn:3≤n) (hn2:n<4294967296) (hodd:n % 2=1):
  Calls Tryz.prog 114 #[.int .u32 a, .int .u32 n] w fun r w'=>r= .returned (.bool (SP a.toNat n))∧Below w.heap.size w w':=by
 obtain ⟨b,rfl⟩:=Int.eq_ofNat_of_zero_le ha0;exact mpasses_any b n w (by omega) hn hn2 hodd
def NoSmall (n k:Nat):Prop:= ∀ p,p∈smalls.take k→n % p≠0
variable {n:Nat}
theorem noSmall_step {k p:Nat} (h:NoSmall n k) (hp:smalls[k]? =some p) (hd:n % p≠0):NoSmall n (k+1):=by
 intro q hq;rw [List.take_add_one] at hq;rcases List.mem_append.1 hq with h1 | h1
 ·exact h q h1
 ·rw [hp] at h1;simp at h1;subst h1;exact hd
theorem mPrime_small {k p:Nat} (h2: ¬ n<2) (h:NoSmall n k) (hp:smalls[k]? =some p) (hd:n % p=0):mPrime n=(n==p):=by
 have hf:smalls.find? (fun p=>n % p==0)=some p:=by
  have hk:k<smalls.length:=(List.getElem?_eq_some_iff.1 hp).1;have e:smalls=smalls.take k++p::smalls.drop (k+1):=by
   have hpk:smalls[k]=p:=(List.getElem?_eq_some_iff.1 hp).2;rw [←hpk,List.getElem_cons_drop,List.take_append_drop]
  rw [e,List.find?_append,List.find?_eq_none.2 (by intro q hq;simpa using h q hq)];simp [hd]
 unfold mPrime;rw [if_neg h2,hf]
theorem mPrime_none (h2: ¬ n<2) (h:NoSmall n 7):mPrime n=(SP 2 n && (SP 7 n && SP 61 n)):=by
 have hf:smalls.find? (fun p=>n % p==0)=none:=List.find?_eq_none.2 (by intro q hq;simpa using h q (by simpa [smalls] using hq));unfold mPrime;rw [if_neg h2,hf]
theorem mPrime_any (n:Nat) (w:World) (hn2:n<4294967296):
  Calls Tryz.prog 73 #[.int .u32 n] w fun r w'=>r= .returned (.bool (mPrime n))∧Below w.heap.size w w':=by
 by_cases h2:n<2
 ·go_enter Tryz.func73,Tryz.ntmps73
  go_wp2_with fail
  go_ret
  exact ⟨ret_bool (by unfold mPrime;rw [if_pos h2]),Below.refl _ _⟩
 ·go_enter Tryz.func73,Tryz.ntmps73
  go_wp2_with fail
  go_loop [4,10] (fun _ vk=> ∃ k:Nat,vk= .int .i64 k∧k≤7∧Hid (NoSmall n k)) (fun _ vk=>7 - (intOf vk).toNat)
  case atStart=>exact ⟨0,rfl,by omega,by intro p hp;simp at hp⟩
  case round=>
   obtain ⟨k,rfl,hk,hno⟩:=hrel;rcases (show k=0∨k=1∨k=2∨k=3∨k=4∨k=5∨k=6∨k=7 by omega) with rfl | rfl | rfl | rfl | rfl | rfl | rfl | rfl
   ·have hix:=seven0;by_cases hd:n % 2=0
    ·have hM:=Lib.hid (mPrime_small h2 hno.out (show smalls[0]? =some 2 from rfl) hd);have hb:((n:Int) % 2==0)=true:=beq_iff_eq.2 (by omega);by_cases he:n=2
     ·have hq:((n:Int)==2)=true:=beq_iff_eq.2 (by omega);have HE:=Lib.hid he;clear he hd;go_wp2_with fail
      go_ret
      exact ⟨ret_bool (by rw [hM.out,HE.out];rfl),Below.refl _ _⟩
     ·have hq:((n:Int)==2)=false:=beq_eq_false_iff_ne.2 (by omega);clear hd;go_wp2_with fail
      go_ret
      exact ⟨ret_bool (by rw [hM.out,beq_eq_false_iff_ne.2 he]),Below.refl _ _⟩
    ·have hb:((n:Int) % 2==0)=false:=beq_eq_false_iff_ne.2 (by omega);have hN:=Lib.hid (noSmall_step hno.out (show smalls[0]? =some 2 from rfl) hd);go_wp2_with fail
     go_round
     case rel=>exact ⟨1,rfl,by omega,hN⟩
     case measure=>simp [intOf]
   ·have hix:=seven1;by_cases hd:n % 3=0
    ·have hM:=Lib.hid (mPrime_small h2 hno.out (show smalls[1]? =some 3 from rfl) hd);have hb:((n:Int) % 3==0)=true:=beq_iff_eq.2 (by omega);by_cases he:n=3
     ·have hq:((n:Int)==3)=true:=beq_iff_eq.2 (by omega);have HE:=Lib.hid he;clear he hd;go_wp2_with fail
      go_ret
      exact ⟨ret_bool (by rw [hM.out,HE.out];rfl),Below.refl _ _⟩
     ·have hq:((n:Int)==3)=false:=beq_eq_false_iff_ne.2 (by omega);clear hd;go_wp2_with fail
      go_ret
      exact ⟨ret_bool (by rw [hM.out,beq_eq_false_iff_ne.2 he]),Below.refl _ _⟩
    ·have hb:((n:Int) % 3==0)=false:=beq_eq_false_iff_ne.2 (by omega);have hN:=Lib.hid (noSmall_step hno.out (show smalls[1]? =some 3 from rfl) hd);go_wp2_with fail
     go_round
     case rel=>exact ⟨2,rfl,by omega,hN⟩
     case measure=>simp [intOf]
   ·have hix:=seven2;by_cases hd:n % 5=0
    ·have hM:=Lib.hid (mPrime_small h2 hno.out (show smalls[2]? =some 5 from rfl) hd);have hb:((n:Int) % 5==0)=true:=beq_iff_eq.2 (by omega);by_cases he:n=5
     ·have hq:((n:Int)==5)=true:=beq_iff_eq.2 (by omega);have HE:=Lib.hid he;clear he hd;go_wp2_with fail
      go_ret
      exact ⟨ret_bool (by rw [hM.out,HE.out];rfl),Below.refl _ _⟩
     ·have hq:((n:Int)==5)=false:=beq_eq_false_iff_ne.2 (by omega);clear hd;go_wp2_with fail
      go_ret
      exact ⟨ret_bool (by rw [hM.out,beq_eq_false_iff_ne.2 he]),Below.refl _ _⟩
    ·have hb:((n:Int) % 5==0)=false:=beq_eq_false_iff_ne.2 (by omega);have hN:=Lib.hid (noSmall_step hno.out (show smalls[2]? =some 5 from rfl) hd);go_wp2_with fail
     go_round
     case rel=>exact ⟨3,rfl,by omega,hN⟩
     case measure=>simp [intOf]
   ·have hix:=seven3;by_cases hd:n % 7=0
    ·have hM:=Lib.hid (mPrime_small h2 hno.out (show smalls[3]? =some 7 from rfl) hd);have hb:((n:Int) % 7==0)=true:=beq_iff_eq.2 (by omega);by_cases he:n=7
     ·have hq:((n:Int)==7)=true:=beq_iff_eq.2 (by omega);have HE:=Lib.hid he;clear he hd;go_wp2_with fail
      go_ret
      exact ⟨ret_bool (by rw [hM.out,HE.out];rfl),Below.refl _ _⟩
     ·have hq:((n:Int)==7)=false:=beq_eq_false_iff_ne.2 (by omega);clear hd;go_wp2_with fail
      go_ret
      exact ⟨ret_bool (by rw [hM.out,beq_eq_false_iff_ne.2 he]),Below.refl _ _⟩
    ·have hb:((n:Int) % 7==0)=false:=beq_eq_false_iff_ne.2 (by omega);have hN:=Lib.hid (noSmall_step hno.out (show smalls[3]? =some 7 from rfl) hd);go_wp2_with fail
     go_round
     case rel=>exact ⟨4,rfl,by omega,hN⟩
     case measure=>simp [intOf]
   ·have hix:=seven4;by_cases hd:n % 11=0
    ·have hM:=Lib.hid (mPrime_small h2 hno.out (show smalls[4]? =some 11 from rfl) hd);have hb:((n:Int) % 11==0)=true:=beq_iff_eq.2 (by omega);by_cases he:n=11
     ·have hq:((n:Int)==11)=true:=beq_iff_eq.2 (by omega);have HE:=Lib.hid he;clear he hd;go_wp2_with fail
      go_ret
      exact ⟨ret_bool (by rw [hM.out,HE.out];rfl),Below.refl _ _⟩
     ·have hq:((n:Int)==11)=false:=beq_eq_false_iff_ne.2 (by omega);clear hd;go_wp2_with fail
      go_ret
      exact ⟨ret_bool (by rw [hM.out,beq_eq_false_iff_ne.2 he]),Below.refl _ _⟩
    ·have hb:((n:Int) % 11==0)=false:=beq_eq_false_iff_ne.2 (by omega);have hN:=Lib.hid (noSmall_step hno.out (show smalls[4]? =some 11 from rfl) hd);go_wp2_with fail
     go_round
     case rel=>exact ⟨5,rfl,by omega,hN⟩
     case measure=>simp [intOf]
   ·have hix:=seven5;by_cases hd:n % 13=0
    ·have hM:=Lib.hid (mPrime_small h2 hno.out (show smalls[5]? =some 13 from rfl) hd);have hb:((n:Int) % 13==0)=true:=beq_iff_eq.2 (by omega);by_cases he:n=13
     ·have hq:((n:Int)==13)=true:=beq_iff_eq.2 (by omega);have HE:=Lib.hid he;clear he hd;go_wp2_with fail
      go_ret
      exact ⟨ret_bool (by rw [hM.out,HE.out];rfl),Below.refl _ _⟩
     ·have hq:((n:Int)==13)=false:=beq_eq_false_iff_ne.2 (by omega);clear hd;go_wp2_with fail
      go_ret
      exact ⟨ret_bool (by rw [hM.out,beq_eq_false_iff_ne.2 he]),Below.refl _ _⟩
    ·have hb:((n:Int) % 13==0)=false:=beq_eq_false_iff_ne.2 (by omega);have hN:=Lib.hid (noSmall_step hno.out (show smalls[5]? =some 13 from rfl) hd);go_wp2_with fail
     go_round
     case rel=>exact ⟨6,rfl,by omega,hN⟩
     case measure=>simp [intOf]
   ·have hix:=seven6;by_cases hd:n % 61=0
    ·have hM:=Lib.hid (mPrime_small h2 hno.out (show smalls[6]? =some 61 from rfl) hd);have hb:((n:Int) % 61==0)=true:=beq_iff_eq.2 (by omega);by_cases he:n=61
     ·have hq:((n:Int)==61)=true:=beq_iff_eq.2 (by omega);have HE:=Lib.hid he;clear he hd;go_wp2_with fail
      go_ret
      exact ⟨ret_bool (by rw [hM.out,HE.out];rfl),Below.refl _ _⟩
     ·have hq:((n:Int)==61)=false:=beq_eq_false_iff_ne.2 (by omega);clear hd;go_wp2_with fail
      go_ret
      exact ⟨ret_bool (by rw [hM.out,beq_eq_false_iff_ne.2 he]),Below.refl _ _⟩
    ·have hb:((n:Int) % 61==0)=false:=beq_eq_false_iff_ne.2 (by omega);have hN:=Lib.hid (noSmall_step hno.out (show smalls[6]? =some 61 from rfl) hd);go_wp2_with fail
     go_round
     case rel=>exact ⟨7,rfl,by omega,hN⟩
     case measure=>simp [intOf]
   ·have hodd:n % 2=1:=by have:=hno.out 2 (by simp [smalls]);omega
    have hM:=Lib.hid (mPrime_none h2 hno.out);go_wp2_with fail
    go_loopw [6,22] (fun _ vk wr=> ∃ k:Nat,vk= .int .i64 k∧k≤3∧Hid (∀ p,p∈[2,7,61].take k→SP p n=true)∧Below w.heap.size w wr) (fun _ vk _=>3 - (intOf vk).toNat)
    case atStart=>exact ⟨0,rfl,by omega,by intro p hp;simp at hp,Below.refl _ _⟩
    case round=>
     obtain ⟨k,rfl,hk,hall,hbel⟩:=hrel;have hbs:=hbel.size;rcases (show k=0∨k=1∨k=2∨k=3 by omega) with rfl | rfl | rfl | rfl
     ·have hix:=three0;by_cases hs:SP 2 n=true
      ·have HA:Hid (∀ p,p∈[2,7,61].take 1→SP p n=true):=by
        intro p hp;rw [List.take_add_one] at hp;rcases List.mem_append.1 hp with h1 | h1
        ·exact hall.out p h1
        ·simp at h1;subst h1;exact hs
       go_wp2_with (go_at_call 114;refine (mpasses_int _ _ _ (by omega) (by omega) (by omega) (by omega) (by omega)).mono ?_;rintro e w1 ⟨rfl,hb1⟩)
       go_roundw
       case rel=>exact ⟨1,rfl,by omega,HA,hbel.trans (hb1.mono hbs)⟩
       case measure=>simp [intOf]
      ·have hs':SP 2 n=false:=by simpa using hs
       clear hs;have HR:Hid (mPrime n=false):=by show _=_;rw [hM.out,hs'];simp
       go_wp2_with (go_at_call 114;refine (mpasses_int _ _ _ (by omega) (by omega) (by omega) (by omega) (by omega)).mono ?_;rintro e w1 ⟨rfl,hb1⟩)
       go_ret
       exact ⟨ret_bool (by rw [HR.out]),hbel.trans (hb1.mono hbs)⟩
     ·have hix:=three1;by_cases hs:SP 7 n=true
      ·have HA:Hid (∀ p,p∈[2,7,61].take 2→SP p n=true):=by
        intro p hp;rw [List.take_add_one] at hp;rcases List.mem_append.1 hp with h1 | h1
        ·exact hall.out p h1
        ·simp at h1;subst h1;exact hs
       go_wp2_with (go_at_call 114;refine (mpasses_int _ _ _ (by omega) (by omega) (by omega) (by omega) (by omega)).mono ?_;rintro e w1 ⟨rfl,hb1⟩)
       go_roundw
       case rel=>exact ⟨2,rfl,by omega,HA,hbel.trans (hb1.mono hbs)⟩
       case measure=>simp [intOf]
      ·have hs':SP 7 n=false:=by simpa using hs
       clear hs;have HR:Hid (mPrime n=false):=by show _=_;rw [hM.out,hs'];simp
       go_wp2_with (go_at_call 114;refine (mpasses_int _ _ _ (by omega) (by omega) (by omega) (by omega) (by omega)).mono ?_;rintro e w1 ⟨rfl,hb1⟩)
       go_ret
       exact ⟨ret_bool (by rw [HR.out]),hbel.trans (hb1.mono hbs)⟩
     ·have hix:=three2;by_cases hs:SP 61 n=true
      ·have HA:Hid (∀ p,p∈[2,7,61].take 3→SP p n=true):=by
        intro p hp;rw [List.take_add_one] at hp;rcases List.mem_append.1 hp with h1 | h1
        ·exact hall.out p h1
        ·simp at h1;subst h1;exact hs
       go_wp2_with (go_at_call 114;refine (mpasses_int _ _ _ (by omega) (by omega) (by omega) (by omega) (by omega)).mono ?_;rintro e w1 ⟨rfl,hb1⟩)
       go_roundw
       case rel=>exact ⟨3,rfl,by omega,HA,hbel.trans (hb1.mono hbs)⟩
       case measure=>simp [intOf]
      ·have hs':SP 61 n=false:=by simpa using hs
       clear hs;have HR:Hid (mPrime n=false):=by show _=_;rw [hM.out,hs'];simp
       go_wp2_with (go_at_call 114;refine (mpasses_int _ _ _ (by omega) (by omega) (by omega) (by omega) (by omega)).mono ?_;rintro e w1 ⟨rfl,hb1⟩)
       go_ret
       exact ⟨ret_bool (by rw [HR.out]),hbel.trans (hb1.mono hbs)⟩
     ·have HR:Hid (mPrime n=true):=by show _=_;rw [hM.out,hall.out 2 (by simp),hall.out 7 (by simp),hall.out 61 (by simp)];rfl
      go_wp2_with fail
      go_ret
      exact ⟨ret_bool (by rw [HR.out]),hbel⟩
theorem rstrong_int (a:Int) (n:Nat) (w:World) (ha0:0≤a) (ha:a<4294967296) (hn:3≤n) (hn2:n<4294967296) (hodd:n % 2=1):
  Calls Tryz.prog 90 #[.int .u32 a, .int .u32 n] w fun r w'=>r= .returned (.bool (SP a.toNat n))∧w=w':=by
 obtain ⟨b,rfl⟩:=Int.eq_ofNat_of_zero_le ha0;exact rstrong_any b n w (by omega) hn hn2 hodd
theorem rPrime_any (n:Nat) (w:World) (hn2:n<4294967296):
  Calls Tryz.prog 52 #[.int .u32 n] w fun r w'=>r= .returned (.bool (rPrime n))∧w=w':=by
 by_cases h2:n=2
 ·subst h2;go_enter Tryz.func52,Tryz.ntmps52
  go_wp2_with fail
  go_ret
  exact ⟨ret_bool (by rfl),rfl⟩
 have e2:((n:Int)==2)=false:=beq_eq_false_iff_ne.2 (by omega);by_cases h7:n=7
 ·subst h7;go_enter Tryz.func52,Tryz.ntmps52
  go_wp2_with fail
  go_ret
  exact ⟨ret_bool (by rfl),rfl⟩
 have e7:((n:Int)==7)=false:=beq_eq_false_iff_ne.2 (by omega);by_cases h61:n=61
 ·subst h61;go_enter Tryz.func52,Tryz.ntmps52
  go_wp2_with fail
  go_ret
  exact ⟨ret_bool (by rfl),rfl⟩
 have e61:((n:Int)==61)=false:=beq_eq_false_iff_ne.2 (by omega);have hR:rPrime n=(decide (2<n) && decide (n % 2=1) && decide (0<n % 7) && decide (0<n % 61) && SP 2 n && SP 7 n && SP 61 n):=by
  unfold rPrime;rw [beq_eq_false_iff_ne.2 h2,beq_eq_false_iff_ne.2 h7,beq_eq_false_iff_ne.2 h61];rfl
 by_cases c1:2<n
 case neg=>
  have HR:Hid (rPrime n=false):=by show _=_;rw [hR,alB c1];rfl
  clear hR;go_enter Tryz.func52,Tryz.ntmps52
  go_wp2_with fail
  go_ret
  exact ⟨ret_bool (by rw [HR.out]),rfl⟩
 by_cases c2:n % 2=1
 case neg=>
  have d2:((n:Int) % 2==1)=false:=beq_eq_false_iff_ne.2 (by omega);have HR:Hid (rPrime n=false):=by show _=_;rw [hR,alA c1,alB c2];rfl
  clear hR;go_enter Tryz.func52,Tryz.ntmps52
  go_wp2_with fail
  go_ret
  exact ⟨ret_bool (by rw [HR.out]),rfl⟩
 have d2:((n:Int) % 2==1)=true:=beq_iff_eq.2 (by omega);by_cases c3:0<n % 7
 case neg=>
  have d3: ¬ 0<(n:Int) % 7:=by omega
  have d3':decide (0<(n:Int) % 7)=false:=by simpa using d3
  have HR:Hid (rPrime n=false):=by show _=_;rw [hR,alA c1,alA c2,alB c3];rfl
  clear hR;go_enter Tryz.func52,Tryz.ntmps52
  go_wp2_with fail
  go_ret
  exact ⟨ret_bool (by rw [HR.out]),rfl⟩
 have d3:decide (0<(n:Int) % 7)=true:=by simp;omega
 by_cases c4:0<n % 61
 case neg=>
  have d4':decide (0<(n:Int) % 61)=false:=by simp;omega
  have HR:Hid (rPrime n=false):=by show _=_;rw [hR,alA c1,alA c2,alA c3,alB c4];rfl
  clear hR;go_enter Tryz.func52,Tryz.ntmps52
  go_wp2_with fail
  go_ret
  exact ⟨ret_bool (by rw [HR.out]),rfl⟩
 have d4:decide (0<(n:Int) % 61)=true:=by simp;omega
 rw [alA c1,alA c2,alA c3,alA c4] at hR;by_cases s2:SP 2 n=true
 case neg=>
  have s2':SP 2 n=false:=by simpa using s2
  clear s2;have HR:Hid (rPrime n=false):=by show _=_;rw [hR,s2'];rfl
  clear hR;go_enter Tryz.func52,Tryz.ntmps52
  go_wp2_with (go_at_call 90;refine (rstrong_int _ _ _ (by omega) (by omega) (by omega) (by omega) (by omega)).mono ?_;rintro e w1 ⟨rfl,rfl⟩)
  go_ret
  exact ⟨ret_bool (by rw [HR.out]),rfl⟩
 by_cases s7:SP 7 n=true
 case neg=>
  have s7':SP 7 n=false:=by simpa using s7
  clear s7;have HR:Hid (rPrime n=false):=by show _=_;rw [hR,s2,s7'];rfl
  clear hR;go_enter Tryz.func52,Tryz.ntmps52
  go_wp2_with (go_at_call 90;refine (rstrong_int _ _ _ (by omega) (by omega) (by omega) (by omega) (by omega)).mono ?_;rintro e w1 ⟨rfl,rfl⟩)
  go_ret
  exact ⟨ret_bool (by rw [HR.out]),rfl⟩
 by_cases s61:SP 61 n=true
 case neg=>
  have s61':SP 61 n=false:=by simpa using s61
  clear s61;have HR:Hid (rPrime n=false):=by show _=_;rw [hR,s2,s7,s61'];rfl
  clear hR;go_enter Tryz.func52,Tryz.ntmps52
  go_wp2_with (go_at_call 90;refine (rstrong_int _ _ _ (by omega) (by omega) (by omega) (by omega) (by omega)).mono ?_;rintro e w1 ⟨rfl,rfl⟩)
  go_ret
  exact ⟨ret_bool (by rw [HR.out]),rfl⟩
 have HR:Hid (rPrime n=true):=by show _=_;rw [hR,s2,s7,s61];rfl
 clear hR;go_enter Tryz.func52,Tryz.ntmps52
 go_wp2_with (go_at_call 90;refine (rstrong_int _ _ _ (by omega) (by omega) (by omega) (by omega) (by omega)).mono ?_;rintro e w1 ⟨rfl,rfl⟩)
 go_ret
 exact ⟨ret_bool (by rw [HR.out]),rfl⟩
end
section
open Go.RowKit
theorem dim_bits: ∀ k:Nat,k<29→(bits BinOp.and IntKind.i64 ((k:Int)+4) ((k:Int)+3)==0)=isDim ((k:Int)+4):=by decide
theorem pdim_any (n:Int) (w:World) (_h0: -9223372036854775808≤n) (_h1:n≤9223372036854775807):
  Calls Tryz.prog 71 #[.int .i64 n] w fun r w'=>r= .returned (.bool (isDim n))∧w=w':=by
 by_cases h4:4≤n
 ·by_cases h32:n≤32
  ·have hk:=dim_bits (n - 4).toNat (by omega);have e1:(((n - 4).toNat:Nat):Int)=n - 4:=by omega
   rw [e1,show n - 4+4=n by omega,show n - 4+3=n - 1 by omega] at hk;have d4:decide (4≤n)=true:=alA h4;have d32:decide (n≤32)=true:=alA h32;go_enter Tryz.func71,Tryz.ntmps71
   go_wp2_with fail
   go_ret
   exact ⟨ret_bool (by first | rfl | exact hk),rfl⟩
  ·have hR:Hid (isDim n=false):=by
    show _=_;unfold isDim;simp only [Bool.or_eq_false_iff,beq_eq_false_iff_ne];omega
   have d4:decide (4≤n)=true:=alA h4;have d32:decide (n≤32)=false:=alB h32;go_enter Tryz.func71,Tryz.ntmps71
   go_wp2_with fail
   go_ret
   exact ⟨ret_bool (by rw [hR.out]),rfl⟩
 ·have hR:Hid (isDim n=false):=by
   show _=_;unfold isDim;simp only [Bool.or_eq_false_iff,beq_eq_false_iff_ne];omega
  have d4:decide (4≤n)=false:=alB h4;go_enter Tryz.func71,Tryz.ntmps71
  go_wp2_with fail
  go_ret
  exact ⟨ret_bool (by rw [hR.out]),rfl⟩
theorem rdim_any (n:Int) (w:World):
  Calls Tryz.prog 33 #[.int .i64 n] w fun r w'=>r= .returned (.bool (isDim n))∧w=w':=by
 have hR:Hid (isDim n=(n==4 || (n==8 || (n==16 || n==32)))):=by show _=_;unfold isDim;simp only [Bool.or_assoc]
 cases h4:(n==4) with
 | true=>
  go_enter Tryz.func33,Tryz.ntmps33
  go_wp2_with fail
  go_ret
  exact ⟨ret_bool (by rw [hR.out,h4];rfl),rfl⟩
 | false=>
  cases h8:(n==8) with
  | true=>
   go_enter Tryz.func33,Tryz.ntmps33
   go_wp2_with fail
   go_ret
   exact ⟨ret_bool (by rw [hR.out,h4,h8];rfl),rfl⟩
  | false=>
   cases h16:(n==16) with
   | true=>
    go_enter Tryz.func33,Tryz.ntmps33
    go_wp2_with fail
    go_ret
    exact ⟨ret_bool (by rw [hR.out,h4,h8,h16];rfl),rfl⟩
   | false=>
    cases h32:(n==32) with
    | true=>
     go_enter Tryz.func33,Tryz.ntmps33
     go_wp2_with fail
     go_ret
     exact ⟨ret_bool (by rw [hR.out,h4,h8,h16,h32];rfl),rfl⟩
    | false=>
     go_enter Tryz.func33,Tryz.ntmps33
     go_wp2_with fail
     go_ret
     exact ⟨ret_bool (by rw [hR.out,h4,h8,h16,h32];rfl),rfl⟩
theorem ppower_any (n:Int) (p:Nat) (e:Int) (w:World) (hn4:4≤n) (hn:n≤32) (hp:p<4294967296) (he0: -9223372036854775808≤e) (he1:e≤9223372036854775807):
  Calls Tryz.prog 46 #[.int .i64 n, .int .u32 p, .int .i64 e] w fun r w'=>r= .returned (.int .i64 (powv mPrime n p e:Nat))∧Below w.heap.size w w':=by
 by_cases c1:p<3
 case pos=>
  have d1:decide ((p:Int)<3)=true:=alA (by omega);have hR:Hid (powv mPrime n p e=0):=powv_no (by omega);go_enter Tryz.func46,Tryz.ntmps46
  go_wp2_with fail
  go_ret
  exact ⟨ret_int (by rw [hR.out];rfl),Below.refl _ _⟩
 have d1:decide ((p:Int)<3)=false:=alB (by omega);by_cases c2:p<65536
 case neg=>
  have d2:decide ((65536:Int)≤p)=true:=alA (by omega);have hR:Hid (powv mPrime n p e=0):=powv_no (by omega);go_enter Tryz.func46,Tryz.ntmps46
  go_wp2_with fail
  go_ret
  exact ⟨ret_int (by rw [hR.out];rfl),Below.refl _ _⟩
 have d2:decide ((65536:Int)≤p)=false:=alB (by omega);cases c3:mPrime p with
 | false=>
  have hR:Hid (powv mPrime n p e=0):=powv_no (by rw [c3];simp);go_enter Tryz.func46,Tryz.ntmps46
  go_wp2_with (go_at_call 73;refine (mPrime_any _ _ (by omega)).mono ?_;rintro e w1 ⟨rfl,hb1⟩)
  go_ret
  exact ⟨ret_int (by rw [hR.out];rfl),hb1⟩
 | true=>
 by_cases c4:(p:Int) % (2*n)=1
 case neg=>
  have d4:((p:Int) % (2*n) !=1)=true:=by simpa using c4
  have hR:Hid (powv mPrime n p e=0):=powv_no (by
   intro hc;apply c4;have h:=hc.2.2.2.1;have:((p % (2*n).toNat:Nat):Int)=1:=by rw [h];rfl
   rw [Int.natCast_emod,Int.toNat_of_nonneg (by omega)] at this;exact this)
  clear c4;go_enter Tryz.func46,Tryz.ntmps46
  go_wp2_with (go_at_call 73;refine (mPrime_any _ _ (by omega)).mono ?_;rintro e w1 ⟨rfl,hb1⟩)
  go_ret
  exact ⟨ret_int (by rw [hR.out];rfl),hb1⟩
 have d4:((p:Int) % (2*n) !=1)=false:=by simpa using c4
 have c4':p % (2*n).toNat=1:=by
  have:((p % (2*n).toNat:Nat):Int)=1:=by rw [Int.natCast_emod,Int.toNat_of_nonneg (by omega)];exact c4
  omega
 by_cases c5:1≤e
 case neg=>
  have d5:decide (e<1)=true:=alA (by omega);have hR:Hid (powv mPrime n p e=0):=powv_no (by omega);clear c4 c4';go_enter Tryz.func46,Tryz.ntmps46
  go_wp2_with (go_at_call 73;refine (mPrime_any _ _ (by omega)).mono ?_;rintro e w1 ⟨rfl,hb1⟩)
  go_ret
  exact ⟨ret_int (by rw [hR.out];rfl),hb1⟩
 have d5:decide (e<1)=false:=alB (by omega);have hall:=Lib.hid (show 3≤p∧p<65536∧mPrime p=true∧p % (2*n).toNat=1∧1≤e from ⟨by omega,c2,c3,c4',c5⟩);clear c4 c4';go_enter Tryz.func46,Tryz.ntmps46
 go_wp2_with (go_at_call 73;refine (mPrime_any _ _ (by omega)).mono ?_;rintro e w1 ⟨rfl,hb1⟩)
 go_loop [7,32] (fun vt vk=> ∃ k t:Nat,vt= .int .i64 t∧vk= .int .i64 k∧(k:Int)≤e∧t≤2147483647∧Hid (p ^ k=t)) (fun _ vk=>(e - intOf vk).toNat)
 case atStart=>exact ⟨0,1,rfl,rfl,by omega,by omega,rfl⟩
 case round=>
  obtain ⟨k,t,rfl,rfl,hk,ht,hI⟩:=hrel;have hm0:(0:Int)≤(t:Int)*(p:Int):=Int.mul_nonneg (by omega) (by omega);have hm1:(t:Int)*(p:Int)≤2147483647*65536:=Int.mul_le_mul (by omega) (by omega) (by omega) (by omega);have hstep:=Lib.hid (show p ^ (k+1)=t*p by rw [Nat.pow_succ,hI.out]);by_cases hlt:(k:Int)<e
  ·by_cases hbig:2147483647<t*p
   ·have hb:(2147483647:Int)<(t:Int)*(p:Int):=by have:=Int.ofNat_lt.2 hbig;rw [Int.natCast_mul] at this;exact this
    have hR:Hid (powv mPrime n p e=0):=powv_big (k:=k+1) (by omega) (by omega) (by rw [hstep.out];exact hbig);clear hbig;go_wp2_with fail
    go_ret
    exact ⟨ret_int (by rw [hR.out];rfl),hb1⟩
   ·have hb: ¬ (2147483647:Int)<(t:Int)*(p:Int):=by intro hc;apply hbig;rw [←Int.natCast_mul] at hc;exact Int.ofNat_lt.1 hc
    have hbig':=Lib.hid hbig;clear hbig;go_wp2_with fail
    go_round
    case rel=>exact ⟨k+1,t*p,by rw [Int.natCast_mul],by go_num,by omega,by have:=hbig'.out;omega,hstep.out⟩
    case measure=>simp [intOf];omega
  ·have hR:Hid (powv mPrime n p e=t):=by
    show _=_;rw [powv_yes hall.out (k:=k) (by omega) (by rw [hI.out];exact ht),hI.out]
   go_wp2_with fail
   go_ret
   exact ⟨ret_int (by rw [hR.out]),hb1⟩
theorem rplain_any (n:Int) (p:Nat) (e:Int) (w:World) (hn4:4≤n) (hn:n≤32) (hp:p<4294967296) (he0: -9223372036854775808≤e) (he1:e≤9223372036854775807):
  Calls Tryz.prog 34 #[.int .i64 n, .int .u32 p, .int .i64 e] w fun r w'=>r= .returned (.int .i64 (powv rPrime n p e:Nat))∧w=w':=by
 by_cases c1:p<3
 case pos=>
  have d1:decide ((p:Int)<3)=true:=alA (by omega);have hR:Hid (powv rPrime n p e=0):=powv_no (by omega);go_enter Tryz.func34,Tryz.ntmps34
  go_wp2_with fail
  go_ret
  exact ⟨ret_int (by rw [hR.out];rfl),rfl⟩
 have d1:decide ((p:Int)<3)=false:=alB (by omega);by_cases c2:p<65536
 case neg=>
  have d2:decide ((65536:Int)≤p)=true:=alA (by omega);have hR:Hid (powv rPrime n p e=0):=powv_no (by omega);go_enter Tryz.func34,Tryz.ntmps34
  go_wp2_with fail
  go_ret
  exact ⟨ret_int (by rw [hR.out];rfl),rfl⟩
 have d2:decide ((65536:Int)≤p)=false:=alB (by omega);cases c3:rPrime p with
 | false=>
  have hR:Hid (powv rPrime n p e=0):=powv_no (by rw [c3];simp);go_enter Tryz.func34,Tryz.ntmps34
  go_wp2_with (go_at_call 52;refine (rPrime_any _ _ (by omega)).mono ?_;rintro e w1 ⟨rfl,rfl⟩)
  go_ret
  exact ⟨ret_int (by rw [hR.out];rfl),rfl⟩
 | true=>
 by_cases c4:(p:Int) % (2*n)=1
 case neg=>
  have d4:((p:Int) % (2*n) !=1)=true:=by simpa using c4
  have hR:Hid (powv rPrime n p e=0):=powv_no (by
   intro hc;apply c4;have h:=hc.2.2.2.1;have:((p % (2*n).toNat:Nat):Int)=1:=by rw [h];rfl
   rw [Int.natCast_emod,Int.toNat_of_nonneg (by omega)] at this;exact this)
  clear c4;go_enter Tryz.func34,Tryz.ntmps34
  go_wp2_with (go_at_call 52;refine (rPrime_any _ _ (by omega)).mono ?_;rintro e w1 ⟨rfl,rfl⟩)
  go_ret
  exact ⟨ret_int (by rw [hR.out];rfl),rfl⟩
 have d4:((p:Int) % (2*n) !=1)=false:=by simpa using c4
 have c4':p % (2*n).toNat=1:=by
  have:((p % (2*n).toNat:Nat):Int)=1:=by rw [Int.natCast_emod,Int.toNat_of_nonneg (by omega)];exact c4
  omega
 by_cases c5:1≤e
 case neg=>
  have d5:decide (e<1)=true:=alA (by omega);have hR:Hid (powv rPrime n p e=0):=powv_no (by omega);clear c4 c4';go_enter Tryz.func34,Tryz.ntmps34
  go_wp2_with (go_at_call 52;refine (rPrime_any _ _ (by omega)).mono ?_;rintro e w1 ⟨rfl,rfl⟩)
  go_ret
  exact ⟨ret_int (by rw [hR.out];rfl),rfl⟩
 have d5:decide (e<1)=false:=alB (by omega);have hall:=Lib.hid (show 3≤p∧p<65536∧rPrime p=true∧p % (2*n).toNat=1∧1≤e from ⟨by omega,c2,c3,c4',c5⟩);clear c4 c4';go_enter Tryz.func34,Tryz.ntmps34
 go_wp2_with (go_at_call 52;refine (rPrime_any _ _ (by omega)).mono ?_;rintro e w1 ⟨rfl,rfl⟩)
 go_loop [7,8] (fun vt vk=> ∃ k t:Nat,vt= .int .i64 t∧vk= .int .i64 k∧(k:Int)≤e∧t≤2147483647∧Hid (p ^ k=t)) (fun _ vk=>(e - intOf vk).toNat)
 case atStart=>exact ⟨0,1,rfl,rfl,by omega,by omega,rfl⟩
 case round=>
  obtain ⟨k,t,rfl,rfl,hk,ht,hI⟩:=hrel;have hm0:(0:Int)≤(t:Int)*(p:Int):=Int.mul_nonneg (by omega) (by omega);have hm1:(t:Int)*(p:Int)≤2147483647*65536:=Int.mul_le_mul (by omega) (by omega) (by omega) (by omega);have hstep:=Lib.hid (show p ^ (k+1)=t*p by rw [Nat.pow_succ,hI.out]);by_cases hlt:(k:Int)<e
  ·by_cases hbig:2147483647<t*p
   ·have hb:(2147483647:Int)<(t:Int)*(p:Int):=by have:=Int.ofNat_lt.2 hbig;rw [Int.natCast_mul] at this;exact this
    have hR:Hid (powv rPrime n p e=0):=powv_big (k:=k+1) (by omega) (by omega) (by rw [hstep.out];exact hbig);clear hbig;go_wp2_with fail
    go_ret
    exact ⟨ret_int (by rw [hR.out];rfl),rfl⟩
   ·have hb: ¬ (2147483647:Int)<(t:Int)*(p:Int):=by intro hc;apply hbig;rw [←Int.natCast_mul] at hc;exact Int.ofNat_lt.1 hc
    have hbig':=Lib.hid hbig;clear hbig;go_wp2_with fail
    go_round
    case rel=>exact ⟨k+1,t*p,by rw [Int.natCast_mul],by go_num,by omega,by have:=hbig'.out;omega,hstep.out⟩
    case measure=>simp [intOf];omega
  ·have hR:Hid (powv rPrime n p e=t):=by
    show _=_;rw [powv_yes hall.out (k:=k) (by omega) (by rw [hI.out];exact ht),hI.out]
   go_wp2_with fail
   go_ret
   exact ⟨ret_int (by rw [hR.out]),rfl⟩
end
section
open Go.RowKit
theorem pgood_any (q s:Nat) (a:Addr) (w:World) (hq:q<4294967296) (hs0:0<s) (hs1:s≤137438953408) (ha:w.cell? a=some (.int .i64 s)):
  Calls Tryz.prog 72 #[.int .u32 q, .pointer (some a)] w fun r w'=>r= .returned (.bool (goodS mPrime s q))∧Below w.heap.size w w':=by
 by_cases c1:1073741824<q
 case neg=>
  have d1:decide ((1073741824:Int)<q)=false:=alB (by omega);have hR:Hid (goodS mPrime s q=false):=by show _=_;unfold goodS;rw [alB c1];rfl
  go_enter Tryz.func72,Tryz.ntmps72
  go_wp2_with fail
  go_ret
  exact ⟨ret_bool (by rw [hR.out]),Below.refl _ _⟩
 have d1:decide ((1073741824:Int)<q)=true:=alA (by omega);by_cases c2:q≤2147483647
 case neg=>
  have d2:decide ((q:Int)≤2147483647)=false:=alB (by omega);have hR:Hid (goodS mPrime s q=false):=by show _=_;unfold goodS;rw [alA c1,alB c2];rfl
  go_enter Tryz.func72,Tryz.ntmps72
  go_wp2_with fail
  go_ret
  exact ⟨ret_bool (by rw [hR.out]),Below.refl _ _⟩
 have d2:decide ((q:Int)≤2147483647)=true:=alA (by omega);by_cases c3:q % s=1
 case neg=>
  have d3:((q:Int) % (s:Int)==1)=false:=by
   apply beq_eq_false_iff_ne.2;intro hc;apply c3;have:((q % s:Nat):Int)=1:=by rw [Int.natCast_emod];exact hc
   omega
  have hR:Hid (goodS mPrime s q=false):=by show _=_;unfold goodS;rw [alB c3];simp
  clear c3;go_enter Tryz.func72,Tryz.ntmps72
  go_wp2_with (fail)
  go_ret
  exact ⟨ret_bool (by rw [hR.out]),Below.refl _ _⟩
 have d3:((q:Int) % (s:Int)==1)=true:=by
  apply beq_iff_eq.2;rw [←Int.natCast_emod,c3];rfl
 have H3:=Lib.hid c3;clear c3;cases c4:mPrime q with
 | false=>
  have hR:Hid (goodS mPrime s q=false):=by show _=_;unfold goodS;rw [c4];simp
  go_enter Tryz.func72,Tryz.ntmps72
  go_wp2_with (go_at_call 73;refine (mPrime_any _ _ (by omega)).mono ?_;rintro e w1 ⟨rfl,hb1⟩)
  go_ret
  exact ⟨ret_bool (by rw [hR.out]),hb1⟩
 | true=>
  have hR:Hid (goodS mPrime s q=true):=by show _=_;unfold goodS;rw [c4,alA c1,alA c2,alA H3.out];rfl
  go_enter Tryz.func72,Tryz.ntmps72
  go_wp2_with (go_at_call 73;refine (mPrime_any _ _ (by omega)).mono ?_;rintro e w1 ⟨rfl,hb1⟩)
  go_ret
  exact ⟨ret_bool (by rw [hR.out]),hb1⟩
theorem rgood_any (n:Int) (t q:Nat) (w:World) (hn4:4≤n) (hn:n≤32) (ht0:0<t) (ht:t≤2147483647) (hq:q<4294967296):
  Calls Tryz.prog 88 #[.int .i64 n, .int .i64 t, .int .u32 q] w fun r w'=>r= .returned (.bool (goodS rPrime ((2*n).toNat*t) q))∧w=w':=by
 obtain ⟨m,rfl⟩:=Int.eq_ofNat_of_zero_le (show 0≤n by omega);have hS0:(2*(m:Int)).toNat=2*m:=by omega
 have hm0:(0:Int)<2*(m:Int)*(t:Int):=Int.mul_pos (by omega) (by omega);have hm1:2*(m:Int)*(t:Int)≤64*2147483647:=Int.mul_le_mul (by omega) (by omega) (by omega) (by omega);have hS:Hid (((2*(m:Int)).toNat*t:Nat)=2*(m:Int)*(t:Int)):=by show _=_;rw [hS0];simp
 clear hS0;by_cases c1:1073741824<q
 case neg=>
  have d1:decide ((1073741824:Int)<q)=false:=alB (by omega);have hR:Hid (goodS rPrime ((2*(m:Int)).toNat*t) q=false):=by show _=_;unfold goodS;rw [alB c1];rfl
  go_enter Tryz.func88,Tryz.ntmps88
  go_wp2_with fail
  go_ret
  exact ⟨ret_bool (by rw [hR.out]),rfl⟩
 have d1:decide ((1073741824:Int)<q)=true:=alA (by omega);by_cases c2:q≤2147483647
 case neg=>
  have d2:decide ((q:Int)≤2147483647)=false:=alB (by omega);have hR:Hid (goodS rPrime ((2*(m:Int)).toNat*t) q=false):=by show _=_;unfold goodS;rw [alA c1,alB c2];rfl
  go_enter Tryz.func88,Tryz.ntmps88
  go_wp2_with fail
  go_ret
  exact ⟨ret_bool (by rw [hR.out]),rfl⟩
 have d2:decide ((q:Int)≤2147483647)=true:=alA (by omega);cases c4:rPrime q with
 | false=>
  have hR:Hid (goodS rPrime ((2*(m:Int)).toNat*t) q=false):=by show _=_;unfold goodS;rw [c4];simp
  go_enter Tryz.func88,Tryz.ntmps88
  go_wp2_with (go_at_call 52;refine (rPrime_any _ _ (by omega)).mono ?_;rintro e w1 ⟨rfl,rfl⟩)
  go_ret
  exact ⟨ret_bool (by rw [hR.out]),rfl⟩
 | true=>
 by_cases c3:q % ((2*(m:Int)).toNat*t)=1
 case neg=>
  have d3:((q:Int) % (2*(m:Int)*(t:Int))==1)=false:=by
   apply beq_eq_false_iff_ne.2;intro hc;apply c3;have:((q % ((2*(m:Int)).toNat*t):Nat):Int)=1:=by rw [Int.natCast_emod,hS.out];exact hc
   omega
  have hR:Hid (goodS rPrime ((2*(m:Int)).toNat*t) q=false):=by show _=_;unfold goodS;rw [alB c3];simp
  clear c3;go_enter Tryz.func88,Tryz.ntmps88
  go_wp2_with (go_at_call 52;refine (rPrime_any _ _ (by omega)).mono ?_;rintro e w1 ⟨rfl,rfl⟩)
  go_ret
  exact ⟨ret_bool (by rw [hR.out]),rfl⟩
 have d3:((q:Int) % (2*(m:Int)*(t:Int))==1)=true:=by
  apply beq_iff_eq.2;rw [←hS.out, ←Int.natCast_emod,c3];rfl
 have hR:Hid (goodS rPrime ((2*(m:Int)).toNat*t) q=true):=by show _=_;unfold goodS;rw [c4,alA c1,alA c2,alA c3];rfl
 clear c3;go_enter Tryz.func88,Tryz.ntmps88
 go_wp2_with (go_at_call 52;refine (rPrime_any _ _ (by omega)).mono ?_;rintro e w1 ⟨rfl,rfl⟩)
 go_ret
 exact ⟨ret_bool (by rw [hR.out]),rfl⟩
end
section
open Go.RowKit
structure BoxP (w:World) (a:Nat) (x:Par) (cv:Value):Prop where
 n:w.cell? ⟨a,0,none⟩=some (.int .i64 x.n)
 p:w.cell? ⟨a,1,none⟩=some (.int .u32 x.p)
 r:w.cell? ⟨a,2,none⟩=some (.int .i64 x.r)
 ch:w.cell? ⟨a,3,none⟩=some cv
 sp:w.cell? ⟨a,4,none⟩=some (.int .u32 x.sp)
 wt:w.cell? ⟨a,5,none⟩=some (.int .i64 x.wt)
 er:w.cell? ⟨a,6,none⟩=some (.int .u32 x.er)
theorem BoxP.below {w w':World} {a B:Nat} {x:Par} {cv:Value} (h:BoxP w a x cv) (hb:Below B w w') (ha:a<B):BoxP w' a x cv:=by
 refine ⟨?_,?_,?_,?_,?_,?_,?_⟩<;>rw [hb.cell (p:=⟨a,_,none⟩) ha]
 ·exact h.n
 ·exact h.p
 ·exact h.r
 ·exact h.ch
 ·exact h.sp
 ·exact h.wt
 ·exact h.er
structure RowAt (w:World) (b off:Nat) (l:List Nat):Prop where
 blk:b<w.heap.size
 cell: ∀ i (h:i<l.length),w.cell? ⟨b,off+i,none⟩=some (.int .u32 (l[i]:Nat))
 rng: ∀ q,q∈l→q<4294967296
variable {l:List Nat}
theorem RowAt.below {w w':World} {b off B:Nat}  (h:RowAt w b off l) (hb:Below B w w') (ha:b<B):RowAt w' b off l:=
 ⟨Nat.lt_of_lt_of_le h.blk hb.size,fun i hi=>by rw [hb.cell (p:=⟨b,_,none⟩) ha];exact h.cell i hi,h.rng⟩
theorem pc2_any (t:Nat) (a:Addr) (w:World) (ha:w.cell? a=some (.int .i64 t)):
  Calls Tryz.prog 74 #[.pointer (some a)] w fun r w'=>r= .returned (.bool (decide (0<t)))∧w=w':=by
 have hR:Hid (decide (0<t)=decide ((0:Int)<t)):=by show _=_;by_cases h:0<t<;>simp [h]
 go_enter Tryz.func74,Tryz.ntmps74
 go_wp2_with fail
 go_ret
 exact ⟨ret_bool (by rw [hR.out]),rfl⟩
theorem pc3_any (a:Nat) (p:Option Addr) (n cap:Nat) (w:World) (ha:w.cell? ⟨a,3,none⟩=some (.slice p n cap)):
  Calls Tryz.prog 75 #[.pointer (some ⟨a,0,none⟩)] w fun r w'=>r= .returned (.bool (lenB n))∧w=w':=by
 by_cases h1:1≤n
 ·have d1:decide (1≤(n:Int))=true:=alA (by omega);by_cases h2:n≤24
  ·have d2:decide ((n:Int)≤24)=true:=alA (by omega);go_enter Tryz.func75,Tryz.ntmps75
   go_wp2_with fail
   go_ret
   exact ⟨ret_bool (by unfold lenB;rw [alA (show 1≤n∧n≤24 from ⟨h1,h2⟩)]),rfl⟩
  ·have d2:decide ((n:Int)≤24)=false:=alB (by omega);go_enter Tryz.func75,Tryz.ntmps75
   go_wp2_with fail
   go_ret
   exact ⟨ret_bool (by unfold lenB;rw [alB (show ¬ (1≤n∧n≤24) by omega)]),rfl⟩
 ·have d1:decide (1≤(n:Int))=false:=alB (by omega);go_enter Tryz.func75,Tryz.ntmps75
  go_wp2_with fail
  go_ret
  exact ⟨ret_bool (by unfold lenB;rw [alB (show ¬ (1≤n∧n≤24) by omega)]),rfl⟩
theorem pc4_any (a:Nat) (x:Par) (cv:Value) (w:World) (hB:BoxP w a x cv):
  Calls Tryz.prog 76 #[.pointer (some ⟨a,0,none⟩)] w fun r w'=>r= .returned (.bool (wtB x))∧w=w':=by
 have l5:=hB.wt;have l0:=hB.n;have l6:=hB.er;clear hB;by_cases h1:1≤x.wt
 ·have d1:decide (1≤x.wt)=true:=alA h1;by_cases h2:x.wt≤x.n
  ·have d2:decide (x.wt≤x.n)=true:=alA h2;by_cases h3:x.er≤64
   ·have d3:decide ((x.er:Int)≤64)=true:=alA (by omega);have hR:Hid (wtB x=true):=alA ⟨h1,h2,h3⟩;go_enter Tryz.func76,Tryz.ntmps76
    go_wp2_with fail
    go_ret
    exact ⟨ret_bool (by rw [hR.out]),rfl⟩
   ·have d3:decide ((x.er:Int)≤64)=false:=alB (by omega);have hR:Hid (wtB x=false):=alB (fun h=>h3 h.2.2);go_enter Tryz.func76,Tryz.ntmps76
    go_wp2_with fail
    go_ret
    exact ⟨ret_bool (by rw [hR.out]),rfl⟩
  ·have d2:decide (x.wt≤x.n)=false:=alB h2;have hR:Hid (wtB x=false):=alB (fun h=>h2 h.2.1);go_enter Tryz.func76,Tryz.ntmps76
   go_wp2_with fail
   go_ret
   exact ⟨ret_bool (by rw [hR.out]),rfl⟩
 ·have d1:decide (1≤x.wt)=false:=alB h1;have hR:Hid (wtB x=false):=alB (fun h=>h1 h.1);go_enter Tryz.func76,Tryz.ntmps76
  go_wp2_with fail
  go_ret
  exact ⟨ret_bool (by rw [hR.out]),rfl⟩
theorem pc5_any (a f c:Nat) (s:Nat) (x:Par) (cv:Value) (w:World) (hB:BoxP w a x cv) (hx:x.sp<4294967296) (hs0:0<s) (hs1:s≤137438953408)
  (hf:w.cell? ⟨f,0,none⟩=some (.func (.func 72) #[] #[.pointer (some ⟨c,0,none⟩)])) (hc:w.cell? ⟨c,0,none⟩=some (.int .i64 s)):
  Calls Tryz.prog 77 #[.pointer (some ⟨f,0,none⟩), .pointer (some ⟨a,0,none⟩)] w fun r w'=>r= .returned (.bool (goodS mPrime s x.sp))∧Below w.heap.size w w':=by
 have l4:=hB.sp;clear hB;go_enter Tryz.func77,Tryz.ntmps77
 go_wp2_with (go_at_call 72;refine (pgood_any _ _ _ _ hx hs0 hs1 hc).mono ?_;rintro e w1 ⟨rfl,hb1⟩)
 go_ret
 exact ⟨rfl,hb1⟩
theorem pc61_any (q a f c:Nat) (s:Nat) (x:Par) (cv:Value) (w:World) (hB:BoxP w a x cv) (hq:q<4294967296) (hs0:0<s) (hs1:s≤137438953408)
  (hf:w.cell? ⟨f,0,none⟩=some (.func (.func 72) #[] #[.pointer (some ⟨c,0,none⟩)])) (hc:w.cell? ⟨c,0,none⟩=some (.int .i64 s)):
  Calls Tryz.prog 80 #[.int .u32 q, .pointer (some ⟨a,0,none⟩), .pointer (some ⟨f,0,none⟩)] w fun r w'=>r= .returned (.bool (badB mPrime s x.sp q))∧Below w.heap.size w w':=by
 have l4:=hB.sp;clear hB;by_cases h1:q<x.sp
 ·have d1:decide (x.sp≤q)=false:=alB (by omega);have hR:Hid (badB mPrime s x.sp q=!(goodS mPrime s q)):=by show _=_;unfold badB;rw [alA h1];rfl
  go_enter Tryz.func80,Tryz.ntmps80
  go_wp2_with (go_at_call 72;refine (pgood_any _ _ _ _ hq hs0 hs1 hc).mono ?_;rintro e w1 ⟨rfl,hb1⟩)
  go_ret
  exact ⟨ret_bool (by rw [hR.out]),hb1⟩
 ·have d1:decide (x.sp≤q)=true:=alA (by omega);have hR:Hid (badB mPrime s x.sp q=true):=by show _=_;unfold badB;rw [alB h1];rfl
  go_enter Tryz.func80,Tryz.ntmps80
  go_wp2_with fail
  go_ret
  exact ⟨ret_bool (by rw [hR.out]),Below.refl _ _⟩
def idxOf (p:Nat→Bool) (l:List Nat):Int:=if l.any p then (l.findIdx p:Int) else -1
theorem idxOf_hit {p:Nat→Bool}  {k:Nat} (hk:k<l.length) (h0: ∀ j (hj:j<k),p (l[j]'(by omega))=false) (h1:p l[k]=true):idxOf p l=k:=by
 have e:l.findIdx p=k:=(List.findIdx_eq hk).2 ⟨h1,h0⟩;unfold idxOf;rw [if_pos (List.any_eq_true.2 ⟨l[k],List.getElem_mem hk,h1⟩),e]
theorem idxOf_miss {p:Nat→Bool}  (h0: ∀ j (hj:j<l.length),p l[j]=false):idxOf p l= -1:=by
 unfold idxOf;rw [if_neg];intro h;obtain ⟨x,hx,hpx⟩:=List.any_eq_true.1 h;obtain ⟨j,hj,rfl⟩:=List.mem_iff_getElem.1 hx;rw [h0 j hj] at hpx;exact absurd hpx (by simp)
theorem idxOf_nonneg (p:Nat→Bool) (l:List Nat):decide (0≤idxOf p l)=l.any p:=by
 unfold idxOf;cases h:l.any p with
 | true=>simp
 | false=>simp
theorem pidx_any (b off cap a f c:Nat) (l:List Nat) (s:Nat) (x:Par) (cv:Value) (w:World) (hl:RowAt w b off l) (hlen:l.length≤140737488351232) (hB:BoxP w a x cv) (ha:a<w.heap.size) (hs0:0<s) (hs1:s≤137438953408)
  (hf:w.cell? ⟨f,0,none⟩=some (.func (.func 72) #[] #[.pointer (some ⟨c,0,none⟩)])) (hfw:f<w.heap.size) (hc:w.cell? ⟨c,0,none⟩=some (.int .i64 s)) (hcw:c<w.heap.size):
  Calls Tryz.prog 115 #[.slice (some ⟨b,off,none⟩) l.length cap, .func (.func 80) #[] #[.pointer (some ⟨a,0,none⟩), .pointer (some ⟨f,0,none⟩)]] w fun r w'=>
   r= .returned (.int .i64 (idxOf (badB mPrime s x.sp) l))∧Below w.heap.size w w':=by
 go_enter Tryz.func115,Tryz.ntmps115
 go_wp2_with fail
 go_loopw [5,8] (fun _ vk wr=> ∃ k:Nat,vk= .int .i64 k∧k≤l.length∧Hid (∀ j (hj:j<k) (hj2:j<l.length),badB mPrime s x.sp l[j]=false)∧Below w.heap.size w wr) (fun _ vk _=>l.length - (intOf vk).toNat)
 case atStart=>exact ⟨0,rfl,by omega,by intro j hj;omega,Below.refl _ _⟩
 case round=>
  obtain ⟨k,rfl,hk,hno,hbel⟩:=hrel;have hsz:=hbel.size;by_cases hlt:k<l.length
  ·have hq:=hl.rng l[k] (List.getElem_mem hlt);have hcell:wr.cell? ⟨b,off+k,none⟩=some (.int .u32 (l[k]:Nat)):=by rw [hbel.cell (p:=⟨b,_,none⟩) hl.blk];exact hl.cell k hlt
   have hB':=Lib.hid (hB.below hbel ha);have hf':Hid (wr.cell? ⟨f,0,none⟩=some (.func (.func 72) #[] #[.pointer (some ⟨c,0,none⟩)])):=by show _=_;rw [hbel.cell (p:=⟨f,0,none⟩) hfw];exact hf
   have hc':Hid (wr.cell? ⟨c,0,none⟩=some (.int .i64 s)):=by show _=_;rw [hbel.cell (p:=⟨c,0,none⟩) hcw];exact hc
   cases hv:badB mPrime s x.sp l[k] with
   | true=>
    have hR:Hid (idxOf (badB mPrime s x.sp) l=k):=idxOf_hit hlt (fun j hj=>hno.out j hj (by omega)) hv;generalize l[k]=q at*;have hv':=Lib.hid hv;clear hv;go_wp2_with (go_at_call 80;refine (pc61_any _ _ _ _ _ _ _ _ hB'.out hq hs0 hs1 hf'.out hc'.out).mono ?_;rintro e w1 ⟨rfl,hb1⟩;rw [hv'.out])
    go_ret
    exact ⟨ret_int (by rw [hR.out]),hbel.trans (hb1.mono hsz)⟩
   | false=>
    have hno':Hid (∀ j (hj:j<k+1) (hj2:j<l.length),badB mPrime s x.sp l[j]=false):=by
     intro j hj hj2;by_cases e:j=k
     ·subst e;exact hv
     ·exact hno.out j (by omega) hj2
    generalize l[k]=q at*;have hv':=Lib.hid hv;clear hv;go_wp2_with (go_at_call 80;refine (pc61_any _ _ _ _ _ _ _ _ hB'.out hq hs0 hs1 hf'.out hc'.out).mono ?_;rintro e w1 ⟨rfl,hb1⟩;rw [hv'.out])
    go_roundw
    case rel=>exact ⟨k+1,by go_num,by omega,hno',hbel.trans (hb1.mono hsz)⟩
    case measure=>simp [intOf];omega
  ·have hR:Hid (idxOf (badB mPrime s x.sp) l= -1):=idxOf_miss (fun j hj=>hno.out j (by omega) hj);go_wp2_with fail
   go_ret
   exact ⟨ret_int (by rw [hR.out]),hbel⟩
end
section
open Go.Shelf Go.Proofs
abbrev srtL (ρ :Ren):List FuncId:=[ρ.f 5, ρ.f 7, ρ.f 8, ρ.f 10, ρ.f 11, ρ.f 12, ρ.f 13, ρ.f 14, ρ.f 15, ρ.f 16, ρ.f 17, ρ.f 18, ρ.f 20, ρ.f 30, ρ.f 31, ρ.f 32, ρ.f 33, ρ.f 34, ρ.f 35, ρ.f 40]
structure SlLaysU.n5 (P:Program) (ρ :Ren):Prop where
 mixed:P.follows .mixedOrders=true
 f5:Bears P (ρ.f 5) (SlBodyM.n5 ρ)
 f7:Bears P (ρ.f 7) (SlBodyM.n7 ρ)
 f8:P.funcs[ρ.f 8]? =some (SlBodyM.n8 ρ)
 f10:Bears P (ρ.f 10) (SlBodyM.n10 ρ)
 f11:Bears P (ρ.f 11) (SlBodyM.n11 ρ)
 f12:Bears P (ρ.f 12) (SlBodyM.n12 ρ)
 f13:Bears P (ρ.f 13) (SlBodyM.n13 ρ)
 f14:Bears P (ρ.f 14) (SlBodyM.n14 ρ)
 f15:Bears P (ρ.f 15) (SlBodyM.n15 ρ)
 f16:Bears P (ρ.f 16) (SlBodyM.n16 ρ)
 f17:Bears P (ρ.f 17) (SlBodyM.n17 ρ)
 f18:Bears P (ρ.f 18) (SlBodyM.n18 ρ)
 f19:P.funcs[ρ.f 19]? =some (SlBodyM.n19 ρ)
 f20:P.funcs[ρ.f 20]? =some (SlBodyM.n20 ρ)
 f30:Bears P (ρ.f 30) (SlBodyM.n30 ρ)
 f31:P.funcs[ρ.f 31]? =some (SlBodyM.n31 ρ)
 f32:P.funcs[ρ.f 32]? =some (SlBodyM.n32 ρ)
 f33:Bears P (ρ.f 33) (SlBodyM.n33 ρ)
 f34:Bears P (ρ.f 34) (SlBodyM.n34 ρ)
 f35:Bears P (ρ.f 35) (SlBodyM.n35 ρ)
 f40:Bears P (ρ.f 40) (SlBodyM.n40 ρ)
 t0:P.underlying (ρ.t 0)=some (TypeDesc.tuple #[])
 a0: ∀ w,(isAgg (ρ.t 0)).run P w= .ok false w
 z0: ∀ w,(Go.sizeOf (ρ.t 0)).run P w= .ok 1 w
 v0: ∀ w,(zeroValue (ρ.t 0)).run P w= .ok (Value.tuple #[]) w
 t3:P.underlying (ρ.t 3)=some (TypeDesc.int IntKind.i64)
 a3: ∀ w,(isAgg (ρ.t 3)).run P w= .ok false w
 z3: ∀ w,(Go.sizeOf (ρ.t 3)).run P w= .ok 1 w
 v3: ∀ w,(zeroValue (ρ.t 3)).run P w= .ok (Value.int IntKind.i64 0) w
 t4:P.underlying (ρ.t 4)=some (TypeDesc.bool)
 a4: ∀ w,(isAgg (ρ.t 4)).run P w= .ok false w
 z4: ∀ w,(Go.sizeOf (ρ.t 4)).run P w= .ok 1 w
 v4: ∀ w,(zeroValue (ρ.t 4)).run P w= .ok (Value.bool false) w
 t5:P.underlying (ρ.t 5)=some (TypeDesc.int IntKind.u8)
 a5: ∀ w,(isAgg (ρ.t 5)).run P w= .ok false w
 z5: ∀ w,(Go.sizeOf (ρ.t 5)).run P w= .ok 1 w
 v5: ∀ w,(zeroValue (ρ.t 5)).run P w= .ok (Value.int IntKind.u8 0) w
 t9:P.underlying (ρ.t 9)=some (TypeDesc.string)
 a9: ∀ w,(isAgg (ρ.t 9)).run P w= .ok false w
 z9: ∀ w,(Go.sizeOf (ρ.t 9)).run P w= .ok 1 w
 v9: ∀ w,(zeroValue (ρ.t 9)).run P w= .ok (Value.string {data:= #[]}) w
 t22:P.underlying (ρ.t 22)=some (TypeDesc.slice (ρ.t 25))
 a22: ∀ w,(isAgg (ρ.t 22)).run P w= .ok false w
 z22: ∀ w,(Go.sizeOf (ρ.t 22)).run P w= .ok 1 w
 v22: ∀ w,(zeroValue (ρ.t 22)).run P w= .ok (Value.slice none 0 0) w
 t23:P.underlying (ρ.t 23)=some (TypeDesc.slice (ρ.t 25))
 a23: ∀ w,(isAgg (ρ.t 23)).run P w= .ok false w
 z23: ∀ w,(Go.sizeOf (ρ.t 23)).run P w= .ok 1 w
 v23: ∀ w,(zeroValue (ρ.t 23)).run P w= .ok (Value.slice none 0 0) w
 t25:P.underlying (ρ.t 25)=some (TypeDesc.int IntKind.u32)
 a25: ∀ w,(isAgg (ρ.t 25)).run P w= .ok false w
 z25: ∀ w,(Go.sizeOf (ρ.t 25)).run P w= .ok 1 w
 v25: ∀ w,(zeroValue (ρ.t 25)).run P w= .ok (Value.int IntKind.u32 0) w
 t32:P.underlying (ρ.t 32)=some (TypeDesc.int IntKind.u64)
 a32: ∀ w,(isAgg (ρ.t 32)).run P w= .ok false w
 z32: ∀ w,(Go.sizeOf (ρ.t 32)).run P w= .ok 1 w
 v32: ∀ w,(zeroValue (ρ.t 32)).run P w= .ok (Value.int IntKind.u64 0) w
 t35:P.underlying (ρ.t 35)=some (TypeDesc.int IntKind.i64)
 a35: ∀ w,(isAgg (ρ.t 35)).run P w= .ok false w
 z35: ∀ w,(Go.sizeOf (ρ.t 35)).run P w= .ok 1 w
 v35: ∀ w,(zeroValue (ρ.t 35)).run P w= .ok (Value.int IntKind.i64 0) w
 t36:P.underlying (ρ.t 36)=some (TypeDesc.tuple #[ρ.t 3, ρ.t 35])
 a36: ∀ w,(isAgg (ρ.t 36)).run P w= .ok false w
 z36: ∀ w,(Go.sizeOf (ρ.t 36)).run P w= .ok 1 w
 v36: ∀ w,(zeroValue (ρ.t 36)).run P w= .ok (Value.tuple #[Value.int IntKind.i64 0,Value.int IntKind.i64 0]) w
 t41:P.underlying (ρ.t 41)=some (TypeDesc.tuple #[ρ.t 3, ρ.t 4])
 a41: ∀ w,(isAgg (ρ.t 41)).run P w= .ok false w
 z41: ∀ w,(Go.sizeOf (ρ.t 41)).run P w= .ok 1 w
 v41: ∀ w,(zeroValue (ρ.t 41)).run P w= .ok (Value.tuple #[Value.int IntKind.i64 0,Value.bool false]) w
 t44:P.underlying (ρ.t 44)=some (TypeDesc.int IntKind.u32)
 a44: ∀ w,(isAgg (ρ.t 44)).run P w= .ok false w
 z44: ∀ w,(Go.sizeOf (ρ.t 44)).run P w= .ok 1 w
 v44: ∀ w,(zeroValue (ρ.t 44)).run P w= .ok (Value.int IntKind.u32 0) w
 t46:P.underlying (ρ.t 46)=some (TypeDesc.int IntKind.u64)
 a46: ∀ w,(isAgg (ρ.t 46)).run P w= .ok false w
 z46: ∀ w,(Go.sizeOf (ρ.t 46)).run P w= .ok 1 w
 v46: ∀ w,(zeroValue (ρ.t 46)).run P w= .ok (Value.int IntKind.u64 0) w
 t53:P.underlying (ρ.t 53)=some (TypeDesc.int IntKind.u64)
 a53: ∀ w,(isAgg (ρ.t 53)).run P w= .ok false w
 z53: ∀ w,(Go.sizeOf (ρ.t 53)).run P w= .ok 1 w
 v53: ∀ w,(zeroValue (ρ.t 53)).run P w= .ok (Value.int IntKind.u64 0) w
 t57:P.underlying (ρ.t 57)=some (TypeDesc.pointer (ρ.t 3))
 a57: ∀ w,(isAgg (ρ.t 57)).run P w= .ok false w
 z57: ∀ w,(Go.sizeOf (ρ.t 57)).run P w= .ok 1 w
 v57: ∀ w,(zeroValue (ρ.t 57)).run P w= .ok (Value.pointer none) w
 t63:P.underlying (ρ.t 63)=some (TypeDesc.pointer (ρ.t 53))
 a63: ∀ w,(isAgg (ρ.t 63)).run P w= .ok false w
 z63: ∀ w,(Go.sizeOf (ρ.t 63)).run P w= .ok 1 w
 v63: ∀ w,(zeroValue (ρ.t 63)).run P w= .ok (Value.pointer none) w
 t64:P.underlying (ρ.t 64)=some (TypeDesc.tuple #[ρ.t 3, ρ.t 3])
 a64: ∀ w,(isAgg (ρ.t 64)).run P w= .ok false w
 z64: ∀ w,(Go.sizeOf (ρ.t 64)).run P w= .ok 1 w
 v64: ∀ w,(zeroValue (ρ.t 64)).run P w= .ok (Value.tuple #[Value.int IntKind.i64 0,Value.int IntKind.i64 0]) w
end
section
open Go.Proofs
abbrev encU:Int→Value:=Value.int .u32
section
open Go.Shelf
variable {P:Program} {ρ :Ren}
theorem AnySM.cmp_isNaN_intIn (Ly:SlLaysU.n5 P ρ) (D:Nat) (x:Int) (w:World):CallsIn (Fence.list (srtL ρ) (some D)) 0 P (ρ.f 35) #[.int .u32 x] w fun e w'=>e= .returned (.bool false)∧w'=w:=by
 have mixed:=Ly.mixed;have t4:=Ly.t4;have a4:=Ly.a4;have z4:=Ly.z4;have v4:=Ly.v4;have t25:=Ly.t25;have a25:=Ly.a25;have z25:=Ly.z25;have v25:=Ly.v25;obtain ⟨_,_,FG⟩:=Ly.f35;gi_enter FG,SlBodyM.n35_ntmps ρ
 gi_wp2
 go_ret
 exact ⟨by simp,rfl⟩
theorem AnySM.cmp_Less_intIn (Ly:SlLaysU.n5 P ρ) (D:Nat) (x y:Int) (w:World):CallsIn (Fence.list (srtL ρ) (some D)) 1 P (ρ.f 16) #[.int .u32 x, .int .u32 y] w fun e w'=>e= .returned (.bool (Sort.ltInt x y))∧w'=w:=by
 have mixed:=Ly.mixed;have t4:=Ly.t4;have a4:=Ly.a4;have z4:=Ly.z4;have v4:=Ly.v4;have t25:=Ly.t25;have a25:=Ly.a25;have z25:=Ly.z25;have v25:=Ly.v25;have e215: ∀ args w,(callFunc (ρ.f 35) args).run P w= .ok (.enter (ρ.f 35) args) w:=Ly.f35.enters rfl;obtain ⟨_,_,FG⟩:=Ly.f16;gi_enter FG,SlBodyM.n16_ntmps ρ
 gi_wp2_with (gi_at_fn (ρ.f 35);refine (AnySM.cmp_isNaN_intIn {Ly with} D _ _).mono ?_;rintro e w' ⟨rfl,rfl⟩)
 go_ret
 exact ⟨rfl,rfl⟩
end
section
open Go.Shelf
variable {P:Program} {ρ :Ren}
open Go.RowKit Go.Sort
section
variable {α:Type} [Inhabited α] (lt:α→α→Bool)
end
section
variable {α:Type} [Inhabited α] (enc:α→Value)
end
theorem AnySM.insertionSort_intIn (Ly:SlLaysU.n5 P ρ) (D:Nat) (blk off cap a b:Nat) (d:Array Int) (w:World) (hH:Holds (Value.int .u32) w blk off d) (hab:a≤b) (hb:b≤d.size) (hsz:d.size<4611686018427387904):
  CallsIn (Fence.list (srtL ρ) (some D)) 2 P (ρ.f 10) #[.slice (some ⟨blk,off,none⟩) d.size cap, .int .i64 a, .int .i64 b] w fun e w'=>
   e= .returned (.tuple #[])∧ ∃ n,w'=putRow (Value.int .u32) (Sort.ahead w n) blk off (Sort.insertionSort ltInt d a b):=by
 have mixed:=Ly.mixed;have t0:=Ly.t0;have a0:=Ly.a0;have z0:=Ly.z0;have v0:=Ly.v0;have t3:=Ly.t3;have a3:=Ly.a3;have z3:=Ly.z3;have v3:=Ly.v3;have t4:=Ly.t4;have a4:=Ly.a4;have z4:=Ly.z4;have v4:=Ly.v4;have t22:=Ly.t22;have a22:=Ly.a22;have z22:=Ly.z22;have v22:=Ly.v22;have t25:=Ly.t25;have a25:=Ly.a25;have z25:=Ly.z25;have v25:=Ly.v25;have e216: ∀ args w,(callFunc (ρ.f 16) args).run P w= .ok (.enter (ρ.f 16) args) w:=Ly.f16.enters rfl;obtain ⟨_,_,FG⟩:=Ly.f10;gi_enter FG,SlBodyM.n10_ntmps ρ
 gi_wp2
 gi_loopw [6] (fun vi wr=> ∃ (i n:Nat) (dk:Array Int),vi= .int .i64 i∧a<i∧i≤b+1∧dk.size=d.size∧wr=putRow (Value.int .u32) (Sort.ahead w n) blk off dk∧
   insOuter ltInt a b i dk=insOuter ltInt a b (a+1) d) (fun vi _=>b+1 - (intOf vi).toNat)
 case atStart=>exact ⟨a+1,0,d,by go_num,by omega,by omega,rfl,(putRow_self _ _ _ _ _ hH).symm,rfl⟩
 case round=>
  obtain ⟨i,n,dk,rfl,hai,hib,hsk,hwr,hO⟩:=hrel;have HO:Hid (insOuter ltInt a b i dk=insOuter ltInt a b (a+1) d):=hO;clear hO;gi_wp2
  ·
   gi_loopw [7] (fun vj wr2=> ∃ (j m:Nat) (dj:Array Int),vj= .int .i64 j∧a≤j∧j≤i∧dj.size=d.size∧wr2=putRow (Value.int .u32) (Sort.ahead w m) blk off dj∧
     insInner ltInt a j dj=insInner ltInt a i dk) (fun vj _=>(intOf vj).toNat)
   case atStart=>exact ⟨i,n,dk,rfl,by omega,Nat.le_refl _,hsk,rfl,rfl⟩
   case round=>
    obtain ⟨j,m,dj,rfl,haj,hji,hsj,hw2,hI⟩:=hrel;have hlt:i<b:=by assumption
    obtain ⟨G,hG⟩: ∃ G:Nat→Int, ∀ t,G t=dj[t]! :=⟨fun t=>dj[t]!,fun _=>rfl⟩
    have hcw: ∀ t,t<d.size→wr.cell? ⟨blk,off+t,none⟩=some (.int .u32 (G t)):=fun t ht=>by
     rw [hw2,hG];exact cell?_putRow _ _ _ _ d dj (holds_ahead _ _ _ _ _ _ hH) hsj t (by omega)
    have hfw: ∀ t,t<d.size→wr.frozen? ⟨blk,off+t,none⟩=false:=fun t ht=>by
     rw [hw2,frozen?_putRow];exact ((holds_ahead _ _ m _ _ _ hH) t ht).2
    have HW:Hid (wr=putRow (Value.int .u32) (Sort.ahead w m) blk off dj):=hw2;have HG:Hid (∀ t,G t=dj[t]!):=hG;have HI:Hid (insInner ltInt a j dj=insInner ltInt a i dk):=hI;clear hw2 hG hI hH;have out:(j≤a∨ltInt dj[j]! dj[j - 1]! =false)→ ∀ q, ∃ i' n' dk',Value.int .i64 ((i:Int)+1)= .int .i64 (i':Nat)∧a<i'∧i'≤b+1∧dk'.size=d.size∧
      wr.drewN q=putRow (Value.int .u32) (Sort.ahead w n') blk off dk'∧insOuter ltInt a b i' dk'=insOuter ltInt a b (a+1) d:=fun hs q=>
     ⟨i+1,m+q,dj,by go_num,by omega,by omega,hsj,by rw [HW.out];exact putRow_drewN _ _ _ _ _ _ _,
      by rw [←HO.out,insOuter_go _ _ _ _ _ hlt, ←HI.out,insInner_stop _ _ _ _ hs]⟩
    have OUT:Hid _:=out;clear out;gi_wp2
    by_cases hja:a<j
    ·gi_big_quiet_th_o (first | (gi_at_fn (ρ.f 16);refine CallsIn.quiet_of_same (AnySM.cmp_Less_intIn {Ly with} D _ _ _)))
     gi_wp2
     ·
      have hl:ltInt (G j) (G (j - 1))=true:=by assumption
      gi_region_o
      all_goals gi_wp2
      go_roundw
      case rel=>
       refine ⟨j - 1,m+(nq+1),swp dj j (j - 1),by congr 1;omega,by omega,by omega,by rw [size_swp];exact hsj,?_,?_⟩
       ·rw [HW.out,HG.out,HG.out];exact swap_worldA _ w m (nq+1) blk off dj j (j - 1) (by omega) (by omega)
       ·rw [←HI.out,insInner_go ltInt a j dj hja (by rw [←HG.out, ←HG.out];exact hl)]
      case measure=>simp [intOf];omega
     ·
      have hl:ltInt (G j) (G (j - 1))=false:=by assumption
      go_roundw
      case rel=>exact OUT.out (Or.inr (by rw [←HG.out, ←HG.out];exact hl)) nq
      case measure=>simp [intOf];omega
    ·gi_big_quiet_th_o (first | (gi_at_fn (ρ.f 16);refine CallsIn.quiet_of_same (AnySM.cmp_Less_intIn {Ly with} D _ _ _)))
     gi_wp2
     go_roundw
     case rel=>exact OUT.out (Or.inl (by omega)) nq
     case measure=>simp [intOf];omega
  ·
   have hge: ¬ i<b:=by assumption
   go_end0
   exact ⟨rfl,n,by unfold Sort.insertionSort;rw [←HO.out,insOuter_stop _ _ _ _ _ hge]⟩
end
section
open Go.Shelf
variable {P:Program} {ρ :Ren}
open Go.RowKit Go.Sort
section
variable {α:Type} [Inhabited α] (lt:α→α→Bool)
end
section
variable {α:Type} [Inhabited α] (lt:α→α→Bool)
end
theorem AnySM.partialInsertionSort_intIn (Ly : SlLaysU.n5 P ρ) (D : Nat) (blk off cap a b : Nat) (d : Array Int) (w : World) (hH : Holds (Value.int .u32) w blk off d) (hab : a < b) (hb : b ≤ d.size) (hsz : d.size < 4611686018427387904) :
    CallsIn (Fence.list (srtL ρ) (some D)) 2 P (ρ.f 15) #[.slice (some ⟨blk, off, none⟩) d.size cap, .int .i64 a, .int .i64 b] w fun e w' =>
      e = .returned (.bool (Sort.partialInsertionSort ltInt d a b).2) ∧ ∃ n, w' = putRow (Value.int .u32) (Sort.ahead w n) blk off (Sort.partialInsertionSort ltInt d a b).1 := by
  have HH : Hid (Holds (Value.int .u32) w blk off d) := hH;have HST : Hid (w = putRow (Value.int .u32) (Sort.ahead w 0) blk off d) := (putRow_self _ _ _ _ _ hH).symm;clear hH;have mixed := Ly.mixed;have t0 := Ly.t0; have a0 := Ly.a0; have z0 := Ly.z0; have v0 := Ly.v0; have t3 := Ly.t3; have a3 := Ly.a3; have z3 := Ly.z3; have v3 := Ly.v3; have t4 := Ly.t4; have a4 := Ly.a4; have z4 := Ly.z4; have v4 := Ly.v4; have t22 := Ly.t22; have a22 := Ly.a22; have z22 := Ly.z22; have v22 := Ly.v22; have t25 := Ly.t25; have a25 := Ly.a25; have z25 := Ly.z25; have v25 := Ly.v25;have e216 : ∀ args w, (callFunc (ρ.f 16) args).run P w = .ok (.enter (ρ.f 16) args) w := Ly.f16.enters rfl;obtain ⟨_, _, FG⟩ := Ly.f15;gi_enter FG, SlBodyM.n15_ntmps ρ
  gi_wp2
  gi_loopw [7, 8] (fun vi vs wr => ∃ (i s n : Nat) (dk : Array Int), vi = .int .i64 i ∧ vs = .int .i64 s ∧ s ≤ 5 ∧ a < i ∧ i ≤ b ∧ dk.size = d.size ∧ wr = putRow (Value.int .u32) (Sort.ahead w n) blk off dk ∧
      partialIns ltInt a b (5 - s) i dk = partialIns ltInt a b 5 (a + 1) d) (fun _ vs _ => 5 - (intOf vs).toNat)
  case atStart => exact ⟨a + 1, 0, 0, d, by go_num, rfl, by omega, by omega, by omega, rfl, HST.out, rfl⟩
  case round =>
    obtain ⟨i, s, n, dk, rfl, rfl, hs5, hai, hib, hsk, hwr, hO⟩ := hrel;have HO : Hid (partialIns ltInt a b (5 - s) i dk = partialIns ltInt a b 5 (a + 1) d) := hO;clear hO;gi_wp2
    ·
      have hs : s < 5 := by omega
      gi_loopw [7] (fun vi wr2 => ∃ (k m : Nat), vi = .int .i64 k ∧ i ≤ k ∧ k ≤ b ∧ wr2 = putRow (Value.int .u32) (Sort.ahead w m) blk off dk ∧ scanSorted ltInt dk b k = scanSorted ltInt dk b i) (fun vi _ => b - (intOf vi).toNat)
      case atStart => exact ⟨i, n, rfl, Nat.le_refl _, hib, rfl, rfl⟩
      case round =>
        obtain ⟨k, m, rfl, hik, hkb, hw2, hS⟩ := hrel;obtain ⟨G, hG⟩ : ∃ G : Nat → Int, ∀ t, G t = dk[t]! := ⟨fun t => dk[t]!, fun _ => rfl⟩
        have hcw : ∀ t, t < d.size → wr.cell? ⟨blk, off + t, none⟩ = some (.int .u32 (G t)) := fun t ht => by
          rw [hw2, hG]; exact cell?_putRow _ _ _ _ d dk (holds_ahead _ _ _ _ _ _ HH.out) hsk t (by omega)
        have hfw : ∀ t, t < d.size → wr.frozen? ⟨blk, off + t, none⟩ = false := fun t ht => by
          rw [hw2, frozen?_putRow]; exact ((holds_ahead _ _ m _ _ _ HH.out) t ht).2
        have HW : Hid (wr = putRow (Value.int .u32) (Sort.ahead w m) blk off dk) := hw2;have HG : Hid (∀ t, G t = dk[t]!) := hG;have HS : Hid (scanSorted ltInt dk b k = scanSorted ltInt dk b i) := hS;clear hw2 hG hS;gi_wp2
        by_cases hkb' : k < b
        · gi_big_quiet_th_o (first | (gi_at_fn (ρ.f 16); refine CallsIn.quiet_of_same (AnySM.cmp_Less_intIn { Ly with } D _ _ _)))
          gi_wp2
          all_goals first
            | (at_end
               have hl : ltInt (G k) (G (k - 1)) = false := by
                 have h : (!ltInt (G k) (G (k - 1))) = true := by assumption
                 simpa using h
               go_roundw
               case rel => exact ⟨k + 1, m + nq, by go_num, by omega, by omega, by rw [HW.out]; exact putRow_drewN _ _ _ _ _ _ _, by rw [← HS.out, scanSorted_go ltInt dk b k hkb' (by rw [← HG.out, ← HG.out]; exact hl)]⟩
               case measure => simp [intOf]; omega)
            | (have hl : ltInt (G k) (G (k - 1)) = true := by
                 have h : (!ltInt (G k) (G (k - 1))) = false := by assumption
                 simpa using h
               have HK : Hid (scanSorted ltInt dk b i = k) := by
                 show scanSorted ltInt dk b i = k;rw [← HS.out, scanSorted_stop ltInt dk b k (Or.inr (by rw [← HG.out, ← HG.out]; exact hl))]
               first
                 | (at_ret
                    have hv : Sort.partialInsertionSort ltInt d a b = (dk, false) := by
                      unfold Sort.partialInsertionSort;rw [← HO.out, pi_short ltInt a b s i dk hs (by rw [HK.out]; omega) (by omega)]
                    rw [hv];go_ret
                    exact ⟨rfl, m + nq, by rw [HW.out]; exact putRow_drewN _ _ _ _ _ _ _⟩)
                 | (ati_region_m 11
                    have h50 : ¬ b - a < 50 := by omega
                    gi_region_o
                    have hsw : ((wr.drewN (nq + 1)).setCell ⟨blk, off + k, none⟩ (.int .u32 (G (k - 1)))).setCell ⟨blk, off + (k - 1), none⟩ (.int .u32 (G k)) = putRow (Value.int .u32) (Sort.ahead w (m + (nq + 1))) blk off (swp dk k (k - 1)) := by
                      rw [HW.out, HG.out, HG.out];exact swap_worldA _ w m (nq + 1) blk off dk k (k - 1) (by omega) (by omega)
                    have hs1 : (swp dk k (k - 1)).size = d.size := by rw [size_swp]; exact hsk
                    gi_wp2
                    all_goals first
                      | (ati_loop_m
                         have hka : k - a ≥ 2 := by omega
                         gi_loopw [9] (fun vj wr2 => ∃ (j m2 : Nat) (dj : Array Int), vj = .int .i64 j ∧ j ≤ k - 1 ∧ dj.size = d.size ∧ wr2 = putRow (Value.int .u32) (Sort.ahead w m2) blk off dj ∧
                             shiftDown ltInt j dj = shiftDown ltInt (k - 1) (swp dk k (k - 1))) (fun vj _ => (intOf vj).toNat)
                         case atStart => exact ⟨k - 1, _, (swp dk k (k - 1)), by congr 1; omega, Nat.le_refl _, hs1, rfl, rfl⟩
                         case round =>
                           obtain ⟨j, m2, dj, rfl, hjk, hsj, hw2, hDn⟩ := hrel;obtain ⟨G, hG⟩ : ∃ G : Nat → Int, ∀ t, G t = dj[t]! := ⟨fun t => dj[t]!, fun _ => rfl⟩
                           have hcw : ∀ t, t < d.size → wr.cell? ⟨blk, off + t, none⟩ = some (.int .u32 (G t)) := fun t ht => by
                             rw [hw2, hG]; exact cell?_putRow _ _ _ _ d dj (holds_ahead _ _ _ _ _ _ HH.out) hsj t (by omega)
                           have hfw : ∀ t, t < d.size → wr.frozen? ⟨blk, off + t, none⟩ = false := fun t ht => by
                             rw [hw2, frozen?_putRow]; exact ((holds_ahead _ _ m2 _ _ _ HH.out) t ht).2
                           have HW : Hid (wr = putRow (Value.int .u32) (Sort.ahead w m2) blk off dj) := hw2;have HG : Hid (∀ t, G t = dj[t]!) := hG;have HDn : Hid (shiftDown ltInt j dj = shiftDown ltInt (k - 1) (swp dk k (k - 1))) := hDn;clear hw2 hG hDn hsw;gi_wp2
                           all_goals first
                             | (ati_region_m 16
                                gi_big_quiet_th_o (first | (gi_at_fn (ρ.f 16); refine CallsIn.quiet_of_same (AnySM.cmp_Less_intIn { Ly with } D _ _ _)))
                                gi_wp2
                                all_goals first
                                  | (ati_region_m 17
                                     have hl : ltInt (G j) (G (j - 1)) = true := by
                                       have h : (!ltInt (G j) (G (j - 1))) = false := by assumption
                                       simpa using h
                                     gi_region_o
                                     all_goals gi_wp2
                                     go_roundw
                                     case rel =>
                                       refine ⟨j - 1, m2 + (nq + 1), swp dj j (j - 1), by congr 1; omega, by omega, by rw [size_swp]; exact hsj, ?_, ?_⟩
                                       · rw [HW.out, HG.out, HG.out]
                                         exact swap_worldA _ w m2 (nq + 1) blk off dj j (j - 1) (by omega) (by omega)
                                       · rw [← HDn.out, shiftDown_go ltInt j dj (by omega) (by rw [← HG.out, ← HG.out]; exact hl)]
                                     case measure => simp [intOf]; omega)
                                  | (
                                     have hl : ltInt (G j) (G (j - 1)) = false := by
                                       have h : (!ltInt (G j) (G (j - 1))) = true := by assumption
                                       simpa using h
                                     have HD : Hid (fixDown ltInt a k (swp dk k (k - 1)) = dj) := by
                                       show fixDown ltInt a k (swp dk k (k - 1)) = dj;unfold fixDown; rw [if_pos hka, ← HDn.out, shiftDown_stop ltInt j dj (Or.inr (by rw [← HG.out, ← HG.out]; exact hl))]
                                     first
                                       | (at_end
                                          go_roundw
                                          case rel =>
                                            refine ⟨k, s + 1, _, dj, rfl, by go_num, by omega, by omega, by omega, hsj, (by first | rfl | exact HW.out | (rw [HW.out]; exact putRow_drewN _ _ _ _ _ _ _)), ?_⟩;rw [← HO.out, pi_go ltInt a b s i k dk hs HK.out (by omega) (by omega), HD.out, show fixUp ltInt b k dj = dj from by unfold fixUp; rw [if_neg (by omega)]]
                                          case measure => simp [intOf]; omega)
                                       | (ati_loop_m
                                          gi_loopw [10] (fun vj wr2 => ∃ (j m3 : Nat) (du : Array Int), vj = .int .i64 j ∧ k + 1 ≤ j ∧ j ≤ b ∧ du.size = d.size ∧ wr2 = putRow (Value.int .u32) (Sort.ahead w m3) blk off du ∧
                                              shiftUp ltInt b j du = shiftUp ltInt b (k + 1) dj) (fun vj _ => b - (intOf vj).toNat)
                                          case atStart => exact ⟨k + 1, _, dj, by go_num, Nat.le_refl _, by omega, hsj, (by first | rfl | exact HW.out | (rw [HW.out]; exact putRow_drewN _ _ _ _ _ _ _)), rfl⟩
                                          case round =>
                                            obtain ⟨j, m3, du, rfl, hkj, hjb, hsu, hw3, hU⟩ := hrel;obtain ⟨G, hG⟩ : ∃ G : Nat → Int, ∀ t, G t = du[t]! := ⟨fun t => du[t]!, fun _ => rfl⟩
                                            have hcw : ∀ t, t < d.size → wr.cell? ⟨blk, off + t, none⟩ = some (.int .u32 (G t)) := fun t ht => by
                                              rw [hw3, hG]; exact cell?_putRow _ _ _ _ d du (holds_ahead _ _ _ _ _ _ HH.out) hsu t (by omega)
                                            have hfw : ∀ t, t < d.size → wr.frozen? ⟨blk, off + t, none⟩ = false := fun t ht => by
                                              rw [hw3, frozen?_putRow]; exact ((holds_ahead _ _ m3 _ _ _ HH.out) t ht).2
                                            have HW : Hid (wr = putRow (Value.int .u32) (Sort.ahead w m3) blk off du) := hw3;have HG : Hid (∀ t, G t = du[t]!) := hG;have HU : Hid (shiftUp ltInt b j du = shiftUp ltInt b (k + 1) dj) := hU;clear hw3 hG hU;gi_wp2
                                            all_goals first
                                              | (ati_region_m 22
                                                 gi_big_quiet_th_o (first | (gi_at_fn (ρ.f 16); refine CallsIn.quiet_of_same (AnySM.cmp_Less_intIn { Ly with } D _ _ _)))
                                                 gi_wp2
                                                 all_goals first
                                                   | (ati_region_m 23
                                                      have hl : ltInt (G j) (G (j - 1)) = true := by
                                                        have h : (!ltInt (G j) (G (j - 1))) = false := by assumption
                                                        simpa using h
                                                      gi_region_o
                                                      all_goals gi_wp2
                                                      go_roundw
                                                      case rel =>
                                                        refine ⟨j + 1, m3 + (nq + 1), swp du j (j - 1), by go_num, by omega, by omega, by rw [size_swp]; exact hsu, ?_, ?_⟩
                                                        · rw [HW.out, HG.out, HG.out]
                                                          exact swap_worldA _ w m3 (nq + 1) blk off du j (j - 1) (by omega) (by omega)
                                                        · rw [← HU.out, shiftUp_go ltInt b j du (by omega) (by rw [← HG.out, ← HG.out]; exact hl)]
                                                      case measure => simp [intOf]; omega)
                                                   | (at_end
                                                      have hl : ltInt (G j) (G (j - 1)) = false := by
                                                        have h : (!ltInt (G j) (G (j - 1))) = true := by assumption
                                                        simpa using h
                                                      go_roundw
                                                      case rel =>
                                                        refine ⟨k, s + 1, _, du, rfl, by go_num, by omega, by omega, by omega, hsu, (by first | rfl | exact HW.out | (rw [HW.out]; exact putRow_drewN _ _ _ _ _ _ _)), ?_⟩;rw [← HO.out, pi_go ltInt a b s i k dk hs HK.out (by omega) (by omega), HD.out, show fixUp ltInt b k dj = du from by unfold fixUp; rw [if_pos (by omega), ← HU.out, shiftUp_stop ltInt b j du (Or.inr (by rw [← HG.out, ← HG.out]; exact hl))]]
                                                      case measure => simp [intOf]; omega))
                                              | (at_end
                                                 go_roundw
                                                 case rel =>
                                                   refine ⟨k, s + 1, _, du, rfl, by go_num, by omega, by omega, by omega, hsu, (by first | rfl | exact HW.out | (rw [HW.out]; exact putRow_drewN _ _ _ _ _ _ _)), ?_⟩;rw [← HO.out, pi_go ltInt a b s i k dk hs HK.out (by omega) (by omega), HD.out, show fixUp ltInt b k dj = du from by unfold fixUp; rw [if_pos (by omega), ← HU.out, shiftUp_stop ltInt b j du (Or.inl (by omega))]]
                                                 case measure => simp [intOf]; omega))))
                             | (
                                have HD : Hid (fixDown ltInt a k (swp dk k (k - 1)) = dj) := by
                                  show fixDown ltInt a k (swp dk k (k - 1)) = dj;unfold fixDown; rw [if_pos hka, ← HDn.out, shiftDown_stop ltInt j dj (Or.inl (by omega))]
                                first
                                  | (at_end
                                     go_roundw
                                     case rel =>
                                       refine ⟨k, s + 1, _, dj, rfl, by go_num, by omega, by omega, by omega, hsj, (by first | rfl | exact HW.out | (rw [HW.out]; exact putRow_drewN _ _ _ _ _ _ _)), ?_⟩;rw [← HO.out, pi_go ltInt a b s i k dk hs HK.out (by omega) (by omega), HD.out, show fixUp ltInt b k dj = dj from by unfold fixUp; rw [if_neg (by omega)]]
                                     case measure => simp [intOf]; omega)
                                  | (ati_loop_m
                                     gi_loopw [10] (fun vj wr2 => ∃ (j m3 : Nat) (du : Array Int), vj = .int .i64 j ∧ k + 1 ≤ j ∧ j ≤ b ∧ du.size = d.size ∧ wr2 = putRow (Value.int .u32) (Sort.ahead w m3) blk off du ∧
                                         shiftUp ltInt b j du = shiftUp ltInt b (k + 1) dj) (fun vj _ => b - (intOf vj).toNat)
                                     case atStart => exact ⟨k + 1, _, dj, by go_num, Nat.le_refl _, by omega, hsj, (by first | rfl | exact HW.out | (rw [HW.out]; exact putRow_drewN _ _ _ _ _ _ _)), rfl⟩
                                     case round =>
                                       obtain ⟨j, m3, du, rfl, hkj, hjb, hsu, hw3, hU⟩ := hrel;obtain ⟨G, hG⟩ : ∃ G : Nat → Int, ∀ t, G t = du[t]! := ⟨fun t => du[t]!, fun _ => rfl⟩
                                       have hcw : ∀ t, t < d.size → wr.cell? ⟨blk, off + t, none⟩ = some (.int .u32 (G t)) := fun t ht => by
                                         rw [hw3, hG]; exact cell?_putRow _ _ _ _ d du (holds_ahead _ _ _ _ _ _ HH.out) hsu t (by omega)
                                       have hfw : ∀ t, t < d.size → wr.frozen? ⟨blk, off + t, none⟩ = false := fun t ht => by
                                         rw [hw3, frozen?_putRow]; exact ((holds_ahead _ _ m3 _ _ _ HH.out) t ht).2
                                       have HW : Hid (wr = putRow (Value.int .u32) (Sort.ahead w m3) blk off du) := hw3;have HG : Hid (∀ t, G t = du[t]!) := hG;have HU : Hid (shiftUp ltInt b j du = shiftUp ltInt b (k + 1) dj) := hU;clear hw3 hG hU;gi_wp2
                                       all_goals first
                                         | (ati_region_m 22
                                            gi_big_quiet_th_o (first | (gi_at_fn (ρ.f 16); refine CallsIn.quiet_of_same (AnySM.cmp_Less_intIn { Ly with } D _ _ _)))
                                            gi_wp2
                                            all_goals first
                                              | (ati_region_m 23
                                                 have hl : ltInt (G j) (G (j - 1)) = true := by
                                                   have h : (!ltInt (G j) (G (j - 1))) = false := by assumption
                                                   simpa using h
                                                 gi_region_o
                                                 all_goals gi_wp2
                                                 go_roundw
                                                 case rel =>
                                                   refine ⟨j + 1, m3 + (nq + 1), swp du j (j - 1), by go_num, by omega, by omega, by rw [size_swp]; exact hsu, ?_, ?_⟩
                                                   · rw [HW.out, HG.out, HG.out]
                                                     exact swap_worldA _ w m3 (nq + 1) blk off du j (j - 1) (by omega) (by omega)
                                                   · rw [← HU.out, shiftUp_go ltInt b j du (by omega) (by rw [← HG.out, ← HG.out]; exact hl)]
                                                 case measure => simp [intOf]; omega)
                                              | (at_end
                                                 have hl : ltInt (G j) (G (j - 1)) = false := by
                                                   have h : (!ltInt (G j) (G (j - 1))) = true := by assumption
                                                   simpa using h
                                                 go_roundw
                                                 case rel =>
                                                   refine ⟨k, s + 1, _, du, rfl, by go_num, by omega, by omega, by omega, hsu, (by first | rfl | exact HW.out | (rw [HW.out]; exact putRow_drewN _ _ _ _ _ _ _)), ?_⟩;rw [← HO.out, pi_go ltInt a b s i k dk hs HK.out (by omega) (by omega), HD.out, show fixUp ltInt b k dj = du from by unfold fixUp; rw [if_pos (by omega), ← HU.out, shiftUp_stop ltInt b j du (Or.inr (by rw [← HG.out, ← HG.out]; exact hl))]]
                                                 case measure => simp [intOf]; omega))
                                         | (at_end
                                            go_roundw
                                            case rel =>
                                              refine ⟨k, s + 1, _, du, rfl, by go_num, by omega, by omega, by omega, hsu, (by first | rfl | exact HW.out | (rw [HW.out]; exact putRow_drewN _ _ _ _ _ _ _)), ?_⟩;rw [← HO.out, pi_go ltInt a b s i k dk hs HK.out (by omega) (by omega), HD.out, show fixUp ltInt b k dj = du from by unfold fixUp; rw [if_pos (by omega), ← HU.out, shiftUp_stop ltInt b j du (Or.inl (by omega))]]
                                            case measure => simp [intOf]; omega))))
                      | (
                         have HD : Hid (fixDown ltInt a k (swp dk k (k - 1)) = (swp dk k (k - 1))) := by
                           show fixDown ltInt a k (swp dk k (k - 1)) = (swp dk k (k - 1));unfold fixDown; rw [if_neg (by omega)]
                         first
                           | (at_end
                              go_roundw
                              case rel =>
                                refine ⟨k, s + 1, _, (swp dk k (k - 1)), rfl, by go_num, by omega, by omega, by omega, hs1, (by first | rfl | exact HW.out | (rw [HW.out]; exact putRow_drewN _ _ _ _ _ _ _)), ?_⟩;rw [← HO.out, pi_go ltInt a b s i k dk hs HK.out (by omega) (by omega), HD.out, show fixUp ltInt b k (swp dk k (k - 1)) = (swp dk k (k - 1)) from by unfold fixUp; rw [if_neg (by omega)]]
                              case measure => simp [intOf]; omega)
                           | (ati_loop_m
                              gi_loopw [10] (fun vj wr2 => ∃ (j m3 : Nat) (du : Array Int), vj = .int .i64 j ∧ k + 1 ≤ j ∧ j ≤ b ∧ du.size = d.size ∧ wr2 = putRow (Value.int .u32) (Sort.ahead w m3) blk off du ∧
                                  shiftUp ltInt b j du = shiftUp ltInt b (k + 1) (swp dk k (k - 1))) (fun vj _ => b - (intOf vj).toNat)
                              case atStart => exact ⟨k + 1, _, (swp dk k (k - 1)), by go_num, Nat.le_refl _, by omega, hs1, (by first | rfl | exact HW.out | (rw [HW.out]; exact putRow_drewN _ _ _ _ _ _ _)), rfl⟩
                              case round =>
                                obtain ⟨j, m3, du, rfl, hkj, hjb, hsu, hw3, hU⟩ := hrel;obtain ⟨G, hG⟩ : ∃ G : Nat → Int, ∀ t, G t = du[t]! := ⟨fun t => du[t]!, fun _ => rfl⟩
                                have hcw : ∀ t, t < d.size → wr.cell? ⟨blk, off + t, none⟩ = some (.int .u32 (G t)) := fun t ht => by
                                  rw [hw3, hG]; exact cell?_putRow _ _ _ _ d du (holds_ahead _ _ _ _ _ _ HH.out) hsu t (by omega)
                                have hfw : ∀ t, t < d.size → wr.frozen? ⟨blk, off + t, none⟩ = false := fun t ht => by
                                  rw [hw3, frozen?_putRow]; exact ((holds_ahead _ _ m3 _ _ _ HH.out) t ht).2
                                have HW : Hid (wr = putRow (Value.int .u32) (Sort.ahead w m3) blk off du) := hw3;have HG : Hid (∀ t, G t = du[t]!) := hG;have HU : Hid (shiftUp ltInt b j du = shiftUp ltInt b (k + 1) (swp dk k (k - 1))) := hU;clear hw3 hG hU;gi_wp2
                                all_goals first
                                  | (ati_region_m 22
                                     gi_big_quiet_th_o (first | (gi_at_fn (ρ.f 16); refine CallsIn.quiet_of_same (AnySM.cmp_Less_intIn { Ly with } D _ _ _)))
                                     gi_wp2
                                     all_goals first
                                       | (ati_region_m 23
                                          have hl : ltInt (G j) (G (j - 1)) = true := by
                                            have h : (!ltInt (G j) (G (j - 1))) = false := by assumption
                                            simpa using h
                                          gi_region_o
                                          all_goals gi_wp2
                                          go_roundw
                                          case rel =>
                                            refine ⟨j + 1, m3 + (nq + 1), swp du j (j - 1), by go_num, by omega, by omega, by rw [size_swp]; exact hsu, ?_, ?_⟩
                                            · rw [HW.out, HG.out, HG.out]
                                              exact swap_worldA _ w m3 (nq + 1) blk off du j (j - 1) (by omega) (by omega)
                                            · rw [← HU.out, shiftUp_go ltInt b j du (by omega) (by rw [← HG.out, ← HG.out]; exact hl)]
                                          case measure => simp [intOf]; omega)
                                       | (at_end
                                          have hl : ltInt (G j) (G (j - 1)) = false := by
                                            have h : (!ltInt (G j) (G (j - 1))) = true := by assumption
                                            simpa using h
                                          go_roundw
                                          case rel =>
                                            refine ⟨k, s + 1, _, du, rfl, by go_num, by omega, by omega, by omega, hsu, (by first | rfl | exact HW.out | (rw [HW.out]; exact putRow_drewN _ _ _ _ _ _ _)), ?_⟩;rw [← HO.out, pi_go ltInt a b s i k dk hs HK.out (by omega) (by omega), HD.out, show fixUp ltInt b k (swp dk k (k - 1)) = du from by unfold fixUp; rw [if_pos (by omega), ← HU.out, shiftUp_stop ltInt b j du (Or.inr (by rw [← HG.out, ← HG.out]; exact hl))]]
                                          case measure => simp [intOf]; omega))
                                  | (at_end
                                     go_roundw
                                     case rel =>
                                       refine ⟨k, s + 1, _, du, rfl, by go_num, by omega, by omega, by omega, hsu, (by first | rfl | exact HW.out | (rw [HW.out]; exact putRow_drewN _ _ _ _ _ _ _)), ?_⟩;rw [← HO.out, pi_go ltInt a b s i k dk hs HK.out (by omega) (by omega), HD.out, show fixUp ltInt b k (swp dk k (k - 1)) = du from by unfold fixUp; rw [if_pos (by omega), ← HU.out, shiftUp_stop ltInt b j du (Or.inl (by omega))]]
                                     case measure => simp [intOf]; omega)))))
        ·
          gi_big_quiet_th_o (first | (gi_at_fn (ρ.f 16); refine CallsIn.quiet_of_same (AnySM.cmp_Less_intIn { Ly with } D _ _ _)))
          gi_wp2
          obtain rfl : k = b := by omega
          have hv : Sort.partialInsertionSort ltInt d a k = (dk, true) := by
            unfold Sort.partialInsertionSort;rw [← HO.out, pi_true ltInt a k s i dk hs (by rw [← HS.out, scanSorted_stop ltInt dk k k (Or.inl (by omega))])]
          rw [hv];go_ret
          exact ⟨rfl, m + nq, by rw [HW.out]; exact putRow_drewN _ _ _ _ _ _ _⟩
    ·
      obtain rfl : s = 5 := by omega
      have hv : Sort.partialInsertionSort ltInt d a b = (dk, false) := by
        unfold Sort.partialInsertionSort;rw [← HO.out, pi_end]
      rw [hv];go_ret
      exact ⟨rfl, n, rfl⟩
end
end
end Go.Proofs.YthlhibpfagekfaaGreat
