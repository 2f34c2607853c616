/- Parts of a proof. -/
import Derived.Test.YtljfgdlgmdcmfaaGreatQvg
import Derived.Test.YtljfgdlgmdcmfaaGreatQvf
import Derived.Sort.WalkA
import Derived.Sort.Lot0
import Derived.Sort.WalkB3
import Derived.Sort.WalkC4
import Derived.Sort.WalkA6
import Derived.Sort.WalkD1
import Derived.Test.YtljfgdlgmdcmfaaGreatQvk
import Derived.Sort.Walk7
import Derived.Sort.Walk13a
import Derived.Sort.AssemblyPlain
import Derived.Test.YtljfgdlgmdcmfaaGreatQvl
import Derived.Test.YtljfgdlgmdcmfaaGreatQvj
set_option linter.unusedVariables false
set_option linter.unusedSimpArgs false
set_option maxHeartbeats 4000000
set_option maxRecDepth 100000
namespace Go.Proofs.YtljfgdlgmdcmfaaGreat
section
open Go.RowKit Wv Go.Sort
def rwA (n:Nat) (d:Array Int):List AV:=tab n fun t=> .v (.int .u32 (d[t]!))
def hSo (n:Nat) (d:Array Int):Hp:=[some (.arr 22 1 (rwA n d) 0)]
theorem Z8 (n:Nat) (d:Array Int):loH 1 (hSo n d):=by
 unfold hSo rwA;simp only [Wv.BL, ↓reduceIte,Nat.reduceLeDiff]
theorem aiU {d:Array Int} {i j:Nat} (hi:i<d.size) (hj:j<d.size) (t:Nat):(swp d i j)[t]! =if t=j then d[i]! else if t=i then d[j]! else d[t]! :=by
 by_cases e:t=j
 ·subst e;rw [if_pos rfl,swp_right d i t hj]
 ·rw [if_neg e];by_cases e2:t=i
  ·subst e2;rw [if_pos rfl,swp_left d t j hi e]
  ·rw [if_neg e2,swp_other d i j t e2 e]
theorem kC {n:Nat} {d:Array Int} {i j:Nat} (hd:d.size=n) (hi:i<n) (hj:j<n):(tab n fun t=>if t=j then AV.v (.int .u32 (d[i]!)) else if t=i then AV.v (.int .u32 (d[j]!)) else AV.v (.int .u32 (d[t]!)))=rwA n (swp d i j):=by
 unfold rwA;refine aS fun t _=>?_
 rw [aiU (by omega) (by omega)];split
 ·rfl
 ·split<;>rfl
theorem aiV (x:Int):TC Tryz.prog 249 [.v (.int .u32 x)] (.v (.bool false)):=by
 refine Wv.TC.by 6 [0,2] [] [.tmp 2] Tryz.func249 rfl rfl rfl ?clo ?_
 case clo=>simp only [Wv.BC]
 exact Wv.V
theorem iP (x y:Int):TC Tryz.prog 235 [.v (.int .u32 x), .v (.int .u32 y)] (.v (.bool (ltInt x y))):=by
 refine Wv.TC.by 17 [0,1,4] [] [.tmp 4] Tryz.func235 rfl rfl rfl ?clo ?_
 case clo=>simp only [Wv.BC]
 refine Wv.W ?_;refine ak (aiV x) rfl Wv.c Wv.c ?_;simp (disch:=first|exact Wv.D|fail) only [Wv.B,simprocAttr,ltInt]
theorem aiW (n a b:Nat) (d:Array Int) (hd:d.size=n) (hab:a≤b) (hb:b≤n) (hn:n≤1000):HT Tryz.prog 229 [.own 0 n, .v (.int .i64 a), .v (.int .i64 b)] (hSo n d) (fun r h'=>r= .tup []∧h'=hSo n (insertionSort ltInt d a b)):=by
 have hI:insertionSort ltInt d a b=insOuter ltInt a b (a+1) d:=rfl;unfold hSo rwA;refine Wv.HT.by 49 [1,6,2,12,7,0,30] [(4,13),(6,14),(1000000,1),(3000004,1),(3000006,1)] [] Tryz.func229 rfl rfl rfl ?base ?_
 case base=>rfl
 refine Wv.W ?_;refine aQ (σ:=Nat × Array Int) (fun q=>[(0, .own 0 n),(1, .v (.int .i64 a)),(2, .v (.int .i64 b)),(6, .v (.int .i64 q.1))])
  (fun q=>[some (.arr 22 1 (tab n fun t=> .v (.int .u32 (q.2[t]!))) 0)]) (fun q=>a<q.1∧q.1≤b+1∧q.2.size=n∧insOuter ltInt a b q.1 q.2=insOuter ltInt a b (a+1) d) (fun q=>b+1 - q.1) (a+1,d) ⟨by simp only;omega,by simp only;omega,hd,rfl⟩ rfl Wv.V2 ?_
 rintro ⟨i,dk⟩ ⟨h1,h2,h3,h4⟩;simp only at h1 h2 h3 h4 ⊢;by_cases hib:i<b
 ·have e1:(i:Int)<b:=by omega
  have hgo:=insOuter_go ltInt a b i dk hib;refine Wv.W1 (ah e1) ?_;refine aQ (σ:=Nat × Array Int) (fun q=>[(0, .own 0 n),(1, .v (.int .i64 a)),(2, .v (.int .i64 b)),(6, .v (.int .i64 i)),(7, .v (.int .i64 q.1))])
   (fun q=>[some (.arr 22 1 (tab n fun t=> .v (.int .u32 (q.2[t]!))) 0)]) (fun q=>a≤q.1∧q.1≤i∧q.2.size=n∧insInner ltInt a q.1 q.2=insInner ltInt a i dk) (fun q=>q.1) (i,dk) ⟨by simp only;omega,Nat.le_refl _,h3,rfl⟩ rfl Wv.V ?_
  rintro ⟨j,dj⟩ ⟨k1,k2,k3,k4⟩;simp only at k1 k2 k3 k4 ⊢;by_cases hja:a<j
  ·have e2:(j:Int)>a:=by omega
   have ej:((j:Int) - 1)=((j - 1:Nat):Int):=by omega
   refine Wv.W2 (ah e2) ej ?_;refine ak (iP _ _) rfl Wv.c Wv.c ?_;cases hl:ltInt dj[j]! dj[j - 1]! with
   | true=>
    have hs:=kC (i:=j) (j:=j - 1) k3 (by omega) (by omega);unfold rwA at hs;have hg:=insInner_go ltInt a j dj hja hl;refine Wv.W3 @dB ej hs ?_;refine au (j - 1,swp dj j (j - 1)) ⟨by simp only;omega,by simp only;omega,by simp only [size_swp];exact k3,hg.symm.trans k4⟩ (by simp only;omega) rfl (Wv.V1 ej)
   | false=>
    have hst:=insInner_stop ltInt a j dj (.inr hl);refine Wv.W ?_;refine au (i+1,dj) ⟨by simp only;omega,by simp only;omega,k3,by simp only;rw [←h4,hgo, ←k4,hst]⟩ (by simp only;omega) rfl Wv.V2
  ·have hst:=insInner_stop ltInt a j dj (.inl (by omega));refine Wv.W1 (aj (show ¬ (j:Int)>a by omega)) ?_;refine au (i+1,dj) ⟨by simp only;omega,by simp only;omega,k3,by simp only;rw [←h4,hgo, ←k4,hst]⟩ (by simp only;omega) rfl Wv.V2
 ·have hst:=insOuter_stop ltInt a b i dk hib;have hF:insertionSort ltInt d a b=dk:=by rw [hI, ←h4,hst]
  exact Wv.V2f (aj (show ¬ (i:Int)<b by omega)) hF
end
section
open Go.RowKit Wv Go.Sort
theorem QM (n lo hi F:Nat) (d:Array Int) (hd:d.size=n) (hlo:lo≤hi) (hb:F+hi≤n) (hn:n≤1000):HT Tryz.prog 244 [.own 0 n, .v (.int .i64 lo), .v (.int .i64 hi), .v (.int .i64 F)] (hSo n d) (fun r h'=>r= .tup []∧h'=hSo n (siftDown ltInt hi F lo d)):=by
 unfold hSo rwA;refine Wv.HT.by 76 [1,8,9,2,16,0,3,36,52] [(3,18),(5,12),(6,20),(1000000,1),(3000003,1),(3000005,1),(3000006,1)] [] Tryz.func244 rfl rfl rfl ?base ?_
 case base=>rfl
 refine Wv.W ?_;refine aQ (σ:=Nat × Array Int) (fun q=>[(0, .own 0 n),(2, .v (.int .i64 hi)),(3, .v (.int .i64 F)),(8, .v (.int .i64 q.1))])
  (fun q=>[some (.arr 22 1 (tab n fun t=> .v (.int .u32 (q.2[t]!))) 0)]) (fun q=>q.1≤hi∧q.2.size=n∧siftDown ltInt hi F q.1 q.2=siftDown ltInt hi F lo d) (fun q=>hi - q.1) (lo,d) ⟨hlo,hd,rfl⟩ rfl Wv.V ?_
 rintro ⟨x,dk⟩ ⟨h1,h2,h3⟩;simp only at h1 h2 h3 ⊢;have ex:(F:Int)+x=((F+x:Nat):Int):=by omega
 have el:2*(x:Int)+1=((2*x+1:Nat):Int):=by omega
 have er:2*(x:Int)+1+1=((2*x+2:Nat):Int):=by omega
 have fl:(F:Int)+((2*x+1:Nat):Int)=((F+(2*x+1):Nat):Int):=by omega
 have fr:(F:Int)+((2*x+2:Nat):Int)=((F+(2*x+2):Nat):Int):=by omega
 have fr2:((F+(2*x+1):Nat):Int)+1=((F+(2*x+2):Nat):Int):=by omega
 have e12:((2*x+1:Nat):Int)+1=((2*x+2:Nat):Int):=by omega
 by_cases hc:hi≤2*x+1
 ·have hs:=sd_end ltInt (F:=F) dk hc;simp (disch:=first|exact Wv.D|fail) only [Wv.B,simprocAttr,el,ah (show ((2*x+1:Nat):Int)≥hi by omega), ←h3,hs]
 have c1:=aj (show ¬ ((2*x+1:Nat):Int)≥hi by omega);refine Wv.W2 el c1 ?_;by_cases hc2:2*x+2<hi
 ·refine Wv.W4 e12 fl fr2 (ah (show ((2*x+2:Nat):Int)<hi by omega)) ?_;refine ak (iP _ _) rfl Wv.c Wv.c ?_;cases hl:ltInt dk[F+(2*x+1)]! dk[F+(2*x+2)]! with
  | true=>
   refine Wv.W3 e12 ex fr ?_;refine ak (iP _ _) rfl Wv.c Wv.c ?_;cases hr:ltInt dk[F+x]! dk[F+(2*x+2)]! with
   | true=>
    have hg:=sd_right_go ltInt dk hc2 hl hr;have hs:=kC (i:=F+x) (j:=F+(2*x+2)) h2 (by omega) (by omega);unfold rwA at hs;refine Wv.W4 @dB ex fr hs ?_;refine au (2*x+2,swp dk (F+x) (F+(2*x+2))) ⟨by simp only;omega,by simp only [size_swp];exact h2,hg.symm.trans h3⟩ (by simp only;omega) rfl Wv.V
   | false=>
    have hs:=sd_right_stop ltInt dk hc2 hl hr;simp (disch:=first|exact Wv.D|fail) only [Wv.B,simprocAttr, ←h3,hs]
  | false=>
   have hll:2*x+2<hi→ltInt dk[F+(2*x+1)]! dk[F+(2*x+2)]! =false:=fun _=>hl
   refine Wv.W2 ex fl ?_;refine ak (iP _ _) rfl Wv.c Wv.c ?_;cases hr:ltInt dk[F+x]! dk[F+(2*x+1)]! with
   | true=>
    have hg:=sd_left_go ltInt dk (by omega) hll hr;have hs:=kC (i:=F+x) (j:=F+(2*x+1)) h2 (by omega) (by omega);unfold rwA at hs;refine Wv.W4 @dB ex fl hs ?_;refine au (2*x+1,swp dk (F+x) (F+(2*x+1))) ⟨by simp only;omega,by simp only [size_swp];exact h2,hg.symm.trans h3⟩ (by simp only;omega) rfl Wv.V
   | false=>
    have hs:=sd_left_stop ltInt dk (by omega) hll hr;simp (disch:=first|exact Wv.D|fail) only [Wv.B,simprocAttr, ←h3,hs]
 ·have hll:2*x+2<hi→ltInt dk[F+(2*x+1)]! dk[F+(2*x+2)]! =false:=fun q=>absurd q hc2
  refine Wv.W4 e12 (aj (show ¬ ((2*x+2:Nat):Int)<hi by omega)) ex fl ?_;refine ak (iP _ _) rfl Wv.c Wv.c ?_;cases hr:ltInt dk[F+x]! dk[F+(2*x+1)]! with
  | true=>
   have hg:=sd_left_go ltInt dk (by omega) hll hr;have hs:=kC (i:=F+x) (j:=F+(2*x+1)) h2 (by omega) (by omega);unfold rwA at hs;refine Wv.W4 @dB ex fl hs ?_;refine au (2*x+1,swp dk (F+x) (F+(2*x+1))) ⟨by simp only;omega,by simp only [size_swp];exact h2,hg.symm.trans h3⟩ (by simp only;omega) rfl Wv.V
  | false=>
   have hs:=sd_left_stop ltInt dk (by omega) hll hr;simp (disch:=first|exact Wv.D|fail) only [Wv.B,simprocAttr, ←h3,hs]
theorem aeG (n a b:Nat) (d:Array Int) (hd:d.size=n) (hab:a≤b) (hb:b≤n) (hn:n≤1000):HT Tryz.prog 230 [.own 0 n, .v (.int .i64 a), .v (.int .i64 b)] (hSo n d) (fun r h'=>r= .tup []∧h'=hSo n (heapSort ltInt d a b)):=by
 have ecast:(b:Int) - a=((b - a:Nat):Int):=by omega
 have afA:=half_start hab;rw [ecast] at afA;unfold hSo rwA;refine Wv.HT.by 56 [1,2,8,9,19,0,6,10,30,7] [(10,16),(1000000,1),(3000010,1)] [] Tryz.func230 rfl rfl rfl ?base ?_
 case base=>rfl
 refine Wv.W2 ecast afA ?_;refine aQ (σ:=Nat × Array Int) (fun q=>[(0, .own 0 n),(1, .v (.int .i64 a)),(2, .v (.int .i64 b)),(6, .v (.int .i64 a)),(7, .v (.int .i64 0)),(8, .v (.int .i64 (b - a:Nat))),(9, .v (.int .i64 ((q.1:Int) - 1)))])
  (fun q=>[some (.arr 22 1 (tab n fun t=> .v (.int .u32 (q.2[t]!))) 0)]) (fun q=>q.1≤(b - a - 1) / 2+1∧q.2.size=n∧heapBuild ltInt (b - a) a q.1 q.2=heapBuild ltInt (b - a) a ((b - a - 1) / 2+1) d) (fun q=>q.1) ((b - a - 1) / 2+1,d) ⟨Nat.le_refl _,hd,rfl⟩ rfl Wv.V ?_
 rintro ⟨k,dk⟩ ⟨h1,h2,h3⟩;simp only at h1 h2 h3 ⊢;cases k with
 | succ k=>
  have ek:((k+1:Nat):Int) - 1=k:=by omega
  have H:=QM n k (b - a) a dk h2 (by omega) (by omega) hn;unfold hSo rwA at H;refine Wv.W2 ek (ah (show (k:Int)≥0 by omega)) ?_;refine aB (fst:=[]) (cap:=[]) H ?_;rintro av h' ⟨rfl,rfl⟩;refine Wv.W ?_;refine au (k,siftDown ltInt (b - a) a k dk) ⟨by simp only;omega,by simp only;rw [size_siftDown ltInt _ _ _ _ _ (Nat.le_refl _)];exact h2,h3⟩ (by simp only;omega) rfl Wv.V
 | zero=>
  have h3:dk=heapBuild ltInt (b - a) a ((b - a - 1) / 2+1) d:=h3;refine Wv.W1 (aj (show ¬ (((0:Nat):Int) - 1≥0) by omega)) ?_;refine aQ (σ:=Nat × Array Int) (fun q=>[(0, .own 0 n),(1, .v (.int .i64 a)),(2, .v (.int .i64 b)),(6, .v (.int .i64 a)),(7, .v (.int .i64 0)),(8, .v (.int .i64 (b - a:Nat))),(10, .v (.int .i64 ((q.1:Int) - 1)))])
   (fun q=>[some (.arr 22 1 (tab n fun t=> .v (.int .u32 (q.2[t]!))) 0)]) (fun q=>q.1≤b - a∧q.2.size=n∧heapPop ltInt a q.1 q.2=heapSort ltInt d a b) (fun q=>q.1) (b - a,dk) ⟨Nat.le_refl _,h2,by simp only;rw [h3];rfl⟩ rfl Wv.V ?_
  rintro ⟨j,dj⟩ ⟨k1,k2,k3⟩;simp only at k1 k2 k3 ⊢;cases j with
  | zero=>
   have k3:dj=heapSort ltInt d a b:=k3;simp (disch:=first|exact Wv.D|fail) only [Wv.B,simprocAttr,aj (show ¬ (((0:Nat):Int) - 1≥0) by omega),k3]
  | succ j=>
   have ej:((j+1:Nat):Int) - 1=j:=by omega
   have ea:(a:Int)+j=((a+j:Nat):Int):=by omega
   have hs:=kC (i:=a) (j:=a+j) k2 (by omega) (by omega);unfold rwA at hs;have H:=QM n 0 j a (swp dj a (a+j)) (by rw [size_swp];exact k2) (Nat.zero_le _) (by omega) hn;unfold hSo rwA at H;refine Wv.W5 ej ea @dB (ah (show (j:Int)≥0 by omega)) hs ?_;refine aB (fst:=[]) (cap:=[]) H ?_;rintro av h' ⟨rfl,rfl⟩;refine Wv.W ?_;refine au (j,siftDown ltInt j a 0 (swp dj a (a+j))) ⟨by simp only;omega,by simp only;rw [size_siftDown ltInt _ _ _ _ _ (Nat.le_refl _),size_swp];exact k2,k3⟩ (by simp only;omega) rfl Wv.V
theorem aiX (n a b:Nat) (d:Array Int) (hd:d.size=n) (hab:a<b) (hb:b≤n) (hn:n≤1000):HT Tryz.prog 233 [.own 0 n, .v (.int .i64 a), .v (.int .i64 b)] (hSo n d) (fun r h'=>r= .tup []∧h'=hSo n (reverseRange d a b)):=by
 have eb:(b:Int) - 1=((b - 1:Nat):Int):=by omega
 unfold hSo rwA;refine Wv.HT.by 32 [1,2,6,7,13,0] [(3,12),(1000000,1),(3000003,1)] [] Tryz.func233 rfl rfl rfl ?base ?_
 case base=>rfl
 refine Wv.W1 eb ?_;refine aQ (σ:=Nat × Nat × Array Int) (fun q=>[(0, .own 0 n),(1, .v (.int .i64 a)),(2, .v (.int .i64 b)),(6, .v (.int .i64 q.1)),(7, .v (.int .i64 q.2.1))])
  (fun q=>[some (.arr 22 1 (tab n fun t=> .v (.int .u32 (q.2.2[t]!))) 0)]) (fun q=>a≤q.1∧q.2.1<b∧q.1≤q.2.1+1∧q.2.2.size=n∧reverseLoop q.1 q.2.1 q.2.2=reverseRange d a b) (fun q=>q.2.1+1 - q.1) (a,b - 1,d) ⟨Nat.le_refl _,by simp only;omega,by simp only;omega,hd,rfl⟩ rfl Wv.V ?_
 rintro ⟨i,j,dk⟩ ⟨h1,h2,h3,h4,h5⟩;simp only at h1 h2 h3 h4 h5 ⊢;by_cases hij:i<j
 ·have hs:=kC (i:=i) (j:=j) h4 (by omega) (by omega);unfold rwA at hs;have ej:(j:Int) - 1=((j - 1:Nat):Int):=by omega
  refine Wv.W3 (ah (show (i:Int)<j by omega)) @dB hs ?_;rw [reverseLoop,if_pos hij] at h5;refine au (i+1,j - 1,swp dk i j) ⟨by simp only;omega,by simp only;omega,by simp only;omega,by simp only [size_swp];exact h4,h5⟩ (by simp only;omega) rfl (Wv.V3 ej @Int.natCast_add @Int.natCast_one)
 ·rw [reverseLoop,if_neg hij] at h5;exact Wv.V2f (aj (show ¬ (i:Int)<j by omega)) h5
end
section
open Go.RowKit Wv Go.Sort
theorem aiY (n a b p:Nat) (d:Array Int) (hd:d.size=n) (hap:a≤p) (hpb:p<b) (hb:b≤n) (hn:n≤1000):HT Tryz.prog 236 [.own 0 n, .v (.int .i64 a), .v (.int .i64 b), .v (.int .i64 p)] (hSo n d) (fun r h'=>r= .v (.int .i64 (partitionEqual ltInt d a b p).1)∧h'=hSo n (partitionEqual ltInt d a b p).2):=by
 have eb:(b:Int) - 1=((b - 1:Nat):Int):=by omega
 have hs:=kC (i:=a) (j:=p) hd (by omega) (by omega);have hP:partitionEqual ltInt d a b p=partEqLoop ltInt a (a+1) (b - 1) (swp d a p):=rfl;unfold hSo;unfold rwA at*;refine Wv.HT.by 84 [0,1,3,2,9,10,43,59,64,8] [(1,12),(3,12),(5,12),(8,12),(1000000,1),(3000001,1),(3000003,1),(3000005,1),(3000008,1)] [.tmp 8] Tryz.func236 rfl rfl rfl ?base ?_
 case base=>rfl
 refine Wv.W3 eb @dB hs ?_;refine aQ (σ:=Nat × Nat × Array Int) (fun q=>[(0, .own 0 n),(1, .v (.int .i64 a)),(9, .v (.int .i64 q.1)),(10, .v (.int .i64 q.2.1))])
  (fun q=>[some (.arr 22 1 (tab n fun t=> .v (.int .u32 (q.2.2[t]!))) 0)]) (fun q=>a<q.1∧q.2.1<b∧q.1≤q.2.1+1∧q.2.2.size=n∧partEqLoop ltInt a q.1 q.2.1 q.2.2=partitionEqual ltInt d a b p) (fun q=>q.2.1+1 - q.1) (a+1,b - 1,swp d a p) ⟨by simp only;omega,by simp only;omega,by simp only;omega,by simp only [size_swp];exact hd,hP.symm⟩ rfl Wv.V2 ?_
 rintro ⟨i0,j0,dk⟩ ⟨h1,h2,h3,h4,h5⟩;simp only at h1 h2 h3 h4 h5 ⊢;refine aQ (σ:=Nat) (fun i=>[(0, .own 0 n),(1, .v (.int .i64 a)),(9, .v (.int .i64 i)),(10, .v (.int .i64 j0))])
  (fun _=>[some (.arr 22 1 (tab n fun t=> .v (.int .u32 (dk[t]!))) 0)]) (fun i=>i0≤i∧i≤j0+1∧scanUp (fun x=>!ltInt dk[a]! x) dk j0 i=scanUp (fun x=>!ltInt dk[a]! x) dk j0 i0) (fun i=>j0+1 - i) i0 ⟨Nat.le_refl _,h3,rfl⟩ rfl Wv.V ?_
 rintro i ⟨k1,k2,k3⟩;simp only at k1 k2 k3 ⊢;have X:(i≤j0∧ltInt dk[a]! dk[i]! =false)∨i=scanUp (fun x=>!ltInt dk[a]! x) dk j0 i0:=by
  by_cases q1:i≤j0
  ·cases q2:ltInt dk[a]! dk[i]! with
   | false=>exact .inl ⟨q1,rfl⟩
   | true=>exact .inr (by rw [←k3,scanUp_end _ _ _ _ (.inr (by simp only [q2];rfl))])
  ·exact .inr (by rw [←k3,scanUp_end _ _ _ _ (.inl q1)])
 by_cases q1:i≤j0
 case' pos=>
  refine Wv.W1 (ah (show (i:Int)≤j0 by omega)) ?_;refine ak (iP _ _) rfl Wv.c Wv.c ?_;cases q2:ltInt dk[a]! dk[i]!
  case false=>
   have hg:=scanUp_go (fun x=>!ltInt dk[a]! x) dk j0 i q1 (by show (!ltInt dk[a]! dk[i]!)=true;rw [q2];rfl);refine Wv.W ?_;refine au (i+1) ⟨by omega,by omega,hg.symm.trans k3⟩ (by omega) rfl Wv.V2
  have hi:i=scanUp (fun x=>!ltInt dk[a]! x) dk j0 i0:=X.resolve_left (fun q=>by rw [q2] at q;cases q.2);refine Wv.W ?_
 case' neg=>
  have hi:i=scanUp (fun x=>!ltInt dk[a]! x) dk j0 i0:=X.resolve_left (fun q=>q1 q.1);refine Wv.W1 (aj (show ¬ (i:Int)≤j0 by omega)) ?_
 all_goals
  refine aQ (σ:=Nat) (fun j=>[(0, .own 0 n),(1, .v (.int .i64 a)),(9, .v (.int .i64 i)),(10, .v (.int .i64 j))])
   (fun _=>[some (.arr 22 1 (tab n fun t=> .v (.int .u32 (dk[t]!))) 0)]) (fun j=>j≤j0∧i≤j+1∧scanDown (fun x=>ltInt dk[a]! x) dk i j=scanDown (fun x=>ltInt dk[a]! x) dk i j0) (fun j=>j) j0 ⟨Nat.le_refl _,k2,rfl⟩ rfl Wv.V ?_
  rintro j ⟨m1,m2,m3⟩;try simp only at m1 m2 m3 ⊢
  have Y:(i≤j∧ltInt dk[a]! dk[j]! =true)∨j=scanDown (fun x=>ltInt dk[a]! x) dk i j0:=by
   by_cases q1:i≤j
   ·cases q2:ltInt dk[a]! dk[j]! with
    | true=>exact .inl ⟨q1,rfl⟩
    | false=>exact .inr (by rw [←m3,scanDown_end _ _ _ _ (.inr q2)])
   ·exact .inr (by rw [←m3,scanDown_end _ _ _ _ (.inl q1)])
  by_cases r1:i≤j
  case' pos=>
   refine Wv.W1 (ah (show (i:Int)≤j by omega)) ?_;refine ak (iP _ _) rfl Wv.c Wv.c ?_;cases r2:ltInt dk[a]! dk[j]!
   case true=>
    have hg:=scanDown_go (fun x=>ltInt dk[a]! x) dk i j r1 (by omega) r2;have ej:(j:Int) - 1=((j - 1:Nat):Int):=by omega
    refine Wv.W ?_;refine au (j - 1) ⟨by omega,by omega,hg.symm.trans m3⟩ (by omega) rfl (Wv.V1 ej)
   have hj:j=scanDown (fun x=>ltInt dk[a]! x) dk i j0:=Y.resolve_left (fun q=>by rw [r2] at q;cases q.2);have hlt:i<j:=scans_lt ltInt a i0 j0 dk (by omega) hi hj r1;have hg:=partEq_go ltInt a i0 j0 dk hi hj (by omega);have hs2:=kC (i:=i) (j:=j) h4 (by omega) (by omega);unfold rwA at hs2;have ej:(j:Int) - 1=((j - 1:Nat):Int):=by omega
   refine Wv.W3 (aj (show ¬ (i:Int)>j by omega)) @dB hs2 ?_;refine au (i+1,j - 1,swp dk i j) ⟨by simp only;omega,by simp only;omega,by simp only;omega,by simp only [size_swp];exact h4,hg.symm.trans h5⟩ (by simp only;omega) rfl (Wv.V3 ej @Int.natCast_add @Int.natCast_one)
  have hj:j=scanDown (fun x=>ltInt dk[a]! x) dk i j0:=Y.resolve_left (fun q=>r1 q.1);have hf:=partEq_break ltInt a i0 j0 dk hi hj (by omega);simp (disch:=first|exact Wv.D|fail) only [Wv.B,simprocAttr,aj (show ¬ (i:Int)≤j by omega),ah (show (i:Int)>j by omega), ←h5,hf]
theorem aeH (n a b p:Nat) (d:Array Int) (hd:d.size=n) (hap:a≤p) (hpb:p<b) (hb:b≤n) (hn:n≤1000):HT Tryz.prog 237 [.own 0 n, .v (.int .i64 a), .v (.int .i64 b), .v (.int .i64 p)] (hSo n d) (fun r h'=>r= .tup [.v (.int .i64 (partition ltInt d a b p).1), .v (.bool (partition ltInt d a b p).2.1)]∧h'=hSo n (partition ltInt d a b p).2.2):=by
 have eb:(b:Int) - 1=((b - 1:Nat):Int):=by omega
 have hs:=kC (i:=a) (j:=p) hd (by omega) (by omega);have hDs:(swp d a p).size=n:=by rw [size_swp];exact hd
 obtain ⟨D,hD⟩: ∃ D,D=swp d a p:=⟨_,rfl⟩
 obtain ⟨z,hz⟩: ∃ z,z=b - 1:=⟨_,rfl⟩
 obtain ⟨s,hsa⟩: ∃ s,s=a+1:=⟨_,rfl⟩
 have es:(a:Int)+1=s:=by omega
 rw [←hz] at eb;rw [←hD] at hs hDs;unfold hSo;unfold rwA at*;refine Wv.HT.by 168 [0,1,3,2,10,11,43,60,65,112,129,134,8,9] [(1,12),(3,12),(5,12),(8,12),(10,12),(13,12),(15,12),(18,12),(21,12),(1000000,1),(3000001,1),(3000003,1),(3000005,1),(3000008,1),(3000010,1),(3000013,1),(3000015,1),(3000018,1),(3000021,1)] [.tmp 8, .tmp 9] Tryz.func237 rfl rfl rfl ?base ?_
 case base=>rfl
 refine Wv.W4 eb es @dB hs ?_;refine aQ (σ:=Nat) (fun i=>[(0, .own 0 n),(1, .v (.int .i64 a)),(10, .v (.int .i64 i)),(11, .v (.int .i64 z))])
  (fun _=>[some (.arr 22 1 (tab n fun t=> .v (.int .u32 (D[t]!))) 0)]) (fun i=>s≤i∧i≤z+1∧scanUp (fun x=>ltInt x D[a]!) D z i=scanUp (fun x=>ltInt x D[a]!) D z s) (fun i=>z+1 - i) s ⟨Nat.le_refl _,(by omega),rfl⟩ rfl Wv.V ?_
 rintro i1 ⟨k1,k2,k3⟩;try simp only at k1 k2 k3 ⊢
 have X:(i1≤z∧ltInt D[i1]! D[a]! =true)∨i1=scanUp (fun x=>ltInt x D[a]!) D z s:=by
  by_cases q1:i1≤z
  ·cases q2:ltInt D[i1]! D[a]! with
   | true=>exact .inl ⟨q1,rfl⟩
   | false=>exact .inr (by rw [←k3,scanUp_end (fun x=>ltInt x D[a]!) _ _ _ (.inr q2)])
  ·exact .inr (by rw [←k3,scanUp_end _ _ _ _ (.inl q1)])
 by_cases q1:i1≤z
 case' pos=>
  refine Wv.W1 (ah (show (i1:Int)≤z by omega)) ?_;refine ak (iP _ _) rfl Wv.c Wv.c ?_;cases q2:ltInt D[i1]! D[a]!
  case true=>
   have hg:=scanUp_go (fun x=>ltInt x D[a]!) D z i1 q1 q2;refine Wv.W ?_;refine au (i1+1) ⟨by omega,by omega,hg.symm.trans k3⟩ (by omega) rfl Wv.V2
  have hi:i1=scanUp (fun x=>ltInt x D[a]!) D z s:=X.resolve_left (fun q=>by rw [q2] at q;cases q.2);refine Wv.W ?_
 case' neg=>
  have hi:i1=scanUp (fun x=>ltInt x D[a]!) D z s:=X.resolve_left (fun q=>q1 q.1);refine Wv.W1 (aj (show ¬ (i1:Int)≤z by omega)) ?_
 all_goals
  clear X k3;refine aQ (σ:=Nat) (fun j=>[(0, .own 0 n),(1, .v (.int .i64 a)),(10, .v (.int .i64 i1)),(11, .v (.int .i64 j))])
   (fun _=>[some (.arr 22 1 (tab n fun t=> .v (.int .u32 (D[t]!))) 0)]) (fun j=>j≤z∧i1≤j+1∧scanDown (fun x=>!ltInt x D[a]!) D i1 j=scanDown (fun x=>!ltInt x D[a]!) D i1 z) (fun j=>j) z ⟨Nat.le_refl _,k2,rfl⟩ rfl Wv.V ?_
  rintro j ⟨m1,m2,m3⟩;try simp only at m1 m2 m3 ⊢
  have Y:(i1≤j∧ltInt D[j]! D[a]! =false)∨j=scanDown (fun x=>!ltInt x D[a]!) D i1 z:=by
   by_cases q1:i1≤j
   ·cases q2:ltInt D[j]! D[a]! with
    | false=>exact .inl ⟨q1,rfl⟩
    | true=>exact .inr (by rw [←m3,scanDown_end _ _ _ _ (.inr (by simp only [q2];rfl))])
   ·exact .inr (by rw [←m3,scanDown_end _ _ _ _ (.inl q1)])
  by_cases r1:i1≤j
  case' pos=>
   refine Wv.W1 (ah (show (i1:Int)≤j by omega)) ?_;refine ak (iP _ _) rfl Wv.c Wv.c ?_;cases r2:ltInt D[j]! D[a]!
   case false=>
    have hg:=scanDown_go (fun x=>!ltInt x D[a]!) D i1 j r1 (by omega) (by show (!ltInt D[j]! D[a]!)=true;rw [r2];rfl);have ej:(j:Int) - 1=((j - 1:Nat):Int):=by omega
    refine Wv.W ?_;refine au (j - 1) ⟨by omega,by omega,hg.symm.trans m3⟩ (by omega) rfl (Wv.V1 ej)
   have hj:j=scanDown (fun x=>!ltInt x D[a]!) D i1 z:=Y.resolve_left (fun q=>by rw [r2] at q;cases q.2);clear Y m3;have hlt:i1<j:=part_scans_lt ltInt a s z D (by omega) hi hj r1;have hg1:=part_first_go ltInt d a b p hsa hz hD hi hj (by omega);have hs3:=kC (d:=D) (i:=i1) (j:=j) hDs (by omega) (by omega);unfold rwA at hs3;have ej:(j:Int) - 1=((j - 1:Nat):Int):=by omega
   refine Wv.W3 (aj (show ¬ (i1:Int)>j by omega)) @dB hs3 ?_;refine aQ (σ:=Nat × Nat × Array Int) (fun q=>[(0, .own 0 n),(1, .v (.int .i64 a)),(10, .v (.int .i64 q.1)),(11, .v (.int .i64 q.2.1))])
    (fun q=>[some (.arr 22 1 (tab n fun t=> .v (.int .u32 (q.2.2[t]!))) 0)]) (fun q=>a<q.1∧q.2.1<b∧q.1≤q.2.1+1∧q.2.2.size=n∧partLoop ltInt a q.1 q.2.1 q.2.2=partLoop ltInt a (i1+1) (j - 1) (swp D i1 j)) (fun q=>q.2.1+1 - q.1) (i1+1,j - 1,swp D i1 j) ⟨by simp only;omega,by simp only;omega,by simp only;omega,by simp only [size_swp];exact hDs,rfl⟩ rfl (Wv.V3 ej @Int.natCast_add @Int.natCast_one) ?_
   clear hi hj hs3 k1 k2 m1 m2;rintro ⟨i0,j0,dk⟩ ⟨h1,h2,h3,h4,h5⟩;simp only at h1 h2 h3 h4 h5 ⊢;refine aQ (σ:=Nat) (fun i=>[(0, .own 0 n),(1, .v (.int .i64 a)),(10, .v (.int .i64 i)),(11, .v (.int .i64 j0))])
    (fun _=>[some (.arr 22 1 (tab n fun t=> .v (.int .u32 (dk[t]!))) 0)]) (fun i=>i0≤i∧i≤j0+1∧scanUp (fun x=>ltInt x dk[a]!) dk j0 i=scanUp (fun x=>ltInt x dk[a]!) dk j0 i0) (fun i=>j0+1 - i) i0 ⟨Nat.le_refl _,h3,rfl⟩ rfl Wv.V ?_
   rintro i ⟨k1,k2,k3⟩;try simp only at k1 k2 k3 ⊢
   have X:(i≤j0∧ltInt dk[i]! dk[a]! =true)∨i=scanUp (fun x=>ltInt x dk[a]!) dk j0 i0:=by
    by_cases q1:i≤j0
    ·cases q2:ltInt dk[i]! dk[a]! with
     | true=>exact .inl ⟨q1,rfl⟩
     | false=>exact .inr (by rw [←k3,scanUp_end (fun x=>ltInt x dk[a]!) _ _ _ (.inr q2)])
    ·exact .inr (by rw [←k3,scanUp_end _ _ _ _ (.inl q1)])
   by_cases q1:i≤j0
   case' pos=>
    simp (maxSteps:=2000000) (disch:=first|exact Wv.D|fail) only [Wv.B,simprocAttr,ah (show (i:Int)≤j0 by omega)];refine ak (iP _ _) rfl Wv.c Wv.c ?_;cases q2:ltInt dk[i]! dk[a]!
    case true=>
     have hg:=scanUp_go (fun x=>ltInt x dk[a]!) dk j0 i q1 q2;refine Wv.W ?_;refine au (i+1) ⟨by omega,by omega,hg.symm.trans k3⟩ (by omega) rfl Wv.V2
    have hi:i=scanUp (fun x=>ltInt x dk[a]!) dk j0 i0:=X.resolve_left (fun q=>by rw [q2] at q;cases q.2);refine Wv.W ?_
   case' neg=>
    have hi:i=scanUp (fun x=>ltInt x dk[a]!) dk j0 i0:=X.resolve_left (fun q=>q1 q.1);simp (maxSteps:=2000000) (disch:=first|exact Wv.D|fail) only [Wv.B,simprocAttr,aj (show ¬ (i:Int)≤j0 by omega)]
   all_goals
    clear X k3;refine aQ (σ:=Nat) (fun j=>[(0, .own 0 n),(1, .v (.int .i64 a)),(10, .v (.int .i64 i)),(11, .v (.int .i64 j))])
     (fun _=>[some (.arr 22 1 (tab n fun t=> .v (.int .u32 (dk[t]!))) 0)]) (fun j=>j≤j0∧i≤j+1∧scanDown (fun x=>!ltInt x dk[a]!) dk i j=scanDown (fun x=>!ltInt x dk[a]!) dk i j0) (fun j=>j) j0 ⟨Nat.le_refl _,k2,rfl⟩ rfl Wv.V ?_
    rintro j ⟨m1,m2,m3⟩;try simp only at m1 m2 m3 ⊢
    have Y:(i≤j∧ltInt dk[j]! dk[a]! =false)∨j=scanDown (fun x=>!ltInt x dk[a]!) dk i j0:=by
     by_cases q1:i≤j
     ·cases q2:ltInt dk[j]! dk[a]! with
      | false=>exact .inl ⟨q1,rfl⟩
      | true=>exact .inr (by rw [←m3,scanDown_end _ _ _ _ (.inr (by simp only [q2];rfl))])
     ·exact .inr (by rw [←m3,scanDown_end _ _ _ _ (.inl q1)])
    by_cases r1:i≤j
    case' pos=>
     refine Wv.W1 (ah (show (i:Int)≤j by omega)) ?_;refine ak (iP _ _) rfl Wv.c Wv.c ?_;cases r2:ltInt dk[j]! dk[a]!
     case false=>
      have hg:=scanDown_go (fun x=>!ltInt x dk[a]!) dk i j r1 (by omega) (by show (!ltInt dk[j]! dk[a]!)=true;rw [r2];rfl);have ej:(j:Int) - 1=((j - 1:Nat):Int):=by omega
      refine Wv.W ?_;refine au (j - 1) ⟨by omega,by omega,hg.symm.trans m3⟩ (by omega) rfl (Wv.V1 ej)
     have hj:j=scanDown (fun x=>!ltInt x dk[a]!) dk i j0:=Y.resolve_left (fun q=>by rw [r2] at q;cases q.2);clear Y m3;have hlt:i<j:=part_scans_lt ltInt a i0 j0 dk (by omega) hi hj r1;have hg:=part_go ltInt a i0 j0 dk hi hj (by omega);have hs2:=kC (i:=i) (j:=j) h4 (by omega) (by omega);unfold rwA at hs2;have ej:(j:Int) - 1=((j - 1:Nat):Int):=by omega
     refine Wv.W3 (aj (show ¬ (i:Int)>j by omega)) @dB hs2 ?_;refine au (i+1,j - 1,swp dk i j) ⟨by simp only;omega,by simp only;omega,by simp only;omega,by simp only [size_swp];exact h4,hg.symm.trans h5⟩ (by simp only;omega) rfl (Wv.V3 ej @Int.natCast_add @Int.natCast_one)
    have hj:j=scanDown (fun x=>!ltInt x dk[a]!) dk i j0:=Y.resolve_left (fun q=>r1 q.1);clear Y m3;have hf:=part_break ltInt a i0 j0 dk hi hj (by omega);rw [←h5,hf] at hg1;have hs2:=kC (i:=j) (j:=a) h4 (by omega) (by omega);unfold rwA at hs2;simp (disch:=first|exact Wv.D|fail) only [Wv.B,simprocAttr,aj (show ¬ (i:Int)≤j by omega),ah (show (i:Int)>j by omega),dB,hs2,hg1]
  have hj:j=scanDown (fun x=>!ltInt x D[a]!) D i1 z:=Y.resolve_left (fun q=>r1 q.1);clear Y m3;have hf:=part_first_break ltInt d a b p hsa hz hD hi hj (by omega);have hs2:=kC (d:=D) (i:=j) (j:=a) hDs (by omega) (by omega);unfold rwA at hs2;simp (disch:=first|exact Wv.D|fail) only [Wv.B,simprocAttr,aj (show ¬ (i1:Int)≤j by omega),ah (show (i1:Int)>j by omega),dB,hs2,hf]
end
section
open Go.RowKit Wv Go.Sort
theorem aiZ (n a b:Nat) (d:Array Int) (hd:d.size=n) (hab:a<b) (hb:b≤n) (hn:n≤48):HT Tryz.prog 234 [.own 0 n, .v (.int .i64 a), .v (.int .i64 b)] (hSo n d) (fun r h'=>r= .v (.bool (partialInsertionSort ltInt d a b).2)∧h'=hSo n (partialInsertionSort ltInt d a b).1):=by
 have hP: ∀ i,scanSorted ltInt d b (a+1)=i→partialInsertionSort ltInt d a b=(d,decide (i=b)):=fun i hi=>by
  by_cases e:i=b
  ·rw [ah e];exact pi_true ltInt a b 0 (a+1) d (by omega) (hi.trans e)
  ·rw [aj e];exact pi_short ltInt a b 0 (a+1) d (by omega) (by rw [hi];exact e) (by omega)
 unfold hSo rwA;refine Wv.HT.by 133 [1,8,14,7,2,0,32,37,41,61,9,65,78,98,10,103,116,6] [(5,13),(11,14),(16,9),(17,14),(22,9),(23,14),(1000000,1),(3000005,1),(3000011,1),(3000016,1),(3000017,1),(3000022,1),(3000023,1)] [.tmp 6] Tryz.func234 rfl rfl rfl ?base ?_
 case base=>rfl
 refine Wv.W ?_;refine aQ (σ:=Unit) (fun _=>[(0, .own 0 n),(1, .v (.int .i64 a)),(2, .v (.int .i64 b)),(7, .v (.int .i64 (a+1:Nat))),(8, .v (.int .i64 0))])
  (fun q=>[some (.arr 22 1 (tab n fun t=> .v (.int .u32 (d[t]!))) 0)]) (fun _=>True) (fun _=>0) () trivial rfl Wv.V2 ?_
 rintro - -;refine Wv.W ?_;refine aQ (σ:=Nat) (fun i=>[(0, .own 0 n),(1, .v (.int .i64 a)),(2, .v (.int .i64 b)),(7, .v (.int .i64 i)),(8, .v (.int .i64 0))])
  (fun q=>[some (.arr 22 1 (tab n fun t=> .v (.int .u32 (d[t]!))) 0)]) (fun i=>a<i∧i≤b∧scanSorted ltInt d b i=scanSorted ltInt d b (a+1)) (fun i=>b - i) (a+1) ⟨by omega,by omega,rfl⟩ rfl Wv.V ?_
 rintro i ⟨h1,h2,h3⟩;try simp only at h1 h2 h3 ⊢
 by_cases hib:i<b
 ·have ei:(i:Int) - 1=((i - 1:Nat):Int):=by omega
  refine Wv.W2 (ah (show (i:Int)<b by omega)) ei ?_;refine ak (iP _ _) rfl Wv.c Wv.c ?_;cases hl:ltInt d[i]! d[i - 1]! with
  | false=>
   have hg:=scanSorted_go ltInt d b i hib hl;refine Wv.W ?_;refine au (i+1) ⟨by omega,by omega,hg.symm.trans h3⟩ (by omega) rfl Wv.V2
  | true=>
   have hf:=hP i (by rw [←h3,scanSorted_stop ltInt d b i (.inr hl)]);rw [aj (show ¬ i=b by omega)] at hf;have e0:((i:Int)==b)=false:=by simp;omega
   have e5:(b:Int) - a<50:=by omega
   simp (disch:=first|exact Wv.D|fail) only [Wv.B,simprocAttr,e0,ah e5,hf]
 ·have hf:=hP i (by rw [←h3,scanSorted_stop ltInt d b i (.inl hib)]);rw [ah (show i=b by omega)] at hf;have e0:((i:Int)==b)=true:=by simp;omega
  exact Wv.V3 (aj (show ¬ (i:Int)<b by omega)) e0 hf
def hWo (n:Nat) (d:Array Int) (s:Nat):Hp:=[some (.arr 22 1 (rwA n d) 0),some (.blk [.v (.int .i64 s)])]
theorem O1 (n a b s:Nat) (d:Array Int) (hd:d.size=n) (ha:a<n) (hb:b<n) (hn:n≤1000) (hs:s≤1000):HT Tryz.prog 263 [.own 0 n, .v (.int .i64 a), .v (.int .i64 b), .ptr 1 0] (hWo n d s) (fun r h'=>r= .tup [.v (.int .i64 (order2 ltInt d a b s).1), .v (.int .i64 (order2 ltInt d a b s).2.1)]∧h'=hWo n d (order2 ltInt d a b s).2.2):=by
 have hO:order2 ltInt d a b s=if ltInt d[b]! d[a]! =true then (b,a,s+1) else (a,b,s):=rfl
 unfold hWo rwA;refine Wv.HT.by 28 [0,2,1,18,3,8,9] [(1,8),(1000000,2),(3000001,3)] [.tmp 8, .tmp 9] Tryz.func263 rfl rfl rfl ?base ?_
 case base=>rfl
 refine Wv.W ?_;refine ak (iP _ _) rfl Wv.c Wv.c ?_;cases hl:ltInt d[b]! d[a]! with
 | true=>
  rw [hl,if_pos rfl] at hO;simp (disch:=first|exact Wv.D|fail) only [Wv.B,simprocAttr,hO,Int.natCast_add,Int.natCast_one]
 | false=>
  rw [hl,if_neg (by decide)] at hO;simp (disch:=first|exact Wv.D|fail) only [Wv.B,simprocAttr,hO]
theorem ai0 (n a b c s:Nat) (d:Array Int) (hd:d.size=n) (ha:a<n) (hb:b<n) (hc:c<n) (hn:n≤1000) (hs:s≤900):HT Tryz.prog 248 [.own 0 n, .v (.int .i64 a), .v (.int .i64 b), .v (.int .i64 c), .ptr 1 0] (hWo n d s) (fun r h'=>r= .v (.int .i64 (median ltInt d a b c s).1)∧h'=hWo n d (median ltInt d a b c s).2):=by
 have l1:=order2_lt d s ha hb;have s1:=order2_swaps d a b s;have H1:=O1 n a b s d hd ha hb hn (by omega);have hM:median ltInt d a b c s=((order2 ltInt d (order2 ltInt d a b s).1 (order2 ltInt d (order2 ltInt d a b s).2.1 c (order2 ltInt d a b s).2.2).1 (order2 ltInt d (order2 ltInt d a b s).2.1 c (order2 ltInt d a b s).2.2).2.2).2.1,(order2 ltInt d (order2 ltInt d a b s).1 (order2 ltInt d (order2 ltInt d a b s).2.1 c (order2 ltInt d a b s).2.2).1 (order2 ltInt d (order2 ltInt d a b s).2.1 c (order2 ltInt d a b s).2.2).2.2).2.2):=rfl;generalize order2 ltInt d a b s=r1 at*;have l2:=order2_lt d r1.2.2 l1.2 hc;have s2:=order2_swaps d r1.2.1 c r1.2.2;have H2:=O1 n r1.2.1 c r1.2.2 d hd l1.2 hc hn (by omega);generalize order2 ltInt d r1.2.1 c r1.2.2=r2 at*;have H3:=O1 n r1.1 r2.1 r2.2.2 d hd l1.1 l2.1 hn (by omega);generalize order2 ltInt d r1.1 r2.1 r2.2.2=r3 at*;unfold hWo rwA at*;refine Wv.HT.by 36 [0,1,2,4,3,10] [(1000000,2)] [.tmp 10] Tryz.func248 rfl rfl rfl ?base ?_
 case base=>rfl
 refine Wv.W ?_;refine aB (fst:=[]) (cap:=[]) H1 ?_;rintro av h' ⟨rfl,rfl⟩;refine Wv.W ?_;refine aB (fst:=[]) (cap:=[]) H2 ?_;rintro av h' ⟨rfl,rfl⟩;refine Wv.W ?_;refine aB (fst:=[]) (cap:=[]) H3 ?_;rintro av h' ⟨rfl,rfl⟩;exact Wv.V1 hM
def hnt:Hint→Int
 | .unknown=>0
 | .increasing=>1
 | .decreasing=>2
theorem ai1 (n a b:Nat) (d:Array Int) (hd:d.size=n) (hab:a+12<b) (hb:b≤n) (hn:n≤48):HT Tryz.prog 232 [.own 0 n, .v (.int .i64 a), .v (.int .i64 b)] (hSo n d) (fun r h'=>r= .tup [.v (.int .i64 (choosePivot ltInt d a b).1), .v (.int .i64 (hnt (choosePivot ltInt d a b).2))]∧h'=hSo n d):=by
 have ecast:(b:Int) - a=((b - a:Nat):Int):=by omega
 obtain ⟨q,hq⟩: ∃ q,q=(b - a) / 4:=⟨_,rfl⟩
 have hC:choosePivot ltInt d a b=((median ltInt d (a+q) (a+q*2) (a+q*3) 0).1,if (median ltInt d (a+q) (a+q*2) (a+q*3) 0).2=0 then .increasing else if (median ltInt d (a+q) (a+q*2) (a+q*3) 0).2=12 then .decreasing else .unknown):=by
  unfold choosePivot;simp only [];rw [if_pos (show b - a≥8 by omega),if_neg (show ¬ b - a≥50 by omega), ←hq,Nat.mul_one]
 have ediv:((b - a:Nat):Int).tdiv 4=q:=by rw [Int.tdiv_eq_ediv_of_nonneg (by omega)];omega
 have e1:(a:Int)+(q:Int)*1=((a+q:Nat):Int):=by omega
 have e2:(a:Int)+(q:Int)*2=((a+q*2:Nat):Int):=by omega
 have e3:(a:Int)+(q:Int)*3=((a+q*3:Nat):Int):=by omega
 have H:=ai0 n (a+q) (a+q*2) (a+q*3) 0 d hd (by omega) (by omega) (by omega) (by omega) (by omega);have T:HT Tryz.prog 232 [.own 0 n, .v (.int .i64 a), .v (.int .i64 b)] (hSo n d) (fun r h'=>r= .tup [.v (.int .i64 (choosePivot ltInt d a b).1), .v (.int .i64 (hnt (choosePivot ltInt d a b).2))]∧h'.take 1=hSo n d):=by
  rw [hC];generalize median ltInt d (a+q) (a+q*2) (a+q*3) 0=m at*;unfold hWo at H;rw [show ((0:Nat):Int)=0 from rfl] at H;unfold hSo;unfold rwA at*;refine Wv.HT.by 57 [2,1,8,32,34,0,10,9,11,12,49,51,54,6,7] [(1000000,1)] [.tmp 6, .tmp 7] Tryz.func232 rfl rfl rfl ?base ?_
  case base=>rfl
  refine Wv.W5 ecast ediv e1 e2 e3 ?_;refine Wv.W2 (ah (show ((b - a:Nat):Int)≥8 by omega)) (aj (show ¬ ((b - a:Nat):Int)≥50 by omega)) ?_;refine aB (fst:=[]) (cap:=[]) H ?_;rintro av h' ⟨rfl,rfl⟩;refine Wv.W ?_;by_cases c0:m.2=0
  ·have x0:((m.2:Int)==0)=true:=by simp;omega
   simp (disch:=first|exact Wv.D|fail) only [Wv.B,simprocAttr,x0,if_pos c0,hnt,List.take_succ_cons,List.take_zero]
  ·have x0:((m.2:Int)==0)=false:=by simp;omega
   by_cases c1:m.2=12
   ·have x1:((m.2:Int)==12)=true:=by simp;omega
    simp (disch:=first|exact Wv.D|fail) only [Wv.B,simprocAttr,x0,x1,if_neg c0,if_pos c1,hnt,List.take_succ_cons,List.take_zero]
   ·have x1:((m.2:Int)==12)=false:=by simp;omega
    simp (disch:=first|exact Wv.D|fail) only [Wv.B,simprocAttr,x0,x1,if_neg c0,if_neg c1,hnt,List.take_succ_cons,List.take_zero]
 exact (RD.of (R:=fun r=>r= .tup [.v (.int .i64 (choosePivot ltInt d a b).1), .v (.int .i64 (hnt (choosePivot ltInt d a b).2))]) (p:=fun _=>False) (T.toP _) (by rintro r rfl;simp only [Wv.BL, ↓reduceIte,Nat.reduceLeDiff]) (fun r q=>q.elim) (Z8 n d)).toT fun _ _ q=>q.1
end
section
open Go.RowKit Wv Go.Sort
def ai2:List (FuncId × FI):=[(208,⟨[0,2],[]⟩),(226,⟨[0,4,8,2,14],[]⟩),(245,⟨[0,2],[]⟩)]
theorem QN:tbB Tryz.prog ai2=true:=by kernel_rfl
theorem ai3 (x:Nat) (hx:x≤48):TC Tryz.prog 208 [.v (.int .u64 x)] (.v (.int .i64 (bitsLen x))):=by
 have H:(List.range 49).all (fun k=>aem (.v (.int .i64 (bitsLen k))) (Ls Tryz.prog (Lu ai2) (Zz []) 1000 100 208 [.v (.int .u64 k)] []))=true:=by kernel_rfl
 exact TC.ZA (by kernel_rfl) 1000 100 QN (tZ (l:=[]) fun q h=>by cases h) (List.all_eq_true.1 H x (List.mem_range.2 (by omega)))
theorem ai4 (x:Nat) (hx:x≤48):TC Tryz.prog 245 [.v (.int .i64 x)] (.v (.int .u64 (1<<<bitsLen x:Nat))):=by
 have H:(List.range 49).all (fun k=>aem (.v (.int .u64 (1<<<bitsLen k:Nat))) (Ls Tryz.prog (Lu ai2) (Zz []) 1000 100 245 [.v (.int .i64 k)] []))=true:=by kernel_rfl
 exact TC.ZA (by kernel_rfl) 1000 100 QN (tZ (l:=[]) fun q h=>by cases h) (List.all_eq_true.1 H x (List.mem_range.2 (by omega)))
def xoI (x y:Int):Int:=IntKind.u64.wrap ((BitVec.ofInt IntKind.u64.bits x ^^^ BitVec.ofInt IntKind.u64.bits y).toNat)
def nxB (a:Int):Int:=xoI a (a.fdiv (2 ^ min 7 64))
def nxC (b:Int):Int:=xoI b (IntKind.u64.wrap (b*2 ^ min 17 64))
def nxI (v:Int):Int:=nxC (nxB (xoI v (IntKind.u64.wrap (v*2 ^ min 13 64))))
theorem aeI (n:Nat) (d:Array Int) (v:Int):HT Tryz.prog 246 [.ptr 1 0] (hSo n d++[some (.blk [.v (.int .u64 v)])]) (fun r h'=>r= .v (.int .u64 (nxI v))∧h'=hSo n d++[some (.blk [.v (.int .u64 (nxI v))])]):=by
 unfold hSo rwA;simp only [List.cons_append,List.nil_append];refine Wv.HT.by 33 [0,2] [(1,7),(2,7),(3,7),(1000000,2),(3000001,3),(3000002,3),(3000003,3)] [.tmp 2] Tryz.func246 rfl rfl rfl ?base ?_
 case base=>rfl
 refine Wv.W ?_;exact ⟨rfl,rfl⟩
def rI (k:Nat):Nat→Int
 | 0=>k
 | t+1=>nxI (rI k t)
def rU (k:Nat):Nat→UInt64
 | 0=>UInt64.ofNat k
 | t+1=>xorNext (rU k t)
def oN (k t:Nat):Nat:=(rU k (t+1)).toNat &&& (1<<<bitsLen k - 1)
def oI (k t:Nat):Int:=IntKind.i64.wrap (IntKind.u64.wrap ((BitVec.ofInt IntKind.u64.bits (rI k (t+1)) &&& BitVec.ofInt IntKind.u64.bits (IntKind.u64.wrap (((1<<<bitsLen k:Nat):Int) - 1))).toNat))
theorem afB {k t:Nat} (hk:k≤48) (h8:8≤k) (ht:t<3):oI k t=oN k t∧oN k t<2*k∧1<<<bitsLen k≤64:=by
 have H:(List.range 49).all (fun k=>k<8 || (List.range 3).all (fun t=>oI k t==oN k t && decide (oN k t<2*k) && decide (1<<<bitsLen k≤64)))=true:=by kernel_rfl
 have h:=List.all_eq_true.1 H k (List.mem_range.2 (by omega));rw [aj (show ¬ k<8 by omega),Bool.false_or] at h;have h2:=List.all_eq_true.1 h t (List.mem_range.2 ht);simp only [Bool.and_eq_true,beq_iff_eq,decide_eq_true_eq] at h2;exact ⟨h2.1.1,h2.1.2,h2.2⟩
theorem ai5 (n a b:Nat) (d:Array Int) (hd:d.size=n) (hab:a+12<b) (hb:b≤n) (hn:n≤48):HT Tryz.prog 231 [.own 0 n, .v (.int .i64 a), .v (.int .i64 b)] (hSo n d) (fun r h'=>r= .tup []∧h'=hSo n (breakPatterns d a b)):=by
 obtain ⟨L,rfl⟩: ∃ L,b=a+L:=⟨b - a,by omega⟩
 have ecast:((a+L:Nat):Int) - a=(L:Int):=by omega
 have ediv:(L:Int).tdiv 4=((L / 4:Nat):Int):=by rw [Int.tdiv_eq_ediv_of_nonneg (by omega)];omega
 have e1:(a:Int)+((L / 4:Nat):Int)*2 - 1=((a+L / 4*2 - 1:Nat):Int):=by omega
 have e2:(a:Int)+((L / 4:Nat):Int)*2+1=((a+L / 4*2+1:Nat):Int):=by omega
 have hB:=breakPatterns_eq d a L (by omega);have hM:=(afB (k:=L) (t:=0) (by omega) (by omega) (by omega)).2.2;have T:HT Tryz.prog 231 [.own 0 n, .v (.int .i64 a), .v (.int .i64 (a+L:Nat))] (hSo n d) (fun r h'=>r= .tup []∧h'.take 1=hSo n (breakPatterns d a (a+L))):=by
  unfold hSo rwA;refine Wv.HT.by 65 [2,1,6,15,9,33,7,8,10,43,0] [(10,16),(1000000,1),(3000010,3)] [] Tryz.func231 rfl rfl rfl ?base ?_
  case base=>rfl
  refine Wv.W2 ecast (ah (show (L:Int)≥8 by omega)) ?_;refine ak (ai4 L (by omega)) rfl Wv.c Wv.c ?_;refine Wv.W2 ediv e1 ?_;refine aQ (σ:=Nat × Array Int) (fun q=>[(0, .own 0 n),(1, .v (.int .i64 a)),(6, .v (.int .i64 L)),(7, .ptr 1 0),(8, .v (.int .u64 (1<<<bitsLen L:Nat))),(9, .v (.int .i64 (a+L / 4*2 - 1+q.1:Nat)))])
   (fun q=>[some (.arr 22 1 (tab n fun t=> .v (.int .u32 (q.2[t]!))) 0),some (.blk [.v (.int .u64 (rI L q.1))])]) (fun q=>q.1≤3∧q.2.size=n∧bpRest a L (1<<<bitsLen L) (a+L / 4*2 - 1) (3 - q.1) q.1 (rU L q.1,q.2)=breakPatterns d a (a+L)) (fun q=>3 - q.1) (0,d) ⟨by simp only;omega,hd,hB.symm⟩ rfl Wv.V ?_
  rintro ⟨t,dk⟩ ⟨h1,h2,h3⟩;simp only at h1 h2 h3 ⊢;by_cases ht:t<3
  ·have N:=aeI n dk (rI L t);unfold hSo rwA at N;simp only [List.cons_append,List.nil_append] at N;obtain ⟨o1,o2, -⟩:=afB (k:=L) (t:=t) (by omega) (by omega) ht;refine Wv.W3 ediv e2 (ah (show ((a+L / 4*2 - 1+t:Nat):Int)≤((a+L / 4*2+1:Nat):Int) by omega)) ?_;refine aB (fst:=[]) (cap:=[]) N ?_;rintro av h' ⟨rfl,rfl⟩;have o3:IntKind.i64.wrap (IntKind.u64.wrap ((BitVec.ofInt IntKind.u64.bits (nxI (rI L t)) &&& BitVec.ofInt IntKind.u64.bits (IntKind.u64.wrap (((1<<<bitsLen L:Nat):Int) - 1))).toNat))=(oN L t:Nat):=o1;obtain ⟨o,ho⟩: ∃ o,(if oN L t≥L then oN L t - L else oN L t)=o:=⟨_,rfl⟩
   have hst:=bp_step a L (1<<<bitsLen L) (a+L / 4*2 - 1) t (rU L t) dk o ht ho;have hs:=kC (i:=a+L / 4*2 - 1+t) (j:=a+o) h2 (by omega) (by split at ho<;>omega);unfold rwA at hs;have ea:(a:Int)+(o:Int)=((a+o:Nat):Int):=by omega
   have ei:((a+L / 4*2 - 1+t:Nat):Int)+1=((a+L / 4*2 - 1+(t+1):Nat):Int):=by omega
   have hnx:nxI (rI L t)=rI L (t+1):=rfl;by_cases hoL:oN L t≥L
   case' pos=>
    rw [if_pos hoL] at ho;have es:((oN L t:Nat):Int) - L=o:=by omega
    simp (disch:=first|exact Wv.D|fail) only [Wv.B,simprocAttr,o3,ah (show (L:Int)≤(oN L t:Nat) by omega),es,ea,dB,hs]
   case' neg=>
    rw [if_neg hoL] at ho;rw [ho] at o3;refine Wv.W5 o3 (aj (show ¬ (L:Int)≤(o:Nat) by omega)) ea @dB hs ?_
   all_goals
    refine au (t+1,swp dk (a+L / 4*2 - 1+t) (a+o)) ⟨by simp only;omega,by simp only [size_swp];exact h2,hst.symm.trans h3⟩ (by simp only;omega) rfl (Wv.V1 ei)
  ·have h4:t=3:=by omega
   subst h4;have h3:dk=breakPatterns d a (a+L):=h3;simp (disch:=first|exact Wv.D|fail) only [Wv.B,simprocAttr,ediv,e2,aj (show ¬ ((a+L / 4*2 - 1+3:Nat):Int)≤((a+L / 4*2+1:Nat):Int) by omega),h3,List.take_succ_cons,List.take_zero]
 exact (((T.toP (fun _ _=>False)).cut (by rintro r h' ⟨rfl,q⟩;exact ⟨by simp only [Wv.BL, ↓reduceIte,Nat.reduceLeDiff],by show loH 1 (h'.take 1);rw [q];exact Z8 n _⟩) (fun _ _ q=>q.elim)).mono (R':=fun r h'=>r= .tup []∧h'=hSo n (breakPatterns d a (a+L))) (p':=fun _ _=>False) (by rintro r h2 ⟨h',⟨q1,q2⟩,rfl⟩;exact ⟨q1,q2⟩) (by rintro _ _ ⟨_,q, -⟩;exact q)).toT (fun _ _ q=>q)
end
section
open Go.RowKit Wv Go.Sort
theorem QO {x y p q:Nat} (h1:q≤p) (h2:y≤x):decide ((((x - y) / 8:Nat):Int)≤(p:Int) - (q:Int))=decide (p - q≥(x - y) / 8):=decide_eq_decide.2 ⟨fun h=>by omega,fun h=>by omega⟩
theorem ai6 (n:Nat) (hn:n≤48): ∀ (m a0 b0 l0:Nat) (d0:Array Int),d0.size=n→b0 - a0<m→a0≤b0→b0≤n→l0≤100→Below ltInt a0 b0 d0→HT Tryz.prog 207 [.own 0 n, .v (.int .i64 a0), .v (.int .i64 b0), .v (.int .i64 l0)] (hSo n d0) (fun r h'=>r= .tup []∧h'=hSo n (pdq ltInt d0 a0 b0 l0 true true)):=by
 intro m;induction m with
 | zero=>intro _ _ _ _ _ h;exact absurd h (Nat.not_lt_zero _)
 | succ m ih=>
 intro a0 b0 l0 d0 hd0 hm0 anf hb0 hl0 hB0;unfold hSo rwA;refine Wv.HT.by 134 [2,1,10,23,0,3,29,8,35,12,50,11,9,68,72,87,13,15,14,16,17,113,18] [(17,12),(1000000,1),(3000017,1)] [] Tryz.func207 rfl rfl rfl ?base ?_
 case base=>rfl
 refine Wv.W ?_;refine aQ (σ:=Nat × Nat × Nat × Bool × Bool × Array Int) (fun q=>[(0, .own 0 n),(1, .v (.int .i64 q.1)),(2, .v (.int .i64 q.2.1)),(3, .v (.int .i64 q.2.2.1)),(8, .v (.bool q.2.2.2.1)),(9, .v (.bool q.2.2.2.2.1))])
  (fun q=>[some (.arr 22 1 (tab n fun t=> .v (.int .u32 (q.2.2.2.2.2[t]!))) 0)])
  (fun q=>q.1≤q.2.1∧q.2.1≤n∧q.2.1 - q.1≤b0 - a0∧q.2.2.1≤100∧q.2.2.2.2.2.size=n∧Below ltInt q.1 q.2.1 q.2.2.2.2.2∧pdq ltInt q.2.2.2.2.2 q.1 q.2.1 q.2.2.1 q.2.2.2.1 q.2.2.2.2.1=pdq ltInt d0 a0 b0 l0 true true)
  (fun q=>q.2.1 - q.1) (a0,b0,l0,true,true,d0) ⟨anf,hb0,Nat.le_refl _,hl0,hd0,hB0,rfl⟩ rfl Wv.V ?_
 rintro ⟨a,b,lim,wb,wp,dk⟩ ⟨hab,hb,hk,hl,hds,hB,heq⟩;simp only at hab hb hk hl hds hB heq ⊢;have ecast:(b:Int) - a=((b - a:Nat):Int):=by omega
 by_cases h12:b - a≤12
 ·have H:=aiW n a b dk hds hab hb (by omega);rw [←pdq_small (limit:=lim) (wb:=wb) (wp:=wp) h12,heq] at H;unfold hSo rwA at H;refine Wv.W2 ecast (ah (show ((b - a:Nat):Int)≤12 by omega)) ?_;refine aB (fst:=[]) (cap:=[]) H ?_;rintro av h' ⟨rfl,rfl⟩;exact Wv.V
 have c12:=aj (show ¬ ((b - a:Nat):Int)≤12 by omega);by_cases hl0:lim=0
 ·have H:=aeG n a b dk hds hab hb (by omega);rw [←pdq_heap (limit:=lim) (wb:=wb) (wp:=wp) h12 hl0,heq] at H;unfold hSo rwA at H;have e0:((lim:Int)==0)=true:=by simp;omega
  refine Wv.W3 ecast c12 e0 ?_;refine aB (fst:=[]) (cap:=[]) H ?_;rintro av h' ⟨rfl,rfl⟩;exact Wv.V
 have c0:((lim:Int)==0)=false:=by simp;omega
 obtain ⟨s1,B1,hc1,s2,B2,hpv,s3,B3⟩:=rd_facts (limit:=lim) (wb:=wb) (wp:=wp) swo_ltInt partialInsertionSort_holds reverseRange_holds (show a<b by omega) (show b≤dk.size by omega) hB;have q1:=pdq_done (lt:=ltInt) (d:=dk) (limit:=lim) (wb:=wb) (wp:=wp) h12 hl0;have q2:=pdq_eq (lt:=ltInt) (d:=dk) (limit:=lim) (wb:=wb) (wp:=wp) h12 hl0;have q3:=pdq_left (lt:=ltInt) (d:=dk) (limit:=lim) (wb:=wb) (wp:=wp) h12 hl0;have q4:=pdq_right (lt:=ltInt) (d:=dk) (limit:=lim) (wb:=wb) (wp:=wp) h12 hl0;rw [heq] at q1 q2 q3 q4;have x1:(rd ltInt dk a b lim wb wp).d1=if (!wb)=true then breakPatterns dk a b else dk:=rfl
 have x2:(rd ltInt dk a b lim wb wp).lim=if (!wb)=true then lim - 1 else lim:=rfl
 have x3:choosePivot ltInt (rd ltInt dk a b lim wb wp).d1 a b=(rd ltInt dk a b lim wb wp).c:=rfl;have x4:(rd ltInt dk a b lim wb wp).d2=if (rd ltInt dk a b lim wb wp).c.2= .decreasing then reverseRange (rd ltInt dk a b lim wb wp).d1 a b else (rd ltInt dk a b lim wb wp).d1:=rfl
 have x5:(rd ltInt dk a b lim wb wp).pivot=if (rd ltInt dk a b lim wb wp).c.2= .decreasing then (b - 1) - ((rd ltInt dk a b lim wb wp).c.1 - a) else (rd ltInt dk a b lim wb wp).c.1:=rfl
 have x6:(rd ltInt dk a b lim wb wp).hint=if (rd ltInt dk a b lim wb wp).c.2= .decreasing then Hint.increasing else (rd ltInt dk a b lim wb wp).c.2:=rfl
 have x7:(rd ltInt dk a b lim wb wp).pi=if (wb && wp && decide ((rd ltInt dk a b lim wb wp).hint= .increasing))=true then partialInsertionSort ltInt (rd ltInt dk a b lim wb wp).d2 a b else ((rd ltInt dk a b lim wb wp).d2,false):=rfl
 generalize rd ltInt dk a b lim wb wp=R at*;obtain ⟨d1,lim',c,d2,pv,hi,p1,p2⟩:=R;simp only at s1 B1 hc1 s2 B2 hpv s3 B3 q1 q2 q3 q4 x1 x2 x3 x4 x5 x6 x7;clear heq;have hlim:lim'≤lim:=by rw [x2];split<;>omega
 have ediv:((b - a:Nat):Int).tdiv 8=(((b - a) / 8:Nat):Int):=by rw [Int.tdiv_eq_ediv_of_nonneg (by omega)];omega
 have H2:=ai1 n a b d1 (s1.trans hds) (by omega) hb hn;rw [x3] at H2;rcases Bool.eq_false_or_eq_true wb with hw | hw
 case' inl=>
  rw [hw] at x1 x2;have y1:d1=dk:=x1;have y2:lim'=lim:=x2;subst y1 y2;unfold hSo rwA at H2;refine Wv.W4 ecast c12 c0 hw ?_
 case' inr=>
  rw [hw] at x1 x2;have y1:d1=breakPatterns dk a b:=x1;have y2:lim'=lim - 1:=x2;have H1:=ai5 n a b dk hds (by omega) hb hn;rw [←y1] at H1;have el:(lim:Int) - 1=(lim':Int):=by omega
  unfold hSo rwA at H1 H2;refine Wv.W4 ecast c12 c0 hw ?_;refine aB (fst:=[]) (cap:=[]) H1 ?_;rintro av h' ⟨rfl,rfl⟩;refine Wv.W1 el ?_
 all_goals
  refine aB (fst:=[]) (cap:=[]) H2 ?_;rintro av h' ⟨rfl,rfl⟩;have ec2:hnt Hint.decreasing=2:=rfl;by_cases hh:c.2= .decreasing
  case' pos=>
   rw [if_pos hh] at x4 x5 x6;have H3:=aiX n a b d1 (s1.trans hds) (by omega) hb (by omega);rw [←x4] at H3;have en:decide (hnt c.2=2)=true:=by rw [hh];rfl
   have ep:(b:Int) - 1 - ((c.1:Int) - a)=(pv:Int):=by omega
   have eh:decide (hi= .increasing)=true:=by rw [x6];rfl
   unfold hSo rwA at H3;refine Wv.W1 en ?_;refine aB (fst:=[]) (cap:=[]) H3 ?_;rintro av h' ⟨rfl,rfl⟩;refine Wv.W1 ep ?_
  case' neg=>
   rw [if_neg hh] at x4 x5 x6;subst x4;have en:decide (hnt c.2=2)=false:=by cases hc:c.2<;>first | rfl | exact absurd hc hh
   have eh:decide (hnt c.2=1)=decide (hi= .increasing):=by rw [x6];cases c.2<;>rfl
   have ep:(c.1:Int)=(pv:Int):=by omega
   refine Wv.W2 en ep ?_
  all_goals
   by_cases hp:(wb && wp && decide (hi= .increasing))=true
   case' pos=>
    rw [if_pos hp] at x7;simp only [Bool.and_eq_true] at hp;obtain ⟨⟨hp1,hp2⟩,hp3⟩:=hp;first
    | exact absurd (hw.symm.trans hp1) Bool.false_ne_true
    | skip
    all_goals
     have H4:=aiZ n a b d2 (s2.trans hds) (by omega) hb hn;rw [←x7] at H4;unfold hSo rwA at H4;refine Wv.W4 hp1 hp2 eh hp3 ?_;refine aB (fst:=[]) (cap:=[]) H4 ?_;rintro av h' ⟨rfl,rfl⟩;cases p2
     case true=>
      rw [←q1 rfl];exact Wv.V
     simp (disch:=first|exact Wv.D|fail) only [Wv.B,simprocAttr]
   case' neg=>
    rw [if_neg hp] at x7;injection x7 with x7 x8;subst x7 x8;rcases Bool.eq_false_or_eq_true wb with e1 | e1
    case' inr=>
     first
     | exact absurd (hw.symm.trans e1) (by decide)
     | skip
    case' inl=>
     first
     | exact absurd (hw.symm.trans e1) (by decide)
     | skip
     all_goals
      rcases Bool.eq_false_or_eq_true wp with e2 | e2
      case' inr=> refine Wv.W1 e2 ?_
      case' inl=>
       have e3:decide (hi= .increasing)=false:=by rw [e1,e2] at hp;simpa using hp
       first
       | exact absurd (eh.symm.trans e3) (by decide)
       | simp (disch:=first|exact Wv.D|fail) only [Wv.B,simprocAttr,e2,eh,e3]
   all_goals
    clear x1 x2 x3 x5 x6 H2 q1;by_cases ha0:a=0
    case' pos=>
     have h87:(decide (a>0) && !ltInt p1[a - 1]! p1[pv]!)=false:=by rw [ha0];rfl
     refine Wv.W1 (aj (show ¬ (a:Int)>0 by omega)) ?_
    case' neg=>
     have em:(a:Int) - 1=((a - 1:Nat):Int):=by omega
     refine Wv.W2 (ah (show (a:Int)>0 by omega)) em ?_;refine ak (iP _ _) rfl Wv.c Wv.c ?_;cases hle:ltInt p1[a - 1]! p1[pv]!
     case false=>
      have h87:(decide (a>0) && !ltInt p1[a - 1]! p1[pv]!)=true:=by rw [hle,ah (show a>0 by omega)];rfl
      obtain ⟨⟨mid,d4⟩,hx⟩: ∃ z,partitionEqual ltInt p1 a b pv=z:=⟨_,rfl⟩
      obtain ⟨r1,r2,r3,r4, -⟩:=round_eq swo_ltInt (partitionEqual_holds _) (show 0<a by omega) hpv.1 hpv.2 (by omega) B3 hle hx;have H5:=aiY n a b pv p1 (s3.trans hds) hpv.1 hpv.2 hb (by omega);rw [hx] at H5 q2;unfold hSo rwA at H5;refine Wv.W ?_;refine aB (fst:=[]) (cap:=[]) H5 ?_;rintro av h' ⟨rfl,rfl⟩;refine Wv.W ?_;refine au (mid,b,lim',wb,wp,d4) ⟨r2,hb,by simp only;omega,by simp only;omega,by simp only;omega,r4,(q2 rfl h87 ⟨r1,r2⟩).symm⟩ (by simp only;omega) rfl (by first | (simp (disch:=first|exact Wv.D|fail) only [Wv.B,simprocAttr,hw];done) | (simp (disch:=first|exact Wv.D|fail) only [Wv.B,simprocAttr,hw,hp2];done) | (simp (disch:=first|exact Wv.D|fail) only [Wv.B,simprocAttr,hw,e2];done))
     have h87:(decide (a>0) && !ltInt p1[a - 1]! p1[pv]!)=false:=by rw [hle];simp
     refine Wv.W ?_
    all_goals
     obtain ⟨⟨mid,ap,d4⟩,hx⟩: ∃ z,partition ltInt p1 a b pv=z:=⟨_,rfl⟩
     obtain ⟨r1,r2,r3,r4,r5,r6,r7⟩:=round_part swo_ltInt (partition_holds _) hpv.1 hpv.2 (show b≤p1.size by omega) B3 hx;have H6:=aeH n a b pv p1 (s3.trans hds) hpv.1 hpv.2 hb (by omega);rw [hx] at H6 q3 q4;unfold hSo rwA at H6;refine aB (fst:=[]) (cap:=[]) H6 ?_;rintro av h' ⟨rfl,rfl⟩;refine Wv.W1 ediv ?_;by_cases h4:mid - a<b - mid
     ·have H7:=ih a mid lim' d4 (by omega) (by omega) (by omega) (by omega) (by omega) r4;obtain ⟨pL,sL⟩:=pdq_sorts _ swo_ltInt d4 a mid lim' true true (by omega) (by omega) r4;have e8:=QO (x:=b) (y:=a) (p:=mid) (q:=a) (by omega) (by omega);unfold hSo rwA at H7;refine Wv.W3 (ah (show (mid:Int) - a<(b:Int) - mid by omega)) ediv e8 ?_;refine aB (fst:=[]) (cap:=[]) H7 ?_;rintro av h' ⟨rfl,rfl⟩;refine Wv.W ?_;refine au (mid+1,b,lim',decide (mid - a≥(b - a) / 8),ap,pdq ltInt d4 a mid lim' true true) ⟨by simp only;omega,hb,by simp only;omega,by simp only;omega,by simp only [pL.1];omega,(r6 _ pL sL).1,(q3 rfl h87 ⟨r1,r2⟩ h4).symm⟩ (by simp only;omega) rfl Wv.V2
     ·have H7:=ih (mid+1) b lim' d4 (by omega) (by omega) (by omega) (by omega) (by omega) r5;obtain ⟨pL,sL⟩:=pdq_sorts _ swo_ltInt d4 (mid+1) b lim' true true (by omega) (by omega) r5;have e8:=QO (x:=b) (y:=a) (p:=b) (q:=mid) (by omega) (by omega);have em1:(mid:Int)+1=((mid+1:Nat):Int):=by omega
      unfold hSo rwA at H7;refine Wv.W4 (aj (show ¬ (mid:Int) - a<(b:Int) - mid by omega)) ediv e8 em1 ?_;refine aB (fst:=[]) (cap:=[]) H7 ?_;rintro av h' ⟨rfl,rfl⟩;refine Wv.W ?_;refine au (a,mid,lim',decide (b - mid≥(b - a) / 8),ap,pdq ltInt d4 (mid+1) b lim' true true) ⟨r1,by simp only;omega,by simp only;omega,by simp only;omega,by simp only [pL.1];omega,(r7 _ pL sL).1,(q4 rfl h87 ⟨r1,r2⟩ h4).symm⟩ (by simp only;omega) rfl Wv.V
theorem Je (l:List Int):Sort.sort ltInt l.toArray=(l.mergeSort fun x y=>decide (x≤y)).toArray:=by rw [←sortInt l]
theorem aeJ (n:Nat) (d:Array Int) (hd:d.size=n) (hn:n≤48):HT Tryz.prog 149 [.own 0 n] (hSo n d) (fun r h'=>r= .tup []∧h'=hSo n (Sort.sort ltInt d)):=by
 have hl:bitsLen n≤100:=by
  unfold bitsLen;split
  ·omega
  ·have:=Nat.log2_le_self n;omega
 have H:=ai6 n hn (n+1) 0 n (bitsLen n) d hd (by omega) (Nat.zero_le _) (Nat.le_refl _) hl (.inl rfl);have hS1:pdq ltInt d 0 n (bitsLen n) true true=Sort.sort ltInt d:=by unfold Sort.sort;rw [hd]
 rw [hS1,show ((0:Nat):Int)=0 from rfl] at H;unfold hSo rwA at*;refine Wv.HT.by 11 [0,2] [(1000000,1)] [] Tryz.func149 rfl rfl rfl ?base ?_
 case base=>rfl
 refine Wv.W ?_;refine ak (ai3 n hn) rfl Wv.c Wv.c ?_;refine Wv.W ?_;refine aB (fst:=[]) (cap:=[]) H ?_;rintro av h' ⟨rfl,rfl⟩;exact Wv.V
end
end Go.Proofs.YtljfgdlgmdcmfaaGreat
namespace Go.Proofs.YtljfgdlgmdcmfaaGreat.Wv
section
open Go.RowKit
theorem HT.Z9 {P:Program} {f:FuncId} {Ky args:List AV} {h:Hp} {U s0:Nat} {c0:List AV} {Q:AV→Hp→Prop} {g:Nat} (T:HT P f Ky [some (.arr U s0 c0 0)] Q) (hg:h[g]? =some (some (.arr U s0 c0 0))) (hc0: ∀ a,a∈c0→Clo a) (hQ: ∀ r h',Q r h'→Clo r∧ ∃ o,h'=[o]∧ ∀ ob,o=some ob→ ∃ c1,ob= .arr U s0 c1 0∧c1.length=c0.length∧ ∀ a,a∈c1→Clo a) (ha:RnL (fun _=>g) 1 Ky args):
  HT P f args h (fun r h'=> ∃ o,Q r [o]∧h'=h.set g o):=by
 refine ⟨T.1,fun X vs hX hh hr=>?_⟩;subst hh;have hgl:g<X.h.length:=(List.getElem?_eq_some_iff.1 hg).1;have B:Br (fun _=>g) ⟨X.w,fun _=>X.m g,[some (.arr U s0 c0 0)],X.bad,X.ds⟩ X:=by
  refine ⟨rfl,rfl,fun i j hi hj _=>?_,fun _ _=>hgl,fun i o ho=>?_,fun i o' hi _=>?_,fun _ _=>rfl,fun _ _ _ _ _ _=>rfl⟩
  ·have hi:i<1:=hi;have hj:j<1:=hj;omega
  ·match i with
   | 0=>simp at ho;subst ho;exact ⟨_,hg,rfl,rfl,rfl,RnL.clo hc0⟩
   | i+1=>simp at ho
  ·have hi:i<1:=hi;obtain rfl:i=0:=by omega
   exact ⟨_,rfl⟩
 refine (T.2 ⟨X.w,fun _=>X.m g,[some (.arr U s0 c0 0)],X.bad,X.ds⟩ vs (B.ok hX) rfl (B.alg ha hr)).mono ?_;rintro e w' ⟨v,Y,av,rfl,rfl,S,hY,hv,hq⟩;obtain ⟨hc,o1,hYh,ho1⟩:=hQ _ _ hq;rw [hYh] at hq;have hY0:Y.h[0]? =some o1:=by rw [hYh];rfl
 have hm: ∀ c1,o1=some (.arr U s0 c1 0)→c1.length=c0.length→Y.m 0=X.m g:=fun c1 e hl=>by
  obtain ⟨c2,f2,q1,_,q3⟩:=S.oh 0 U s0 c1 0 (Nat.lt_succ_self 0) (by rw [hY0,e]);simp at q1;exact q3 (by rw [hl,q1.1])
 have hne: ∀ i,i≠g→(X.h.set g o1)[i]? =X.h[i]? :=fun i hi=>List.getElem?_set_ne fun e=>hi e.symm
 have hself:(X.h.set g o1)[g]? =some o1:=List.getElem?_set_self hgl;have hbl: ∀ b,b<X.w.heap.size→ ¬ Cx.mine ⟨X.w,fun _=>X.m g,[some (.arr U s0 c0 0)],X.bad,X.ds⟩ b→Y.w.heap[b]? =X.w.heap[b]? :=fun b hb hm=>S.block b hb hm
 have live: ∀ i,Cx.live ⟨Y.w,X.m,X.h.set g o1,Y.bad,X.ds⟩ i→X.live i:=fun i ⟨o,ho⟩=>by
  by_cases e:i=g
  ·subst e;exact ⟨_,hg⟩
  ·simp only at ho;rw [hne i e] at ho;exact ⟨o,ho⟩
 have SZ:Step X ⟨Y.w,X.m,X.h.set g o1,Y.bad,X.ds⟩:=by
  refine ⟨S.os,S.tape,S.output,S.size,fun b hb hm=>hbl b hb fun q=>hm (B.mine q),S.keep,by simp,fun i T s c fz _ hi=>?_,fun i c _ hi=>?_,fun b hb=>?_,fun b o hb=>(S.nC b o hb).imp id B.mine,fun i c _ hi=>?_,rfl⟩
  ·by_cases e:i=g
   ·subst e;simp only at hi;rw [hself] at hi;injection hi with hi;obtain ⟨c1,q1,q2,_⟩:=ho1 _ hi;cases q1;exact ⟨c0,0,hg,by omega,fun _=>rfl⟩
   ·simp only at hi;rw [hne i e] at hi;exact ⟨c,fz,hi,Nat.le_refl _,fun _=>rfl⟩
  ·by_cases e:i=g
   ·subst e;simp only at hi;rw [hself] at hi;injection hi with hi;obtain ⟨c1,q1,_⟩:=ho1 _ hi;cases q1
   ·simp only at hi;rw [hne i e] at hi;exact ⟨c,hi,rfl⟩
  ·obtain ⟨i,hl,hb⟩:=hb;exact .inr ⟨i,live i hl,hb⟩
  ·by_cases e:i=g
   ·subst e;simp only at hi;rw [hself] at hi;injection hi with hi;obtain ⟨c1,q1,_⟩:=ho1 _ hi;cases q1
   ·simp only at hi;rw [hne i e] at hi;exact ⟨c,hi,rfl⟩
 have other: ∀ j o,X.h[j]? =some (some o)→j≠g→ ∀ b,(X.m j).1=some b→Y.w.heap[b]? =X.w.heap[b]?∧ ¬ Cx.mine ⟨X.w,fun _=>X.m g,[some (.arr U s0 c0 0)],X.bad,X.ds⟩ b:=by
  intro j o hj hne b hb;have hnm: ¬ Cx.mine ⟨X.w,fun _=>X.m g,[some (.arr U s0 c0 0)],X.bad,X.ds⟩ b:=by
   rintro ⟨i,_,he⟩;exact hne (hX.inj _ _ b ⟨_,hg⟩ ⟨o,hj⟩ he hb).symm
  exact ⟨hbl b (hX.lt ⟨j,⟨o,hj⟩,hb⟩) hnm,hnm⟩
 have H8: ∀ b o,X.bad b o→ ¬ Cx.mine ⟨X.w,fun _=>X.m g,[some (.arr U s0 c0 0)],X.bad,X.ds⟩ b→Y.bad b o:=fun b o hb hm=>(S.nC b o hb).elim id fun q=>absurd q hm
 refine ⟨v,⟨Y.w,X.m,X.h.set g o1,Y.bad,X.ds⟩,av,rfl,rfl,SZ,⟨fun id c hi=>?_,fun id T s c fz hi=>?_,fun i j b hi hj=>hX.inj i j b (live i hi) (live j hj),hY.dX,fun id es hi=>?_⟩,hv.clo hc (fun b o u hu hb=>⟨hu,hb⟩),o1,hq,rfl⟩
 ·by_cases e:id=g
  ·subst e;simp only at hi;rw [hself] at hi;injection hi with hi;obtain ⟨c1,q1,_⟩:=ho1 _ hi;cases q1
  ·simp only at hi;rw [hne id e] at hi;obtain ⟨b,cvs,T,k1,k2,k3,k4,k5⟩:=hX.blk id c hi;obtain ⟨q1,q2⟩:=other id _ hi e b k1;exact ⟨b,cvs,T,k1,q1.trans k2,k3,fun o=>H8 b o (k4 o) q2,fun j a x r1 r2=>(k5 j a x r1 r2).mono SZ⟩
 ·by_cases e:id=g
  ·subst e;simp only at hi;rw [hself] at hi;injection hi with hi;obtain ⟨c1,q1,q2,q3⟩:=ho1 _ hi;have hm2:=hm c1 (hi.trans (by rw [q1])) q2;cases q1;obtain ⟨g1,g2,n,g3,g4⟩:=hY.arr 0 _ _ _ _ (hY0.trans (congrArg some hi));refine ⟨g1,g2,n,g3,?_⟩;rcases g4 with ⟨g4,g5⟩ | ⟨b,cvs,g4⟩
   ·exact .inl ⟨hm2.symm.trans g4,g5⟩
   ·exact .inr ⟨b,cvs,⟨by simp only;rw [←hm2];exact g4.at_,g4.blk,by simp only;rw [←hm2];exact g4.cap,by simp only;rw [←hm2];exact g4.iQ,by simp only;rw [←hm2];exact g4.sz,g4.bad,fun j a x r1 r2=>(g4.rep j a x r1 r2).clo (q3 a (List.mem_of_getElem? r1)) fun b o u hu hb=>⟨hu,hb⟩,g4.good⟩⟩
  simp only at hi;rw [hne id e] at hi;obtain ⟨g1,g2,n,g3,g4⟩:=hX.arr id T s c fz hi;refine ⟨g1,g2,n,g3,?_⟩;rcases g4 with g4 | ⟨b,cvs,g4⟩
  ·exact .inl g4
  ·obtain ⟨q1,q2⟩:=other id _ hi e b g4.at_;refine .inr ⟨b,cvs,⟨g4.at_,q1.trans g4.blk,g4.cap,g4.iQ,g4.sz,fun o ho=>H8 b o (g4.bad o ho) q2,fun j a x r1 r2=>(g4.rep j a x r1 r2).mono SZ,fun o ho hk=>?_⟩⟩;have hcell: ∃ u,cellAt X.w b o=some u:=by
    rw [aZ g4.blk];exact ⟨_,Array.getElem?_eq_getElem (by rw [g4.sz];have:=Nat.mul_le_mul_right s g4.cap;omega)⟩
   obtain ⟨u,hu⟩:=hcell;exact (S.keep b o u hu (g4.good o ho)).2 hk
 ·by_cases e:id=g
  ·subst e;simp only at hi;rw [hself] at hi;injection hi with hi;obtain ⟨c1,q1,_⟩:=ho1 _ hi;cases q1
  simp only at hi;rw [hne id e] at hi;obtain ⟨b,ents,clock,k1,k2,k3⟩:=hX.map id es hi;obtain ⟨q1,q2⟩:=other id _ hi e b k1;exact ⟨b,ents,clock,k1,q1.trans k2,k3.mono SZ⟩
end
end Go.Proofs.YtljfgdlgmdcmfaaGreat.Wv
namespace Go.Proofs.YtljfgdlgmdcmfaaGreat
section
open Go.RowKit Wv Go.Sort Go.Lib
theorem xB (w:World) (q b c:Nat) (d:Array Int) (h:c≠b):(putRow (Value.int .u32) (Sort.ahead w q) b 0 d).heap[c]? =w.heap[c]? :=by
 show (w.heap.modify b _)[c]? =_;rw [Array.getElem?_modify,if_neg (fun e=>h e.symm)]
def cpN (l:List Nat):Nat:=(compactUpTo (sorted l).toArray l.length).length
def cpD (l:List Nat):Array Int:=(compactUpTo (sorted l).toArray l.length++List.replicate (l.length - (compactUpTo (sorted l).toArray l.length).length) 0).toArray
def cpA (l:List Nat):AV:= .t (cpN l) 1 (tab (cpN l) fun i=> .v (.int .u32 ((cpD l)[i]!)))
theorem aac (l:List Nat):cpN l≤l.length:=by
 unfold cpN compactUpTo;rw [List.length_map];exact Nat.le_trans (List.length_filter_le _ _) (by rw [List.length_range];exact Nat.le_refl _)
theorem O4 (l:List Nat) (h1:1≤l.length) (h2:l.length≤24):HT Tryz.prog 150 [.own 0 l.length] (hSo l.length (sorted l).toArray) (fun r h'=>r=cpA l∧h'=[none]):=by
 have hs:(sorted l).toArray.size=l.length:=by rw [List.size_toArray,oM]
 refine ⟨by kernel_rfl,fun X vs hX hh hr=>?_⟩;obtain ⟨r1,r2⟩:=hr;match vs,r1 with
 | [v0],_=>
 have hv:=r2 0 _ v0 rfl rfl;have hX0:X.h[0]? =some (some (.arr 22 1 (rwA l.length (sorted l).toArray) 0)):=by rw [hh];rfl
 obtain ⟨-, -,n,g3,g4⟩:=hX.arr 0 _ _ _ _ hX0;have hlen:(rwA l.length (sorted l).toArray).length=l.length:=by unfold rwA tab;rw [List.length_map,List.length_range]
 cases hv with
 | own hid h=>
 obtain ⟨-,hx⟩:=h _ _ _ _ hX0;have hx:=hx (by rw [hlen,Nat.mul_one]);rcases g4 with ⟨-,g4⟩ | ⟨b,cvs,g4⟩
 ·rw [g4] at hlen;simp at hlen;omega
 obtain rfl:n=l.length:=by omega
 have hm:X.m 0=(some b,(X.m 0).2):=Prod.ext g4.at_ rfl;have hcs:l.length≤cvs.size:=by rw [g4.sz,Nat.mul_one];exact g4.cap
 have hH:Holds (Value.int .u32) X.w b 0 (sorted l).toArray:=fun j hj=>by
  rw [hs] at hj;have hc:cvs[j]? =some cvs[j]:=Array.getElem?_eq_getElem (by omega);have hq:=g4.rep j (.v (.int .u32 ((sorted l).toArray[j]!))) cvs[j] (by unfold rwA tab;rw [List.getElem?_map,List.getElem?_range hj];rfl) hc;refine ⟨?_,by simp [World.frozen?,g4.blk]⟩;rw [Nat.zero_add];show cellAt X.w b j=_;rw [aZ g4.blk,hc];generalize cvs[j]=y at hq;cases hq;rfl
 have hC:=Tryz.slices_Compact (Value.int .u32) (fun _=>rfl) (EqlAt.intD _ _ _) (NeqAt.intD _ _ _) 0 Tryz.zeroValue22 b 0 (X.m 0).2 (sorted l).toArray X.w hH (by omega) (by rw [hs];exact g4.cap);rw [hs] at hC;rw [hx,hm];refine hC.mono ?_;rintro e w' ⟨rfl,q,rfl⟩;have hle:=aac l;have hz:(cpD l).size=l.length:=by unfold cpD cpN at*;rw [List.size_toArray,List.length_append,List.length_replicate];omega
 have hP:=holds_putRow (Value.int .u32) (Sort.ahead X.w q) b 0 (sorted l).toArray (cpD l) (holds_ahead (Value.int .u32) X.w q b 0 _ hH) (by rw [hz,hs]);show ∃ v Y av,Ending.returned (.slice (some ⟨b,0,none⟩) (cpN l) (X.m 0).2)= .returned v∧Y.w=putRow (Value.int .u32) (Sort.ahead X.w q) b 0 (cpD l)∧Step X Y∧Ok Y∧Rep Y av v∧av=cpA l∧Y.h=[none];generalize hcd:cpD l=z at*;have mb:X.mine b:=⟨0,⟨_,hX0⟩,g4.at_⟩
 have dead: ∀ (i:Nat) (o:Ob),([none]:Hp)[i]? =some (some o)→False:=fun i o h=>by
  match i with
  | 0=>simp at h
  | i+1=>simp at h
 refine ⟨_,⟨putRow (Value.int .u32) (Sort.ahead X.w q) b 0 z,X.m,[none],fun c o=>X.bad c o∧c≠b,X.ds⟩,_,rfl,rfl,?_,?_,?_,rfl,rfl⟩
 ·refine ⟨rfl,rfl,rfl,by simp [putRow,mapBlock,Sort.ahead],fun c _ hc=>xB _ _ _ _ _ (fun e=>hc (e▸mb)),fun c o x hx hbad=>⟨?_,fun k=>hbad k.1⟩,by rw [hh];exact Nat.le_refl _,fun i T s c f _ hi=>(dead _ _ hi).elim,fun i c _ hi=>(dead _ _ hi).elim,fun c hc=>?_,fun c o h=>?_,fun i c _ hi=>(dead _ _ hi).elim,rfl⟩
  ·have hcb:c≠b:=fun e=>hbad (e▸g4.bad o (Nat.zero_le _))
   have hp:=xB X.w q b c z hcb;unfold cellAt at hx ⊢;simpa only [World.cell?,hp] using hx
  ·obtain ⟨i,⟨o,ho⟩,_⟩:=hc;exact (dead _ _ ho).elim
  ·by_cases e:c=b
   ·exact .inr (e▸mb)
   ·exact .inl ⟨h,e⟩
 ·exact ⟨fun id c h=>(dead _ _ h).elim,fun id T s c f h=>(dead _ _ h).elim,fun i j c hi=>by obtain ⟨o,ho⟩:=hi;exact (dead _ _ ho).elim,fun c o h=>by simpa [putRow,mapBlock,Sort.ahead] using hX.dX c o h.1,fun id es h=>(dead _ _ h).elim⟩
 ·unfold cpA;rw [hcd];refine .t (cvs:=(List.range (cpN l)).map fun i=> .int .u32 (z[i]!)) (by unfold tab;simp) (by unfold tab;simp) (Nat.le_trans hle g4.cap) g4.iQ (fun _=>⟨b,0,rfl,fun i x hx=>?_⟩) fun i a x ha hx=>?_
  ·have hi:i<cpN l:=by have:=(List.getElem?_eq_some_iff.1 hx).1;simpa using this
   rw [List.getElem?_map,List.getElem?_range hi] at hx;simp only [Option.map_some,Option.some.injEq] at hx;subst hx;exact ⟨(hP i (by omega)).1,fun k=>k.2 rfl⟩
  ·have hi:i<cpN l:=by have:=(List.getElem?_eq_some_iff.1 hx).1;simpa using this
   unfold tab at ha;rw [List.getElem?_map,List.getElem?_range hi] at ha hx;simp only [Option.map_some,Option.some.injEq] at ha hx;subst ha hx;exact .v _
theorem Jf (n:Nat) (d:Array Int): ∀ a,a∈rwA n d→Clo a:=by
 unfold rwA;simp only [Wv.BC]
theorem aeK (l:List Nat):(tab l.length fun i=>AV.v (.int .u32 (l[i]! :Nat)))=rwA l.length (ints l).toArray:=by
 unfold rwA;refine aS fun i hi=>?_
 have h:(ints l).toArray[i]! =((l[i]! :Nat):Int):=by
  rw [getElem!_pos (ints l).toArray i (by simpa [ints] using hi),getElem!_pos l i hi];simp [ints]
 rw [h]
theorem aeL (l:List Nat):Clo (cpA l):=by
 unfold cpA;simp only [Wv.BC]
theorem al5 (x:Par) (t s:Nat) (h1:1≤x.ch.length) (h2:x.ch.length≤24):HT Tryz.prog 147 [.ptr 0 0] (hC x t s) (fun r h'=>r= .v (.bool (decide x.ch.Nodup))∧h'=hC x t s):=by
 have C:=Z7 x t s h2 h1;have hsz:(ints x.ch).toArray.size=x.ch.length:=by simp [ints]
 have S:=aeJ x.ch.length (ints x.ch).toArray hsz (by omega);rw [show Sort.sort ltInt (ints x.ch).toArray=(sorted x.ch).toArray from Je _] at S;have F1:=HT.Z9 (h:=hC x t s++[some (.arr 22 1 (rwA x.ch.length (ints x.ch).toArray) 0)]) (g:=5) (args:=[.own 5 x.ch.length]) S rfl (Jf _ _) (fun r h' q=>by
  obtain ⟨rfl,rfl⟩:=q;exact ⟨by simp only [Wv.BC],_,rfl,fun ob e=>by injection e with e;exact ⟨_,e.symm,by unfold rwA tab;simp,Jf _ _⟩⟩) ⟨.own (by omega),trivial⟩
 have F2:=HT.Z9 (h:=hC x t s++[some (.arr 22 1 (rwA x.ch.length (sorted x.ch).toArray) 0)]) (g:=5) (args:=[.own 5 x.ch.length]) (O4 x.ch h1 h2) rfl (Jf _ _) (fun r h' q=>by
  obtain ⟨rfl,rfl⟩:=q;exact ⟨aeL _,_,rfl,fun ob e=>by cases e⟩) ⟨.own (by omega),trivial⟩
 have hnd:decide ((cpN x.ch:Int)=x.ch.length)=decide x.ch.Nodup:=by
  have h:=EL x.ch;rw [List.size_toArray,oM] at h;exact decide_eq_decide.2 ⟨fun e=>h.1 (by unfold cpN at e;omega),fun e=>by have:=h.2 e;unfold cpN;omega⟩
 have hcN:=aac x.ch;have T:HT Tryz.prog 147 [.ptr 0 0] (hC x t s) (fun r h'=>r= .v (.bool (decide x.ch.Nodup))∧h'.take 5=hC x t s):=by
  rw [aeK] at C;unfold cpA at F2;generalize cpN x.ch=m at*;unfold Me at C;unfold hC qo at*;simp only [List.cons_append,List.nil_append] at C F1 F2;refine Wv.HT.by 15 [0,2,1] [(1000000,5),(3,1000000)] [.tmp 1] Tryz.func147 rfl rfl rfl ?base ?_
  case base=>rfl
  refine Wv.W ?_;refine aB (fst:=[]) (cap:=[]) C ?_;rintro av h' ⟨rfl,rfl⟩;refine Wv.W ?_;refine aB (fst:=[]) (cap:=[]) F1 ?_;rintro av h' ⟨o,⟨rfl,q⟩,rfl⟩;unfold hSo at q;injection q with q _;subst q;refine Wv.W ?_;refine ais (L:=[0,2,1]) (by kernel_rfl) 6 1 48 (.t m 1 (tab m fun i=> .v (.int .u32 ((cpD x.ch)[i]!)))) (by kernel_rfl) rfl rfl rfl rfl rfl ⟨_,_,rfl,rfl⟩ (by kernel_rfl) ?_;refine Wv.W5 @lY @lX @lW @lV @lU ?_;refine aB (fst:=[]) (cap:=[]) F2 ?_;rintro av h' ⟨o,⟨rfl,q⟩,rfl⟩;injection q with q _;subst q;simp (disch:=first|exact Wv.D|fail) only [Wv.B,simprocAttr,lY,lX,lW,lV,lU,hnd]
 exact (RD.of (R:=fun r=>r= .v (.bool (decide x.ch.Nodup))) (p:=fun _=>False) (T.toP _) (by rintro r rfl;simp only [Wv.BL, ↓reduceIte,Nat.reduceLeDiff]) (fun r q=>q.elim) (by show loH 5 (hC x t s);unfold hC qo Jd;simp only [Wv.BL, ↓reduceIte,Nat.reduceLeDiff]<;>omega)).toT fun _ _ q=>q.1
end
section
open Go.RowKit Wv
theorem aad (x:Par) (hx:qY x) (hlen:x.ch.length≤140737488351232) (lH: ∀ q,q∈x.ch→q<4294967296):TC Tryz.prog 100 [.g (dN x)] (.v (.int .i64 (chk ay x))):=by
 have hcx:=dI x;rw [Jc];unfold qo;refine Wv.TC.by 43 [0,1,12,3,4,5,6,35,34,36,33,8,41,2] [] [.tmp 2] Tryz.func100 rfl rfl rfl ?clo ?_
 case clo=>simp only [Wv.BC]
 refine Wv.W ?_;refine ak (aiO x.n hx.n0 hx.n1) rfl Wv.c Wv.c ?_;cases hd:jo x.n with
 | false=>
  have hC:chk ay x=2:=Ig (by rw [kN,hd];rfl);simp (disch:=first|exact Wv.D|fail) only [Wv.B,simprocAttr,hC]
 | true=>
 have hn:4≤x.n∧x.n≤32:=by have:=nT hd;omega
 have ht:=Ic ay x.n x.p x.r;have hsd:stepOf ay x=(2*x.n).toNat*iL ay x.n x.p x.r:=rfl;have hcd:conds ay x=[decide (0<x.t ay),qc x.ch.length,wtB x,jF ay (stepOf ay x) x.sp,!(x.ch.any (nD ay (stepOf ay x) x.sp)),decide x.ch.Nodup]:=rfl;have htd:x.t ay=iL ay x.n x.p x.r:=rfl;refine Wv.W ?_;refine ak (Mc x.n x.p x.r hn.1 hn.2 hx.p1 hx.r0 hx.r1) rfl Wv.c Wv.c ?_;rw [←htd] at ht hsd ⊢;generalize x.t ay=t at*;have es:2*x.n*(t:Int)=((stepOf ay x:Nat):Int):=by rw [hsd,Int.natCast_mul,show (((2*x.n).toNat:Nat):Int)=2*x.n by omega]
 have hs1:stepOf ay x≤64*2147483647:=by rw [hsd];exact Nat.mul_le_mul (by omega) ht
 have hs0:0<t→0<stepOf ay x:=fun h=>by rw [hsd];exact Nat.mul_pos (by omega) h
 generalize hs:stepOf ay x=s at*;refine Wv.W1 es ?_;refine aQ (σ:=Nat) (fun i=>[(33, .own 4 6),(34, .v (.int .i64 6)),(35, .v (.int .i64 i))])
  (fun _=>hC x t s) (fun i=>i≤6∧ ∀ c,c∈(conds ay x).take i→c=true) (fun i=>6 - i) 0 ⟨by omega,fun c h=>by simp at h⟩ rfl Wv.V ?_
 rintro i ⟨h1,h2⟩;rcases (show i=0∨i=1∨i=2∨i=3∨i=4∨i=5∨i=6 by omega) with rfl | rfl | rfl | rfl | rfl | rfl | rfl
 ·have hk:(conds ay x)[0]? =some (decide (0<t)):=by rw [hcd];rfl
  have H:=alW x t s;generalize (decide (0<t))=b at*;unfold hC at H ⊢;simp (disch:=first|exact Wv.D|fail) only [Wv.B,simprocAttr,Jd];refine aB (fst:=[]) (cap:=[.ptr 1 0]) H ?_;rintro av h' ⟨rfl,rfl⟩;cases b with
  | false=>
   have hR:=o8 hk;simp (disch:=first|exact Wv.D|fail) only [Wv.B,simprocAttr,hR]
  | true=>
   refine Wv.W ?_;refine au 1 ⟨by omega,kQ h2 hk rfl⟩ (by omega) rfl Wv.V
 ·have hk:(conds ay x)[1]? =some (qc x.ch.length):=by rw [hcd];rfl
  have H:=alX x t s;generalize (qc x.ch.length)=b at*;unfold hC at H ⊢;simp (disch:=first|exact Wv.D|fail) only [Wv.B,simprocAttr,Jd];refine aB (fst:=[]) (cap:=[.ptr 0 0]) H ?_;rintro av h' ⟨rfl,rfl⟩;cases b with
  | false=>
   have hR:=o8 hk;simp (disch:=first|exact Wv.D|fail) only [Wv.B,simprocAttr,hR]
  | true=>
   refine Wv.W ?_;refine au 2 ⟨by omega,kQ h2 hk rfl⟩ (by omega) rfl Wv.V
 ·have hk:(conds ay x)[2]? =some (wtB x):=by rw [hcd];rfl
  have H:=alY x t s;generalize (wtB x)=b at*;unfold hC at H ⊢;simp (disch:=first|exact Wv.D|fail) only [Wv.B,simprocAttr,Jd];refine aB (fst:=[]) (cap:=[.ptr 0 0]) H ?_;rintro av h' ⟨rfl,rfl⟩;cases b with
  | false=>
   have hR:=o8 hk;simp (disch:=first|exact Wv.D|fail) only [Wv.B,simprocAttr,hR]
  | true=>
   refine Wv.W ?_;refine au 3 ⟨by omega,kQ h2 hk rfl⟩ (by omega) rfl Wv.V
 ·have hk:(conds ay x)[3]? =some (jF ay s x.sp):=by rw [hcd];rfl
  have t0:0<t:=of_decide_eq_true (h2 _ (by rw [hcd];simp));have H:=alZ x t s hx.sp1 (hs0 t0) (by omega);generalize (jF ay s x.sp)=b at*;unfold hC at H ⊢;simp (disch:=first|exact Wv.D|fail) only [Wv.B,simprocAttr,Jd];refine aB (fst:=[]) (cap:=[.ptr 3 0, .ptr 0 0]) H ?_;rintro av h' ⟨rfl,rfl⟩;cases b with
  | false=>
   have hR:=o8 hk;simp (disch:=first|exact Wv.D|fail) only [Wv.B,simprocAttr,hR]
  | true=>
   refine Wv.W ?_;refine au 4 ⟨by omega,kQ h2 hk rfl⟩ (by omega) rfl Wv.V
 ·have hk:(conds ay x)[4]? =some (!(x.ch.any (nD ay s x.sp))):=by rw [hcd];rfl
  have t0:0<t:=of_decide_eq_true (h2 _ (by rw [hcd];simp));have H:=al0 x t s hlen lH (hs0 t0) (by omega);generalize (!(x.ch.any (nD ay s x.sp)))=b at*;unfold hC at H ⊢;simp (disch:=first|exact Wv.D|fail) only [Wv.B,simprocAttr,Jd];refine aB (fst:=[]) (cap:=[.ptr 0 0, .ptr 3 0]) H ?_;rintro av h' ⟨rfl,rfl⟩;cases b with
  | false=>
   have hR:=o8 hk;simp (disch:=first|exact Wv.D|fail) only [Wv.B,simprocAttr,hR]
  | true=>
   refine Wv.W ?_;refine au 5 ⟨by omega,kQ h2 hk rfl⟩ (by omega) rfl Wv.V
 ·have hk:(conds ay x)[5]? =some (decide x.ch.Nodup):=by rw [hcd];rfl
  have l0:=of_decide_eq_true (h2 (qc x.ch.length) (by rw [hcd];simp));have H:=al5 x t s l0.1 l0.2;generalize (decide x.ch.Nodup)=b at*;unfold hC at H ⊢;simp (disch:=first|exact Wv.D|fail) only [Wv.B,simprocAttr,Jd];refine aB (fst:=[]) (cap:=[.ptr 0 0]) H ?_;rintro av h' ⟨rfl,rfl⟩;cases b with
  | false=>
   have hR:=o8 hk;simp (disch:=first|exact Wv.D|fail) only [Wv.B,simprocAttr,hR]
  | true=>
   refine Wv.W ?_;refine au 6 ⟨by omega,kQ h2 hk rfl⟩ (by omega) rfl Wv.V
 ·have hR:=Ue (pr:=ay) hd h2;unfold hC;exact Wv.V1 hR
end
section
open Go.RowKit Wv
theorem zS (x:Par) (k:Int) (hx:qY x) (hlen:x.ch.length≤140737488351232) (lH: ∀ q,q∈x.ch→q<4294967296):TC Tryz.prog 60 [.g (dN x), .v (.int .i64 k)] (.tup [.v (.int .i64 (eY ay x k:Nat)), .v (.int .i64 (fK ay x k))]):=by
 have hC:=aad x hx hlen lH;have hcx:Clo (.g (dN x)):= .g (dI x);rw [Jc] at*;unfold qo at*;refine Wv.TC.by 25 [0,2,1,18,4,5] [] [.tmp 4, .tmp 5] Tryz.func60 rfl rfl rfl ?clo ?_
 case clo=>simp only [Wv.BC]
 refine Wv.W ?_;refine ak hC rfl (by simp only [Wv.BC]<;>exact hcx) Wv.c ?_;cases hok:okB ay x with
 | false=>
  have hR:=yh (k:=k) (show kS ay x k=false by unfold kS;rw [hok];rfl);rw [Ig hok];simp (disch:=first|exact Wv.D|fail) only [Wv.B,simprocAttr,hR.1,hR.2,Int.natCast_zero]
 | true=>
 have hn:=Ii hok;rw [YM hok];by_cases h1:k<1
 ·have hR:=yh (k:=k) (show kS ay x k=false by unfold kS;rw [aj (show ¬ 1≤k by omega)];simp);simp (disch:=first|exact Wv.D|fail) only [Wv.B,simprocAttr,ah h1,hR.1,hR.2,Int.natCast_zero]
 by_cases h2:k>x.r
 ·have hR:=yh (k:=k) (show kS ay x k=false by unfold kS;rw [aj (show ¬ k≤x.r by omega)];simp);simp (disch:=first|exact Wv.D|fail) only [Wv.B,simprocAttr,aj h1,ah h2,hR.1,hR.2,Int.natCast_zero]
 have hR:=Ij (k:=k) (show kS ay x k=true by unfold kS;rw [hok,ah (show 1≤k by omega),ah (show k≤x.r by omega)];rfl);have:=hx.r1;refine Wv.W2 (aj h1) (aj h2) ?_;refine ak (Mc x.n x.p k hn.1 hn.2 hx.p1 (by omega) (by omega)) rfl Wv.c Wv.c ?_;simp (disch:=first|exact Wv.D|fail) only [Wv.B,simprocAttr,hR.1,hR.2]
theorem aeM (n:Int) (t q:Nat) (hn4:4≤n) (hn:n≤32) (ht0:0<t) (ht:t≤2147483647) (hq:q<4294967296):TC Tryz.prog 127 [.v (.int .i64 n), .v (.int .i64 t), .v (.int .u32 q)] (.v (.bool (jF aH ((2*n).toNat*t) q))):=by
 have es:2*n*(t:Int)=(((2*n).toNat*t:Nat):Int):=by rw [Int.natCast_mul,show (((2*n).toNat:Nat):Int)=2*n by omega]
 have hs1:(2*n).toNat*t≤64*2147483647:=Nat.mul_le_mul (by omega) ht;have hs0:0<(2*n).toNat*t:=Nat.mul_pos (by omega) ht0;generalize (2*n).toNat*t=s at*;have er:(q:Int).tmod (s:Int)=((q % s:Nat):Int):=fV q s;have hG:jF aH s q=(decide (1073741824<q) && (decide (q≤2147483647) && (decide (q % s=1) && aH q))):=rfl;refine Wv.TC.by 28 [2,0,1,6] [] [.tmp 6] Tryz.func127 rfl rfl rfl ?clo ?_
 case clo=>simp only [Wv.BC]
 by_cases c1:1073741824<q
 case neg=>
  rw [aj c1,Bool.false_and] at hG;exact Wv.V2f (aj (show ¬ (q:Int)>1073741824 by omega)) hG
 by_cases c2:q≤2147483647
 case neg=>
  rw [aj c2,Bool.false_and,Bool.and_false] at hG;exact Wv.V3 (ah (show (q:Int)>1073741824 by omega)) (aj (show ¬ (q:Int)≤2147483647 by omega)) hG
 refine Wv.W2 (ah (show (q:Int)>1073741824 by omega)) (ah (show (q:Int)≤2147483647 by omega)) ?_;refine ak (L9 q hq) rfl Wv.c Wv.c ?_;cases c4:aH q with
 | false=>
  rw [c4,Bool.and_false,Bool.and_false,Bool.and_false] at hG;simp (disch:=first|exact Wv.D|fail) only [Wv.B,simprocAttr,hG]
 | true=>
 rw [c4,ah c1,ah c2,Bool.true_and,Bool.true_and,Bool.and_true] at hG;have e1:decide (((q % s:Nat):Int)=1)=decide (q % s=1):=decide_eq_decide.2 ⟨fun h=>by omega,fun h=>by omega⟩;exact Wv.V4 es er e1 hG
end

section
open Go.RowKit Wv
theorem aae {c:Ci} (h:dS c=0):c.ni≤8∧c.no≤8:=by
 unfold dS at h;split at h
 ·cases h
 ·next h1=>
  simp only [Bool.or_eq_true,not_or,Bool.not_eq_true',Bool.not_eq_false] at h1;have:=h1.2.2.2.2;unfold rD at this;simp only [Bool.and_eq_true,decide_eq_true_eq] at this;omega
theorem yZ {x:Par} (h:fK ay x x.r=0):2≤eY ay x x.r∧eY ay x x.r≤2147483647∧4≤x.n∧x.n≤32:=by
 unfold fK at h;cases hb:kS ay x x.r with
 | false=>rw [hb] at h;cases h
 | true=>
  have hv:=(Ij hb).2;unfold kS at hb;rw [Bool.and_eq_true] at hb;have hd:=Ii hb.1;have ht:0<x.t ay:=by
   have:=hb.1;unfold okB at this;simp only [Bool.and_eq_true,decide_eq_true_eq] at this;exact this.2.1
  have hle:=Ic ay x.n x.p x.r;have e:x.t ay=iL ay x.n x.p x.r:=rfl;refine ⟨?_,by omega,hd⟩;rw [hv];rw [e] at ht;unfold iL at ht ⊢;split at ht
  ·next hq=>
   rw [if_pos hq];have:x.p ^ 1≤x.p ^ x.r.toNat:=Nat.pow_le_pow_right (by omega) (by omega);rw [Nat.pow_one] at this;omega
  ·omega
theorem UW (x:Par) (hx:qY x) (hlen:x.ch.length≤140737488351232) (lH: ∀ q,q∈x.ch→q<4294967296) (c:Ci) (hc:okC c):TC Tryz.prog 19 [.g (dN x), .g (ciC c)] (typeA (fG (fK ay x x.r) c (ruA x (eY ay x x.r)))):=
 Ll x c (ruA x (eY ay x x.r)) ksA (eY ay x x.r) (fK ay x x.r) (zS x x.r hx hlen lH) hc (fun h ns=>by
  obtain ⟨h1,h2,h3,h4⟩:=yZ h;exact Zo x _ ns h1 (by omega) (by omega) (by omega)) fun i hi=>Zn _ (hc.le i hi).1
end
section
open Go.RowKit Wv
theorem aaf {k:Int} {s:ByteArray} {n:Int} {nl:Nat} {li:Nat→Int} {na:Nat} {ar:Nat→Ex} (h:aW (.mk k s n nl li na ar)=true):(na:Int)=argN k.toNat∧(-4294967295≤n∧n≤4294967295):=by
 unfold aW at h;simp only [Bool.and_eq_true,decide_eq_true_eq] at h;refine ⟨h.2.2.2.1,?_⟩;have:=h.2.2.2.2.2.2.1;unfold inB at this;simp only [Bool.and_eq_true,decide_eq_true_eq] at this;exact this
theorem MB {f:Nat→Except Int (Bool × Nat)}: ∀ {n:Nat} {r:Bool × Nat × Nat},bK f n= .ok r→ ∀ i,i<n→ ∃ q,f i= .ok q
 | 0,r,h,i,hi=>absurd hi (Nat.not_lt_zero i)
 | n+1,r,h,i,hi=>by
  simp only [bK] at h;cases h1:bK f n with
  | error e=>rw [h1] at h;cases h
  | ok p=>
   obtain ⟨kn,d,u⟩:=p;rw [h1] at h;simp only at h;cases h2:f n with
   | error e=>rw [h2] at h;cases h
   | ok q=>
    by_cases e:i=n
    ·subst e;exact ⟨q,h2⟩
    ·exact MB h1 i (by omega)
variable {x:Par}
theorem ai7 {t:Nat} {ns:Nms}: ∀ (e:Ex) {r:Bool × Nat},aW e=true→shE ns (ruA x t) e= .ok r→goS e:=by
 intro e;induction e with
 | nil=>intro r h;cases h
 | mk k s n nl li na ar ih=>
  intro r hf h;obtain ⟨hk,_,hfa⟩:=gu hf;obtain ⟨hna,hn⟩:=aaf hf;simp only [shE] at h;split at h
  ·next hk1=>
   have h0:na=0:=by rw [hk1] at hna;have:argN (1:Int).toNat=0:=rfl;omega
   exact ⟨hk,hna,hn,fun e=>by omega,fun i hi=>by omega⟩
  ·next hk1=>
   cases hd:bK (fun i=>shE ns (ruA x t) (ar i)) na with
   | error e=>rw [hd] at h;cases h
   | ok p=>
    obtain ⟨kn,d,u⟩:=p;rw [hd] at h;have h':yH kn d (ruA x t (.mk k s n nl li na ar) u)= .ok r:=h;cases hr:ruA x t (.mk k s n nl li na ar) u with
    | error e=>rw [hr] at h';cases h'
    | ok m=>
     refine ⟨hk,hna,hn,fun e=>?_,fun i hi=>?_⟩
     ·subst e;have hq:(if KR x n=true then (.ok 0:Except Int Nat) else .error 233)= .ok m:=hr;split at hq
      ·next this=>
       unfold KR at this;rw [Bool.and_eq_true] at this;exact of_decide_eq_true this.1
      ·cases hq
     ·obtain ⟨q,hq⟩:=MB hd i hi;exact ih i (hfa i hi) hq
theorem ai8 {me:Int} {t:Nat} {c:Ci} (hc:okC c) (h:(fG me c (ruA x t)).2.2=0):goD c:=by
 obtain ⟨_,hck,h3⟩:=LV h;rw [h3] at h;refine ⟨fun i hi=>⟨(hc.le i hi).1,?_⟩,(aae hck).2⟩;have t1:qA c (ruA x t)=match iR c.fi c.ni with | none=>([], -1,230) | some ns=>Lj c (fF ns c.ln (fun ns i=>shE ns (ruA x t) (c.le i)) c.nl):=rfl
 rw [t1] at h;cases hi0:iR c.fi c.ni with
 | none=>rw [hi0] at h;cases h
 | some ns0=>
  rw [hi0] at h;simp only at h;cases hl:fF ns0 c.ln (fun ns i=>shE ns (ruA x t) (c.le i)) c.nl with
  | error p=>
   obtain ⟨i,e⟩:=p;rw [hl] at h;have he:e=0:=h;exact absurd he (ZW (fun i hi ns er q=>alT (aiK x t) _ (mY hck hi) er q) hl)
  | ok q=>
   obtain ⟨ns,ss⟩:=q;obtain ⟨_,f2⟩:=Gs hl;obtain ⟨ns',ss',r,_,a2,_⟩:=f2 i hi;exact ai7 _ (mY hck hi) a2
theorem aag (h:fK ay x x.r=0): ∃ N:Nat,x.n=N∧4≤N∧N≤32∧N % 2=0:=by
 unfold fK at h;cases hb:kS ay x x.r with
 | false=>rw [hb] at h;cases h
 | true=>
  unfold kS at hb;rw [Bool.and_eq_true] at hb;have hd:jo x.n=true:=by have:=hb.1;rw [kN] at this;simp only [Bool.and_eq_true] at this;exact this.1
  refine ⟨x.n.toNat,?_⟩;rcases nT hd with e | e | e | e<;>omega
end
section
open Go.RowKit Wv
def pJ (a b:Nat):Prop:= ∀ k,a.testBit k=true→b.testBit k=true
variable {a b:Nat}
theorem pJ.le (h:pJ a b):a≤b:=by
 have:a &&& b=a:=by
  refine Nat.eq_of_testBit_eq fun k=>?_
  rw [Nat.testBit_and];cases hk:a.testBit k with
  | false=>rfl
  | true=>rw [h k hk];rfl
 rw [←this];exact Nat.and_le_right
theorem pJ.or {c:Nat} (h:pJ a c) (h2:pJ b c):pJ (a ||| b) c:=fun k hk=>by
 rw [Nat.testBit_or,Bool.or_eq_true] at hk;exact hk.elim (h k) (h2 k)
theorem pJ.left (a b:Nat):pJ a (a ||| b):=fun k hk=>by rw [Nat.testBit_or,hk,Bool.true_or]
theorem pJ.right (a b:Nat):pJ b (a ||| b):=fun k hk=>by rw [Nat.testBit_or,hk,Bool.or_true]
theorem pJ.trans {c:Nat} (h:pJ a b) (h2:pJ b c):pJ a c:=fun k hk=>h2 k (h k hk)
theorem pJ.zero (a:Nat):pJ 0 a:=fun k hk=>by rw [Nat.zero_testBit] at hk;cases hk
def ClN (V:Nat→Nat) (A:Nat):Prop:= ∀ j,A.testBit j=true→pJ (V j) A
structure anx (V:Nat→Nat) (N S A:Nat):Prop where
 sub:pJ S A
 clo:ClN V A
 lt:A<2 ^ N
 min: ∀ B,pJ S B→ClN V B→pJ A B
def sF (f:Nat→Int):Nat→Nat
 | 0=>0
 | i+1=>sF f i ||| 2 ^ (f i).toNat
end
section
open Go.RowKit Wv
theorem QS {f:Nat→Except Int (Bool × Nat)}: ∀ {n:Nat} {r:Bool × Nat × Nat},bK f n= .ok r→ ∀ i,i<n→ ∃ q,f i= .ok q
 | 0,r,h,i,hi=>absurd hi (Nat.not_lt_zero i)
 | n+1,r,h,i,hi=>by
  simp only [bK] at h;cases h1:bK f n with
  | error e=>rw [h1] at h;cases h
  | ok p=>
   obtain ⟨kn,d,u⟩:=p;rw [h1] at h;simp only at h;cases h2:f n with
   | error e=>rw [h2] at h;cases h
   | ok q=>
    by_cases e:i=n
    ·subst e;exact ⟨q,h2⟩
    ·exact QS h1 i (by omega)
theorem MC {f:Nat→Except Int (Bool × Nat)}: ∀ {n:Nat} {e:Int},bK f n= .error e→ ∃ i,i<n∧f i= .error e
 | 0,e,h=>by cases h
 | n+1,e,h=>by
  simp only [bK] at h;cases h1:bK f n with
  | error e'=>
   rw [h1] at h;injection h with h;subst h;obtain ⟨i,hi,q⟩:=MC h1;exact ⟨i,by omega,q⟩
  | ok p=>
   obtain ⟨kn,d,u⟩:=p;rw [h1] at h;simp only at h;cases h2:f n with
   | error e'=>rw [h2] at h;injection h with h;subst h;exact ⟨n,by omega,h2⟩
   | ok q=>rw [h2] at h;cases h
variable {x:Par}
theorem aeN {t:Nat} {e:Ex} {u:Nat} {q:Int} (h:ruA x t e u= .error q):q≠0:=by
 cases e with
 | nil=>cases h
 | mk k s n nl li na ar=>
  simp only [ruA] at h;have z: ∀ {b:Prop} [Decidable b] {v:Nat} {er:Int},er≠0→(if b then (.ok v:Except Int Nat) else .error er)= .error q→q≠0:=fun {b _ v er} he hq=>by
   by_cases c:b
   ·rw [if_pos c] at hq;cases hq
   ·rw [if_neg c] at hq;injection hq with hq;subst hq;exact he
  have z2: ∀ {b c:Prop} [Decidable b] [Decidable c] {v:Nat},(if b then (if c then (.ok v:Except Int Nat) else .error 233) else .error 231)= .error q→q≠0:=fun {b c _ _ v} hq=>by
   by_cases c':b
   ·rw [if_pos c'] at hq;exact z (by decide) hq
   ·rw [if_neg c'] at hq;injection hq with hq;subst hq;decide
  by_cases c2:k=2
  ·rw [if_pos c2] at h;exact z (by decide) h
  rw [if_neg c2] at h;by_cases c3:k=3
  ·rw [if_pos c3] at h;exact z (by decide) h
  rw [if_neg c3] at h;by_cases c7:k=7
  ·rw [if_pos c7] at h;cases h
  rw [if_neg c7] at h;by_cases c8:k=8
  ·rw [if_pos c8] at h;exact z (by decide) h
  rw [if_neg c8] at h;by_cases c10:k=10
  ·rw [if_pos c10] at h;exact z (by decide) h
  rw [if_neg c10] at h;by_cases c14:k=14
  ·rw [if_pos c14] at h;exact z (by decide) h
  rw [if_neg c14] at h;by_cases c11:k=11
  ·rw [if_pos c11] at h;unfold DY at h;exact z2 h
  rw [if_neg c11] at h;by_cases c13:k=13
  ·rw [if_pos c13] at h;unfold II at h;exact z2 h
  rw [if_neg c13] at h;by_cases c12:k=12
  ·rw [if_pos c12] at h;exact z (by decide) h
  rw [if_neg c12] at h;cases h
theorem ai9 {t:Nat} {ns:Nms}: ∀ (e:Ex) {q:Int},okE e→shE ns (ruA x t) e= .error q→q≠0:=by
 intro e;induction e with
 | nil=>intro q h;exact h.elim
 | mk k s n nl li na ar ih=>
  intro q ho h;simp only [shE] at h;split at h
  ·cases hf:aF ns s with
   | none=>rw [hf] at h;injection h with h;subst h;decide
   | some r=>rw [hf] at h;cases h
  ·cases hd:bK (fun i=>shE ns (ruA x t) (ar i)) na with
   | error e=>
    rw [hd] at h;have h':(Except.error e:Except Int (Bool × Nat))= .error q:=h;injection h' with h';subst h';obtain ⟨i,hi,hq⟩:=MC hd;exact ih i (ho.2.2.2 i hi) hq
   | ok p=>
    obtain ⟨kn,d,u⟩:=p;rw [hd] at h;have h':yH kn d (ruA x t (.mk k s n nl li na ar) u)= .error q:=h;cases hr:ruA x t (.mk k s n nl li na ar) u with
    | error e=>
     rw [hr] at h';have h2:(Except.error e:Except Int (Bool × Nat))= .error q:=h';injection h2 with h2;subst h2;exact aeN hr
    | ok m=>
     rw [hr] at h';have h2:(if (if kn=true then 0 else d+m)≤8 then (Except.ok (kn,if kn=true then 0 else d+m):Except Int (Bool × Nat)) else .error 232)= .error q:=h';by_cases hle:(if kn=true then 0 else d+m)≤8
     ·rw [if_pos hle] at h2;cases h2
     ·rw [if_neg hle] at h2;injection h2 with h2;subst h2;decide
theorem al6 {N t:Nat} {ns:Nms} {es:Env} (hx:x.n=N) (hk: ∀ s,(aF ns s).isSome=true→(fH es s).isSome=true): ∀ (e:Ex) {r:Bool × Nat},okE e→aW e=true→shE ns (ruA x t) e= .ok r→goE N t es e:=by
 intro e;induction e with
 | nil=>intro r h;exact h.elim
 | mk k s n nl li na ar ih=>
  intro r ho hf h;obtain ⟨_,_,hfa⟩:=gu hf;have hna:=A8 hf;simp only [shE] at h;split at h
  ·next hk1=>
   have h0:na=0:=by rw [hk1] at hna;have:argN (1:Int).toNat=0:=rfl;omega
   refine ⟨fun _=>hk s ?_,fun e=>by omega,fun e=>by omega,fun e=>by omega,fun e=>by omega,fun i hi=>by omega⟩;cases hn:aF ns s with
   | none=>rw [hn] at h;cases h
   | some r=>rfl
  ·next hk1=>
   cases hd:bK (fun i=>shE ns (ruA x t) (ar i)) na with
   | error e=>rw [hd] at h;cases h
   | ok p=>
    obtain ⟨kn,d,u⟩:=p;rw [hd] at h;have h':yH kn d (ruA x t (.mk k s n nl li na ar) u)= .ok r:=h;cases hr:ruA x t (.mk k s n nl li na ar) u with
    | error e=>rw [hr] at h';cases h'
    | ok m=>
     have b: ∀ {b:Bool} {v:Nat} {er:Int},(if b=true then (.ok v:Except Int Nat) else .error er)= .ok m→b=true:=fun hq=>by
      split at hq
      ·assumption
      ·cases hq
     refine ⟨fun e=>absurd e hk1,fun e=>?_,fun e=>?_,fun e=>?_,fun e=>?_,fun i hi=>?_⟩
     ·subst e;have hq:(if KR x n=true then (.ok 0:Except Int Nat) else .error 233)= .ok m:=hr;have:=b hq;unfold KR at this;rw [Bool.and_eq_true] at this;exact of_decide_eq_true this.1
     ·subst e;have hq:DY x t nl li= .ok m:=hr;unfold DY at hq;split at hq
      ·have:=(IJ (b hq)).1;omega
      ·cases hq
     ·subst e;have hq:(if Ul n=true then (.ok (dU n):Except Int Nat) else .error 233)= .ok m:=hr;have:=b hq;unfold Ul at this;rw [Bool.and_eq_true] at this;have:=of_decide_eq_true this.1;omega
     ·rcases e with rfl | rfl
      ·have hq:(if jM t nl li 0 x.n=true then (.ok 0:Except Int Nat) else .error 233)= .ok m:=hr;have:=b hq;unfold jM at this;simp only [Bool.and_eq_true] at this;have:=of_decide_eq_true this.2.1;omega
      ·have hq:(if FX x nl li=true then (.ok 0:Except Int Nat) else .error 233)= .ok m:=hr;have:=b hq;unfold FX at this;rw [Bool.and_eq_true] at this;have:=of_decide_eq_true this.1;omega
     ·obtain ⟨q,hq⟩:=QS hd i hi;exact ih i (ho.2.2.2 i hi) (hfa i hi) hq
theorem zf {s s':ByteArray} {r:Bool × Nat}: ∀ {ns:Nms},(aF (ns++[(s',r)]) s).isSome=true→(aF ns s).isSome=true∨s=s'
 | [],h=>by
  have h':(if s=s' then some r else aF [] s).isSome=true:=h;by_cases e:s=s'
  ·exact .inr e
  ·rw [if_neg e] at h';cases h'
 | p::ns,h=>by
  have h':(if s=p.1 then some p.2 else aF (ns++[(s',r)]) s).isSome=true:=h;show (if s=p.1 then some p.2 else aF ns s).isSome=true∨_;by_cases e:s=p.1
  ·rw [if_pos e];exact .inl rfl
  ·rw [if_neg e] at h' ⊢;exact zf h'
theorem Gt {es:Env} {s s':ByteArray} {f:Nat→Int} (h:(fH es s).isSome=true∨s=s'):(fH (bY es s' f) s).isSome=true:=by
 rw [xq];split
 ·rfl
 ·next hn=>exact h.resolve_right hn
theorem MF {f:Nat→ByteArray} {vs:Nat→Nat→Int}: ∀ {n:Nat} {ns:Nms},iR f n=some ns→ ∀ s,(aF ns s).isSome=true→(fH (yX f vs n) s).isSome=true
 | 0,ns,h,s,hs=>by
  injection h with h;subst h;cases hs
 | n+1,ns,h,s,hs=>by
  simp only [iR] at h;obtain ⟨ns1,h1,h2⟩:=Option.bind_eq_some_iff.1 h;cases hf:aF ns1 (f n) with
  | some r=>rw [hf] at h2;cases h2
  | none=>
   rw [hf] at h2;injection h2 with h2;subst h2;exact Gt ((zf hs).imp (fun q=>MF h1 s q) id)
theorem aah {x:Par} {N t:Nat} {ln:Nat→ByteArray} {le:Nat→Ex} {ns0:Nms} {es0:Env} (hx:x.n=N) (h0: ∀ s,(aF ns0 s).isSome=true→(fH es0 s).isSome=true): ∀ {n:Nat} {ns:Nms} {ss:List (Bool × Nat)},(∀ i,i<n→okE (le i)∧aW (le i)=true)→fF ns0 ln (fun ns i=>shE ns (ruA x t) (le i)) n= .ok (ns,ss)→
  (∀ s,(aF ns s).isSome=true→(fH (UM N t es0 ln le n) s).isSome=true)∧ ∀ i,i<n→goE N t (UM N t es0 ln le i) (le i)
 | 0,ns,ss,_,h=>by
  have h':(Except.ok (ns0,[]):Except (Nat × Int) (Nms × List (Bool × Nat)))= .ok (ns,ss):=h;injection h' with h';injection h' with h1 h2;subst h1;exact ⟨h0,fun i hi=>absurd hi (Nat.not_lt_zero i)⟩
 | n+1,ns,ss,ho,h=>by
  simp only [fF] at h;cases h1:fF ns0 ln (fun ns i=>shE ns (ruA x t) (le i)) n with
  | error e=>rw [h1] at h;cases h
  | ok p=>
   obtain ⟨ns1,ss1⟩:=p;rw [h1] at h;obtain ⟨i1,i2⟩:=aah hx h0 (fun i hi=>ho i (by omega)) h1;simp only [Af] at h;split at h
   ·cases h
   ·cases h2:shE ns1 (ruA x t) (le n) with
    | error e=>rw [h2] at h;cases h
    | ok r=>
     rw [h2] at h;have h3:(Except.ok (ns1++[(ln n,r)],ss1++[r]):Except (Nat × Int) (Nms × List (Bool × Nat)))= .ok (ns,ss):=h;injection h3 with h3;injection h3 with h4 h5;subst h4;refine ⟨fun s hs=>Gt ((zf hs).imp (i1 s) id),fun i hi=>?_⟩;by_cases e:i=n
     ·subst e;exact al6 hx i1 (le i) (ho i hi).1 (ho i hi).2 h2
     ·exact i2 i (by omega)
theorem Jg {x:Par} {t:Nat} {ln:Nat→ByteArray} {le:Nat→Ex} {ns0:Nms}: ∀ {n:Nat} {q:Nat × Int},(∀ i,i<n→okE (le i))→fF ns0 ln (fun ns i=>shE ns (ruA x t) (le i)) n= .error q→q.2≠0
 | 0,q,_,h=>by cases h
 | n+1,q,ho,h=>by
  simp only [fF] at h;cases h1:fF ns0 ln (fun ns i=>shE ns (ruA x t) (le i)) n with
  | error e=>
   rw [h1] at h;injection h with h;subst h;exact Jg (fun i hi=>ho i (by omega)) h1
  | ok p=>
   obtain ⟨ns1,ss1⟩:=p;rw [h1] at h;simp only [Af] at h;split at h
   ·injection h with h;subst h;show (230:Int)≠0;decide
   ·cases h2:shE ns1 (ruA x t) (le n) with
    | error e=>rw [h2] at h;injection h with h;subst h;exact ai9 (le n) (ho n (by omega)) h2
    | ok r=>rw [h2] at h;cases h
theorem MG {ns:Nms} {fo:Nat→ByteArray}: ∀ {n:Nat},outT ns fo n=none→ ∀ i,i<n→(aF ns (fo i)).isSome=true
 | 0,_,i,hi=>absurd hi (Nat.not_lt_zero i)
 | n+1,h,i,hi=>by
  simp only [outT] at h;cases h1:outT ns fo n with
  | some e=>rw [h1] at h;cases h
  | none=>
   rw [h1] at h;have h2:IE (aF ns (fo n))=none:=h;by_cases e:i=n
   ·subst e;cases hf:aF ns (fo i) with
    | none=>rw [hf] at h2;cases h2
    | some r=>rfl
   ·exact MG h1 i (by omega)
theorem aai {c:Ci} (h:dS c=0):c.no≤8:=by
 unfold dS at h;split at h
 ·cases h
 ·next h1=>
  have h2:rD c=true:=by
   cases hf:rD c with
   | true=>rfl
   | false=>exact absurd (by rw [hf];simp) h1
  unfold rD at h2;simp only [Bool.and_eq_true,decide_eq_true_eq] at h2;omega
theorem al7 {me:Int} {N t:Nat} {c:Ci} {vs:Nat→Nat→Int} (hx:x.n=N) (hc:okC c) (h:(fG me c (ruA x t)).2.2=0):goC N t c vs:=by
 unfold fG at h;split at h
 ·cases h
 split at h
 ·next hn=>exact absurd h hn
 next h1 h2=>
 have hck:dS c=0:=by simpa using h2
 have hle: ∀ i,i<c.nl→okE (c.le i)∧aW (c.le i)=true:=fun i hi=>⟨(hc.le i hi).1,mY hck hi⟩
 unfold qA at h;cases hi:iR c.fi c.ni with
 | none=>rw [hi] at h;cases h
 | some ns=>
  rw [hi] at h;simp only at h;cases hl:fF ns c.ln (fun ns i=>shE ns (ruA x t) (c.le i)) c.nl with
  | error q=>
   rw [hl] at h;exact absurd h (Jg (fun i hi=>(hle i hi).1) hl)
  | ok q=>
   obtain ⟨ns',ss⟩:=q;rw [hl] at h;have h3:(lastT ss c.nl (outT ns' c.fo c.no)).2.2=0:=h;obtain ⟨g1,g2⟩:=aah (N:=N) (es0:=yX c.fi vs c.ni) hx (MF hi) hle hl;cases ho:outT ns' c.fo c.no with
   | some e=>
    rw [ho] at h3;have h4:e=0:=h3;subst h4;exact absurd ho fun hq=>by
     have key: ∀ {n:Nat},outT ns' c.fo n≠some 0:=by
      intro n;induction n with
      | zero=>intro hq;cases hq
      | succ n ih=>
       intro hq;simp only [outT] at hq;cases h1:outT ns' c.fo n with
       | some e=>rw [h1] at hq;injection hq with hq;subst hq;exact ih h1
       | none=>
        rw [h1] at hq;have h2:IE (aF ns' (c.fo n))=some 0:=hq;unfold IE at h2;split at h2
        ·cases h2
        ·split at h2<;>cases h2
     exact key hq
   | none=>exact ⟨fun i hi=>⟨(hle i hi).1,(hle i hi).2,g2 i hi⟩,aai hck,fun i hi=>g1 _ (MG ho i hi)⟩
end
section
open Go.RowKit Wv
end
section
open Go.RowKit Wv
end
end Go.Proofs.YtljfgdlgmdcmfaaGreat
