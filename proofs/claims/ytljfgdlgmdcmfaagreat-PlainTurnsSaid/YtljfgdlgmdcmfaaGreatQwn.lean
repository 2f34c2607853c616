/- Parts of a proof. -/
import Derived.Test.YtljfgdlgmdcmfaaGreatQwg
import Derived.Test.YtljfgdlgmdcmfaaGreatQwh
import Derived.Test.YtljfgdlgmdcmfaaGreatQwj
import Derived.Lib.ItoaNum
set_option linter.unusedVariables false
set_option linter.unusedSimpArgs false
set_option maxHeartbeats 1600000
set_option maxRecDepth 100000
namespace Go.Proofs.YtljfgdlgmdcmfaaGreat
section
open Go.RowKit Wv
theorem Vd:TC Tryz.prog 175 [] (bT 12 w12):=by
 have e:bT 12 w12= .t 12 1 [.v (.string ⟨#[99,105,114,99,117,105,116]⟩), .v (.string ⟨#[105,110,112,117,116]⟩), .v (.string ⟨#[108,101,116]⟩), .v (.string ⟨#[111,117,116,112,117,116]⟩), .v (.string ⟨#[114,111,116]⟩), .v (.string ⟨#[115,119,97,112]⟩), .v (.string ⟨#[109,97,115,107]⟩), .v (.string ⟨#[116,97,98,108,101]⟩), .v (.string ⟨#[101,113]⟩), .v (.string ⟨#[108,101,115,115]⟩), .v (.string ⟨#[112,111,119]⟩), .v (.string ⟨#[115,117,109]⟩)]:=rfl;rw [e];refine Wv.TC.by 2 [0] [] [.tmp 0] Tryz.func175 rfl rfl rfl ?clo ?_
 case clo=>simp only [Wv.BC]
 exact Wv.V
theorem oK {a b:AV} (h1:Clo a) (h2:Clo b): ∀ x,x∈[a,b]→Clo x:=by simp only [Wv.BC];exact ⟨h1,h2⟩
theorem Nh {α:Type} [DecidableEq α] (a b:α):decide (a=b)=decide (b=a):=by
 by_cases h:a=b
 ·rw [ah h,ah h.symm]
 ·rw [aj h,aj fun q=>h q.symm]
theorem jv {n i:Nat} {p:Nat→Bool} (hi:i<n) (h:p i=true):aG n p=true:=by
 unfold aG;exact List.any_eq_true.2 ⟨i,List.mem_range.2 hi,h⟩
theorem gU {n:Nat} {p:Nat→Bool} (h: ∀ i,i<n→p i=false):aG n p=false:=by
 unfold aG;exact List.any_eq_false.2 fun i hi=>by simp [h i (List.mem_range.1 hi)]
theorem ajR (n:Nat) (f:Nat→ByteArray) (s:ByteArray) (hn:n≤140737488351232):TC Tryz.prog 174 [bT n f, .v (.string s)] (.v (.bool (aG n fun i=>decide (s=f i)))):=by
 obtain ⟨B,hB⟩: ∃ B,B=aG n fun i=>decide (s=f i):=⟨_,rfl⟩
 rw [←hB];unfold bT;refine Wv.TC.by 18 [5,0,9,1,17,4] [] [.tmp 4] Tryz.func174 rfl rfl rfl ?clo ?_
 case clo=>simp only [Wv.BC]
 refine Wv.W ?_;refine aT (σ:=Nat) (fun i=>[(0, .t n 1 (tab n fun i=> .v (.string (f i)))),(1, .v (.string s)),(5, .v (.int .i64 i))]) (fun _=>[])
  (fun i=>i≤n∧ ∀ j,j<i→decide (s=f j)=false) (fun i=>n - i) 0 ⟨Nat.zero_le _,fun j hj=>by omega⟩ rfl Wv.V ?_
 rintro i ⟨hi,hbef⟩;by_cases hlt:i<n
 ·have e1:(i:Int)<n:=by omega
  have hcm:=Nh (f i) s;cases hq:decide (s=f i) with
  | true=>
   rw [hq] at hcm;have hA:=jv (p:=fun i=>decide (s=f i)) hlt hq;refine Wv.W2 (ah e1) hcm ?_;rw [hB,hA]
  | false=>
   rw [hq] at hcm;refine Wv.W2 (ah e1) hcm ?_;refine ay (i+1) ⟨by omega,fun j hj=>?_⟩ (by omega) rfl Wv.V2;by_cases e:j=i
   ·subst e;exact hq
   ·exact hbef j (by omega)
 ·obtain rfl:n=i:=by omega
  have hA:=gU (p:=fun i=>decide (s=f i)) hbef;refine Wv.W2 @Int.lt_irrefl @decide_false ?_;rw [hB,hA]
theorem xI (s:ByteArray) (hs:s.size≤140737488351232):TC Tryz.prog 111 [.v (.string s)] (.v (.bool (nameB s))):=by
 have hN:nameB s=(!(decide (s=⟨#[]⟩) || (decide (16<s.size) || (!yu (byt s 0) || (aG 4 (fun i=>decide (s=w4 i)) || aG 16 (fun i=>decide (s=w16 i)))))) && !aG s.size fun i=>!kF s i):=rfl;have hwc:Clo (bT 12 w12):=mP 12 w12;refine Wv.TC.by 46 [0,21,3,25,45,2] [] [.tmp 2] Tryz.func111 rfl rfl rfl ?clo ?_
 case clo=>simp only [Wv.BC]
 cases h1:decide (s=⟨#[]⟩) with
 | true=>
  rw [h1,Bool.true_or,Bool.not_true,Bool.false_and] at hN;simp (disch:=first|exact Wv.D|fail) only [Wv.B,simprocAttr,h1,hN]
 | false=>
  rw [Ov s (of_decide_eq_false h1)] at hN;have TI:=ajR 12 w12 s (by omega);cases h2:decide (16<s.size) with
  | true=>
   have h2':(s.size:Int)>16:=by have:=of_decide_eq_true h2;omega
   rw [h1,h2,Bool.false_or,Bool.true_or,Bool.not_true,Bool.false_and] at hN;simp (disch:=first|exact Wv.D|fail) only [Wv.B,simprocAttr,h1,h2,ah h2',hN]
  | false=>
   have h2': ¬ (s.size:Int)>16:=by have:=of_decide_eq_false h2;omega
   have hsz:s.size≠0:=fun e=>of_decide_eq_false h1 (by cases s with | mk d=>simp [ByteArray.size] at e;rw [e])
   obtain ⟨c,hc,hb⟩:=Il (b:=s) (i:=0) (by omega);simp (disch:=first|exact Wv.D|fail) only [Wv.B,simprocAttr,h1,h2,aj h2',hc,hb];refine ak (Dl (byt s 0)) rfl Wv.c Wv.c ?_;cases h3:yu (byt s 0) with
   | false=>
    rw [h1,h2,h3,Bool.false_or,Bool.false_or,Bool.not_false,Bool.true_or,Bool.not_true,Bool.false_and] at hN;simp (disch:=first|exact Wv.D|fail) only [Wv.B,simprocAttr,hN]
   | true=>
    refine Wv.W ?_;refine ak Vd rfl Wv.c hwc ?_;refine Wv.W ?_;refine ak TI rfl (oK hwc (.v _)) Wv.c ?_;cases h4:aG 12 (fun i=>decide (s=w12 i)) with
    | true=>
     rw [h1,h2,h3,h4,Bool.false_or,Bool.false_or,Bool.not_true,Bool.false_or,Bool.not_true,Bool.false_and] at hN;simp (disch:=first|exact Wv.D|fail) only [Wv.B,simprocAttr,hN]
    | false=>
     rw [h1,h2,h3,h4,Bool.false_or,Bool.false_or,Bool.not_true,Bool.false_or,Bool.not_false,Bool.true_and] at hN;clear h1 h2 h3 h4 hc hb TI hwc;refine Wv.W ?_;refine aT (σ:=Nat) (fun i=>[(0, .v (.string s)),(3, .v (.int .i64 i))]) (fun _=>[])
      (fun i=>i≤s.size∧ ∀ j,j<i→kF s j=true) (fun i=>s.size - i) 0 ⟨Nat.zero_le _,fun j hj=>by omega⟩ rfl Wv.V ?_
     rintro i ⟨hi,hj⟩;by_cases hlt:i<s.size
     ·have e1:(i:Int)<s.size:=by omega
      obtain ⟨c,hc,hb⟩:=Il hlt;refine Wv.W3 (ah e1) hc hb ?_;refine ak (Dl (byt s i)) rfl Wv.c Wv.c ?_;cases h3:yu (byt s i) with
      | true=>
       refine Wv.W2 hc hb ?_;refine ay (i+1) ⟨by omega,fun j q=>?_⟩ (by omega) rfl Wv.V2;by_cases e:j=i
       ·subst e;unfold kF;rw [h3];rfl
       ·exact hj j (by omega)
      | false=>
       refine Wv.W2 hc hb ?_;refine ak (Uw (byt s i)) rfl Wv.c Wv.c ?_;cases h4:Om (byt s i) with
       | true=>
        refine Wv.W2 hc hb ?_;refine ay (i+1) ⟨by omega,fun j q=>?_⟩ (by omega) rfl Wv.V2;by_cases e:j=i
        ·subst e;unfold kF;rw [h3,h4];rfl
        ·exact hj j (by omega)
       | false=>
        cases h5:decide (byt s i=95) with
        | true=>
         refine Wv.W3 hc hb h5 ?_;refine ay (i+1) ⟨by omega,fun j q=>?_⟩ (by omega) rfl Wv.V2;by_cases e:j=i
         ·subst e;unfold kF;rw [h3,h4,h5];rfl
         ·exact hj j (by omega)
        | false=>
         have hA:aG s.size (fun i=>!kF s i)=true:=jv (p:=fun i=>!kF s i) hlt (by unfold kF;rw [h3,h4,h5];rfl);rw [hA,Bool.not_true] at hN;simp (disch:=first|exact Wv.D|fail) only [Wv.B,simprocAttr,hc,hb,h5,hN]
     ·obtain rfl:i=s.size:=by omega
      have hA:aG s.size (fun i=>!kF s i)=false:=gU fun i hi=>by rw [hj i hi];rfl
      rw [hA,Bool.not_false] at hN;exact Wv.V3 @Int.lt_irrefl @decide_false hN
theorem zT (n:Int):TC Tryz.prog 178 [.v (.int .i64 n)] (.v (.bool (inB n))):=by
 refine Wv.TC.by 9 [0,2] [] [.tmp 2] Tryz.func178 rfl rfl rfl ?clo ?_
 case clo=>simp only [Wv.BC]
 unfold inB;by_cases h: -4294967295≤n
 ·simp (disch:=first|exact Wv.D|fail) only [Wv.B,simprocAttr,ah h,show (n≥ -4294967295)=(-4294967295≤n) from rfl]
 ·simp (disch:=first|exact Wv.D|fail) only [Wv.B,simprocAttr,aj h,show (n≥ -4294967295)=(-4294967295≤n) from rfl]
def aaF (k:Int):Int:=if 1≤k∧k≤15 then argN k.toNat else -1
theorem kinds {k:Int} (h:1≤k∧k≤15):k=1∨k=2∨k=3∨k=4∨k=5∨k=6∨k=7∨k=8∨k=9∨k=10∨k=11∨k=12∨k=13∨k=14∨k=15:=by omega
theorem aaG (k:Int):TC Tryz.prog 177 [.v (.int .i64 k)] (.v (.int .i64 (aaF k))):=by
 refine Wv.TC.by 22 [0,3,4,8,17,2] [] [.tmp 2] Tryz.func177 rfl rfl rfl ?clo ?_
 case clo=>simp only [Wv.BC]
 by_cases h:1≤k∧k≤15
 ·rcases kinds h with rfl | rfl | rfl | rfl | rfl | rfl | rfl | rfl | rfl | rfl | rfl | rfl | rfl | rfl | rfl<;>simp (disch:=first|exact Wv.D|fail) only [Wv.B,simprocAttr,aaF,argN,Int.reduceToNat]
 ·have hR:aaF k= -1:=if_neg h;simp (disch:=first|exact Wv.D|fail) only [Wv.B,simprocAttr,hR,aj (show ¬ k=1 by omega),aj (show ¬ k=2 by omega),aj (show ¬ k=3 by omega),aj (show ¬ k=4 by omega),aj (show ¬ k=5 by omega),aj (show ¬ k=6 by omega),aj (show ¬ k=7 by omega),aj (show ¬ k=8 by omega),aj (show ¬ k=9 by omega),aj (show ¬ k=10 by omega),aj (show ¬ k=11 by omega),aj (show ¬ k=12 by omega),aj (show ¬ k=13 by omega),aj (show ¬ k=14 by omega),aj (show ¬ k=15 by omega)]
theorem PL (k:Int) (h:1≤k∧k≤15):TC Tryz.prog 179 [.v (.int .i64 k)] (.v (.bool (Dn k.toNat))):=by
 refine Wv.TC.by 17 [0,2] [] [.tmp 2] Tryz.func179 rfl rfl rfl ?clo ?_
 case clo=>simp only [Wv.BC]
 rcases kinds h with rfl | rfl | rfl | rfl | rfl | rfl | rfl | rfl | rfl | rfl | rfl | rfl | rfl | rfl | rfl<;>simp (disch:=first|exact Wv.D|fail) only [Wv.B,simprocAttr,Dn,Int.reduceToNat]
theorem Nj (k:Int) (h:1≤k∧k≤15):TC Tryz.prog 180 [.v (.int .i64 k)] (.v (.bool (Dp k.toNat))):=by
 refine Wv.TC.by 13 [0,2] [] [.tmp 2] Tryz.func180 rfl rfl rfl ?clo ?_
 case clo=>simp only [Wv.BC]
 rcases kinds h with rfl | rfl | rfl | rfl | rfl | rfl | rfl | rfl | rfl | rfl | rfl | rfl | rfl | rfl | rfl<;>simp (disch:=first|exact Wv.D|fail) only [Wv.B,simprocAttr,Dp,Int.reduceToNat]
end
section
open Go.RowKit Wv
theorem Rq {b:Bool} {f:Nat→Bool} {i:Nat} (h:f i=true): ∀ {n:Nat},i<n→yA b f n=true
 | 0,q=>by omega
 | n+1,q=>by
  show (yA b f n || f n)=true;by_cases e:i=n
  ·subst e;rw [h,Bool.or_true]
  ·rw [Rq h (by omega),Bool.true_or]
theorem GK {b:Bool} {f:Nat→Bool}: ∀ {n:Nat},(∀ i,i<n→f i=false)→yA b f n=b
 | 0,_=>rfl
 | n+1,h=>by
  show (yA b f n || f n)=b;rw [GK fun i hi=>h i (by omega),h n (by omega),Bool.or_false]
theorem GL (n:Nat) (f:Nat→ByteArray) (hn:n≤140737488351232) (hf: ∀ i,i<n→(f i).size≤140737488351232):TC Tryz.prog 112 [bT n f] (.v (.bool (!aG n fun i=>!nameB (f i)))):=by
 obtain ⟨B,hB⟩: ∃ B,B=!aG n fun i=>!nameB (f i):=⟨_,rfl⟩
 rw [←hB];unfold bT;refine Wv.TC.by 16 [3,0,7,15,2] [] [.tmp 2] Tryz.func112 rfl rfl rfl ?clo ?_
 case clo=>simp only [Wv.BC]
 refine Wv.W ?_;refine aT (σ:=Nat) (fun i=>[(0, .t n 1 (tab n fun i=> .v (.string (f i)))),(3, .v (.int .i64 i))]) (fun _=>[])
  (fun i=>i≤n∧ ∀ j,j<i→(!nameB (f j))=false) (fun i=>n - i) 0 ⟨Nat.zero_le _,fun j hj=>by omega⟩ rfl Wv.V ?_
 rintro i ⟨hi,hbef⟩;by_cases hlt:i<n
 ·have e1:(i:Int)<n:=by omega
  have T:=xI (f i) (hf i hlt);refine Wv.W1 (ah e1) ?_;refine ak T rfl Wv.c Wv.c ?_;cases hq:nameB (f i) with
  | false=>
   have hA:=jv (p:=fun i=>!nameB (f i)) hlt (by simp [hq]);refine Wv.W ?_;rw [hB,hA];rfl
  | true=>
   refine Wv.W ?_;refine ay (i+1) ⟨by omega,fun j hj=>?_⟩ (by omega) rfl Wv.V2;by_cases e:j=i
   ·subst e;rw [hq];rfl
   ·exact hbef j (by omega)
 ·obtain rfl:n=i:=by omega
  have hA:=gU (p:=fun i=>!nameB (f i)) hbef;refine Wv.W2 @Int.lt_irrefl @decide_false ?_;rw [hB,hA];rfl
theorem Ve (x:Ex) (h:okE x) (hc:bV x≤4611686018427387904):TC Tryz.prog 181 [.g (exC x)] (.v (.int .i64 (bV x))):=by
 induction x with
 | nil=>exact h.elim
 | mk k s n nl li na ar ih=>
 obtain ⟨hs,hnl,hna,hh⟩:=h;have hfin:bV (.mk k s n nl li na ar)=dU 1 (fun i=>bV (ar i)) na:=rfl;rw [hfin] at hc ⊢;have hC:=dB (n:=na) (f:=fun i=>exC (ar i)) fun i _=>eU (ar i)
 have hdA: ∀ i,i<na→ ∃ r,List.drop (i*5) (dH na fun i=>exC (ar i))=exC (ar i)++r:=fun i hi=>bM (f:=fun i=>exC (ar i)) (fun i=>iK (ar i)) hi
 rw [cO];refine Wv.TC.by 21 [0,4,1,9,3,2] [] [.tmp 2] Tryz.func181 rfl rfl rfl ?clo ?_
 case clo=>simp only [Wv.BC]
 generalize (dH na fun i=>exC (ar i))=L at*;refine Wv.W ?_;refine aT (σ:=Nat) (fun i=>[(1, .ptr 0 0),(3, .v (.int .i64 (dU 1 (fun i=>bV (ar i)) i:Nat))),(4, .v (.int .i64 i))])
  (fun i=>[some (.blk [.v (.int .i64 k), .v (.string s), .v (.int .i64 n), .t nl 1 (tab nl fun i=> .v (.int .i64 (li i))), .t na 5 L])])
  (fun i=>i≤na) (fun i=>na - i) 0 (Nat.zero_le _) rfl (by simp (disch:=first|exact Wv.D|fail) only [Wv.B,simprocAttr,dU,Int.natCast_one]) ?_
 intro i hi;by_cases hlt:i<na
 ·have e1:(i:Int)<na:=by omega
  have h2:dU 1 (fun i=>bV (ar i)) i+bV (ar i)≤dU 1 (fun i=>bV (ar i)) na:=wR 1 (fun i=>bV (ar i)) hlt;have hnx:dU 1 (fun i=>bV (ar i)) (i+1)=dU 1 (fun i=>bV (ar i)) i+bV (ar i):=rfl;have T:=ih i (hh i hlt) (by omega);have hG:=dh (ar i);have hoy:=hh i hlt;obtain ⟨r,hd⟩:=hdA i hlt;obtain ⟨c0,c1,c2,c3,c4,c5,c6,h5⟩: ∃ (k:Int) (s:ByteArray) (m:Int) (a:Nat) (l:List AV) (b:Nat) (r:List AV),exC (ar i)=[.v (.int .i64 k), .v (.string s), .v (.int .i64 m), .t a 1 l, .t b 5 r]:=by cases ar i<;>exact ⟨_,_,_,_,_,_,_,rfl⟩
  simp only [h5,List.cons_append,List.nil_append] at hd;rw [h5] at T hG;generalize dU 1 (fun i=>bV (ar i)) i=S0 at*;generalize bV (ar i)=Y at*;refine Wv.W2 (ah e1) hd ?_;refine ak T rfl (dM hG) Wv.c ?_;refine Wv.W ?_;refine ay (i+1) (by omega) (by omega) rfl (Wv.V3 hnx @Int.natCast_add @Int.natCast_one)
 ·obtain rfl:i=na:=by omega
  exact Wv.V2f @Int.lt_irrefl @decide_false
theorem Vf        (x : Ex) (h : okE x) (hc : bV   x ≤ 4611686018427387904) : TC Tryz.prog 182 [.g (exC x)] (.v (.int .i64 (fK   x))) := by
  induction x with
  | nil => exact h.elim
  | mk k s n nl li na ar ih =>
  obtain ⟨hs, hnl, hna, hh⟩ := h;have hcn : ∀ i, i < na → bV   (ar i) ≤ 4611686018427387904 := fun i hi => by
    have h1 : dU   1 (fun i => bV   (ar i)) na ≤ 4611686018427387904 := hc;have h2 : dU   1 (fun i => bV   (ar i)) i + bV   (ar i) ≤ dU   1 (fun i => bV   (ar i)) na := wR       1 (fun i => bV   (ar i)) hi;omega
  have hdp := AA      (.mk k s n nl li na ar);have hfin : fK   (.mk k s n nl li na ar) = jS   (fun i => fK   (ar i)) na + 1 := rfl;rw [hfin] at hdp ⊢;have hdn : jS   (fun i => fK   (ar i)) na + 1 ≤ 4611686018427387904 := Nat.le_trans hdp hc;have hdi : ∀ i, i ≤ na → jS   (fun i => fK   (ar i)) i ≤ jS   (fun i => fK   (ar i)) na := fun i hi => by
    have key : ∀ n, i ≤ n → jS   (fun i => fK   (ar i)) i ≤ jS   (fun i => fK   (ar i)) n := fun n => by
      induction n with
      | zero => intro q; obtain rfl : i = 0 := by omega
                exact Nat.le_refl _
      | succ n ihn =>
        intro q;by_cases e : i = n + 1
        · subst e; exact Nat.le_refl _
        · have := ihn (by omega)
          show _ ≤ max (jS   (fun i => fK   (ar i)) n) (fK   (ar n));omega
    exact key na hi
  have hdA : ∀ i, i < na → ∃ r, List.drop (i * 5) (dH   na fun i => exC (ar i)) = exC (ar i) ++ r := fun i hi => bM        (f := fun i => exC (ar i)) (fun i => iK      (ar i)) hi
  rw [cO    ];refine Wv.TC.by 22 [0, 4, 1, 9, 3, 2] [] [.tmp 2] Tryz.func182 rfl rfl rfl ?clo ?_
  case clo => simp only [Wv.BC]
  generalize (dH   na fun i => exC (ar i)) = L at *;refine Wv.W ?_;refine aT   (σ := Nat) (fun i => [(1, .ptr 0 0), (3, .v (.int .i64 (jS   (fun i => fK   (ar i)) i : Nat))), (4, .v (.int .i64 i))])
    (fun i => [some (.blk [.v (.int .i64 k), .v (.string s), .v (.int .i64 n), .t nl 1 (tab nl fun i => .v (.int .i64 (li i))), .t na 5 L])])
    (fun i => i ≤ na) (fun i => na - i) 0 (Nat.zero_le _) rfl (by simp (disch:=first|exact Wv.D|fail) only [Wv.B, simprocAttr, jS  , Int.natCast_zero]) ?_
  intro i hi;by_cases hlt : i < na
  · have e1 : (i : Int) < na := by omega
    have hnx : jS   (fun i => fK   (ar i)) (i + 1) = max (jS   (fun i => fK   (ar i)) i) (fK   (ar i)) := rfl;have hb1 := hdi (i + 1) (by omega);have T := ih i (hh i hlt) (hcn i hlt);have hG := dh      (ar i);obtain ⟨r, hd⟩ := hdA i hlt;obtain ⟨c0, c1, c2, c3, c4, c5, c6, h5⟩ : ∃ (k : Int) (s : ByteArray) (m : Int) (a : Nat) (l : List AV) (b : Nat) (r : List AV), exC (ar i) = [.v (.int .i64 k), .v (.string s), .v (.int .i64 m), .t a 1 l, .t b 5 r] := by cases ar i <;> exact ⟨_, _, _, _, _, _, _, rfl⟩
    simp only [h5, List.cons_append, List.nil_append] at hd;rw [h5] at T hG;have hmx : (if ((fK   (ar i) : Nat) : Int) > ((jS   (fun i => fK   (ar i)) i : Nat) : Int) then ((fK   (ar i) : Nat) : Int) else ((jS   (fun i => fK   (ar i)) i : Nat) : Int)) = ((jS   (fun i => fK   (ar i)) (i + 1) : Nat) : Int) := by
      rw [hnx]; split <;> omega
    generalize hS1 : jS   (fun i => fK   (ar i)) (i + 1) = S1 at *;generalize jS   (fun i => fK   (ar i)) i = S0 at *;generalize fK   (ar i) = Y at *;refine Wv.W2 (ah     e1) hd ?_;refine ak      T rfl (dM    hG) Wv.c ?_;refine Wv.W1 hmx ?_;refine ay     (i + 1) (by omega) (by omega) rfl (Wv.V3 hS1 @Int.natCast_add @Int.natCast_one)
  · obtain rfl : i = na := by omega
    simp (disch:=first|exact Wv.D|fail) only [Wv.B, simprocAttr, Int.lt_irrefl, decide_false, Int.natCast_add, Int.natCast_one]
theorem Vg (x:Ex) (h:okE x):TC Tryz.prog 183 [.g (exC x)] (.v (.bool (!lI x))):=by
 induction x with
 | nil=>exact h.elim
 | mk k s n nl li na ar ih=>
 obtain ⟨hs,hnl,hna,hh⟩:=h;have hfin:lI (.mk k s n nl li na ar)=yA (decide (600<(nl:Int))) (fun i=>lI (ar i)) na:=rfl;obtain ⟨B,hB⟩: ∃ B,B=!lI (.mk k s n nl li na ar):=⟨_,rfl⟩
 rw [←hB];rw [hfin] at hB;have hdA: ∀ i,i<na→ ∃ r,List.drop (i*5) (dH na fun i=>exC (ar i))=exC (ar i)++r:=fun i hi=>bM (f:=fun i=>exC (ar i)) (fun i=>iK (ar i)) hi
 rw [cO];refine Wv.TC.by 22 [0,3,1,8,17,2] [] [.tmp 2] Tryz.func183 rfl rfl rfl ?clo ?_
 case clo=>simp only [Wv.BC]
 generalize (dH na fun i=>exC (ar i))=L at*;refine Wv.W ?_;refine aT (σ:=Nat) (fun i=>[(1, .ptr 0 0),(3, .v (.int .i64 i))])
  (fun i=>[some (.blk [.v (.int .i64 k), .v (.string s), .v (.int .i64 n), .t nl 1 (tab nl fun i=> .v (.int .i64 (li i))), .t na 5 L])])
  (fun i=>i≤na∧ ∀ j,j<i→lI (ar j)=false) (fun i=>na - i) 0 ⟨Nat.zero_le _,fun j hj=>by omega⟩ rfl Wv.V ?_
 rintro i ⟨hi,hbef⟩;by_cases hlt:i<na
 ·have e1:(i:Int)<na:=by omega
  have T:=ih i (hh i hlt);have hG:=dh (ar i);obtain ⟨r,hd⟩:=hdA i hlt;obtain ⟨c0,c1,c2,c3,c4,c5,c6,h5⟩: ∃ (k:Int) (s:ByteArray) (m:Int) (a:Nat) (l:List AV) (b:Nat) (r:List AV),exC (ar i)=[.v (.int .i64 k), .v (.string s), .v (.int .i64 m), .t a 1 l, .t b 5 r]:=by cases ar i<;>exact ⟨_,_,_,_,_,_,_,rfl⟩
  simp only [h5,List.cons_append,List.nil_append] at hd;rw [h5] at T hG;cases hq:lI (ar i) with
  | true=>
   rw [Rq (f:=fun i=>lI (ar i)) hq hlt] at hB;rw [hq] at T;refine Wv.W2 (ah e1) hd ?_;refine ak T rfl (dM hG) Wv.c ?_;refine Wv.W ?_;rw [hB];rfl
  | false=>
   rw [hq] at T;refine Wv.W2 (ah e1) hd ?_;refine ak T rfl (dM hG) Wv.c ?_;refine Wv.W ?_;refine ay (i+1) ⟨by omega,fun j hj=>?_⟩ (by omega) rfl Wv.V2;by_cases e:j=i
   ·subst e;exact hq
   ·exact hbef j (by omega)
 ·obtain rfl:i=na:=by omega
  rw [GK hbef] at hB;refine Wv.W2 @Int.lt_irrefl @decide_false ?_;rw [hB];by_cases q:(600:Int)<nl
  ·rw [ah q,aj (by omega)];rfl
  ·rw [aj q,ah (by omega)];rfl
theorem PN (x : Ex) (h : okE x) : TC Tryz.prog 114 [.g (exC x)] (.v (.bool (aW x))) := by
  induction x with
  | nil => exact h.elim
  | mk k s n nl li na ar ih =>
  obtain ⟨hs, hnl, hna, hh⟩ := h;have hfin : aW (.mk k s n nl li na ar) = (!decide (k < 1) && (!decide (15 < k) && ((if k = 1 then nameB s else decide (s = ⟨#[]⟩)) && (decide ((na : Int) = argN k.toNat) && ((Dn k.toNat || decide (n = 0)) && ((Dp k.toNat || decide ((nl : Int) = 0)) && (inB n && (!aG nl (fun i => !inB (li i)) && !aG na fun i => !aW (ar i))))))))) := rfl;obtain ⟨B, hB⟩ : ∃ B, B = aW (.mk k s n nl li na ar) := ⟨_, rfl⟩
  rw [← hB];rw [hfin] at hB;have hdA : ∀ i, i < na → ∃ r, List.drop (i * 5) (dH na fun i => exC (ar i)) = exC (ar i) ++ r := fun i hi => bM (f := fun i => exC (ar i)) (fun i => iK (ar i)) hi
  have TA := aaG k;rw [cO];refine Wv.TC.by 88 [0, 1, 40, 59, 3, 64, 73, 4, 78, 87, 2] [(1, 34)] [.tmp 2] Tryz.func114 rfl rfl rfl ?clo ?_
  case clo => simp only [Wv.BC]
  generalize (dH na fun i => exC (ar i)) = L at *;by_cases hk : 1 ≤ k ∧ k ≤ 15;rotate_left
  · have hR : aaF k = -1 := if_neg hk
    rw [hR] at TA;have hBf : B = false := by
      rw [hB];by_cases q : k < 1
      · rw [ah q]; rfl
      · rw [aj q, ah (show 15 < k by omega)]; rfl
    refine Wv.W ?_;refine dZ TA rfl Wv.c Wv.c ?_;exact Wv.V2f (aj (show ¬ (-1 : Int) = na by omega)) hBf
  have hR : aaF k = argN k.toNat := if_pos hk;rw [hR] at TA;rw [aj (show ¬ k < 1 by omega), aj (show ¬ 15 < k by omega), Bool.not_false, Bool.true_and, Bool.true_and] at hB;have TI := zT n;have TH := PL k hk;have TL := Nj k hk;have TN := xI s hs;have hcm := Nh (argN k.toNat) (na : Int);generalize argN k.toNat = A1 at *;generalize Dn k.toNat = A2 at *;generalize Dp k.toNat = A3 at *;generalize nameB s = A4 at *;have hI : inB n = inB n := rfl;refine Wv.W ?_;refine dZ TA rfl Wv.c Wv.c ?_;cases d1 : decide ((na : Int) = A1) with
  | false =>
    rw [d1] at hB hcm;simp only [Bool.false_and, Bool.and_false] at hB;simp (disch:=first|exact Wv.D|fail) only [Wv.B, simprocAttr, hcm, hB]
  | true =>
  rw [d1] at hB hcm;refine Wv.W1 hcm ?_;refine dZ TI rfl Wv.c Wv.c ?_;cases d2 : inB n with
  | false =>
    rw [d2] at hB;simp only [Bool.false_and, Bool.and_false] at hB;simp (disch:=first|exact Wv.D|fail) only [Wv.B, simprocAttr, hB]
  | true =>
  rw [d2] at hB;rw [Bool.true_and, Bool.true_and] at hB;have fin2 : (A2 || decide (n = 0)) = false → B = false := fun q => by rw [hB, q]; simp
  have aoq : (A3 || decide ((nl : Int) = 0)) = false → B = false := fun q => by rw [hB, q]; simp
  have ani : (if k = 1 then A4 else decide (s = ⟨#[]⟩)) = false → B = false := fun q => by rw [hB, q]; simp
  have aor : ∀ i, i < nl → inB (li i) = false → B = false := fun i hi q => by rw [hB, jv (p := fun i => !inB (li i)) hi (by simp [q])]; simp
  have aos : ∀ i, i < na → aW (ar i) = false → B = false := fun i hi q => by rw [hB, jv (p := fun i => !aW (ar i)) hi (by simp [q])]; simp
  have aot : (A2 || decide (n = 0)) = true → (A3 || decide ((nl : Int) = 0)) = true → (if k = 1 then A4 else decide (s = ⟨#[]⟩)) = true → (∀ i, i < nl → inB (li i) = true) → (∀ i, i < na → aW (ar i) = true) → B = true := fun q1 q2 q3 q4 q5 => by
    rw [hB, q1, q2, q3, gU (p := fun i => !inB (li i)) fun i hi => by simp [q4 i hi], gU (p := fun i => !aW (ar i)) fun i hi => by simp [q5 i hi]]; rfl
  clear hB hfin;simp (disch:=first|exact Wv.D|fail) only [Wv.B, simprocAttr];cases d3 : decide (n = 0);refine Wv.W1 d3 ?_;refine dZ TH rfl Wv.c Wv.c ?_;cases A2
  (have hBf := fin2 (by rw [d3]; rfl)
   simp (disch:=first|exact Wv.D|fail) only [Wv.B, simprocAttr, d3, hBf])
  refine Wv.W1 d3 ?_;rotate_left
  simp (disch:=first|exact Wv.D|fail) only [Wv.B, simprocAttr, d3];all_goals
    cases d4 : decide ((nl : Int) = 0);refine Wv.W1 d4 ?_;refine dZ TL rfl Wv.c Wv.c ?_;cases A3
    (have hBf := aoq (by rw [d4]; rfl)
     simp (disch:=first|exact Wv.D|fail) only [Wv.B, simprocAttr, d4, hBf])
    refine Wv.W1 d4 ?_;rotate_left
    simp (disch:=first|exact Wv.D|fail) only [Wv.B, simprocAttr, d4]
  all_goals
    by_cases hk1 : k = 1;refine Wv.W1 (ah hk1) ?_;refine ak TN rfl Wv.c Wv.c ?_;cases A4
    (have hBf := ani (if_pos hk1)
     simp (disch:=first|exact Wv.D|fail) only [Wv.B, simprocAttr, ah hk1, hBf])
    refine Wv.W1 (ah hk1) ?_;have g3 : (if k = 1 then true else decide (s = ⟨#[]⟩)) = true := if_pos hk1;rotate_left
    cases d5 : decide (s = ⟨#[]⟩)
    (have hBf := ani ((if_neg hk1).trans d5)
     simp (disch:=first|exact Wv.D|fail) only [Wv.B, simprocAttr, aj hk1, d5, hBf])
    refine Wv.W2 (aj hk1) d5 ?_;have g3 : (if k = 1 then A4 else decide (s = ⟨#[]⟩)) = true := (if_neg hk1).trans d5
  all_goals
    refine aT (σ := Nat) (fun i => [(1, .ptr 0 0), (3, .v (.int .i64 i))])
      (fun i => [some (.blk [.v (.int .i64 k), .v (.string s), .v (.int .i64 n), .t nl 1 (tab nl fun i => .v (.int .i64 (li i))), .t na 5 L])])
      (fun i => i ≤ nl ∧ ∀ j, j < i → inB (li j) = true) (fun i => nl - i) 0 ⟨Nat.zero_le _, fun j hj => by omega⟩ rfl Wv.V ?_
    rintro i ⟨hi, hbef⟩;by_cases hlt : i < nl
    · have e1 : (i : Int) < nl := by omega
      have TJ := zT (li i);cases hq : inB (li i) with
      | false =>
        have hBf := aor i hlt hq;rw [hq] at TJ;refine Wv.W1 (ah e1) ?_;refine ak TJ rfl Wv.c Wv.c ?_;simp (disch:=first|exact Wv.D|fail) only [Wv.B, simprocAttr, hBf]
      | true =>
        rw [hq] at TJ;refine Wv.W1 (ah e1) ?_;refine ak TJ rfl Wv.c Wv.c ?_;refine Wv.W ?_;refine ay (i + 1) ⟨by omega, fun j hj => ?_⟩ (by omega) rfl Wv.V2;by_cases e : j = i
        · subst e; exact hq
        · exact hbef j (by omega)
    obtain rfl : i = nl := by omega
    refine Wv.W2 @Int.lt_irrefl @decide_false ?_;clear hi hlt;refine aT (σ := Nat) (fun j => [(1, .ptr 0 0), (4, .v (.int .i64 j))])
      (fun j => [some (.blk [.v (.int .i64 k), .v (.string s), .v (.int .i64 n), .t i 1 (tab i fun i => .v (.int .i64 (li i))), .t na 5 L])])
      (fun j => j ≤ na ∧ ∀ q, q < j → aW (ar q) = true) (fun j => na - j) 0 ⟨Nat.zero_le _, fun j hj => by omega⟩ rfl Wv.V ?_
    rintro j ⟨hj, anj⟩;by_cases hlt : j < na
    · have e1 : (j : Int) < na := by omega
      have T := ih j (hh j hlt);have hG := dh (ar j);obtain ⟨r, hd⟩ := hdA j hlt;obtain ⟨c0, c1, c2, c3, c4, c5, c6, h5⟩ : ∃ (k : Int) (s : ByteArray) (m : Int) (a : Nat) (l : List AV) (b : Nat) (r : List AV), exC (ar j) = [.v (.int .i64 k), .v (.string s), .v (.int .i64 m), .t a 1 l, .t b 5 r] := by cases ar j <;> exact ⟨_, _, _, _, _, _, _, rfl⟩
      simp only [h5, List.cons_append, List.nil_append] at hd;rw [h5] at T hG;cases hq : aW (ar j) with
      | false =>
        have hBf := aos j hlt hq;rw [hq] at T;refine Wv.W2 (ah e1) hd ?_;refine ak T rfl (dM hG) Wv.c ?_;simp (disch:=first|exact Wv.D|fail) only [Wv.B, simprocAttr, hBf]
      | true =>
        rw [hq] at T;refine Wv.W2 (ah e1) hd ?_;refine ak T rfl (dM hG) Wv.c ?_;refine Wv.W ?_;refine ay (j + 1) ⟨by omega, fun q hq2 => ?_⟩ (by omega) rfl Wv.V2;by_cases e : q = j
        · subst e; exact hq
        · exact anj q (by omega)
    · obtain rfl : j = na := by omega
      have hBt := aot (by first | rfl | (rw [d3]; first | rfl | exact Bool.or_true _)) (by first | rfl | (rw [d4]; first | rfl | exact Bool.or_true _)) g3 hbef anj;exact Wv.V3 @Int.lt_irrefl @decide_false hBt
end
section
open Go.RowKit Wv
theorem Nk (y:Ex): ∃ (k:Int) (s:ByteArray) (m:Int) (a:Nat) (l:List AV) (b:Nat) (r:List AV),exC y=[.v (.int .i64 k), .v (.string s), .v (.int .i64 m), .t a 1 l, .t b 5 r]:=by cases y<;>exact ⟨_,_,_,_,_,_,_,rfl⟩
theorem aaH (c:Ci) {i:Nat} (hi:i<c.nl): ∃ r,List.drop (i*6) c.lets= .v (.string (c.ln i))::(exC (c.le i)++r):=by
 obtain ⟨r,h⟩:=bM (f:=fun i=>jg (c.ln i) (c.le i)) (fun i=>iQ _ _) hi;exact ⟨r,h⟩
theorem Vh {c:Ci} (h: ∀ j,j<c.nl→decide (40<((fK (c.le j):Nat):Int))=false∧lI (c.le j)=false):jB c=decide (((c.sum c.nl:Nat):Int)≤400):=by
 unfold jB;by_cases q:((c.sum c.nl:Nat):Int)≤400
 ·rw [ah q,gU]
  ·rfl
  ·intro j hj;have h1:c.sum (j+1)≤c.sum c.nl:=wQ 0 (fun i=>bV (c.le i)) hj;obtain ⟨h2,h3⟩:=h j hj;show (decide (400<((c.sum (j+1):Nat):Int)) || (decide (40<((fK (c.le j):Nat):Int)) || lI (c.le j)))=false;rw [h2,h3,aj (by omega)];rfl
 ·rw [aj q];have hn:c.nl≠0:=fun e=>q (by rw [e];show ((0:Nat):Int)≤400;omega)
  rw [jv (i:=c.nl - 1) (by omega)]
  ·rfl
  ·show (decide (400<((c.sum (c.nl - 1+1):Nat):Int)) || _)=true;rw [show c.nl - 1+1=c.nl by omega,ah (by omega)];rfl
theorem Vj {c:Ci} {i:Nat} (hi:i<c.nl) (h:(decide (40<((fK (c.le i):Nat):Int)) || lI (c.le i))=true):jB c=false:=by
 unfold jB;rw [jv hi (show c.big i=true from ?_)]
 ·rfl
 ·show (decide (400<((c.sum (i+1):Nat):Int)) || _)=true;rw [h,Bool.or_true]
theorem Vk (c:Ci) (h:okC c) (hn:c.nl≤1000000) (hcn: ∀ i,i<c.nl→bV (c.le i)≤1000000):TC Tryz.prog 115 [.g (ciC c)] (.v (.bool (jB c))):=by
 have hsm: ∀ i,i≤c.nl→c.sum i≤1000000*i:=fun i=>by
  induction i with
  | zero=>intro _;exact Nat.le_refl 0
  | succ i ih=>
   intro hi;have:=ih (by omega);have:=hcn i (by omega);show dU 0 (fun i=>bV (c.le i)) i+bV (c.le i)≤_;have e:c.sum i=dU 0 (fun i=>bV (c.le i)) i:=rfl;omega
 have hsb: ∀ i,i≤c.nl→c.sum i≤1000000000000:=fun i hi=>by
  have:=hsm i hi;have:=Nat.mul_le_mul_left 1000000 (show i≤1000000 by omega);omega
 refine Wv.TC.by 41 [0,4,1,9,3,38,2] [] [.tmp 2] Tryz.func115 rfl rfl rfl ?clo ?_
 case clo=>simp only [Wv.BC]
 unfold ciC bT;refine Wv.W ?_;refine aT (σ:=Nat) (fun i=>[(1, .ptr 0 0),(3, .v (.int .i64 (c.sum i:Nat))),(4, .v (.int .i64 i))])
  (fun i=>[some (.blk [.v (.string c.name), .t c.ni 1 (tab c.ni fun i=> .v (.string (c.fi i))), .t c.nl 6 c.lets, .t c.no 1 (tab c.no fun i=> .v (.string (c.fo i)))])])
  (fun i=>i≤c.nl∧ ∀ j,j<i→decide (40<((fK (c.le j):Nat):Int))=false∧lI (c.le j)=false) (fun i=>c.nl - i) 0 ⟨Nat.zero_le _,fun j hj=>by omega⟩ rfl (by simp (disch:=first|exact Wv.D|fail) only [Wv.B,simprocAttr,Ci.sum,dU,Int.natCast_zero]) ?_
 rintro i ⟨hi,hbef⟩;have hnl:=h.nl;by_cases hlt:i<c.nl
 ·have e1:(i:Int)<c.nl:=by omega
  have hs1:c.sum (i+1)=c.sum i+bV (c.le i):=rfl;have hs2:=hsb (i+1) (by omega);have hci:=hcn i hlt;have hdc:=AA (c.le i);have T1:=Ve (c.le i) (h.le i hlt).1 (h.le i hlt).2;have T2:=Vf (c.le i) (h.le i hlt).1 (h.le i hlt).2;have T3:=Vg (c.le i) (h.le i hlt).1;have hG:=dh (c.le i);have hbad:=Vj (c:=c) hlt;obtain ⟨r,hd⟩:=aaH c hlt;obtain ⟨c0,c1,c2,c3,c4,c5,c6,h5⟩:=Nk (c.le i);simp only [h5,List.cons_append,List.nil_append] at hd;rw [h5] at T1 T2 T3 hG;generalize hS1:c.sum (i+1)=S1 at*;generalize c.sum i=S0 at*;generalize hY:bV (c.le i)=Y at*;generalize hZ:fK (c.le i)=Z at*;refine Wv.W2 (ah e1) hd ?_;refine ak T1 rfl (dM hG) Wv.c ?_;refine Wv.W1 hd ?_;refine ak T2 rfl (dM hG) Wv.c ?_;cases d1:decide (40<(Z:Int)) with
  | true=>
   have d1':decide ((Z:Int)>40)=true:=d1;have hf:=hbad (by rw [d1];rfl);simp (disch:=first|exact Wv.D|fail) only [Wv.B,simprocAttr,d1',hf]
  | false=>
   have d1':decide ((Z:Int)>40)=false:=d1;simp (disch:=first|exact Wv.D|fail) only [Wv.B,simprocAttr,d1',hd];refine ak T3 rfl (dM hG) Wv.c ?_;cases d2:lI (c.le i) with
   | true=>
    have hf:=hbad (by rw [d2,Bool.or_true]);simp (disch:=first|exact Wv.D|fail) only [Wv.B,simprocAttr,hf]
   | false=>
    refine Wv.W ?_;refine ay (i+1) ⟨by omega,fun j hj=>?_⟩ (by omega) rfl (by simp (disch:=first|exact Wv.D|fail) only [Wv.B,simprocAttr,hS1,hs1,Int.natCast_add,Int.natCast_one]);by_cases e:j=i
    ·subst e;exact ⟨by rw [hZ];exact d1,d2⟩
    ·exact hbef j (by omega)
 ·obtain rfl:i=c.nl:=by omega
  have hf:=Vh hbef;exact Wv.V3 @Int.lt_irrefl @decide_false hf
theorem Nl (c:Ci):TC Tryz.prog 113 [.g (ciC c)] (.v (.bool (qZ c))):=by
 refine Wv.TC.by 19 [0,1,2] [] [.tmp 2] Tryz.func113 rfl rfl rfl ?clo ?_
 case clo=>simp only [Wv.BC]
 unfold ciC bT;have hN:qZ c=(decide ((c.ni:Int)≤8) && (decide ((c.nl:Int)≤60) && decide ((c.no:Int)≤8))):=rfl;cases h1:decide ((c.ni:Int)≤8) with
 | false=>rw [h1,Bool.false_and] at hN;simp (disch:=first|exact Wv.D|fail) only [Wv.B,simprocAttr,h1,hN]
 | true=>
 cases h2:decide ((c.nl:Int)≤60) with
 | false=>rw [h1,h2,Bool.false_and,Bool.and_false] at hN;simp (disch:=first|exact Wv.D|fail) only [Wv.B,simprocAttr,h1,h2,hN]
 | true=>rw [h1,h2,Bool.true_and,Bool.true_and] at hN;simp (disch:=first|exact Wv.D|fail) only [Wv.B,simprocAttr,h1,h2,hN]
theorem PO (c:Ci) (h:okC c) (hn:c.nl≤1000000) (hcn: ∀ i,i<c.nl→bV (c.le i)≤1000000):TC Tryz.prog 67 [.g (ciC c)] (.v (.int .i64 (dN c))):=by
 have hcl:=wU c;have hLc:=iR c;have T0:=xI c.name h.name;have T1:=GL c.ni c.fi h.ni h.fi;have T2:=GL c.no c.fo h.no h.fo;have T3:=Nl c;have T4:=Vk c h hn hcn;have hsc:=mP c.ni c.fi;have hso:=mP c.no c.fo;have hN:dN c=if (!nameB c.name || (aG c.ni (fun i=>!nameB (c.fi i)) || (aG c.no (fun i=>!nameB (c.fo i)) || (decide ((c.no:Int)=0) || !qZ c))))=true then 2
  else if aG c.nl (fun i=>!nameB (c.ln i) || !aW (c.le i))=true then 2 else if jB c=true then 0 else 3:=rfl
 generalize dN c=R at*;unfold ciC bT at*;refine Wv.TC.by 59 [0,1,30,3,35,55,58,2] [] [.tmp 2] Tryz.func67 rfl rfl rfl ?clo ?_
 case clo=>simp only [Wv.BC]
 refine Wv.W ?_;refine ak T0 rfl Wv.c Wv.c ?_;cases h1:nameB c.name with
 | false=>rw [h1] at hN;simp only [Bool.not_false,Bool.true_or,if_true] at hN;simp (disch:=first|exact Wv.D|fail) only [Wv.B,simprocAttr,hN]
 | true=>
 refine Wv.W ?_;refine ak T1 rfl (dM hsc) Wv.c ?_;cases h2:aG c.ni (fun i=>!nameB (c.fi i)) with
 | true=>rw [h1,h2] at hN;simp only [Bool.not_true,Bool.false_or,Bool.true_or,if_true] at hN;simp (disch:=first|exact Wv.D|fail) only [Wv.B,simprocAttr,hN]
 | false=>
 refine Wv.W ?_;refine ak T2 rfl (dM hso) Wv.c ?_;cases h3:aG c.no (fun i=>!nameB (c.fo i)) with
 | true=>rw [h1,h2,h3] at hN;simp only [Bool.not_true,Bool.false_or,Bool.true_or,if_true] at hN;simp (disch:=first|exact Wv.D|fail) only [Wv.B,simprocAttr,hN]
 | false=>
 cases h4:decide ((c.no:Int)=0) with
 | true=>rw [h1,h2,h3,h4] at hN;simp only [Bool.not_true,Bool.false_or,Bool.true_or,if_true] at hN;simp (disch:=first|exact Wv.D|fail) only [Wv.B,simprocAttr,h4,hN]
 | false=>
 refine Wv.W1 h4 ?_;refine ak T3 rfl (dM hcl) Wv.c ?_;cases h5:qZ c with
 | false=>rw [h1,h2,h3,h4,h5] at hN;simp only [Bool.not_true,Bool.not_false,Bool.false_or,Bool.or_true,if_true] at hN;simp (disch:=first|exact Wv.D|fail) only [Wv.B,simprocAttr,hN]
 | true=>
 rw [h1,h2,h3,h4,h5] at hN;simp only [Bool.not_true,Bool.or_false,Bool.false_eq_true,if_false] at hN;refine Wv.W ?_;refine aT (σ:=Nat) (fun i=>[(1, .ptr 0 0),(3, .v (.int .i64 i))])
  (fun i=>[some (.blk [.v (.string c.name), .t c.ni 1 (tab c.ni fun i=> .v (.string (c.fi i))), .t c.nl 6 c.lets, .t c.no 1 (tab c.no fun i=> .v (.string (c.fo i)))])])
  (fun i=>i≤c.nl∧ ∀ j,j<i→(!nameB (c.ln j) || !aW (c.le j))=false) (fun i=>c.nl - i) 0 ⟨Nat.zero_le _,fun j hj=>by omega⟩ rfl Wv.V ?_
 rintro i ⟨hi,hbef⟩;have hnl:=h.nl;by_cases hlt:i<c.nl
 ·have e1:(i:Int)<c.nl:=by omega
  have T5:=xI (c.ln i) (h.ln i hlt);have T6:=PN (c.le i) (h.le i hlt).1;have hG:=dh (c.le i);have hbad:(!nameB (c.ln i) || !aW (c.le i))=true→R=2:=fun q=>by
   rw [hN,jv (p:=fun i=>!nameB (c.ln i) || !aW (c.le i)) hlt q];rfl
  obtain ⟨r,hd⟩:=aaH c hlt;obtain ⟨c0,c1,c2,c3,c4,c5,c6,h6⟩:=Nk (c.le i);simp only [h6,List.cons_append,List.nil_append] at hd;rw [h6] at T6 hG;refine Wv.W2 (ah e1) hd ?_;refine ak T5 rfl Wv.c Wv.c ?_;cases d1:nameB (c.ln i) with
  | false=>
   have hf:=hbad (by rw [d1];rfl);simp (disch:=first|exact Wv.D|fail) only [Wv.B,simprocAttr,hf]
  | true=>
   refine Wv.W1 hd ?_;refine ak T6 rfl (dM hG) Wv.c ?_;cases d2:aW (c.le i) with
   | false=>
    have hf:=hbad (by rw [d2];simp);simp (disch:=first|exact Wv.D|fail) only [Wv.B,simprocAttr,hf]
   | true=>
    refine Wv.W ?_;refine ay (i+1) ⟨by omega,fun j hj=>?_⟩ (by omega) rfl Wv.V2;by_cases e:j=i
    ·subst e;rw [d1,d2];rfl
    ·exact hbef j (by omega)
 ·obtain rfl:i=c.nl:=by omega
  rw [gU hbef] at hN;simp only [Bool.false_eq_true,if_false] at hN;refine Wv.W2 @Int.lt_irrefl @decide_false ?_;refine ak T4 rfl (dM hcl) Wv.c ?_;cases d3:jB c with
  | true=>rw [d3] at hN;simp only [if_true] at hN;simp (disch:=first|exact Wv.D|fail) only [Wv.B,simprocAttr,hN]
  | false=>rw [d3] at hN;simp only [Bool.false_eq_true,if_false] at hN;simp (disch:=first|exact Wv.D|fail) only [Wv.B,simprocAttr,hN]
end
section
open Go.RowKit Wv
def shM (m:Nat) (sh:Nat→Bool × Nat):List AV:=dH m fun i=>[.v (.bool (sh i).1), .v (.int .i64 (sh i).2)]
def yC (N t r:Int) (m:Nat) (nm:Nat→ByteArray) (sh:Nat→Bool × Nat):List AV:=[.v (.int .i64 N), .v (.int .i64 t), .v (.int .i64 r),bT m nm, .t m 2 (shM m sh)]
theorem afe (m:Nat) (sh:Nat→Bool × Nat): ∀ a,a∈shM m sh→Clo a:=dB fun i _=>by simp only [Wv.BC]
theorem vK (N t r:Int) (m:Nat) (nm:Nat→ByteArray) (sh:Nat→Bool × Nat):Clo (.tp (yC N t r m nm sh)):=by
 refine .tp ?_;unfold yC bT;simp only [Wv.BC];exact afe m sh
theorem ajS {m:Nat} {sh:Nat→Bool × Nat} {i:Nat} (hi:i<m): ∃ r,List.drop (i*2) (shM m sh)= .v (.bool (sh i).1):: .v (.int .i64 (sh i).2)::r:=by
 obtain ⟨r,h⟩:=bM (m:=2) (f:=fun i=>[AV.v (.bool (sh i).1), .v (.int .i64 (sh i).2)]) (fun i=>rfl) hi;exact ⟨r,h⟩
def fiR (m:Nat) (nm:Nat→ByteArray) (sh:Nat→Bool × Nat) (s:ByteArray):Option (Bool × Nat):=(findF (fun i=>decide (nm i=s)) m).map sh
def fiA (o:Option (Bool × Nat)):AV:= .tup [shA (o.getD (false,0)), .v (.bool o.isSome)]
theorem Bo (o:Option (Bool × Nat)):Clo (fiA o):=by unfold fiA shA;simp only [Wv.BC]
theorem xJ (N t r:Int) (m:Nat) (nm:Nat→ByteArray) (sh:Nat→Bool × Nat) (s:ByteArray) (hm:m≤140737488351232):TC Tryz.prog 68 [.tp (yC N t r m nm sh), .v (.string s)] (fiA (fiR m nm sh s)):=by
 have hc:=Bo (fiR m nm sh s);have hR:fiR m nm sh s=(findF (fun i=>decide (nm i=s)) m).map sh:=rfl;generalize fiR m nm sh s=R at*;have hdr: ∀ i,i<m→ ∃ r,List.drop (i*2) (shM m sh)= .v (.bool (sh i).1):: .v (.int .i64 (sh i).2)::r:=fun i hi=>ajS hi
 unfold yC bT;refine Wv.TC.by 33 [6,0,13,1,24,4,5] [] [.cell 4 42, .tmp 5] Tryz.func68 rfl rfl rfl ?clo ?_
 case clo=>exact hc
 generalize shM m sh=L at*;refine Wv.W ?_;refine aT (σ:=Nat) (fun i=>[(0, .tp [.v (.int .i64 N), .v (.int .i64 t), .v (.int .i64 r), .t m 1 (tab m fun i=> .v (.string (nm i))), .t m 2 L]),(1, .v (.string s)),(4, .ptr 0 0),(6, .v (.int .i64 i))]) (fun _=>[some (.blk [.v (.bool false), .v (.int .i64 0)])])
  (fun i=>i≤m∧ ∀ j,j<i→decide (nm j=s)=false) (fun i=>m - i) 0 ⟨Nat.zero_le _,fun j hj=>by omega⟩ rfl Wv.V ?_
 rintro i ⟨hi,hbef⟩;by_cases hlt:i<m
 ·have e1:(i:Int)<m:=by omega
  obtain ⟨rr,hd⟩:=hdr i hlt;cases hq:decide (nm i=s) with
  | true=>
   rw [iy (p:=fun i=>decide (nm i=s)) hlt hq hbef] at hR;subst hR;refine Wv.W3 (ah e1) hq hd ?_;rfl
  | false=>
   refine Wv.W2 (ah e1) hq ?_;refine ay (i+1) ⟨by omega,fun j hj=>?_⟩ (by omega) rfl Wv.V2;by_cases e:j=i
   ·subst e;exact hq
   ·exact hbef j (by omega)
 ·obtain rfl:m=i:=by omega
  rw [fZ (p:=fun i=>decide (nm i=s)) hbef] at hR;subst hR;refine Wv.W2 @Int.lt_irrefl @decide_false ?_;rfl
theorem Rt (N t r:Int) (m:Nat) (nm:Nat→ByteArray) (sh:Nat→Bool × Nat) (n:Int) (hn:inB n=true) (ht:1≤t) (ht':t≤4611686018427387904):TC Tryz.prog 185 [.tp (yC N t r m nm sh), .v (.int .i64 n)] (.v (.bool (ny t n))):=by
 have hn': -4294967295≤n∧n≤4294967295:=by
  unfold inB at hn;rw [Bool.and_eq_true] at hn;exact ⟨of_decide_eq_true hn.1,of_decide_eq_true hn.2⟩
 have hq1:(t - 1).tdiv 2=(t - 1) / 2:=Int.tdiv_eq_ediv_of_nonneg (by omega);have hq2:(-(t - 1)).tdiv 2= -((t - 1) / 2):=by rw [Int.neg_tdiv,hq1]
 have hq3:(0 - (t - 1)).tdiv 2= -((t - 1) / 2):=by rw [Int.zero_sub,hq2]
 have hB:ny t n=(decide (n≥ -((t - 1) / 2)) && decide (n≤(t - 1) / 2)):=by
  unfold ny;by_cases h1:n≥ -((t - 1) / 2)
  ·rw [ah h1,Bool.true_and];by_cases h2:n≤(t - 1) / 2
   ·rw [ah h2];exact ah (by split<;>omega)
   ·rw [aj h2];exact aj (by split<;>omega)
  ·rw [aj h1,Bool.false_and];exact aj (by split<;>omega)
 unfold yC bT;refine Wv.TC.by 24 [1,0,4] [] [.tmp 4] Tryz.func185 rfl rfl rfl ?clo ?_
 case clo=>simp only [Wv.BC]
 generalize shM m sh=L at*;have hw:IntKind.i64.wrap (-((t - 1) / 2))= -((t - 1) / 2):=by rw [IntKind.wrap_i64];omega
 have hw2:IntKind.i64.wrap ((t - 1) / 2)=(t - 1) / 2:=by rw [IntKind.wrap_i64];omega
 generalize (t - 1) / 2=H at*;by_cases h1:n≥ -H
 ·rw [ah h1,Bool.true_and] at hB;simp (disch:=first|exact Wv.D|fail) only [Wv.B,simprocAttr,hq1,hq2,hq3,hw,hw2,ah (show -H≤n from h1),hB]
 ·rw [aj h1,Bool.false_and] at hB;simp (disch:=first|exact Wv.D|fail) only [Wv.B,simprocAttr,hq1,hq2,hq3,hw,hw2,aj (show ¬(-H≤n) from h1),hB]
theorem Np (N t r:Int) (m:Nat) (nm:Nat→ByteArray) (sh:Nat→Bool × Nat) (nl:Nat) (li:Nat→Int) (most:Int) (hnl:nl≤140737488351232) (hli: ∀ i,i<nl→inB (li i)=true) (ht:1≤t) (ht':t≤4611686018427387904):TC Tryz.prog 186 [.tp (yC N t r m nm sh), .t nl 1 (tab nl fun i=> .v (.int .i64 (li i))), .v (.int .i64 most)] (.v (.bool (jL t nl li 0 most))):=by
 have hB:jL t nl li 0 most=(decide ((nl:Int)≤most) && !aG nl fun i=>!ny t (li i)):=by
  unfold jL;rw [ah (show (0:Int)≤(nl:Int) by omega),Bool.true_and]
 have hyc:=vK N t r m nm sh;have TB:=fun i hi=>Rt N t r m nm sh (li i) (hli i hi) ht ht'
 generalize jL t nl li 0 most=B at*;generalize yC N t r m nm sh=Y at*;refine Wv.TC.by 25 [7,1,11,0,20,2,6] [] [.tmp 6] Tryz.func186 rfl rfl rfl ?clo ?_
 case clo=>simp only [Wv.BC]
 refine Wv.W ?_;refine aT (σ:=Nat) (fun i=>[(0, .tp Y),(1, .t nl 1 (tab nl fun i=> .v (.int .i64 (li i)))),(2, .v (.int .i64 most)),(7, .v (.int .i64 i))]) (fun _=>[])
  (fun i=>i≤nl∧ ∀ j,j<i→(!ny t (li j))=false) (fun i=>nl - i) 0 ⟨Nat.zero_le _,fun j hj=>by omega⟩ rfl Wv.V ?_
 rintro i ⟨hi,hbef⟩;by_cases hlt:i<nl
 ·have e1:(i:Int)<nl:=by omega
  have T:=TB i hlt;cases hq:ny t (li i) with
  | false=>
   rw [hq] at T;rw [jv (p:=fun i=>!ny t (li i)) hlt (by simp [hq])] at hB;refine Wv.W1 (ah e1) ?_;refine ak T rfl (oK hyc (.v _)) Wv.c ?_;refine Wv.W ?_;rw [hB];simp
  | true=>
   rw [hq] at T;refine Wv.W1 (ah e1) ?_;refine ak T rfl (oK hyc (.v _)) Wv.c ?_;refine Wv.W ?_;refine ay (i+1) ⟨by omega,fun j hj=>?_⟩ (by omega) rfl Wv.V2;by_cases e:j=i
   ·subst e;rw [hq];rfl
   ·exact hbef j (by omega)
 ·obtain rfl:i=nl:=by omega
  rw [gU hbef] at hB;refine Wv.W2 @Int.lt_irrefl @decide_false ?_;rw [hB,Bool.not_false,Bool.and_true]
theorem aaI (nl:Nat) (li:Nat→Int) (hnl:nl≤140737488351232):TC Tryz.prog 187 [.t nl 1 (tab nl fun i=> .v (.int .i64 (li i)))] (.v (.bool (!aG nl fun i=>!decide (li i=0) && !decide (li i=1)))):=by
 obtain ⟨B,hB⟩: ∃ B,B=!aG nl fun i=>!decide (li i=0) && !decide (li i=1):=⟨_,rfl⟩
 rw [←hB];refine Wv.TC.by 22 [3,0,7,21,2] [] [.tmp 2] Tryz.func187 rfl rfl rfl ?clo ?_
 case clo=>simp only [Wv.BC]
 refine Wv.W ?_;refine aT (σ:=Nat) (fun i=>[(0, .t nl 1 (tab nl fun i=> .v (.int .i64 (li i)))),(3, .v (.int .i64 i))]) (fun _=>[])
  (fun i=>i≤nl∧ ∀ j,j<i→(!decide (li j=0) && !decide (li j=1))=false) (fun i=>nl - i) 0 ⟨Nat.zero_le _,fun j hj=>by omega⟩ rfl Wv.V ?_
 rintro i ⟨hi,hbef⟩;by_cases hlt:i<nl
 ·have e1:(i:Int)<nl:=by omega
  have hnx:(!decide (li i=0) && !decide (li i=1))=false→ ∀ j,j<i+1→(!decide (li j=0) && !decide (li j=1))=false:=fun h j hj=>by
   by_cases e:j=i
   ·subst e;exact h
   ·exact hbef j (by omega)
  cases h0:decide (li i=0) with
  | true=>
   refine Wv.W2 (ah e1) h0 ?_;refine ay (i+1) ⟨by omega,hnx (by rw [h0];rfl)⟩ (by omega) rfl Wv.V2
  | false=>
   cases h1:decide (li i=1) with
   | true=>
    refine Wv.W3 (ah e1) h0 h1 ?_;refine ay (i+1) ⟨by omega,hnx (by rw [h0,h1];rfl)⟩ (by omega) rfl Wv.V2
   | false=>
    rw [jv (p:=fun i=>!decide (li i=0) && !decide (li i=1)) hlt (by rw [h0,h1];rfl)] at hB;refine Wv.W3 (ah e1) h0 h1 ?_;rw [hB];rfl
 ·obtain rfl:i=nl:=by omega
  rw [gU hbef] at hB;refine Wv.W2 @Int.lt_irrefl @decide_false ?_;rw [hB];rfl
theorem aaJ (b:Bool):TC Tryz.prog 184 [.v (.bool b)] (.v (.int .i64 (if b=true then 0 else 233))):=by
 refine Wv.TC.by 4 [0,3,2] [] [.tmp 2] Tryz.func184 rfl rfl rfl ?clo ?_
 case clo=>simp only [Wv.BC]
 cases b
 ·exact Wv.V
 ·exact Wv.V
theorem aaK (a b:Int):TC Tryz.prog 220 [.v (.int .i64 a), .v (.int .i64 b)] (.v (.int .i64 (if a<b then 1 else 0))):=by
 refine Wv.TC.by 8 [0,1,7,4] [] [.tmp 4] Tryz.func220 rfl rfl rfl ?clo ?_
 case clo=>simp only [Wv.BC]
 by_cases h:a<b
 ·rw [if_pos h];exact Wv.V1 (ah h)
 ·rw [if_neg h];exact Wv.V1 (aj h)
end
section
open Go.RowKit Wv
theorem zh (n:Nat) (f:Nat→Nat) (hn:n≤2000000000):TC Tryz.prog 258 [fM n f] (cZ (aX (ofT n f))):=by
 rw [Gg,Ls];have hc:=jT (dF f n) f;unfold fM;refine Wv.TC.by 24 [0,3,16,4,2] [] [.tmp 2] Tryz.func258 rfl rfl rfl ?clo ?_
 case clo=>simp only [Wv.BC]
 refine Wv.W ?_;refine aT (σ:=Nat) (fun k=>[(0,fM n f),(3, .v (.int .i64 k))]) (fun k=>[]) (fun k=>k≤n∧dF f k=dF f n) (fun k=>k) n ⟨Nat.le_refl _,rfl⟩ Wv.V (by simp (disch:=first|exact Wv.D|fail) only [Wv.B,simprocAttr,fM]) ?_;rintro k ⟨hk,he⟩;unfold fM;cases k with
 | zero=>
  have e0:dF f n=0:=he.symm;simp (disch:=first|exact Wv.D|fail) only [Wv.B,simprocAttr,e0]
 | succ k=>
  have e1:((k+1:Nat):Int) - 1=(k:Int):=by omega
  have e2:(0:Int)<((k+1:Nat):Int):=by omega
  by_cases hd:f k=0
  ·have he':dF f k=dF f n:=by rw [←he,iq,if_pos hd]
   refine Wv.W3 e1 (ah e2) hd ?_;refine ay k ⟨by omega,he'⟩ (by omega) Wv.V Wv.V
  ·have he':dF f n=k+1:=by rw [←he,iq,if_neg hd]
   have hd': ¬ ((f k:Nat):Int)=0:=by omega
   simp (disch:=first|exact Wv.D|fail) only [Wv.B,simprocAttr,e1,ah e2,aj hd',he']
theorem Bq (n:Nat) (f:Nat→Nat) (i:Nat) (hn:n≤140737488351232) (hf:f i≤4294967295):TC Tryz.prog 266 [fM n f, .v (.int .i64 i)] (.v (.int .u64 (if i<n then f i else 0:Nat))):=by
 unfold fM;refine Wv.TC.by 18 [1,0,12,4] [] [.tmp 4] Tryz.func266 rfl rfl rfl ?clo ?_
 case clo=>simp only [Wv.BC]
 have h0: ¬ (i:Int)<0:=by omega
 by_cases h:i<n
 ·have h1: ¬ (n:Int)≤(i:Int):=by omega
  rw [if_pos h];exact Wv.V2f (aj h0) (aj h1)
 ·have h1:(n:Int)≤(i:Int):=by omega
  rw [if_neg h];exact Wv.V2f (aj h0) (ah h1)
theorem aaL (a n:Nat) (h1:2≤n) (h2:n≤2147483647) (ha:a<n):TC Tryz.prog 256 [.v (.int .u32 a), .v (.int .u32 n)] (.tup [.v (.int .u32 (jm a n).1), .v (.bool (decide (Nat.gcd n a=1)))]):=by
 refine Wv.TC.by 42 [1,0,7,16,6,10,9,8,33,35,4,5] [] [.tmp 4, .tmp 5] Tryz.func256 rfl rfl rfl ?clo ?_
 case clo=>simp only [Wv.BC]
 refine Wv.W ?_;have HS:=EuI.start h1 ha;refine aT (σ:=Nat × Nat × Int × Int) (fun s=>[(1, .v (.int .u32 n)),(6, .v (.int .i64 (s.1:Nat))),(7, .v (.int .i64 (s.2.1:Nat))),(8, .v (.int .i64 s.2.2.1)),(9, .v (.int .i64 s.2.2.2))]) (fun s=>[])
  (fun s=>EuI n a s.1 s.2.1 s.2.2.1 s.2.2.2) (fun s=>s.2.1) (n,a,0,1) HS Wv.V Wv.V ?_
 rintro ⟨x,y,u,v⟩ he;simp only at he ⊢;by_cases hy:0<y
 ·have hy0: ¬ ((y:Int)=0):=by omega
  have hs:=he.step hy;have hxn:=he.xn;have hu0:=he.u0;have hu1:=he.u1;have hv0':=hs.v0;have aof:=hs.v1;have hdm:=Nat.div_add_mod x y;have hr:x % y<y:=Nat.mod_lt _ hy;have edt:(x:Int).tdiv (y:Int)=((x / y:Nat):Int):=by rw [Int.tdiv_eq_ediv_of_nonneg (by omega)];exact (Int.natCast_ediv x y).symm
  generalize x / y=q at*;generalize x % y=r at*;have hqy:((y*q+r:Nat):Int)=(x:Int):=by rw [hdm]
  rw [Int.natCast_add,Int.natCast_mul,Int.mul_comm] at hqy;have hq0:(0:Int)≤(q:Int)*(y:Int):=Int.mul_nonneg (by omega) (by omega);have hqx:(q:Int)≤(x:Int):=by
   have h:(q:Int)*1≤(q:Int)*(y:Int):=Int.mul_le_mul_of_nonneg_left (by omega) (by omega);omega
  have e2:IntKind.i64.wrap ((q:Int)*(y:Int))=(q:Int)*(y:Int):=by rw [IntKind.wrap_i64];omega
  have e3:(x:Int) - (q:Int)*(y:Int)=(r:Int):=by omega
  have e4:IntKind.i64.wrap ((q:Int)*v)=(q:Int)*v:=by rw [IntKind.wrap_i64];omega
  have e5:IntKind.i64.wrap (u - (q:Int)*v)=u - (q:Int)*v:=by rw [IntKind.wrap_i64];omega
  simp (disch:=first|exact Wv.D|fail) only [Wv.B,simprocAttr,aj hy0,edt,e2,e3,e4,e5];refine ay (y,r,v,u - (q:Int)*v) hs hr Wv.V Wv.V
 ·obtain rfl:y=0:=by omega
  have hg:=he.gc;rw [Nat.gcd_zero_right] at hg;by_cases hx:x=1
  ·have hi:jm a n=(OM a n,0):=if_pos (by rw [←hg,hx]);have hgg:Nat.gcd n a=1:=by rw [←hg,hx]
   obtain ⟨f1,f2,f3⟩:=he.fin h1 hx;subst hx;have hf:UQ u n=if u<0 then u+n else u:=rfl
   have hu0:=he.u0;have hu1:=he.u1;by_cases hu:u<0
   ·rw [if_pos hu] at hf;refine Wv.W3 (ah hu) hi (ah hgg) ?_;rw [←f3,hf]
   ·rw [if_neg hu] at hf;refine Wv.W3 (aj hu) hi (ah hgg) ?_;rw [←f3,hf]
  ·have hgg: ¬ Nat.gcd n a=1:=fun e=>hx (by rw [hg,e])
   have hi:jm a n=(0,4):=if_neg hgg;have hx': ¬ ((x:Int)=1):=by omega
   exact Wv.V3 (aj hx') hi (aj hgg)
def Vl (m:Nat) (p q:Nat) (f g:Nat→Nat) (i:Nat):Nat:=((if i<p then f i else 0)+m - (if i<q then g i else 0)) % m
def minL (m:Nat) (a b:List Nat):List Nat:=aX (ofT (max a.length b.length) (Vl m a.length b.length (fun i=>a.getD i 0) (fun i=>b.getD i 0)))
theorem Nq (m:Nat) (a b:List Nat) (h1:2≤m) (h2:m≤2147483647) (ha: ∀ i,a.getD i 0<m) (hb: ∀ i,b.getD i 0<m) (hn:a.length≤1000000000) (hk:b.length≤1000000000):
  TC Tryz.prog 259 [.v (.int .u32 m),cZ a,cZ b] (cZ (minL m a b)):=by
 unfold minL cZ;obtain ⟨N,hN⟩: ∃ N,N=max a.length b.length:=⟨_,rfl⟩
 have hT:=zh (max a.length b.length) (Vl m a.length b.length (fun i=>a.getD i 0) (fun i=>b.getD i 0)) (by omega);generalize (aX (ofT (max a.length b.length) (Vl m a.length b.length (fun i=>a.getD i 0) (fun i=>b.getD i 0))))=R at*;have hRc:=aV R;unfold cZ at hT hRc;obtain ⟨f,hf⟩: ∃ f:Nat→Nat,f=fun i=>a.getD i 0:=⟨_,rfl⟩
 obtain ⟨g,hg⟩: ∃ g:Nat→Nat,g=fun i=>b.getD i 0:=⟨_,rfl⟩
 have ef: ∀ i,a.getD i 0=f i:=fun i=>by rw [hf]
 have eg: ∀ i,b.getD i 0=g i:=fun i=>by rw [hg]
 simp only [ef,eg] at*;clear ef eg hf hg;generalize a.length=p at*;generalize b.length=q at*;have hmy:(if (q:Int)>(p:Int) then (q:Int) else (p:Int))=(N:Int):=by rw [hN];split<;>omega
 have hNN:N≤1000000000:=by omega
 rw [←hN] at hT;clear hN;have TA:=fun i=>Bq p f i (by omega) (by have:=ha i;omega)
 have TB:=fun i=>Bq q g i (by omega) (by have:=hb i;omega)
 have hcf:=jT p f;have hcg:=jT q g;have hx: ∀ i,(if i<p then f i else 0)<m:=fun i=>by split;exact ha i;omega
 have hy: ∀ i,(if i<q then g i else 0)<m:=fun i=>by split;exact hb i;omega
 have hF: ∀ i,Vl m p q f g i=((if i<p then f i else 0)+m - (if i<q then g i else 0)) % m:=fun i=>rfl
 generalize Vl m p q f g=F at*;unfold fM at*;refine Wv.TC.by 37 [8,1,2,15,7,0,6] [] [.tmp 6] Tryz.func259 rfl rfl rfl ?clo ?_
 case clo=>exact hRc
 refine Wv.W ?_;refine lQ (σ:=Nat) (fun i=>[(0, .v (.int .u32 m)),(1, .t p 1 (tab p fun i=> .v (.int .u32 (f i:Nat)))),(2, .t q 1 (tab q fun i=> .v (.int .u32 (g i:Nat)))),(7, .own 0 i),(8, .v (.int .i64 i))])
  (fun i=>[some (.arr 22 1 (tab i fun i=> .v (.int .u32 (F i:Nat))) 0)]) (fun i=>i≤N) (fun i=>N - i) 0 (Nat.zero_le _) ?_ ?_
 ·refine Ent.trans (Ent.nil 7 22 1 (by omega) rfl) (Ent.fit ?_);exact Wv.V
 intro i hi;by_cases hlt:i<N
 ·have e1:(i:Int)<N:=by omega
  have tA:=TA i;have tB:=TB i;have hx:=hx i;have hy:=hy i;have hF':=hF i;generalize (if i<p then f i else 0)=x at*;generalize (if i<q then g i else 0)=y at*;have e7:IntKind.u32.wrap (((x:Int)+(m:Int) - (y:Int)) % (m:Int))=(F i:Int):=by
   have h8:(((x+m - y) % m:Nat):Int)=((x:Int)+(m:Int) - (y:Int)) % (m:Int):=by rw [Int.natCast_emod,Int.natCast_sub (by omega),Int.natCast_add]
   have h9:(x+m - y) % m<m:=Nat.mod_lt _ (by omega);rw [←h8,IntKind.wrap_u32,hF'];omega
  refine Wv.W2 hmy (ah e1) ?_;refine ak tA rfl (oK hcf (.v _)) Wv.c ?_;refine Wv.W ?_;refine ak tB rfl (oK hcg (.v _)) Wv.c ?_;refine Wv.W2 @rG e7 ?_;refine Wv.iw (i+1) 1 (by first | decide | exact Nat.le_of_ble_eq_true rfl) (by omega) (by omega) (Wv.V1 @bG) Wv.V2 (by simp only [Wv.BL, ↓reduceIte,Nat.reduceLeDiff]<;>omega) (by simp only [Wv.BL, ↓reduceIte,Nat.reduceLeDiff]<;>omega)
 ·obtain rfl:i=N:=by omega
  refine Wv.W3 hmy @Int.lt_irrefl @decide_false ?_;refine kW hT (OQ Wv.c) hRc ?_;refine Wv.W ?_;refine jk rfl ?_;exact Wv.V
def cvS (m:Nat) (f g:Nat→Nat) (i:Nat):Nat→Nat
 | 0=>0
 | k+1=>(cvS m f g i k+f k*g (i - k)) % m
def atF (n:Nat) (f:Nat→Nat) (i:Nat):Nat:=if i<n then f i else 0
def ku (m:Nat) (a b:List Nat):List Nat:=aX (ofT (a.length+b.length) fun i=>cvS m (atF a.length fun i=>a.getD i 0) (atF b.length fun i=>b.getD i 0) i (i+1))
theorem aaM {m:Nat} (hm:0<m) (f g:Nat→Nat) (i:Nat): ∀ k,cvS m f g i k<m
 | 0=>hm
 | k+1=>Nat.mod_lt _ hm
theorem Nr (m:Nat) (a b:List Nat) (h1:2≤m) (h2:m≤2147483647) (ha: ∀ i,a.getD i 0<m) (hb: ∀ i,b.getD i 0<m) (hn:a.length≤1000000000) (hk:b.length≤1000000000):
  TC Tryz.prog 257 [.v (.int .u32 m),cZ a,cZ b] (cZ (ku m a b)):=by
 unfold ku cZ;have hT:=zh (a.length+b.length) (fun i=>cvS m (atF a.length fun i=>a.getD i 0) (atF b.length fun i=>b.getD i 0) i (i+1)) (by omega);generalize (aX (ofT (a.length+b.length) (fun i=>cvS m (atF a.length fun i=>a.getD i 0) (atF b.length fun i=>b.getD i 0) i (i+1))))=R at*;have hRc:=aV R;unfold cZ at hT hRc;obtain ⟨f,hf⟩: ∃ f:Nat→Nat,f=fun i=>a.getD i 0:=⟨_,rfl⟩
 obtain ⟨g,hg⟩: ∃ g:Nat→Nat,g=fun i=>b.getD i 0:=⟨_,rfl⟩
 have ef: ∀ i,a.getD i 0=f i:=fun i=>by rw [hf]
 have eg: ∀ i,b.getD i 0=g i:=fun i=>by rw [hg]
 simp only [ef,eg] at*;clear ef eg hf hg;generalize a.length=p at*;generalize b.length=q at*;have TA:=fun i=>Bq p f i (by omega) (by have:=ha i;omega)
 have TB:=fun i=>Bq q g i (by omega) (by have:=hb i;omega)
 have hcf:=jT p f;have hcg:=jT q g;have hx: ∀ i,atF p f i<m:=fun i=>by unfold atF;split;exact ha i;omega
 have hy: ∀ i,atF q g i<m:=fun i=>by unfold atF;split;exact hb i;omega
 have fA: ∀ i,(if i<p then f i else 0)=atF p f i:=fun i=>rfl
 have fB: ∀ i,(if i<q then g i else 0)=atF q g i:=fun i=>rfl
 simp only [fA] at TA;simp only [fB] at TB;generalize atF p f=u at*;generalize atF q g=v at*;clear fA fB;have hS: ∀ i k,cvS m u v i (k+1)=(cvS m u v i k+u k*v (i - k)) % m:=fun i k=>rfl
 have hS0: ∀ i,cvS m u v i 0=0:=fun i=>rfl
 have hSl: ∀ i k,cvS m u v i k<m:=fun i k=>aaM (by omega) u v i k
 generalize cvS m u v=F at*;unfold fM at*;refine Wv.TC.by 46 [8,1,2,17,10,22,9,0,7,6] [] [.tmp 6] Tryz.func257 rfl rfl rfl ?clo ?_
 case clo=>exact hRc
 refine Wv.W ?_;refine lQ (σ:=Nat) (fun i=>[(0, .v (.int .u32 m)),(1, .t p 1 (tab p fun i=> .v (.int .u32 (f i:Nat)))),(2, .t q 1 (tab q fun i=> .v (.int .u32 (g i:Nat)))),(7, .own 0 i),(8, .v (.int .i64 i))])
  (fun i=>[some (.arr 22 1 (tab i fun i=> .v (.int .u32 (F i (i+1):Nat))) 0)]) (fun i=>i≤p+q) (fun i=>p+q - i) 0 (Nat.zero_le _) ?_ ?_
 ·refine Ent.trans (Ent.nil 7 22 1 (by omega) rfl) (Ent.fit ?_);exact Wv.V
 intro i hi;by_cases hlt:i<p+q
 ·have e1:(i:Int)<(p:Int)+(q:Int):=by omega
  have hz:=hS0 i;refine Wv.W1 (ah e1) ?_;refine aT (σ:=Nat) (fun k=>[(0, .v (.int .u32 m)),(1, .t p 1 (tab p fun i=> .v (.int .u32 (f i:Nat)))),(2, .t q 1 (tab q fun i=> .v (.int .u32 (g i:Nat)))),(7, .own 0 i),(8, .v (.int .i64 i)),(9, .v (.int .u64 (F i k:Nat))),(10, .v (.int .i64 k))])
   (fun k=>[some (.arr 22 1 (tab i fun i=> .v (.int .u32 (F i (i+1):Nat))) 0)]) (fun k=>k≤i+1) (fun k=>i+1 - k) 0 (Nat.zero_le _) rfl (Wv.V1 hz) ?_
  intro k hkk;by_cases hlt2:k<i+1
  ·have e4:(k:Int)≤(i:Int):=by omega
   have e5:(i:Int) - (k:Int)=((i - k:Nat):Int):=by omega
   have tA:=TA k;have tB:=TB (i - k);have hx:=hx k;have hy:=hy (i - k);have hS':=hS i k;have hSk:=hSl i k;have aoM:=hSl i (k+1);generalize u k=x at*;generalize v (i - k)=y at*;have hb1:=o9 hx hy h2;have hb':((x*y:Nat):Int)≤4611686014132420609:=by omega
   have hb0:0≤((x*y:Nat):Int):=by omega
   rw [Int.natCast_mul] at hb' hb0;have e7:((F i k:Nat)+(x:Int)*(y:Int)) % (m:Int)=(F i (k+1):Int):=by rw [hS',Int.natCast_emod,Int.natCast_add,Int.natCast_mul]
   refine Wv.W1 (ah e4) ?_;refine ak tA rfl (oK hcf (.v _)) Wv.c ?_;refine Wv.W1 e5 ?_;refine ak tB rfl (oK hcg (.v _)) Wv.c ?_;refine Wv.W2 @rG e7 ?_;refine ay (k+1) (by omega) (by omega) rfl Wv.V2
  ·obtain rfl:k=i+1:=by omega
   have e6: ¬ (((i+1:Nat):Int)≤(i:Int)):=by omega
   have hSk:=hSl i (i+1);have e7:IntKind.u32.wrap ((F i (i+1):Nat):Int)=(F i (i+1):Int):=by rw [IntKind.wrap_u32];omega
   refine Wv.W2 (aj e6) e7 ?_;refine Wv.iw (i+1) 1 (by first | decide | exact Nat.le_of_ble_eq_true rfl) (by omega) (by omega) (Wv.V1 @bG) Wv.V2 (by simp only [Wv.BL, ↓reduceIte,Nat.reduceLeDiff]<;>omega) (by simp only [Wv.BL, ↓reduceIte,Nat.reduceLeDiff]<;>omega)
 ·obtain rfl:i=p+q:=by omega
  refine Wv.W3 @Int.natCast_add @Int.lt_irrefl @decide_false ?_;refine kW hT (OQ Wv.c) hRc ?_;refine Wv.W ?_;refine jk rfl ?_;exact Wv.V
end
section
open Go.RowKit Wv
def iE (m:Nat) (xs ys:Nat→Nat) (i:Nat):Nat→List Nat
 | 0=>[ys i]
 | k+1=>if k=i then iE m xs ys i k else ku m (ku m (aX (iE m xs ys i k)) [(m - xs k) % m,1]) [(jm ((xs i+m - xs k) % m) m).1]
def nC (m n:Nat) (xs ys:Nat→Nat):Nat→List Nat
 | 0=>[]
 | i+1=>minL m (nC m n xs ys i) (minL m [] (aX (iE m xs ys i n)))
def okP (m:Nat) (xs:Nat→Nat) (i k:Nat):Bool:=decide (k=i) || decide (Nat.gcd m ((xs i+m - xs k) % m)=1)
def Ju (m n:Nat) (xs:Nat→Nat):Bool:=aG n fun i=>aG n fun k=>!okP m xs i k
def Ns (m n:Nat) (xs ys:Nat→Nat):AV:=if Ju m n xs=true then .tup [.v (.slice none 0 0), .v (.int .i64 7)] else .tup [cZ (nC m n xs ys n), .v (.int .i64 0)]
theorem aaN (m n:Nat) (xs ys:Nat→Nat):Clo (Ns m n xs ys):=by
 unfold Ns;split
 ·simp only [Wv.BC]
 ·simp only [Wv.BC,aV]
variable {m:Nat}
theorem BA (hm:0<m) (a b:List Nat) (i:Nat):(ku m a b).getD i 0<m:=mW hm (IJ hm fun i=>aaM hm _ _ i _) i
theorem rV (m:Nat) (a b:List Nat):(ku m a b).length≤a.length+b.length:=by
 unfold ku;refine Nat.le_trans (iF _) ?_;rw [tX];exact Nat.le_refl _
theorem BD (hm:0<m) (a b:List Nat) (i:Nat):(minL m a b).getD i 0<m:=mW hm (IJ hm fun i=>Nat.mod_lt _ hm) i
theorem xK (m:Nat) (a b:List Nat):(minL m a b).length≤max a.length b.length:=by
 unfold minL;refine Nat.le_trans (iF _) ?_;rw [tX];exact Nat.le_refl _
theorem aaO (hm:0<m) (i:Nat):([]:List Nat).getD i 0<m:=by simpa using hm
theorem aaP {a:Nat} (hm:0<m) (ha:a<m) (i:Nat):[a].getD i 0<m:=by
 match i with
 | 0=>exact ha
 | i+1=>simpa using hm
theorem ajT {a b:Nat} (hm:0<m) (ha:a<m) (hb:b<m) (i:Nat):[a,b].getD i 0<m:=by
 match i with
 | 0=>exact ha
 | 1=>exact hb
 | i+2=>simpa using hm
theorem xM {m:Nat} (hm:2≤m) (xs ys:Nat→Nat) (i:Nat) (hy:ys i<m): ∀ k,(∀ j,(iE m xs ys i k).getD j 0<m)∧(iE m xs ys i k).length≤1+3*k
 | 0=>⟨aaP (by omega) hy,by show 1≤_;omega⟩
 | k+1=>by
  have ih:=xM hm xs ys i hy k;unfold iE;split
  ·exact ⟨ih.1,by omega⟩
  ·refine ⟨BA (by omega) _ _,?_⟩;refine Nat.le_trans (rV _ _ _) ?_;have h1:=rV m (aX (iE m xs ys i k)) [(m - xs k) % m,1];have h2:=iF (iE m xs ys i k);have h3:[(m - xs k) % m,1].length=2:=rfl;have h4:[(jm ((xs i+m - xs k) % m) m).1].length=1:=rfl;omega
theorem BF {m:Nat} (hm:2≤m) (n:Nat) (xs ys:Nat→Nat) (hy: ∀ i,i<n→ys i<m): ∀ i,i≤n→(∀ j,(nC m n xs ys i).getD j 0<m)∧(nC m n xs ys i).length≤1+3*n
 | 0,_=>⟨aaO (by omega),Nat.zero_le _⟩
 | i+1,hi=>by
  have ih:=BF hm n xs ys hy i (by omega);have hp:=xM hm xs ys i (hy i (by omega)) n;unfold nC;refine ⟨BD (by omega) _ _,Nat.le_trans (xK _ _ _) (Nat.max_le.2 ⟨ih.2,Nat.le_trans (xK _ _ _) (Nat.max_le.2 ⟨Nat.zero_le _,Nat.le_trans (iF _) hp.2⟩)⟩)⟩
theorem BG (l:List Nat): ∃ (p:Nat) (g:Nat→Nat),cZ l= .t p 1 (tab p fun i=> .v (.int .u32 (g i:Nat))):=⟨_,_,rfl⟩
theorem aaQ (N:Nat) (l:List Nat):lo N (cZ l)=True:=eq_true (.clo (aV l))
theorem Ep (l:List Nat) (hn:l.length≤2000000000):TC Tryz.prog 258 [cZ l] (cZ (aX l)):=by
 have T:=zh l.length (fun i=>l.getD i 0) hn;rw [Lr] at T;exact T
theorem PS (m n:Nat) (xs ys:Nat→Nat) (h1:2≤m) (h2:m≤2147483647) (hn:n≤256) (hx: ∀ i,i<n→xs i<m) (hy: ∀ i,i<n→ys i<m):
  TC Tryz.prog 241 [.v (.int .u32 m),fM n xs,fM n ys] (Ns m n xs ys):=by
 have hRc:=aaN m n xs ys;have hRx: ∀ i k,i<n→k<n→okP m xs i k=false→Ns m n xs ys= .tup [.v (.slice none 0 0), .v (.int .i64 7)]:=fun i k hi hk h=>
  if_pos (jv (p:=fun i=>aG n fun k=>!okP m xs i k) hi (jv (p:=fun k=>!okP m xs i k) hk (by rw [h];rfl)))
 have hRy:(∀ i,i<n→ ∀ k,k<n→okP m xs i k=true)→Ns m n xs ys= .tup [cZ (nC m n xs ys n), .v (.int .i64 0)]:=fun h=>by
  have:Ju m n xs=false:=gU fun i hi=>gU fun k hk=>by rw [h i hi k hk];rfl
  unfold Ns;rw [this];rfl
 generalize Ns m n xs ys=R at*;have d1: ¬ (m:Int)<2:=by omega
 have d2: ¬ (2147483647:Int)<(m:Int):=by omega
 have d3: ¬ (256:Int)<(n:Int):=by omega
 unfold fM;refine Wv.TC.by 126 [0,1,2,28,31,8,35,51,10,55,12,66,71,14,96,11,15,13,9,6,7] [(19,23)] [.tmp 6, .tmp 7] Tryz.func241 rfl rfl rfl ?clo ?_
 case clo=>exact hRc
 refine Wv.W3 (aj d1) (aj d2) (aj d3) ?_;refine aT (σ:=Nat) (fun i=>[(0, .v (.int .u32 m)),(1, .t n 1 (tab n fun i=> .v (.int .u32 (xs i:Nat)))),(2, .t n 1 (tab n fun i=> .v (.int .u32 (ys i:Nat)))),(8, .v (.int .i64 i))])
  (fun i=>[]) (fun i=>i≤n) (fun i=>n - i) 0 (Nat.zero_le _) rfl Wv.V ?_
 intro i hi;by_cases hlt:i<n
 ·have e1:(i:Int)<(n:Int):=by omega
  have e2: ¬ (m:Int)≤(xs i:Int):=by have:=hx i hlt;omega
  have e3: ¬ (m:Int)≤(ys i:Int):=by have:=hy i hlt;omega
  refine Wv.W3 (ah e1) (aj e2) (aj e3) ?_;refine ay (i+1) (by omega) (by omega) rfl Wv.V2
 obtain rfl:n=i:=by omega
 clear hlt;refine Wv.W2 @Int.lt_irrefl @decide_false ?_;refine lQ (σ:=Nat) (fun i=>[(0, .v (.int .u32 m)),(1, .t n 1 (tab n fun i=> .v (.int .u32 (xs i:Nat)))),(2, .t n 1 (tab n fun i=> .v (.int .u32 (ys i:Nat)))),(9,cZ (nC m n xs ys i)),(10, .v (.int .i64 i))])
  (fun i=>[]) (fun i=>i≤n∧ ∀ j,j<i→ ∀ k,k<n→okP m xs j k=true) (fun i=>n - i) 0 ⟨Nat.zero_le _,fun j hj=>by omega⟩ ?_ ?_
 ·refine Ent.trans (Ent.wk 9 _ (.t 0 1 []) rfl (Wk.nil 1)) (Ent.fit ?_);refine Wv.W ?_;rfl
 rintro i ⟨hi,hbef⟩;by_cases hlt:i<n
 ·have e1:(i:Int)<(n:Int):=by omega
  obtain ⟨ho1,ho2⟩:=BF h1 n xs ys hy i hi;have hyi:=hy i hlt;have hxi:=hx i hlt;have hP:=xM h1 xs ys i hyi;have hP0:cZ (iE m xs ys i 0)= .t 1 1 [.v (.int .u32 (ys i:Nat))]:=rfl;have hPn: ∀ k,iE m xs ys i (k+1)=if k=i then iE m xs ys i k else ku m (ku m (aX (iE m xs ys i k)) [(m - xs k) % m,1]) [(jm ((xs i+m - xs k) % m) m).1]:=fun k=>rfl
  have hOn:nC m n xs ys (i+1)=minL m (nC m n xs ys i) (minL m [] (aX (iE m xs ys i n))):=rfl;generalize hO':nC m n xs ys (i+1)=O' at*;generalize nC m n xs ys i=O at*;generalize iE m xs ys i=P at*;refine Wv.W1 (ah e1) ?_;refine lQ (σ:=Nat) (fun k=>[(0, .v (.int .u32 m)),(1, .t n 1 (tab n fun i=> .v (.int .u32 (xs i:Nat)))),(2, .t n 1 (tab n fun i=> .v (.int .u32 (ys i:Nat)))),(9,cZ O),(10, .v (.int .i64 i)),(11,cZ (P k)),(12, .v (.int .i64 k))])
   (fun k=>[]) (fun k=>k≤n∧ ∀ j,j<k→okP m xs i j=true) (fun k=>n - k) 0 ⟨Nat.zero_le _,fun j hj=>by omega⟩ ?_ ?_
  ·refine Ent.trans (Ent.close 11 (.own 0 1) (.t 1 1 [.v (.int .u32 (ys i:Nat))]) _ rfl rfl) (Ent.cut 0 (Nat.zero_le _) ?_ ?_ ?_)
   ·exact Wv.V1 hP0
   ·simp only [Wv.BL, ↓reduceIte,Nat.reduceLeDiff,hP0];exact .clo (aV _)
   ·simp only [Wv.BL, ↓reduceIte,Nat.reduceLeDiff]
  rintro k ⟨hk,hkb⟩;by_cases hlt2:k<n
  ·have e2:(k:Int)<(n:Int):=by omega
   have hnx:okP m xs i k=true→ ∀ j,j<k+1→okP m xs i j=true:=fun h j hj=>by
    by_cases e:j=k
    ·subst e;exact h
    ·exact hkb j (by omega)
   by_cases hki:k=i
   ·have e3:(k:Int)=(i:Int):=by omega
    have hPk:P (k+1)=P k:=by rw [hPn,if_pos hki]
    have ho:okP m xs i k=true:=by unfold okP;rw [ah hki,Bool.true_or]
    refine Wv.W2 (ah e2) (ah e3) ?_;refine ay (k+1) ⟨by omega,hnx ho⟩ (by omega) rfl (Wv.V3 hPk @Int.natCast_add @Int.natCast_one)
   ·have e3: ¬ (k:Int)=(i:Int):=by omega
    have hPk:P (k+1)=ku m (ku m (aX (P k)) [(m - xs k) % m,1]) [(jm ((xs i+m - xs k) % m) m).1]:=by rw [hPn,if_neg hki]
    have ho:okP m xs i k=decide (Nat.gcd m ((xs i+m - xs k) % m)=1):=by unfold okP;rw [aj hki,Bool.false_or]
    have hxk:=hx k hlt2;have hm: ¬ (m:Int)=0:=by omega
    have hr:(xs i+m - xs k) % m<m:=Nat.mod_lt _ (by omega);have f1:((xs i:Int)+(m:Int) - (xs k:Int)) % (m:Int)=(((xs i+m - xs k) % m:Nat):Int):=by
     rw [Int.natCast_emod];congr 1;omega
    have hz:(m - xs k) % m<m:=Nat.mod_lt _ (by omega);have f4:((m:Int) - (xs k:Int)) % (m:Int)=(((m - xs k) % m:Nat):Int):=by
     rw [Int.natCast_emod];congr 1;omega
    obtain ⟨hp1,hp2⟩:=hP k;have hiv:=QF (a:=(xs i+m - xs k) % m) (n:=m) (by omega);have TI:=aaL ((xs i+m - xs k) % m) m h1 h2 hr;have ank:=hRx i k hlt hlt2;simp (disch:=first|exact Wv.D|fail) only [Wv.B,simprocAttr,ah e2,aj e3,aj hm,rG,f1];refine dZ TI rfl Wv.c Wv.c ?_;generalize (xs i+m - xs k) % m=z at*;by_cases hg:Nat.gcd m z=1
    ·rw [ah hg] at ho;have hg':decide (Nat.gcd m z=1)=true:=ah hg;generalize (jm z m).1=iv at*;generalize (m - xs k) % m=u at*;have ht1:=mW (m:=m) (by omega) hp1;have ht2:=iF (P k);have hq1:=BA (m:=m) (by omega) (aX (P k)) [u,1];have hq2:=rV m (aX (P k)) [u,1];have hq3:[u,1].length=2:=rfl;have T1:=Ep (P k) (by omega);have T2:TC Tryz.prog 257 [.v (.int .u32 m),cZ (aX (P k)), .t 2 1 [.v (.int .u32 (u:Nat)), .v (.int .u32 1)]] (cZ (ku m (aX (P k)) [u,1])):=Nr m (aX (P k)) [u,1] h1 h2 ht1 (ajT (by omega) hz (by omega)) (by omega) (by show 2≤_;omega);have T3:TC Tryz.prog 257 [.v (.int .u32 m),cZ (ku m (aX (P k)) [u,1]), .t 1 1 [.v (.int .u32 (iv:Nat))]] (cZ (ku m (ku m (aX (P k)) [u,1]) [iv])):=Nr m (ku m (aX (P k)) [u,1]) [iv] h1 h2 hq1 (aaP (by omega) hiv) (by omega) (by show 1≤_;omega);rw [←hPk] at T3;have hc1:=aV (aX (P k));have hc2:=aV (ku m (aX (P k)) [u,1]);have hc3:=aV (P (k+1));have hc0:=aV (P k);clear hPk hPn hRx ank hq1 hq2 hq3 ht1 ht2 hp1 hp2;obtain ⟨p1,g1,hW1⟩:=BG (aX (P k));obtain ⟨p2,g2,hW2⟩:=BG (ku m (aX (P k)) [u,1]);rw [hW1] at T1 T2 hc1;rw [hW2] at T2 T3 hc2;simp (disch:=first|exact Wv.D|fail) only [Wv.B,simprocAttr,hg',aj hm,rG,f4];refine ak T1 rfl (OQ hc0) hc1 ?_;refine Wv.W ?_;refine kW T2 Wv.c hc2 ?_;refine Wv.W ?_;refine jk rfl ?_;refine Wv.W ?_;refine kW T3 Wv.c hc3 ?_;refine Wv.W ?_;refine jk rfl ?_;refine Wv.W ?_;refine Wv.iw (k+1) 0 (by first | decide | exact Nat.le_of_ble_eq_true rfl) (⟨by omega,hnx ho⟩) (by omega) (Wv.V1 @bG) Wv.V2 (by simp only [Wv.BL, ↓reduceIte,Nat.reduceLeDiff,aaQ]<;>omega) (by simp only [Wv.BL, ↓reduceIte,Nat.reduceLeDiff,aaQ]<;>omega)
    ·rw [aj hg] at ho;have hg':decide (Nat.gcd m z=1)=false:=aj hg;have hR:=ank ho;simp (disch:=first|exact Wv.D|fail) only [Wv.B,simprocAttr,hg',hR]
  ·obtain rfl:n=k:=by omega
   obtain ⟨hp1,hp2⟩:=hP n;have ht1:=mW (m:=m) (by omega) hp1;have ht2:=iF (P n);have hq1:=BD (m:=m) (by omega) [] (aX (P n));have hq2:=xK m [] (aX (P n));have hq3:([]:List Nat).length=0:=rfl;have T1:=Ep (P n) (by omega);have T2:TC Tryz.prog 259 [.v (.int .u32 m), .t 0 1 [],cZ (aX (P n))] (cZ (minL m [] (aX (P n)))):=Nq m [] (aX (P n)) h1 h2 (aaO (by omega)) ht1 (by show 0≤_;omega) (by omega);have T3:TC Tryz.prog 259 [.v (.int .u32 m),cZ O,cZ (minL m [] (aX (P n)))] (cZ O'):=by
    rw [hOn];exact Nq m O (minL m [] (aX (P n))) h1 h2 ho1 hq1 (by omega) (by omega)
   have hc1:=aV (aX (P n));have hc2:=aV (minL m [] (aX (P n)));have hc3:=aV O';have hc0:=aV (P n);have hc4:=aV O;have hbe: ∀ j,j<i+1→ ∀ l,l<n→okP m xs j l=true:=fun j hj=>by
    by_cases e:j=i
    ·subst e;exact hkb
    ·exact hbef j (by omega)
   clear hPn hRx hq1 hq2 hq3 ht1 ht2 hp1 hp2 hOn;obtain ⟨p1,g1,hW1⟩:=BG (aX (P n));obtain ⟨p2,g2,hW2⟩:=BG (minL m [] (aX (P n)));rw [hW1] at T1 T2 hc1;rw [hW2] at T2 T3 hc2;refine Wv.W2 @Int.lt_irrefl @decide_false ?_;refine ak T1 rfl (OQ hc0) hc1 ?_;refine Wv.W ?_;refine aeb T2 rfl ⟨Wk.refl _,Wk.nil 1,Wk.refl _,trivial⟩ Wv.c hc2 ?_;refine Wv.W ?_;refine ak T3 rfl (by simp only [Wv.BC];exact hc4) hc3 ?_;refine Wv.W ?_;refine ay (i+1) ⟨by omega,hbe⟩ (by omega) rfl (Wv.V3 hO' @Int.natCast_add @Int.natCast_one)
 ·obtain rfl:n=i:=by omega
  have hR:=hRy hbef;simp (disch:=first|exact Wv.D|fail) only [Wv.B,simprocAttr,Int.lt_irrefl,decide_false,hR,cZ,fM]
end
section
open Go.RowKit Wv
def eqm (m a b:Int):Prop:= ∃ c,a=b+m*c
variable {a m:Int}
theorem eqm.rfl' :eqm m a a:=⟨0,by grind⟩
variable {b:Int}
theorem eqm.symm :eqm m a b→eqm m b a:=fun ⟨c,h⟩=>⟨-c,by grind⟩
theorem eqm.trans {c:Int}:eqm m a b→eqm m b c→eqm m a c:=fun ⟨x,h⟩ ⟨y,h'⟩=>⟨x+y,by grind⟩
variable {d:Int}
theorem eqm.add {c:Int}:eqm m a b→eqm m c d→eqm m (a+c) (b+d):=fun ⟨x,h⟩ ⟨y,h'⟩=>⟨x+y,by grind⟩
theorem eqm.sub {c:Int}:eqm m a b→eqm m c d→eqm m (a - c) (b - d):=fun ⟨x,h⟩ ⟨y,h'⟩=>⟨x - y,by grind⟩
theorem eqm.mul {c:Int}:eqm m a b→eqm m c d→eqm m (a*c) (b*d):=fun ⟨x,h⟩ ⟨y,h'⟩=>⟨b*y+d*x+m*x*y,by subst h h';grind⟩
theorem eqm.nat (m a : Nat) : eqm m ((a % m : Nat) : Int) a := ⟨-((a / m : Nat) : Int), by have := Nat.div_add_mod a m; have h : ((m * (a / m) + a % m : Nat) : Int) = a := by rw [this]
                                                                                           rw [Int.natCast_add, Int.natCast_mul] at h; grind⟩
def evF (f:Nat→Int):Nat→Int→Int
 | 0,_=>0
 | n+1,x=>f 0+x*evF (fun i=>f (i+1)) n x
theorem pJ : ∀ {n:Nat} {f g:Nat→Int} {x:Int},(∀ i,i<n→eqm m (f i) (g i))→eqm m (evF f n x) (evF g n x)
 | 0,_,_,_,_=>eqm.rfl'
 | n+1,f,g,x,h=>(h 0 (Nat.zero_lt_succ _)).add (eqm.rfl'.mul (pJ fun i hi=>h (i+1) (by omega)))
theorem Es: ∀ {n:Nat} {f:Nat→Int} {x:Int},(∀ i,f i=0)→evF f n x=0
 | 0,_,_,_=>rfl
 | n+1,f,x,h=>by
  have:=Es (n:=n) (f:=fun i=>f (i+1)) (x:=x) fun i=>h _
  simp only [evF,this,h 0];grind
theorem Jv: ∀ {n k:Nat} {f:Nat→Int} {x:Int},(∀ i,n≤i→f i=0)→evF f (n+k) x=evF f n x
 | 0,k,f,x,h=>Es fun i=>h i (Nat.zero_le _)
 | n+1,k,f,x,h=>by
  rw [show n+1+k=(n+k)+1 by omega];simp only [evF];rw [Jv fun i hi=>h (i+1) (by omega)]
theorem um: ∀ {n:Nat} {f g:Nat→Int} {c x:Int},evF (fun i=>f i+c*g i) n x=evF f n x+c*evF g n x
 | 0,_,_,_,_=>by simp only [evF];grind
 | n+1,f,g,c,x=>by
  have:=um (n:=n) (f:=fun i=>f (i+1)) (g:=fun i=>g (i+1)) (c:=c) (x:=x);simp only [evF,this];grind
def upF (f:Nat→Int):Nat→Int
 | 0=>0
 | i+1=>f i
variable {n:Nat}
theorem ajU {f:Nat→Int} {x:Int}:evF (upF f) (n+1) x=x*evF f n x:=by
 simp only [evF,upF];grind
def Ah (f:Nat→Int) (n:Nat) (a:Int) (i:Nat):Int:=evF (fun j=>f (i+1+j)) (n - i) a
theorem GN (f:Nat→Int) (n:Nat) (a:Int):Ah f n a 0=evF (fun i=>f (i+1)) n a:=by
 unfold Ah;rw [Nat.sub_zero];congr 1;funext j;congr 1;omega
theorem GU (f:Nat→Int) (n:Nat) (a:Int) (i:Nat):Ah f (n+1) a (i+1)=Ah (fun i=>f (i+1)) n a i:=by
 unfold Ah;rw [show n+1 - (i+1)=n - i by omega];congr 1;funext j;congr 1;omega
theorem Ru: ∀ {n:Nat} {f:Nat→Int} {a x:Int},evF f (n+1) x=evF (Ah f n a) n x*(x - a)+evF f (n+1) a
 | 0,f,a,x=>by simp only [evF];grind
 | n+1,f,a,x=>by
  have ih:=Ru (n:=n) (f:=fun i=>f (i+1)) (a:=a) (x:=x);have e:evF (Ah f (n+1) a) (n+1) x=evF (fun i=>f (i+1)) (n+1) a+x*evF (Ah (fun i=>f (i+1)) n a) n x:=by
   show Ah f (n+1) a 0+x*evF (fun i=>Ah f (n+1) a (i+1)) n x=_;rw [GN];congr 3;funext i;exact GU f n a i
  rw [e];have e1:evF f (n+1+1) x=f 0+x*evF (fun i=>f (i+1)) (n+1) x:=rfl;have e2:evF f (n+1+1) a=f 0+a*evF (fun i=>f (i+1)) (n+1) a:=rfl;rw [e1,e2,ih];grind
theorem Nu {m:Int}: ∀ {n:Nat} {f:Nat→Int} {a:Int},eqm m (evF f (n+1) a) 0→(∀ i,i<n→eqm m (Ah f n a i) 0)→ ∀ j,j<n+1→eqm m (f j) 0
 | 0,f,a,h,_,j,hj=>by
  obtain rfl:j=0:=by omega
  obtain ⟨c,h⟩:=h;exact ⟨c,by simp only [evF] at h;grind⟩
 | n+1,f,a,h,hq,j,hj=>by
  have h0:=hq 0 (by omega);rw [GN] at h0;have e2:evF f (n+1+1) a=f 0+a*evF (fun i=>f (i+1)) (n+1) a:=rfl;cases j with
  | zero=>
   obtain ⟨c,h⟩:=h;obtain ⟨d,h0⟩:=h0;exact ⟨c - a*d,by rw [e2,h0] at h;grind⟩
  | succ j=>exact Nu (f:=fun i=>f (i+1)) h0 (fun i hi=>by rw [←GU];exact hq (i+1) (by omega)) j (by omega)
theorem roots {m:Int} {xs:Nat→Int}: ∀ (n:Nat) (f:Nat→Int),(∀ i,i<n→eqm m (evF f n (xs i)) 0)→(∀ i k,k<i→i<n→ ∃ b,eqm m ((xs i - xs k)*b) 1)→ ∀ j,j<n→eqm m (f j) 0
 | 0,f,_,_,j,hj=>by omega
 | n+1,f,h,hu,j,hj=>by
  refine Nu (a:=xs n) (h n (by omega)) (roots n _ (fun i hi=>?_) fun i k hk hi=>hu i k hk (by omega)) j hj;obtain ⟨c1,h1⟩:=h i (by omega);obtain ⟨c2,h2⟩:=h n (by omega);obtain ⟨b,c3,h3⟩:=hu n i hi (by omega);rw [Ru (a:=xs n),h2] at h1;generalize evF (Ah f n (xs n)) n (xs i)=E at*;exact ⟨-(c1 - c2)*b - E*c3,by grind⟩
def jH (m a:Int):Prop:= ∃ b,eqm m (a*b) 1
theorem jH.mul :jH m a→jH m b→jH m (a*b):=fun ⟨x,h⟩ ⟨y,h'⟩=>⟨x*y,by
 have:=h.mul h';rw [show a*b*(x*y)=a*x*(b*y) by grind];simpa using this⟩
theorem jH.congr (h:eqm m a b):jH m a→jH m b:=fun ⟨x,q⟩=>⟨x,(h.symm.mul eqm.rfl').trans q⟩
theorem ajV {a:Nat}: ∀ (y x:Nat) (u v:Int),EuI n a x y u v→ ∃ w:Int,(n:Int)∣w*a - (Nat.gcd n a:Nat):=by
 intro y;induction y using Nat.strongRecOn with
 | _ y ih=>
  intro x u v h;by_cases hy:0<y
  ·exact ih _ (Nat.mod_lt _ hy) _ _ _ (h.step hy)
  ·obtain rfl:y=0:=by omega
   have hg:=h.gc;rw [Nat.gcd_zero_right] at hg;exact ⟨u,hg▸h.du⟩
theorem aaR      {a:Nat} (hn : 2 ≤ n) (ha : a < n) (hg : Nat.gcd n a = 1) : jH    n a := by
  obtain ⟨w, c, h⟩ := ajV    _ _ _ _ (EuI.start hn ha);rw [hg] at h
  exact ⟨w, c, by have h1 : ((1 : Nat) : Int) = 1 := rfl
                  rw [h1] at h; grind⟩
theorem Et {a:Nat} (hn:2≤n) (h:jH n a):Nat.gcd n a=1∧eqm n ((jm a n).1*a) 1:=by
 obtain ⟨b,c,hb⟩:=h;obtain ⟨i,hi⟩: ∃ i:Nat,(i:Int)=b % n:=⟨(b % n).toNat,Int.toNat_of_nonneg (Int.emod_nonneg _ (by omega))⟩
 have hin:i<n:=by have:=Int.emod_lt_of_pos b (show (0:Int)<n by omega);omega
 have hbd:=Int.mul_ediv_add_emod b n;rw [←hi] at hbd;have e1:((i*a:Nat):Int)=1+n*(c - (b / n)*a):=by
  rw [Int.natCast_mul];have:(i:Int)=b - n*(b / n):=by omega
  rw [this];grind
 have e2:i*a % n=1:=by
  have h2:((i*a % n:Nat):Int)=1:=by
   rw [Int.natCast_emod,e1,Int.add_mul_emod_self_left];exact Int.emod_eq_of_lt (by omega) (by omega)
  omega
 have hg:Nat.gcd n a=1:=by
  have d1:=Nat.gcd_dvd_left n a;have d2:=Nat.gcd_dvd_right n a;have d3:Nat.gcd n a∣i*a:=Nat.dvd_trans d2 (Nat.dvd_mul_left _ _);have h4:Nat.gcd n a∣i*a % n:=(Nat.dvd_mod_iff d1).2 d3;rw [e2] at h4;exact Nat.dvd_one.1 h4
 refine ⟨hg,?_⟩;have:(jm a n).1=i:=by unfold jm;rw [if_pos hg];exact QC hin e2
 rw [this, ←Int.natCast_mul,e1];exact ⟨c - (b / n)*a,rfl⟩
def cI (l:List Nat) (i:Nat):Int:=((l.getD i 0:Nat):Int)
variable {l:List Nat}
theorem gV {i:Nat} (h:l.length≤i):cI l i=0:=by unfold cI;simp [h]
def evL (l:List Nat) (x:Int):Int:=evF (cI l) l.length x
theorem jc {N:Nat} (h:l.length≤N) (x:Int):evF (cI l) N x=evL l x:=by
 obtain ⟨k,rfl⟩: ∃ k,N=l.length+k:=⟨N - l.length,by omega⟩
 exact Jv fun i hi=>gV hi
theorem GV {f:Nat→Nat}: ∀ {n i:Nat},dF f n≤i→i<n→f i=0
 | n+1,i,h,hi=>by
  rw [iq] at h;by_cases hz:f n=0
  ·rw [if_pos hz] at h;by_cases e:i=n
   ·subst e;exact hz
   ·exact GV h (by omega)
  ·rw [if_neg hz] at h;omega
theorem GX (l:List Nat) (i:Nat):(aX l).getD i 0=l.getD i 0:=by
 unfold aX;rw [List.getD_eq_getElem?_getD,List.getElem?_take];split
 ·rw [List.getD_eq_getElem?_getD]
 ·next h=>
  by_cases hi:i<l.length
  ·have:=GV (f:=fun i=>l.getD i 0) (Nat.le_of_not_lt h) hi;rw [this];rfl
  ·simp [Nat.le_of_not_lt hi]
theorem qp (l:List Nat) (i:Nat):cI (aX l) i=cI l i:=by unfold cI;rw [GX]
theorem Nv (l:List Nat) (x:Int):evL (aX l) x=evL l x:=by
 rw [←jc (iF l) x];show evF _ _ _=evF _ _ _;congr 1;funext i;exact qp l i
theorem Eu (n:Nat) (f:Nat→Nat) (i:Nat):cI (ofT n f) i=if i<n then (f i:Int) else 0:=by
 unfold cI;rw [AQ];split<;>rfl
theorem Vm (m:Nat) (a b:List Nat) (c i:Nat):eqm m (cI (mV m a b c) i) (cI a i+c*cI b i):=by
 unfold mV;rw [qp,Eu];by_cases h:i<max a.length b.length
 ·rw [if_pos h];by_cases h2:i<b.length
  ·rw [if_pos h2];refine (eqm.nat m _).trans ⟨0,?_⟩;unfold cI;rw [Int.natCast_add,Int.natCast_mul];grind
  ·rw [if_neg h2,gV (l:=b) (by omega)];exact ⟨0,by unfold cI;grind⟩
 ·rw [if_neg h,gV (l:=a) (by omega),gV (l:=b) (by omega)];exact ⟨0,by grind⟩
theorem Rw (m u:Nat) (f g:Nat→Nat) (h0:g 0=u) (h1:g 1=1): ∀ p j,eqm m (cvF m 2 f g p j) ((if j<p then (f j:Int)*u else 0)+if 1≤j∧j - 1<p then (f (j - 1):Int) else 0)
 | 0,j=>by
  rw [if_neg (by omega),if_neg (by omega)];exact ⟨0,by show (0:Int)=_;grind⟩
 | p+1,j=>by
  have ih:=Rw m u f g h0 h1 p j;unfold cvF;by_cases hj:p≤j∧j<p+2
  ·rw [if_pos hj];refine (eqm.nat m _).trans ?_;rw [Int.natCast_add,Int.natCast_mul];by_cases e:j=p
   ·subst e;rw [if_neg (by omega)] at ih;rw [if_pos (by omega),Nat.sub_self,h0];have e2:(if 1≤j∧j - 1<j+1 then (f (j - 1):Int) else 0)=if 1≤j∧j - 1<j then (f (j - 1):Int) else 0:=by
     by_cases h1j:1≤j
     ·rw [if_pos ⟨h1j,by omega⟩,if_pos ⟨h1j,by omega⟩]
     ·rw [if_neg (by omega),if_neg (by omega)]
    rw [e2];refine (ih.add eqm.rfl').trans ⟨0,by grind⟩
   ·obtain rfl:j=p+1:=by omega
    rw [if_neg (by omega),if_neg (by omega)] at ih;rw [if_neg (by omega),if_pos (by omega),show p+1 - p=1 by omega,h1];refine (ih.add eqm.rfl').trans ⟨0,?_⟩;rw [show p+1 - 1=p by omega,Int.natCast_one];grind
  ·rw [if_neg hj];have e1:(if j<p+1 then (f j:Int)*u else 0)=if j<p then (f j:Int)*u else 0:=by
    by_cases h:j<p
    ·rw [if_pos h,if_pos (by omega)]
    ·rw [if_neg h,if_neg (by omega)]
   have e2:(if 1≤j∧j - 1<p+1 then (f (j - 1):Int) else 0)=if 1≤j∧j - 1<p then (f (j - 1):Int) else 0:=by
    by_cases h:1≤j∧j - 1<p
    ·rw [if_pos h,if_pos (by omega)]
    ·rw [if_neg h,if_neg (by omega)]
   rw [e1,e2];exact ih
theorem Vo (m u:Nat) (a:List Nat) (i:Nat):eqm m (cI (jU m a [u,1]) i) (upF (cI a) i+u*cI a i):=by
 unfold jU;by_cases ha:a.length=0
 ·rw [if_pos (.inl ha),gV (l:=[]) (Nat.zero_le _),gV (l:=a) (by omega)];cases i with
  | zero=>exact ⟨0,by simp only [upF];grind⟩
  | succ i=>exact ⟨0,by simp only [upF];rw [gV (l:=a) (by omega)];grind⟩
 ·rw [if_neg (by rintro (h | h)<;>first | exact ha h | cases h),qp,Eu];have h2:[u,1].length=2:=rfl;rw [h2];have hc:=Rw m u (fun i=>a.getD i 0) (fun i=>[u,1].getD i 0) rfl rfl a.length i;have e1:(if i<a.length then ((a.getD i 0:Nat):Int)*u else 0)=u*cI a i:=by
   by_cases h:i<a.length
   ·rw [if_pos h];unfold cI;grind
   ·rw [if_neg h,gV (by omega)];grind
  have e2:(if 1≤i∧i - 1<a.length then ((a.getD (i - 1) 0:Nat):Int) else 0)=upF (cI a) i:=by
   cases i with
   | zero=>rw [if_neg (by omega)];rfl
   | succ i=>
    show _=cI a i;by_cases h:i<a.length
    ·rw [if_pos ⟨by omega,by omega⟩];rfl
    ·rw [if_neg (by omega),gV (by omega)]
  simp only [e1,e2] at hc;by_cases h:i<a.length+2 - 1
  ·rw [if_pos h];exact hc.trans ⟨0,by grind⟩
  ·rw [if_neg h,gV (by omega)];obtain ⟨j,rfl⟩: ∃ j,i=j+1:=⟨i - 1,by omega⟩
   show eqm m 0 (cI a j+u*0);rw [gV (by omega)];exact ⟨0,by grind⟩
theorem Rx (m:Nat) (f:Nat→Nat) (x n:Nat): ∀ k,k≤n→eqm m (DX m f x n k) (evF (fun i=>((f (n - k+i):Nat):Int)) k x)
 | 0,_=>eqm.rfl'
 | k+1,h=>by
  have ih:=Rx m f x n k (by omega);unfold DX;refine (eqm.nat m _).trans ?_;have e:evF (fun i=>((f (n - (k+1)+i):Nat):Int)) (k+1) x=(f (n - 1 - k):Int)+x*evF (fun i=>((f (n - k+i):Nat):Int)) k x:=by
   show ((f (n - (k+1)+0):Nat):Int)+x*evF (fun i=>((f (n - (k+1)+(i+1)):Nat):Int)) k x=_;rw [show n - (k+1)+0=n - 1 - k by omega];congr 3;funext i;rw [show n - (k+1)+(i+1)=n - k+i by omega]
  rw [e,Int.natCast_add,Int.natCast_mul];refine ((ih.mul eqm.rfl').add eqm.rfl').trans ⟨0,by grind⟩
theorem aaS (m:Nat) (l:List Nat) (x:Nat):eqm m (mQ m l x) (evL l x):=by
 have:=Rx m (fun i=>l.getD i 0) x l.length l.length (Nat.le_refl _);simp only [Nat.sub_self,Nat.zero_add] at this;exact this
theorem aaT (m:Nat) (a b:List Nat) (c:Nat) (x:Int):eqm m (evL (mV m a b c) x) (evL a x+c*evL b x):=by
 obtain ⟨N,h1,h2,h3⟩: ∃ N,(mV m a b c).length≤N∧a.length≤N∧b.length≤N:=⟨max a.length b.length,Gj _ _ _ _,by omega,by omega⟩
 rw [←jc h1, ←jc h2, ←jc h3, ←um];exact pJ fun i _=>Vm m a b c i
theorem Ry {m:Nat} {a:List Nat} {u:Nat} (hl:l.length≤a.length+2) (h: ∀ i,eqm m (cI l i) (upF (cI a) i+u*cI a i)) (x:Int):eqm m (evL l x) ((x+u)*evL a x):=by
 have h1:l.length≤(a.length+1)+1:=by omega
 rw [←jc h1];refine (pJ fun i _=>h i).trans ?_;rw [um,ajU,jc (show a.length≤a.length+1 by omega),jc (show a.length≤a.length+1+1 by omega)];exact ⟨0,by grind⟩
theorem aaU (m:Nat) (a:List Nat) (u:Nat) (x:Int):eqm m (evL (jU m a [u,1]) x) ((x+u)*evL a x):=
 Ry (Nat.le_trans (Gl _ _ _) (by show a.length+2 - 1≤_;omega)) (Vo m u a) x
theorem xO {m a b:Nat} (hb:b≤m):eqm m (((a+m - b) % m:Nat):Int) (a - b):=by
 refine (eqm.nat m _).trans ⟨1,?_⟩;rw [Int.natCast_sub (by omega),Int.natCast_add];grind
theorem Rz {m b:Nat} (hb:b≤m):eqm m (((m - b) % m:Nat):Int) (-b):=by
 refine (eqm.nat m _).trans ⟨1,?_⟩;rw [Int.natCast_sub hb];grind
theorem Nw {m n:Nat} (hm:2≤m) (xs ys:Nat→Nat) (hx: ∀ i,i<n→xs i<m) (hu: ∀ i k,k<i→i<n→jH m ((xs i:Int) - xs k)): ∀ i,i≤n→(∀ k,k<i→eqm m (evL (bZ m xs ys i).1 (xs k)) (ys k))∧(∀ k,k<i→eqm m (evL (bZ m xs ys i).2 (xs k)) 0)∧ ∀ k,i≤k→k<n→jH m (evL (bZ m xs ys i).2 (xs k))
 | 0,_=>⟨fun k hk=>by omega,fun k hk=>by omega,fun k _ _=>⟨1,0,by show ((1:Int)+(xs k:Int)*0)*1=_;grind⟩⟩
 | i+1,hi=>by
  obtain ⟨h1,h2,h3⟩:=Nw hm xs ys hx hu i (by omega);have e1:(bZ m xs ys (i+1)).1=mV m (bZ m xs ys i).1 (bZ m xs ys i).2 ((ys i+m - mQ m (bZ m xs ys i).1 (xs i)) % m*(jm (mQ m (bZ m xs ys i).2 (xs i)) m).1 % m):=rfl;have e2:(bZ m xs ys (i+1)).2=jU m (bZ m xs ys i).2 [(m - xs i) % m,1]:=rfl;rw [e1,e2];generalize (bZ m xs ys i).1=P at*;generalize (bZ m xs ys i).2=B at*;have hvP:=aaS m P (xs i);have hvB:=aaS m B (xs i);have hlP:=IK (m:=m) (by omega) P (xs i);have hub:jH m (mQ m B (xs i):Nat):=(h3 i (Nat.le_refl _) (by omega)).congr hvB.symm;have hinv:=(Et hm hub).2;have hs:=xO (a:=ys i) (Nat.le_of_lt hlP);have hc:=eqm.nat m ((ys i+m - mQ m P (xs i)) % m*(jm (mQ m B (xs i)) m).1);rw [Int.natCast_mul] at hc;generalize (ys i+m - mQ m P (xs i)) % m*(jm (mQ m B (xs i)) m).1 % m=c at*;generalize (jm (mQ m B (xs i)) m).1=iv at*;have hc2:=hc.trans (hs.mul eqm.rfl');have hz:=Rz (Nat.le_of_lt (hx i (by omega)));have hB: ∀ x:Int,eqm m (evL (jU m B [(m - xs i) % m,1]) x) ((x - xs i)*evL B x):=fun x=>(aaU m B _ x).trans (((eqm.rfl'.add hz).mul eqm.rfl').trans ⟨0,by grind⟩)
  refine ⟨fun k hk=>?_,fun k hk=>?_,fun k hk hk2=>?_⟩
  ·refine (aaT m P B c (xs k)).trans ?_;by_cases e:k=i
   ·subst e;refine (eqm.rfl'.add (hc2.mul hvB.symm)).trans ?_;obtain ⟨c1,hvP⟩:=hvP;obtain ⟨c2,hinv⟩:=hinv;exact ⟨-c1+((ys k:Int) - (mQ m P (xs k):Nat))*c2,by grind⟩
   ·obtain ⟨c1,q1⟩:=h1 k (by omega);obtain ⟨c2,q2⟩:=h2 k (by omega);exact ⟨c1+c*c2,by rw [q1,q2];grind⟩
  ·refine (hB _).trans ?_;by_cases e:k=i
   ·subst e;exact ⟨0,by grind⟩
   ·obtain ⟨c2,q2⟩:=h2 k (by omega);exact ⟨((xs k:Int) - xs i)*c2,by rw [q2];grind⟩
  ·exact ((hu k i (by omega) hk2).mul (h3 k (by omega) hk2)).congr (hB _).symm
end
section
open Go.RowKit Wv
theorem Ny (n:Int) (h:n≤4611686018427387904):dO n≤62∧n≤((2 ^ dO n:Nat):Int)∧ ∀ j,j<dO n→((2 ^ j:Nat):Int)<n:=by
 unfold dO;by_cases h1:n≤1
 ·rw [if_pos h1];exact ⟨by omega,by show n≤1;exact h1,fun j hj=>by omega⟩
 ·rw [if_neg h1];obtain ⟨x,hx⟩: ∃ x:Nat,n=(x:Int)+1:=⟨(n - 1).toNat,by omega⟩
  have hx2:(n - 1).toNat=x:=by omega
  rw [hx2];obtain ⟨b1,b2,b3⟩:=Lib.bitLenAux_bounds 64 x (by show x<18446744073709551616;omega) (by omega);have e:Lib.bitLen x=Lib.bitLenAux 64 x:=rfl;rw [e];generalize Lib.bitLenAux 64 x=L at*;refine ⟨?_,by omega,fun j hj=>?_⟩
  ·refine Classical.byContradiction fun hh=>?_
   have:=Nat.pow_le_pow_right (n:=2) (by decide) (show 62≤L - 1 by omega);have e:2 ^ 62=4611686018427387904:=rfl;omega
  ·have:=Nat.pow_le_pow_right (n:=2) (by decide) (show j≤L - 1 by omega);omega
theorem uo (n:Int) (h:n≤4611686018427387904):TC Tryz.prog 188 [.v (.int .i64 n)] (.v (.int .i64 (dO n))):=by
 obtain ⟨f1,f2,f3⟩:=Ny n h;generalize dO n=L at*;refine Wv.TC.by 12 [3,0,8,2] [] [.tmp 2] Tryz.func188 rfl rfl rfl ?clo ?_
 case clo=>simp only [Wv.BC]
 refine Wv.W ?_;refine aT (σ:=Nat) (fun e=>[(0, .v (.int .i64 n)),(3, .v (.int .i64 e))]) (fun _=>[]) (fun e=>e≤L) (fun e=>L - e) 0 (Nat.zero_le _) rfl Wv.V ?_;intro e he;have hm:min e 64=e:=by omega
 have hp:2 ^ e≤4611686018427387904:=Nat.pow_le_pow_right (n:=2) (by decide) (show e≤62 by omega);have hp0:0<2 ^ e:=Nat.pow_pos (by decide);have hw:IntKind.i64.wrap ((2:Int) ^ e)=((2 ^ e:Nat):Int):=by
  have e2:((2:Int) ^ e)=((2 ^ e:Nat):Int):=by rw [Int.natCast_pow];rfl
  rw [e2];generalize 2 ^ e=q at*;rw [IntKind.wrap_i64];omega
 by_cases hlt:e<L
 ·have q:=f3 e hlt;generalize ((2 ^ e:Nat):Int)=z at*;simp (disch:=first|exact Wv.D|fail) only [Wv.B,simprocAttr,Int.toNat_natCast,hm,Int.one_mul,hw,ah q];refine ay (e+1) (by omega) (by omega) rfl Wv.V2
 ·obtain rfl:L=e:=by omega
  have q: ¬ ((2 ^ L:Nat):Int)<n:=by omega
  generalize ((2 ^ L:Nat):Int)=z at*;simp (disch:=first|exact Wv.D|fail) only [Wv.B,simprocAttr,Int.toNat_natCast,hm,Int.one_mul,hw,aj q]
def Ai (t:Nat) (val:Nat→Int):List Nat:=if Ju t t id=true then [] else nC t t id (iY t val) t
def zk (t:Nat) (val:Nat→Int):Nat:=dF (fun i=>(Ai t val).getD i 0) (Ai t val).length - 1
theorem Nz {t:Nat} (h2:2≤t) (val:Nat→Int):(Ai t val).length≤1+3*t:=by
 unfold Ai;split
 ·exact Nat.zero_le _
 ·exact (BF h2 t id (iY t val) (fun i _=>qh (by omega) val i) t (Nat.le_refl _)).2
theorem aaV (t:Nat) (val:Nat→Int) (h2:2≤t) (h256:t≤256):
  TC Tryz.prog 241 [.v (.int .u32 t),fM t id,fM t (iY t val)] (.tup [cZ (Ai t val), .v (.int .i64 (if Ju t t id=true then 7 else 0))]):=by
 refine (PS t t id (iY t val) h2 (by omega) h256 (fun i hi=>hi) fun i hi=>qh (by omega) val i).res ?_;unfold Ns Ai;cases Ju t t id with
 | true=>exact Wk.tup ⟨Wk.nil 1,Wk.refl _,trivial⟩
 | false=>exact Wk.refl _
theorem aaW {a t:Int} (ht:0<t):(a.tmod t+t).tmod t=(a+t) % t:=by
 have h1:=Int.lt_tmod_of_pos a ht;rw [Int.tmod_eq_emod_of_nonneg (by omega),Int.tmod_def,Int.add_emod_right,Int.add_emod_right,Int.sub_mul_emod_self_left]
theorem PU (N r:Int) (t m:Nat) (nm:Nat→ByteArray) (sh:Nat→Bool × Nat) (val:Nat→Int) (h2:2≤t) (h256:t≤256) (hb: ∀ i,i<t→inB (val i)=true):
  TC Tryz.prog 219 [.tp (yC N t r m nm sh), .t t 1 (tab t fun i=> .v (.int .i64 (val i)))] (.v (.int .i64 (zk t val))):=by
 have TI:=aaV t val h2 h256;have hD:zk t val=dF (fun i=>(Ai t val).getD i 0) (Ai t val).length - 1:=rfl;have hll:=Nz h2 val;have hv: ∀ i,i<t→ -4294967295≤val i∧val i≤4294967295:=fun i hi=>by
  have h:=hb i hi;unfold inB at h;rw [Bool.and_eq_true] at h;exact ⟨of_decide_eq_true h.1,of_decide_eq_true h.2⟩
 generalize Ai t val=l at*;generalize (if Ju t t id=true then 7 else 0:Int)=er at*;generalize zk t val=D at*;unfold yC bT;refine Wv.TC.by 70 [7,1,15,5,6,0,11,8,60,67,10,4] [(6,19),(3000006,3)] [.tmp 4] Tryz.func219 rfl rfl rfl ?clo ?_
 case clo=>simp only [Wv.BC]
 have hYc:=vK N t r m nm sh;unfold yC bT at hYc;generalize shM m sh=L at*;have hLl: ∀ k,lo k _=True:=fun k=>eq_true (.clo hYc)
 refine Wv.W ?_;refine lQ (σ:=Nat) (fun i=>[(0, .tp [.v (.int .i64 N), .v (.int .i64 t), .v (.int .i64 r), .t m 1 (tab m fun i=> .v (.string (nm i))), .t m 2 L]),(1, .t t 1 (tab t fun i=> .v (.int .i64 (val i)))),(5, .own 0 i),(6, .own 1 i),(7, .v (.int .i64 i))])
  (fun i=>[some (.arr 22 1 (tab i fun i=> .v (.int .u32 (i:Nat))) 0),some (.arr 22 1 (tab i fun i=> .v (.int .u32 (iY t val i:Nat))) 0)]) (fun i=>i≤t) (fun i=>t - i) 0 (Nat.zero_le _) ?_ ?_
 ·refine Ent.trans (Ent.nil 5 22 1 (by omega) rfl) (Ent.trans (Ent.nil 6 22 1 (by omega) rfl) (Ent.fit ?_));exact Wv.V
 intro i hi;by_cases hlt:i<t
 ·have e1:(i:Int)<(t:Int):=by omega
  have ht0: ¬ (t:Int)=0:=by omega
  obtain ⟨v1,v2⟩:=hv i hlt;have e2:((val i).tmod t+t).tmod t=((iY t val i:Nat):Int):=by rw [aaW (by omega)];exact (AX (by omega) val i).symm
  have e3:=qh (t:=t) (by omega) val i;have m1:=Int.lt_tmod_of_pos (val i) (show (0:Int)<t by omega);have m2:=Int.tmod_lt_of_pos (val i) (show (0:Int)<t by omega);refine Wv.W3 (ah e1) (aj ht0) e2 ?_;refine Wv.iw (i+1) 2 (by first | decide | exact Nat.le_of_ble_eq_true rfl) (by omega) (by omega) (Wv.V1 @bG) Wv.V2 (by simp only [Wv.BL, ↓reduceIte,Nat.reduceLeDiff,hLl]<;>omega) (by simp only [Wv.BL, ↓reduceIte,Nat.reduceLeDiff,hLl]<;>omega)
 ·obtain rfl:t=i:=by omega
  refine Wv.W2 @Int.lt_irrefl @decide_false ?_;refine kW TI (by simp only [Wv.BC,aV,jT]) (by simp only [Wv.BC,aV]) ?_;refine Wv.W ?_;refine jk rfl ?_;simp (disch:=first|exact Wv.D|fail) only [Wv.B,simprocAttr,cZ,fM];refine aT (σ:=Nat) (fun i=>[(8, .t l.length 1 (tab l.length fun i=> .v (.int .u32 (l.getD i 0:Nat)))),(10, .v (.int .i64 (dF (fun i=>l.getD i 0) i - 1:Nat))),(11, .v (.int .i64 i))])
   (fun _=>[some (.arr 22 1 (tab t fun i=> .v (.int .u32 (i:Nat))) t),some (.arr 22 1 (tab t fun i=> .v (.int .u32 (iY t val i:Nat))) t)]) (fun i=>i≤l.length) (fun i=>l.length - i) 0 (Nat.zero_le _) Wv.V (by simp (disch:=first|exact Wv.D|fail) only [Wv.B,simprocAttr];rfl) ?_
  clear hv hb TI;intro i hi;by_cases hlt:i<l.length
  ·have e1:(i:Int)<(l.length:Int):=by omega
   have hs:=iq (fun i=>l.getD i 0) i;by_cases hz:l.getD i 0=0
   ·rw [if_pos hz] at hs;refine Wv.W2 (ah e1) hz ?_;refine ay (i+1) (by omega) (by omega) rfl (Wv.V3 hs @Int.natCast_add @Int.natCast_one)
   ·rw [if_neg hz] at hs;have hz': ¬ ((l.getD i 0:Nat):Int)=0:=by omega
    have hs':dF (fun i=>l.getD i 0) (i+1) - 1=i:=by rw [hs];rfl
    refine Wv.W2 (ah e1) (aj hz') ?_;refine ay (i+1) (by omega) (by omega) rfl (by simp (disch:=first|exact Wv.D|fail) only [Wv.B,simprocAttr,hs',Int.natCast_add,Int.natCast_one])
  ·obtain rfl:i=l.length:=by omega
   exact Wv.V3 @Int.lt_irrefl @decide_false hD
end
end Go.Proofs.YtljfgdlgmdcmfaaGreat
