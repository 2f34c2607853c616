/- Parts of a proof. -/
import Derived.Test.YtljfgdlgmdcmfaaGreatQrg
import Derived.Test.YtljfgdlgmdcmfaaGreatQrf
import Derived.Test.YtljfgdlgmdcmfaaGreatQrj
import Derived.Test.YtljfgdlgmdcmfaaGreatQrn
import Derived.Test.YtljfgdlgmdcmfaaGreatProg
import Derived.Test.YtljfgdlgmdcmfaaGreatQrm
import Derived.Test.YtljfgdlgmdcmfaaGreatQrl
import Derived.Deep.QuietTactic
import Derived.BigQuiet
set_option linter.unusedVariables false
set_option linter.unusedSimpArgs false
set_option maxHeartbeats 3200000
set_option maxRecDepth 100000
namespace Go.Proofs.YtljfgdlgmdcmfaaGreat
section
open Go.RowKit Wv
def jG (m:Nat) (ln:Nat→Nat) (vs:Nat→Nat→Int):AV:= .t m 1 (tab m fun i=>roA (ln i) (vs i))
theorem MP (m:Nat) (ln:Nat→Nat) (vs:Nat→Nat→Int):Clo (jG m ln vs):=by
 unfold jG;simp only [Wv.BC];exact fun i _=>jW _ _
def GK (a:Nat) (f:Nat→Int) (b:Nat) (g:Nat→Int) (s:Int):Bool:=decide (s<0) || (decide ((a:Int)≤s) || (decide ((b:Int)≤s) || !decide (f s.toNat=g s.toNat)))
theorem Q9 (m:Nat) (ln:Nat→Nat) (vs:Nat→Nat→Int) (o:Option Ob) (i a:Nat) (f:Nat→Int) (s:Int) (hi:i<m) (hm:m≤140737488351232) (ha:a≤140737488351232) (hb:ln i≤140737488351232):
  HT Tryz.prog 95 [.v (.int .i64 s), .ptr 3 0, .ptr 0 0, .ptr 2 0] [some (.blk [jG m ln vs]),o,some (.blk [.v (.int .i64 i)]),some (.blk [roA a f])] (fun r h'=>r= .v (.bool (GK a f (ln i) (vs i) s))∧h'=[some (.blk [jG m ln vs]),o,some (.blk [.v (.int .i64 i)]),some (.blk [roA a f])]):=by
 have hw:GK a f (ln i) (vs i) s=(decide (s<0) || (decide ((a:Int)≤s) || (decide ((ln i:Int)≤s) || !decide (f s.toNat=vs i s.toNat)))):=rfl;have him:(i:Int)<m:=by omega
 generalize GK a f (ln i) (vs i) s=B at*;unfold jG roA;refine Wv.HT.by 37 [0,1,2,3,5] [(1,29),(1000000,4),(3000001,2)] [.tmp 5] Tryz.func95 rfl rfl rfl ?base ?_
 case base=>rfl
 by_cases h0:s<0
 ·rw [ah h0,Bool.true_or] at hw;simp (disch:=first|exact Wv.D|fail) only [Wv.B,simprocAttr,ah h0];rw [hw]
 obtain ⟨n,rfl⟩: ∃ n:Nat,s=n:=⟨s.toNat,by omega⟩
 rw [aj h0,Bool.false_or] at hw;by_cases h1:(a:Int)≤n
 ·rw [ah h1,Bool.true_or] at hw;simp (disch:=first|exact Wv.D|fail) only [Wv.B,simprocAttr,aj h0,ah h1];rw [hw]
 rw [aj h1,Bool.false_or] at hw;by_cases h2:(ln i:Int)≤n
 ·rw [ah h2,Bool.true_or] at hw;simp (disch:=first|exact Wv.D|fail) only [Wv.B,simprocAttr,aj h0,aj h1,ah h2];rw [hw]
 rw [aj h2,Bool.false_or,Int.toNat_natCast] at hw;simp (disch:=first|exact Wv.D|fail) only [Wv.B,simprocAttr,aj h0,aj h1,aj h2];rw [hw]
def jL (b:Nat→Bool):Nat→List AV
 | 0=>[]
 | n+1=>if b n=true then jL b n++[.v (.int .i64 n)] else jL b n
theorem acU (b:Nat→Bool): ∀ n,(jL b n).length≤n
 | 0=>Nat.le_refl _
 | n+1=>by
  have:=acU b n;unfold jL;split
  ·rw [List.length_append];show _+1≤_;omega
  ·omega
theorem GL (b:Nat→Bool): ∀ n a,a∈jL b n→Clo a
 | 0,a,h=>by cases h
 | n+1,a,h=>by
  unfold jL at h;split at h
  ·rcases List.mem_append.1 h with h | h
   ·exact GL b n a h
   ·rw [List.mem_singleton] at h;subst h;exact .v _
  ·exact GL b n a h
theorem EF (k:Nat) (b:Nat→Bool) (n:Nat):loL k (jL b n)=True:=eq_true fun a ha=> .clo (GL b n a ha)
def jB (m2:Nat) (ln1:Nat→Nat) (vs1:Nat→Nat→Int) (ln2:Nat→Nat) (vs2:Nat→Nat→Int) (ns:Nat) (sl:Nat→Int) (i:Nat):Bool:=
 if i<m2 then bf ns (fun k=>GK (ln1 i) (vs1 i) (ln2 i) (vs2 i) (sl k)) else true
theorem EG (m1:Nat) (ln1:Nat→Nat) (vs1:Nat→Nat→Int) (m2:Nat) (ln2:Nat→Nat) (vs2:Nat→Nat→Int) (ns:Nat) (sl:Nat→Int) (h1:m1≤1000) (h2:m2≤1000) (hs:ns≤1000) (hl1: ∀ i,i<m1→ln1 i≤140737488351232) (hl2: ∀ i,i<m2→ln2 i≤140737488351232):
  TC Tryz.prog 51 [jG m1 ln1 vs1,jG m2 ln2 vs2,roA ns sl] (.t (jL (jB m2 ln1 vs1 ln2 vs2 ns sl) m1).length 1 (jL (jB m2 ln1 vs1 ln2 vs2 ns sl) m1)):=by
 have hb: ∀ i,jB m2 ln1 vs1 ln2 vs2 ns sl i=if i<m2 then bf ns (fun k=>GK (ln1 i) (vs1 i) (ln2 i) (vs2 i) (sl k)) else true:=fun i=>rfl
 have hJ:=fun (i:Nat) (o:Option Ob) (hi:i<m1) (hi2:i<m2)=>Qd (h:=[some (.blk [jG m2 ln2 vs2]),o,some (.blk [.v (.int .i64 i)]),some (.blk [roA (ln1 i) (vs1 i)])]) ns sl (fun k=>GK (ln1 i) (vs1 i) (ln2 i) (vs2 i) (sl k)) 95 [] [.ptr 3 0, .ptr 0 0, .ptr 2 0] (by omega) (fun k hk=>Q9 m2 ln2 vs2 o i (ln1 i) (vs1 i) (sl k) hi2 (by omega) (hl1 i hi) (hl2 i hi2))
 generalize jB m2 ln1 vs1 ln2 vs2 ns sl=b at*;have hC2:=MP m2 ln2 vs2;have hC1:=fun i=>jW (ln1 i) (vs1 i)
 have hCs:=jW ns sl;refine Wv.TC.by 33 [1,0,12,11,13,10,8,4,7,2,9,26,6] [] [.tmp 6] Tryz.func51 rfl rfl rfl ?clo ?_
 case clo=>simp only [Wv.BC];exact GL _ _
 unfold jG at*;have alv: ∀ i,i<m2→Clo (roA (ln2 i) (vs2 i)):=fun i _=>jW _ _
 unfold roA at hJ ⊢;refine Wv.W ?_;refine Ag (σ:=Nat) (fun i=>[(2, .t ns 1 (tab ns fun j=> .v (.int .i64 (sl j)))),(4, .ptr 0 0),(6, .own 1 (jL b i).length),(10, .t m1 1 (tab m1 fun i=> .t (ln1 i) 1 (tab (ln1 i) fun j=> .v (.int .i64 (vs1 i j))))),(11, .v (.int .i64 m1)),(12, .v (.int .i64 i))])
  (fun i=>[some (.blk [.t m2 1 (tab m2 fun i=> .t (ln2 i) 1 (tab (ln2 i) fun j=> .v (.int .i64 (vs2 i j))))]),some (.arr 3 1 (jL b i) 0)]) (fun i=>i≤m1) (fun i=>m1 - i) 0 (Nat.zero_le _) ?_ ?_
 ·refine Ent.trans (Ent.nil 6 3 1 (by omega) rfl) (Ent.fit ?_);simp (disch:=first|exact Wv.D|fail) only [Wv.B,simprocAttr,jL,List.length_nil]
 intro i hi;by_cases hlt:i<m1
 ·have e1:(i:Int)<m1:=by omega
  have hle:=acU b i;simp (disch:=first|exact Wv.D|fail) only [Wv.B,simprocAttr,ah e1];by_cases hi2:i<m2
  ·simp (disch:=first|exact Wv.D|fail) only [Wv.B,simprocAttr,aj (show ¬ (m2:Int)≤i by omega),aj (show ¬ (i:Int)≥m2 by omega)];have hbi:=(hb i).trans (if_pos hi2);refine bZ (fst:=[]) (cap:=[]) (hJ i _ hlt hi2) ?_;rintro av h' ⟨rfl,rfl⟩;generalize (bf ns fun k=>GK (ln1 i) (vs1 i) (ln2 i) (vs2 i) (sl k))=q at*;cases q with
   | true=>
    have hj:jL b (i+1)=jL b i++[.v (.int .i64 i)]:=if_pos hbi;refine Wv.W ?_;refine Wv.lI (i+1) 2 (by first | decide | exact Nat.le_of_ble_eq_true rfl) (show i+1≤m1 by omega) (by omega) (by simp (disch:=first|exact Wv.D|fail) only [Wv.B,simprocAttr,dN,hj,List.length_append,List.length_cons,List.length_nil]) (by simp (disch:=first|exact Wv.D|fail) only [Wv.B,simprocAttr,Int.natCast_add,Int.natCast_one,hj,List.length_append,List.length_cons,List.length_nil]) (by simp only [Wv.BL, ↓reduceIte,Nat.reduceLeDiff,EF]<;>omega) (by simp only [Wv.BL, ↓reduceIte,Nat.reduceLeDiff,EF]<;>omega)
   | false=>
    have hj:jL b (i+1)=jL b i:=if_neg (by rw [hbi];decide);refine Wv.W ?_;refine Wv.lI (i+1) 2 (by first | decide | exact Nat.le_of_ble_eq_true rfl) (show i+1≤m1 by omega) (by omega) (by simp (disch:=first|exact Wv.D|fail) only [Wv.B,simprocAttr,dN,hj]) (by simp (disch:=first|exact Wv.D|fail) only [Wv.B,simprocAttr,Int.natCast_add,Int.natCast_one,hj]) (by simp only [Wv.BL, ↓reduceIte,Nat.reduceLeDiff,EF]<;>omega) (by simp only [Wv.BL, ↓reduceIte,Nat.reduceLeDiff,EF]<;>omega)
  ·have hbi:=(hb i).trans (if_neg hi2);have hj:jL b (i+1)=jL b i++[.v (.int .i64 i)]:=if_pos hbi;simp (disch:=first|exact Wv.D|fail) only [Wv.B,simprocAttr,ah (show (m2:Int)≤i by omega),ah (show (i:Int)≥m2 by omega)];refine Wv.lI (i+1) 2 (by first | decide | exact Nat.le_of_ble_eq_true rfl) (show i+1≤m1 by omega) (by omega) (by simp (disch:=first|exact Wv.D|fail) only [Wv.B,simprocAttr,dN,hj,List.length_append,List.length_cons,List.length_nil]) (by simp (disch:=first|exact Wv.D|fail) only [Wv.B,simprocAttr,Int.natCast_add,Int.natCast_one,hj,List.length_append,List.length_cons,List.length_nil]) (by simp only [Wv.BL, ↓reduceIte,Nat.reduceLeDiff,EF]<;>omega) (by simp only [Wv.BL, ↓reduceIte,Nat.reduceLeDiff,EF]<;>omega)
 ·obtain rfl:i=m1:=by omega
  simp (disch:=first|exact Wv.D|fail) only [Wv.B,simprocAttr,Int.lt_irrefl,decide_false]
end
section
open Go.RowKit Wv
theorem X8 {p:Nat→Bool} {n k:Nat} (hk:k≤n) (h:bf k p=true):bf n p=true:=by
 unfold bf at*;rw [List.any_eq_true] at*;obtain ⟨x,hx,hpx⟩:=h;exact ⟨x,List.mem_range.2 (by have:=List.mem_range.1 hx;omega),hpx⟩
theorem EH (p:Nat→Bool) (n:Nat):bf (n+1) p=(bf n p || p n):=by
 unfold bf;rw [List.range_succ,List.any_append];simp
theorem Rf (n:Nat) (f:Nat→Int) (hn:n≤140737488351232):TC Tryz.prog 50 [roA n f,roA n f] (.v (.bool true)):=by
 unfold roA;refine Wv.TC.by 26 [0,1,10,5,14,25,4] [(6,8)] [.tmp 4] Tryz.func50 rfl rfl rfl ?clo ?_
 case clo=>simp only [Wv.BC]
 refine Wv.W ?_;refine dI (σ:=Nat) (fun i=>[(0, .t n 1 (tab n fun j=> .v (.int .i64 (f j)))),(1, .t n 1 (tab n fun j=> .v (.int .i64 (f j)))),(5, .v (.int .i64 i))]) (fun _=>[]) (fun i=>i≤n) (fun i=>n - i) 0 (Nat.zero_le _) Wv.V Wv.V ?_;intro i hi;by_cases hlt:i<n
 ·have e1:(i:Int)<n:=by omega
  simp (disch:=first|exact Wv.D|fail) only [Wv.B,simprocAttr,ah e1];refine aJ (i+1) (by omega) (by omega) rfl Wv.V2
 ·obtain rfl:i=n:=by omega
  simp (disch:=first|exact Wv.D|fail) only [Wv.B,simprocAttr,Int.lt_irrefl,decide_false]
def grB (m:Nat) (ln:Nat→Nat):Bool:=bf m (fun i=>decide (100<ln i)) || decide (50<m)
theorem Rh (m:Nat) (ln:Nat→Nat) (vs:Nat→Nat→Int) (hm:m≤140737488351232) (hl: ∀ i,i<m→ln i≤140737488351232):TC Tryz.prog 31 [jG m ln vs] (.v (.bool (grB m ln))):=by
 have hg:grB m ln=(bf m (fun i=>decide (100<ln i)) || decide (50<m)):=rfl;generalize grB m ln=B at*;unfold jG roA;refine Wv.TC.by 19 [3,0,7,15,2] [] [.tmp 2] Tryz.func31 rfl rfl rfl ?clo ?_
 case clo=>simp only [Wv.BC]
 refine Wv.W ?_;refine dI (σ:=Nat) (fun i=>[(0, .t m 1 (tab m fun i=> .t (ln i) 1 (tab (ln i) fun j=> .v (.int .i64 (vs i j))))),(3, .v (.int .i64 i))]) (fun _=>[]) (fun i=>i≤m∧bf i (fun i=>decide (100<ln i))=false) (fun i=>m - i) 0 ⟨Nat.zero_le _,rfl⟩ Wv.V Wv.V ?_;rintro i ⟨hi,hb⟩;by_cases hlt:i<m
 ·have e1:(i:Int)<m:=by omega
  have hli:=hl i hlt;by_cases c:100<ln i
  ·have hB:B=true:=by
    rw [hg,X8 (k:=i+1) (by omega) (by rw [EH,hb,ah c];rfl)];rfl
   simp (disch:=first|exact Wv.D|fail) only [Wv.B,simprocAttr,ah e1,ah (show ((ln i:Nat):Int)>100 by omega),ah (show (100:Int)<(ln i:Nat) by omega)];rw [hB]
  ·simp (disch:=first|exact Wv.D|fail) only [Wv.B,simprocAttr,ah e1,aj (show ¬ ((ln i:Nat):Int)>100 by omega),aj (show ¬ (100:Int)<(ln i:Nat) by omega)];refine aJ (i+1) ⟨by omega,by rw [EH,hb,aj c];rfl⟩ (by omega) rfl Wv.V2
 ·obtain rfl:i=m:=by omega
  have hB:decide ((50:Int)<(i:Nat))=B:=by
   rw [hg,hb,Bool.false_or];by_cases c:50<i
   ·rw [ah c,ah (by omega)]
   ·rw [aj c,aj (by omega)]
  have hB':decide ((i:Int)>50)=B:=hB;simp (disch:=first|exact Wv.D|fail) only [Wv.B,simprocAttr,Int.lt_irrefl,decide_false,hB,hB']
end
section
open Go.RowKit Wv
def rbN (t n:Int):Int:=if (t - 1) / 2<((n.tmod t)+t).tmod t then ((n.tmod t)+t).tmod t - t else ((n.tmod t)+t).tmod t
theorem ab6 (t n:Int) (ht:3≤t) (ht':t≤2147483647) (hn: -9223372036854775808≤n∧n≤9223372036854775807):TC Tryz.prog 38 [.v (.int .i64 t), .v (.int .i64 n)] (.v (.int .i64 (rbN t n))):=by
 have hq:(t - 1).tdiv 2=(t - 1) / 2:=Int.tdiv_eq_ediv_of_nonneg (by omega);have h1:=tmod_in (n:=n) ht;have hB:rbN t n=if (t - 1) / 2<((n.tmod t)+t).tmod t then ((n.tmod t)+t).tmod t - t else ((n.tmod t)+t).tmod t:=rfl
 have h2:=Int.tmod_nonneg (a:=n.tmod t+t) t (by omega);have h3:=Int.tmod_lt_of_pos (n.tmod t+t) (show 0<t by omega);generalize rbN t n=B at*;refine Wv.TC.by 21 [1,0,16,4] [] [.tmp 4] Tryz.func38 rfl rfl rfl ?clo ?_
 case clo=>simp only [Wv.BC]
 generalize hm:n.tmod t=m at*;generalize hk:(m+t).tmod t=k at*;by_cases c:(t - 1) / 2<k
 ·rw [if_pos c] at hB;simp (disch:=first|exact Wv.D|fail) only [Wv.B,simprocAttr,hm,hk,hq,ah c];rw [hB]
 ·rw [if_neg c] at hB;simp (disch:=first|exact Wv.D|fail) only [Wv.B,simprocAttr,hm,hk,hq,aj c];rw [hB]
end
section
open Go.RowKit Wv
theorem GN {b:Nat→Bool}: ∀ {n:Nat},(∀ i,i<n→b i=false)→jL b n=[]
 | 0,_=>rfl
 | n+1,h=>by
  unfold jL;rw [h n (by omega),if_neg (by decide)];exact GN fun i hi=>h i (by omega)
theorem X9 {b:Nat→Bool} {k:Nat}: ∀ {n:Nat},k<n→(∀ i,i<n→b i=decide (i=k))→jL b n=[.v (.int .i64 k)]
 | 0,h,_=>absurd h (Nat.not_lt_zero k)
 | n+1,hk,h=>by
  unfold jL;rw [h n (by omega)];by_cases q:n=k
  ·subst q;rw [if_pos (ah rfl),GN fun i hi=>by rw [h i (by omega),aj (by omega)]];rfl
  ·rw [if_neg (by rw [aj q];decide)];exact X9 (by omega) fun i hi=>h i (by omega)
variable {N:Nat}{f:Nat→Int}
theorem Ya {g:Nat→Int} {s:Int} (h0:0≤s) (h1:s<N):GK N f N g s=!decide (f s.toNat=g s.toNat):=by
 unfold GK;rw [aj (show ¬ s<0 by omega),aj (show ¬ (N:Int)≤s by omega),Bool.false_or,Bool.false_or,Bool.false_or]
variable {ns:Nat}{sl:Nat→Int}
theorem acV {no:Nat} {f g:Nat→Nat→Int}  (hs: ∀ q,q<ns→0≤sl q∧sl q<N) {i:Nat} (hi:i<no) (h: ∀ q,q<ns→f i (sl q).toNat=g i (sl q).toNat):jB no (fun _=>N) f (fun _=>N) g ns sl i=false:=by
 unfold jB bf;rw [if_pos hi,List.any_eq_false];intro q hq;rw [List.mem_range] at hq;rw [Ya (hs q hq).1 (hs q hq).2,ah (h q hq)];decide
variable {q:Nat}
theorem agI {no:Nat} {f g:Nat→Nat→Int}  (hs: ∀ q,q<ns→0≤sl q∧sl q<N) {i:Nat} (hi:i<no) (hq:q<ns) (h:f i (sl q).toNat≠g i (sl q).toNat):jB no (fun _=>N) f (fun _=>N) g ns sl i=true:=by
 unfold jB bf;rw [if_pos hi,List.any_eq_true];exact ⟨q,List.mem_range.2 hq,by rw [Ya (hs q hq).1 (hs q hq).2,aj h];rfl⟩
theorem acW (hq:q<ns) (h0:0≤sl q):onF ns sl f (sl q).toNat=f (sl q).toNat:=by
 unfold onF;refine if_pos ?_;unfold inN bf;exact List.any_eq_true.2 ⟨q,List.mem_range.2 hq,ah (by omega)⟩
theorem agJ {A j:Nat}  (hj:j<32) (h:A.testBit j=true):onF (lsN A 32).length (slF A) f j=f j:=by
 obtain ⟨i,hi,e⟩:=MB hj h;have:=acW (f:=f) hi (show 0≤slF A i by omega);rw [e,Int.toNat_natCast] at this;exact this
theorem aj2 {t v:Int} (ht:3≤t):rbN t (v+1)≠v:=by
 have h1:=Int.mul_tdiv_add_tmod (v+1) t;have h2:=Int.mul_tdiv_add_tmod ((v+1).tmod t+t) t;have key: ∀ q:Int,t*q≠1:=fun q e=>by
  by_cases c:1≤q
  ·have:=Int.mul_le_mul_of_nonneg_left c (show 0≤t by omega);omega
  ·have:=Int.mul_le_mul_of_nonneg_left (show q≤0 by omega) (show 0≤t by omega);omega
 have k1:=key ((v+1).tdiv t+((v+1).tmod t+t).tdiv t);have k2:=key ((v+1).tdiv t+((v+1).tmod t+t).tdiv t - 1);rw [Int.mul_sub,Int.mul_one] at k2;rw [Int.mul_add] at k1 k2;unfold rbN;split<;>omega
variable {vs:Nat→Nat→Int}
theorem agK {t:Int} {c:Ci}  (ht:3≤t) (ho:t % 2=1) (hg:goC N t c vs) (hv: ∀ i,i<c.ni→ ∀ j,j<N→ -((t - 1) / 2)≤vs i j∧vs i j≤(t - 1) / 2) {j:Nat} (hq:q<c.no) (hj:j<N): -((t - 1) / 2)≤qy N t c vs q j∧qy N t c vs q j≤(t - 1) / 2:=by
 have hev: ∀ i,i≤c.nl→okV N t (o8 N t c vs i):=by
  intro k;induction k with
  | zero=>
   intro _;show okV N t (vU c.fi vs c.ni);have: ∀ a,a≤c.ni→okV N t (vU c.fi vs a):=by
    intro a;induction a with
    | zero=>intro _ s f h;cases h
    | succ a ih2=>intro ha;exact zo (ih2 (by omega)) (hv a (by omega))
   exact this c.ni (Nat.le_refl _)
  | succ k ih2=>
   intro hk;exact zo (ih2 (by omega)) (MG ht ho (ih2 (by omega)) (c.le k) (hg.1 k (by omega)).2.2)
 have h:=hg.2.2 q hq;unfold qy;cases hf:dS (o8 N t c vs c.nl) (c.fo q) with
 | none=>rw [hf] at h;cases h
 | some f=>exact hev c.nl (Nat.le_refl _) _ f hf j hj
theorem CJ {t:Int} {c:Ci} {m:Nat} {ln:Nat→Nat}  (hN:4≤N):
  oU N t 0 c m ln vs= .tup [.v (.slice none 0 0), .v (.int .i64 2)]∨(m=c.ni∧(∀ i,i<m→ln i=N∧ ∀ j,j<N→ -((t - 1) / 2)≤vs i j∧vs i j≤(t - 1) / 2)∧oU N t 0 c m ln vs= .tup [vsA c.no (fun _=>N) (qy N t c vs), .v (.int .i64 0)]):=by
 unfold oU;rw [if_neg (by decide)];by_cases h1:m=c.ni
 ·rw [if_neg (fun q=>q h1)];cases h2:bf m (fun i=>yG N t (ln i) (vs i)) with
  | true=>exact .inl rfl
  | false=>
   refine .inr ⟨h1,fun i hi=>?_,rfl⟩;unfold bf at h2;have:=List.any_eq_false.1 h2 i (List.mem_range.2 hi);exact XW (by simpa using this) hN
 ·exact .inl (if_pos h1)
theorem Ri {t:Int} {c:Ci}  (h: ∀ i,i<c.ni→yG N t N (vs i)=false):oU N t 0 c c.ni (fun _=>N) vs= .tup [vsA c.no (fun _=>N) (qy N t c vs), .v (.int .i64 0)]:=by
 unfold oU;rw [if_neg (by decide),if_neg (fun q=>q rfl),if_neg]
 ·rfl
 ·unfold bf;intro q;obtain ⟨i,hi,e⟩:=List.any_eq_true.1 q;rw [h i (List.mem_range.1 hi)] at e;cases e
end
section
open Go.RowKit Wv
theorem JW (n:Int) (m:Nat) (hm:1≤m) (hm2:m≤1000000) (hn: -9223372036854775808≤n∧n≤9223372036854775807):TC Tryz.prog 39 [.v (.int .i64 n), .v (.int .i64 m)] (.v (.int .i64 (n % (m:Int)))):=by
 have hE:n % (m:Int)=if n.tmod m<0 then n.tmod m+m else n.tmod m:=by
  have h:=Int.emod_emod_of_dvd;rw [Int.tmod_eq_emod];have h1:=Int.emod_nonneg n (show (m:Int)≠0 by omega);have h2:=Int.emod_lt_of_pos n (show (0:Int)<m by omega);have h3:((m:Int).natAbs:Int)=m:=by omega
  split<;>split<;>omega
 have hlo: -(m:Int)<n.tmod m∧n.tmod m<m:=by
  rw [Int.tmod_eq_emod];have h1:=Int.emod_nonneg n (show (m:Int)≠0 by omega);have h2:=Int.emod_lt_of_pos n (show (0:Int)<m by omega);have h3:((m:Int).natAbs:Int)=m:=by omega
  split<;>omega
 generalize n % (m:Int)=r at*;refine Wv.TC.by 15 [0,1,5,10,4] [] [.tmp 4] Tryz.func39 rfl rfl rfl ?clo ?_
 case clo=>simp only [Wv.BC]
 by_cases hq:n.tmod m<0
 ·rw [if_pos hq] at hE;subst hE;simp (disch:=first|exact Wv.D|fail) only [Wv.B,simprocAttr,ah hq]
 ·rw [if_neg hq] at hE;subst hE;simp (disch:=first|exact Wv.D|fail) only [Wv.B,simprocAttr,aj hq]
theorem GR (A B D:List AV) (hA: ∀ a,a∈A→Clo a) (hB: ∀ a,a∈B→Clo a) (hD: ∀ a,a∈D→Clo a) (N m k:Nat) (vs:Nat→Nat→Int) (hm:m≤1000) (hN:N≤32) (hk:k<m):
  HT Tryz.prog 32 [vsA m (fun _=>N) vs] [some (.blk A),some (.blk B),some (.blk D)] (fun r h'=>r= .own 3 m∧h'=[some (.blk A),some (.blk B),some (.blk D),some (.arr 43 1 (tab m fun a=>if a=k then .own 4 N else .t N 1 (tab N fun j=> .v (.int .i64 (vs a j)))) 0),some (.arr 2 1 (tab N fun j=> .v (.int .i64 (vs k j))) 0)]):=by
 unfold vsA vcA;refine Wv.HT.byO 21 [4,0,8,3,2] [(1000000,3)] [.tmp 2] Tryz.func32 rfl rfl rfl ?base ?_
 case base=>rfl
 have hAl: ∀ m,loL m A=True:=fun m=>eq_true fun a ha=> .clo (hA a ha)
 have hBl: ∀ m,loL m B=True:=fun m=>eq_true fun a ha=> .clo (hB a ha)
 have hDl: ∀ m,loL m D=True:=fun m=>eq_true fun a ha=> .clo (hD a ha)
 refine Wv.W ?_;refine Ag (σ:=Nat) (fun i=>[(0, .t m 1 (tab m fun i=> .t N 1 (tab N fun j=> .v (.int .i64 (vs i j))))),(3, .own 3 i),(4, .v (.int .i64 i))])
  (fun i=>if i≤k then [some (.blk A),some (.blk B),some (.blk D),some (.arr 43 1 (tab i fun a=> .t N 1 (tab N fun j=> .v (.int .i64 (vs a j)))) 0)] else [some (.blk A),some (.blk B),some (.blk D),some (.arr 43 1 (tab i fun a=>if a=k then .own 4 N else .t N 1 (tab N fun j=> .v (.int .i64 (vs a j)))) 0),some (.arr 2 1 (tab N fun j=> .v (.int .i64 (vs k j))) 0)])
  (fun i=>i≤m) (fun i=>m - i) 0 (Nat.zero_le _) ?_ ?_
 ·rw [if_pos (Nat.zero_le _)];refine Ent.trans (Ent.nil 3 43 1 (by omega) rfl) (Ent.fit ?_);exact Wv.V
 intro i hi;by_cases hlt:i<m
 ·have e1:(i:Int)<m:=by omega
  have hap: ∀ (L:List AV) (x y:AV),L.length=i→(L++[x]).set i y=L++[y]:=fun L x y hL=>by
   rw [List.set_append_right i _ (by rw [hL];exact Nat.le_refl _),hL,Nat.sub_self];rfl
  have hge: ∀ (L:List AV) (x:AV),L.length=i→(L++[x])[i]? =some x:=fun L x hL=>by
   rw [List.getElem?_append_right (by rw [hL];exact Nat.le_refl _),hL,Nat.sub_self];rfl
  by_cases hik:i≤k
  ·rw [if_pos hik];simp (disch:=first|exact Wv.D|fail) only [Wv.B,simprocAttr,ah e1];by_cases ala:i=k
   ·subst ala;have hsn:(tab i fun a=>AV.t N 1 (tab N fun j=> .v (.int .i64 (vs a j))))++[AV.own 4 N]=tab (i+1) fun a=>if a=i then .own 4 N else AV.t N 1 (tab N fun j=> .v (.int .i64 (vs a j))):=by
     rw [aC fun a (ha:a<i)=>(if_neg (by omega):(if a=i then AV.own 4 N else AV.t N 1 (tab N fun j=> .v (.int .i64 (vs a j))))=_).symm];exact (congrArg (fun z=>(tab i fun a=>if a=i then AV.own 4 N else .t N 1 (tab N fun j=> .v (.int .i64 (vs a j))))++[z]) (if_pos rfl).symm).trans (dN (f:=fun a=>if a=i then AV.own 4 N else .t N 1 (tab N fun j=> .v (.int .i64 (vs a j))))).symm
    refine Af (i+1) ?_ (show i+1≤m by omega) (by omega);rw [if_neg (show ¬ i+1≤i by omega)];refine Ent.Dh 5 (by first | decide | exact Nat.le_of_ble_eq_true rfl) ?_ ?_ ?_ ?_
    ·simp (disch:=first|exact Wv.D|fail) only [Wv.B,simprocAttr,Int.natCast_add,Int.natCast_one]
    ·simp only [Wv.BL, ↓reduceIte,Nat.reduceLeDiff]<;>omega
    ·simp only [List.take_succ_cons,List.take_zero,hsn]
    ·simp only [Wv.BL, ↓reduceIte,Nat.reduceLeDiff,hAl,hBl,hDl]<;>(intro a ha;split<;>simp only [Wv.BL, ↓reduceIte,Nat.reduceLeDiff]<;>omega)
   ·refine Af (i+1) ?_ (show i+1≤m by omega) (by omega);rw [if_pos (show i+1≤k by omega)];refine Ent.trans (Ent.MN 3 i (a:= .own 4 N) (a':= .t N 1 (tab N fun j=> .v (.int .i64 (vs i j)))) rfl (hge _ _ eU) (if_pos (by rw [eU,Nat.mul_one])) rfl) (Ent.Dh 4 (by first | decide | exact Nat.le_of_ble_eq_true rfl) ?_ ?_ ?_ ?_)
    ·simp (disch:=first|exact Wv.D|fail) only [Wv.B,simprocAttr,Int.natCast_add,Int.natCast_one]
    ·simp only [Wv.BL, ↓reduceIte,Nat.reduceLeDiff]<;>omega
    ·simp only [List.set_cons_succ,List.set_cons_zero,List.take_succ_cons,List.take_zero,hap _ _ _ eU,dN]
    ·simp only [Wv.BL, ↓reduceIte,Nat.reduceLeDiff,hAl,hBl,hDl]<;>omega
  ·rw [if_neg hik];simp (disch:=first|exact Wv.D|fail) only [Wv.B,simprocAttr,ah e1];have hsn:(tab i fun a=>if a=k then AV.own 4 N else .t N 1 (tab N fun j=> .v (.int .i64 (vs a j))))++[AV.t N 1 (tab N fun j=> .v (.int .i64 (vs i j)))]=tab (i+1) fun a=>if a=k then .own 4 N else AV.t N 1 (tab N fun j=> .v (.int .i64 (vs a j))):=
    (congrArg (fun z=>(tab i fun a=>if a=k then AV.own 4 N else .t N 1 (tab N fun j=> .v (.int .i64 (vs a j))))++[z]) (if_neg (show ¬ i=k by omega)).symm).trans (dN (f:=fun a=>if a=k then AV.own 4 N else .t N 1 (tab N fun j=> .v (.int .i64 (vs a j))))).symm
   refine Af (i+1) ?_ (show i+1≤m by omega) (by omega);rw [if_neg (show ¬ i+1≤k by omega)];refine Ent.trans (Ent.MN 3 i (a:= .own 5 N) (a':= .t N 1 (tab N fun j=> .v (.int .i64 (vs i j)))) rfl (hge _ _ eU) (if_pos (by rw [eU,Nat.mul_one])) rfl) (Ent.Dh 5 (by first | decide | exact Nat.le_of_ble_eq_true rfl) ?_ ?_ ?_ ?_)
   ·simp (disch:=first|exact Wv.D|fail) only [Wv.B,simprocAttr,Int.natCast_add,Int.natCast_one]
   ·simp only [Wv.BL, ↓reduceIte,Nat.reduceLeDiff]<;>omega
   ·simp only [List.set_cons_succ,List.set_cons_zero,List.take_succ_cons,List.take_zero,hap _ _ _ eU,hsn]
   ·simp only [Wv.BL, ↓reduceIte,Nat.reduceLeDiff,hAl,hBl,hDl]<;>(intro a ha;split<;>simp only [Wv.BL, ↓reduceIte,Nat.reduceLeDiff]<;>omega)
 ·obtain rfl:i=m:=by omega
  rw [if_neg (by omega)];simp (disch:=first|exact Wv.D|fail) only [Wv.B,simprocAttr,Int.lt_irrefl,decide_false,aje,ajd]
end
end Go.Proofs.YtljfgdlgmdcmfaaGreat
namespace Go.Proofs.YtljfgdlgmdcmfaaGreat.Wv
section
def aj3:List (FuncId × FI):=[
 (22,⟨[0,1,2,3,35,5,40,71,4],[(6,26),(3000006,msk)]⟩),
 (33,⟨[0,1,3,4,10,29,2,43,11,52,51,53,50,15,78,13,14,93,92,94,91,17,111,110,112,109,18,20,6,7],[(13,10),(3000013,msk),(18,10),(3000018,msk)]⟩),
 (35,⟨[5,0,1,15,27,4],[(4,8)]⟩),
 (45,⟨[0,1,10,5,14,25,4],[(6,8),(3000006,msk)]⟩),
 (46,⟨[1,3,5,7,9,11,13,15,4,6,8,12,14,0],[(5,7),(7,1000000),(5000007,8003)]⟩),
 (48,⟨[0,1,4,5,2,11,24,3,13,12,40,14,8,9],[(7,9),(3000007,msk)]⟩),
 (50,⟨[0,1,10,5,14,25,4],[(6,8),(3000006,msk)]⟩),
 (51,⟨[1,0,12,11,13,10,8,4,7,2,9,26,6],[]⟩),
 (53,⟨[0,1,3,4,10,26,2,32,39,38,40,37,12,15,13,50,55,54,56,53,11,17,6,7],[]⟩),
 (55,⟨[0,1,3,4,10,19,2,28,6,7],[]⟩),
 (67,⟨[0,1,30,3,35,55,58,2],[]⟩),
 (70,⟨[5,0,1,15,26,4],[(4,8),(3000004,msk)]⟩),
 (71,⟨[0,1,2,3,41,5,46,60,4],[(6,10),(3000006,msk)]⟩),
 (77,⟨[0,7,4,15,3,2],[]⟩),
 (78,⟨[0,7,4,15,3,2],[]⟩),
 (79,⟨[0,1,3,16,2,31,30,32,5,6,59,8,7,10,9,75,74,76,12,13,11,4],[(2,6),(3000002,msk),(7,9),(3000007,msk),(20,6),(3000020,msk)]⟩),
 (80,⟨[0,4,2],[]⟩),
 (88,⟨[0,3,2],[]⟩),
 (89,⟨[0,4,11,1,2,43,10,49,48,50,47,14,12,70,74,73,75,72,17,82,81,83,80,3,22,94,18,20,21,15,8,9],[]⟩),
 (90,⟨[0,5,2],[]⟩),
 (91,⟨[0,1,10,13,12,14,5,24,4],[(6,8),(3000006,msk)]⟩),
 (92,⟨[0,12,11,13,10,6,1,21,20,22,19,7,9,4],[]⟩),
 (95,⟨[0,1,2,3,5],[(1,29),(3000001,msk)]⟩),
 (96,⟨[0,1,4],[]⟩),
 (97,⟨[1,9,8,10,7,6,0,5,33,4],[]⟩),
 (98,⟨[0,1,2,8,6,5,7,3,27,26,28,25,10,11,37,36,38,35,12,13,58,57,59,56,16,67,66,68,65,14,17,18,4],[]⟩),
 (99,⟨[4,5,0,3,11,2],[]⟩),
 (104,⟨[0,1,4],[]⟩),
 (106,⟨[0,1,4],[]⟩),
 (111,⟨[0,21,3,25,45,2],[]⟩),
 (112,⟨[3,0,7,15,2],[]⟩),
 (113,⟨[0,1,2],[]⟩),
 (114,⟨[0,1,40,59,3,64,73,4,78,87,2],[(1,34),(3000001,msk)]⟩),
 (115,⟨[0,4,1,9,3,38,2],[]⟩),
 (117,⟨[5,0,1,15,26,4],[(4,8),(3000004,msk)]⟩),
 (120,⟨[0,5,1,4],[]⟩),
 (121,⟨[0,3,2],[]⟩),
 (122,⟨[0,1,3],[(1,10),(3000001,msk)]⟩),
 (123,⟨[1,14,15,19,2,0,25,3,40,55,64,79,4,100,5,115,128,6,142,7,159,174,190,189,191,188,10,12,9],[(7,12),(3000007,msk),(9,12),(3000009,msk),(13,12),(3000013,msk),(15,17),(3000015,msk),(17,11),(3000017,msk),(19,10),(3000019,msk),(21,10),(3000021,msk),(23,14),(3000023,msk),(25,12),(3000025,msk),(27,9),(3000027,msk)]⟩),
 (124,⟨[2,9,14,0,7,1,6],[]⟩),
 (125,⟨[1,0,5,18,28,4],[]⟩),
 (128,⟨[0,10,2,5,6,22,30,7,62,78,3,4],[(8,1000000),(3000008,msk),(12,1000000),(3000012,msk),(16,1000000),(3000016,msk),(5000008,4003),(5000012,7004)]⟩),
 (135,⟨[0,8,7,9,1,5,16,4],[]⟩),
 (136,⟨[0,6,24,23,25,8,10,1,42,41,43,40,9,12,2,13,55,54,56,59,77,14,3,87,4,97,5,121,136,150,160,62,61,63,60,16,7],[(6,8),(3000006,msk),(28,19),(3000028,msk),(30,10),(3000030,msk),(21,8),(3000021,msk)]⟩),
 (145,⟨[0,1,4],[]⟩),
 (148,⟨[0,4,2],[]⟩),
 (155,⟨[0,8,7,9,1,5,16,4],[]⟩),
 (156,⟨[0,8,7,9,1,5,16,4],[]⟩),
 (159,⟨[0,1,4],[]⟩),
 (161,⟨[0,1,4],[]⟩),
 (173,⟨[0,2],[]⟩),
 (174,⟨[5,0,9,1,17,4],[]⟩),
 (175,⟨[0],[]⟩),
 (176,⟨[0,2],[]⟩),
 (177,⟨[0,3,4,8,17,2],[]⟩),
 (178,⟨[0,2],[]⟩),
 (179,⟨[0,2],[]⟩),
 (180,⟨[0,2],[]⟩),
 (181,⟨[0,4,1,9,3,2],[]⟩),
 (182,⟨[0,4,1,9,3,2],[]⟩),
 (183,⟨[0,3,1,8,17,2],[]⟩),
 (194,⟨[4,0,41,45,55,63,3,83,109,112,126,7,74,5,82,6,140,2],[(16,5),(3000016,msk)]⟩),
 (195,⟨[0,1,7],[]⟩),
 (196,⟨[0,28,3,2],[]⟩),
 (197,⟨[0,1,8,4],[]⟩),
 (198,⟨[0,8,3,2],[]⟩),
 (199,⟨[0,19,21,4,3,2],[(7,4),(3000007,msk)]⟩),
 (206,⟨[0,8,7,9,1,5,16,4],[]⟩),
 (210,⟨[0,8,7,9,1,5,16,4],[]⟩),
 (211,⟨[0,8,7,9,1,5,16,4],[]⟩),
 (223,⟨[0,1,4],[]⟩),
 (224,⟨[0,7,3,2],[(3,3),(3000003,msk)]⟩),
 (242,⟨[0,5,2,22],[]⟩),
 (260,⟨[0,10,2,12,24,30,3,6,4,43,51,5],[]⟩),
 (261,⟨[0,21,7,5,6,39,1,68,80,4],[]⟩),
 (267,⟨[0,7,3,15,2],[]⟩),
 (268,⟨[0,1,13,5,25,33,4],[(5,5),(3000005,msk)]⟩),
 (269,⟨[0,2],[]⟩)]
theorem JX:tbB Tryz.prog aj3=true:=by kernel_rfl
end
end Go.Proofs.YtljfgdlgmdcmfaaGreat.Wv
namespace Go.Proofs.YtljfgdlgmdcmfaaGreat
section
open Go.RowKit Wv
def auX:ByteArray:=⟨#[120]⟩
def auA:ByteArray:=⟨#[97]⟩
def auN:Ex:= .mk 1 auX 0 0 (fun _=>0) 0 (fun _=> .nil)
def auR:Ex:= .mk 8 ⟨#[]⟩ 1 0 (fun _=>0) 1 (fun _=>auN)
def auM:Ex:= .mk 10 ⟨#[]⟩ 0 1 (fun _=>1) 1 (fun _=>auR)
def auC (e:Ex):Ci:={name:=⟨#[99]⟩,ni:=1,fi:=fun _=>auX,nl:=1,ln:=fun _=>auA,le:=fun _=>e,no:=1,fo:=fun _=>auA}
theorem agL:okE auN:=⟨by decide,by omega,by omega,fun i hi=>absurd hi (Nat.not_lt_zero i)⟩
theorem Yb:okE auR:=⟨by decide,by omega,by omega,fun _ _=>agL⟩
theorem agM:okE auM:=⟨by decide,by omega,by omega,fun _ _=>Yb⟩
theorem agN {e:Ex} (h:okE e) (hc:eF e≤4611686018427387904):okC (auC e) where
 name:=show 1≤_ by decide
 ni:=show 1≤_ by decide
 nl:=show 1≤_ by decide
 no:=show 1≤_ by decide
 fi:=fun _ _=>show 1≤_ by decide
 fo:=fun _ _=>show 1≤_ by decide
 ln:=fun _ _=>show 1≤_ by decide
 le:=fun _ _=>⟨h,hc⟩
theorem JY {e:Ex} (h:okE e) (hc:eF e≤4611686018427387904):TC Tryz.prog 19 [.g (dA rD), .g (ciC (auC e))] (typeA (iK 0 (auC e) (ruA rD 17))):=
 Ji rD (auC e) (ruA rD 17) ksA 17 0 JG (agN h hc) (fun _ ns=>Xu rD 17 ns (by omega) (by omega) (by decide) (by decide)) (fun _ _=>Xt _ h)
theorem MQ:TC Tryz.prog 28 [.v (.int .i64 8), .v (.int .u32 17), .v (.int .i64 1), .v (.int .i64 1)] (.tup [.g (dA rD), .v (.int .i64 0)]):=
 TC.agt (by kernel_rfl) 1000 100 JF (vM (l:=[]) fun q h=>by cases h) (by kernel_rfl)
def auT:List (FuncId × List AV × AV):=[(19,[.g (dA rD), .g (ciC (auC auR))],typeA (iK 0 (auC auR) (ruA rD 17))),(19,[.g (dA rD), .g (ciC (auC auM))],typeA (iK 0 (auC auM) (ruA rD 17))),
 (60,[.g (dA rD), .v (.int .i64 1)], .tup [.v (.int .i64 17), .v (.int .i64 0)])]
theorem CO (q:List (Bool × Nat) × Int × Int):Clo (typeA q):=by
 unfold typeA;simp only [Wv.BC];exact kX _
theorem OG: ∀ q,q∈auT→TC Tryz.prog q.1 q.2.1 q.2.2∧Clo q.2.2:=fun q h=>by
 simp only [auT,List.mem_cons,List.not_mem_nil,or_false] at h;rcases h with rfl | rfl | rfl
 ·exact ⟨JY Yb (by decide),CO _⟩
 ·exact ⟨JY agM (by decide),CO _⟩
 ·exact ⟨JG,jX _ rfl⟩
def OH (l:List Int):AV:= .t 8 1 (l.map fun z=> .v (.int .i64 z))
def aj6:AV:= .t 4 1 [.v (.int .i64 4), .v (.int .i64 5), .v (.int .i64 6), .v (.int .i64 7)]
theorem Rj:TC Tryz.prog 48 [.g (dA rD), .g (ciC (auC auR)), .t 1 1 [OH [1,2,3,4,5,6,7,8]],aj6] (.tup [.t 1 1 [OH [0,0,0,0,6,7,8,5]], .v (.int .i64 0)]):=
 TC.ajT (by kernel_rfl) 1000 100 JX (vM OG) (by kernel_rfl)
def auO:List (FuncId × List AV × AV):=(48,[.g (dA rD), .g (ciC (auC auR)), .t 1 1 [OH [1,2,3,4,5,6,7,8]],aj6], .tup [.t 1 1 [OH [0,0,0,0,6,7,8,5]], .v (.int .i64 0)])::(28,[.v (.int .i64 8), .v (.int .u32 17), .v (.int .i64 1), .v (.int .i64 1)], .tup [.g (dA rD), .v (.int .i64 0)])::auT
theorem ab7: ∀ q,q∈auO→TC Tryz.prog q.1 q.2.1 q.2.2∧Clo q.2.2:=fun q h=>by
 rcases List.mem_cons.1 h with rfl | h
 ·exact ⟨Rj,jX _ rfl⟩
 rcases List.mem_cons.1 h with rfl | h
 ·exact ⟨MQ, .tup (List.forall_mem_cons.2 ⟨.g (dY rD),List.forall_mem_cons.2 ⟨.v _,fun _ h=>by cases h⟩⟩)⟩
 ·exact OG q h
theorem MR:TC Tryz.prog 46 [] (.v (.bool true)):=
 TC.agt (by kernel_rfl) 1000 100 JX (vM ab7) (by kernel_rfl)
end
section
open Go.RowKit Wv
def b38 (x:Par) (c:Ci) (n:Nat):Bool:=decide ((x.ch.length:Int)>100) || (Aw c 10000 || (xZ x.p c || decide ((n:Int)>100)))
theorem Rk (x:Par) (hx:nM x) (c:Ci) (h:Fj c) (n:Nat) (f:Nat→Int) (hn:n≤140737488351232):TC Tryz.prog 47 [.g (dA x), .g (ciC c),roA n f] (.v (.bool (b38 x c n))):=by
 have TB:=KU c h 10000 (by omega) (by omega);have hCg:=uS c;have hPg:Clo (.g (dA x)):= .g (dY x);have hpp:=hx.p1;obtain ⟨CH,hCH⟩: ∃ CH,CH=x.ch.map fun (c:Nat)=>AV.v (.int .u32 c):=⟨_,rfl⟩
 have hP7:dA x=[.v (.int .i64 x.n), .v (.int .u32 x.p), .v (.int .i64 x.r), .t x.ch.length 1 CH, .v (.int .u32 x.sp), .v (.int .i64 x.wt), .v (.int .u32 x.er)]:=by rw [hCH];rfl
 have hB:b38 x c n=(decide ((x.ch.length:Int)>100) || (Aw c 10000 || (xZ x.p c || decide ((n:Int)>100)))):=rfl;have TH:=fun (hb:Aw c 10000=false)=>by
  obtain ⟨hok,hnl,hcn⟩:=VY h (by omega) (by omega) hb;exact Ql (dA x) (dY x) x.p _ _ _ _ _ _ hP7 (by omega) c h hnl fun i hi=>by have:=hcn i hi;omega
 generalize b38 x c n=B at*;refine Wv.TC.by 25 [0,1,3,4,2,6] [] [.tmp 6] Tryz.func47 rfl rfl rfl ?clo ?_
 case clo=>simp only [Wv.BC]
 rw [hP7] at hPg TH ⊢;unfold ciC cZ roA at*;by_cases ab8:(x.ch.length:Int)>100
 ·rw [ah ab8,Bool.true_or] at hB;subst hB;simp (disch:=first|exact Wv.D|fail) only [Wv.B,simprocAttr,ah ab8]
 rw [aj ab8,Bool.false_or] at hB;simp (disch:=first|exact Wv.D|fail) only [Wv.B,simprocAttr,aj ab8];refine aA TB rfl (KR hCg (.v _)) Wv.c ?_;cases hb:Aw c 10000 with
 | true=>
  rw [hb,Bool.true_or] at hB;subst hB;exact Wv.V
 | false=>
 rw [hb,Bool.false_or] at hB;have TH:=TH hb;generalize xZ x.p c=hv at*;refine Wv.W ?_;refine aA TH rfl (KR hPg hCg) Wv.c ?_;cases hv with
 | true=>
  rw [Bool.true_or] at hB;subst hB;exact Wv.V
 | false=>
 rw [Bool.false_or] at hB;by_cases hn1:(n:Int)>100
 ·rw [ah hn1] at hB;subst hB;simp (disch:=first|exact Wv.D|fail) only [Wv.B,simprocAttr,ah hn1]
 ·rw [aj hn1] at hB;subst hB;simp (disch:=first|exact Wv.D|fail) only [Wv.B,simprocAttr,aj hn1]
variable {N:Nat}
theorem agO {c:Ci} (hN:4≤N) (h2:N % 2=0) (hg:goD c) (j:Nat) (hj:j<N):ndF N c j<2 ^ N:=
 wP (Nat.two_pow_pos N) fun q _=>FV hN h2 (Lr hN h2 c.nl fun i hi=>(hg.1 i hi).2).lt (naX _) (Lp _) j hj
theorem Yc {V:Nat→Nat} {S A:Nat} (h:JI V N S A) (hN:N≤32):JI V N (sF (slF A) (lsN A 32).length) A:=by
 rw [ajV hN h.lt];exact ⟨fun _ h=>h,h.clo,h.lt,fun B h _=>h⟩
theorem NG {V:Nat→Nat} {A:Nat} {f:Nat→Int} (h:JI V N (sF f 0) A):(lsN A 32).length=0:=by
 have h0:A=0:=Nat.le_antisymm (h.min 0 (dQ.zero _) fun j hj=>(by rw [Nat.zero_testBit] at hj;cases hj)).le (Nat.zero_le _);subst h0;exact (by decide+kernel:(lsN 0 32).length=0)
end
section
open Go.RowKit
theorem qA (n:Int) (t q:Nat) (w:World) (hn4:4≤n) (hn:n≤32) (ht0:0<t) (ht:t≤2147483647) (hq:q<4294967296):
  Calls Tryz.prog 127 #[.int .i64 n, .int .i64 t, .int .u32 q] w fun r w'=>r= .returned (.bool (dD aB ((2*n).toNat*t) q))∧w'=w:=
 (wM n t q w hn4 hn ht0 ht hq).mono fun _ _ ⟨h1,h2⟩=>⟨h1,h2.symm⟩
theorem xE {pr:Nat→Bool} {x:Par} (h:iC x.n=false∨mQ x.ch.length=false∨wtB x=false∨ ¬ 0<x.t pr∨dD pr (stepOf pr x) x.sp=false∨(∃ q,q∈x.ch∧jf pr (stepOf pr x) x.sp q=true)∨ ¬ x.ch.Nodup):chk pr x=2:=by
 have:okB pr x=false:=by
  rw [lg];rcases h with h | h | h | h | h | ⟨q,hq,h⟩ | h
  ·rw [h];rfl
  ·unfold conds;rw [h];simp
  ·unfold conds;rw [h];simp
  ·unfold conds;rw [aj h];simp
  ·unfold conds;rw [h];simp
  ·have:x.ch.any (jf pr (stepOf pr x) x.sp)=true:=List.any_eq_true.2 ⟨q,hq,h⟩;unfold conds;rw [this];simp
  ·unfold conds;rw [aj h];simp
 unfold chk;rw [this];rfl
theorem ab9 {pr:Nat→Bool} {x:Par} (h1:iC x.n=true) (h2:mQ x.ch.length=true) (h3:wtB x=true) (h4:0<x.t pr) (h5:dD pr (stepOf pr x) x.sp=true)
  (h6: ∀ q,q∈x.ch→jf pr (stepOf pr x) x.sp q=false) (h7:x.ch.Nodup):chk pr x=0:=by
 have:okB pr x=true:=by
  have hb:x.ch.any (jf pr (stepOf pr x) x.sp)=false:=by
   rw [List.any_eq_false];intro q hq;rw [h6 q hq];simp
  rw [lg,h1];unfold conds;rw [h2,h3,h5,hb,ah h4,ah h7];rfl
 unfold chk;rw [this];rfl
theorem MS {l:List Nat} {i:Nat} (hi:i<l.length) (h:(l.take i).Nodup) (hne: ∀ j (hj:j<i),l[j]'(by omega)≠l[i]):(l.take (i+1)).Nodup:=by
 rw [List.take_succ_eq_append_getElem hi,List.nodup_append];refine ⟨h,by simp,?_⟩;intro a ha b hb;simp at hb;subst hb;obtain ⟨j,hj,rfl⟩:=List.mem_iff_getElem.1 ha;rw [List.getElem_take];exact hne j (by simp at hj;omega)
theorem agP {l:List Nat} {i j:Nat} (hi:i<l.length) (hj:j<i) (h:l[j]'(by omega)=l[i]): ¬ l.Nodup:=by
 intro hn;exact (List.pairwise_iff_getElem.1 hn) j i (by omega) hi hj h
theorem oM (x:Par) (p:Option Addr) (cap:Nat) (w:World) (h:iC x.n=false∨mQ x.ch.length=false∨wtB x=false):
  Calls Tryz.prog 83 #[x.val (.slice p x.ch.length cap)] w fun r w'=>r= .returned (.int .i64 (chk aB x))∧Below w.heap.size w w':=by
 have hR:Hid (chk aB x=2):=xE (by rcases h with h | h | h<;>simp [h]);have call:=fun wx=>(I7 x.n wx)
 have CALL:=Lib.hid call;clear call;unfold Par.val;cases hd:iC x.n with
 | false=>
  clear h;go_enter Tryz.func83,Tryz.ntmps83
  go_wp2_with fail
  refine (CALL.out _).mono ?_;rintro e w1 ⟨rfl,rfl⟩;rw [hd];go_wp2_with fail
  go_ret
  exact ⟨aX (by rw [hR.out]),(Below.refl _ _).alloc (Nat.le_refl _) _⟩
 | true=>
  by_cases l1:1≤x.ch.length
  case neg=>
   have d1:decide ((x.ch.length:Int)<1)=true:=ah (by omega);clear h;go_enter Tryz.func83,Tryz.ntmps83
   go_wp2_with fail
   refine (CALL.out _).mono ?_;rintro e w1 ⟨rfl,rfl⟩;rw [hd];go_wp2_with fail
   go_ret
   exact ⟨aX (by rw [hR.out]),(Below.refl _ _).alloc (Nat.le_refl _) _⟩
  have d1:decide ((x.ch.length:Int)<1)=false:=aj (by omega);by_cases l2:x.ch.length≤24
  case neg=>
   have d2:decide ((24:Int)<x.ch.length)=true:=ah (by omega);clear h;go_enter Tryz.func83,Tryz.ntmps83
   go_wp2_with fail
   refine (CALL.out _).mono ?_;rintro e w1 ⟨rfl,rfl⟩;rw [hd];go_wp2_with fail
   go_ret
   exact ⟨aX (by rw [hR.out]),(Below.refl _ _).alloc (Nat.le_refl _) _⟩
  have d2:decide ((24:Int)<x.ch.length)=false:=aj (by omega);have hw3:wtB x=false:=by
   rcases h with h | h | h
   ·rw [h] at hd;simp at hd
   ·unfold mQ at h;simp at h;omega
   ·exact h
  clear h;by_cases m1:x.wt<1
  ·have e1:decide (x.wt<1)=true:=ah m1;clear hw3;go_enter Tryz.func83,Tryz.ntmps83
   go_wp2_with fail
   refine (CALL.out _).mono ?_;rintro e w1 ⟨rfl,rfl⟩;rw [hd];go_wp2_with fail
   go_ret
   exact ⟨aX (by rw [hR.out]),(Below.refl _ _).alloc (Nat.le_refl _) _⟩
  have e1:decide (x.wt<1)=false:=aj m1;by_cases m2:x.n<x.wt
  ·have e2:decide (x.n<x.wt)=true:=ah m2;clear hw3;go_enter Tryz.func83,Tryz.ntmps83
   go_wp2_with fail
   refine (CALL.out _).mono ?_;rintro e w1 ⟨rfl,rfl⟩;rw [hd];go_wp2_with fail
   go_ret
   exact ⟨aX (by rw [hR.out]),(Below.refl _ _).alloc (Nat.le_refl _) _⟩
  have e2:decide (x.n<x.wt)=false:=aj m2;have e3:decide ((64:Int)<x.er)=true:=by
   apply ah;unfold wtB at hw3;have:=of_decide_eq_false hw3;omega
  clear hw3;go_enter Tryz.func83,Tryz.ntmps83
  go_wp2_with fail
  refine (CALL.out _).mono ?_;rintro e w1 ⟨rfl,rfl⟩;rw [hd];go_wp2_with fail
  go_ret
  exact ⟨aX (by rw [hR.out]),(Below.refl _ _).alloc (Nat.le_refl _) _⟩
theorem JZ (x:Par) (b off cap:Nat) (w:World) (hx:nM x) (hr:rO w b off x.ch) (hd:iC x.n=true) (hl:mQ x.ch.length=true) (hw:wtB x=true):
  Calls Tryz.prog 83 #[x.val (.slice (some ⟨b,off,none⟩) x.ch.length cap)] w fun r w'=>r= .returned (.int .i64 (chk aB x))∧Below w.heap.size w w':=by
 obtain ⟨l1,l2⟩:=of_decide_eq_true hl;obtain ⟨m1,m2,m3⟩:=of_decide_eq_true hw;have HL:=Lib.hid hl;have HW:=Lib.hid hw;clear hl hw;have hn4:4≤x.n∧x.n≤32:=by have:=lW hd;omega
 obtain ⟨hn4,hn32⟩:=hn4;unfold Par.val;go_enter Tryz.func83,Tryz.ntmps83
 go_wp2_with fail
 refine (I7 _ _).mono ?_;rintro e w1 ⟨rfl,rfl⟩;rw [hd];go_wp2_with fail
 refine (AY _ _ _ _ hn4 hn32 hx.p1 hx.r0 hx.r1).mono ?_;rintro e w1 ⟨rfl,rfl⟩;have htl:=Fp aB x.n x.p x.r;have hT:Hid (x.t aB=gJ aB x.n x.p x.r):=rfl;generalize gJ aB x.n x.p x.r=t at htl hT ⊢;by_cases t0:t=0
 ·have hR:Hid (chk aB x=2):=xE (by rw [hT.out,t0];simp);have e0:((t:Int)==0)=true:=beq_iff_eq.2 (by omega);clear t0;go_wp2_with fail
  go_ret
  exact ⟨aX (by rw [hR.out]),(Below.refl _ _).alloc (Nat.le_refl _) _⟩
 have e0:((t:Int)==0)=false:=beq_eq_false_iff_ne.2 (by omega);have hst:Hid (stepOf aB x=(2*x.n).toNat*t):=by show _=_;unfold stepOf;rw [hT.out]
 have tpos:0<t:=by omega
 have htp:Hid (0<x.t aB):=by show _<_;rw [hT.out];exact tpos
 clear t0;cases hg:dD aB ((2*x.n).toNat*t) x.sp with
 | false=>
  have hR:Hid (chk aB x=2):=xE (by rw [hst.out,hg];simp);go_wp2_with (go_at_call 127;refine (wM _ _ _ _ hn4 hn32 tpos htl hx.sp1).mono ?_;rintro e w1 ⟨rfl,rfl⟩;rw [hg])
  go_ret
  exact ⟨aX (by rw [hR.out]),(Below.refl _ _).alloc (Nat.le_refl _) _⟩
 | true=>
  have HG:=Lib.hid hg;go_wp2_with (go_at_call 127;refine (wM _ _ _ _ hn4 hn32 tpos htl hx.sp1).mono ?_;rintro e w1 ⟨rfl,rfl⟩;rw [hg])
  clear hg;have hB:tH (w.alloc (.cells #[.int .i64 x.n, .int .u32 x.p, .int .i64 x.r, .slice (some ⟨b,off,none⟩) x.ch.length cap, .int .u32 x.sp, .int .i64 x.wt, .int .u32 x.er] 25)) w.heap.size x (.slice (some ⟨b,off,none⟩) x.ch.length cap):=by
   constructor<;>simp [go_sem]
  have hbW:Below w.heap.size w (w.alloc (.cells #[.int .i64 x.n, .int .u32 x.p, .int .i64 x.r, .slice (some ⟨b,off,none⟩) x.ch.length cap, .int .u32 x.sp, .int .i64 x.wt, .int .u32 x.er] 25)):=(Below.refl _ _).alloc (Nat.le_refl _) _;have hsW:w.heap.size<(w.alloc (.cells #[.int .i64 x.n, .int .u32 x.p, .int .i64 x.r, .slice (some ⟨b,off,none⟩) x.ch.length cap, .int .u32 x.sp, .int .i64 x.wt, .int .u32 x.er] 25)).heap.size:=by simp
  generalize w.alloc (.cells #[.int .i64 x.n, .int .u32 x.p, .int .i64 x.r, .slice (some ⟨b,off,none⟩) x.ch.length cap, .int .u32 x.sp, .int .i64 x.wt, .int .u32 x.er] 25)=W at hB hbW hsW ⊢;have hrW:=hr.below hbW hr.blk;have HB:=Lib.hid hB;clear hB;go_loopw [4,5] (fun vi _ wr=> ∃ i:Nat,vi= .int .i64 i∧i≤x.ch.length∧Hid (∀ j (hj:j<i) (hj2:j<x.ch.length),jf aB ((2*x.n).toNat*t) x.sp x.ch[j]=false)∧Hid ((x.ch.take i).Nodup)∧Below W.heap.size W wr) (fun vi _ _=>x.ch.length - (intOf vi).toNat)
  case atStart=>exact ⟨0,rfl,by omega,by intro j hj;omega,by simp [Hid],Below.refl _ _⟩
  case round=>
   obtain ⟨i,rfl,hi,hgd,hnd,hbel⟩:=hrel;have hB:=HB.out.below hbel hsW;have k0:=hB.n;have k3:=hB.ch;have k4:=hB.sp;clear hB;by_cases hlt:i<x.ch.length
   ·have hq:=hr.rng x.ch[i] (List.getElem_mem hlt);have hci:=(hrW.below hbel hrW.blk).cell i hlt;obtain ⟨q,hqe⟩: ∃ q,q=x.ch[i]:=⟨_,rfl⟩
    rw [←hqe] at hq hci;have HQ:=Lib.hid hqe;clear hqe;have i0:(0:Int)≤i:=by omega
    have i1:(i:Int)<x.ch.length:=by omega
    cases hg:dD aB ((2*x.n).toNat*t) q with
    | false=>
     have hR:Hid (chk aB x=2):=xE (by
      right;right;right;right;right;left;exact ⟨x.ch[i],List.getElem_mem hlt,by rw [hst.out, ←HQ.out];unfold jf;rw [hg];simp⟩)
     go_wp2_with fail
     go_quiet ((go_at_call 127;exact Calls.quiet_of_same (qA _ _ _ _ hn4 hn32 tpos htl hq)))
     go_wp2_with fail
     go_ret
     exact ⟨aX (by rw [hR.out]),hbW.trans ((below_drewN hbel _).mono (by omega))⟩
    | true=>
     by_cases hsp:q<x.sp
     case neg=>
      have s1:decide ((x.sp:Int)≤q)=true:=ah (by omega);have s2:decide (x.sp≤q)=true:=ah (by omega);have hR:Hid (chk aB x=2):=xE (by
       right;right;right;right;right;left;exact ⟨x.ch[i],List.getElem_mem hlt,by rw [←HQ.out];unfold jf;rw [aj hsp];simp⟩)
      go_wp2_with fail
      go_quiet ((go_at_call 127;exact Calls.quiet_of_same (qA _ _ _ _ hn4 hn32 tpos htl hq)))
      go_wp2_with fail
      go_ret
      exact ⟨aX (by rw [hR.out]),hbW.trans ((below_drewN hbel _).mono (by omega))⟩
     have s1:decide ((x.sp:Int)≤q)=false:=aj (by omega);have s2:decide (x.sp≤q)=false:=aj (by omega);have hgd':Hid (∀ j (hj:j<i+1) (hj2:j<x.ch.length),jf aB ((2*x.n).toNat*t) x.sp x.ch[j]=false):=by
      intro j hj hj2;by_cases e:j=i
      ·subst e;rw [←HQ.out];unfold jf;rw [hg,ah hsp];rfl
      ·exact hgd.out j (by omega) hj2
     clear hgd;go_wp2_with fail
     go_quiet ((go_at_call 127;exact Calls.quiet_of_same (qA _ _ _ _ hn4 hn32 tpos htl hq)))
     go_wp2_with fail
     have acX:=below_drewN hbel nq;clear hbel hg;generalize wr.drewN nq=wr2 at acX ⊢;go_loopw [5] (fun vk w2=> ∃ k:Nat,vk= .int .i64 k∧k≤i∧Hid (∀ j (hj:j<k) (hj2:j<x.ch.length),x.ch[j]≠q)∧Below W.heap.size W w2) (fun vk _=>i - (intOf vk).toNat)
     case atStart=>exact ⟨0,rfl,by omega,by intro j hj;omega,acX⟩
     case round=>
      obtain ⟨k,rfl,hk,hne,EI⟩:=hrel;have hB3:=HB.out.below EI hsW;have j3:=hB3.ch;clear hB3;by_cases hlk:k<i
      ·have hck:=(hrW.below EI hrW.blk).cell k (by omega);have alb:=(hrW.below EI hrW.blk).cell i (by omega);rw [←HQ.out] at alb;obtain ⟨qk,hqk⟩: ∃ q,q=x.ch[k]:=⟨_,rfl⟩
       rw [←hqk] at hck;have HQK:=Lib.hid hqk;clear hqk;have k0:(0:Int)≤k:=by omega
       have k1:(k:Int)<x.ch.length:=by omega
       by_cases he:qk=q
       ·have e1:((qk:Int)==(q:Int))=true:=beq_iff_eq.2 (by omega);have hR:Hid (chk aB x=2):=xE (by
         right;right;right;right;right;right;exact agP hlt hlk (by rw [←HQK.out, ←HQ.out];exact he))
        clear he;go_wp2_with fail
        go_quiet (fail)
        go_wp2_with fail
        go_ret
        exact ⟨aX (by rw [hR.out]),hbW.trans ((below_drewN EI _).mono (by omega))⟩
       ·have e1:((qk:Int)==(q:Int))=false:=beq_eq_false_iff_ne.2 (by omega);have hne':Hid (∀ j (hj:j<k+1) (hj2:j<x.ch.length),x.ch[j]≠q):=by
         intro j hj hj2;by_cases e:j=k
         ·subst e;rw [←HQK.out];exact he
         ·exact hne.out j (by omega) hj2
        clear hne he;go_wp2_with fail
        go_quiet (fail)
        go_wp2_with fail
        go_roundw
        case rel=>exact ⟨k+1,by go_num,by omega,hne',below_drewN EI _⟩
        case measure=>simp [intOf];omega
      ·have hnd':Hid ((x.ch.take (i+1)).Nodup):=MS hlt hnd.out (fun j hj=>by rw [←HQ.out];exact hne.out j (by omega) (by omega));clear hnd hne;go_wp2_with fail
       go_roundw
       case rel=>exact ⟨i+1,by go_num,by omega,hgd',hnd',EI⟩
       case measure=>simp [intOf];omega
   ·obtain rfl:i=x.ch.length:=by omega
    have hR:Hid (chk aB x=0):=ab9 hd HL.out HW.out htp.out (by rw [hst.out];exact HG.out) (by
      intro q hq;obtain ⟨j,hj,rfl⟩:=List.mem_iff_getElem.1 hq;rw [hst.out];exact hgd.out j hj hj) (by have:=hnd.out;rwa [List.take_length] at this)
    clear hgd hnd;go_wp2_with fail
    go_ret
    exact ⟨aX (by rw [hR.out]),hbW.trans (hbel.mono (by omega))⟩
theorem oN (x:Par) (cv:Value) (w:World) (hx:nM x) (hcv:SliceAt w cv x.ch):
  Calls Tryz.prog 83 #[x.val cv] w fun r w'=>r= .returned (.int .i64 (chk aB x))∧Below w.heap.size w w':=by
 obtain ⟨p,cap,rfl,hcap,hcap2,hrow⟩:=hcv;cases hd:iC x.n with
 | false=>exact oM x p cap w (.inl hd)
 | true=>
  cases hl:mQ x.ch.length with
  | false=>exact oM x p cap w (.inr (.inl hl))
  | true=>
   cases hw:wtB x with
   | false=>exact oM x p cap w (.inr (.inr hw))
   | true=>
    have hne:x.ch≠[]:=by
     intro h;have:=of_decide_eq_true hl;rw [h] at this;simp at this
    obtain ⟨b,off,rfl,hr⟩:=hrow hne;exact JZ x b off cap w hx hr hd hl hw
end
section
structure RD where
 r:Nat
 b1:Nat
 s1:Bool
 b2:Nat
 s2:Bool
 b3:Nat
 s3:Bool
def num (b:Nat) (s:Bool) (o:Nat):Nat:=cond s (b ^ o+1) (b ^ o - 1)
def gG (D:RD) (o:Nat):Nat:=Nat.gcd (Nat.gcd (num D.b1 D.s1 o) (num D.b2 D.s2 o)) (num D.b3 D.s3 o)
def Yd (D:RD) (o q:Nat):Bool:=cond (Nat.beq (D.b1 ^ o % q) (sg D.s1 q)) (cond (Nat.beq (D.b2 ^ o % q) (sg D.s2 q)) (Nat.beq (D.b3 ^ o % q) (sg D.s3 q)) false) false
def bad (n:Nat):Bool:=cond (SPk 2 n) (cond (SPk 7 n) (cond (SPk 61 n) false true) true) true
def l9 (n:Nat):Bool:=cond (Nat.ble 2147483648 n) true (bad n)
def allT (n:Nat) (f:Nat→Bool):Bool:=Nat.rec true (fun k ih=>cond (f k) ih false) n
theorem jU (f:Nat→Bool): ∀ n,allT n f=true→ ∀ k,k<n→f k=true:=by
 intro n;induction n with
 | zero=>intro _ k hk;omega
 | succ n ih=>
  intro h k hk;have e:allT (n+1) f=cond (f n) (allT n f) false:=rfl;rw [e] at h;cases hf:f n with
  | false=>rw [hf] at h;cases h
  | true=>
   rw [hf] at h;by_cases hkn:k=n
   ·rw [hkn];exact hf
   ·exact ih h k (by omega)
def allM (m:Nat) (f:Nat→Bool):Bool:=allT m fun hi=>allT 1000 fun lo=>f (hi*1000+lo)
theorem EJ (f:Nat→Bool) (m:Nat) (h:allM m f=true) (k:Nat) (hk:k<m*1000):f k=true:=by
 have h1:=jU _ m h (k / 1000) (by omega);have h2:=jU _ 1000 h1 (k % 1000) (by omega);have:k / 1000*1000+k % 1000=k:=by omega
 rw [this] at h2;exact h2
def oO (f:Nat) (fuel:Nat):Nat→Nat:=Nat.rec (fun g=>g) (fun _ ih g=>cond (Nat.beq (g % f) 0) (force (g / f) ih) g) fuel
theorem MV {f q:Nat} (hq:Pr q) (hf:0<f) (hfq:f<q): ∀ fuel g,q∣g→q∣oO f fuel g:=by
 intro fuel;induction fuel with
 | zero=>intro g h;exact h
 | succ n ih=>
  intro g h;have e:oO f (n+1) g=cond (Nat.beq (g % f) 0) (oO f n (g / f)) g:=by
   show cond _ (force _ _) _=_;rw [force_eq];rfl
  rw [e];cases hb:Nat.beq (g % f) 0 with
  | false=>exact h
  | true=>
   have h0:g % f=0:=Nat.eq_of_beq_eq_true hb;apply ih;have hg:g=f*(g / f):=by have:=Nat.div_add_mod g f;omega
   rw [hg] at h;exact hq.tu h (fun hc=>by have:=Nat.le_of_dvd hf hc;omega)
theorem MW {f:Nat}: ∀ fuel g,0<g→0<oO f fuel g:=by
 intro fuel;induction fuel with
 | zero=>intro g h;exact h
 | succ n ih=>
  intro g h;have e:oO f (n+1) g=cond (Nat.beq (g % f) 0) (oO f n (g / f)) g:=by
   show cond _ (force _ _) _=_;rw [force_eq];rfl
  rw [e];cases hb:Nat.beq (g % f) 0 with
  | false=>exact h
  | true=>
   have h0:g % f=0:=Nat.eq_of_beq_eq_true hb;apply ih;have hg:g=f*(g / f):=by have:=Nat.div_add_mod g f;omega
   rcases Nat.eq_zero_or_pos (g / f) with hz | hz
   ·rw [hz] at hg;omega
   ·exact hz
def strip:List Nat→Nat→Nat
 | [],g=>g
 | f::l,g=>force (oO f 8 g) (strip l)
theorem Rl {q:Nat} (hq:Pr q): ∀ (l:List Nat) (g:Nat),(∀ f,f∈l→0<f∧f<q)→q∣g→q∣strip l g:=by
 intro l;induction l with
 | nil=>intro g _ h;exact h
 | cons f l ih=>
  intro g hl h;have e:strip (f::l) g=strip l (oO f 8 g):=by show force _ _=_;rw [force_eq]
  rw [e];have:=hl f (by simp);exact ih _ (fun f hf=>hl f (by simp [hf])) (MV hq this.1 this.2 8 g h)
theorem Ro: ∀ (l:List Nat) (g:Nat),0<g→0<strip l g:=by
 intro l;induction l with
 | nil=>intro g h;exact h
 | cons f l ih=>
  intro g h;have e:strip (f::l) g=strip l (oO f 8 g):=by show force _ _=_;rw [force_eq]
  rw [e];exact ih _ (MW 8 g h)
def agQ (D:RD) (l:List Nat) (k:Nat):Bool:=
 cond (Nat.ble k 1) true (force (iH (k - 1)) fun o=>force (gG D o) fun G=>cond (Nat.ble G 32768) true
  (force (strip l G) fun R=>allT (R / 32768) fun m=>cond (Nat.beq (R % (m+1)) 0) (force (R / (m+1)*k) l9) true))
def allA (D:RD) (l:List Nat):Bool:=allM 66 fun k=>cond (Nat.beq (k % D.r) 0) (cond (Nat.beq (k % 2) 1) (agQ D l k) true) true
def fF (x q:Nat):Bool:=cond (Nat.beq (2 ^ x % q) 1) (cond (Nat.beq (7 ^ x % q) 1) (Nat.beq (61 ^ x % q) 1) false) false
def Ye (q:Nat) (c:Nat):Nat:=Nat.rec 1 (fun c ih=>cond (Nat.beq ((q - 1) % (c+1)) 0) (cond (fF ((q - 1) / (c+1)) q) (c+1) ih) ih) c
def minimal (L q:Nat):Bool:=
 cond (fF L q) (allT 181 fun d=>cond (Nat.beq (L % (d+1)) 0)
  (cond (cond (Nat.beq d 0) true (cond (fF (L / (d+1)) q) false true)) (cond (Nat.beq (d+1) L) true (cond (fF (d+1) q) false true)) false) true) false
def agR (D:RD) (q:Nat):Bool:=
 cond (Yd D (iH (q - 1)) q) (force ((q - 1) / Ye q 30) fun L=>cond (cond (Nat.ble L 32768) (minimal L q) false) (allT (2147483647 / q / L+1) fun j=>
  force (1+L*j) fun k=>cond (Nat.beq (k % D.r) 0) (force (q*k) l9) true) false) true
def allB (D:RD):Bool:=allM 33 fun q=>cond (Nat.ble q 300) true (cond (Nat.ble 32769 q) true (cond (Nat.beq (q % 2) 1) (agR D q) true))
def subs:List Nat→List Nat
 | []=>[1]
 | q::l=>subs l++(subs l).map (q* ·)
def MX (D:RD) (small:List Nat):Bool:=
 (allT 301 fun q=>cond (Nat.beq (q % 2) 1) (cond (Nat.ble q 2) true (cond (Yd D (iH (q - 1)) q) (small.any (Nat.beq q)) true)) true) &&
 (small.all fun q=>Nat.beq (2 ^ (q*(q - 1)) % (q*q)) 1 && !(Nat.beq (2 ^ (q - 1) % (q*q)) 1)) &&
 ((subs small).all fun n=>cond (Nat.beq (n % D.r) 0) (cond (Nat.beq n D.r) true (l9 n)) true)
def rd3:RD:=⟨3,2,true,7,false,61,false⟩
def Yf:List Nat:=[3,19,83,131,283,563,619,691,859,971,1123,1259,1459,1483,1571,1627,1699,1811,1907,1979,2099,2131,2243,2467,2659,2803,2819,3163,3307,3491,3499,3547,3659,3779,3923,4051,4091,4283,4651,4987,5003,5011,5059,5099,5171,5227,5323,5563,5659,5843,5851,5939,6299,6691,6907,7019,7027,7243,7307,7451,7507,7523,7691,7699,8011,8147,8179,8291,8419,8539,8707,8867,8963,9043,9467,9491,9883,9931,10099,10139,10267,10331,10531,10723,10867,10883,10939,10979,11443,11483,11731,12227,12323,12347,12379,12491,12547,12907,13163,13411,13523,13691,13859,13907,14411,14563,14747,14843,14923,15083,15259,15307,15643,15739,15907,16091,16187,16267,16547,16763,16883,16931,17099,17107,17419,17443,17491,17827,17939,18059,18427,18539,18731,18787,19211,19267,19379,19403,19507,19603,19739,19963,20011,20347,20627,21059,21187,21227,21467,22067,22091,22123,22147,22307,22531,22571,22643,22651,22739,22811,22963,23099,23131,23603,24043,24083,24107,24251,24419,24547,24659,25147,25171,25667,25819,26099,26227,26339,26347,26459,26731,27011,27179,27611,27691,27739,27803,27947,28019,28307,28411,28643,28867,28979,29027,29363,29483,29851,30211,30259,30427,30491,30539,30763,30931,31219,31307,31379,31643,31723,31883,31891,32003,32059,32203,32371,32443]
def agS:List Nat:=[3,19,83,131,283]
theorem a3:allA rd3 Yf=true:=by decide+kernel
theorem b3:allB rd3=true:=by decide+kernel
theorem c3:MX rd3 agS=true:=by decide+kernel
def rd5:RD:=⟨5,4,true,49,true,61,false⟩
def Yg:List Nat:=[5,13,229,269,733,797,853,1181,1277,2309,2693,2749,3461,3533,3709,3877,4133,4373,4597,4861,5381,5669,5869,6173,6709,7573,7621,7789,8221,8501,8581,9029,9677,9901,10253,10853,11093,11549,11941,12277,12829,12941,13093,13789,13933,14437,14461,14717,15053,15277,15413,15629,15973,16229,16253,16421,16901,17093,17909,17981,18133,18413,18541,18749,18773,19141,19157,19661,20149,20261,20389,20509,21773,22109,22189,22853,22861,23917,23957,24197,24373,24709,24889,25189,25693,26501,26813,26981,27109,27653,27733,28069,28181,28229,28573,28661,28789,28793,29021,29077,29581,29917,30133,30253,30509,30637,30757,31013,31237,31541,32213]
def agT:List Nat:=[5,13,229,269]
theorem a5:allA rd5 Yg=true:=by decide+kernel
theorem b5:allB rd5=true:=by decide+kernel
theorem c5:MX rd5 agT=true:=by decide+kernel
def MZ:RD:=⟨11,2,true,7,true,61,true⟩
def OI:List Nat:=[11,43,67,211,331,499,547,739,883,907,947,1019,1187,1283,1499,1523,1579,1619,1787,2003,2011,2179,2251,2339,2347,2531,2843,2963,3019,3067,3203,3259,3347,3467,3571,3691,3739,3803,3851,4019,4211,4363,4547,4603,4643,4691,5107,5147,5419,5483,5867,5923,6211,6323,6379,6619,6659,6763,6841,6883,6899,7043,7219,7331,7459,7547,7723,7907,7963,8059,8243,8387,8563,8731,8747,9011,9059,9283,9587,9739,9811,9851,10067,10091,10259,10459,10651,10987,11131,11491,11579,11827,11867,11923,11939,12107,12163,12251,13003,13043,13147,13267,13451,13763,13931,14051,14683,14779,14851,14891,14939,14947,15107,15187,15227,15443,15451,15667,15731,15971,16067,16139,16843,16979,17011,17033,17123,17291,17467,17483,17539,17579,17627,17683,17707,17971,17987,18211,18307,18379,18523,18587,18859,18979,19259,19387,19427,19483,19531,19819,19979,20147,20323,20507,20563,20707,20771,20899,21211,21379,21611,21683,21739,22003,22051,22171,22283,23003,23027,23251,23291,23339,23459,23563,24179,24371,24851,24859,25243,25307,25411,25603,25643,25771,26251,26387,26891,27091,27259,27427,27539,27763,27827,27883,28123,28211,28219,28403,28571,28603,28627,28723,28771,29059,29243,29339,29611,29803,30307,30347,30643,31019,31147,31627,31859,32027,32251,32299,32323,32363,32531,32603]
def acd:List Nat:=[11,43,67,211]
theorem a11:allA MZ OI=true:=by decide+kernel
theorem b11:allB MZ=true:=by decide+kernel
theorem c11:MX MZ acd=true:=by decide+kernel
def Na:RD:=⟨13,4,true,49,true,61,false⟩
def OJ:List Nat:=[5,13,229,269,733,797,853,1181,1277,2309,2693,2749,3461,3533,3709,3877,4133,4373,4597,4861,5381,5669,5869,6173,6709,7573,7621,7789,8221,8501,8581,9029,9677,9901,10253,10853,11093,11549,11941,12277,12829,12941,13093,13789,13933,14437,14461,14717,15053,15277,15413,15629,15973,16229,16253,16421,16901,17093,17909,17981,18133,18413,18541,18749,18773,19141,19157,19661,20149,20261,20389,20509,21773,22109,22189,22853,22861,23917,23957,24197,24373,24709,24889,25189,25693,26501,26813,26981,27109,27653,27733,28069,28181,28229,28573,28661,28789,28793,29021,29077,29581,29917,30133,30253,30509,30637,30757,31013,31237,31541,32213]
def ace:List Nat:=[5,13,229,269]
theorem a13:allA Na OJ=true:=by decide+kernel
theorem b13:allB Na=true:=by decide+kernel
theorem c13:MX Na ace=true:=by decide+kernel
end
section
structure Pass (n:Nat):Prop where
 lo:3≤n
 hi:n<2147483648
 odd:n % 2=1
 n7: ¬ 7∣n
 n61: ¬ 61∣n
 p2:SP 2 n=true
 p7:SP 7 n=true
 p61:SP 61 n=true
variable {n:Nat}
theorem Pass.GU (h:Pass n):l9 n=false:=by
 have e:Nat.ble 2147483648 n=false:=by
  cases hb:Nat.ble 2147483648 n with
  | false=>rfl
  | true=>have:=Nat.le_of_ble_eq_true hb;have:=h.hi;omega
 have hi:=h.hi;have lo:=h.lo;have e2:SPk 2 n=true:=by rw [←wL 2 n (by omega) (by omega)];exact h.p2
 have e7:SPk 7 n=true:=by rw [←wL 7 n (by omega) (by omega)];exact h.p7
 have e61:SPk 61 n=true:=by rw [←wL 61 n (by omega) (by omega)];exact h.p61
 unfold l9 bad;rw [e,e2,e7,e61];rfl
structure rQ (D:RD) (n:Nat):Prop where
 h1:D.b1 ^ iH (n - 1) % n=sg D.s1 n
 h2:D.b2 ^ iH (n - 1) % n=sg D.s2 n
 h3:D.b3 ^ iH (n - 1) % n=sg D.s3 n
variable {T a r:Nat}
theorem per {e:Nat} (hr:2≤r) (hT:a ^ T % r=1):a ^ e % r=a ^ (e % T) % r:=by
 conv=>lhs;rw [←Nat.div_add_mod e T,Nat.pow_add,Nat.mul_mod,fZ hr hT,Nat.one_mul,Nat.mod_mod]
theorem OL (hr:2≤r) (hT0:0<T) (hT:a ^ T % r=1) (hk: ∀ e,e<T→a ^ e % r≠r - 1) (hd:r∣n) (hn:0<n) (h:SP a n=true):a ^ iH (n - 1) % n=sg false n:=by
 rcases uY h with h | ⟨i,_,h⟩
 ·exact h
 ·have:=qj hr hd hn h;rw [per hr hT] at this;exact absurd this (hk _ (Nat.mod_lt _ hT0))
theorem OM (hr:2≤r) (hT0:0<T) (hT2:T % 2=0) (hT:a ^ T % r=1) (hk1: ∀ e,e<T→e % 2=1→a ^ e % r≠1) (hk: ∀ e,e<T→e % 2=0→a ^ e % r≠r - 1)
  (hodd:iH (n - 1) % 2=1) (hd:r∣n) (hn:0<n) (h:SP a n=true):a ^ iH (n - 1) % n=sg true n:=by
 rcases uY h with h | ⟨i,_,h⟩
 ·have:=qh hr hd h;rw [per hr hT] at this;exact absurd this (hk1 _ (Nat.mod_lt _ hT0) (by rw [Nat.mod_mod_of_dvd _ (Nat.dvd_of_mod_eq_zero hT2)];exact hodd))
 ·cases i with
  | zero=>rw [Nat.pow_zero,Nat.mul_one] at h;exact h
  | succ i=>
   have:=qj hr hd hn h;rw [per hr hT] at this;refine absurd this (hk _ (Nat.mod_lt _ hT0) ?_);rw [Nat.mod_mod_of_dvd _ (Nat.dvd_of_mod_eq_zero hT2),Nat.pow_succ, ←Nat.mul_assoc];omega
theorem kind2 (hr:2≤r) (hT0:0<T) (hT4:T % 4=0) (hT:a ^ T % r=1) (hk1: ∀ e,e<T→e % 2=1→a ^ e % r≠1∧a ^ e % r≠r - 1) (hk: ∀ e,e<T→e % 4=0→a ^ e % r≠r - 1)
  (hodd:iH (n - 1) % 2=1) (hd:r∣n) (hn:0<n) (h:SP a n=true):(a*a) ^ iH (n - 1) % n=sg true n:=by
 have hT2:T % 2=0:=by omega
 have ho:=hk1 _ (Nat.mod_lt (iH (n - 1)) hT0) (by rw [Nat.mod_mod_of_dvd _ (Nat.dvd_of_mod_eq_zero hT2)];exact hodd);rcases uY h with h | ⟨i,_,h⟩
 ·have:=qh hr hd h;rw [per hr hT] at this;exact absurd this ho.1
 ·rcases i with _ | _ | i
  ·have:=qj hr hd hn h;rw [Nat.pow_zero,Nat.mul_one,per hr hT] at this;exact absurd this ho.2
  ·rw [Nat.mul_comm,Nat.pow_mul] at h;rw [←Nat.pow_two];exact h
  ·have:=qj hr hd hn h;rw [per hr hT] at this;refine absurd this (hk _ (Nat.mod_lt _ hT0) ?_);rw [Nat.mod_mod_of_dvd _ (Nat.dvd_of_mod_eq_zero hT4),Nat.pow_succ,Nat.pow_succ,Nat.mul_assoc, ←Nat.mul_assoc (iH (n - 1))];omega
theorem Pass.qB (h:Pass n):iH (n - 1) % 2=1∧iH (n - 1)*2 ^ uX (n - 1)=n - 1:=AP (by have:=h.lo;omega) (by have:=h.hi;omega)
theorem agU (h : Pass n) (hd : 3 ∣ n) : rQ rd3 n :=
  ⟨OM (T := 2) (by decide) (by decide) (by decide) (by decide) (by decide) (by decide) h.qB.1 hd (by have := h.lo; omega) h.p2,
   OL (T := 2) (by decide) (by decide) (by decide) (by decide) hd (by have := h.lo; omega) h.p7,
   OL (T := 2) (by decide) (by decide) (by decide) (by decide) hd (by have := h.lo; omega) h.p61⟩
theorem agV (h : Pass n) (hd : 5 ∣ n) : rQ rd5 n :=
  ⟨kind2 (a := 2) (T := 4) (by decide) (by decide) (by decide) (by decide) (by decide) (by decide) h.qB.1 hd (by have := h.lo; omega) h.p2,
   kind2 (a := 7) (T := 4) (by decide) (by decide) (by decide) (by decide) (by decide) (by decide) h.qB.1 hd (by have := h.lo; omega) h.p7,
   OL (T := 4) (by decide) (by decide) (by decide) (by decide) hd (by have := h.lo; omega) h.p61⟩
theorem acf (h : Pass n) (hd : 11 ∣ n) : rQ MZ n :=
  ⟨OM (T := 10) (by decide) (by decide) (by decide) (by decide) (by decide) (by decide) h.qB.1 hd (by have := h.lo; omega) h.p2,
   OM (T := 10) (by decide) (by decide) (by decide) (by decide) (by decide) (by decide) h.qB.1 hd (by have := h.lo; omega) h.p7,
   OM (T := 10) (by decide) (by decide) (by decide) (by decide) (by decide) (by decide) h.qB.1 hd (by have := h.lo; omega) h.p61⟩
theorem acg (h : Pass n) (hd : 13 ∣ n) : rQ Na n :=
  ⟨kind2 (a := 2) (T := 12) (by decide) (by decide) (by decide) (by decide) (by decide) (by decide) h.qB.1 hd (by have := h.lo; omega) h.p2,
   kind2 (a := 7) (T := 12) (by decide) (by decide) (by decide) (by decide) (by decide) (by decide) h.qB.1 hd (by have := h.lo; omega) h.p7,
   OL (T := 12) (by decide) (by decide) (by decide) (by decide) hd (by have := h.lo; omega) h.p61⟩
def rU (D:RD):Prop:= ∀ b,b=D.b1∨b=D.b2∨b=D.b3→2≤b∧ ∀ q,Pr q→q≠2→q≠7→q≠61→ ¬ q∣b
theorem pr2:Pr 2:=⟨by decide,by intro m hm;have:=Nat.le_of_dvd (by decide) hm;rcases (show m=0∨m=1∨m=2 by omega) with rfl | rfl | rfl<;>simp_all⟩
theorem nX {p:Nat} (h2:2≤p) (h: ∀ m,m≤p→m∣p→m=1∨m=p):Pr p:=⟨h2,fun m hm=>h m (Nat.le_of_dvd (by omega) hm) hm⟩
theorem pr7:Pr 7:=nX (by decide) (by decide)
theorem alc:Pr 61:=nX (by decide) (by decide)
variable {q:Nat}
theorem J3 {p:Nat} (hp:Pr p) (hq:Pr q) (h:q∣p):q=p:=by
 rcases hp.2 q h with h | h
 ·have:=hq.1;omega
 ·exact h
theorem jq (hq:Pr q) (h2:q≠2) (h7:q≠7) (h61:q≠61): ¬ q∣2∧ ¬ q∣7∧ ¬ q∣61:=
 ⟨fun h=>h2 (J3 pr2 hq h),fun h=>h7 (J3 pr7 hq h),fun h=>h61 (J3 alc hq h)⟩
variable {b:Nat}
theorem yA (hq:Pr q) (ha: ¬ q∣a) (hb: ¬ q∣b): ¬ q∣a*b:=fun h=>hb (hq.tu h ha)
theorem vW {D:RD} (h: ∀ b,b=D.b1∨b=D.b2∨b=D.b3→b=2∨b=7∨b=61∨b=2*2∨b=7*7):rU D:=by
 intro b hb;rcases h b hb with rfl | rfl | rfl | rfl | rfl
 ·exact ⟨by decide,fun q hq h2 h7 h61=>(jq hq h2 h7 h61).1⟩
 ·exact ⟨by decide,fun q hq h2 h7 h61=>(jq hq h2 h7 h61).2.1⟩
 ·exact ⟨by decide,fun q hq h2 h7 h61=>(jq hq h2 h7 h61).2.2⟩
 ·exact ⟨by decide,fun q hq h2 h7 h61=>yA hq (jq hq h2 h7 h61).1 (jq hq h2 h7 h61).1⟩
 ·exact ⟨by decide,fun q hq h2 h7 h61=>yA hq (jq hq h2 h7 h61).2.1 (jq hq h2 h7 h61).2.1⟩
theorem agW:rU rd3:=vW (by intro b hb;simp [rd3] at hb;omega)
theorem agX:rU rd5:=vW (by intro b hb;simp [rd5] at hb;omega)
theorem ach:rU MZ:=vW (by intro b hb;simp [MZ] at hb;omega)
theorem aci:rU Na:=vW (by intro b hb;simp [Na] at hb;omega)
variable {s:Bool}
theorem full {d t:Nat}  (hn:2≤n) (ht:1≤t) (hd:d*2 ^ t=n - 1) (h:b ^ d % n=sg s n):b ^ (n - 1) % n=1:=by
 obtain ⟨u,rfl⟩: ∃ u,t=u+1:=⟨t - 1,by omega⟩
 have e:n - 1=d*2*2 ^ u:=by rw [←hd,Nat.pow_succ,Nat.mul_comm (2 ^ u) 2,Nat.mul_assoc]
 rw [e];apply fZ hn;rw [Nat.pow_mul,Nat.pow_two];cases s with
 | true=>exact AQ hn h
 | false=>
  have h':b ^ d % n=1:=h;rw [Nat.mul_mod,h'];exact Nat.mod_eq_of_lt (by omega)
theorem Pass.two (h:Pass n):1≤uX (n - 1):=by
 have h1:=h.qB;rcases Nat.eq_zero_or_pos (uX (n - 1)) with hz | hz
 ·rw [hz,Nat.pow_zero,Nat.mul_one] at h1;have:=h.odd;omega
 ·exact hz
structure Rq (q n:Nat):Prop where
 pr:Pr q
 dvd:q∣n
 ge3:3≤q
 ne:q≠2∧q≠7∧q≠61
theorem Pass.aj7 (h:Pass n) (hq:Pr q) (hd:q∣n):Rq q n:=by
 have h2:q≠2:=by
  intro e;subst e;have:=h.odd;omega
 refine ⟨hq,hd,by have:=hq.1;omega,h2,?_,?_⟩
 ·intro e;subst e;exact h.n7 hd
 ·intro e;subst e;exact h.n61 hd
variable {o y:Nat}
theorem OO {D:RD} {s:Nat} (hP:Pass n) (hS:rQ D n) (hq:Rq q n) (ho:o % 2=1) (hy:o*2 ^ s=y)
  (h1:D.b1 ^ y % q=1) (h2:D.b2 ^ y % q=1) (h3:D.b3 ^ y % q=1):
  D.b1 ^ o % q=sg D.s1 q∧D.b2 ^ o % q=sg D.s2 q∧D.b3 ^ o % q=sg D.s3 q:=by
 have hn:0<n:=by have:=hP.lo;omega
 have hq2:=hq.pr.1;exact ⟨transfer hq.pr hq.ge3 hP.qB.1 ho hy (Fq hq2 hq.dvd hn hS.h1) h1,
  transfer hq.pr hq.ge3 hP.qB.1 ho hy (Fq hq2 hq.dvd hn hS.h2) h2,
  transfer hq.pr hq.ge3 hP.qB.1 ho hy (Fq hq2 hq.dvd hn hS.h3) h3⟩
theorem Rt {D:RD}  (h:D.b1 ^ o % q=sg D.s1 q∧D.b2 ^ o % q=sg D.s2 q∧D.b3 ^ o % q=sg D.s3 q):Yd D o q=true:=by
 unfold Yd;rw [h.1,h.2.1,h.2.2,Nat.beq_refl,Nat.beq_refl,Nat.beq_refl];rfl
theorem Yh {D:RD}  (hP:Pass n) (hS:rQ D n) (hB:rU D) (hq:Rq q n) (hlt:q<4294967296):Yd D (iH (q - 1)) q=true:=by
 have ho:=AP (m:=q - 1) (by have:=hq.ge3;omega) (by omega);have fer: ∀ b,b=D.b1∨b=D.b2∨b=D.b3→b ^ (q - 1) % q=1:=fun b hb=>hq.pr.V4 ((hB b hb).2 q hq.pr hq.ne.1 hq.ne.2.1 hq.ne.2.2)
 exact Rt (OO hP hS hq ho.1 ho.2 (fer _ (by simp)) (fer _ (by simp)) (fer _ (by simp)))
theorem at_k {k:Nat} (hq:Rq q n) (hn:n=q*k) (hk:1≤k) (hb: ¬ q∣b) (h:b ^ (n - 1) % n=1):b ^ (k - 1) % q=1:=by
 have h1:=qh hq.pr.1 hq.dvd h;have e:n - 1=(q - 1)*k+(k - 1):=by
  obtain ⟨p,rfl⟩: ∃ p,q=p+1:=⟨q - 1,by have:=hq.ge3;omega⟩
  rw [hn,Nat.add_sub_cancel,Nat.add_mul,Nat.one_mul];omega
 rw [e] at h1;exact x9 (fZ hq.pr.1 (hq.pr.V4 hb) k) h1
theorem GV (hq:2≤q) (h:b ^ o % q=sg s q):q∣num b s o:=by
 cases s with
 | false=>exact AO h
 | true=>
  have h':b ^ o % q=q - 1:=h;show q∣b ^ o+1;have:=Nat.div_add_mod (b ^ o) q;rw [h'] at this;exact ⟨b ^ o / q+1,by rw [Nat.mul_add,Nat.mul_one];omega⟩
theorem acj (hb:2≤b) (ho:o % 2=1):0<num b s o:=by
 cases s with
 | true=>exact Nat.succ_pos _
 | false=>
  show 0<b ^ o - 1;have h1:b ^ 1≤b ^ o:=Nat.pow_le_pow_right (by omega) (by omega);rw [Nat.pow_one] at h1;omega
theorem caseA {D:RD} {l:List Nat}  (hP:Pass n) (hS:rQ D n) (hB:rU D) (hrp:Pr D.r) (hr:D.r∣n) (hA:allA D l=true) (hl: ∀ f,f∈l→0<f∧f≤32768) (hq:Rq q n) (hlt:32768<q) (hrq:D.r≠q):False:=by
 obtain ⟨k,hk⟩:=hq.dvd;have hn:=hP.hi;have hlo:=hP.lo;have hk1:1≤k:=by
  rcases Nat.eq_zero_or_pos k with h | h
  ·rw [h] at hk;omega
  ·exact h
 have hrk:D.r∣k:=by
  rw [hk] at hr;exact hrp.tu hr (fun h=>hrq (J3 hq.pr hrp h))
 have hkr:D.r≤k:=Nat.le_of_dvd (by omega) hrk;have hr2:=hrp.1;have hkb:k<66000:=by
  apply Classical.byContradiction;intro hc;have:32769*66000≤q*k:=Nat.mul_le_mul (by omega) (by omega);omega
 have aj8:k % 2=1:=by
  have h:=hP.odd;rw [hk,Nat.mul_mod] at h;rcases Nat.mod_two_eq_zero_or_one k with h0 | h0
  ·rw [h0] at h;simp at h
  ·exact h0
 have hc:=EJ _ _ hA k hkb;rw [show Nat.beq (k % D.r) 0=true by rw [Nat.mod_eq_zero_of_dvd hrk];rfl,show Nat.beq (k % 2) 1=true by rw [aj8];rfl] at hc;have hc:agQ D l k=true:=hc;unfold agQ at hc;rw [show Nat.ble k 1=false by
  cases hb:Nat.ble k 1 with
  | false=>rfl
  | true=>have:=Nat.le_of_ble_eq_true hb;omega] at hc
 have hc:force (iH (k - 1)) (fun o=>force (gG D o) fun G=>cond (Nat.ble G 32768) true
  (force (strip l G) fun R=>allT (R / 32768) fun m=>cond (Nat.beq (R % (m+1)) 0) (force (R / (m+1)*k) l9) true))=true:=hc
 rw [force_eq,force_eq] at hc;have ho:=AP (m:=k - 1) (by omega) (by omega);have full': ∀ b s,(b=D.b1∨b=D.b2∨b=D.b3)→b ^ iH (n - 1) % n=sg s n→b ^ (k - 1) % q=1:=fun b s hb h=>
  at_k hq hk hk1 ((hB b hb).2 q hq.pr hq.ne.1 hq.ne.2.1 hq.ne.2.2) (full (by omega) hP.two hP.qB.2 h)
 obtain ⟨f1,f2,f3⟩:=OO hP hS hq ho.1 ho.2 (full' _ _ (by simp) hS.h1) (full' _ _ (by simp) hS.h2) (full' _ _ (by simp) hS.h3);have hq2:=hq.pr.1;have hG:q∣gG D (iH (k - 1)):=Nat.dvd_gcd (Nat.dvd_gcd (GV hq2 f1) (GV hq2 f2)) (GV hq2 f3);have hG0:0<gG D (iH (k - 1)):=Nat.gcd_pos_of_pos_right _ (acj (hB _ (by simp)).1 ho.1);generalize gG D (iH (k - 1))=G at hc hG hG0;cases hb:Nat.ble G 32768 with
 | true=>
  have h1:=Nat.le_of_ble_eq_true hb;have h2:=Nat.le_of_dvd hG0 hG;omega
 | false=>
  rw [hb] at hc;have hc:force (strip l G) (fun R=>allT (R / 32768) fun m=>cond (Nat.beq (R % (m+1)) 0) (force (R / (m+1)*k) l9) true)=true:=hc;rw [force_eq] at hc;have hR:=Rl hq.pr l G (fun f hf=>⟨(hl f hf).1,by have:=(hl f hf).2;omega⟩) hG;have hR0:=Ro l G hG0;generalize strip l G=R at hc hR hR0;obtain ⟨m,hm⟩:=hR;have hm1:1≤m:=by
   rcases Nat.eq_zero_or_pos m with h | h
   ·rw [h] at hm;omega
   ·exact h
  have hle:m≤R / 32768:=by
   rw [Nat.le_div_iff_mul_le (by omega),hm,Nat.mul_comm q];exact Nat.mul_le_mul_left m (by omega)
  have h5:=jU _ _ hc (m - 1) (by omega);rw [show m - 1+1=m by omega,show R % m=0 by rw [hm];exact Nat.mul_mod_left q m] at h5;have h5:force (R / m*k) l9=true:=h5;rw [force_eq,show R / m=q by rw [hm];exact Nat.mul_div_cancel q (by omega), ←hk,hP.GU] at h5;cases h5
variable {x:Nat}
theorem lM :fF x q=true↔2 ^ x % q=1∧7 ^ x % q=1∧61 ^ x % q=1:=by
 unfold fF;constructor
 ·intro h;cases h1:Nat.beq (2 ^ x % q) 1 with
  | false=>rw [h1] at h;cases h
  | true=>
   cases h2:Nat.beq (7 ^ x % q) 1 with
   | false=>rw [h1,h2] at h;cases h
   | true=>
    rw [h1,h2] at h;exact ⟨Nat.eq_of_beq_eq_true h1,Nat.eq_of_beq_eq_true h2,Nat.eq_of_beq_eq_true h⟩
 ·rintro ⟨h1,h2,h3⟩;rw [h1,h2,h3];rfl
theorem Ru (hq:2≤q) (h:fF x q=true) (hd:x∣y):fF y q=true:=by
 obtain ⟨h1,h2,h3⟩:=lM.1 h;exact lM.2 ⟨jm hq h1 hd,jm hq h2 hd,jm hq h3 hd⟩
theorem Rw (hq:2≤q) (h:fF x q=true) (h':fF y q=true):fF (Nat.gcd x y) q=true:=by
 obtain ⟨h1,h2,h3⟩:=lM.1 h;obtain ⟨g1,g2,g3⟩:=lM.1 h';exact lM.2 ⟨qL hq _ _ h1 g1,qL hq _ _ h2 g2,qL hq _ _ h3 g3⟩
theorem J4 {L:Nat} (hq:2≤q) (hL0:0<L) (hL:L≤32768) (hm:minimal L q=true) (hy:fF y q=true):L∣y:=by
 unfold minimal at hm;cases hg:fF L q with
 | false=>rw [hg] at hm;cases hm
 | true=>
  rw [hg] at hm;have hm:allT 181 (fun d=>cond (Nat.beq (L % (d+1)) 0) (cond (cond (Nat.beq d 0) true (cond (fF (L / (d+1)) q) false true)) (cond (Nat.beq (d+1) L) true (cond (fF (d+1) q) false true)) false) true)=true:=hm;have hall: ∀ d,d<181→L % (d+1)=0→(d=0∨fF (L / (d+1)) q=false)∧(d+1=L∨fF (d+1) q=false):=by
   intro d hd h0;have h:=jU _ 181 hm d hd;rw [h0] at h;have h:cond (cond (Nat.beq d 0) true (cond (fF (L / (d+1)) q) false true)) (cond (Nat.beq (d+1) L) true (cond (fF (d+1) q) false true)) false=true:=h;constructor
   ·cases hb:Nat.beq d 0 with
    | true=>exact .inl (Nat.eq_of_beq_eq_true hb)
    | false=>
     right;rw [hb] at h;cases hx:fF (L / (d+1)) q with
     | false=>rfl
     | true=>rw [hx] at h;cases h
   ·cases hb:Nat.beq (d+1) L with
    | true=>exact .inl (Nat.eq_of_beq_eq_true hb)
    | false=>
     right;cases hx:fF (d+1) q with
     | false=>rfl
     | true=>
      rw [hb,hx] at h;cases hc1:cond (Nat.beq d 0) true (cond (fF (L / (d+1)) q) false true) with
      | true=>rw [hc1] at h;cases h
      | false=>rw [hc1] at h;cases h
  have hgg:=Rw hq hg hy;obtain ⟨m,hm'⟩:=Nat.gcd_dvd_left L y;by_cases h1:m=1
  ·rw [h1,Nat.mul_one] at hm';rw [hm'];exact Nat.gcd_dvd_right L y
  ·exfalso;have hm0:m≠0:=by intro e;rw [e] at hm';omega
   obtain ⟨p,hp,hpm⟩:=D5 m (by omega);obtain ⟨c,hc⟩:=hpm;have hLp:L=p*(Nat.gcd L y*c):=by
    rw [hc] at hm';rw [Nat.mul_left_comm];exact hm'
   have hp0:=hp.1;have hdiv:L / p=Nat.gcd L y*c:=by
    have:p*(Nat.gcd L y*c) / p=Nat.gcd L y*c:=Nat.mul_div_cancel_left _ (by omega);rw [←hLp] at this;exact this
   have hgood:fF (L / p) q=true:=by rw [hdiv];exact Ru hq hgg (Nat.dvd_mul_right _ _)
   by_cases alj:p≤181
   ·have hmod:L % p=0:=by rw [hLp];exact Nat.mul_mod_right _ _
    have:=(hall (p - 1) (by omega) (by rw [show p - 1+1=p by omega];exact hmod)).1;rw [show p - 1+1=p by omega,hgood] at this;rcases this with h | h
    ·omega
    ·cases h
   ·have he:L / p≤180:=by
     have:L / p≤32768 / 182:=Nat.le_trans (Nat.div_le_div_right hL) (Nat.div_le_div_left (by omega) (by omega));omega
    have hLe:L=p*(L / p):=by rw [hdiv];exact hLp
    have he0:0<L / p:=by
     rcases Nat.eq_zero_or_pos (L / p) with h | h
     ·rw [h] at hLe;omega
     ·exact h
    have hmod:L % (L / p)=0:=by
     conv=>lhs;rw [hLe]
     have:p*(L / p) / p=L / p:=Nat.mul_div_cancel_left _ (by omega);rw [this];exact Nat.mul_mod_left _ _
    have:=(hall (L / p - 1) (by omega) (by rw [show L / p - 1+1=L / p by omega];exact hmod)).2;rw [show L / p - 1+1=L / p by omega,hgood] at this;rcases this with h | h
    ·have:p*(L / p)≥2*(L / p):=Nat.mul_le_mul_right _ hp0;omega
    ·cases h
theorem aj9 {D:RD}  (hP:Pass n) (hS:rQ D n) (hB:rU D) (hrp:Pr D.r) (hr:D.r∣n) (hA:allB D=true) (hq:Rq q n) (hlo:300<q) (hlt:q≤32768) (hrq:D.r≠q):False:=by
 obtain ⟨k,hk⟩:=hq.dvd;have hn:=hP.hi;have hn3:=hP.lo;have hk1:1≤k:=by
  rcases Nat.eq_zero_or_pos k with h | h
  ·rw [h] at hk;omega
  ·exact h
 have hrk:D.r∣k:=by
  rw [hk] at hr;exact hrp.tu hr (fun h=>hrq (J3 hq.pr hrp h))
 have Yi:q % 2=1:=by
  have h:=hP.odd;rw [hk,Nat.mul_mod] at h;rcases Nat.mod_two_eq_zero_or_one q with h0 | h0
  ·rw [h0] at h;simp at h
  ·exact h0
 have hc:=EJ _ _ hA q (by omega);rw [show Nat.ble q 300=false by
   cases hb:Nat.ble q 300 with
   | false=>rfl
   | true=>have:=Nat.le_of_ble_eq_true hb;omega,
  show Nat.ble 32769 q=false by
   cases hb:Nat.ble 32769 q with
   | false=>rfl
   | true=>have:=Nat.le_of_ble_eq_true hb;omega,show Nat.beq (q % 2) 1=true by rw [Yi];rfl] at hc
 have hc:agR D q=true:=hc;unfold agR at hc;rw [Yh hP hS hB hq (by omega)] at hc;have hc:force ((q - 1) / Ye q 30) (fun L=>cond (cond (Nat.ble L 32768) (minimal L q) false) (allT (2147483647 / q / L+1) fun j=>
  force (1+L*j) fun k=>cond (Nat.beq (k % D.r) 0) (force (q*k) l9) true) false)=true:=hc
 rw [force_eq] at hc;generalize (q - 1) / Ye q 30=L at hc;cases hL:Nat.ble L 32768 with
 | false=>rw [hL] at hc;cases hc
 | true=>
  cases hm:minimal L q with
  | false=>rw [hL,hm] at hc;cases hc
  | true=>
   rw [hL,hm] at hc;have hc:allT (2147483647 / q / L+1) (fun j=>force (1+L*j) fun k=>cond (Nat.beq (k % D.r) 0) (force (q*k) l9) true)=true:=hc;have hL2:=Nat.le_of_ble_eq_true hL;have nd:=jq hq.pr hq.ne.1 hq.ne.2.1 hq.ne.2.2;have hq2:=hq.pr.1;have Yj: ∀ a,SP a n=true→a ^ (n - 1) % n=1:=by
    intro a ha;rcases uY ha with h | ⟨i,hi,h⟩
    ·exact full (s:=false) (by omega) hP.two hP.qB.2 h
    ·have e:n - 1=iH (n - 1)*2 ^ i*2*2 ^ (uX (n - 1) - i - 1):=by
      conv=>lhs;rw [←hP.qB.2]
      rw [Nat.mul_assoc,Nat.mul_assoc, ←Nat.pow_succ', ←Nat.pow_add];congr 2;omega
     conv=>lhs;rw [e]
     apply fZ (by omega);rw [Nat.pow_mul,Nat.pow_two];exact AQ (by omega) h
   have hgood:fF (k - 1) q=true:=lM.2 ⟨at_k hq hk hk1 nd.1 (Yj 2 hP.p2),at_k hq hk hk1 nd.2.1 (Yj 7 hP.p7),at_k hq hk hk1 nd.2.2 (Yj 61 hP.p61)⟩;have hL0:0<L:=by
    rcases Nat.eq_zero_or_pos L with h | h
    ·exfalso;rw [h] at hm;have h0:=jU (fun d=>cond (Nat.beq (0 % (d+1)) 0) (cond (cond (Nat.beq d 0) true (cond (fF (0 / (d+1)) q) false true)) (cond (Nat.beq (d+1) 0) true (cond (fF (d+1) q) false true)) false) true) 181 (by
      unfold minimal at hm;cases hg:fF 0 q with
      | false=>rw [hg] at hm;cases hm
      | true=>rw [hg] at hm;exact hm) 1 (by omega)
     have hz:fF (0 / (1+1)) q=true:=by
      apply lM.2;have:1 % q=1:=Nat.mod_eq_of_lt (by omega);exact ⟨this,this,this⟩
     rw [hz] at h0;cases h0
    ·exact h
   obtain ⟨j,hj⟩:=J4 hq2 hL0 hL2 hm hgood;have hkj:k=1+L*j:=by omega
   have hjb:j<2147483647 / q / L+1:=by
    have h1:L*j≤2147483647 / q:=by
     rw [Nat.le_div_iff_mul_le (by omega)];have:k*q≤2147483647:=by rw [Nat.mul_comm, ←hk];omega
     have h2:L*j*q≤k*q:=Nat.mul_le_mul_right q (by omega);omega
    have h2:j≤2147483647 / q / L:=by
     rw [Nat.le_div_iff_mul_le hL0,Nat.mul_comm];exact h1
    omega
   have h5:=jU _ _ hc j hjb;have h5:force (1+L*j) (fun k=>cond (Nat.beq (k % D.r) 0) (force (q*k) l9) true)=true:=h5;rw [force_eq, ←hkj,show Nat.beq (k % D.r) 0=true by rw [Nat.mod_eq_zero_of_dvd hrk];rfl] at h5;have h5:force (q*k) l9=true:=h5;rw [force_eq, ←hk,hP.GU] at h5;cases h5
theorem acn: ∀ (l:List Nat) (n:Nat),0<n→(∀ p,Pr p→p∣n→p∈l)→(∀ p,p∈l→Pr p→ ¬ p*p∣n)→n∈subs l:=by
 intro l;induction l with
 | nil=>
  intro n h0 h _;have:n=1:=by
   apply Classical.byContradiction;intro hc;obtain ⟨p,hp,hd⟩:=D5 n (by omega);have:=h p hp hd;simp at this
  rw [this];simp [subs]
 | cons q l ih=>
  intro n h0 h hs;unfold subs;rw [List.mem_append];by_cases hq:Pr q∧q∣n
  ·obtain ⟨hqp,m,hm⟩:=hq;right;rw [List.mem_map];have hm0:0<m:=by
    rcases Nat.eq_zero_or_pos m with e | e
    ·rw [e] at hm;omega
    ·exact e
   refine ⟨m,ih m hm0 ?_ ?_,hm.symm⟩
   ·intro p hp hd;have hpn:p∣n:=by rw [hm];exact Nat.dvd_trans hd (Nat.dvd_mul_left _ _)
    have:=h p hp hpn;rw [List.mem_cons] at this;rcases this with e | e
    ·exfalso;subst e;exact hs p (by simp) hp (by rw [hm];exact Nat.mul_dvd_mul (Nat.dvd_refl p) hd)
    ·exact e
   ·intro p hp hpp hd;exact hs p (by simp [hp]) hpp (by rw [hm];exact Nat.dvd_trans hd (Nat.dvd_mul_left _ _))
  ·left;refine ih n h0 ?_ (fun p hp hpp=>hs p (by simp [hp]) hpp);intro p hp hd;have:=h p hp hd;rw [List.mem_cons] at this;rcases this with e | e
   ·exfalso;subst e;exact hq ⟨hp,hd⟩
   ·exact e
theorem akb {D:RD} {small:List Nat}  (hP:Pass n) (hS:rQ D n) (hB:rU D) (hr:D.r∣n) (hC:MX D small=true) (hall: ∀ q,Pr q→q∣n→q≤300):n=D.r:=by
 unfold MX at hC;simp only [Bool.and_eq_true] at hC;obtain ⟨⟨c1,c2⟩,c3⟩:=hC;have hn3:=hP.lo;have mem: ∀ q,Pr q→q∣n→q∈small:=by
  intro q hq hd;have hof:=hP.aj7 hq hd;have h:=jU _ _ c1 q (by have:=hall q hq hd;omega);have Yi:q % 2=1:=by
   have h:=hP.odd;obtain ⟨k,hk⟩:=hd;rw [hk,Nat.mul_mod] at h;rcases Nat.mod_two_eq_zero_or_one q with h0 | h0
   ·rw [h0] at h;simp at h
   ·exact h0
  rw [show Nat.beq (q % 2) 1=true by rw [Yi];rfl,show Nat.ble q 2=false by
   cases hb:Nat.ble q 2 with
   | false=>rfl
   | true=>have:=Nat.le_of_ble_eq_true hb;have:=hof.ge3;omega,Yh hP hS hB hof (by have:=hall q hq hd;omega)] at h
  have h:small.any (Nat.beq q)=true:=h;obtain ⟨x,hx,he⟩:=List.any_eq_true.1 h;rw [Nat.eq_of_beq_eq_true he];exact hx
 have sq: ∀ q,q∈small→Pr q→ ¬ q*q∣n:=by
  intro q hq hqp hd;have hqn:q∣n:=Nat.dvd_trans (Nat.dvd_mul_right q q) hd;have h:=List.all_eq_true.1 c2 q hq;simp only [Bool.and_eq_true,Bool.not_eq_true'] at h;obtain ⟨h1,h2⟩:=h;have h1:=Nat.eq_of_beq_eq_true h1;have h2:=Nat.ne_of_beq_eq_false h2;have hq2:=hqp.1;have hqq:2≤q*q:=Nat.le_trans hq2 (Nat.le_mul_of_pos_left q (by omega));apply h2;have hb:2 ^ (n - 1) % n=1:=by
   rcases uY hP.p2 with h | ⟨i,hi,h⟩
   ·exact full (s:=false) (by omega) hP.two hP.qB.2 h
   ·have e:n - 1=iH (n - 1)*2 ^ i*2*2 ^ (uX (n - 1) - i - 1):=by
     conv=>lhs;rw [←hP.qB.2]
     rw [Nat.mul_assoc,Nat.mul_assoc, ←Nat.pow_succ', ←Nat.pow_add];congr 2;omega
    conv=>lhs;rw [e]
    apply fZ (by omega);rw [Nat.pow_mul,Nat.pow_two];exact AQ (by omega) h
  have hb2:=qh hqq hd hb;have hg:=qL hqq (n - 1) (q*(q - 1)) hb2 h1;have ald:Nat.gcd (n - 1) q=1:=by
   rw [Nat.gcd_comm];apply hqp.coprime;intro hc;have:q∣n - (n - 1):=Nat.dvd_sub hqn hc;rw [show n - (n - 1)=1 by omega] at this;have:=Nat.le_of_dvd (by omega) this;omega
  have hdv:Nat.gcd (n - 1) (q*(q - 1))∣q - 1:=by
   have:=Nat.gcd_mul_right_dvd_mul_gcd (n - 1) q (q - 1);rw [ald,Nat.one_mul] at this;exact Nat.dvd_trans this (Nat.gcd_dvd_right _ _)
  exact jm hqq hg hdv
 have hin:=acn small n (by omega) mem sq;have h:=List.all_eq_true.1 c3 n hin;rw [show Nat.beq (n % D.r) 0=true by rw [Nat.mod_eq_zero_of_dvd hr];rfl] at h;have h:cond (Nat.beq n D.r) true (l9 n)=true:=h;cases hb:Nat.beq n D.r with
 | true=>exact Nat.eq_of_beq_eq_true hb
 | false=>
  rw [hb] at h;have h:l9 n=true:=h;rw [hP.GU] at h;cases h
theorem GX {D:RD} {l small:List Nat}  (hP:Pass n) (hS:rQ D n) (hB:rU D) (hrp:Pr D.r) (hr3:D.r≤300) (hr:D.r∣n) (hA:allA D l=true) (hl: ∀ f,f∈l→0<f∧f≤32768) (hBB:allB D=true) (hC:MX D small=true):n=D.r:=by
 apply akb hP hS hB hr hC;intro q hq hd;apply Classical.byContradiction;intro hc;have hof:=hP.aj7 hq hd;by_cases hbig:32768<q
 ·exact caseA hP hS hB hrp hr hA hl hof hbig (by omega)
 ·exact aj9 hP hS hB hrp hr hBB hof (by omega) (by omega) (by omega)
theorem l3: ∀ f,f∈Yf→0<f∧f≤32768:=by decide+kernel
theorem l5: ∀ f,f∈Yg→0<f∧f≤32768:=by decide+kernel
theorem l11: ∀ f,f∈OI→0<f∧f≤32768:=by decide+kernel
theorem l13: ∀ f,f∈OJ→0<f∧f≤32768:=by decide+kernel
theorem pr3:Pr 3:=nX (by decide) (by decide)
theorem pr5:Pr 5:=nX (by decide) (by decide)
theorem ale:Pr 11:=nX (by decide) (by decide)
theorem alf:Pr 13:=nX (by decide) (by decide)
theorem akc (hP:Pass n) (h:3∣n):n=3:=GX (D:=rd3) hP (agU hP h) agW pr3 (by decide) h a3 l3 b3 c3
theorem akd (hP:Pass n) (h:5∣n):n=5:=GX (D:=rd5) hP (agV hP h) agX pr5 (by decide) h a5 l5 b5 c5
theorem agY (hP:Pass n) (h:11∣n):n=11:=GX (D:=MZ) hP (acf hP h) ach ale (by decide) h a11 l11 b11 c11
theorem agZ (hP:Pass n) (h:13∣n):n=13:=GX (D:=Na) hP (acg hP h) aci alf (by decide) h a13 l13 b13 c13
theorem tV (n:Nat):aB n=true↔n=2∨n=7∨n=61∨(2<n∧n % 2=1∧0<n % 7∧0<n % 61∧SP 2 n=true∧SP 7 n=true∧SP 61 n=true):=by
 unfold aB;simp only [Bool.or_eq_true,Bool.and_eq_true,beq_iff_eq,decide_eq_true_eq];constructor
 ·rintro (((h | h) | h) | ⟨⟨⟨⟨⟨⟨h1,h2⟩,h3⟩,h4⟩,h5⟩,h6⟩,h7⟩)
  ·exact .inl h
  ·exact .inr (.inl h)
  ·exact .inr (.inr (.inl h))
  ·exact .inr (.inr (.inr ⟨h1,h2,h3,h4,h5,h6,h7⟩))
 ·rintro (h | h | h | ⟨h1,h2,h3,h4,h5,h6,h7⟩)
  ·exact .inl (.inl (.inl h))
  ·exact .inl (.inl (.inr h))
  ·exact .inl (.inr h)
  ·exact .inr ⟨⟨⟨⟨⟨⟨h1,h2⟩,h3⟩,h4⟩,h5⟩,h6⟩,h7⟩
theorem J5 (hn:n<2147483648):ak n=aB n:=by
 by_cases h2:n<2
 ·have e1:ak n=false:=by unfold ak;rw [if_pos h2]
  rw [e1];symm;rw [←Bool.not_eq_true,tV];omega
 ·by_cases hno: ∀ p,p∈smalls→n % p≠0
  ·have hf:smalls.find? (fun p=>n % p==0)=none:=List.find?_eq_none.2 (by intro q hq;simpa using hno q hq);have e1:ak n=(SP 2 n && (SP 7 n && SP 61 n)):=by
    unfold ak;rw [if_neg h2,hf]
   have d2:=hno 2 (by decide);have d7:=hno 7 (by decide);have d61:=hno 61 (by decide);rw [e1,Bool.eq_iff_iff,tV];simp only [Bool.and_eq_true];constructor
   ·rintro ⟨h5,h6,h7⟩;exact .inr (.inr (.inr ⟨by omega,by omega,by omega,by omega,h5,h6,h7⟩))
   ·rintro (h | h | h | ⟨_,_,_,_,h5,h6,h7⟩)
    ·rw [h] at d2;exact absurd rfl d2
    ·rw [h] at d7;exact absurd rfl d7
    ·rw [h] at d61;exact absurd rfl d61
    ·exact ⟨h5,h6,h7⟩
  ·have hex: ∃ p,smalls.find? (fun p=>n % p==0)=some p:=by
    cases hf:smalls.find? (fun p=>n % p==0) with
    | some p=>exact ⟨p,rfl⟩
    | none=>
     exfalso;apply hno;intro p hp;have:=List.find?_eq_none.1 hf p hp;simpa using this
   obtain ⟨p,hf⟩:=hex;have e1:ak n=(n==p):=by unfold ak;rw [if_neg h2,hf]
   have hmem:=List.mem_of_find?_eq_some hf;have hdiv:n % p=0:=by have:=List.find?_some hf;simpa using this
   rw [e1,Bool.eq_iff_iff,beq_iff_eq];constructor
   ·intro h;subst h;have all: ∀ q,q∈smalls→aB q=true:=by
     intro q hq;simp only [smalls,List.mem_cons,List.not_mem_nil,or_false] at hq;rcases hq with rfl | rfl | rfl | rfl | rfl | rfl | rfl<;>(rw [KX _ (by omega)];decide+kernel)
    exact all n hmem
   ·intro hr;rw [tV] at hr;have hdv:p∣n:=Nat.dvd_of_mod_eq_zero hdiv;simp only [smalls,List.mem_cons,List.not_mem_nil,or_false] at hmem;rcases hr with rfl | rfl | rfl | ⟨h1,h3,h4,h5,h6,h7,h8⟩
    ·have:=Nat.le_of_dvd (by omega) hdv;rcases hmem with rfl | rfl | rfl | rfl | rfl | rfl | rfl<;>omega
    ·have hle:=Nat.le_of_dvd (by omega) hdv;rcases hmem with rfl | rfl | rfl | rfl | rfl | rfl | rfl<;>simp_all
    ·have hle:=Nat.le_of_dvd (by omega) hdv;rcases hmem with rfl | rfl | rfl | rfl | rfl | rfl | rfl<;>simp_all
    ·have hP:Pass n:=⟨by omega,hn,h3,fun h=>by have:=Nat.mod_eq_zero_of_dvd h;omega,fun h=>by have:=Nat.mod_eq_zero_of_dvd h;omega,h6,h7,h8⟩
     rcases hmem with rfl | rfl | rfl | rfl | rfl | rfl | rfl
     ·omega
     ·exact akc hP hdv
     ·exact akd hP hdv
     ·omega
     ·exact agY hP hdv
     ·exact agZ hP hdv
     ·omega
end
section
theorem OQ (n:Int) (p:Nat) (e:Int):gJ ak n p e=gJ aB n p e:=by
 by_cases h:p<65536
 ·unfold gJ;rw [J5 (show p<2147483648 by omega)]
 ·rw [iZ (by omega),iZ (by omega)]
theorem J6 (s q:Nat):dD ak s q=dD aB s q:=by
 unfold dD;by_cases h:q≤2147483647
 ·rw [J5 (by omega)]
 ·rw [aj h];rfl
theorem t_eq (x:Par):x.t ak=x.t aB:=OQ _ _ _
theorem aco (s sp q:Nat):jf ak s sp q=jf aB s sp q:=by unfold jf;rw [J6]
theorem ag0 (x:Par):okB ak x=okB aB x:=by
 unfold okB stepOf;rw [t_eq,J6];congr 7;congr 1;exact funext fun q=>aco _ _ q
end
section
open Go.RowKit
theorem OT (x:Par) (k:Int):oL ak x k=oL aB x k:=by unfold oL;rw [ag0]
theorem Rx (x:Par) (k:Int):bQ ak x k=bQ aB x k:=by unfold bQ;rw [OT]
theorem Ry (x:Par) (k:Int):bK ak x k=bK aB x k:=by unfold bK;rw [OT,OQ]
theorem Yk (x:Par) (cv:Value) (k:Int) (w:World) (hx:nM x) (hcv:SliceAt w cv x.ch):
  Calls Tryz.prog 36 #[x.val cv, .int .i64 k] w fun r w'=>r= .returned (.tuple #[.int .i64 (bK aB x k:Nat), .int .i64 (bQ aB x k)])∧Below w.heap.size w w':=by
 have hB:Hid (tH (w.alloc (.cells #[.int .i64 x.n, .int .u32 x.p, .int .i64 x.r,cv, .int .u32 x.sp, .int .i64 x.wt, .int .u32 x.er] 25)) w.heap.size x cv):=by constructor<;>simp [go_sem]
 have hbW:Hid (Below w.heap.size w (w.alloc (.cells #[.int .i64 x.n, .int .u32 x.p, .int .i64 x.r,cv, .int .u32 x.sp, .int .i64 x.wt, .int .u32 x.er] 25))):=(Below.refl _ _).alloc (Nat.le_refl _) _;have HS:Hid (SliceAt (w.alloc (.cells #[.int .i64 x.n, .int .u32 x.p, .int .i64 x.r,cv, .int .u32 x.sp, .int .i64 x.wt, .int .u32 x.er] 25)) cv x.ch):=hcv.below hbW.out;have hlt:w.heap.size<(w.alloc (.cells #[.int .i64 x.n, .int .u32 x.p, .int .i64 x.r,cv, .int .u32 x.sp, .int .i64 x.wt, .int .u32 x.er] 25)).heap.size:=by simp
 unfold Par.val;cases hok:okB aB x with
 | false=>
  have HC:Hid (chk aB x=2):=NP hok;have HR:Hid (bQ aB x k=2∧bK aB x k=0):=xq (by unfold oL;rw [hok];rfl);clear hok;go_enter Tryz.func36,Tryz.ntmps36
  go_wp2_with fail
  refine (oN x cv _ hx HS.out).mono ?_;rintro e w1 ⟨rfl,hb1⟩;have y0:=(hB.out.below hb1 hlt).n;have y1:=(hB.out.below hb1 hlt).p;have y2:=(hB.out.below hb1 hlt).r;have HB1:=Lib.hid (kL hb1 hbW.out (by simp));clear hb1;rw [HC.out];go_wp2_with fail
  go_ret2
  exact ⟨by rw [HR.out.1,HR.out.2];rfl,HB1.out⟩
 | true=>
  have hd:=Gw hok;have hn4:=hd.1;have hn32:=hd.2;have HC:Hid (chk aB x=0):=V6 hok;clear hd;by_cases h1:k<1
  ·have HR:Hid (bQ aB x k=2∧bK aB x k=0):=xq (by unfold oL;rw [aj (show ¬ 1≤k by omega)];simp);have d1:decide (k<1)=true:=ah h1;clear hok;go_enter Tryz.func36,Tryz.ntmps36
   go_wp2_with fail
   refine (oN x cv _ hx HS.out).mono ?_;rintro e w1 ⟨rfl,hb1⟩;have y0:=(hB.out.below hb1 hlt).n;have y1:=(hB.out.below hb1 hlt).p;have y2:=(hB.out.below hb1 hlt).r;have HB1:=Lib.hid (kL hb1 hbW.out (by simp));clear hb1;rw [HC.out];go_wp2_with fail
   go_ret2
   exact ⟨by rw [HR.out.1,HR.out.2];rfl,HB1.out⟩
  ·by_cases h2:x.r<k
   ·have HR:Hid (bQ aB x k=2∧bK aB x k=0):=xq (by unfold oL;rw [aj (show ¬ k≤x.r by omega)];simp);have d1:decide (k<1)=false:=aj h1;have d2:decide (x.r<k)=true:=ah h2;clear hok;go_enter Tryz.func36,Tryz.ntmps36
    go_wp2_with fail
    refine (oN x cv _ hx HS.out).mono ?_;rintro e w1 ⟨rfl,hb1⟩;have y0:=(hB.out.below hb1 hlt).n;have y1:=(hB.out.below hb1 hlt).p;have y2:=(hB.out.below hb1 hlt).r;have HB1:=Lib.hid (kL hb1 hbW.out (by simp));clear hb1;rw [HC.out];go_wp2_with fail
    go_ret2
    exact ⟨by rw [HR.out.1,HR.out.2];rfl,HB1.out⟩
   ·have HR:Hid (bQ aB x k=0∧bK aB x k=gJ aB x.n x.p k):=Gx (by unfold oL;rw [hok,ah (show 1≤k by omega),ah (show k≤x.r by omega)];rfl);have d1:decide (k<1)=false:=aj h1;have d2:decide (x.r<k)=false:=aj h2;have hr1:=hx.r1;have hp1:=hx.p1;clear hok;go_enter Tryz.func36,Tryz.ntmps36
    go_wp2_with fail
    refine (oN x cv _ hx HS.out).mono ?_;rintro e w1 ⟨rfl,hb1⟩;have y0:=(hB.out.below hb1 hlt).n;have y1:=(hB.out.below hb1 hlt).p;have y2:=(hB.out.below hb1 hlt).r;have HB1:=Lib.hid (kL hb1 hbW.out (by simp));clear hb1;rw [HC.out];go_wp2_with fail
    refine (AY _ _ _ _ hn4 hn32 hp1 (by omega) (by omega)).mono ?_;rintro e w2 ⟨rfl,rfl⟩;go_wp2_with fail
    go_ret2
    exact ⟨by rw [HR.out.1,HR.out.2];rfl,HB1.out⟩
end
section
open Go.RowKit Wv
theorem J7 (x:Par) (k:Int) (hx:nM x) (hlen:x.ch.length≤140737488351232) (vP: ∀ q,q∈x.ch→q<4294967296):TC Tryz.prog 36 [.g (dA x), .v (.int .i64 k)] (.tup [.v (.int .i64 (bK ak x k:Nat)), .v (.int .i64 (bQ ak x k))]):=by
 rw [Ry,Rx];refine ⟨by kernel_rfl,fun X vs hX hbad hr=>?_⟩;obtain ⟨h1,h2⟩:=hr;match vs,h1 with
 | [v0,v1],_=>
  obtain ⟨cv,rfl,hs⟩:=Ou hlen vP (h2 0 _ v0 rfl rfl);have e1:=nR (h2 1 _ v1 rfl rfl);subst e1;refine (Yk x cv k X.w hx hs).mono ?_;rintro e w' ⟨rfl,hb⟩;refine ⟨_,rfl,hb,fun m=>?_⟩;exact .tup (cvs:=[_,_]) rfl (fun i a y q1 q2=>by
   match i with
   | 0=>simp at q1 q2;subst q1 q2;exact .v _
   | 1=>simp at q1 q2;subst q1 q2;exact .v _
   | i+2=>simp at q1)
end
section
open Go.RowKit Wv
theorem Nc {h:Hp} {id jd n N T T2 k z:Nat} {w:Nat→Int} {vs:Nat→Nat→Int} (h1:h[id]? =some (some (.arr T 1 (tab n fun a=>if a=k then AV.own jd N else .t N 1 (tab N fun j=> .v (.int .i64 (vs a j)))) z))) (hz:z=n) (h2:h[jd]? =some (some (.arr T2 1 (tab N fun j=> .v (.int .i64 (w j))) (tab N fun j=>AV.v (.int .i64 (w j))).length))):
  iq 2 h (.own id n)= .t n 1 (tab n fun i=> .t N 1 (tab N fun j=> .v (.int .i64 (if i=k then w j else vs i j)))):=by
 have hl:(tab n fun a=>if a=k then AV.own jd N else .t N 1 (tab N fun j=> .v (.int .i64 (vs a j)))).length=n:=eU;have hl2:(tab N fun j=>AV.v (.int .i64 (w j))).length=N:=eU;have hm: ∀ f:Nat→Int,(tab N fun x=>AV.v (.int .i64 (f x))).map (iq 0 h)=tab N fun x=>AV.v (.int .i64 (f x)):=fun f=>by
  unfold tab;rw [List.map_map];exact List.map_congr_left fun x _=>rfl
 have hr:iq 1 h (.own jd N)= .t N 1 (tab N fun j=> .v (.int .i64 (w j))):=by
  show (match h[jd]? with | some (some (.arr _ s cells fz))=>bif Nat.beq cells.length (N*s) && Nat.beq fz cells.length then AV.t N s (cells.map (iq 0 h)) else .own jd N | _=> .own jd N)=_;rw [h2];show (bif Nat.beq (tab N fun j=>AV.v (.int .i64 (w j))).length (N*1) && Nat.beq (tab N fun j=>AV.v (.int .i64 (w j))).length (tab N fun j=>AV.v (.int .i64 (w j))).length then _ else _)=_;rw [hl2,Nat.mul_one,Nat.beq_refl,hm];rfl
 show (match h[id]? with | some (some (.arr _ s cells fz))=>bif Nat.beq cells.length (n*s) && Nat.beq fz cells.length then AV.t n s (cells.map (iq 1 h)) else .own id n | _=> .own id n)=_;rw [h1];show (bif Nat.beq (tab n fun a=>if a=k then AV.own jd N else .t N 1 (tab N fun j=> .v (.int .i64 (vs a j)))).length (n*1) && Nat.beq z (tab n fun a=>if a=k then AV.own jd N else .t N 1 (tab N fun j=> .v (.int .i64 (vs a j)))).length then _ else _)=_;rw [hl,hz,Nat.mul_one,Nat.beq_refl];show AV.t n 1 _=_;congr 1;unfold tab;rw [List.map_map];refine List.map_congr_left fun i _=>?_
 show iq 1 h (if i=k then AV.own jd N else .t N 1 (tab N fun j=> .v (.int .i64 (vs i j))))= .t N 1 (tab N fun j=> .v (.int .i64 (if i=k then w j else vs i j)));by_cases q:i=k
 ·simp only [if_pos q];exact hr
 ·simp only [if_neg q];rfl
theorem RG (x:Par) (hx:nM x) (hlen:x.ch.length≤140737488351232) (vP: ∀ q,q∈x.ch→q<4294967296) (c:Ci) (h:Fj c) (m:Nat) (ln:Nat→Nat) (vs:Nat→Nat→Int) (ns:Nat) (sl:Nat→Int) (a b:Int) (hm:m≤140737488351232) (hln: ∀ i,i<m→ln i≤140737488351232) (hn:ns≤140737488351232)
  (ha: -9223372036854775808≤a∧a≤9223372036854775807) (hb2: -9223372036854775808≤b∧b≤9223372036854775807):TC Tryz.prog 13 [.g (dA x), .g (ciC c), .g [vsA m ln vs,roA ns sl, .v (.int .i64 a), .v (.int .i64 b)]] (.v (.bool true)):=by
 have hCg:=uS c;have hPg:Clo (.g (dA x)):= .g (dY x);have hFg:=jW ns sl;have hVg:Clo (vsA m ln vs):=MP m ln vs;have TB:=Rk x hx c h ns sl hn;have TG:TC Tryz.prog 31 [vsA m ln vs] _:=Rh m ln vs hm hln;have hB:b38 x c ns=(decide ((x.ch.length:Int)>100) || (Aw c 10000 || (xZ x.p c || decide ((ns:Int)>100)))):=rfl;have hG:grB m ln=(bf m (fun i=>decide (100<ln i)) || decide (50<m)):=rfl;obtain ⟨CH,hCH⟩: ∃ CH,CH=x.ch.map fun (c:Nat)=>AV.v (.int .u32 c):=⟨_,rfl⟩
 have hP7:dA x=[.v (.int .i64 x.n), .v (.int .u32 x.p), .v (.int .i64 x.r), .t x.ch.length 1 CH, .v (.int .u32 x.sp), .v (.int .i64 x.wt), .v (.int .u32 x.er)]:=by rw [hCH];rfl
 generalize b38 x c ns=B at*;generalize grB m ln=G at*;refine Wv.TC.by 149 [0,1,2,19,3,4,5,29,8,10,51,7,12,11,9,84,92,14,13,116,15,16,6] [(14,14),(19,15),(3000019,16)] [.tmp 6] Tryz.func13 rfl rfl rfl ?clo ?_
 case clo=>simp only [Wv.BC]
 refine Wv.W ?_;refine aA MR rfl Wv.c Wv.c ?_;cases B with
 | true=>
  rw [hP7] at TB hPg ⊢;unfold ciC cZ vsA vcA roA at*;refine Wv.W ?_;refine aA TB rfl (oZ hPg hCg hFg) Wv.c ?_;exact Wv.V
 | false=>
 obtain ⟨_,hb,_,hn1⟩: ¬ ((x.ch.length:Int)>100)∧Aw c 10000=false∧xZ x.p c=false∧ ¬ ((ns:Int)>100):=by
  have hB:=hB.symm;simp only [Bool.or_eq_false_iff,decide_eq_false_iff_not] at hB;exact hB
 cases G with
 | true=>
  rw [hP7] at TB hPg ⊢;unfold ciC cZ vsA vcA roA at*;refine Wv.W ?_;refine aA TB rfl (oZ hPg hCg hFg) Wv.c ?_;refine Wv.W ?_;refine aA TG rfl (gY hVg) Wv.c ?_;exact Wv.V
 | false=>
 have alx:m≤50:=by
  have hG:=hG.symm;rw [Bool.or_eq_false_iff] at hG;have:=of_decide_eq_false hG.2;omega
 obtain ⟨hok,hnl,hcn⟩:=VY h (by omega) (by omega) hb;have TT:=Ew x hx hlen vP c hok;have hqO:=vN (me:=bQ ak x x.r) (c:=c) (ru:=ruA x (bK ak x x.r));have hgD:=agv (x:=x) (me:=bQ ak x x.r) (t:=bK ak x x.r) hok;have hgM:=agF (x:=x) (me:=bQ ak x x.r) (t:=bK ak x x.r) (c:=c);have EV:=X7 x hx hlen vP c hok;have hgC:=fun N vs (hxN:x.n=(N:Nat))=>acT (me:=bQ ak x x.r) (t:=bK ak x x.r) (N:=N) (vs:=vs) hxN hok
 have TM:=J7 x x.r hx hlen vP;have hmo:= @OE x;generalize iK (bQ ak x x.r) c (ruA x (bK ak x x.r))=q at*;obtain ⟨s1,at1,e1⟩:=q;by_cases he:e1=0;rotate_left
 ·have C:=JU x c e1 at1 s1 he TT ns sl;have E:=Q7 x c e1 at1 s1 he TT m ln vs;rw [hP7] at TB hPg C E ⊢;unfold ciC cZ vsA vcA roA at*;refine Wv.W ?_;refine aA TB rfl (oZ hPg hCg hFg) Wv.c ?_;refine Wv.W ?_;refine aA TG rfl (gY hVg) Wv.c ?_;refine Wv.W ?_;refine aA C rfl (oZ hPg hCg hFg) Wv.c ?_;refine Wv.W ?_;refine aA E rfl (oZ hPg hCg hVg) Wv.c ?_;simp (disch:=first|exact Wv.D|fail) only [Wv.B,simprocAttr,aj he]
 subst he;have hgD:=hgD rfl;have hgM:=hgM rfl;have hm0:=(hqO rfl).1;obtain ⟨ht3,hto,aly⟩:=hmo hm0;obtain ⟨N,hxN,hN4,Rz,hN2⟩:=XK hm0;rw [hm0] at TM;have EV:=fun m ln vs h1 h2=>EV N hxN hN4 Rz hN2 rfl m ln vs h1 h2
 have hgC:=fun vs=>hgC N vs hxN rfl
 generalize bK ak x x.r=t at*;have TN:=QD N c hN4 Rz hN2 hok hgD;have hV:=agO hN4 hN2 hgD;have alg:=fun A v w=>ab5 (N:=N) (t:=(t:Int)) (A:=A) (v:=v) (w:=w) hN4 hN2 hgD hgM
 generalize ndF N c=V at*;have CC:=fun n f hn A hA=>ML x c N at1 s1 hxN Rz V hV TT TN n f hn A hA
 have E1:=EV m ln vs (by omega) hln;cases hasc:wO N ns sl with
 | false=>
  have C:=CC ns sl hn 0 fun q=>by rw [hasc] at q;cases q
  rw [hasc] at C;unfold acA at C;rw [if_neg (by decide),if_neg (by decide)] at C;obtain ⟨R,f,hR,hRc⟩: ∃ R f,oU N t 0 c m ln vs= .tup [R, .v (.int .i64 f)]∧Clo R:=by
   rcases CJ (N:=N) (t:=t) (c:=c) (m:=m) (ln:=ln) (vs:=vs) hN4 with e | ⟨_,_,e⟩
   ·exact ⟨_,_,e, .v _⟩
   ·exact ⟨_,_,e,MP _ _ _⟩
  rw [hR] at E1;rw [hP7] at TB hPg C E1 ⊢;unfold ciC cZ vsA vcA roA at*;refine Wv.W ?_;refine aA TB rfl (oZ hPg hCg hFg) Wv.c ?_;refine Wv.W ?_;refine aA TG rfl (gY hVg) Wv.c ?_;refine Wv.W ?_;refine aA C rfl (oZ hPg hCg hFg) Wv.c ?_;refine Wv.W ?_;refine aA E1 rfl (oZ hPg hCg hVg) (by simp only [Wv.BC];exact hRc) ?_;exact Wv.V
 | true=>
 have hr:=fun i (hi:i<ns)=>zf hasc hi
 obtain ⟨A,hA⟩:=agw hV (2 ^ N) (sF sl ns) (XL hr) (Nat.sub_le _ _);have C1:=CC ns sl hn A fun _=>hA
 rw [hasc] at C1;unfold acA at C1;rw [if_pos rfl,if_pos rfl] at C1;have hL1:=jW (lsN A 32).length (slF A);have agG:=X6 A;rcases CJ (N:=N) (t:=t) (c:=c) (m:=m) (ln:=ln) (vs:=vs) hN4 with e | ⟨hmi,Yl,e⟩
 ·rw [e] at E1;generalize (lsN A 32).length=k at*;generalize slF A=g at*;rw [hP7] at TB hPg C1 E1 ⊢;unfold ciC cZ vsA vcA roA at*;refine Wv.W ?_;refine aA TB rfl (oZ hPg hCg hFg) Wv.c ?_;refine Wv.W ?_;refine aA TG rfl (gY hVg) Wv.c ?_;refine Wv.W ?_;refine aA C1 rfl (oZ hPg hCg hFg) Wv.c ?_;refine Wv.W ?_;refine aA E1 rfl (oZ hPg hCg hVg) Wv.c ?_;by_cases hk0:k=0
  ·simp (disch:=first|exact Wv.D|fail) only [Wv.B,simprocAttr,ah (show (k:Int)=0 by omega)]
  ·simp (disch:=first|exact Wv.D|fail) only [Wv.B,simprocAttr,aj (show ¬ (k:Int)=0 by omega)]
 rw [e] at E1;rw [Q8 fun i hi=>(Yl i hi).1] at TG E1 hVg ⊢;have Yl:=fun i hi=>(Yl i hi).2
 subst hmi;have hno:c.no≤8:=hgD.2;have acY:=Ov hA.lt;have C2:=CC (lsN A 32).length (slF A) (by omega) A fun _=>Yc hA Rz
 rw [acY] at C2;unfold acA at C2;rw [if_pos rfl,if_pos rfl] at C2;have E3:=EV c.ni (fun _=>N) (fun i=>onF (lsN A 32).length (slF A) (vs i)) (by omega) fun _ _=>by omega
 rw [Ri fun i hi=>agH (by omega) hN4 (Yl i hi)] at E3;have hsl:=fun q (hq:q<(lsN A 32).length)=>zf acY hq
 have X:=MO x c N c.ni c.no (lsN A 32).length vs _ _ (slF A) (by omega) (by omega) Rz (by omega) hsl E1 C2 E3;have hin:=fun q j hq hj=>agK (N:=N) (t:=(t:Int)) (c:=c) (vs:=vs) (q:=q) (j:=j) (by omega) (by omega) (hgC vs) Yl hq hj
 have hsame: ∀ i,i<c.no→ ∀ q,q<(lsN A 32).length→onF (lsN A 32).length (slF A) (qy N t c (fun i=>onF (lsN A 32).length (slF A) (vs i)) i) (slF A q).toNat=qy N t c vs i (slF A q).toNat:=fun i hi q hq=>by
  obtain ⟨j,e2,h32,hbit⟩:=vS hq;rw [acW hq (by omega),e2,Int.toNat_natCast];exact alg A _ _ hA.clo (fun i hi j hj=>agJ (by have:=qx hA.lt hj;omega) hj) hi (qx hA.lt hbit) hbit
 have hget:=fun q (hq:q<(lsN A 32).length)=>vS hq
 have hbl:=fun j=> qx (j:=j) hA.lt
 generalize qy N t c (fun i=>onF (lsN A 32).length (slF A) (vs i))=o2 at*;generalize qy N t c vs=o1 at*;have J1:TC Tryz.prog 51 [vsA c.no (fun _=>N) fun i=>onF (lsN A 32).length (slF A) (o2 i),vsA c.no (fun _=>N) o1,roA (lsN A 32).length (slF A)] _:=EG c.no (fun _=>N) (fun i=>onF (lsN A 32).length (slF A) (o2 i)) c.no (fun _=>N) o1 (lsN A 32).length (slF A) (by omega) (by omega) (by omega) (fun _ _=>by omega) fun _ _=>by omega
 rw [GN fun i hi=>acV hsl hi fun q hq=>hsame i hi q hq] at J1;generalize (lsN A 32).length=k at*;generalize slF A=g at*;generalize hW:(fun i=>onF k g (o2 i))=W at*;have hsame:=fun i hi q hq=>(congrFun (congrFun hW i) (g q).toNat).symm.trans (hsame i hi q hq)
 rw [hP7] at TB hPg C1 E1 X TM ⊢;unfold ciC cZ vsA vcA roA at*;refine Wv.W ?_;refine aA TB rfl (oZ hPg hCg hFg) Wv.c ?_;refine Wv.W ?_;refine aA TG rfl (gY hVg) Wv.c ?_;refine Wv.W ?_;refine aA C1 rfl (oZ hPg hCg hFg) Wv.c ?_;refine Wv.W ?_;refine aA E1 rfl (oZ hPg hCg hVg) Wv.c ?_;refine Wv.W ?_;refine aA X rfl (List.forall_mem_cons.2 ⟨hPg,oZ hCg hVg hL1⟩) Wv.c ?_;refine Wv.W ?_;refine aA J1 rfl Wv.c Wv.c ?_;by_cases hk0:k=0
 ·simp (disch:=first|exact Wv.D|fail) only [Wv.B,simprocAttr,ah (show (k:Int)=0 by omega)]
 by_cases alz:c.no=0
 ·simp (disch:=first|exact Wv.D|fail) only [Wv.B,simprocAttr,aj (show ¬ (k:Int)=0 by omega),ah (show (c.no:Int)=0 by omega)]
 obtain ⟨k1,hk1⟩: ∃ k1:Nat,a % (c.no:Int)=k1:=⟨(a % (c.no:Int)).toNat,by have:=Int.emod_nonneg a (show (c.no:Int)≠0 by omega);omega⟩
 obtain ⟨k2,hk2⟩: ∃ k2:Nat,b % (k:Int)=k2:=⟨(b % (k:Int)).toNat,by have:=Int.emod_nonneg b (show (k:Int)≠0 by omega);omega⟩
 have ag1:k1<c.no:=by have:=Int.emod_lt_of_pos a (show (0:Int)<c.no by omega);omega
 have ag2:k2<k:=by have:=Int.emod_lt_of_pos b (show (0:Int)<k by omega);omega
 have P1:=JW a c.no (by omega) (by omega) ha;have P2:=JW b k (by omega) (by omega) hb2;rw [hk1] at P1;rw [hk2] at P2;obtain ⟨s,hs,_,hsb⟩:=hget k2 ag2;have hsN:=hbl s hsb;simp (disch:=first|exact Wv.D|fail) only [Wv.B,simprocAttr,aj (show ¬ (k:Int)=0 by omega),aj (show ¬ (c.no:Int)=0 by omega)];refine iG P1 (dZ rfl (dZ rfl nT)) Wv.c Wv.c ?_;refine Wv.W ?_;refine iG P2 (dZ rfl (dZ rfl nT)) Wv.c Wv.c ?_;simp (disch:=first|exact Wv.D|fail) only [Wv.B,simprocAttr,hs,aj (show ¬ (s:Int)<0 by omega),aj (show ¬ (s:Int)≥N by omega)];have HC:=GR [.v (.int .i64 x.n), .v (.int .u32 x.p), .v (.int .i64 x.r), .t x.ch.length 1 CH, .v (.int .u32 x.sp), .v (.int .i64 x.wt), .v (.int .u32 x.er)] [.v (.string c.name), .t c.ni 1 (tab c.ni fun i=> .v (.string (c.fi i))), .t c.nl 6 c.lets, .t c.no 1 (tab c.no fun i=> .v (.string (c.fo i)))]
  [.t c.ni 1 (tab c.ni fun i=> .t N 1 (tab N fun j=> .v (.int .i64 (vs i j)))), .t ns 1 (tab ns fun j=> .v (.int .i64 (sl j))), .v (.int .i64 a), .v (.int .i64 b)] (by intro a ha;cases hPg with | g h=>exact h a ha) (by intro a ha;cases hCg with | g h=>exact h a ha) Wv.c N c.no k1 o1 (by omega) Rz ag1
 unfold vsA vcA at HC;refine bZ (fst:=[]) (cap:=[]) HC ?_;rintro av h' ⟨rfl,rfl⟩;refine Wv.W ?_;refine aA TM rfl (KR hPg (.v _)) Wv.c ?_;have hv1:=hin k1 s ag1 hsN;have BL:=ab6 t (o1 k1 s+1) (by omega) (by omega) (by omega);have hne:=aj2 (t:=(t:Int)) (v:=o1 k1 s) (by omega);have hset:(tab N fun j=>if j=s then AV.v (.int .i64 (rbN t (o1 k1 s+1))) else .v (.int .i64 (o1 k1 j)))=tab N fun j=> .v (.int .i64 (if j=s then rbN t (o1 k1 s+1) else o1 k1 j)):=aC fun j _=>by split<;>rfl
 have J2:TC Tryz.prog 51 [vsA c.no (fun _=>N) W,vsA c.no (fun _=>N) fun i j=>if i=k1 then (if j=s then rbN t (o1 k1 s+1) else o1 k1 j) else o1 i j,roA k g] _:=EG c.no (fun _=>N) W c.no (fun _=>N) (fun i j=>if i=k1 then (if j=s then rbN t (o1 k1 s+1) else o1 k1 j) else o1 i j) k g (by omega) (by omega) (by omega) (fun _ _=>by omega) fun _ _=>by omega
 rw [X9 ag1 fun i hi=>by
  by_cases q:i=k1
  ·subst q;rw [ah rfl];refine agI (q:=k2) hsl hi ag2 ?_;rw [hsame i hi k2 ag2,hs,Int.toNat_natCast,if_pos rfl,if_pos rfl];exact fun w=>hne w.symm
  ·rw [aj q];refine acV hsl hi fun q2 hq2=>?_
   rw [hsame i hi q2 hq2,if_neg q]] at J2
 have SI:TC Tryz.prog 50 [.t 1 1 [.v (.int .i64 k1)], .t 1 1 [.v (.int .i64 k1)]] _:=Rf 1 (fun _=>k1) (by omega);generalize rbN t (o1 k1 s+1)=z at*;unfold vsA vcA roA at J2;refine Wv.W ?_;refine iG BL (dZ rfl (dZ rfl nT)) Wv.c Wv.c ?_;simp (disch:=first|exact Wv.D|fail) only [Wv.B,simprocAttr,dF,hset];refine abH (args2:=[.t c.no 1 (tab c.no fun i=> .t N 1 (tab N fun j=> .v (.int .i64 (W i j)))), .t c.no 1 (tab c.no fun i=> .t N 1 (tab N fun j=> .v (.int .i64 (if i=k1 then (if j=s then z else o1 k1 j) else o1 i j)))), .t k 1 (tab k fun j=> .v (.int .i64 (g j)))]) 2 J2 ?hv ?hw ?hc ?hres ?hK
 case hv=>
  exact List.cons_eq_cons.2 ⟨rfl,List.cons_eq_cons.2 ⟨Nc rfl eU rfl,rfl⟩⟩
 case hw=>exact ⟨Wk.refl _,Wk.refl _,Wk.refl _,trivial⟩
 case hc=>simp only [Wv.BC]
 case hres=>simp only [Wv.BC]
 case hK=>
 refine Wv.W ?_;refine aA SI rfl Wv.c Wv.c ?_;exact Wv.V
end
end Go.Proofs.YtljfgdlgmdcmfaaGreat
