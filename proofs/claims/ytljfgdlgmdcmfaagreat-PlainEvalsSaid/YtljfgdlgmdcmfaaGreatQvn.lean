/- Parts of a proof. -/
import Derived.Test.YtljfgdlgmdcmfaaGreatQvk
import Derived.Test.YtljfgdlgmdcmfaaGreatQvm
import Derived.Test.YtljfgdlgmdcmfaaGreatQvh
import Derived.Test.YtljfgdlgmdcmfaaGreatQvi
import Derived.Test.YtljfgdlgmdcmfaaGreatQvg
import Derived.Test.YtljfgdlgmdcmfaaGreatQvj
set_option linter.unusedVariables false
set_option linter.unusedSimpArgs false
set_option maxHeartbeats 1600000
set_option maxRecDepth 100000
namespace Go.Proofs.YtljfgdlgmdcmfaaGreat
section
open Go.RowKit Wv
def rbN (t n:Int):Int:=if (t - 1) / 2<((n.tmod t)+t).tmod t then ((n.tmod t)+t).tmod t - t else ((n.tmod t)+t).tmod t
theorem aaj {t n:Int} (ht:3≤t) (ho:t % 2=1): -((t - 1) / 2)≤rbN t n∧rbN t n≤(t - 1) / 2:=by
 have h1:=tmod_in (n:=n) ht;have h2:=Int.tmod_nonneg (a:=n.tmod t+t) t (by omega);have h3:=Int.tmod_lt_of_pos (n.tmod t+t) (show 0<t by omega);unfold rbN;generalize (n.tmod t+t).tmod t=m at*;split<;>omega
theorem QT (t n:Int) (ht:3≤t) (ht':t≤2147483647) (hn: -9223372036854775808≤n∧n≤9223372036854775807):TC Tryz.prog 38 [.v (.int .i64 t), .v (.int .i64 n)] (.v (.int .i64 (rbN t n))):=by
 have hq:(t - 1).tdiv 2=(t - 1) / 2:=Int.tdiv_eq_ediv_of_nonneg (by omega);have h1:=tmod_in (n:=n) ht;have hB:rbN t n=if (t - 1) / 2<((n.tmod t)+t).tmod t then ((n.tmod t)+t).tmod t - t else ((n.tmod t)+t).tmod t:=rfl
 have h2:=Int.tmod_nonneg (a:=n.tmod t+t) t (by omega);have h3:=Int.tmod_lt_of_pos (n.tmod t+t) (show 0<t by omega);generalize rbN t n=B at*;refine Wv.TC.by 21 [1,0,16,4] [] [.tmp 4] Tryz.func38 rfl rfl rfl ?clo ?_
 case clo=>simp only [Wv.BC]
 generalize hm:n.tmod t=m at*;generalize hk:(m+t).tmod t=k at*;by_cases c:(t - 1) / 2<k
 ·rw [if_pos c] at hB;refine Wv.W4 hm hk hq (ah c) ?_;rw [hB]
 ·rw [if_neg c] at hB;refine Wv.W4 hm hk hq (aj c) ?_;rw [hB]
theorem aak {t n:Int} (ht:3≤t) (ho:t % 2=1):rbN t n=lT t n:=by
 have h1:=tmod_in (n:=n) ht;unfold rbN lT;generalize n.tmod t=r at*;have h2:(r+t).tmod t=if 0≤r then r else r+t:=by
  by_cases c:0≤r
  ·rw [if_pos c,Int.tmod_eq_emod_of_nonneg (by omega),Int.add_emod_right,Int.emod_eq_of_lt c h1.2]
  ·rw [if_neg c,Int.tmod_eq_emod_of_nonneg (by omega),Int.emod_eq_of_lt (by omega) (by omega)]
 rw [h2];by_cases c:0≤r
 ·rw [if_pos c];by_cases c2:(t - 1) / 2<r
  ·rw [if_pos c2,if_pos c2]
  ·rw [if_neg c2,if_neg c2,if_neg (by omega)]
 ·rw [if_neg c,if_neg (show ¬ (t - 1) / 2<r by omega)];by_cases c2:r< -((t - 1) / 2)
  ·rw [if_pos c2,if_neg (by omega)]
  ·rw [if_neg c2,if_pos (by omega)];omega
def vk (N:Nat) (t:Int) (n:Nat) (f:Nat→Int):Bool:=!aI n (fun i=>decide (f i< -((t - 1) / 2)) || decide ((t - 1) / 2<f i)) && decide (n=N)
theorem aeO (N:Nat) (t:Int) (n:Nat) (f:Nat→Int) (ht:3≤t) (ho:t % 2=1) (ht':t≤2147483647) (hn:n≤140737488351232) (hN:N≤32):TC Tryz.prog 81 [.v (.int .i64 N), .v (.int .i64 t),vcA n f] (.v (.bool (vk N t n f))):=by
 have hv:vk N t n f=(!aI n (fun i=>decide (f i< -((t - 1) / 2)) || decide ((t - 1) / 2<f i)) && decide (n=N)):=rfl;generalize vk N t n f=B at*;have q1:(t - 1).tdiv 2=(t - 1) / 2:=Int.tdiv_eq_ediv_of_nonneg (by omega);have q2:(-(t - 1)).tdiv 2= -((t - 1) / 2):=by rw [Int.neg_tdiv,q1]
 have q3:(0 - (t - 1)).tdiv 2= -((t - 1) / 2):=by rw [Int.zero_sub,q2]
 unfold vcA;refine Wv.TC.by 37 [7,2,11,1,32,0,6] [] [.tmp 6] Tryz.func81 rfl rfl rfl ?clo ?_
 case clo=>simp only [Wv.BC]
 refine Wv.W ?_;refine aQ (σ:=Nat) (fun i=>[(0, .v (.int .i64 N)),(1, .v (.int .i64 t)),(2, .t n 1 (tab n fun j=> .v (.int .i64 (f j)))),(7, .v (.int .i64 i))]) (fun _=>[]) (fun i=>i≤n∧aI i (fun i=>decide (f i< -((t - 1) / 2)) || decide ((t - 1) / 2<f i))=false) (fun i=>n - i) 0 ⟨Nat.zero_le _,rfl⟩ Wv.V Wv.V ?_;rintro i ⟨hi,hb⟩;have hs: ∀ (p:Nat→Bool) (n:Nat),aI (n+1) p=(aI n p || p n):=fun p n=>by
  unfold aI;rw [List.range_succ,List.any_append];simp
 by_cases hlt:i<n
 ·have e1:(i:Int)<n:=by omega
  have hbad:(decide (f i< -((t - 1) / 2)) || decide ((t - 1) / 2<f i))=true→B=false:=fun q=>by
   rw [hv];have:aI n (fun i=>decide (f i< -((t - 1) / 2)) || decide ((t - 1) / 2<f i))=true:=by
    unfold aI;exact List.any_eq_true.2 ⟨i,List.mem_range.2 hlt,q⟩
   rw [this];rfl
  by_cases c1:f i< -((t - 1) / 2)
  ·have hB:=hbad (by rw [ah c1];rfl);refine Wv.W5 (ah e1) q1 q2 q3 (ah c1) ?_;rw [hB]
  ·by_cases c2:(t - 1) / 2<f i
   ·have hB:=hbad (by rw [ah c2];simp);simp (disch:=first|exact Wv.D|fail) only [Wv.B,simprocAttr,ah e1,q1,q2,q3,aj c1,ah c2,ah (show f i>(t - 1) / 2 from c2)];rw [hB]
   ·simp (disch:=first|exact Wv.D|fail) only [Wv.B,simprocAttr,ah e1,q1,q2,q3,aj c1,aj c2,aj (show ¬ f i>(t - 1) / 2 from c2)];refine au (i+1) ⟨by omega,by rw [hs,hb,aj c1,aj c2];rfl⟩ (by omega) rfl Wv.V2
 ·obtain rfl:i=n:=by omega
  have hB:decide ((i:Int)=N)=B:=by
   rw [hv,hb];by_cases c:i=N
   ·rw [ah c,ah (by omega)];rfl
   ·rw [aj c,aj (by omega)];rfl
  exact Wv.V3 @Int.lt_irrefl @decide_false hB
theorem UY (N j:Nat) (n:Int) (hN:4≤N) (hN2:N≤32) (hj:j<N) (hn:0≤n) (hn':n≤4294967296):TC Tryz.prog 86 [.v (.int .i64 N), .v (.int .i64 j), .v (.int .i64 n)] (.v (.int .i64 (IY N n j:Nat))):=by
 obtain ⟨m,rfl⟩: ∃ m:Nat,n=m:=⟨n.toNat,by omega⟩
 have a1:(N:Int).tdiv 2=((N / 2:Nat):Int):=rfl;have a2:(j:Int).tdiv ((N / 2:Nat):Int)=((j / (N / 2):Nat):Int):=rfl;have hle:j / (N / 2)*(N / 2)≤j:=Nat.div_mul_le_self _ _;have a3:((j / (N / 2):Nat):Int)*((N / 2:Nat):Int)=((j / (N / 2)*(N / 2):Nat):Int):=(Int.natCast_mul _ _).symm;have a4:(j:Int) - ((j / (N / 2)*(N / 2):Nat):Int)=((j % (N / 2):Nat):Int):=by
  have:=Nat.div_add_mod j (N / 2);rw [Nat.mul_comm] at this;omega
 have a5:(((j % (N / 2):Nat):Int)+(m:Int)).tmod ((N / 2:Nat):Int)=(((j % (N / 2)+m) % (N / 2):Nat):Int):=rfl;have hr:IY N m j=j / (N / 2)*(N / 2)+(j % (N / 2)+m) % (N / 2):=by unfold IY;rw [Int.toNat_natCast]
 have hm1:j % (N / 2)<N / 2:=Nat.mod_lt _ (by omega);have hm2:(j % (N / 2)+m) % (N / 2)<N / 2:=Nat.mod_lt _ (by omega);have hh:2≤N / 2:=by omega
 have hh2:N / 2≤16:=by omega
 have hq:j / (N / 2)≤32:=by have:=Nat.div_le_self j (N / 2);omega
 rw [hr];generalize hx:j / (N / 2)*(N / 2)=X at*;generalize hy:(j % (N / 2)+m) % (N / 2)=Y at*;generalize hz:j % (N / 2)=Z at*;generalize hw:j / (N / 2)=W at*;generalize hu:N / 2=U at*;refine Wv.TC.by 25 [1,0,7,2,6] [] [.tmp 6] Tryz.func86 rfl rfl rfl ?clo ?_
 case clo=>simp only [Wv.BC]
 refine Wv.W5 a1 a2 a3 a4 a5 ?_;rw [Int.natCast_add]
theorem UZ (N j:Nat) (hN:4≤N) (hN2:N≤32) (hj:j<N):TC Tryz.prog 87 [.v (.int .i64 N), .v (.int .i64 j)] (.v (.int .i64 ((j+N / 2) % N:Nat))):=by
 have a1:(N:Int).tdiv 2=((N / 2:Nat):Int):=rfl;have a2:((j:Int)+((N / 2:Nat):Int)).tmod (N:Int)=(((j+N / 2) % N:Nat):Int):=rfl;generalize hu:N / 2=U at*;refine Wv.TC.by 11 [1,0,4] [] [.tmp 4] Tryz.func87 rfl rfl rfl ?clo ?_
 case clo=>simp only [Wv.BC]
 exact Wv.V2f a1 a2
theorem aja (n:Nat) (f:Nat→Int) (j:Nat) (hn:n≤140737488351232) (hj:j≤32):TC Tryz.prog 191 [vcA n f, .v (.int .i64 j)] (.v (.int .i64 (uZ n f j))):=by
 have hp:uZ n f j=if j<n then f j else 0:=rfl
 generalize uZ n f j=v at*;unfold vcA;refine Wv.TC.by 13 [1,0,8,4] [] [.tmp 4] Tryz.func191 rfl rfl rfl ?clo ?_
 case clo=>simp only [Wv.BC]
 by_cases c:j<n
 ·rw [if_pos c] at hp;refine Wv.W1 (ah (show (j:Int)<n by omega)) ?_;rw [hp]
 ·rw [if_neg c] at hp;refine Wv.W1 (aj (show ¬ (j:Int)<n by omega)) ?_;rw [hp]
theorem QU (b:Bool):TC Tryz.prog 192 [.v (.bool b)] (.v (.int .i64 (if b=true then 1 else 0))):=by
 refine Wv.TC.by 4 [0,3,2] [] [.tmp 2] Tryz.func192 rfl rfl rfl ?clo ?_
 case clo=>simp only [Wv.BC]
 cases b<;>simp (disch:=first|exact Wv.D|fail) only [Wv.B,simprocAttr]
def rpw (t a:Int):Nat→Int
 | 0=>1
 | k+1=>rbN t (rpw t a k*a)
theorem O5 {t a:Int} (ht:3≤t) (ho:t % 2=1): ∀ k, -((t - 1) / 2)≤rpw t a k∧rpw t a k≤(t - 1) / 2
 | 0=>by show _≤(1:Int)∧(1:Int)≤_;omega
 | k+1=>aaj ht ho
theorem aeP (t a:Int) (k:Nat) (ht:3≤t) (ho:t % 2=1) (ht':t≤2147483647) (ha: -((t - 1) / 2)≤a∧a≤(t - 1) / 2) (hk:k≤4294967296):TC Tryz.prog 193 [.v (.int .i64 t), .v (.int .i64 a), .v (.int .i64 k)] (.v (.int .i64 (rpw t a k))):=by
 refine Wv.TC.by 20 [8,2,11,0,7,1,6] [] [.tmp 6] Tryz.func193 rfl rfl rfl ?clo ?_
 case clo=>simp only [Wv.BC]
 refine Wv.W ?_;refine aQ (σ:=Nat) (fun i=>[(0, .v (.int .i64 t)),(1, .v (.int .i64 a)),(2, .v (.int .i64 k)),(7, .v (.int .i64 (rpw t a i))),(8, .v (.int .i64 i))]) (fun _=>[]) (fun i=>i≤k) (fun i=>k - i) 0 (Nat.zero_le _) Wv.V (by simp (disch:=first|exact Wv.D|fail) only [Wv.B,simprocAttr,rpw]) ?_;intro i hi;by_cases hlt:i<k
 ·have e1:(i:Int)<k:=by omega
  have hp:=O5 (a:=a) ht ho i;have hm:=yR ht' hp ha;have T:=QT t (rpw t a i*a) ht ht' (by omega);have hs:rbN t (rpw t a i*a)=rpw t a (i+1):=rfl;rw [hs] at T;refine Wv.W1 (ah e1) ?_;refine ak T rfl Wv.c Wv.c ?_;refine Wv.W ?_;refine au (i+1) (by omega) (by omega) rfl Wv.V2
 ·obtain rfl:i=k:=by omega
  exact Wv.V2f @Int.lt_irrefl @decide_false
end
section
open Go.RowKit Wv
end
section
open Go.RowKit Wv
theorem U0 (n:Nat) (f:Nat→Int) (hn:n≤140737488351232):TC Tryz.prog 45 [vcA n f,vcA n f] (.v (.bool true)):=by
 unfold vcA;refine Wv.TC.by 26 [0,1,10,5,14,25,4] [(6,8)] [.tmp 4] Tryz.func45 rfl rfl rfl ?clo ?_
 case clo=>simp only [Wv.BC]
 refine Wv.W ?_;refine aQ (σ:=Nat) (fun i=>[(0, .t n 1 (tab n fun j=> .v (.int .i64 (f j)))),(1, .t n 1 (tab n fun j=> .v (.int .i64 (f j)))),(5, .v (.int .i64 i))]) (fun _=>[]) (fun i=>i≤n) (fun i=>n - i) 0 (Nat.zero_le _) Wv.V Wv.V ?_;intro i hi;by_cases hlt:i<n
 ·have e1:(i:Int)<n:=by omega
  refine Wv.W1 (ah e1) ?_;refine au (i+1) (by omega) (by omega) rfl Wv.V2
 ·obtain rfl:i=n:=by omega
  exact Wv.V2f @Int.lt_irrefl @decide_false
theorem vw (m:Nat) (ln:Nat→Nat) (vs:Nat→Nat→Int) (hm:m≤140737488351232) (hl: ∀ i,i<m→ln i≤140737488351232):TC Tryz.prog 35 [vsA m ln vs,vsA m ln vs] (.v (.bool true)):=by
 unfold vsA vcA;refine Wv.TC.by 33 [5,0,1,15,27,4] [(4,8)] [.tmp 4] Tryz.func35 rfl rfl rfl ?clo ?_
 case clo=>simp only [Wv.BC]
 refine Wv.W ?_;refine aQ (σ:=Nat) (fun i=>[(0, .t m 1 (tab m fun i=> .t (ln i) 1 (tab (ln i) fun j=> .v (.int .i64 (vs i j))))),(1, .t m 1 (tab m fun i=> .t (ln i) 1 (tab (ln i) fun j=> .v (.int .i64 (vs i j))))),(5, .v (.int .i64 i))]) (fun _=>[]) (fun i=>i≤m) (fun i=>m - i) 0 (Nat.zero_le _) Wv.V Wv.V ?_;intro i hi;by_cases hlt:i<m
 ·have e1:(i:Int)<m:=by omega
  have T:=U0 (ln i) (vs i) (hl i hlt);unfold vcA at T;refine Wv.W1 (ah e1) ?_;refine ak T rfl Wv.c Wv.c ?_;refine Wv.W ?_;refine au (i+1) (by omega) (by omega) rfl Wv.V2
 ·obtain rfl:i=m:=by omega
  exact Wv.V2f @Int.lt_irrefl @decide_false
theorem U1 (m:Nat) (ln:Nat→Nat) (vs:Nat→Nat→Int) (hm:m≤1000) (hl: ∀ i,i<m→ln i≤1000):TC Tryz.prog 32 [vsA m ln vs] (vsA m ln vs):=by
 unfold vsA vcA;refine Wv.TC.by 21 [4,0,8,3,2] [] [.tmp 2] Tryz.func32 rfl rfl rfl ?clo ?_
 case clo=>simp only [Wv.BC]
 refine Wv.W ?_;refine jU (σ:=Nat) (fun i=>[(0, .t m 1 (tab m fun i=> .t (ln i) 1 (tab (ln i) fun j=> .v (.int .i64 (vs i j))))),(3, .own 0 i),(4, .v (.int .i64 i))])
  (fun i=>[some (.arr 43 1 (tab i fun a=> .t (ln a) 1 (tab (ln a) fun j=> .v (.int .i64 (vs a j)))) 0)])
  (fun i=>i≤m) (fun i=>m - i) 0 (Nat.zero_le _) ?_ ?_
 ·refine Ent.trans (Ent.nil 3 43 1 (by omega) rfl) (Ent.fit ?_);exact Wv.V
 intro i hi;by_cases hlt:i<m
 ·have e1:(i:Int)<m:=by omega
  have hli:=hl i hlt;have hap: ∀ (L:List AV) (x y:AV),L.length=i→(L++[x]).set i y=L++[y]:=fun L x y hL=>by
   rw [List.set_append_right i _ (by rw [hL];exact Nat.le_refl _),hL,Nat.sub_self];rfl
  have hge: ∀ (L:List AV) (x:AV),L.length=i→(L++[x])[i]? =some x:=fun L x hL=>by
   rw [List.getElem?_append_right (by rw [hL];exact Nat.le_refl _),hL,Nat.sub_self];rfl
  refine Wv.W1 (ah e1) ?_;refine NJ (i+1) (Ent.trans (Ent.Zb 0 i (a:= .own 1 (ln i)) (a':= .t (ln i) 1 (tab (ln i) fun j=> .v (.int .i64 (vs i j)))) rfl (hge _ _ iC) (if_pos (by rw [iC,Nat.mul_one])) rfl) (Ent.Iz 1 (by first | decide | exact Nat.le_of_ble_eq_true rfl) ?_ ?_ ?_ ?_)) (show i+1≤m by omega) (by omega)
  ·exact Wv.V2f @Int.natCast_add @Int.natCast_one
  ·simp only [Wv.BL, ↓reduceIte,Nat.reduceLeDiff]<;>omega
  ·simp only [List.set_cons_succ,List.set_cons_zero,List.take_succ_cons,List.take_zero,hap _ _ _ iC,bJ]
  ·simp only [Wv.BL, ↓reduceIte,Nat.reduceLeDiff]<;>omega
 ·obtain rfl:i=m:=by omega
  exact Wv.V2f @Int.lt_irrefl @decide_false
end
section
open Go.RowKit Wv
theorem U2:TC Tryz.prog 175 [] (bG 12 w12):=by
 have e:bG 12 w12= .t 12 1 [.v (.string ⟨#[99,105,114,99,117,105,116]⟩), .v (.string ⟨#[105,110,112,117,116]⟩), .v (.string ⟨#[108,101,116]⟩), .v (.string ⟨#[111,117,116,112,117,116]⟩), .v (.string ⟨#[114,111,116]⟩), .v (.string ⟨#[115,119,97,112]⟩), .v (.string ⟨#[109,97,115,107]⟩), .v (.string ⟨#[116,97,98,108,101]⟩), .v (.string ⟨#[101,113]⟩), .v (.string ⟨#[108,101,115,115]⟩), .v (.string ⟨#[112,111,119]⟩), .v (.string ⟨#[115,117,109]⟩)]:=rfl;rw [e];refine Wv.TC.by 2 [0] [] [.tmp 0] Tryz.func175 rfl rfl rfl ?clo ?_
 case clo=>simp only [Wv.BC]
 exact Wv.V
theorem lJ {a b:AV} (h1:Clo a) (h2:Clo b): ∀ x,x∈[a,b]→Clo x:=by simp only [Wv.BC];exact ⟨h1,h2⟩
theorem MH {α:Type} [DecidableEq α] (a b:α):decide (a=b)=decide (b=a):=by
 by_cases h:a=b
 ·rw [ah h,ah h.symm]
 ·rw [aj h,aj fun q=>h q.symm]
theorem jA {n i:Nat} {p:Nat→Bool} (hi:i<n) (h:p i=true):aI n p=true:=by
 unfold aI;exact List.any_eq_true.2 ⟨i,List.mem_range.2 hi,h⟩
theorem gX {n:Nat} {p:Nat→Bool} (h: ∀ i,i<n→p i=false):aI n p=false:=by
 unfold aI;exact List.any_eq_false.2 fun i hi=>by simp [h i (List.mem_range.1 hi)]
theorem ajb (n:Nat) (f:Nat→ByteArray) (s:ByteArray) (hn:n≤140737488351232):TC Tryz.prog 174 [bG n f, .v (.string s)] (.v (.bool (aI n fun i=>decide (s=f i)))):=by
 obtain ⟨B,hB⟩: ∃ B,B=aI n fun i=>decide (s=f i):=⟨_,rfl⟩
 rw [←hB];unfold bG;refine Wv.TC.by 18 [5,0,9,1,17,4] [] [.tmp 4] Tryz.func174 rfl rfl rfl ?clo ?_
 case clo=>simp only [Wv.BC]
 refine Wv.W ?_;refine aQ (σ:=Nat) (fun i=>[(0, .t n 1 (tab n fun i=> .v (.string (f i)))),(1, .v (.string s)),(5, .v (.int .i64 i))]) (fun _=>[])
  (fun i=>i≤n∧ ∀ j,j<i→decide (s=f j)=false) (fun i=>n - i) 0 ⟨Nat.zero_le _,fun j hj=>by omega⟩ rfl Wv.V ?_
 rintro i ⟨hi,hbef⟩;by_cases hlt:i<n
 ·have e1:(i:Int)<n:=by omega
  have hcm:=MH (f i) s;cases hq:decide (s=f i) with
  | true=>
   rw [hq] at hcm;have hA:=jA (p:=fun i=>decide (s=f i)) hlt hq;refine Wv.W2 (ah e1) hcm ?_;rw [hB,hA]
  | false=>
   rw [hq] at hcm;refine Wv.W2 (ah e1) hcm ?_;refine au (i+1) ⟨by omega,fun j hj=>?_⟩ (by omega) rfl Wv.V2;by_cases e:j=i
   ·subst e;exact hq
   ·exact hbef j (by omega)
 ·obtain rfl:n=i:=by omega
  have hA:=gX (p:=fun i=>decide (s=f i)) hbef;refine Wv.W2 @Int.lt_irrefl @decide_false ?_;rw [hB,hA]
theorem xE (s:ByteArray) (hs:s.size≤140737488351232):TC Tryz.prog 111 [.v (.string s)] (.v (.bool (nameB s))):=by
 have hN:nameB s=(!(decide (s=⟨#[]⟩) || (decide (16<s.size) || (!yj (byt s 0) || (aI 4 (fun i=>decide (s=w4 i)) || aI 16 (fun i=>decide (s=w16 i)))))) && !aI s.size fun i=>!kJ s i):=rfl;have hwc:Clo (bG 12 w12):=jW 12 w12;refine Wv.TC.by 46 [0,21,3,25,45,2] [] [.tmp 2] Tryz.func111 rfl rfl rfl ?clo ?_
 case clo=>simp only [Wv.BC]
 cases h1:decide (s=⟨#[]⟩) with
 | true=>
  rw [h1,Bool.true_or,Bool.not_true,Bool.false_and] at hN;simp (disch:=first|exact Wv.D|fail) only [Wv.B,simprocAttr,h1,hN]
 | false=>
  rw [N9 s (of_decide_eq_false h1)] at hN;have TI:=ajb 12 w12 s (by omega);cases h2:decide (16<s.size) with
  | true=>
   have h2':(s.size:Int)>16:=by have:=of_decide_eq_true h2;omega
   rw [h1,h2,Bool.false_or,Bool.true_or,Bool.not_true,Bool.false_and] at hN;simp (disch:=first|exact Wv.D|fail) only [Wv.B,simprocAttr,h1,h2,ah h2',hN]
  | false=>
   have h2': ¬ (s.size:Int)>16:=by have:=of_decide_eq_false h2;omega
   have hsz:s.size≠0:=fun e=>of_decide_eq_false h1 (by cases s with | mk d=>simp [ByteArray.size] at e;rw [e])
   obtain ⟨c,hc,hb⟩:=Ik (b:=s) (i:=0) (by omega);refine Wv.W5 h1 h2 (aj h2') hc hb ?_;refine ak (Dt (byt s 0)) rfl Wv.c Wv.c ?_;cases h3:yj (byt s 0) with
   | false=>
    rw [h1,h2,h3,Bool.false_or,Bool.false_or,Bool.not_false,Bool.true_or,Bool.not_true,Bool.false_and] at hN;simp (disch:=first|exact Wv.D|fail) only [Wv.B,simprocAttr,hN]
   | true=>
    refine Wv.W ?_;refine ak U2 rfl Wv.c hwc ?_;refine Wv.W ?_;refine ak TI rfl (lJ hwc (.v _)) Wv.c ?_;cases h4:aI 12 (fun i=>decide (s=w12 i)) with
    | true=>
     rw [h1,h2,h3,h4,Bool.false_or,Bool.false_or,Bool.not_true,Bool.false_or,Bool.not_true,Bool.false_and] at hN;simp (disch:=first|exact Wv.D|fail) only [Wv.B,simprocAttr,hN]
    | false=>
     rw [h1,h2,h3,h4,Bool.false_or,Bool.false_or,Bool.not_true,Bool.false_or,Bool.not_false,Bool.true_and] at hN;clear h1 h2 h3 h4 hc hb TI hwc;refine Wv.W ?_;refine aQ (σ:=Nat) (fun i=>[(0, .v (.string s)),(3, .v (.int .i64 i))]) (fun _=>[])
      (fun i=>i≤s.size∧ ∀ j,j<i→kJ s j=true) (fun i=>s.size - i) 0 ⟨Nat.zero_le _,fun j hj=>by omega⟩ rfl Wv.V ?_
     rintro i ⟨hi,hj⟩;by_cases hlt:i<s.size
     ·have e1:(i:Int)<s.size:=by omega
      obtain ⟨c,hc,hb⟩:=Ik hlt;refine Wv.W3 (ah e1) hc hb ?_;refine ak (Dt (byt s i)) rfl Wv.c Wv.c ?_;cases h3:yj (byt s i) with
      | true=>
       refine Wv.W2 hc hb ?_;refine au (i+1) ⟨by omega,fun j q=>?_⟩ (by omega) rfl Wv.V2;by_cases e:j=i
       ·subst e;unfold kJ;rw [h3];rfl
       ·exact hj j (by omega)
      | false=>
       refine Wv.W2 hc hb ?_;refine ak (Ug (byt s i)) rfl Wv.c Wv.c ?_;cases h4:NW (byt s i) with
       | true=>
        refine Wv.W2 hc hb ?_;refine au (i+1) ⟨by omega,fun j q=>?_⟩ (by omega) rfl Wv.V2;by_cases e:j=i
        ·subst e;unfold kJ;rw [h3,h4];rfl
        ·exact hj j (by omega)
       | false=>
        cases h5:decide (byt s i=95) with
        | true=>
         refine Wv.W3 hc hb h5 ?_;refine au (i+1) ⟨by omega,fun j q=>?_⟩ (by omega) rfl Wv.V2;by_cases e:j=i
         ·subst e;unfold kJ;rw [h3,h4,h5];rfl
         ·exact hj j (by omega)
        | false=>
         have hA:aI s.size (fun i=>!kJ s i)=true:=jA (p:=fun i=>!kJ s i) hlt (by unfold kJ;rw [h3,h4,h5];rfl);rw [hA,Bool.not_true] at hN;simp (disch:=first|exact Wv.D|fail) only [Wv.B,simprocAttr,hc,hb,h5,hN]
     ·obtain rfl:i=s.size:=by omega
      have hA:aI s.size (fun i=>!kJ s i)=false:=gX fun i hi=>by rw [hj i hi];rfl
      rw [hA,Bool.not_false] at hN;exact Wv.V3 @Int.lt_irrefl @decide_false hN
theorem zT (n:Int):TC Tryz.prog 178 [.v (.int .i64 n)] (.v (.bool (inB n))):=by
 refine Wv.TC.by 9 [0,2] [] [.tmp 2] Tryz.func178 rfl rfl rfl ?clo ?_
 case clo=>simp only [Wv.BC]
 unfold inB;by_cases h: -4294967295≤n
 ·simp (disch:=first|exact Wv.D|fail) only [Wv.B,simprocAttr,ah h,show (n≥ -4294967295)=(-4294967295≤n) from rfl]
 ·simp (disch:=first|exact Wv.D|fail) only [Wv.B,simprocAttr,aj h,show (n≥ -4294967295)=(-4294967295≤n) from rfl]
def aal (k:Int):Int:=if 1≤k∧k≤15 then argN k.toNat else -1
theorem kinds {k:Int} (h:1≤k∧k≤15):k=1∨k=2∨k=3∨k=4∨k=5∨k=6∨k=7∨k=8∨k=9∨k=10∨k=11∨k=12∨k=13∨k=14∨k=15:=by omega
theorem aam (k:Int):TC Tryz.prog 177 [.v (.int .i64 k)] (.v (.int .i64 (aal k))):=by
 refine Wv.TC.by 22 [0,3,4,8,17,2] [] [.tmp 2] Tryz.func177 rfl rfl rfl ?clo ?_
 case clo=>simp only [Wv.BC]
 by_cases h:1≤k∧k≤15
 ·rcases kinds h with rfl | rfl | rfl | rfl | rfl | rfl | rfl | rfl | rfl | rfl | rfl | rfl | rfl | rfl | rfl<;>simp (disch:=first|exact Wv.D|fail) only [Wv.B,simprocAttr,aal,argN,Int.reduceToNat]
 ·have hR:aal k= -1:=if_neg h;simp (disch:=first|exact Wv.D|fail) only [Wv.B,simprocAttr,hR,aj (show ¬ k=1 by omega),aj (show ¬ k=2 by omega),aj (show ¬ k=3 by omega),aj (show ¬ k=4 by omega),aj (show ¬ k=5 by omega),aj (show ¬ k=6 by omega),aj (show ¬ k=7 by omega),aj (show ¬ k=8 by omega),aj (show ¬ k=9 by omega),aj (show ¬ k=10 by omega),aj (show ¬ k=11 by omega),aj (show ¬ k=12 by omega),aj (show ¬ k=13 by omega),aj (show ¬ k=14 by omega),aj (show ¬ k=15 by omega)]
theorem O6 (k:Int) (h:1≤k∧k≤15):TC Tryz.prog 179 [.v (.int .i64 k)] (.v (.bool (Du k.toNat))):=by
 refine Wv.TC.by 17 [0,2] [] [.tmp 2] Tryz.func179 rfl rfl rfl ?clo ?_
 case clo=>simp only [Wv.BC]
 rcases kinds h with rfl | rfl | rfl | rfl | rfl | rfl | rfl | rfl | rfl | rfl | rfl | rfl | rfl | rfl | rfl<;>simp (disch:=first|exact Wv.D|fail) only [Wv.B,simprocAttr,Du,Int.reduceToNat]
theorem MI (k:Int) (h:1≤k∧k≤15):TC Tryz.prog 180 [.v (.int .i64 k)] (.v (.bool (Dv k.toNat))):=by
 refine Wv.TC.by 13 [0,2] [] [.tmp 2] Tryz.func180 rfl rfl rfl ?clo ?_
 case clo=>simp only [Wv.BC]
 rcases kinds h with rfl | rfl | rfl | rfl | rfl | rfl | rfl | rfl | rfl | rfl | rfl | rfl | rfl | rfl | rfl<;>simp (disch:=first|exact Wv.D|fail) only [Wv.B,simprocAttr,Dv,Int.reduceToNat]
end
section
open Go.RowKit Wv
theorem QV {b:Bool} {f:Nat→Bool} {i:Nat} (h:f i=true): ∀ {n:Nat},i<n→yw b f n=true
 | 0,q=>by omega
 | n+1,q=>by
  show (yw b f n || f n)=true;by_cases e:i=n
  ·subst e;rw [h,Bool.or_true]
  ·rw [QV h (by omega),Bool.true_or]
theorem Gu {b:Bool} {f:Nat→Bool}: ∀ {n:Nat},(∀ i,i<n→f i=false)→yw b f n=b
 | 0,_=>rfl
 | n+1,h=>by
  show (yw b f n || f n)=b;rw [Gu fun i hi=>h i (by omega),h n (by omega),Bool.or_false]
theorem Gv (n:Nat) (f:Nat→ByteArray) (hn:n≤140737488351232) (hf: ∀ i,i<n→(f i).size≤140737488351232):TC Tryz.prog 112 [bG n f] (.v (.bool (!aI n fun i=>!nameB (f i)))):=by
 obtain ⟨B,hB⟩: ∃ B,B=!aI n fun i=>!nameB (f i):=⟨_,rfl⟩
 rw [←hB];unfold bG;refine Wv.TC.by 16 [3,0,7,15,2] [] [.tmp 2] Tryz.func112 rfl rfl rfl ?clo ?_
 case clo=>simp only [Wv.BC]
 refine Wv.W ?_;refine aQ (σ:=Nat) (fun i=>[(0, .t n 1 (tab n fun i=> .v (.string (f i)))),(3, .v (.int .i64 i))]) (fun _=>[])
  (fun i=>i≤n∧ ∀ j,j<i→(!nameB (f j))=false) (fun i=>n - i) 0 ⟨Nat.zero_le _,fun j hj=>by omega⟩ rfl Wv.V ?_
 rintro i ⟨hi,hbef⟩;by_cases hlt:i<n
 ·have e1:(i:Int)<n:=by omega
  have T:=xE (f i) (hf i hlt);refine Wv.W1 (ah e1) ?_;refine ak T rfl Wv.c Wv.c ?_;cases hq:nameB (f i) with
  | false=>
   have hA:=jA (p:=fun i=>!nameB (f i)) hlt (by simp [hq]);refine Wv.W ?_;rw [hB,hA];rfl
  | true=>
   refine Wv.W ?_;refine au (i+1) ⟨by omega,fun j hj=>?_⟩ (by omega) rfl Wv.V2;by_cases e:j=i
   ·subst e;rw [hq];rfl
   ·exact hbef j (by omega)
 ·obtain rfl:n=i:=by omega
  have hA:=gX (p:=fun i=>!nameB (f i)) hbef;refine Wv.W2 @Int.lt_irrefl @decide_false ?_;rw [hB,hA];rfl
theorem U3 (x:Ex) (h:okE x) (hc:bC x≤4611686018427387904):TC Tryz.prog 181 [.g (exC x)] (.v (.int .i64 (bC x))):=by
 induction x with
 | nil=>exact h.elim
 | mk k s n nl li na ar ih=>
 obtain ⟨hs,hnl,hna,hh⟩:=h;have hfin:bC (.mk k s n nl li na ar)=dM 1 (fun i=>bC (ar i)) na:=rfl;rw [hfin] at hc ⊢;have hC:=dw (n:=na) (f:=fun i=>exC (ar i)) fun i _=>eX (ar i)
 have hdA: ∀ i,i<na→ ∃ r,List.drop (i*5) (cO na fun i=>exC (ar i))=exC (ar i)++r:=fun i hi=>bH (f:=fun i=>exC (ar i)) (fun i=>gJ (ar i)) hi
 rw [dh];refine Wv.TC.by 21 [0,4,1,9,3,2] [] [.tmp 2] Tryz.func181 rfl rfl rfl ?clo ?_
 case clo=>simp only [Wv.BC]
 generalize (cO na fun i=>exC (ar i))=L at*;refine Wv.W ?_;refine aQ (σ:=Nat) (fun i=>[(1, .ptr 0 0),(3, .v (.int .i64 (dM 1 (fun i=>bC (ar i)) i:Nat))),(4, .v (.int .i64 i))])
  (fun i=>[some (.blk [.v (.int .i64 k), .v (.string s), .v (.int .i64 n), .t nl 1 (tab nl fun i=> .v (.int .i64 (li i))), .t na 5 L])])
  (fun i=>i≤na) (fun i=>na - i) 0 (Nat.zero_le _) rfl (by simp (disch:=first|exact Wv.D|fail) only [Wv.B,simprocAttr,dM,Int.natCast_one]) ?_
 intro i hi;by_cases hlt:i<na
 ·have e1:(i:Int)<na:=by omega
  have h2:dM 1 (fun i=>bC (ar i)) i+bC (ar i)≤dM 1 (fun i=>bC (ar i)) na:=qZ 1 (fun i=>bC (ar i)) hlt;have hnx:dM 1 (fun i=>bC (ar i)) (i+1)=dM 1 (fun i=>bC (ar i)) i+bC (ar i):=rfl;have T:=ih i (hh i hlt) (by omega);have hG:=bU (ar i);have hoy:=hh i hlt;obtain ⟨r,hd⟩:=hdA i hlt;obtain ⟨c0,c1,c2,c3,c4,c5,c6,h5⟩: ∃ (k:Int) (s:ByteArray) (m:Int) (a:Nat) (l:List AV) (b:Nat) (r:List AV),exC (ar i)=[.v (.int .i64 k), .v (.string s), .v (.int .i64 m), .t a 1 l, .t b 5 r]:=by cases ar i<;>exact ⟨_,_,_,_,_,_,_,rfl⟩
  simp only [h5,List.cons_append,List.nil_append] at hd;rw [h5] at T hG;generalize dM 1 (fun i=>bC (ar i)) i=S0 at*;generalize bC (ar i)=Y at*;refine Wv.W2 (ah e1) hd ?_;refine ak T rfl (dR hG) Wv.c ?_;refine Wv.W ?_;refine au (i+1) (by omega) (by omega) rfl (Wv.V3 hnx @Int.natCast_add @Int.natCast_one)
 ·obtain rfl:i=na:=by omega
  exact Wv.V2f @Int.lt_irrefl @decide_false
theorem U4        (x : Ex) (h : okE x) (hc : bC   x ≤ 4611686018427387904) : TC Tryz.prog 182 [.g (exC x)] (.v (.int .i64 (fM   x))) := by
  induction x with
  | nil => exact h.elim
  | mk k s n nl li na ar ih =>
  obtain ⟨hs, hnl, hna, hh⟩ := h;have hcn : ∀ i, i < na → bC   (ar i) ≤ 4611686018427387904 := fun i hi => by
    have h1 : dM   1 (fun i => bC   (ar i)) na ≤ 4611686018427387904 := hc;have h2 : dM   1 (fun i => bC   (ar i)) i + bC   (ar i) ≤ dM   1 (fun i => bC   (ar i)) na := qZ       1 (fun i => bC   (ar i)) hi;omega
  have hdp := AB      (.mk k s n nl li na ar);have hfin : fM   (.mk k s n nl li na ar) = jX   (fun i => fM   (ar i)) na + 1 := rfl;rw [hfin] at hdp ⊢;have hdn : jX   (fun i => fM   (ar i)) na + 1 ≤ 4611686018427387904 := Nat.le_trans hdp hc;have hdi : ∀ i, i ≤ na → jX   (fun i => fM   (ar i)) i ≤ jX   (fun i => fM   (ar i)) na := fun i hi => by
    have key : ∀ n, i ≤ n → jX   (fun i => fM   (ar i)) i ≤ jX   (fun i => fM   (ar i)) n := fun n => by
      induction n with
      | zero => intro q; obtain rfl : i = 0 := by omega
                exact Nat.le_refl _
      | succ n ihn =>
        intro q;by_cases e : i = n + 1
        · subst e; exact Nat.le_refl _
        · have := ihn (by omega)
          show _ ≤ max (jX   (fun i => fM   (ar i)) n) (fM   (ar n));omega
    exact key na hi
  have hdA : ∀ i, i < na → ∃ r, List.drop (i * 5) (cO   na fun i => exC (ar i)) = exC (ar i) ++ r := fun i hi => bH        (f := fun i => exC (ar i)) (fun i => gJ      (ar i)) hi
  rw [dh    ];refine Wv.TC.by 22 [0, 4, 1, 9, 3, 2] [] [.tmp 2] Tryz.func182 rfl rfl rfl ?clo ?_
  case clo => simp only [Wv.BC]
  generalize (cO   na fun i => exC (ar i)) = L at *;refine Wv.W ?_;refine aQ   (σ := Nat) (fun i => [(1, .ptr 0 0), (3, .v (.int .i64 (jX   (fun i => fM   (ar i)) i : Nat))), (4, .v (.int .i64 i))])
    (fun i => [some (.blk [.v (.int .i64 k), .v (.string s), .v (.int .i64 n), .t nl 1 (tab nl fun i => .v (.int .i64 (li i))), .t na 5 L])])
    (fun i => i ≤ na) (fun i => na - i) 0 (Nat.zero_le _) rfl (by simp (disch:=first|exact Wv.D|fail) only [Wv.B, simprocAttr, jX  , Int.natCast_zero]) ?_
  intro i hi;by_cases hlt : i < na
  · have e1 : (i : Int) < na := by omega
    have hnx : jX   (fun i => fM   (ar i)) (i + 1) = max (jX   (fun i => fM   (ar i)) i) (fM   (ar i)) := rfl;have hb1 := hdi (i + 1) (by omega);have T := ih i (hh i hlt) (hcn i hlt);have hG := bU      (ar i);obtain ⟨r, hd⟩ := hdA i hlt;obtain ⟨c0, c1, c2, c3, c4, c5, c6, h5⟩ : ∃ (k : Int) (s : ByteArray) (m : Int) (a : Nat) (l : List AV) (b : Nat) (r : List AV), exC (ar i) = [.v (.int .i64 k), .v (.string s), .v (.int .i64 m), .t a 1 l, .t b 5 r] := by cases ar i <;> exact ⟨_, _, _, _, _, _, _, rfl⟩
    simp only [h5, List.cons_append, List.nil_append] at hd;rw [h5] at T hG;have hmx : (if ((fM   (ar i) : Nat) : Int) > ((jX   (fun i => fM   (ar i)) i : Nat) : Int) then ((fM   (ar i) : Nat) : Int) else ((jX   (fun i => fM   (ar i)) i : Nat) : Int)) = ((jX   (fun i => fM   (ar i)) (i + 1) : Nat) : Int) := by
      rw [hnx]; split <;> omega
    generalize hS1 : jX   (fun i => fM   (ar i)) (i + 1) = S1 at *;generalize jX   (fun i => fM   (ar i)) i = S0 at *;generalize fM   (ar i) = Y at *;refine Wv.W2 (ah     e1) hd ?_;refine ak      T rfl (dR    hG) Wv.c ?_;refine Wv.W1 hmx ?_;refine au     (i + 1) (by omega) (by omega) rfl (Wv.V3 hS1 @Int.natCast_add @Int.natCast_one)
  · obtain rfl : i = na := by omega
    exact Wv.V4 @Int.lt_irrefl @decide_false @Int.natCast_add @Int.natCast_one
theorem U5 (x:Ex) (h:okE x):TC Tryz.prog 183 [.g (exC x)] (.v (.bool (!lI x))):=by
 induction x with
 | nil=>exact h.elim
 | mk k s n nl li na ar ih=>
 obtain ⟨hs,hnl,hna,hh⟩:=h;have hfin:lI (.mk k s n nl li na ar)=yw (decide (600<(nl:Int))) (fun i=>lI (ar i)) na:=rfl;obtain ⟨B,hB⟩: ∃ B,B=!lI (.mk k s n nl li na ar):=⟨_,rfl⟩
 rw [←hB];rw [hfin] at hB;have hdA: ∀ i,i<na→ ∃ r,List.drop (i*5) (cO na fun i=>exC (ar i))=exC (ar i)++r:=fun i hi=>bH (f:=fun i=>exC (ar i)) (fun i=>gJ (ar i)) hi
 rw [dh];refine Wv.TC.by 22 [0,3,1,8,17,2] [] [.tmp 2] Tryz.func183 rfl rfl rfl ?clo ?_
 case clo=>simp only [Wv.BC]
 generalize (cO na fun i=>exC (ar i))=L at*;refine Wv.W ?_;refine aQ (σ:=Nat) (fun i=>[(1, .ptr 0 0),(3, .v (.int .i64 i))])
  (fun i=>[some (.blk [.v (.int .i64 k), .v (.string s), .v (.int .i64 n), .t nl 1 (tab nl fun i=> .v (.int .i64 (li i))), .t na 5 L])])
  (fun i=>i≤na∧ ∀ j,j<i→lI (ar j)=false) (fun i=>na - i) 0 ⟨Nat.zero_le _,fun j hj=>by omega⟩ rfl Wv.V ?_
 rintro i ⟨hi,hbef⟩;by_cases hlt:i<na
 ·have e1:(i:Int)<na:=by omega
  have T:=ih i (hh i hlt);have hG:=bU (ar i);obtain ⟨r,hd⟩:=hdA i hlt;obtain ⟨c0,c1,c2,c3,c4,c5,c6,h5⟩: ∃ (k:Int) (s:ByteArray) (m:Int) (a:Nat) (l:List AV) (b:Nat) (r:List AV),exC (ar i)=[.v (.int .i64 k), .v (.string s), .v (.int .i64 m), .t a 1 l, .t b 5 r]:=by cases ar i<;>exact ⟨_,_,_,_,_,_,_,rfl⟩
  simp only [h5,List.cons_append,List.nil_append] at hd;rw [h5] at T hG;cases hq:lI (ar i) with
  | true=>
   rw [QV (f:=fun i=>lI (ar i)) hq hlt] at hB;rw [hq] at T;refine Wv.W2 (ah e1) hd ?_;refine ak T rfl (dR hG) Wv.c ?_;refine Wv.W ?_;rw [hB];rfl
  | false=>
   rw [hq] at T;refine Wv.W2 (ah e1) hd ?_;refine ak T rfl (dR hG) Wv.c ?_;refine Wv.W ?_;refine au (i+1) ⟨by omega,fun j hj=>?_⟩ (by omega) rfl Wv.V2;by_cases e:j=i
   ·subst e;exact hq
   ·exact hbef j (by omega)
 ·obtain rfl:i=na:=by omega
  rw [Gu hbef] at hB;refine Wv.W2 @Int.lt_irrefl @decide_false ?_;rw [hB];by_cases q:(600:Int)<nl
  ·rw [ah q,aj (by omega)];rfl
  ·rw [aj q,ah (by omega)];rfl
theorem O7 (x : Ex) (h : okE x) : TC Tryz.prog 114 [.g (exC x)] (.v (.bool (aW x))) := by
  induction x with
  | nil => exact h.elim
  | mk k s n nl li na ar ih =>
  obtain ⟨hs, hnl, hna, hh⟩ := h;have hfin : aW (.mk k s n nl li na ar) = (!decide (k < 1) && (!decide (15 < k) && ((if k = 1 then nameB s else decide (s = ⟨#[]⟩)) && (decide ((na : Int) = argN k.toNat) && ((Du k.toNat || decide (n = 0)) && ((Dv k.toNat || decide ((nl : Int) = 0)) && (inB n && (!aI nl (fun i => !inB (li i)) && !aI na fun i => !aW (ar i))))))))) := rfl;obtain ⟨B, hB⟩ : ∃ B, B = aW (.mk k s n nl li na ar) := ⟨_, rfl⟩
  rw [← hB];rw [hfin] at hB;have hdA : ∀ i, i < na → ∃ r, List.drop (i * 5) (cO na fun i => exC (ar i)) = exC (ar i) ++ r := fun i hi => bH (f := fun i => exC (ar i)) (fun i => gJ (ar i)) hi
  have TA := aam k;rw [dh];refine Wv.TC.by 88 [0, 1, 40, 59, 3, 64, 73, 4, 78, 87, 2] [(1, 34)] [.tmp 2] Tryz.func114 rfl rfl rfl ?clo ?_
  case clo => simp only [Wv.BC]
  generalize (cO na fun i => exC (ar i)) = L at *;by_cases hk : 1 ≤ k ∧ k ≤ 15;rotate_left
  · have hR : aal k = -1 := if_neg hk
    rw [hR] at TA;have hBf : B = false := by
      rw [hB];by_cases q : k < 1
      · rw [ah q]; rfl
      · rw [aj q, ah (show 15 < k by omega)]; rfl
    refine Wv.W ?_;refine eU TA rfl Wv.c Wv.c ?_;exact Wv.V2f (aj (show ¬ (-1 : Int) = na by omega)) hBf
  have hR : aal k = argN k.toNat := if_pos hk;rw [hR] at TA;rw [aj (show ¬ k < 1 by omega), aj (show ¬ 15 < k by omega), Bool.not_false, Bool.true_and, Bool.true_and] at hB;have TI := zT n;have TH := O6 k hk;have TL := MI k hk;have TN := xE s hs;have hcm := MH (argN k.toNat) (na : Int);generalize argN k.toNat = A1 at *;generalize Du k.toNat = A2 at *;generalize Dv k.toNat = A3 at *;generalize nameB s = A4 at *;have hI : inB n = inB n := rfl;refine Wv.W ?_;refine eU TA rfl Wv.c Wv.c ?_;cases d1 : decide ((na : Int) = A1) with
  | false =>
    rw [d1] at hB hcm;simp only [Bool.false_and, Bool.and_false] at hB;simp (disch:=first|exact Wv.D|fail) only [Wv.B, simprocAttr, hcm, hB]
  | true =>
  rw [d1] at hB hcm;refine Wv.W1 hcm ?_;refine eU TI rfl Wv.c Wv.c ?_;cases d2 : inB n with
  | false =>
    rw [d2] at hB;simp only [Bool.false_and, Bool.and_false] at hB;simp (disch:=first|exact Wv.D|fail) only [Wv.B, simprocAttr, hB]
  | true =>
  rw [d2] at hB;rw [Bool.true_and, Bool.true_and] at hB;have fin2 : (A2 || decide (n = 0)) = false → B = false := fun q => by rw [hB, q]; simp
  have ang : (A3 || decide ((nl : Int) = 0)) = false → B = false := fun q => by rw [hB, q]; simp
  have al8 : (if k = 1 then A4 else decide (s = ⟨#[]⟩)) = false → B = false := fun q => by rw [hB, q]; simp
  have anh : ∀ i, i < nl → inB (li i) = false → B = false := fun i hi q => by rw [hB, jA (p := fun i => !inB (li i)) hi (by simp [q])]; simp
  have ani : ∀ i, i < na → aW (ar i) = false → B = false := fun i hi q => by rw [hB, jA (p := fun i => !aW (ar i)) hi (by simp [q])]; simp
  have anj : (A2 || decide (n = 0)) = true → (A3 || decide ((nl : Int) = 0)) = true → (if k = 1 then A4 else decide (s = ⟨#[]⟩)) = true → (∀ i, i < nl → inB (li i) = true) → (∀ i, i < na → aW (ar i) = true) → B = true := fun q1 q2 q3 q4 q5 => by
    rw [hB, q1, q2, q3, gX (p := fun i => !inB (li i)) fun i hi => by simp [q4 i hi], gX (p := fun i => !aW (ar i)) fun i hi => by simp [q5 i hi]]; rfl
  clear hB hfin;simp (disch:=first|exact Wv.D|fail) only [Wv.B, simprocAttr];cases d3 : decide (n = 0);refine Wv.W1 d3 ?_;refine eU TH rfl Wv.c Wv.c ?_;cases A2
  (have hBf := fin2 (by rw [d3]; rfl)
   simp (disch:=first|exact Wv.D|fail) only [Wv.B, simprocAttr, d3, hBf])
  refine Wv.W1 d3 ?_;rotate_left
  simp (disch:=first|exact Wv.D|fail) only [Wv.B, simprocAttr, d3];all_goals
    cases d4 : decide ((nl : Int) = 0);refine Wv.W1 d4 ?_;refine eU TL rfl Wv.c Wv.c ?_;cases A3
    (have hBf := ang (by rw [d4]; rfl)
     simp (disch:=first|exact Wv.D|fail) only [Wv.B, simprocAttr, d4, hBf])
    refine Wv.W1 d4 ?_;rotate_left
    simp (disch:=first|exact Wv.D|fail) only [Wv.B, simprocAttr, d4]
  all_goals
    by_cases hk1 : k = 1;refine Wv.W1 (ah hk1) ?_;refine ak TN rfl Wv.c Wv.c ?_;cases A4
    (have hBf := al8 (if_pos hk1)
     simp (disch:=first|exact Wv.D|fail) only [Wv.B, simprocAttr, ah hk1, hBf])
    refine Wv.W1 (ah hk1) ?_;have g3 : (if k = 1 then true else decide (s = ⟨#[]⟩)) = true := if_pos hk1;rotate_left
    cases d5 : decide (s = ⟨#[]⟩)
    (have hBf := al8 ((if_neg hk1).trans d5)
     simp (disch:=first|exact Wv.D|fail) only [Wv.B, simprocAttr, aj hk1, d5, hBf])
    refine Wv.W2 (aj hk1) d5 ?_;have g3 : (if k = 1 then A4 else decide (s = ⟨#[]⟩)) = true := (if_neg hk1).trans d5
  all_goals
    refine aQ (σ := Nat) (fun i => [(1, .ptr 0 0), (3, .v (.int .i64 i))])
      (fun i => [some (.blk [.v (.int .i64 k), .v (.string s), .v (.int .i64 n), .t nl 1 (tab nl fun i => .v (.int .i64 (li i))), .t na 5 L])])
      (fun i => i ≤ nl ∧ ∀ j, j < i → inB (li j) = true) (fun i => nl - i) 0 ⟨Nat.zero_le _, fun j hj => by omega⟩ rfl Wv.V ?_
    rintro i ⟨hi, hbef⟩;by_cases hlt : i < nl
    · have e1 : (i : Int) < nl := by omega
      have TJ := zT (li i);cases hq : inB (li i) with
      | false =>
        have hBf := anh i hlt hq;rw [hq] at TJ;refine Wv.W1 (ah e1) ?_;refine ak TJ rfl Wv.c Wv.c ?_;simp (disch:=first|exact Wv.D|fail) only [Wv.B, simprocAttr, hBf]
      | true =>
        rw [hq] at TJ;refine Wv.W1 (ah e1) ?_;refine ak TJ rfl Wv.c Wv.c ?_;refine Wv.W ?_;refine au (i + 1) ⟨by omega, fun j hj => ?_⟩ (by omega) rfl Wv.V2;by_cases e : j = i
        · subst e; exact hq
        · exact hbef j (by omega)
    obtain rfl : i = nl := by omega
    refine Wv.W2 @Int.lt_irrefl @decide_false ?_;clear hi hlt;refine aQ (σ := Nat) (fun j => [(1, .ptr 0 0), (4, .v (.int .i64 j))])
      (fun j => [some (.blk [.v (.int .i64 k), .v (.string s), .v (.int .i64 n), .t i 1 (tab i fun i => .v (.int .i64 (li i))), .t na 5 L])])
      (fun j => j ≤ na ∧ ∀ q, q < j → aW (ar q) = true) (fun j => na - j) 0 ⟨Nat.zero_le _, fun j hj => by omega⟩ rfl Wv.V ?_
    rintro j ⟨hj, al9⟩;by_cases hlt : j < na
    · have e1 : (j : Int) < na := by omega
      have T := ih j (hh j hlt);have hG := bU (ar j);obtain ⟨r, hd⟩ := hdA j hlt;obtain ⟨c0, c1, c2, c3, c4, c5, c6, h5⟩ : ∃ (k : Int) (s : ByteArray) (m : Int) (a : Nat) (l : List AV) (b : Nat) (r : List AV), exC (ar j) = [.v (.int .i64 k), .v (.string s), .v (.int .i64 m), .t a 1 l, .t b 5 r] := by cases ar j <;> exact ⟨_, _, _, _, _, _, _, rfl⟩
      simp only [h5, List.cons_append, List.nil_append] at hd;rw [h5] at T hG;cases hq : aW (ar j) with
      | false =>
        have hBf := ani j hlt hq;rw [hq] at T;refine Wv.W2 (ah e1) hd ?_;refine ak T rfl (dR hG) Wv.c ?_;simp (disch:=first|exact Wv.D|fail) only [Wv.B, simprocAttr, hBf]
      | true =>
        rw [hq] at T;refine Wv.W2 (ah e1) hd ?_;refine ak T rfl (dR hG) Wv.c ?_;refine Wv.W ?_;refine au (j + 1) ⟨by omega, fun q hq2 => ?_⟩ (by omega) rfl Wv.V2;by_cases e : q = j
        · subst e; exact hq
        · exact al9 q (by omega)
    · obtain rfl : j = na := by omega
      have hBt := anj (by first | rfl | (rw [d3]; first | rfl | exact Bool.or_true _)) (by first | rfl | (rw [d4]; first | rfl | exact Bool.or_true _)) g3 hbef al9;exact Wv.V3 @Int.lt_irrefl @decide_false hBt
end
section
open Go.RowKit Wv
theorem MJ (y:Ex): ∃ (k:Int) (s:ByteArray) (m:Int) (a:Nat) (l:List AV) (b:Nat) (r:List AV),exC y=[.v (.int .i64 k), .v (.string s), .v (.int .i64 m), .t a 1 l, .t b 5 r]:=by cases y<;>exact ⟨_,_,_,_,_,_,_,rfl⟩
theorem aan (c:Ci) {i:Nat} (hi:i<c.nl): ∃ r,List.drop (i*6) c.lets= .v (.string (c.ln i))::(exC (c.le i)++r):=by
 obtain ⟨r,h⟩:=bH (f:=fun i=>iD (c.ln i) (c.le i)) (fun i=>gV _ _) hi;exact ⟨r,h⟩
theorem U6 {c:Ci} (h: ∀ j,j<c.nl→decide (40<((fM (c.le j):Nat):Int))=false∧lI (c.le j)=false):jD c=decide (((c.sum c.nl:Nat):Int)≤400):=by
 unfold jD;by_cases q:((c.sum c.nl:Nat):Int)≤400
 ·rw [ah q,gX]
  ·rfl
  ·intro j hj;have h1:c.sum (j+1)≤c.sum c.nl:=wL 0 (fun i=>bC (c.le i)) hj;obtain ⟨h2,h3⟩:=h j hj;show (decide (400<((c.sum (j+1):Nat):Int)) || (decide (40<((fM (c.le j):Nat):Int)) || lI (c.le j)))=false;rw [h2,h3,aj (by omega)];rfl
 ·rw [aj q];have hn:c.nl≠0:=fun e=>q (by rw [e];show ((0:Nat):Int)≤400;omega)
  rw [jA (i:=c.nl - 1) (by omega)]
  ·rfl
  ·show (decide (400<((c.sum (c.nl - 1+1):Nat):Int)) || _)=true;rw [show c.nl - 1+1=c.nl by omega,ah (by omega)];rfl
theorem U7 {c:Ci} {i:Nat} (hi:i<c.nl) (h:(decide (40<((fM (c.le i):Nat):Int)) || lI (c.le i))=true):jD c=false:=by
 unfold jD;rw [jA hi (show c.big i=true from ?_)]
 ·rfl
 ·show (decide (400<((c.sum (i+1):Nat):Int)) || _)=true;rw [h,Bool.or_true]
theorem U8 (c:Ci) (h:okC c) (hn:c.nl≤1000000) (hcn: ∀ i,i<c.nl→bC (c.le i)≤1000000):TC Tryz.prog 115 [.g (ciC c)] (.v (.bool (jD c))):=by
 have hsm: ∀ i,i≤c.nl→c.sum i≤1000000*i:=fun i=>by
  induction i with
  | zero=>intro _;exact Nat.le_refl 0
  | succ i ih=>
   intro hi;have:=ih (by omega);have:=hcn i (by omega);show dM 0 (fun i=>bC (c.le i)) i+bC (c.le i)≤_;have e:c.sum i=dM 0 (fun i=>bC (c.le i)) i:=rfl;omega
 have hsb: ∀ i,i≤c.nl→c.sum i≤1000000000000:=fun i hi=>by
  have:=hsm i hi;have:=Nat.mul_le_mul_left 1000000 (show i≤1000000 by omega);omega
 refine Wv.TC.by 41 [0,4,1,9,3,38,2] [] [.tmp 2] Tryz.func115 rfl rfl rfl ?clo ?_
 case clo=>simp only [Wv.BC]
 unfold ciC bG;refine Wv.W ?_;refine aQ (σ:=Nat) (fun i=>[(1, .ptr 0 0),(3, .v (.int .i64 (c.sum i:Nat))),(4, .v (.int .i64 i))])
  (fun i=>[some (.blk [.v (.string c.name), .t c.ni 1 (tab c.ni fun i=> .v (.string (c.fi i))), .t c.nl 6 c.lets, .t c.no 1 (tab c.no fun i=> .v (.string (c.fo i)))])])
  (fun i=>i≤c.nl∧ ∀ j,j<i→decide (40<((fM (c.le j):Nat):Int))=false∧lI (c.le j)=false) (fun i=>c.nl - i) 0 ⟨Nat.zero_le _,fun j hj=>by omega⟩ rfl (by simp (disch:=first|exact Wv.D|fail) only [Wv.B,simprocAttr,Ci.sum,dM,Int.natCast_zero]) ?_
 rintro i ⟨hi,hbef⟩;have hnl:=h.nl;by_cases hlt:i<c.nl
 ·have e1:(i:Int)<c.nl:=by omega
  have hs1:c.sum (i+1)=c.sum i+bC (c.le i):=rfl;have hs2:=hsb (i+1) (by omega);have hci:=hcn i hlt;have hdc:=AB (c.le i);have T1:=U3 (c.le i) (h.le i hlt).1 (h.le i hlt).2;have T2:=U4 (c.le i) (h.le i hlt).1 (h.le i hlt).2;have T3:=U5 (c.le i) (h.le i hlt).1;have hG:=bU (c.le i);have hbad:=U7 (c:=c) hlt;obtain ⟨r,hd⟩:=aan c hlt;obtain ⟨c0,c1,c2,c3,c4,c5,c6,h5⟩:=MJ (c.le i);simp only [h5,List.cons_append,List.nil_append] at hd;rw [h5] at T1 T2 T3 hG;generalize hS1:c.sum (i+1)=S1 at*;generalize c.sum i=S0 at*;generalize hY:bC (c.le i)=Y at*;generalize hZ:fM (c.le i)=Z at*;refine Wv.W2 (ah e1) hd ?_;refine ak T1 rfl (dR hG) Wv.c ?_;refine Wv.W1 hd ?_;refine ak T2 rfl (dR hG) Wv.c ?_;cases d1:decide (40<(Z:Int)) with
  | true=>
   have d1':decide ((Z:Int)>40)=true:=d1;have hf:=hbad (by rw [d1];rfl);simp (disch:=first|exact Wv.D|fail) only [Wv.B,simprocAttr,d1',hf]
  | false=>
   have d1':decide ((Z:Int)>40)=false:=d1;simp (disch:=first|exact Wv.D|fail) only [Wv.B,simprocAttr,d1',hd];refine ak T3 rfl (dR hG) Wv.c ?_;cases d2:lI (c.le i) with
   | true=>
    have hf:=hbad (by rw [d2,Bool.or_true]);simp (disch:=first|exact Wv.D|fail) only [Wv.B,simprocAttr,hf]
   | false=>
    refine Wv.W ?_;refine au (i+1) ⟨by omega,fun j hj=>?_⟩ (by omega) rfl (Wv.V4 hS1 hs1 @Int.natCast_add @Int.natCast_one);by_cases e:j=i
    ·subst e;exact ⟨by rw [hZ];exact d1,d2⟩
    ·exact hbef j (by omega)
 ·obtain rfl:i=c.nl:=by omega
  have hf:=U6 hbef;exact Wv.V3 @Int.lt_irrefl @decide_false hf
theorem MK (c:Ci):TC Tryz.prog 113 [.g (ciC c)] (.v (.bool (rD c))):=by
 refine Wv.TC.by 19 [0,1,2] [] [.tmp 2] Tryz.func113 rfl rfl rfl ?clo ?_
 case clo=>simp only [Wv.BC]
 unfold ciC bG;have hN:rD c=(decide ((c.ni:Int)≤8) && (decide ((c.nl:Int)≤60) && decide ((c.no:Int)≤8))):=rfl;cases h1:decide ((c.ni:Int)≤8) with
 | false=>rw [h1,Bool.false_and] at hN;simp (disch:=first|exact Wv.D|fail) only [Wv.B,simprocAttr,h1,hN]
 | true=>
 cases h2:decide ((c.nl:Int)≤60) with
 | false=>rw [h1,h2,Bool.false_and,Bool.and_false] at hN;simp (disch:=first|exact Wv.D|fail) only [Wv.B,simprocAttr,h1,h2,hN]
 | true=>rw [h1,h2,Bool.true_and,Bool.true_and] at hN;simp (disch:=first|exact Wv.D|fail) only [Wv.B,simprocAttr,h1,h2,hN]
theorem O8 (c:Ci) (h:okC c) (hn:c.nl≤1000000) (hcn: ∀ i,i<c.nl→bC (c.le i)≤1000000):TC Tryz.prog 67 [.g (ciC c)] (.v (.int .i64 (dS c))):=by
 have hcl:=tq c;have hLc:=iV c;have T0:=xE c.name h.name;have T1:=Gv c.ni c.fi h.ni h.fi;have T2:=Gv c.no c.fo h.no h.fo;have T3:=MK c;have T4:=U8 c h hn hcn;have hsc:=jW c.ni c.fi;have hso:=jW c.no c.fo;have hN:dS c=if (!nameB c.name || (aI c.ni (fun i=>!nameB (c.fi i)) || (aI c.no (fun i=>!nameB (c.fo i)) || (decide ((c.no:Int)=0) || !rD c))))=true then 2
  else if aI c.nl (fun i=>!nameB (c.ln i) || !aW (c.le i))=true then 2 else if jD c=true then 0 else 3:=rfl
 generalize dS c=R at*;unfold ciC bG at*;refine Wv.TC.by 59 [0,1,30,3,35,55,58,2] [] [.tmp 2] Tryz.func67 rfl rfl rfl ?clo ?_
 case clo=>simp only [Wv.BC]
 refine Wv.W ?_;refine ak T0 rfl Wv.c Wv.c ?_;cases h1:nameB c.name with
 | false=>rw [h1] at hN;simp only [Bool.not_false,Bool.true_or,if_true] at hN;simp (disch:=first|exact Wv.D|fail) only [Wv.B,simprocAttr,hN]
 | true=>
 refine Wv.W ?_;refine ak T1 rfl (dR hsc) Wv.c ?_;cases h2:aI c.ni (fun i=>!nameB (c.fi i)) with
 | true=>rw [h1,h2] at hN;simp only [Bool.not_true,Bool.false_or,Bool.true_or,if_true] at hN;simp (disch:=first|exact Wv.D|fail) only [Wv.B,simprocAttr,hN]
 | false=>
 refine Wv.W ?_;refine ak T2 rfl (dR hso) Wv.c ?_;cases h3:aI c.no (fun i=>!nameB (c.fo i)) with
 | true=>rw [h1,h2,h3] at hN;simp only [Bool.not_true,Bool.false_or,Bool.true_or,if_true] at hN;simp (disch:=first|exact Wv.D|fail) only [Wv.B,simprocAttr,hN]
 | false=>
 cases h4:decide ((c.no:Int)=0) with
 | true=>rw [h1,h2,h3,h4] at hN;simp only [Bool.not_true,Bool.false_or,Bool.true_or,if_true] at hN;simp (disch:=first|exact Wv.D|fail) only [Wv.B,simprocAttr,h4,hN]
 | false=>
 refine Wv.W1 h4 ?_;refine ak T3 rfl (dR hcl) Wv.c ?_;cases h5:rD c with
 | false=>rw [h1,h2,h3,h4,h5] at hN;simp only [Bool.not_true,Bool.not_false,Bool.false_or,Bool.or_true,if_true] at hN;simp (disch:=first|exact Wv.D|fail) only [Wv.B,simprocAttr,hN]
 | true=>
 rw [h1,h2,h3,h4,h5] at hN;simp only [Bool.not_true,Bool.or_false,Bool.false_eq_true,if_false] at hN;refine Wv.W ?_;refine aQ (σ:=Nat) (fun i=>[(1, .ptr 0 0),(3, .v (.int .i64 i))])
  (fun i=>[some (.blk [.v (.string c.name), .t c.ni 1 (tab c.ni fun i=> .v (.string (c.fi i))), .t c.nl 6 c.lets, .t c.no 1 (tab c.no fun i=> .v (.string (c.fo i)))])])
  (fun i=>i≤c.nl∧ ∀ j,j<i→(!nameB (c.ln j) || !aW (c.le j))=false) (fun i=>c.nl - i) 0 ⟨Nat.zero_le _,fun j hj=>by omega⟩ rfl Wv.V ?_
 rintro i ⟨hi,hbef⟩;have hnl:=h.nl;by_cases hlt:i<c.nl
 ·have e1:(i:Int)<c.nl:=by omega
  have T5:=xE (c.ln i) (h.ln i hlt);have T6:=O7 (c.le i) (h.le i hlt).1;have hG:=bU (c.le i);have hbad:(!nameB (c.ln i) || !aW (c.le i))=true→R=2:=fun q=>by
   rw [hN,jA (p:=fun i=>!nameB (c.ln i) || !aW (c.le i)) hlt q];rfl
  obtain ⟨r,hd⟩:=aan c hlt;obtain ⟨c0,c1,c2,c3,c4,c5,c6,h6⟩:=MJ (c.le i);simp only [h6,List.cons_append,List.nil_append] at hd;rw [h6] at T6 hG;refine Wv.W2 (ah e1) hd ?_;refine ak T5 rfl Wv.c Wv.c ?_;cases d1:nameB (c.ln i) with
  | false=>
   have hf:=hbad (by rw [d1];rfl);simp (disch:=first|exact Wv.D|fail) only [Wv.B,simprocAttr,hf]
  | true=>
   refine Wv.W1 hd ?_;refine ak T6 rfl (dR hG) Wv.c ?_;cases d2:aW (c.le i) with
   | false=>
    have hf:=hbad (by rw [d2];simp);simp (disch:=first|exact Wv.D|fail) only [Wv.B,simprocAttr,hf]
   | true=>
    refine Wv.W ?_;refine au (i+1) ⟨by omega,fun j hj=>?_⟩ (by omega) rfl Wv.V2;by_cases e:j=i
    ·subst e;rw [d1,d2];rfl
    ·exact hbef j (by omega)
 ·obtain rfl:i=c.nl:=by omega
  rw [gX hbef] at hN;simp only [Bool.false_eq_true,if_false] at hN;refine Wv.W2 @Int.lt_irrefl @decide_false ?_;refine ak T4 rfl (dR hcl) Wv.c ?_;cases d3:jD c with
  | true=>rw [d3] at hN;simp only [if_true] at hN;simp (disch:=first|exact Wv.D|fail) only [Wv.B,simprocAttr,hN]
  | false=>rw [d3] at hN;simp only [Bool.false_eq_true,if_false] at hN;simp (disch:=first|exact Wv.D|fail) only [Wv.B,simprocAttr,hN]
end
section
open Go.RowKit Wv
def shM (m:Nat) (sh:Nat→Bool × Nat):List AV:=cO m fun i=>[.v (.bool (sh i).1), .v (.int .i64 (sh i).2)]
def yC (N t r:Int) (m:Nat) (nm:Nat→ByteArray) (sh:Nat→Bool × Nat):List AV:=[.v (.int .i64 N), .v (.int .i64 t), .v (.int .i64 r),bG m nm, .t m 2 (shM m sh)]
theorem aeQ (m:Nat) (sh:Nat→Bool × Nat): ∀ a,a∈shM m sh→Clo a:=dw fun i _=>by simp only [Wv.BC]
theorem vC (N t r:Int) (m:Nat) (nm:Nat→ByteArray) (sh:Nat→Bool × Nat):Clo (.tp (yC N t r m nm sh)):=by
 refine .tp ?_;unfold yC bG;simp only [Wv.BC];exact aeQ m sh
theorem ajc {m:Nat} {sh:Nat→Bool × Nat} {i:Nat} (hi:i<m): ∃ r,List.drop (i*2) (shM m sh)= .v (.bool (sh i).1):: .v (.int .i64 (sh i).2)::r:=by
 obtain ⟨r,h⟩:=bH (m:=2) (f:=fun i=>[AV.v (.bool (sh i).1), .v (.int .i64 (sh i).2)]) (fun i=>rfl) hi;exact ⟨r,h⟩
def fiR (m:Nat) (nm:Nat→ByteArray) (sh:Nat→Bool × Nat) (s:ByteArray):Option (Bool × Nat):=(findF (fun i=>decide (nm i=s)) m).map sh
def fiA (o:Option (Bool × Nat)):AV:= .tup [shA (o.getD (false,0)), .v (.bool o.isSome)]
theorem Bl (o:Option (Bool × Nat)):Clo (fiA o):=by unfold fiA shA;simp only [Wv.BC]
theorem xG (N t r:Int) (m:Nat) (nm:Nat→ByteArray) (sh:Nat→Bool × Nat) (s:ByteArray) (hm:m≤140737488351232):TC Tryz.prog 68 [.tp (yC N t r m nm sh), .v (.string s)] (fiA (fiR m nm sh s)):=by
 have hc:=Bl (fiR m nm sh s);have hR:fiR m nm sh s=(findF (fun i=>decide (nm i=s)) m).map sh:=rfl;generalize fiR m nm sh s=R at*;have hdr: ∀ i,i<m→ ∃ r,List.drop (i*2) (shM m sh)= .v (.bool (sh i).1):: .v (.int .i64 (sh i).2)::r:=fun i hi=>ajc hi
 unfold yC bG;refine Wv.TC.by 33 [6,0,13,1,24,4,5] [] [.cell 4 42, .tmp 5] Tryz.func68 rfl rfl rfl ?clo ?_
 case clo=>exact hc
 generalize shM m sh=L at*;refine Wv.W ?_;refine aQ (σ:=Nat) (fun i=>[(0, .tp [.v (.int .i64 N), .v (.int .i64 t), .v (.int .i64 r), .t m 1 (tab m fun i=> .v (.string (nm i))), .t m 2 L]),(1, .v (.string s)),(4, .ptr 0 0),(6, .v (.int .i64 i))]) (fun _=>[some (.blk [.v (.bool false), .v (.int .i64 0)])])
  (fun i=>i≤m∧ ∀ j,j<i→decide (nm j=s)=false) (fun i=>m - i) 0 ⟨Nat.zero_le _,fun j hj=>by omega⟩ rfl Wv.V ?_
 rintro i ⟨hi,hbef⟩;by_cases hlt:i<m
 ·have e1:(i:Int)<m:=by omega
  obtain ⟨rr,hd⟩:=hdr i hlt;cases hq:decide (nm i=s) with
  | true=>
   rw [iF (p:=fun i=>decide (nm i=s)) hlt hq hbef] at hR;subst hR;refine Wv.W3 (ah e1) hq hd ?_;rfl
  | false=>
   refine Wv.W2 (ah e1) hq ?_;refine au (i+1) ⟨by omega,fun j hj=>?_⟩ (by omega) rfl Wv.V2;by_cases e:j=i
   ·subst e;exact hq
   ·exact hbef j (by omega)
 ·obtain rfl:m=i:=by omega
  rw [gq (p:=fun i=>decide (nm i=s)) hbef] at hR;subst hR;refine Wv.W2 @Int.lt_irrefl @decide_false ?_;rfl
theorem QW (N t r:Int) (m:Nat) (nm:Nat→ByteArray) (sh:Nat→Bool × Nat) (n:Int) (hn:inB n=true) (ht:1≤t) (ht':t≤4611686018427387904):TC Tryz.prog 185 [.tp (yC N t r m nm sh), .v (.int .i64 n)] (.v (.bool (nG t n))):=by
 have hn': -4294967295≤n∧n≤4294967295:=by
  unfold inB at hn;rw [Bool.and_eq_true] at hn;exact ⟨of_decide_eq_true hn.1,of_decide_eq_true hn.2⟩
 have hq1:(t - 1).tdiv 2=(t - 1) / 2:=Int.tdiv_eq_ediv_of_nonneg (by omega);have hq2:(-(t - 1)).tdiv 2= -((t - 1) / 2):=by rw [Int.neg_tdiv,hq1]
 have hq3:(0 - (t - 1)).tdiv 2= -((t - 1) / 2):=by rw [Int.zero_sub,hq2]
 have hB:nG t n=(decide (n≥ -((t - 1) / 2)) && decide (n≤(t - 1) / 2)):=by
  unfold nG;by_cases h1:n≥ -((t - 1) / 2)
  ·rw [ah h1,Bool.true_and];by_cases h2:n≤(t - 1) / 2
   ·rw [ah h2];exact ah (by split<;>omega)
   ·rw [aj h2];exact aj (by split<;>omega)
  ·rw [aj h1,Bool.false_and];exact aj (by split<;>omega)
 unfold yC bG;refine Wv.TC.by 24 [1,0,4] [] [.tmp 4] Tryz.func185 rfl rfl rfl ?clo ?_
 case clo=>simp only [Wv.BC]
 generalize shM m sh=L at*;have hw:IntKind.i64.wrap (-((t - 1) / 2))= -((t - 1) / 2):=by rw [IntKind.wrap_i64];omega
 have hw2:IntKind.i64.wrap ((t - 1) / 2)=(t - 1) / 2:=by rw [IntKind.wrap_i64];omega
 generalize (t - 1) / 2=H at*;by_cases h1:n≥ -H
 ·rw [ah h1,Bool.true_and] at hB;simp (disch:=first|exact Wv.D|fail) only [Wv.B,simprocAttr,hq1,hq2,hq3,hw,hw2,ah (show -H≤n from h1),hB]
 ·rw [aj h1,Bool.false_and] at hB;simp (disch:=first|exact Wv.D|fail) only [Wv.B,simprocAttr,hq1,hq2,hq3,hw,hw2,aj (show ¬(-H≤n) from h1),hB]
theorem ML (N t r:Int) (m:Nat) (nm:Nat→ByteArray) (sh:Nat→Bool × Nat) (nl:Nat) (li:Nat→Int) (most:Int) (hnl:nl≤140737488351232) (hli: ∀ i,i<nl→inB (li i)=true) (ht:1≤t) (ht':t≤4611686018427387904):TC Tryz.prog 186 [.tp (yC N t r m nm sh), .t nl 1 (tab nl fun i=> .v (.int .i64 (li i))), .v (.int .i64 most)] (.v (.bool (jM t nl li 0 most))):=by
 have hB:jM t nl li 0 most=(decide ((nl:Int)≤most) && !aI nl fun i=>!nG t (li i)):=by
  unfold jM;rw [ah (show (0:Int)≤(nl:Int) by omega),Bool.true_and]
 have hyc:=vC N t r m nm sh;have TB:=fun i hi=>QW N t r m nm sh (li i) (hli i hi) ht ht'
 generalize jM t nl li 0 most=B at*;generalize yC N t r m nm sh=Y at*;refine Wv.TC.by 25 [7,1,11,0,20,2,6] [] [.tmp 6] Tryz.func186 rfl rfl rfl ?clo ?_
 case clo=>simp only [Wv.BC]
 refine Wv.W ?_;refine aQ (σ:=Nat) (fun i=>[(0, .tp Y),(1, .t nl 1 (tab nl fun i=> .v (.int .i64 (li i)))),(2, .v (.int .i64 most)),(7, .v (.int .i64 i))]) (fun _=>[])
  (fun i=>i≤nl∧ ∀ j,j<i→(!nG t (li j))=false) (fun i=>nl - i) 0 ⟨Nat.zero_le _,fun j hj=>by omega⟩ rfl Wv.V ?_
 rintro i ⟨hi,hbef⟩;by_cases hlt:i<nl
 ·have e1:(i:Int)<nl:=by omega
  have T:=TB i hlt;cases hq:nG t (li i) with
  | false=>
   rw [hq] at T;rw [jA (p:=fun i=>!nG t (li i)) hlt (by simp [hq])] at hB;refine Wv.W1 (ah e1) ?_;refine ak T rfl (lJ hyc (.v _)) Wv.c ?_;refine Wv.W ?_;rw [hB];simp
  | true=>
   rw [hq] at T;refine Wv.W1 (ah e1) ?_;refine ak T rfl (lJ hyc (.v _)) Wv.c ?_;refine Wv.W ?_;refine au (i+1) ⟨by omega,fun j hj=>?_⟩ (by omega) rfl Wv.V2;by_cases e:j=i
   ·subst e;rw [hq];rfl
   ·exact hbef j (by omega)
 ·obtain rfl:i=nl:=by omega
  rw [gX hbef] at hB;refine Wv.W2 @Int.lt_irrefl @decide_false ?_;rw [hB,Bool.not_false,Bool.and_true]
theorem aao (nl:Nat) (li:Nat→Int) (hnl:nl≤140737488351232):TC Tryz.prog 187 [.t nl 1 (tab nl fun i=> .v (.int .i64 (li i)))] (.v (.bool (!aI nl fun i=>!decide (li i=0) && !decide (li i=1)))):=by
 obtain ⟨B,hB⟩: ∃ B,B=!aI nl fun i=>!decide (li i=0) && !decide (li i=1):=⟨_,rfl⟩
 rw [←hB];refine Wv.TC.by 22 [3,0,7,21,2] [] [.tmp 2] Tryz.func187 rfl rfl rfl ?clo ?_
 case clo=>simp only [Wv.BC]
 refine Wv.W ?_;refine aQ (σ:=Nat) (fun i=>[(0, .t nl 1 (tab nl fun i=> .v (.int .i64 (li i)))),(3, .v (.int .i64 i))]) (fun _=>[])
  (fun i=>i≤nl∧ ∀ j,j<i→(!decide (li j=0) && !decide (li j=1))=false) (fun i=>nl - i) 0 ⟨Nat.zero_le _,fun j hj=>by omega⟩ rfl Wv.V ?_
 rintro i ⟨hi,hbef⟩;by_cases hlt:i<nl
 ·have e1:(i:Int)<nl:=by omega
  have hnx:(!decide (li i=0) && !decide (li i=1))=false→ ∀ j,j<i+1→(!decide (li j=0) && !decide (li j=1))=false:=fun h j hj=>by
   by_cases e:j=i
   ·subst e;exact h
   ·exact hbef j (by omega)
  cases h0:decide (li i=0) with
  | true=>
   refine Wv.W2 (ah e1) h0 ?_;refine au (i+1) ⟨by omega,hnx (by rw [h0];rfl)⟩ (by omega) rfl Wv.V2
  | false=>
   cases h1:decide (li i=1) with
   | true=>
    refine Wv.W3 (ah e1) h0 h1 ?_;refine au (i+1) ⟨by omega,hnx (by rw [h0,h1];rfl)⟩ (by omega) rfl Wv.V2
   | false=>
    rw [jA (p:=fun i=>!decide (li i=0) && !decide (li i=1)) hlt (by rw [h0,h1];rfl)] at hB;refine Wv.W3 (ah e1) h0 h1 ?_;rw [hB];rfl
 ·obtain rfl:i=nl:=by omega
  rw [gX hbef] at hB;refine Wv.W2 @Int.lt_irrefl @decide_false ?_;rw [hB];rfl
theorem aap (b:Bool):TC Tryz.prog 184 [.v (.bool b)] (.v (.int .i64 (if b=true then 0 else 233))):=by
 refine Wv.TC.by 4 [0,3,2] [] [.tmp 2] Tryz.func184 rfl rfl rfl ?clo ?_
 case clo=>simp only [Wv.BC]
 cases b
 ·exact Wv.V
 ·exact Wv.V
theorem aaq (a b:Int):TC Tryz.prog 220 [.v (.int .i64 a), .v (.int .i64 b)] (.v (.int .i64 (if a<b then 1 else 0))):=by
 refine Wv.TC.by 8 [0,1,7,4] [] [.tmp 4] Tryz.func220 rfl rfl rfl ?clo ?_
 case clo=>simp only [Wv.BC]
 by_cases h:a<b
 ·rw [if_pos h];exact Wv.V1 (ah h)
 ·rw [if_neg h];exact Wv.V1 (aj h)
end
section
open Go.RowKit Wv
theorem zh (n:Nat) (f:Nat→Nat) (hn:n≤2000000000):TC Tryz.prog 258 [fU n f] (dn (aX (ofT n f))):=by
 rw [F7,KY];have hc:=lC (dJ f n) f;unfold fU;refine Wv.TC.by 24 [0,3,16,4,2] [] [.tmp 2] Tryz.func258 rfl rfl rfl ?clo ?_
 case clo=>simp only [Wv.BC]
 refine Wv.W ?_;refine aQ (σ:=Nat) (fun k=>[(0,fU n f),(3, .v (.int .i64 k))]) (fun k=>[]) (fun k=>k≤n∧dJ f k=dJ f n) (fun k=>k) n ⟨Nat.le_refl _,rfl⟩ Wv.V (by simp (disch:=first|exact Wv.D|fail) only [Wv.B,simprocAttr,fU]) ?_;rintro k ⟨hk,he⟩;unfold fU;cases k with
 | zero=>
  have e0:dJ f n=0:=he.symm;simp (disch:=first|exact Wv.D|fail) only [Wv.B,simprocAttr,e0]
 | succ k=>
  have e1:((k+1:Nat):Int) - 1=(k:Int):=by omega
  have e2:(0:Int)<((k+1:Nat):Int):=by omega
  by_cases hd:f k=0
  ·have he':dJ f k=dJ f n:=by rw [←he,iW,if_pos hd]
   refine Wv.W3 e1 (ah e2) hd ?_;refine au k ⟨by omega,he'⟩ (by omega) Wv.V Wv.V
  ·have he':dJ f n=k+1:=by rw [←he,iW,if_neg hd]
   have hd': ¬ ((f k:Nat):Int)=0:=by omega
   simp (disch:=first|exact Wv.D|fail) only [Wv.B,simprocAttr,e1,ah e2,aj hd',he']
theorem Bo (n:Nat) (f:Nat→Nat) (i:Nat) (hn:n≤140737488351232) (hf:f i≤4294967295):TC Tryz.prog 266 [fU n f, .v (.int .i64 i)] (.v (.int .u64 (if i<n then f i else 0:Nat))):=by
 unfold fU;refine Wv.TC.by 18 [1,0,12,4] [] [.tmp 4] Tryz.func266 rfl rfl rfl ?clo ?_
 case clo=>simp only [Wv.BC]
 have h0: ¬ (i:Int)<0:=by omega
 by_cases h:i<n
 ·have h1: ¬ (n:Int)≤(i:Int):=by omega
  rw [if_pos h];exact Wv.V2f (aj h0) (aj h1)
 ·have h1:(n:Int)≤(i:Int):=by omega
  rw [if_neg h];exact Wv.V2f (aj h0) (ah h1)
theorem aar (a n:Nat) (h1:2≤n) (h2:n≤2147483647) (ha:a<n):TC Tryz.prog 256 [.v (.int .u32 a), .v (.int .u32 n)] (.tup [.v (.int .u32 (jq a n).1), .v (.bool (decide (Nat.gcd n a=1)))]):=by
 refine Wv.TC.by 42 [1,0,7,16,6,10,9,8,33,35,4,5] [] [.tmp 4, .tmp 5] Tryz.func256 rfl rfl rfl ?clo ?_
 case clo=>simp only [Wv.BC]
 refine Wv.W ?_;have HS:=EuI.start h1 ha;refine aQ (σ:=Nat × Nat × Int × Int) (fun s=>[(1, .v (.int .u32 n)),(6, .v (.int .i64 (s.1:Nat))),(7, .v (.int .i64 (s.2.1:Nat))),(8, .v (.int .i64 s.2.2.1)),(9, .v (.int .i64 s.2.2.2))]) (fun s=>[])
  (fun s=>EuI n a s.1 s.2.1 s.2.2.1 s.2.2.2) (fun s=>s.2.1) (n,a,0,1) HS Wv.V Wv.V ?_
 rintro ⟨x,y,u,v⟩ he;simp only at he ⊢;by_cases hy:0<y
 ·have hy0: ¬ ((y:Int)=0):=by omega
  have hs:=he.step hy;have hxn:=he.xn;have hu0:=he.u0;have hu1:=he.u1;have hv0':=hs.v0;have am6:=hs.v1;have hdm:=Nat.div_add_mod x y;have hr:x % y<y:=Nat.mod_lt _ hy;have edt:(x:Int).tdiv (y:Int)=((x / y:Nat):Int):=by rw [Int.tdiv_eq_ediv_of_nonneg (by omega)];exact (Int.natCast_ediv x y).symm
  generalize x / y=q at*;generalize x % y=r at*;have hqy:((y*q+r:Nat):Int)=(x:Int):=by rw [hdm]
  rw [Int.natCast_add,Int.natCast_mul,Int.mul_comm] at hqy;have hq0:(0:Int)≤(q:Int)*(y:Int):=Int.mul_nonneg (by omega) (by omega);have hqx:(q:Int)≤(x:Int):=by
   have h:(q:Int)*1≤(q:Int)*(y:Int):=Int.mul_le_mul_of_nonneg_left (by omega) (by omega);omega
  have e2:IntKind.i64.wrap ((q:Int)*(y:Int))=(q:Int)*(y:Int):=by rw [IntKind.wrap_i64];omega
  have e3:(x:Int) - (q:Int)*(y:Int)=(r:Int):=by omega
  have e4:IntKind.i64.wrap ((q:Int)*v)=(q:Int)*v:=by rw [IntKind.wrap_i64];omega
  have e5:IntKind.i64.wrap (u - (q:Int)*v)=u - (q:Int)*v:=by rw [IntKind.wrap_i64];omega
  simp (disch:=first|exact Wv.D|fail) only [Wv.B,simprocAttr,aj hy0,edt,e2,e3,e4,e5];refine au (y,r,v,u - (q:Int)*v) hs hr Wv.V Wv.V
 ·obtain rfl:y=0:=by omega
  have hg:=he.gc;rw [Nat.gcd_zero_right] at hg;by_cases hx:x=1
  ·have hi:jq a n=(Ol a n,0):=if_pos (by rw [←hg,hx]);have hgg:Nat.gcd n a=1:=by rw [←hg,hx]
   obtain ⟨f1,f2,f3⟩:=he.fin h1 hx;subst hx;have hf:Uw u n=if u<0 then u+n else u:=rfl
   have hu0:=he.u0;have hu1:=he.u1;by_cases hu:u<0
   ·rw [if_pos hu] at hf;refine Wv.W3 (ah hu) hi (ah hgg) ?_;rw [←f3,hf]
   ·rw [if_neg hu] at hf;refine Wv.W3 (aj hu) hi (ah hgg) ?_;rw [←f3,hf]
  ·have hgg: ¬ Nat.gcd n a=1:=fun e=>hx (by rw [hg,e])
   have hi:jq a n=(0,4):=if_neg hgg;have hx': ¬ ((x:Int)=1):=by omega
   exact Wv.V3 (aj hx') hi (aj hgg)
def U9 (m:Nat) (p q:Nat) (f g:Nat→Nat) (i:Nat):Nat:=((if i<p then f i else 0)+m - (if i<q then g i else 0)) % m
def minL (m:Nat) (a b:List Nat):List Nat:=aX (ofT (max a.length b.length) (U9 m a.length b.length (fun i=>a.getD i 0) (fun i=>b.getD i 0)))
theorem MN (m:Nat) (a b:List Nat) (h1:2≤m) (h2:m≤2147483647) (ha: ∀ i,a.getD i 0<m) (hb: ∀ i,b.getD i 0<m) (hn:a.length≤1000000000) (hk:b.length≤1000000000):
  TC Tryz.prog 259 [.v (.int .u32 m),dn a,dn b] (dn (minL m a b)):=by
 unfold minL dn;obtain ⟨N,hN⟩: ∃ N,N=max a.length b.length:=⟨_,rfl⟩
 have hT:=zh (max a.length b.length) (U9 m a.length b.length (fun i=>a.getD i 0) (fun i=>b.getD i 0)) (by omega);generalize (aX (ofT (max a.length b.length) (U9 m a.length b.length (fun i=>a.getD i 0) (fun i=>b.getD i 0))))=R at*;have hRc:=bg R;unfold dn at hT hRc;obtain ⟨f,hf⟩: ∃ f:Nat→Nat,f=fun i=>a.getD i 0:=⟨_,rfl⟩
 obtain ⟨g,hg⟩: ∃ g:Nat→Nat,g=fun i=>b.getD i 0:=⟨_,rfl⟩
 have ef: ∀ i,a.getD i 0=f i:=fun i=>by rw [hf]
 have eg: ∀ i,b.getD i 0=g i:=fun i=>by rw [hg]
 simp only [ef,eg] at*;clear ef eg hf hg;generalize a.length=p at*;generalize b.length=q at*;have hmy:(if (q:Int)>(p:Int) then (q:Int) else (p:Int))=(N:Int):=by rw [hN];split<;>omega
 have hNN:N≤1000000000:=by omega
 rw [←hN] at hT;clear hN;have TA:=fun i=>Bo p f i (by omega) (by have:=ha i;omega)
 have TB:=fun i=>Bo q g i (by omega) (by have:=hb i;omega)
 have hcf:=lC p f;have hcg:=lC q g;have hx: ∀ i,(if i<p then f i else 0)<m:=fun i=>by split;exact ha i;omega
 have hy: ∀ i,(if i<q then g i else 0)<m:=fun i=>by split;exact hb i;omega
 have hF: ∀ i,U9 m p q f g i=((if i<p then f i else 0)+m - (if i<q then g i else 0)) % m:=fun i=>rfl
 generalize U9 m p q f g=F at*;unfold fU at*;refine Wv.TC.by 37 [8,1,2,15,7,0,6] [] [.tmp 6] Tryz.func259 rfl rfl rfl ?clo ?_
 case clo=>exact hRc
 refine Wv.W ?_;refine jU (σ:=Nat) (fun i=>[(0, .v (.int .u32 m)),(1, .t p 1 (tab p fun i=> .v (.int .u32 (f i:Nat)))),(2, .t q 1 (tab q fun i=> .v (.int .u32 (g i:Nat)))),(7, .own 0 i),(8, .v (.int .i64 i))])
  (fun i=>[some (.arr 22 1 (tab i fun i=> .v (.int .u32 (F i:Nat))) 0)]) (fun i=>i≤N) (fun i=>N - i) 0 (Nat.zero_le _) ?_ ?_
 ·refine Ent.trans (Ent.nil 7 22 1 (by omega) rfl) (Ent.fit ?_);exact Wv.V
 intro i hi;by_cases hlt:i<N
 ·have e1:(i:Int)<N:=by omega
  have tA:=TA i;have tB:=TB i;have hx:=hx i;have hy:=hy i;have hF':=hF i;generalize (if i<p then f i else 0)=x at*;generalize (if i<q then g i else 0)=y at*;have e7:IntKind.u32.wrap (((x:Int)+(m:Int) - (y:Int)) % (m:Int))=(F i:Int):=by
   have h8:(((x+m - y) % m:Nat):Int)=((x:Int)+(m:Int) - (y:Int)) % (m:Int):=by rw [Int.natCast_emod,Int.natCast_sub (by omega),Int.natCast_add]
   have h9:(x+m - y) % m<m:=Nat.mod_lt _ (by omega);rw [←h8,IntKind.wrap_u32,hF'];omega
  refine Wv.W2 hmy (ah e1) ?_;refine ak tA rfl (lJ hcf (.v _)) Wv.c ?_;refine Wv.W ?_;refine ak tB rfl (lJ hcg (.v _)) Wv.c ?_;refine Wv.W2 @rG e7 ?_;refine Wv.iO (i+1) 1 (by first | decide | exact Nat.le_of_ble_eq_true rfl) (by omega) (by omega) (Wv.V1 @bJ) Wv.V2 (by simp only [Wv.BL, ↓reduceIte,Nat.reduceLeDiff]<;>omega) (by simp only [Wv.BL, ↓reduceIte,Nat.reduceLeDiff]<;>omega)
 ·obtain rfl:i=N:=by omega
  refine Wv.W3 hmy @Int.lt_irrefl @decide_false ?_;refine jV hT (Oo Wv.c) hRc ?_;refine Wv.W ?_;refine iE rfl ?_;exact Wv.V
def cvS (m:Nat) (f g:Nat→Nat) (i:Nat):Nat→Nat
 | 0=>0
 | k+1=>(cvS m f g i k+f k*g (i - k)) % m
def atF (n:Nat) (f:Nat→Nat) (i:Nat):Nat:=if i<n then f i else 0
def kD (m:Nat) (a b:List Nat):List Nat:=aX (ofT (a.length+b.length) fun i=>cvS m (atF a.length fun i=>a.getD i 0) (atF b.length fun i=>b.getD i 0) i (i+1))
theorem aas {m:Nat} (hm:0<m) (f g:Nat→Nat) (i:Nat): ∀ k,cvS m f g i k<m
 | 0=>hm
 | k+1=>Nat.mod_lt _ hm
theorem MO (m:Nat) (a b:List Nat) (h1:2≤m) (h2:m≤2147483647) (ha: ∀ i,a.getD i 0<m) (hb: ∀ i,b.getD i 0<m) (hn:a.length≤1000000000) (hk:b.length≤1000000000):
  TC Tryz.prog 257 [.v (.int .u32 m),dn a,dn b] (dn (kD m a b)):=by
 unfold kD dn;have hT:=zh (a.length+b.length) (fun i=>cvS m (atF a.length fun i=>a.getD i 0) (atF b.length fun i=>b.getD i 0) i (i+1)) (by omega);generalize (aX (ofT (a.length+b.length) (fun i=>cvS m (atF a.length fun i=>a.getD i 0) (atF b.length fun i=>b.getD i 0) i (i+1))))=R at*;have hRc:=bg R;unfold dn at hT hRc;obtain ⟨f,hf⟩: ∃ f:Nat→Nat,f=fun i=>a.getD i 0:=⟨_,rfl⟩
 obtain ⟨g,hg⟩: ∃ g:Nat→Nat,g=fun i=>b.getD i 0:=⟨_,rfl⟩
 have ef: ∀ i,a.getD i 0=f i:=fun i=>by rw [hf]
 have eg: ∀ i,b.getD i 0=g i:=fun i=>by rw [hg]
 simp only [ef,eg] at*;clear ef eg hf hg;generalize a.length=p at*;generalize b.length=q at*;have TA:=fun i=>Bo p f i (by omega) (by have:=ha i;omega)
 have TB:=fun i=>Bo q g i (by omega) (by have:=hb i;omega)
 have hcf:=lC p f;have hcg:=lC q g;have hx: ∀ i,atF p f i<m:=fun i=>by unfold atF;split;exact ha i;omega
 have hy: ∀ i,atF q g i<m:=fun i=>by unfold atF;split;exact hb i;omega
 have fA: ∀ i,(if i<p then f i else 0)=atF p f i:=fun i=>rfl
 have fB: ∀ i,(if i<q then g i else 0)=atF q g i:=fun i=>rfl
 simp only [fA] at TA;simp only [fB] at TB;generalize atF p f=u at*;generalize atF q g=v at*;clear fA fB;have hS: ∀ i k,cvS m u v i (k+1)=(cvS m u v i k+u k*v (i - k)) % m:=fun i k=>rfl
 have hS0: ∀ i,cvS m u v i 0=0:=fun i=>rfl
 have hSl: ∀ i k,cvS m u v i k<m:=fun i k=>aas (by omega) u v i k
 generalize cvS m u v=F at*;unfold fU at*;refine Wv.TC.by 46 [8,1,2,17,10,22,9,0,7,6] [] [.tmp 6] Tryz.func257 rfl rfl rfl ?clo ?_
 case clo=>exact hRc
 refine Wv.W ?_;refine jU (σ:=Nat) (fun i=>[(0, .v (.int .u32 m)),(1, .t p 1 (tab p fun i=> .v (.int .u32 (f i:Nat)))),(2, .t q 1 (tab q fun i=> .v (.int .u32 (g i:Nat)))),(7, .own 0 i),(8, .v (.int .i64 i))])
  (fun i=>[some (.arr 22 1 (tab i fun i=> .v (.int .u32 (F i (i+1):Nat))) 0)]) (fun i=>i≤p+q) (fun i=>p+q - i) 0 (Nat.zero_le _) ?_ ?_
 ·refine Ent.trans (Ent.nil 7 22 1 (by omega) rfl) (Ent.fit ?_);exact Wv.V
 intro i hi;by_cases hlt:i<p+q
 ·have e1:(i:Int)<(p:Int)+(q:Int):=by omega
  have hz:=hS0 i;refine Wv.W1 (ah e1) ?_;refine aQ (σ:=Nat) (fun k=>[(0, .v (.int .u32 m)),(1, .t p 1 (tab p fun i=> .v (.int .u32 (f i:Nat)))),(2, .t q 1 (tab q fun i=> .v (.int .u32 (g i:Nat)))),(7, .own 0 i),(8, .v (.int .i64 i)),(9, .v (.int .u64 (F i k:Nat))),(10, .v (.int .i64 k))])
   (fun k=>[some (.arr 22 1 (tab i fun i=> .v (.int .u32 (F i (i+1):Nat))) 0)]) (fun k=>k≤i+1) (fun k=>i+1 - k) 0 (Nat.zero_le _) rfl (Wv.V1 hz) ?_
  intro k hkk;by_cases hlt2:k<i+1
  ·have e4:(k:Int)≤(i:Int):=by omega
   have e5:(i:Int) - (k:Int)=((i - k:Nat):Int):=by omega
   have tA:=TA k;have tB:=TB (i - k);have hx:=hx k;have hy:=hy (i - k);have hS':=hS i k;have hSk:=hSl i k;have anE:=hSl i (k+1);generalize u k=x at*;generalize v (i - k)=y at*;have hb1:=pq hx hy h2;have hb':((x*y:Nat):Int)≤4611686014132420609:=by omega
   have hb0:0≤((x*y:Nat):Int):=by omega
   rw [Int.natCast_mul] at hb' hb0;have e7:((F i k:Nat)+(x:Int)*(y:Int)) % (m:Int)=(F i (k+1):Int):=by rw [hS',Int.natCast_emod,Int.natCast_add,Int.natCast_mul]
   refine Wv.W1 (ah e4) ?_;refine ak tA rfl (lJ hcf (.v _)) Wv.c ?_;refine Wv.W1 e5 ?_;refine ak tB rfl (lJ hcg (.v _)) Wv.c ?_;refine Wv.W2 @rG e7 ?_;refine au (k+1) (by omega) (by omega) rfl Wv.V2
  ·obtain rfl:k=i+1:=by omega
   have e6: ¬ (((i+1:Nat):Int)≤(i:Int)):=by omega
   have hSk:=hSl i (i+1);have e7:IntKind.u32.wrap ((F i (i+1):Nat):Int)=(F i (i+1):Int):=by rw [IntKind.wrap_u32];omega
   refine Wv.W2 (aj e6) e7 ?_;refine Wv.iO (i+1) 1 (by first | decide | exact Nat.le_of_ble_eq_true rfl) (by omega) (by omega) (Wv.V1 @bJ) Wv.V2 (by simp only [Wv.BL, ↓reduceIte,Nat.reduceLeDiff]<;>omega) (by simp only [Wv.BL, ↓reduceIte,Nat.reduceLeDiff]<;>omega)
 ·obtain rfl:i=p+q:=by omega
  refine Wv.W3 @Int.natCast_add @Int.lt_irrefl @decide_false ?_;refine jV hT (Oo Wv.c) hRc ?_;refine Wv.W ?_;refine iE rfl ?_;exact Wv.V
end
section
open Go.RowKit Wv
def iI (m:Nat) (xs ys:Nat→Nat) (i:Nat):Nat→List Nat
 | 0=>[ys i]
 | k+1=>if k=i then iI m xs ys i k else kD m (kD m (aX (iI m xs ys i k)) [(m - xs k) % m,1]) [(jq ((xs i+m - xs k) % m) m).1]
def nH (m n:Nat) (xs ys:Nat→Nat):Nat→List Nat
 | 0=>[]
 | i+1=>minL m (nH m n xs ys i) (minL m [] (aX (iI m xs ys i n)))
def okP (m:Nat) (xs:Nat→Nat) (i k:Nat):Bool:=decide (k=i) || decide (Nat.gcd m ((xs i+m - xs k) % m)=1)
def Jh (m n:Nat) (xs:Nat→Nat):Bool:=aI n fun i=>aI n fun k=>!okP m xs i k
def MP (m n:Nat) (xs ys:Nat→Nat):AV:=if Jh m n xs=true then .tup [.v (.slice none 0 0), .v (.int .i64 7)] else .tup [dn (nH m n xs ys n), .v (.int .i64 0)]
theorem aat (m n:Nat) (xs ys:Nat→Nat):Clo (MP m n xs ys):=by
 unfold MP;split
 ·simp only [Wv.BC]
 ·simp only [Wv.BC,bg]
variable {m:Nat}
theorem Bq (hm:0<m) (a b:List Nat) (i:Nat):(kD m a b).getD i 0<m:=mX hm (Iw hm fun i=>aas hm _ _ i _) i
theorem rP (m:Nat) (a b:List Nat):(kD m a b).length≤a.length+b.length:=by
 unfold kD;refine Nat.le_trans (iJ _) ?_;rw [tK];exact Nat.le_refl _
theorem BA (hm:0<m) (a b:List Nat) (i:Nat):(minL m a b).getD i 0<m:=mX hm (Iw hm fun i=>Nat.mod_lt _ hm) i
theorem xH (m:Nat) (a b:List Nat):(minL m a b).length≤max a.length b.length:=by
 unfold minL;refine Nat.le_trans (iJ _) ?_;rw [tK];exact Nat.le_refl _
theorem aau (hm:0<m) (i:Nat):([]:List Nat).getD i 0<m:=by simpa using hm
theorem aav {a:Nat} (hm:0<m) (ha:a<m) (i:Nat):[a].getD i 0<m:=by
 match i with
 | 0=>exact ha
 | i+1=>simpa using hm
theorem ajd {a b:Nat} (hm:0<m) (ha:a<m) (hb:b<m) (i:Nat):[a,b].getD i 0<m:=by
 match i with
 | 0=>exact ha
 | 1=>exact hb
 | i+2=>simpa using hm
theorem xI {m:Nat} (hm:2≤m) (xs ys:Nat→Nat) (i:Nat) (hy:ys i<m): ∀ k,(∀ j,(iI m xs ys i k).getD j 0<m)∧(iI m xs ys i k).length≤1+3*k
 | 0=>⟨aav (by omega) hy,by show 1≤_;omega⟩
 | k+1=>by
  have ih:=xI hm xs ys i hy k;unfold iI;split
  ·exact ⟨ih.1,by omega⟩
  ·refine ⟨Bq (by omega) _ _,?_⟩;refine Nat.le_trans (rP _ _ _) ?_;have h1:=rP m (aX (iI m xs ys i k)) [(m - xs k) % m,1];have h2:=iJ (iI m xs ys i k);have h3:[(m - xs k) % m,1].length=2:=rfl;have h4:[(jq ((xs i+m - xs k) % m) m).1].length=1:=rfl;omega
theorem BD {m:Nat} (hm:2≤m) (n:Nat) (xs ys:Nat→Nat) (hy: ∀ i,i<n→ys i<m): ∀ i,i≤n→(∀ j,(nH m n xs ys i).getD j 0<m)∧(nH m n xs ys i).length≤1+3*n
 | 0,_=>⟨aau (by omega),Nat.zero_le _⟩
 | i+1,hi=>by
  have ih:=BD hm n xs ys hy i (by omega);have hp:=xI hm xs ys i (hy i (by omega)) n;unfold nH;refine ⟨BA (by omega) _ _,Nat.le_trans (xH _ _ _) (Nat.max_le.2 ⟨ih.2,Nat.le_trans (xH _ _ _) (Nat.max_le.2 ⟨Nat.zero_le _,Nat.le_trans (iJ _) hp.2⟩)⟩)⟩
theorem BF (l:List Nat): ∃ (p:Nat) (g:Nat→Nat),dn l= .t p 1 (tab p fun i=> .v (.int .u32 (g i:Nat))):=⟨_,_,rfl⟩
theorem aaw (N:Nat) (l:List Nat):lo N (dn l)=True:=eq_true (.clo (bg l))
theorem Ei (l:List Nat) (hn:l.length≤2000000000):TC Tryz.prog 258 [dn l] (dn (aX l)):=by
 have T:=zh l.length (fun i=>l.getD i 0) hn;rw [KX] at T;exact T
theorem O9 (m n:Nat) (xs ys:Nat→Nat) (h1:2≤m) (h2:m≤2147483647) (hn:n≤256) (hx: ∀ i,i<n→xs i<m) (hy: ∀ i,i<n→ys i<m):
  TC Tryz.prog 241 [.v (.int .u32 m),fU n xs,fU n ys] (MP m n xs ys):=by
 have hRc:=aat m n xs ys;have hRx: ∀ i k,i<n→k<n→okP m xs i k=false→MP m n xs ys= .tup [.v (.slice none 0 0), .v (.int .i64 7)]:=fun i k hi hk h=>
  if_pos (jA (p:=fun i=>aI n fun k=>!okP m xs i k) hi (jA (p:=fun k=>!okP m xs i k) hk (by rw [h];rfl)))
 have hRy:(∀ i,i<n→ ∀ k,k<n→okP m xs i k=true)→MP m n xs ys= .tup [dn (nH m n xs ys n), .v (.int .i64 0)]:=fun h=>by
  have:Jh m n xs=false:=gX fun i hi=>gX fun k hk=>by rw [h i hi k hk];rfl
  unfold MP;rw [this];rfl
 generalize MP m n xs ys=R at*;have d1: ¬ (m:Int)<2:=by omega
 have d2: ¬ (2147483647:Int)<(m:Int):=by omega
 have d3: ¬ (256:Int)<(n:Int):=by omega
 unfold fU;refine Wv.TC.by 126 [0,1,2,28,31,8,35,51,10,55,12,66,71,14,96,11,15,13,9,6,7] [(19,23)] [.tmp 6, .tmp 7] Tryz.func241 rfl rfl rfl ?clo ?_
 case clo=>exact hRc
 refine Wv.W3 (aj d1) (aj d2) (aj d3) ?_;refine aQ (σ:=Nat) (fun i=>[(0, .v (.int .u32 m)),(1, .t n 1 (tab n fun i=> .v (.int .u32 (xs i:Nat)))),(2, .t n 1 (tab n fun i=> .v (.int .u32 (ys i:Nat)))),(8, .v (.int .i64 i))])
  (fun i=>[]) (fun i=>i≤n) (fun i=>n - i) 0 (Nat.zero_le _) rfl Wv.V ?_
 intro i hi;by_cases hlt:i<n
 ·have e1:(i:Int)<(n:Int):=by omega
  have e2: ¬ (m:Int)≤(xs i:Int):=by have:=hx i hlt;omega
  have e3: ¬ (m:Int)≤(ys i:Int):=by have:=hy i hlt;omega
  refine Wv.W3 (ah e1) (aj e2) (aj e3) ?_;refine au (i+1) (by omega) (by omega) rfl Wv.V2
 obtain rfl:n=i:=by omega
 clear hlt;refine Wv.W2 @Int.lt_irrefl @decide_false ?_;refine jU (σ:=Nat) (fun i=>[(0, .v (.int .u32 m)),(1, .t n 1 (tab n fun i=> .v (.int .u32 (xs i:Nat)))),(2, .t n 1 (tab n fun i=> .v (.int .u32 (ys i:Nat)))),(9,dn (nH m n xs ys i)),(10, .v (.int .i64 i))])
  (fun i=>[]) (fun i=>i≤n∧ ∀ j,j<i→ ∀ k,k<n→okP m xs j k=true) (fun i=>n - i) 0 ⟨Nat.zero_le _,fun j hj=>by omega⟩ ?_ ?_
 ·refine Ent.trans (Ent.wk 9 _ (.t 0 1 []) rfl (Wk.nil 1)) (Ent.fit ?_);refine Wv.W ?_;rfl
 rintro i ⟨hi,hbef⟩;by_cases hlt:i<n
 ·have e1:(i:Int)<(n:Int):=by omega
  obtain ⟨ho1,ho2⟩:=BD h1 n xs ys hy i hi;have hyi:=hy i hlt;have hxi:=hx i hlt;have hP:=xI h1 xs ys i hyi;have hP0:dn (iI m xs ys i 0)= .t 1 1 [.v (.int .u32 (ys i:Nat))]:=rfl;have hPn: ∀ k,iI m xs ys i (k+1)=if k=i then iI m xs ys i k else kD m (kD m (aX (iI m xs ys i k)) [(m - xs k) % m,1]) [(jq ((xs i+m - xs k) % m) m).1]:=fun k=>rfl
  have hOn:nH m n xs ys (i+1)=minL m (nH m n xs ys i) (minL m [] (aX (iI m xs ys i n))):=rfl;generalize hO':nH m n xs ys (i+1)=O' at*;generalize nH m n xs ys i=O at*;generalize iI m xs ys i=P at*;refine Wv.W1 (ah e1) ?_;refine jU (σ:=Nat) (fun k=>[(0, .v (.int .u32 m)),(1, .t n 1 (tab n fun i=> .v (.int .u32 (xs i:Nat)))),(2, .t n 1 (tab n fun i=> .v (.int .u32 (ys i:Nat)))),(9,dn O),(10, .v (.int .i64 i)),(11,dn (P k)),(12, .v (.int .i64 k))])
   (fun k=>[]) (fun k=>k≤n∧ ∀ j,j<k→okP m xs i j=true) (fun k=>n - k) 0 ⟨Nat.zero_le _,fun j hj=>by omega⟩ ?_ ?_
  ·refine Ent.trans (Ent.close 11 (.own 0 1) (.t 1 1 [.v (.int .u32 (ys i:Nat))]) _ rfl rfl) (Ent.cut 0 (Nat.zero_le _) ?_ ?_ ?_)
   ·exact Wv.V1 hP0
   ·simp only [Wv.BL, ↓reduceIte,Nat.reduceLeDiff,hP0];exact .clo (bg _)
   ·simp only [Wv.BL, ↓reduceIte,Nat.reduceLeDiff]
  rintro k ⟨hk,hkb⟩;by_cases hlt2:k<n
  ·have e2:(k:Int)<(n:Int):=by omega
   have hnx:okP m xs i k=true→ ∀ j,j<k+1→okP m xs i j=true:=fun h j hj=>by
    by_cases e:j=k
    ·subst e;exact h
    ·exact hkb j (by omega)
   by_cases hki:k=i
   ·have e3:(k:Int)=(i:Int):=by omega
    have hPk:P (k+1)=P k:=by rw [hPn,if_pos hki]
    have ho:okP m xs i k=true:=by unfold okP;rw [ah hki,Bool.true_or]
    refine Wv.W2 (ah e2) (ah e3) ?_;refine au (k+1) ⟨by omega,hnx ho⟩ (by omega) rfl (Wv.V3 hPk @Int.natCast_add @Int.natCast_one)
   ·have e3: ¬ (k:Int)=(i:Int):=by omega
    have hPk:P (k+1)=kD m (kD m (aX (P k)) [(m - xs k) % m,1]) [(jq ((xs i+m - xs k) % m) m).1]:=by rw [hPn,if_neg hki]
    have ho:okP m xs i k=decide (Nat.gcd m ((xs i+m - xs k) % m)=1):=by unfold okP;rw [aj hki,Bool.false_or]
    have hxk:=hx k hlt2;have hm: ¬ (m:Int)=0:=by omega
    have hr:(xs i+m - xs k) % m<m:=Nat.mod_lt _ (by omega);have f1:((xs i:Int)+(m:Int) - (xs k:Int)) % (m:Int)=(((xs i+m - xs k) % m:Nat):Int):=by
     rw [Int.natCast_emod];congr 1;omega
    have hz:(m - xs k) % m<m:=Nat.mod_lt _ (by omega);have f4:((m:Int) - (xs k:Int)) % (m:Int)=(((m - xs k) % m:Nat):Int):=by
     rw [Int.natCast_emod];congr 1;omega
    obtain ⟨hp1,hp2⟩:=hP k;have hiv:=Qk (a:=(xs i+m - xs k) % m) (n:=m) (by omega);have TI:=aar ((xs i+m - xs k) % m) m h1 h2 hr;have ama:=hRx i k hlt hlt2;refine Wv.W5 (ah e2) (aj e3) (aj hm) @rG f1 ?_;refine eU TI rfl Wv.c Wv.c ?_;generalize (xs i+m - xs k) % m=z at*;by_cases hg:Nat.gcd m z=1
    ·rw [ah hg] at ho;have hg':decide (Nat.gcd m z=1)=true:=ah hg;generalize (jq z m).1=iv at*;generalize (m - xs k) % m=u at*;have ht1:=mX (m:=m) (by omega) hp1;have ht2:=iJ (P k);have hq1:=Bq (m:=m) (by omega) (aX (P k)) [u,1];have hq2:=rP m (aX (P k)) [u,1];have hq3:[u,1].length=2:=rfl;have T1:=Ei (P k) (by omega);have T2:TC Tryz.prog 257 [.v (.int .u32 m),dn (aX (P k)), .t 2 1 [.v (.int .u32 (u:Nat)), .v (.int .u32 1)]] (dn (kD m (aX (P k)) [u,1])):=MO m (aX (P k)) [u,1] h1 h2 ht1 (ajd (by omega) hz (by omega)) (by omega) (by show 2≤_;omega);have T3:TC Tryz.prog 257 [.v (.int .u32 m),dn (kD m (aX (P k)) [u,1]), .t 1 1 [.v (.int .u32 (iv:Nat))]] (dn (kD m (kD m (aX (P k)) [u,1]) [iv])):=MO m (kD m (aX (P k)) [u,1]) [iv] h1 h2 hq1 (aav (by omega) hiv) (by omega) (by show 1≤_;omega);rw [←hPk] at T3;have hc1:=bg (aX (P k));have hc2:=bg (kD m (aX (P k)) [u,1]);have hc3:=bg (P (k+1));have hc0:=bg (P k);clear hPk hPn hRx ama hq1 hq2 hq3 ht1 ht2 hp1 hp2;obtain ⟨p1,g1,hW1⟩:=BF (aX (P k));obtain ⟨p2,g2,hW2⟩:=BF (kD m (aX (P k)) [u,1]);rw [hW1] at T1 T2 hc1;rw [hW2] at T2 T3 hc2;simp (disch:=first|exact Wv.D|fail) only [Wv.B,simprocAttr,hg',aj hm,rG,f4];refine ak T1 rfl (Oo hc0) hc1 ?_;refine Wv.W ?_;refine jV T2 Wv.c hc2 ?_;refine Wv.W ?_;refine iE rfl ?_;refine Wv.W ?_;refine jV T3 Wv.c hc3 ?_;refine Wv.W ?_;refine iE rfl ?_;refine Wv.W ?_;refine Wv.iO (k+1) 0 (by first | decide | exact Nat.le_of_ble_eq_true rfl) (⟨by omega,hnx ho⟩) (by omega) (Wv.V1 @bJ) Wv.V2 (by simp only [Wv.BL, ↓reduceIte,Nat.reduceLeDiff,aaw]<;>omega) (by simp only [Wv.BL, ↓reduceIte,Nat.reduceLeDiff,aaw]<;>omega)
    ·rw [aj hg] at ho;have hg':decide (Nat.gcd m z=1)=false:=aj hg;have hR:=ama ho;simp (disch:=first|exact Wv.D|fail) only [Wv.B,simprocAttr,hg',hR]
  ·obtain rfl:n=k:=by omega
   obtain ⟨hp1,hp2⟩:=hP n;have ht1:=mX (m:=m) (by omega) hp1;have ht2:=iJ (P n);have hq1:=BA (m:=m) (by omega) [] (aX (P n));have hq2:=xH m [] (aX (P n));have hq3:([]:List Nat).length=0:=rfl;have T1:=Ei (P n) (by omega);have T2:TC Tryz.prog 259 [.v (.int .u32 m), .t 0 1 [],dn (aX (P n))] (dn (minL m [] (aX (P n)))):=MN m [] (aX (P n)) h1 h2 (aau (by omega)) ht1 (by show 0≤_;omega) (by omega);have T3:TC Tryz.prog 259 [.v (.int .u32 m),dn O,dn (minL m [] (aX (P n)))] (dn O'):=by
    rw [hOn];exact MN m O (minL m [] (aX (P n))) h1 h2 ho1 hq1 (by omega) (by omega)
   have hc1:=bg (aX (P n));have hc2:=bg (minL m [] (aX (P n)));have hc3:=bg O';have hc0:=bg (P n);have hc4:=bg O;have hbe: ∀ j,j<i+1→ ∀ l,l<n→okP m xs j l=true:=fun j hj=>by
    by_cases e:j=i
    ·subst e;exact hkb
    ·exact hbef j (by omega)
   clear hPn hRx hq1 hq2 hq3 ht1 ht2 hp1 hp2 hOn;obtain ⟨p1,g1,hW1⟩:=BF (aX (P n));obtain ⟨p2,g2,hW2⟩:=BF (minL m [] (aX (P n)));rw [hW1] at T1 T2 hc1;rw [hW2] at T2 T3 hc2;refine Wv.W2 @Int.lt_irrefl @decide_false ?_;refine ak T1 rfl (Oo hc0) hc1 ?_;refine Wv.W ?_;refine P9 T2 rfl ⟨Wk.refl _,Wk.nil 1,Wk.refl _,trivial⟩ Wv.c hc2 ?_;refine Wv.W ?_;refine ak T3 rfl (by simp only [Wv.BC];exact hc4) hc3 ?_;refine Wv.W ?_;refine au (i+1) ⟨by omega,hbe⟩ (by omega) rfl (Wv.V3 hO' @Int.natCast_add @Int.natCast_one)
 ·obtain rfl:n=i:=by omega
  have hR:=hRy hbef;simp (disch:=first|exact Wv.D|fail) only [Wv.B,simprocAttr,Int.lt_irrefl,decide_false,hR,dn,fU]
end
section
open Go.RowKit Wv
def eqm (m a b:Int):Prop:= ∃ c,a=b+m*c
variable {a m:Int}
theorem eqm.rfl' :eqm m a a:=⟨0,by grind⟩
variable {b:Int}
theorem eqm.symm :eqm m a b→eqm m b a:=fun ⟨c,h⟩=>⟨-c,by grind⟩
theorem eqm.trans {c:Int}:eqm m a b→eqm m b c→eqm m a c:=fun ⟨x,h⟩ ⟨y,h'⟩=>⟨x+y,by grind⟩
variable {d:Int}
theorem eqm.add {c:Int}:eqm m a b→eqm m c d→eqm m (a+c) (b+d):=fun ⟨x,h⟩ ⟨y,h'⟩=>⟨x+y,by grind⟩
theorem eqm.sub {c:Int}:eqm m a b→eqm m c d→eqm m (a - c) (b - d):=fun ⟨x,h⟩ ⟨y,h'⟩=>⟨x - y,by grind⟩
theorem eqm.mul {c:Int}:eqm m a b→eqm m c d→eqm m (a*c) (b*d):=fun ⟨x,h⟩ ⟨y,h'⟩=>⟨b*y+d*x+m*x*y,by subst h h';grind⟩
theorem eqm.nat (m a : Nat) : eqm m ((a % m : Nat) : Int) a := ⟨-((a / m : Nat) : Int), by have := Nat.div_add_mod a m; have h : ((m * (a / m) + a % m : Nat) : Int) = a := by rw [this]
                                                                                           rw [Int.natCast_add, Int.natCast_mul] at h; grind⟩
def evF (f:Nat→Int):Nat→Int→Int
 | 0,_=>0
 | n+1,x=>f 0+x*evF (fun i=>f (i+1)) n x
theorem pK : ∀ {n:Nat} {f g:Nat→Int} {x:Int},(∀ i,i<n→eqm m (f i) (g i))→eqm m (evF f n x) (evF g n x)
 | 0,_,_,_,_=>eqm.rfl'
 | n+1,f,g,x,h=>(h 0 (Nat.zero_lt_succ _)).add (eqm.rfl'.mul (pK fun i hi=>h (i+1) (by omega)))
theorem Ej: ∀ {n:Nat} {f:Nat→Int} {x:Int},(∀ i,f i=0)→evF f n x=0
 | 0,_,_,_=>rfl
 | n+1,f,x,h=>by
  have:=Ej (n:=n) (f:=fun i=>f (i+1)) (x:=x) fun i=>h _
  simp only [evF,this,h 0];grind
theorem Ji: ∀ {n k:Nat} {f:Nat→Int} {x:Int},(∀ i,n≤i→f i=0)→evF f (n+k) x=evF f n x
 | 0,k,f,x,h=>Ej fun i=>h i (Nat.zero_le _)
 | n+1,k,f,x,h=>by
  rw [show n+1+k=(n+k)+1 by omega];simp only [evF];rw [Ji fun i hi=>h (i+1) (by omega)]
theorem uh: ∀ {n:Nat} {f g:Nat→Int} {c x:Int},evF (fun i=>f i+c*g i) n x=evF f n x+c*evF g n x
 | 0,_,_,_,_=>by simp only [evF];grind
 | n+1,f,g,c,x=>by
  have:=uh (n:=n) (f:=fun i=>f (i+1)) (g:=fun i=>g (i+1)) (c:=c) (x:=x);simp only [evF,this];grind
def upF (f:Nat→Int):Nat→Int
 | 0=>0
 | i+1=>f i
variable {n:Nat}
theorem aje {f:Nat→Int} {x:Int}:evF (upF f) (n+1) x=x*evF f n x:=by
 simp only [evF,upF];grind
def Ai (f:Nat→Int) (n:Nat) (a:Int) (i:Nat):Int:=evF (fun j=>f (i+1+j)) (n - i) a
theorem Gw (f:Nat→Int) (n:Nat) (a:Int):Ai f n a 0=evF (fun i=>f (i+1)) n a:=by
 unfold Ai;rw [Nat.sub_zero];congr 1;funext j;congr 1;omega
theorem Gx (f:Nat→Int) (n:Nat) (a:Int) (i:Nat):Ai f (n+1) a (i+1)=Ai (fun i=>f (i+1)) n a i:=by
 unfold Ai;rw [show n+1 - (i+1)=n - i by omega];congr 1;funext j;congr 1;omega
theorem QX: ∀ {n:Nat} {f:Nat→Int} {a x:Int},evF f (n+1) x=evF (Ai f n a) n x*(x - a)+evF f (n+1) a
 | 0,f,a,x=>by simp only [evF];grind
 | n+1,f,a,x=>by
  have ih:=QX (n:=n) (f:=fun i=>f (i+1)) (a:=a) (x:=x);have e:evF (Ai f (n+1) a) (n+1) x=evF (fun i=>f (i+1)) (n+1) a+x*evF (Ai (fun i=>f (i+1)) n a) n x:=by
   show Ai f (n+1) a 0+x*evF (fun i=>Ai f (n+1) a (i+1)) n x=_;rw [Gw];congr 3;funext i;exact Gx f n a i
  rw [e];have e1:evF f (n+1+1) x=f 0+x*evF (fun i=>f (i+1)) (n+1) x:=rfl;have e2:evF f (n+1+1) a=f 0+a*evF (fun i=>f (i+1)) (n+1) a:=rfl;rw [e1,e2,ih];grind
theorem MQ {m:Int}: ∀ {n:Nat} {f:Nat→Int} {a:Int},eqm m (evF f (n+1) a) 0→(∀ i,i<n→eqm m (Ai f n a i) 0)→ ∀ j,j<n+1→eqm m (f j) 0
 | 0,f,a,h,_,j,hj=>by
  obtain rfl:j=0:=by omega
  obtain ⟨c,h⟩:=h;exact ⟨c,by simp only [evF] at h;grind⟩
 | n+1,f,a,h,hq,j,hj=>by
  have h0:=hq 0 (by omega);rw [Gw] at h0;have e2:evF f (n+1+1) a=f 0+a*evF (fun i=>f (i+1)) (n+1) a:=rfl;cases j with
  | zero=>
   obtain ⟨c,h⟩:=h;obtain ⟨d,h0⟩:=h0;exact ⟨c - a*d,by rw [e2,h0] at h;grind⟩
  | succ j=>exact MQ (f:=fun i=>f (i+1)) h0 (fun i hi=>by rw [←Gx];exact hq (i+1) (by omega)) j (by omega)
theorem roots {m:Int} {xs:Nat→Int}: ∀ (n:Nat) (f:Nat→Int),(∀ i,i<n→eqm m (evF f n (xs i)) 0)→(∀ i k,k<i→i<n→ ∃ b,eqm m ((xs i - xs k)*b) 1)→ ∀ j,j<n→eqm m (f j) 0
 | 0,f,_,_,j,hj=>by omega
 | n+1,f,h,hu,j,hj=>by
  refine MQ (a:=xs n) (h n (by omega)) (roots n _ (fun i hi=>?_) fun i k hk hi=>hu i k hk (by omega)) j hj;obtain ⟨c1,h1⟩:=h i (by omega);obtain ⟨c2,h2⟩:=h n (by omega);obtain ⟨b,c3,h3⟩:=hu n i hi (by omega);rw [QX (a:=xs n),h2] at h1;generalize evF (Ai f n (xs n)) n (xs i)=E at*;exact ⟨-(c1 - c2)*b - E*c3,by grind⟩
def jJ (m a:Int):Prop:= ∃ b,eqm m (a*b) 1
theorem jJ.mul :jJ m a→jJ m b→jJ m (a*b):=fun ⟨x,h⟩ ⟨y,h'⟩=>⟨x*y,by
 have:=h.mul h';rw [show a*b*(x*y)=a*x*(b*y) by grind];simpa using this⟩
theorem jJ.congr (h:eqm m a b):jJ m a→jJ m b:=fun ⟨x,q⟩=>⟨x,(h.symm.mul eqm.rfl').trans q⟩
theorem ajf {a:Nat}: ∀ (y x:Nat) (u v:Int),EuI n a x y u v→ ∃ w:Int,(n:Int)∣w*a - (Nat.gcd n a:Nat):=by
 intro y;induction y using Nat.strongRecOn with
 | _ y ih=>
  intro x u v h;by_cases hy:0<y
  ·exact ih _ (Nat.mod_lt _ hy) _ _ _ (h.step hy)
  ·obtain rfl:y=0:=by omega
   have hg:=h.gc;rw [Nat.gcd_zero_right] at hg;exact ⟨u,hg▸h.du⟩
theorem aax      {a:Nat} (hn : 2 ≤ n) (ha : a < n) (hg : Nat.gcd n a = 1) : jJ    n a := by
  obtain ⟨w, c, h⟩ := ajf    _ _ _ _ (EuI.start hn ha);rw [hg] at h
  exact ⟨w, c, by have h1 : ((1 : Nat) : Int) = 1 := rfl
                  rw [h1] at h; grind⟩
theorem Em {a:Nat} (hn:2≤n) (h:jJ n a):Nat.gcd n a=1∧eqm n ((jq a n).1*a) 1:=by
 obtain ⟨b,c,hb⟩:=h;obtain ⟨i,hi⟩: ∃ i:Nat,(i:Int)=b % n:=⟨(b % n).toNat,Int.toNat_of_nonneg (Int.emod_nonneg _ (by omega))⟩
 have hin:i<n:=by have:=Int.emod_lt_of_pos b (show (0:Int)<n by omega);omega
 have hbd:=Int.mul_ediv_add_emod b n;rw [←hi] at hbd;have e1:((i*a:Nat):Int)=1+n*(c - (b / n)*a):=by
  rw [Int.natCast_mul];have:(i:Int)=b - n*(b / n):=by omega
  rw [this];grind
 have e2:i*a % n=1:=by
  have h2:((i*a % n:Nat):Int)=1:=by
   rw [Int.natCast_emod,e1,Int.add_mul_emod_self_left];exact Int.emod_eq_of_lt (by omega) (by omega)
  omega
 have hg:Nat.gcd n a=1:=by
  have d1:=Nat.gcd_dvd_left n a;have d2:=Nat.gcd_dvd_right n a;have d3:Nat.gcd n a∣i*a:=Nat.dvd_trans d2 (Nat.dvd_mul_left _ _);have h4:Nat.gcd n a∣i*a % n:=(Nat.dvd_mod_iff d1).2 d3;rw [e2] at h4;exact Nat.dvd_one.1 h4
 refine ⟨hg,?_⟩;have:(jq a n).1=i:=by unfold jq;rw [if_pos hg];exact Qh hin e2
 rw [this, ←Int.natCast_mul,e1];exact ⟨c - (b / n)*a,rfl⟩
def cI (l:List Nat) (i:Nat):Int:=((l.getD i 0:Nat):Int)
variable {l:List Nat}
theorem gY {i:Nat} (h:l.length≤i):cI l i=0:=by unfold cI;simp [h]
def evL (l:List Nat) (x:Int):Int:=evF (cI l) l.length x
theorem je {N:Nat} (h:l.length≤N) (x:Int):evF (cI l) N x=evL l x:=by
 obtain ⟨k,rfl⟩: ∃ k,N=l.length+k:=⟨N - l.length,by omega⟩
 exact Ji fun i hi=>gY hi
theorem Gy {f:Nat→Nat}: ∀ {n i:Nat},dJ f n≤i→i<n→f i=0
 | n+1,i,h,hi=>by
  rw [iW] at h;by_cases hz:f n=0
  ·rw [if_pos hz] at h;by_cases e:i=n
   ·subst e;exact hz
   ·exact Gy h (by omega)
  ·rw [if_neg hz] at h;omega
theorem Gz (l:List Nat) (i:Nat):(aX l).getD i 0=l.getD i 0:=by
 unfold aX;rw [List.getD_eq_getElem?_getD,List.getElem?_take];split
 ·rw [List.getD_eq_getElem?_getD]
 ·next h=>
  by_cases hi:i<l.length
  ·have:=Gy (f:=fun i=>l.getD i 0) (Nat.le_of_not_lt h) hi;rw [this];rfl
  ·simp [Nat.le_of_not_lt hi]
theorem qp (l:List Nat) (i:Nat):cI (aX l) i=cI l i:=by unfold cI;rw [Gz]
theorem MR (l:List Nat) (x:Int):evL (aX l) x=evL l x:=by
 rw [←je (iJ l) x];show evF _ _ _=evF _ _ _;congr 1;funext i;exact qp l i
theorem En (n:Nat) (f:Nat→Nat) (i:Nat):cI (ofT n f) i=if i<n then (f i:Int) else 0:=by
 unfold cI;rw [AU];split<;>rfl
theorem Va (m:Nat) (a b:List Nat) (c i:Nat):eqm m (cI (mW m a b c) i) (cI a i+c*cI b i):=by
 unfold mW;rw [qp,En];by_cases h:i<max a.length b.length
 ·rw [if_pos h];by_cases h2:i<b.length
  ·rw [if_pos h2];refine (eqm.nat m _).trans ⟨0,?_⟩;unfold cI;rw [Int.natCast_add,Int.natCast_mul];grind
  ·rw [if_neg h2,gY (l:=b) (by omega)];exact ⟨0,by unfold cI;grind⟩
 ·rw [if_neg h,gY (l:=a) (by omega),gY (l:=b) (by omega)];exact ⟨0,by grind⟩
theorem QY (m u:Nat) (f g:Nat→Nat) (h0:g 0=u) (h1:g 1=1): ∀ p j,eqm m (cvF m 2 f g p j) ((if j<p then (f j:Int)*u else 0)+if 1≤j∧j - 1<p then (f (j - 1):Int) else 0)
 | 0,j=>by
  rw [if_neg (by omega),if_neg (by omega)];exact ⟨0,by show (0:Int)=_;grind⟩
 | p+1,j=>by
  have ih:=QY m u f g h0 h1 p j;unfold cvF;by_cases hj:p≤j∧j<p+2
  ·rw [if_pos hj];refine (eqm.nat m _).trans ?_;rw [Int.natCast_add,Int.natCast_mul];by_cases e:j=p
   ·subst e;rw [if_neg (by omega)] at ih;rw [if_pos (by omega),Nat.sub_self,h0];have e2:(if 1≤j∧j - 1<j+1 then (f (j - 1):Int) else 0)=if 1≤j∧j - 1<j then (f (j - 1):Int) else 0:=by
     by_cases h1j:1≤j
     ·rw [if_pos ⟨h1j,by omega⟩,if_pos ⟨h1j,by omega⟩]
     ·rw [if_neg (by omega),if_neg (by omega)]
    rw [e2];refine (ih.add eqm.rfl').trans ⟨0,by grind⟩
   ·obtain rfl:j=p+1:=by omega
    rw [if_neg (by omega),if_neg (by omega)] at ih;rw [if_neg (by omega),if_pos (by omega),show p+1 - p=1 by omega,h1];refine (ih.add eqm.rfl').trans ⟨0,?_⟩;rw [show p+1 - 1=p by omega,Int.natCast_one];grind
  ·rw [if_neg hj];have e1:(if j<p+1 then (f j:Int)*u else 0)=if j<p then (f j:Int)*u else 0:=by
    by_cases h:j<p
    ·rw [if_pos h,if_pos (by omega)]
    ·rw [if_neg h,if_neg (by omega)]
   have e2:(if 1≤j∧j - 1<p+1 then (f (j - 1):Int) else 0)=if 1≤j∧j - 1<p then (f (j - 1):Int) else 0:=by
    by_cases h:1≤j∧j - 1<p
    ·rw [if_pos h,if_pos (by omega)]
    ·rw [if_neg h,if_neg (by omega)]
   rw [e1,e2];exact ih
theorem Vb (m u:Nat) (a:List Nat) (i:Nat):eqm m (cI (jY m a [u,1]) i) (upF (cI a) i+u*cI a i):=by
 unfold jY;by_cases ha:a.length=0
 ·rw [if_pos (.inl ha),gY (l:=[]) (Nat.zero_le _),gY (l:=a) (by omega)];cases i with
  | zero=>exact ⟨0,by simp only [upF];grind⟩
  | succ i=>exact ⟨0,by simp only [upF];rw [gY (l:=a) (by omega)];grind⟩
 ·rw [if_neg (by rintro (h | h)<;>first | exact ha h | cases h),qp,En];have h2:[u,1].length=2:=rfl;rw [h2];have hc:=QY m u (fun i=>a.getD i 0) (fun i=>[u,1].getD i 0) rfl rfl a.length i;have e1:(if i<a.length then ((a.getD i 0:Nat):Int)*u else 0)=u*cI a i:=by
   by_cases h:i<a.length
   ·rw [if_pos h];unfold cI;grind
   ·rw [if_neg h,gY (by omega)];grind
  have e2:(if 1≤i∧i - 1<a.length then ((a.getD (i - 1) 0:Nat):Int) else 0)=upF (cI a) i:=by
   cases i with
   | zero=>rw [if_neg (by omega)];rfl
   | succ i=>
    show _=cI a i;by_cases h:i<a.length
    ·rw [if_pos ⟨by omega,by omega⟩];rfl
    ·rw [if_neg (by omega),gY (by omega)]
  simp only [e1,e2] at hc;by_cases h:i<a.length+2 - 1
  ·rw [if_pos h];exact hc.trans ⟨0,by grind⟩
  ·rw [if_neg h,gY (by omega)];obtain ⟨j,rfl⟩: ∃ j,i=j+1:=⟨i - 1,by omega⟩
   show eqm m 0 (cI a j+u*0);rw [gY (by omega)];exact ⟨0,by grind⟩
theorem QZ (m:Nat) (f:Nat→Nat) (x n:Nat): ∀ k,k≤n→eqm m (DR m f x n k) (evF (fun i=>((f (n - k+i):Nat):Int)) k x)
 | 0,_=>eqm.rfl'
 | k+1,h=>by
  have ih:=QZ m f x n k (by omega);unfold DR;refine (eqm.nat m _).trans ?_;have e:evF (fun i=>((f (n - (k+1)+i):Nat):Int)) (k+1) x=(f (n - 1 - k):Int)+x*evF (fun i=>((f (n - k+i):Nat):Int)) k x:=by
   show ((f (n - (k+1)+0):Nat):Int)+x*evF (fun i=>((f (n - (k+1)+(i+1)):Nat):Int)) k x=_;rw [show n - (k+1)+0=n - 1 - k by omega];congr 3;funext i;rw [show n - (k+1)+(i+1)=n - k+i by omega]
  rw [e,Int.natCast_add,Int.natCast_mul];refine ((ih.mul eqm.rfl').add eqm.rfl').trans ⟨0,by grind⟩
theorem aay (m:Nat) (l:List Nat) (x:Nat):eqm m (mV m l x) (evL l x):=by
 have:=QZ m (fun i=>l.getD i 0) x l.length l.length (Nat.le_refl _);simp only [Nat.sub_self,Nat.zero_add] at this;exact this
theorem aaz (m:Nat) (a b:List Nat) (c:Nat) (x:Int):eqm m (evL (mW m a b c) x) (evL a x+c*evL b x):=by
 obtain ⟨N,h1,h2,h3⟩: ∃ N,(mW m a b c).length≤N∧a.length≤N∧b.length≤N:=⟨max a.length b.length,Gf _ _ _ _,by omega,by omega⟩
 rw [←je h1, ←je h2, ←je h3, ←uh];exact pK fun i _=>Va m a b c i
theorem Q5 {m:Nat} {a:List Nat} {u:Nat} (hl:l.length≤a.length+2) (h: ∀ i,eqm m (cI l i) (upF (cI a) i+u*cI a i)) (x:Int):eqm m (evL l x) ((x+u)*evL a x):=by
 have h1:l.length≤(a.length+1)+1:=by omega
 rw [←je h1];refine (pK fun i _=>h i).trans ?_;rw [uh,aje,je (show a.length≤a.length+1 by omega),je (show a.length≤a.length+1+1 by omega)];exact ⟨0,by grind⟩
theorem aaA (m:Nat) (a:List Nat) (u:Nat) (x:Int):eqm m (evL (jY m a [u,1]) x) ((x+u)*evL a x):=
 Q5 (Nat.le_trans (Gg _ _ _) (by show a.length+2 - 1≤_;omega)) (Vb m u a) x
theorem xJ {m a b:Nat} (hb:b≤m):eqm m (((a+m - b) % m:Nat):Int) (a - b):=by
 refine (eqm.nat m _).trans ⟨1,?_⟩;rw [Int.natCast_sub (by omega),Int.natCast_add];grind
theorem Q7 {m b:Nat} (hb:b≤m):eqm m (((m - b) % m:Nat):Int) (-b):=by
 refine (eqm.nat m _).trans ⟨1,?_⟩;rw [Int.natCast_sub hb];grind
theorem MS {m n:Nat} (hm:2≤m) (xs ys:Nat→Nat) (hx: ∀ i,i<n→xs i<m) (hu: ∀ i k,k<i→i<n→jJ m ((xs i:Int) - xs k)): ∀ i,i≤n→(∀ k,k<i→eqm m (evL (bZ m xs ys i).1 (xs k)) (ys k))∧(∀ k,k<i→eqm m (evL (bZ m xs ys i).2 (xs k)) 0)∧ ∀ k,i≤k→k<n→jJ m (evL (bZ m xs ys i).2 (xs k))
 | 0,_=>⟨fun k hk=>by omega,fun k hk=>by omega,fun k _ _=>⟨1,0,by show ((1:Int)+(xs k:Int)*0)*1=_;grind⟩⟩
 | i+1,hi=>by
  obtain ⟨h1,h2,h3⟩:=MS hm xs ys hx hu i (by omega);have e1:(bZ m xs ys (i+1)).1=mW m (bZ m xs ys i).1 (bZ m xs ys i).2 ((ys i+m - mV m (bZ m xs ys i).1 (xs i)) % m*(jq (mV m (bZ m xs ys i).2 (xs i)) m).1 % m):=rfl;have e2:(bZ m xs ys (i+1)).2=jY m (bZ m xs ys i).2 [(m - xs i) % m,1]:=rfl;rw [e1,e2];generalize (bZ m xs ys i).1=P at*;generalize (bZ m xs ys i).2=B at*;have hvP:=aay m P (xs i);have hvB:=aay m B (xs i);have hlP:=Iy (m:=m) (by omega) P (xs i);have hub:jJ m (mV m B (xs i):Nat):=(h3 i (Nat.le_refl _) (by omega)).congr hvB.symm;have hinv:=(Em hm hub).2;have hs:=xJ (a:=ys i) (Nat.le_of_lt hlP);have hc:=eqm.nat m ((ys i+m - mV m P (xs i)) % m*(jq (mV m B (xs i)) m).1);rw [Int.natCast_mul] at hc;generalize (ys i+m - mV m P (xs i)) % m*(jq (mV m B (xs i)) m).1 % m=c at*;generalize (jq (mV m B (xs i)) m).1=iv at*;have hc2:=hc.trans (hs.mul eqm.rfl');have hz:=Q7 (Nat.le_of_lt (hx i (by omega)));have hB: ∀ x:Int,eqm m (evL (jY m B [(m - xs i) % m,1]) x) ((x - xs i)*evL B x):=fun x=>(aaA m B _ x).trans (((eqm.rfl'.add hz).mul eqm.rfl').trans ⟨0,by grind⟩)
  refine ⟨fun k hk=>?_,fun k hk=>?_,fun k hk hk2=>?_⟩
  ·refine (aaz m P B c (xs k)).trans ?_;by_cases e:k=i
   ·subst e;refine (eqm.rfl'.add (hc2.mul hvB.symm)).trans ?_;obtain ⟨c1,hvP⟩:=hvP;obtain ⟨c2,hinv⟩:=hinv;exact ⟨-c1+((ys k:Int) - (mV m P (xs k):Nat))*c2,by grind⟩
   ·obtain ⟨c1,q1⟩:=h1 k (by omega);obtain ⟨c2,q2⟩:=h2 k (by omega);exact ⟨c1+c*c2,by rw [q1,q2];grind⟩
  ·refine (hB _).trans ?_;by_cases e:k=i
   ·subst e;exact ⟨0,by grind⟩
   ·obtain ⟨c2,q2⟩:=h2 k (by omega);exact ⟨((xs k:Int) - xs i)*c2,by rw [q2];grind⟩
  ·exact ((hu k i (by omega) hk2).mul (h3 k (by omega) hk2)).congr (hB _).symm
end
end Go.Proofs.YtljfgdlgmdcmfaaGreat
