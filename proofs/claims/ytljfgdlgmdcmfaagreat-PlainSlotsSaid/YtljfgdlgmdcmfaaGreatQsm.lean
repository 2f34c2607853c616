/- Parts of a proof. -/
import Derived.Test.YtljfgdlgmdcmfaaGreatQsh
import Derived.Test.YtljfgdlgmdcmfaaGreatQsj
import Derived.Test.YtljfgdlgmdcmfaaGreatQsl
import Derived.Test.YtljfgdlgmdcmfaaGreatQsg
set_option linter.unusedVariables false
set_option linter.unusedSimpArgs false
set_option maxHeartbeats 1600000
set_option maxRecDepth 100000
namespace Go.Proofs.YtljfgdlgmdcmfaaGreat
section
open Go.RowKit Wv
def vcA (N:Nat) (f:Nat→Int):AV:= .t N 1 (tab N fun j=> .v (.int .i64 (f j)))
abbrev Env:=List (ByteArray × (Nat→Int))
def enE (N:Nat) (es:Env):List (Value × AV):=es.map fun p=>(.string p.1,vcA N p.2)
def evC (N:Nat) (t:Int):List AV:=[.v (.int .i64 N), .v (.int .i64 t), .mp 1]
def hV (N:Nat) (t:Int) (es:Env):Hp:=[some (.blk (evC N t)),some (.map (enE N es))]
theorem zY (N:Nat) (f:Nat→Int):Clo (vcA N f):=by unfold vcA;simp only [Wv.BC]
theorem sK (N:Nat) (es:Env): ∀ a,a∈(enE N es).map (·.2)→Clo a:=by
 intro a ha;unfold enE at ha;rw [List.map_map] at ha;obtain ⟨p,_,rfl⟩:=List.mem_map.1 ha;exact zY _ _
theorem aix (N:Nat) (t:Int):RnL id 2 (evC N t) (evC N t):=⟨.clo (.v _), .clo (.v _), .mp (by omega),trivial⟩
theorem Lj (N:Nat) (t:Int) (es:Env):loH (hV N t es).length (hV N t es):=by
 refine ⟨?_,fun a ha=> .clo (sK N es a ha),trivial⟩;unfold loL evC;simp only [List.mem_cons,List.not_mem_nil,or_false,forall_eq_or_imp,forall_eq];exact ⟨.clo (.v _), .clo (.v _), .mp (by show 1<2;omega)⟩
theorem alU (N:Nat) (t:Int) (es:Env): ∀ (i:Nat) (o:Option Ob),(hV N t es)[i]? =some o→ ∃ o',o=some o'∧RnO id (hV N t es).length o' o':=by
 intro i o ho;unfold hV at ho ⊢;match i with
 | 0=>simp at ho;subst ho;exact ⟨_,rfl,aix N t⟩
 | 1=>simp at ho;subst ho;exact ⟨_,rfl,rfl,RnL.clo (sK N es)⟩
 | i+2=>simp at ho
theorem RD.hV {N:Nat} {t:Int} {es:Env} {f:FuncId} {args:List AV} {R p:AV→Prop} (T:RD Tryz.prog f (.ptr 0 0::args) (hV N t es) R p) (r:Hp) (ha: ∀ (a:AV),a∈args→Clo a) (hR: ∀ r,R r→Clo r) (hp: ∀ r,p r→Clo r):HTP Tryz.prog f (.ptr 0 0::args) (hV N t es++r) (fun q h'=>R q∧h'=hV N t es++r) (fun q h'=>p q∧h'=hV N t es++r):=
 RD.ext T r ⟨.ptr (by show 0<2;omega),RnL.clo ha⟩ (alU N t es) hR hp
def qh (t n:Int):Int:=if (t - 1) / 2<n.tmod t then n.tmod t - t else if n.tmod t< -((t - 1) / 2) then n.tmod t+t else n.tmod t
theorem tmod_in {t n:Int} (ht:3≤t): -t<n.tmod t∧n.tmod t<t:=by
 constructor
 ·have:=Int.lt_tmod_of_pos n (show 0<t by omega);omega
 ·exact Int.tmod_lt_of_pos n (by omega)
theorem zZ {t n:Int} (ht:3≤t) (ho:t % 2=1): -((t - 1) / 2)≤qh t n∧qh t n≤(t - 1) / 2:=by
 have:=tmod_in (n:=n) ht;unfold qh;generalize n.tmod t=m at*;split
 ·omega
 ·split<;>omega
theorem Ll (N:Nat) (t:Int) (es:Env) (n:Int) (ht:3≤t) (ht':t≤2147483647) (hn: -9223372036854775807≤n) (hn':n≤9223372036854775807):RD Tryz.prog 125 [.ptr 0 0, .v (.int .i64 n)] (hV N t es) (fun r=>r= .v (.int .i64 (qh t n))) (fun _=>False):=by
 refine RD.of ?_ (fun r q=>q▸ .clo Wv.c) (fun r q=>q.elim) (Lj N t es);unfold hV evC;have hq:(t - 1).tdiv 2=(t - 1) / 2:=Int.tdiv_eq_ediv_of_nonneg (by omega);have hb:=tmod_in (n:=n) ht;have hB:qh t n=if (t - 1) / 2<n.tmod t then n.tmod t - t else if n.tmod t< -((t - 1) / 2) then n.tmod t+t else n.tmod t:=rfl
 generalize qh t n=B at*;generalize hm:n.tmod t=m at*;refine Wv.HTP.by 40 [1,0,5,18,28,4] [(1000000,2)] [.tmp 4] Tryz.func125 rfl rfl rfl ?base ?_
 case base=>rfl
 by_cases h1:(t - 1) / 2<m
 ·rw [if_pos h1] at hB;refine Wv.W3 hq hm (ah h1) ?_;rw [hB]
 rw [if_neg h1] at hB;by_cases h2:m< -((t - 1) / 2)
 ·rw [if_pos h2] at hB;simp (disch:=first|exact Wv.D|fail) only [Wv.B,simprocAttr,hq,hm,aj h1,ah h2];rw [hB]
 ·rw [if_neg h2] at hB;simp (disch:=first|exact Wv.D|fail) only [Wv.B,simprocAttr,hq,hm,aj h1,aj h2];rw [hB]
def FQ (_:Nat):Int:=0
def DL (nl:Nat) (li:Nat→Int) (j:Nat):Int:=if j<nl then li j else 0
theorem DN {m:Nat} {g:Nat→AV}: ∀ {k n:Nat} {f:Nat→AV},m≤n→k≤m→dR (tab n f) (m - k) (tab k fun i=>g (i+(m - k)))=tab n fun i=>if m - k≤i∧i<m then g i else f i
 | 0,n,f,h,hk=>by
  show tab n f=_;exact aN fun i hi=>by rw [if_neg (by omega)]
 | k+1,n,f,h,hk=>by
  have e1:(tab (k+1) fun i=>g (i+(m - (k+1))))=g (m - (k+1))::tab k fun i=>g (i+(m - k)):=by
   unfold tab;rw [List.range_succ_eq_map,List.map_cons,List.map_map,Nat.zero_add];congr 1;apply List.map_congr_left;intro i hi;show g (i+1+(m - (k+1)))=_;congr 1;omega
  rw [e1];show dR ((tab n f).set (m - (k+1)) _) (m - (k+1)+1) _=_;rw [bY,show m - (k+1)+1=m - k by omega,DN (k:=k) h (by omega)];refine aN fun i hi=>?_
  by_cases q:i=m - (k+1)
  ·subst q;rw [if_neg (by omega),if_pos rfl,if_pos (by omega)]
  ·by_cases q2:m - k≤i∧i<m
   ·rw [if_pos q2,if_pos (by omega)]
   ·rw [if_neg q2,if_neg q,if_neg (by omega)]
theorem Ue {m n:Nat} {f g:Nat→AV} (h:m≤n):dR (tab n f) 0 (tab m g)=tab n fun i=>if i<m then g i else f i:=by
 have:=DN (g:=g) (f:=f) h (Nat.le_refl m);rw [Nat.sub_self] at this;simp only [Nat.add_zero,Nat.zero_le,true_and] at this;exact this
theorem adP (N:Nat) (t:Int) (es:Env) (nl:Nat) (li:Nat→Int) (hN:N≤32) (hl:nl≤N):RD Tryz.prog 120 [.ptr 0 0, .t nl 1 (tab nl fun i=> .v (.int .i64 (li i)))] (hV N t es) (fun r=>r=vcA N (DL nl li)) (fun _=>False):=by
 refine RD.of ?_ (fun r q=>q▸ .clo (zY _ _)) (fun r q=>q.elim) (Lj N t es);have hp: ∀ f:Nat→AV,dR (tab N f) 0 (tab nl fun i=>AV.v (.int .i64 (li i)))=tab N fun i=>if i<nl then AV.v (.int .i64 (li i)) else f i:=fun f=>Ue hl
 have he:(tab N fun i=>if i<nl then AV.v (.int .i64 (li i)) else AV.v (.int .i64 0))=tab N fun j=>AV.v (.int .i64 (DL nl li j)):=aN fun i hi=>by unfold DL;split<;>rfl
 unfold hV evC vcA;refine Wv.HTP.by 15 [0,5,1,4] [(1000000,2)] [.tmp 4] Tryz.func120 rfl rfl rfl ?base ?_
 case base=>rfl
 exact Wv.V2f hp he
theorem Zf (N:Nat) (t:Int) (es:Env) (hN:N≤32):RD Tryz.prog 120 [.ptr 0 0, .v (.slice none 0 0)] (hV N t es) (fun r=>r=vcA N FQ) (fun _=>False):=by
 refine RD.of ?_ (fun r q=>q▸ .clo (zY _ _)) (fun r q=>q.elim) (Lj N t es);unfold hV evC vcA FQ;refine Wv.HTP.by 15 [0,5,1,4] [(1000000,2)] [.tmp 4] Tryz.func120 rfl rfl rfl ?base ?_
 case base=>rfl
 exact Wv.V
def Iu (t:Int):Nat→Int→Int→Int→Int
 | 0,out,_,_=>out
 | f+1,out,a,k=>if 0<k then Iu t f (if k % 2=1 then qh t (out*a) else out) (qh t (a*a)) (k / 2) else out
def Uf (t a k:Int):Int:=Iu t 64 1 a k
theorem Ug (x:Int) (h0:0≤x) (h1:x≤9223372036854775807):IntKind.i64.wrap ((BitVec.ofInt IntKind.i64.bits x &&& BitVec.ofInt IntKind.i64.bits 1).toNat:Int)=x % 2:=by
 obtain ⟨n,rfl⟩:=Int.eq_ofNat_of_zero_le h0;have:(BitVec.ofInt IntKind.i64.bits (n:Int) &&& BitVec.ofInt IntKind.i64.bits 1).toNat=n % 2:=by
  show (BitVec.ofInt 64 (n:Int) &&& BitVec.ofInt 64 1).toNat=n % 2;rw [BitVec.toNat_and,BitVec.ofInt_natCast,BitVec.toNat_ofNat,Nat.mod_eq_of_lt (by omega)];exact Nat.and_one_is_mod n
 rw [this];have h2:n % 2=0∨n % 2=1:=by omega
 rcases h2 with h | h
 ·rw [h,show ((n:Nat):Int) % 2=0 by omega];rfl
 ·rw [h,show ((n:Nat):Int) % 2=1 by omega];rfl
theorem Iw {t a b:Int} (ht:t≤2147483647) (ha: -((t - 1) / 2)≤a∧a≤(t - 1) / 2) (hb: -((t - 1) / 2)≤b∧b≤(t - 1) / 2): -1152921504606846976≤a*b∧a*b≤1152921504606846976:=by
 have h1:a.natAbs≤1073741824:=by omega
 have h2:b.natAbs≤1073741824:=by omega
 have h3:=Nat.mul_le_mul h1 h2;rw [←Int.natAbs_mul] at h3;omega
theorem adQ (N:Nat) (t:Int) (es:Env) (a k:Int) (ht:3≤t) (ho:t % 2=1) (ht':t≤2147483647) (ha: -((t - 1) / 2)≤a∧a≤(t - 1) / 2) (hk:0≤k) (hk':k≤9223372036854775807):RD Tryz.prog 124 [.ptr 0 0, .v (.int .i64 a), .v (.int .i64 k)] (hV N t es) (fun r=>r= .v (.int .i64 (Uf t a k))) (fun _=>False):=by
 refine RD.of ?_ (fun r q=>q▸ .clo Wv.c) (fun r q=>q.elim) (Lj N t es);have hB:=fun n h1 h2=>RD.hV (Ll N t es n ht ht' h1 h2)
 generalize hP:Uf t a k=P;unfold Uf at hP;unfold hV evC at*;refine Wv.HTP.by 26 [2,9,14,0,7,1,6] [(1000000,2)] [.tmp 6] Tryz.func124 rfl rfl rfl ?base ?_
 case base=>rfl
 refine Wv.W ?_;refine aV (σ:=Nat × Int × Int × Int) (fun s=>[(0, .ptr 0 0),(1, .v (.int .i64 s.2.2.1)),(2, .v (.int .i64 s.2.2.2)),(7, .v (.int .i64 s.2.1))]) (fun _=>[some (.blk [.v (.int .i64 N), .v (.int .i64 t), .mp 1]),some (.map (enE N es))])
  (fun s=>Iu t s.1 s.2.1 s.2.2.1 s.2.2.2=P∧0≤s.2.2.2∧(s.2.2.2<2 ^ s.1∧s.2.2.2≤9223372036854775807)∧(-((t - 1) / 2)≤s.2.1∧s.2.1≤(t - 1) / 2)∧(-((t - 1) / 2)≤s.2.2.1∧s.2.2.1≤(t - 1) / 2)) (fun s=>s.1) (64,1,a,k) ⟨hP,hk,⟨by show k<2 ^ 64;omega,hk'⟩,⟨by show _≤(1:Int);omega,by show (1:Int)≤_;omega⟩,ha⟩ Wv.V Wv.V ?_
 rintro ⟨f,o,a,k⟩ ⟨h1,h2,⟨h3,hk2⟩,h4,h5⟩;simp only at h1 h2 h3 h4 h5 hk2;by_cases h0:0<k
 ·obtain ⟨f,rfl⟩: ∃ g,f=g+1:=by
   cases f with
   | zero=>omega
   | succ g=>exact ⟨g,rfl⟩
  have e1:=Ug k h2 hk2;have m1:=Iw ht' h5 h5;have m2:=Iw ht' h4 h5;have hfd:k.fdiv (2 ^ min 1 64)=k / 2:=Int.fdiv_eq_ediv_of_nonneg k (show (0:Int)≤2 ^ min 1 64 by decide);have n1:=zZ (n:=a*a) ht ho;have n2:=zZ (n:=o*a) ht ho;unfold Iu at h1;rw [if_pos h0] at h1;by_cases hodd:k % 2=1
  ·rw [if_pos hodd] at h1;refine Wv.W3 (ah h0) e1 (ah hodd) ?_;refine aI (fst:=[]) (cap:=[]) (hB (o*a) (by omega) (by omega) [] Wv.c (by rintro r rfl;simp only [Wv.BC]) (by rintro r h;exact h.elim)) ?_ (by rintro av h' ⟨h,_⟩;exact h.elim);rintro av h' ⟨rfl,rfl⟩;refine Wv.W ?_;refine aI (fst:=[]) (cap:=[]) (hB (a*a) (by omega) (by omega) [] Wv.c (by rintro r rfl;simp only [Wv.BC]) (by rintro r h;exact h.elim)) ?_ (by rintro av h' ⟨h,_⟩;exact h.elim);rintro av h' ⟨rfl,rfl⟩;refine Wv.W1 hfd ?_;refine ay (f,qh t (o*a),qh t (a*a),k / 2) ⟨h1,by simp only;omega,by simp only;omega,n2,n1⟩ (by simp only;omega) Wv.V Wv.V
  ·rw [if_neg hodd] at h1;refine Wv.W3 (ah h0) e1 (aj hodd) ?_;refine aI (fst:=[]) (cap:=[]) (hB (a*a) (by omega) (by omega) [] Wv.c (by rintro r rfl;simp only [Wv.BC]) (by rintro r h;exact h.elim)) ?_ (by rintro av h' ⟨h,_⟩;exact h.elim);rintro av h' ⟨rfl,rfl⟩;refine Wv.W1 hfd ?_;refine ay (f,o,qh t (a*a),k / 2) ⟨h1,by simp only;omega,by simp only;omega,h4,n1⟩ (by simp only;omega) Wv.V Wv.V
 ·refine Wv.W1 (aj h0) ?_;have:Iu t f o a k=o:=by
   cases f with
   | zero=>rfl
   | succ f=>unfold Iu;rw [if_neg h0]
  rw [←h1,this]
end
section
open Go.RowKit Wv
theorem oQ:szP Tryz.prog 163=some 1:=by kernel_rfl
theorem yh:aA Tryz.prog 163=some .nilFunc:=by kernel_rfl
theorem oU:bg Tryz.prog 163=some false:=by kernel_rfl
theorem yj:jR Tryz.prog 163=true:=by kernel_rfl
def Eu (t n:Int):Int:=(n+t).tmod t
theorem Qh (h:Hp) (b:Bool):TC Tryz.prog 121 [.v (.bool b)] (.v (.int .i64 (if b=true then 1 else 0))):=by
 refine Wv.TC.by 4 [0,3,2] [] [.tmp 2] Tryz.func121 rfl rfl rfl ?clo ?_
 case clo=>simp only [Wv.BC]
 cases b<;>simp (disch:=first|exact Wv.D|fail) only [Wv.B,simprocAttr]
def Zg (N:Nat) (n:Int) (j:Nat):Nat:=j / (N / 2)*(N / 2)+(j % (N / 2)+n.toNat) % (N / 2)
def yu (f:Nat→Int):Nat→Int
 | 0=>0
 | i+1=>yu f i+f i
def slZ (N:Nat) (t k n:Int) (li ls:Nat→Int) (A:Nat→Nat→Int) (j:Nat):Int:=
 if k=2 then n else if k=3 then ls j else if k=4 then A 0 j+A 1 j else if k=5 then A 0 j - A 1 j else if k=6 then 0 - A 0 j else if k=7 then A 0 j*A 1 j
 else if k=8 then A 0 (Zg N n j) else if k=9 then A 0 ((j+N / 2) % N) else if k=10 then ls j*A 0 j else if k=11 then li (Eu t (A 0 j)).toNat
 else if k=12 then (if A 0 j=A 1 j then 1 else 0) else if k=13 then (if Eu t (A 0 j)<n then 1 else 0) else if k=14 then Uf t (A 0 j) n else yu (A 0) N
theorem Ou {t a:Int} (ht:3≤t) (ha: -((t - 1) / 2)≤a∧a≤(t - 1) / 2):0≤Eu t a∧Eu t a<t:=by
 unfold Eu;exact ⟨Int.tmod_nonneg _ (by omega),Int.tmod_lt_of_pos _ (by omega)⟩
theorem lsm {t l a:Int} (hl:inB l=true) (ht:t≤2147483647) (ha: -((t - 1) / 2)≤a∧a≤(t - 1) / 2): -4611686018427387904≤l*a∧l*a≤4611686018427387904:=by
 unfold inB at hl;rw [Bool.and_eq_true] at hl;have q1:=of_decide_eq_true hl.1;have q2:=of_decide_eq_true hl.2;have h1:l.natAbs≤4294967296:=by omega
 have h2:a.natAbs≤1073741824:=by omega
 have h3:=Nat.mul_le_mul h1 h2;rw [←Int.natAbs_mul] at h3;omega
theorem Ov {t:Int} {f:Nat→Int} {N:Nat} (ht:t≤2147483647) (hf: ∀ j,j<N→ -((t - 1) / 2)≤f j∧f j≤(t - 1) / 2): ∀ i,i≤N→ -(1073741824*i)≤yu f i∧yu f i≤1073741824*i
 | 0,_=>by show _≤(0:Int)∧(0:Int)≤_;omega
 | i+1,h=>by
  have ih:=Ov ht hf i (by omega);have:=hf i (by omega);show _≤yu f i+f i∧yu f i+f i≤_;rw [Int.natCast_add];omega
def hS (N:Nat) (t:Int) (es:Env) (k:Int) (s:ByteArray) (n:Int) (nl:Nat) (li:Nat→Int) (na:Nat) (L:List AV) (A:Nat→Nat→Int) (ls:Nat→Int):Hp:=
 [some (.blk [.v (.int .i64 N), .v (.int .i64 t), .mp 1]),some (.map (enE N es)),some (.blk [.ptr 0 0]),some (.blk [.v (.int .i64 k), .v (.string s), .v (.int .i64 n), .t nl 1 (tab nl fun i=> .v (.int .i64 (li i))), .t na 5 L]),
  some (.arr 43 1 (tab na fun i=> .t N 1 (tab N fun j=> .v (.int .i64 (A i j)))) 0),some (.blk [.own 4 na]),some (.blk [.v (.int .i64 (N / 2:Nat))]),some (.blk [.t N 1 (tab N fun j=> .v (.int .i64 (ls j)))]),some (.blk [.fn (.func 121) [] []]),some (.blk [.fn (.func 122) [] [.ptr 2 0]])]
theorem adR (N:Nat) (t:Int) (es:Env) (k:Int) (s:ByteArray) (n:Int) (nl:Nat) (li:Nat→Int) (na:Nat) (L:List AV) (A:Nat→Nat→Int) (ls:Nat→Int) (m:Int) (ht:3≤t) (ht':t≤2147483647) (hm: -((t - 1) / 2)≤m∧m≤(t - 1) / 2):
  HT Tryz.prog 122 [.v (.int .i64 m), .ptr 2 0] (hS N t es k s n nl li na L A ls) (fun r h'=>r= .v (.int .i64 (Eu t m))∧h'=hS N t es k s n nl li na L A ls):=by
 have hR:(m+t).tmod t=Eu t m:=rfl;unfold hS;refine Wv.HT.by 15 [0,1,3] [(1,11),(1000000,10),(3000001,16)] [.tmp 3] Tryz.func122 rfl rfl rfl ?base ?_
 case base=>rfl
 exact Wv.V1 hR
theorem Zh (N:Nat) (t:Int) (es:Env) (k:Int) (s:ByteArray) (n:Int) (nl:Nat) (li:Nat→Int) (na:Nat) (L:List AV) (A:Nat→Nat→Int) (ls:Nat→Int) (j:Nat) (ht:3≤t) (ho:t % 2=1) (ht':t≤2147483647) (hN:4≤N) (hN2:N≤32) (hN3:N % 2=0) (hj:j<N)
  (hA: ∀ i,i<na→ ∀ j,j<N→ -((t - 1) / 2)≤A i j∧A i j≤(t - 1) / 2) (hk:2≤k∧k≤15) (hna:(na:Int)=argN k.toNat) (hn:inB n=true) (hls: ∀ j,j<N→inB (ls j)=true) (h8:k=8→0≤n) (h11:k=11→t≤nl) (h14:k=14→0≤n):
  HT Tryz.prog 123 [.v (.int .i64 j), .ptr 3 0, .ptr 7 0, .ptr 5 0, .ptr 6 0, .ptr 2 0, .ptr 9 0, .ptr 8 0] (hS N t es k s n nl li na L A ls) (fun r h'=>r= .v (.int .i64 (slZ N t k n li ls A j))∧h'=hS N t es k s n nl li na L A ls):=by
 have hn': -4294967295≤n∧n≤4294967295:=by
  unfold inB at hn;rw [Bool.and_eq_true] at hn;exact ⟨of_decide_eq_true hn.1,of_decide_eq_true hn.2⟩
 have hE:=adR N t es k s n nl li na L A ls;have hP:=fun a h1 h2 h3=>RD.hV (adQ N t es a n ht ho ht' h1 h2 h3)
 obtain ⟨Z,hZ⟩: ∃ Z,slZ N t k n li ls A j=Z:=⟨_,rfl⟩
 rw [hZ];unfold slZ at hZ;unfold hV evC at hP;have hkk:k=2∨k=3∨k=4∨k=5∨k=6∨k=7∨k=8∨k=9∨k=10∨k=11∨k=12∨k=13∨k=14∨k=15:=by omega
 unfold hS at*;refine Wv.HT.by 199 [1,14,15,19,2,0,25,3,40,55,64,79,4,100,5,115,128,6,142,7,159,174,190,189,191,188,10,12,9] [(7,13),(9,13),(13,13),(15,19),(17,13),(19,11),(21,12),(23,15),(25,13),(27,10),(1000000,10),(3000007,16),(3000009,16),(3000013,16),(3000015,16),(3000017,16),(3000019,16),(3000021,16),(3000023,16),(3000025,16),(3000027,16)] [.tmp 9] Tryz.func123 rfl rfl rfl ?base ?_
 case base=>rfl
 rcases hkk with rfl | rfl | rfl | rfl | rfl | rfl | rfl | rfl | rfl | rfl | rfl | rfl | rfl | rfl<;>simp only [Int.reduceEq, ↓reduceIte] at hZ
 ·refine Wv.W ?_;rw [hZ]
 ·refine Wv.W ?_;rw [hZ]
 ·have hna':na=2:=by have:argN (4:Int).toNat=2:=rfl;omega
  subst hna';have a0:=hA 0 (by omega) j hj;have a1:=hA 1 (by omega) j hj;refine Wv.W ?_;rw [hZ]
 ·have hna':na=2:=by have:argN (5:Int).toNat=2:=rfl;omega
  subst hna';have a0:=hA 0 (by omega) j hj;have a1:=hA 1 (by omega) j hj;refine Wv.W ?_;rw [hZ]
 ·have hna':na=1:=by have:argN (6:Int).toNat=1:=rfl;omega
  subst hna';have a0:=hA 0 (by omega) j hj;refine Wv.W ?_;rw [hZ]
 ·have hna':na=2:=by have:argN (7:Int).toNat=2:=rfl;omega
  subst hna';have a0:=Iw ht' (hA 0 (by omega) j hj) (hA 1 (by omega) j hj);refine Wv.W ?_;rw [hZ]
 ·have hna':na=1:=by have:argN (8:Int).toNat=1:=rfl;omega
  subst hna';obtain ⟨m,rfl⟩:=Int.eq_ofNat_of_zero_le (h8 rfl);have e0:((m:Int)).toNat=m:=rfl;unfold Zg at hZ;rw [e0] at hZ;generalize hh:N / 2=h at*;have hp:0<h:=by omega
  have e1:(j:Int).tdiv (h:Int)=((j / h:Nat):Int):=rfl;have e2:(j:Int).tmod (h:Int)=((j % h:Nat):Int):=rfl;have e3:(((j % h:Nat):Int)+(m:Int)).tmod (h:Int)=(((j % h+m) % h:Nat):Int):=rfl;have e4:((j / h:Nat):Int)*(h:Int)=((j / h*h:Nat):Int):=(Int.natCast_mul _ _).symm;have e5:((j / h*h:Nat):Int)+(((j % h+m) % h:Nat):Int)=((j / h*h+(j % h+m) % h:Nat):Int):=(Int.natCast_add _ _).symm;have b1:j / h*h≤j:=Nat.div_mul_le_self j h;have b2:=Nat.mod_lt j hp;have b3:=Nat.mod_lt (j % h+m) hp;have b4:j / h*h+(j % h+m) % h<N:=by
   have:j / h<2:=Nat.div_lt_of_lt_mul (by omega);have:j / h=0∨j / h=1:=(show ∀ q:Nat,q<2→q=0∨q=1 by omega) _ this;rcases this with q | q<;>rw [q]<;>omega
  have b5:j / h≤j:=Nat.div_le_self j h;generalize (j % h+m) % h=q3 at*;generalize j % h=q2 at*;generalize j / h=q1 at*;generalize q1*h=q4 at*;simp (disch:=first|exact Wv.D|fail) only [Wv.B,simprocAttr,e1,e2,e3,e4,e5];rw [hZ]
 ·have hna':na=1:=by have:argN (9:Int).toNat=1:=rfl;omega
  subst hna';have e1:((j:Int)+((N / 2:Nat):Int)).tmod (N:Int)=(((j+N / 2) % N:Nat):Int):=rfl;have b1:=Nat.mod_lt (j+N / 2) (show N>0 by omega);refine Wv.W1 e1 ?_;rw [hZ]
 ·have hna':na=1:=by have:argN (10:Int).toNat=1:=rfl;omega
  subst hna';have a0:=hA 0 (by omega) j hj;have a1:=lsm (hls j hj) ht' a0;refine Wv.W ?_;rw [hZ]
 ·have hna':na=1:=by have:argN (11:Int).toNat=1:=rfl;omega
  subst hna';have a0:=hA 0 (by omega) j hj;have b1:=Ou ht a0;have anx:=h11 rfl;have hE':=hE (A 0 j) ht ht' a0;generalize Eu t (A 0 j)=q at*;obtain ⟨m,rfl⟩:=Int.eq_ofNat_of_zero_le b1.1;have e0:((m:Int)).toNat=m:=rfl;rw [e0] at hZ;refine Wv.W ?_;refine dn (fst:=[]) (cap:=[.ptr 2 0]) (hE'.toP (fun _ _=>False)) ?_ (fun _ _ q=>q.elim);refine Wv.W ?_;rw [hZ]
 ·have hna':na=2:=by have:argN (12:Int).toNat=2:=rfl;omega
  subst hna';have T:=Qh (hS N t es 12 s n nl li 2 L A ls) (decide (A 0 j=A 1 j));have e:(if decide (A 0 j=A 1 j)=true then (1:Int) else 0)=Z:=by
   rw [←hZ];by_cases q:A 0 j=A 1 j
   ·rw [if_pos q,if_pos (ah q)]
   ·rw [if_neg q,if_neg (by simp [q])]
  rw [e] at T;simp (disch:=first|exact Wv.D|fail) only [Wv.B,simprocAttr,oQ,yh,oU,yj];refine eU T rfl Wv.c Wv.c ?_;simp (disch:=first|exact Wv.D|fail) only [Wv.B,simprocAttr,oQ,yh,oU,yj]
 ·have hna':na=1:=by have:argN (13:Int).toNat=1:=rfl;omega
  subst hna';have a0:=hA 0 (by omega) j hj;have b1:=Ou ht a0;have hE':=hE (A 0 j) ht ht' a0;generalize Eu t (A 0 j)=q at*;have T:=Qh (hS N t es 13 s n nl li 1 L A ls) (decide (q<n));have e:(if decide (q<n)=true then (1:Int) else 0)=Z:=by
   rw [←hZ];by_cases r:q<n
   ·rw [if_pos r,if_pos (ah r)]
   ·rw [if_neg r,if_neg (by simp [r])]
  rw [e] at T;simp (disch:=first|exact Wv.D|fail) only [Wv.B,simprocAttr,oQ,yh,oU,yj];refine dn (fst:=[]) (cap:=[.ptr 2 0]) (hE'.toP (fun _ _=>False)) ?_ (fun _ _ q=>q.elim);simp (disch:=first|exact Wv.D|fail) only [Wv.B,simprocAttr,oQ,yh,oU,yj];refine eU T rfl Wv.c Wv.c ?_;simp (disch:=first|exact Wv.D|fail) only [Wv.B,simprocAttr,oQ,yh,oU,yj]
 ·have hna':na=1:=by have:argN (14:Int).toNat=1:=rfl;omega
  subst hna';have a0:=hA 0 (by omega) j hj;have am7:=h14 rfl;have hP':=hP (A 0 j) a0 am7 (by omega);simp (disch:=first|exact Wv.D|fail) only [Wv.B,simprocAttr,oQ,yh,oU,yj];refine dn (fst:=[]) (cap:=[]) (hP' _ Wv.c (by rintro r rfl;simp only [Wv.BC]) (by rintro r h;exact h.elim)) ?_ (by rintro av h' ⟨h,_⟩;exact h.elim);simp (disch:=first|exact Wv.D|fail) only [Wv.B,simprocAttr,oQ,yh,oU,yj];rw [hZ]
 ·have hna':na=1:=by have:argN (15:Int).toNat=1:=rfl;omega
  subst hna';have hA0: ∀ j,j<N→ -((t - 1) / 2)≤A 0 j∧A 0 j≤(t - 1) / 2:=hA 0 (by omega);have hs:=Ov (f:=A 0) ht' hA0;simp (disch:=first|exact Wv.D|fail) only [Wv.B,simprocAttr,oQ,yh,oU,yj];refine aV (σ:=Nat) (fun i=>[(188, .t N 1 (tab N fun j=> .v (.int .i64 (A 0 j)))),(189, .v (.int .i64 N)),(190, .v (.int .i64 i)),(10, .v (.int .i64 (yu (A 0) i)))]) (fun _=>_)
   (fun i=>i≤N) (fun i=>N - i) 0 (Nat.zero_le _) rfl (by simp (disch:=first|exact Wv.D|fail) only [Wv.B,simprocAttr,yu,Int.natCast_zero]) ?_
  intro i hi;by_cases hlt:i<N
  ·have e1:(i:Int)<N:=by omega
   have b1:=hs i (by omega);have b2:=hA0 i hlt;refine Wv.W1 (ah e1) ?_;refine ay (i+1) (by omega) (by omega) rfl (by simp (disch:=first|exact Wv.D|fail) only [Wv.B,simprocAttr,yu,Int.natCast_add,Int.natCast_one])
  ·obtain rfl:i=N:=by omega
   refine Wv.W2 @Int.lt_irrefl @decide_false ?_;rw [hZ]
end
section
open Go.RowKit Wv
theorem alV (N:Nat) (t:Int) (es:Env) (k:Int) (s:ByteArray) (n:Int) (nl:Nat) (li:Nat→Int) (na:Nat) (L:List AV) (A:Nat→Nat→Int) (ls:Nat→Int) (hL: ∀ a,a∈L→Clo a):loH 10 (hS N t es k s n nl li na L A ls):=by
 unfold hS;have h1: ∀ a,a∈(enE N es).map (·.2)→Clo a:=sK N es;refine ⟨?_,fun a ha=> .clo (h1 a ha),?_⟩
 ·simp only [Wv.BL, ↓reduceIte,Nat.reduceLeDiff];omega
 ·simp only [Wv.BL, ↓reduceIte,Nat.reduceLeDiff,eq_true hL];omega
theorem alW   (N : Nat) (t : Int) (es : Env) (k : Int) (s : ByteArray) (n : Int) (nl : Nat) (li : Nat → Int) (na : Nat) (L : List AV) (A : Nat → Nat → Int) (ls : Nat → Int) (hL : ∀ a, a ∈ L → Clo a) : ∀ (i : Nat) (o : Option Ob), (hS N t es k s n nl li na L A ls)[i]? = some o → ∃ o', o = some o' ∧ RnO id 10 o' o' := by
  intro i o ho;unfold hS at ho;match i with
  | 0 => simp at ho; subst ho; exact ⟨_, rfl, .clo (.v _), .clo (.v _), .mp (by omega), trivial⟩
  | 1 => simp at ho; subst ho; exact ⟨_, rfl, rfl, RnL.clo (sK      N es)⟩
  | 2 => simp at ho; subst ho; exact ⟨_, rfl, .ptr (by omega), trivial⟩
  | 3 => simp at ho; subst ho; exact ⟨_, rfl, .clo (.v _), .clo (.v _), .clo (.v _), .clo Wv.c, .clo (by simp only [Wv.BC]; exact hL), trivial⟩
  | 4 => simp at ho; subst ho; exact ⟨_, rfl, rfl, rfl, rfl, RnL.clo Wv.c⟩
  | 5 => simp at ho; subst ho; exact ⟨_, rfl, .own (by omega), trivial⟩
  | 6 => simp at ho; subst ho; exact ⟨_, rfl, .clo (.v _), trivial⟩
  | 7 => simp at ho; subst ho; exact ⟨_, rfl, .clo Wv.c, trivial⟩
  | 8 => simp at ho; subst ho; exact ⟨_, rfl, .clo Wv.c, trivial⟩
  | 9 => simp at ho; subst ho; exact ⟨_, rfl, .fn rfl rfl (by simp) (fun i a b h1 h2 => by
      match i with
      | 0 => simp at h1 h2; subst h1 h2; exact .ptr (by omega)
      | i + 1 => simp at h1), trivial⟩
  | i + 10 => simp at ho
def eH:Env→ByteArray→Option (Nat→Int)
 | [],_=>none
 | p::r,s=>if s=p.1 then some p.2 else eH r s
theorem Iy (N:Nat) (s:ByteArray): ∀ es:Env,dY (.string s) (enE N es)=(eH es s).map (vcA N)
 | []=>rfl
 | p::r=>by
  have ih:=Iy N s r;show (if keyE (.string s) (.string p.1)=true then some (vcA N p.2) else dY (.string s) (enE N r))=_;rw [ih];show _=Option.map (vcA N) (if s=p.1 then some p.2 else eH r s);have:keyE (.string s) (.string p.1)=decide (s=p.1):=BN;rw [this];by_cases e:s=p.1
  ·rw [if_pos (ah e),if_pos e];rfl
  ·rw [if_neg (by simp [e]),if_neg e]
theorem Lm (N:Nat): ∀ es:Env,keysB .str (enE N es)=true
 | []=>rfl
 | p::r=>Lm N r
variable {N:Nat}
theorem Iz {m:Nat} (es:Env):(∀ x:Value × AV,x∈enE N es→lo m x.2)=True:=eq_true fun a ha=> .clo (sK N es _ (List.mem_map_of_mem ha))
def lsF (k:Int) (nl:Nat) (li:Nat→Int):Nat→Int:=if k=3∨k=10 then DL nl li else FQ
def evX (N:Nat) (t:Int) (es:Env):Ex→Nat→Int
 | .nil=>fun _=>0
 | .mk k s n nl li na ar=>if k=1 then (eH es s).getD (fun _=>0) else fun j=>qh t (slZ N t k n li (lsF k nl li) (fun i=>evX N t es (ar i)) j)
def goE (N:Nat) (t:Int) (es:Env):Ex→Prop
 | .nil=>False
 | .mk k s n nl li na ar=>(k=1→(eH es s).isSome=true)∧(k=8→0≤n)∧(k=11→t≤nl)∧(k=14→0≤n)∧(k=3∨k=10→nl≤N)∧ ∀ i,i<na→goE N t es (ar i)
def okV (N:Nat) (t:Int) (es:Env):Prop:= ∀ s f,eH es s=some f→ ∀ j,j<N→ -((t - 1) / 2)≤f j∧f j≤(t - 1) / 2
theorem Zi {t:Int} {es:Env} (ht:3≤t) (ho:t % 2=1) (hvv:okV N t es) (e:Ex) (hg:goE N t es e): ∀ j,j<N→ -((t - 1) / 2)≤evX N t es e j∧evX N t es e j≤(t - 1) / 2:=by
 intro j hj;cases e with
 | nil=>exact hg.elim
 | mk k s n nl li na ar=>
 unfold evX;by_cases h:k=1
 ·rw [if_pos h];have:=hg.1 h;cases hq:eH es s with
  | none=>rw [hq] at this;cases this
  | some f=>exact hvv s f hq j hj
 ·rw [if_neg h];exact zZ ht ho
variable {ar:Nat→Ex}{k n:Int}{li:Nat→Int}{na nl:Nat}{s:ByteArray}
theorem adS (h:bD (.mk k s n nl li na ar)=true): ∀ i,i<nl→inB (li i)=true:=by
 unfold bD at h;simp only [Bool.and_eq_true] at h;intro i hi;have h9:=h.2.2.2.2.2.2.2.1;simp only [Bool.not_eq_true'] at h9;unfold aQ at h9;have:=List.any_eq_false.1 h9 i (List.mem_range.2 hi);simpa using this
theorem Qi (h:bD (.mk k s n nl li na ar)=true):(na:Int)=argN k.toNat:=by
 unfold bD at h;simp only [Bool.and_eq_true,decide_eq_true_eq] at h;exact h.2.2.2.1
theorem Zj (h:bD (.mk k s n nl li na ar)=true):inB n=true:=by
 unfold bD at h;simp only [Bool.and_eq_true] at h;exact h.2.2.2.2.2.2.1
theorem Zk (N:Nat) (h: ∀ i,i<nl→inB (li i)=true): ∀ j,j<N→inB (DL nl li j)=true:=by
 intro j _;unfold DL;split
 ·next q=>exact h j q
 ·rfl
theorem Ox (h:inB n=true): -4294967295≤n∧n≤4294967295:=by
 unfold inB at h;rw [Bool.and_eq_true] at h;exact ⟨of_decide_eq_true h.1,of_decide_eq_true h.2⟩
theorem aiy {j:Nat} (hN:4≤N) (h2:N % 2=0) (hj:j<N):Zg N n j<N:=by
 unfold Zg;have b3:=Nat.mod_lt (j % (N / 2)+n.toNat) (show N / 2>0 by omega);have:j / (N / 2)<2:=Nat.div_lt_of_lt_mul (by omega);have:j / (N / 2)=0∨j / (N / 2)=1:=(show ∀ q:Nat,q<2→q=0∨q=1 by omega) _ this;rcases this with q | q<;>rw [q]<;>omega
theorem Qj {t:Int} (ht:3≤t) (ho:t % 2=1): ∀ (f:Nat) (o a k:Int),(-((t - 1) / 2)≤o∧o≤(t - 1) / 2)→ -((t - 1) / 2)≤Iu t f o a k∧Iu t f o a k≤(t - 1) / 2
 | 0,o,a,k,h=>h
 | f+1,o,a,k,h=>by
  unfold Iu;split
  ·refine Qj ht ho f _ _ _ ?_;split
   ·exact zZ ht ho
   ·exact h
  ·exact h
theorem aiz {t a:Int} (ht:3≤t) (ho:t % 2=1): -((t - 1) / 2)≤Uf t a k∧Uf t a k≤(t - 1) / 2:=Qj ht ho 64 1 a k ⟨by show _≤(1:Int);omega,by show (1:Int)≤_;omega⟩
theorem aiA {t:Int}  {ls:Nat→Int} {A:Nat→Nat→Int} {j:Nat} (ht:3≤t) (ho:t % 2=1) (ht':t≤2147483647) (hN:4≤N) (hN2:N≤32) (hN3:N % 2=0) (hn:inB n=true) (hli: ∀ i,i<nl→inB (li i)=true) (hna:(na:Int)=argN k.toNat) (hk:2≤k∧k≤15)
  (hA: ∀ a,a<na→ ∀ j,j<N→ -((t - 1) / 2)≤A a j∧A a j≤(t - 1) / 2) (h8:k=8→0≤n) (h11:k=11→t≤nl) (h14:k=14→0≤n) (hls: ∀ j,j<N→inB (ls j)=true) (hj:j<N): -9223372036854775807≤slZ N t k n li ls A j∧slZ N t k n li ls A j≤9223372036854775807:=by
 have hn':=Ox hn;have h0:0<na→ -1073741824≤A 0 j∧A 0 j≤1073741824:=fun q=>by have:=hA 0 q j hj;omega
 have hkk:k=2∨k=3∨k=4∨k=5∨k=6∨k=7∨k=8∨k=9∨k=10∨k=11∨k=12∨k=13∨k=14∨k=15:=by omega
 unfold slZ;have hl:=Ox (hls j hj);rcases hkk with rfl | rfl | rfl | rfl | rfl | rfl | rfl | rfl | rfl | rfl | rfl | rfl | rfl | rfl<;>simp only [Int.reduceEq, ↓reduceIte]
 ·omega
 ·omega
 ·have:argN (4:Int).toNat=2:=rfl;have:=hA 0 (by omega) j hj;have:=hA 1 (by omega) j hj;omega
 ·have:argN (5:Int).toNat=2:=rfl;have:=hA 0 (by omega) j hj;have:=hA 1 (by omega) j hj;omega
 ·have:argN (6:Int).toNat=1:=rfl;have:=hA 0 (by omega) j hj;omega
 ·have:argN (7:Int).toNat=2:=rfl;have:=Iw ht' (hA 0 (by omega) j hj) (hA 1 (by omega) j hj);omega
 ·have:argN (8:Int).toNat=1:=rfl;have:=hA 0 (by omega) (Zg N n j) (aiy hN hN3 hj);omega
 ·have:argN (9:Int).toNat=1:=rfl;have:=hA 0 (by omega) ((j+N / 2) % N) (Nat.mod_lt _ (by omega));omega
 ·have:argN (10:Int).toNat=1:=rfl;have:=lsm (hls j hj) ht' (hA 0 (by omega) j hj);omega
 ·have:argN (11:Int).toNat=1:=rfl;have h1:=Ou ht (hA 0 (by omega) j hj);have h2:=h11 rfl;have:=Ox (hli (Eu t (A 0 j)).toNat (by omega));omega
 ·split<;>omega
 ·split<;>omega
 ·have:=aiz (t:=t) (a:=A 0 j) (k:=n) ht ho;omega
 ·have:argN (15:Int).toNat=1:=rfl;have:=Ov (f:=A 0) ht' (hA 0 (by omega)) N (Nat.le_refl _);omega
theorem Zl (N:Nat) (t:Int) (es:Env) (k:Int) (s:ByteArray) (n:Int) (nl:Nat) (li:Nat→Int) (na:Nat) (L:List AV) (A:Nat→Nat→Int) (ls:Nat→Int) (j:Nat) (ht:3≤t) (ho:t % 2=1) (ht':t≤2147483647) (hN:4≤N) (hN2:N≤32) (hN3:N % 2=0) (hj:j<N)
  (hA: ∀ i,i<na→ ∀ j,j<N→ -((t - 1) / 2)≤A i j∧A i j≤(t - 1) / 2) (hk:2≤k∧k≤15) (hna:(na:Int)=argN k.toNat) (hn:inB n=true) (hls: ∀ j,j<N→inB (ls j)=true) (h8:k=8→0≤n) (h11:k=11→t≤nl) (h14:k=14→0≤n) (hL: ∀ a,a∈L→Clo a) (r:Hp):
  HTP Tryz.prog 123 [.v (.int .i64 j), .ptr 3 0, .ptr 7 0, .ptr 5 0, .ptr 6 0, .ptr 2 0, .ptr 9 0, .ptr 8 0] (hS N t es k s n nl li na L A ls++r) (fun q h'=>q= .v (.int .i64 (slZ N t k n li ls A j))∧h'=hS N t es k s n nl li na L A ls++r) (fun q h'=>False∧h'=hS N t es k s n nl li na L A ls++r):=by
 have hl:(hS N t es k s n nl li na L A ls).length=10:=rfl;have T:RD Tryz.prog 123 [.v (.int .i64 j), .ptr 3 0, .ptr 7 0, .ptr 5 0, .ptr 6 0, .ptr 2 0, .ptr 9 0, .ptr 8 0] (hS N t es k s n nl li na L A ls) (fun q=>q= .v (.int .i64 (slZ N t k n li ls A j))) (fun _=>False):=
  RD.of (((Zh N t es k s n nl li na L A ls j ht ho ht' hN hN2 hN3 hj hA hk hna hn hls h8 h11 h14).toP fun _ _=>False).mono (fun _ _ q=>⟨q.1,by rw [q.2,List.take_length]⟩) (fun _ _ q=>q.elim)) (fun r q=>q▸ .clo (.v _)) (fun r q=>q.elim) (by rw [hl];exact alV N t es k s n nl li na L A ls hL)
 exact RD.ext T r (by rw [hl];exact ⟨.clo (.v _), .ptr (by omega), .ptr (by omega), .ptr (by omega), .ptr (by omega), .ptr (by omega), .ptr (by omega), .ptr (by omega),trivial⟩) (by rw [hl];exact alW N t es k s n nl li na L A ls hL) (fun r q=>q▸ .v _) (fun r q=>q.elim)
theorem aiB (N:Nat) (t:Int) (es:Env) (ht:3≤t) (hodd:t % 2=1) (ht':t≤2147483647) (hN:4≤N) (hN2:N≤32) (hN3:N % 2=0) (hvv:okV N t es) (e:Ex) (ho:okE e) (hf:bD e=true) (hg:goE N t es e):RD Tryz.prog 79 [.ptr 0 0, .g (exC e)] (hV N t es) (fun r=>r=vcA N (evX N t es e)) (fun _=>False):=by
 induction e with
 | nil=>exact ho.elim
 | mk k s n nl li na ar ih=>
 obtain ⟨hs,hnl,hna,hh⟩:=ho;have hev:=Zi ht hodd hvv;have ⟨⟨hk1,hk2⟩,akX,hfa⟩:=iq hf;refine RD.of ?_ (by rintro r rfl;exact .clo (zY _ _)) (fun r q=>q.elim) (Lj N t es);rw [cZ];have hSp:evX N t es (.mk k s n nl li na ar)=if k=1 then (eH es s).getD (fun _=>0) else fun j=>qh t (slZ N t k n li (lsF k nl li) (fun i=>evX N t es (ar i)) j):=rfl
 generalize evX N t es (.mk k s n nl li na ar)=V at hSp ⊢;unfold hV evC;refine Wv.HTP.by 88 [0,1,3,16,2,31,30,32,5,6,59,8,7,10,9,75,74,76,12,13,11,4] [(2,7),(7,9),(20,6),(1000000,2),(3000007,16),(3000020,1040)] [.tmp 4] Tryz.func79 rfl rfl rfl ?base ?_
 case base=>rfl
 by_cases hk1:k=1
 ·rw [if_pos hk1] at hSp;have hq:=hg.1 hk1;have hlm:=Iy N s es;cases hq2:eH es s with
  | none=>rw [hq2] at hq;cases hq
  | some f=>
   rw [hq2] at hSp hlm;simp only [Option.map_some,Option.getD_some,vcA] at hlm hSp;subst hSp;simp (disch:=first|exact Wv.D|fail) only [Wv.B,simprocAttr,ah hk1,Lm,hlm,vcA]
 ·rw [if_neg hk1] at hSp;refine Wv.W1 (aj hk1) ?_;have hLc:=dK (n:=na) (f:=fun i=>exC (ar i)) fun i _=>eX (ar i)
  have hdr: ∀ i,i<na→ ∃ r,List.drop (i*5) (dN na fun i=>exC (ar i))=exC (ar i)++r:=fun i hi=>cO (f:=fun i=>exC (ar i)) (fun i=>iU (ar i)) hi
  generalize hL:(dN na fun i=>exC (ar i))=L at hLc hdr ⊢;refine aV (σ:=Nat) (fun i=>[(2, .ptr 2 0),(3, .ptr 3 0),(5, .ptr 5 0),(30, .v (.int .i64 na)),(31, .v (.int .i64 i))])
   (fun i=>[some (.blk [.v (.int .i64 N), .v (.int .i64 t), .mp 1]),some (.map (enE N es)),some (.blk [.ptr 0 0]),some (.blk [.v (.int .i64 k), .v (.string s), .v (.int .i64 n), .t nl 1 (tab nl fun i=> .v (.int .i64 (li i))), .t na 5 L]),some (.arr 43 1 (tab na fun a=>if a<i then .t N 1 (tab N fun j=> .v (.int .i64 (evX N t es (ar a) j))) else .v (.slice none 0 0)) 0),some (.blk [.own 4 na])])
   (fun i=>i≤na) (fun i=>na - i) 0 (Nat.zero_le _) (by simp (disch:=first|exact Wv.D|fail) only [Wv.B,simprocAttr,Nat.not_lt_zero,if_false]) Wv.V ?_
  intro i hi;by_cases hlt:i<na
  ·have e1:(i:Int)<na:=by omega
   obtain ⟨r2,hd⟩:=hdr i hlt;have hE:=RD.hV (ih i (hh i hlt) (hfa i hlt) (hg.2.2.2.2.2 i hlt));have hG:=dw (ar i);obtain ⟨k',s',n',nl',li',na',ar',hy⟩:=lH (hh i hlt);have hy2:exC (ar i)=_:=(congrArg exC hy).trans (cZ k' s' n' nl' li' na' ar');rw [hy2] at hd hE hG;simp only [List.cons_append,List.nil_append] at hd;have h8:(tab na fun a=>if a=i then AV.t N 1 (tab N fun j=> .v (.int .i64 (evX N t es (ar i) j))) else if a<i then AV.t N 1 (tab N fun j=> .v (.int .i64 (evX N t es (ar a) j))) else .v (.slice none 0 0))=tab na fun a=>if a<i+1 then AV.t N 1 (tab N fun j=> .v (.int .i64 (evX N t es (ar a) j))) else .v (.slice none 0 0):=aN fun a ha=>by
    by_cases q:a=i
    ·subst q;rw [if_pos rfl,if_pos (by omega)]
    ·by_cases q2:a<i
     ·rw [if_neg q,if_pos q2,if_pos (by omega)]
     ·rw [if_neg q,if_neg q2,if_neg (by omega)]
   unfold hV evC vcA at hE;refine Wv.W2 (ah e1) hd ?_;refine dn (fst:=[]) (cap:=[]) (hE _ (eG hG) (by rintro r rfl;simp only [Wv.BC]) (by rintro r h;exact h.elim)) ?_ (by rintro av h' ⟨h,_⟩;exact h.elim);refine Wv.W2 @bY h8 ?_;refine ay (i+1) (by omega) (by omega) rfl Wv.V2
  ·obtain rfl:i=na:=by omega
   obtain ⟨A,hAe⟩: ∃ A:Nat→Nat→Int,A=fun a=>evX N t es (ar a):=⟨_,rfl⟩
   have h9:(tab i fun a=>if a<i then AV.t N 1 (tab N fun j=> .v (.int .i64 (evX N t es (ar a) j))) else .v (.slice none 0 0))=tab i fun a=>AV.t N 1 (tab N fun j=> .v (.int .i64 (A a j))):=aN fun a ha=>by rw [if_pos ha,hAe]
   have hA: ∀ a,a<i→ ∀ j,j<N→ -((t - 1) / 2)≤A a j∧A a j≤(t - 1) / 2:=fun a ha=>by rw [hAe];exact hev (ar a) (hg.2.2.2.2.2 a ha)
   rw [h9];rw [←hAe] at hSp;clear h9 hAe hdr ih hev;have hin:=Zj hf;have hli:=adS hf;have hE0:=RD.hV (Zf N t es hN2);have hE1:=fun q=>RD.hV (adP N t es nl li hN2 q)
   have hB:=fun n h1 h2=>RD.hV (Ll N t es n ht ht' h1 h2)
   have hna':=Qi hf;obtain ⟨h3,h8,h11,h14,alX,_⟩:=hg;have hP:=fun (ls:Nat→Int) hls j hj=>Zl N t es k s n nl li i L A ls j ht hodd ht' hN hN2 hN3 hj hA ⟨by omega,hk2⟩ hna' hin hls h8 h11 h14 hLc
   have hsb:=fun (ls:Nat→Int) hls (j:Nat) hj=>aiA (n:=n) (k:=k) (li:=li) (ls:=ls) (N:=N) (A:=A) (j:=j) ht hodd ht' hN hN2 hN3 hin hli hna' ⟨by omega,hk2⟩ hA h8 h11 h14 hls hj
   have half:(N:Int).tdiv 2=((N / 2:Nat):Int):=rfl;unfold hV evC vcA at*;unfold Go.Proofs.YtljfgdlgmdcmfaaGreat.hS at hP;refine Wv.W3 @Int.lt_irrefl @decide_false half ?_;refine aI (fst:=[]) (cap:=[]) (hE0 _ Wv.c (by rintro r rfl;simp only [Wv.BC]) (by rintro r h;exact h.elim)) ?_ (by rintro av h' ⟨h,_⟩;exact h.elim);rintro av h' ⟨rfl,rfl⟩;by_cases k3:k=3
   ·have hle:lsF k nl li=DL nl li:=if_pos (.inl k3);have hls:=Zk N hli;rw [hle] at hSp;simp (disch:=first|exact Wv.D|fail) only [Wv.B,simprocAttr,ah k3,oQ,yh,oU,yj];refine aI (fst:=[]) (cap:=[]) (hE1 (alX (.inl k3)) _ Wv.c (by rintro r rfl;simp only [Wv.BC]) (by rintro r h;exact h.elim)) ?_ (by rintro av h' ⟨h,_⟩;exact h.elim);rintro av h' ⟨rfl,rfl⟩;generalize DL nl li=ls at hls hSp ⊢;simp (disch:=first|exact Wv.D|fail) only [Wv.B,simprocAttr,oQ,yh,oU,yj];have hPl:=hP ls hls;have hsl:=hsb ls hls;have h0:(tab N fun a=>if a<0 then AV.v (.int .i64 (V a)) else .v (.int .i64 0))=tab N fun _=> .v (.int .i64 0):=aN fun a _=>if_neg (Nat.not_lt_zero a)
    refine aV (σ:=Nat) (fun j=>[(2, .ptr 2 0),(11, .fn (.func 123) [] [.ptr 3 0, .ptr 7 0, .ptr 5 0, .ptr 6 0, .ptr 2 0, .ptr 9 0, .ptr 8 0]),(12, .own 10 N),(74, .v (.int .i64 N)),(75, .v (.int .i64 j))])
     (fun j=>[some (.blk [.v (.int .i64 N), .v (.int .i64 t), .mp 1]),some (.map (enE N es)),some (.blk [.ptr 0 0]),some (.blk [.v (.int .i64 k), .v (.string s), .v (.int .i64 n), .t nl 1 (tab nl fun i=> .v (.int .i64 (li i))), .t i 5 L]),
      some (.arr 43 1 (tab i fun i=> .t N 1 (tab N fun j=> .v (.int .i64 (A i j)))) 0),some (.blk [.own 4 i]),some (.blk [.v (.int .i64 (N / 2:Nat))]),some (.blk [.t N 1 (tab N fun j=> .v (.int .i64 (ls j)))]),some (.blk [.fn (.func 121) [] []]),some (.blk [.fn (.func 122) [] [.ptr 2 0]]),some (.arr 2 1 (tab N fun a=>if a<j then .v (.int .i64 (V a)) else .v (.int .i64 0)) 0)])
     (fun j=>j≤N) (fun j=>N - j) 0 (Nat.zero_le _) (Wv.V1 h0) Wv.V ?_
    intro j hj;by_cases hlt:j<N
    ·have e1:(j:Int)<N:=by omega
     have hPj:=hPl j hlt;have hsj:=hsl j hlt;have hBj:=hB (slZ N t k n li ls A j) hsj.1 hsj.2;have hVj:V j=qh t (slZ N t k n li ls A j):=congrFun hSp j;have h8:(tab N fun a=>if a=j then AV.v (.int .i64 (V j)) else if a<j then AV.v (.int .i64 (V a)) else .v (.int .i64 0))=tab N fun a=>if a<j+1 then AV.v (.int .i64 (V a)) else .v (.int .i64 0):=aN fun a ha=>by
      by_cases q:a=j
      ·subst q;rw [if_pos rfl,if_pos (by omega)]
      ·by_cases q2:a<j
       ·rw [if_neg q,if_pos q2,if_pos (by omega)]
       ·rw [if_neg q,if_neg q2,if_neg (by omega)]
     rw [←hVj] at hBj;refine Wv.W1 (ah e1) ?_;refine dn (fst:=[]) (cap:=[.ptr 3 0, .ptr 7 0, .ptr 5 0, .ptr 6 0, .ptr 2 0, .ptr 9 0, .ptr 8 0]) (hPj _) ?_ (by rintro av h' ⟨h,_⟩;exact h.elim);refine Wv.W ?_;refine aI (fst:=[]) (cap:=[]) (hBj _ Wv.c (by rintro r rfl;simp only [Wv.BC]) (by rintro r h;exact h.elim)) ?_ (by rintro av h' ⟨h,_⟩;exact h.elim);rintro av h' ⟨rfl,rfl⟩;refine Wv.W2 @bY h8 ?_;refine ay (j+1) (by omega) (by omega) rfl Wv.V2
    ·obtain rfl:j=N:=by omega
     have h9:(tab j fun a=>if a<j then AV.v (.int .i64 (V a)) else .v (.int .i64 0))=tab j fun a=> .v (.int .i64 (V a)):=aN fun a ha=>if_pos ha
     exact Wv.V3 @Int.lt_irrefl @decide_false h9
   ·by_cases k10:k=10
    ·have hle:lsF k nl li=DL nl li:=if_pos (.inr k10);have hls:=Zk N hli;rw [hle] at hSp;simp (disch:=first|exact Wv.D|fail) only [Wv.B,simprocAttr,aj k3,ah k10,oQ,yh,oU,yj];refine aI (fst:=[]) (cap:=[]) (hE1 (alX (.inr k10)) _ Wv.c (by rintro r rfl;simp only [Wv.BC]) (by rintro r h;exact h.elim)) ?_ (by rintro av h' ⟨h,_⟩;exact h.elim);rintro av h' ⟨rfl,rfl⟩;generalize DL nl li=ls at hls hSp ⊢;simp (disch:=first|exact Wv.D|fail) only [Wv.B,simprocAttr,oQ,yh,oU,yj];have hPl:=hP ls hls;have hsl:=hsb ls hls;have h0:(tab N fun a=>if a<0 then AV.v (.int .i64 (V a)) else .v (.int .i64 0))=tab N fun _=> .v (.int .i64 0):=aN fun a _=>if_neg (Nat.not_lt_zero a)
     refine aV (σ:=Nat) (fun j=>[(2, .ptr 2 0),(11, .fn (.func 123) [] [.ptr 3 0, .ptr 7 0, .ptr 5 0, .ptr 6 0, .ptr 2 0, .ptr 9 0, .ptr 8 0]),(12, .own 10 N),(74, .v (.int .i64 N)),(75, .v (.int .i64 j))])
      (fun j=>[some (.blk [.v (.int .i64 N), .v (.int .i64 t), .mp 1]),some (.map (enE N es)),some (.blk [.ptr 0 0]),some (.blk [.v (.int .i64 k), .v (.string s), .v (.int .i64 n), .t nl 1 (tab nl fun i=> .v (.int .i64 (li i))), .t i 5 L]),
       some (.arr 43 1 (tab i fun i=> .t N 1 (tab N fun j=> .v (.int .i64 (A i j)))) 0),some (.blk [.own 4 i]),some (.blk [.v (.int .i64 (N / 2:Nat))]),some (.blk [.t N 1 (tab N fun j=> .v (.int .i64 (ls j)))]),some (.blk [.fn (.func 121) [] []]),some (.blk [.fn (.func 122) [] [.ptr 2 0]]),some (.arr 2 1 (tab N fun a=>if a<j then .v (.int .i64 (V a)) else .v (.int .i64 0)) 0)])
      (fun j=>j≤N) (fun j=>N - j) 0 (Nat.zero_le _) (Wv.V1 h0) Wv.V ?_
     intro j hj;by_cases hlt:j<N
     ·have e1:(j:Int)<N:=by omega
      have hPj:=hPl j hlt;have hsj:=hsl j hlt;have hBj:=hB (slZ N t k n li ls A j) hsj.1 hsj.2;have hVj:V j=qh t (slZ N t k n li ls A j):=congrFun hSp j;have h8:(tab N fun a=>if a=j then AV.v (.int .i64 (V j)) else if a<j then AV.v (.int .i64 (V a)) else .v (.int .i64 0))=tab N fun a=>if a<j+1 then AV.v (.int .i64 (V a)) else .v (.int .i64 0):=aN fun a ha=>by
       by_cases q:a=j
       ·subst q;rw [if_pos rfl,if_pos (by omega)]
       ·by_cases q2:a<j
        ·rw [if_neg q,if_pos q2,if_pos (by omega)]
        ·rw [if_neg q,if_neg q2,if_neg (by omega)]
      rw [←hVj] at hBj;refine Wv.W1 (ah e1) ?_;refine dn (fst:=[]) (cap:=[.ptr 3 0, .ptr 7 0, .ptr 5 0, .ptr 6 0, .ptr 2 0, .ptr 9 0, .ptr 8 0]) (hPj _) ?_ (by rintro av h' ⟨h,_⟩;exact h.elim);refine Wv.W ?_;refine aI (fst:=[]) (cap:=[]) (hBj _ Wv.c (by rintro r rfl;simp only [Wv.BC]) (by rintro r h;exact h.elim)) ?_ (by rintro av h' ⟨h,_⟩;exact h.elim);rintro av h' ⟨rfl,rfl⟩;refine Wv.W2 @bY h8 ?_;refine ay (j+1) (by omega) (by omega) rfl Wv.V2
     ·obtain rfl:j=N:=by omega
      have h9:(tab j fun a=>if a<j then AV.v (.int .i64 (V a)) else .v (.int .i64 0))=tab j fun a=> .v (.int .i64 (V a)):=aN fun a ha=>if_pos ha
      exact Wv.V3 @Int.lt_irrefl @decide_false h9
    ·have hle:lsF k nl li=FQ:=if_neg (fun h=>h.elim k3 k10);have hls: ∀ j,j<N→inB (FQ j)=true:=fun _ _=>rfl
     rw [hle] at hSp;generalize FQ=ls at hls hSp ⊢;simp (disch:=first|exact Wv.D|fail) only [Wv.B,simprocAttr,aj k3,aj k10,oQ,yh,oU,yj];have hPl:=hP ls hls;have hsl:=hsb ls hls;have h0:(tab N fun a=>if a<0 then AV.v (.int .i64 (V a)) else .v (.int .i64 0))=tab N fun _=> .v (.int .i64 0):=aN fun a _=>if_neg (Nat.not_lt_zero a)
     refine aV (σ:=Nat) (fun j=>[(2, .ptr 2 0),(11, .fn (.func 123) [] [.ptr 3 0, .ptr 7 0, .ptr 5 0, .ptr 6 0, .ptr 2 0, .ptr 9 0, .ptr 8 0]),(12, .own 10 N),(74, .v (.int .i64 N)),(75, .v (.int .i64 j))])
      (fun j=>[some (.blk [.v (.int .i64 N), .v (.int .i64 t), .mp 1]),some (.map (enE N es)),some (.blk [.ptr 0 0]),some (.blk [.v (.int .i64 k), .v (.string s), .v (.int .i64 n), .t nl 1 (tab nl fun i=> .v (.int .i64 (li i))), .t i 5 L]),
       some (.arr 43 1 (tab i fun i=> .t N 1 (tab N fun j=> .v (.int .i64 (A i j)))) 0),some (.blk [.own 4 i]),some (.blk [.v (.int .i64 (N / 2:Nat))]),some (.blk [.t N 1 (tab N fun j=> .v (.int .i64 (ls j)))]),some (.blk [.fn (.func 121) [] []]),some (.blk [.fn (.func 122) [] [.ptr 2 0]]),some (.arr 2 1 (tab N fun a=>if a<j then .v (.int .i64 (V a)) else .v (.int .i64 0)) 0)])
      (fun j=>j≤N) (fun j=>N - j) 0 (Nat.zero_le _) (Wv.V1 h0) Wv.V ?_
     intro j hj;by_cases hlt:j<N
     ·have e1:(j:Int)<N:=by omega
      have hPj:=hPl j hlt;have hsj:=hsl j hlt;have hBj:=hB (slZ N t k n li ls A j) hsj.1 hsj.2;have hVj:V j=qh t (slZ N t k n li ls A j):=congrFun hSp j;have h8:(tab N fun a=>if a=j then AV.v (.int .i64 (V j)) else if a<j then AV.v (.int .i64 (V a)) else .v (.int .i64 0))=tab N fun a=>if a<j+1 then AV.v (.int .i64 (V a)) else .v (.int .i64 0):=aN fun a ha=>by
       by_cases q:a=j
       ·subst q;rw [if_pos rfl,if_pos (by omega)]
       ·by_cases q2:a<j
        ·rw [if_neg q,if_pos q2,if_pos (by omega)]
        ·rw [if_neg q,if_neg q2,if_neg (by omega)]
      rw [←hVj] at hBj;refine Wv.W1 (ah e1) ?_;refine dn (fst:=[]) (cap:=[.ptr 3 0, .ptr 7 0, .ptr 5 0, .ptr 6 0, .ptr 2 0, .ptr 9 0, .ptr 8 0]) (hPj _) ?_ (by rintro av h' ⟨h,_⟩;exact h.elim);refine Wv.W ?_;refine aI (fst:=[]) (cap:=[]) (hBj _ Wv.c (by rintro r rfl;simp only [Wv.BC]) (by rintro r h;exact h.elim)) ?_ (by rintro av h' ⟨h,_⟩;exact h.elim);rintro av h' ⟨rfl,rfl⟩;refine Wv.W2 @bY h8 ?_;refine ay (j+1) (by omega) (by omega) rfl Wv.V2
     ·obtain rfl:j=N:=by omega
      have h9:(tab j fun a=>if a<j then AV.v (.int .i64 (V a)) else .v (.int .i64 0))=tab j fun a=> .v (.int .i64 (V a)):=aN fun a ha=>if_pos ha
      exact Wv.V3 @Int.lt_irrefl @decide_false h9
end
section
open Go.RowKit Wv
def mxN (f:Nat→Int):Nat→Int
 | 0=>f 0
 | i+1=>if f (i+1)>mxN f i then f (i+1) else mxN f i
def mnN (f:Nat→Int):Nat→Int
 | 0=>f 0
 | i+1=>if f (i+1)<mnN f i then f (i+1) else mnN f i
theorem Oy     {f : Nat → Int} {h : Int} : ∀ n, mxN f n ≤ h ↔ ∀ i, i ≤ n → f i ≤ h
  | 0 => ⟨fun q i hi => by obtain rfl : i = 0 := by omega
                           exact q, fun q => q 0 (Nat.le_refl _)⟩
  | n + 1 => by
    have ih := Oy     (f := f) (h := h) n;unfold mxN;constructor
    · intro q i hi
      by_cases e : i = n + 1
      · subst e; split at q <;> omega
      · exact ih.1 (by split at q <;> omega) i (by omega)
    · intro q
      have h1 := ih.2 fun i hi => q i (by omega)
      have h2 := q (n + 1) (Nat.le_refl _);split <;> omega
theorem Oz     {f : Nat → Int} {h : Int} : ∀ n, h ≤ mnN f n ↔ ∀ i, i ≤ n → h ≤ f i
  | 0 => ⟨fun q i hi => by obtain rfl : i = 0 := by omega
                           exact q, fun q => q 0 (Nat.le_refl _)⟩
  | n + 1 => by
    have ih := Oz     (f := f) (h := h) n;unfold mnN;constructor
    · intro q i hi
      by_cases e : i = n + 1
      · subst e; split at q <;> omega
      · exact ih.1 (by split at q <;> omega) i (by omega)
    · intro q
      have h1 := ih.2 fun i hi => q i (by omega)
      have h2 := q (n + 1) (Nat.le_refl _);split <;> omega
theorem adT (n:Nat) (f:Nat→Int) (h1:1≤n) (h2:n≤140737488351232):TC Tryz.prog 77 [vcA n f] (.v (.int .i64 (mxN f (n - 1)))):=by
 unfold vcA;refine Wv.TC.by 25 [0,7,4,15,3,2] [] [.tmp 2] Tryz.func77 rfl rfl rfl ?clo ?_
 case clo=>simp only [Wv.BC]
 refine Wv.W ?_;refine aV (σ:=Nat) (fun i=>[(0, .t n 1 (tab n fun j=> .v (.int .i64 (f j)))),(3, .v (.int .i64 (mxN f i))),(4, .v (.int .i64 (i+1:Nat)))]) (fun _=>[]) (fun i=>i≤n - 1) (fun i=>n - i) 0 (Nat.zero_le _) Wv.V (by simp (disch:=first|exact Wv.D|fail) only [Wv.B,simprocAttr,mxN]) ?_;intro i hi;by_cases hlt:i+1<n
 ·have e1:((i+1:Nat):Int)<n:=by omega
  have hm:mxN f (i+1)=if f (i+1)>mxN f i then f (i+1) else mxN f i:=rfl
  refine Wv.W1 (ah e1) ?_;refine ay (i+1) (by omega) (by omega) rfl (Wv.V3 hm @Int.natCast_add @Int.natCast_one)
 ·obtain rfl:i=n - 1:=by omega
  have e1: ¬ ((n - 1+1:Nat):Int)<n:=by omega
  exact Wv.V1 (aj e1)
theorem adU (n:Nat) (f:Nat→Int) (h1:1≤n) (h2:n≤140737488351232):TC Tryz.prog 78 [vcA n f] (.v (.int .i64 (mnN f (n - 1)))):=by
 unfold vcA;refine Wv.TC.by 25 [0,7,4,15,3,2] [] [.tmp 2] Tryz.func78 rfl rfl rfl ?clo ?_
 case clo=>simp only [Wv.BC]
 refine Wv.W ?_;refine aV (σ:=Nat) (fun i=>[(0, .t n 1 (tab n fun j=> .v (.int .i64 (f j)))),(3, .v (.int .i64 (mnN f i))),(4, .v (.int .i64 (i+1:Nat)))]) (fun _=>[]) (fun i=>i≤n - 1) (fun i=>n - i) 0 (Nat.zero_le _) Wv.V (by simp (disch:=first|exact Wv.D|fail) only [Wv.B,simprocAttr,mnN]) ?_;intro i hi;by_cases hlt:i+1<n
 ·have e1:((i+1:Nat):Int)<n:=by omega
  have hm:mnN f (i+1)=if f (i+1)<mnN f i then f (i+1) else mnN f i:=rfl
  refine Wv.W1 (ah e1) ?_;refine ay (i+1) (by omega) (by omega) rfl (Wv.V3 hm @Int.natCast_add @Int.natCast_one)
 ·obtain rfl:i=n - 1:=by omega
  have e1: ¬ ((n - 1+1:Nat):Int)<n:=by omega
  exact Wv.V1 (aj e1)
theorem Uh (n:Nat) (f:Nat→Int) (h1:1≤n) (h2:n≤100000):TC Tryz.prog 80 [vcA n f] (vcA n f):=by
 unfold vcA;refine Wv.TC.by 8 [0,4,2] [] [.tmp 2] Tryz.func80 rfl rfl rfl ?clo ?_
 case clo=>simp only [Wv.BC]
 have hnil: ∀ (h:Hp) (c:List AV),yF h (.t n 1 c)=some false:=fun _ _=>if_pos h1
 exact Wv.V1 hnil
def bK:Env→ByteArray→(Nat→Int)→Env
 | [],s,f=>[(s,f)]
 | p::r,s,f=>if s=p.1 then (s,f)::r else p::bK r s f
theorem OB (N:Nat) (s:ByteArray) (f:Nat→Int): ∀ es:Env,kC (.string s) (vcA N f) (enE N es)=enE N (bK es s f)
 | []=>rfl
 | p::q=>by
  have ih:=OB N s f q;show (if keyE (.string s) (.string p.1)=true then _ else (Value.string p.1,vcA N p.2)::kC (.string s) (vcA N f) (enE N q))=enE N (if s=p.1 then _ else _);rw [ih];have:keyE (.string s) (.string p.1)=decide (s=p.1):=BN;rw [this];by_cases e:s=p.1
  ·rw [if_pos (ah e),if_pos e,e];rfl
  ·rw [if_neg (by simp [e]),if_neg e];rfl
theorem wL (s s':ByteArray) (f:Nat→Int): ∀ es:Env,eH (bK es s f) s'=if s'=s then some f else eH es s'
 | []=>rfl
 | p::q=>by
  have ih:=wL s s' f q;unfold bK;by_cases e:s=p.1
  ·rw [if_pos e];show (if s'=s then some f else eH q s')=if s'=s then some f else (if s'=p.1 then some p.2 else eH q s')
   by_cases e2:s'=s
   ·rw [if_pos e2,if_pos e2]
   ·rw [if_neg e2,if_neg e2,if_neg (by rw [←e];exact e2)]
  ·rw [if_neg e];show (if s'=p.1 then some p.2 else eH (bK q s f) s')=if s'=s then some f else (if s'=p.1 then some p.2 else eH q s')
   rw [ih];by_cases e2:s'=p.1
   ·rw [if_pos e2,if_neg (by rw [e2];exact fun h=>e h.symm),if_pos e2]
   ·rw [if_neg e2,if_neg e2]
theorem Qk {N:Nat} {t:Int} {es:Env} {s:ByteArray} {f:Nat→Int} (h:okV N t es) (hf: ∀ j,j<N→ -((t - 1) / 2)≤f j∧f j≤(t - 1) / 2):okV N t (bK es s f):=by
 intro s' f' h';rw [wL] at h';split at h'
 ·injection h' with h';subst h';exact hf
 ·exact h s' f' h'
theorem rdV {N:Nat} {t:Int} {es:Env} {f:FuncId} {args:List AV} {R p:AV→Prop} (T:RD Tryz.prog f (.ptr 0 0::args) (hV N t es) R p) (o0 o1:Option Ob) (r:Hp) (ha: ∀ (a:AV),a∈args→Clo a) (hR: ∀ r,R r→Clo r) (hp: ∀ r,p r→Clo r):
  RD Tryz.prog f (.ptr 3 0::args) (o0::o1::some (.map (enE N es))::some (.blk [.v (.int .i64 N), .v (.int .i64 t), .mp 2])::r) R p:=by
 refine RD.frame (σ:=fun i=>if i=0 then 3 else 2) T ⟨fun i j hi hj e=>?_,fun i o ho=>?_⟩ ⟨.ptr (by show 0<2;omega),RnL.clo ha⟩ hR hp
 ·have hi':i<2:=hi;have hj':j<2:=hj;have e':(if i=0 then 3 else 2)=(if j=0 then 3 else 2):=e;split at e'<;>split at e'<;>omega
 ·unfold hV at ho ⊢;match i with
  | 0=>
   simp at ho;subst ho;exact ⟨_,_,rfl,rfl, .clo (.v _), .clo (.v _), .mp (by show 1<2;omega),trivial⟩
  | 1=>
   simp at ho;subst ho;exact ⟨_,_,rfl,rfl,rfl,RnL.clo (sK N es)⟩
  | i+2=>simp at ho
end
section
open Go.RowKit Wv
def vsA (m:Nat) (ln:Nat→Nat) (vs:Nat→Nat→Int):AV:= .t m 1 (tab m fun i=>vcA (ln i) (vs i))
def DR (N:Nat) (t:Int) (n:Nat) (f:Nat→Int):Bool:=!decide ((n:Int)=N) || (decide (mxN f (n - 1)>(t - 1) / 2) || decide (mnN f (n - 1)< -((t - 1) / 2)))
def zB (fi:Nat→ByteArray) (vs:Nat→Nat→Int):Nat→Env
 | 0=>[]
 | i+1=>bK (zB fi vs i) (fi i) (vs i)
def Lp (N:Nat) (t:Int) (es:Env) (ln:Nat→ByteArray) (le:Nat→Ex):Nat→Env
 | 0=>es
 | i+1=>bK (Lp N t es ln le i) (ln i) (evX N t (Lp N t es ln le i) (le i))
def tJ (N:Nat) (t:Int) (c:Ci) (vs:Nat→Nat→Int) (i:Nat):Env:=Lp N t (zB c.fi vs c.ni) c.ln c.le i
def qV (N:Nat) (t:Int) (c:Ci) (vs:Nat→Nat→Int) (i:Nat):Nat→Int:=(eH (tJ N t c vs c.nl) (c.fo i)).getD fun _=>0
def goC (N:Nat) (t:Int) (c:Ci) (vs:Nat→Nat→Int):Prop:=
 (∀ i,i<c.nl→okE (c.le i)∧bD (c.le i)=true∧goE N t (tJ N t c vs i) (c.le i))∧c.no≤8∧ ∀ i,i<c.no→(eH (tJ N t c vs c.nl) (c.fo i)).isSome=true
def yZ (N:Nat) (t e:Int) (c:Ci) (m:Nat) (ln:Nat→Nat) (vs:Nat→Nat→Int):AV:=
 if e≠0 then .tup [.v (.slice none 0 0), .v (.int .i64 e)] else if m≠c.ni then .tup [.v (.slice none 0 0), .v (.int .i64 2)] else if aQ m (fun i=>DR N t (ln i) (vs i))=true then .tup [.v (.slice none 0 0), .v (.int .i64 2)]
 else .tup [.t c.no 1 (tab c.no fun i=>vcA N (qV N t c vs i)), .v (.int .i64 0)]
theorem aiC {N:Nat} {t:Int} {n:Nat} {f:Nat→Int} (h:DR N t n f=false) (h4:4≤N):n=N∧ ∀ j,j<N→ -((t - 1) / 2)≤f j∧f j≤(t - 1) / 2:=by
 unfold DR at h;simp only [Bool.or_eq_false_iff,decide_eq_false_iff_not,Bool.not_eq_false',decide_eq_true_eq] at h;obtain ⟨h1,h2,h3⟩:=h;have h1':n=N:=by omega
 subst h1';refine ⟨rfl,fun j hj=>⟨?_,?_⟩⟩
 ·exact (Oz (f:=f) (h:= -((t - 1) / 2)) (n - 1)).1 (by omega) j (by omega)
 ·exact (Oy (f:=f) (h:=(t - 1) / 2) (n - 1)).1 (by omega) j (by omega)
theorem Zm (x:Par) (c:Ci) (N:Nat) (t e at_:Int) (ss:List (Bool × Nat)) (hx:x.n=N) (ht:3≤t) (hodd:t % 2=1) (ht':t≤2147483647) (hN:4≤N) (hN2:N≤32) (hN3:N % 2=0)
  (TT:TC Tryz.prog 19 [.g (fD x), .g (ciC c)] (typeA (ss,at_,e))) (TM:TC Tryz.prog 60 [.g (fD x), .v (.int .i64 x.r)] (.tup [.v (.int .i64 t), .v (.int .i64 0)])) (hok:okC c)
  (m:Nat) (ln:Nat→Nat) (vs:Nat→Nat→Int) (hm:m≤140737488351232) (hln: ∀ i,i<m→ln i≤140737488351232) (hgo:e=0→goC N t c vs):
  TC Tryz.prog 33 [.g (fD x), .g (ciC c),vsA m ln vs] (yZ N t e c m ln vs):=by
 have hP:=fF x;have hcc:=GV c;have hll:=JQ c;have hlc:=jk c;have hnl:=hok.nl;have hni:=hok.ni;have hA:yZ N t e c m ln vs=if e≠0 then .tup [.v (.slice none 0 0), .v (.int .i64 e)] else if m≠c.ni then .tup [.v (.slice none 0 0), .v (.int .i64 2)] else if aQ m (fun i=>DR N t (ln i) (vs i))=true then .tup [.v (.slice none 0 0), .v (.int .i64 2)]
  else .tup [.t c.no 1 (tab c.no fun i=>vcA N (qV N t c vs i)), .v (.int .i64 0)]:=rfl
 have Vj: ∀ a,a=yZ N t e c m ln vs→Clo a:=by
  rintro a rfl;unfold yZ vcA;split
  ·simp only [Wv.BC]
  ·split
   ·simp only [Wv.BC]
   ·split<;>simp only [Wv.BC]
 unfold vsA vcA;unfold fD ciC bW at*;rw [hx] at*;refine Wv.TC.by 127 [0,1,3,4,10,29,2,43,11,52,51,53,50,15,78,13,14,93,92,94,91,17,111,110,112,109,18,20,6,7] [(13,10),(18,10)] [.tmp 6, .tmp 7] Tryz.func33 rfl rfl rfl ?clo ?_
 case clo=>exact Vj _ rfl
 unfold typeA at TT;refine Wv.W ?_;refine ak TT rfl (J3 (.g hP) (.g hcc)) (by simp only [Wv.BC];exact nI _) ?_;by_cases he:e=0
 ·rw [if_neg (fun q=>q he)] at hA;refine Wv.W1 (ah he) ?_;refine ak TM rfl (J3 (.g hP) Wv.c) Wv.c ?_;by_cases hmi:m=c.ni
  ·rw [if_neg (fun q=>q hmi)] at hA;have e1:(m:Int)=c.ni:=by omega
   have hdr: ∀ i,i<c.nl→ ∃ r,List.drop (i*6) c.lets=jL (c.ln i) (c.le i)++r:=fun i hi=>cO (f:=fun i=>jL (c.ln i) (c.le i)) (fun i=>ji _ _) hi
   generalize c.lets=L at hll hlc hdr ⊢;obtain ⟨hgl,hgn,hgs⟩:=hgo he;have hq:(t - 1).tdiv 2=(t - 1) / 2:=Int.tdiv_eq_ediv_of_nonneg (by omega);have hq2:(0 - (t - 1)).tdiv 2= -((t - 1) / 2):=by rw [Int.zero_sub,Int.neg_tdiv,hq]
   have hput:=OB N;refine Wv.W1 (ah e1) ?_;refine aV (σ:=Nat) (fun i=>[(3, .ptr 0 0),(4, .ptr 1 0),(11, .v (.int .i64 t)),(13, .ptr 3 0),(50, .t m 1 (tab m fun i=> .t (ln i) 1 (tab (ln i) fun j=> .v (.int .i64 (vs i j))))),(51, .v (.int .i64 m)),(52, .v (.int .i64 i))])
    (fun i=>[some (.blk [.v (.int .i64 N), .v (.int .u32 x.p), .v (.int .i64 x.r), .t x.ch.length 1 (x.ch.map fun (c:Nat)=> .v (.int .u32 c)), .v (.int .u32 x.sp), .v (.int .i64 x.wt), .v (.int .u32 x.er)]),some (.blk [.v (.string c.name), .t c.ni 1 (tab c.ni fun i=> .v (.string (c.fi i))), .t c.nl 6 L, .t c.no 1 (tab c.no fun i=> .v (.string (c.fo i)))]),some (.map (enE N (zB c.fi vs i))),some (.blk [.v (.int .i64 N), .v (.int .i64 t), .mp 2])])
    (fun i=>i≤m∧ ∀ a,a<i→DR N t (ln a) (vs a)=false) (fun i=>m - i) 0 ⟨Nat.zero_le _,fun a h=>absurd h (Nat.not_lt_zero a)⟩ (by simp (disch:=first|exact Wv.D|fail) only [Wv.B,simprocAttr,zB,enE]) Wv.V ?_
   rintro i ⟨hi,hgood⟩;by_cases hlt:i<m
   ·have e2:(i:Int)<m:=by omega
    have hli:=hln i hlt;have hbv:DR N t (ln i) (vs i)=(!decide ((ln i:Int)=N) || (decide (mxN (vs i) (ln i - 1)>(t - 1) / 2) || decide (mnN (vs i) (ln i - 1)< -((t - 1) / 2)))):=rfl;have hbad:DR N t (ln i) (vs i)=true→yZ N t e c m ln vs= .tup [.v (.slice none 0 0), .v (.int .i64 2)]:=fun h=>by
     rw [hA];exact if_pos (by unfold aQ;exact List.any_eq_true.2 ⟨i,List.mem_range.2 hlt,h⟩)
    by_cases hL:(ln i:Int)=N
    ·have Tx:=adT (ln i) (vs i) (by omega) hli;have Tn:=adU (ln i) (vs i) (by omega) hli;have hLn:ln i=N:=by omega
     unfold vcA at Tx Tn;rw [ah hL,Bool.not_true,Bool.false_or] at hbv;refine Wv.W3 (ah e2) (ah hL) hq ?_;refine ak Tx rfl Wv.c Wv.c ?_;by_cases h1:mxN (vs i) (ln i - 1)>(t - 1) / 2
     ·rw [ah h1,Bool.true_or] at hbv;have hbd:=hbad hbv;exact Wv.V3 hq (ah h1) hbd
     ·rw [aj h1,Bool.false_or] at hbv;refine Wv.W2 hq (aj h1) ?_;refine ak Tn rfl Wv.c Wv.c ?_;by_cases h2:mnN (vs i) (ln i - 1)< -((t - 1) / 2)
      ·rw [ah h2] at hbv;have hbd:=hbad hbv;exact Wv.V3 hq2 (ah h2) hbd
      ·rw [aj h2] at hbv;have FT:=hput (c.fi i) (vs i) (zB c.fi vs i);unfold vcA at FT;rw [hLn] at h2 ⊢;simp (disch:=first|exact Wv.D|fail) only [Wv.B,simprocAttr,hq2,aj h2,FT,Lm];refine ay (i+1) ⟨by omega,fun a ha=>by by_cases q:a=i;exact q▸hbv;exact hgood a (by omega)⟩ (by omega) (by simp (disch:=first|exact Wv.D|fail) only [Wv.B,simprocAttr,hLn,zB]) Wv.V2
    ·rw [aj hL,Bool.not_false,Bool.true_or] at hbv;have hbd:=hbad hbv;exact Wv.V3 (ah e2) (aj hL) hbd
   ·obtain rfl:i=m:=by omega
    have hnb: ¬ aQ i (fun i=>DR N t (ln i) (vs i))=true:=by
     unfold aQ;intro h;obtain ⟨a,ha,hb⟩:=List.any_eq_true.1 h;rw [hgood a (List.mem_range.1 ha)] at hb;cases hb
    rw [if_neg hnb] at hA;have hev: ∀ i,i≤c.nl→okV N t (tJ N t c vs i):=by
     intro k;induction k with
     | zero=>
      intro _;show okV N t (zB c.fi vs c.ni);rw [←hmi];have: ∀ a,a≤i→okV N t (zB c.fi vs a):=by
       intro a;induction a with
       | zero=>intro _ s f h;cases h
       | succ a ih2=>intro ha;exact Qk (ih2 (by omega)) (aiC (hgood a (by omega)) hN).2
      exact this i (Nat.le_refl _)
     | succ k ih2=>
      intro hk;exact Qk (ih2 (by omega)) (Zi ht hodd (ih2 (by omega)) (c.le k) (hgl k (by omega)).2.2)
    refine Wv.W2 @Int.lt_irrefl @decide_false ?_;clear hgood hi hlt hnb hln;refine aV (σ:=Nat) (fun i=>[(3, .ptr 0 0),(4, .ptr 1 0),(13, .ptr 3 0),(91, .t c.nl 6 L),(92, .v (.int .i64 c.nl)),(93, .v (.int .i64 i))])
     (fun i=>[some (.blk [.v (.int .i64 N), .v (.int .u32 x.p), .v (.int .i64 x.r), .t x.ch.length 1 (x.ch.map fun (c:Nat)=> .v (.int .u32 c)), .v (.int .u32 x.sp), .v (.int .i64 x.wt), .v (.int .u32 x.er)]),some (.blk [.v (.string c.name), .t c.ni 1 (tab c.ni fun i=> .v (.string (c.fi i))), .t c.nl 6 L, .t c.no 1 (tab c.no fun i=> .v (.string (c.fo i)))]),some (.map (enE N (tJ N t c vs i))),some (.blk [.v (.int .i64 N), .v (.int .i64 t), .mp 2])])
     (fun i=>i≤c.nl) (fun i=>c.nl - i) 0 (Nat.zero_le _) (by simp (disch:=first|exact Wv.D|fail) only [Wv.B,simprocAttr,tJ,Lp,hmi]) Wv.V ?_
    intro i hi;by_cases hlt:i<c.nl
    ·have e2:(i:Int)<c.nl:=by omega
     obtain ⟨r2,hd⟩:=hdr i hlt;obtain ⟨ho1,hf1,hg1⟩:=hgl i hlt;have TE:=aiB N t (tJ N t c vs i) ht hodd ht' hN hN2 hN3 (hev i hi) (c.le i) ho1 hf1 hg1;have hG:=dw (c.le i);have hGl:=Ce (c.ln i) (c.le i);obtain ⟨k',s',n',nl',li',na',ar',hy⟩:=lH ho1;have hy2:exC (c.le i)=_:=(congrArg exC hy).trans (cZ k' s' n' nl' li' na' ar');unfold jL at hd hGl;rw [hy2] at hd TE hG hGl;simp only [List.cons_append,List.nil_append] at hd;have FT:=OB N (c.ln i) (evX N t (tJ N t c vs i) (c.le i)) (tJ N t c vs i);have hnx:tJ N t c vs (i+1)=bK (tJ N t c vs i) (c.ln i) (evX N t (tJ N t c vs i) (c.le i)):=rfl;rw [←hnx] at FT;have hE:=rdV TE;unfold vcA at FT hE;refine Wv.W2 (ah e2) hd ?_;refine dn (fst:=[]) (cap:=[]) (hE _ _ _ (eG hG) (by rintro r rfl;simp only [Wv.BC]) (by rintro r h;exact h.elim)) ?_ (by rintro av h' ⟨h,_⟩;exact h.elim);simp (disch:=first|exact Wv.D|fail) only [Wv.B,simprocAttr,FT,Lm];refine Wv.jh (i+1) 4 (by first | decide | exact Nat.le_of_ble_eq_true rfl) (by omega) (by omega) (Wv.V2f @bZ hnx) (Wv.V3 @Int.natCast_add @Int.natCast_one hnx) (by simp only [Wv.BL, ↓reduceIte,Nat.reduceLeDiff,eq_true hlc,eq_true hlc,lJ,Iz]<;>omega) (by simp only [Wv.BL, ↓reduceIte,Nat.reduceLeDiff,eq_true hlc,eq_true hlc,lJ,Iz]<;>omega)
    ·obtain rfl:i=c.nl:=by omega
     refine Wv.W2 @Int.lt_irrefl @decide_false ?_;refine pY (σ:=Nat) (fun i=>[(4, .ptr 1 0),(13, .ptr 3 0),(18, .own 4 i),(109, .t c.no 1 (tab c.no fun i=> .v (.string (c.fo i)))),(110, .v (.int .i64 c.no)),(111, .v (.int .i64 i))])
      (fun i=>[some (.blk [.v (.int .i64 N), .v (.int .u32 x.p), .v (.int .i64 x.r), .t x.ch.length 1 (x.ch.map fun (c:Nat)=> .v (.int .u32 c)), .v (.int .u32 x.sp), .v (.int .i64 x.wt), .v (.int .u32 x.er)]),some (.blk [.v (.string c.name), .t c.ni 1 (tab c.ni fun i=> .v (.string (c.fi i))), .t c.nl 6 L, .t c.no 1 (tab c.no fun i=> .v (.string (c.fo i)))]),some (.map (enE N (tJ N t c vs c.nl))),some (.blk [.v (.int .i64 N), .v (.int .i64 t), .mp 2]),some (.arr 43 1 (tab i fun i=> .t N 1 (tab N fun j=> .v (.int .i64 (qV N t c vs i j)))) 0)])
      (fun i=>i≤c.no) (fun i=>c.no - i) 0 (Nat.zero_le _) ?_ ?_
     ·refine Ent.trans (Ent.nil 18 43 1 (by omega) rfl) (Ent.fit ?_);exact Wv.V
     intro i hi;by_cases hlt:i<c.no
     ·have e2:(i:Int)<c.no:=by omega
      have hlm:=Iy N (c.fo i) (tJ N t c vs c.nl);have hsm:=hgs i hlt;have hof:qV N t c vs i=(eH (tJ N t c vs c.nl) (c.fo i)).getD fun _=>0:=rfl
      cases hq3:eH (tJ N t c vs c.nl) (c.fo i) with
      | none=>rw [hq3] at hsm;cases hsm
      | some f=>
      rw [hq3] at hlm hof;have am8:f=qV N t c vs i:=hof.symm;subst am8;simp only [Option.map_some,vcA] at hlm;have TC1:=Uh N (qV N t c vs i) (by omega) (by omega);unfold vcA at TC1;refine Wv.W3 (ah e2) @Lm hlm ?_;refine ak TC1 rfl Wv.c Wv.c ?_;refine Wv.W ?_;refine Wv.jh (i+1) 5 (by first | decide | exact Nat.le_of_ble_eq_true rfl) (by omega) (by omega) (Wv.V1 @bZ) Wv.V2 (by simp only [Wv.BL, ↓reduceIte,Nat.reduceLeDiff,eq_true hlc,lJ,Iz]<;>omega) (by simp only [Wv.BL, ↓reduceIte,Nat.reduceLeDiff,eq_true hlc,lJ,Iz]<;>omega)
     ·obtain rfl:i=c.no:=by omega
      unfold vcA at hA;exact Wv.V3 @Int.lt_irrefl @decide_false hA
  ·rw [if_pos hmi] at hA;have e1: ¬ (m:Int)=c.ni:=by omega
   exact Wv.V2f (aj e1) hA
 ·rw [if_pos he] at hA;exact Wv.V2f (aj he) hA
end
section
open Go.RowKit Wv
theorem Ql {f:Nat→Except Int (Bool × Nat)}: ∀ {n:Nat} {r:Bool × Nat × Nat},bG f n= .ok r→ ∀ i,i<n→ ∃ q,f i= .ok q
 | 0,r,h,i,hi=>absurd hi (Nat.not_lt_zero i)
 | n+1,r,h,i,hi=>by
  simp only [bG] at h;cases h1:bG f n with
  | error e=>rw [h1] at h;cases h
  | ok p=>
   obtain ⟨kn,d,u⟩:=p;rw [h1] at h;simp only at h;cases h2:f n with
   | error e=>rw [h2] at h;cases h
   | ok q=>
    by_cases e:i=n
    ·subst e;exact ⟨q,h2⟩
    ·exact Ql h1 i (by omega)
theorem Lr {f:Nat→Except Int (Bool × Nat)}: ∀ {n:Nat} {e:Int},bG f n= .error e→ ∃ i,i<n∧f i= .error e
 | 0,e,h=>by cases h
 | n+1,e,h=>by
  simp only [bG] at h;cases h1:bG f n with
  | error e'=>
   rw [h1] at h;injection h with h;subst h;obtain ⟨i,hi,q⟩:=Lr h1;exact ⟨i,by omega,q⟩
  | ok p=>
   obtain ⟨kn,d,u⟩:=p;rw [h1] at h;simp only at h;cases h2:f n with
   | error e'=>rw [h2] at h;injection h with h;subst h;exact ⟨n,by omega,h2⟩
   | ok q=>rw [h2] at h;cases h
variable {x:Par}
theorem adV {t:Nat} {e:Ex} {u:Nat} {q:Int} (h:ruA x t e u= .error q):q≠0:=by
 cases e with
 | nil=>cases h
 | mk k s n nl li na ar=>
  simp only [ruA] at h;have z: ∀ {b:Prop} [Decidable b] {v:Nat} {er:Int},er≠0→(if b then (.ok v:Except Int Nat) else .error er)= .error q→q≠0:=fun {b _ v er} he hq=>by
   by_cases c:b
   ·rw [if_pos c] at hq;cases hq
   ·rw [if_neg c] at hq;injection hq with hq;subst hq;exact he
  have z2: ∀ {b c:Prop} [Decidable b] [Decidable c] {v:Nat},(if b then (if c then (.ok v:Except Int Nat) else .error 233) else .error 231)= .error q→q≠0:=fun {b c _ _ v} hq=>by
   by_cases c':b
   ·rw [if_pos c'] at hq;exact z (by decide) hq
   ·rw [if_neg c'] at hq;injection hq with hq;subst hq;decide
  by_cases c2:k=2
  ·rw [if_pos c2] at h;exact z (by decide) h
  rw [if_neg c2] at h;by_cases c3:k=3
  ·rw [if_pos c3] at h;exact z (by decide) h
  rw [if_neg c3] at h;by_cases c7:k=7
  ·rw [if_pos c7] at h;cases h
  rw [if_neg c7] at h;by_cases c8:k=8
  ·rw [if_pos c8] at h;exact z (by decide) h
  rw [if_neg c8] at h;by_cases c10:k=10
  ·rw [if_pos c10] at h;exact z (by decide) h
  rw [if_neg c10] at h;by_cases c14:k=14
  ·rw [if_pos c14] at h;exact z (by decide) h
  rw [if_neg c14] at h;by_cases c11:k=11
  ·rw [if_pos c11] at h;unfold Du at h;exact z2 h
  rw [if_neg c11] at h;by_cases c13:k=13
  ·rw [if_pos c13] at h;unfold H9 at h;exact z2 h
  rw [if_neg c13] at h;by_cases c12:k=12
  ·rw [if_pos c12] at h;exact z (by decide) h
  rw [if_neg c12] at h;cases h
theorem aiD {t:Nat} {ns:Nms}: ∀ (e:Ex) {q:Int},okE e→shE ns (ruA x t) e= .error q→q≠0:=by
 intro e;induction e with
 | nil=>intro q h;exact h.elim
 | mk k s n nl li na ar ih=>
  intro q ho h;simp only [shE] at h;split at h
  ·cases hf:aH ns s with
   | none=>rw [hf] at h;injection h with h;subst h;decide
   | some r=>rw [hf] at h;cases h
  ·cases hd:bG (fun i=>shE ns (ruA x t) (ar i)) na with
   | error e=>
    rw [hd] at h;have h':(Except.error e:Except Int (Bool × Nat))= .error q:=h;injection h' with h';subst h';obtain ⟨i,hi,hq⟩:=Lr hd;exact ih i (ho.2.2.2 i hi) hq
   | ok p=>
    obtain ⟨kn,d,u⟩:=p;rw [hd] at h;have h':wz kn d (ruA x t (.mk k s n nl li na ar) u)= .error q:=h;cases hr:ruA x t (.mk k s n nl li na ar) u with
    | error e=>
     rw [hr] at h';have h2:(Except.error e:Except Int (Bool × Nat))= .error q:=h';injection h2 with h2;subst h2;exact adV hr
    | ok m=>
     rw [hr] at h';have h2:(if (if kn=true then 0 else d+m)≤8 then (Except.ok (kn,if kn=true then 0 else d+m):Except Int (Bool × Nat)) else .error 232)= .error q:=h';by_cases hle:(if kn=true then 0 else d+m)≤8
     ·rw [if_pos hle] at h2;cases h2
     ·rw [if_neg hle] at h2;injection h2 with h2;subst h2;decide
theorem alY {N t:Nat} {ns:Nms} {es:Env} (hx:x.n=N) (hk: ∀ s,(aH ns s).isSome=true→(eH es s).isSome=true): ∀ (e:Ex) {r:Bool × Nat},okE e→bD e=true→shE ns (ruA x t) e= .ok r→goE N t es e:=by
 intro e;induction e with
 | nil=>intro r h;exact h.elim
 | mk k s n nl li na ar ih=>
  intro r ho hf h;obtain ⟨_,_,hfa⟩:=iq hf;have hna:=Qi hf;simp only [shE] at h;split at h
  ·next hk1=>
   have h0:na=0:=by rw [hk1] at hna;have:argN (1:Int).toNat=0:=rfl;omega
   refine ⟨fun _=>hk s ?_,fun e=>by omega,fun e=>by omega,fun e=>by omega,fun e=>by omega,fun i hi=>by omega⟩;cases hn:aH ns s with
   | none=>rw [hn] at h;cases h
   | some r=>rfl
  ·next hk1=>
   cases hd:bG (fun i=>shE ns (ruA x t) (ar i)) na with
   | error e=>rw [hd] at h;cases h
   | ok p=>
    obtain ⟨kn,d,u⟩:=p;rw [hd] at h;have h':wz kn d (ruA x t (.mk k s n nl li na ar) u)= .ok r:=h;cases hr:ruA x t (.mk k s n nl li na ar) u with
    | error e=>rw [hr] at h';cases h'
    | ok m=>
     have b: ∀ {b:Bool} {v:Nat} {er:Int},(if b=true then (.ok v:Except Int Nat) else .error er)= .ok m→b=true:=fun hq=>by
      split at hq
      ·assumption
      ·cases hq
     refine ⟨fun e=>absurd e hk1,fun e=>?_,fun e=>?_,fun e=>?_,fun e=>?_,fun i hi=>?_⟩
     ·subst e;have hq:(if J6 x n=true then (.ok 0:Except Int Nat) else .error 233)= .ok m:=hr;have:=b hq;unfold J6 at this;rw [Bool.and_eq_true] at this;exact of_decide_eq_true this.1
     ·subst e;have hq:Du x t nl li= .ok m:=hr;unfold Du at hq;split at hq
      ·have:=(Ia (b hq)).1;omega
      ·cases hq
     ·subst e;have hq:(if Ti n=true then (.ok (dL n):Except Int Nat) else .error 233)= .ok m:=hr;have:=b hq;unfold Ti at this;rw [Bool.and_eq_true] at this;have:=of_decide_eq_true this.1;omega
     ·rcases e with rfl | rfl
      ·have hq:(if jM t nl li 0 x.n=true then (.ok 0:Except Int Nat) else .error 233)= .ok m:=hr;have:=b hq;unfold jM at this;simp only [Bool.and_eq_true] at this;have:=of_decide_eq_true this.2.1;omega
      ·have hq:(if yV x nl li=true then (.ok 0:Except Int Nat) else .error 233)= .ok m:=hr;have:=b hq;unfold yV at this;rw [Bool.and_eq_true] at this;have:=of_decide_eq_true this.1;omega
     ·obtain ⟨q,hq⟩:=Ql hd i hi;exact ih i (ho.2.2.2 i hi) (hfa i hi) hq
theorem yw {s s':ByteArray} {r:Bool × Nat}: ∀ {ns:Nms},(aH (ns++[(s',r)]) s).isSome=true→(aH ns s).isSome=true∨s=s'
 | [],h=>by
  have h':(if s=s' then some r else aH [] s).isSome=true:=h;by_cases e:s=s'
  ·exact .inr e
  ·rw [if_neg e] at h';cases h'
 | p::ns,h=>by
  have h':(if s=p.1 then some p.2 else aH (ns++[(s',r)]) s).isSome=true:=h;show (if s=p.1 then some p.2 else aH ns s).isSome=true∨_;by_cases e:s=p.1
  ·rw [if_pos e];exact .inl rfl
  ·rw [if_neg e] at h' ⊢;exact yw h'
theorem FU {es:Env} {s s':ByteArray} {f:Nat→Int} (h:(eH es s).isSome=true∨s=s'):(eH (bK es s' f) s).isSome=true:=by
 rw [wL];split
 ·rfl
 ·next hn=>exact h.resolve_right hn
theorem Ls {f:Nat→ByteArray} {vs:Nat→Nat→Int}: ∀ {n:Nat} {ns:Nms},iP f n=some ns→ ∀ s,(aH ns s).isSome=true→(eH (zB f vs n) s).isSome=true
 | 0,ns,h,s,hs=>by
  injection h with h;subst h;cases hs
 | n+1,ns,h,s,hs=>by
  simp only [iP] at h;obtain ⟨ns1,h1,h2⟩:=Option.bind_eq_some_iff.1 h;cases hf:aH ns1 (f n) with
  | some r=>rw [hf] at h2;cases h2
  | none=>
   rw [hf] at h2;injection h2 with h2;subst h2;exact FU ((yw hs).imp (fun q=>Ls h1 s q) id)
theorem Zn {x:Par} {N t:Nat} {ln:Nat→ByteArray} {le:Nat→Ex} {ns0:Nms} {es0:Env} (hx:x.n=N) (h0: ∀ s,(aH ns0 s).isSome=true→(eH es0 s).isSome=true): ∀ {n:Nat} {ns:Nms} {ss:List (Bool × Nat)},(∀ i,i<n→okE (le i)∧bD (le i)=true)→fZ ns0 ln (fun ns i=>shE ns (ruA x t) (le i)) n= .ok (ns,ss)→
  (∀ s,(aH ns s).isSome=true→(eH (Lp N t es0 ln le n) s).isSome=true)∧ ∀ i,i<n→goE N t (Lp N t es0 ln le i) (le i)
 | 0,ns,ss,_,h=>by
  have h':(Except.ok (ns0,[]):Except (Nat × Int) (Nms × List (Bool × Nat)))= .ok (ns,ss):=h;injection h' with h';injection h' with h1 h2;subst h1;exact ⟨h0,fun i hi=>absurd hi (Nat.not_lt_zero i)⟩
 | n+1,ns,ss,ho,h=>by
  simp only [fZ] at h;cases h1:fZ ns0 ln (fun ns i=>shE ns (ruA x t) (le i)) n with
  | error e=>rw [h1] at h;cases h
  | ok p=>
   obtain ⟨ns1,ss1⟩:=p;rw [h1] at h;obtain ⟨i1,i2⟩:=Zn hx h0 (fun i hi=>ho i (by omega)) h1;simp only [Dq] at h;split at h
   ·cases h
   ·cases h2:shE ns1 (ruA x t) (le n) with
    | error e=>rw [h2] at h;cases h
    | ok r=>
     rw [h2] at h;have h3:(Except.ok (ns1++[(ln n,r)],ss1++[r]):Except (Nat × Int) (Nms × List (Bool × Nat)))= .ok (ns,ss):=h;injection h3 with h3;injection h3 with h4 h5;subst h4;refine ⟨fun s hs=>FU ((yw hs).imp (i1 s) id),fun i hi=>?_⟩;by_cases e:i=n
     ·subst e;exact alY hx i1 (le i) (ho i hi).1 (ho i hi).2 h2
     ·exact i2 i (by omega)
theorem Qm {x:Par} {t:Nat} {ln:Nat→ByteArray} {le:Nat→Ex} {ns0:Nms}: ∀ {n:Nat} {q:Nat × Int},(∀ i,i<n→okE (le i))→fZ ns0 ln (fun ns i=>shE ns (ruA x t) (le i)) n= .error q→q.2≠0
 | 0,q,_,h=>by cases h
 | n+1,q,ho,h=>by
  simp only [fZ] at h;cases h1:fZ ns0 ln (fun ns i=>shE ns (ruA x t) (le i)) n with
  | error e=>
   rw [h1] at h;injection h with h;subst h;exact Qm (fun i hi=>ho i (by omega)) h1
  | ok p=>
   obtain ⟨ns1,ss1⟩:=p;rw [h1] at h;simp only [Dq] at h;split at h
   ·injection h with h;subst h;show (230:Int)≠0;decide
   ·cases h2:shE ns1 (ruA x t) (le n) with
    | error e=>rw [h2] at h;injection h with h;subst h;exact aiD (le n) (ho n (by omega)) h2
    | ok r=>rw [h2] at h;cases h
theorem Lu {ns:Nms} {fo:Nat→ByteArray}: ∀ {n:Nat},outT ns fo n=none→ ∀ i,i<n→(aH ns (fo i)).isSome=true
 | 0,_,i,hi=>absurd hi (Nat.not_lt_zero i)
 | n+1,h,i,hi=>by
  simp only [outT] at h;cases h1:outT ns fo n with
  | some e=>rw [h1] at h;cases h
  | none=>
   rw [h1] at h;have h2:Hz (aH ns (fo n))=none:=h;by_cases e:i=n
   ·subst e;cases hf:aH ns (fo i) with
    | none=>rw [hf] at h2;cases h2
    | some r=>rfl
   ·exact Lu h1 i (by omega)
theorem Zo {c:Ci} (h:dV c=0):c.no≤8:=by
 unfold dV at h;split at h
 ·cases h
 ·next h1=>
  have h2:tu c=true:=by
   cases hf:tu c with
   | true=>rfl
   | false=>exact absurd (by rw [hf];simp) h1
  unfold tu at h2;simp only [Bool.and_eq_true,decide_eq_true_eq] at h2;omega
theorem alZ {me:Int} {N t:Nat} {c:Ci} {vs:Nat→Nat→Int} (hx:x.n=N) (hc:okC c) (h:(fP me c (ruA x t)).2.2=0):goC N t c vs:=by
 unfold fP at h;split at h
 ·cases h
 split at h
 ·next hn=>exact absurd h hn
 next h1 h2=>
 have hck:dV c=0:=by simpa using h2
 have hle: ∀ i,i<c.nl→okE (c.le i)∧bD (c.le i)=true:=fun i hi=>⟨(hc.le i hi).1,jC hck hi⟩
 unfold qc at h;cases hi:iP c.fi c.ni with
 | none=>rw [hi] at h;cases h
 | some ns=>
  rw [hi] at h;simp only at h;cases hl:fZ ns c.ln (fun ns i=>shE ns (ruA x t) (c.le i)) c.nl with
  | error q=>
   rw [hl] at h;exact absurd h (Qm (fun i hi=>(hle i hi).1) hl)
  | ok q=>
   obtain ⟨ns',ss⟩:=q;rw [hl] at h;have h3:(lastT ss c.nl (outT ns' c.fo c.no)).2.2=0:=h;obtain ⟨g1,g2⟩:=Zn (N:=N) (es0:=zB c.fi vs c.ni) hx (Ls hi) hle hl;cases ho:outT ns' c.fo c.no with
   | some e=>
    rw [ho] at h3;have h4:e=0:=h3;subst h4;exact absurd ho fun hq=>by
     have key: ∀ {n:Nat},outT ns' c.fo n≠some 0:=by
      intro n;induction n with
      | zero=>intro hq;cases hq
      | succ n ih=>
       intro hq;simp only [outT] at hq;cases h1:outT ns' c.fo n with
       | some e=>rw [h1] at hq;injection hq with hq;subst hq;exact ih h1
       | none=>
        rw [h1] at hq;have h2:Hz (aH ns' (c.fo n))=some 0:=hq;unfold Hz at h2;split at h2
        ·cases h2
        ·split at h2<;>cases h2
     exact key hq
   | none=>exact ⟨fun i hi=>⟨(hle i hi).1,(hle i hi).2,g2 i hi⟩,Zo hck,fun i hi=>g1 _ (Lu ho i hi)⟩
end
section
open Go.RowKit Wv
def goM:Ex→Prop
 | .nil=>False
 | .mk k s n nl li na ar=>(k=10→ ∀ i,i<nl→li i=0∨li i=1)∧ ∀ i,i<na→goM (ar i)
theorem aiE {x:Par} {t:Nat} {ns:Nms}: ∀ (e:Ex) {r:Bool × Nat},bD e=true→shE ns (ruA x t) e= .ok r→goM e:=by
 intro e;induction e with
 | nil=>intro r h;cases h
 | mk k s n nl li na ar ih=>
  intro r hf h;obtain ⟨hk,_,hfa⟩:=iq hf;obtain ⟨hna,_⟩:=Lh hf;simp only [shE] at h;split at h
  ·next hk1=>
   have h0:na=0:=by rw [hk1] at hna;have:argN (1:Int).toNat=0:=rfl;omega
   exact ⟨fun e=>by omega,fun i hi=>by omega⟩
  ·next hk1=>
   cases hd:bG (fun i=>shE ns (ruA x t) (ar i)) na with
   | error e=>rw [hd] at h;cases h
   | ok p=>
    obtain ⟨kn,d,u⟩:=p;rw [hd] at h;have h':wz kn d (ruA x t (.mk k s n nl li na ar) u)= .ok r:=h;cases hr:ruA x t (.mk k s n nl li na ar) u with
    | error e=>rw [hr] at h';cases h'
    | ok m=>
     refine ⟨fun e=>?_,fun i hi=>?_⟩
     ·subst e;have hq:(if yV x nl li=true then (.ok 0:Except Int Nat) else .error 233)= .ok m:=hr;split at hq
      ·next this=>
       unfold yV aey aQ at this;rw [Bool.and_eq_true,Bool.not_eq_true',List.any_eq_false] at this;intro i hi;have:=this.2 i (List.mem_range.2 hi);unfold Nz at this;simp only [Bool.and_eq_true,Bool.not_eq_true',decide_eq_false_iff_not,not_and,Classical.not_not] at this;by_cases q:li i=0
       ·exact .inl q
       ·exact .inr (this q)
      ·cases hq
     ·obtain ⟨q,hq⟩:=DK hd i hi;exact ih i (hfa i hi) hq
theorem aiF {x:Par} {me:Int} {t:Nat} {c:Ci} (h:(fP me c (ruA x t)).2.2=0): ∀ i,i<c.nl→goM (c.le i):=by
 obtain ⟨_,hck,h3⟩:=DF h;rw [h3] at h;intro i hi;have t1:qc c (ruA x t)=match iP c.fi c.ni with | none=>([], -1,230) | some ns=>HY c (fZ ns c.ln (fun ns i=>shE ns (ruA x t) (c.le i)) c.nl):=rfl
 rw [t1] at h;cases hi0:iP c.fi c.ni with
 | none=>rw [hi0] at h;cases h
 | some ns0=>
  rw [hi0] at h;simp only at h;cases hl:fZ ns0 c.ln (fun ns i=>shE ns (ruA x t) (c.le i)) c.nl with
  | error p=>
   obtain ⟨i,e⟩:=p;rw [hl] at h;have he:e=0:=h;exact absurd he (Oo (fun i hi ns er q=>aeL (Y5 x t) _ (jC hck hi) er q) hl)
  | ok q=>
   obtain ⟨ns,ss⟩:=q;obtain ⟨_,f2⟩:=yc hl;obtain ⟨ns',ss',r,_,a2,_⟩:=f2 i hi;exact aiE _ (jC hck hi) a2
theorem wM {f:Nat→Nat}: ∀ {m w:Nat},fU w (whS w f m)∧ ∀ i,i<m→fU (f i) (whS w f m)
 | 0,w=>⟨fun _ h=>h,fun i hi=>absurd hi (Nat.not_lt_zero i)⟩
 | m+1,w=>by
  obtain ⟨h1,h2⟩:=wM (f:=f) (m:=m) (w:=w);refine ⟨h1.trans (fU.left _ _),fun i hi=>?_⟩;by_cases q:i=m
  ·subst q;exact fU.right _ _
  ·exact (h2 i (by omega)).trans (fU.left _ _)
variable {N:Nat}
theorem Qn {A:Nat→Nat→Nat} : ∀ {m:Nat}, ∀ i,i<m→ ∀ j,j<N→fU (A i j) (whL A N m)
 | 0,i,hi,j,hj=>absurd hi (Nat.not_lt_zero i)
 | m+1,i,hi,j,hj=>by
  by_cases q:i=m
  ·subst q;exact wM.2 j hj
  ·exact (Qn i (by omega) j hj).trans wM.1
theorem Zp {f g:Nat→Int}: ∀ {n:Nat},(∀ j,j<n→f j=g j)→yu f n=yu g n
 | 0,_=>rfl
 | n+1,h=>by
  show yu f n+f n=yu g n+g n;rw [Zp fun j hj=>h j (by omega),h n (by omega)]
theorem adW {t k n:Int} {nl na:Nat} {li:Nat→Int} {D:Nat→Nat→Nat} {X Y:Nat→Nat→Int} {S j:Nat} (hN:4≤N) (hN2:N % 2=0) (hk:1≤k∧k≤15) (h1:k≠1) (hna:(na:Int)=argN k.toNat) (hm:k=10→ ∀ i,i<nl→li i=0∨li i=1) (hj:j<N)
  (hD: ∀ i,i<na→ ∀ j,j<N→fU (D i j) S→X i j=Y i j) (hS:fU (nsS N k n nl li na D j) S):slZ N t k n li (lsF k nl li) X j=slZ N t k n li (lsF k nl li) Y j:=by
 have hkk:k=2∨k=3∨k=4∨k=5∨k=6∨k=7∨k=8∨k=9∨k=10∨k=11∨k=12∨k=13∨k=14∨k=15:=by omega
 have hw: ∀ m,na=m→fU (whS 0 (fun i=>D i j) na) S→ ∀ i,i<m→X i j=Y i j:=fun m e q i hi=>hD i (by omega) j hj fun b hb=>q b (wM.2 i (by omega) b hb)
 rcases hkk with rfl | rfl | rfl | rfl | rfl | rfl | rfl | rfl | rfl | rfl | rfl | rfl | rfl | rfl<;>simp only [slZ,nsS,Int.reduceEq, ↓reduceIte] at hS ⊢
 ·have e:argN (4:Int).toNat=2:=rfl;have h:=hw 2 (by omega) hS;rw [h 0 (by omega),h 1 (by omega)]
 ·have e:argN (5:Int).toNat=2:=rfl;have h:=hw 2 (by omega) hS;rw [h 0 (by omega),h 1 (by omega)]
 ·have e:argN (6:Int).toNat=1:=rfl;have h:=hw 1 (by omega) hS;rw [h 0 (by omega)]
 ·have e:argN (7:Int).toNat=2:=rfl;have h:=hw 2 (by omega) hS;rw [h 0 (by omega),h 1 (by omega)]
 ·have e:argN (8:Int).toNat=1:=rfl;exact hD 0 (by omega) (adB N n j) (adC hN hN2 hj) hS
 ·have e:argN (9:Int).toNat=1:=rfl;exact hD 0 (by omega) ((j+N / 2) % N) (Nat.mod_lt _ (by omega)) hS
 ·have e:argN (10:Int).toNat=1:=rfl;by_cases q:j<nl∧li j=1
  ·rw [if_pos q] at hS;rw [hD 0 (by omega) j hj hS]
  ·have:lsF 10 nl li j=0:=by
    unfold lsF;rw [if_pos (.inr rfl)];unfold DL;split
    ·next h=>exact (hm rfl j h).resolve_right fun w=>q ⟨h,w⟩
    ·rfl
   rw [this,Int.zero_mul,Int.zero_mul]
 ·have e:argN (11:Int).toNat=1:=rfl;have h:=hw 1 (by omega) hS;rw [h 0 (by omega)]
 ·have e:argN (12:Int).toNat=2:=rfl;have h:=hw 2 (by omega) hS;rw [h 0 (by omega),h 1 (by omega)]
 ·have e:argN (13:Int).toNat=1:=rfl;have h:=hw 1 (by omega) hS;rw [h 0 (by omega)]
 ·have e:argN (14:Int).toNat=1:=rfl;have h:=hw 1 (by omega) hS;rw [h 0 (by omega)]
 ·have e:argN (15:Int).toNat=1:=rfl;exact Zp fun i hi=>hD 0 (by omega) i hi fun b hb=>hS b (Qn 0 (by omega) i hi b hb)
def adX (N S:Nat) (ns:tH) (a b:Env):Prop:= ∀ s j,j<N→fU ((kG ns s).getD (fun j=>2 ^ j) j) S→(eH a s).getD (fun _=>0) j=(eH b s).getD (fun _=>0) j
theorem adY {t:Int} {S:Nat} {ns:tH} {a b:Env} (hN:4≤N) (hN2:N % 2=0) (hR:adX N S ns a b): ∀ (e:Ex),goS e→goM e→ ∀ j,j<N→fU (nsX N ns e j) S→evX N t a e j=evX N t b e j:=by
 intro e;induction e with
 | nil=>exact fun h=>h.elim
 | mk k s n nl li na ar ih=>
  intro hg hm j hj hS;unfold nsX at hS;unfold evX;by_cases h1:k=1
  ·rw [if_pos h1] at hS ⊢;rw [if_pos h1];exact hR s j hj hS
  ·rw [if_neg h1] at hS ⊢;rw [if_neg h1];show qh t _=qh t _;rw [adW (t:=t) (X:=fun i=>evX N t a (ar i)) (Y:=fun i=>evX N t b (ar i)) hN hN2 hg.1 h1 hg.2.1 hm.1 hj (fun i hi j hj q=>ih i (hg.2.2.2.2 i hi) (hm.2 i hi) j hj q) hS]
theorem Aa (es:Env) (s s':ByteArray) (f:Nat→Int) (j:Nat):(eH (bK es s f) s').getD (fun _=>0) j=if s'=s then f j else (eH es s').getD (fun _=>0) j:=by
 rw [wL];split<;>rfl
theorem Zq {S:Nat} {fi:Nat→ByteArray} {v w:Nat→Nat→Int}: ∀ {n:Nat},(∀ i,i<n→ ∀ j,S.testBit j=true→v i j=w i j)→adX N S [] (zB fi v n) (zB fi w n)
 | 0,_=>fun s j hj _=>rfl
 | n+1,h=>fun s j hj hS=>by
  show (eH (bK _ _ _) s).getD _ j=(eH (bK _ _ _) s).getD _ j;rw [Aa,Aa];split
  ·exact h n (by omega) j (hS j Nat.testBit_two_pow_self)
  ·exact Zq (fun i hi=>h i (by omega)) s j hj hS
theorem Qo {N:Nat} {t:Int} {S:Nat} {ln:Nat→ByteArray} {le:Nat→Ex} {a b:Env} (hN:4≤N) (hN2:N % 2=0) (hR:adX N S [] a b): ∀ {n:Nat},(∀ i,i<n→goS (le i)∧goM (le i))→adX N S (esS N ln le n) (Lp N t a ln le n) (Lp N t b ln le n)
 | 0,_=>hR
 | n+1,h=>fun s j hj hS=>by
  have ih:=Qo (t:=t) (ln:=ln) hN hN2 hR (n:=n) fun i hi=>h i (by omega)
  have hS:fU ((kG (Oj (esS N ln le n) (ln n) (nsX N (esS N ln le n) (le n))) s).getD (fun j=>2 ^ j) j) S:=hS;show (eH (bK _ _ _) s).getD _ j=(eH (bK _ _ _) s).getD _ j;rw [Aa,Aa];rw [oP] at hS;by_cases q:s=ln n
  ·rw [if_pos q] at hS;rw [if_pos q,if_pos q];exact adY hN hN2 ih (le n) (h n (by omega)).1 (h n (by omega)).2 j hj hS
  ·rw [if_neg q] at hS;rw [if_neg q,if_neg q];exact ih s j hj hS
theorem adZ {t:Int} {c:Ci} {A:Nat} {v w:Nat→Nat→Int} (hN:4≤N) (hN2:N % 2=0) (hg:goD c) (hm: ∀ i,i<c.nl→goM (c.le i)) (hA:ClN (ndF N c) A) (hvw: ∀ i,i<c.ni→ ∀ j,A.testBit j=true→v i j=w i j) {q j:Nat} (hq:q<c.no) (hj:j<N) (hjA:A.testBit j=true):
  qV N t c v q j=qV N t c w q j:=by
 have hR:=Qo (t:=t) (ln:=c.ln) hN hN2 (Zq (N:=N) (fi:=c.fi) hvw) fun i (hi:i<c.nl)=>⟨(hg.1 i hi).2,hm i hi⟩
 refine hR (c.fo q) j hj fun b hb=>?_
 refine hA j hjA b (wM.2 q hq b ?_);show (nsX N (esS N c.ln c.le c.nl) (naX (c.fo q)) j).testBit b=true;unfold naX nsX;rw [if_pos rfl];exact hb
end
section
open Go.RowKit Wv
def Zr (k:Int):Bool:=decide (k=8) || (decide (k=9) || decide (k=15))
def qW:Ex→Bool
 | .nil=>false
 | .mk k s n nl li na ar=>Zr k || aQ na fun i=>qW (ar i)
theorem Ui (e:Ex) (h:okE e):TC Tryz.prog 84 [.g (exC e), .v (.bool false)] (.v (.bool (!qW e))):=by
 induction e with
 | nil=>exact h.elim
 | mk k s n nl li na ar ih=>
 obtain ⟨hs,hnl,hna,hh⟩:=h;have hfin:qW (.mk k s n nl li na ar)=(Zr k || aQ na fun i=>qW (ar i)):=rfl;rw [hfin];unfold Zr;refine Wv.TC.by 47 [0,2,1,31,5,36,46,4] [] [.tmp 4] Tryz.func84 rfl rfl rfl ?clo ?_
 case clo=>simp only [Wv.BC]
 unfold exC;by_cases k8:k=8
 ·exact Wv.V3 (ah k8) @Bool.true_or @Bool.not_true
 by_cases k9:k=9
 ·simp (disch:=first|exact Wv.D|fail) only [Wv.B,simprocAttr,aj k8,ah k9,Bool.true_or,Bool.false_or,Bool.not_true]
 by_cases k15:k=15
 ·simp (disch:=first|exact Wv.D|fail) only [Wv.B,simprocAttr,aj k8,aj k9,ah k15,Bool.true_or,Bool.false_or,Bool.not_true]
 rw [aj k8,aj k9,aj k15];simp only [Bool.false_or];refine Wv.W3 (aj k8) (aj k9) (aj k15) ?_;refine aV (σ:=Nat) (fun i=>[(1, .v (.bool false)),(2, .ptr 0 0),(5, .v (.int .i64 i))])
  (fun i=>[some (.blk [.v (.int .i64 k), .v (.string s), .v (.int .i64 n), .t nl 1 (tab nl fun i=> .v (.int .i64 (li i))), .t na 5 (dN na fun i=>exC (ar i))])])
  (fun i=>i≤na∧ ∀ j,j<i→qW (ar j)=false) (fun i=>na - i) 0 ⟨Nat.zero_le _,fun j hj=>by omega⟩ Wv.V Wv.V ?_
 rintro i ⟨hi,hbef⟩;by_cases hlt:i<na
 ·have e1:(i:Int)<na:=by omega
  have T:=ih i (hh i hlt);have hG:=dw (ar i);have hoy:=hh i hlt;have hL:=dK (n:=na) (f:=fun i=>exC (ar i)) fun i _=>eX (ar i)
  obtain ⟨r,hd⟩: ∃ r,List.drop (i*5) (dN na fun i=>exC (ar i))=exC (ar i)++r:=cO (f:=fun i=>exC (ar i)) (fun i=>iU (ar i)) hlt;revert T hG hL hd;generalize (dN na fun i=>exC (ar i))=L;generalize hc2:qW (ar i)=c2 at*;generalize ar i=y at hoy ⊢;obtain ⟨k',s',n',nl',li',na',ar',rfl⟩:=lH hoy;rw [cZ];intro T hG hL hd;simp only [List.cons_append,List.nil_append] at hd;refine Wv.W2 (ah e1) hd ?_;refine ak T rfl (Cm hG (.v _)) Wv.c ?_;cases c2 with
  | true=>
   have hA:(aQ na fun i=>qW (ar i))=true:=Nl hlt hc2;simp (disch:=first|exact Wv.D|fail) only [Wv.B,simprocAttr,hA,Bool.not_true]
  | false=>
   refine Wv.W1 @Bool.not_false ?_;refine ay (i+1) ⟨by omega,fun j hj=>?_⟩ (by omega) rfl Wv.V2;by_cases e:j=i
   ·subst e;exact hc2
   ·exact hbef j (by omega)
 ·obtain rfl:i=na:=by omega
  have hA:(aQ i fun i=>qW (ar i))=false:=any_none hbef;simp (disch:=first|exact Wv.D|fail) only [Wv.B,simprocAttr,Int.lt_irrefl,decide_false,hA,Bool.not_false]
def Zt (c:Ci):Bool:=!(aQ c.nl fun i=>qW (c.le i))
theorem OD (c:Ci) (h:GX c):TC Tryz.prog 37 [.g (ciC c), .v (.bool false)] (.v (.bool (Zt c))):=by
 have hnl:=h.nl;unfold Zt;refine Wv.TC.by 22 [0,5,2,10,1,21,4] [] [.tmp 4] Tryz.func37 rfl rfl rfl ?clo ?_
 case clo=>simp only [Wv.BC]
 unfold ciC bW at*;refine Wv.W ?_;refine aV (σ:=Nat) (fun i=>[(1, .v (.bool false)),(2, .ptr 0 0),(5, .v (.int .i64 i))])
  (fun i=>[some (.blk [.v (.string c.name), .t c.ni 1 (tab c.ni fun i=> .v (.string (c.fi i))), .t c.nl 6 c.lets, .t c.no 1 (tab c.no fun i=> .v (.string (c.fo i)))])])
  (fun i=>i≤c.nl∧ ∀ j,j<i→qW (c.le j)=false) (fun i=>c.nl - i) 0 ⟨Nat.zero_le _,fun j hj=>by omega⟩ rfl Wv.V ?_
 rintro i ⟨hi,hbef⟩;by_cases hlt:i<c.nl
 ·have e1:(i:Int)<(c.nl:Int):=by omega
  have T:=Ui (c.le i) (h.le i hlt);have hG:=dw (c.le i);have hoy:=h.le i hlt;have hL:=jk c;obtain ⟨r,hd⟩: ∃ r,List.drop (i*6) c.lets=jL (c.ln i) (c.le i)++r:=cO (f:=fun i=>jL (c.ln i) (c.le i)) (fun i=>ji _ _) hlt;unfold jL at hd;generalize hc2:qW (c.le i)=c2 at*;generalize hle:c.le i=y at*;obtain ⟨k',s',n',nl',li',na',ar',rfl⟩:=lH hoy;rw [cZ] at T hG hd;simp only [List.cons_append,List.nil_append] at hd;refine Wv.W2 (ah e1) hd ?_;refine ak T rfl (Cm hG (.v _)) Wv.c ?_;cases c2 with
  | true=>
   have hA:(aQ c.nl fun i=>qW (c.le i))=true:=Nl hlt (by rw [hle];exact hc2);simp (disch:=first|exact Wv.D|fail) only [Wv.B,simprocAttr,hA,Bool.not_true]
  | false=>
   refine Wv.W1 @Bool.not_false ?_;refine ay (i+1) ⟨by omega,fun j hj=>?_⟩ (by omega) rfl Wv.V2;by_cases e:j=i
   ·subst e;rw [hle];exact hc2
   ·exact hbef j (by omega)
 ·obtain rfl:i=c.nl:=by omega
  have hA:(aQ c.nl fun i=>qW (c.le i))=false:=any_none hbef;simp (disch:=first|exact Wv.D|fail) only [Wv.B,simprocAttr,Int.lt_irrefl,decide_false,hA,Bool.not_false]
theorem OE {f:Nat→Nat} {B:Nat}: ∀ {m w:Nat},fU w B→(∀ i,i<m→fU (f i) B)→fU (whS w f m) B
 | 0,_,h,_=>h
 | m+1,_,h,hf=>(OE h fun i hi=>hf i (by omega)).or (hf m (by omega))
theorem aiG {N:Nat} {es:tH} (hes: ∀ s f,kG es s=some f→ ∀ j,fU (f j) (2 ^ j)): ∀ (e:Ex),goS e→qW e=false→ ∀ j,fU (nsX N es e j) (2 ^ j):=by
 intro e;induction e with
 | nil=>intro h;exact h.elim
 | mk k s n nl li na ar ih=>
  intro hg h j;have h:(Zr k || aQ na fun i=>qW (ar i))=false:=h;unfold Zr at h;simp only [Bool.or_eq_false_iff,decide_eq_false_iff_not] at h;obtain ⟨⟨k8,k9,k15⟩,ha⟩:=h;have ha: ∀ i,i<na→ ∀ j,fU (nsX N es (ar i) j) (2 ^ j):=fun i hi=>ih i (hg.2.2.2.2 i hi) (by
   unfold aQ at ha;have:=List.any_eq_false.1 ha i (List.mem_range.2 hi);simpa using this)
  show fU ((if k=1 then (kG es s).getD (fun j=>2 ^ j) else nsS N k n nl li na (fun i=>nsX N es (ar i))) j) (2 ^ j);split
  ·cases hq:kG es s with
   | none=>exact fun _ h=>h
   | some f=>exact hes s f hq j
  ·unfold nsS;rw [if_neg k8,if_neg k9,if_neg k15];split
   ·next k10=>
    have hna:=hg.2.1;rw [k10] at hna;have:argN (10:Int).toNat=1:=rfl;split
    ·exact ha 0 (by omega) j
    ·exact fU.zero _
   ·exact OE (fU.zero _) fun i hi=>ha i hi j
theorem Zu {N:Nat} {ln:Nat→ByteArray} {le:Nat→Ex}: ∀ n,(∀ i,i<n→goS (le i)∧qW (le i)=false)→ ∀ s f,kG (esS N ln le n) s=some f→ ∀ j,fU (f j) (2 ^ j)
 | 0,_,s,f,h,_=>by cases h
 | n+1,hh,s,f,h,j=>by
  have ih:=Zu (N:=N) (ln:=ln) (le:=le) n fun i hi=>hh i (by omega)
  unfold esS at h;rw [oP] at h;split at h
  ·injection h with h;subst h;exact aiG ih (le n) (hh n (by omega)).1 (hh n (by omega)).2 j
  ·exact ih s f h j
theorem Zv {N:Nat} {t:Int} {c:Ci} {v w:Nat→Nat→Int} (hN:4≤N) (hN2:N % 2=0) (hg:goD c) (hm: ∀ i,i<c.nl→goM (c.le i)) (hl:Zt c=true) {m:Nat} (hvw: ∀ i,i<c.ni→v i m=w i m) {q:Nat} (hq:q<c.no) (hm2:m<N):qV N t c v q m=qV N t c w q m:=by
 have hl: ∀ i,i<c.nl→qW (c.le i)=false:=fun i hi=>by
  unfold Zt aQ at hl;rw [Bool.not_eq_true'] at hl;have:=List.any_eq_false.1 hl i (List.mem_range.2 hi);simpa using this
 have hes:=Zu (N:=N) (ln:=c.ln) (le:=c.le) c.nl fun i hi=>⟨(hg.1 i hi).2,hl i hi⟩
 have hb: ∀ j,(2 ^ m).testBit j=true→j=m:=fun j h=>by
  rw [Nat.testBit_two_pow] at h;exact (of_decide_eq_true h).symm
 refine adZ hN hN2 hg hm (A:=2 ^ m) (fun j hj=>?_) (fun i hi j hj=>?_) hq hm2 (Nat.testBit_two_pow_self)
 ·obtain rfl:=hb j hj;refine OE (fU.zero _) fun q _=>?_
  show fU (((kG (esS N c.ln c.le c.nl) (c.fo q)).getD (fun j=>2 ^ j)) j) (2 ^ j);cases hq:kG (esS N c.ln c.le c.nl) (c.fo q) with
  | none=>exact fun _ h=>h
  | some f=>exact hes _ f hq j
 ·rw [hb j hj];exact hvw i hi
end
section
open Go.RowKit Wv
theorem Uj:TC Tryz.prog 175 [] (bW 12 w12):=by
 have e:bW 12 w12= .t 12 1 [.v (.string ⟨#[99,105,114,99,117,105,116]⟩), .v (.string ⟨#[105,110,112,117,116]⟩), .v (.string ⟨#[108,101,116]⟩), .v (.string ⟨#[111,117,116,112,117,116]⟩), .v (.string ⟨#[114,111,116]⟩), .v (.string ⟨#[115,119,97,112]⟩), .v (.string ⟨#[109,97,115,107]⟩), .v (.string ⟨#[116,97,98,108,101]⟩), .v (.string ⟨#[101,113]⟩), .v (.string ⟨#[108,101,115,115]⟩), .v (.string ⟨#[112,111,119]⟩), .v (.string ⟨#[115,117,109]⟩)]:=rfl;rw [e];refine Wv.TC.by 2 [0] [] [.tmp 0] Tryz.func175 rfl rfl rfl ?clo ?_
 case clo=>simp only [Wv.BC]
 exact Wv.V
theorem ou {a b:AV} (h1:Clo a) (h2:Clo b): ∀ x,x∈[a,b]→Clo x:=by simp only [Wv.BC];exact ⟨h1,h2⟩
theorem LC {α:Type} [DecidableEq α] (a b:α):decide (a=b)=decide (b=a):=by
 by_cases h:a=b
 ·rw [ah h,ah h.symm]
 ·rw [aj h,aj fun q=>h q.symm]
theorem jv {n i:Nat} {p:Nat→Bool} (hi:i<n) (h:p i=true):aQ n p=true:=by
 unfold aQ;exact List.any_eq_true.2 ⟨i,List.mem_range.2 hi,h⟩
theorem gQ {n:Nat} {p:Nat→Bool} (h: ∀ i,i<n→p i=false):aQ n p=false:=by
 unfold aQ;exact List.any_eq_false.2 fun i hi=>by simp [h i (List.mem_range.1 hi)]
theorem aiH (n:Nat) (f:Nat→ByteArray) (s:ByteArray) (hn:n≤140737488351232):TC Tryz.prog 174 [bW n f, .v (.string s)] (.v (.bool (aQ n fun i=>decide (s=f i)))):=by
 obtain ⟨B,hB⟩: ∃ B,B=aQ n fun i=>decide (s=f i):=⟨_,rfl⟩
 rw [←hB];unfold bW;refine Wv.TC.by 18 [5,0,9,1,17,4] [] [.tmp 4] Tryz.func174 rfl rfl rfl ?clo ?_
 case clo=>simp only [Wv.BC]
 refine Wv.W ?_;refine aV (σ:=Nat) (fun i=>[(0, .t n 1 (tab n fun i=> .v (.string (f i)))),(1, .v (.string s)),(5, .v (.int .i64 i))]) (fun _=>[])
  (fun i=>i≤n∧ ∀ j,j<i→decide (s=f j)=false) (fun i=>n - i) 0 ⟨Nat.zero_le _,fun j hj=>by omega⟩ rfl Wv.V ?_
 rintro i ⟨hi,hbef⟩;by_cases hlt:i<n
 ·have e1:(i:Int)<n:=by omega
  have hcm:=LC (f i) s;cases hq:decide (s=f i) with
  | true=>
   rw [hq] at hcm;have hA:=jv (p:=fun i=>decide (s=f i)) hlt hq;refine Wv.W2 (ah e1) hcm ?_;rw [hB,hA]
  | false=>
   rw [hq] at hcm;refine Wv.W2 (ah e1) hcm ?_;refine ay (i+1) ⟨by omega,fun j hj=>?_⟩ (by omega) rfl Wv.V2;by_cases e:j=i
   ·subst e;exact hq
   ·exact hbef j (by omega)
 ·obtain rfl:n=i:=by omega
  have hA:=gQ (p:=fun i=>decide (s=f i)) hbef;refine Wv.W2 @Int.lt_irrefl @decide_false ?_;rw [hB,hA]
theorem wO (s:ByteArray) (hs:s.size≤140737488351232):TC Tryz.prog 111 [.v (.string s)] (.v (.bool (nameB s))):=by
 have hN:nameB s=(!(decide (s=⟨#[]⟩) || (decide (16<s.size) || (!xu (byt s 0) || (aQ 4 (fun i=>decide (s=w4 i)) || aQ 16 (fun i=>decide (s=w16 i)))))) && !aQ s.size fun i=>!kE s i):=rfl;have hwc:Clo (bW 12 w12):=mF 12 w12;refine Wv.TC.by 46 [0,21,3,25,45,2] [] [.tmp 2] Tryz.func111 rfl rfl rfl ?clo ?_
 case clo=>simp only [Wv.BC]
 cases h1:decide (s=⟨#[]⟩) with
 | true=>
  rw [h1,Bool.true_or,Bool.not_true,Bool.false_and] at hN;simp (disch:=first|exact Wv.D|fail) only [Wv.B,simprocAttr,h1,hN]
 | false=>
  rw [Nh s (of_decide_eq_false h1)] at hN;have TI:=aiH 12 w12 s (by omega);cases h2:decide (16<s.size) with
  | true=>
   have h2':(s.size:Int)>16:=by have:=of_decide_eq_true h2;omega
   rw [h1,h2,Bool.false_or,Bool.true_or,Bool.not_true,Bool.false_and] at hN;simp (disch:=first|exact Wv.D|fail) only [Wv.B,simprocAttr,h1,h2,ah h2',hN]
  | false=>
   have h2': ¬ (s.size:Int)>16:=by have:=of_decide_eq_false h2;omega
   have hsz:s.size≠0:=fun e=>of_decide_eq_false h1 (by cases s with | mk d=>simp [ByteArray.size] at e;rw [e])
   obtain ⟨c,hc,hb⟩:=GU (b:=s) (i:=0) (by omega);simp (disch:=first|exact Wv.D|fail) only [Wv.B,simprocAttr,h1,h2,aj h2',hc,hb];refine ak (BX (byt s 0)) rfl Wv.c Wv.c ?_;cases h3:xu (byt s 0) with
   | false=>
    rw [h1,h2,h3,Bool.false_or,Bool.false_or,Bool.not_false,Bool.true_or,Bool.not_true,Bool.false_and] at hN;simp (disch:=first|exact Wv.D|fail) only [Wv.B,simprocAttr,hN]
   | true=>
    refine Wv.W ?_;refine ak Uj rfl Wv.c hwc ?_;refine Wv.W ?_;refine ak TI rfl (ou hwc (.v _)) Wv.c ?_;cases h4:aQ 12 (fun i=>decide (s=w12 i)) with
    | true=>
     rw [h1,h2,h3,h4,Bool.false_or,Bool.false_or,Bool.not_true,Bool.false_or,Bool.not_true,Bool.false_and] at hN;simp (disch:=first|exact Wv.D|fail) only [Wv.B,simprocAttr,hN]
    | false=>
     rw [h1,h2,h3,h4,Bool.false_or,Bool.false_or,Bool.not_true,Bool.false_or,Bool.not_false,Bool.true_and] at hN;clear h1 h2 h3 h4 hc hb TI hwc;refine Wv.W ?_;refine aV (σ:=Nat) (fun i=>[(0, .v (.string s)),(3, .v (.int .i64 i))]) (fun _=>[])
      (fun i=>i≤s.size∧ ∀ j,j<i→kE s j=true) (fun i=>s.size - i) 0 ⟨Nat.zero_le _,fun j hj=>by omega⟩ rfl Wv.V ?_
     rintro i ⟨hi,hj⟩;by_cases hlt:i<s.size
     ·have e1:(i:Int)<s.size:=by omega
      obtain ⟨c,hc,hb⟩:=GU hlt;refine Wv.W3 (ah e1) hc hb ?_;refine ak (BX (byt s i)) rfl Wv.c Wv.c ?_;cases h3:xu (byt s i) with
      | true=>
       refine Wv.W2 hc hb ?_;refine ay (i+1) ⟨by omega,fun j q=>?_⟩ (by omega) rfl Wv.V2;by_cases e:j=i
       ·subst e;unfold kE;rw [h3];rfl
       ·exact hj j (by omega)
      | false=>
       refine Wv.W2 hc hb ?_;refine ak (SC (byt s i)) rfl Wv.c Wv.c ?_;cases h4:MW (byt s i) with
       | true=>
        refine Wv.W2 hc hb ?_;refine ay (i+1) ⟨by omega,fun j q=>?_⟩ (by omega) rfl Wv.V2;by_cases e:j=i
        ·subst e;unfold kE;rw [h3,h4];rfl
        ·exact hj j (by omega)
       | false=>
        cases h5:decide (byt s i=95) with
        | true=>
         refine Wv.W3 hc hb h5 ?_;refine ay (i+1) ⟨by omega,fun j q=>?_⟩ (by omega) rfl Wv.V2;by_cases e:j=i
         ·subst e;unfold kE;rw [h3,h4,h5];rfl
         ·exact hj j (by omega)
        | false=>
         have hA:aQ s.size (fun i=>!kE s i)=true:=jv (p:=fun i=>!kE s i) hlt (by unfold kE;rw [h3,h4,h5];rfl);rw [hA,Bool.not_true] at hN;simp (disch:=first|exact Wv.D|fail) only [Wv.B,simprocAttr,hc,hb,h5,hN]
     ·obtain rfl:i=s.size:=by omega
      have hA:aQ s.size (fun i=>!kE s i)=false:=gQ fun i hi=>by rw [hj i hi];rfl
      rw [hA,Bool.not_false] at hN;exact Wv.V3 @Int.lt_irrefl @decide_false hN
theorem zf (n:Int):TC Tryz.prog 178 [.v (.int .i64 n)] (.v (.bool (inB n))):=by
 refine Wv.TC.by 9 [0,2] [] [.tmp 2] Tryz.func178 rfl rfl rfl ?clo ?_
 case clo=>simp only [Wv.BC]
 unfold inB;by_cases h: -4294967295≤n
 ·simp (disch:=first|exact Wv.D|fail) only [Wv.B,simprocAttr,ah h,show (n≥ -4294967295)=(-4294967295≤n) from rfl]
 ·simp (disch:=first|exact Wv.D|fail) only [Wv.B,simprocAttr,aj h,show (n≥ -4294967295)=(-4294967295≤n) from rfl]
def Zw (k:Int):Int:=if 1≤k∧k≤15 then argN k.toNat else -1
theorem kinds {k:Int} (h:1≤k∧k≤15):k=1∨k=2∨k=3∨k=4∨k=5∨k=6∨k=7∨k=8∨k=9∨k=10∨k=11∨k=12∨k=13∨k=14∨k=15:=by omega
theorem Zx (k:Int):TC Tryz.prog 177 [.v (.int .i64 k)] (.v (.int .i64 (Zw k))):=by
 refine Wv.TC.by 22 [0,3,4,8,17,2] [] [.tmp 2] Tryz.func177 rfl rfl rfl ?clo ?_
 case clo=>simp only [Wv.BC]
 by_cases h:1≤k∧k≤15
 ·rcases kinds h with rfl | rfl | rfl | rfl | rfl | rfl | rfl | rfl | rfl | rfl | rfl | rfl | rfl | rfl | rfl<;>simp (disch:=first|exact Wv.D|fail) only [Wv.B,simprocAttr,Zw,argN,Int.reduceToNat]
 ·have hR:Zw k= -1:=if_neg h;simp (disch:=first|exact Wv.D|fail) only [Wv.B,simprocAttr,hR,aj (show ¬ k=1 by omega),aj (show ¬ k=2 by omega),aj (show ¬ k=3 by omega),aj (show ¬ k=4 by omega),aj (show ¬ k=5 by omega),aj (show ¬ k=6 by omega),aj (show ¬ k=7 by omega),aj (show ¬ k=8 by omega),aj (show ¬ k=9 by omega),aj (show ¬ k=10 by omega),aj (show ¬ k=11 by omega),aj (show ¬ k=12 by omega),aj (show ¬ k=13 by omega),aj (show ¬ k=14 by omega),aj (show ¬ k=15 by omega)]
theorem OG (k:Int) (h:1≤k∧k≤15):TC Tryz.prog 179 [.v (.int .i64 k)] (.v (.bool (BZ k.toNat))):=by
 refine Wv.TC.by 17 [0,2] [] [.tmp 2] Tryz.func179 rfl rfl rfl ?clo ?_
 case clo=>simp only [Wv.BC]
 rcases kinds h with rfl | rfl | rfl | rfl | rfl | rfl | rfl | rfl | rfl | rfl | rfl | rfl | rfl | rfl | rfl<;>simp (disch:=first|exact Wv.D|fail) only [Wv.B,simprocAttr,BZ,Int.reduceToNat]
theorem LD (k:Int) (h:1≤k∧k≤15):TC Tryz.prog 180 [.v (.int .i64 k)] (.v (.bool (Cb k.toNat))):=by
 refine Wv.TC.by 13 [0,2] [] [.tmp 2] Tryz.func180 rfl rfl rfl ?clo ?_
 case clo=>simp only [Wv.BC]
 rcases kinds h with rfl | rfl | rfl | rfl | rfl | rfl | rfl | rfl | rfl | rfl | rfl | rfl | rfl | rfl | rfl<;>simp (disch:=first|exact Wv.D|fail) only [Wv.B,simprocAttr,Cb,Int.reduceToNat]
end
end Go.Proofs.YtljfgdlgmdcmfaaGreat
