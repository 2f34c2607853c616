/- Parts of a proof. -/
import Derived.Test.YtljfgdlgmdcmfaaGreatQrj
import Derived.Test.YtljfgdlgmdcmfaaGreatQrk
import Derived.Test.YtljfgdlgmdcmfaaGreatQrl
import Derived.Test.YtljfgdlgmdcmfaaGreatQrm
set_option linter.unusedVariables false
set_option linter.unusedSimpArgs false
set_option maxHeartbeats 1600000
set_option maxRecDepth 100000
namespace Go.Proofs.YtljfgdlgmdcmfaaGreat
section
open Go.RowKit Wv
def vcA (N:Nat) (f:Nat→Int):AV:= .t N 1 (tab N fun j=> .v (.int .i64 (f j)))
abbrev Env:=List (ByteArray × (Nat→Int))
def enE (N:Nat) (es:Env):List (Value × AV):=es.map fun p=>(.string p.1,vcA N p.2)
def evC (N:Nat) (t:Int):List AV:=[.v (.int .i64 N), .v (.int .i64 t), .mp 1]
def hV (N:Nat) (t:Int) (es:Env):Hp:=[some (.blk (evC N t)),some (.map (enE N es))]
theorem zk (N:Nat) (f:Nat→Int):Clo (vcA N f):=by unfold vcA;simp only [Wv.BC]
theorem qX (N:Nat) (es:Env): ∀ a,a∈(enE N es).map (·.2)→Clo a:=by
 intro a ha;unfold enE at ha;rw [List.map_map] at ha;obtain ⟨p,_,rfl⟩:=List.mem_map.1 ha;exact zk _ _
theorem agy (N:Nat) (t:Int):RnL id 2 (evC N t) (evC N t):=⟨.clo (.v _), .clo (.v _), .mp (by omega),trivial⟩
theorem JJ (N:Nat) (t:Int) (es:Env):loH (hV N t es).length (hV N t es):=by
 refine ⟨?_,fun a ha=> .clo (qX N es a ha),trivial⟩;unfold loL evC;simp only [List.mem_cons,List.not_mem_nil,or_false,forall_eq_or_imp,forall_eq];exact ⟨.clo (.v _), .clo (.v _), .mp (by show 1<2;omega)⟩
theorem ajW (N:Nat) (t:Int) (es:Env): ∀ (i:Nat) (o:Option Ob),(hV N t es)[i]? =some o→ ∃ o',o=some o'∧RnO id (hV N t es).length o' o':=by
 intro i o ho;unfold hV at ho ⊢;match i with
 | 0=>simp at ho;subst ho;exact ⟨_,rfl,agy N t⟩
 | 1=>simp at ho;subst ho;exact ⟨_,rfl,rfl,RnL.clo (qX N es)⟩
 | i+2=>simp at ho
theorem RD.hV {N:Nat} {t:Int} {es:Env} {f:FuncId} {args:List AV} {R p:AV→Prop} (T:RD Tryz.prog f (.ptr 0 0::args) (hV N t es) R p) (r:Hp) (ha: ∀ (a:AV),a∈args→Clo a) (hR: ∀ r,R r→Clo r) (hp: ∀ r,p r→Clo r):HTP Tryz.prog f (.ptr 0 0::args) (hV N t es++r) (fun q h'=>R q∧h'=hV N t es++r) (fun q h'=>p q∧h'=hV N t es++r):=
 RD.ext T r ⟨.ptr (by show 0<2;omega),RnL.clo ha⟩ (ajW N t es) hR hp
def o7 (t n:Int):Int:=if (t - 1) / 2<n.tmod t then n.tmod t - t else if n.tmod t< -((t - 1) / 2) then n.tmod t+t else n.tmod t
theorem tmod_in {t n:Int} (ht:3≤t): -t<n.tmod t∧n.tmod t<t:=by
 constructor
 ·have:=Int.lt_tmod_of_pos n (show 0<t by omega);omega
 ·exact Int.tmod_lt_of_pos n (by omega)
theorem zn {t n:Int} (ht:3≤t) (ho:t % 2=1): -((t - 1) / 2)≤o7 t n∧o7 t n≤(t - 1) / 2:=by
 have:=tmod_in (n:=n) ht;unfold o7;generalize n.tmod t=m at*;split
 ·omega
 ·split<;>omega
theorem JK (N:Nat) (t:Int) (es:Env) (n:Int) (ht:3≤t) (ht':t≤2147483647) (hn: -9223372036854775807≤n) (hn':n≤9223372036854775807):RD Tryz.prog 125 [.ptr 0 0, .v (.int .i64 n)] (hV N t es) (fun r=>r= .v (.int .i64 (o7 t n))) (fun _=>False):=by
 refine RD.of ?_ (fun r q=>q▸ .clo Wv.c) (fun r q=>q.elim) (JJ N t es);unfold hV evC;have hq:(t - 1).tdiv 2=(t - 1) / 2:=Int.tdiv_eq_ediv_of_nonneg (by omega);have hb:=tmod_in (n:=n) ht;have hB:o7 t n=if (t - 1) / 2<n.tmod t then n.tmod t - t else if n.tmod t< -((t - 1) / 2) then n.tmod t+t else n.tmod t:=rfl
 generalize o7 t n=B at*;generalize hm:n.tmod t=m at*;refine Wv.HTP.by 40 [1,0,5,18,28,4] [(1000000,2)] [.tmp 4] Tryz.func125 rfl rfl rfl ?base ?_
 case base=>rfl
 by_cases h1:(t - 1) / 2<m
 ·rw [if_pos h1] at hB;simp (disch:=first|exact Wv.D|fail) only [Wv.B,simprocAttr,hq,hm,ah h1];rw [hB]
 rw [if_neg h1] at hB;by_cases h2:m< -((t - 1) / 2)
 ·rw [if_pos h2] at hB;simp (disch:=first|exact Wv.D|fail) only [Wv.B,simprocAttr,hq,hm,aj h1,ah h2];rw [hB]
 ·rw [if_neg h2] at hB;simp (disch:=first|exact Wv.D|fail) only [Wv.B,simprocAttr,hq,hm,aj h1,aj h2];rw [hB]
def Ey (_:Nat):Int:=0
def CB (nl:Nat) (li:Nat→Int) (j:Nat):Int:=if j<nl then li j else 0
theorem CG {m:Nat} {g:Nat→AV}: ∀ {k n:Nat} {f:Nat→AV},m≤n→k≤m→dK (tab n f) (m - k) (tab k fun i=>g (i+(m - k)))=tab n fun i=>if m - k≤i∧i<m then g i else f i
 | 0,n,f,h,hk=>by
  show tab n f=_;exact aC fun i hi=>by rw [if_neg (by omega)]
 | k+1,n,f,h,hk=>by
  have e1:(tab (k+1) fun i=>g (i+(m - (k+1))))=g (m - (k+1))::tab k fun i=>g (i+(m - k)):=by
   unfold tab;rw [List.range_succ_eq_map,List.map_cons,List.map_map,Nat.zero_add];congr 1;apply List.map_congr_left;intro i hi;show g (i+1+(m - (k+1)))=_;congr 1;omega
  rw [e1];show dK ((tab n f).set (m - (k+1)) _) (m - (k+1)+1) _=_;rw [dF,show m - (k+1)+1=m - k by omega,CG (k:=k) h (by omega)];refine aC fun i hi=>?_
  by_cases q:i=m - (k+1)
  ·subst q;rw [if_neg (by omega),if_pos rfl,if_pos (by omega)]
  ·by_cases q2:m - k≤i∧i<m
   ·rw [if_pos q2,if_pos (by omega)]
   ·rw [if_neg q2,if_neg q,if_neg (by omega)]
theorem QW {m n:Nat} {f g:Nat→AV} (h:m≤n):dK (tab n f) 0 (tab m g)=tab n fun i=>if i<m then g i else f i:=by
 have:=CG (g:=g) (f:=f) h (Nat.le_refl m);rw [Nat.sub_self] at this;simp only [Nat.add_zero,Nat.zero_le,true_and] at this;exact this
theorem abU (N:Nat) (t:Int) (es:Env) (nl:Nat) (li:Nat→Int) (hN:N≤32) (hl:nl≤N):RD Tryz.prog 120 [.ptr 0 0, .t nl 1 (tab nl fun i=> .v (.int .i64 (li i)))] (hV N t es) (fun r=>r=vcA N (CB nl li)) (fun _=>False):=by
 refine RD.of ?_ (fun r q=>q▸ .clo (zk _ _)) (fun r q=>q.elim) (JJ N t es);have hp: ∀ f:Nat→AV,dK (tab N f) 0 (tab nl fun i=>AV.v (.int .i64 (li i)))=tab N fun i=>if i<nl then AV.v (.int .i64 (li i)) else f i:=fun f=>QW hl
 have he:(tab N fun i=>if i<nl then AV.v (.int .i64 (li i)) else AV.v (.int .i64 0))=tab N fun j=>AV.v (.int .i64 (CB nl li j)):=aC fun i hi=>by unfold CB;split<;>rfl
 unfold hV evC vcA;refine Wv.HTP.by 15 [0,5,1,4] [(1000000,2)] [.tmp 4] Tryz.func120 rfl rfl rfl ?base ?_
 case base=>rfl
 simp (disch:=first|exact Wv.D|fail) only [Wv.B,simprocAttr,hp,he]
theorem XO (N:Nat) (t:Int) (es:Env) (hN:N≤32):RD Tryz.prog 120 [.ptr 0 0, .v (.slice none 0 0)] (hV N t es) (fun r=>r=vcA N Ey) (fun _=>False):=by
 refine RD.of ?_ (fun r q=>q▸ .clo (zk _ _)) (fun r q=>q.elim) (JJ N t es);unfold hV evC vcA Ey;refine Wv.HTP.by 15 [0,5,1,4] [(1000000,2)] [.tmp 4] Tryz.func120 rfl rfl rfl ?base ?_
 case base=>rfl
 exact Wv.V
def Gy (t:Int):Nat→Int→Int→Int→Int
 | 0,out,_,_=>out
 | f+1,out,a,k=>if 0<k then Gy t f (if k % 2=1 then o7 t (out*a) else out) (o7 t (a*a)) (k / 2) else out
def QX (t a k:Int):Int:=Gy t 64 1 a k
theorem QY (x:Int) (h0:0≤x) (h1:x≤9223372036854775807):IntKind.i64.wrap ((BitVec.ofInt IntKind.i64.bits x &&& BitVec.ofInt IntKind.i64.bits 1).toNat:Int)=x % 2:=by
 obtain ⟨n,rfl⟩:=Int.eq_ofNat_of_zero_le h0;have:(BitVec.ofInt IntKind.i64.bits (n:Int) &&& BitVec.ofInt IntKind.i64.bits 1).toNat=n % 2:=by
  show (BitVec.ofInt 64 (n:Int) &&& BitVec.ofInt 64 1).toNat=n % 2;rw [BitVec.toNat_and,BitVec.ofInt_natCast,BitVec.toNat_ofNat,Nat.mod_eq_of_lt (by omega)];exact Nat.and_one_is_mod n
 rw [this];have h2:n % 2=0∨n % 2=1:=by omega
 rcases h2 with h | h
 ·rw [h,show ((n:Nat):Int) % 2=0 by omega];rfl
 ·rw [h,show ((n:Nat):Int) % 2=1 by omega];rfl
theorem Gz {t a b:Int} (ht:t≤2147483647) (ha: -((t - 1) / 2)≤a∧a≤(t - 1) / 2) (hb: -((t - 1) / 2)≤b∧b≤(t - 1) / 2): -1152921504606846976≤a*b∧a*b≤1152921504606846976:=by
 have h1:a.natAbs≤1073741824:=by omega
 have h2:b.natAbs≤1073741824:=by omega
 have h3:=Nat.mul_le_mul h1 h2;rw [←Int.natAbs_mul] at h3;omega
theorem abV (N:Nat) (t:Int) (es:Env) (a k:Int) (ht:3≤t) (ho:t % 2=1) (ht':t≤2147483647) (ha: -((t - 1) / 2)≤a∧a≤(t - 1) / 2) (hk:0≤k) (hk':k≤9223372036854775807):RD Tryz.prog 124 [.ptr 0 0, .v (.int .i64 a), .v (.int .i64 k)] (hV N t es) (fun r=>r= .v (.int .i64 (QX t a k))) (fun _=>False):=by
 refine RD.of ?_ (fun r q=>q▸ .clo Wv.c) (fun r q=>q.elim) (JJ N t es);have hB:=fun n h1 h2=>RD.hV (JK N t es n ht ht' h1 h2)
 generalize hP:QX t a k=P;unfold QX at hP;unfold hV evC at*;refine Wv.HTP.by 26 [2,9,14,0,7,1,6] [(1000000,2)] [.tmp 6] Tryz.func124 rfl rfl rfl ?base ?_
 case base=>rfl
 refine Wv.W ?_;refine dI (σ:=Nat × Int × Int × Int) (fun s=>[(0, .ptr 0 0),(1, .v (.int .i64 s.2.2.1)),(2, .v (.int .i64 s.2.2.2)),(7, .v (.int .i64 s.2.1))]) (fun _=>[some (.blk [.v (.int .i64 N), .v (.int .i64 t), .mp 1]),some (.map (enE N es))])
  (fun s=>Gy t s.1 s.2.1 s.2.2.1 s.2.2.2=P∧0≤s.2.2.2∧(s.2.2.2<2 ^ s.1∧s.2.2.2≤9223372036854775807)∧(-((t - 1) / 2)≤s.2.1∧s.2.1≤(t - 1) / 2)∧(-((t - 1) / 2)≤s.2.2.1∧s.2.2.1≤(t - 1) / 2)) (fun s=>s.1) (64,1,a,k) ⟨hP,hk,⟨by show k<2 ^ 64;omega,hk'⟩,⟨by show _≤(1:Int);omega,by show (1:Int)≤_;omega⟩,ha⟩ Wv.V Wv.V ?_
 rintro ⟨f,o,a,k⟩ ⟨h1,h2,⟨h3,hk2⟩,h4,h5⟩;simp only at h1 h2 h3 h4 h5 hk2;by_cases h0:0<k
 ·obtain ⟨f,rfl⟩: ∃ g,f=g+1:=by
   cases f with
   | zero=>omega
   | succ g=>exact ⟨g,rfl⟩
  have e1:=QY k h2 hk2;have m1:=Gz ht' h5 h5;have m2:=Gz ht' h4 h5;have hfd:k.fdiv (2 ^ min 1 64)=k / 2:=Int.fdiv_eq_ediv_of_nonneg k (show (0:Int)≤2 ^ min 1 64 by decide);have n1:=zn (n:=a*a) ht ho;have n2:=zn (n:=o*a) ht ho;unfold Gy at h1;rw [if_pos h0] at h1;by_cases hodd:k % 2=1
  ·rw [if_pos hodd] at h1;simp (disch:=first|exact Wv.D|fail) only [Wv.B,simprocAttr,ah h0,e1,ah hodd];refine aI (fst:=[]) (cap:=[]) (hB (o*a) (by omega) (by omega) [] Wv.c (by rintro r rfl;simp only [Wv.BC]) (by rintro r h;exact h.elim)) ?_ (by rintro av h' ⟨h,_⟩;exact h.elim);rintro av h' ⟨rfl,rfl⟩;refine Wv.W ?_;refine aI (fst:=[]) (cap:=[]) (hB (a*a) (by omega) (by omega) [] Wv.c (by rintro r rfl;simp only [Wv.BC]) (by rintro r h;exact h.elim)) ?_ (by rintro av h' ⟨h,_⟩;exact h.elim);rintro av h' ⟨rfl,rfl⟩;simp (disch:=first|exact Wv.D|fail) only [Wv.B,simprocAttr,hfd];refine aJ (f,o7 t (o*a),o7 t (a*a),k / 2) ⟨h1,by simp only;omega,by simp only;omega,n2,n1⟩ (by simp only;omega) Wv.V Wv.V
  ·rw [if_neg hodd] at h1;simp (disch:=first|exact Wv.D|fail) only [Wv.B,simprocAttr,ah h0,e1,aj hodd];refine aI (fst:=[]) (cap:=[]) (hB (a*a) (by omega) (by omega) [] Wv.c (by rintro r rfl;simp only [Wv.BC]) (by rintro r h;exact h.elim)) ?_ (by rintro av h' ⟨h,_⟩;exact h.elim);rintro av h' ⟨rfl,rfl⟩;simp (disch:=first|exact Wv.D|fail) only [Wv.B,simprocAttr,hfd];refine aJ (f,o,o7 t (a*a),k / 2) ⟨h1,by simp only;omega,by simp only;omega,h4,n1⟩ (by simp only;omega) Wv.V Wv.V
 ·simp (disch:=first|exact Wv.D|fail) only [Wv.B,simprocAttr,aj h0];have:Gy t f o a k=o:=by
   cases f with
   | zero=>rfl
   | succ f=>unfold Gy;rw [if_neg h0]
  rw [←h1,this]
end
section
open Go.RowKit Wv
theorem nU:szP Tryz.prog 163=some 1:=by kernel_rfl
theorem xu:au Tryz.prog 163=some .nilFunc:=by kernel_rfl
theorem nV:aK Tryz.prog 163=some false:=by kernel_rfl
theorem xw:fV Tryz.prog 163=true:=by kernel_rfl
def Dj (t n:Int):Int:=(n+t).tmod t
theorem Ox (h:Hp) (b:Bool):TC Tryz.prog 121 [.v (.bool b)] (.v (.int .i64 (if b=true then 1 else 0))):=by
 refine Wv.TC.by 4 [0,3,2] [] [.tmp 2] Tryz.func121 rfl rfl rfl ?clo ?_
 case clo=>simp only [Wv.BC]
 cases b<;>simp (disch:=first|exact Wv.D|fail) only [Wv.B,simprocAttr]
def XP (N:Nat) (n:Int) (j:Nat):Nat:=j / (N / 2)*(N / 2)+(j % (N / 2)+n.toNat) % (N / 2)
def xA (f:Nat→Int):Nat→Int
 | 0=>0
 | i+1=>xA f i+f i
def slZ (N:Nat) (t k n:Int) (li ls:Nat→Int) (A:Nat→Nat→Int) (j:Nat):Int:=
 if k=2 then n else if k=3 then ls j else if k=4 then A 0 j+A 1 j else if k=5 then A 0 j - A 1 j else if k=6 then 0 - A 0 j else if k=7 then A 0 j*A 1 j
 else if k=8 then A 0 (XP N n j) else if k=9 then A 0 ((j+N / 2) % N) else if k=10 then ls j*A 0 j else if k=11 then li (Dj t (A 0 j)).toNat
 else if k=12 then (if A 0 j=A 1 j then 1 else 0) else if k=13 then (if Dj t (A 0 j)<n then 1 else 0) else if k=14 then QX t (A 0 j) n else xA (A 0) N
theorem MC {t a:Int} (ht:3≤t) (ha: -((t - 1) / 2)≤a∧a≤(t - 1) / 2):0≤Dj t a∧Dj t a<t:=by
 unfold Dj;exact ⟨Int.tmod_nonneg _ (by omega),Int.tmod_lt_of_pos _ (by omega)⟩
theorem lsm {t l a:Int} (hl:inB l=true) (ht:t≤2147483647) (ha: -((t - 1) / 2)≤a∧a≤(t - 1) / 2): -4611686018427387904≤l*a∧l*a≤4611686018427387904:=by
 unfold inB at hl;rw [Bool.and_eq_true] at hl;have q1:=of_decide_eq_true hl.1;have q2:=of_decide_eq_true hl.2;have h1:l.natAbs≤4294967296:=by omega
 have h2:a.natAbs≤1073741824:=by omega
 have h3:=Nat.mul_le_mul h1 h2;rw [←Int.natAbs_mul] at h3;omega
theorem MF {t:Int} {f:Nat→Int} {N:Nat} (ht:t≤2147483647) (hf: ∀ j,j<N→ -((t - 1) / 2)≤f j∧f j≤(t - 1) / 2): ∀ i,i≤N→ -(1073741824*i)≤xA f i∧xA f i≤1073741824*i
 | 0,_=>by show _≤(0:Int)∧(0:Int)≤_;omega
 | i+1,h=>by
  have ih:=MF ht hf i (by omega);have:=hf i (by omega);show _≤xA f i+f i∧xA f i+f i≤_;rw [Int.natCast_add];omega
def hS (N:Nat) (t:Int) (es:Env) (k:Int) (s:ByteArray) (n:Int) (nl:Nat) (li:Nat→Int) (na:Nat) (L:List AV) (A:Nat→Nat→Int) (ls:Nat→Int):Hp:=
 [some (.blk [.v (.int .i64 N), .v (.int .i64 t), .mp 1]),some (.map (enE N es)),some (.blk [.ptr 0 0]),some (.blk [.v (.int .i64 k), .v (.string s), .v (.int .i64 n), .t nl 1 (tab nl fun i=> .v (.int .i64 (li i))), .t na 5 L]),
  some (.arr 43 1 (tab na fun i=> .t N 1 (tab N fun j=> .v (.int .i64 (A i j)))) 0),some (.blk [.own 4 na]),some (.blk [.v (.int .i64 (N / 2:Nat))]),some (.blk [.t N 1 (tab N fun j=> .v (.int .i64 (ls j)))]),some (.blk [.fn (.func 121) [] []]),some (.blk [.fn (.func 122) [] [.ptr 2 0]])]
theorem abW (N:Nat) (t:Int) (es:Env) (k:Int) (s:ByteArray) (n:Int) (nl:Nat) (li:Nat→Int) (na:Nat) (L:List AV) (A:Nat→Nat→Int) (ls:Nat→Int) (m:Int) (ht:3≤t) (ht':t≤2147483647) (hm: -((t - 1) / 2)≤m∧m≤(t - 1) / 2):
  HT Tryz.prog 122 [.v (.int .i64 m), .ptr 2 0] (hS N t es k s n nl li na L A ls) (fun r h'=>r= .v (.int .i64 (Dj t m))∧h'=hS N t es k s n nl li na L A ls):=by
 have hR:(m+t).tmod t=Dj t m:=rfl;unfold hS;refine Wv.HT.by 15 [0,1,3] [(1,11),(1000000,10),(3000001,16)] [.tmp 3] Tryz.func122 rfl rfl rfl ?base ?_
 case base=>rfl
 simp (disch:=first|exact Wv.D|fail) only [Wv.B,simprocAttr,hR]
theorem XQ (N:Nat) (t:Int) (es:Env) (k:Int) (s:ByteArray) (n:Int) (nl:Nat) (li:Nat→Int) (na:Nat) (L:List AV) (A:Nat→Nat→Int) (ls:Nat→Int) (j:Nat) (ht:3≤t) (ho:t % 2=1) (ht':t≤2147483647) (hN:4≤N) (hN2:N≤32) (hN3:N % 2=0) (hj:j<N)
  (hA: ∀ i,i<na→ ∀ j,j<N→ -((t - 1) / 2)≤A i j∧A i j≤(t - 1) / 2) (hk:2≤k∧k≤15) (hna:(na:Int)=argN k.toNat) (hn:inB n=true) (hls: ∀ j,j<N→inB (ls j)=true) (h8:k=8→0≤n) (h11:k=11→t≤nl) (h14:k=14→0≤n):
  HT Tryz.prog 123 [.v (.int .i64 j), .ptr 3 0, .ptr 7 0, .ptr 5 0, .ptr 6 0, .ptr 2 0, .ptr 9 0, .ptr 8 0] (hS N t es k s n nl li na L A ls) (fun r h'=>r= .v (.int .i64 (slZ N t k n li ls A j))∧h'=hS N t es k s n nl li na L A ls):=by
 have hn': -4294967295≤n∧n≤4294967295:=by
  unfold inB at hn;rw [Bool.and_eq_true] at hn;exact ⟨of_decide_eq_true hn.1,of_decide_eq_true hn.2⟩
 have hE:=abW N t es k s n nl li na L A ls;have hP:=fun a h1 h2 h3=>RD.hV (abV N t es a n ht ho ht' h1 h2 h3)
 obtain ⟨Z,hZ⟩: ∃ Z,slZ N t k n li ls A j=Z:=⟨_,rfl⟩
 rw [hZ];unfold slZ at hZ;unfold hV evC at hP;have hkk:k=2∨k=3∨k=4∨k=5∨k=6∨k=7∨k=8∨k=9∨k=10∨k=11∨k=12∨k=13∨k=14∨k=15:=by omega
 unfold hS at*;refine Wv.HT.by 199 [1,14,15,19,2,0,25,3,40,55,64,79,4,100,5,115,128,6,142,7,159,174,190,189,191,188,10,12,9] [(7,13),(9,13),(13,13),(15,19),(17,13),(19,11),(21,12),(23,15),(25,13),(27,10),(1000000,10),(3000007,16),(3000009,16),(3000013,16),(3000015,16),(3000017,16),(3000019,16),(3000021,16),(3000023,16),(3000025,16),(3000027,16)] [.tmp 9] Tryz.func123 rfl rfl rfl ?base ?_
 case base=>rfl
 rcases hkk with rfl | rfl | rfl | rfl | rfl | rfl | rfl | rfl | rfl | rfl | rfl | rfl | rfl | rfl<;>simp only [Int.reduceEq, ↓reduceIte] at hZ
 ·simp (disch:=first|exact Wv.D|fail) only [Wv.B,simprocAttr];rw [hZ]
 ·simp (disch:=first|exact Wv.D|fail) only [Wv.B,simprocAttr];rw [hZ]
 ·have hna':na=2:=by have:argN (4:Int).toNat=2:=rfl;omega
  subst hna';have a0:=hA 0 (by omega) j hj;have a1:=hA 1 (by omega) j hj;refine Wv.W ?_;rw [hZ]
 ·have hna':na=2:=by have:argN (5:Int).toNat=2:=rfl;omega
  subst hna';have a0:=hA 0 (by omega) j hj;have a1:=hA 1 (by omega) j hj;refine Wv.W ?_;rw [hZ]
 ·have hna':na=1:=by have:argN (6:Int).toNat=1:=rfl;omega
  subst hna';have a0:=hA 0 (by omega) j hj;refine Wv.W ?_;rw [hZ]
 ·have hna':na=2:=by have:argN (7:Int).toNat=2:=rfl;omega
  subst hna';have a0:=Gz ht' (hA 0 (by omega) j hj) (hA 1 (by omega) j hj);refine Wv.W ?_;rw [hZ]
 ·have hna':na=1:=by have:argN (8:Int).toNat=1:=rfl;omega
  subst hna';obtain ⟨m,rfl⟩:=Int.eq_ofNat_of_zero_le (h8 rfl);have e0:((m:Int)).toNat=m:=rfl;unfold XP at hZ;rw [e0] at hZ;generalize hh:N / 2=h at*;have hp:0<h:=by omega
  have e1:(j:Int).tdiv (h:Int)=((j / h:Nat):Int):=rfl;have e2:(j:Int).tmod (h:Int)=((j % h:Nat):Int):=rfl;have e3:(((j % h:Nat):Int)+(m:Int)).tmod (h:Int)=(((j % h+m) % h:Nat):Int):=rfl;have e4:((j / h:Nat):Int)*(h:Int)=((j / h*h:Nat):Int):=(Int.natCast_mul _ _).symm;have e5:((j / h*h:Nat):Int)+(((j % h+m) % h:Nat):Int)=((j / h*h+(j % h+m) % h:Nat):Int):=(Int.natCast_add _ _).symm;have b1:j / h*h≤j:=Nat.div_mul_le_self j h;have b2:=Nat.mod_lt j hp;have b3:=Nat.mod_lt (j % h+m) hp;have b4:j / h*h+(j % h+m) % h<N:=by
   have:j / h<2:=Nat.div_lt_of_lt_mul (by omega);have:j / h=0∨j / h=1:=(show ∀ q:Nat,q<2→q=0∨q=1 by omega) _ this;rcases this with q | q<;>rw [q]<;>omega
  have b5:j / h≤j:=Nat.div_le_self j h;generalize (j % h+m) % h=q3 at*;generalize j % h=q2 at*;generalize j / h=q1 at*;generalize q1*h=q4 at*;simp (disch:=first|exact Wv.D|fail) only [Wv.B,simprocAttr,e1,e2,e3,e4,e5];rw [hZ]
 ·have hna':na=1:=by have:argN (9:Int).toNat=1:=rfl;omega
  subst hna';have e1:((j:Int)+((N / 2:Nat):Int)).tmod (N:Int)=(((j+N / 2) % N:Nat):Int):=rfl;have b1:=Nat.mod_lt (j+N / 2) (show N>0 by omega);simp (disch:=first|exact Wv.D|fail) only [Wv.B,simprocAttr,e1];rw [hZ]
 ·have hna':na=1:=by have:argN (10:Int).toNat=1:=rfl;omega
  subst hna';have a0:=hA 0 (by omega) j hj;have a1:=lsm (hls j hj) ht' a0;refine Wv.W ?_;rw [hZ]
 ·have hna':na=1:=by have:argN (11:Int).toNat=1:=rfl;omega
  subst hna';have a0:=hA 0 (by omega) j hj;have b1:=MC ht a0;have alr:=h11 rfl;have hE':=hE (A 0 j) ht ht' a0;generalize Dj t (A 0 j)=q at*;obtain ⟨m,rfl⟩:=Int.eq_ofNat_of_zero_le b1.1;have e0:((m:Int)).toNat=m:=rfl;rw [e0] at hZ;refine Wv.W ?_;refine bU (fst:=[]) (cap:=[.ptr 2 0]) (hE'.toP (fun _ _=>False)) ?_ (fun _ _ q=>q.elim);refine Wv.W ?_;rw [hZ]
 ·have hna':na=2:=by have:argN (12:Int).toNat=2:=rfl;omega
  subst hna';have T:=Ox (hS N t es 12 s n nl li 2 L A ls) (decide (A 0 j=A 1 j));have e:(if decide (A 0 j=A 1 j)=true then (1:Int) else 0)=Z:=by
   rw [←hZ];by_cases q:A 0 j=A 1 j
   ·rw [if_pos q,if_pos (ah q)]
   ·rw [if_neg q,if_neg (by simp [q])]
  rw [e] at T;simp (disch:=first|exact Wv.D|fail) only [Wv.B,simprocAttr,nU,xu,nV,xw];refine iG T rfl Wv.c Wv.c ?_;simp (disch:=first|exact Wv.D|fail) only [Wv.B,simprocAttr,nU,xu,nV,xw]
 ·have hna':na=1:=by have:argN (13:Int).toNat=1:=rfl;omega
  subst hna';have a0:=hA 0 (by omega) j hj;have b1:=MC ht a0;have hE':=hE (A 0 j) ht ht' a0;generalize Dj t (A 0 j)=q at*;have T:=Ox (hS N t es 13 s n nl li 1 L A ls) (decide (q<n));have e:(if decide (q<n)=true then (1:Int) else 0)=Z:=by
   rw [←hZ];by_cases r:q<n
   ·rw [if_pos r,if_pos (ah r)]
   ·rw [if_neg r,if_neg (by simp [r])]
  rw [e] at T;simp (disch:=first|exact Wv.D|fail) only [Wv.B,simprocAttr,nU,xu,nV,xw];refine bU (fst:=[]) (cap:=[.ptr 2 0]) (hE'.toP (fun _ _=>False)) ?_ (fun _ _ q=>q.elim);simp (disch:=first|exact Wv.D|fail) only [Wv.B,simprocAttr,nU,xu,nV,xw];refine iG T rfl Wv.c Wv.c ?_;simp (disch:=first|exact Wv.D|fail) only [Wv.B,simprocAttr,nU,xu,nV,xw]
 ·have hna':na=1:=by have:argN (14:Int).toNat=1:=rfl;omega
  subst hna';have a0:=hA 0 (by omega) j hj;have ak8:=h14 rfl;have hP':=hP (A 0 j) a0 ak8 (by omega);simp (disch:=first|exact Wv.D|fail) only [Wv.B,simprocAttr,nU,xu,nV,xw];refine bU (fst:=[]) (cap:=[]) (hP' _ Wv.c (by rintro r rfl;simp only [Wv.BC]) (by rintro r h;exact h.elim)) ?_ (by rintro av h' ⟨h,_⟩;exact h.elim);simp (disch:=first|exact Wv.D|fail) only [Wv.B,simprocAttr,nU,xu,nV,xw];rw [hZ]
 ·have hna':na=1:=by have:argN (15:Int).toNat=1:=rfl;omega
  subst hna';have hA0: ∀ j,j<N→ -((t - 1) / 2)≤A 0 j∧A 0 j≤(t - 1) / 2:=hA 0 (by omega);have hs:=MF (f:=A 0) ht' hA0;simp (disch:=first|exact Wv.D|fail) only [Wv.B,simprocAttr,nU,xu,nV,xw];refine dI (σ:=Nat) (fun i=>[(188, .t N 1 (tab N fun j=> .v (.int .i64 (A 0 j)))),(189, .v (.int .i64 N)),(190, .v (.int .i64 i)),(10, .v (.int .i64 (xA (A 0) i)))]) (fun _=>_)
   (fun i=>i≤N) (fun i=>N - i) 0 (Nat.zero_le _) rfl (by simp (disch:=first|exact Wv.D|fail) only [Wv.B,simprocAttr,xA,Int.natCast_zero]) ?_
  intro i hi;by_cases hlt:i<N
  ·have e1:(i:Int)<N:=by omega
   have b1:=hs i (by omega);have b2:=hA0 i hlt;simp (disch:=first|exact Wv.D|fail) only [Wv.B,simprocAttr,ah e1];refine aJ (i+1) (by omega) (by omega) rfl (by simp (disch:=first|exact Wv.D|fail) only [Wv.B,simprocAttr,xA,Int.natCast_add,Int.natCast_one])
  ·obtain rfl:i=N:=by omega
   simp (disch:=first|exact Wv.D|fail) only [Wv.B,simprocAttr,Int.lt_irrefl,decide_false];rw [hZ]
end
section
open Go.RowKit Wv
theorem ajX (N:Nat) (t:Int) (es:Env) (k:Int) (s:ByteArray) (n:Int) (nl:Nat) (li:Nat→Int) (na:Nat) (L:List AV) (A:Nat→Nat→Int) (ls:Nat→Int) (hL: ∀ a,a∈L→Clo a):loH 10 (hS N t es k s n nl li na L A ls):=by
 unfold hS;have h1: ∀ a,a∈(enE N es).map (·.2)→Clo a:=qX N es;refine ⟨?_,fun a ha=> .clo (h1 a ha),?_⟩
 ·simp only [Wv.BL, ↓reduceIte,Nat.reduceLeDiff];omega
 ·simp only [Wv.BL, ↓reduceIte,Nat.reduceLeDiff,eq_true hL];omega
theorem ajY   (N : Nat) (t : Int) (es : Env) (k : Int) (s : ByteArray) (n : Int) (nl : Nat) (li : Nat → Int) (na : Nat) (L : List AV) (A : Nat → Nat → Int) (ls : Nat → Int) (hL : ∀ a, a ∈ L → Clo a) : ∀ (i : Nat) (o : Option Ob), (hS N t es k s n nl li na L A ls)[i]? = some o → ∃ o', o = some o' ∧ RnO id 10 o' o' := by
  intro i o ho;unfold hS at ho;match i with
  | 0 => simp at ho; subst ho; exact ⟨_, rfl, .clo (.v _), .clo (.v _), .mp (by omega), trivial⟩
  | 1 => simp at ho; subst ho; exact ⟨_, rfl, rfl, RnL.clo (qX      N es)⟩
  | 2 => simp at ho; subst ho; exact ⟨_, rfl, .ptr (by omega), trivial⟩
  | 3 => simp at ho; subst ho; exact ⟨_, rfl, .clo (.v _), .clo (.v _), .clo (.v _), .clo Wv.c, .clo (by simp only [Wv.BC]; exact hL), trivial⟩
  | 4 => simp at ho; subst ho; exact ⟨_, rfl, rfl, rfl, rfl, RnL.clo Wv.c⟩
  | 5 => simp at ho; subst ho; exact ⟨_, rfl, .own (by omega), trivial⟩
  | 6 => simp at ho; subst ho; exact ⟨_, rfl, .clo (.v _), trivial⟩
  | 7 => simp at ho; subst ho; exact ⟨_, rfl, .clo Wv.c, trivial⟩
  | 8 => simp at ho; subst ho; exact ⟨_, rfl, .clo Wv.c, trivial⟩
  | 9 => simp at ho; subst ho; exact ⟨_, rfl, .fn rfl rfl (by simp) (fun i a b h1 h2 => by
      match i with
      | 0 => simp at h1 h2; subst h1 h2; exact .ptr (by omega)
      | i + 1 => simp at h1), trivial⟩
  | i + 10 => simp at ho
def dS:Env→ByteArray→Option (Nat→Int)
 | [],_=>none
 | p::r,s=>if s=p.1 then some p.2 else dS r s
theorem GH (N:Nat) (s:ByteArray): ∀ es:Env,dB (.string s) (enE N es)=(dS es s).map (vcA N)
 | []=>rfl
 | p::r=>by
  have ih:=GH N s r;show (if keyE (.string s) (.string p.1)=true then some (vcA N p.2) else dB (.string s) (enE N r))=_;rw [ih];show _=Option.map (vcA N) (if s=p.1 then some p.2 else dS r s);have:keyE (.string s) (.string p.1)=decide (s=p.1):=sQ;rw [this];by_cases e:s=p.1
  ·rw [if_pos (ah e),if_pos e];rfl
  ·rw [if_neg (by simp [e]),if_neg e]
theorem JL (N:Nat): ∀ es:Env,keysB .str (enE N es)=true
 | []=>rfl
 | p::r=>JL N r
variable {N:Nat}
theorem GI {m:Nat} (es:Env):(∀ x:Value × AV,x∈enE N es→lo m x.2)=True:=eq_true fun a ha=> .clo (qX N es _ (List.mem_map_of_mem ha))
def lsF (k:Int) (nl:Nat) (li:Nat→Int):Nat→Int:=if k=3∨k=10 then CB nl li else Ey
def evX (N:Nat) (t:Int) (es:Env):Ex→Nat→Int
 | .nil=>fun _=>0
 | .mk k s n nl li na ar=>if k=1 then (dS es s).getD (fun _=>0) else fun j=>o7 t (slZ N t k n li (lsF k nl li) (fun i=>evX N t es (ar i)) j)
def goE (N:Nat) (t:Int) (es:Env):Ex→Prop
 | .nil=>False
 | .mk k s n nl li na ar=>(k=1→(dS es s).isSome=true)∧(k=8→0≤n)∧(k=11→t≤nl)∧(k=14→0≤n)∧(k=3∨k=10→nl≤N)∧ ∀ i,i<na→goE N t es (ar i)
def okV (N:Nat) (t:Int) (es:Env):Prop:= ∀ s f,dS es s=some f→ ∀ j,j<N→ -((t - 1) / 2)≤f j∧f j≤(t - 1) / 2
theorem MG {t:Int} {es:Env} (ht:3≤t) (ho:t % 2=1) (hvv:okV N t es) (e:Ex) (hg:goE N t es e): ∀ j,j<N→ -((t - 1) / 2)≤evX N t es e j∧evX N t es e j≤(t - 1) / 2:=by
 intro j hj;cases e with
 | nil=>exact hg.elim
 | mk k s n nl li na ar=>
 unfold evX;by_cases h:k=1
 ·rw [if_pos h];have:=hg.1 h;cases hq:dS es s with
  | none=>rw [hq] at this;cases this
  | some f=>exact hvv s f hq j hj
 ·rw [if_neg h];exact zn ht ho
variable {ar:Nat→Ex}{k n:Int}{li:Nat→Int}{na nl:Nat}{s:ByteArray}
theorem abX (h:dn (.mk k s n nl li na ar)=true): ∀ i,i<nl→inB (li i)=true:=by
 unfold dn at h;simp only [Bool.and_eq_true] at h;intro i hi;have h9:=h.2.2.2.2.2.2.2.1;simp only [Bool.not_eq_true'] at h9;unfold bf at h9;have:=List.any_eq_false.1 h9 i (List.mem_range.2 hi);simpa using this
theorem Oy (h:dn (.mk k s n nl li na ar)=true):(na:Int)=argN k.toNat:=by
 unfold dn at h;simp only [Bool.and_eq_true,decide_eq_true_eq] at h;exact h.2.2.2.1
theorem XT (h:dn (.mk k s n nl li na ar)=true):inB n=true:=by
 unfold dn at h;simp only [Bool.and_eq_true] at h;exact h.2.2.2.2.2.2.1
theorem XU (N:Nat) (h: ∀ i,i<nl→inB (li i)=true): ∀ j,j<N→inB (CB nl li j)=true:=by
 intro j _;unfold CB;split
 ·next q=>exact h j q
 ·rfl
theorem MH (h:inB n=true): -4294967295≤n∧n≤4294967295:=by
 unfold inB at h;rw [Bool.and_eq_true] at h;exact ⟨of_decide_eq_true h.1,of_decide_eq_true h.2⟩
theorem agz {j:Nat} (hN:4≤N) (h2:N % 2=0) (hj:j<N):XP N n j<N:=by
 unfold XP;have b3:=Nat.mod_lt (j % (N / 2)+n.toNat) (show N / 2>0 by omega);have:j / (N / 2)<2:=Nat.div_lt_of_lt_mul (by omega);have:j / (N / 2)=0∨j / (N / 2)=1:=(show ∀ q:Nat,q<2→q=0∨q=1 by omega) _ this;rcases this with q | q<;>rw [q]<;>omega
theorem Oz {t:Int} (ht:3≤t) (ho:t % 2=1): ∀ (f:Nat) (o a k:Int),(-((t - 1) / 2)≤o∧o≤(t - 1) / 2)→ -((t - 1) / 2)≤Gy t f o a k∧Gy t f o a k≤(t - 1) / 2
 | 0,o,a,k,h=>h
 | f+1,o,a,k,h=>by
  unfold Gy;split
  ·refine Oz ht ho f _ _ _ ?_;split
   ·exact zn ht ho
   ·exact h
  ·exact h
theorem agA {t a:Int} (ht:3≤t) (ho:t % 2=1): -((t - 1) / 2)≤QX t a k∧QX t a k≤(t - 1) / 2:=Oz ht ho 64 1 a k ⟨by show _≤(1:Int);omega,by show (1:Int)≤_;omega⟩
theorem agB {t:Int}  {ls:Nat→Int} {A:Nat→Nat→Int} {j:Nat} (ht:3≤t) (ho:t % 2=1) (ht':t≤2147483647) (hN:4≤N) (hN2:N≤32) (hN3:N % 2=0) (hn:inB n=true) (hli: ∀ i,i<nl→inB (li i)=true) (hna:(na:Int)=argN k.toNat) (hk:2≤k∧k≤15)
  (hA: ∀ a,a<na→ ∀ j,j<N→ -((t - 1) / 2)≤A a j∧A a j≤(t - 1) / 2) (h8:k=8→0≤n) (h11:k=11→t≤nl) (h14:k=14→0≤n) (hls: ∀ j,j<N→inB (ls j)=true) (hj:j<N): -9223372036854775807≤slZ N t k n li ls A j∧slZ N t k n li ls A j≤9223372036854775807:=by
 have hn':=MH hn;have h0:0<na→ -1073741824≤A 0 j∧A 0 j≤1073741824:=fun q=>by have:=hA 0 q j hj;omega
 have hkk:k=2∨k=3∨k=4∨k=5∨k=6∨k=7∨k=8∨k=9∨k=10∨k=11∨k=12∨k=13∨k=14∨k=15:=by omega
 unfold slZ;have hl:=MH (hls j hj);rcases hkk with rfl | rfl | rfl | rfl | rfl | rfl | rfl | rfl | rfl | rfl | rfl | rfl | rfl | rfl<;>simp only [Int.reduceEq, ↓reduceIte]
 ·omega
 ·omega
 ·have:argN (4:Int).toNat=2:=rfl;have:=hA 0 (by omega) j hj;have:=hA 1 (by omega) j hj;omega
 ·have:argN (5:Int).toNat=2:=rfl;have:=hA 0 (by omega) j hj;have:=hA 1 (by omega) j hj;omega
 ·have:argN (6:Int).toNat=1:=rfl;have:=hA 0 (by omega) j hj;omega
 ·have:argN (7:Int).toNat=2:=rfl;have:=Gz ht' (hA 0 (by omega) j hj) (hA 1 (by omega) j hj);omega
 ·have:argN (8:Int).toNat=1:=rfl;have:=hA 0 (by omega) (XP N n j) (agz hN hN3 hj);omega
 ·have:argN (9:Int).toNat=1:=rfl;have:=hA 0 (by omega) ((j+N / 2) % N) (Nat.mod_lt _ (by omega));omega
 ·have:argN (10:Int).toNat=1:=rfl;have:=lsm (hls j hj) ht' (hA 0 (by omega) j hj);omega
 ·have:argN (11:Int).toNat=1:=rfl;have h1:=MC ht (hA 0 (by omega) j hj);have h2:=h11 rfl;have:=MH (hli (Dj t (A 0 j)).toNat (by omega));omega
 ·split<;>omega
 ·split<;>omega
 ·have:=agA (t:=t) (a:=A 0 j) (k:=n) ht ho;omega
 ·have:argN (15:Int).toNat=1:=rfl;have:=MF (f:=A 0) ht' (hA 0 (by omega)) N (Nat.le_refl _);omega
theorem XV (N:Nat) (t:Int) (es:Env) (k:Int) (s:ByteArray) (n:Int) (nl:Nat) (li:Nat→Int) (na:Nat) (L:List AV) (A:Nat→Nat→Int) (ls:Nat→Int) (j:Nat) (ht:3≤t) (ho:t % 2=1) (ht':t≤2147483647) (hN:4≤N) (hN2:N≤32) (hN3:N % 2=0) (hj:j<N)
  (hA: ∀ i,i<na→ ∀ j,j<N→ -((t - 1) / 2)≤A i j∧A i j≤(t - 1) / 2) (hk:2≤k∧k≤15) (hna:(na:Int)=argN k.toNat) (hn:inB n=true) (hls: ∀ j,j<N→inB (ls j)=true) (h8:k=8→0≤n) (h11:k=11→t≤nl) (h14:k=14→0≤n) (hL: ∀ a,a∈L→Clo a) (r:Hp):
  HTP Tryz.prog 123 [.v (.int .i64 j), .ptr 3 0, .ptr 7 0, .ptr 5 0, .ptr 6 0, .ptr 2 0, .ptr 9 0, .ptr 8 0] (hS N t es k s n nl li na L A ls++r) (fun q h'=>q= .v (.int .i64 (slZ N t k n li ls A j))∧h'=hS N t es k s n nl li na L A ls++r) (fun q h'=>False∧h'=hS N t es k s n nl li na L A ls++r):=by
 have hl:(hS N t es k s n nl li na L A ls).length=10:=rfl;have T:RD Tryz.prog 123 [.v (.int .i64 j), .ptr 3 0, .ptr 7 0, .ptr 5 0, .ptr 6 0, .ptr 2 0, .ptr 9 0, .ptr 8 0] (hS N t es k s n nl li na L A ls) (fun q=>q= .v (.int .i64 (slZ N t k n li ls A j))) (fun _=>False):=
  RD.of (((XQ N t es k s n nl li na L A ls j ht ho ht' hN hN2 hN3 hj hA hk hna hn hls h8 h11 h14).toP fun _ _=>False).mono (fun _ _ q=>⟨q.1,by rw [q.2,List.take_length]⟩) (fun _ _ q=>q.elim)) (fun r q=>q▸ .clo (.v _)) (fun r q=>q.elim) (by rw [hl];exact ajX N t es k s n nl li na L A ls hL)
 exact RD.ext T r (by rw [hl];exact ⟨.clo (.v _), .ptr (by omega), .ptr (by omega), .ptr (by omega), .ptr (by omega), .ptr (by omega), .ptr (by omega), .ptr (by omega),trivial⟩) (by rw [hl];exact ajY N t es k s n nl li na L A ls hL) (fun r q=>q▸ .v _) (fun r q=>q.elim)
theorem agC (N:Nat) (t:Int) (es:Env) (ht:3≤t) (hodd:t % 2=1) (ht':t≤2147483647) (hN:4≤N) (hN2:N≤32) (hN3:N % 2=0) (hvv:okV N t es) (e:Ex) (ho:okE e) (hf:dn e=true) (hg:goE N t es e):RD Tryz.prog 79 [.ptr 0 0, .g (exC e)] (hV N t es) (fun r=>r=vcA N (evX N t es e)) (fun _=>False):=by
 induction e with
 | nil=>exact ho.elim
 | mk k s n nl li na ar ih=>
 obtain ⟨hs,hnl,hna,hh⟩:=ho;have hev:=MG ht hodd hvv;have ⟨⟨hk1,hk2⟩,ai0,hfa⟩:=jh hf;refine RD.of ?_ (by rintro r rfl;exact .clo (zk _ _)) (fun r q=>q.elim) (JJ N t es);rw [dJ];have hSp:evX N t es (.mk k s n nl li na ar)=if k=1 then (dS es s).getD (fun _=>0) else fun j=>o7 t (slZ N t k n li (lsF k nl li) (fun i=>evX N t es (ar i)) j):=rfl
 generalize evX N t es (.mk k s n nl li na ar)=V at hSp ⊢;unfold hV evC;refine Wv.HTP.by 88 [0,1,3,16,2,31,30,32,5,6,59,8,7,10,9,75,74,76,12,13,11,4] [(2,7),(7,9),(20,6),(1000000,2),(3000007,16),(3000020,1040)] [.tmp 4] Tryz.func79 rfl rfl rfl ?base ?_
 case base=>rfl
 by_cases hk1:k=1
 ·rw [if_pos hk1] at hSp;have hq:=hg.1 hk1;have hlm:=GH N s es;cases hq2:dS es s with
  | none=>rw [hq2] at hq;cases hq
  | some f=>
   rw [hq2] at hSp hlm;simp only [Option.map_some,Option.getD_some,vcA] at hlm hSp;subst hSp;simp (disch:=first|exact Wv.D|fail) only [Wv.B,simprocAttr,ah hk1,JL,hlm,vcA]
 ·rw [if_neg hk1] at hSp;simp (disch:=first|exact Wv.D|fail) only [Wv.B,simprocAttr,aj hk1];have hLc:=eX (n:=na) (f:=fun i=>exC (ar i)) fun i _=>gZ (ar i)
  have hdr: ∀ i,i<na→ ∃ r,List.drop (i*5) (gI na fun i=>exC (ar i))=exC (ar i)++r:=fun i hi=>eH (f:=fun i=>exC (ar i)) (fun i=>lV (ar i)) hi
  generalize hL:(gI na fun i=>exC (ar i))=L at hLc hdr ⊢;refine dI (σ:=Nat) (fun i=>[(2, .ptr 2 0),(3, .ptr 3 0),(5, .ptr 5 0),(30, .v (.int .i64 na)),(31, .v (.int .i64 i))])
   (fun i=>[some (.blk [.v (.int .i64 N), .v (.int .i64 t), .mp 1]),some (.map (enE N es)),some (.blk [.ptr 0 0]),some (.blk [.v (.int .i64 k), .v (.string s), .v (.int .i64 n), .t nl 1 (tab nl fun i=> .v (.int .i64 (li i))), .t na 5 L]),some (.arr 43 1 (tab na fun a=>if a<i then .t N 1 (tab N fun j=> .v (.int .i64 (evX N t es (ar a) j))) else .v (.slice none 0 0)) 0),some (.blk [.own 4 na])])
   (fun i=>i≤na) (fun i=>na - i) 0 (Nat.zero_le _) (by simp (disch:=first|exact Wv.D|fail) only [Wv.B,simprocAttr,Nat.not_lt_zero,if_false]) Wv.V ?_
  intro i hi;by_cases hlt:i<na
  ·have e1:(i:Int)<na:=by omega
   obtain ⟨r2,hd⟩:=hdr i hlt;have hE:=RD.hV (ih i (hh i hlt) (hfa i hlt) (hg.2.2.2.2.2 i hlt));have hG:=eY (ar i);obtain ⟨k',s',n',nl',li',na',ar',hy⟩:=kU (hh i hlt);have hy2:exC (ar i)=_:=(congrArg exC hy).trans (dJ k' s' n' nl' li' na' ar');rw [hy2] at hd hE hG;simp only [List.cons_append,List.nil_append] at hd;have h8:(tab na fun a=>if a=i then AV.t N 1 (tab N fun j=> .v (.int .i64 (evX N t es (ar i) j))) else if a<i then AV.t N 1 (tab N fun j=> .v (.int .i64 (evX N t es (ar a) j))) else .v (.slice none 0 0))=tab na fun a=>if a<i+1 then AV.t N 1 (tab N fun j=> .v (.int .i64 (evX N t es (ar a) j))) else .v (.slice none 0 0):=aC fun a ha=>by
    by_cases q:a=i
    ·subst q;rw [if_pos rfl,if_pos (by omega)]
    ·by_cases q2:a<i
     ·rw [if_neg q,if_pos q2,if_pos (by omega)]
     ·rw [if_neg q,if_neg q2,if_neg (by omega)]
   unfold hV evC vcA at hE;simp (disch:=first|exact Wv.D|fail) only [Wv.B,simprocAttr,ah e1,hd];refine bU (fst:=[]) (cap:=[]) (hE _ (gY hG) (by rintro r rfl;simp only [Wv.BC]) (by rintro r h;exact h.elim)) ?_ (by rintro av h' ⟨h,_⟩;exact h.elim);simp (disch:=first|exact Wv.D|fail) only [Wv.B,simprocAttr,dF,h8];refine aJ (i+1) (by omega) (by omega) rfl Wv.V2
  ·obtain rfl:i=na:=by omega
   obtain ⟨A,hAe⟩: ∃ A:Nat→Nat→Int,A=fun a=>evX N t es (ar a):=⟨_,rfl⟩
   have h9:(tab i fun a=>if a<i then AV.t N 1 (tab N fun j=> .v (.int .i64 (evX N t es (ar a) j))) else .v (.slice none 0 0))=tab i fun a=>AV.t N 1 (tab N fun j=> .v (.int .i64 (A a j))):=aC fun a ha=>by rw [if_pos ha,hAe]
   have hA: ∀ a,a<i→ ∀ j,j<N→ -((t - 1) / 2)≤A a j∧A a j≤(t - 1) / 2:=fun a ha=>by rw [hAe];exact hev (ar a) (hg.2.2.2.2.2 a ha)
   rw [h9];rw [←hAe] at hSp;clear h9 hAe hdr ih hev;have hin:=XT hf;have hli:=abX hf;have hE0:=RD.hV (XO N t es hN2);have hE1:=fun q=>RD.hV (abU N t es nl li hN2 q)
   have hB:=fun n h1 h2=>RD.hV (JK N t es n ht ht' h1 h2)
   have hna':=Oy hf;obtain ⟨h3,h8,h11,h14,ajZ,_⟩:=hg;have hP:=fun (ls:Nat→Int) hls j hj=>XV N t es k s n nl li i L A ls j ht hodd ht' hN hN2 hN3 hj hA ⟨by omega,hk2⟩ hna' hin hls h8 h11 h14 hLc
   have hsb:=fun (ls:Nat→Int) hls (j:Nat) hj=>agB (n:=n) (k:=k) (li:=li) (ls:=ls) (N:=N) (A:=A) (j:=j) ht hodd ht' hN hN2 hN3 hin hli hna' ⟨by omega,hk2⟩ hA h8 h11 h14 hls hj
   have half:(N:Int).tdiv 2=((N / 2:Nat):Int):=rfl;unfold hV evC vcA at*;unfold Go.Proofs.YtljfgdlgmdcmfaaGreat.hS at hP;simp (disch:=first|exact Wv.D|fail) only [Wv.B,simprocAttr,Int.lt_irrefl,decide_false,half];refine aI (fst:=[]) (cap:=[]) (hE0 _ Wv.c (by rintro r rfl;simp only [Wv.BC]) (by rintro r h;exact h.elim)) ?_ (by rintro av h' ⟨h,_⟩;exact h.elim);rintro av h' ⟨rfl,rfl⟩;by_cases k3:k=3
   ·have hle:lsF k nl li=CB nl li:=if_pos (.inl k3);have hls:=XU N hli;rw [hle] at hSp;simp (disch:=first|exact Wv.D|fail) only [Wv.B,simprocAttr,ah k3,nU,xu,nV,xw];refine aI (fst:=[]) (cap:=[]) (hE1 (ajZ (.inl k3)) _ Wv.c (by rintro r rfl;simp only [Wv.BC]) (by rintro r h;exact h.elim)) ?_ (by rintro av h' ⟨h,_⟩;exact h.elim);rintro av h' ⟨rfl,rfl⟩;generalize CB nl li=ls at hls hSp ⊢;simp (disch:=first|exact Wv.D|fail) only [Wv.B,simprocAttr,nU,xu,nV,xw];have hPl:=hP ls hls;have hsl:=hsb ls hls;have h0:(tab N fun a=>if a<0 then AV.v (.int .i64 (V a)) else .v (.int .i64 0))=tab N fun _=> .v (.int .i64 0):=aC fun a _=>if_neg (Nat.not_lt_zero a)
    refine dI (σ:=Nat) (fun j=>[(2, .ptr 2 0),(11, .fn (.func 123) [] [.ptr 3 0, .ptr 7 0, .ptr 5 0, .ptr 6 0, .ptr 2 0, .ptr 9 0, .ptr 8 0]),(12, .own 10 N),(74, .v (.int .i64 N)),(75, .v (.int .i64 j))])
     (fun j=>[some (.blk [.v (.int .i64 N), .v (.int .i64 t), .mp 1]),some (.map (enE N es)),some (.blk [.ptr 0 0]),some (.blk [.v (.int .i64 k), .v (.string s), .v (.int .i64 n), .t nl 1 (tab nl fun i=> .v (.int .i64 (li i))), .t i 5 L]),
      some (.arr 43 1 (tab i fun i=> .t N 1 (tab N fun j=> .v (.int .i64 (A i j)))) 0),some (.blk [.own 4 i]),some (.blk [.v (.int .i64 (N / 2:Nat))]),some (.blk [.t N 1 (tab N fun j=> .v (.int .i64 (ls j)))]),some (.blk [.fn (.func 121) [] []]),some (.blk [.fn (.func 122) [] [.ptr 2 0]]),some (.arr 2 1 (tab N fun a=>if a<j then .v (.int .i64 (V a)) else .v (.int .i64 0)) 0)])
     (fun j=>j≤N) (fun j=>N - j) 0 (Nat.zero_le _) (by simp (disch:=first|exact Wv.D|fail) only [Wv.B,simprocAttr,h0]) Wv.V ?_
    intro j hj;by_cases hlt:j<N
    ·have e1:(j:Int)<N:=by omega
     have hPj:=hPl j hlt;have hsj:=hsl j hlt;have hBj:=hB (slZ N t k n li ls A j) hsj.1 hsj.2;have hVj:V j=o7 t (slZ N t k n li ls A j):=congrFun hSp j;have h8:(tab N fun a=>if a=j then AV.v (.int .i64 (V j)) else if a<j then AV.v (.int .i64 (V a)) else .v (.int .i64 0))=tab N fun a=>if a<j+1 then AV.v (.int .i64 (V a)) else .v (.int .i64 0):=aC fun a ha=>by
      by_cases q:a=j
      ·subst q;rw [if_pos rfl,if_pos (by omega)]
      ·by_cases q2:a<j
       ·rw [if_neg q,if_pos q2,if_pos (by omega)]
       ·rw [if_neg q,if_neg q2,if_neg (by omega)]
     rw [←hVj] at hBj;simp (disch:=first|exact Wv.D|fail) only [Wv.B,simprocAttr,ah e1];refine bU (fst:=[]) (cap:=[.ptr 3 0, .ptr 7 0, .ptr 5 0, .ptr 6 0, .ptr 2 0, .ptr 9 0, .ptr 8 0]) (hPj _) ?_ (by rintro av h' ⟨h,_⟩;exact h.elim);refine Wv.W ?_;refine aI (fst:=[]) (cap:=[]) (hBj _ Wv.c (by rintro r rfl;simp only [Wv.BC]) (by rintro r h;exact h.elim)) ?_ (by rintro av h' ⟨h,_⟩;exact h.elim);rintro av h' ⟨rfl,rfl⟩;simp (disch:=first|exact Wv.D|fail) only [Wv.B,simprocAttr,dF,h8];refine aJ (j+1) (by omega) (by omega) rfl Wv.V2
    ·obtain rfl:j=N:=by omega
     have h9:(tab j fun a=>if a<j then AV.v (.int .i64 (V a)) else .v (.int .i64 0))=tab j fun a=> .v (.int .i64 (V a)):=aC fun a ha=>if_pos ha
     simp (disch:=first|exact Wv.D|fail) only [Wv.B,simprocAttr,Int.lt_irrefl,decide_false,h9]
   ·by_cases k10:k=10
    ·have hle:lsF k nl li=CB nl li:=if_pos (.inr k10);have hls:=XU N hli;rw [hle] at hSp;simp (disch:=first|exact Wv.D|fail) only [Wv.B,simprocAttr,aj k3,ah k10,nU,xu,nV,xw];refine aI (fst:=[]) (cap:=[]) (hE1 (ajZ (.inr k10)) _ Wv.c (by rintro r rfl;simp only [Wv.BC]) (by rintro r h;exact h.elim)) ?_ (by rintro av h' ⟨h,_⟩;exact h.elim);rintro av h' ⟨rfl,rfl⟩;generalize CB nl li=ls at hls hSp ⊢;simp (disch:=first|exact Wv.D|fail) only [Wv.B,simprocAttr,nU,xu,nV,xw];have hPl:=hP ls hls;have hsl:=hsb ls hls;have h0:(tab N fun a=>if a<0 then AV.v (.int .i64 (V a)) else .v (.int .i64 0))=tab N fun _=> .v (.int .i64 0):=aC fun a _=>if_neg (Nat.not_lt_zero a)
     refine dI (σ:=Nat) (fun j=>[(2, .ptr 2 0),(11, .fn (.func 123) [] [.ptr 3 0, .ptr 7 0, .ptr 5 0, .ptr 6 0, .ptr 2 0, .ptr 9 0, .ptr 8 0]),(12, .own 10 N),(74, .v (.int .i64 N)),(75, .v (.int .i64 j))])
      (fun j=>[some (.blk [.v (.int .i64 N), .v (.int .i64 t), .mp 1]),some (.map (enE N es)),some (.blk [.ptr 0 0]),some (.blk [.v (.int .i64 k), .v (.string s), .v (.int .i64 n), .t nl 1 (tab nl fun i=> .v (.int .i64 (li i))), .t i 5 L]),
       some (.arr 43 1 (tab i fun i=> .t N 1 (tab N fun j=> .v (.int .i64 (A i j)))) 0),some (.blk [.own 4 i]),some (.blk [.v (.int .i64 (N / 2:Nat))]),some (.blk [.t N 1 (tab N fun j=> .v (.int .i64 (ls j)))]),some (.blk [.fn (.func 121) [] []]),some (.blk [.fn (.func 122) [] [.ptr 2 0]]),some (.arr 2 1 (tab N fun a=>if a<j then .v (.int .i64 (V a)) else .v (.int .i64 0)) 0)])
      (fun j=>j≤N) (fun j=>N - j) 0 (Nat.zero_le _) (by simp (disch:=first|exact Wv.D|fail) only [Wv.B,simprocAttr,h0]) Wv.V ?_
     intro j hj;by_cases hlt:j<N
     ·have e1:(j:Int)<N:=by omega
      have hPj:=hPl j hlt;have hsj:=hsl j hlt;have hBj:=hB (slZ N t k n li ls A j) hsj.1 hsj.2;have hVj:V j=o7 t (slZ N t k n li ls A j):=congrFun hSp j;have h8:(tab N fun a=>if a=j then AV.v (.int .i64 (V j)) else if a<j then AV.v (.int .i64 (V a)) else .v (.int .i64 0))=tab N fun a=>if a<j+1 then AV.v (.int .i64 (V a)) else .v (.int .i64 0):=aC fun a ha=>by
       by_cases q:a=j
       ·subst q;rw [if_pos rfl,if_pos (by omega)]
       ·by_cases q2:a<j
        ·rw [if_neg q,if_pos q2,if_pos (by omega)]
        ·rw [if_neg q,if_neg q2,if_neg (by omega)]
      rw [←hVj] at hBj;simp (disch:=first|exact Wv.D|fail) only [Wv.B,simprocAttr,ah e1];refine bU (fst:=[]) (cap:=[.ptr 3 0, .ptr 7 0, .ptr 5 0, .ptr 6 0, .ptr 2 0, .ptr 9 0, .ptr 8 0]) (hPj _) ?_ (by rintro av h' ⟨h,_⟩;exact h.elim);refine Wv.W ?_;refine aI (fst:=[]) (cap:=[]) (hBj _ Wv.c (by rintro r rfl;simp only [Wv.BC]) (by rintro r h;exact h.elim)) ?_ (by rintro av h' ⟨h,_⟩;exact h.elim);rintro av h' ⟨rfl,rfl⟩;simp (disch:=first|exact Wv.D|fail) only [Wv.B,simprocAttr,dF,h8];refine aJ (j+1) (by omega) (by omega) rfl Wv.V2
     ·obtain rfl:j=N:=by omega
      have h9:(tab j fun a=>if a<j then AV.v (.int .i64 (V a)) else .v (.int .i64 0))=tab j fun a=> .v (.int .i64 (V a)):=aC fun a ha=>if_pos ha
      simp (disch:=first|exact Wv.D|fail) only [Wv.B,simprocAttr,Int.lt_irrefl,decide_false,h9]
    ·have hle:lsF k nl li=Ey:=if_neg (fun h=>h.elim k3 k10);have hls: ∀ j,j<N→inB (Ey j)=true:=fun _ _=>rfl
     rw [hle] at hSp;generalize Ey=ls at hls hSp ⊢;simp (disch:=first|exact Wv.D|fail) only [Wv.B,simprocAttr,aj k3,aj k10,nU,xu,nV,xw];have hPl:=hP ls hls;have hsl:=hsb ls hls;have h0:(tab N fun a=>if a<0 then AV.v (.int .i64 (V a)) else .v (.int .i64 0))=tab N fun _=> .v (.int .i64 0):=aC fun a _=>if_neg (Nat.not_lt_zero a)
     refine dI (σ:=Nat) (fun j=>[(2, .ptr 2 0),(11, .fn (.func 123) [] [.ptr 3 0, .ptr 7 0, .ptr 5 0, .ptr 6 0, .ptr 2 0, .ptr 9 0, .ptr 8 0]),(12, .own 10 N),(74, .v (.int .i64 N)),(75, .v (.int .i64 j))])
      (fun j=>[some (.blk [.v (.int .i64 N), .v (.int .i64 t), .mp 1]),some (.map (enE N es)),some (.blk [.ptr 0 0]),some (.blk [.v (.int .i64 k), .v (.string s), .v (.int .i64 n), .t nl 1 (tab nl fun i=> .v (.int .i64 (li i))), .t i 5 L]),
       some (.arr 43 1 (tab i fun i=> .t N 1 (tab N fun j=> .v (.int .i64 (A i j)))) 0),some (.blk [.own 4 i]),some (.blk [.v (.int .i64 (N / 2:Nat))]),some (.blk [.t N 1 (tab N fun j=> .v (.int .i64 (ls j)))]),some (.blk [.fn (.func 121) [] []]),some (.blk [.fn (.func 122) [] [.ptr 2 0]]),some (.arr 2 1 (tab N fun a=>if a<j then .v (.int .i64 (V a)) else .v (.int .i64 0)) 0)])
      (fun j=>j≤N) (fun j=>N - j) 0 (Nat.zero_le _) (by simp (disch:=first|exact Wv.D|fail) only [Wv.B,simprocAttr,h0]) Wv.V ?_
     intro j hj;by_cases hlt:j<N
     ·have e1:(j:Int)<N:=by omega
      have hPj:=hPl j hlt;have hsj:=hsl j hlt;have hBj:=hB (slZ N t k n li ls A j) hsj.1 hsj.2;have hVj:V j=o7 t (slZ N t k n li ls A j):=congrFun hSp j;have h8:(tab N fun a=>if a=j then AV.v (.int .i64 (V j)) else if a<j then AV.v (.int .i64 (V a)) else .v (.int .i64 0))=tab N fun a=>if a<j+1 then AV.v (.int .i64 (V a)) else .v (.int .i64 0):=aC fun a ha=>by
       by_cases q:a=j
       ·subst q;rw [if_pos rfl,if_pos (by omega)]
       ·by_cases q2:a<j
        ·rw [if_neg q,if_pos q2,if_pos (by omega)]
        ·rw [if_neg q,if_neg q2,if_neg (by omega)]
      rw [←hVj] at hBj;simp (disch:=first|exact Wv.D|fail) only [Wv.B,simprocAttr,ah e1];refine bU (fst:=[]) (cap:=[.ptr 3 0, .ptr 7 0, .ptr 5 0, .ptr 6 0, .ptr 2 0, .ptr 9 0, .ptr 8 0]) (hPj _) ?_ (by rintro av h' ⟨h,_⟩;exact h.elim);refine Wv.W ?_;refine aI (fst:=[]) (cap:=[]) (hBj _ Wv.c (by rintro r rfl;simp only [Wv.BC]) (by rintro r h;exact h.elim)) ?_ (by rintro av h' ⟨h,_⟩;exact h.elim);rintro av h' ⟨rfl,rfl⟩;simp (disch:=first|exact Wv.D|fail) only [Wv.B,simprocAttr,dF,h8];refine aJ (j+1) (by omega) (by omega) rfl Wv.V2
     ·obtain rfl:j=N:=by omega
      have h9:(tab j fun a=>if a<j then AV.v (.int .i64 (V a)) else .v (.int .i64 0))=tab j fun a=> .v (.int .i64 (V a)):=aC fun a ha=>if_pos ha
      simp (disch:=first|exact Wv.D|fail) only [Wv.B,simprocAttr,Int.lt_irrefl,decide_false,h9]
end
section
open Go.RowKit Wv
def mxN (f:Nat→Int):Nat→Int
 | 0=>f 0
 | i+1=>if f (i+1)>mxN f i then f (i+1) else mxN f i
def mnN (f:Nat→Int):Nat→Int
 | 0=>f 0
 | i+1=>if f (i+1)<mnN f i then f (i+1) else mnN f i
theorem MI     {f : Nat → Int} {h : Int} : ∀ n, mxN f n ≤ h ↔ ∀ i, i ≤ n → f i ≤ h
  | 0 => ⟨fun q i hi => by obtain rfl : i = 0 := by omega
                           exact q, fun q => q 0 (Nat.le_refl _)⟩
  | n + 1 => by
    have ih := MI     (f := f) (h := h) n;unfold mxN;constructor
    · intro q i hi
      by_cases e : i = n + 1
      · subst e; split at q <;> omega
      · exact ih.1 (by split at q <;> omega) i (by omega)
    · intro q
      have h1 := ih.2 fun i hi => q i (by omega)
      have h2 := q (n + 1) (Nat.le_refl _);split <;> omega
theorem MJ     {f : Nat → Int} {h : Int} : ∀ n, h ≤ mnN f n ↔ ∀ i, i ≤ n → h ≤ f i
  | 0 => ⟨fun q i hi => by obtain rfl : i = 0 := by omega
                           exact q, fun q => q 0 (Nat.le_refl _)⟩
  | n + 1 => by
    have ih := MJ     (f := f) (h := h) n;unfold mnN;constructor
    · intro q i hi
      by_cases e : i = n + 1
      · subst e; split at q <;> omega
      · exact ih.1 (by split at q <;> omega) i (by omega)
    · intro q
      have h1 := ih.2 fun i hi => q i (by omega)
      have h2 := q (n + 1) (Nat.le_refl _);split <;> omega
theorem abY (n:Nat) (f:Nat→Int) (h1:1≤n) (h2:n≤140737488351232):TC Tryz.prog 77 [vcA n f] (.v (.int .i64 (mxN f (n - 1)))):=by
 unfold vcA;refine Wv.TC.by 25 [0,7,4,15,3,2] [] [.tmp 2] Tryz.func77 rfl rfl rfl ?clo ?_
 case clo=>simp only [Wv.BC]
 refine Wv.W ?_;refine dI (σ:=Nat) (fun i=>[(0, .t n 1 (tab n fun j=> .v (.int .i64 (f j)))),(3, .v (.int .i64 (mxN f i))),(4, .v (.int .i64 (i+1:Nat)))]) (fun _=>[]) (fun i=>i≤n - 1) (fun i=>n - i) 0 (Nat.zero_le _) Wv.V (by simp (disch:=first|exact Wv.D|fail) only [Wv.B,simprocAttr,mxN]) ?_;intro i hi;by_cases hlt:i+1<n
 ·have e1:((i+1:Nat):Int)<n:=by omega
  have hm:mxN f (i+1)=if f (i+1)>mxN f i then f (i+1) else mxN f i:=rfl
  simp (disch:=first|exact Wv.D|fail) only [Wv.B,simprocAttr,ah e1];refine aJ (i+1) (by omega) (by omega) rfl (by simp (disch:=first|exact Wv.D|fail) only [Wv.B,simprocAttr,hm,Int.natCast_add,Int.natCast_one])
 ·obtain rfl:i=n - 1:=by omega
  have e1: ¬ ((n - 1+1:Nat):Int)<n:=by omega
  simp (disch:=first|exact Wv.D|fail) only [Wv.B,simprocAttr,aj e1]
theorem abZ (n:Nat) (f:Nat→Int) (h1:1≤n) (h2:n≤140737488351232):TC Tryz.prog 78 [vcA n f] (.v (.int .i64 (mnN f (n - 1)))):=by
 unfold vcA;refine Wv.TC.by 25 [0,7,4,15,3,2] [] [.tmp 2] Tryz.func78 rfl rfl rfl ?clo ?_
 case clo=>simp only [Wv.BC]
 refine Wv.W ?_;refine dI (σ:=Nat) (fun i=>[(0, .t n 1 (tab n fun j=> .v (.int .i64 (f j)))),(3, .v (.int .i64 (mnN f i))),(4, .v (.int .i64 (i+1:Nat)))]) (fun _=>[]) (fun i=>i≤n - 1) (fun i=>n - i) 0 (Nat.zero_le _) Wv.V (by simp (disch:=first|exact Wv.D|fail) only [Wv.B,simprocAttr,mnN]) ?_;intro i hi;by_cases hlt:i+1<n
 ·have e1:((i+1:Nat):Int)<n:=by omega
  have hm:mnN f (i+1)=if f (i+1)<mnN f i then f (i+1) else mnN f i:=rfl
  simp (disch:=first|exact Wv.D|fail) only [Wv.B,simprocAttr,ah e1];refine aJ (i+1) (by omega) (by omega) rfl (by simp (disch:=first|exact Wv.D|fail) only [Wv.B,simprocAttr,hm,Int.natCast_add,Int.natCast_one])
 ·obtain rfl:i=n - 1:=by omega
  have e1: ¬ ((n - 1+1:Nat):Int)<n:=by omega
  simp (disch:=first|exact Wv.D|fail) only [Wv.B,simprocAttr,aj e1]
theorem QZ (n:Nat) (f:Nat→Int) (h1:1≤n) (h2:n≤100000):TC Tryz.prog 80 [vcA n f] (vcA n f):=by
 unfold vcA;refine Wv.TC.by 8 [0,4,2] [] [.tmp 2] Tryz.func80 rfl rfl rfl ?clo ?_
 case clo=>simp only [Wv.BC]
 have hnil: ∀ (h:Hp) (c:List AV),zG h (.t n 1 c)=some false:=fun _ _=>if_pos h1
 simp (disch:=first|exact Wv.D|fail) only [Wv.B,simprocAttr,hnil]
def bH:Env→ByteArray→(Nat→Int)→Env
 | [],s,f=>[(s,f)]
 | p::r,s,f=>if s=p.1 then (s,f)::r else p::bH r s f
theorem MK (N:Nat) (s:ByteArray) (f:Nat→Int): ∀ es:Env,iP (.string s) (vcA N f) (enE N es)=enE N (bH es s f)
 | []=>rfl
 | p::q=>by
  have ih:=MK N s f q;show (if keyE (.string s) (.string p.1)=true then _ else (Value.string p.1,vcA N p.2)::iP (.string s) (vcA N f) (enE N q))=enE N (if s=p.1 then _ else _);rw [ih];have:keyE (.string s) (.string p.1)=decide (s=p.1):=sQ;rw [this];by_cases e:s=p.1
  ·rw [if_pos (ah e),if_pos e,e];rfl
  ·rw [if_neg (by simp [e]),if_neg e];rfl
theorem vT (s s':ByteArray) (f:Nat→Int): ∀ es:Env,dS (bH es s f) s'=if s'=s then some f else dS es s'
 | []=>rfl
 | p::q=>by
  have ih:=vT s s' f q;unfold bH;by_cases e:s=p.1
  ·rw [if_pos e];show (if s'=s then some f else dS q s')=if s'=s then some f else (if s'=p.1 then some p.2 else dS q s')
   by_cases e2:s'=s
   ·rw [if_pos e2,if_pos e2]
   ·rw [if_neg e2,if_neg e2,if_neg (by rw [←e];exact e2)]
  ·rw [if_neg e];show (if s'=p.1 then some p.2 else dS (bH q s f) s')=if s'=s then some f else (if s'=p.1 then some p.2 else dS q s')
   rw [ih];by_cases e2:s'=p.1
   ·rw [if_pos e2,if_neg (by rw [e2];exact fun h=>e h.symm),if_pos e2]
   ·rw [if_neg e2,if_neg e2]
theorem zo {N:Nat} {t:Int} {es:Env} {s:ByteArray} {f:Nat→Int} (h:okV N t es) (hf: ∀ j,j<N→ -((t - 1) / 2)≤f j∧f j≤(t - 1) / 2):okV N t (bH es s f):=by
 intro s' f' h';rw [vT] at h';split at h'
 ·injection h' with h';subst h';exact hf
 ·exact h s' f' h'
theorem rdV {N:Nat} {t:Int} {es:Env} {f:FuncId} {args:List AV} {R p:AV→Prop} (T:RD Tryz.prog f (.ptr 0 0::args) (hV N t es) R p) (o0 o1:Option Ob) (r:Hp) (ha: ∀ (a:AV),a∈args→Clo a) (hR: ∀ r,R r→Clo r) (hp: ∀ r,p r→Clo r):
  RD Tryz.prog f (.ptr 3 0::args) (o0::o1::some (.map (enE N es))::some (.blk [.v (.int .i64 N), .v (.int .i64 t), .mp 2])::r) R p:=by
 refine RD.frame (σ:=fun i=>if i=0 then 3 else 2) T ⟨fun i j hi hj e=>?_,fun i o ho=>?_⟩ ⟨.ptr (by show 0<2;omega),RnL.clo ha⟩ hR hp
 ·have hi':i<2:=hi;have hj':j<2:=hj;have e':(if i=0 then 3 else 2)=(if j=0 then 3 else 2):=e;split at e'<;>split at e'<;>omega
 ·unfold hV at ho ⊢;match i with
  | 0=>
   simp at ho;subst ho;exact ⟨_,_,rfl,rfl, .clo (.v _), .clo (.v _), .mp (by show 1<2;omega),trivial⟩
  | 1=>
   simp at ho;subst ho;exact ⟨_,_,rfl,rfl,rfl,RnL.clo (qX N es)⟩
  | i+2=>simp at ho
end
section
open Go.RowKit Wv
def vsA (m:Nat) (ln:Nat→Nat) (vs:Nat→Nat→Int):AV:= .t m 1 (tab m fun i=>vcA (ln i) (vs i))
def yG (N:Nat) (t:Int) (n:Nat) (f:Nat→Int):Bool:=!decide ((n:Int)=N) || (decide (mxN f (n - 1)>(t - 1) / 2) || decide (mnN f (n - 1)< -((t - 1) / 2)))
def vU (fi:Nat→ByteArray) (vs:Nat→Nat→Int):Nat→Env
 | 0=>[]
 | i+1=>bH (vU fi vs i) (fi i) (vs i)
def JM (N:Nat) (t:Int) (es:Env) (ln:Nat→ByteArray) (le:Nat→Ex):Nat→Env
 | 0=>es
 | i+1=>bH (JM N t es ln le i) (ln i) (evX N t (JM N t es ln le i) (le i))
def o8 (N:Nat) (t:Int) (c:Ci) (vs:Nat→Nat→Int) (i:Nat):Env:=JM N t (vU c.fi vs c.ni) c.ln c.le i
def qy (N:Nat) (t:Int) (c:Ci) (vs:Nat→Nat→Int) (i:Nat):Nat→Int:=(dS (o8 N t c vs c.nl) (c.fo i)).getD fun _=>0
def goC (N:Nat) (t:Int) (c:Ci) (vs:Nat→Nat→Int):Prop:=
 (∀ i,i<c.nl→okE (c.le i)∧dn (c.le i)=true∧goE N t (o8 N t c vs i) (c.le i))∧c.no≤8∧ ∀ i,i<c.no→(dS (o8 N t c vs c.nl) (c.fo i)).isSome=true
def oU (N:Nat) (t e:Int) (c:Ci) (m:Nat) (ln:Nat→Nat) (vs:Nat→Nat→Int):AV:=
 if e≠0 then .tup [.v (.slice none 0 0), .v (.int .i64 e)] else if m≠c.ni then .tup [.v (.slice none 0 0), .v (.int .i64 2)] else if bf m (fun i=>yG N t (ln i) (vs i))=true then .tup [.v (.slice none 0 0), .v (.int .i64 2)]
 else .tup [.t c.no 1 (tab c.no fun i=>vcA N (qy N t c vs i)), .v (.int .i64 0)]
theorem XW {N:Nat} {t:Int} {n:Nat} {f:Nat→Int} (h:yG N t n f=false) (h4:4≤N):n=N∧ ∀ j,j<N→ -((t - 1) / 2)≤f j∧f j≤(t - 1) / 2:=by
 unfold yG at h;simp only [Bool.or_eq_false_iff,decide_eq_false_iff_not,Bool.not_eq_false',decide_eq_true_eq] at h;obtain ⟨h1,h2,h3⟩:=h;have h1':n=N:=by omega
 subst h1';refine ⟨rfl,fun j hj=>⟨?_,?_⟩⟩
 ·exact (MJ (f:=f) (h:= -((t - 1) / 2)) (n - 1)).1 (by omega) j (by omega)
 ·exact (MI (f:=f) (h:=(t - 1) / 2) (n - 1)).1 (by omega) j (by omega)
theorem XY (x:Par) (c:Ci) (N:Nat) (t e at_:Int) (ss:List (Bool × Nat)) (hx:x.n=N) (ht:3≤t) (hodd:t % 2=1) (ht':t≤2147483647) (hN:4≤N) (hN2:N≤32) (hN3:N % 2=0)
  (TT:TC Tryz.prog 19 [.g (dA x), .g (ciC c)] (typeA (ss,at_,e))) (TM:TC Tryz.prog 60 [.g (dA x), .v (.int .i64 x.r)] (.tup [.v (.int .i64 t), .v (.int .i64 0)])) (hok:okC c)
  (m:Nat) (ln:Nat→Nat) (vs:Nat→Nat→Int) (hm:m≤140737488351232) (hln: ∀ i,i<m→ln i≤140737488351232) (hgo:e=0→goC N t c vs):
  TC Tryz.prog 33 [.g (dA x), .g (ciC c),vsA m ln vs] (oU N t e c m ln vs):=by
 have hP:=dY x;have hcc:=oG c;have hll:=Ap c;have hlc:=kE c;have hnl:=hok.nl;have hni:=hok.ni;have hA:oU N t e c m ln vs=if e≠0 then .tup [.v (.slice none 0 0), .v (.int .i64 e)] else if m≠c.ni then .tup [.v (.slice none 0 0), .v (.int .i64 2)] else if bf m (fun i=>yG N t (ln i) (vs i))=true then .tup [.v (.slice none 0 0), .v (.int .i64 2)]
  else .tup [.t c.no 1 (tab c.no fun i=>vcA N (qy N t c vs i)), .v (.int .i64 0)]:=rfl
 have SB: ∀ a,a=oU N t e c m ln vs→Clo a:=by
  rintro a rfl;unfold oU vcA;split
  ·simp only [Wv.BC]
  ·split
   ·simp only [Wv.BC]
   ·split<;>simp only [Wv.BC]
 unfold vsA vcA;unfold dA ciC cZ at*;rw [hx] at*;refine Wv.TC.by 127 [0,1,3,4,10,29,2,43,11,52,51,53,50,15,78,13,14,93,92,94,91,17,111,110,112,109,18,20,6,7] [(13,10),(18,10)] [.tmp 6, .tmp 7] Tryz.func33 rfl rfl rfl ?clo ?_
 case clo=>exact SB _ rfl
 unfold typeA at TT;refine Wv.W ?_;refine aA TT rfl (vF (.g hP) (.g hcc)) (by simp only [Wv.BC];exact kX _) ?_;by_cases he:e=0
 ·rw [if_neg (fun q=>q he)] at hA;simp (disch:=first|exact Wv.D|fail) only [Wv.B,simprocAttr,ah he];refine aA TM rfl (vF (.g hP) Wv.c) Wv.c ?_;by_cases hmi:m=c.ni
  ·rw [if_neg (fun q=>q hmi)] at hA;have e1:(m:Int)=c.ni:=by omega
   have hdr: ∀ i,i<c.nl→ ∃ r,List.drop (i*6) c.lets=jK (c.ln i) (c.le i)++r:=fun i hi=>eH (f:=fun i=>jK (c.ln i) (c.le i)) (fun i=>kD _ _) hi
   generalize c.lets=L at hll hlc hdr ⊢;obtain ⟨hgl,hgn,hgs⟩:=hgo he;have hq:(t - 1).tdiv 2=(t - 1) / 2:=Int.tdiv_eq_ediv_of_nonneg (by omega);have hq2:(0 - (t - 1)).tdiv 2= -((t - 1) / 2):=by rw [Int.zero_sub,Int.neg_tdiv,hq]
   have hput:=MK N;simp (disch:=first|exact Wv.D|fail) only [Wv.B,simprocAttr,ah e1];refine dI (σ:=Nat) (fun i=>[(3, .ptr 0 0),(4, .ptr 1 0),(11, .v (.int .i64 t)),(13, .ptr 3 0),(50, .t m 1 (tab m fun i=> .t (ln i) 1 (tab (ln i) fun j=> .v (.int .i64 (vs i j))))),(51, .v (.int .i64 m)),(52, .v (.int .i64 i))])
    (fun i=>[some (.blk [.v (.int .i64 N), .v (.int .u32 x.p), .v (.int .i64 x.r), .t x.ch.length 1 (x.ch.map fun (c:Nat)=> .v (.int .u32 c)), .v (.int .u32 x.sp), .v (.int .i64 x.wt), .v (.int .u32 x.er)]),some (.blk [.v (.string c.name), .t c.ni 1 (tab c.ni fun i=> .v (.string (c.fi i))), .t c.nl 6 L, .t c.no 1 (tab c.no fun i=> .v (.string (c.fo i)))]),some (.map (enE N (vU c.fi vs i))),some (.blk [.v (.int .i64 N), .v (.int .i64 t), .mp 2])])
    (fun i=>i≤m∧ ∀ a,a<i→yG N t (ln a) (vs a)=false) (fun i=>m - i) 0 ⟨Nat.zero_le _,fun a h=>absurd h (Nat.not_lt_zero a)⟩ (by simp (disch:=first|exact Wv.D|fail) only [Wv.B,simprocAttr,vU,enE]) Wv.V ?_
   rintro i ⟨hi,hgood⟩;by_cases hlt:i<m
   ·have e2:(i:Int)<m:=by omega
    have hli:=hln i hlt;have hbv:yG N t (ln i) (vs i)=(!decide ((ln i:Int)=N) || (decide (mxN (vs i) (ln i - 1)>(t - 1) / 2) || decide (mnN (vs i) (ln i - 1)< -((t - 1) / 2)))):=rfl;have hbad:yG N t (ln i) (vs i)=true→oU N t e c m ln vs= .tup [.v (.slice none 0 0), .v (.int .i64 2)]:=fun h=>by
     rw [hA];exact if_pos (by unfold bf;exact List.any_eq_true.2 ⟨i,List.mem_range.2 hlt,h⟩)
    by_cases hL:(ln i:Int)=N
    ·have Tx:=abY (ln i) (vs i) (by omega) hli;have Tn:=abZ (ln i) (vs i) (by omega) hli;have hLn:ln i=N:=by omega
     unfold vcA at Tx Tn;rw [ah hL,Bool.not_true,Bool.false_or] at hbv;simp (disch:=first|exact Wv.D|fail) only [Wv.B,simprocAttr,ah e2,ah hL,hq];refine aA Tx rfl Wv.c Wv.c ?_;by_cases h1:mxN (vs i) (ln i - 1)>(t - 1) / 2
     ·rw [ah h1,Bool.true_or] at hbv;have hbd:=hbad hbv;simp (disch:=first|exact Wv.D|fail) only [Wv.B,simprocAttr,hq,ah h1,hbd]
     ·rw [aj h1,Bool.false_or] at hbv;simp (disch:=first|exact Wv.D|fail) only [Wv.B,simprocAttr,hq,aj h1];refine aA Tn rfl Wv.c Wv.c ?_;by_cases h2:mnN (vs i) (ln i - 1)< -((t - 1) / 2)
      ·rw [ah h2] at hbv;have hbd:=hbad hbv;simp (disch:=first|exact Wv.D|fail) only [Wv.B,simprocAttr,hq2,ah h2,hbd]
      ·rw [aj h2] at hbv;have Ez:=hput (c.fi i) (vs i) (vU c.fi vs i);unfold vcA at Ez;rw [hLn] at h2 ⊢;simp (disch:=first|exact Wv.D|fail) only [Wv.B,simprocAttr,hq2,aj h2,Ez,JL];refine aJ (i+1) ⟨by omega,fun a ha=>by by_cases q:a=i;exact q▸hbv;exact hgood a (by omega)⟩ (by omega) (by simp (disch:=first|exact Wv.D|fail) only [Wv.B,simprocAttr,hLn,vU]) Wv.V2
    ·rw [aj hL,Bool.not_false,Bool.true_or] at hbv;have hbd:=hbad hbv;simp (disch:=first|exact Wv.D|fail) only [Wv.B,simprocAttr,ah e2,aj hL,hbd]
   ·obtain rfl:i=m:=by omega
    have hnb: ¬ bf i (fun i=>yG N t (ln i) (vs i))=true:=by
     unfold bf;intro h;obtain ⟨a,ha,hb⟩:=List.any_eq_true.1 h;rw [hgood a (List.mem_range.1 ha)] at hb;cases hb
    rw [if_neg hnb] at hA;have hev: ∀ i,i≤c.nl→okV N t (o8 N t c vs i):=by
     intro k;induction k with
     | zero=>
      intro _;show okV N t (vU c.fi vs c.ni);rw [←hmi];have: ∀ a,a≤i→okV N t (vU c.fi vs a):=by
       intro a;induction a with
       | zero=>intro _ s f h;cases h
       | succ a ih2=>intro ha;exact zo (ih2 (by omega)) (XW (hgood a (by omega)) hN).2
      exact this i (Nat.le_refl _)
     | succ k ih2=>
      intro hk;exact zo (ih2 (by omega)) (MG ht hodd (ih2 (by omega)) (c.le k) (hgl k (by omega)).2.2)
    simp (disch:=first|exact Wv.D|fail) only [Wv.B,simprocAttr,Int.lt_irrefl,decide_false];clear hgood hi hlt hnb hln;refine dI (σ:=Nat) (fun i=>[(3, .ptr 0 0),(4, .ptr 1 0),(13, .ptr 3 0),(91, .t c.nl 6 L),(92, .v (.int .i64 c.nl)),(93, .v (.int .i64 i))])
     (fun i=>[some (.blk [.v (.int .i64 N), .v (.int .u32 x.p), .v (.int .i64 x.r), .t x.ch.length 1 (x.ch.map fun (c:Nat)=> .v (.int .u32 c)), .v (.int .u32 x.sp), .v (.int .i64 x.wt), .v (.int .u32 x.er)]),some (.blk [.v (.string c.name), .t c.ni 1 (tab c.ni fun i=> .v (.string (c.fi i))), .t c.nl 6 L, .t c.no 1 (tab c.no fun i=> .v (.string (c.fo i)))]),some (.map (enE N (o8 N t c vs i))),some (.blk [.v (.int .i64 N), .v (.int .i64 t), .mp 2])])
     (fun i=>i≤c.nl) (fun i=>c.nl - i) 0 (Nat.zero_le _) (by simp (disch:=first|exact Wv.D|fail) only [Wv.B,simprocAttr,o8,JM,hmi]) Wv.V ?_
    intro i hi;by_cases hlt:i<c.nl
    ·have e2:(i:Int)<c.nl:=by omega
     obtain ⟨r2,hd⟩:=hdr i hlt;obtain ⟨ho1,hf1,hg1⟩:=hgl i hlt;have TE:=agC N t (o8 N t c vs i) ht hodd ht' hN hN2 hN3 (hev i hi) (c.le i) ho1 hf1 hg1;have hG:=eY (c.le i);have hGl:=uQ (c.ln i) (c.le i);obtain ⟨k',s',n',nl',li',na',ar',hy⟩:=kU ho1;have hy2:exC (c.le i)=_:=(congrArg exC hy).trans (dJ k' s' n' nl' li' na' ar');unfold jK at hd hGl;rw [hy2] at hd TE hG hGl;simp only [List.cons_append,List.nil_append] at hd;have Ez:=MK N (c.ln i) (evX N t (o8 N t c vs i) (c.le i)) (o8 N t c vs i);have hnx:o8 N t c vs (i+1)=bH (o8 N t c vs i) (c.ln i) (evX N t (o8 N t c vs i) (c.le i)):=rfl;rw [←hnx] at Ez;have hE:=rdV TE;unfold vcA at Ez hE;simp (disch:=first|exact Wv.D|fail) only [Wv.B,simprocAttr,ah e2,hd];refine bU (fst:=[]) (cap:=[]) (hE _ _ _ (gY hG) (by rintro r rfl;simp only [Wv.BC]) (by rintro r h;exact h.elim)) ?_ (by rintro av h' ⟨h,_⟩;exact h.elim);simp (disch:=first|exact Wv.D|fail) only [Wv.B,simprocAttr,Ez,JL];refine Wv.lI (i+1) 4 (by first | decide | exact Nat.le_of_ble_eq_true rfl) (by omega) (by omega) (by simp (disch:=first|exact Wv.D|fail) only [Wv.B,simprocAttr,dN,hnx]) (by simp (disch:=first|exact Wv.D|fail) only [Wv.B,simprocAttr,Int.natCast_add,Int.natCast_one,hnx]) (by simp only [Wv.BL, ↓reduceIte,Nat.reduceLeDiff,eq_true hlc,eq_true hlc,kW,GI]<;>omega) (by simp only [Wv.BL, ↓reduceIte,Nat.reduceLeDiff,eq_true hlc,eq_true hlc,kW,GI]<;>omega)
    ·obtain rfl:i=c.nl:=by omega
     simp (disch:=first|exact Wv.D|fail) only [Wv.B,simprocAttr,Int.lt_irrefl,decide_false];refine Ag (σ:=Nat) (fun i=>[(4, .ptr 1 0),(13, .ptr 3 0),(18, .own 4 i),(109, .t c.no 1 (tab c.no fun i=> .v (.string (c.fo i)))),(110, .v (.int .i64 c.no)),(111, .v (.int .i64 i))])
      (fun i=>[some (.blk [.v (.int .i64 N), .v (.int .u32 x.p), .v (.int .i64 x.r), .t x.ch.length 1 (x.ch.map fun (c:Nat)=> .v (.int .u32 c)), .v (.int .u32 x.sp), .v (.int .i64 x.wt), .v (.int .u32 x.er)]),some (.blk [.v (.string c.name), .t c.ni 1 (tab c.ni fun i=> .v (.string (c.fi i))), .t c.nl 6 L, .t c.no 1 (tab c.no fun i=> .v (.string (c.fo i)))]),some (.map (enE N (o8 N t c vs c.nl))),some (.blk [.v (.int .i64 N), .v (.int .i64 t), .mp 2]),some (.arr 43 1 (tab i fun i=> .t N 1 (tab N fun j=> .v (.int .i64 (qy N t c vs i j)))) 0)])
      (fun i=>i≤c.no) (fun i=>c.no - i) 0 (Nat.zero_le _) ?_ ?_
     ·refine Ent.trans (Ent.nil 18 43 1 (by omega) rfl) (Ent.fit ?_);exact Wv.V
     intro i hi;by_cases hlt:i<c.no
     ·have e2:(i:Int)<c.no:=by omega
      have hlm:=GH N (c.fo i) (o8 N t c vs c.nl);have hsm:=hgs i hlt;have hof:qy N t c vs i=(dS (o8 N t c vs c.nl) (c.fo i)).getD fun _=>0:=rfl
      cases hq3:dS (o8 N t c vs c.nl) (c.fo i) with
      | none=>rw [hq3] at hsm;cases hsm
      | some f=>
      rw [hq3] at hlm hof;have ak9:f=qy N t c vs i:=hof.symm;subst ak9;simp only [Option.map_some,vcA] at hlm;have TC1:=QZ N (qy N t c vs i) (by omega) (by omega);unfold vcA at TC1;simp (disch:=first|exact Wv.D|fail) only [Wv.B,simprocAttr,ah e2,JL,hlm];refine aA TC1 rfl Wv.c Wv.c ?_;refine Wv.W ?_;refine Wv.lI (i+1) 5 (by first | decide | exact Nat.le_of_ble_eq_true rfl) (by omega) (by omega) (by simp (disch:=first|exact Wv.D|fail) only [Wv.B,simprocAttr,dN]) Wv.V2 (by simp only [Wv.BL, ↓reduceIte,Nat.reduceLeDiff,eq_true hlc,kW,GI]<;>omega) (by simp only [Wv.BL, ↓reduceIte,Nat.reduceLeDiff,eq_true hlc,kW,GI]<;>omega)
     ·obtain rfl:i=c.no:=by omega
      unfold vcA at hA;simp (disch:=first|exact Wv.D|fail) only [Wv.B,simprocAttr,Int.lt_irrefl,decide_false,hA]
  ·rw [if_pos hmi] at hA;have e1: ¬ (m:Int)=c.ni:=by omega
   simp (disch:=first|exact Wv.D|fail) only [Wv.B,simprocAttr,aj e1,hA]
 ·rw [if_pos he] at hA;simp (disch:=first|exact Wv.D|fail) only [Wv.B,simprocAttr,aj he,hA]
end
section
open Go.RowKit Wv
theorem OA {f:Nat→Except Int (Bool × Nat)}: ∀ {n:Nat} {r:Bool × Nat × Nat},bW f n= .ok r→ ∀ i,i<n→ ∃ q,f i= .ok q
 | 0,r,h,i,hi=>absurd hi (Nat.not_lt_zero i)
 | n+1,r,h,i,hi=>by
  simp only [bW] at h;cases h1:bW f n with
  | error e=>rw [h1] at h;cases h
  | ok p=>
   obtain ⟨kn,d,u⟩:=p;rw [h1] at h;simp only at h;cases h2:f n with
   | error e=>rw [h2] at h;cases h
   | ok q=>
    by_cases e:i=n
    ·subst e;exact ⟨q,h2⟩
    ·exact OA h1 i (by omega)
theorem JO {f:Nat→Except Int (Bool × Nat)}: ∀ {n:Nat} {e:Int},bW f n= .error e→ ∃ i,i<n∧f i= .error e
 | 0,e,h=>by cases h
 | n+1,e,h=>by
  simp only [bW] at h;cases h1:bW f n with
  | error e'=>
   rw [h1] at h;injection h with h;subst h;obtain ⟨i,hi,q⟩:=JO h1;exact ⟨i,by omega,q⟩
  | ok p=>
   obtain ⟨kn,d,u⟩:=p;rw [h1] at h;simp only at h;cases h2:f n with
   | error e'=>rw [h2] at h;injection h with h;subst h;exact ⟨n,by omega,h2⟩
   | ok q=>rw [h2] at h;cases h
variable {x:Par}
theorem ab1 {t:Nat} {e:Ex} {u:Nat} {q:Int} (h:ruA x t e u= .error q):q≠0:=by
 cases e with
 | nil=>cases h
 | mk k s n nl li na ar=>
  simp only [ruA] at h;have z: ∀ {b:Prop} [Decidable b] {v:Nat} {er:Int},er≠0→(if b then (.ok v:Except Int Nat) else .error er)= .error q→q≠0:=fun {b _ v er} he hq=>by
   by_cases c:b
   ·rw [if_pos c] at hq;cases hq
   ·rw [if_neg c] at hq;injection hq with hq;subst hq;exact he
  have z2: ∀ {b c:Prop} [Decidable b] [Decidable c] {v:Nat},(if b then (if c then (.ok v:Except Int Nat) else .error 233) else .error 231)= .error q→q≠0:=fun {b c _ _ v} hq=>by
   by_cases c':b
   ·rw [if_pos c'] at hq;exact z (by decide) hq
   ·rw [if_neg c'] at hq;injection hq with hq;subst hq;decide
  by_cases c2:k=2
  ·rw [if_pos c2] at h;exact z (by decide) h
  rw [if_neg c2] at h;by_cases c3:k=3
  ·rw [if_pos c3] at h;exact z (by decide) h
  rw [if_neg c3] at h;by_cases c7:k=7
  ·rw [if_pos c7] at h;cases h
  rw [if_neg c7] at h;by_cases c8:k=8
  ·rw [if_pos c8] at h;exact z (by decide) h
  rw [if_neg c8] at h;by_cases c10:k=10
  ·rw [if_pos c10] at h;exact z (by decide) h
  rw [if_neg c10] at h;by_cases c14:k=14
  ·rw [if_pos c14] at h;exact z (by decide) h
  rw [if_neg c14] at h;by_cases c11:k=11
  ·rw [if_pos c11] at h;unfold Dc at h;exact z2 h
  rw [if_neg c11] at h;by_cases c13:k=13
  ·rw [if_pos c13] at h;unfold JA at h;exact z2 h
  rw [if_neg c13] at h;by_cases c12:k=12
  ·rw [if_pos c12] at h;exact z (by decide) h
  rw [if_neg c12] at h;cases h
theorem agD {t:Nat} {ns:Nms}: ∀ (e:Ex) {q:Int},okE e→shE ns (ruA x t) e= .error q→q≠0:=by
 intro e;induction e with
 | nil=>intro q h;exact h.elim
 | mk k s n nl li na ar ih=>
  intro q ho h;simp only [shE] at h;split at h
  ·cases hf:aW ns s with
   | none=>rw [hf] at h;injection h with h;subst h;decide
   | some r=>rw [hf] at h;cases h
  ·cases hd:bW (fun i=>shE ns (ruA x t) (ar i)) na with
   | error e=>
    rw [hd] at h;have h':(Except.error e:Except Int (Bool × Nat))= .error q:=h;injection h' with h';subst h';obtain ⟨i,hi,hq⟩:=JO hd;exact ih i (ho.2.2.2 i hi) hq
   | ok p=>
    obtain ⟨kn,d,u⟩:=p;rw [hd] at h;have h':A8 kn d (ruA x t (.mk k s n nl li na ar) u)= .error q:=h;cases hr:ruA x t (.mk k s n nl li na ar) u with
    | error e=>
     rw [hr] at h';have h2:(Except.error e:Except Int (Bool × Nat))= .error q:=h';injection h2 with h2;subst h2;exact ab1 hr
    | ok m=>
     rw [hr] at h';have h2:(if (if kn=true then 0 else d+m)≤8 then (Except.ok (kn,if kn=true then 0 else d+m):Except Int (Bool × Nat)) else .error 232)= .error q:=h';by_cases hle:(if kn=true then 0 else d+m)≤8
     ·rw [if_pos hle] at h2;cases h2
     ·rw [if_neg hle] at h2;injection h2 with h2;subst h2;decide
theorem aj0 {N t:Nat} {ns:Nms} {es:Env} (hx:x.n=N) (hk: ∀ s,(aW ns s).isSome=true→(dS es s).isSome=true): ∀ (e:Ex) {r:Bool × Nat},okE e→dn e=true→shE ns (ruA x t) e= .ok r→goE N t es e:=by
 intro e;induction e with
 | nil=>intro r h;exact h.elim
 | mk k s n nl li na ar ih=>
  intro r ho hf h;obtain ⟨_,_,hfa⟩:=jh hf;have hna:=Oy hf;simp only [shE] at h;split at h
  ·next hk1=>
   have h0:na=0:=by rw [hk1] at hna;have:argN (1:Int).toNat=0:=rfl;omega
   refine ⟨fun _=>hk s ?_,fun e=>by omega,fun e=>by omega,fun e=>by omega,fun e=>by omega,fun i hi=>by omega⟩;cases hn:aW ns s with
   | none=>rw [hn] at h;cases h
   | some r=>rfl
  ·next hk1=>
   cases hd:bW (fun i=>shE ns (ruA x t) (ar i)) na with
   | error e=>rw [hd] at h;cases h
   | ok p=>
    obtain ⟨kn,d,u⟩:=p;rw [hd] at h;have h':A8 kn d (ruA x t (.mk k s n nl li na ar) u)= .ok r:=h;cases hr:ruA x t (.mk k s n nl li na ar) u with
    | error e=>rw [hr] at h';cases h'
    | ok m=>
     have b: ∀ {b:Bool} {v:Nat} {er:Int},(if b=true then (.ok v:Except Int Nat) else .error er)= .ok m→b=true:=fun hq=>by
      split at hq
      ·assumption
      ·cases hq
     refine ⟨fun e=>absurd e hk1,fun e=>?_,fun e=>?_,fun e=>?_,fun e=>?_,fun i hi=>?_⟩
     ·subst e;have hq:(if Jk x n=true then (.ok 0:Except Int Nat) else .error 233)= .ok m:=hr;have:=b hq;unfold Jk at this;rw [Bool.and_eq_true] at this;exact of_decide_eq_true this.1
     ·subst e;have hq:Dc x t nl li= .ok m:=hr;unfold Dc at hq;split at hq
      ·have:=(Oe (b hq)).1;omega
      ·cases hq
     ·subst e;have hq:(if Qr n=true then (.ok (jS n):Except Int Nat) else .error 233)= .ok m:=hr;have:=b hq;unfold Qr at this;rw [Bool.and_eq_true] at this;have:=of_decide_eq_true this.1;omega
     ·rcases e with rfl | rfl
      ·have hq:(if qm t nl li 0 x.n=true then (.ok 0:Except Int Nat) else .error 233)= .ok m:=hr;have:=b hq;unfold qm at this;simp only [Bool.and_eq_true] at this;have:=of_decide_eq_true this.2.1;omega
      ·have hq:(if yj x nl li=true then (.ok 0:Except Int Nat) else .error 233)= .ok m:=hr;have:=b hq;unfold yj at this;rw [Bool.and_eq_true] at this;have:=of_decide_eq_true this.1;omega
     ·obtain ⟨q,hq⟩:=OA hd i hi;exact ih i (ho.2.2.2 i hi) (hfa i hi) hq
theorem xB {s s':ByteArray} {r:Bool × Nat}: ∀ {ns:Nms},(aW (ns++[(s',r)]) s).isSome=true→(aW ns s).isSome=true∨s=s'
 | [],h=>by
  have h':(if s=s' then some r else aW [] s).isSome=true:=h;by_cases e:s=s'
  ·exact .inr e
  ·rw [if_neg e] at h';cases h'
 | p::ns,h=>by
  have h':(if s=p.1 then some p.2 else aW (ns++[(s',r)]) s).isSome=true:=h;show (if s=p.1 then some p.2 else aW ns s).isSome=true∨_;by_cases e:s=p.1
  ·rw [if_pos e];exact .inl rfl
  ·rw [if_neg e] at h' ⊢;exact xB h'
theorem EC {es:Env} {s s':ByteArray} {f:Nat→Int} (h:(dS es s).isSome=true∨s=s'):(dS (bH es s' f) s).isSome=true:=by
 rw [vT];split
 ·rfl
 ·next hn=>exact h.resolve_right hn
theorem JQ {f:Nat→ByteArray} {vs:Nat→Nat→Int}: ∀ {n:Nat} {ns:Nms},jv f n=some ns→ ∀ s,(aW ns s).isSome=true→(dS (vU f vs n) s).isSome=true
 | 0,ns,h,s,hs=>by
  injection h with h;subst h;cases hs
 | n+1,ns,h,s,hs=>by
  simp only [jv] at h;obtain ⟨ns1,h1,h2⟩:=Option.bind_eq_some_iff.1 h;cases hf:aW ns1 (f n) with
  | some r=>rw [hf] at h2;cases h2
  | none=>
   rw [hf] at h2;injection h2 with h2;subst h2;exact EC ((xB hs).imp (fun q=>JQ h1 s q) id)
theorem XZ {x:Par} {N t:Nat} {ln:Nat→ByteArray} {le:Nat→Ex} {ns0:Nms} {es0:Env} (hx:x.n=N) (h0: ∀ s,(aW ns0 s).isSome=true→(dS es0 s).isSome=true): ∀ {n:Nat} {ns:Nms} {ss:List (Bool × Nat)},(∀ i,i<n→okE (le i)∧dn (le i)=true)→gW ns0 ln (fun ns i=>shE ns (ruA x t) (le i)) n= .ok (ns,ss)→
  (∀ s,(aW ns s).isSome=true→(dS (JM N t es0 ln le n) s).isSome=true)∧ ∀ i,i<n→goE N t (JM N t es0 ln le i) (le i)
 | 0,ns,ss,_,h=>by
  have h':(Except.ok (ns0,[]):Except (Nat × Int) (Nms × List (Bool × Nat)))= .ok (ns,ss):=h;injection h' with h';injection h' with h1 h2;subst h1;exact ⟨h0,fun i hi=>absurd hi (Nat.not_lt_zero i)⟩
 | n+1,ns,ss,ho,h=>by
  simp only [gW] at h;cases h1:gW ns0 ln (fun ns i=>shE ns (ruA x t) (le i)) n with
  | error e=>rw [h1] at h;cases h
  | ok p=>
   obtain ⟨ns1,ss1⟩:=p;rw [h1] at h;obtain ⟨i1,i2⟩:=XZ hx h0 (fun i hi=>ho i (by omega)) h1;simp only [CZ] at h;split at h
   ·cases h
   ·cases h2:shE ns1 (ruA x t) (le n) with
    | error e=>rw [h2] at h;cases h
    | ok r=>
     rw [h2] at h;have h3:(Except.ok (ns1++[(ln n,r)],ss1++[r]):Except (Nat × Int) (Nms × List (Bool × Nat)))= .ok (ns,ss):=h;injection h3 with h3;injection h3 with h4 h5;subst h4;refine ⟨fun s hs=>EC ((xB hs).imp (i1 s) id),fun i hi=>?_⟩;by_cases e:i=n
     ·subst e;exact aj0 hx i1 (le i) (ho i hi).1 (ho i hi).2 h2
     ·exact i2 i (by omega)
theorem OB {x:Par} {t:Nat} {ln:Nat→ByteArray} {le:Nat→Ex} {ns0:Nms}: ∀ {n:Nat} {q:Nat × Int},(∀ i,i<n→okE (le i))→gW ns0 ln (fun ns i=>shE ns (ruA x t) (le i)) n= .error q→q.2≠0
 | 0,q,_,h=>by cases h
 | n+1,q,ho,h=>by
  simp only [gW] at h;cases h1:gW ns0 ln (fun ns i=>shE ns (ruA x t) (le i)) n with
  | error e=>
   rw [h1] at h;injection h with h;subst h;exact OB (fun i hi=>ho i (by omega)) h1
  | ok p=>
   obtain ⟨ns1,ss1⟩:=p;rw [h1] at h;simp only [CZ] at h;split at h
   ·injection h with h;subst h;show (230:Int)≠0;decide
   ·cases h2:shE ns1 (ruA x t) (le n) with
    | error e=>rw [h2] at h;injection h with h;subst h;exact agD (le n) (ho n (by omega)) h2
    | ok r=>rw [h2] at h;cases h
theorem JR {ns:Nms} {fo:Nat→ByteArray}: ∀ {n:Nat},outT ns fo n=none→ ∀ i,i<n→(aW ns (fo i)).isSome=true
 | 0,_,i,hi=>absurd hi (Nat.not_lt_zero i)
 | n+1,h,i,hi=>by
  simp only [outT] at h;cases h1:outT ns fo n with
  | some e=>rw [h1] at h;cases h
  | none=>
   rw [h1] at h;have h2:Lj (aW ns (fo n))=none:=h;by_cases e:i=n
   ·subst e;cases hf:aW ns (fo i) with
    | none=>rw [hf] at h2;cases h2
    | some r=>rfl
   ·exact JR h1 i (by omega)
theorem X3 {c:Ci} (h:fK c=0):c.no≤8:=by
 unfold fK at h;split at h
 ·cases h
 ·next h1=>
  have h2:yE c=true:=by
   cases hf:yE c with
   | true=>rfl
   | false=>exact absurd (by rw [hf];simp) h1
  unfold yE at h2;simp only [Bool.and_eq_true,decide_eq_true_eq] at h2;omega
theorem acT {me:Int} {N t:Nat} {c:Ci} {vs:Nat→Nat→Int} (hx:x.n=N) (hc:okC c) (h:(iK me c (ruA x t)).2.2=0):goC N t c vs:=by
 unfold iK at h;split at h
 ·cases h
 split at h
 ·next hn=>exact absurd h hn
 next h1 h2=>
 have hck:fK c=0:=by simpa using h2
 have hle: ∀ i,i<c.nl→okE (c.le i)∧dn (c.le i)=true:=fun i hi=>⟨(hc.le i hi).1,jT hck hi⟩
 unfold vG at h;cases hi:jv c.fi c.ni with
 | none=>rw [hi] at h;cases h
 | some ns=>
  rw [hi] at h;simp only at h;cases hl:gW ns c.ln (fun ns i=>shE ns (ruA x t) (c.le i)) c.nl with
  | error q=>
   rw [hl] at h;exact absurd h (OB (fun i hi=>(hle i hi).1) hl)
  | ok q=>
   obtain ⟨ns',ss⟩:=q;rw [hl] at h;have h3:(lastT ss c.nl (outT ns' c.fo c.no)).2.2=0:=h;obtain ⟨g1,g2⟩:=XZ (N:=N) (es0:=vU c.fi vs c.ni) hx (JQ hi) hle hl;cases ho:outT ns' c.fo c.no with
   | some e=>
    rw [ho] at h3;have h4:e=0:=h3;subst h4;exact absurd ho fun hq=>by
     have key: ∀ {n:Nat},outT ns' c.fo n≠some 0:=by
      intro n;induction n with
      | zero=>intro hq;cases hq
      | succ n ih=>
       intro hq;simp only [outT] at hq;cases h1:outT ns' c.fo n with
       | some e=>rw [h1] at hq;injection hq with hq;subst hq;exact ih h1
       | none=>
        rw [h1] at hq;have h2:Lj (aW ns' (c.fo n))=some 0:=hq;unfold Lj at h2;split at h2
        ·cases h2
        ·split at h2<;>cases h2
     exact key hq
   | none=>exact ⟨fun i hi=>⟨(hle i hi).1,(hle i hi).2,g2 i hi⟩,X3 hck,fun i hi=>g1 _ (JR ho i hi)⟩
end
section
open Go.RowKit Wv
def goM:Ex→Prop
 | .nil=>False
 | .mk k s n nl li na ar=>(k=10→ ∀ i,i<nl→li i=0∨li i=1)∧ ∀ i,i<na→goM (ar i)
theorem agE {x:Par} {t:Nat} {ns:Nms}: ∀ (e:Ex) {r:Bool × Nat},dn e=true→shE ns (ruA x t) e= .ok r→goM e:=by
 intro e;induction e with
 | nil=>intro r h;cases h
 | mk k s n nl li na ar ih=>
  intro r hf h;obtain ⟨hk,_,hfa⟩:=jh hf;obtain ⟨hna,_⟩:=JH hf;simp only [shE] at h;split at h
  ·next hk1=>
   have h0:na=0:=by rw [hk1] at hna;have:argN (1:Int).toNat=0:=rfl;omega
   exact ⟨fun e=>by omega,fun i hi=>by omega⟩
  ·next hk1=>
   cases hd:bW (fun i=>shE ns (ruA x t) (ar i)) na with
   | error e=>rw [hd] at h;cases h
   | ok p=>
    obtain ⟨kn,d,u⟩:=p;rw [hd] at h;have h':A8 kn d (ruA x t (.mk k s n nl li na ar) u)= .ok r:=h;cases hr:ruA x t (.mk k s n nl li na ar) u with
    | error e=>rw [hr] at h';cases h'
    | ok m=>
     refine ⟨fun e=>?_,fun i hi=>?_⟩
     ·subst e;have hq:(if yj x nl li=true then (.ok 0:Except Int Nat) else .error 233)= .ok m:=hr;split at hq
      ·next this=>
       unfold yj acF bf at this;rw [Bool.and_eq_true,Bool.not_eq_true',List.any_eq_false] at this;intro i hi;have:=this.2 i (List.mem_range.2 hi);unfold Ls at this;simp only [Bool.and_eq_true,Bool.not_eq_true',decide_eq_false_iff_not,not_and,Classical.not_not] at this;by_cases q:li i=0
       ·exact .inl q
       ·exact .inr (this q)
      ·cases hq
     ·obtain ⟨q,hq⟩:=Cj hd i hi;exact ih i (hfa i hi) hq
theorem agF {x:Par} {me:Int} {t:Nat} {c:Ci} (h:(iK me c (ruA x t)).2.2=0): ∀ i,i<c.nl→goM (c.le i):=by
 obtain ⟨_,hck,h3⟩:=vN h;rw [h3] at h;intro i hi;have t1:vG c (ruA x t)=match jv c.fi c.ni with | none=>([], -1,230) | some ns=>QC c (gW ns c.ln (fun ns i=>shE ns (ruA x t) (c.le i)) c.nl):=rfl
 rw [t1] at h;cases hi0:jv c.fi c.ni with
 | none=>rw [hi0] at h;cases h
 | some ns0=>
  rw [hi0] at h;simp only at h;cases hl:gW ns0 c.ln (fun ns i=>shE ns (ruA x t) (c.le i)) c.nl with
  | error p=>
   obtain ⟨i,e⟩:=p;rw [hl] at h;have he:e=0:=h;exact absurd he (Me (fun i hi ns er q=>acS (XH x t) _ (jT hck hi) er q) hl)
  | ok q=>
   obtain ⟨ns,ss⟩:=q;obtain ⟨_,f2⟩:=xk hl;obtain ⟨ns',ss',r,_,a2,_⟩:=f2 i hi;exact agE _ (jT hck hi) a2
theorem vV {f:Nat→Nat}: ∀ {m w:Nat},dQ w (whS w f m)∧ ∀ i,i<m→dQ (f i) (whS w f m)
 | 0,w=>⟨fun _ h=>h,fun i hi=>absurd hi (Nat.not_lt_zero i)⟩
 | m+1,w=>by
  obtain ⟨h1,h2⟩:=vV (f:=f) (m:=m) (w:=w);refine ⟨h1.trans (dQ.left _ _),fun i hi=>?_⟩;by_cases q:i=m
  ·subst q;exact dQ.right _ _
  ·exact (h2 i (by omega)).trans (dQ.left _ _)
variable {N:Nat}
theorem OC {A:Nat→Nat→Nat} : ∀ {m:Nat}, ∀ i,i<m→ ∀ j,j<N→dQ (A i j) (whL A N m)
 | 0,i,hi,j,hj=>absurd hi (Nat.not_lt_zero i)
 | m+1,i,hi,j,hj=>by
  by_cases q:i=m
  ·subst q;exact vV.2 j hj
  ·exact (OC i (by omega) j hj).trans vV.1
theorem X4 {f g:Nat→Int}: ∀ {n:Nat},(∀ j,j<n→f j=g j)→xA f n=xA g n
 | 0,_=>rfl
 | n+1,h=>by
  show xA f n+f n=xA g n+g n;rw [X4 fun j hj=>h j (by omega),h n (by omega)]
theorem ab2 {t k n:Int} {nl na:Nat} {li:Nat→Int} {D:Nat→Nat→Nat} {X Y:Nat→Nat→Int} {S j:Nat} (hN:4≤N) (hN2:N % 2=0) (hk:1≤k∧k≤15) (h1:k≠1) (hna:(na:Int)=argN k.toNat) (hm:k=10→ ∀ i,i<nl→li i=0∨li i=1) (hj:j<N)
  (hD: ∀ i,i<na→ ∀ j,j<N→dQ (D i j) S→X i j=Y i j) (hS:dQ (nsS N k n nl li na D j) S):slZ N t k n li (lsF k nl li) X j=slZ N t k n li (lsF k nl li) Y j:=by
 have hkk:k=2∨k=3∨k=4∨k=5∨k=6∨k=7∨k=8∨k=9∨k=10∨k=11∨k=12∨k=13∨k=14∨k=15:=by omega
 have hw: ∀ m,na=m→dQ (whS 0 (fun i=>D i j) na) S→ ∀ i,i<m→X i j=Y i j:=fun m e q i hi=>hD i (by omega) j hj fun b hb=>q b (vV.2 i (by omega) b hb)
 rcases hkk with rfl | rfl | rfl | rfl | rfl | rfl | rfl | rfl | rfl | rfl | rfl | rfl | rfl | rfl<;>simp only [slZ,nsS,Int.reduceEq, ↓reduceIte] at hS ⊢
 ·have e:argN (4:Int).toNat=2:=rfl;have h:=hw 2 (by omega) hS;rw [h 0 (by omega),h 1 (by omega)]
 ·have e:argN (5:Int).toNat=2:=rfl;have h:=hw 2 (by omega) hS;rw [h 0 (by omega),h 1 (by omega)]
 ·have e:argN (6:Int).toNat=1:=rfl;have h:=hw 1 (by omega) hS;rw [h 0 (by omega)]
 ·have e:argN (7:Int).toNat=2:=rfl;have h:=hw 2 (by omega) hS;rw [h 0 (by omega),h 1 (by omega)]
 ·have e:argN (8:Int).toNat=1:=rfl;exact hD 0 (by omega) (Wx N n j) (FU hN hN2 hj) hS
 ·have e:argN (9:Int).toNat=1:=rfl;exact hD 0 (by omega) ((j+N / 2) % N) (Nat.mod_lt _ (by omega)) hS
 ·have e:argN (10:Int).toNat=1:=rfl;by_cases q:j<nl∧li j=1
  ·rw [if_pos q] at hS;rw [hD 0 (by omega) j hj hS]
  ·have:lsF 10 nl li j=0:=by
    unfold lsF;rw [if_pos (.inr rfl)];unfold CB;split
    ·next h=>exact (hm rfl j h).resolve_right fun w=>q ⟨h,w⟩
    ·rfl
   rw [this,Int.zero_mul,Int.zero_mul]
 ·have e:argN (11:Int).toNat=1:=rfl;have h:=hw 1 (by omega) hS;rw [h 0 (by omega)]
 ·have e:argN (12:Int).toNat=2:=rfl;have h:=hw 2 (by omega) hS;rw [h 0 (by omega),h 1 (by omega)]
 ·have e:argN (13:Int).toNat=1:=rfl;have h:=hw 1 (by omega) hS;rw [h 0 (by omega)]
 ·have e:argN (14:Int).toNat=1:=rfl;have h:=hw 1 (by omega) hS;rw [h 0 (by omega)]
 ·have e:argN (15:Int).toNat=1:=rfl;exact X4 fun i hi=>hD 0 (by omega) i hi fun b hb=>hS b (OC 0 (by omega) i hi b hb)
def ab3 (N S:Nat) (ns:mX) (a b:Env):Prop:= ∀ s j,j<N→dQ ((jF ns s).getD (fun j=>2 ^ j) j) S→(dS a s).getD (fun _=>0) j=(dS b s).getD (fun _=>0) j
theorem ab4 {t:Int} {S:Nat} {ns:mX} {a b:Env} (hN:4≤N) (hN2:N % 2=0) (hR:ab3 N S ns a b): ∀ (e:Ex),goS e→goM e→ ∀ j,j<N→dQ (nsX N ns e j) S→evX N t a e j=evX N t b e j:=by
 intro e;induction e with
 | nil=>exact fun h=>h.elim
 | mk k s n nl li na ar ih=>
  intro hg hm j hj hS;unfold nsX at hS;unfold evX;by_cases h1:k=1
  ·rw [if_pos h1] at hS ⊢;rw [if_pos h1];exact hR s j hj hS
  ·rw [if_neg h1] at hS ⊢;rw [if_neg h1];show o7 t _=o7 t _;rw [ab2 (t:=t) (X:=fun i=>evX N t a (ar i)) (Y:=fun i=>evX N t b (ar i)) hN hN2 hg.1 h1 hg.2.1 hm.1 hj (fun i hi j hj q=>ih i (hg.2.2.2.2 i hi) (hm.2 i hi) j hj q) hS]
theorem zq (es:Env) (s s':ByteArray) (f:Nat→Int) (j:Nat):(dS (bH es s f) s').getD (fun _=>0) j=if s'=s then f j else (dS es s').getD (fun _=>0) j:=by
 rw [vT];split<;>rfl
theorem X5 {S:Nat} {fi:Nat→ByteArray} {v w:Nat→Nat→Int}: ∀ {n:Nat},(∀ i,i<n→ ∀ j,S.testBit j=true→v i j=w i j)→ab3 N S [] (vU fi v n) (vU fi w n)
 | 0,_=>fun s j hj _=>rfl
 | n+1,h=>fun s j hj hS=>by
  show (dS (bH _ _ _) s).getD _ j=(dS (bH _ _ _) s).getD _ j;rw [zq,zq];split
  ·exact h n (by omega) j (hS j Nat.testBit_two_pow_self)
  ·exact X5 (fun i hi=>h i (by omega)) s j hj hS
theorem OD {N:Nat} {t:Int} {S:Nat} {ln:Nat→ByteArray} {le:Nat→Ex} {a b:Env} (hN:4≤N) (hN2:N % 2=0) (hR:ab3 N S [] a b): ∀ {n:Nat},(∀ i,i<n→goS (le i)∧goM (le i))→ab3 N S (esS N ln le n) (JM N t a ln le n) (JM N t b ln le n)
 | 0,_=>hR
 | n+1,h=>fun s j hj hS=>by
  have ih:=OD (t:=t) (ln:=ln) hN hN2 hR (n:=n) fun i hi=>h i (by omega)
  have hS:dQ ((jF (FQ (esS N ln le n) (ln n) (nsX N (esS N ln le n) (le n))) s).getD (fun j=>2 ^ j) j) S:=hS;show (dS (bH _ _ _) s).getD _ j=(dS (bH _ _ _) s).getD _ j;rw [zq,zq];rw [qO] at hS;by_cases q:s=ln n
  ·rw [if_pos q] at hS;rw [if_pos q,if_pos q];exact ab4 hN hN2 ih (le n) (h n (by omega)).1 (h n (by omega)).2 j hj hS
  ·rw [if_neg q] at hS;rw [if_neg q,if_neg q];exact ih s j hj hS
theorem ab5 {t:Int} {c:Ci} {A:Nat} {v w:Nat→Nat→Int} (hN:4≤N) (hN2:N % 2=0) (hg:goD c) (hm: ∀ i,i<c.nl→goM (c.le i)) (hA:ClN (ndF N c) A) (hvw: ∀ i,i<c.ni→ ∀ j,A.testBit j=true→v i j=w i j) {q j:Nat} (hq:q<c.no) (hj:j<N) (hjA:A.testBit j=true):
  qy N t c v q j=qy N t c w q j:=by
 have hR:=OD (t:=t) (ln:=c.ln) hN hN2 (X5 (N:=N) (fi:=c.fi) hvw) fun i (hi:i<c.nl)=>⟨(hg.1 i hi).2,hm i hi⟩
 refine hR (c.fo q) j hj fun b hb=>?_
 refine hA j hjA b (vV.2 q hq b ?_);show (nsX N (esS N c.ln c.le c.nl) (naX (c.fo q)) j).testBit b=true;unfold naX nsX;rw [if_pos rfl];exact hb
end
section
open Go.RowKit Wv
theorem ED (S:Nat) (hS:S<4294967296):TC Tryz.prog 99 [.v (.int .u32 S)] (roA (lsN S 32).length (slF S)):=by
 have T:=Wn S hS;rw [NS,abT] at T;exact T
theorem X6 (S:Nat):(lsN S 32).length≤32:=Lc S 32
theorem JU (x:Par) (c:Ci) (e at_:Int) (ss:List (Bool × Nat)) (he:e≠0)
  (TT:TC Tryz.prog 19 [.g (dA x), .g (ciC c)] (typeA (ss,at_,e))) (n:Nat) (f:Nat→Int):
  TC Tryz.prog 53 [.g (dA x), .g (ciC c),roA n f] (.tup [.v (.slice none 0 0), .v (.int .i64 e)]):=by
 have hP:=dY x;have hcc:=oG c;have hR:=jW n f;unfold dA ciC cZ at*;refine Wv.TC.by 68 [0,1,3,4,10,26,2,32,39,38,40,37,12,15,13,50,55,54,56,53,11,17,6,7] [] [.tmp 6, .tmp 7] Tryz.func53 rfl rfl rfl ?clo ?_
 case clo=>simp only [Wv.BC]
 unfold typeA at TT;refine Wv.W ?_;refine aA TT rfl (vF (.g hP) (.g hcc)) (by simp only [Wv.BC];exact kX _) ?_;simp (disch:=first|exact Wv.D|fail) only [Wv.B,simprocAttr,aj he]
def acA (A:Nat) (b:Bool):AV:= .tup [if b=true then roA (lsN A 32).length (slF A) else .v (.slice none 0 0), .v (.int .i64 (if b=true then 0 else 2))]
theorem ML (x:Par) (c:Ci) (N:Nat) (at_:Int) (ss:List (Bool × Nat)) (hx:x.n=N) (hN:N≤32) (V:Nat→Nat) (hV: ∀ j,j<N→V j<2 ^ N)
  (TT:TC Tryz.prog 19 [.g (dA x), .g (ciC c)] (typeA (ss,at_,0))) (TN:TC Tryz.prog 98 [.v (.int .i64 N), .g (ciC c)] (seA N V)) (n:Nat) (f:Nat→Int) (hn:n≤140737488351232) (A:Nat) (hA:wO N n f=true→JI V N (sF f n) A):
  TC Tryz.prog 53 [.g (dA x), .g (ciC c),roA n f] (acA A (wO N n f)):=by
 have hP:=dY x;have hcc:=oG c;have ai6:2 ^ N≤4294967296:=Nat.pow_le_pow_right (n:=2) (by omega) hN;have TA:=abn N n f hn;have hasc:= @zf N n f;have SB:Clo (acA A (wO N n f)):=by
  unfold acA;refine .tup (List.forall_mem_cons.2 ⟨?_,List.forall_mem_cons.2 ⟨.v _,fun _ h=>by cases h⟩⟩);split
  ·exact jW _ _
  ·exact .v _
 generalize wO N n f=b at*;unfold dA ciC cZ at*;rw [hx] at*;unfold seA at TN;refine Wv.TC.by 68 [0,1,3,4,10,26,2,32,39,38,40,37,12,15,13,50,55,54,56,53,11,17,6,7] [] [.tmp 6, .tmp 7] Tryz.func53 rfl rfl rfl ?clo ?_
 case clo=>exact SB
 unfold typeA at TT;unfold roA at TA ⊢;refine Wv.W ?_;refine aA TT rfl (vF (.g hP) (.g hcc)) (by simp only [Wv.BC];exact kX _) ?_;refine Wv.W ?_;refine aA TA rfl Wv.c Wv.c ?_;cases b with
 | false=>simp (disch:=first|exact Wv.D|fail) only [Wv.B,simprocAttr,acA]
 | true=>
 obtain ⟨a1,a2,a3,a4⟩:=hA rfl;have hr:=fun i (hi:i<n)=>hasc rfl hi
 have hS: ∀ i,i≤n→sF f i<2 ^ N:=fun i hi=>XL fun a ha=>hr a (by omega)
 refine Wv.W ?_;refine aA TN rfl (vF (.v _) (.g hcc)) Wv.c ?_;refine Wv.W ?_;refine dI (σ:=Nat) (fun i=>[(11, .t N 1 (tab N fun j=> .v (.int .u32 (V j)))),(12, .v (.int .u32 (sF f i))),(13, .v (.int .u32 0)),(37, .t n 1 (tab n fun j=> .v (.int .i64 (f j)))),(38, .v (.int .i64 n)),(39, .v (.int .i64 i))])
  (fun _=>[some (.blk [.v (.int .i64 N), .v (.int .u32 x.p), .v (.int .i64 x.r), .t x.ch.length 1 (x.ch.map fun (c:Nat)=> .v (.int .u32 c)), .v (.int .u32 x.sp), .v (.int .i64 x.wt), .v (.int .u32 x.er)]),some (.blk [.v (.string c.name), .t c.ni 1 (tab c.ni fun i=> .v (.string (c.fi i))), .t c.nl 6 c.lets, .t c.no 1 (tab c.no fun i=> .v (.string (c.fo i)))])])
  (fun i=>i≤n) (fun i=>n - i) 0 (Nat.zero_le _) rfl (by simp (disch:=first|exact Wv.D|fail) only [Wv.B,simprocAttr,sF]) ?_
 intro i hi;by_cases hlt:i<n
 ·have e1:(i:Int)<n:=by omega
  obtain ⟨k,hk⟩: ∃ k:Nat,f i=k:=⟨(f i).toNat,by have:=hr i hlt;omega⟩
  have agG:k<32:=by have:=hr i hlt;omega
  have hs:=acE k agG;have hp:2 ^ k<2 ^ 32:=Nat.pow_lt_pow_right (by omega) agG;have hSi:=hS i hi;have ho:=Wy (sF f i) (2 ^ k) (by omega) (by omega);have hws:sF f (i+1)=sF f i ||| 2 ^ k:=by show sF f i ||| 2 ^ (f i).toNat=_;rw [hk];rfl
  rw [←hws] at ho;simp (disch:=first|exact Wv.D|fail) only [Wv.B,simprocAttr,ah e1,hk,Int.toNat_natCast,hs,ho];refine aJ (i+1) (by omega) (by omega) rfl Wv.V2
 obtain rfl:i=n:=by omega
 clear hlt;have hSn:=hS i (Nat.le_refl _);generalize sF f i=S at*;simp (disch:=first|exact Wv.D|fail) only [Wv.B,simprocAttr,Int.lt_irrefl,decide_false];refine dI (σ:=Nat × Nat) (fun q=>[(11, .t N 1 (tab N fun j=> .v (.int .u32 (V j)))),(12, .v (.int .u32 q.1)),(13, .v (.int .u32 q.2))])
  (fun _=>[some (.blk [.v (.int .i64 N), .v (.int .u32 x.p), .v (.int .i64 x.r), .t x.ch.length 1 (x.ch.map fun (c:Nat)=> .v (.int .u32 c)), .v (.int .u32 x.sp), .v (.int .i64 x.wt), .v (.int .u32 x.er)]),some (.blk [.v (.string c.name), .t c.ni 1 (tab c.ni fun i=> .v (.string (c.fi i))), .t c.nl 6 c.lets, .t c.no 1 (tab c.no fun i=> .v (.string (c.fo i)))])])
  (fun q=>q.1<2 ^ N∧dQ S q.1∧dQ q.1 A∧dQ q.2 q.1∧ ∀ j,q.2.testBit j=true→dQ (V j) q.1) (fun q=>2 ^ N - q.2) (S,0) ⟨hSn,fun _ h=>h,a1,dQ.zero _,fun j h=>by rw [Nat.zero_testBit] at h;cases h⟩ rfl Wv.V ?_
 rintro ⟨s,h⟩ ⟨i1,i2,i3,i4,i5⟩;simp only at i1 i2 i3 i4 i5 ⊢;by_cases hq:s=h
 ·subst hq;obtain rfl:s=A:=dQ.eq i3 (a4 s i2 i5);have PL:=ED s (by omega);have hR:=jW (lsN s 32).length (slF s);refine Wv.W ?_;refine aA PL rfl Wv.c hR ?_;simp (disch:=first|exact Wv.D|fail) only [Wv.B,simprocAttr,acA,if_true,roA]
 ·have hle:=i4.le;have PL:=ED s (by omega);have hm:=X6 s;have hR:=jW (lsN s 32).length (slF s);have hget:=fun i (hi:i<(lsN s 32).length)=>vS hi
  have hex:=fun j (hj:j<32)=> @MB s j hj
  unfold roA at PL hR;generalize (lsN s 32).length=m at*;generalize slF s=g at*;simp (disch:=first|exact Wv.D|fail) only [Wv.B,simprocAttr,aj (show ¬ (s:Int)=h by omega)];refine aA PL rfl Wv.c hR ?_;refine Wv.W ?_;refine dI (σ:=Nat × Nat) (fun q=>[(11, .t N 1 (tab N fun j=> .v (.int .u32 (V j)))),(12, .v (.int .u32 q.2)),(13, .v (.int .u32 s)),(53, .t m 1 (tab m fun j=> .v (.int .i64 (g j)))),(54, .v (.int .i64 m)),(55, .v (.int .i64 q.1))])
   (fun _=>[some (.blk [.v (.int .i64 N), .v (.int .u32 x.p), .v (.int .i64 x.r), .t x.ch.length 1 (x.ch.map fun (c:Nat)=> .v (.int .u32 c)), .v (.int .u32 x.sp), .v (.int .i64 x.wt), .v (.int .u32 x.er)]),some (.blk [.v (.string c.name), .t c.ni 1 (tab c.ni fun i=> .v (.string (c.fi i))), .t c.nl 6 c.lets, .t c.no 1 (tab c.no fun i=> .v (.string (c.fo i)))])])
   (fun q=>q.1≤m∧q.2<2 ^ N∧dQ s q.2∧dQ q.2 A∧ ∀ a,a<q.1→ ∀ j:Nat,g a=j→dQ (V j) q.2) (fun q=>m - q.1) (0,s) ⟨Nat.zero_le _,i1,fun _ h=>h,i3,fun a h=>absurd h (Nat.not_lt_zero a)⟩ rfl Wv.V ?_
  rintro ⟨i,s'⟩ ⟨j0,j1,j2,j3,j4⟩;simp only at j0 j1 j2 j3 j4 ⊢;by_cases hlt:i<m
  ·have e1:(i:Int)<m:=by omega
   obtain ⟨j,hj,als,hjb⟩:=hget i hlt;have hjN:=qx i1 hjb;have hVj:=hV j hjN;have ho:=Wy s' (V j) (by omega) (by omega);simp (disch:=first|exact Wv.D|fail) only [Wv.B,simprocAttr,ah e1,hj,ho];refine aJ (i+1,s' ||| V j) ⟨by simp only;omega,Nat.or_lt_two_pow j1 hVj,j2.trans (dQ.left _ _),j3.or (a2 j (i3 j hjb)),fun a ha k hk=>?_⟩ (by simp only;omega) rfl Wv.V2;by_cases q:a=i
   ·subst q;obtain rfl:k=j:=by omega
    exact dQ.right _ _
   ·exact (j4 a (by simp only at ha;omega) k hk).trans (dQ.left _ _)
  ·obtain rfl:i=m:=by omega
   simp (disch:=first|exact Wv.D|fail) only [Wv.B,simprocAttr,Int.lt_irrefl,decide_false];refine aJ (s',s) ⟨j1,i2.trans j2,j3,j2,fun j hj=>?_⟩ (by simp only;omega) rfl Wv.V;obtain ⟨a,ha,e⟩:=hex j (by have:=qx i1 hj;omega) hj;exact j4 a ha j e
end
end Go.Proofs.YtljfgdlgmdcmfaaGreat
namespace Go.Proofs.YtljfgdlgmdcmfaaGreat.Wv
section
open Go.RowKit
theorem aj1 {X:Cx} (hX:Ok X) {id off fz s:Nat} {T:TypeId} {cells:List AV} {b:AV} (h:X.h[id]? =some (some (.arr T s cells fz))) (hab: ∀ (bk n:Nat) (cvs:Array Value),acp X id T s cells fz n bk cvs→ ∀ x,cvs[off]? =some x→Rep X b x):
  ∃ Y,Y.w=X.w∧Y.m=X.m∧Y.h=X.h.set id (some (.arr T s (cells.set off b) fz))∧Step X Y∧Ok Y:=by
 have hid:id<X.h.length:=(List.getElem?_eq_some_iff.1 h).1;have S:Step X ⟨X.w,X.m,X.h.set id (some (.arr T s (cells.set off b) fz)),X.bad,X.ds⟩:=by
  refine ⟨rfl,rfl,rfl,Nat.le_refl _,fun _ _ _=>rfl,fun _ _ _ h1 h2=>⟨h1,h2⟩,by simp,fun i T' s' c f _ hi=>?_,fun i c _ hi=>?_,fun c hc=>?_,fun _ _ hb=> .inl hb,fun i c _ hi=>?_,rfl⟩
  ·by_cases e:i=id
   ·subst e;simp only at hi;rw [List.getElem?_set_self hid] at hi;injection hi with hi;injection hi with hi;injection hi with e1 e2 e3 e4;subst e1 e2 e3 e4;exact ⟨cells,fz,h,by simp,fun _=>rfl⟩
   ·simp only at hi;rw [bM e] at hi;exact ⟨c,f,hi,Nat.le_refl _,fun _=>rfl⟩
  ·by_cases e:i=id
   ·subst e;simp only at hi;rw [List.getElem?_set_self hid] at hi;injection hi with hi;cases hi
   ·simp only at hi;rw [bM e] at hi;exact ⟨c,hi,rfl⟩
  ·obtain ⟨i,⟨o,ho⟩,hc⟩:=hc;by_cases e:i=id
   ·subst e;exact .inr ⟨i,⟨_,h⟩,hc⟩
   ·simp only at ho;rw [bM e] at ho;exact .inr ⟨i,⟨o,ho⟩,hc⟩
  ·by_cases e:i=id
   ·subst e;simp only at hi;rw [List.getElem?_set_self hid] at hi;injection hi with hi;cases hi
   ·simp only at hi;rw [bM e] at hi;exact ⟨c,hi,rfl⟩
 have live: ∀ i,Cx.live ⟨X.w,X.m,X.h.set id (some (.arr T s (cells.set off b) fz)),X.bad,X.ds⟩ i→X.live i:=fun i ⟨o,ho⟩=>by
  by_cases e:i=id
  ·subst e;exact ⟨_,h⟩
  ·simp only at ho;rw [bM e] at ho;exact ⟨o,ho⟩
 refine ⟨⟨X.w,X.m,X.h.set id (some (.arr T s (cells.set off b) fz)),X.bad,X.ds⟩,rfl,rfl,rfl,S,fun i c hi=>?_,fun i T' s' c f hi=>?_,fun i j c hi hj=>hX.inj i j c (live i hi) (live j hj),hX.eG,fun i es hi=>?_⟩
 ·by_cases e:i=id
  ·subst e;simp only at hi;rw [List.getElem?_set_self hid] at hi;injection hi with hi;cases hi
  ·simp only at hi;rw [bM e] at hi;obtain ⟨g,cvs,T',h1,h2,h3,h4,h5⟩:=hX.blk i c hi;exact ⟨g,cvs,T',h1,h2,h3,h4,fun j a' x q1 q2=>(h5 j a' x q1 q2).mono S⟩
 ·by_cases e:i=id
  ·subst e;simp only at hi;rw [List.getElem?_set_self hid] at hi;injection hi with hi;injection hi with hi;injection hi with e1 e2 e3 e4;subst e1 e2 e3 e4;obtain ⟨g1,g2,n,g3,g4⟩:=hX.arr i T s cells fz h;refine ⟨by simpa using g1,g2,n,by simpa using g3,?_⟩;rcases g4 with ⟨g4,g5⟩ | ⟨g,cvs,g4⟩
   ·exact .inl ⟨g4,by rw [g5];rfl⟩
   ·refine .inr ⟨g,cvs,⟨g4.at_,g4.blk,g4.cap,g4.jA,g4.sz,g4.bad,fun j a' x q1 q2=>?_,g4.good⟩⟩;suffices hx:Rep X a' x from hx.mono S
    rw [List.getElem?_set] at q1;split at q1
    ·next hj=>
     subst hj;split at q1
     ·injection q1 with q1;subst q1;exact hab g n cvs g4 x q2
     ·cases q1
    ·exact g4.rep j a' x q1 q2
  ·simp only at hi;rw [bM e] at hi;obtain ⟨g1,g2,n,g3,g4⟩:=hX.arr i T' s' c f hi;refine ⟨g1,g2,n,g3,?_⟩;rcases g4 with g4 | ⟨g,cvs,g4⟩
   ·exact .inl g4
   ·exact .inr ⟨g,cvs,⟨g4.at_,g4.blk,g4.cap,g4.jA,g4.sz,g4.bad,fun j a' x q1 q2=>(g4.rep j a' x q1 q2).mono S,g4.good⟩⟩
 ·by_cases e:i=id
  ·subst e;simp only at hi;rw [List.getElem?_set_self hid] at hi;injection hi with hi;cases hi
  ·simp only at hi;rw [bM e] at hi;obtain ⟨g,ents,clock,h1,h2,h3⟩:=hX.map i es hi;exact ⟨g,ents,clock,h1,h2,h3.mono S⟩
theorem Ent.MN {n0 N:Nat} {e:Ev} {h:Hp} (id off:Nat) {T:TypeId} {s fz:Nat} {cells:List AV} {a a':AV} {h':Hp} (hc:h[id]? =some (some (.arr T s cells fz))) (ha:cells[off]? =some a) (hcl:dW h a=some (a',h')) (hk:h'[id]? =h[id]?):
  Ent n0 N e h e (h'.set id (some (.arr T s (cells.set off a') fz))):=fun X act hh hn hX hE=>by
 subst hh;obtain ⟨g1,g2,n,g3,g4⟩:=hX.arr id T s cells fz hc;have hoff:off<cells.length:=(List.getElem?_eq_some_iff.1 ha).1;rcases g4 with ⟨_,g5⟩ | ⟨bk,cvs,g4⟩
 ·rw [g5] at hoff;exact absurd hoff (Nat.not_lt_zero _)
 have hsz:off<cvs.size:=by
  have:=g4.sz;have h2:=Nat.mul_le_mul_right s g4.cap;omega
 have hv:=g4.rep off a cvs[off] ha (Array.getElem?_eq_getElem hsz);obtain ⟨Y,y1,y2,y3,y4,y5⟩:=qH X a a' h' _ hX hcl hv;have hY:Y.h[id]? =some (some (.arr T s cells fz)):=by rw [y4,hk];exact hc
 have hid:id<X.h.length:=(List.getElem?_eq_some_iff.1 hc).1;obtain ⟨c2,f2,q1,q2,q3⟩:=y2.mZ id T s cells fz hid hY;rw [hc] at q1;injection q1 with q1;injection q1 with q1;injection q1 with _ _ e3 _;have hm:=q3 (by rw [e3]);obtain ⟨Z,z1,z2,z3,z4,z5⟩:=aj1 y3 (id:=id) (off:=off) (b:=a') hY (fun b2 n2 alu k x hx=>by
  have e1:bk=b2:=by
   have:=k.at_;rw [hm,g4.at_] at this;injection this
  subst e1;have e2:=k.blk;rw [y1,g4.blk] at e2;injection e2 with e2;injection e2 with e2;subst e2;rw [Array.getElem?_eq_getElem hsz] at hx;injection hx with hx;subst hx;exact y5)
 exact ⟨Z,z1.trans y1,by rw [z3,y4],(y2.trans hX z4).toN hn,z5,hE.mono (y2.trans hX z4)⟩
theorem Ent.Dh {n0 N:Nat} {e e':Ev} {h h2:Hp} (m:Nat) (hm:n0≤m) (hf:uF e' e) (he:loE m e') (hh:h.take m=h2) (hl:loH m h2):Ent n0 N e h e' h2:=by
 subst hh;exact Ent.cut m hm hf he hl
end
end Go.Proofs.YtljfgdlgmdcmfaaGreat.Wv
namespace Go.Proofs.YtljfgdlgmdcmfaaGreat
section
open Go.RowKit Wv
theorem Q5 (n:Nat) (f:Nat→Int) (hn:n≤140737488351232):TC Tryz.prog 91 [roA n f,roA n f] (.v (.bool true)):=by
 unfold roA;refine Wv.TC.by 26 [0,1,10,13,12,14,5,24,4] [(6,8)] [.tmp 4] Tryz.func91 rfl rfl rfl ?clo ?_
 case clo=>simp only [Wv.BC]
 refine Wv.W ?_;refine dI (σ:=Nat) (fun i=>[(0, .t n 1 (tab n fun j=> .v (.int .i64 (f j)))),(1, .t n 1 (tab n fun j=> .v (.int .i64 (f j)))),(12, .v (.int .i64 n)),(13, .v (.int .i64 i))]) (fun _=>[]) (fun i=>i≤n) (fun i=>n - i) 0 (Nat.zero_le _) Wv.V Wv.V ?_;intro i hi;by_cases hlt:i<n
 ·have e1:(i:Int)<n:=by omega
  simp (disch:=first|exact Wv.D|fail) only [Wv.B,simprocAttr,ah e1];refine aJ (i+1) (by omega) (by omega) rfl Wv.V2
 ·obtain rfl:i=n:=by omega
  simp (disch:=first|exact Wv.D|fail) only [Wv.B,simprocAttr,Int.lt_irrefl,decide_false]
def onF (ns:Nat) (sl:Nat→Int) (f:Nat→Int) (j:Nat):Int:=if inN ns sl j=true then f j else 0
theorem JV (N m ns:Nat) (vs:Nat→Nat→Int) (sl:Nat→Int) (hm:m≤1000) (hN:N≤32) (hns:ns≤140737488351232) (hsl: ∀ q,q<ns→0≤sl q∧sl q<N):
  TC Tryz.prog 92 [vsA m (fun _=>N) vs,roA ns sl] (vsA m (fun _=>N) fun i=>onF ns sl (vs i)):=by
 have h0: ∀ f:Nat→Int,(fun j=>onF 0 sl f j)=fun _=>0:=fun f=>rfl
 unfold vsA vcA roA;refine Wv.TC.by 39 [0,12,11,13,10,6,1,21,20,22,19,7,9,4] [] [.tmp 4] Tryz.func92 rfl rfl rfl ?clo ?_
 case clo=>simp only [Wv.BC]
 refine Wv.W ?_;refine Ag (σ:=Nat) (fun i=>[(1, .t ns 1 (tab ns fun j=> .v (.int .i64 (sl j)))),(4, .own 0 i),(10, .t m 1 (tab m fun i=> .t N 1 (tab N fun j=> .v (.int .i64 (vs i j))))),(11, .v (.int .i64 m)),(12, .v (.int .i64 i))])
  (fun i=>[some (.arr 43 1 (tab i fun a=> .t N 1 (tab N fun j=> .v (.int .i64 (onF ns sl (vs a) j)))) 0)]) (fun i=>i≤m) (fun i=>m - i) 0 (Nat.zero_le _) ?_ ?_
 ·refine Ent.trans (Ent.nil 4 43 1 (by omega) rfl) (Ent.fit ?_);exact Wv.V
 intro i hi;by_cases hlt:i<m
 ·have e1:(i:Int)<m:=by omega
  have hz:(tab N fun _=>AV.v (.int .i64 0))=tab N fun j=> .v (.int .i64 (onF 0 sl (vs i) j)):=rfl
  simp (disch:=first|exact Wv.D|fail) only [Wv.B,simprocAttr,ah e1,hz];refine dI (σ:=Nat) (fun q=>[(1, .t ns 1 (tab ns fun j=> .v (.int .i64 (sl j)))),(4, .own 0 i),(6, .t N 1 (tab N fun j=> .v (.int .i64 (vs i j)))),(7, .own 1 N),(10, .t m 1 (tab m fun i=> .t N 1 (tab N fun j=> .v (.int .i64 (vs i j))))),(11, .v (.int .i64 m)),(12, .v (.int .i64 i)),(19, .t ns 1 (tab ns fun j=> .v (.int .i64 (sl j)))),(20, .v (.int .i64 ns)),(21, .v (.int .i64 q))])
   (fun q=>[some (.arr 43 1 (tab i fun a=> .t N 1 (tab N fun j=> .v (.int .i64 (onF ns sl (vs a) j)))) 0),some (.arr 2 1 (tab N fun j=> .v (.int .i64 (onF q sl (vs i) j))) 0)]) (fun q=>q≤ns) (fun q=>ns - q) 0 (Nat.zero_le _) rfl Wv.V ?_
  intro q hq;by_cases Qy:q<ns
  ·have e2:(q:Int)<ns:=by omega
   have hb:=hsl q Qy;obtain ⟨k,hk⟩: ∃ k:Nat,sl q=k:=⟨(sl q).toNat,by omega⟩
   have hkN:k<N:=by omega
   have hset:(tab N fun a=>if a=k then AV.v (.int .i64 (vs i k)) else .v (.int .i64 (onF q sl (vs i) a)))=tab N fun j=> .v (.int .i64 (onF (q+1) sl (vs i) j)):=aC fun a _=>by
    have hs:inN (q+1) sl a=(inN q sl a || decide ((a:Int)=sl q)):=by
     unfold inN bf;rw [List.range_succ,List.any_append];simp only [List.any_cons,List.any_nil,Bool.or_false]
    unfold onF;rw [hs];by_cases w:a=k
    ·rw [if_pos w,ah (show (a:Int)=sl q by omega),Bool.or_true,if_pos rfl,w]
    ·rw [if_neg w,aj (show ¬ (a:Int)=sl q by omega),Bool.or_false]
   simp (disch:=first|exact Wv.D|fail) only [Wv.B,simprocAttr,ah e2,hk,dF,hset];refine aJ (q+1) (by omega) (by omega) rfl Wv.V2
  ·obtain rfl:q=ns:=by omega
   clear Qy hz;simp (disch:=first|exact Wv.D|fail) only [Wv.B,simprocAttr,Int.lt_irrefl,decide_false];have hset:((tab i fun o=>AV.t N 1 (tab N fun j=> .v (.int .i64 (onF q sl (vs o) j))))++[AV.own 1 N]).set i (AV.t N 1 (tab N fun j=> .v (.int .i64 (onF q sl (vs i) j))))=tab (i+1) fun o=>AV.t N 1 (tab N fun j=> .v (.int .i64 (onF q sl (vs o) j))):=by
    rw [dN (f:=fun o=>AV.t N 1 (tab N fun j=> .v (.int .i64 (onF q sl (vs o) j)))),List.set_append_right i _ (by rw [eU];exact Nat.le_refl _),eU,Nat.sub_self];rfl
   have hget:((tab i fun o=>AV.t N 1 (tab N fun j=> .v (.int .i64 (onF q sl (vs o) j))))++[AV.own 1 N])[i]? =some (AV.own 1 N):=by
    rw [List.getElem?_append_right (by rw [eU];exact Nat.le_refl _),eU,Nat.sub_self];rfl
   refine Af (i+1) (Ent.trans (Ent.MN 0 i (a:= .own 1 N) (a':= .t N 1 (tab N fun j=> .v (.int .i64 (onF q sl (vs i) j)))) rfl hget (if_pos (by rw [eU,Nat.mul_one])) rfl) (Ent.Dh 1 (by first | decide | exact Nat.le_of_ble_eq_true rfl) ?_ ?_ ?_ ?_)) (show i+1≤m by omega) (by omega)
   ·simp (disch:=first|exact Wv.D|fail) only [Wv.B,simprocAttr,Int.natCast_add,Int.natCast_one]
   ·simp only [Wv.BL, ↓reduceIte,Nat.reduceLeDiff]<;>omega
   ·simp only [List.set_cons_succ,List.set_cons_zero,List.take_succ_cons,List.take_zero,hset]
   ·simp only [Wv.BL, ↓reduceIte,Nat.reduceLeDiff]<;>omega
 ·obtain rfl:i=m:=by omega
  simp (disch:=first|exact Wv.D|fail) only [Wv.B,simprocAttr,Int.lt_irrefl,decide_false]
end
section
open Go.RowKit Wv
theorem OE {x:Par} (h:bQ ak x x.r=0):3≤bK ak x x.r∧bK ak x x.r % 2=1∧bK ak x x.r≤2147483647:=by
 obtain ⟨h1,h2,h3,_⟩:=Eu h;suffices ho:bK ak x x.r % 2=1 by exact ⟨by omega,ho,h2⟩
 unfold bK at h1 ⊢;split at h1
 ·next hb=>
  rw [if_pos hb];unfold gJ at h1 ⊢;split at h1
  ·next hq=>
   rw [if_pos hq];have h4:=hq.2.2.2.1;have e:(2*x.n).toNat=2*x.n.toNat:=by omega
   have h5:=Nat.mod_mod_of_dvd x.p (show 2∣2*x.n.toNat from ⟨_,rfl⟩);rw [←e,h4] at h5;rw [Nat.pow_mod, ←h5,Nat.one_mod,Nat.one_pow]
  ·omega
 ·omega
theorem Q7 (x:Par) (c:Ci) (e at_:Int) (ss:List (Bool × Nat)) (he:e≠0)
  (TT:TC Tryz.prog 19 [.g (dA x), .g (ciC c)] (typeA (ss,at_,e))) (m:Nat) (ln:Nat→Nat) (vs:Nat→Nat→Int):
  TC Tryz.prog 33 [.g (dA x), .g (ciC c),vsA m ln vs] (.tup [.v (.slice none 0 0), .v (.int .i64 e)]):=by
 have hP:=dY x;have hcc:=oG c;unfold dA ciC cZ vsA vcA at*;refine Wv.TC.by 127 [0,1,3,4,10,29,2,43,11,52,51,53,50,15,78,13,14,93,92,94,91,17,111,110,112,109,18,20,6,7] [(13,10),(18,10)] [.tmp 6, .tmp 7] Tryz.func33 rfl rfl rfl ?clo ?_
 case clo=>simp only [Wv.BC]
 unfold typeA at TT;refine Wv.W ?_;refine aA TT rfl (vF (.g hP) (.g hcc)) (by simp only [Wv.BC];exact kX _) ?_;simp (disch:=first|exact Wv.D|fail) only [Wv.B,simprocAttr,aj he]
theorem X7 (x:Par) (hx:nM x) (hlen:x.ch.length≤140737488351232) (vP: ∀ q,q∈x.ch→q<4294967296) (c:Ci) (hok:okC c) (N:Nat) (hxN:x.n=N) (hN:4≤N) (hN2:N≤32) (hN3:N % 2=0)
  (he:(iK (bQ ak x x.r) c (ruA x (bK ak x x.r))).2.2=0) (m:Nat) (ln:Nat→Nat) (vs:Nat→Nat→Int) (hm:m≤140737488351232) (hln: ∀ i,i<m→ln i≤140737488351232):
  TC Tryz.prog 33 [.g (dA x), .g (ciC c),vsA m ln vs] (oU N (bK ak x x.r:Nat) 0 c m ln vs):=by
 have hm0:=(vN he).1;have hmo:=OE hm0;have TM:=yw x x.r hx hlen vP;rw [hm0] at TM;have TT:=Ew x hx hlen vP c hok;have hgo:=fun (_:(0:Int)=0)=>acT (N:=N) (vs:=vs) hxN hok he
 generalize iK (bQ ak x x.r) c (ruA x (bK ak x x.r))=q at*;obtain ⟨s1,at1,e1⟩:=q;obtain rfl:e1=0:=he;exact XY x c N _ 0 at1 s1 hxN (by omega) (by omega) (by omega) hN hN2 hN3 TT TM hok m ln vs hm hln hgo
theorem Q8 {m:Nat} {ln:Nat→Nat} {vs:Nat→Nat→Int} {N:Nat} (h: ∀ i,i<m→ln i=N):vsA m ln vs=vsA m (fun _=>N) vs:=by
 unfold vsA;rw [aC fun i hi=>(by rw [h i hi]:vcA (ln i) (vs i)=vcA N (vs i))]
theorem agH {N:Nat} {t:Int} {ns:Nat} {sl f:Nat→Int} (ht:3≤t) (hN:4≤N) (h: ∀ j,j<N→ -((t - 1) / 2)≤f j∧f j≤(t - 1) / 2):yG N t N (onF ns sl f)=false:=by
 have ho: ∀ j,j<N→ -((t - 1) / 2)≤onF ns sl f j∧onF ns sl f j≤(t - 1) / 2:=fun j hj=>by
  unfold onF;split
  ·exact h j hj
  ·omega
 unfold yG;simp only [Bool.or_eq_false_iff,decide_eq_false_iff_not,Bool.not_eq_false',decide_eq_true_eq];refine ⟨trivial,?_,?_⟩
 ·have:=(MI (f:=onF ns sl f) (h:=(t - 1) / 2) (N - 1)).2 fun j hj=>(ho j (by omega)).2
  omega
 ·have:=(MJ (f:=onF ns sl f) (h:= -((t - 1) / 2)) (N - 1)).2 fun j hj=>(ho j (by omega)).1
  omega
theorem MO (x:Par) (c:Ci) (N m no ns:Nat) (vs o1 o2:Nat→Nat→Int) (sl:Nat→Int) (hm:m≤1000) (hno:no≤1000) (hN:N≤32) (hns:ns≤1000) (hsl: ∀ q,q<ns→0≤sl q∧sl q<N)
  (T1:TC Tryz.prog 33 [.g (dA x), .g (ciC c),vsA m (fun _=>N) vs] (.tup [vsA no (fun _=>N) o1, .v (.int .i64 0)]))
  (T2:TC Tryz.prog 53 [.g (dA x), .g (ciC c),roA ns sl] (.tup [roA ns sl, .v (.int .i64 0)]))
  (T3:TC Tryz.prog 33 [.g (dA x), .g (ciC c),vsA m (fun _=>N) fun i=>onF ns sl (vs i)] (.tup [vsA no (fun _=>N) o2, .v (.int .i64 0)])):
  TC Tryz.prog 48 [.g (dA x), .g (ciC c),vsA m (fun _=>N) vs,roA ns sl] (.tup [vsA no (fun _=>N) fun i=>onF ns sl (o2 i), .v (.int .i64 0)]):=by
 have hPg:Clo (.g (dA x)):= .g (dY x);have hCg:=uS c;have O1:=JV N m ns vs sl hm hN (by omega) hsl;have O2:=JV N no ns o2 sl hno hN (by omega) hsl;have EQ:=Q5 ns sl (by omega);unfold dA ciC cZ vsA vcA roA at*;refine Wv.TC.by 53 [0,1,4,5,2,11,24,3,13,12,40,14,8,9] [(7,9)] [.tmp 8, .tmp 9] Tryz.func48 rfl rfl rfl ?clo ?_
 case clo=>simp only [Wv.BC]
 refine Wv.W ?_;refine aA T1 rfl (oZ hPg hCg Wv.c) Wv.c ?_;refine Wv.W ?_;refine aA T2 rfl (oZ hPg hCg Wv.c) Wv.c ?_;refine Wv.W ?_;refine aA EQ rfl Wv.c Wv.c ?_;refine Wv.W ?_;refine iG O1 (dZ rfl (dZ rfl nT)) Wv.c Wv.c ?_;refine Wv.W ?_;refine iG T3 (dZ (wB hPg) (dZ (wB hCg) (dZ rfl nT))) (oZ hPg hCg Wv.c) Wv.c ?_;refine Wv.W ?_;refine aA O2 rfl Wv.c Wv.c ?_;exact Wv.V
end
end Go.Proofs.YtljfgdlgmdcmfaaGreat
