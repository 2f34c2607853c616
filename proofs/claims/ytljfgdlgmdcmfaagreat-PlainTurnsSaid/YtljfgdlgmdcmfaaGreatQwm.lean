/- Parts of a proof. -/
import Derived.Test.YtljfgdlgmdcmfaaGreatQwl
import Derived.Test.YtljfgdlgmdcmfaaGreatQwh
import Derived.Test.YtljfgdlgmdcmfaaGreatQwj
import Derived.Test.YtljfgdlgmdcmfaaGreatQwg
set_option linter.unusedVariables false
set_option linter.unusedSimpArgs false
set_option maxHeartbeats 1600000
set_option maxRecDepth 100000
namespace Go.Proofs.YtljfgdlgmdcmfaaGreat
section
open Go.RowKit Wv
theorem pz:szP Tryz.prog 163=some 1:=by kernel_rfl
theorem yX:aA Tryz.prog 163=some .nilFunc:=by kernel_rfl
theorem pF:bg Tryz.prog 163=some false:=by kernel_rfl
theorem yY:jQ Tryz.prog 163=true:=by kernel_rfl
def yZ (t n:Int):Int:=(n+t).tmod t
theorem Q9 (h:Hp) (b:Bool):TC Tryz.prog 121 [.v (.bool b)] (.v (.int .i64 (if b=true then 1 else 0))):=by
 refine Wv.TC.by 4 [0,3,2] [] [.tmp 2] Tryz.func121 rfl rfl rfl ?clo ?_
 case clo=>simp only [Wv.BC]
 cases b<;>simp (disch:=first|exact Wv.D|fail) only [Wv.B,simprocAttr]
def lJ (N:Nat) (n:Int) (j:Nat):Nat:=j / (N / 2)*(N / 2)+(j % (N / 2)+n.toNat) % (N / 2)
def fH (f:Nat→Int):Nat→Int
 | 0=>0
 | i+1=>fH f i+f i
def slZ (N:Nat) (t k n:Int) (li ls:Nat→Int) (A:Nat→Nat→Int) (j:Nat):Int:=
 if k=2 then n else if k=3 then ls j else if k=4 then A 0 j+A 1 j else if k=5 then A 0 j - A 1 j else if k=6 then 0 - A 0 j else if k=7 then A 0 j*A 1 j
 else if k=8 then A 0 (lJ N n j) else if k=9 then A 0 ((j+N / 2) % N) else if k=10 then ls j*A 0 j else if k=11 then li (yZ t (A 0 j)).toNat
 else if k=12 then (if A 0 j=A 1 j then 1 else 0) else if k=13 then (if yZ t (A 0 j)<n then 1 else 0) else if k=14 then MS t (A 0 j) n else fH (A 0) N
theorem Ji {t a:Int} (ht:3≤t) (ha: -((t - 1) / 2)≤a∧a≤(t - 1) / 2):0≤yZ t a∧yZ t a<t:=by
 unfold yZ;exact ⟨Int.tmod_nonneg _ (by omega),Int.tmod_lt_of_pos _ (by omega)⟩
theorem lsm {t l a:Int} (hl:inB l=true) (ht:t≤2147483647) (ha: -((t - 1) / 2)≤a∧a≤(t - 1) / 2): -4611686018427387904≤l*a∧l*a≤4611686018427387904:=by
 unfold inB at hl;rw [Bool.and_eq_true] at hl;have q1:=of_decide_eq_true hl.1;have q2:=of_decide_eq_true hl.2;have h1:l.natAbs≤4294967296:=by omega
 have h2:a.natAbs≤1073741824:=by omega
 have h3:=Nat.mul_le_mul h1 h2;rw [←Int.natAbs_mul] at h3;omega
theorem Jj {t:Int} {f:Nat→Int} {N:Nat} (ht:t≤2147483647) (hf: ∀ j,j<N→ -((t - 1) / 2)≤f j∧f j≤(t - 1) / 2): ∀ i,i≤N→ -(1073741824*i)≤fH f i∧fH f i≤1073741824*i
 | 0,_=>by show _≤(0:Int)∧(0:Int)≤_;omega
 | i+1,h=>by
  have ih:=Jj ht hf i (by omega);have:=hf i (by omega);show _≤fH f i+f i∧fH f i+f i≤_;rw [Int.natCast_add];omega
def hS (N:Nat) (t:Int) (es:Env) (k:Int) (s:ByteArray) (n:Int) (nl:Nat) (li:Nat→Int) (na:Nat) (L:List AV) (A:Nat→Nat→Int) (ls:Nat→Int):Hp:=
 [some (.blk [.v (.int .i64 N), .v (.int .i64 t), .mp 1]),some (.map (enE N es)),some (.blk [.ptr 0 0]),some (.blk [.v (.int .i64 k), .v (.string s), .v (.int .i64 n), .t nl 1 (tab nl fun i=> .v (.int .i64 (li i))), .t na 5 L]),
  some (.arr 43 1 (tab na fun i=> .t N 1 (tab N fun j=> .v (.int .i64 (A i j)))) 0),some (.blk [.own 4 na]),some (.blk [.v (.int .i64 (N / 2:Nat))]),some (.blk [.t N 1 (tab N fun j=> .v (.int .i64 (ls j)))]),some (.blk [.fn (.func 121) [] []]),some (.blk [.fn (.func 122) [] [.ptr 2 0]])]
theorem ae6 (N:Nat) (t:Int) (es:Env) (k:Int) (s:ByteArray) (n:Int) (nl:Nat) (li:Nat→Int) (na:Nat) (L:List AV) (A:Nat→Nat→Int) (ls:Nat→Int) (m:Int) (ht:3≤t) (ht':t≤2147483647) (hm: -((t - 1) / 2)≤m∧m≤(t - 1) / 2):
  HT Tryz.prog 122 [.v (.int .i64 m), .ptr 2 0] (hS N t es k s n nl li na L A ls) (fun r h'=>r= .v (.int .i64 (yZ t m))∧h'=hS N t es k s n nl li na L A ls):=by
 have hR:(m+t).tmod t=yZ t m:=rfl;unfold hS;refine Wv.HT.by 15 [0,1,3] [(1,11),(1000000,10),(3000001,16)] [.tmp 3] Tryz.func122 rfl rfl rfl ?base ?_
 case base=>rfl
 exact Wv.V1 hR
theorem aak (N:Nat) (t:Int) (es:Env) (k:Int) (s:ByteArray) (n:Int) (nl:Nat) (li:Nat→Int) (na:Nat) (L:List AV) (A:Nat→Nat→Int) (ls:Nat→Int) (j:Nat) (ht:3≤t) (ho:t % 2=1) (ht':t≤2147483647) (hN:4≤N) (hN2:N≤32) (hN3:N % 2=0) (hj:j<N)
  (hA: ∀ i,i<na→ ∀ j,j<N→ -((t - 1) / 2)≤A i j∧A i j≤(t - 1) / 2) (hk:2≤k∧k≤15) (hna:(na:Int)=argN k.toNat) (hn:inB n=true) (hls: ∀ j,j<N→inB (ls j)=true) (h8:k=8→0≤n) (h11:k=11→t≤nl) (h14:k=14→0≤n):
  HT Tryz.prog 123 [.v (.int .i64 j), .ptr 3 0, .ptr 7 0, .ptr 5 0, .ptr 6 0, .ptr 2 0, .ptr 9 0, .ptr 8 0] (hS N t es k s n nl li na L A ls) (fun r h'=>r= .v (.int .i64 (slZ N t k n li ls A j))∧h'=hS N t es k s n nl li na L A ls):=by
 have hn': -4294967295≤n∧n≤4294967295:=by
  unfold inB at hn;rw [Bool.and_eq_true] at hn;exact ⟨of_decide_eq_true hn.1,of_decide_eq_true hn.2⟩
 have hE:=ae6 N t es k s n nl li na L A ls;have hP:=fun a h1 h2 h3=>RD.hV (ae5 N t es a n ht ho ht' h1 h2 h3)
 obtain ⟨Z,hZ⟩: ∃ Z,slZ N t k n li ls A j=Z:=⟨_,rfl⟩
 rw [hZ];unfold slZ at hZ;unfold hV evC at hP;have hkk:k=2∨k=3∨k=4∨k=5∨k=6∨k=7∨k=8∨k=9∨k=10∨k=11∨k=12∨k=13∨k=14∨k=15:=by omega
 unfold hS at*;refine Wv.HT.by 199 [1,14,15,19,2,0,25,3,40,55,64,79,4,100,5,115,128,6,142,7,159,174,190,189,191,188,10,12,9] [(7,13),(9,13),(13,13),(15,19),(17,13),(19,11),(21,12),(23,15),(25,13),(27,10),(1000000,10),(3000007,16),(3000009,16),(3000013,16),(3000015,16),(3000017,16),(3000019,16),(3000021,16),(3000023,16),(3000025,16),(3000027,16)] [.tmp 9] Tryz.func123 rfl rfl rfl ?base ?_
 case base=>rfl
 rcases hkk with rfl | rfl | rfl | rfl | rfl | rfl | rfl | rfl | rfl | rfl | rfl | rfl | rfl | rfl<;>simp only [Int.reduceEq, ↓reduceIte] at hZ
 ·refine Wv.W ?_;rw [hZ]
 ·refine Wv.W ?_;rw [hZ]
 ·have hna':na=2:=by have:argN (4:Int).toNat=2:=rfl;omega
  subst hna';have a0:=hA 0 (by omega) j hj;have a1:=hA 1 (by omega) j hj;refine Wv.W ?_;rw [hZ]
 ·have hna':na=2:=by have:argN (5:Int).toNat=2:=rfl;omega
  subst hna';have a0:=hA 0 (by omega) j hj;have a1:=hA 1 (by omega) j hj;refine Wv.W ?_;rw [hZ]
 ·have hna':na=1:=by have:argN (6:Int).toNat=1:=rfl;omega
  subst hna';have a0:=hA 0 (by omega) j hj;refine Wv.W ?_;rw [hZ]
 ·have hna':na=2:=by have:argN (7:Int).toNat=2:=rfl;omega
  subst hna';have a0:=yV ht' (hA 0 (by omega) j hj) (hA 1 (by omega) j hj);refine Wv.W ?_;rw [hZ]
 ·have hna':na=1:=by have:argN (8:Int).toNat=1:=rfl;omega
  subst hna';obtain ⟨m,rfl⟩:=Int.eq_ofNat_of_zero_le (h8 rfl);have e0:((m:Int)).toNat=m:=rfl;unfold lJ at hZ;rw [e0] at hZ;generalize hh:N / 2=h at*;have hp:0<h:=by omega
  have e1:(j:Int).tdiv (h:Int)=((j / h:Nat):Int):=rfl;have e2:(j:Int).tmod (h:Int)=((j % h:Nat):Int):=rfl;have e3:(((j % h:Nat):Int)+(m:Int)).tmod (h:Int)=(((j % h+m) % h:Nat):Int):=rfl;have e4:((j / h:Nat):Int)*(h:Int)=((j / h*h:Nat):Int):=(Int.natCast_mul _ _).symm;have e5:((j / h*h:Nat):Int)+(((j % h+m) % h:Nat):Int)=((j / h*h+(j % h+m) % h:Nat):Int):=(Int.natCast_add _ _).symm;have b1:j / h*h≤j:=Nat.div_mul_le_self j h;have b2:=Nat.mod_lt j hp;have b3:=Nat.mod_lt (j % h+m) hp;have b4:j / h*h+(j % h+m) % h<N:=by
   have:j / h<2:=Nat.div_lt_of_lt_mul (by omega);have:j / h=0∨j / h=1:=(show ∀ q:Nat,q<2→q=0∨q=1 by omega) _ this;rcases this with q | q<;>rw [q]<;>omega
  have b5:j / h≤j:=Nat.div_le_self j h;generalize (j % h+m) % h=q3 at*;generalize j % h=q2 at*;generalize j / h=q1 at*;generalize q1*h=q4 at*;simp (disch:=first|exact Wv.D|fail) only [Wv.B,simprocAttr,e1,e2,e3,e4,e5];rw [hZ]
 ·have hna':na=1:=by have:argN (9:Int).toNat=1:=rfl;omega
  subst hna';have e1:((j:Int)+((N / 2:Nat):Int)).tmod (N:Int)=(((j+N / 2) % N:Nat):Int):=rfl;have b1:=Nat.mod_lt (j+N / 2) (show N>0 by omega);refine Wv.W1 e1 ?_;rw [hZ]
 ·have hna':na=1:=by have:argN (10:Int).toNat=1:=rfl;omega
  subst hna';have a0:=hA 0 (by omega) j hj;have a1:=lsm (hls j hj) ht' a0;refine Wv.W ?_;rw [hZ]
 ·have hna':na=1:=by have:argN (11:Int).toNat=1:=rfl;omega
  subst hna';have a0:=hA 0 (by omega) j hj;have b1:=Ji ht a0;have aon:=h11 rfl;have hE':=hE (A 0 j) ht ht' a0;generalize yZ t (A 0 j)=q at*;obtain ⟨m,rfl⟩:=Int.eq_ofNat_of_zero_le b1.1;have e0:((m:Int)).toNat=m:=rfl;rw [e0] at hZ;refine Wv.W ?_;refine dn (fst:=[]) (cap:=[.ptr 2 0]) (hE'.toP (fun _ _=>False)) ?_ (fun _ _ q=>q.elim);refine Wv.W ?_;rw [hZ]
 ·have hna':na=2:=by have:argN (12:Int).toNat=2:=rfl;omega
  subst hna';have T:=Q9 (hS N t es 12 s n nl li 2 L A ls) (decide (A 0 j=A 1 j));have e:(if decide (A 0 j=A 1 j)=true then (1:Int) else 0)=Z:=by
   rw [←hZ];by_cases q:A 0 j=A 1 j
   ·rw [if_pos q,if_pos (ah q)]
   ·rw [if_neg q,if_neg (by simp [q])]
  rw [e] at T;simp (disch:=first|exact Wv.D|fail) only [Wv.B,simprocAttr,pz,yX,pF,yY];refine dZ T rfl Wv.c Wv.c ?_;simp (disch:=first|exact Wv.D|fail) only [Wv.B,simprocAttr,pz,yX,pF,yY]
 ·have hna':na=1:=by have:argN (13:Int).toNat=1:=rfl;omega
  subst hna';have a0:=hA 0 (by omega) j hj;have b1:=Ji ht a0;have hE':=hE (A 0 j) ht ht' a0;generalize yZ t (A 0 j)=q at*;have T:=Q9 (hS N t es 13 s n nl li 1 L A ls) (decide (q<n));have e:(if decide (q<n)=true then (1:Int) else 0)=Z:=by
   rw [←hZ];by_cases r:q<n
   ·rw [if_pos r,if_pos (ah r)]
   ·rw [if_neg r,if_neg (by simp [r])]
  rw [e] at T;simp (disch:=first|exact Wv.D|fail) only [Wv.B,simprocAttr,pz,yX,pF,yY];refine dn (fst:=[]) (cap:=[.ptr 2 0]) (hE'.toP (fun _ _=>False)) ?_ (fun _ _ q=>q.elim);simp (disch:=first|exact Wv.D|fail) only [Wv.B,simprocAttr,pz,yX,pF,yY];refine dZ T rfl Wv.c Wv.c ?_;simp (disch:=first|exact Wv.D|fail) only [Wv.B,simprocAttr,pz,yX,pF,yY]
 ·have hna':na=1:=by have:argN (14:Int).toNat=1:=rfl;omega
  subst hna';have a0:=hA 0 (by omega) j hj;have aoo:=h14 rfl;have hP':=hP (A 0 j) a0 aoo (by omega);simp (disch:=first|exact Wv.D|fail) only [Wv.B,simprocAttr,pz,yX,pF,yY];refine dn (fst:=[]) (cap:=[]) (hP' _ Wv.c (by rintro r rfl;simp only [Wv.BC]) (by rintro r h;exact h.elim)) ?_ (by rintro av h' ⟨h,_⟩;exact h.elim);simp (disch:=first|exact Wv.D|fail) only [Wv.B,simprocAttr,pz,yX,pF,yY];rw [hZ]
 ·have hna':na=1:=by have:argN (15:Int).toNat=1:=rfl;omega
  subst hna';have hA0: ∀ j,j<N→ -((t - 1) / 2)≤A 0 j∧A 0 j≤(t - 1) / 2:=hA 0 (by omega);have hs:=Jj (f:=A 0) ht' hA0;simp (disch:=first|exact Wv.D|fail) only [Wv.B,simprocAttr,pz,yX,pF,yY];refine aT (σ:=Nat) (fun i=>[(188, .t N 1 (tab N fun j=> .v (.int .i64 (A 0 j)))),(189, .v (.int .i64 N)),(190, .v (.int .i64 i)),(10, .v (.int .i64 (fH (A 0) i)))]) (fun _=>_)
   (fun i=>i≤N) (fun i=>N - i) 0 (Nat.zero_le _) rfl (by simp (disch:=first|exact Wv.D|fail) only [Wv.B,simprocAttr,fH,Int.natCast_zero]) ?_
  intro i hi;by_cases hlt:i<N
  ·have e1:(i:Int)<N:=by omega
   have b1:=hs i (by omega);have b2:=hA0 i hlt;refine Wv.W1 (ah e1) ?_;refine ay (i+1) (by omega) (by omega) rfl (by simp (disch:=first|exact Wv.D|fail) only [Wv.B,simprocAttr,fH,Int.natCast_add,Int.natCast_one])
  ·obtain rfl:i=N:=by omega
   refine Wv.W2 @Int.lt_irrefl @decide_false ?_;rw [hZ]
end
section
open Go.RowKit Wv
theorem ane (N:Nat) (t:Int) (es:Env) (k:Int) (s:ByteArray) (n:Int) (nl:Nat) (li:Nat→Int) (na:Nat) (L:List AV) (A:Nat→Nat→Int) (ls:Nat→Int) (hL: ∀ a,a∈L→Clo a):loH 10 (hS N t es k s n nl li na L A ls):=by
 unfold hS;have h1: ∀ a,a∈(enE N es).map (·.2)→Clo a:=uj N es;refine ⟨?_,fun a ha=> .clo (h1 a ha),?_⟩
 ·simp only [Wv.BL, ↓reduceIte,Nat.reduceLeDiff];omega
 ·simp only [Wv.BL, ↓reduceIte,Nat.reduceLeDiff,eq_true hL];omega
theorem anf   (N : Nat) (t : Int) (es : Env) (k : Int) (s : ByteArray) (n : Int) (nl : Nat) (li : Nat → Int) (na : Nat) (L : List AV) (A : Nat → Nat → Int) (ls : Nat → Int) (hL : ∀ a, a ∈ L → Clo a) : ∀ (i : Nat) (o : Option Ob), (hS N t es k s n nl li na L A ls)[i]? = some o → ∃ o', o = some o' ∧ RnO id 10 o' o' := by
  intro i o ho;unfold hS at ho;match i with
  | 0 => simp at ho; subst ho; exact ⟨_, rfl, .clo (.v _), .clo (.v _), .mp (by omega), trivial⟩
  | 1 => simp at ho; subst ho; exact ⟨_, rfl, rfl, RnL.clo (uj      N es)⟩
  | 2 => simp at ho; subst ho; exact ⟨_, rfl, .ptr (by omega), trivial⟩
  | 3 => simp at ho; subst ho; exact ⟨_, rfl, .clo (.v _), .clo (.v _), .clo (.v _), .clo Wv.c, .clo (by simp only [Wv.BC]; exact hL), trivial⟩
  | 4 => simp at ho; subst ho; exact ⟨_, rfl, rfl, rfl, rfl, RnL.clo Wv.c⟩
  | 5 => simp at ho; subst ho; exact ⟨_, rfl, .own (by omega), trivial⟩
  | 6 => simp at ho; subst ho; exact ⟨_, rfl, .clo (.v _), trivial⟩
  | 7 => simp at ho; subst ho; exact ⟨_, rfl, .clo Wv.c, trivial⟩
  | 8 => simp at ho; subst ho; exact ⟨_, rfl, .clo Wv.c, trivial⟩
  | 9 => simp at ho; subst ho; exact ⟨_, rfl, .fn rfl rfl (by simp) (fun i a b h1 h2 => by
      match i with
      | 0 => simp at h1 h2; subst h1 h2; exact .ptr (by omega)
      | i + 1 => simp at h1), trivial⟩
  | i + 10 => simp at ho
def dS:Env→ByteArray→Option (Nat→Int)
 | [],_=>none
 | p::r,s=>if s=p.1 then some p.2 else dS r s
theorem Jk (N:Nat) (s:ByteArray): ∀ es:Env,eP (.string s) (enE N es)=(dS es s).map (vcA N)
 | []=>rfl
 | p::r=>by
  have ih:=Jk N s r;show (if keyE (.string s) (.string p.1)=true then some (vcA N p.2) else eP (.string s) (enE N r))=_;rw [ih];show _=Option.map (vcA N) (if s=p.1 then some p.2 else dS r s);have:keyE (.string s) (.string p.1)=decide (s=p.1):=Df;rw [this];by_cases e:s=p.1
  ·rw [if_pos (ah e),if_pos e];rfl
  ·rw [if_neg (by simp [e]),if_neg e]
theorem MV (N:Nat): ∀ es:Env,keysB .str (enE N es)=true
 | []=>rfl
 | p::r=>MV N r
variable {N:Nat}
theorem Jl {m:Nat} (es:Env):(∀ x:Value × AV,x∈enE N es→lo m x.2)=True:=eq_true fun a ha=> .clo (uj N es _ (List.mem_map_of_mem ha))
def lsF (k:Int) (nl:Nat) (li:Nat→Int):Nat→Int:=if k=3∨k=10 then vC nl li else Gw
def evX (N:Nat) (t:Int) (es:Env):Ex→Nat→Int
 | .nil=>fun _=>0
 | .mk k s n nl li na ar=>if k=1 then (dS es s).getD (fun _=>0) else fun j=>lH t (slZ N t k n li (lsF k nl li) (fun i=>evX N t es (ar i)) j)
def goE (N:Nat) (t:Int) (es:Env):Ex→Prop
 | .nil=>False
 | .mk k s n nl li na ar=>(k=1→(dS es s).isSome=true)∧(k=8→0≤n)∧(k=11→t≤nl)∧(k=14→0≤n)∧(k=3∨k=10→nl≤N)∧ ∀ i,i<na→goE N t es (ar i)
def okV (N:Nat) (t:Int) (es:Env):Prop:= ∀ s f,dS es s=some f→ ∀ j,j<N→ -((t - 1) / 2)≤f j∧f j≤(t - 1) / 2
theorem aal {t:Int} {es:Env} (ht:3≤t) (ho:t % 2=1) (hvv:okV N t es) (e:Ex) (hg:goE N t es e): ∀ j,j<N→ -((t - 1) / 2)≤evX N t es e j∧evX N t es e j≤(t - 1) / 2:=by
 intro j hj;cases e with
 | nil=>exact hg.elim
 | mk k s n nl li na ar=>
 unfold evX;by_cases h:k=1
 ·rw [if_pos h];have:=hg.1 h;cases hq:dS es s with
  | none=>rw [hq] at this;cases this
  | some f=>exact hvv s f hq j hj
 ·rw [if_neg h];exact AZ ht ho
variable {ar:Nat→Ex}{k n:Int}{li:Nat→Int}{na nl:Nat}{s:ByteArray}
theorem Rf (h:aW (.mk k s n nl li na ar)=true): ∀ i,i<nl→inB (li i)=true:=by
 unfold aW at h;simp only [Bool.and_eq_true] at h;intro i hi;have h9:=h.2.2.2.2.2.2.2.1;simp only [Bool.not_eq_true'] at h9;unfold aG at h9;have:=List.any_eq_false.1 h9 i (List.mem_range.2 hi);simpa using this
theorem A8 (h:aW (.mk k s n nl li na ar)=true):(na:Int)=argN k.toNat:=by
 unfold aW at h;simp only [Bool.and_eq_true,decide_eq_true_eq] at h;exact h.2.2.2.1
theorem Em (h:aW (.mk k s n nl li na ar)=true):inB n=true:=by
 unfold aW at h;simp only [Bool.and_eq_true] at h;exact h.2.2.2.2.2.2.1
theorem Jm (N:Nat) (h: ∀ i,i<nl→inB (li i)=true): ∀ j,j<N→inB (vC nl li j)=true:=by
 intro j _;unfold vC;split
 ·next q=>exact h j q
 ·rfl
theorem Jo (h:inB n=true): -4294967295≤n∧n≤4294967295:=by
 unfold inB at h;rw [Bool.and_eq_true] at h;exact ⟨of_decide_eq_true h.1,of_decide_eq_true h.2⟩
theorem Jp {j:Nat} (hN:4≤N) (h2:N % 2=0) (hj:j<N):lJ N n j<N:=by
 unfold lJ;have b3:=Nat.mod_lt (j % (N / 2)+n.toNat) (show N / 2>0 by omega);have:j / (N / 2)<2:=Nat.div_lt_of_lt_mul (by omega);have:j / (N / 2)=0∨j / (N / 2)=1:=(show ∀ q:Nat,q<2→q=0∨q=1 by omega) _ this;rcases this with q | q<;>rw [q]<;>omega
theorem Rh {t:Int} (ht:3≤t) (ho:t % 2=1): ∀ (f:Nat) (o a k:Int),(-((t - 1) / 2)≤o∧o≤(t - 1) / 2)→ -((t - 1) / 2)≤Ag t f o a k∧Ag t f o a k≤(t - 1) / 2
 | 0,o,a,k,h=>h
 | f+1,o,a,k,h=>by
  unfold Ag;split
  ·refine Rh ht ho f _ _ _ ?_;split
   ·exact AZ ht ho
   ·exact h
  ·exact h
theorem aam {t a:Int} (ht:3≤t) (ho:t % 2=1): -((t - 1) / 2)≤MS t a k∧MS t a k≤(t - 1) / 2:=Rh ht ho 64 1 a k ⟨by show _≤(1:Int);omega,by show (1:Int)≤_;omega⟩
theorem aan {t:Int}  {ls:Nat→Int} {A:Nat→Nat→Int} {j:Nat} (ht:3≤t) (ho:t % 2=1) (ht':t≤2147483647) (hN:4≤N) (hN2:N≤32) (hN3:N % 2=0) (hn:inB n=true) (hli: ∀ i,i<nl→inB (li i)=true) (hna:(na:Int)=argN k.toNat) (hk:2≤k∧k≤15)
  (hA: ∀ a,a<na→ ∀ j,j<N→ -((t - 1) / 2)≤A a j∧A a j≤(t - 1) / 2) (h8:k=8→0≤n) (h11:k=11→t≤nl) (h14:k=14→0≤n) (hls: ∀ j,j<N→inB (ls j)=true) (hj:j<N): -9223372036854775807≤slZ N t k n li ls A j∧slZ N t k n li ls A j≤9223372036854775807:=by
 have hn':=Jo hn;have h0:0<na→ -1073741824≤A 0 j∧A 0 j≤1073741824:=fun q=>by have:=hA 0 q j hj;omega
 have hkk:k=2∨k=3∨k=4∨k=5∨k=6∨k=7∨k=8∨k=9∨k=10∨k=11∨k=12∨k=13∨k=14∨k=15:=by omega
 unfold slZ;have hl:=Jo (hls j hj);rcases hkk with rfl | rfl | rfl | rfl | rfl | rfl | rfl | rfl | rfl | rfl | rfl | rfl | rfl | rfl<;>simp only [Int.reduceEq, ↓reduceIte]
 ·omega
 ·omega
 ·have:argN (4:Int).toNat=2:=rfl;have:=hA 0 (by omega) j hj;have:=hA 1 (by omega) j hj;omega
 ·have:argN (5:Int).toNat=2:=rfl;have:=hA 0 (by omega) j hj;have:=hA 1 (by omega) j hj;omega
 ·have:argN (6:Int).toNat=1:=rfl;have:=hA 0 (by omega) j hj;omega
 ·have:argN (7:Int).toNat=2:=rfl;have:=yV ht' (hA 0 (by omega) j hj) (hA 1 (by omega) j hj);omega
 ·have:argN (8:Int).toNat=1:=rfl;have:=hA 0 (by omega) (lJ N n j) (Jp hN hN3 hj);omega
 ·have:argN (9:Int).toNat=1:=rfl;have:=hA 0 (by omega) ((j+N / 2) % N) (Nat.mod_lt _ (by omega));omega
 ·have:argN (10:Int).toNat=1:=rfl;have:=lsm (hls j hj) ht' (hA 0 (by omega) j hj);omega
 ·have:argN (11:Int).toNat=1:=rfl;have h1:=Ji ht (hA 0 (by omega) j hj);have h2:=h11 rfl;have:=Jo (hli (yZ t (A 0 j)).toNat (by omega));omega
 ·split<;>omega
 ·split<;>omega
 ·have:=aam (t:=t) (a:=A 0 j) (k:=n) ht ho;omega
 ·have:argN (15:Int).toNat=1:=rfl;have:=Jj (f:=A 0) ht' (hA 0 (by omega)) N (Nat.le_refl _);omega
theorem aao (N:Nat) (t:Int) (es:Env) (k:Int) (s:ByteArray) (n:Int) (nl:Nat) (li:Nat→Int) (na:Nat) (L:List AV) (A:Nat→Nat→Int) (ls:Nat→Int) (j:Nat) (ht:3≤t) (ho:t % 2=1) (ht':t≤2147483647) (hN:4≤N) (hN2:N≤32) (hN3:N % 2=0) (hj:j<N)
  (hA: ∀ i,i<na→ ∀ j,j<N→ -((t - 1) / 2)≤A i j∧A i j≤(t - 1) / 2) (hk:2≤k∧k≤15) (hna:(na:Int)=argN k.toNat) (hn:inB n=true) (hls: ∀ j,j<N→inB (ls j)=true) (h8:k=8→0≤n) (h11:k=11→t≤nl) (h14:k=14→0≤n) (hL: ∀ a,a∈L→Clo a) (r:Hp):
  HTP Tryz.prog 123 [.v (.int .i64 j), .ptr 3 0, .ptr 7 0, .ptr 5 0, .ptr 6 0, .ptr 2 0, .ptr 9 0, .ptr 8 0] (hS N t es k s n nl li na L A ls++r) (fun q h'=>q= .v (.int .i64 (slZ N t k n li ls A j))∧h'=hS N t es k s n nl li na L A ls++r) (fun q h'=>False∧h'=hS N t es k s n nl li na L A ls++r):=by
 have hl:(hS N t es k s n nl li na L A ls).length=10:=rfl;have T:RD Tryz.prog 123 [.v (.int .i64 j), .ptr 3 0, .ptr 7 0, .ptr 5 0, .ptr 6 0, .ptr 2 0, .ptr 9 0, .ptr 8 0] (hS N t es k s n nl li na L A ls) (fun q=>q= .v (.int .i64 (slZ N t k n li ls A j))) (fun _=>False):=
  RD.of (((aak N t es k s n nl li na L A ls j ht ho ht' hN hN2 hN3 hj hA hk hna hn hls h8 h11 h14).toP fun _ _=>False).mono (fun _ _ q=>⟨q.1,by rw [q.2,List.take_length]⟩) (fun _ _ q=>q.elim)) (fun r q=>q▸ .clo (.v _)) (fun r q=>q.elim) (by rw [hl];exact ane N t es k s n nl li na L A ls hL)
 exact RD.ext T r (by rw [hl];exact ⟨.clo (.v _), .ptr (by omega), .ptr (by omega), .ptr (by omega), .ptr (by omega), .ptr (by omega), .ptr (by omega), .ptr (by omega),trivial⟩) (by rw [hl];exact anf N t es k s n nl li na L A ls hL) (fun r q=>q▸ .v _) (fun r q=>q.elim)
theorem ajN (N:Nat) (t:Int) (es:Env) (ht:3≤t) (hodd:t % 2=1) (ht':t≤2147483647) (hN:4≤N) (hN2:N≤32) (hN3:N % 2=0) (hvv:okV N t es) (e:Ex) (ho:okE e) (hf:aW e=true) (hg:goE N t es e):RD Tryz.prog 79 [.ptr 0 0, .g (exC e)] (hV N t es) (fun r=>r=vcA N (evX N t es e)) (fun _=>False):=by
 induction e with
 | nil=>exact ho.elim
 | mk k s n nl li na ar ih=>
 obtain ⟨hs,hnl,hna,hh⟩:=ho;have hev:=aal ht hodd hvv;have ⟨⟨hk1,hk2⟩,aiy,hfa⟩:=gq hf;refine RD.of ?_ (by rintro r rfl;exact .clo (uh _ _)) (fun r q=>q.elim) (MQ N t es);rw [cO];have hSp:evX N t es (.mk k s n nl li na ar)=if k=1 then (dS es s).getD (fun _=>0) else fun j=>lH t (slZ N t k n li (lsF k nl li) (fun i=>evX N t es (ar i)) j):=rfl
 generalize evX N t es (.mk k s n nl li na ar)=V at hSp ⊢;unfold hV evC;refine Wv.HTP.by 88 [0,1,3,16,2,31,30,32,5,6,59,8,7,10,9,75,74,76,12,13,11,4] [(2,7),(7,9),(20,6),(1000000,2),(3000007,16),(3000020,1040)] [.tmp 4] Tryz.func79 rfl rfl rfl ?base ?_
 case base=>rfl
 by_cases hk1:k=1
 ·rw [if_pos hk1] at hSp;have hq:=hg.1 hk1;have hlm:=Jk N s es;cases hq2:dS es s with
  | none=>rw [hq2] at hq;cases hq
  | some f=>
   rw [hq2] at hSp hlm;simp only [Option.map_some,Option.getD_some,vcA] at hlm hSp;subst hSp;simp (disch:=first|exact Wv.D|fail) only [Wv.B,simprocAttr,ah hk1,MV,hlm,vcA]
 ·rw [if_neg hk1] at hSp;refine Wv.W1 (aj hk1) ?_;have hLc:=dB (n:=na) (f:=fun i=>exC (ar i)) fun i _=>eU (ar i)
  have hdr: ∀ i,i<na→ ∃ r,List.drop (i*5) (dH na fun i=>exC (ar i))=exC (ar i)++r:=fun i hi=>bM (f:=fun i=>exC (ar i)) (fun i=>iK (ar i)) hi
  generalize hL:(dH na fun i=>exC (ar i))=L at hLc hdr ⊢;refine aT (σ:=Nat) (fun i=>[(2, .ptr 2 0),(3, .ptr 3 0),(5, .ptr 5 0),(30, .v (.int .i64 na)),(31, .v (.int .i64 i))])
   (fun i=>[some (.blk [.v (.int .i64 N), .v (.int .i64 t), .mp 1]),some (.map (enE N es)),some (.blk [.ptr 0 0]),some (.blk [.v (.int .i64 k), .v (.string s), .v (.int .i64 n), .t nl 1 (tab nl fun i=> .v (.int .i64 (li i))), .t na 5 L]),some (.arr 43 1 (tab na fun a=>if a<i then .t N 1 (tab N fun j=> .v (.int .i64 (evX N t es (ar a) j))) else .v (.slice none 0 0)) 0),some (.blk [.own 4 na])])
   (fun i=>i≤na) (fun i=>na - i) 0 (Nat.zero_le _) (by simp (disch:=first|exact Wv.D|fail) only [Wv.B,simprocAttr,Nat.not_lt_zero,if_false]) Wv.V ?_
  intro i hi;by_cases hlt:i<na
  ·have e1:(i:Int)<na:=by omega
   obtain ⟨r2,hd⟩:=hdr i hlt;have hE:=RD.hV (ih i (hh i hlt) (hfa i hlt) (hg.2.2.2.2.2 i hlt));have hG:=dh (ar i);obtain ⟨k',s',n',nl',li',na',ar',hy⟩:=kG (hh i hlt);have hy2:exC (ar i)=_:=(congrArg exC hy).trans (cO k' s' n' nl' li' na' ar');rw [hy2] at hd hE hG;simp only [List.cons_append,List.nil_append] at hd;have h8:(tab na fun a=>if a=i then AV.t N 1 (tab N fun j=> .v (.int .i64 (evX N t es (ar i) j))) else if a<i then AV.t N 1 (tab N fun j=> .v (.int .i64 (evX N t es (ar a) j))) else .v (.slice none 0 0))=tab na fun a=>if a<i+1 then AV.t N 1 (tab N fun j=> .v (.int .i64 (evX N t es (ar a) j))) else .v (.slice none 0 0):=aP fun a ha=>by
    by_cases q:a=i
    ·subst q;rw [if_pos rfl,if_pos (by omega)]
    ·by_cases q2:a<i
     ·rw [if_neg q,if_pos q2,if_pos (by omega)]
     ·rw [if_neg q,if_neg q2,if_neg (by omega)]
   unfold hV evC vcA at hE;refine Wv.W2 (ah e1) hd ?_;refine dn (fst:=[]) (cap:=[]) (hE _ (dM hG) (by rintro r rfl;simp only [Wv.BC]) (by rintro r h;exact h.elim)) ?_ (by rintro av h' ⟨h,_⟩;exact h.elim);refine Wv.W2 @dA h8 ?_;refine ay (i+1) (by omega) (by omega) rfl Wv.V2
  ·obtain rfl:i=na:=by omega
   obtain ⟨A,hAe⟩: ∃ A:Nat→Nat→Int,A=fun a=>evX N t es (ar a):=⟨_,rfl⟩
   have h9:(tab i fun a=>if a<i then AV.t N 1 (tab N fun j=> .v (.int .i64 (evX N t es (ar a) j))) else .v (.slice none 0 0))=tab i fun a=>AV.t N 1 (tab N fun j=> .v (.int .i64 (A a j))):=aP fun a ha=>by rw [if_pos ha,hAe]
   have hA: ∀ a,a<i→ ∀ j,j<N→ -((t - 1) / 2)≤A a j∧A a j≤(t - 1) / 2:=fun a ha=>by rw [hAe];exact hev (ar a) (hg.2.2.2.2.2 a ha)
   rw [h9];rw [←hAe] at hSp;clear h9 hAe hdr ih hev;have hin:=Em hf;have hli:=Rf hf;have hE0:=RD.hV (aaj N t es hN2);have hE1:=fun q=>RD.hV (ae4 N t es nl li hN2 q)
   have hB:=fun n h1 h2=>RD.hV (MR N t es n ht ht' h1 h2)
   have hna':=A8 hf;obtain ⟨h3,h8,h11,h14,ajO,_⟩:=hg;have hP:=fun (ls:Nat→Int) hls j hj=>aao N t es k s n nl li i L A ls j ht hodd ht' hN hN2 hN3 hj hA ⟨by omega,hk2⟩ hna' hin hls h8 h11 h14 hLc
   have hsb:=fun (ls:Nat→Int) hls (j:Nat) hj=>aan (n:=n) (k:=k) (li:=li) (ls:=ls) (N:=N) (A:=A) (j:=j) ht hodd ht' hN hN2 hN3 hin hli hna' ⟨by omega,hk2⟩ hA h8 h11 h14 hls hj
   have half:(N:Int).tdiv 2=((N / 2:Nat):Int):=rfl;unfold hV evC vcA at*;unfold Go.Proofs.YtljfgdlgmdcmfaaGreat.hS at hP;refine Wv.W3 @Int.lt_irrefl @decide_false half ?_;refine aJ (fst:=[]) (cap:=[]) (hE0 _ Wv.c (by rintro r rfl;simp only [Wv.BC]) (by rintro r h;exact h.elim)) ?_ (by rintro av h' ⟨h,_⟩;exact h.elim);rintro av h' ⟨rfl,rfl⟩;by_cases k3:k=3
   ·have hle:lsF k nl li=vC nl li:=if_pos (.inl k3);have hls:=Jm N hli;rw [hle] at hSp;simp (disch:=first|exact Wv.D|fail) only [Wv.B,simprocAttr,ah k3,pz,yX,pF,yY];refine aJ (fst:=[]) (cap:=[]) (hE1 (ajO (.inl k3)) _ Wv.c (by rintro r rfl;simp only [Wv.BC]) (by rintro r h;exact h.elim)) ?_ (by rintro av h' ⟨h,_⟩;exact h.elim);rintro av h' ⟨rfl,rfl⟩;generalize vC nl li=ls at hls hSp ⊢;simp (disch:=first|exact Wv.D|fail) only [Wv.B,simprocAttr,pz,yX,pF,yY];have hPl:=hP ls hls;have hsl:=hsb ls hls;have h0:(tab N fun a=>if a<0 then AV.v (.int .i64 (V a)) else .v (.int .i64 0))=tab N fun _=> .v (.int .i64 0):=aP fun a _=>if_neg (Nat.not_lt_zero a)
    refine aT (σ:=Nat) (fun j=>[(2, .ptr 2 0),(11, .fn (.func 123) [] [.ptr 3 0, .ptr 7 0, .ptr 5 0, .ptr 6 0, .ptr 2 0, .ptr 9 0, .ptr 8 0]),(12, .own 10 N),(74, .v (.int .i64 N)),(75, .v (.int .i64 j))])
     (fun j=>[some (.blk [.v (.int .i64 N), .v (.int .i64 t), .mp 1]),some (.map (enE N es)),some (.blk [.ptr 0 0]),some (.blk [.v (.int .i64 k), .v (.string s), .v (.int .i64 n), .t nl 1 (tab nl fun i=> .v (.int .i64 (li i))), .t i 5 L]),
      some (.arr 43 1 (tab i fun i=> .t N 1 (tab N fun j=> .v (.int .i64 (A i j)))) 0),some (.blk [.own 4 i]),some (.blk [.v (.int .i64 (N / 2:Nat))]),some (.blk [.t N 1 (tab N fun j=> .v (.int .i64 (ls j)))]),some (.blk [.fn (.func 121) [] []]),some (.blk [.fn (.func 122) [] [.ptr 2 0]]),some (.arr 2 1 (tab N fun a=>if a<j then .v (.int .i64 (V a)) else .v (.int .i64 0)) 0)])
     (fun j=>j≤N) (fun j=>N - j) 0 (Nat.zero_le _) (Wv.V1 h0) Wv.V ?_
    intro j hj;by_cases hlt:j<N
    ·have e1:(j:Int)<N:=by omega
     have hPj:=hPl j hlt;have hsj:=hsl j hlt;have hBj:=hB (slZ N t k n li ls A j) hsj.1 hsj.2;have hVj:V j=lH t (slZ N t k n li ls A j):=congrFun hSp j;have h8:(tab N fun a=>if a=j then AV.v (.int .i64 (V j)) else if a<j then AV.v (.int .i64 (V a)) else .v (.int .i64 0))=tab N fun a=>if a<j+1 then AV.v (.int .i64 (V a)) else .v (.int .i64 0):=aP fun a ha=>by
      by_cases q:a=j
      ·subst q;rw [if_pos rfl,if_pos (by omega)]
      ·by_cases q2:a<j
       ·rw [if_neg q,if_pos q2,if_pos (by omega)]
       ·rw [if_neg q,if_neg q2,if_neg (by omega)]
     rw [←hVj] at hBj;refine Wv.W1 (ah e1) ?_;refine dn (fst:=[]) (cap:=[.ptr 3 0, .ptr 7 0, .ptr 5 0, .ptr 6 0, .ptr 2 0, .ptr 9 0, .ptr 8 0]) (hPj _) ?_ (by rintro av h' ⟨h,_⟩;exact h.elim);refine Wv.W ?_;refine aJ (fst:=[]) (cap:=[]) (hBj _ Wv.c (by rintro r rfl;simp only [Wv.BC]) (by rintro r h;exact h.elim)) ?_ (by rintro av h' ⟨h,_⟩;exact h.elim);rintro av h' ⟨rfl,rfl⟩;refine Wv.W2 @dA h8 ?_;refine ay (j+1) (by omega) (by omega) rfl Wv.V2
    ·obtain rfl:j=N:=by omega
     have h9:(tab j fun a=>if a<j then AV.v (.int .i64 (V a)) else .v (.int .i64 0))=tab j fun a=> .v (.int .i64 (V a)):=aP fun a ha=>if_pos ha
     exact Wv.V3 @Int.lt_irrefl @decide_false h9
   ·by_cases k10:k=10
    ·have hle:lsF k nl li=vC nl li:=if_pos (.inr k10);have hls:=Jm N hli;rw [hle] at hSp;simp (disch:=first|exact Wv.D|fail) only [Wv.B,simprocAttr,aj k3,ah k10,pz,yX,pF,yY];refine aJ (fst:=[]) (cap:=[]) (hE1 (ajO (.inr k10)) _ Wv.c (by rintro r rfl;simp only [Wv.BC]) (by rintro r h;exact h.elim)) ?_ (by rintro av h' ⟨h,_⟩;exact h.elim);rintro av h' ⟨rfl,rfl⟩;generalize vC nl li=ls at hls hSp ⊢;simp (disch:=first|exact Wv.D|fail) only [Wv.B,simprocAttr,pz,yX,pF,yY];have hPl:=hP ls hls;have hsl:=hsb ls hls;have h0:(tab N fun a=>if a<0 then AV.v (.int .i64 (V a)) else .v (.int .i64 0))=tab N fun _=> .v (.int .i64 0):=aP fun a _=>if_neg (Nat.not_lt_zero a)
     refine aT (σ:=Nat) (fun j=>[(2, .ptr 2 0),(11, .fn (.func 123) [] [.ptr 3 0, .ptr 7 0, .ptr 5 0, .ptr 6 0, .ptr 2 0, .ptr 9 0, .ptr 8 0]),(12, .own 10 N),(74, .v (.int .i64 N)),(75, .v (.int .i64 j))])
      (fun j=>[some (.blk [.v (.int .i64 N), .v (.int .i64 t), .mp 1]),some (.map (enE N es)),some (.blk [.ptr 0 0]),some (.blk [.v (.int .i64 k), .v (.string s), .v (.int .i64 n), .t nl 1 (tab nl fun i=> .v (.int .i64 (li i))), .t i 5 L]),
       some (.arr 43 1 (tab i fun i=> .t N 1 (tab N fun j=> .v (.int .i64 (A i j)))) 0),some (.blk [.own 4 i]),some (.blk [.v (.int .i64 (N / 2:Nat))]),some (.blk [.t N 1 (tab N fun j=> .v (.int .i64 (ls j)))]),some (.blk [.fn (.func 121) [] []]),some (.blk [.fn (.func 122) [] [.ptr 2 0]]),some (.arr 2 1 (tab N fun a=>if a<j then .v (.int .i64 (V a)) else .v (.int .i64 0)) 0)])
      (fun j=>j≤N) (fun j=>N - j) 0 (Nat.zero_le _) (Wv.V1 h0) Wv.V ?_
     intro j hj;by_cases hlt:j<N
     ·have e1:(j:Int)<N:=by omega
      have hPj:=hPl j hlt;have hsj:=hsl j hlt;have hBj:=hB (slZ N t k n li ls A j) hsj.1 hsj.2;have hVj:V j=lH t (slZ N t k n li ls A j):=congrFun hSp j;have h8:(tab N fun a=>if a=j then AV.v (.int .i64 (V j)) else if a<j then AV.v (.int .i64 (V a)) else .v (.int .i64 0))=tab N fun a=>if a<j+1 then AV.v (.int .i64 (V a)) else .v (.int .i64 0):=aP fun a ha=>by
       by_cases q:a=j
       ·subst q;rw [if_pos rfl,if_pos (by omega)]
       ·by_cases q2:a<j
        ·rw [if_neg q,if_pos q2,if_pos (by omega)]
        ·rw [if_neg q,if_neg q2,if_neg (by omega)]
      rw [←hVj] at hBj;refine Wv.W1 (ah e1) ?_;refine dn (fst:=[]) (cap:=[.ptr 3 0, .ptr 7 0, .ptr 5 0, .ptr 6 0, .ptr 2 0, .ptr 9 0, .ptr 8 0]) (hPj _) ?_ (by rintro av h' ⟨h,_⟩;exact h.elim);refine Wv.W ?_;refine aJ (fst:=[]) (cap:=[]) (hBj _ Wv.c (by rintro r rfl;simp only [Wv.BC]) (by rintro r h;exact h.elim)) ?_ (by rintro av h' ⟨h,_⟩;exact h.elim);rintro av h' ⟨rfl,rfl⟩;refine Wv.W2 @dA h8 ?_;refine ay (j+1) (by omega) (by omega) rfl Wv.V2
     ·obtain rfl:j=N:=by omega
      have h9:(tab j fun a=>if a<j then AV.v (.int .i64 (V a)) else .v (.int .i64 0))=tab j fun a=> .v (.int .i64 (V a)):=aP fun a ha=>if_pos ha
      exact Wv.V3 @Int.lt_irrefl @decide_false h9
    ·have hle:lsF k nl li=Gw:=if_neg (fun h=>h.elim k3 k10);have hls: ∀ j,j<N→inB (Gw j)=true:=fun _ _=>rfl
     rw [hle] at hSp;generalize Gw=ls at hls hSp ⊢;simp (disch:=first|exact Wv.D|fail) only [Wv.B,simprocAttr,aj k3,aj k10,pz,yX,pF,yY];have hPl:=hP ls hls;have hsl:=hsb ls hls;have h0:(tab N fun a=>if a<0 then AV.v (.int .i64 (V a)) else .v (.int .i64 0))=tab N fun _=> .v (.int .i64 0):=aP fun a _=>if_neg (Nat.not_lt_zero a)
     refine aT (σ:=Nat) (fun j=>[(2, .ptr 2 0),(11, .fn (.func 123) [] [.ptr 3 0, .ptr 7 0, .ptr 5 0, .ptr 6 0, .ptr 2 0, .ptr 9 0, .ptr 8 0]),(12, .own 10 N),(74, .v (.int .i64 N)),(75, .v (.int .i64 j))])
      (fun j=>[some (.blk [.v (.int .i64 N), .v (.int .i64 t), .mp 1]),some (.map (enE N es)),some (.blk [.ptr 0 0]),some (.blk [.v (.int .i64 k), .v (.string s), .v (.int .i64 n), .t nl 1 (tab nl fun i=> .v (.int .i64 (li i))), .t i 5 L]),
       some (.arr 43 1 (tab i fun i=> .t N 1 (tab N fun j=> .v (.int .i64 (A i j)))) 0),some (.blk [.own 4 i]),some (.blk [.v (.int .i64 (N / 2:Nat))]),some (.blk [.t N 1 (tab N fun j=> .v (.int .i64 (ls j)))]),some (.blk [.fn (.func 121) [] []]),some (.blk [.fn (.func 122) [] [.ptr 2 0]]),some (.arr 2 1 (tab N fun a=>if a<j then .v (.int .i64 (V a)) else .v (.int .i64 0)) 0)])
      (fun j=>j≤N) (fun j=>N - j) 0 (Nat.zero_le _) (Wv.V1 h0) Wv.V ?_
     intro j hj;by_cases hlt:j<N
     ·have e1:(j:Int)<N:=by omega
      have hPj:=hPl j hlt;have hsj:=hsl j hlt;have hBj:=hB (slZ N t k n li ls A j) hsj.1 hsj.2;have hVj:V j=lH t (slZ N t k n li ls A j):=congrFun hSp j;have h8:(tab N fun a=>if a=j then AV.v (.int .i64 (V j)) else if a<j then AV.v (.int .i64 (V a)) else .v (.int .i64 0))=tab N fun a=>if a<j+1 then AV.v (.int .i64 (V a)) else .v (.int .i64 0):=aP fun a ha=>by
       by_cases q:a=j
       ·subst q;rw [if_pos rfl,if_pos (by omega)]
       ·by_cases q2:a<j
        ·rw [if_neg q,if_pos q2,if_pos (by omega)]
        ·rw [if_neg q,if_neg q2,if_neg (by omega)]
      rw [←hVj] at hBj;refine Wv.W1 (ah e1) ?_;refine dn (fst:=[]) (cap:=[.ptr 3 0, .ptr 7 0, .ptr 5 0, .ptr 6 0, .ptr 2 0, .ptr 9 0, .ptr 8 0]) (hPj _) ?_ (by rintro av h' ⟨h,_⟩;exact h.elim);refine Wv.W ?_;refine aJ (fst:=[]) (cap:=[]) (hBj _ Wv.c (by rintro r rfl;simp only [Wv.BC]) (by rintro r h;exact h.elim)) ?_ (by rintro av h' ⟨h,_⟩;exact h.elim);rintro av h' ⟨rfl,rfl⟩;refine Wv.W2 @dA h8 ?_;refine ay (j+1) (by omega) (by omega) rfl Wv.V2
     ·obtain rfl:j=N:=by omega
      have h9:(tab j fun a=>if a<j then AV.v (.int .i64 (V a)) else .v (.int .i64 0))=tab j fun a=> .v (.int .i64 (V a)):=aP fun a ha=>if_pos ha
      exact Wv.V3 @Int.lt_irrefl @decide_false h9
end
section
open Go.RowKit Wv
def mxN (f:Nat→Int):Nat→Int
 | 0=>f 0
 | i+1=>if f (i+1)>mxN f i then f (i+1) else mxN f i
def mnN (f:Nat→Int):Nat→Int
 | 0=>f 0
 | i+1=>if f (i+1)<mnN f i then f (i+1) else mnN f i
theorem Jq     {f : Nat → Int} {h : Int} : ∀ n, mxN f n ≤ h ↔ ∀ i, i ≤ n → f i ≤ h
  | 0 => ⟨fun q i hi => by obtain rfl : i = 0 := by omega
                           exact q, fun q => q 0 (Nat.le_refl _)⟩
  | n + 1 => by
    have ih := Jq     (f := f) (h := h) n;unfold mxN;constructor
    · intro q i hi
      by_cases e : i = n + 1
      · subst e; split at q <;> omega
      · exact ih.1 (by split at q <;> omega) i (by omega)
    · intro q
      have h1 := ih.2 fun i hi => q i (by omega)
      have h2 := q (n + 1) (Nat.le_refl _);split <;> omega
theorem Jr     {f : Nat → Int} {h : Int} : ∀ n, h ≤ mnN f n ↔ ∀ i, i ≤ n → h ≤ f i
  | 0 => ⟨fun q i hi => by obtain rfl : i = 0 := by omega
                           exact q, fun q => q 0 (Nat.le_refl _)⟩
  | n + 1 => by
    have ih := Jr     (f := f) (h := h) n;unfold mnN;constructor
    · intro q i hi
      by_cases e : i = n + 1
      · subst e; split at q <;> omega
      · exact ih.1 (by split at q <;> omega) i (by omega)
    · intro q
      have h1 := ih.2 fun i hi => q i (by omega)
      have h2 := q (n + 1) (Nat.le_refl _);split <;> omega
theorem ae7 (n:Nat) (f:Nat→Int) (h1:1≤n) (h2:n≤140737488351232):TC Tryz.prog 77 [vcA n f] (.v (.int .i64 (mxN f (n - 1)))):=by
 unfold vcA;refine Wv.TC.by 25 [0,7,4,15,3,2] [] [.tmp 2] Tryz.func77 rfl rfl rfl ?clo ?_
 case clo=>simp only [Wv.BC]
 refine Wv.W ?_;refine aT (σ:=Nat) (fun i=>[(0, .t n 1 (tab n fun j=> .v (.int .i64 (f j)))),(3, .v (.int .i64 (mxN f i))),(4, .v (.int .i64 (i+1:Nat)))]) (fun _=>[]) (fun i=>i≤n - 1) (fun i=>n - i) 0 (Nat.zero_le _) Wv.V (by simp (disch:=first|exact Wv.D|fail) only [Wv.B,simprocAttr,mxN]) ?_;intro i hi;by_cases hlt:i+1<n
 ·have e1:((i+1:Nat):Int)<n:=by omega
  have hm:mxN f (i+1)=if f (i+1)>mxN f i then f (i+1) else mxN f i:=rfl
  refine Wv.W1 (ah e1) ?_;refine ay (i+1) (by omega) (by omega) rfl (Wv.V3 hm @Int.natCast_add @Int.natCast_one)
 ·obtain rfl:i=n - 1:=by omega
  have e1: ¬ ((n - 1+1:Nat):Int)<n:=by omega
  exact Wv.V1 (aj e1)
theorem ae8 (n:Nat) (f:Nat→Int) (h1:1≤n) (h2:n≤140737488351232):TC Tryz.prog 78 [vcA n f] (.v (.int .i64 (mnN f (n - 1)))):=by
 unfold vcA;refine Wv.TC.by 25 [0,7,4,15,3,2] [] [.tmp 2] Tryz.func78 rfl rfl rfl ?clo ?_
 case clo=>simp only [Wv.BC]
 refine Wv.W ?_;refine aT (σ:=Nat) (fun i=>[(0, .t n 1 (tab n fun j=> .v (.int .i64 (f j)))),(3, .v (.int .i64 (mnN f i))),(4, .v (.int .i64 (i+1:Nat)))]) (fun _=>[]) (fun i=>i≤n - 1) (fun i=>n - i) 0 (Nat.zero_le _) Wv.V (by simp (disch:=first|exact Wv.D|fail) only [Wv.B,simprocAttr,mnN]) ?_;intro i hi;by_cases hlt:i+1<n
 ·have e1:((i+1:Nat):Int)<n:=by omega
  have hm:mnN f (i+1)=if f (i+1)<mnN f i then f (i+1) else mnN f i:=rfl
  refine Wv.W1 (ah e1) ?_;refine ay (i+1) (by omega) (by omega) rfl (Wv.V3 hm @Int.natCast_add @Int.natCast_one)
 ·obtain rfl:i=n - 1:=by omega
  have e1: ¬ ((n - 1+1:Nat):Int)<n:=by omega
  exact Wv.V1 (aj e1)
theorem Va (n:Nat) (f:Nat→Int) (h1:1≤n) (h2:n≤100000):TC Tryz.prog 80 [vcA n f] (vcA n f):=by
 unfold vcA;refine Wv.TC.by 8 [0,4,2] [] [.tmp 2] Tryz.func80 rfl rfl rfl ?clo ?_
 case clo=>simp only [Wv.BC]
 have hnil: ∀ (h:Hp) (c:List AV),zx h (.t n 1 c)=some false:=fun _ _=>if_pos h1
 exact Wv.V1 hnil
def bP:Env→ByteArray→(Nat→Int)→Env
 | [],s,f=>[(s,f)]
 | p::r,s,f=>if s=p.1 then (s,f)::r else p::bP r s f
theorem PE (N:Nat) (s:ByteArray) (f:Nat→Int): ∀ es:Env,kC (.string s) (vcA N f) (enE N es)=enE N (bP es s f)
 | []=>rfl
 | p::q=>by
  have ih:=PE N s f q;show (if keyE (.string s) (.string p.1)=true then _ else (Value.string p.1,vcA N p.2)::kC (.string s) (vcA N f) (enE N q))=enE N (if s=p.1 then _ else _);rw [ih];have:keyE (.string s) (.string p.1)=decide (s=p.1):=Df;rw [this];by_cases e:s=p.1
  ·rw [if_pos (ah e),if_pos e,e];rfl
  ·rw [if_neg (by simp [e]),if_neg e];rfl
theorem rQ (s s':ByteArray) (f:Nat→Int): ∀ es:Env,dS (bP es s f) s'=if s'=s then some f else dS es s'
 | []=>rfl
 | p::q=>by
  have ih:=rQ s s' f q;unfold bP;by_cases e:s=p.1
  ·rw [if_pos e];show (if s'=s then some f else dS q s')=if s'=s then some f else (if s'=p.1 then some p.2 else dS q s')
   by_cases e2:s'=s
   ·rw [if_pos e2,if_pos e2]
   ·rw [if_neg e2,if_neg e2,if_neg (by rw [←e];exact e2)]
  ·rw [if_neg e];show (if s'=p.1 then some p.2 else dS (bP q s f) s')=if s'=s then some f else (if s'=p.1 then some p.2 else dS q s')
   rw [ih];by_cases e2:s'=p.1
   ·rw [if_pos e2,if_neg (by rw [e2];exact fun h=>e h.symm),if_pos e2]
   ·rw [if_neg e2,if_neg e2]
theorem Ri {N:Nat} {t:Int} {es:Env} {s:ByteArray} {f:Nat→Int} (h:okV N t es) (hf: ∀ j,j<N→ -((t - 1) / 2)≤f j∧f j≤(t - 1) / 2):okV N t (bP es s f):=by
 intro s' f' h';rw [rQ] at h';split at h'
 ·injection h' with h';subst h';exact hf
 ·exact h s' f' h'
theorem rdV {N:Nat} {t:Int} {es:Env} {f:FuncId} {args:List AV} {R p:AV→Prop} (T:RD Tryz.prog f (.ptr 0 0::args) (hV N t es) R p) (o0 o1:Option Ob) (r:Hp) (ha: ∀ (a:AV),a∈args→Clo a) (hR: ∀ r,R r→Clo r) (hp: ∀ r,p r→Clo r):
  RD Tryz.prog f (.ptr 3 0::args) (o0::o1::some (.map (enE N es))::some (.blk [.v (.int .i64 N), .v (.int .i64 t), .mp 2])::r) R p:=by
 refine RD.frame (σ:=fun i=>if i=0 then 3 else 2) T ⟨fun i j hi hj e=>?_,fun i o ho=>?_⟩ ⟨.ptr (by show 0<2;omega),RnL.clo ha⟩ hR hp
 ·have hi':i<2:=hi;have hj':j<2:=hj;have e':(if i=0 then 3 else 2)=(if j=0 then 3 else 2):=e;split at e'<;>split at e'<;>omega
 ·unfold hV at ho ⊢;match i with
  | 0=>
   simp at ho;subst ho;exact ⟨_,_,rfl,rfl, .clo (.v _), .clo (.v _), .mp (by show 1<2;omega),trivial⟩
  | 1=>
   simp at ho;subst ho;exact ⟨_,_,rfl,rfl,rfl,RnL.clo (uj N es)⟩
  | i+2=>simp at ho
end
section
open Go.RowKit Wv
def vsA (m:Nat) (ln:Nat→Nat) (vs:Nat→Nat→Int):AV:= .t m 1 (tab m fun i=>vcA (ln i) (vs i))
def vF (N:Nat) (t:Int) (n:Nat) (f:Nat→Int):Bool:=!decide ((n:Int)=N) || (decide (mxN f (n - 1)>(t - 1) / 2) || decide (mnN f (n - 1)< -((t - 1) / 2)))
def vG (fi:Nat→ByteArray) (vs:Nat→Nat→Int):Nat→Env
 | 0=>[]
 | i+1=>bP (vG fi vs i) (fi i) (vs i)
def MW (N:Nat) (t:Int) (es:Env) (ln:Nat→ByteArray) (le:Nat→Ex):Nat→Env
 | 0=>es
 | i+1=>bP (MW N t es ln le i) (ln i) (evX N t (MW N t es ln le i) (le i))
def qm (N:Nat) (t:Int) (c:Ci) (vs:Nat→Nat→Int) (i:Nat):Env:=MW N t (vG c.fi vs c.ni) c.ln c.le i
def oJ (N:Nat) (t:Int) (c:Ci) (vs:Nat→Nat→Int) (i:Nat):Nat→Int:=(dS (qm N t c vs c.nl) (c.fo i)).getD fun _=>0
def goC (N:Nat) (t:Int) (c:Ci) (vs:Nat→Nat→Int):Prop:=
 (∀ i,i<c.nl→okE (c.le i)∧aW (c.le i)=true∧goE N t (qm N t c vs i) (c.le i))∧c.no≤8∧ ∀ i,i<c.no→(dS (qm N t c vs c.nl) (c.fo i)).isSome=true
def pG (N:Nat) (t e:Int) (c:Ci) (m:Nat) (ln:Nat→Nat) (vs:Nat→Nat→Int):AV:=
 if e≠0 then .tup [.v (.slice none 0 0), .v (.int .i64 e)] else if m≠c.ni then .tup [.v (.slice none 0 0), .v (.int .i64 2)] else if aG m (fun i=>vF N t (ln i) (vs i))=true then .tup [.v (.slice none 0 0), .v (.int .i64 2)]
 else .tup [.t c.no 1 (tab c.no fun i=>vcA N (oJ N t c vs i)), .v (.int .i64 0)]
theorem aap {N:Nat} {t:Int} {n:Nat} {f:Nat→Int} (h:vF N t n f=false) (h4:4≤N):n=N∧ ∀ j,j<N→ -((t - 1) / 2)≤f j∧f j≤(t - 1) / 2:=by
 unfold vF at h;simp only [Bool.or_eq_false_iff,decide_eq_false_iff_not,Bool.not_eq_false',decide_eq_true_eq] at h;obtain ⟨h1,h2,h3⟩:=h;have h1':n=N:=by omega
 subst h1';refine ⟨rfl,fun j hj=>⟨?_,?_⟩⟩
 ·exact (Jr (f:=f) (h:= -((t - 1) / 2)) (n - 1)).1 (by omega) j (by omega)
 ·exact (Jq (f:=f) (h:=(t - 1) / 2) (n - 1)).1 (by omega) j (by omega)
theorem aaq (x:Par) (c:Ci) (N:Nat) (t e at_:Int) (ss:List (Bool × Nat)) (hx:x.n=N) (ht:3≤t) (hodd:t % 2=1) (ht':t≤2147483647) (hN:4≤N) (hN2:N≤32) (hN3:N % 2=0)
  (TT:TC Tryz.prog 19 [.g (dQ x), .g (ciC c)] (typeA (ss,at_,e))) (TM:TC Tryz.prog 60 [.g (dQ x), .v (.int .i64 x.r)] (.tup [.v (.int .i64 t), .v (.int .i64 0)])) (hok:okC c)
  (m:Nat) (ln:Nat→Nat) (vs:Nat→Nat→Int) (hm:m≤140737488351232) (hln: ∀ i,i<m→ln i≤140737488351232) (hgo:e=0→goC N t c vs):
  TC Tryz.prog 33 [.g (dQ x), .g (ciC c),vsA m ln vs] (pG N t e c m ln vs):=by
 have hP:=dV x;have hcc:=tu c;have hll:=Dt c;have hlc:=iR c;have hnl:=hok.nl;have hni:=hok.ni;have hA:pG N t e c m ln vs=if e≠0 then .tup [.v (.slice none 0 0), .v (.int .i64 e)] else if m≠c.ni then .tup [.v (.slice none 0 0), .v (.int .i64 2)] else if aG m (fun i=>vF N t (ln i) (vs i))=true then .tup [.v (.slice none 0 0), .v (.int .i64 2)]
  else .tup [.t c.no 1 (tab c.no fun i=>vcA N (oJ N t c vs i)), .v (.int .i64 0)]:=rfl
 have Oa: ∀ a,a=pG N t e c m ln vs→Clo a:=by
  rintro a rfl;unfold pG vcA;split
  ·simp only [Wv.BC]
  ·split
   ·simp only [Wv.BC]
   ·split<;>simp only [Wv.BC]
 unfold vsA vcA;unfold dQ ciC bT at*;rw [hx] at*;refine Wv.TC.by 127 [0,1,3,4,10,29,2,43,11,52,51,53,50,15,78,13,14,93,92,94,91,17,111,110,112,109,18,20,6,7] [(13,10),(18,10)] [.tmp 6, .tmp 7] Tryz.func33 rfl rfl rfl ?clo ?_
 case clo=>exact Oa _ rfl
 unfold typeA at TT;refine Wv.W ?_;refine ak TT rfl (zM (.g hP) (.g hcc)) (by simp only [Wv.BC];exact lT _) ?_;by_cases he:e=0
 ·rw [if_neg (fun q=>q he)] at hA;refine Wv.W1 (ah he) ?_;refine ak TM rfl (zM (.g hP) Wv.c) Wv.c ?_;by_cases hmi:m=c.ni
  ·rw [if_neg (fun q=>q hmi)] at hA;have e1:(m:Int)=c.ni:=by omega
   have hdr: ∀ i,i<c.nl→ ∃ r,List.drop (i*6) c.lets=jg (c.ln i) (c.le i)++r:=fun i hi=>bM (f:=fun i=>jg (c.ln i) (c.le i)) (fun i=>iQ _ _) hi
   generalize c.lets=L at hll hlc hdr ⊢;obtain ⟨hgl,hgn,hgs⟩:=hgo he;have hq:(t - 1).tdiv 2=(t - 1) / 2:=Int.tdiv_eq_ediv_of_nonneg (by omega);have hq2:(0 - (t - 1)).tdiv 2= -((t - 1) / 2):=by rw [Int.zero_sub,Int.neg_tdiv,hq]
   have hput:=PE N;refine Wv.W1 (ah e1) ?_;refine aT (σ:=Nat) (fun i=>[(3, .ptr 0 0),(4, .ptr 1 0),(11, .v (.int .i64 t)),(13, .ptr 3 0),(50, .t m 1 (tab m fun i=> .t (ln i) 1 (tab (ln i) fun j=> .v (.int .i64 (vs i j))))),(51, .v (.int .i64 m)),(52, .v (.int .i64 i))])
    (fun i=>[some (.blk [.v (.int .i64 N), .v (.int .u32 x.p), .v (.int .i64 x.r), .t x.ch.length 1 (x.ch.map fun (c:Nat)=> .v (.int .u32 c)), .v (.int .u32 x.sp), .v (.int .i64 x.wt), .v (.int .u32 x.er)]),some (.blk [.v (.string c.name), .t c.ni 1 (tab c.ni fun i=> .v (.string (c.fi i))), .t c.nl 6 L, .t c.no 1 (tab c.no fun i=> .v (.string (c.fo i)))]),some (.map (enE N (vG c.fi vs i))),some (.blk [.v (.int .i64 N), .v (.int .i64 t), .mp 2])])
    (fun i=>i≤m∧ ∀ a,a<i→vF N t (ln a) (vs a)=false) (fun i=>m - i) 0 ⟨Nat.zero_le _,fun a h=>absurd h (Nat.not_lt_zero a)⟩ (by simp (disch:=first|exact Wv.D|fail) only [Wv.B,simprocAttr,vG,enE]) Wv.V ?_
   rintro i ⟨hi,hgood⟩;by_cases hlt:i<m
   ·have e2:(i:Int)<m:=by omega
    have hli:=hln i hlt;have hbv:vF N t (ln i) (vs i)=(!decide ((ln i:Int)=N) || (decide (mxN (vs i) (ln i - 1)>(t - 1) / 2) || decide (mnN (vs i) (ln i - 1)< -((t - 1) / 2)))):=rfl;have hbad:vF N t (ln i) (vs i)=true→pG N t e c m ln vs= .tup [.v (.slice none 0 0), .v (.int .i64 2)]:=fun h=>by
     rw [hA];exact if_pos (by unfold aG;exact List.any_eq_true.2 ⟨i,List.mem_range.2 hlt,h⟩)
    by_cases hL:(ln i:Int)=N
    ·have Tx:=ae7 (ln i) (vs i) (by omega) hli;have Tn:=ae8 (ln i) (vs i) (by omega) hli;have hLn:ln i=N:=by omega
     unfold vcA at Tx Tn;rw [ah hL,Bool.not_true,Bool.false_or] at hbv;refine Wv.W3 (ah e2) (ah hL) hq ?_;refine ak Tx rfl Wv.c Wv.c ?_;by_cases h1:mxN (vs i) (ln i - 1)>(t - 1) / 2
     ·rw [ah h1,Bool.true_or] at hbv;have hbd:=hbad hbv;exact Wv.V3 hq (ah h1) hbd
     ·rw [aj h1,Bool.false_or] at hbv;refine Wv.W2 hq (aj h1) ?_;refine ak Tn rfl Wv.c Wv.c ?_;by_cases h2:mnN (vs i) (ln i - 1)< -((t - 1) / 2)
      ·rw [ah h2] at hbv;have hbd:=hbad hbv;exact Wv.V3 hq2 (ah h2) hbd
      ·rw [aj h2] at hbv;have Gx:=hput (c.fi i) (vs i) (vG c.fi vs i);unfold vcA at Gx;rw [hLn] at h2 ⊢;simp (disch:=first|exact Wv.D|fail) only [Wv.B,simprocAttr,hq2,aj h2,Gx,MV];refine ay (i+1) ⟨by omega,fun a ha=>by by_cases q:a=i;exact q▸hbv;exact hgood a (by omega)⟩ (by omega) (by simp (disch:=first|exact Wv.D|fail) only [Wv.B,simprocAttr,hLn,vG]) Wv.V2
    ·rw [aj hL,Bool.not_false,Bool.true_or] at hbv;have hbd:=hbad hbv;exact Wv.V3 (ah e2) (aj hL) hbd
   ·obtain rfl:i=m:=by omega
    have hnb: ¬ aG i (fun i=>vF N t (ln i) (vs i))=true:=by
     unfold aG;intro h;obtain ⟨a,ha,hb⟩:=List.any_eq_true.1 h;rw [hgood a (List.mem_range.1 ha)] at hb;cases hb
    rw [if_neg hnb] at hA;have hev: ∀ i,i≤c.nl→okV N t (qm N t c vs i):=by
     intro k;induction k with
     | zero=>
      intro _;show okV N t (vG c.fi vs c.ni);rw [←hmi];have: ∀ a,a≤i→okV N t (vG c.fi vs a):=by
       intro a;induction a with
       | zero=>intro _ s f h;cases h
       | succ a ih2=>intro ha;exact Ri (ih2 (by omega)) (aap (hgood a (by omega)) hN).2
      exact this i (Nat.le_refl _)
     | succ k ih2=>
      intro hk;exact Ri (ih2 (by omega)) (aal ht hodd (ih2 (by omega)) (c.le k) (hgl k (by omega)).2.2)
    refine Wv.W2 @Int.lt_irrefl @decide_false ?_;clear hgood hi hlt hnb hln;refine aT (σ:=Nat) (fun i=>[(3, .ptr 0 0),(4, .ptr 1 0),(13, .ptr 3 0),(91, .t c.nl 6 L),(92, .v (.int .i64 c.nl)),(93, .v (.int .i64 i))])
     (fun i=>[some (.blk [.v (.int .i64 N), .v (.int .u32 x.p), .v (.int .i64 x.r), .t x.ch.length 1 (x.ch.map fun (c:Nat)=> .v (.int .u32 c)), .v (.int .u32 x.sp), .v (.int .i64 x.wt), .v (.int .u32 x.er)]),some (.blk [.v (.string c.name), .t c.ni 1 (tab c.ni fun i=> .v (.string (c.fi i))), .t c.nl 6 L, .t c.no 1 (tab c.no fun i=> .v (.string (c.fo i)))]),some (.map (enE N (qm N t c vs i))),some (.blk [.v (.int .i64 N), .v (.int .i64 t), .mp 2])])
     (fun i=>i≤c.nl) (fun i=>c.nl - i) 0 (Nat.zero_le _) (by simp (disch:=first|exact Wv.D|fail) only [Wv.B,simprocAttr,qm,MW,hmi]) Wv.V ?_
    intro i hi;by_cases hlt:i<c.nl
    ·have e2:(i:Int)<c.nl:=by omega
     obtain ⟨r2,hd⟩:=hdr i hlt;obtain ⟨ho1,hf1,hg1⟩:=hgl i hlt;have TE:=ajN N t (qm N t c vs i) ht hodd ht' hN hN2 hN3 (hev i hi) (c.le i) ho1 hf1 hg1;have hG:=dh (c.le i);have hGl:=wS (c.ln i) (c.le i);obtain ⟨k',s',n',nl',li',na',ar',hy⟩:=kG ho1;have hy2:exC (c.le i)=_:=(congrArg exC hy).trans (cO k' s' n' nl' li' na' ar');unfold jg at hd hGl;rw [hy2] at hd TE hG hGl;simp only [List.cons_append,List.nil_append] at hd;have Gx:=PE N (c.ln i) (evX N t (qm N t c vs i) (c.le i)) (qm N t c vs i);have hnx:qm N t c vs (i+1)=bP (qm N t c vs i) (c.ln i) (evX N t (qm N t c vs i) (c.le i)):=rfl;rw [←hnx] at Gx;have hE:=rdV TE;unfold vcA at Gx hE;refine Wv.W2 (ah e2) hd ?_;refine dn (fst:=[]) (cap:=[]) (hE _ _ _ (dM hG) (by rintro r rfl;simp only [Wv.BC]) (by rintro r h;exact h.elim)) ?_ (by rintro av h' ⟨h,_⟩;exact h.elim);simp (disch:=first|exact Wv.D|fail) only [Wv.B,simprocAttr,Gx,MV];refine Wv.iw (i+1) 4 (by first | decide | exact Nat.le_of_ble_eq_true rfl) (by omega) (by omega) (Wv.V2f @bG hnx) (Wv.V3 @Int.natCast_add @Int.natCast_one hnx) (by simp only [Wv.BL, ↓reduceIte,Nat.reduceLeDiff,eq_true hlc,eq_true hlc,kX,Jl]<;>omega) (by simp only [Wv.BL, ↓reduceIte,Nat.reduceLeDiff,eq_true hlc,eq_true hlc,kX,Jl]<;>omega)
    ·obtain rfl:i=c.nl:=by omega
     refine Wv.W2 @Int.lt_irrefl @decide_false ?_;refine lQ (σ:=Nat) (fun i=>[(4, .ptr 1 0),(13, .ptr 3 0),(18, .own 4 i),(109, .t c.no 1 (tab c.no fun i=> .v (.string (c.fo i)))),(110, .v (.int .i64 c.no)),(111, .v (.int .i64 i))])
      (fun i=>[some (.blk [.v (.int .i64 N), .v (.int .u32 x.p), .v (.int .i64 x.r), .t x.ch.length 1 (x.ch.map fun (c:Nat)=> .v (.int .u32 c)), .v (.int .u32 x.sp), .v (.int .i64 x.wt), .v (.int .u32 x.er)]),some (.blk [.v (.string c.name), .t c.ni 1 (tab c.ni fun i=> .v (.string (c.fi i))), .t c.nl 6 L, .t c.no 1 (tab c.no fun i=> .v (.string (c.fo i)))]),some (.map (enE N (qm N t c vs c.nl))),some (.blk [.v (.int .i64 N), .v (.int .i64 t), .mp 2]),some (.arr 43 1 (tab i fun i=> .t N 1 (tab N fun j=> .v (.int .i64 (oJ N t c vs i j)))) 0)])
      (fun i=>i≤c.no) (fun i=>c.no - i) 0 (Nat.zero_le _) ?_ ?_
     ·refine Ent.trans (Ent.nil 18 43 1 (by omega) rfl) (Ent.fit ?_);exact Wv.V
     intro i hi;by_cases hlt:i<c.no
     ·have e2:(i:Int)<c.no:=by omega
      have hlm:=Jk N (c.fo i) (qm N t c vs c.nl);have hsm:=hgs i hlt;have hof:oJ N t c vs i=(dS (qm N t c vs c.nl) (c.fo i)).getD fun _=>0:=rfl
      cases hq3:dS (qm N t c vs c.nl) (c.fo i) with
      | none=>rw [hq3] at hsm;cases hsm
      | some f=>
      rw [hq3] at hlm hof;have aop:f=oJ N t c vs i:=hof.symm;subst aop;simp only [Option.map_some,vcA] at hlm;have TC1:=Va N (oJ N t c vs i) (by omega) (by omega);unfold vcA at TC1;refine Wv.W3 (ah e2) @MV hlm ?_;refine ak TC1 rfl Wv.c Wv.c ?_;refine Wv.W ?_;refine Wv.iw (i+1) 5 (by first | decide | exact Nat.le_of_ble_eq_true rfl) (by omega) (by omega) (Wv.V1 @bG) Wv.V2 (by simp only [Wv.BL, ↓reduceIte,Nat.reduceLeDiff,eq_true hlc,kX,Jl]<;>omega) (by simp only [Wv.BL, ↓reduceIte,Nat.reduceLeDiff,eq_true hlc,kX,Jl]<;>omega)
     ·obtain rfl:i=c.no:=by omega
      unfold vcA at hA;exact Wv.V3 @Int.lt_irrefl @decide_false hA
  ·rw [if_pos hmi] at hA;have e1: ¬ (m:Int)=c.ni:=by omega
   exact Wv.V2f (aj e1) hA
 ·rw [if_pos he] at hA;exact Wv.V2f (aj he) hA
end
section
open Go.RowKit Wv
theorem Rj {f:Nat→Except Int (Bool × Nat)}: ∀ {n:Nat} {r:Bool × Nat × Nat},bH f n= .ok r→ ∀ i,i<n→ ∃ q,f i= .ok q
 | 0,r,h,i,hi=>absurd hi (Nat.not_lt_zero i)
 | n+1,r,h,i,hi=>by
  simp only [bH] at h;cases h1:bH f n with
  | error e=>rw [h1] at h;cases h
  | ok p=>
   obtain ⟨kn,d,u⟩:=p;rw [h1] at h;simp only at h;cases h2:f n with
   | error e=>rw [h2] at h;cases h
   | ok q=>
    by_cases e:i=n
    ·subst e;exact ⟨q,h2⟩
    ·exact Rj h1 i (by omega)
theorem MX {f:Nat→Except Int (Bool × Nat)}: ∀ {n:Nat} {e:Int},bH f n= .error e→ ∃ i,i<n∧f i= .error e
 | 0,e,h=>by cases h
 | n+1,e,h=>by
  simp only [bH] at h;cases h1:bH f n with
  | error e'=>
   rw [h1] at h;injection h with h;subst h;obtain ⟨i,hi,q⟩:=MX h1;exact ⟨i,by omega,q⟩
  | ok p=>
   obtain ⟨kn,d,u⟩:=p;rw [h1] at h;simp only at h;cases h2:f n with
   | error e'=>rw [h2] at h;injection h with h;subst h;exact ⟨n,by omega,h2⟩
   | ok q=>rw [h2] at h;cases h
variable {x:Par}
theorem ae9 {t:Nat} {e:Ex} {u:Nat} {q:Int} (h:ruA x t e u= .error q):q≠0:=by
 cases e with
 | nil=>cases h
 | mk k s n nl li na ar=>
  simp only [ruA] at h;have z: ∀ {b:Prop} [Decidable b] {v:Nat} {er:Int},er≠0→(if b then (.ok v:Except Int Nat) else .error er)= .error q→q≠0:=fun {b _ v er} he hq=>by
   by_cases c:b
   ·rw [if_pos c] at hq;cases hq
   ·rw [if_neg c] at hq;injection hq with hq;subst hq;exact he
  have z2: ∀ {b c:Prop} [Decidable b] [Decidable c] {v:Nat},(if b then (if c then (.ok v:Except Int Nat) else .error 233) else .error 231)= .error q→q≠0:=fun {b c _ _ v} hq=>by
   by_cases c':b
   ·rw [if_pos c'] at hq;exact z (by decide) hq
   ·rw [if_neg c'] at hq;injection hq with hq;subst hq;decide
  by_cases c2:k=2
  ·rw [if_pos c2] at h;exact z (by decide) h
  rw [if_neg c2] at h;by_cases c3:k=3
  ·rw [if_pos c3] at h;exact z (by decide) h
  rw [if_neg c3] at h;by_cases c7:k=7
  ·rw [if_pos c7] at h;cases h
  rw [if_neg c7] at h;by_cases c8:k=8
  ·rw [if_pos c8] at h;exact z (by decide) h
  rw [if_neg c8] at h;by_cases c10:k=10
  ·rw [if_pos c10] at h;exact z (by decide) h
  rw [if_neg c10] at h;by_cases c14:k=14
  ·rw [if_pos c14] at h;exact z (by decide) h
  rw [if_neg c14] at h;by_cases c11:k=11
  ·rw [if_pos c11] at h;unfold D8 at h;exact z2 h
  rw [if_neg c11] at h;by_cases c13:k=13
  ·rw [if_pos c13] at h;unfold IY at h;exact z2 h
  rw [if_neg c13] at h;by_cases c12:k=12
  ·rw [if_pos c12] at h;exact z (by decide) h
  rw [if_neg c12] at h;cases h
theorem ajP {t:Nat} {ns:Nms}: ∀ (e:Ex) {q:Int},okE e→shE ns (ruA x t) e= .error q→q≠0:=by
 intro e;induction e with
 | nil=>intro q h;exact h.elim
 | mk k s n nl li na ar ih=>
  intro q ho h;simp only [shE] at h;split at h
  ·cases hf:aF ns s with
   | none=>rw [hf] at h;injection h with h;subst h;decide
   | some r=>rw [hf] at h;cases h
  ·cases hd:bH (fun i=>shE ns (ruA x t) (ar i)) na with
   | error e=>
    rw [hd] at h;have h':(Except.error e:Except Int (Bool × Nat))= .error q:=h;injection h' with h';subst h';obtain ⟨i,hi,hq⟩:=MX hd;exact ih i (ho.2.2.2 i hi) hq
   | ok p=>
    obtain ⟨kn,d,u⟩:=p;rw [hd] at h;have h':yJ kn d (ruA x t (.mk k s n nl li na ar) u)= .error q:=h;cases hr:ruA x t (.mk k s n nl li na ar) u with
    | error e=>
     rw [hr] at h';have h2:(Except.error e:Except Int (Bool × Nat))= .error q:=h';injection h2 with h2;subst h2;exact ae9 hr
    | ok m=>
     rw [hr] at h';have h2:(if (if kn=true then 0 else d+m)≤8 then (Except.ok (kn,if kn=true then 0 else d+m):Except Int (Bool × Nat)) else .error 232)= .error q:=h';by_cases hle:(if kn=true then 0 else d+m)≤8
     ·rw [if_pos hle] at h2;cases h2
     ·rw [if_neg hle] at h2;injection h2 with h2;subst h2;decide
theorem ang {N t:Nat} {ns:Nms} {es:Env} (hx:x.n=N) (hk: ∀ s,(aF ns s).isSome=true→(dS es s).isSome=true): ∀ (e:Ex) {r:Bool × Nat},okE e→aW e=true→shE ns (ruA x t) e= .ok r→goE N t es e:=by
 intro e;induction e with
 | nil=>intro r h;exact h.elim
 | mk k s n nl li na ar ih=>
  intro r ho hf h;obtain ⟨_,_,hfa⟩:=gq hf;have hna:=A8 hf;simp only [shE] at h;split at h
  ·next hk1=>
   have h0:na=0:=by rw [hk1] at hna;have:argN (1:Int).toNat=0:=rfl;omega
   refine ⟨fun _=>hk s ?_,fun e=>by omega,fun e=>by omega,fun e=>by omega,fun e=>by omega,fun i hi=>by omega⟩;cases hn:aF ns s with
   | none=>rw [hn] at h;cases h
   | some r=>rfl
  ·next hk1=>
   cases hd:bH (fun i=>shE ns (ruA x t) (ar i)) na with
   | error e=>rw [hd] at h;cases h
   | ok p=>
    obtain ⟨kn,d,u⟩:=p;rw [hd] at h;have h':yJ kn d (ruA x t (.mk k s n nl li na ar) u)= .ok r:=h;cases hr:ruA x t (.mk k s n nl li na ar) u with
    | error e=>rw [hr] at h';cases h'
    | ok m=>
     have b: ∀ {b:Bool} {v:Nat} {er:Int},(if b=true then (.ok v:Except Int Nat) else .error er)= .ok m→b=true:=fun hq=>by
      split at hq
      ·assumption
      ·cases hq
     refine ⟨fun e=>absurd e hk1,fun e=>?_,fun e=>?_,fun e=>?_,fun e=>?_,fun i hi=>?_⟩
     ·subst e;have hq:(if Lj x n=true then (.ok 0:Except Int Nat) else .error 233)= .ok m:=hr;have:=b hq;unfold Lj at this;rw [Bool.and_eq_true] at this;exact of_decide_eq_true this.1
     ·subst e;have hq:D8 x t nl li= .ok m:=hr;unfold D8 at hq;split at hq
      ·have:=(IZ (b hq)).1;omega
      ·cases hq
     ·subst e;have hq:(if UK n=true then (.ok (dO n):Except Int Nat) else .error 233)= .ok m:=hr;have:=b hq;unfold UK at this;rw [Bool.and_eq_true] at this;have:=of_decide_eq_true this.1;omega
     ·rcases e with rfl | rfl
      ·have hq:(if jL t nl li 0 x.n=true then (.ok 0:Except Int Nat) else .error 233)= .ok m:=hr;have:=b hq;unfold jL at this;simp only [Bool.and_eq_true] at this;have:=of_decide_eq_true this.2.1;omega
      ·have hq:(if F6 x nl li=true then (.ok 0:Except Int Nat) else .error 233)= .ok m:=hr;have:=b hq;unfold F6 at this;rw [Bool.and_eq_true] at this;have:=of_decide_eq_true this.1;omega
     ·obtain ⟨q,hq⟩:=Rj hd i hi;exact ih i (ho.2.2.2 i hi) (hfa i hi) hq
theorem zf {s s':ByteArray} {r:Bool × Nat}: ∀ {ns:Nms},(aF (ns++[(s',r)]) s).isSome=true→(aF ns s).isSome=true∨s=s'
 | [],h=>by
  have h':(if s=s' then some r else aF [] s).isSome=true:=h;by_cases e:s=s'
  ·exact .inr e
  ·rw [if_neg e] at h';cases h'
 | p::ns,h=>by
  have h':(if s=p.1 then some p.2 else aF (ns++[(s',r)]) s).isSome=true:=h;show (if s=p.1 then some p.2 else aF ns s).isSome=true∨_;by_cases e:s=p.1
  ·rw [if_pos e];exact .inl rfl
  ·rw [if_neg e] at h' ⊢;exact zf h'
theorem Gy {es:Env} {s s':ByteArray} {f:Nat→Int} (h:(dS es s).isSome=true∨s=s'):(dS (bP es s' f) s).isSome=true:=by
 rw [rQ];split
 ·rfl
 ·next hn=>exact h.resolve_right hn
theorem MZ {f:Nat→ByteArray} {vs:Nat→Nat→Int}: ∀ {n:Nat} {ns:Nms},iM f n=some ns→ ∀ s,(aF ns s).isSome=true→(dS (vG f vs n) s).isSome=true
 | 0,ns,h,s,hs=>by
  injection h with h;subst h;cases hs
 | n+1,ns,h,s,hs=>by
  simp only [iM] at h;obtain ⟨ns1,h1,h2⟩:=Option.bind_eq_some_iff.1 h;cases hf:aF ns1 (f n) with
  | some r=>rw [hf] at h2;cases h2
  | none=>
   rw [hf] at h2;injection h2 with h2;subst h2;exact Gy ((zf hs).imp (fun q=>MZ h1 s q) id)
theorem aar {x:Par} {N t:Nat} {ln:Nat→ByteArray} {le:Nat→Ex} {ns0:Nms} {es0:Env} (hx:x.n=N) (h0: ∀ s,(aF ns0 s).isSome=true→(dS es0 s).isSome=true): ∀ {n:Nat} {ns:Nms} {ss:List (Bool × Nat)},(∀ i,i<n→okE (le i)∧aW (le i)=true)→fG ns0 ln (fun ns i=>shE ns (ruA x t) (le i)) n= .ok (ns,ss)→
  (∀ s,(aF ns s).isSome=true→(dS (MW N t es0 ln le n) s).isSome=true)∧ ∀ i,i<n→goE N t (MW N t es0 ln le i) (le i)
 | 0,ns,ss,_,h=>by
  have h':(Except.ok (ns0,[]):Except (Nat × Int) (Nms × List (Bool × Nat)))= .ok (ns,ss):=h;injection h' with h';injection h' with h1 h2;subst h1;exact ⟨h0,fun i hi=>absurd hi (Nat.not_lt_zero i)⟩
 | n+1,ns,ss,ho,h=>by
  simp only [fG] at h;cases h1:fG ns0 ln (fun ns i=>shE ns (ruA x t) (le i)) n with
  | error e=>rw [h1] at h;cases h
  | ok p=>
   obtain ⟨ns1,ss1⟩:=p;rw [h1] at h;obtain ⟨i1,i2⟩:=aar hx h0 (fun i hi=>ho i (by omega)) h1;simp only [Ae] at h;split at h
   ·cases h
   ·cases h2:shE ns1 (ruA x t) (le n) with
    | error e=>rw [h2] at h;cases h
    | ok r=>
     rw [h2] at h;have h3:(Except.ok (ns1++[(ln n,r)],ss1++[r]):Except (Nat × Int) (Nms × List (Bool × Nat)))= .ok (ns,ss):=h;injection h3 with h3;injection h3 with h4 h5;subst h4;refine ⟨fun s hs=>Gy ((zf hs).imp (i1 s) id),fun i hi=>?_⟩;by_cases e:i=n
     ·subst e;exact ang hx i1 (le i) (ho i hi).1 (ho i hi).2 h2
     ·exact i2 i (by omega)
theorem Js {x:Par} {t:Nat} {ln:Nat→ByteArray} {le:Nat→Ex} {ns0:Nms}: ∀ {n:Nat} {q:Nat × Int},(∀ i,i<n→okE (le i))→fG ns0 ln (fun ns i=>shE ns (ruA x t) (le i)) n= .error q→q.2≠0
 | 0,q,_,h=>by cases h
 | n+1,q,ho,h=>by
  simp only [fG] at h;cases h1:fG ns0 ln (fun ns i=>shE ns (ruA x t) (le i)) n with
  | error e=>
   rw [h1] at h;injection h with h;subst h;exact Js (fun i hi=>ho i (by omega)) h1
  | ok p=>
   obtain ⟨ns1,ss1⟩:=p;rw [h1] at h;simp only [Ae] at h;split at h
   ·injection h with h;subst h;show (230:Int)≠0;decide
   ·cases h2:shE ns1 (ruA x t) (le n) with
    | error e=>rw [h2] at h;injection h with h;subst h;exact ajP (le n) (ho n (by omega)) h2
    | ok r=>rw [h2] at h;cases h
theorem Na {ns:Nms} {fo:Nat→ByteArray}: ∀ {n:Nat},outT ns fo n=none→ ∀ i,i<n→(aF ns (fo i)).isSome=true
 | 0,_,i,hi=>absurd hi (Nat.not_lt_zero i)
 | n+1,h,i,hi=>by
  simp only [outT] at h;cases h1:outT ns fo n with
  | some e=>rw [h1] at h;cases h
  | none=>
   rw [h1] at h;have h2:IW (aF ns (fo n))=none:=h;by_cases e:i=n
   ·subst e;cases hf:aF ns (fo i) with
    | none=>rw [hf] at h2;cases h2
    | some r=>rfl
   ·exact Na h1 i (by omega)
theorem aas {c:Ci} (h:dN c=0):c.no≤8:=by
 unfold dN at h;split at h
 ·cases h
 ·next h1=>
  have h2:qZ c=true:=by
   cases hf:qZ c with
   | true=>rfl
   | false=>exact absurd (by rw [hf];simp) h1
  unfold qZ at h2;simp only [Bool.and_eq_true,decide_eq_true_eq] at h2;omega
theorem af4 {me:Int} {N t:Nat} {c:Ci} {vs:Nat→Nat→Int} (hx:x.n=N) (hc:okC c) (h:(eY me c (ruA x t)).2.2=0):goC N t c vs:=by
 unfold eY at h;split at h
 ·cases h
 split at h
 ·next hn=>exact absurd h hn
 next h1 h2=>
 have hck:dN c=0:=by simpa using h2
 have hle: ∀ i,i<c.nl→okE (c.le i)∧aW (c.le i)=true:=fun i hi=>⟨(hc.le i hi).1,mX hck hi⟩
 unfold qB at h;cases hi:iM c.fi c.ni with
 | none=>rw [hi] at h;cases h
 | some ns=>
  rw [hi] at h;simp only at h;cases hl:fG ns c.ln (fun ns i=>shE ns (ruA x t) (c.le i)) c.nl with
  | error q=>
   rw [hl] at h;exact absurd h (Js (fun i hi=>(hle i hi).1) hl)
  | ok q=>
   obtain ⟨ns',ss⟩:=q;rw [hl] at h;have h3:(lastT ss c.nl (outT ns' c.fo c.no)).2.2=0:=h;obtain ⟨g1,g2⟩:=aar (N:=N) (es0:=vG c.fi vs c.ni) hx (MZ hi) hle hl;cases ho:outT ns' c.fo c.no with
   | some e=>
    rw [ho] at h3;have h4:e=0:=h3;subst h4;exact absurd ho fun hq=>by
     have key: ∀ {n:Nat},outT ns' c.fo n≠some 0:=by
      intro n;induction n with
      | zero=>intro hq;cases hq
      | succ n ih=>
       intro hq;simp only [outT] at hq;cases h1:outT ns' c.fo n with
       | some e=>rw [h1] at hq;injection hq with hq;subst hq;exact ih h1
       | none=>
        rw [h1] at hq;have h2:IW (aF ns' (c.fo n))=some 0:=hq;unfold IW at h2;split at h2
        ·cases h2
        ·split at h2<;>cases h2
     exact key hq
   | none=>exact ⟨fun i hi=>⟨(hle i hi).1,(hle i hi).2,g2 i hi⟩,aas hck,fun i hi=>g1 _ (Na ho i hi)⟩
end
section
open Go.RowKit Wv
theorem qo {f g:Nat→Int}: ∀ {n:Nat},(∀ j,j<n→f j=g j)→fH f n=fH g n
 | 0,_=>rfl
 | n+1,h=>by
  show fH f n+f n=fH g n+g n;rw [qo fun j hj=>h j (by omega),h n (by omega)]
theorem Bj (es:Env) (s s':ByteArray) (f:Nat→Int) (j:Nat):(dS (bP es s f) s').getD (fun _=>0) j=if s'=s then f j else (dS es s').getD (fun _=>0) j:=by
 rw [rQ];split<;>rfl
end
section
open Go.RowKit Wv
variable {f:Nat→Int}
theorem En : ∀ n,fH f (n+1)=f 0+fH (fun j=>f (j+1)) n
 | 0=>by show (0:Int)+f 0=f 0+0;omega
 | n+1=>by
  show fH f (n+1)+f (n+1)=f 0+(fH (fun j=>f (j+1)) n+f (n+1));rw [En n];omega
variable {h:Nat}
theorem aat (hh:0<h):fH (fun b=>f ((b+1) % h)) h=fH f h:=by
 obtain ⟨m,rfl⟩: ∃ m,h=m+1:=⟨h - 1,by omega⟩
 show fH _ m+f ((m+1) % (m+1))=_;rw [Nat.mod_self,En m,qo (g:=fun j=>f (j+1)) fun j hj=>by show f ((j+1) % (m+1))=_;rw [Nat.mod_eq_of_lt (by omega)]];omega
theorem Jt {f:Nat→Int} {h:Nat} (hh:0<h): ∀ k,fH (fun b=>f ((b+k) % h)) h=fH f h
 | 0=>qo fun j hj=>by show f ((j+0) % h)=_;rw [Nat.add_zero,Nat.mod_eq_of_lt hj]
 | k+1=>by
  refine Eq.trans ?_ (Jt (f:=f) hh k);refine Eq.trans ?_ (aat (f:=fun b=>f ((b+k) % h)) hh);refine qo fun j _=>?_
  show f ((j+(k+1)) % h)=f (((j+1) % h+k) % h);rw [Nat.mod_add_mod,show j+(k+1)=j+1+k by omega]
theorem pI {m:Nat}: ∀ n,fH f (m+n)=fH f m+fH (fun j=>f (m+j)) n
 | 0=>(Int.add_zero _).symm
 | n+1=>by
  show fH f (m+n)+f (m+n)=fH f m+(fH _ n+f (m+n));rw [pI n];omega
variable {k:Int}
theorem jY {b:Nat}  (hb:b<h):lJ (h+h) k b=(b+k.toNat) % h:=by
 unfold lJ;rw [show (h+h) / 2=h by omega,Nat.div_eq_of_lt hb,Nat.mod_eq_of_lt hb,Nat.zero_mul,Nat.zero_add]
theorem jZ {b:Nat}  (hb:b<h):lJ (h+h) k (h+b)=h+(b+k.toNat) % h:=by
 unfold lJ;rw [show (h+h) / 2=h by omega,Nat.add_div_left _ (by omega),Nat.div_eq_of_lt hb,Nat.add_mod_left,Nat.mod_eq_of_lt hb,Nat.one_mul]
theorem vH {b:Nat} (hb:b<h):(b+(h+h) / 2) % (h+h)=h+b:=by
 rw [show (h+h) / 2=h by omega,Nat.mod_eq_of_lt (by omega),Nat.add_comm]
theorem vI {b:Nat} (hb:b<h):(h+b+(h+h) / 2) % (h+h)=b:=by
 rw [show h+b+(h+h) / 2=b+(h+h) by omega,Nat.add_mod_right,Nat.mod_eq_of_lt (by omega)]
def iZ (N:Nat) (k:Int) (b:Bool) (j:Nat):Nat:=if b=true then (lJ N k j+N / 2) % N else lJ N k j
theorem Bl {a k n:Nat}:((a+k) % h+n) % h=((a+n) % h+k) % h:=by
 rw [Nat.mod_add_mod,Nat.mod_add_mod,show a+k+n=a+n+k by omega]
variable {N j:Nat}
theorem Gz (hN:4≤N) (hN2:N % 2=0) (k:Int) (b:Bool)  (hj:j<N):
  iZ N k b j<N∧(∀ n,iZ N k b (lJ N n j)=lJ N n (iZ N k b j))∧iZ N k b ((j+N / 2) % N)=(iZ N k b j+N / 2) % N:=by
 obtain ⟨h,rfl⟩: ∃ h,N=h+h:=⟨N / 2,by omega⟩
 have hm: ∀ a,a % h<h:=fun a=>Nat.mod_lt _ (by omega)
 by_cases c:j<h
 ·cases b
  ·unfold iZ;simp only [Bool.false_eq_true,if_false];refine ⟨?_,fun n=>?_,?_⟩
   ·rw [jY c];have:=hm (j+k.toNat);omega
   ·rw [jY c,jY (hm _),jY c,jY (hm _),Bl]
   ·rw [vH c,jZ c,jY c,vH (hm _)]
  ·unfold iZ;simp only [if_true];refine ⟨Nat.mod_lt _ (by omega),fun n=>?_,?_⟩
   ·rw [jY c,jY (hm _),jY c,vH (hm _),vH (hm _),jZ (hm _),Bl]
   ·rw [vH c,jZ c,jY c,vH (hm _)]
 ·obtain ⟨i,rfl⟩: ∃ i,j=h+i:=⟨j - h,by omega⟩
  have c:i<h:=by omega
  cases b
  ·unfold iZ;simp only [Bool.false_eq_true,if_false];refine ⟨?_,fun n=>?_,?_⟩
   ·rw [jZ c];have:=hm (i+k.toNat);omega
   ·rw [jZ c,jZ (hm _),jZ c,jZ (hm _),Bl]
   ·rw [vI c,jZ c,jY c,vI (hm _)]
  ·unfold iZ;simp only [if_true];refine ⟨Nat.mod_lt _ (by omega),fun n=>?_,?_⟩
   ·rw [jZ c,jZ (hm _),jZ c,vI (hm _),vI (hm _),jY (hm _),Bl]
   ·rw [vI c,jZ c,jY c,vI (hm _)]
theorem Nc (hN:4≤N) (hN2:N % 2=0) (k:Int) (f:Nat→Int):fH (fun j=>f (lJ N k j)) N=fH f N:=by
 obtain ⟨h,rfl⟩: ∃ h,N=h+h:=⟨N / 2,by omega⟩
 have a1:fH (fun j=>f (lJ (h+h) k j)) h=fH f h:=(qo fun j hj=>congrArg f (jY hj)).trans (Jt (by omega) k.toNat);have a2:fH (fun j=>f (lJ (h+h) k (h+j))) h=fH (fun j=>f (h+j)) h:=(qo fun j hj=>congrArg f (jZ hj)).trans (Jt (f:=fun j=>f (h+j)) (by omega) k.toNat);rw [pI h,pI (f:=f) h,a1,a2]
theorem afa (hN:4≤N) (hN2:N % 2=0) (f:Nat→Int):fH (fun j=>f ((j+N / 2) % N)) N=fH f N:=by
 obtain ⟨h,rfl⟩: ∃ h,N=h+h:=⟨N / 2,by omega⟩
 have a1:fH (fun j=>f ((j+(h+h) / 2) % (h+h))) h=fH (fun j=>f (h+j)) h:=qo fun j hj=>congrArg f (vH hj)
 have a2:fH (fun j=>f ((h+j+(h+h) / 2) % (h+h))) h=fH f h:=qo fun j hj=>congrArg f (vI hj)
 rw [pI h,pI (f:=f) h,a1,a2];exact Int.add_comm _ _
theorem aau (hN:4≤N) (hN2:N % 2=0) (k:Int) (b:Bool) (f:Nat→Int):fH (fun j=>f (iZ N k b j)) N=fH f N:=by
 cases b
 ·exact Nc hN hN2 k f
 ·exact (Nc hN hN2 k fun j=>f ((j+N / 2) % N)).trans (afa hN hN2 f)
def uy:Ex→Bool
 | .nil=>false
 | .mk k s n nl li na ar=>decide (k=3) || (decide (k=10) || aG na fun i=>uy (ar i))
variable {b:Bool}{q:Int}
theorem aav {t n:Int} {nl na:Nat} {li:Nat→Int} {X Y:Nat→Nat→Int}    (hN:4≤N) (hN2:N % 2=0) (hk:1≤k∧k≤15) (h1:k≠1) (h3:k≠3) (h10:k≠10) (hna:(na:Int)=argN k.toNat) (hj:j<N)
  (hD: ∀ i,i<na→ ∀ j,j<N→X i j=Y i (iZ N q b j)):slZ N t k n li (lsF k nl li) X j=slZ N t k n li (lsF k nl li) Y (iZ N q b j):=by
 have hkk:k=2∨k=4∨k=5∨k=6∨k=7∨k=8∨k=9∨k=11∨k=12∨k=13∨k=14∨k=15:=by omega
 obtain ⟨f1,f2,f3⟩:=Gz hN hN2 q b hj;rcases hkk with rfl | rfl | rfl | rfl | rfl | rfl | rfl | rfl | rfl | rfl | rfl | rfl<;>simp only [slZ,Int.reduceEq, ↓reduceIte]
 ·have e:argN (4:Int).toNat=2:=rfl;rw [hD 0 (by omega) j hj,hD 1 (by omega) j hj]
 ·have e:argN (5:Int).toNat=2:=rfl;rw [hD 0 (by omega) j hj,hD 1 (by omega) j hj]
 ·have e:argN (6:Int).toNat=1:=rfl;rw [hD 0 (by omega) j hj]
 ·have e:argN (7:Int).toNat=2:=rfl;rw [hD 0 (by omega) j hj,hD 1 (by omega) j hj]
 ·have e:argN (8:Int).toNat=1:=rfl;rw [hD 0 (by omega) _ (Jp hN hN2 hj),f2]
 ·have e:argN (9:Int).toNat=1:=rfl;rw [hD 0 (by omega) _ (Nat.mod_lt _ (by omega)),f3]
 ·have e:argN (11:Int).toNat=1:=rfl;rw [hD 0 (by omega) j hj]
 ·have e:argN (12:Int).toNat=2:=rfl;rw [hD 0 (by omega) j hj,hD 1 (by omega) j hj]
 ·have e:argN (13:Int).toNat=1:=rfl;rw [hD 0 (by omega) j hj]
 ·have e:argN (14:Int).toNat=1:=rfl;rw [hD 0 (by omega) j hj]
 ·have e:argN (15:Int).toNat=1:=rfl;rw [qo fun i hi=>hD 0 (by omega) i hi];exact aau hN hN2 q b _
def afb (N:Nat) (q:Int) (b:Bool) (x y:Env):Prop:= ∀ s j,j<N→(dS x s).getD (fun _=>0) j=(dS y s).getD (fun _=>0) (iZ N q b j)
theorem aaw {t:Int}   {x y:Env} (hN:4≤N) (hN2:N % 2=0) (hR:afb N q b x y): ∀ (e:Ex),goS e→uy e=false→ ∀ j,j<N→evX N t x e j=evX N t y e (iZ N q b j):=by
 intro e;induction e with
 | nil=>exact fun h=>h.elim
 | mk k s n nl li na ar ih=>
  intro hg hu j hj;have hu:(decide (k=3) || (decide (k=10) || aG na fun i=>uy (ar i)))=false:=hu;simp only [Bool.or_eq_false_iff,decide_eq_false_iff_not] at hu;obtain ⟨h3,h10,hu⟩:=hu;unfold evX;by_cases h1:k=1
  ·rw [if_pos h1,if_pos h1];exact hR s j hj
  ·rw [if_neg h1,if_neg h1];show lH t _=lH t _;rw [aav (t:=t) (X:=fun i=>evX N t x (ar i)) (Y:=fun i=>evX N t y (ar i)) hN hN2 hg.1 h1 h3 h10 hg.2.1 hj fun i hi j hj=>ih i (hg.2.2.2.2 i hi) (by
    unfold aG at hu;have:=List.any_eq_false.1 hu i (List.mem_range.2 hi);simpa using this) j hj]
theorem aax {fi:Nat→ByteArray} {v w:Nat→Nat→Int}: ∀ {n:Nat},(∀ i,i<n→ ∀ j,j<N→v i j=w i (iZ N q b j))→afb N q b (vG fi v n) (vG fi w n)
 | 0,_=>fun s j hj=>rfl
 | n+1,h=>fun s j hj=>by
  show (dS (bP _ _ _) s).getD _ j=(dS (bP _ _ _) s).getD _ _;rw [Bj,Bj];split
  ·exact h n (by omega) j hj
  ·exact aax (fun i hi=>h i (by omega)) s j hj
theorem Rk {N:Nat} {t:Int} {q:Int} {b:Bool} {ln:Nat→ByteArray} {le:Nat→Ex} {x y:Env} (hN:4≤N) (hN2:N % 2=0) (hR:afb N q b x y): ∀ {n:Nat},(∀ i,i<n→goS (le i)∧uy (le i)=false)→afb N q b (MW N t x ln le n) (MW N t y ln le n)
 | 0,_=>hR
 | n+1,h=>fun s j hj=>by
  have ih:=Rk (t:=t) (ln:=ln) hN hN2 hR (n:=n) fun i hi=>h i (by omega)
  show (dS (bP _ _ _) s).getD _ j=(dS (bP _ _ _) s).getD _ _;rw [Bj,Bj];split
  ·exact aaw hN hN2 ih (le n) (h n (by omega)).1 (h n (by omega)).2 j hj
  ·exact ih s j hj
def aay (c:Ci):Bool:=!(aG c.nl fun i=>uy (c.le i))
theorem aaz {t:Int} {c:Ci} {v w:Nat→Nat→Int}   (hN:4≤N) (hN2:N % 2=0) (hg:goD c) (he:aay c=true) (hvw: ∀ i,i<c.ni→ ∀ j,j<N→v i j=w i (iZ N q b j)) {i:Nat} (hj:j<N):oJ N t c v i j=oJ N t c w i (iZ N q b j):=by
 refine Rk (t:=t) (ln:=c.ln) hN hN2 (aax (fi:=c.fi) hvw) (n:=c.nl) (fun i hi=>⟨(hg.1 i hi).2,?_⟩) (c.fo i) j hj;unfold aay aG at he;rw [Bool.not_eq_true'] at he;have:=List.any_eq_false.1 he i (List.mem_range.2 hi);simpa using this
end
section
open Go.RowKit Wv
def rbN (t n:Int):Int:=if (t - 1) / 2<((n.tmod t)+t).tmod t then ((n.tmod t)+t).tmod t - t else ((n.tmod t)+t).tmod t
theorem aaA {t n:Int} (ht:3≤t) (ho:t % 2=1): -((t - 1) / 2)≤rbN t n∧rbN t n≤(t - 1) / 2:=by
 have h1:=tmod_in (n:=n) ht;have h2:=Int.tmod_nonneg (a:=n.tmod t+t) t (by omega);have h3:=Int.tmod_lt_of_pos (n.tmod t+t) (show 0<t by omega);unfold rbN;generalize (n.tmod t+t).tmod t=m at*;split<;>omega
theorem Rl (t n:Int) (ht:3≤t) (ht':t≤2147483647) (hn: -9223372036854775808≤n∧n≤9223372036854775807):TC Tryz.prog 38 [.v (.int .i64 t), .v (.int .i64 n)] (.v (.int .i64 (rbN t n))):=by
 have hq:(t - 1).tdiv 2=(t - 1) / 2:=Int.tdiv_eq_ediv_of_nonneg (by omega);have h1:=tmod_in (n:=n) ht;have hB:rbN t n=if (t - 1) / 2<((n.tmod t)+t).tmod t then ((n.tmod t)+t).tmod t - t else ((n.tmod t)+t).tmod t:=rfl
 have h2:=Int.tmod_nonneg (a:=n.tmod t+t) t (by omega);have h3:=Int.tmod_lt_of_pos (n.tmod t+t) (show 0<t by omega);generalize rbN t n=B at*;refine Wv.TC.by 21 [1,0,16,4] [] [.tmp 4] Tryz.func38 rfl rfl rfl ?clo ?_
 case clo=>simp only [Wv.BC]
 generalize hm:n.tmod t=m at*;generalize hk:(m+t).tmod t=k at*;by_cases c:(t - 1) / 2<k
 ·rw [if_pos c] at hB;simp (disch:=first|exact Wv.D|fail) only [Wv.B,simprocAttr,hm,hk,hq,ah c];rw [hB]
 ·rw [if_neg c] at hB;simp (disch:=first|exact Wv.D|fail) only [Wv.B,simprocAttr,hm,hk,hq,aj c];rw [hB]
theorem aaB {t n:Int} (ht:3≤t) (ho:t % 2=1):rbN t n=lH t n:=by
 have h1:=tmod_in (n:=n) ht;unfold rbN lH;generalize n.tmod t=r at*;have h2:(r+t).tmod t=if 0≤r then r else r+t:=by
  by_cases c:0≤r
  ·rw [if_pos c,Int.tmod_eq_emod_of_nonneg (by omega),Int.add_emod_right,Int.emod_eq_of_lt c h1.2]
  ·rw [if_neg c,Int.tmod_eq_emod_of_nonneg (by omega),Int.emod_eq_of_lt (by omega) (by omega)]
 rw [h2];by_cases c:0≤r
 ·rw [if_pos c];by_cases c2:(t - 1) / 2<r
  ·rw [if_pos c2,if_pos c2]
  ·rw [if_neg c2,if_neg c2,if_neg (by omega)]
 ·rw [if_neg c,if_neg (show ¬ (t - 1) / 2<r by omega)];by_cases c2:r< -((t - 1) / 2)
  ·rw [if_pos c2,if_neg (by omega)]
  ·rw [if_neg c2,if_pos (by omega)];omega
def vJ (N:Nat) (t:Int) (n:Nat) (f:Nat→Int):Bool:=!aG n (fun i=>decide (f i< -((t - 1) / 2)) || decide ((t - 1) / 2<f i)) && decide (n=N)
theorem afc (N:Nat) (t:Int) (n:Nat) (f:Nat→Int) (ht:3≤t) (ho:t % 2=1) (ht':t≤2147483647) (hn:n≤140737488351232) (hN:N≤32):TC Tryz.prog 81 [.v (.int .i64 N), .v (.int .i64 t),vcA n f] (.v (.bool (vJ N t n f))):=by
 have hv:vJ N t n f=(!aG n (fun i=>decide (f i< -((t - 1) / 2)) || decide ((t - 1) / 2<f i)) && decide (n=N)):=rfl;generalize vJ N t n f=B at*;have q1:(t - 1).tdiv 2=(t - 1) / 2:=Int.tdiv_eq_ediv_of_nonneg (by omega);have q2:(-(t - 1)).tdiv 2= -((t - 1) / 2):=by rw [Int.neg_tdiv,q1]
 have q3:(0 - (t - 1)).tdiv 2= -((t - 1) / 2):=by rw [Int.zero_sub,q2]
 unfold vcA;refine Wv.TC.by 37 [7,2,11,1,32,0,6] [] [.tmp 6] Tryz.func81 rfl rfl rfl ?clo ?_
 case clo=>simp only [Wv.BC]
 refine Wv.W ?_;refine aT (σ:=Nat) (fun i=>[(0, .v (.int .i64 N)),(1, .v (.int .i64 t)),(2, .t n 1 (tab n fun j=> .v (.int .i64 (f j)))),(7, .v (.int .i64 i))]) (fun _=>[]) (fun i=>i≤n∧aG i (fun i=>decide (f i< -((t - 1) / 2)) || decide ((t - 1) / 2<f i))=false) (fun i=>n - i) 0 ⟨Nat.zero_le _,rfl⟩ Wv.V Wv.V ?_;rintro i ⟨hi,hb⟩;have hs: ∀ (p:Nat→Bool) (n:Nat),aG (n+1) p=(aG n p || p n):=fun p n=>by
  unfold aG;rw [List.range_succ,List.any_append];simp
 by_cases hlt:i<n
 ·have e1:(i:Int)<n:=by omega
  have hbad:(decide (f i< -((t - 1) / 2)) || decide ((t - 1) / 2<f i))=true→B=false:=fun q=>by
   rw [hv];have:aG n (fun i=>decide (f i< -((t - 1) / 2)) || decide ((t - 1) / 2<f i))=true:=by
    unfold aG;exact List.any_eq_true.2 ⟨i,List.mem_range.2 hlt,q⟩
   rw [this];rfl
  by_cases c1:f i< -((t - 1) / 2)
  ·have hB:=hbad (by rw [ah c1];rfl);simp (disch:=first|exact Wv.D|fail) only [Wv.B,simprocAttr,ah e1,q1,q2,q3,ah c1];rw [hB]
  ·by_cases c2:(t - 1) / 2<f i
   ·have hB:=hbad (by rw [ah c2];simp);simp (disch:=first|exact Wv.D|fail) only [Wv.B,simprocAttr,ah e1,q1,q2,q3,aj c1,ah c2,ah (show f i>(t - 1) / 2 from c2)];rw [hB]
   ·simp (disch:=first|exact Wv.D|fail) only [Wv.B,simprocAttr,ah e1,q1,q2,q3,aj c1,aj c2,aj (show ¬ f i>(t - 1) / 2 from c2)];refine ay (i+1) ⟨by omega,by rw [hs,hb,aj c1,aj c2];rfl⟩ (by omega) rfl Wv.V2
 ·obtain rfl:i=n:=by omega
  have hB:decide ((i:Int)=N)=B:=by
   rw [hv,hb];by_cases c:i=N
   ·rw [ah c,ah (by omega)];rfl
   ·rw [aj c,aj (by omega)];rfl
  exact Wv.V3 @Int.lt_irrefl @decide_false hB
theorem GH (N j:Nat) (n:Int) (hN:4≤N) (hN2:N≤32) (hj:j<N) (hn:0≤n) (hn':n≤4294967296):TC Tryz.prog 86 [.v (.int .i64 N), .v (.int .i64 j), .v (.int .i64 n)] (.v (.int .i64 (lJ N n j:Nat))):=by
 obtain ⟨m,rfl⟩: ∃ m:Nat,n=m:=⟨n.toNat,by omega⟩
 have a1:(N:Int).tdiv 2=((N / 2:Nat):Int):=rfl;have a2:(j:Int).tdiv ((N / 2:Nat):Int)=((j / (N / 2):Nat):Int):=rfl;have hle:j / (N / 2)*(N / 2)≤j:=Nat.div_mul_le_self _ _;have a3:((j / (N / 2):Nat):Int)*((N / 2:Nat):Int)=((j / (N / 2)*(N / 2):Nat):Int):=(Int.natCast_mul _ _).symm;have a4:(j:Int) - ((j / (N / 2)*(N / 2):Nat):Int)=((j % (N / 2):Nat):Int):=by
  have:=Nat.div_add_mod j (N / 2);rw [Nat.mul_comm] at this;omega
 have a5:(((j % (N / 2):Nat):Int)+(m:Int)).tmod ((N / 2:Nat):Int)=(((j % (N / 2)+m) % (N / 2):Nat):Int):=rfl;have hr:lJ N m j=j / (N / 2)*(N / 2)+(j % (N / 2)+m) % (N / 2):=by unfold lJ;rw [Int.toNat_natCast]
 have hm1:j % (N / 2)<N / 2:=Nat.mod_lt _ (by omega);have hm2:(j % (N / 2)+m) % (N / 2)<N / 2:=Nat.mod_lt _ (by omega);have hh:2≤N / 2:=by omega
 have hh2:N / 2≤16:=by omega
 have hq:j / (N / 2)≤32:=by have:=Nat.div_le_self j (N / 2);omega
 rw [hr];generalize hx:j / (N / 2)*(N / 2)=X at*;generalize hy:(j % (N / 2)+m) % (N / 2)=Y at*;generalize hz:j % (N / 2)=Z at*;generalize hw:j / (N / 2)=W at*;generalize hu:N / 2=U at*;refine Wv.TC.by 25 [1,0,7,2,6] [] [.tmp 6] Tryz.func86 rfl rfl rfl ?clo ?_
 case clo=>simp only [Wv.BC]
 simp (disch:=first|exact Wv.D|fail) only [Wv.B,simprocAttr,a1,a2,a3,a4,a5];rw [Int.natCast_add]
theorem GI (N j:Nat) (hN:4≤N) (hN2:N≤32) (hj:j<N):TC Tryz.prog 87 [.v (.int .i64 N), .v (.int .i64 j)] (.v (.int .i64 ((j+N / 2) % N:Nat))):=by
 have a1:(N:Int).tdiv 2=((N / 2:Nat):Int):=rfl;have a2:((j:Int)+((N / 2:Nat):Int)).tmod (N:Int)=(((j+N / 2) % N:Nat):Int):=rfl;generalize hu:N / 2=U at*;refine Wv.TC.by 11 [1,0,4] [] [.tmp 4] Tryz.func87 rfl rfl rfl ?clo ?_
 case clo=>simp only [Wv.BC]
 exact Wv.V2f a1 a2
theorem ajQ (n:Nat) (f:Nat→Int) (j:Nat) (hn:n≤140737488351232) (hj:j≤32):TC Tryz.prog 191 [vcA n f, .v (.int .i64 j)] (.v (.int .i64 (vC n f j))):=by
 have hp:vC n f j=if j<n then f j else 0:=rfl
 generalize vC n f j=v at*;unfold vcA;refine Wv.TC.by 13 [1,0,8,4] [] [.tmp 4] Tryz.func191 rfl rfl rfl ?clo ?_
 case clo=>simp only [Wv.BC]
 by_cases c:j<n
 ·rw [if_pos c] at hp;refine Wv.W1 (ah (show (j:Int)<n by omega)) ?_;rw [hp]
 ·rw [if_neg c] at hp;refine Wv.W1 (aj (show ¬ (j:Int)<n by omega)) ?_;rw [hp]
theorem Ro (b:Bool):TC Tryz.prog 192 [.v (.bool b)] (.v (.int .i64 (if b=true then 1 else 0))):=by
 refine Wv.TC.by 4 [0,3,2] [] [.tmp 2] Tryz.func192 rfl rfl rfl ?clo ?_
 case clo=>simp only [Wv.BC]
 cases b<;>simp (disch:=first|exact Wv.D|fail) only [Wv.B,simprocAttr]
def rpw (t a:Int):Nat→Int
 | 0=>1
 | k+1=>rbN t (rpw t a k*a)
theorem PG {t a:Int} (ht:3≤t) (ho:t % 2=1): ∀ k, -((t - 1) / 2)≤rpw t a k∧rpw t a k≤(t - 1) / 2
 | 0=>by show _≤(1:Int)∧(1:Int)≤_;omega
 | k+1=>aaA ht ho
theorem afd (t a:Int) (k:Nat) (ht:3≤t) (ho:t % 2=1) (ht':t≤2147483647) (ha: -((t - 1) / 2)≤a∧a≤(t - 1) / 2) (hk:k≤4294967296):TC Tryz.prog 193 [.v (.int .i64 t), .v (.int .i64 a), .v (.int .i64 k)] (.v (.int .i64 (rpw t a k))):=by
 refine Wv.TC.by 20 [8,2,11,0,7,1,6] [] [.tmp 6] Tryz.func193 rfl rfl rfl ?clo ?_
 case clo=>simp only [Wv.BC]
 refine Wv.W ?_;refine aT (σ:=Nat) (fun i=>[(0, .v (.int .i64 t)),(1, .v (.int .i64 a)),(2, .v (.int .i64 k)),(7, .v (.int .i64 (rpw t a i))),(8, .v (.int .i64 i))]) (fun _=>[]) (fun i=>i≤k) (fun i=>k - i) 0 (Nat.zero_le _) Wv.V (by simp (disch:=first|exact Wv.D|fail) only [Wv.B,simprocAttr,rpw]) ?_;intro i hi;by_cases hlt:i<k
 ·have e1:(i:Int)<k:=by omega
  have hp:=PG (a:=a) ht ho i;have hm:=yV ht' hp ha;have T:=Rl t (rpw t a i*a) ht ht' (by omega);have hs:rbN t (rpw t a i*a)=rpw t a (i+1):=rfl;rw [hs] at T;refine Wv.W1 (ah e1) ?_;refine ak T rfl Wv.c Wv.c ?_;refine Wv.W ?_;refine ay (i+1) (by omega) (by omega) rfl Wv.V2
 ·obtain rfl:i=k:=by omega
  exact Wv.V2f @Int.lt_irrefl @decide_false
end
end Go.Proofs.YtljfgdlgmdcmfaaGreat
namespace Go.Proofs.YtljfgdlgmdcmfaaGreat.Wv
section
open Go.RowKit
theorem anh {X:Cx} (hX:Ok X) {id off fz s:Nat} {T:TypeId} {cells:List AV} {b:AV} (h:X.h[id]? =some (some (.arr T s cells fz))) (hab: ∀ (bk n:Nat) (cvs:Array Value),afE X id T s cells fz n bk cvs→ ∀ x,cvs[off]? =some x→Rep X b x):
  ∃ Y,Y.w=X.w∧Y.m=X.m∧Y.h=X.h.set id (some (.arr T s (cells.set off b) fz))∧Step X Y∧Ok Y:=by
 have hid:id<X.h.length:=(List.getElem?_eq_some_iff.1 h).1;have S:Step X ⟨X.w,X.m,X.h.set id (some (.arr T s (cells.set off b) fz)),X.bad,X.ds⟩:=by
  refine ⟨rfl,rfl,rfl,Nat.le_refl _,fun _ _ _=>rfl,fun _ _ _ h1 h2=>⟨h1,h2⟩,by simp,fun i T' s' c f _ hi=>?_,fun i c _ hi=>?_,fun c hc=>?_,fun _ _ hb=> .inl hb,fun i c _ hi=>?_,rfl⟩
  ·by_cases e:i=id
   ·subst e;simp only at hi;rw [List.getElem?_set_self hid] at hi;injection hi with hi;injection hi with hi;injection hi with e1 e2 e3 e4;subst e1 e2 e3 e4;exact ⟨cells,fz,h,by simp,fun _=>rfl⟩
   ·simp only at hi;rw [cu e] at hi;exact ⟨c,f,hi,Nat.le_refl _,fun _=>rfl⟩
  ·by_cases e:i=id
   ·subst e;simp only at hi;rw [List.getElem?_set_self hid] at hi;injection hi with hi;cases hi
   ·simp only at hi;rw [cu e] at hi;exact ⟨c,hi,rfl⟩
  ·obtain ⟨i,⟨o,ho⟩,hc⟩:=hc;by_cases e:i=id
   ·subst e;exact .inr ⟨i,⟨_,h⟩,hc⟩
   ·simp only at ho;rw [cu e] at ho;exact .inr ⟨i,⟨o,ho⟩,hc⟩
  ·by_cases e:i=id
   ·subst e;simp only at hi;rw [List.getElem?_set_self hid] at hi;injection hi with hi;cases hi
   ·simp only at hi;rw [cu e] at hi;exact ⟨c,hi,rfl⟩
 have live: ∀ i,Cx.live ⟨X.w,X.m,X.h.set id (some (.arr T s (cells.set off b) fz)),X.bad,X.ds⟩ i→X.live i:=fun i ⟨o,ho⟩=>by
  by_cases e:i=id
  ·subst e;exact ⟨_,h⟩
  ·simp only at ho;rw [cu e] at ho;exact ⟨o,ho⟩
 refine ⟨⟨X.w,X.m,X.h.set id (some (.arr T s (cells.set off b) fz)),X.bad,X.ds⟩,rfl,rfl,rfl,S,fun i c hi=>?_,fun i T' s' c f hi=>?_,fun i j c hi hj=>hX.inj i j c (live i hi) (live j hj),hX.eX,fun i es hi=>?_⟩
 ·by_cases e:i=id
  ·subst e;simp only at hi;rw [List.getElem?_set_self hid] at hi;injection hi with hi;cases hi
  ·simp only at hi;rw [cu e] at hi;obtain ⟨g,cvs,T',h1,h2,h3,h4,h5⟩:=hX.blk i c hi;exact ⟨g,cvs,T',h1,h2,h3,h4,fun j a' x q1 q2=>(h5 j a' x q1 q2).mono S⟩
 ·by_cases e:i=id
  ·subst e;simp only at hi;rw [List.getElem?_set_self hid] at hi;injection hi with hi;injection hi with hi;injection hi with e1 e2 e3 e4;subst e1 e2 e3 e4;obtain ⟨g1,g2,n,g3,g4⟩:=hX.arr i T s cells fz h;refine ⟨by simpa using g1,g2,n,by simpa using g3,?_⟩;rcases g4 with ⟨g4,g5⟩ | ⟨g,cvs,g4⟩
   ·exact .inl ⟨g4,by rw [g5];rfl⟩
   ·refine .inr ⟨g,cvs,⟨g4.at_,g4.blk,g4.cap,g4.iU,g4.sz,g4.bad,fun j a' x q1 q2=>?_,g4.good⟩⟩;suffices hx:Rep X a' x from hx.mono S
    rw [List.getElem?_set] at q1;split at q1
    ·next hj=>
     subst hj;split at q1
     ·injection q1 with q1;subst q1;exact hab g n cvs g4 x q2
     ·cases q1
    ·exact g4.rep j a' x q1 q2
  ·simp only at hi;rw [cu e] at hi;obtain ⟨g1,g2,n,g3,g4⟩:=hX.arr i T' s' c f hi;refine ⟨g1,g2,n,g3,?_⟩;rcases g4 with g4 | ⟨g,cvs,g4⟩
   ·exact .inl g4
   ·exact .inr ⟨g,cvs,⟨g4.at_,g4.blk,g4.cap,g4.iU,g4.sz,g4.bad,fun j a' x q1 q2=>(g4.rep j a' x q1 q2).mono S,g4.good⟩⟩
 ·by_cases e:i=id
  ·subst e;simp only at hi;rw [List.getElem?_set_self hid] at hi;injection hi with hi;cases hi
  ·simp only at hi;rw [cu e] at hi;obtain ⟨g,ents,clock,h1,h2,h3⟩:=hX.map i es hi;exact ⟨g,ents,clock,h1,h2,h3.mono S⟩
theorem Ent.aaC {n0 N:Nat} {e:Ev} {h:Hp} (id off:Nat) {T:TypeId} {s fz:Nat} {cells:List AV} {a a':AV} {h':Hp} (hc:h[id]? =some (some (.arr T s cells fz))) (ha:cells[off]? =some a) (hcl:fF h a=some (a',h')) (hk:h'[id]? =h[id]?):
  Ent n0 N e h e (h'.set id (some (.arr T s (cells.set off a') fz))):=fun X act hh hn hX hE=>by
 subst hh;obtain ⟨g1,g2,n,g3,g4⟩:=hX.arr id T s cells fz hc;have hoff:off<cells.length:=(List.getElem?_eq_some_iff.1 ha).1;rcases g4 with ⟨_,g5⟩ | ⟨bk,cvs,g4⟩
 ·rw [g5] at hoff;exact absurd hoff (Nat.not_lt_zero _)
 have hsz:off<cvs.size:=by
  have:=g4.sz;have h2:=Nat.mul_le_mul_right s g4.cap;omega
 have hv:=g4.rep off a cvs[off] ha (Array.getElem?_eq_getElem hsz);obtain ⟨Y,y1,y2,y3,y4,y5⟩:=sK X a a' h' _ hX hcl hv;have hY:Y.h[id]? =some (some (.arr T s cells fz)):=by rw [y4,hk];exact hc
 have hid:id<X.h.length:=(List.getElem?_eq_some_iff.1 hc).1;obtain ⟨c2,f2,q1,q2,q3⟩:=y2.nV id T s cells fz hid hY;rw [hc] at q1;injection q1 with q1;injection q1 with q1;injection q1 with _ _ e3 _;have hm:=q3 (by rw [e3]);obtain ⟨Z,z1,z2,z3,z4,z5⟩:=anh y3 (id:=id) (off:=off) (b:=a') hY (fun b2 n2 aoL k x hx=>by
  have e1:bk=b2:=by
   have:=k.at_;rw [hm,g4.at_] at this;injection this
  subst e1;have e2:=k.blk;rw [y1,g4.blk] at e2;injection e2 with e2;injection e2 with e2;subst e2;rw [Array.getElem?_eq_getElem hsz] at hx;injection hx with hx;subst hx;exact y5)
 exact ⟨Z,z1.trans y1,by rw [z3,y4],(y2.trans hX z4).toN hn,z5,hE.mono (y2.trans hX z4)⟩
theorem Ent.LY {n0 N:Nat} {e e':Ev} {h h2:Hp} (m:Nat) (hm:n0≤m) (hf:wJ e' e) (he:loE m e') (hh:h.take m=h2) (hl:loH m h2):Ent n0 N e h e' h2:=by
 subst hh;exact Ent.cut m hm hf he hl
end
end Go.Proofs.YtljfgdlgmdcmfaaGreat.Wv
namespace Go.Proofs.YtljfgdlgmdcmfaaGreat
section
open Go.RowKit Wv
theorem aaD (e:Ex) (h:okE e):TC Tryz.prog 85 [.g (exC e)] (.v (.bool (uy e))):=by
 induction e with
 | nil=>exact h.elim
 | mk k s n nl li na ar ih=>
 obtain ⟨hs,hnl,hna,hh⟩:=h;have hfin:uy (.mk k s n nl li na ar)=(decide (k=3) || (decide (k=10) || aG na fun i=>uy (ar i))):=rfl;rw [hfin];refine Wv.TC.by 25 [0,1,11,3,16,24,2] [] [.tmp 2] Tryz.func85 rfl rfl rfl ?clo ?_
 case clo=>simp only [Wv.BC]
 unfold exC;by_cases k3:k=3
 ·exact Wv.V2f (ah k3) @Bool.true_or
 by_cases k10:k=10
 ·simp (disch:=first|exact Wv.D|fail) only [Wv.B,simprocAttr,aj k3,ah k10,Bool.true_or,Bool.false_or]
 rw [aj k3,aj k10];simp only [Bool.false_or];refine Wv.W2 (aj k3) (aj k10) ?_;refine aT (σ:=Nat) (fun i=>[(1, .ptr 0 0),(3, .v (.int .i64 i))])
  (fun i=>[some (.blk [.v (.int .i64 k), .v (.string s), .v (.int .i64 n), .t nl 1 (tab nl fun i=> .v (.int .i64 (li i))), .t na 5 (dH na fun i=>exC (ar i))])])
  (fun i=>i≤na∧ ∀ j,j<i→uy (ar j)=false) (fun i=>na - i) 0 ⟨Nat.zero_le _,fun j hj=>by omega⟩ Wv.V Wv.V ?_
 rintro i ⟨hi,hbef⟩;by_cases hlt:i<na
 ·have e1:(i:Int)<na:=by omega
  have T:=ih i (hh i hlt);have hG:=dh (ar i);have hoy:=hh i hlt;have hL:=dB (n:=na) (f:=fun i=>exC (ar i)) fun i _=>eU (ar i)
  obtain ⟨r,hd⟩: ∃ r,List.drop (i*5) (dH na fun i=>exC (ar i))=exC (ar i)++r:=bM (f:=fun i=>exC (ar i)) (fun i=>iK (ar i)) hlt;revert T hG hL hd;generalize (dH na fun i=>exC (ar i))=L;generalize hc2:uy (ar i)=c2 at*;generalize ar i=y at hoy ⊢;obtain ⟨k',s',n',nl',li',na',ar',rfl⟩:=kG hoy;rw [cO];intro T hG hL hd;simp only [List.cons_append,List.nil_append] at hd;refine Wv.W2 (ah e1) hd ?_;refine ak T rfl (dM hG) Wv.c ?_;cases c2 with
  | true=>
   have hA:(aG na fun i=>uy (ar i))=true:=Oz hlt hc2;simp (disch:=first|exact Wv.D|fail) only [Wv.B,simprocAttr,hA]
  | false=>
   refine Wv.W ?_;refine ay (i+1) ⟨by omega,fun j hj=>?_⟩ (by omega) rfl Wv.V2;by_cases e:j=i
   ·subst e;exact hc2
   ·exact hbef j (by omega)
 ·obtain rfl:i=na:=by omega
  have hA:(aG i fun i=>uy (ar i))=false:=any_none hbef;exact Wv.V3 @Int.lt_irrefl @decide_false hA
theorem aaE (c:Ci) (h:Io c):TC Tryz.prog 41 [.g (ciC c)] (.v (.bool (aay c))):=by
 have hnl:=h.nl;unfold aay;refine Wv.TC.by 18 [0,3,1,8,17,2] [] [.tmp 2] Tryz.func41 rfl rfl rfl ?clo ?_
 case clo=>simp only [Wv.BC]
 unfold ciC bT at*;refine Wv.W ?_;refine aT (σ:=Nat) (fun i=>[(1, .ptr 0 0),(3, .v (.int .i64 i))])
  (fun i=>[some (.blk [.v (.string c.name), .t c.ni 1 (tab c.ni fun i=> .v (.string (c.fi i))), .t c.nl 6 c.lets, .t c.no 1 (tab c.no fun i=> .v (.string (c.fo i)))])])
  (fun i=>i≤c.nl∧ ∀ j,j<i→uy (c.le j)=false) (fun i=>c.nl - i) 0 ⟨Nat.zero_le _,fun j hj=>by omega⟩ rfl Wv.V ?_
 rintro i ⟨hi,hbef⟩;by_cases hlt:i<c.nl
 ·have e1:(i:Int)<(c.nl:Int):=by omega
  have T:=aaD (c.le i) (h.le i hlt);have hG:=dh (c.le i);have hoy:=h.le i hlt;have hL:=iR c;obtain ⟨r,hd⟩: ∃ r,List.drop (i*6) c.lets=jg (c.ln i) (c.le i)++r:=bM (f:=fun i=>jg (c.ln i) (c.le i)) (fun i=>iQ _ _) hlt;unfold jg at hd;generalize hc2:uy (c.le i)=c2 at*;generalize hle:c.le i=y at*;obtain ⟨k',s',n',nl',li',na',ar',rfl⟩:=kG hoy;rw [cO] at T hG hd;simp only [List.cons_append,List.nil_append] at hd;refine Wv.W2 (ah e1) hd ?_;refine ak T rfl (dM hG) Wv.c ?_;cases c2 with
  | true=>
   have hA:(aG c.nl fun i=>uy (c.le i))=true:=Oz hlt (by rw [hle];exact hc2);simp (disch:=first|exact Wv.D|fail) only [Wv.B,simprocAttr,hA,Bool.not_true]
  | false=>
   refine Wv.W ?_;refine ay (i+1) ⟨by omega,fun j hj=>?_⟩ (by omega) rfl Wv.V2;by_cases e:j=i
   ·subst e;rw [hle];exact hc2
   ·exact hbef j (by omega)
 ·obtain rfl:i=c.nl:=by omega
  have hA:(aG c.nl fun i=>uy (c.le i))=false:=any_none hbef;simp (disch:=first|exact Wv.D|fail) only [Wv.B,simprocAttr,Int.lt_irrefl,decide_false,hA,Bool.not_false]
theorem Eo (N m:Nat) (vs:Nat→Nat→Int) (k:Int) (b:Bool) (hN:4≤N) (hN2:N≤32) (hN3:N % 2=0) (hm:m≤1000) (hk:0≤k) (hk2:k≤1000):
  TC Tryz.prog 42 [.v (.int .i64 N),vsA m (fun _=>N) vs, .v (.int .i64 k), .v (.bool b)] (vsA m (fun _=>N) fun i j=>vs i (iZ N k b j)):=by
 unfold vsA vcA;refine Wv.TC.by 57 [10,1,17,12,0,31,2,3,38,13,11,9,8] [] [.tmp 8] Tryz.func42 rfl rfl rfl ?clo ?_
 case clo=>simp only [Wv.BC]
 refine Wv.W ?_;refine lQ (σ:=Nat) (fun i=>[(0, .v (.int .i64 N)),(1, .t m 1 (tab m fun i=> .t N 1 (tab N fun j=> .v (.int .i64 (vs i j))))),(2, .v (.int .i64 k)),(3, .v (.bool b)),(9, .own 0 i),(10, .v (.int .i64 i))])
  (fun i=>[some (.arr 43 1 (tab i fun a=> .t N 1 (tab N fun j=> .v (.int .i64 (vs a (iZ N k b j))))) 0)])
  (fun i=>i≤m) (fun i=>m - i) 0 (Nat.zero_le _) ?_ ?_
 ·refine Ent.trans (Ent.nil 9 43 1 (by omega) rfl) (Ent.fit ?_);exact Wv.V
 intro i hi;by_cases hlt:i<m
 ·have e1:(i:Int)<m:=by omega
  refine Wv.W1 (ah e1) ?_;refine lQ (σ:=Nat) (fun j=>[(0, .v (.int .i64 N)),(1, .t m 1 (tab m fun i=> .t N 1 (tab N fun j=> .v (.int .i64 (vs i j))))),(2, .v (.int .i64 k)),(3, .v (.bool b)),(9, .own 0 i),(10, .v (.int .i64 i)),(11, .own 1 j),(12, .v (.int .i64 j))])
   (fun j=>[some (.arr 43 1 (tab i fun a=> .t N 1 (tab N fun j=> .v (.int .i64 (vs a (iZ N k b j))))) 0),some (.arr 2 1 (tab j fun j=> .v (.int .i64 (vs i (iZ N k b j)))) 0)])
   (fun j=>j≤N) (fun j=>N - j) 0 (Nat.zero_le _) ?_ ?_
  ·refine Ent.trans (Ent.nil 11 2 1 (by omega) rfl) (Ent.fit ?_);exact Wv.V
  intro j hj;by_cases hlj:j<N
  ·have e2:(j:Int)<N:=by omega
   have RP:=GH N j k hN hN2 hlj hk (by omega);have hr:=Jp (n:=k) hN hN3 hlj;have RO:=GI N (lJ N k j) hN hN2 hr;have hr2:=Nat.mod_lt (lJ N k j+N / 2) (show 0<N by omega);have hT:iZ N k b j=if b=true then (lJ N k j+N / 2) % N else lJ N k j:=rfl
   generalize lJ N k j=r at*;refine Wv.W1 (ah e2) ?_;refine ak RP rfl Wv.c Wv.c ?_;cases b with
   | false=>
    rw [if_neg (by decide)] at hT;refine Wv.W ?_;refine Wv.iw (j+1) 2 (by first | decide | exact Nat.le_of_ble_eq_true rfl) ((show j+1≤N by omega)) (by omega) (Wv.V2f @bG hT) (Wv.V3 @Int.natCast_add @Int.natCast_one hT) (by simp only [Wv.BL, ↓reduceIte,Nat.reduceLeDiff]<;>omega) (by simp only [Wv.BL, ↓reduceIte,Nat.reduceLeDiff]<;>omega)
   | true=>
    rw [if_pos rfl] at hT;generalize (r+N / 2) % N=r2 at*;refine Wv.W ?_;refine ak RO rfl Wv.c Wv.c ?_;refine Wv.W ?_;refine Wv.iw (j+1) 2 (by first | decide | exact Nat.le_of_ble_eq_true rfl) ((show j+1≤N by omega)) (by omega) (Wv.V2f @bG hT) (Wv.V3 @Int.natCast_add @Int.natCast_one hT) (by simp only [Wv.BL, ↓reduceIte,Nat.reduceLeDiff]<;>omega) (by simp only [Wv.BL, ↓reduceIte,Nat.reduceLeDiff]<;>omega)
  ·obtain rfl:j=N:=by omega
   refine Wv.W2 @Int.lt_irrefl @decide_false ?_;have hget:((tab i fun a=>AV.t j 1 (tab j fun b'=> .v (.int .i64 (vs a (iZ j k b b')))))++[AV.own 1 j])[i]? =some (AV.own 1 j):=by
    rw [List.getElem?_append_right (by rw [iJ];exact Nat.le_refl _),iJ,Nat.sub_self];rfl
   have hset:((tab i fun a=>AV.t j 1 (tab j fun b'=> .v (.int .i64 (vs a (iZ j k b b')))))++[AV.own 1 j]).set i (.t j 1 (tab j fun b'=> .v (.int .i64 (vs i (iZ j k b b')))))=tab (i+1) fun a=> .t j 1 (tab j fun b'=> .v (.int .i64 (vs a (iZ j k b b')))):=by
    rw [bG,List.set_append_right i _ (by rw [iJ];exact Nat.le_refl _),iJ,Nat.sub_self];rfl
   refine Oe (i+1) (Ent.trans (Ent.aaC 0 i (a:= .own 1 j) (a':= .t j 1 (tab j fun b'=> .v (.int .i64 (vs i (iZ j k b b'))))) rfl hget (if_pos (by rw [iJ,Nat.mul_one])) rfl) (Ent.LY 1 (by first | decide | exact Nat.le_of_ble_eq_true rfl) ?_ ?_ ?_ ?_)) (show i+1≤m by omega) (by omega)
   ·exact Wv.V2f @Int.natCast_add @Int.natCast_one
   ·simp only [Wv.BL, ↓reduceIte,Nat.reduceLeDiff]<;>omega
   ·simp only [List.set_cons_succ,List.set_cons_zero,List.take_succ_cons,List.take_zero,hset]
   ·simp only [Wv.BL, ↓reduceIte,Nat.reduceLeDiff]<;>omega
 ·obtain rfl:i=m:=by omega
  exact Wv.V2f @Int.lt_irrefl @decide_false
end
section
open Go.RowKit Wv
theorem Vb (n:Nat) (f:Nat→Int) (hn:n≤140737488351232):TC Tryz.prog 45 [vcA n f,vcA n f] (.v (.bool true)):=by
 unfold vcA;refine Wv.TC.by 26 [0,1,10,5,14,25,4] [(6,8)] [.tmp 4] Tryz.func45 rfl rfl rfl ?clo ?_
 case clo=>simp only [Wv.BC]
 refine Wv.W ?_;refine aT (σ:=Nat) (fun i=>[(0, .t n 1 (tab n fun j=> .v (.int .i64 (f j)))),(1, .t n 1 (tab n fun j=> .v (.int .i64 (f j)))),(5, .v (.int .i64 i))]) (fun _=>[]) (fun i=>i≤n) (fun i=>n - i) 0 (Nat.zero_le _) Wv.V Wv.V ?_;intro i hi;by_cases hlt:i<n
 ·have e1:(i:Int)<n:=by omega
  refine Wv.W1 (ah e1) ?_;refine ay (i+1) (by omega) (by omega) rfl Wv.V2
 ·obtain rfl:i=n:=by omega
  exact Wv.V2f @Int.lt_irrefl @decide_false
theorem PI (m:Nat) (ln:Nat→Nat) (vs:Nat→Nat→Int) (hm:m≤140737488351232) (hl: ∀ i,i<m→ln i≤140737488351232):TC Tryz.prog 35 [vsA m ln vs,vsA m ln vs] (.v (.bool true)):=by
 unfold vsA vcA;refine Wv.TC.by 33 [5,0,1,15,27,4] [(4,8)] [.tmp 4] Tryz.func35 rfl rfl rfl ?clo ?_
 case clo=>simp only [Wv.BC]
 refine Wv.W ?_;refine aT (σ:=Nat) (fun i=>[(0, .t m 1 (tab m fun i=> .t (ln i) 1 (tab (ln i) fun j=> .v (.int .i64 (vs i j))))),(1, .t m 1 (tab m fun i=> .t (ln i) 1 (tab (ln i) fun j=> .v (.int .i64 (vs i j))))),(5, .v (.int .i64 i))]) (fun _=>[]) (fun i=>i≤m) (fun i=>m - i) 0 (Nat.zero_le _) Wv.V Wv.V ?_;intro i hi;by_cases hlt:i<m
 ·have e1:(i:Int)<m:=by omega
  have T:=Vb (ln i) (vs i) (hl i hlt);unfold vcA at T;refine Wv.W1 (ah e1) ?_;refine ak T rfl Wv.c Wv.c ?_;refine Wv.W ?_;refine ay (i+1) (by omega) (by omega) rfl Wv.V2
 ·obtain rfl:i=m:=by omega
  exact Wv.V2f @Int.lt_irrefl @decide_false
end
end Go.Proofs.YtljfgdlgmdcmfaaGreat
