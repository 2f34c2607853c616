/- Parts of a proof. -/
import Derived.Test.YthlhibpfagekfaaGreatQpk
import Derived.Test.YthlhibpfagekfaaGreatQpi
import Derived.ProofKit
import Derived.RangeFuncCalls
import Derived.Lib.Hide
import Derived.RangeFuncBound
import Derived.RangeFuncLeaves
import Derived.Shelf.Abstract
import Derived.Shelf.RegionOpen
import Derived.OwnWalkIn
import Derived.TacticsInMore
import Derived.LoopNIn
import Derived.LoopIn
import Derived.WalkMore
import Derived.OrdersHeld
set_option linter.unusedVariables false
set_option linter.unusedSimpArgs false
set_option maxHeartbeats 1600000
set_option maxRecDepth 100000
namespace Go.Proofs.YthlhibpfagekfaaGreat
section
open Go.RowKit Wv
def lstB (t:Int) (nl:Nat) (li:Nat→Int) (least most:Int):Bool:=decide (least≤(nl:Int)) && (decide ((nl:Int)≤most) && !anyN nl fun i=>!balB t (li i))
theorem plisted1_ht (x:Par) (t:Int) (ns:Nms) (n:Int) (hn:inB n=true) (ht:1≤t) (ht':t≤4611686018427387904):
  HT Tryz.prog 178 [.v (.int .i64 n), .ptr 2 0] (hT x t ns++[some (.blk [.ptr 0 0])]) (fun r h'=>r= .v (.bool (!balB t n))∧h'=hT x t ns++[some (.blk [.ptr 0 0])]):=by
 have hE:=RD.hT (pbal_rd x t ns n hn ht ht');generalize balB t n=b at*;unfold hT tyC at*;simp only [List.cons_append,List.nil_append] at*;refine Wv.HT.by 8 [1,0,3] [(1000000,3)] [.tmp 3] Tryz.func178 rfl rfl rfl ?base ?_
 case base=>rfl
 refine Wv.W ?_;refine call_HTP (fst:=[]) (cap:=[]) (hE _ Wv.c (by rintro r rfl;simp only [Wv.BC]) (by rintro r h;exact h.elim)) ?_ (by rintro av h' ⟨h,_⟩;exact h.elim);rintro av h' ⟨rfl,rfl⟩;exact Wv.V
theorem plisted_rd (x:Par) (t:Int) (ns:Nms) (nl:Nat) (li:Nat→Int) (least most:Int) (hn:nl≤140737488351232) (hin: ∀ i,i<nl→inB (li i)=true) (ht:1≤t) (ht':t≤4611686018427387904):
  RD Tryz.prog 163 [.ptr 0 0, .t nl 1 (tab nl fun i=> .v (.int .i64 (li i))), .v (.int .i64 least), .v (.int .i64 most)] (hT x t ns) (fun r=>lstB t nl li least most=true∧r= .tup []) (fun r=>lstB t nl li least most=false∧r=stopA 233):=by
 refine RD.of ?_ (fun r q=>q.2▸ .clo Wv.c) (fun r q=>q.2▸ .clo (stop_clo 233)) (hT_lo x t ns);have hC:=zcontf_ht (h:=hT x t ns++[(some (Ob.blk [AV.ptr 0 0]):Option Ob)]) nl li (fun i=>!balB t (li i)) 178 [] [.ptr 2 0] hn (fun i hi=>plisted1_ht x t ns (li i) (hin i hi) ht ht');have hL:lstB t nl li least most=(decide (least≤(nl:Int)) && (decide ((nl:Int)≤most) && !anyN nl fun i=>!balB t (li i))):=rfl;generalize (anyN nl fun i=>!balB t (li i))=b at*;generalize lstB t nl li least most=B at*;unfold hT tyC at*;simp only [List.cons_append,List.nil_append] at*;refine Wv.HTP.by 27 [0,4,1,2,3,8] [(1000000,2)] [] Tryz.func163 rfl rfl rfl ?base ?_
 case base=>rfl
 cases h1:decide (least≤(nl:Int))
 ·rw [h1,Bool.false_and] at hL;simp (disch:=first|exact Wv.D|fail) only [Wv.B,simprocAttr,h1];refine call_HTP (fst:=[]) (cap:=[]) (demand_rd _ 233) (by rintro av h' ⟨hb,_⟩;cases hb) ?_;rintro av h' ⟨_,rfl,rfl⟩;simp (disch:=first|exact Wv.D|fail) only [Wv.B,simprocAttr,stop_close];exact hL
 cases h2:decide ((nl:Int)≤most)
 ·rw [h1,h2,Bool.false_and,Bool.and_false] at hL;simp (disch:=first|exact Wv.D|fail) only [Wv.B,simprocAttr,h1,h2];refine call_HTP (fst:=[]) (cap:=[]) (demand_rd _ 233) (by rintro av h' ⟨hb,_⟩;cases hb) ?_;rintro av h' ⟨_,rfl,rfl⟩;simp (disch:=first|exact Wv.D|fail) only [Wv.B,simprocAttr,stop_close];exact hL
 rw [h1,h2,Bool.true_and,Bool.true_and] at hL;simp (disch:=first|exact Wv.D|fail) only [Wv.B,simprocAttr,h1,h2];refine call_HT (fst:=[]) (cap:=[]) hC ?_;rintro av h' ⟨rfl,rfl⟩;refine Wv.W ?_;refine call_HTP (fst:=[]) (cap:=[]) (demand_rd _ 233) ?_ ?_
 ·rintro av h' ⟨hb,rfl,rfl⟩;refine Wv.W ?_;exact hL.trans hb
 ·rintro av h' ⟨hb,rfl,rfl⟩;simp (disch:=first|exact Wv.D|fail) only [Wv.B,simprocAttr,stop_close];exact hL.trans hb
theorem demand_yes {h:Hp} (e:Int):HTP Tryz.prog 67 [.v (.bool true), .v (.int .i64 e)] h (fun r h'=>r= .tup []∧h'=h) (fun _ _=>False):=
 (demand_rd true e).mono (fun _ _ q=>q.2) (fun _ _ q=>by cases q.1)
theorem demand_no {h:Hp} (e:Int) (res:AV):HTP Tryz.prog 67 [.v (.bool false), .v (.int .i64 e)] h (fun r h'=>r=res∧h'=h) (fun r h'=>r=stopA e∧h'=h):=
 (demand_rd false e).mono (fun _ _ q=>by cases q.1) (fun _ _ q=>q.2)
theorem plisted_yes (x:Par) (t:Int) (ns:Nms) (nl:Nat) (li:Nat→Int) (least most:Int) (hn:nl≤140737488351232) (hin: ∀ i,i<nl→inB (li i)=true) (ht:1≤t) (ht':t≤4611686018427387904) (hb:lstB t nl li least most=true) (r:Hp):
  HTP Tryz.prog 163 [.ptr 0 0, .t nl 1 (tab nl fun i=> .v (.int .i64 (li i))), .v (.int .i64 least), .v (.int .i64 most)] (some (.blk (tyC x t))::some (.map (nsE ns))::r) (fun q h'=>q= .tup []∧h'=some (.blk (tyC x t))::some (.map (nsE ns))::r) (fun _ _=>False):=
 (RD.hT (plisted_rd x t ns nl li least most hn hin ht ht') r Wv.c (by rintro r ⟨_,rfl⟩;simp only [Wv.BC]) (by rintro r ⟨_,rfl⟩;exact stop_clo 233)).mono (fun _ _ q=>⟨q.1.2,q.2⟩) (fun _ _ q=>by rw [hb] at q;cases q.1.1)
theorem plisted_no (x:Par) (t:Int) (ns:Nms) (nl:Nat) (li:Nat→Int) (least most:Int) (hn:nl≤140737488351232) (hin: ∀ i,i<nl→inB (li i)=true) (ht:1≤t) (ht':t≤4611686018427387904) (hb:lstB t nl li least most=false) (res:AV) (r:Hp):
  HTP Tryz.prog 163 [.ptr 0 0, .t nl 1 (tab nl fun i=> .v (.int .i64 (li i))), .v (.int .i64 least), .v (.int .i64 most)] (some (.blk (tyC x t))::some (.map (nsE ns))::r) (fun q h'=>q=res∧h'=some (.blk (tyC x t))::some (.map (nsE ns))::r) (fun q h'=>q=stopA 233∧h'=some (.blk (tyC x t))::some (.map (nsE ns))::r):=
 (RD.hT (plisted_rd x t ns nl li least most hn hin ht ht') r Wv.c (by rintro r ⟨_,rfl⟩;simp only [Wv.BC]) (by rintro r ⟨_,rfl⟩;exact stop_clo 233)).mono (fun _ _ q=>by rw [hb] at q;cases q.1.1) (fun _ _ q=>⟨q.1.2,q.2⟩)
theorem pvector_rule (x:Par) (t:Int) (ns:Nms) (k:Int) (s:ByteArray) (n:Int) (nl:Nat) (li:Nat→Int) (na:Nat) (ar:Nat→Ex) (unk:Nat) (hn:nl≤140737488351232) (hin: ∀ i,i<nl→inB (li i)=true) (ht:1≤t) (ht':t≤4611686018427387904):
  RuleC x t ns 138 (.mk k s n nl li na ar) unk (if lstB t nl li 0 x.n=true then .ok 0 else .error 233):=by
 refine RuleC.of ?_;have hY:=plisted_yes x t ns nl li 0 x.n hn hin ht ht';have hZ:=plisted_no x t ns nl li 0 x.n hn hin ht ht';generalize lstB t nl li 0 x.n=b at*;rw [exC_mk];have hM:=tabM_clo (n:=na) (f:=fun i=>exC (ar i)) fun i _=>exC_clo (ar i)
 generalize tabM na (fun i=>exC (ar i))=M at*;unfold hT tyC at*;obtain ⟨c,hc⟩: ∃ c:Nat,c=if b=true then 0 else 1:=⟨_,rfl⟩
 refine Wv.HTP.by 16 [1,0,4,6] [(1,9),(1000000,2),(4000001,c)] [.tmp 6] Tryz.func138 rfl rfl rfl ?base ?_
 case base=>rfl
 cases b with
 | false=>
  have hc1:c=1:=hc;refine Wv.W ?_;refine calm_HT (fst:=[]) (cap:=[]) (hZ rfl (.t 1 1 []) _) ?_ ?_
  ·simp (disch:=first|exact Wv.D|fail) only [Wv.B,simprocAttr,hc1];exact ⟨8,_,_,rfl,rfl,rfl,rfl,rfl⟩
  ·rintro av h' ⟨rfl,rfl⟩;simp (disch:=first|exact Wv.D|fail) only [Wv.B,simprocAttr,stop_close];exact ⟨233,rfl,rfl⟩
 | true=>
  have hc1:c=0:=hc;refine Wv.W ?_;refine calm_HT (fst:=[]) (cap:=[]) (hY rfl _) ?_ (fun _ _ q=>q.elim);simp (disch:=first|exact Wv.D|fail) only [Wv.B,simprocAttr,hc1];exact ⟨0,rfl,rfl⟩
def mskB (n:Int):Bool:=!decide (n=0) && !decide (n=1)
theorem pmask1_tc (n:Int):TC Tryz.prog 164 [.v (.int .i64 n)] (.v (.bool (mskB n))):=by
 refine Wv.TC.by 9 [0,2] [] [.tmp 2] Tryz.func164 rfl rfl rfl ?clo ?_
 case clo=>simp only [Wv.BC]
 unfold mskB;cases h1:decide (n=0)
 ·simp (disch:=first|exact Wv.D|fail) only [Wv.B,simprocAttr,h1]
 ·simp (disch:=first|exact Wv.D|fail) only [Wv.B,simprocAttr,h1]
def rotB (x:Par) (n:Int):Bool:=decide (0≤n) && decide (n<x.n / 2)
theorem prot_rule (x : Par) (t : Int) (ns : Nms) (k : Int) (s : ByteArray) (n : Int) (nl : Nat) (li : Nat → Int) (na : Nat) (ar : Nat → Ex) (unk : Nat) (hN : 0 ≤ x.n) (hN' : x.n ≤ 4611686018427387904) :
    RuleC x t ns 140 (.mk k s n nl li na ar) unk (if rotB x n = true then .ok 0 else .error 233) := by
  refine RuleC.of ?_;have hb : rotB x n = (decide (0 ≤ n) && decide (n < x.n / 2)) := rfl;generalize rotB x n = b at *;rw [exC_mk];have hM := tabM_clo (n := na) (f := fun i => exC (ar i)) fun i _ => exC_clo (ar i)
  generalize tabM na (fun i => exC (ar i)) = M at *;unfold hT tyC at *;obtain ⟨c, hc⟩ : ∃ c : Nat, c = if b = true then 0 else 1 := ⟨_, rfl⟩
  refine Wv.HTP.by 22 [1, 4, 0, 6] [(1, 15), (1000000, 2), (4000001, c)] [.tmp 6] Tryz.func140 rfl rfl rfl ?base ?_
  case base => rfl
  have hq : x.n.tdiv 2 = x.n / 2 := Int.tdiv_eq_ediv_of_nonneg hN;cases h1 : decide (0 ≤ n) <;> cases h2 : decide (n < x.n / 2);all_goals
    rw [h1, h2] at hb;simp (disch:=first|exact Wv.D|fail) only [Wv.B, simprocAttr, hq, h1, h2];first
    | (have hbt : b = true := hb
       subst hbt;have hc1 : c = 0 := hc;refine calm_HT (fst := []) (cap := []) (demand_yes 233) ?_ (fun _ _ q => q.elim);simp (disch:=first|exact Wv.D|fail) only [Wv.B, simprocAttr, hc1];exact ⟨0, rfl, rfl⟩)
    | (have hbt : b = false := hb
       subst hbt;have hc1 : c = 1 := hc;refine calm_HT (fst := []) (cap := []) (demand_no 233 (.t 1 1 [])) ?_ ?_
       · simp (disch:=first|exact Wv.D|fail) only [Wv.B, simprocAttr, hc1]
         exact ⟨14, _, _, rfl, rfl, rfl, rfl, rfl⟩
       · rintro av h' ⟨rfl, rfl⟩
         simp (disch:=first|exact Wv.D|fail) only [Wv.B, simprocAttr, stop_close];exact ⟨233, rfl, rfl⟩)
def allMB (nl:Nat) (li:Nat→Int):Bool:=!anyN nl fun i=>mskB (li i)
def maskB (x:Par) (nl:Nat) (li:Nat→Int):Bool:=decide ((nl:Int)≤x.n) && allMB nl li
theorem pmask_rule (x:Par) (t:Int) (ns:Nms) (k:Int) (s:ByteArray) (n:Int) (nl:Nat) (li:Nat→Int) (na:Nat) (ar:Nat→Ex) (unk:Nat) (hn:nl≤140737488351232):
  RuleC x t ns 141 (.mk k s n nl li na ar) unk (if maskB x nl li=true then .ok 0 else .error 233):=by
 refine RuleC.of ?_;have hb:maskB x nl li=(decide ((nl:Int)≤x.n) && !anyN nl fun i=>mskB (li i)):=rfl;have hC:=fun h=>(zcontf_ht (h:=h) nl li (fun i=>mskB (li i)) 164 [] [] hn (fun i hi=>HT.of_TC (pmask1_tc (li i)) rfl Wv.c Wv.c)).toP (fun _ _=>False)
 generalize maskB x nl li=b at*;generalize (anyN nl fun i=>mskB (li i))=b2 at*;rw [exC_mk];have hM:=tabM_clo (n:=na) (f:=fun i=>exC (ar i)) fun i _=>exC_clo (ar i)
 generalize tabM na (fun i=>exC (ar i))=M at*;unfold hT tyC at*;obtain ⟨c,hc⟩: ∃ c:Nat,c=if b=true then 0 else 1:=⟨_,rfl⟩
 refine Wv.HTP.by 25 [1,4,0,7,6] [(2,17),(1000000,2),(4000002,c)] [.tmp 6] Tryz.func141 rfl rfl rfl ?base ?_
 case base=>rfl
 cases h1:decide ((nl:Int)≤x.n)
 ·rw [h1] at hb;have hbt:b=false:=hb;subst hbt;have hc1:c=1:=hc;simp (disch:=first|exact Wv.D|fail) only [Wv.B,simprocAttr,h1];refine calm_HT (fst:=[]) (cap:=[]) (demand_no 233 (.t 1 1 [])) ?_ ?_
  ·simp (disch:=first|exact Wv.D|fail) only [Wv.B,simprocAttr,hc1];exact ⟨16,_,_,rfl,rfl,rfl,rfl,rfl⟩
  ·rintro av h' ⟨rfl,rfl⟩;simp (disch:=first|exact Wv.D|fail) only [Wv.B,simprocAttr,stop_close];exact ⟨233,rfl,rfl⟩
 ·rw [h1] at hb;simp (disch:=first|exact Wv.D|fail) only [Wv.B,simprocAttr,h1];refine calm_HT (fst:=[]) (cap:=[]) (hC _) ?_ (fun _ _ q=>q.elim);cases b2 with
  | false=>
   have hbt:b=true:=hb;subst hbt;have hc1:c=0:=hc;refine Wv.W ?_;refine calm_HT (fst:=[]) (cap:=[]) (demand_yes 233) ?_ (fun _ _ q=>q.elim);simp (disch:=first|exact Wv.D|fail) only [Wv.B,simprocAttr,hc1];exact ⟨0,rfl,rfl⟩
  | true=>
   have hbt:b=false:=hb;subst hbt;have hc1:c=1:=hc;refine Wv.W ?_;refine calm_HT (fst:=[]) (cap:=[]) (demand_no 233 (.t 1 1 [])) ?_ ?_
   ·simp (disch:=first|exact Wv.D|fail) only [Wv.B,simprocAttr,hc1];exact ⟨16,_,_,rfl,rfl,rfl,rfl,rfl⟩
   ·rintro av h' ⟨rfl,rfl⟩;simp (disch:=first|exact Wv.D|fail) only [Wv.B,simprocAttr,stop_close];exact ⟨233,rfl,rfl⟩
theorem pequal_rule (x:Par) (t:Int) (ns:Nms) (k:Int) (s:ByteArray) (n:Int) (nl:Nat) (li:Nat→Int) (na:Nat) (ar:Nat→Ex) (unk:Nat) (ht:1≤t) (ht':t≤4611686018427387904):
  RuleC x t ns 145 (.mk k s n nl li na ar) unk (if x.r=1 then .ok (stepsN (t - 1)) else .error 231):=by
 refine RuleC.of ?_;rw [exC_mk];have hM:=tabM_clo (n:=na) (f:=fun i=>exC (ar i)) fun i _=>exC_clo (ar i)
 generalize tabM na (fun i=>exC (ar i))=M at*;unfold hT tyC at*;have T:=psteps_tc (t - 1) (by omega);generalize stepsN (t - 1)=st at*;refine Wv.HTP.by 20 [1,0,6] [(1000000,2)] [.tmp 6] Tryz.func145 rfl rfl rfl ?base ?_
 case base=>rfl
 by_cases hr:x.r=1
 ·simp (disch:=first|exact Wv.D|fail) only [Wv.B,simprocAttr,alA hr];refine call_HTP (fst:=[]) (cap:=[]) (demand_rd _ 231) ?_ (by rintro av h' ⟨hb,_⟩;simp [hr] at hb);rintro av h' ⟨_,rfl,rfl⟩;refine Wv.W ?_;refine call_TC T rfl Wv.c Wv.c ?_;simp (disch:=first|exact Wv.D|fail) only [Wv.B,simprocAttr,if_pos hr];exact ⟨_,rfl,rfl⟩
 ·simp (disch:=first|exact Wv.D|fail) only [Wv.B,simprocAttr,alB hr];refine call_HTP (fst:=[]) (cap:=[]) (demand_rd _ 231) (by rintro av h' ⟨hb,_⟩;simp [hr] at hb) ?_;rintro av h' ⟨_,rfl,rfl⟩;simp (disch:=first|exact Wv.D|fail) only [Wv.B,simprocAttr,stop_close,if_neg hr];exact ⟨_,rfl,rfl⟩
end
section
open Go.RowKit Wv
def rowP (i k:Nat):List (Nat × Nat):=(List.range k).map fun j=>(i,j)
theorem rowP_succ (i k:Nat):rowP i (k+1)=rowP i k++[(i,k)]:=by unfold rowP;rw [List.range_succ,List.map_append];rfl
def prs:Nat→List (Nat × Nat)
 | 0=>[]
 | i+1=>prs i++rowP i i
variable {i:Nat}
theorem prs_le {n:Nat} (h : i ≤ n) : prs i <+: prs n := by
  induction n with
  | zero => have : i = 0 := by omega
            subst this; exact List.prefix_refl _
  | succ n ih =>
    by_cases e : i = n + 1
    · subst e; exact List.prefix_refl _
    · exact (ih (by omega)).trans (List.prefix_append _ _)
theorem rowP_le {j k:Nat} (h : j ≤ k) : rowP i j <+: rowP i k := by
  induction k with
  | zero => have : j = 0 := by omega
            subst this; exact List.prefix_refl _
  | succ k ih =>
    by_cases e : j = k + 1
    · subst e; exact List.prefix_refl _
    · rw [rowP_succ]; exact (ih (by omega)).trans (List.prefix_append _ _)
theorem prs_row {k n:Nat} (h:i<n) (hk:k≤i):prs i++rowP i k<+:prs n:=
 ((List.prefix_append_right_inj (prs i)).2 (rowP_le hk)).trans (prs_le (i:=i+1) h)
def encP (x:Nat × Nat):Array Value:= #[.int .i64 (x.1:Nat), .int .i64 (x.2:Nat)]
theorem pairs_in (F:Fence) (n:Nat) (hF:F.fn 191) (hro:F.round=none) (l B N:Nat) (J Jx:List (Nat × Nat)→World→Prop) (Kp:World→World→Prop)
  (hY: ∀ pre (x:Nat × Nat) W,x.1<N→x.2<x.1→J pre W→pre.length<(prs N).length→YieldAt F (n - 1) Tryz.prog l (encP x) W fun e W'=>
   (e= .returned (.bool true)∧J (pre++[x]) W'∧Kp W W')∨(e= .returned (.bool false)∧Jx (pre++[x]) W'))
  (W:World) (hB:W.cell? ⟨B,0,none⟩=some (.int .i64 N)) (hN:N≤4611686018427387904) (hn:1≤n) (h0:J [] W):
  CallsIn F n Tryz.prog 191 #[.func (.yield l) #[] #[], .pointer (some ⟨B,0,none⟩)] W fun e W'=>(∃ v,e= .returned v)∧
   ((∃ ys,ys=prs N∧J ys W')∨(∃ pre,pre<+:prs N∧Jx pre W')):=by
 refine callsIn_of_wp Tryz.func191 rfl hF ?_ hro;simp only [Tryz.ntmps191,List.size_toArray,List.length_cons,List.length_nil,Nat.reduceAdd,Nat.reduceSub,Array.replicate_succ,Array.replicate_zero,List.push_toArray,List.append_toArray,List.nil_append,List.cons_append];gi_wp2
 gi_loopw [6] (fun v6 wr=> ∃ (i:Nat),v6= .int .i64 i∧i≤N∧J (prs i) wr) (fun v6 _=>N - (intOf v6).toNat)
 case atStart=>exact ⟨0,rfl,Nat.zero_le _,h0⟩
 case round=>
  obtain ⟨i,rfl,hi,hJ⟩:=hrel;have HJ:=Lib.hid hJ;clear hJ;by_cases hlt:i<N
  ·have e1:(i:Int)<(N:Int):=by omega
   gi_wp2
   gi_loopw [10] (fun v10 wr=> ∃ (k:Nat),v10= .int .i64 k∧k≤i∧J (prs i++rowP i k) wr) (fun v10 _=>i - (intOf v10).toNat)
   case atStart=>exact ⟨0,rfl,Nat.zero_le _,by show J (prs i++[]) _;rw [List.append_nil];exact HJ.out⟩
   case round=>
    obtain ⟨k,rfl,hk,hJ⟩:=hrel;by_cases hlt2:k<i
    ·have e2:(k:Int)<(i:Int):=by omega
     have hpre:Hid (prs i++rowP i (k+1)<+:prs N):=prs_row hlt hlt2;have hlen:(prs i++rowP i k).length<(prs N).length:=by
      have:=hpre.out.length_le;rw [rowP_succ, ←List.append_assoc,List.length_append,List.length_singleton] at this;omega
     obtain ⟨fn,tmps,assign,body,hy,hR⟩:=hY (prs i++rowP i k) (i,k) _ hlt hlt2 hJ hlen;simp only [encP] at hy;clear hJ hlen;gi_wp2
     refine hR.mono ?_;clear hy hR;rintro e W' (⟨rfl,hJ',hk'⟩ | ⟨rfl,hJx'⟩)
     ·have HJ':=Lib.hid hJ';clear hJ' hk';gi_wp2
      go_roundw
      case rel=>exact ⟨k+1,by go_num,by omega,by rw [rowP_succ, ←List.append_assoc];exact HJ'.out⟩
      case measure=>simp [intOf];omega
     ·have HJ':=Lib.hid hJx';clear hJx';gi_wp2
      refine bodyPost_ret (results_none rfl _ _ _) rfl ?_;exact ⟨⟨_,rfl⟩, .inr ⟨_,hpre.out,by rw [rowP_succ, ←List.append_assoc];exact HJ'.out⟩⟩
    ·have hki:k=i:=by omega
     subst hki;have HJ2:=Lib.hid hJ;clear hJ;gi_wp2
     go_roundw
     case rel=>exact ⟨k+1,by go_num,by omega,HJ2.out⟩
     case measure=>simp [intOf];omega
  ·have hiN:i=N:=by omega
   subst hiN;gi_wp2
   go_end0
   exact ⟨⟨_,rfl⟩, .inl ⟨_,rfl,HJ.out⟩⟩
abbrev PrT (N:Nat):={p:Nat × Nat // p.1<N∧p.2<p.1}
theorem pairs_iter {h:Hp} {id:Nat} (N:Nat) (hh:h[id]? =some (some (.blk [.v (.int .i64 N)]))) (hN:N≤4611686018427387904):
  IterC Tryz.prog 191 [.ptr id 0] h (fun (x:PrT N)=>encP x.1) [id] (fun ys=>ys.map (·.1)=prs N) (fun pre=>pre.map (·.1)<+:prs N) (prs N).length:=by
 intro X vs hX hXh hr l J Jx W hW _ _ hY h0;subst hXh;match vs,hr.1 with
 | [v0],_=>
  have hv:=hr.2 0 _ v0 rfl rfl;cases hv with
  | ptr hid hp=>
  obtain ⟨b,hb,rfl⟩:=hp _ hh;have hc:=blk_exact (l:=[.int .i64 N]) hX hh hb 0;have hlt:b<X.w.heap.size:=hX.lt ⟨id,⟨_,hh⟩,hb⟩;have K:=pairs_in Fence.wide 8 trivial rfl l b N (fun q W=> ∃ q':List (PrT N),q'.map (·.1)=q∧J q' W) (fun q W=> ∃ q':List (PrT N),q'.map (·.1)=q∧Jx q' W) _ (fun pre x W x1 x2 ⟨q',e,hJ⟩ hl=>by
    subst e;obtain ⟨fn,tmps,assign,body,g1,g2⟩:=hY q' ⟨x,x1,x2⟩ W hJ (by simpa using hl);refine ⟨fn,tmps,assign,body,g1,g2.mono ?_⟩;rintro e W' (⟨e1,e2,e3⟩ | ⟨e1,e2⟩)
    ·exact .inl ⟨e1,⟨_,by simp,e2⟩,e3⟩
    ·exact .inr ⟨e1,⟨_,by simp,e2⟩⟩) W ((hW.cell (p:=⟨b,0,none⟩) hlt).trans hc) hN (by decide) ⟨[],rfl,h0⟩
  refine K.mono ?_;rintro e W' ⟨he,⟨ys,rfl,q',e1,e2⟩ | ⟨pre,e0,q',e1,e2⟩⟩
  ·exact ⟨he, .inl ⟨q',e1,e2⟩⟩
  ·exact ⟨he, .inr ⟨q',by show q'.map (·.1)<+:prs N;rw [e1];exact e0,e2⟩⟩
end
section
open Go.RowKit Wv
structure EuI (n a x y:Nat) (u v:Int):Prop where
 xn:x≤n
 yx:y<x
 du:(n:Int)∣u*a - x
 dv:(n:Int)∣v*a - y
 sg:(u≤0∧0≤v∧ -(u*y)+v*x=n)∨(0≤u∧v≤0∧u*y+ -(v*x)=n)
 u0: -(n:Int)≤u
 u1:u≤n
 v0: -(n:Int)≤v
 v1:v≤n
 gc:Nat.gcd x y=Nat.gcd n a
variable {a n:Nat}
theorem EuI.start (hn:2≤n) (ha:a<n):EuI n a n a 0 1:=by
 refine ⟨Nat.le_refl _,ha,?_,?_, .inl ⟨by omega,by omega,by simp⟩,by omega,by omega,by omega,by omega,rfl⟩
 ·simp
 ·simp
variable {x:Nat}
theorem EuI.step {y:Nat} {u v:Int} (h:EuI n a x y u v) (hy:0<y):EuI n a y (x % y) v (u - ((x / y:Nat):Int)*v):=by
 have hx:(x:Int)=((x / y:Nat):Int)*y+(x % y:Nat):=by
  have:=Nat.div_add_mod x y;have h2:((y*(x / y)+x % y:Nat):Int)=(x:Int):=by rw [this]
  rw [Int.natCast_add,Int.natCast_mul,Int.mul_comm] at h2;exact h2.symm
 have hr:x % y<y:=Nat.mod_lt _ hy;obtain ⟨xn,yx,du,dv,sg,u0,u1,v0,v1,gc⟩:=h;generalize (x / y)=q at hx ⊢;have hrn:(0:Int)≤((x % y:Nat):Int):=by omega
 generalize hrr:((x % y:Nat):Int)=r at hx hrn;have h1:v*(x:Int)=v*((q:Int)*y)+v*r:=by rw [hx,Int.mul_add]
 have h2:((q:Int)*v)*y=v*((q:Int)*y):=by rw [Int.mul_comm (q:Int) v,Int.mul_assoc]
 have h3:(u - (q:Int)*v)*y=u*y - ((q:Int)*v)*y:=Int.sub_mul _ _ _;have hd:(n:Int)∣(u - (q:Int)*v)*a - r:=by
  have e:(u - (q:Int)*v)*a - r=(u*a - x) - (q:Int)*(v*a - y):=by
   rw [Int.sub_mul,Int.mul_sub,hx,Int.mul_assoc];omega
  rw [e];exact Int.dvd_sub du (Int.dvd_mul_of_dvd_right dv)
 have hg:Nat.gcd y (x % y)=Nat.gcd n a:=by rw [←gc,Nat.gcd_comm x y,Nat.gcd_rec y x,Nat.gcd_comm]
 rcases sg with ⟨s1,s2,s3⟩ | ⟨s1,s2,s3⟩
 ·have hqv:0≤(q:Int)*v:=Int.mul_nonneg (by omega) s2;have hvr:0≤v*r:=Int.mul_nonneg s2 hrn;have hb: -(u - (q:Int)*v)*1≤ -(u - (q:Int)*v)*(y:Int):=Int.mul_le_mul_of_nonneg_left (by omega) (by omega);rw [Int.neg_mul (u - (q:Int)*v) (y:Int)] at hb;exact ⟨by omega,hr,dv,by rw [hrr];exact hd, .inr ⟨s2,by omega,by rw [hrr];omega⟩,v0,v1,by omega,by omega,hg⟩
 ·have hqv:(q:Int)*v≤0:=Int.mul_nonpos_of_nonneg_of_nonpos (by omega) s2;have hvr:v*r≤0:=Int.mul_nonpos_of_nonpos_of_nonneg s2 hrn;have hb:(u - (q:Int)*v)*1≤(u - (q:Int)*v)*(y:Int):=Int.mul_le_mul_of_nonneg_left (by omega) (by omega);exact ⟨by omega,hr,dv,by rw [hrr];exact hd, .inl ⟨s2,by omega,by rw [hrr];omega⟩,v0,v1,by omega,by omega,hg⟩
def invN (a n:Nat):Nat:=(findF (fun i=>decide (i*a % n=1)) n).getD 0
def invE (a n:Nat):Nat × Int:=if Nat.gcd n a=1 then (invN a n,0) else (0,4)
variable {i:Nat}
theorem inv_unique {j:Nat} (hi:i<n) (hj:j<n) (h1:i*a % n=1) (h2:j*a % n=1):i=j:=by
 have e1:(i*(j*a)) % n=i % n:=by rw [Nat.mul_mod,h2,Nat.mul_one,Nat.mod_mod]
 have e2:(j*(i*a)) % n=j % n:=by rw [Nat.mul_mod,h1,Nat.mul_one,Nat.mod_mod]
 have e3:i*(j*a)=j*(i*a):=by rw [←Nat.mul_assoc, ←Nat.mul_assoc,Nat.mul_comm i j]
 rw [e3,e2,Nat.mod_eq_of_lt hi,Nat.mod_eq_of_lt hj] at e1;exact e1.symm
theorem invN_eq (hi:i<n) (h:i*a % n=1):invN a n=i:=by
 unfold invN;rw [findF_at (p:=fun i=>decide (i*a % n=1)) hi (alA h) (fun j hj=>alB fun e=>by
  have:=inv_unique (a:=a) (n:=n) (i:=j) (j:=i) (by omega) hi e h;omega)]
 rfl
def fixZ (u:Int) (n:Nat):Int:=if u<0 then u+n else u
theorem EuI.fin {u v:Int} (h:EuI n a x 0 u v) (hn:2≤n) (hx:x=1):0≤fixZ u n∧fixZ u n<n∧fixZ u n=invN a n:=by
 subst hx;obtain ⟨k,hk⟩:=h.du;have hu0:=h.u0;have hu1:=h.u1;have key: ∀ (z:Int),(n:Int)∣z*a - ((1:Nat):Int)→0≤z→z≤n→z<n∧z=invN a n:=by
  rintro z ⟨q,hq⟩ h0 h1;have hne:z≠n:=fun e=>by
   subst e;have:(n:Int)*((a:Int) - q)=1:=by rw [Int.mul_sub];omega
   have h3:((n:Int)*((a:Int) - q)) % (n:Int)=0:=Int.mul_emod_right _ _;rw [this,Int.emod_eq_of_lt (by omega) (by omega)] at h3;omega
  obtain ⟨m,rfl⟩: ∃ m:Nat,z=m:=⟨z.toNat,by omega⟩
  have hm:m<n:=by omega
  refine ⟨by omega,?_⟩;have e:m*a % n=1:=by
   have h2:((m*a:Nat):Int) % (n:Int)=1:=by
    rw [Int.natCast_mul];have:(m:Int)*(a:Int)=1+(n:Int)*q:=by omega
    rw [this,Int.add_mul_emod_self_left];exact Int.emod_eq_of_lt (by omega) (by omega)
   have h3:((m*a % n:Nat):Int)=1:=by rw [Int.natCast_emod];exact h2
   omega
  rw [invN_eq hm e]
 unfold fixZ;split
 ·next hu=>
  have:=key (u+n) ⟨k+a,by rw [Int.add_mul,Int.mul_add];omega⟩ (by omega) (by omega);exact ⟨by omega,this.1,this.2⟩
 ·next hu=>
  have:=key u ⟨k,hk⟩ (by omega) hu1;exact ⟨by omega,this.1,this.2⟩
theorem pfits_tc (a n:Nat) (h1:2≤n) (h2:n≤2147483647) (ha:a<n):TC Tryz.prog 192 [.v (.int .u32 n), .t 1 1 [.v (.int .u32 a)]] (.v (.bool true)):=by
 refine Wv.TC.by 23 [1,9,8,10,7,6,0,15,4] [] [.tmp 4] Tryz.func192 rfl rfl rfl ?clo ?_
 case clo=>simp only [Wv.BC]
 refine Wv.W ?_;refine wfor (σ:=Nat) (fun i=>[(0, .v (.int .u32 n)),(7, .t 1 1 [.v (.int .u32 a)]),(8, .v (.int .i64 1)),(9, .v (.int .i64 i))]) (fun i=>[]) (fun i=>i≤1) (fun i=>1 - i) 0 (by omega) Wv.V Wv.V ?_;intro i hi;have d1: ¬ (n:Int)≤(a:Int):=by omega
 have d2:(2:Int)≤(n:Int):=by omega
 have d3:(n:Int)≤2147483647:=by omega
 by_cases hlt:i<1
 ·have:i=0:=by omega
  subst this;simp (disch:=first|exact Wv.D|fail) only [Wv.B,simprocAttr,alB d1];refine k_next 1 (by omega) (by omega) Wv.V (by simp (disch:=first|exact Wv.D|fail) only [Wv.B,simprocAttr,Int.natCast_one])
 ·have:i=1:=by omega
  subst this;simp (disch:=first|exact Wv.D|fail) only [Wv.B,simprocAttr,Int.natCast_one,alA d2,alA d3]
theorem pinv_tc (a n:Nat) (h1:2≤n) (h2:n≤2147483647) (ha:a<n):TC Tryz.prog 186 [.v (.int .u32 a), .v (.int .u32 n)] (.tup [.v (.int .u32 (invE a n).1), .v (.int .i64 (invE a n).2)]):=by
 refine Wv.TC.by 47 [1,0,15,7,21,6,10,9,8,38,40,4,5] [] [.tmp 4, .tmp 5] Tryz.func186 rfl rfl rfl ?clo ?_
 case clo=>simp only [Wv.BC]
 refine Wv.W ?_;refine call_TC (pfits_tc a n h1 h2 ha) rfl Wv.c Wv.c ?_;refine Wv.W ?_;have HS:=EuI.start h1 ha;refine wfor (σ:=Nat × Nat × Int × Int) (fun s=>[(1, .v (.int .u32 n)),(6, .v (.int .i64 (s.1:Nat))),(7, .v (.int .i64 (s.2.1:Nat))),(8, .v (.int .i64 s.2.2.1)),(9, .v (.int .i64 s.2.2.2))]) (fun s=>[some (.arr 22 1 [.v (.int .u32 a)] 1)])
  (fun s=>EuI n a s.1 s.2.1 s.2.2.1 s.2.2.2) (fun s=>s.2.1) (n,a,0,1) HS Wv.V Wv.V ?_
 rintro ⟨x,y,u,v⟩ he;simp only at he ⊢;by_cases hy:0<y
 ·have hy0: ¬ ((y:Int)=0):=by omega
  have hs:=he.step hy;have hxn:=he.xn;have hu0:=he.u0;have hu1:=he.u1;have hv0':=hs.v0;have hv1':=hs.v1;have hdm:=Nat.div_add_mod x y;have hr:x % y<y:=Nat.mod_lt _ hy;have edt:(x:Int).tdiv (y:Int)=((x / y:Nat):Int):=by rw [Int.tdiv_eq_ediv_of_nonneg (by omega)];exact (Int.natCast_ediv x y).symm
  generalize x / y=q at*;generalize x % y=r at*;have hqy:((y*q+r:Nat):Int)=(x:Int):=by rw [hdm]
  rw [Int.natCast_add,Int.natCast_mul,Int.mul_comm] at hqy;have hq0:(0:Int)≤(q:Int)*(y:Int):=Int.mul_nonneg (by omega) (by omega);have hqx:(q:Int)≤(x:Int):=by
   have h:(q:Int)*1≤(q:Int)*(y:Int):=Int.mul_le_mul_of_nonneg_left (by omega) (by omega);omega
  have e2:IntKind.i64.wrap ((q:Int)*(y:Int))=(q:Int)*(y:Int):=by rw [IntKind.wrap_i64];omega
  have e3:(x:Int) - (q:Int)*(y:Int)=(r:Int):=by omega
  have e4:IntKind.i64.wrap ((q:Int)*v)=(q:Int)*v:=by rw [IntKind.wrap_i64];omega
  have e5:IntKind.i64.wrap (u - (q:Int)*v)=u - (q:Int)*v:=by rw [IntKind.wrap_i64];omega
  simp (disch:=first|exact Wv.D|fail) only [Wv.B,simprocAttr,alB hy0,edt,e2,e3,e4,e5];refine k_next (y,r,v,u - (q:Int)*v) hs hr Wv.V Wv.V
 ·obtain rfl:y=0:=by omega
  have hg:=he.gc;rw [Nat.gcd_zero_right] at hg;by_cases hx:x=1
  ·have hi:invE a n=(invN a n,0):=if_pos (by rw [←hg,hx]);obtain ⟨f1,f2,f3⟩:=he.fin h1 hx;subst hx;have hf:fixZ u n=if u<0 then u+n else u:=rfl
   have hu0:=he.u0;have hu1:=he.u1;by_cases hu:u<0
   ·rw [if_pos hu] at hf;simp (disch:=first|exact Wv.D|fail) only [Wv.B,simprocAttr,alA hu,hi];rw [←f3,hf]
   ·rw [if_neg hu] at hf;simp (disch:=first|exact Wv.D|fail) only [Wv.B,simprocAttr,alB hu,hi];rw [←f3,hf]
  ·have hi:invE a n=(0,4):=if_neg (fun e=>hx (by rw [hg,e]));have hx': ¬ ((x:Int)=1):=by omega
   simp (disch:=first|exact Wv.D|fail) only [Wv.B,simprocAttr,alB hx',hi]
theorem clo1 {a:AV} (h1:Clo a): ∀ x,x∈[a]→Clo x:=by simp only [Wv.BC];exact h1
theorem pwrem {x y:Int} (hx:0≤x):x.tmod y=x % y:=Int.tmod_eq_emod_of_nonneg hx
def ofT (n:Nat) (f:Nat→Nat):List Nat:=(List.range n).map f
theorem ofT_len (n:Nat) (f:Nat→Nat):(ofT n f).length=n:=by simp [ofT]
theorem ofT_get (n:Nat) (f:Nat→Nat) (i:Nat):(ofT n f).getD i 0=if i<n then f i else 0:=by
 unfold ofT;by_cases h:i<n
 ·simp [h]
 ·simp [h]
theorem ofT_self (l:List Nat):ofT l.length (fun i=>l.getD i 0)=l:=by
 apply List.ext_getElem (by simp [ofT]);intro i h1 h2;simp [ofT,h2]
theorem ofT_take (n k:Nat) (f:Nat→Nat) (h:k≤n):(ofT n f).take k=ofT k f:=by
 unfold ofT;rw [←List.map_take,List.take_range,Nat.min_eq_left h]
def numT (n:Nat) (f:Nat→Nat):AV:= .t n 1 (tab n fun i=> .v (.int .u32 (f i:Nat)))
def polA (l:List Nat):AV:=numT l.length fun i=>l.getD i 0
theorem polA_ofT (n:Nat) (f:Nat→Nat):polA (ofT n f)=numT n f:=by
 unfold polA numT;rw [ofT_len,tab_congr (f':=fun i=> .v (.int .u32 (f i:Nat))) fun i hi=>by show AV.v (.int .u32 (((ofT n f).getD i 0:Nat):Int))=_;rw [ofT_get,if_pos hi]]
theorem numT_clo (n:Nat) (f:Nat→Nat):Clo (numT n f):=by unfold numT;simp only [Wv.BC]
theorem polA_clo (l:List Nat):Clo (polA l):=numT_clo _ _
def trimN (f:Nat→Nat):Nat→Nat
 | 0=>0
 | n+1=>if f n=0 then trimN f n else n+1
theorem trimN_succ (f:Nat→Nat) (n:Nat):trimN f (n+1)=if f n=0 then trimN f n else n+1:=rfl
theorem trimN_le (f:Nat→Nat): ∀ n,trimN f n≤n
 | 0=>Nat.le_refl _
 | n+1=>by
  unfold trimN;split
  ·have:=trimN_le f n;omega
  ·exact Nat.le_refl _
theorem trimN_congr {f g:Nat→Nat}: ∀ {n:Nat},(∀ i,i<n→f i=g i)→trimN f n=trimN g n
 | 0,_=>rfl
 | n+1,h=>by
  unfold trimN;rw [h n (by omega),trimN_congr (n:=n) fun i hi=>h i (by omega)]
def trimL (l:List Nat):List Nat:=l.take (trimN (fun i=>l.getD i 0) l.length)
theorem trimL_ofT (n:Nat) (f:Nat→Nat):trimL (ofT n f)=ofT (trimN f n) f:=by
 unfold trimL;rw [ofT_len,trimN_congr (g:=f) fun i hi=>by rw [ofT_get,if_pos hi]];exact ofT_take _ _ _ (trimN_le f n)
theorem ptrim_tc (n:Nat) (f:Nat→Nat) (hn:n≤140737488351232):TC Tryz.prog 190 [numT n f] (polA (trimL (ofT n f))):=by
 rw [trimL_ofT,polA_ofT];unfold numT;refine Wv.TC.by 21 [0,14,2] [] [.tmp 2] Tryz.func190 rfl rfl rfl ?clo ?_
 case clo=>simp only [Wv.BC]
 refine Wv.W ?_;refine wfor (σ:=Nat) (fun k=>[(0,numT k f)]) (fun k=>[]) (fun k=>k≤n∧trimN f k=trimN f n) (fun k=>k) n ⟨Nat.le_refl _,rfl⟩ Wv.V (by simp (disch:=first|exact Wv.D|fail) only [Wv.B,simprocAttr,numT]) ?_;rintro k ⟨hk,he⟩;unfold numT;cases k with
 | zero=>
  have e0:trimN f n=0:=he.symm;simp (disch:=first|exact Wv.D|fail) only [Wv.B,simprocAttr,e0]
 | succ k=>
  have e1:((k+1:Nat):Int) - 1=(k:Int):=by omega
  have e2:(0:Int)<((k+1:Nat):Int):=by omega
  by_cases hd:f k=0
  ·have he':trimN f k=trimN f n:=by rw [←he,trimN_succ,if_pos hd]
   simp (disch:=first|exact Wv.D|fail) only [Wv.B,simprocAttr,e1,alA e2,hd];refine k_next k ⟨by omega,he'⟩ (by omega) Wv.V Wv.V
  ·have he':trimN f n=k+1:=by rw [←he,trimN_succ,if_neg hd]
   have hd': ¬ ((f k:Nat):Int)=0:=by omega
   simp (disch:=first|exact Wv.D|fail) only [Wv.B,simprocAttr,e1,alA e2,alB hd',he']
def horF (m:Nat) (f:Nat→Nat) (x n:Nat):Nat→Nat
 | 0=>0
 | k+1=>(horF m f x n k*x+f (n - 1 - k)) % m
def valL (m:Nat) (l:List Nat) (x:Nat):Nat:=horF m (fun i=>l.getD i 0) x l.length l.length
variable {m:Nat}
theorem horF_lt (hm:0<m) (f:Nat→Nat) (x n k:Nat):horF m f x n k<m:=by
 cases k with
 | zero=>exact hm
 | succ k=>exact Nat.mod_lt _ hm
theorem mul_bound {v:Nat} (hv:v<m) (hx:x<m) (hm:m≤2147483647):v*x≤4611686014132420609:=
 Nat.le_trans (Nat.mul_le_mul (show v≤2147483647 by omega) (show x≤2147483647 by omega)) (by decide)
theorem pvalue_tc (m:Nat) (l:List Nat) (x:Nat) (h1:2≤m) (h2:m≤2147483647) (hl: ∀ i,l.getD i 0<m) (hx:x<m) (hn:l.length≤140737488351232):
  TC Tryz.prog 187 [.v (.int .u32 m),polA l, .v (.int .u32 x)] (.v (.int .u32 (valL m l x:Nat))):=by
 unfold polA valL;obtain ⟨f,hf⟩: ∃ f:Nat→Nat,(fun i=>l.getD i 0)=f:=⟨_,rfl⟩
 have hl': ∀ i,f i<m:=fun i=>by rw [←hf];exact hl i
 rw [hf];clear hl hf;generalize l.length=n at*;unfold numT;refine Wv.TC.by 31 [1,8,13,7,2,0,6] [] [.tmp 6] Tryz.func187 rfl rfl rfl ?clo ?_
 case clo=>simp only [Wv.BC]
 refine Wv.W ?_;refine wfor (σ:=Nat) (fun k=>[(0, .v (.int .u32 m)),(1,numT n f),(2, .v (.int .u32 x)),(7, .v (.int .u64 (horF m f x n k:Nat))),(8, .v (.int .i64 ((n:Int) - 1 - k)))]) (fun k=>[]) (fun k=>k≤n) (fun k=>n - k) 0 (Nat.zero_le _) Wv.V (by simp (disch:=first|exact Wv.D|fail) only [Wv.B,simprocAttr,numT];rfl) ?_;intro k hk;have hv:=horF_lt (m:=m) (by omega) f x n k;have hm0: ¬ ((m:Int)=0):=by omega
 have e0:horF m f x n (k+1)=(horF m f x n k*x+f (n - 1 - k)) % m:=rfl;unfold numT;by_cases hlt:k<n
 ·have e1:(0:Int)≤(n:Int) - 1 - k:=by omega
  have e2:(n:Int) - 1 - k=((n - 1 - k:Nat):Int):=by omega
  have hf:=hl' (n - 1 - k);have hb:=mul_bound hv hx h2;have e5:((n - 1 - k:Nat):Int) - 1=(n:Int) - 1 - ((k+1:Nat):Int):=by omega
  have e6:0<n - k:=by omega
  have hj:n - 1 - k<n:=by omega
  have e3:((horF m f x n (k+1):Nat):Int)=((horF m f x n k:Int)*(x:Int)+(f (n - 1 - k):Int)) % (m:Int):=by rw [e0,Int.natCast_emod,Int.natCast_add,Int.natCast_mul]
  clear e0;generalize horF m f x n k=v at*;generalize n - 1 - k=j at*;have hb':((v*x:Nat):Int)≤4611686014132420609:=by omega
  have hb0:0≤((v*x:Nat):Int):=by omega
  rw [Int.natCast_mul] at hb' hb0;simp (disch:=first|exact Wv.D|fail) only [Wv.B,simprocAttr,alA e1,e2,pwrem];refine k_next (k+1) (by omega) (by omega) Wv.V (by simp (disch:=first|exact Wv.D|fail) only [Wv.B,simprocAttr,e3,e5])
 ·obtain rfl:k=n:=by omega
  have e1: ¬ (0:Int)≤(k:Int) - 1 - k:=by omega
  simp (disch:=first|exact Wv.D|fail) only [Wv.B,simprocAttr,alB e1]
theorem setLA_tab {m:Nat} {g:Nat→AV}: ∀ {k n:Nat} {f:Nat→AV},m≤n→k≤m→setLA (tab n f) (m - k) (tab k fun i=>g (i+(m - k)))=tab n fun i=>if m - k≤i∧i<m then g i else f i
 | 0,n,f,h,hk=>by
  show tab n f=_;exact tab_congr fun i hi=>by rw [if_neg (by omega)]
 | k+1,n,f,h,hk=>by
  have e1:(tab (k+1) fun i=>g (i+(m - (k+1))))=g (m - (k+1))::tab k fun i=>g (i+(m - k)):=by
   unfold tab;rw [List.range_succ_eq_map,List.map_cons,List.map_map,Nat.zero_add];congr 1;apply List.map_congr_left;intro i hi;show g (i+1+(m - (k+1)))=_;congr 1;omega
  rw [e1];show setLA ((tab n f).set (m - (k+1)) _) (m - (k+1)+1) _=_;rw [tab_set,show m - (k+1)+1=m - k by omega,setLA_tab (k:=k) h (by omega)];refine tab_congr fun i hi=>?_
  by_cases q:i=m - (k+1)
  ·subst q;rw [if_neg (by omega),if_pos rfl,if_pos (by omega)]
  ·by_cases q2:m - k≤i∧i<m
   ·rw [if_pos q2,if_pos (by omega)]
   ·rw [if_neg q2,if_neg q,if_neg (by omega)]
theorem setLA_tab0 {f g:Nat→AV} (h:m≤n):setLA (tab n f) 0 (tab m g)=tab n fun i=>if i<m then g i else f i:=by
 have:=setLA_tab (g:=g) (f:=f) h (Nat.le_refl m);rw [Nat.sub_self] at this;simp only [Nat.add_zero,Nat.zero_le,true_and] at this;exact this
def cbF (m c:Nat) (f g:Nat→Nat) (k i:Nat):Nat:=if i<k then (f i+g i*c) % m else f i
theorem cbF_at (m c:Nat) (f g:Nat→Nat) (k:Nat):cbF m c f g k k=f k:=by unfold cbF;rw [if_neg (by omega)]
theorem cbF_succ (m c:Nat) (f g:Nat→Nat) (k i:Nat):cbF m c f g (k+1) i=if i=k then (f k+g k*c) % m else cbF m c f g k i:=by
 unfold cbF;by_cases e:i=k
 ·subst e;rw [if_pos (by omega),if_pos rfl]
 ·rw [if_neg e];by_cases h:i<k
  ·rw [if_pos h,if_pos (by omega)]
  ·rw [if_neg h,if_neg (by omega)]
def combL (m:Nat) (a b:List Nat) (c:Nat):List Nat:=trimL (ofT (max a.length b.length) fun i=>if i<b.length then (a.getD i 0+b.getD i 0*c) % m else a.getD i 0)
theorem pcombine_tc (m:Nat) (a b:List Nat) (c:Nat) (h1:2≤m) (h2:m≤2147483647) (ha: ∀ i,a.getD i 0<m) (hb: ∀ i,b.getD i 0<m) (hc:c<m) (hn:a.length≤1000000000) (hk:b.length≤1000000000):
  TC Tryz.prog 188 [.v (.int .u32 m),polA a,polA b, .v (.int .u32 c)] (polA (combL m a b c)):=by
 unfold combL polA;have ha0: ∀ i,a.length≤i→a.getD i 0=0:=fun i h=>by simp [h]
 have hT:=ptrim_tc (max a.length b.length) (fun i=>if i<b.length then (a.getD i 0+b.getD i 0*c) % m else a.getD i 0) (by omega);generalize (trimL (ofT (max a.length b.length) fun i=>if i<b.length then (a.getD i 0+b.getD i 0*c) % m else a.getD i 0))=R at*;have hRc:=polA_clo R;unfold polA at hT hRc;obtain ⟨f,hf⟩: ∃ f:Nat→Nat,f=fun i=>a.getD i 0:=⟨_,rfl⟩
 obtain ⟨g,hg⟩: ∃ g:Nat→Nat,g=fun i=>b.getD i 0:=⟨_,rfl⟩
 have ef: ∀ i,a.getD i 0=f i:=fun i=>by rw [hf]
 have eg: ∀ i,b.getD i 0=g i:=fun i=>by rw [hg]
 simp only [ef,eg] at*;clear ef eg hf hg;generalize a.length=p at*;generalize b.length=q at*;unfold numT at*;have hcF: ∀ k i,cbF m c f g k i<m:=fun k i=>by unfold cbF;split;exact Nat.mod_lt _ (by omega);exact ha i
 have hTe:(fun i=>AV.v (Value.int IntKind.u32 (((fun i=>if i<q then (f i+g i*c) % m else f i) i:Nat):Int)))=fun i=>AV.v (.int .u32 (cbF m c f g q i:Nat)):=rfl
 have hmx:(if (q:Int)>(p:Int) then (q:Int) else (p:Int)).toNat=max p q:=by split<;>omega
 have hmy:(if (q:Int)>(p:Int) then (q:Int) else (p:Int))=((max p q:Nat):Int):=by split<;>omega
 have hpN:p≤max p q:=Nat.le_max_left _ _;have hqN:q≤max p q:=Nat.le_max_right _ _;have hNN:max p q≤1000000000:=by omega
 rw [hTe] at hT;clear hTe;generalize max p q=N at*;have h0:(tab N fun i=>if i<p then AV.v (.int .u32 (f i:Nat)) else AV.v (.int .u32 0))=tab N fun i=>AV.v (.int .u32 (cbF m c f g 0 i:Nat)):=tab_congr fun i hi=>by
  by_cases h:i<p
  ·rw [if_pos h];rfl
  ·rw [if_neg h];show _=AV.v (.int .u32 (f i:Nat));rw [ha0 i (by omega)];rfl
 refine Wv.TC.by 49 [1,2,9,23,22,24,21,10,11,3,0,8] [] [.tmp 8] Tryz.func188 rfl rfl rfl ?clo ?_
 case clo=>exact hRc
 simp (disch:=first|exact Wv.D|fail) only [Wv.B,simprocAttr,setLA_tab0,hmx,h0];clear h0;refine wfor (σ:=Nat) (fun k=>[(0, .v (.int .u32 m)),(3, .v (.int .u32 c)),(9, .own 0 N),(21, .t q 1 (tab q fun i=> .v (.int .u32 (g i:Nat)))),(22, .v (.int .i64 q)),(23, .v (.int .i64 k))])
  (fun k=>[some (.arr 22 1 (tab N fun i=> .v (.int .u32 (cbF m c f g k i:Nat))) 0)]) (fun k=>k≤q) (fun k=>q - k) 0 (Nat.zero_le _) rfl Wv.V ?_
 intro k hk;by_cases hlt:k<q
 ·have e1:(k:Int)<(q:Int):=by omega
  have hb1:=mul_bound (hb k) hc h2;have hf:=ha k;have hg:=hb k;have hcc:=cbF_succ m c f g k;have hck:cbF m c f g k k=f k:=cbF_at m c f g k;have hb':(((g k)*c:Nat):Int)≤4611686014132420609:=by omega
  have hb0:0≤(((g k)*c:Nat):Int):=by omega
  rw [Int.natCast_mul] at hb' hb0;have e7:IntKind.u32.wrap ((((f k:Nat):Int)+((g k:Nat):Int)*(c:Int)) % (m:Int))=(((f k+g k*c) % m:Nat):Int):=by
   have h8:(((f k+g k*c) % m:Nat):Int)=(((f k:Nat):Int)+((g k:Nat):Int)*(c:Int)) % (m:Int):=by rw [Int.natCast_emod,Int.natCast_add,Int.natCast_mul]
   have h9:(f k+g k*c) % m<m:=Nat.mod_lt _ (by omega);rw [←h8,IntKind.wrap_u32];omega
  have h8:(tab N fun i=>if i=k then AV.v (.int .u32 (((f k+g k*c) % m:Nat):Int)) else AV.v (.int .u32 (cbF m c f g k i:Nat)))=tab N fun i=>AV.v (.int .u32 (cbF m c f g (k+1) i:Nat)):=tab_congr fun i hi=>by
   rw [hcc];by_cases h:i=k
   ·rw [if_pos h,if_pos h]
   ·rw [if_neg h,if_neg h]
  simp (disch:=first|exact Wv.D|fail) only [Wv.B,simprocAttr,alA e1,hck,pwrem,tab_set,e7,h8];refine k_next (k+1) (by omega) (by omega) rfl Wv.V2
 ·obtain rfl:k=q:=by omega
  simp (disch:=first|exact Wv.D|fail) only [Wv.B,simprocAttr,Int.lt_irrefl,decide_false];refine call_cl hT (clo1 Wv.c) hRc ?_;refine Wv.W ?_;refine sCl_some rfl ?_;exact Wv.V
def cvF (m q:Nat) (f g:Nat→Nat):Nat→Nat→Nat
 | 0,j=>0
 | i+1,j=>if i≤j∧j<i+q then (cvF m q f g i j+f i*g (j - i)) % m else cvF m q f g i j
def cvR (m q:Nat) (f g:Nat→Nat) (i k j:Nat):Nat:=if i≤j∧j<i+k then (cvF m q f g i j+f i*g (j - i)) % m else cvF m q f g i j
theorem cvR_zero (m q:Nat) (f g:Nat→Nat) (i j:Nat):cvR m q f g i 0 j=cvF m q f g i j:=by unfold cvR;rw [if_neg (by omega)]
theorem cvR_at (m q:Nat) (f g:Nat→Nat) (i k:Nat):cvR m q f g i k (i+k)=cvF m q f g i (i+k):=by unfold cvR;rw [if_neg (by omega)]
theorem cvR_succ (m q:Nat) (f g:Nat→Nat) (i k j:Nat):cvR m q f g i (k+1) j=if j=i+k then (cvF m q f g i (i+k)+f i*g k) % m else cvR m q f g i k j:=by
 unfold cvR;by_cases e:j=i+k
 ·subst e;rw [if_pos (by omega),if_pos rfl,Nat.add_sub_cancel_left]
 ·rw [if_neg e];by_cases h:i≤j∧j<i+k
  ·rw [if_pos h,if_pos (by omega)]
  ·rw [if_neg h,if_neg (by omega)]
theorem cvF_lt (hm:0<m) (q:Nat) (f g:Nat→Nat): ∀ i j,cvF m q f g i j<m
 | 0,j=>hm
 | i+1,j=>by
  unfold cvF;split
  ·exact Nat.mod_lt _ hm
  ·exact cvF_lt hm q f g i j
def prodL (m:Nat) (a b:List Nat):List Nat:=if a.length=0∨b.length=0 then [] else trimL (ofT (a.length+b.length - 1) (cvF m b.length (fun i=>a.getD i 0) (fun i=>b.getD i 0) a.length))
theorem pproduct_tc (m:Nat) (a b:List Nat) (h1:2≤m) (h2:m≤2147483647) (ha: ∀ i,a.getD i 0<m) (hb: ∀ i,b.getD i 0<m) (hn:a.length≤1000000000) (hk:b.length≤1000000000):
  TC Tryz.prog 189 [.v (.int .u32 m),polA a,polA b] (polA (prodL m a b)):=by
 by_cases hz:a.length=0∨b.length=0
 ·unfold prodL;rw [if_pos hz];have T:TC Tryz.prog 189 [.v (.int .u32 m),polA a,polA b] (.v (.slice none 0 0)):=by
   unfold polA numT;generalize a.length=p at*;generalize b.length=q at*;refine Wv.TC.by 67 [1,2,19,29,28,30,27,36,35,37,34,7,8,10,9,11,0,6] [] [.tmp 6] Tryz.func189 rfl rfl rfl ?clo ?_
   case clo=>simp only [Wv.BC]
   by_cases h:p=0
   ·have e1:(p:Int)=0:=by omega
    simp (disch:=first|exact Wv.D|fail) only [Wv.B,simprocAttr,e1,alA e1]
   ·have e1: ¬ (p:Int)=0:=by omega
    have e2:(q:Int)=0:=by omega
    simp (disch:=first|exact Wv.D|fail) only [Wv.B,simprocAttr,alB e1,e2]
  exact T.wk (⟨Wk.refl _,Wk.refl _,Wk.refl _,trivial⟩:WkL [AV.v (.int .u32 m),polA a,polA b] [AV.v (.int .u32 m),polA a,polA b]) (Wk.nil 1)
 have hp0:0<a.length:=by omega
 have hq0:0<b.length:=by omega
 unfold prodL;rw [if_neg hz];clear hz;have hT:=ptrim_tc (a.length+b.length - 1) (cvF m b.length (fun i=>a.getD i 0) (fun i=>b.getD i 0) a.length) (by omega);generalize (trimL (ofT (a.length+b.length - 1) (cvF m b.length (fun i=>a.getD i 0) (fun i=>b.getD i 0) a.length)))=R at*;have hRc:=polA_clo R;unfold polA at hT hRc ⊢;obtain ⟨f,hf⟩: ∃ f:Nat→Nat,f=fun i=>a.getD i 0:=⟨_,rfl⟩
 obtain ⟨g,hg⟩: ∃ g:Nat→Nat,g=fun i=>b.getD i 0:=⟨_,rfl⟩
 have ef: ∀ i,a.getD i 0=f i:=fun i=>by rw [hf]
 have eg: ∀ i,b.getD i 0=g i:=fun i=>by rw [hg]
 simp only [ef,eg] at*;clear ef eg hf hg;generalize a.length=p at*;generalize b.length=q at*;unfold numT at*;have hN:((p:Int)+(q:Int) - 1).toNat=p+q - 1:=by omega
 obtain ⟨N,hNe⟩: ∃ N,N=p+q - 1:=⟨_,rfl⟩
 rw [←hNe] at hN hT;have hNN:N≤2000000000:=by omega
 have h0:(tab N fun i=>AV.v (.int .u32 0))=tab N fun i=>AV.v (.int .u32 (cvF m q f g 0 i:Nat)):=rfl
 refine Wv.TC.by 67 [1,2,19,29,28,30,27,36,35,37,34,7,8,10,9,11,0,6] [] [.tmp 6] Tryz.func189 rfl rfl rfl ?clo ?_
 case clo=>exact hRc
 have e1: ¬ (p:Int)=0:=by omega
 have e2: ¬ (q:Int)=0:=by omega
 simp (disch:=first|exact Wv.D|fail) only [Wv.B,simprocAttr,alB e1,alB e2,hN,h0];clear h0 hN;refine wfor (σ:=Nat) (fun i=>[(0, .v (.int .u32 m)),(2, .t q 1 (tab q fun i=> .v (.int .u32 (g i:Nat)))),(7, .own 0 N),(27, .t p 1 (tab p fun i=> .v (.int .u32 (f i:Nat)))),(28, .v (.int .i64 p)),(29, .v (.int .i64 i))])
  (fun i=>[some (.arr 22 1 (tab N fun j=> .v (.int .u32 (cvF m q f g i j:Nat))) 0)]) (fun i=>i≤p) (fun i=>p - i) 0 (Nat.zero_le _) rfl Wv.V ?_
 intro i hi;by_cases hlt:i<p
 ·have e3:(i:Int)<(p:Int):=by omega
  simp (disch:=first|exact Wv.D|fail) only [Wv.B,simprocAttr,alA e3];have h0:(tab N fun j=>AV.v (.int .u32 (cvF m q f g i j:Nat)))=tab N fun j=>AV.v (.int .u32 (cvR m q f g i 0 j:Nat)):=tab_congr fun j hj=>by rw [cvR_zero]
  refine wfor (σ:=Nat) (fun k=>[(0, .v (.int .u32 m)),(2, .t q 1 (tab q fun i=> .v (.int .u32 (g i:Nat)))),(7, .own 0 N),(8, .v (.int .i64 i)),(9, .v (.int .u32 (f i:Nat))),(27, .t p 1 (tab p fun i=> .v (.int .u32 (f i:Nat)))),(28, .v (.int .i64 p)),(29, .v (.int .i64 i)),(34, .t q 1 (tab q fun i=> .v (.int .u32 (g i:Nat)))),(35, .v (.int .i64 q)),(36, .v (.int .i64 k))])
   (fun k=>[some (.arr 22 1 (tab N fun j=> .v (.int .u32 (cvR m q f g i k j:Nat))) 0)]) (fun k=>k≤q) (fun k=>q - k) 0 (Nat.zero_le _) (by rw [h0]) Wv.V ?_
  clear h0;intro k hkk;by_cases hlt2:k<q
  ·have e4:(k:Int)<(q:Int):=by omega
   have hb1:=mul_bound (ha i) (hb k) h2;have hb':(((f i)*(g k):Nat):Int)≤4611686014132420609:=by omega
   have hb0:0≤(((f i)*(g k):Nat):Int):=by omega
   rw [Int.natCast_mul] at hb' hb0;have hik:i+k<N:=by omega
   have hfi:=ha i;have hgk:=hb k;have e5:(i:Int)+(k:Int)=((i+k:Nat):Int):=by omega
   have hc0:=cvF_lt (m:=m) (by omega) q f g i (i+k);have hck:cvR m q f g i k (i+k)=cvF m q f g i (i+k):=cvR_at m q f g i k;have e7:IntKind.u32.wrap ((((cvF m q f g i (i+k):Nat):Int)+((f i:Nat):Int)*((g k:Nat):Int)) % (m:Int))=(((cvF m q f g i (i+k)+f i*g k) % m:Nat):Int):=by
    have h8:(((cvF m q f g i (i+k)+f i*g k) % m:Nat):Int)=(((cvF m q f g i (i+k):Nat):Int)+((f i:Nat):Int)*((g k:Nat):Int)) % (m:Int):=by rw [Int.natCast_emod,Int.natCast_add,Int.natCast_mul]
    have h9:(cvF m q f g i (i+k)+f i*g k) % m<m:=Nat.mod_lt _ (by omega);rw [←h8,IntKind.wrap_u32];omega
   have h8:(tab N fun j=>if j=i+k then AV.v (.int .u32 (((cvF m q f g i (i+k)+f i*g k) % m:Nat):Int)) else AV.v (.int .u32 (cvR m q f g i k j:Nat)))=tab N fun j=>AV.v (.int .u32 (cvR m q f g i (k+1) j:Nat)):=tab_congr fun j hj=>by
    rw [cvR_succ];by_cases h:j=i+k
    ·rw [if_pos h,if_pos h]
    ·rw [if_neg h,if_neg h]
   simp (disch:=first|exact Wv.D|fail) only [Wv.B,simprocAttr,alA e4,e5,hck,pwrem,tab_set,e7,h8];refine k_next (k+1) (by omega) (by omega) rfl Wv.V2
  ·obtain rfl:k=q:=by omega
   have h1':(fun j=>cvR m k f g i k j)=cvF m k f g (i+1):=rfl;simp (disch:=first|exact Wv.D|fail) only [Wv.B,simprocAttr,Int.lt_irrefl,decide_false];refine k_next (i+1) (by omega) (by omega) rfl Wv.V2
 ·obtain rfl:i=p:=by omega
  simp (disch:=first|exact Wv.D|fail) only [Wv.B,simprocAttr,Int.lt_irrefl,decide_false];refine call_cl hT (clo1 Wv.c) hRc ?_;refine Wv.W ?_;refine sCl_some rfl ?_;exact Wv.V
def newtN (m : Nat) (xs ys : Nat → Nat) : Nat → List Nat × List Nat
  | 0 => ([], [1])
  | i + 1 => (combL m (newtN m xs ys i).1 (newtN m xs ys i).2 ((ys i + m - valL m (newtN m xs ys i).1 (xs i)) % m * (invE (valL m (newtN m xs ys i).2 (xs i)) m).1 % m),
      prodL m (newtN m xs ys i).2 [(m - xs i) % m, 1])
def pairB (m:Nat) (xs:Nat→Nat) (p:Nat × Nat):Bool:=decide (Nat.gcd m ((xs p.1+m - xs p.2) % m)=1)
def interR (m n:Nat) (xs ys:Nat→Nat):AV:=if (prs n).all (pairB m xs)=true then .tup [polA (trimL (newtN m xs ys n).1), .v (.int .i64 0)] else .tup [.v (.slice none 0 0), .v (.int .i64 7)]
theorem interR_clo (m n:Nat) (xs ys:Nat→Nat):Clo (interR m n xs ys):=by
 unfold interR;split
 ·simp only [Wv.BC,polA_clo]
 ·simp only [Wv.BC]
def interL (m n:Nat) (xs ys:Nat→Nat):List Nat × Int:=if (prs n).all (pairB m xs)=true then (trimL (newtN m xs ys n).1,0) else ([],7)
theorem trimL_len (l:List Nat):(trimL l).length≤l.length:=by unfold trimL;rw [List.length_take];exact Nat.min_le_right _ _
theorem trimL_lt (hm:0<m) {l:List Nat} (h: ∀ i,l.getD i 0<m) (i:Nat):(trimL l).getD i 0<m:=by
 unfold trimL;rw [List.getD_eq_getElem?_getD,List.getElem?_take];split
 ·have:=h i;rwa [List.getD_eq_getElem?_getD] at this
 ·exact hm
theorem ofT_lt (hm:0<m)  {f:Nat→Nat} (h: ∀ i,f i<m) (i:Nat):(ofT n f).getD i 0<m:=by
 rw [ofT_get];split
 ·exact h i
 ·exact hm
theorem combL_lt (hm:0<m) {a b:List Nat} {c:Nat} (ha: ∀ i,a.getD i 0<m) (i:Nat):(combL m a b c).getD i 0<m:=
 trimL_lt hm (ofT_lt hm fun i=>by split;exact Nat.mod_lt _ hm;exact ha i) i
theorem combL_len (m:Nat) (a b:List Nat) (c:Nat):(combL m a b c).length≤max a.length b.length:=by
 have:=trimL_len (ofT (max a.length b.length) fun i=>if i<b.length then (a.getD i 0+b.getD i 0*c) % m else a.getD i 0);rw [ofT_len] at this;exact this
theorem prodL_lt (hm:0<m) (a b:List Nat) (i:Nat):(prodL m a b).getD i 0<m:=by
 unfold prodL;split
 ·exact hm
 ·exact trimL_lt hm (ofT_lt hm fun i=>cvF_lt hm _ _ _ _ _) i
theorem prodL_len (m:Nat) (a b:List Nat):(prodL m a b).length≤a.length+b.length - 1:=by
 unfold prodL;split
 ·exact Nat.zero_le _
 ·have:=trimL_len (ofT (a.length+b.length - 1) (cvF m b.length (fun i=>a.getD i 0) (fun i=>b.getD i 0) a.length));rw [ofT_len] at this;exact this
theorem newt_ok {m : Nat} (hm : 2 ≤ m) (xs ys : Nat → Nat) : ∀ i, (∀ j, (newtN m xs ys i).1.getD j 0 < m) ∧ (∀ j, (newtN m xs ys i).2.getD j 0 < m) ∧ (newtN m xs ys i).1.length ≤ i ∧ (newtN m xs ys i).2.length ≤ i + 1
  | 0 => ⟨fun j => by show ([] : List Nat).getD j 0 < m; rw [List.getD_nil]; omega, fun j => by
      show ([1] : List Nat).getD j 0 < m;cases j with
      | zero => show 1 < m; omega
      | succ j => show 0 < m; omega, Nat.le_refl _, Nat.le_refl _⟩
  | i + 1 => by
    obtain ⟨h1, h2, h3, h4⟩ := newt_ok hm xs ys i;refine ⟨combL_lt (by omega) h1, prodL_lt (by omega) _ _, ?_, ?_⟩
    · have := combL_len m (newtN m xs ys i).1 (newtN m xs ys i).2 ((ys i + m - valL m (newtN m xs ys i).1 (xs i)) % m * (invE (valL m (newtN m xs ys i).2 (xs i)) m).1 % m)
      show (combL _ _ _ _).length ≤ _;omega
    · have := prodL_len m (newtN m xs ys i).2 [(m - xs i) % m, 1]
      show (prodL _ _ _).length ≤ _;simp only [List.length_cons, List.length_nil] at this;omega
theorem findF_lt {p:Nat→Bool}  (h:findF p n=some i):i<n:=by
 by_cases hx: ∃ j,j<n∧p j=true
 ·obtain ⟨j,hj,hp⟩:=hx;have key: ∀ k,(∀ j,j<k→p j=false)∨ ∃ j,j<k∧p j=true∧ ∀ i,i<j→p i=false:=fun k=>by
   induction k with
   | zero=>exact .inl fun j hj=>by omega
   | succ k ih=>
    rcases ih with q | ⟨j,q1,q2,q3⟩
    ·cases hq:p k with
     | true=>exact .inr ⟨k,by omega,hq,q⟩
     | false=>
      refine .inl fun j hj=>?_
      by_cases e:j=k
      ·subst e;exact hq
      ·exact q j (by omega)
    ·exact .inr ⟨j,by omega,q2,q3⟩
  rcases key n with q | ⟨k,q1,q2,q3⟩
  ·rw [q j hj] at hp;cases hp
  ·rw [findF_at q1 q2 q3] at h;injection h with h;omega
 ·rw [findF_none fun j hj=>by cases hq:p j with | false=>rfl | true=>exact absurd ⟨j,hj,hq⟩ hx] at h;cases h
theorem invN_lt (hn:0<n):(invE a n).1<n:=by
 unfold invE;split
 ·show (findF (fun i=>decide (i*a % n=1)) n).getD 0<n;cases h:findF (fun i=>decide (i*a % n=1)) n with
  | none=>exact hn
  | some i=>exact findF_lt h
 ·exact hn
theorem valL_lt (hm:0<m) (l:List Nat) (x:Nat):valL m l x<m:=horF_lt hm _ _ _ _
theorem ppairs_ht (n:Nat) (h:Hp) (hh:loH h.length h):HT Tryz.prog 185 [.v (.int .i64 n)] h (fun r h'=>r= .fn (.func 191) [] [.ptr h.length 0]∧h'=h++[some (.blk [.v (.int .i64 n)])]):=by
 refine Wv.HT.by 4 [0,1,2] [(1000000,h.length)] [.tmp 2] Tryz.func185 rfl rfl rfl ?base ?_
 case base=>rfl
 exact Wv.V
theorem pinter0_tc (m n:Nat) (xs ys:Nat→Nat) (h1:2≤m) (h2:m≤2147483647) (hn:n≤256) (hx: ∀ i,i<n→xs i<m) (hy: ∀ i,i<n→ys i<m):
  TC Tryz.prog 179 [.v (.int .u32 m),numT n xs,numT n ys] (interR m n xs ys):=by
 have hRc:=interR_clo m n xs ys;unfold numT;refine Wv.TC.by 137 [0,1,3,4,2,32,6,7,35,38,37,39,8,54,58,59,60,9,10,12,80,84,83,85,82,14,16,15,13,17,19] [(8,14),(14,18),(22,9),(23,21),(25,9)] [.cell 6 23, .cell 7 37] Tryz.func179 rfl rfl rfl ?clo ?_
 case clo=>exact hRc
 have d1: ¬ (m:Int)<2:=by omega
 have d2: ¬ (2147483647:Int)<(m:Int):=by omega
 have d3: ¬ (256:Int)<(n:Int):=by omega
 simp (disch:=first|exact Wv.D|fail) only [Wv.B,simprocAttr,alB d1,alB d2,alB d3];refine wfor (σ:=Nat) (fun i=>[(2, .t n 1 (tab n fun i=> .v (.int .u32 (ys i:Nat)))),(3, .ptr 0 0),(4, .ptr 1 0),(6, .ptr 2 0),(7, .ptr 3 0),(37, .v (.int .i64 n)),(38, .v (.int .i64 i))])
  (fun i=>[some (.blk [.v (.int .u32 m)]),some (.blk [.t n 1 (tab n fun i=> .v (.int .u32 (xs i:Nat)))]),some (.blk [.v (.slice none 0 0)]),some (.blk [.v (.int .i64 0)])]) (fun i=>i≤n) (fun i=>n - i) 0 (Nat.zero_le _) rfl Wv.V ?_
 intro i hi;by_cases hlt:i<n
 ·have e3:(i:Int)<(n:Int):=by omega
  have hxi:=hx i hlt;have hyi:=hy i hlt;have e4: ¬ (m:Int)≤(xs i:Nat):=by omega
  have e5: ¬ (m:Int)≤(ys i:Nat):=by omega
  simp (disch:=first|exact Wv.D|fail) only [Wv.B,simprocAttr,alA e3,alB e4,alB e5];refine k_next (i+1) (by omega) (by omega) rfl Wv.V2
 obtain rfl:n=i:=by omega
 simp (disch:=first|exact Wv.D|fail) only [Wv.B,simprocAttr,Int.lt_irrefl,decide_false];refine call_HT (fst:=[]) (cap:=[]) (ppairs_ht n _ ?_) ?_
 ·simp only [Wv.BL, ↓reduceIte,Nat.reduceLeDiff]
 rintro av h' ⟨rfl,rfl⟩;refine Wv.W ?_;obtain ⟨HH,hHH⟩: ∃ HH:Hp,HH=[some (.blk [.v (.int .u32 m)]),some (.blk [.t n 1 (tab n fun i=> .v (.int .u32 (xs i:Nat)))]),some (.blk [.v (.slice none 0 0)]),some (.blk [.v (.int .i64 0)]),some (.blk [.v (.int .i64 n)])]:=⟨_,rfl⟩
 rw [←hHH];refine wRange (L:=[0,1,3,4,2,32,6,7,35,38,37,39,8,54,58,59,60,9,10,12,80,84,83,85,82,14,16,15,13,17,19]) (ks':=[(8,14),(14,18),(22,9),(23,21),(25,9),(1000000,5)]) (by kernel_rfl) rfl (by kernel_rfl) (pairs_iter n (by rw [hHH];rfl) (by omega)) (fun _=>rfl) (by kernel_rfl) (by kernel_rfl) (by kernel_rfl) (by rw [hHH];rfl)
  (fun x=>(9, .v (.int .i64 (x.1.1:Nat)))::(10, .v (.int .i64 (x.1.2:Nat)))::[(3, .ptr 0 0),(4, .ptr 1 0),(6, .ptr 2 0),(7, .ptr 3 0)])
  (fun a x=>act2 59 60 9 10 (.int .i64 (x.1.1:Nat)) (.int .i64 (x.1.2:Nat)) a)
  ?assign ?rel (fun pre h'=>h'=HH∧ ∀ p,p∈pre→pairB m xs p.1=true) (fun c pre h'=>c= .ret∧h'=[some (.blk [.v (.int .u32 m)]),some (.blk [.t n 1 (tab n fun i=> .v (.int .u32 (xs i:Nat)))]),some (.blk [.v (.slice none 0 0)]),some (.blk [.v (.int .i64 7)]),some (.blk [.v (.int .i64 n)])]∧ ∃ p,p∈pre∧pairB m xs p.1=false)
  ?nt ?ntx ?ids ?h0 ?body ?done ?stop
 case h0=>exact ⟨rfl,fun p hp=>(List.not_mem_nil hp).elim⟩
 case assign=>exact fun a l x W K hs hK=>assign2 rfl rfl rfl rfl rfl rfl hs (by decide) (by decide) (by decide) (by decide) hK
 case rel=>
  intro a x hs;refine rel2 hs (by decide) (by decide) (by decide) ?_;intro y hy;simp only [List.mem_cons,List.not_mem_nil,or_false] at hy;rcases hy with rfl | rfl | rfl | rfl<;>exact ⟨rfl,by decide,by decide,by decide,by decide⟩
 case nt=>
  rintro pre h' ⟨rfl,_⟩;subst hHH;exact ⟨fun a ha=> .clo (by rw [List.mem_singleton] at ha;subst ha;exact .v _),fun a ha=> .clo (by rw [List.mem_singleton] at ha;subst ha;simp only [Wv.BC]),fun a ha=> .clo (by rw [List.mem_singleton] at ha;subst ha;exact .v _),fun a ha=> .clo (by rw [List.mem_singleton] at ha;subst ha;exact .v _),fun a ha=> .clo (by rw [List.mem_singleton] at ha;subst ha;exact .v _),trivial⟩
 case ntx=>
  rintro c pre h' ⟨_,rfl,_⟩;exact ⟨fun a ha=> .clo (by rw [List.mem_singleton] at ha;subst ha;exact .v _),fun a ha=> .clo (by rw [List.mem_singleton] at ha;subst ha;simp only [Wv.BC]),fun a ha=> .clo (by rw [List.mem_singleton] at ha;subst ha;exact .v _),fun a ha=> .clo (by rw [List.mem_singleton] at ha;subst ha;exact .v _),fun a ha=> .clo (by rw [List.mem_singleton] at ha;subst ha;exact .v _),trivial⟩
 case ids=>
  intro i hi;rw [List.mem_singleton] at hi;subst hi;refine ⟨by rw [hHH];exact Nat.le_refl _,[.int .i64 n],?_⟩;rintro pre h' ⟨rfl,_⟩;rw [hHH];rfl
 case stop=>
  rintro c pre h' hsp ⟨rfl,rfl,p,hp,hb⟩;have hQ:interR m n xs ys= .tup [.v (.slice none 0 0), .v (.int .i64 7)]:=if_neg fun hall=>by
   have:=List.all_eq_true.1 hall p.1 (hsp.subset (List.mem_map_of_mem hp));rw [this] at hb;cases hb
  unfold Exx;simp (disch:=first|exact Wv.D|fail) only [Wv.B,simprocAttr,hQ]
 case body=>
  rintro pre ⟨⟨i,k⟩,hi,hk⟩ h' ⟨rfl,hp⟩ _ _;subst hHH;simp only at hi hk;have hxi:=hx i hi;have hxk:=hx k (by omega);have hk':k<n:=by omega
  have hm: ¬ (m:Int)=0:=by omega
  have hr:(xs i+m - xs k) % m<m:=Nat.mod_lt _ (by omega);have e1:((xs i:Int)+(m:Int) - (xs k:Int)) % (m:Int)=(((xs i+m - xs k) % m:Nat):Int):=by
   rw [Int.natCast_emod];congr 1;omega
  have hpb:pairB m xs (i,k)=decide (Nat.gcd m ((xs i+m - xs k) % m)=1):=rfl;simp (disch:=first|exact Wv.D|fail) only [Wv.B,simprocAttr,alB hm,pwrem,e1];generalize (xs i+m - xs k) % m=z at*;refine calm_TC (pinv_tc z m h1 h2 hr) rfl Wv.c Wv.c ?_;by_cases hg:Nat.gcd m z=1
  ·have hv:(invE z m).2=0:=by unfold invE;rw [if_pos hg]
   simp (disch:=first|exact Wv.D|fail) only [Wv.B,simprocAttr,hv];refine ⟨_,_,Ent.refl _ _ _ _,rfl,fun p hq=>?_⟩;rcases List.mem_append.1 hq with hq | hq
   ·exact hp p hq
   ·rw [List.mem_singleton] at hq;subst hq;exact hpb.trans (alA hg)
  ·have hv:(invE z m).2=4:=by unfold invE;rw [if_neg hg]
   simp (disch:=first|exact Wv.D|fail) only [Wv.B,simprocAttr,hv];exact ⟨rfl,rfl,⟨(i,k),hi,hk⟩,List.mem_append_right _ (List.mem_singleton.2 rfl),hpb.trans (alB hg)⟩
 case done=>
  rintro zs h' hz ⟨rfl,hp⟩;have hall:(prs n).all (pairB m xs)=true:=by
   rw [←hz,List.all_map];exact List.all_eq_true.2 fun p hp'=>hp p hp'
  have hR:interR m n xs ys= .tup [polA (trimL (newtN m xs ys n).1), .v (.int .i64 0)]:=if_pos hall;rw [hR] at hRc ⊢;clear hR hp hz;subst hHH;refine Wv.W ?_;refine wforE (σ:=Nat) (fun i=>[(2, .t n 1 (tab n fun i=> .v (.int .u32 (ys i:Nat)))),(3, .ptr 0 0),(4, .ptr 1 0),(6, .ptr 2 0),(7, .ptr 3 0),(13,polA (newtN m xs ys i).1),(14,polA (newtN m xs ys i).2),(82, .t n 1 (tab n fun i=> .v (.int .u32 (xs i:Nat)))),(83, .v (.int .i64 n)),(84, .v (.int .i64 i))])
   (fun i=>[some (.blk [.v (.int .u32 m)]),some (.blk [.t n 1 (tab n fun i=> .v (.int .u32 (xs i:Nat)))]),some (.blk [.v (.slice none 0 0)]),some (.blk [.v (.int .i64 0)])]) (fun i=>i≤n) (fun i=>n - i) 0 (Nat.zero_le _) ?_ ?_
  ·refine Ent.trans (Ent.wk 13 _ (.t 0 1 []) rfl (Wk.nil 1)) (Ent.trans (Ent.close 14 (.own 5 1) (.t 1 1 [.v (.int .u32 1)]) _ rfl rfl) (Ent.cut 4 (Nat.zero_le _) ?_ ?_ ?_))
   ·simp (disch:=first|exact Wv.D|fail) only [Wv.B,simprocAttr];exact ⟨rfl,rfl⟩
   ·simp only [Wv.BL, ↓reduceIte,Nat.reduceLeDiff];exact ⟨by omega,by omega, .clo (polA_clo _), .clo (polA_clo _)⟩
   ·simp only [List.set_cons_zero,List.set_cons_succ];simp only [Wv.BL, ↓reduceIte,Nat.reduceLeDiff]
  ·intro i hi;obtain ⟨hb1,hb2,hb3,hb4⟩:=newt_ok h1 xs ys i;by_cases hlt:i<n
   ·have e3:(i:Int)<(n:Int):=by omega
    have hxi:=hx i hlt;have hyi:=hy i hlt;have hnx:newtN m xs ys (i+1)=(combL m (newtN m xs ys i).1 (newtN m xs ys i).2 ((ys i+m - valL m (newtN m xs ys i).1 (xs i)) % m*(invE (valL m (newtN m xs ys i).2 (xs i)) m).1 % m),prodL m (newtN m xs ys i).2 [(m - xs i) % m,1]):=rfl;generalize (newtN m xs ys i).1=O at*;generalize (newtN m xs ys i).2=B at*;have hvB:=valL_lt (m:=m) (by omega) B (xs i);have hvO:=valL_lt (m:=m) (by omega) O (xs i);have TB:=pvalue_tc m B (xs i) h1 h2 hb2 hxi (by omega);have TO:=pvalue_tc m O (xs i) h1 h2 hb1 hxi (by omega);have TI:=pinv_tc (valL m B (xs i)) m h1 h2 hvB;have hiv:=invN_lt (a:=valL m B (xs i)) (n:=m) (by omega);simp (disch:=first|exact Wv.D|fail) only [Wv.B,simprocAttr,alA e3];generalize valL m B (xs i)=vB at*;generalize valL m O (xs i)=vO at*;generalize (invE vB m).1=iv at*;generalize (invE vB m).2=ie at*;have hm0: ¬ (m:Int)=0:=by omega
    have hw:(ys i+m - vO) % m<m:=Nat.mod_lt _ (by omega);have hc:(ys i+m - vO) % m*iv % m<m:=Nat.mod_lt _ (by omega);have f1:((ys i:Int)+(m:Int) - (vO:Int)) % (m:Int)=(((ys i+m - vO) % m:Nat):Int):=by
     rw [Int.natCast_emod];congr 1;omega
    have hz:(m - xs i) % m<m:=Nat.mod_lt _ (by omega);have f4:((m:Int) - (xs i:Int)) % (m:Int)=(((m - xs i) % m:Nat):Int):=by
     rw [Int.natCast_emod];congr 1;omega
    have hmb:=mul_bound hw hiv h2;have f2:(((ys i+m - vO) % m:Nat):Int)*(iv:Int) % (m:Int)=(((ys i+m - vO) % m*iv % m:Nat):Int):=by
     rw [Int.natCast_emod ((ys i+m - vO) % m*iv),Int.natCast_mul]
    have TC1:=pcombine_tc m O B ((ys i+m - vO) % m*iv % m) h1 h2 hb1 hb2 hc (by omega) (by omega);have TP:TC Tryz.prog 189 [.v (.int .u32 m),polA B, .t 2 1 [.v (.int .u32 ((m - xs i) % m:Nat)), .v (.int .u32 1)]] (polA (prodL m B [(m - xs i) % m,1])):=pproduct_tc m B [(m - xs i) % m,1] h1 h2 hb2 (fun j=>by
     match j with
     | 0=>exact hz
     | 1=>show 1<m;omega
     | j+2=>show 0<m;omega) (by omega) (by show 2≤_;omega)
    have hr1:=polA_clo (combL m O B ((ys i+m - vO) % m*iv % m));have hr2:=polA_clo (prodL m B [(m - xs i) % m,1]);have e1:polA (newtN m xs ys (i+1)).1=polA (combL m O B ((ys i+m - vO) % m*iv % m)):=by rw [hnx]
    have e2:polA (newtN m xs ys (i+1)).2=polA (prodL m B [(m - xs i) % m,1]):=by rw [hnx]
    clear hnx;generalize polA (combL m O B ((ys i+m - vO) % m*iv % m))=O' at*;generalize polA (prodL m B [(m - xs i) % m,1])=B' at*;generalize (ys i+m - vO) % m*iv % m=c at*;have hmb':(((ys i+m - vO) % m*iv:Nat):Int)≤4611686014132420609:=by omega
    have hmb0:0≤(((ys i+m - vO) % m*iv:Nat):Int):=by omega
    rw [Int.natCast_mul] at hmb' hmb0;clear hmb;generalize (ys i+m - vO) % m=u at*;generalize (m - xs i) % m=z at*;refine calm_TC TB rfl (by simp only [Wv.BC,polA_clo]) Wv.c ?_;refine Wv.W ?_;refine calm_TC TI rfl Wv.c Wv.c ?_;simp (disch:=first|exact Wv.D|fail) only [Wv.B,simprocAttr,alB hm0,pwrem];refine calm_TC TO rfl (by simp only [Wv.BC,polA_clo]) Wv.c ?_;simp (disch:=first|exact Wv.D|fail) only [Wv.B,simprocAttr,alB hm0,pwrem,f1,f2];refine call_TC TC1 rfl (by simp only [Wv.BC,polA_clo]) hr1 ?_;simp (disch:=first|exact Wv.D|fail) only [Wv.B,simprocAttr,alB hm0,pwrem,f4];refine calm_TC TP rfl (by simp only [Wv.BC,polA_clo]) hr2 ?_;refine Wv.W ?_;refine k_next (i+1) (by omega) (by omega) rfl (by simp (disch:=first|exact Wv.D|fail) only [Wv.B,simprocAttr,e1,e2,Int.natCast_add,Int.natCast_one])
   ·obtain rfl:n=i:=by omega
    have T:=ptrim_tc (newtN m xs ys n).1.length (fun i=>(newtN m xs ys n).1.getD i 0) (by omega);rw [ofT_self] at T;have T':TC Tryz.prog 190 [polA (newtN m xs ys n).1] (polA (trimL (newtN m xs ys n).1)):=T;clear T;simp (disch:=first|exact Wv.D|fail) only [Wv.B,simprocAttr,Int.lt_irrefl,decide_false];refine call_TC T' rfl (by simp only [Wv.BC,polA_clo]) (polA_clo _) ?_;simp (disch:=first|exact Wv.D|fail) only [Wv.B,simprocAttr,polA,numT]
theorem pinter_tc (m n:Nat) (xs ys:Nat→Nat) (h1:2≤m) (h2:m≤2147483647) (hn:n≤256) (hx: ∀ i,i<n→xs i<m) (hy: ∀ i,i<n→ys i<m):
  TC Tryz.prog 179 [.v (.int .u32 m),numT n xs,numT n ys] (.tup [polA (interL m n xs ys).1, .v (.int .i64 (interL m n xs ys).2)]):=by
 refine (pinter0_tc m n xs ys h1 h2 hn hx hy).wk (⟨Wk.refl _,Wk.refl _,Wk.refl _,trivial⟩:WkL [AV.v (.int .u32 m),numT n xs,numT n ys] [AV.v (.int .u32 m),numT n xs,numT n ys]) ?_;unfold interR interL;split
 ·exact Wk.refl _
 ·exact Wk.tup (⟨Wk.nil 1,Wk.refl _,trivial⟩:WkL [.v (.slice none 0 0), .v (.int .i64 7)] [.t 0 1 [], .v (.int .i64 7)])
end
section
open Go.RowKit Wv
theorem put_get {a:Act} {d:Nat} {v:Value} (j:Nat) (hd:d<a.tmps.size):(a.put (some d) v).eval (.tmp j)=if d=j then v else a.eval (.tmp j):=by
 show (a.tmps.setIfInBounds d v).getD j undef=_;rw [getD_set];by_cases e:d=j
 ·subst e;rw [if_pos ⟨rfl,hd⟩,if_pos rfl]
 ·rw [if_neg (fun h=>e h.1),if_neg e];rfl
theorem aput_size {a:Act} {d:Nat} {v:Value}:(a.put (some d) v).tmps.size=a.tmps.size:=by
 show (a.tmps.setIfInBounds d v).size=_;exact Array.size_setIfInBounds
def resF (t:Nat) (f:Nat→Int) (v:Nat):Nat:=((f v+t) % t).toNat
def degS (t:Nat) (f:Nat→Int):Nat:=stepsN ((trimN (fun i=>(interL t t id (resF t f)).1.getD i 0) (interL t t id (resF t f)).1.length - 1:Nat):Int)
theorem resF_eq {t:Nat} (ht:0<t) (f:Nat→Int) (v:Nat):((resF t f v:Nat):Int)=(f v+t) % t:=Int.toNat_of_nonneg (Int.emod_nonneg _ (by omega))
theorem resF_lt {t:Nat} (ht:0<t) (f:Nat→Int) (v:Nat):resF t f v<t:=by
 have h1:=resF_eq ht f v;have h2:(f v+t) % t<t:=Int.emod_lt_of_pos _ (by omega);omega
def xiF (k i:Nat):Nat:=if i<k then i else 0
def yiF (t:Nat) (f:Nat→Int) (k i:Nat):Nat:=if i<k then resF t f i else 0
theorem xiF_zero (i:Nat):xiF 0 i=0:=if_neg (Nat.not_lt_zero _)
theorem yiF_zero (t:Nat) (f:Nat→Int) (i:Nat):yiF t f 0 i=0:=if_neg (Nat.not_lt_zero _)
theorem inter_len {t n:Nat} (h2:2≤t) (xs ys:Nat→Nat):(interL t n xs ys).1.length≤n:=by
 unfold interL;split
 ·exact Nat.le_trans (trimL_len _) (newt_ok h2 xs ys n).2.2.1
 ·exact Nat.zero_le _
theorem xiF_full {t:Nat}:(tab t fun i=>AV.v (.int .u32 (xiF t i:Nat)))=tab t fun i=>AV.v (.int .u32 (id i:Nat)):=tab_congr fun i hi=>by unfold xiF;rw [if_pos hi];rfl
theorem yiF_full {t:Nat} {f:Nat→Int}:(tab t fun i=>AV.v (.int .u32 (yiF t f t i:Nat)))=tab t fun i=>AV.v (.int .u32 (resF t f i:Nat)):=tab_congr fun i hi=>by unfold yiF;rw [if_pos hi]
theorem xiF_next {t k:Nat}:(tab t fun i=>if i=k then AV.v (.int .u32 (k:Nat)) else AV.v (.int .u32 (xiF k i:Nat)))=tab t fun i=>AV.v (.int .u32 (xiF (k+1) i:Nat)):=tab_congr fun i hi=>by
 unfold xiF;by_cases e:i=k
 ·subst e;rw [if_pos rfl,if_pos (by omega)]
 ·rw [if_neg e];by_cases h:i<k
  ·rw [if_pos h,if_pos (by omega)]
  ·rw [if_neg h,if_neg (by omega)]
theorem yiF_next {t k:Nat} {f:Nat→Int}:(tab t fun i=>if i=k then AV.v (.int .u32 (resF t f k:Nat)) else AV.v (.int .u32 (yiF t f k i:Nat)))=tab t fun i=>AV.v (.int .u32 (yiF t f (k+1) i:Nat)):=tab_congr fun i hi=>by
 unfold yiF;by_cases e:i=k
 ·subst e;rw [if_pos rfl,if_pos (by omega)]
 ·rw [if_neg e];by_cases h:i<k
  ·rw [if_pos h,if_pos (by omega)]
  ·rw [if_neg h,if_neg (by omega)]
theorem ptable1_ht {h:Hp} (k:Int) (s:ByteArray) (n:Int) (nl:Nat) (li:Nat→Int) (A:AV) (hA:Clo A) (hh:h[2]? =some (some (.blk [.v (.int .i64 k), .v (.string s), .v (.int .i64 n), .t nl 1 (tab nl fun i=> .v (.int .i64 (li i))),A]))) (v:Nat) (hv:v<nl) (hn:nl≤140737488351232):
  HT Tryz.prog 167 [.v (.int .i64 v), .ptr 2 0] h (fun q h'=>q= .v (.int .i64 (li v))∧h'=h):=by
 refine Wv.HT.by 9 [1,0,3] [(1000000,h.length)] [.tmp 3] Tryz.func167 rfl rfl rfl ?base ?_
 case base=>rfl
 simp (disch:=first|exact Wv.D|fail) only [Wv.B,simprocAttr,hh]
theorem pless1_ht {h:Hp} (k:Int) (s:ByteArray) (n:Int) (A B:AV) (hh:h[2]? =some (some (.blk [.v (.int .i64 k), .v (.string s), .v (.int .i64 n),A,B]))) (v:Nat):
  HT Tryz.prog 168 [.v (.int .i64 v), .ptr 2 0] h (fun q h'=>q= .v (.int .i64 (if (v:Int)<n then 1 else 0))∧h'=h):=by
 refine Wv.HT.by 8 [0,1,7,3] [(1000000,h.length)] [.tmp 3] Tryz.func168 rfl rfl rfl ?base ?_
 case base=>rfl
 by_cases hv:(v:Int)<n
 ·simp (disch:=first|exact Wv.D|fail) only [Wv.B,simprocAttr,hh,alA hv,if_pos hv]
 ·simp (disch:=first|exact Wv.D|fail) only [Wv.B,simprocAttr,hh,alB hv,if_neg hv]
theorem pdegree_ht (x:Par) (t:Nat) (ns:Nms) (C:List AV) (fid:FuncId) (val:Nat→Int) (h2:2≤t) (h256:t≤256)
  (hval: ∀ h:Hp,h[2]? =some (some (.blk C))→ ∀ v,v<t→HT Tryz.prog fid [.v (.int .i64 v), .ptr 2 0] h (fun q h'=>q= .v (.int .i64 (val v))∧h'=h)) (hlo: ∀ v,v<t→0≤val v+t) (hhi: ∀ v,v<t→val v≤4294967295):
  HT Tryz.prog 166 [.ptr 0 0, .fn (.func fid) [] [.ptr 2 0]] (hT x t ns++[(some (Ob.blk C):Option Ob)]) (fun q h'=>q= .v (.int .i64 (degS t val))∧h'.take 3=hT x t ns++[some (Ob.blk C)]):=by
 unfold hT tyC;simp only [List.cons_append,List.nil_append];refine Wv.HT.by 74 [0,5,23,22,24,7,6,1,8,10,64,71,4] [(5,20),(1000000,3),(1,1000000),(3000005,24)] [.tmp 4] Tryz.func166 rfl rfl rfl ?base ?_
 case base=>rfl
 refine Wv.W ?_;intro X a hbs hh hX hE;have hsz:a.tmps.size=74:=hE.size;have hp0:Rep X (.ptr 0 0) (a.tmps.getD 0 undef):=hE.rep 0;have hp1:Rep X (.fn (.func fid) [] [.ptr 2 0]) (a.tmps.getD 1 undef):=hE.rep 1;obtain ⟨b,hb,hv0⟩: ∃ b,(X.m 0).1=some b∧a.tmps.getD 0 undef= .pointer (some ⟨b,0,none⟩):=by
  generalize a.tmps.getD 0 undef=q at hp0;cases hp0 with
  | ptr hid hp=>exact hp _ (by rw [hh];rfl)
 obtain ⟨b',cvs,T,g1,g2,g3,g4,g5⟩:=hX.blk 0 _ (by rw [hh];rfl);rw [hb] at g1;injection g1 with g1;subst g1;have hcell:X.w.cell? ⟨b,7,none⟩=some (.int .i64 t):=by
  have e1:cellAt X.w b 7=cvs[7]? :=cellAt_blk g2;have hlt:7<cvs.size:=by rw [g3];show 7<9;decide
  have e2:=g5 7 (.v (.int .i64 t)) cvs[7] rfl (Array.getElem?_eq_getElem hlt);rw [Array.getElem?_eq_getElem hlt] at e1;generalize cvs[7]=q at e1 e2;cases e2;exact e1
 obtain ⟨Y0,y1,y2,y3,y4⟩:=drawn_up hX;have hcell0:Y0.w.cell? ⟨b,7,none⟩=some (.int .i64 t):=by rw [y1];exact hcell
 have hmA:makeA Tryz.prog 23 (t:Int) (t:Int)=some (22,1,tab t fun i=> .v (.int .u32 0)):=by
  exact Wv.V
 have hmk: ∀ (Y:Cx),Ok Y→ ∃ v Z,(Instr.makeSlice 23 (.int .i64 t) (.int .i64 t)).run Tryz.prog Y.w= .ok v Z.w∧Step Y Z∧Ok Z∧Rep Z (.own Y.h.length (t:Int).toNat) v∧Z.h=Y.h++[some (.arr 22 1 (tab t fun i=> .v (.int .u32 0)) 0)]:=fun Y hY=>make_ok hY hmA
 have cellT: ∀ (Y:Cx),Ok Y→Step X Y→X.h<+:Y.h→Y.w.cell? ⟨b,7,none⟩=some (.int .i64 t):=fun Y hY S hpre=>by
  have h0:Y.h[0]? =X.h[0]? :=by
   obtain ⟨r,hr⟩:=hpre;rw [←hr,List.getElem?_append_left (by rw [hh];exact Nat.zero_lt_succ _)]
  have h1:X.h[0]? =some (some (.blk [.v (.int .i64 x.n), .v (.int .u32 x.p), .v (.int .i64 x.r), .t x.ch.length 1 (x.ch.map fun (c:Nat)=> .v (.int .u32 c)), .v (.int .u32 x.sp), .v (.int .i64 x.wt), .v (.int .u32 x.er), .v (.int .i64 t), .mp 1])):=by rw [hh];rfl
  obtain ⟨c',q1,q2⟩:=S.oblk 0 _ (by rw [hh];exact Nat.zero_lt_succ _) (h0.trans h1);obtain ⟨b',cvs,T,g1,g2,g3,g4,g5⟩:=hY.blk 0 _ (h0.trans h1);rw [q2,hb] at g1;injection g1 with g1;subst g1;have e1:cellAt Y.w b 7=cvs[7]? :=cellAt_blk g2;have hlt:7<cvs.size:=by rw [g3];show 7<9;decide
  have e2:=g5 7 (.v (.int .i64 t)) cvs[7] rfl (Array.getElem?_eq_getElem hlt);rw [Array.getElem?_eq_getElem hlt] at e1;generalize cvs[7]=q at e1 e2;cases e2;exact e1
 obtain ⟨EE,hEE⟩: ∃ EE:Nat→Nat→Ev,EE=fun i j=>[(0, .ptr 0 0),(1, .fn (.func fid) [] [.ptr 2 0]),(4, .v (.int .i64 0)),(5, .own i t),(6, .own j t)]:=⟨_,rfl⟩
 have hp4:Rep X (.v (.int .i64 0)) (a.tmps.getD 4 undef):=hE.rep 4;have htn:(t:Int).toNat=t:=Int.toNat_natCast t;refine wp_mono (wp_region_held (S:=fun w=>w.cell? ⟨b,7,none⟩=some (.int .i64 t)) (Q:=fun ex a' w'=>ex= .normal∧ ∃ (Y:Cx) (i j:Nat),Y.w=w'∧Step X Y∧Ok Y∧EnvOk Y 74 (EE i j) a'∧Y.h=X.h++[some (.arr 22 1 (tab t fun i=> .v (.int .u32 0)) 0),some (.arr 22 1 (tab t fun i=> .v (.int .u32 0)) 0)]∧((i=3∧j=4)∨(i=4∧j=3))) (by kernel_rfl) ?_) ?_
 ·rw [←y1];have da:a.defers=a.defers:=rfl;have sa:a.tmps.size=74:=hsz;have ea_0:a.eval (.tmp 0)= .pointer (some ⟨b,0,none⟩):=hv0;have ka_1:a.eval (.tmp 1)=a.eval (.tmp 1):=rfl;have ka_4:a.eval (.tmp 4)=a.eval (.tmp 4):=rfl;refine wpAnyH_take (i:=0) (v:= .pointer (some ⟨b,0,none⟩)) rfl (by kernel_rfl) (by kernel_rfl) (by kernel_rfl) (fun _ _ _ h=>by cases h.1) (.inl ⟨rfl,fun w hw=>?y0⟩) hcell0 ?_
  case y0=>
   have hw':w.cell? ⟨b,7,none⟩=some (.int .i64 t):=hw;have e':=ea_0;simp only [Act.eval,Array.getD_eq_getD_getElem?] at e';simp [execOp,go_sem,e',hw']
  generalize hA0:a.put _ _=A0;have sA0:A0.tmps.size=74:=by rw [←hA0];exact aput_size.trans sa
  have gA0: ∀ j,A0.eval (.tmp j)=if 11=j then .pointer (some ⟨b,0,none⟩) else a.eval (.tmp j):=fun j=>by rw [←hA0];exact put_get j (by rw [sa];decide)
  have dA0:A0.defers=a.defers:=by rw [←hA0];exact da
  have eA0_0:A0.eval (.tmp 0)= .pointer (some ⟨b,0,none⟩):=(gA0 _).trans ((if_neg (by decide)).trans ea_0);have eA0_11:A0.eval (.tmp 11)= .pointer (some ⟨b,0,none⟩):=(gA0 _).trans (if_pos rfl);have kA0_1:A0.eval (.tmp 1)=a.eval (.tmp 1):=(gA0 _).trans ((if_neg (by decide)).trans ka_1);have kA0_4:A0.eval (.tmp 4)=a.eval (.tmp 4):=(gA0 _).trans ((if_neg (by decide)).trans ka_4);clear hA0 gA0;refine wpAnyH_take (i:=1) (v:= .pointer (some ⟨b,0,none⟩)) rfl (by kernel_rfl) (by kernel_rfl) (by kernel_rfl) (fun _ _ _ h=>by cases h.1) (.inl ⟨rfl,fun w hw=>?y1⟩) hcell0 ?_
  case y1=>
   have hw':w.cell? ⟨b,7,none⟩=some (.int .i64 t):=hw;have e':=eA0_11;simp only [Act.eval,Array.getD_eq_getD_getElem?] at e';simp [execOp,go_sem,e',hw']
  generalize hA1:A0.put _ _=A1;have sA1:A1.tmps.size=74:=by rw [←hA1];exact aput_size.trans sA0
  have gA1: ∀ j,A1.eval (.tmp j)=if 12=j then .pointer (some ⟨b,0,none⟩) else A0.eval (.tmp j):=fun j=>by rw [←hA1];exact put_get j (by rw [sA0];decide)
  have dA1:A1.defers=a.defers:=by rw [←hA1];exact dA0
  have eA1_0:A1.eval (.tmp 0)= .pointer (some ⟨b,0,none⟩):=(gA1 _).trans ((if_neg (by decide)).trans eA0_0);have eA1_12:A1.eval (.tmp 12)= .pointer (some ⟨b,0,none⟩):=(gA1 _).trans (if_pos rfl);have kA1_1:A1.eval (.tmp 1)=a.eval (.tmp 1):=(gA1 _).trans ((if_neg (by decide)).trans kA0_1);have kA1_4:A1.eval (.tmp 4)=a.eval (.tmp 4):=(gA1 _).trans ((if_neg (by decide)).trans kA0_4);clear hA1 gA1;refine wpAnyH_take (i:=2) (v:= .pointer (some ⟨b,7,none⟩)) rfl (by kernel_rfl) (by kernel_rfl) (by kernel_rfl) (fun _ _ _ h=>by cases h.1) (.inl ⟨rfl,fun w hw=>?y2⟩) hcell0 ?_
  case y2=>
   have hw':w.cell? ⟨b,7,none⟩=some (.int .i64 t):=hw;have e':=eA1_12;simp only [Act.eval,Array.getD_eq_getD_getElem?] at e';simp [execOp,go_sem,e',hw']
  generalize hA2:A1.put _ _=A2;have sA2:A2.tmps.size=74:=by rw [←hA2];exact aput_size.trans sA1
  have gA2: ∀ j,A2.eval (.tmp j)=if 13=j then .pointer (some ⟨b,7,none⟩) else A1.eval (.tmp j):=fun j=>by rw [←hA2];exact put_get j (by rw [sA1];decide)
  have dA2:A2.defers=a.defers:=by rw [←hA2];exact dA1
  have eA2_0:A2.eval (.tmp 0)= .pointer (some ⟨b,0,none⟩):=(gA2 _).trans ((if_neg (by decide)).trans eA1_0);have eA2_13:A2.eval (.tmp 13)= .pointer (some ⟨b,7,none⟩):=(gA2 _).trans (if_pos rfl);have kA2_1:A2.eval (.tmp 1)=a.eval (.tmp 1):=(gA2 _).trans ((if_neg (by decide)).trans kA1_1);have kA2_4:A2.eval (.tmp 4)=a.eval (.tmp 4):=(gA2 _).trans ((if_neg (by decide)).trans kA1_4);clear hA2 gA2;refine wpAnyH_take (i:=3) (v:= .int .i64 t) rfl (by kernel_rfl) (by kernel_rfl) (by kernel_rfl) (fun _ _ _ h=>by cases h.1) (.inl ⟨rfl,fun w hw=>?y3⟩) hcell0 ?_
  case y3=>
   have hw':w.cell? ⟨b,7,none⟩=some (.int .i64 t):=hw;have e':=eA2_13;simp only [Act.eval,Array.getD_eq_getD_getElem?] at e';simp [execOp,go_sem,e',hw']
  generalize hA3:A2.put _ _=A3;have sA3:A3.tmps.size=74:=by rw [←hA3];exact aput_size.trans sA2
  have gA3: ∀ j,A3.eval (.tmp j)=if 14=j then .int .i64 t else A2.eval (.tmp j):=fun j=>by rw [←hA3];exact put_get j (by rw [sA2];decide)
  have dA3:A3.defers=a.defers:=by rw [←hA3];exact dA2
  have eA3_0:A3.eval (.tmp 0)= .pointer (some ⟨b,0,none⟩):=(gA3 _).trans ((if_neg (by decide)).trans eA2_0);have eA3_14:A3.eval (.tmp 14)= .int .i64 t:=(gA3 _).trans (if_pos rfl);have kA3_1:A3.eval (.tmp 1)=a.eval (.tmp 1):=(gA3 _).trans ((if_neg (by decide)).trans kA2_1);have kA3_4:A3.eval (.tmp 4)=a.eval (.tmp 4):=(gA3 _).trans ((if_neg (by decide)).trans kA2_4);clear hA3 gA3;refine wpAnyH_take (i:=5) (v:= .pointer (some ⟨b,0,none⟩)) rfl (by kernel_rfl) (by kernel_rfl) (by kernel_rfl) (fun _ _ _ h=>by cases h.1) (.inl ⟨rfl,fun w hw=>?y5⟩) hcell0 ?_
  case y5=>
   have hw':w.cell? ⟨b,7,none⟩=some (.int .i64 t):=hw;have e':=eA3_0;simp only [Act.eval,Array.getD_eq_getD_getElem?] at e';simp [execOp,go_sem,e',hw']
  generalize hA4:A3.put _ _=A4;have sA4:A4.tmps.size=74:=by rw [←hA4];exact aput_size.trans sA3
  have gA4: ∀ j,A4.eval (.tmp j)=if 16=j then .pointer (some ⟨b,0,none⟩) else A3.eval (.tmp j):=fun j=>by rw [←hA4];exact put_get j (by rw [sA3];decide)
  have dA4:A4.defers=a.defers:=by rw [←hA4];exact dA3
  have eA4_0:A4.eval (.tmp 0)= .pointer (some ⟨b,0,none⟩):=(gA4 _).trans ((if_neg (by decide)).trans eA3_0);have eA4_14:A4.eval (.tmp 14)= .int .i64 t:=(gA4 _).trans ((if_neg (by decide)).trans eA3_14);have eA4_16:A4.eval (.tmp 16)= .pointer (some ⟨b,0,none⟩):=(gA4 _).trans (if_pos rfl);have kA4_1:A4.eval (.tmp 1)=a.eval (.tmp 1):=(gA4 _).trans ((if_neg (by decide)).trans kA3_1);have kA4_4:A4.eval (.tmp 4)=a.eval (.tmp 4):=(gA4 _).trans ((if_neg (by decide)).trans kA3_4);clear hA4 gA4;refine wpAnyH_take (i:=6) (v:= .pointer (some ⟨b,0,none⟩)) rfl (by kernel_rfl) (by kernel_rfl) (by kernel_rfl) (fun _ _ _ h=>by cases h.1) (.inl ⟨rfl,fun w hw=>?y6⟩) hcell0 ?_
  case y6=>
   have hw':w.cell? ⟨b,7,none⟩=some (.int .i64 t):=hw;have e':=eA4_16;simp only [Act.eval,Array.getD_eq_getD_getElem?] at e';simp [execOp,go_sem,e',hw']
  generalize hA5:A4.put _ _=A5;have sA5:A5.tmps.size=74:=by rw [←hA5];exact aput_size.trans sA4
  have gA5: ∀ j,A5.eval (.tmp j)=if 17=j then .pointer (some ⟨b,0,none⟩) else A4.eval (.tmp j):=fun j=>by rw [←hA5];exact put_get j (by rw [sA4];decide)
  have dA5:A5.defers=a.defers:=by rw [←hA5];exact dA4
  have eA5_0:A5.eval (.tmp 0)= .pointer (some ⟨b,0,none⟩):=(gA5 _).trans ((if_neg (by decide)).trans eA4_0);have eA5_14:A5.eval (.tmp 14)= .int .i64 t:=(gA5 _).trans ((if_neg (by decide)).trans eA4_14);have eA5_17:A5.eval (.tmp 17)= .pointer (some ⟨b,0,none⟩):=(gA5 _).trans (if_pos rfl);have kA5_1:A5.eval (.tmp 1)=a.eval (.tmp 1):=(gA5 _).trans ((if_neg (by decide)).trans kA4_1);have kA5_4:A5.eval (.tmp 4)=a.eval (.tmp 4):=(gA5 _).trans ((if_neg (by decide)).trans kA4_4);clear hA5 gA5;refine wpAnyH_take (i:=7) (v:= .pointer (some ⟨b,7,none⟩)) rfl (by kernel_rfl) (by kernel_rfl) (by kernel_rfl) (fun _ _ _ h=>by cases h.1) (.inl ⟨rfl,fun w hw=>?y7⟩) hcell0 ?_
  case y7=>
   have hw':w.cell? ⟨b,7,none⟩=some (.int .i64 t):=hw;have e':=eA5_17;simp only [Act.eval,Array.getD_eq_getD_getElem?] at e';simp [execOp,go_sem,e',hw']
  generalize hA6:A5.put _ _=A6;have sA6:A6.tmps.size=74:=by rw [←hA6];exact aput_size.trans sA5
  have gA6: ∀ j,A6.eval (.tmp j)=if 18=j then .pointer (some ⟨b,7,none⟩) else A5.eval (.tmp j):=fun j=>by rw [←hA6];exact put_get j (by rw [sA5];decide)
  have dA6:A6.defers=a.defers:=by rw [←hA6];exact dA5
  have eA6_0:A6.eval (.tmp 0)= .pointer (some ⟨b,0,none⟩):=(gA6 _).trans ((if_neg (by decide)).trans eA5_0);have eA6_14:A6.eval (.tmp 14)= .int .i64 t:=(gA6 _).trans ((if_neg (by decide)).trans eA5_14);have eA6_18:A6.eval (.tmp 18)= .pointer (some ⟨b,7,none⟩):=(gA6 _).trans (if_pos rfl);have kA6_1:A6.eval (.tmp 1)=a.eval (.tmp 1):=(gA6 _).trans ((if_neg (by decide)).trans kA5_1);have kA6_4:A6.eval (.tmp 4)=a.eval (.tmp 4):=(gA6 _).trans ((if_neg (by decide)).trans kA5_4);clear hA6 gA6;refine wpAnyH_take (i:=8) (v:= .int .i64 t) rfl (by kernel_rfl) (by kernel_rfl) (by kernel_rfl) (fun _ _ _ h=>by cases h.1) (.inl ⟨rfl,fun w hw=>?y8⟩) hcell0 ?_
  case y8=>
   have hw':w.cell? ⟨b,7,none⟩=some (.int .i64 t):=hw;have e':=eA6_18;simp only [Act.eval,Array.getD_eq_getD_getElem?] at e';simp [execOp,go_sem,e',hw']
  generalize hA7:A6.put _ _=A7;have sA7:A7.tmps.size=74:=by rw [←hA7];exact aput_size.trans sA6
  have gA7: ∀ j,A7.eval (.tmp j)=if 19=j then .int .i64 t else A6.eval (.tmp j):=fun j=>by rw [←hA7];exact put_get j (by rw [sA6];decide)
  have dA7:A7.defers=a.defers:=by rw [←hA7];exact dA6
  have eA7_0:A7.eval (.tmp 0)= .pointer (some ⟨b,0,none⟩):=(gA7 _).trans ((if_neg (by decide)).trans eA6_0);have eA7_14:A7.eval (.tmp 14)= .int .i64 t:=(gA7 _).trans ((if_neg (by decide)).trans eA6_14);have eA7_19:A7.eval (.tmp 19)= .int .i64 t:=(gA7 _).trans (if_pos rfl);have kA7_1:A7.eval (.tmp 1)=a.eval (.tmp 1):=(gA7 _).trans ((if_neg (by decide)).trans kA6_1);have kA7_4:A7.eval (.tmp 4)=a.eval (.tmp 4):=(gA7 _).trans ((if_neg (by decide)).trans kA6_4);clear hA7 gA7;refine wpAnyH_all (rs:=[4,9]) (by kernel_rfl) (by decide) ?_;intro i hi;have hi':i=4∨i=9:=by simpa using hi
  clear hi;obtain ⟨v1,Z1,r1,S1,ok1,rep1,hz1⟩:=hmk Y0 y4;have St1:=y3.trans hX S1;have c1:=cellT Z1 ok1 St1 ⟨_,by rw [hz1,y2]⟩;rcases hi' with rfl | rfl
  ·refine wpOp_val rfl rfl (v:=v1) (w':=Z1.w) ?_ ⟨c1,?_⟩
   ·have e':=eA7_14;simp only [Act.eval,Array.getD_eq_getD_getElem?] at e';simp [execOp,Act.eval,e',r1]
   generalize hB1:A7.put _ _=B1;have sB1:B1.tmps.size=74:=by rw [←hB1];exact aput_size.trans sA7
   have gB1: ∀ j,B1.eval (.tmp j)=if 15=j then v1 else A7.eval (.tmp j):=fun j=>by rw [←hB1];exact put_get j (by rw [sA7];decide)
   have dB1:B1.defers=a.defers:=by rw [←hB1];exact dA7
   have eB1_0:B1.eval (.tmp 0)= .pointer (some ⟨b,0,none⟩):=(gB1 _).trans ((if_neg (by decide)).trans eA7_0);have eB1_14:B1.eval (.tmp 14)= .int .i64 t:=(gB1 _).trans ((if_neg (by decide)).trans eA7_14);have eB1_19:B1.eval (.tmp 19)= .int .i64 t:=(gB1 _).trans ((if_neg (by decide)).trans eA7_19);have eB1_15:B1.eval (.tmp 15)=v1:=(gB1 _).trans (if_pos rfl);have kB1_1:B1.eval (.tmp 1)=a.eval (.tmp 1):=(gB1 _).trans ((if_neg (by decide)).trans kA7_1);have kB1_4:B1.eval (.tmp 4)=a.eval (.tmp 4):=(gB1 _).trans ((if_neg (by decide)).trans kA7_4);clear hB1 gB1;refine wpAnyH_take (i:=10) (v:=v1) rfl (by kernel_rfl) (by kernel_rfl) (by kernel_rfl) (fun _ _ _ h=>by cases h.1) (.inl ⟨rfl,fun w hw=>?z1⟩) c1 ?_
   case z1=>
    have e':=eB1_15;simp only [Act.eval,Array.getD_eq_getD_getElem?] at e';simp [execOp,go_sem,Act.eval,e']
   generalize hB2:B1.put _ _=B2;have sB2:B2.tmps.size=74:=by rw [←hB2];exact aput_size.trans sB1
   have gB2: ∀ j,B2.eval (.tmp j)=if 5=j then v1 else B1.eval (.tmp j):=fun j=>by rw [←hB2];exact put_get j (by rw [sB1];decide)
   have dB2:B2.defers=a.defers:=by rw [←hB2];exact dB1
   have eB2_0:B2.eval (.tmp 0)= .pointer (some ⟨b,0,none⟩):=(gB2 _).trans ((if_neg (by decide)).trans eB1_0);have eB2_14:B2.eval (.tmp 14)= .int .i64 t:=(gB2 _).trans ((if_neg (by decide)).trans eB1_14);have eB2_19:B2.eval (.tmp 19)= .int .i64 t:=(gB2 _).trans ((if_neg (by decide)).trans eB1_19);have eB2_15:B2.eval (.tmp 15)=v1:=(gB2 _).trans ((if_neg (by decide)).trans eB1_15);have eB2_5:B2.eval (.tmp 5)=v1:=(gB2 _).trans (if_pos rfl);have kB2_1:B2.eval (.tmp 1)=a.eval (.tmp 1):=(gB2 _).trans ((if_neg (by decide)).trans kB1_1);have kB2_4:B2.eval (.tmp 4)=a.eval (.tmp 4):=(gB2 _).trans ((if_neg (by decide)).trans kB1_4);clear hB2 gB2;refine wpAnyH_all (rs:=[9]) (by kernel_rfl) (by decide) ?_;intro i hi;rw [List.mem_singleton] at hi;subst hi;obtain ⟨v2,Z2,r2,S2,ok2,rep2,hz2⟩:=hmk Z1 ok1;have St2:=St1.trans hX S2;have c2:=cellT Z2 ok2 St2 ⟨_,by rw [hz2,hz1,y2,List.append_assoc]⟩;refine wpOp_val rfl rfl (v:=v2) (w':=Z2.w) ?_ ⟨c2,?_⟩
   ·have e':=eB2_19;simp only [Act.eval,Array.getD_eq_getD_getElem?] at e';simp [execOp,Act.eval,e',r2]
   generalize hB3:B2.put _ _=B3;have sB3:B3.tmps.size=74:=by rw [←hB3];exact aput_size.trans sB2
   have gB3: ∀ j,B3.eval (.tmp j)=if 20=j then v2 else B2.eval (.tmp j):=fun j=>by rw [←hB3];exact put_get j (by rw [sB2];decide)
   have dB3:B3.defers=a.defers:=by rw [←hB3];exact dB2
   have eB3_0:B3.eval (.tmp 0)= .pointer (some ⟨b,0,none⟩):=(gB3 _).trans ((if_neg (by decide)).trans eB2_0);have eB3_14:B3.eval (.tmp 14)= .int .i64 t:=(gB3 _).trans ((if_neg (by decide)).trans eB2_14);have eB3_19:B3.eval (.tmp 19)= .int .i64 t:=(gB3 _).trans ((if_neg (by decide)).trans eB2_19);have eB3_15:B3.eval (.tmp 15)=v1:=(gB3 _).trans ((if_neg (by decide)).trans eB2_15);have eB3_5:B3.eval (.tmp 5)=v1:=(gB3 _).trans ((if_neg (by decide)).trans eB2_5);have eB3_20:B3.eval (.tmp 20)=v2:=(gB3 _).trans (if_pos rfl);have kB3_1:B3.eval (.tmp 1)=a.eval (.tmp 1):=(gB3 _).trans ((if_neg (by decide)).trans kB2_1);have kB3_4:B3.eval (.tmp 4)=a.eval (.tmp 4):=(gB3 _).trans ((if_neg (by decide)).trans kB2_4);clear hB3 gB3;refine wpAnyH_take (i:=11) (v:=v2) rfl (by kernel_rfl) (by kernel_rfl) (by kernel_rfl) (fun _ _ _ h=>by cases h.1) (.inl ⟨rfl,fun w hw=>?z2⟩) c2 ?_
   case z2=>
    have e':=eB3_20;simp only [Act.eval,Array.getD_eq_getD_getElem?] at e';simp [execOp,go_sem,Act.eval,e']
   generalize hB5:B3.put _ _=B5;have sB5:B5.tmps.size=74:=by rw [←hB5];exact aput_size.trans sB3
   have gB5: ∀ j,B5.eval (.tmp j)=if 6=j then v2 else B3.eval (.tmp j):=fun j=>by rw [←hB5];exact put_get j (by rw [sB3];decide)
   have dB5:B5.defers=a.defers:=by rw [←hB5];exact dB3
   have eB5_0:B5.eval (.tmp 0)= .pointer (some ⟨b,0,none⟩):=(gB5 _).trans ((if_neg (by decide)).trans eB3_0);have eB5_14:B5.eval (.tmp 14)= .int .i64 t:=(gB5 _).trans ((if_neg (by decide)).trans eB3_14);have eB5_19:B5.eval (.tmp 19)= .int .i64 t:=(gB5 _).trans ((if_neg (by decide)).trans eB3_19);have eB5_15:B5.eval (.tmp 15)=v1:=(gB5 _).trans ((if_neg (by decide)).trans eB3_15);have eB5_5:B5.eval (.tmp 5)=v1:=(gB5 _).trans ((if_neg (by decide)).trans eB3_5);have eB5_20:B5.eval (.tmp 20)=v2:=(gB5 _).trans ((if_neg (by decide)).trans eB3_20);have eB5_6:B5.eval (.tmp 6)=v2:=(gB5 _).trans (if_pos rfl);have kB5_1:B5.eval (.tmp 1)=a.eval (.tmp 1):=(gB5 _).trans ((if_neg (by decide)).trans kB3_1);have kB5_4:B5.eval (.tmp 4)=a.eval (.tmp 4):=(gB5 _).trans ((if_neg (by decide)).trans kB3_4);clear hB5 gB5;refine wpAnyH_done (by kernel_rfl) ⟨rfl,Z2,3,4,rfl,St2,ok2,⟨dB5.trans (hE.defers.trans St2.dse.symm),sB5,?_⟩,?_,?_⟩ _
   ·intro d;rw [hEE];rcases getE_in [(0, .ptr 0 0),(1, .fn (.func fid) [] [.ptr 2 0]),(4, .v (.int .i64 0)),(5, .own 3 t),(6, .own 4 t)] d with q | ⟨y,q1,q2,q3⟩
    ·rw [q];exact .none _
    ·rw [q3];show Rep Z2 y.2 (B5.eval (.tmp d));simp only [List.mem_cons,List.not_mem_nil,or_false] at q1;rcases q1 with rfl | rfl | rfl | rfl | rfl<;>(simp only at q2;subst q2)
     ·rw [eB5_0, ←ea_0];exact hp0.mono St2
     ·rw [kB5_1];exact hp1.mono St2
     ·rw [kB5_4];exact hp4.mono St2
     ·rw [eB5_5];have h3:=(rep1.mono S2);simpa [hz1,y2,hh,htn] using h3
     ·rw [eB5_6];have h3:=rep2;simpa [hz1,y2,hh,htn] using h3
   ·rw [hz2,hz1,y2,List.append_assoc];rfl
   ·exact .inl ⟨rfl,rfl⟩
  ·refine wpOp_val rfl rfl (v:=v1) (w':=Z1.w) ?_ ⟨c1,?_⟩
   ·have e':=eA7_19;simp only [Act.eval,Array.getD_eq_getD_getElem?] at e';simp [execOp,Act.eval,e',r1]
   generalize hB1:A7.put _ _=B1;have sB1:B1.tmps.size=74:=by rw [←hB1];exact aput_size.trans sA7
   have gB1: ∀ j,B1.eval (.tmp j)=if 20=j then v1 else A7.eval (.tmp j):=fun j=>by rw [←hB1];exact put_get j (by rw [sA7];decide)
   have dB1:B1.defers=a.defers:=by rw [←hB1];exact dA7
   have eB1_0:B1.eval (.tmp 0)= .pointer (some ⟨b,0,none⟩):=(gB1 _).trans ((if_neg (by decide)).trans eA7_0);have eB1_14:B1.eval (.tmp 14)= .int .i64 t:=(gB1 _).trans ((if_neg (by decide)).trans eA7_14);have eB1_19:B1.eval (.tmp 19)= .int .i64 t:=(gB1 _).trans ((if_neg (by decide)).trans eA7_19);have eB1_20:B1.eval (.tmp 20)=v1:=(gB1 _).trans (if_pos rfl);have kB1_1:B1.eval (.tmp 1)=a.eval (.tmp 1):=(gB1 _).trans ((if_neg (by decide)).trans kA7_1);have kB1_4:B1.eval (.tmp 4)=a.eval (.tmp 4):=(gB1 _).trans ((if_neg (by decide)).trans kA7_4);clear hB1 gB1;refine wpAnyH_all (rs:=[4]) (by kernel_rfl) (by decide) ?_;intro i hi;rw [List.mem_singleton] at hi;subst hi;obtain ⟨v2,Z2,r2,S2,ok2,rep2,hz2⟩:=hmk Z1 ok1;have St2:=St1.trans hX S2;have c2:=cellT Z2 ok2 St2 ⟨_,by rw [hz2,hz1,y2,List.append_assoc]⟩;refine wpOp_val rfl rfl (v:=v2) (w':=Z2.w) ?_ ⟨c2,?_⟩
   ·have e':=eB1_14;simp only [Act.eval,Array.getD_eq_getD_getElem?] at e';simp [execOp,Act.eval,e',r2]
   generalize hB3:B1.put _ _=B3;have sB3:B3.tmps.size=74:=by rw [←hB3];exact aput_size.trans sB1
   have gB3: ∀ j,B3.eval (.tmp j)=if 15=j then v2 else B1.eval (.tmp j):=fun j=>by rw [←hB3];exact put_get j (by rw [sB1];decide)
   have dB3:B3.defers=a.defers:=by rw [←hB3];exact dB1
   have eB3_0:B3.eval (.tmp 0)= .pointer (some ⟨b,0,none⟩):=(gB3 _).trans ((if_neg (by decide)).trans eB1_0);have eB3_14:B3.eval (.tmp 14)= .int .i64 t:=(gB3 _).trans ((if_neg (by decide)).trans eB1_14);have eB3_19:B3.eval (.tmp 19)= .int .i64 t:=(gB3 _).trans ((if_neg (by decide)).trans eB1_19);have eB3_20:B3.eval (.tmp 20)=v1:=(gB3 _).trans ((if_neg (by decide)).trans eB1_20);have eB3_15:B3.eval (.tmp 15)=v2:=(gB3 _).trans (if_pos rfl);have kB3_1:B3.eval (.tmp 1)=a.eval (.tmp 1):=(gB3 _).trans ((if_neg (by decide)).trans kB1_1);have kB3_4:B3.eval (.tmp 4)=a.eval (.tmp 4):=(gB3 _).trans ((if_neg (by decide)).trans kB1_4);clear hB3 gB3;refine wpAnyH_take (i:=10) (v:=v2) rfl (by kernel_rfl) (by kernel_rfl) (by kernel_rfl) (fun _ _ _ h=>by cases h.1) (.inl ⟨rfl,fun w hw=>?z1⟩) c2 ?_
   case z1=>
    have e':=eB3_15;simp only [Act.eval,Array.getD_eq_getD_getElem?] at e';simp [execOp,go_sem,Act.eval,e']
   generalize hB4:B3.put _ _=B4;have sB4:B4.tmps.size=74:=by rw [←hB4];exact aput_size.trans sB3
   have gB4: ∀ j,B4.eval (.tmp j)=if 5=j then v2 else B3.eval (.tmp j):=fun j=>by rw [←hB4];exact put_get j (by rw [sB3];decide)
   have dB4:B4.defers=a.defers:=by rw [←hB4];exact dB3
   have eB4_0:B4.eval (.tmp 0)= .pointer (some ⟨b,0,none⟩):=(gB4 _).trans ((if_neg (by decide)).trans eB3_0);have eB4_14:B4.eval (.tmp 14)= .int .i64 t:=(gB4 _).trans ((if_neg (by decide)).trans eB3_14);have eB4_19:B4.eval (.tmp 19)= .int .i64 t:=(gB4 _).trans ((if_neg (by decide)).trans eB3_19);have eB4_20:B4.eval (.tmp 20)=v1:=(gB4 _).trans ((if_neg (by decide)).trans eB3_20);have eB4_15:B4.eval (.tmp 15)=v2:=(gB4 _).trans ((if_neg (by decide)).trans eB3_15);have eB4_5:B4.eval (.tmp 5)=v2:=(gB4 _).trans (if_pos rfl);have kB4_1:B4.eval (.tmp 1)=a.eval (.tmp 1):=(gB4 _).trans ((if_neg (by decide)).trans kB3_1);have kB4_4:B4.eval (.tmp 4)=a.eval (.tmp 4):=(gB4 _).trans ((if_neg (by decide)).trans kB3_4);clear hB4 gB4;refine wpAnyH_take (i:=11) (v:=v1) rfl (by kernel_rfl) (by kernel_rfl) (by kernel_rfl) (fun _ _ _ h=>by cases h.1) (.inl ⟨rfl,fun w hw=>?z2⟩) c2 ?_
   case z2=>
    have e':=eB4_20;simp only [Act.eval,Array.getD_eq_getD_getElem?] at e';simp [execOp,go_sem,Act.eval,e']
   generalize hB5:B4.put _ _=B5;have sB5:B5.tmps.size=74:=by rw [←hB5];exact aput_size.trans sB4
   have gB5: ∀ j,B5.eval (.tmp j)=if 6=j then v1 else B4.eval (.tmp j):=fun j=>by rw [←hB5];exact put_get j (by rw [sB4];decide)
   have dB5:B5.defers=a.defers:=by rw [←hB5];exact dB4
   have eB5_0:B5.eval (.tmp 0)= .pointer (some ⟨b,0,none⟩):=(gB5 _).trans ((if_neg (by decide)).trans eB4_0);have eB5_14:B5.eval (.tmp 14)= .int .i64 t:=(gB5 _).trans ((if_neg (by decide)).trans eB4_14);have eB5_19:B5.eval (.tmp 19)= .int .i64 t:=(gB5 _).trans ((if_neg (by decide)).trans eB4_19);have eB5_20:B5.eval (.tmp 20)=v1:=(gB5 _).trans ((if_neg (by decide)).trans eB4_20);have eB5_15:B5.eval (.tmp 15)=v2:=(gB5 _).trans ((if_neg (by decide)).trans eB4_15);have eB5_5:B5.eval (.tmp 5)=v2:=(gB5 _).trans ((if_neg (by decide)).trans eB4_5);have eB5_6:B5.eval (.tmp 6)=v1:=(gB5 _).trans (if_pos rfl);have kB5_1:B5.eval (.tmp 1)=a.eval (.tmp 1):=(gB5 _).trans ((if_neg (by decide)).trans kB4_1);have kB5_4:B5.eval (.tmp 4)=a.eval (.tmp 4):=(gB5 _).trans ((if_neg (by decide)).trans kB4_4);clear hB5 gB5;refine wpAnyH_done (by kernel_rfl) ⟨rfl,Z2,4,3,rfl,St2,ok2,⟨dB5.trans (hE.defers.trans St2.dse.symm),sB5,?_⟩,?_,?_⟩ _
   ·intro d;rw [hEE];rcases getE_in [(0, .ptr 0 0),(1, .fn (.func fid) [] [.ptr 2 0]),(4, .v (.int .i64 0)),(5, .own 4 t),(6, .own 3 t)] d with q | ⟨y,q1,q2,q3⟩
    ·rw [q];exact .none _
    ·rw [q3];show Rep Z2 y.2 (B5.eval (.tmp d));simp only [List.mem_cons,List.not_mem_nil,or_false] at q1;rcases q1 with rfl | rfl | rfl | rfl | rfl<;>(simp only at q2;subst q2)
     ·rw [eB5_0, ←ea_0];exact hp0.mono St2
     ·rw [kB5_1];exact hp1.mono St2
     ·rw [kB5_4];exact hp4.mono St2
     ·rw [eB5_5];have h3:=rep2;simpa [hz1,y2,hh,htn] using h3
     ·rw [eB5_6];have h3:=(rep1.mono S2);simpa [hz1,y2,hh,htn] using h3
   ·rw [hz2,hz1,y2,List.append_assoc];rfl
   ·exact .inr ⟨rfl,rfl⟩
 ·rintro ex a' w' ⟨rfl,Y,i,j,rfl,S,hY,hEY,hYh,hij⟩;refine ⟨Y,_,rfl,S.toN hbs,hY,hEY,?_⟩;rw [hYh,hh,hEE];clear hp0 hp1 hp4 cellT hmk hcell0 hcell g5 g3 g2 g4 hv0 hb y1 y2 y3 y4 hX hE hsz hh hbs S hY hEY hYh hEE;have TI:=pinter_tc t t id (resF t val) h2 (by omega) h256 (fun i hi=>hi) (fun i hi=>resF_lt (by omega) val i);have hD:degS t val=stepsN ((trimN (fun i=>(interL t t id (resF t val)).1.getD i 0) (interL t t id (resF t val)).1.length - 1:Nat):Int):=rfl;have hll:(interL t t id (resF t val)).1.length≤256:=Nat.le_trans (inter_len h2 id (resF t val)) h256;generalize degS t val=dg at*;generalize (interL t t id (resF t val)).1=l at*;generalize (interL t t id (resF t val)).2=er at*;rcases hij with ⟨rfl,rfl⟩ | ⟨rfl,rfl⟩
  ·simp (disch:=first|exact Wv.D|fail) only [Wv.B,simprocAttr];refine wfor (σ:=Nat) (fun k=>[(0, .ptr 0 0),(1, .fn (.func fid) [] [.ptr 2 0]),(5, .own 3 t),(6, .own 4 t),(22, .v (.int .i64 t)),(23, .v (.int .i64 k))])
    (fun k=>[some (.blk [.v (.int .i64 x.n), .v (.int .u32 x.p), .v (.int .i64 x.r), .t x.ch.length 1 (x.ch.map fun (c:Nat)=> .v (.int .u32 c)), .v (.int .u32 x.sp), .v (.int .i64 x.wt), .v (.int .u32 x.er), .v (.int .i64 t), .mp 1]),some (.map (nsE ns)),some (.blk C),some (.arr 22 1 (tab t fun i=> .v (.int .u32 (xiF k i:Nat))) 0),some (.arr 22 1 (tab t fun i=> .v (.int .u32 (yiF t val k i:Nat))) 0)])
    (fun k=>k≤t) (fun k=>t - k) 0 (Nat.zero_le _) (by simp (disch:=first|exact Wv.D|fail) only [Wv.B,simprocAttr,xiF_zero,yiF_zero,Int.natCast_zero]) Wv.V ?_
   intro k hk;by_cases hlt:k<t
   ·have e1:(k:Int)<(t:Int):=by omega
    have hv0:=hlo k hlt;have hv1:=hhi k hlt;have ht0: ¬ (t:Int)=0:=by omega
    have e2:(val k+t).tmod t=((resF t val k:Nat):Int):=by rw [Int.tmod_eq_emod_of_nonneg hv0];exact (resF_eq (by omega) val k).symm
    have e3:=resF_lt (t:=t) (by omega) val k;simp (disch:=first|exact Wv.D|fail) only [Wv.B,simprocAttr,alA e1];refine calm_HT (fst:=[]) (cap:=[.ptr 2 0]) ((hval _ rfl k hlt).toP (fun _ _=>False)) ?_ (fun _ _ q=>q.elim);simp (disch:=first|exact Wv.D|fail) only [Wv.B,simprocAttr,alB ht0,e2,tab_set,xiF_next,yiF_next];refine k_next (k+1) (by omega) (by omega) Wv.V Wv.V2
   ·obtain rfl:t=k:=by omega
    simp (disch:=first|exact Wv.D|fail) only [Wv.B,simprocAttr,Int.lt_irrefl,decide_false,xiF_full,yiF_full];refine call_cl TI (by simp only [Wv.BC,polA_clo,numT_clo]) (by simp only [Wv.BC,polA_clo]) ?_;refine Wv.W ?_;refine sCl_some rfl ?_;simp (disch:=first|exact Wv.D|fail) only [Wv.B,simprocAttr,polA,numT];refine wfor (σ:=Nat) (fun m=>[(8, .t l.length 1 (tab l.length fun i=> .v (.int .u32 (l.getD i 0:Nat)))),(10, .v (.int .i64 ((m:Int) - 1)))]) (fun m=>[some (.blk [.v (.int .i64 x.n), .v (.int .u32 x.p), .v (.int .i64 x.r), .t x.ch.length 1 (x.ch.map fun (c:Nat)=> .v (.int .u32 c)), .v (.int .u32 x.sp), .v (.int .i64 x.wt), .v (.int .u32 x.er), .v (.int .i64 t), .mp 1]),some (.map (nsE ns)),some (.blk C),some (.arr 22 1 (tab t fun i=> .v (.int .u32 (id i:Nat))) t),some (.arr 22 1 (tab t fun i=> .v (.int .u32 (resF t val i:Nat))) t)])
     (fun m=>m≤l.length∧trimN (fun i=>l.getD i 0) m=trimN (fun i=>l.getD i 0) l.length) (fun m=>m) l.length ⟨Nat.le_refl _,rfl⟩ Wv.V Wv.V ?_
    rintro m ⟨hm,hm2⟩;by_cases h1m:1<m
    ·have q1:(0:Int)<(m:Int) - 1:=by omega
     obtain ⟨j,rfl⟩: ∃ j,m=j+1:=⟨m - 1,by omega⟩
     have q2:((j+1:Nat):Int) - 1=(j:Int):=by omega
     rw [trimN_succ] at hm2;by_cases hz:l.getD j 0=0
     ·rw [if_pos hz] at hm2;simp (disch:=first|exact Wv.D|fail) only [Wv.B,simprocAttr,q2,alA q1,hz];refine k_next j ⟨by omega,hm2⟩ (by omega) rfl Wv.V
     ·rw [if_neg hz] at hm2;have hz': ¬ ((l.getD j 0:Nat):Int)=0:=by omega
      rw [←hm2,Nat.add_sub_cancel] at hD;simp (disch:=first|exact Wv.D|fail) only [Wv.B,simprocAttr,q2,alA q1,alB hz'];refine call_TC (psteps_tc j (by omega)) rfl Wv.c Wv.c ?_;simp (disch:=first|exact Wv.D|fail) only [Wv.B,simprocAttr,hD]
    ·have q1: ¬ (0:Int)<(m:Int) - 1:=by omega
     have hle:=trimN_le (fun i=>l.getD i 0) m;have h0:trimN (fun i=>l.getD i 0) l.length - 1=0:=by omega
     rw [h0] at hD;have hD':dg=0:=hD;simp (disch:=first|exact Wv.D|fail) only [Wv.B,simprocAttr,alB q1,hD']
  ·simp (disch:=first|exact Wv.D|fail) only [Wv.B,simprocAttr];refine wfor (σ:=Nat) (fun k=>[(0, .ptr 0 0),(1, .fn (.func fid) [] [.ptr 2 0]),(5, .own 4 t),(6, .own 3 t),(22, .v (.int .i64 t)),(23, .v (.int .i64 k))])
    (fun k=>[some (.blk [.v (.int .i64 x.n), .v (.int .u32 x.p), .v (.int .i64 x.r), .t x.ch.length 1 (x.ch.map fun (c:Nat)=> .v (.int .u32 c)), .v (.int .u32 x.sp), .v (.int .i64 x.wt), .v (.int .u32 x.er), .v (.int .i64 t), .mp 1]),some (.map (nsE ns)),some (.blk C),some (.arr 22 1 (tab t fun i=> .v (.int .u32 (yiF t val k i:Nat))) 0),some (.arr 22 1 (tab t fun i=> .v (.int .u32 (xiF k i:Nat))) 0)])
    (fun k=>k≤t) (fun k=>t - k) 0 (Nat.zero_le _) (by simp (disch:=first|exact Wv.D|fail) only [Wv.B,simprocAttr,xiF_zero,yiF_zero,Int.natCast_zero]) Wv.V ?_
   intro k hk;by_cases hlt:k<t
   ·have e1:(k:Int)<(t:Int):=by omega
    have hv0:=hlo k hlt;have hv1:=hhi k hlt;have ht0: ¬ (t:Int)=0:=by omega
    have e2:(val k+t).tmod t=((resF t val k:Nat):Int):=by rw [Int.tmod_eq_emod_of_nonneg hv0];exact (resF_eq (by omega) val k).symm
    have e3:=resF_lt (t:=t) (by omega) val k;simp (disch:=first|exact Wv.D|fail) only [Wv.B,simprocAttr,alA e1];refine calm_HT (fst:=[]) (cap:=[.ptr 2 0]) ((hval _ rfl k hlt).toP (fun _ _=>False)) ?_ (fun _ _ q=>q.elim);simp (disch:=first|exact Wv.D|fail) only [Wv.B,simprocAttr,alB ht0,e2,tab_set,xiF_next,yiF_next];refine k_next (k+1) (by omega) (by omega) Wv.V Wv.V2
   ·obtain rfl:t=k:=by omega
    simp (disch:=first|exact Wv.D|fail) only [Wv.B,simprocAttr,Int.lt_irrefl,decide_false,xiF_full,yiF_full];refine call_cl TI (by simp only [Wv.BC,polA_clo,numT_clo]) (by simp only [Wv.BC,polA_clo]) ?_;refine Wv.W ?_;refine sCl_some rfl ?_;simp (disch:=first|exact Wv.D|fail) only [Wv.B,simprocAttr,polA,numT];refine wfor (σ:=Nat) (fun m=>[(8, .t l.length 1 (tab l.length fun i=> .v (.int .u32 (l.getD i 0:Nat)))),(10, .v (.int .i64 ((m:Int) - 1)))]) (fun m=>[some (.blk [.v (.int .i64 x.n), .v (.int .u32 x.p), .v (.int .i64 x.r), .t x.ch.length 1 (x.ch.map fun (c:Nat)=> .v (.int .u32 c)), .v (.int .u32 x.sp), .v (.int .i64 x.wt), .v (.int .u32 x.er), .v (.int .i64 t), .mp 1]),some (.map (nsE ns)),some (.blk C),some (.arr 22 1 (tab t fun i=> .v (.int .u32 (resF t val i:Nat))) t),some (.arr 22 1 (tab t fun i=> .v (.int .u32 (id i:Nat))) t)])
     (fun m=>m≤l.length∧trimN (fun i=>l.getD i 0) m=trimN (fun i=>l.getD i 0) l.length) (fun m=>m) l.length ⟨Nat.le_refl _,rfl⟩ Wv.V Wv.V ?_
    rintro m ⟨hm,hm2⟩;by_cases h1m:1<m
    ·have q1:(0:Int)<(m:Int) - 1:=by omega
     obtain ⟨j,rfl⟩: ∃ j,m=j+1:=⟨m - 1,by omega⟩
     have q2:((j+1:Nat):Int) - 1=(j:Int):=by omega
     rw [trimN_succ] at hm2;by_cases hz:l.getD j 0=0
     ·rw [if_pos hz] at hm2;simp (disch:=first|exact Wv.D|fail) only [Wv.B,simprocAttr,q2,alA q1,hz];refine k_next j ⟨by omega,hm2⟩ (by omega) rfl Wv.V
     ·rw [if_neg hz] at hm2;have hz': ¬ ((l.getD j 0:Nat):Int)=0:=by omega
      rw [←hm2,Nat.add_sub_cancel] at hD;simp (disch:=first|exact Wv.D|fail) only [Wv.B,simprocAttr,q2,alA q1,alB hz'];refine call_TC (psteps_tc j (by omega)) rfl Wv.c Wv.c ?_;simp (disch:=first|exact Wv.D|fail) only [Wv.B,simprocAttr,hD]
    ·have q1: ¬ (0:Int)<(m:Int) - 1:=by omega
     have hle:=trimN_le (fun i=>l.getD i 0) m;have h0:trimN (fun i=>l.getD i 0) l.length - 1=0:=by omega
     rw [h0] at hD;have hD':dg=0:=hD;simp (disch:=first|exact Wv.D|fail) only [Wv.B,simprocAttr,alB q1,hD']
end
section
open Go.RowKit Wv
theorem bitAux_le: ∀ (f x:Nat),Lib.bitLenAux f x≤f
 | 0,x=>Nat.le_refl _
 | f+1,x=>by
  unfold Lib.bitLenAux;split
  ·exact Nat.zero_le _
  ·have:=bitAux_le f (x / 2);omega
theorem steps_le (n:Int):stepsN n≤64:=by
 unfold stepsN;split
 ·exact Nat.zero_le _
 ·exact bitAux_le 64 _
theorem form_in {k:Int} {s:ByteArray} {n:Int} {nl:Nat} {li:Nat→Int} {na:Nat} {ar:Nat→Ex} (h:formB (.mk k s n nl li na ar)=true):inB n=true:=by
 unfold formB at h;simp only [Bool.and_eq_true] at h;exact h.2.2.2.2.2.2.1
end
section
open Go.RowKit Wv
def fldB (x:Par) (t:Nat):Bool:=decide (x.r=1) && decide ((t:Int)≤256)
def tblR (x:Par) (t:Nat) (nl:Nat) (li:Nat→Int):Except Int Nat:=if fldB x t=true then (if lstB t nl li t t=true then .ok (degS t li) else .error 233) else .error 231
def lesB (t:Nat) (n:Int):Bool:=decide (0≤n) && decide (n≤(t:Int))
def lesV (n:Int) (v:Nat):Int:=if (v:Int)<n then 1 else 0
def lesR (x:Par) (t:Nat) (n:Int):Except Int Nat:=if fldB x t=true then (if lesB t n=true then .ok (degS t (lesV n)) else .error 233) else .error 231
theorem lst_bal {t nl:Nat} {li:Nat→Int} (h:lstB t nl li t t=true):nl=t∧ ∀ i,i<t→balB t (li i)=true:=by
 unfold lstB at h;simp only [Bool.and_eq_true,decide_eq_true_eq,Bool.not_eq_true'] at h;obtain ⟨h1,h2,h3⟩:=h;have e:nl=t:=by omega
 subst e;refine ⟨rfl,fun i hi=>?_⟩;unfold anyN at h3;have:=List.any_eq_false.1 h3 i (List.mem_range.2 hi);simpa using this
theorem bal_lo {t:Nat} {n:Int} (h:balB t n=true):0≤n+t∧n≤t:=by
 unfold balB at h;have h':=of_decide_eq_true h;split at h'<;>constructor<;>omega
theorem take2 {h:Hp} {a b c:Option Ob} (q:List.take 3 h=[a,b,c]):List.take 2 h=[a,b]:=by
 have:List.take 2 h=List.take 2 (List.take 3 h):=by rw [List.take_take];rfl
 rw [this,q];rfl
theorem ptable_rule (x : Par) (t : Nat) (ns : Nms) (k : Int) (s : ByteArray) (n : Int) (nl : Nat) (li : Nat → Int) (na : Nat) (ar : Nat → Ex) (unk : Nat) (hn : nl ≤ 140737488351232) (hin : ∀ i, i < nl → inB (li i) = true) (ht : 2 ≤ t) (ht' : t ≤ 4611686018427387904) :
    RuleC x t ns 143 (.mk k s n nl li na ar) unk (tblR x t nl li) := by
  refine RuleC.of ?_;have hR : tblR x t nl li = if fldB x t = true then (if lstB t nl li t t = true then .ok (degS t li) else .error 233) else .error 231 := rfl
  have hF : fldB x t = (decide (x.r = 1) && decide ((t : Int) ≤ 256)) := rfl;have hY := plisted_yes x t ns nl li t t hn hin (by omega) (by omega);have hZ := plisted_no x t ns nl li t t hn hin (by omega) (by omega);have hB := lst_bal (t := t) (nl := nl) (li := li);rw [exC_mk];have hM := tabM_clo (n := na) (f := fun i => exC (ar i)) fun i _ => exC_clo (ar i)
  generalize tabM na (fun i => exC (ar i)) = M at *;have hDeg := fun (h2 : t ≤ 256) (hb : lstB t nl li t t = true) => pdegree_ht x t ns [.v (.int .i64 k), .v (.string s), .v (.int .i64 n), .t nl 1 (tab nl fun i => .v (.int .i64 (li i))), .t na 5 M] 167 li ht h2
    (fun h hh v hv => ptable1_ht k s n nl li (.t na 5 M) (.t hM) hh v (by rw [(hB hb).1]; exact hv) hn) (fun v hv => (bal_lo ((hB hb).2 v hv)).1) (fun v hv => by have := (bal_lo ((hB hb).2 v hv)).2; omega)
  clear hB;generalize hbb : lstB t nl li t t = b at *;clear hbb;generalize degS t li = dg at *;generalize fldB x t = fb at *;generalize tblR x t nl li = R at *;unfold hT tyC at *;simp only [List.cons_append, List.nil_append] at hDeg;obtain ⟨c, hc⟩ : ∃ c : Nat, c = if b = true then 0 else 1 := ⟨_, rfl⟩
  refine Wv.HTP.by 36 [1, 0, 4, 6] [(2, 12), (1000000, 2), (4000002, c)] [.tmp 6] Tryz.func143 rfl rfl rfl ?base ?_
  case base => rfl
  cases h1 : decide (x.r = 1) <;> cases h2 : decide ((t : Int) ≤ 256);all_goals
    rw [h1, h2] at hF;simp (disch:=first|exact Wv.D|fail) only [Wv.B, simprocAttr, h1, h2];first
    | (have hfb : fb = false := hF
       subst hfb;refine call_HTP (fst := []) (cap := []) (demand_rd _ 231) (by rintro av h' ⟨hb, _⟩; cases hb) ?_;rintro av h' ⟨_, rfl, rfl⟩;simp (disch:=first|exact Wv.D|fail) only [Wv.B, simprocAttr, stop_close];exact ⟨231, hR, rfl⟩)
    | skip
  have hfb : fb = true := hF;subst hfb;have ht256 : t ≤ 256 := by have := of_decide_eq_true h2; omega
  refine call_HTP (fst := []) (cap := []) (demand_rd _ 231) ?_ (by rintro av h' ⟨hb, _⟩; cases hb);rintro av h' ⟨_, rfl, rfl⟩;cases b with
  | false =>
    have hc1 : c = 1 := hc;refine Wv.W ?_;refine calm_HT (fst := []) (cap := []) (hZ rfl (.t 1 1 []) _) ?_ ?_
    · simp (disch:=first|exact Wv.D|fail) only [Wv.B, simprocAttr, hc1]
      exact ⟨11, _, _, rfl, rfl, rfl, rfl, rfl⟩
    · rintro av h' ⟨rfl, rfl⟩
      simp (disch:=first|exact Wv.D|fail) only [Wv.B, simprocAttr, stop_close];exact ⟨233, hR, rfl⟩
  | true =>
    have hc1 : c = 0 := hc;refine Wv.W ?_;refine calm_HT (fst := []) (cap := []) (hY rfl _) ?_ (fun _ _ q => q.elim);simp (disch:=first|exact Wv.D|fail) only [Wv.B, simprocAttr, hc1];refine call_HT (fst := []) (cap := []) (hDeg ht256 rfl) ?_;rintro av h' ⟨rfl, hh'⟩;refine Wv.W ?_;exact ⟨⟨dg, hR, rfl⟩, take2 hh'⟩
theorem pless_rule (x : Par) (t : Nat) (ns : Nms) (k : Int) (s : ByteArray) (n : Int) (nl : Nat) (li : Nat → Int) (na : Nat) (ar : Nat → Ex) (unk : Nat) (ht : 2 ≤ t) :
    RuleC x t ns 144 (.mk k s n nl li na ar) unk (lesR x t n) := by
  refine RuleC.of ?_;have hR : lesR x t n = if fldB x t = true then (if lesB t n = true then .ok (degS t (lesV n)) else .error 233) else .error 231 := rfl
  have hF : fldB x t = (decide (x.r = 1) && decide ((t : Int) ≤ 256)) := rfl;have hB : lesB t n = (decide (0 ≤ n) && decide (n ≤ (t : Int))) := rfl;rw [exC_mk];have hM := tabM_clo (n := na) (f := fun i => exC (ar i)) fun i _ => exC_clo (ar i)
  generalize tabM na (fun i => exC (ar i)) = M at *;have hDeg := fun (h2 : t ≤ 256) => pdegree_ht x t ns [.v (.int .i64 k), .v (.string s), .v (.int .i64 n), .t nl 1 (tab nl fun i => .v (.int .i64 (li i))), .t na 5 M] 168 (lesV n) ht h2
    (fun h hh v hv => pless1_ht k s n (.t nl 1 (tab nl fun i => .v (.int .i64 (li i)))) (.t na 5 M) hh v) (fun v hv => by unfold lesV; split <;> omega) (fun v hv => by unfold lesV; split <;> omega)
  generalize degS t (lesV n) = dg at *;generalize fldB x t = fb at *;generalize lesB t n = b at *;generalize lesR x t n = R at *;unfold hT tyC at *;simp only [List.cons_append, List.nil_append] at hDeg;obtain ⟨c, hc⟩ : ∃ c : Nat, c = if b = true then 0 else 1 := ⟨_, rfl⟩
  refine Wv.HTP.by 37 [1, 0, 4, 6] [(2, 13), (1000000, 2), (4000002, c)] [.tmp 6] Tryz.func144 rfl rfl rfl ?base ?_
  case base => rfl
  cases h1 : decide (x.r = 1) <;> cases h2 : decide ((t : Int) ≤ 256);all_goals
    rw [h1, h2] at hF;simp (disch:=first|exact Wv.D|fail) only [Wv.B, simprocAttr, h1, h2];first
    | (have hfb : fb = false := hF
       subst hfb;refine call_HTP (fst := []) (cap := []) (demand_rd _ 231) (by rintro av h' ⟨hb, _⟩; cases hb) ?_;rintro av h' ⟨_, rfl, rfl⟩;simp (disch:=first|exact Wv.D|fail) only [Wv.B, simprocAttr, stop_close];exact ⟨231, hR, rfl⟩)
    | skip
  have hfb : fb = true := hF;subst hfb;have ht256 : t ≤ 256 := by have := of_decide_eq_true h2; omega
  refine call_HTP (fst := []) (cap := []) (demand_rd _ 231) ?_ (by rintro av h' ⟨hb, _⟩; cases hb);rintro av h' ⟨_, rfl, rfl⟩;cases h3 : decide (0 ≤ n) <;> cases h4 : decide (n ≤ (t : Int));all_goals
    rw [h3, h4] at hB;simp (disch:=first|exact Wv.D|fail) only [Wv.B, simprocAttr, h3, h4];first
    | (have hbt : b = true := hB
       subst hbt;have hc1 : c = 0 := hc;refine calm_HT (fst := []) (cap := []) (demand_yes 233) ?_ (fun _ _ q => q.elim);simp (disch:=first|exact Wv.D|fail) only [Wv.B, simprocAttr, hc1];refine call_HT (fst := []) (cap := []) (hDeg ht256) ?_;rintro av h' ⟨rfl, hh'⟩;refine Wv.W ?_;exact ⟨⟨dg, hR, rfl⟩, take2 hh'⟩)
    | (have hbt : b = false := hB
       subst hbt;have hc1 : c = 1 := hc;refine calm_HT (fst := []) (cap := []) (demand_no 233 (.t 1 1 [])) ?_ ?_
       · simp (disch:=first|exact Wv.D|fail) only [Wv.B, simprocAttr, hc1]
         exact ⟨12, _, _, rfl, rfl, rfl, rfl, rfl⟩
       · rintro av h' ⟨rfl, rfl⟩
         simp (disch:=first|exact Wv.D|fail) only [Wv.B, simprocAttr, stop_close];exact ⟨233, hR, rfl⟩)
def ruA (x:Par) (t:Nat):Ex→Nat→Except Int Nat
 | .nil,_=> .ok 0
 | .mk k s n nl li na ar,unk=>
  if k=2 then (if balB t n=true then .ok 0 else .error 233)
  else if k=3 then (if lstB t nl li 0 x.n=true then .ok 0 else .error 233)
  else if k=7 then .ok (if unk<2 then 0 else 1)
  else if k=8 then (if rotB x n=true then .ok 0 else .error 233)
  else if k=10 then (if maskB x nl li=true then .ok 0 else .error 233)
  else if k=14 then (if powB n=true then .ok (stepsN n) else .error 233)
  else if k=11 then tblR x t nl li
  else if k=13 then lesR x t n
  else if k=12 then (if x.r=1 then .ok (stepsN ((t:Int) - 1)) else .error 231)
  else .ok 0
def ksA (e:Ex):Prop:=True
theorem allK_A: ∀ (e:Ex),okE e→allK ksA e:=by
 intro e;induction e with
 | nil=>intro h;exact h.elim
 | mk k s n nl li na ar ih=>exact fun h=>⟨trivial,fun i hi=>ih i (h.2.2.2 i hi)⟩
theorem form_list {k:Int} {s:ByteArray} {n:Int} {nl:Nat} {li:Nat→Int} {na:Nat} {ar:Nat→Ex} (h:formB (.mk k s n nl li na ar)=true): ∀ i,i<nl→inB (li i)=true:=by
 unfold formB at h;simp only [Bool.and_eq_true,Bool.not_eq_true'] at h;have h8:=h.2.2.2.2.2.2.2.1;intro i hi;unfold anyN at h8;have:=List.any_eq_false.1 h8 i (List.mem_range.2 hi);simpa using this
theorem degS_le (t:Nat) (f:Nat→Int):degS t f≤64:=steps_le _
theorem rulesA (x:Par) (t:Nat) (ns:Nms) (ht:2≤t) (ht':t≤4611686018427387904) (hN:0≤x.n) (hN':x.n≤4611686018427387904):RulesOk x t ns (ruA x t) ksA:=by
 intro e unk _ ho hf hu;obtain ⟨k,s,n,nl,li,na,ar,rfl⟩:=ok_mk ho;have hin:=form_in hf;have hli:=form_list hf;have hnl:nl≤140737488351232:=ho.2.1;obtain ⟨⟨hk1,hk2⟩,_⟩:=formB_args hf;have hk:k=1∨k=2∨k=3∨k=4∨k=5∨k=6∨k=7∨k=8∨k=9∨k=10∨k=11∨k=12∨k=13∨k=14∨k=15:=by omega
 have z: ∀ {b:Bool} {v:Nat} {er:Int} (m:Nat),v≤64→(if b=true then Except.ok v else .error er)=(Except.ok m:Except Int Nat)→m≤4294967296:=fun {b v er} m hv h=>by
  split at h
  ·injection h with h;omega
  ·cases h
 rcases hk with rfl | rfl | rfl | rfl | rfl | rfl | rfl | rfl | rfl | rfl | rfl | rfl | rfl | rfl | rfl
 ·exact ⟨fun m h=>by injection h with h;subst h;exact Nat.zero_le _,rfl⟩
 ·exact ⟨fun m h=>z m (Nat.zero_le _) h,pnumber_rule x t ns 2 s n nl li na ar unk hin (by omega) (by omega)⟩
 ·exact ⟨fun m h=>z m (Nat.zero_le _) h,pvector_rule x t ns 3 s n nl li na ar unk hnl hli (by omega) (by omega)⟩
 ·exact ⟨fun m h=>by injection h with h;subst h;exact Nat.zero_le _,rfl⟩
 ·exact ⟨fun m h=>by injection h with h;subst h;exact Nat.zero_le _,rfl⟩
 ·exact ⟨fun m h=>by injection h with h;subst h;exact Nat.zero_le _,rfl⟩
 ·refine ⟨fun m h=>?_,pproduct_rule x t ns _ ho unk⟩;have h':(Except.ok (if unk<2 then 0 else 1):Except Int Nat)= .ok m:=h;injection h' with h';subst h';split<;>omega
 ·exact ⟨fun m h=>z m (Nat.zero_le _) h,prot_rule x t ns 8 s n nl li na ar unk hN hN'⟩
 ·exact ⟨fun m h=>by injection h with h;subst h;exact Nat.zero_le _,rfl⟩
 ·exact ⟨fun m h=>z m (Nat.zero_le _) h,pmask_rule x t ns 10 s n nl li na ar unk hnl⟩
 ·refine ⟨fun m h=>?_,ptable_rule x t ns 11 s n nl li na ar unk hnl hli ht (by omega)⟩;have h':tblR x t nl li= .ok m:=h;unfold tblR at h';split at h'
  ·exact z m (degS_le _ _) h'
  ·cases h'
 ·refine ⟨fun m h=>?_,pequal_rule x t ns 12 s n nl li na ar unk (by omega) (by omega)⟩;have h':(if x.r=1 then Except.ok (stepsN ((t:Int) - 1)) else .error 231)=(.ok m:Except Int Nat):=h;split at h'
  ·injection h' with h';subst h';exact Nat.le_trans (steps_le _) (by omega)
  ·cases h'
 ·refine ⟨fun m h=>?_,pless_rule x t ns 13 s n nl li na ar unk ht⟩;have h':lesR x t n= .ok m:=h;unfold lesR at h';split at h'
  ·exact z m (degS_le _ _) h'
  ·cases h'
 ·exact ⟨fun m h=>z m (steps_le _) h,ppower_rule x t ns 14 s n nl li na ar unk⟩
 ·exact ⟨fun m h=>by injection h with h;subst h;exact Nat.zero_le _,rfl⟩
end
end Go.Proofs.YthlhibpfagekfaaGreat
