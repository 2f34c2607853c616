/- Parts of a proof: The law of Typing: how many parts a circuit has, its tables, its comparisons. The law of Typing: Long, parts, tables, has, on the machine. The law of Typing: has, Beyond, Heavy, on the machine. What arguments read as: expressions, circuits. The parameters of the service. Plain numbers: the strong test to a base, as both texts compute it. Plain numbers: what the layer of parameters computes. Plain numbers: the strong test, as the kernel can compute it. Plain numbers: primes, Fermat's little theorem, exponents, and what the strong test says modulo a divisor. Plain numbers: what the layer of keys computes. Plain numbers: powers of secrets. Walks of the two packages' powers modulo a number: obscuraref01.times, obscuraref01.power, modular.product, modular.power. Walks of the strong test: modular.passes and obscuraref01.strong. Walks of the tests for primes: modular.Prime and obscuraref01.Prime. Walks of the parameters' small functions: dimension, power; the reference's dimension, plain, good. Walks of the parts of params.Check: the closures, slices.IndexFunc and ContainsFunc at uint32; the reference's good. Walks of the closures of params.Check, but for the last one. -/
import Derived.Test.YtljfgdlgmdcmfaaGreatQng
import Derived.Test.YtljfgdlgmdcmfaaGreatQnf
import Derived.ProofKit
import Derived.Test.YtljfgdlgmdcmfaaGreatChecked
import Derived.WalkKit
import Derived.WalkSpells
import Derived.WalkLawsBesides
import Derived.Handy
import Derived.Lib.Hide
namespace Go.Proofs.YtljfgdlgmdcmfaaGreat
open Go.RowKit Wv
set_option linter.unusedVariables false
set_option linter.unusedSimpArgs false
def accP (f:Nat→Int→Int) (l:Int):Nat→Int
 | 0=>l
 | i+1=>if accP f l i<0 then accP f l i else f i (accP f l i)
theorem accP_stop {f : Nat → Int → Int} {l : Int} {i : Nat} (h : accP f l i < 0) : ∀ {n : Nat}, i ≤ n → accP f l n = accP f l i
  | 0, q => by have : i = 0 := by omega
               subst this; rfl
  | n + 1, q => by
    by_cases e : i = n + 1
    · subst e; rfl
    · have ih := accP_stop h (n := n) (by omega)
      show (if accP f l n < 0 then accP f l n else f n (accP f l n)) = _
      rw [ih, if_pos h]
def partE:Ex→Int→Int
 | .nil,l=>l
 | .mk k s n nl li na ar,l=>accP (fun i x=>partE (ar i) x) (l - 1 - nl - s.size) na
theorem partE_mk (k:Int) (s:ByteArray) (n:Int) (nl:Nat) (li:Nat→Int) (na:Nat) (ar:Nat→Ex) (l:Int):partE (.mk k s n nl li na ar) l=accP (fun i x=>partE (ar i) x) (l - 1 - nl - s.size) na:=rfl
theorem accP_le' {f:Nat→Int→Int} {B:Int} {l:Int} (hl:l≤B) (hl': -1000000000000000≤l): ∀ n,(∀ i,i<n→ ∀ x,0≤x→x≤B→f i x≤B∧ -1000000000000000≤f i x)→accP f l n≤B∧ -1000000000000000≤accP f l n
 | 0,_=>⟨hl,hl'⟩
 | n+1,hf=>by
  have ih:=accP_le' hl hl' n fun i hi=>hf i (by omega)
  show (if accP f l n<0 then accP f l n else f n (accP f l n))≤B∧ -1000000000000000≤(if accP f l n<0 then accP f l n else f n (accP f l n))
  by_cases h:accP f l n<0
  ·rw [if_pos h];exact ih
  ·rw [if_neg h];exact hf n (by omega) _ (by omega) ih.1
theorem partE_le: ∀ (e:Ex),okE e→ ∀ (l B:Int), -150000000000000≤l→l≤B→0≤B→B≤1000000→partE e l≤B∧ -1000000000000000≤partE e l:=by
 intro e
 induction e with
 | nil=>intro h;exact h.elim
 | mk k s n nl li na ar ih=>
  rintro ⟨h1,h2,h3,h4⟩ l B h5 h6 h8 h7
  rw [partE_mk]
  exact accP_le' (by omega) (by omega) na fun i hi x q1 q2=>ih i (h4 i hi) x B (by omega) q2 h8 h7
theorem partE_cnt: ∀ (e:Ex),okE e→ ∀ (l:Int),0≤partE e l→(cntE e:Int)≤l - partE e l:=by
 intro e
 induction e with
 | nil=>intro h;exact h.elim
 | mk k s n nl li na ar ih=>
  rintro ⟨h1,h2,h3,h4⟩ l h
  rw [partE_mk] at h ⊢
  have key: ∀ m,m≤na→0≤accP (fun i x=>partE (ar i) x) (l - 1 - nl - s.size) m→(accS 1 (fun i=>cntE (ar i)) m:Int)≤1+(l - 1 - nl - s.size) - accP (fun i x=>partE (ar i) x) (l - 1 - nl - s.size) m:=by
   intro m
   induction m with
   | zero=>intro _ _;show ((1:Nat):Int)≤1+(l - 1 - nl - s.size) - (l - 1 - nl - s.size);omega
   | succ m ihm=>
    intro hm hq
    have e1:accP (fun i x=>partE (ar i) x) (l - 1 - nl - s.size) (m+1)=if accP (fun i x=>partE (ar i) x) (l - 1 - nl - s.size) m<0 then accP (fun i x=>partE (ar i) x) (l - 1 - nl - s.size) m else partE (ar m) (accP (fun i x=>partE (ar i) x) (l - 1 - nl - s.size) m):=rfl
    by_cases hn:accP (fun i x=>partE (ar i) x) (l - 1 - nl - s.size) m<0
    ·rw [e1,if_pos hn] at hq;omega
    ·rw [e1,if_neg hn] at hq ⊢
     have g1:=ihm (by omega) (by omega)
     have g2:=ih m (h4 m (by omega)) _ hq
     have e2:accS 1 (fun i=>cntE (ar i)) (m+1)=accS 1 (fun i=>cntE (ar i)) m+cntE (ar m):=rfl
     rw [e2,Int.natCast_add]
     omega
  have hk:=key na (Nat.le_refl _) h
  have e3:cntE (.mk k s n nl li na ar)=accS 1 (fun i=>cntE (ar i)) na:=rfl
  rw [e3]
  omega
theorem clB2 {a b:AV} (h1:Clo a) (h2:Clo b): ∀ x,x∈[a,b]→Clo x:=by simp only [Wv.BC];exact ⟨h1,h2⟩
theorem any_at {n i:Nat} {p:Nat→Bool} (hi:i<n) (h:p i=true):anyN n p=true:=by
 unfold anyN;exact List.any_eq_true.2 ⟨i,List.mem_range.2 hi,h⟩
theorem any_none {n:Nat} {p:Nat→Bool} (h: ∀ i,i<n→p i=false):anyN n p=false:=by
 unfold anyN;exact List.any_eq_false.2 fun i hi=>by rw [h i (List.mem_range.1 hi)];exact Bool.noConfusion
def sumB (f:Nat→ByteArray):Nat→Nat
 | 0=>0
 | i+1=>sumB f i+(f i).size+1
def longB (n:Nat) (f:Nat→ByteArray) (most:Int):Bool:=anyN n fun i=>decide (most - sumB f i≤((f i).size:Int))
theorem sumB_succ (f:Nat→ByteArray) (i:Nat):sumB f (i+1)=sumB f i+(f i).size+1:=rfl
set_option maxHeartbeats 400000 in
set_option maxRecDepth 100000 in
theorem lLong_tc (n:Nat) (f:Nat→ByteArray) (most:Int) (hn:n≤140737488351232) (h0: -1000000≤most) (h1:most≤1000000):TC Tryz.prog 56 [strsA n f, .v (.int .i64 most)] (.v (.bool (longB n f most))):=by
 unfold strsA
 refine Wv.TC.by 27 [5,0,9,1,18,4] [] [.tmp 4] (by kernel_rfl) Tryz.func56 rfl rfl rfl (by kernel_rfl) (by kernel_rfl) (Nat.le_of_ble_eq_true rfl) rfl ?clo ?_
 case clo=>simp only [Wv.BC]
 simp (maxSteps:=2000000) (disch:=first | omega | assumption | (simp only [Wv.Bx,simprocAttr]<;>omega) | fail) only [Wv.B,simprocAttr]
 refine wfor (σ:=Nat) (fun i=>[(0, .t n 1 (tab n fun i=> .v (.string (f i)))),(1, .v (.int .i64 (most - sumB f i))),(5, .v (.int .i64 i))]) (fun i=>[]) (fun i=>i≤n∧(sumB f i:Int)≤2000000∧ ∀ j,j<i→decide (most - sumB f j≤((f j).size:Int))=false) (fun i=>n - i) 0 ⟨Nat.zero_le _,by show ((0:Nat):Int)≤_;omega,fun j hj=>by omega⟩ (by simp (maxSteps:=2000000) (disch:=first | omega | assumption | (simp only [Wv.Bx,simprocAttr]<;>omega) | fail) only [Wv.B,simprocAttr]) (by simp (maxSteps:=2000000) (disch:=first | omega | assumption | (simp only [Wv.Bx,simprocAttr]<;>omega) | fail) only [Wv.B,simprocAttr,sumB,Int.natCast_zero,Int.sub_zero]) ?_
 rintro i ⟨hi,hs,hb⟩
 by_cases hlt:i<n
 ·have e1:(i:Int)<(n:Int):=by omega
  by_cases hq:most - sumB f i≤((f i).size:Int)
  ·have hL:longB n f most=true:=any_at hlt (decide_eq_true hq)
   simp (maxSteps:=2000000) (disch:=first | omega | assumption | (simp only [Wv.Bx,simprocAttr]<;>omega) | fail) only [Wv.B,simprocAttr,decide_eq_true e1,decide_eq_true hq,hL]
  ·have hss:=sumB_succ f i
   have e5:most - (sumB f i:Int) - ((f i).size:Int) - 1=most - ((sumB f (i+1):Nat):Int):=by rw [hss];omega
   simp (maxSteps:=2000000) (disch:=first | omega | assumption | (simp only [Wv.Bx,simprocAttr]<;>omega) | fail) only [Wv.B,simprocAttr,decide_eq_true e1,decide_eq_false hq]
   refine k_next (i+1) ⟨by omega,by omega,fun j hj=>?_⟩ (by omega) rfl (by simp (maxSteps:=2000000) (disch:=first | omega | assumption | (simp only [Wv.Bx,simprocAttr]<;>omega) | fail) only [Wv.B,simprocAttr,e5,Int.natCast_add,Int.natCast_one])
   by_cases e:j=i
   ·subst e;exact decide_eq_false hq
   ·exact hb j (by omega)
 ·obtain rfl:n=i:=by omega
  have hL:longB n f most=false:=any_none hb
  simp (maxSteps:=2000000) (disch:=first | omega | assumption | (simp only [Wv.Bx,simprocAttr]<;>omega) | fail) only [Wv.B,simprocAttr,Int.lt_irrefl,decide_false,hL]
set_option maxHeartbeats 800000 in
set_option maxRecDepth 100000 in
theorem lparts_tc (e:Ex) (h:okE e) (l:Int) (h0: -150000000000000≤l) (h1:l≤1000000):TC Tryz.prog 57 [.g (exC e), .v (.int .i64 l)] (.v (.int .i64 (partE e l))):=by
 induction e generalizing l with
 | nil=>exact h.elim
 | mk k s n nl li na ar ih=>
 have hle:=fun m=>partE_le (.mk k s n nl li na ar) h l 1000000 h0 h1 (by omega) (by omega)
 obtain ⟨hs,hnl,hna,hh⟩:=h
 have hacc: ∀ m,m≤na→accP (fun i x=>partE (ar i) x) (l - 1 - nl - s.size) m≤1000000∧ -1000000000000000≤accP (fun i x=>partE (ar i) x) (l - 1 - nl - s.size) m:=fun m hm=>
  accP_le' (by omega) (by omega) m fun i hi x q1 q2=>partE_le (ar i) (hh i (by omega)) x 1000000 (by omega) q2 (by omega) (by omega)
 rw [partE_mk]
 clear hle
 refine Wv.TC.by 35 [0,1,2,5,24,4] [] [.tmp 4] (by kernel_rfl) Tryz.func57 rfl rfl rfl (by kernel_rfl) (by kernel_rfl) (Nat.le_of_ble_eq_true rfl) rfl ?clo ?_
 case clo=>simp only [Wv.BC]
 unfold exC
 simp (maxSteps:=2000000) (disch:=first | omega | assumption | (simp only [Wv.Bx,simprocAttr]<;>omega) | fail) only [Wv.B,simprocAttr]
 refine wfor (σ:=Nat) (fun i=>[(1, .v (.int .i64 (accP (fun i x=>partE (ar i) x) (l - 1 - nl - s.size) i))),(2, .ptr 0 0),(5, .v (.int .i64 i))])
  (fun i=>[some (.blk [.v (.int .i64 k), .v (.string s), .v (.int .i64 n), .t nl 1 (tab nl fun i=> .v (.int .i64 (li i))), .t na 5 (tabM na fun i=>exC (ar i))])])
  (fun i=>i≤na) (fun i=>na - i) 0 (Nat.zero_le _) (by simp (maxSteps:=2000000) (disch:=first | omega | assumption | (simp only [Wv.Bx,simprocAttr]<;>omega) | fail) only [Wv.B,simprocAttr]) (by simp (maxSteps:=2000000) (disch:=first | omega | assumption | (simp only [Wv.Bx,simprocAttr]<;>omega) | fail) only [Wv.B,simprocAttr,accP]) ?_
 intro i hi
 have hai:=hacc i hi
 have hst:accP (fun i x=>partE (ar i) x) (l - 1 - nl - s.size) i<0→accP (fun i x=>partE (ar i) x) (l - 1 - nl - s.size) na=accP (fun i x=>partE (ar i) x) (l - 1 - nl - s.size) i:=fun q=>accP_stop q hi
 have hsu:accP (fun i x=>partE (ar i) x) (l - 1 - nl - s.size) (i+1)=if accP (fun i x=>partE (ar i) x) (l - 1 - nl - s.size) i<0 then accP (fun i x=>partE (ar i) x) (l - 1 - nl - s.size) i else partE (ar i) (accP (fun i x=>partE (ar i) x) (l - 1 - nl - s.size) i):=rfl
 by_cases hlt:i<na
 ·have e1:(i:Int)<na:=by omega
  generalize hA:accP (fun i x=>partE (ar i) x) (l - 1 - nl - s.size) i=A at*
  by_cases hneg:A<0
  ·have e2: ¬ 0≤A:=by omega
   have e3:=hst hneg
   simp (maxSteps:=2000000) (disch:=first | omega | assumption | (simp only [Wv.Bx,simprocAttr]<;>omega) | fail) only [Wv.B,simprocAttr,decide_eq_true e1,decide_eq_false e2,e3]
  ·have e2:0≤A:=by omega
   rw [if_neg hneg] at hsu
   have T:=ih i (hh i hlt) A (by omega) hai.1
   have hP:=partE_le (ar i) (hh i hlt) A 1000000 (by omega) hai.1 (by omega) (by omega)
   have hG:=exG_clo (ar i)
   have hoy:=hh i hlt
   have hL:=tabM_clo (n:=na) (f:=fun i=>exC (ar i)) fun i _=>exC_clo (ar i)
   obtain ⟨r,hd⟩: ∃ r,List.drop (i*5) (tabM na fun i=>exC (ar i))=exC (ar i)++r:=tabM_drop (f:=fun i=>exC (ar i)) (fun i=>exC_len (ar i)) hlt
   revert hd T hG hL hsu
   generalize (tabM na fun i=>exC (ar i))=L
   generalize partE (ar i) A=pa at hP ⊢
   generalize ar i=y at hoy ⊢
   obtain ⟨k',s',n',nl',li',na',ar',rfl⟩:=ok_mk hoy
   rw [exC_mk]
   intro hsu T hG hL hd
   simp only [List.cons_append,List.nil_append] at hd
   simp (maxSteps:=2000000) (disch:=first | omega | assumption | (simp only [Wv.Bx,simprocAttr]<;>omega) | fail) only [Wv.B,simprocAttr,decide_eq_true e1,decide_eq_true e2,hd]
   refine call_TC T rfl (clB2 hG (.v _)) (by simp only [Wv.BC]) ?_
   simp (maxSteps:=2000000) (disch:=first | omega | assumption | (simp only [Wv.Bx,simprocAttr]<;>omega) | fail) only [Wv.B,simprocAttr]
   refine k_next (i+1) (by omega) (by omega) rfl (by simp (maxSteps:=2000000) (disch:=first | omega | assumption | (simp only [Wv.Bx,simprocAttr]<;>omega) | fail) only [Wv.B,simprocAttr,hsu,Int.natCast_add,Int.natCast_one])
 ·obtain rfl:i=na:=by omega
  simp (maxSteps:=2000000) (disch:=first | omega | assumption | (simp only [Wv.Bx,simprocAttr]<;>omega) | fail) only [Wv.B,simprocAttr,Int.lt_irrefl,decide_false]
def tabE:Ex→Nat
 | .nil=>0
 | .mk k s n nl li na ar=>accS (if k=11∨k=13 then 1 else 0) (fun i=>tabE (ar i)) na
theorem accS_cmp {a b:Nat} {f g:Nat→Nat}: ∀ {n:Nat},a≤b→(∀ i,i<n→f i≤g i)→accS a f n≤accS b g n
 | 0,h,_=>h
 | n+1,h,hf=>by
  have h1:=accS_cmp (n:=n) h fun i hi=>hf i (by omega)
  have h2:=hf n (by omega)
  show accS a f n+f n≤accS b g n+g n
  omega
theorem tab_cnt: ∀ (e:Ex),tabE e≤cntE e:=by
 intro e
 induction e with
 | nil=>exact Nat.zero_le _
 | mk k s n nl li na ar ih=>exact accS_cmp (by split<;>omega) fun i _=>ih i
set_option maxHeartbeats 800000 in
set_option maxRecDepth 100000 in
theorem ltables_tc (e : Ex) (h : okE e) (hc : cntE e ≤ 1000000) : TC Tryz.prog 58 [.g (exC e)] (.v (.int .i64 (tabE e))) := by
  induction e with
  | nil => exact h.elim
  | mk k s n nl li na ar ih =>
  obtain ⟨hs, hnl, hna, hh⟩ := h
  have hcn : accS 1 (fun i => cntE (ar i)) na ≤ 1000000 := hc
  have hfin : tabE (.mk k s n nl li na ar) = accS (if k = 11 ∨ k = 13 then 1 else 0) (fun i => tabE (ar i)) na := rfl
  rw [hfin]
  refine Wv.TC.by 29 [0, 1, 12, 4, 17, 3, 2] [] [.tmp 2] (by kernel_rfl) Tryz.func58 rfl rfl rfl (by kernel_rfl) (by kernel_rfl) (Nat.le_of_ble_eq_true rfl) rfl ?clo ?_
  case clo => simp only [Wv.BC]
  unfold exC
  generalize hb : (if k = 11 ∨ k = 13 then 1 else 0 : Nat) = b0 at *
  have hb1 : b0 ≤ 1 := by rw [← hb]; split <;> omega
  by_cases k11 : k = 11
  rotate_left
  by_cases k13 : k = 13
  rotate_left
  all_goals
    first
    | (have hb0 : b0 = 1 := by rw [← hb]; exact if_pos (by omega)
       simp (maxSteps := 2000000) (disch := first | omega | assumption | (simp only [Wv.Bx, simprocAttr] <;> omega) | fail) only [Wv.B, simprocAttr, decide_eq_true k11])
    | (have hb0 : b0 = 1 := by rw [← hb]; exact if_pos (by omega)
       simp (maxSteps := 2000000) (disch := first | omega | assumption | (simp only [Wv.Bx, simprocAttr] <;> omega) | fail) only [Wv.B, simprocAttr, decide_eq_false k11, decide_eq_true k13])
    | (have hb0 : b0 = 0 := by rw [← hb]; exact if_neg (by omega)
       simp (maxSteps := 2000000) (disch := first | omega | assumption | (simp only [Wv.Bx, simprocAttr] <;> omega) | fail) only [Wv.B, simprocAttr, decide_eq_false k11, decide_eq_false k13])
    clear hb hfin
    refine wfor (σ := Nat) (fun i => [(1, .ptr 0 0), (3, .v (.int .i64 (accS b0 (fun i => tabE (ar i)) i : Nat))), (4, .v (.int .i64 i))])
      (fun i => [some (.blk [.v (.int .i64 k), .v (.string s), .v (.int .i64 n), .t nl 1 (tab nl fun i => .v (.int .i64 (li i))), .t na 5 (tabM na fun i => exC (ar i))])])
      (fun i => i ≤ na) (fun i => na - i) 0 (Nat.zero_le _) (by simp (maxSteps := 2000000) (disch := first | omega | assumption | (simp only [Wv.Bx, simprocAttr] <;> omega) | fail) only [Wv.B, simprocAttr]) (by simp (maxSteps := 2000000) (disch := first | omega | assumption | (simp only [Wv.Bx, simprocAttr] <;> omega) | fail) only [Wv.B, simprocAttr, accS, hb0, Int.natCast_one, Int.natCast_zero]) ?_
    clear hb0
    intro i hi
    by_cases hlt : i < na
    · have e1 : (i : Int) < na := by omega
      have q1 := accS_one 1 (fun i => cntE (ar i)) hlt
      have hqi := accS_cmp (n := i) (f := fun i => tabE (ar i)) (g := fun i => cntE (ar i)) hb1 fun j _ => tab_cnt (ar j)
      have hqm : accS 1 (fun i => cntE (ar i)) i ≤ accS 1 (fun i => cntE (ar i)) na := accS_le 1 _ hi
      have q3 := tab_cnt (ar i)
      have T := ih i (hh i hlt) (by omega)
      have hG := exG_clo (ar i)
      have hoy := hh i hlt
      have hL := tabM_clo (n := na) (f := fun i => exC (ar i)) fun i _ => exC_clo (ar i)
      obtain ⟨r, hd⟩ : ∃ r, List.drop (i * 5) (tabM na fun i => exC (ar i)) = exC (ar i) ++ r := tabM_drop (f := fun i => exC (ar i)) (fun i => exC_len (ar i)) hlt
      revert T hG hL hd
      generalize (tabM na fun i => exC (ar i)) = L
      generalize hc2 : tabE (ar i) = c2 at *
      generalize hcc : cntE (ar i) = cc at *
      generalize ar i = y at hoy ⊢
      obtain ⟨k', s', n', nl', li', na', ar', rfl⟩ := ok_mk hoy
      rw [exC_mk]
      intro T hG hL hd
      simp only [List.cons_append, List.nil_append] at hd
      simp (maxSteps := 2000000) (disch := first | omega | assumption | (simp only [Wv.Bx, simprocAttr] <;> omega) | fail) only [Wv.B, simprocAttr, decide_eq_true e1, hd]
      refine call_TC T rfl (cloA1 hG) (by simp only [Wv.BC]) ?_
      simp (maxSteps := 2000000) (disch := first | omega | assumption | (simp only [Wv.Bx, simprocAttr] <;> omega) | fail) only [Wv.B, simprocAttr]
      refine k_next (i + 1) (by omega) (by omega) rfl (by simp (maxSteps := 2000000) (disch := first | omega | assumption | (simp only [Wv.Bx, simprocAttr] <;> omega) | fail) only [Wv.B, simprocAttr, accS, hc2, Int.natCast_add, Int.natCast_one])
    · obtain rfl : i = na := by omega
      simp (maxSteps := 2000000) (disch := first | omega | assumption | (simp only [Wv.Bx, simprocAttr] <;> omega) | fail) only [Wv.B, simprocAttr, Int.lt_irrefl, decide_false]
structure okC0 (c:Ci):Prop where
 name:c.name.size≤140737488351232
 ni:c.ni≤140737488351232
 nl:c.nl≤140737488351232
 no:c.no≤140737488351232
 fi: ∀ i,i<c.ni→(c.fi i).size≤140737488351232
 fo: ∀ i,i<c.no→(c.fo i).size≤140737488351232
 ln: ∀ i,i<c.nl→(c.ln i).size≤140737488351232
 le: ∀ i,i<c.nl→okE (c.le i)
def leftC (c:Ci) (most:Int) (i:Nat):Int:=accP (fun i x=>partE (c.le i) (x - (c.ln i).size)) (most - c.name.size) i
def beyB (c:Ci) (most:Int):Bool:=longB c.ni c.fi most || (longB c.no c.fo most || (decide (most<(c.nl:Int)) || decide (leftC c most c.nl<0)))
theorem leftC_succ (c:Ci) (most:Int) (i:Nat):leftC c most (i+1)=if leftC c most i<0 then leftC c most i else partE (c.le i) (leftC c most i - (c.ln i).size):=rfl
theorem leftC_le {c:Ci} (h:okC0 c) {most:Int} (h0:0≤most) (h1:most≤1000000): ∀ i,i≤c.nl→leftC c most i≤1000000∧ -1000000000000000≤leftC c most i:=fun i hi=>by
 have:=h.name
 exact accP_le' (by omega) (by omega) i fun j hj x q1 q2=>by
  have:=h.ln j (by omega)
  exact partE_le _ (h.le j (by omega)) _ 1000000 (by omega) (by omega) (by omega) (by omega)
theorem left_cnt {c:Ci} (h:okC0 c) {most:Int} (h0:0≤most): ∀ i,i≤c.nl→0≤leftC c most i→leftC c most i≤most∧ ∀ j,j<i→(cntE (c.le j):Int)≤most:=by
 intro i
 induction i with
 | zero=>exact fun _ q=>⟨by show most - c.name.size≤most;omega,fun j hj=>by omega⟩
 | succ i ih=>
  intro hi hq
  rw [leftC_succ] at hq ⊢
  by_cases hn:leftC c most i<0
  ·rw [if_pos hn] at hq;omega
  ·rw [if_neg hn] at hq ⊢
   obtain ⟨g1,g2⟩:=ih (by omega) (by omega)
   have g3:=partE_cnt (c.le i) (h.le i (by omega)) _ hq
   have g4:1≤cntE (c.le i):=by cases c.le i with
    | nil=>exact Nat.le_refl _
    | mk k s n nl li na ar=>exact accS_base 1 _ _
   refine ⟨by omega,fun j hj=>?_⟩
   by_cases e:j=i
   ·subst e;omega
   ·exact g2 j (by omega)
theorem okC_of {c:Ci} (h:okC0 c) {most:Int} (h0:0≤most) (h1:most≤1000000) (hb:beyB c most=false):okC c∧c.nl≤1000000∧ ∀ i,i<c.nl→(cntE (c.le i):Int)≤most:=by
 unfold beyB at hb
 simp only [Bool.or_eq_false_iff,decide_eq_false_iff_not] at hb
 obtain ⟨_,_,b3,b4⟩:=hb
 have hl:=(left_cnt h h0 c.nl (Nat.le_refl _) (by omega)).2
 exact ⟨⟨h.name,h.ni,h.nl,h.no,h.fi,h.fo,h.ln,fun i hi=>⟨h.le i hi,by have:=hl i hi;omega⟩⟩,by omega,hl⟩
set_option maxHeartbeats 1600000 in
set_option maxRecDepth 100000 in
theorem lbeyond_tc (c:Ci) (h:okC0 c) (most:Int) (h0:0≤most) (h1:most≤1000000):TC Tryz.prog 16 [.g (ciC c), .v (.int .i64 most)] (.v (.bool (beyB c most))):=by
 have hli:=leftC_le h h0 h1
 have hB:beyB c most=(longB c.ni c.fi most || (longB c.no c.fo most || (decide (most<(c.nl:Int)) || decide (leftC c most c.nl<0)))):=rfl
 have T1:=lLong_tc c.ni c.fi most h.ni (by omega) h1
 have T2:=lLong_tc c.no c.fo most h.no (by omega) h1
 have hnm:=h.name
 generalize longB c.ni c.fi most=b1 at*
 generalize longB c.no c.fo most=b2 at*
 generalize beyB c most=B at*
 refine Wv.TC.by 58 [0,1,2,28,6,5,37,4] [(7,16)] [.tmp 4] (by kernel_rfl) Tryz.func16 rfl rfl rfl (by kernel_rfl) (by kernel_rfl) (Nat.le_of_ble_eq_true rfl) rfl ?clo ?_
 case clo=>simp only [Wv.BC]
 unfold ciC strsA at*
 simp (maxSteps:=2000000) (disch:=first | omega | assumption | (simp only [Wv.Bx,simprocAttr]<;>omega) | fail) only [Wv.B,simprocAttr]
 refine call_TC T1 rfl (clB2 (by simp only [Wv.BC]) (.v _)) (by simp only [Wv.BC]) ?_
 cases b1 with
 | true=>simp (maxSteps:=2000000) (disch:=first | omega | assumption | (simp only [Wv.Bx,simprocAttr]<;>omega) | fail) only [Wv.B,simprocAttr,hB,Bool.true_or]
 | false=>
 simp (maxSteps:=2000000) (disch:=first | omega | assumption | (simp only [Wv.Bx,simprocAttr]<;>omega) | fail) only [Wv.B,simprocAttr]
 refine call_TC T2 rfl (clB2 (by simp only [Wv.BC]) (.v _)) (by simp only [Wv.BC]) ?_
 cases b2 with
 | true=>simp (maxSteps:=2000000) (disch:=first | omega | assumption | (simp only [Wv.Bx,simprocAttr]<;>omega) | fail) only [Wv.B,simprocAttr,hB,Bool.true_or,Bool.false_or]
 | false=>
 by_cases h3:most<(c.nl:Int)
 ·rw [decide_eq_true h3] at hB
  simp (maxSteps:=2000000) (disch:=first | omega | assumption | (simp only [Wv.Bx,simprocAttr]<;>omega) | fail) only [Wv.B,simprocAttr,decide_eq_true h3,hB,Bool.true_or,Bool.false_or]
 rw [decide_eq_false h3,Bool.false_or,Bool.false_or,Bool.false_or] at hB
 simp (maxSteps:=2000000) (disch:=first | omega | assumption | (simp only [Wv.Bx,simprocAttr]<;>omega) | fail) only [Wv.B,simprocAttr,decide_eq_false h3]
 refine wfor (σ:=Nat) (fun i=>[(2, .ptr 0 0),(5, .v (.int .i64 (leftC c most i))),(6, .v (.int .i64 i))])
  (fun i=>[some (.blk [.v (.string c.name), .t c.ni 1 (tab c.ni fun i=> .v (.string (c.fi i))), .t c.nl 6 c.lets, .t c.no 1 (tab c.no fun i=> .v (.string (c.fo i)))])])
  (fun i=>i≤c.nl) (fun i=>c.nl - i) 0 (Nat.zero_le _) rfl (by simp (maxSteps:=2000000) (disch:=first | omega | assumption | (simp only [Wv.Bx,simprocAttr]<;>omega) | fail) only [Wv.B,simprocAttr,leftC,accP]) ?_
 intro i hi
 have hai:=hli i hi
 have hsu:=leftC_succ c most i
 have hst:leftC c most i<0→leftC c most c.nl=leftC c most i:=fun q=>accP_stop q hi
 by_cases hlt:i<c.nl
 ·have e1:(i:Int)<(c.nl:Int):=by omega
  generalize leftC c most i=A at*
  by_cases hneg:A<0
  ·have e2: ¬ 0≤A:=by omega
   have e3:=hst hneg
   rw [e3] at hB
   simp (maxSteps:=2000000) (disch:=first | omega | assumption | (simp only [Wv.Bx,simprocAttr]<;>omega) | fail) only [Wv.B,simprocAttr,decide_eq_true e1,decide_eq_false e2,hB]
  ·have e2:0≤A:=by omega
   rw [if_neg hneg] at hsu
   have hln:=h.ln i hlt
   have T:=lparts_tc (c.le i) (h.le i hlt) (A - (c.ln i).size) (by omega) (by omega)
   have hG:=exG_clo (c.le i)
   have hoy:=h.le i hlt
   have hL:=lets_clo c
   obtain ⟨r,hd⟩: ∃ r,List.drop (i*6) c.lets=letC (c.ln i) (c.le i)++r:=tabM_drop (f:=fun i=>letC (c.ln i) (c.le i)) (fun i=>letC_len _ _) hlt
   unfold letC at hd
   generalize hA':partE (c.le i) (A - (c.ln i).size)=A' at*
   generalize hle:c.le i=y at*
   obtain ⟨k',s',n',nl',li',na',ar',rfl⟩:=ok_mk hoy
   rw [exC_mk] at T hG hd
   simp only [List.cons_append,List.nil_append] at hd
   simp (maxSteps:=2000000) (disch:=first | omega | assumption | (simp only [Wv.Bx,simprocAttr]<;>omega) | fail) only [Wv.B,simprocAttr,decide_eq_true e1,decide_eq_true e2,hd]
   refine calm_TC T rfl (clB2 hG (.v _)) (by simp only [Wv.BC]) ?_
   simp (maxSteps:=2000000) (disch:=first | omega | assumption | (simp only [Wv.Bx,simprocAttr]<;>omega) | fail) only [Wv.B,simprocAttr]
   refine k_next (i+1) (by omega) (by omega) rfl (by simp (maxSteps:=2000000) (disch:=first | omega | assumption | (simp only [Wv.Bx,simprocAttr]<;>omega) | fail) only [Wv.B,simprocAttr,hsu,Int.natCast_add,Int.natCast_one])
 ·obtain rfl:i=c.nl:=by omega
  simp (maxSteps:=2000000) (disch:=first | omega | assumption | (simp only [Wv.Bx,simprocAttr]<;>omega) | fail) only [Wv.B,simprocAttr,Int.lt_irrefl,decide_false,hB]
def tabC (c:Ci) (i:Nat):Nat:=accS 0 (fun i=>tabE (c.le i)) i
def heavB (p:Nat) (c:Ci):Bool:=decide ((0:Int)<(tabC c c.nl:Nat)) && decide ((1000:Int)<((tabC c c.nl:Nat):Int)*(if (600:Int)<(p:Int) then (600:Int) else (p:Int)))
set_option maxRecDepth 100000 in
theorem tabC_le {c:Ci} (hc: ∀ i,i<c.nl→tabE (c.le i)≤1000000): ∀ i,i≤c.nl→tabC c i≤i*1000000:=by
 intro i
 induction i with
 | zero=>
  intro _
  have h3:tabC c 0=0:=rfl
  omega
 | succ i ih=>
  intro hi
  have h1:=ih (by omega)
  have h2:=hc i (by omega)
  have h3:tabC c (i+1)=tabC c i+tabE (c.le i):=rfl
  rw [h3,Nat.add_mul,Nat.one_mul]
  exact Nat.add_le_add h1 h2
set_option maxHeartbeats 1600000 in
set_option maxRecDepth 100000 in
theorem lheavy_tc (x:List AV) (hx: ∀ a,a∈x→Clo a) (p:Nat) (A0 A2 A3 A4 A5 A6:AV) (hxe:x=[A0, .v (.int .u32 p),A2,A3,A4,A5,A6]) (hp:p≤4294967295) (c:Ci) (h:okC0 c) (hnl:c.nl≤1000000) (hcn: ∀ i,i<c.nl→cntE (c.le i)≤1000000):TC Tryz.prog 17 [.g x, .g (ciC c)] (.v (.bool (heavB p c))):=by
 subst hxe
 have hle:=tabC_le (c:=c) fun i hi=>Nat.le_trans (tab_cnt _) (hcn i hi)
 have hB:heavB p c=(decide ((0:Int)<(tabC c c.nl:Nat)) && decide ((1000:Int)<((tabC c c.nl:Nat):Int)*(if (600:Int)<(p:Int) then (600:Int) else (p:Int)))):=rfl
 have hn2:c.nl*1000000≤1000000000000:=by omega
 generalize heavB p c=B at*
 refine Wv.TC.by 34 [0,1,6,3,11,5,2,4] [] [.tmp 4] (by kernel_rfl) Tryz.func17 rfl rfl rfl (by kernel_rfl) (by kernel_rfl) (Nat.le_of_ble_eq_true rfl) rfl ?clo ?_
 case clo=>simp only [Wv.BC]
 unfold ciC strsA at*
 simp (maxSteps:=2000000) (disch:=first | omega | assumption | (simp only [Wv.Bx,simprocAttr]<;>omega) | fail) only [Wv.B,simprocAttr]
 refine wfor (σ:=Nat) (fun i=>[(2, .ptr 0 0),(3, .ptr 1 0),(5, .v (.int .i64 (tabC c i:Nat))),(6, .v (.int .i64 i))])
  (fun i=>[some (.blk [A0, .v (.int .u32 p),A2,A3,A4,A5,A6]),some (.blk [.v (.string c.name), .t c.ni 1 (tab c.ni fun i=> .v (.string (c.fi i))), .t c.nl 6 c.lets, .t c.no 1 (tab c.no fun i=> .v (.string (c.fo i)))])])
  (fun i=>i≤c.nl) (fun i=>c.nl - i) 0 (Nat.zero_le _) rfl (by simp (maxSteps:=2000000) (disch:=first | omega | assumption | (simp only [Wv.Bx,simprocAttr]<;>omega) | fail) only [Wv.B,simprocAttr,tabC,accS,Int.natCast_zero]) ?_
 intro i hi
 have hai:=hle i hi
 have hin:i*1000000≤1000000000000:=Nat.le_trans (Nat.mul_le_mul_right _ hi) hn2
 have hsu:tabC c (i+1)=tabC c i+tabE (c.le i):=rfl
 by_cases hlt:i<c.nl
 ·have e1:(i:Int)<(c.nl:Int):=by omega
  have q3:=Nat.le_trans (tab_cnt (c.le i)) (hcn i hlt)
  have T:=ltables_tc (c.le i) (h.le i hlt) (hcn i hlt)
  have hG:=exG_clo (c.le i)
  have hoy:=h.le i hlt
  have hL:=lets_clo c
  obtain ⟨r,hd⟩: ∃ r,List.drop (i*6) c.lets=letC (c.ln i) (c.le i)++r:=tabM_drop (f:=fun i=>letC (c.ln i) (c.le i)) (fun i=>letC_len _ _) hlt
  unfold letC at hd
  generalize tabE (c.le i)=tt at*
  generalize hle:c.le i=y at*
  obtain ⟨k',s',n',nl',li',na',ar',rfl⟩:=ok_mk hoy
  rw [exC_mk] at T hG hd
  simp only [List.cons_append,List.nil_append] at hd
  simp (maxSteps:=2000000) (disch:=first | omega | assumption | (simp only [Wv.Bx,simprocAttr]<;>omega) | fail) only [Wv.B,simprocAttr,decide_eq_true e1,hd]
  refine call_TC T rfl (cloA1 hG) (by simp only [Wv.BC]) ?_
  simp (maxSteps:=2000000) (disch:=first | omega | assumption | (simp only [Wv.Bx,simprocAttr]<;>omega) | fail) only [Wv.B,simprocAttr]
  refine k_next (i+1) (by omega) (by omega) rfl (by simp (maxSteps:=2000000) (disch:=first | omega | assumption | (simp only [Wv.Bx,simprocAttr]<;>omega) | fail) only [Wv.B,simprocAttr,hsu,Int.natCast_add,Int.natCast_one])
 ·obtain rfl:i=c.nl:=by omega
  generalize tabC c c.nl=m at*
  have hm:m≤1000000000000:=by omega
  by_cases h0:(0:Int)<(m:Int)
  ·have hmul:((m:Nat):Int)*(if (600:Int)<(p:Int) then (600:Int) else (p:Int))≤1000000000000*600:=Int.mul_le_mul (by omega) (by split<;>omega) (by split<;>omega) (by omega)
   have hmu0:0≤((m:Nat):Int)*(if (600:Int)<(p:Int) then (600:Int) else (p:Int)):=Int.mul_nonneg (by omega) (by split<;>omega)
   rw [decide_eq_true h0,Bool.true_and] at hB
   simp (maxSteps:=2000000) (disch:=first | omega | assumption | (simp only [Wv.Bx,simprocAttr]<;>omega) | fail) only [Wv.B,simprocAttr,Int.lt_irrefl,decide_false,decide_eq_true h0,hB]
  ·rw [decide_eq_false h0,Bool.false_and] at hB
   simp (maxSteps:=2000000) (disch:=first | omega | assumption | (simp only [Wv.Bx,simprocAttr]<;>omega) | fail) only [Wv.B,simprocAttr,Int.lt_irrefl,decide_false,decide_eq_false h0,hB]
end Go.Proofs.YtljfgdlgmdcmfaaGreat
namespace Go.Proofs.YtljfgdlgmdcmfaaGreat
open Go.ChangeShapes Go.WideShapes Go.ChangeAt Go.RowKit Go.Deep Wv
set_option linter.unusedVariables false
instance:Inhabited Ex:=⟨.nil⟩
instance:Inhabited ByteArray:=⟨⟨#[]⟩⟩
theorem len5 {α:Type} {l:List α} (h:l.length=5): ∃ a b c d e,l=[a,b,c,d,e]:=by
 match l,h with
 | [a,b,c,d,e],_=>exact ⟨a,b,c,d,e,rfl⟩
theorem len6 {α:Type} {l:List α} (h:l.length=6): ∃ a b c d e f,l=[a,b,c,d,e,f]:=by
 match l,h with
 | [a,b,c,d,e,f],_=>exact ⟨a,b,c,d,e,f,rfl⟩
theorem len4 {α:Type} {l:List α} (h:l.length=4): ∃ a b c d,l=[a,b,c,d]:=by
 match l,h with
 | [a,b,c,d],_=>exact ⟨a,b,c,d,rfl⟩
set_option maxRecDepth 100000 in
theorem ex_of {t:TypeId} {l:List AV} (h:Sh Tryz.prog t l):(t=46→ ∃ e,okE e∧l=exC e):=by
 have key:(t=46→ ∃ e,okE e∧l=exC e)∧(t=44→ ∃ (n:Nat) (f:Nat→Ex),n≤140737488351232∧(∀ i,i<n→okE (f i))∧l=[.t n 5 (tabM n fun i=>exC (f i))]):=by
  induction h with
  | bool h=>exact ⟨fun e=>(by subst e;cases Tryz.underlying46.symm.trans h),fun e=>(by subst e;cases Tryz.underlying44.symm.trans h)⟩
  | int h=>exact ⟨fun e=>(by subst e;cases Tryz.underlying46.symm.trans h),fun e=>(by subst e;cases Tryz.underlying44.symm.trans h)⟩
  | str h=>exact ⟨fun e=>(by subst e;cases Tryz.underlying46.symm.trans h),fun e=>(by subst e;cases Tryz.underlying44.symm.trans h)⟩
  | @slice t e n f h hn hl hf ih=>
   refine ⟨fun e=>(by subst e;cases Tryz.underlying46.symm.trans h),fun e=>?_⟩
   subst e
   have:=Tryz.underlying44.symm.trans h
   injection this with this
   injection this with this
   subst this
   have hc:Tryz.prog.cellsOf 46=5:=by kernel_rfl
   have hb:1≤Tryz.prog.bytesOf 46:=Nat.le_of_ble_eq_true (by kernel_rfl)
   obtain ⟨g,hg⟩:=choose_lt (α:=Ex) fun i hi=>(ih i hi).1 rfl
   rw [hc]
   refine ⟨n,g,?_,fun i hi=>(hg i hi).1,?_⟩
   ·have h1:=Nat.mul_le_mul_left n hb
    have h2:reachBytes=140737488351232:=rfl
    omega
   ·rw [flat_congr fun i hi=>(hg i hi).2];rfl
  | @struct t fs l h hl hf ih=>
   refine ⟨fun e=>?_,fun e=>(by subst e;cases Tryz.underlying44.symm.trans h)⟩
   subst e
   have:=Tryz.underlying46.symm.trans h
   injection this with this
   injection this with this
   subst this
   have hc:Tryz.prog.cellsOf 46=5:=by kernel_rfl
   rw [hc] at hl
   obtain ⟨a,b,c,d,e,rfl⟩:=len5 hl
   have c1:Tryz.prog.cellsOf 3=1:=by kernel_rfl
   have c2:Tryz.prog.cellsOf 9=1:=by kernel_rfl
   have c3:Tryz.prog.cellsOf 2=1:=by kernel_rfl
   have c4:Tryz.prog.cellsOf 43=1:=by kernel_rfl
   have c5:Tryz.prog.cellsOf 44=1:=by kernel_rfl
   have h0:Sh Tryz.prog 3 (([a,b,c,d,e].drop 0).take (Tryz.prog.cellsOf 3)):=hf 0 _ rfl
   have h1:Sh Tryz.prog 9 (([a,b,c,d,e].drop 1).take (Tryz.prog.cellsOf 9)):=hf 1 _ rfl
   have h2:Sh Tryz.prog 2 (([a,b,c,d,e].drop 2).take (Tryz.prog.cellsOf 2)):=hf 2 _ rfl
   have h3:Sh Tryz.prog 43 (([a,b,c,d,e].drop 3).take (Tryz.prog.cellsOf 43)):=hf 3 _ rfl
   have h4:=(ih 4 _ rfl).2 rfl
   have h4': ∃ (n:Nat) (f:Nat→Ex),n≤140737488351232∧(∀ i,i<n→okE (f i))∧([a,b,c,d,e].drop 4).take (Tryz.prog.cellsOf 44)=[.t n 5 (tabM n fun i=>exC (f i))]:=h4
   rw [c1] at h0
   rw [c2] at h1
   rw [c3] at h2
   rw [c4] at h3
   rw [c5] at h4'
   obtain ⟨z0,e0,_⟩:=sh_int Tryz.underlying3 h0
   obtain ⟨s1,e1,w1⟩:=sh_str Tryz.underlying9 h1
   obtain ⟨z2,e2,_⟩:=sh_int Tryz.underlying2 h2
   obtain ⟨n3,f3,e3,w3,_⟩:=sh_ints Tryz.underlying43 Tryz.underlying2 (Nat.le_of_ble_eq_true (by kernel_rfl)) (by kernel_rfl) h3
   obtain ⟨n4,f4,w4,o4,e4⟩:=h4'
   have f0:[a]=[AV.v (.int .i64 z0)]:=e0
   have f1:[b]=[AV.v (.string s1)]:=e1
   have f2:[c]=[AV.v (.int .i64 z2)]:=e2
   have f3':[d]=[AV.t n3 1 (tab n3 fun i=> .v (.int .i64 (f3 i)))]:=e3
   have f4':[e]=[AV.t n4 5 (tabM n4 fun i=>exC (f4 i))]:=e4
   simp only [List.cons.injEq,and_true] at f0 f1 f2 f3' f4'
   subst f0 f1 f2 f3' f4'
   have hr:reachBytes=140737488351232:=rfl
   exact ⟨.mk z0 s1 z2 n3 f3 n4 f4,⟨by omega,by omega,w4,o4⟩,rfl⟩
 exact key.1
def ciTs:List TypeId:=[3,2,9,43,26,46,44,49,27,29]
theorem ciTs_ok:setB Tryz.prog ciTs=true:=by kernel_rfl
set_option maxRecDepth 100000 in
theorem let_of {l:List AV} (h:Sh Tryz.prog 49 l): ∃ s e,s.size≤140737488351232∧okE e∧l=letC s e:=by
 obtain ⟨hl,hf⟩:=sh_struct Tryz.underlying49 h
 have hc:Tryz.prog.cellsOf 49=6:=by kernel_rfl
 rw [hc] at hl
 obtain ⟨a,b,c,d,e,f,rfl⟩:=len6 hl
 have c2:Tryz.prog.cellsOf 9=1:=by kernel_rfl
 have c3:Tryz.prog.cellsOf 46=5:=by kernel_rfl
 have h0:Sh Tryz.prog 9 (([a,b,c,d,e,f].drop 0).take (Tryz.prog.cellsOf 9)):=hf 0 _ rfl
 have h1:Sh Tryz.prog 46 (([a,b,c,d,e,f].drop 1).take (Tryz.prog.cellsOf 46)):=hf 1 _ rfl
 rw [c2] at h0
 rw [c3] at h1
 obtain ⟨s,e0,w0⟩:=sh_str Tryz.underlying9 h0
 obtain ⟨x,o1,e1⟩:=ex_of h1 rfl
 have f0:[a]=[AV.v (.string s)]:=e0
 have f1:[b,c,d,e,f]=exC x:=e1
 simp only [List.cons.injEq,and_true] at f0
 subst f0
 have hr:reachBytes=140737488351232:=rfl
 exact ⟨s,x,by omega,o1,by rw [f1];rfl⟩
set_option maxRecDepth 100000 in
theorem ci_of {l:List AV} (h:Sh Tryz.prog 29 l): ∃ c,okC0 c∧l=ciC c:=by
 obtain ⟨hl,hf⟩:=sh_struct Tryz.underlying29 h
 have hc:Tryz.prog.cellsOf 29=4:=by kernel_rfl
 rw [hc] at hl
 obtain ⟨a,b,c,d,rfl⟩:=len4 hl
 have c2:Tryz.prog.cellsOf 9=1:=by kernel_rfl
 have c3:Tryz.prog.cellsOf 26=1:=by kernel_rfl
 have c4:Tryz.prog.cellsOf 27=1:=by kernel_rfl
 have c5:Tryz.prog.cellsOf 49=6:=by kernel_rfl
 have h0:Sh Tryz.prog 9 (([a,b,c,d].drop 0).take (Tryz.prog.cellsOf 9)):=hf 0 _ rfl
 have h1:Sh Tryz.prog 26 (([a,b,c,d].drop 1).take (Tryz.prog.cellsOf 26)):=hf 1 _ rfl
 have h2:Sh Tryz.prog 27 (([a,b,c,d].drop 2).take (Tryz.prog.cellsOf 27)):=hf 2 _ rfl
 have h3:Sh Tryz.prog 26 (([a,b,c,d].drop 3).take (Tryz.prog.cellsOf 26)):=hf 3 _ rfl
 rw [c2] at h0
 rw [c3] at h1 h3
 rw [c4] at h2
 obtain ⟨s,e0,w0⟩:=sh_str Tryz.underlying9 h0
 obtain ⟨n1,g1,e1,w1,w1'⟩:=sh_strs Tryz.underlying26 Tryz.underlying9 (Nat.le_of_ble_eq_true (by kernel_rfl)) (by kernel_rfl) h1
 obtain ⟨n2,g2,e2,w2,q2⟩:=sh_slice Tryz.underlying27 (Nat.le_of_ble_eq_true (by kernel_rfl)) h2
 obtain ⟨n3,g3,e3,w3,w3'⟩:=sh_strs Tryz.underlying26 Tryz.underlying9 (Nat.le_of_ble_eq_true (by kernel_rfl)) (by kernel_rfl) h3
 obtain ⟨L,hL⟩:=choose_lt (α:=ByteArray × Ex) (p:=fun i q=>q.1.size≤140737488351232∧okE q.2∧g2 i=letC q.1 q.2) fun i hi=>by
  obtain ⟨s,e,k1,k2,k3⟩:=let_of (q2 i hi)
  exact ⟨(s,e),(⟨k1,k2,k3⟩:s.size≤140737488351232∧okE e∧g2 i=letC s e)⟩
 have f0:[a]=[AV.v (.string s)]:=e0
 have f1:[b]=[AV.t n1 1 (tab n1 fun i=> .v (.string (g1 i)))]:=e1
 have f2:[c]=[AV.t n2 (Tryz.prog.cellsOf 49) ((List.range n2).flatMap g2)]:=e2
 have f3:[d]=[AV.t n3 1 (tab n3 fun i=> .v (.string (g3 i)))]:=e3
 rw [c5,flat_congr fun i hi=>(hL i hi).2.2] at f2
 simp only [List.cons.injEq,and_true] at f0 f1 f2 f3
 subst f0 f1 f2 f3
 have hr:reachBytes=140737488351232:=rfl
 exact ⟨{name:=s,ni:=n1,fi:=g1,nl:=n2,ln:=fun i=>(L i).1,le:=fun i=>(L i).2,no:=n3,fo:=g3},
  ⟨by show s.size≤_;omega,by show n1≤_;omega,by show n2≤_;omega,by show n3≤_;omega,fun i hi=>by have:=w1' i hi;show (g1 i).size≤_;omega,fun i hi=>by have:=w3' i hi;show (g3 i).size≤_;omega,fun i hi=>(hL i hi).1,fun i hi=>(hL i hi).2.1⟩,rfl⟩
set_option maxRecDepth 100000 in
theorem circ_of {H:Type} {enc:TypeId × Value→H} {w:World} {base b0:Nat} {spare:Nat→Bool} {held:Bool} {r:Reach} {v:Value} {d:DataW H} {p:List MemPlace}
  (hv:Value.okWide Tryz.prog w r b0 29 v) (h:DataW.Trod enc Tryz.prog w base spare held 29 v d p) (hl:LightP Tryz.prog 29 d): ∃ c,okC0 c∧Rep (bareX w) (.g (ciC c)) v:=by
 simp only [Value.okWide,Tryz.underlying29] at hv
 obtain ⟨cs,rfl,_,_⟩:=hv
 obtain ⟨fuel,hf⟩:=h
 obtain ⟨l,s1,s2,s3⟩:=reads ciTs_ok fuel _ _ _ (by unfold ciTs;simp) hf hl
 obtain ⟨c,hc,rfl⟩:=ci_of s1
 refine ⟨c,hc,?_⟩
 have e:(Value.agg cs)= .agg cs.toList.toArray:=by simp
 rw [e]
 exact .g s2.1 s2.2
end Go.Proofs.YtljfgdlgmdcmfaaGreat
namespace Go.Proofs.YtljfgdlgmdcmfaaGreat
structure Par where
 n:Int
 p:Nat
 r:Int
 ch:List Nat
 sp:Nat
 wt:Int
 er:Nat
end Go.Proofs.YtljfgdlgmdcmfaaGreat
namespace Go.Proofs.YtljfgdlgmdcmfaaGreat
def v2f:Nat→Nat→Nat
 | 0,_=>0
 | f+1,m=>if m % 2=0 then v2f f (m / 2)+1 else 0
def twos (m:Nat):Nat:=v2f 32 m
def oddp (m:Nat):Nat:=m / 2 ^ twos m
theorem v2f_eq: ∀ (f t d:Nat),t<f→d % 2=1→v2f f (d*2 ^ t)=t:=by
 intro f
 induction f with
 | zero=>intro t d h;omega
 | succ f ih=>
  intro t d h hd
  cases t with
  | zero=>simp [v2f,hd]
  | succ t=>
   have h1:d*2 ^ (t+1)=2*(d*2 ^ t):=by rw [Nat.pow_succ];rw [←Nat.mul_assoc,Nat.mul_comm]
   have h2:d*2 ^ (t+1) % 2=0:=by rw [h1];omega
   have h3:d*2 ^ (t+1) / 2=d*2 ^ t:=by rw [h1];omega
   rw [v2f,if_pos h2,h3,ih t d (by omega) hd]
theorem split_eq {m d t:Nat} (ht:t<32) (hd:d % 2=1) (h:d*2 ^ t=m):twos m=t∧oddp m=d:=by
 have h1:twos m=t:=by rw [←h];exact v2f_eq 32 t d ht hd
 refine ⟨h1,?_⟩
 unfold oddp
 rw [h1, ←h,Nat.mul_div_cancel _ (Nat.pow_pos (by omega))]
def anyEq (n:Nat):Nat→Nat→Bool
 | _,0=>false
 | x,k+1=>x==n - 1 || anyEq n (x*x % n) k
def pmod (a e n:Nat):Nat:=a ^ e % n
def SP (a n:Nat):Bool:=pmod (a % n) (oddp (n - 1)) n==1 || anyEq n (pmod (a % n) (oddp (n - 1)) n) (twos (n - 1))
theorem SP_of {a n d t x:Nat} (ht:t<32) (hd:d % 2=1) (h:d*2 ^ t=n - 1) (hx:x=pmod (a % n) d n):SP a n=(x==1 || anyEq n x t):=by
 obtain ⟨h1,h2⟩:=split_eq ht hd h
 unfold SP
 rw [h1,h2,hx]
theorem anyEq_hit {n x k:Nat} (h:x=n - 1):anyEq n x (k+1)=true:=by simp [anyEq,h]
theorem anyEq_miss {n x k:Nat} (h:x≠n - 1):anyEq n x (k+1)=anyEq n (x*x % n) k:=by simp [anyEq,h]
theorem two_pow_lt {t m d:Nat} (hm:m<4294967296) (hd:0<d) (h:d*2 ^ t=m):t<32:=by
 apply Classical.byContradiction
 intro hc
 have h1:2 ^ 32≤2 ^ t:=Nat.pow_le_pow_right (by omega) (by omega)
 have h2:1*2 ^ t≤d*2 ^ t:=Nat.mul_le_mul_right _ hd
 have h3:(2:Nat) ^ 32=4294967296:=by decide
 omega
def smalls:List Nat:=[2,3,5,7,11,13,61]
def mPrime (n:Nat):Bool:=
 if n<2 then false else match smalls.find? (fun p=>n % p==0) with
  | some p=>n==p
  | none=>SP 2 n && (SP 7 n && SP 61 n)
end Go.Proofs.YtljfgdlgmdcmfaaGreat
namespace Go.Proofs.YtljfgdlgmdcmfaaGreat
def isDim (n:Int):Bool:=n==4 || n==8 || n==16 || n==32
theorem isDim_cases {n:Int} (h:isDim n=true):n=4∨n=8∨n=16∨n=32:=by
 unfold isDim at h;simp at h;omega
def powv (pr:Nat→Bool) (n:Int) (p:Nat) (e:Int):Nat:=
 if 3≤p∧p<65536∧pr p=true∧p % (2*n).toNat=1∧1≤e∧p ^ e.toNat≤2147483647 then p ^ e.toNat else 0
theorem powv_le (pr:Nat→Bool) (n:Int) (p:Nat) (e:Int):powv pr n p e≤2147483647:=by
 unfold powv;split
 ·rename_i h;exact h.2.2.2.2.2
 ·omega
theorem powv_no {pr:Nat→Bool} {n:Int} {p:Nat} {e:Int} (h: ¬ (3≤p∧p<65536∧pr p=true∧p % (2*n).toNat=1∧1≤e)):powv pr n p e=0:=by
 unfold powv;rw [if_neg];intro hc;exact h ⟨hc.1,hc.2.1,hc.2.2.1,hc.2.2.2.1,hc.2.2.2.2.1⟩
theorem powv_big {pr:Nat→Bool} {n:Int} {p:Nat} {e:Int} {k:Nat} (hp:3≤p) (hk:(k:Int)≤e) (h:2147483647<p ^ k):powv pr n p e=0:=by
 unfold powv;rw [if_neg];intro hc
 have:p ^ k≤p ^ e.toNat:=Nat.pow_le_pow_right (by omega) (by omega)
 omega
theorem powv_yes {pr:Nat→Bool} {n:Int} {p:Nat} {e:Int} {k:Nat} (h:3≤p∧p<65536∧pr p=true∧p % (2*n).toNat=1∧1≤e) (hk:(k:Int)=e) (hb:p ^ k≤2147483647):powv pr n p e=p ^ k:=by
 have:e.toNat=k:=by omega
 unfold powv;rw [this,if_pos ⟨h.1,h.2.1,h.2.2.1,h.2.2.2.1,h.2.2.2.2,hb⟩]
def goodS (pr:Nat→Bool) (s q:Nat):Bool:=
 decide (1073741824<q) && (decide (q≤2147483647) && (decide (q % s=1) && pr q))
def Par.t (pr:Nat→Bool) (x:Par):Nat:=powv pr x.n x.p x.r
def wtB (x:Par):Bool:=decide (1≤x.wt∧x.wt≤x.n∧x.er≤64)
def lenB (n:Nat):Bool:=decide (1≤n∧n≤24)
def badB (pr:Nat→Bool) (s sp q:Nat):Bool:=!(decide (q<sp) && goodS pr s q)
def stepOf (pr:Nat→Bool) (x:Par):Nat:=(2*x.n).toNat*x.t pr
def okB (pr:Nat→Bool) (x:Par):Bool:=
 isDim x.n && (decide (0<x.t pr) && (lenB x.ch.length && (wtB x && (goodS pr (stepOf pr x) x.sp && (!(x.ch.any (badB pr (stepOf pr x) x.sp)) && decide x.ch.Nodup)))))
def chk (pr:Nat→Bool) (x:Par):Int:=if okB pr x then 0 else 2
end Go.Proofs.YtljfgdlgmdcmfaaGreat
namespace Go.Proofs.YtljfgdlgmdcmfaaGreat
end Go.Proofs.YtljfgdlgmdcmfaaGreat
namespace Go.Proofs.YtljfgdlgmdcmfaaGreat
def C:Nat→Nat→Nat
 | _,0=>1
 | 0,_+1=>0
 | n+1,k+1=>C n k+C n (k+1)
def S (n x:Nat):Nat→Nat
 | 0=>0
 | m+1=>S n x m+C n m*x ^ m
def sg (neg:Bool) (q:Nat):Nat:=cond neg (q - 1) 1
end Go.Proofs.YtljfgdlgmdcmfaaGreat
namespace Go.Proofs.YtljfgdlgmdcmfaaGreat
theorem chk_two {pr:Nat→Bool} {x:Par} (h:okB pr x=false):chk pr x=2:=by unfold chk;rw [h];rfl
theorem chk_ok {pr:Nat→Bool} {x:Par} (h:okB pr x=true):chk pr x=0:=by unfold chk;rw [h];rfl
end Go.Proofs.YtljfgdlgmdcmfaaGreat
namespace Go.Proofs.YtljfgdlgmdcmfaaGreat
def Bd (M:Int) (l:List Int):Prop:= ∀ z,z∈l→ -M≤z∧z≤M
theorem Bd.mono {M M':Int} {l:List Int} (h:Bd M l) (hM:M≤M'):Bd M' l:=fun z hz=>by have:=h z hz;omega
theorem Bd.getD {M:Int} {l:List Int} (h:Bd M l) (hM:0≤M) (i:Nat): -M≤l.getD i 0∧l.getD i 0≤M:=by
 rw [List.getD_eq_getElem?_getD]
 by_cases hi:i<l.length
 ·rw [List.getElem?_eq_getElem hi];exact h _ (List.getElem_mem hi)
 ·rw [List.getElem?_eq_none (by omega)];show -M≤0∧0≤M;omega
theorem Bd.set {M:Int} {l:List Int} (h:Bd M l) (i:Nat) {v:Int} (hv: -M≤v∧v≤M):Bd M (l.set i v):=fun z hz=>by
 rcases List.mem_or_eq_of_mem_set hz with h1 | h1
 ·exact h z h1
 ·rw [h1];exact hv
end Go.Proofs.YtljfgdlgmdcmfaaGreat
namespace Go.Proofs.YtljfgdlgmdcmfaaGreat
open Go.RowKit
theorem ret_int {k:IntKind} {a b:Int} (h:a=b):Ending.returned (.int k a)= .returned (.int k b):=by rw [h]
theorem ret_bool {a b:Bool} (h:a=b):Ending.returned (.bool a)= .returned (.bool b):=by rw [h]
theorem mulmod_fits (a b n:Int) (ha0:0≤a) (ha:a<4294967296) (hb0:0≤b) (hb:b<4294967296) (hn:1≤n) (hn2:n<4294967296):
  0≤a*b∧a*b≤18446744065119617025∧0≤a*b % n∧a*b % n<n:=by
 refine ⟨Int.mul_nonneg ha0 hb0,?_,Int.emod_nonneg _ (by omega),Int.emod_lt_of_pos _ (by omega)⟩
 have h:a*b≤4294967295*4294967295:=Int.mul_le_mul (by omega) (by omega) hb0 (by omega)
 omega
theorem pow_step_odd (n out a e:Nat) (he:e % 2=1):out*a ^ e % n=(out*a % n)*(a*a % n) ^ (e / 2) % n:=by
 have h:e=2*(e / 2)+1:=by omega
 have h2:a ^ e=a*(a*a) ^ (e / 2):=by
  conv=>lhs;rw [h]
  rw [Nat.pow_succ,Nat.pow_mul,Nat.pow_two,Nat.mul_comm]
 rw [h2, ←Nat.mul_assoc,Nat.mul_mod,Nat.pow_mod (a*a) (e / 2) n, ←Nat.mul_mod_mod,Nat.mod_mod]
 simp [Nat.mul_mod,Nat.pow_mod]
theorem pow_step_even (n out a e:Nat) (he:e % 2=0):out*a ^ e % n=out*(a*a % n) ^ (e / 2) % n:=by
 have h:e=2*(e / 2):=by omega
 have h2:a ^ e=(a*a) ^ (e / 2):=by
  conv=>lhs;rw [h]
  rw [Nat.pow_mul,Nat.pow_two]
 rw [h2,Nat.mul_mod,Nat.pow_mod (a*a) (e / 2) n]
 simp [Nat.mul_mod,Nat.pow_mod]
theorem mulmod_nat (a b n:Nat):(a:Int)*(b:Int) % (n:Int)=((a*b % n:Nat):Int):=by
 rw [Int.natCast_emod,Int.natCast_mul]
set_option maxHeartbeats 400000 in
theorem mproduct1_any (a b n:Int) (p:Addr) (w:World) (hp:w.cell? p=some (.int .u64 n)) (ha0:0≤a) (ha:a<4294967296) (hb0:0≤b) (hb:b<4294967296) (hn:1≤n) (hn2:n<4294967296):
  Calls Tryz.prog 262 #[.int .u32 a, .int .u32 b, .pointer (some p)] w fun e w'=>e= .returned (.int .u32 (a*b % n))∧w=w':=by
 obtain ⟨h1,h2,h3,h4⟩:=mulmod_fits a b n ha0 ha hb0 hb hn hn2
 go_enter Tryz.func262,Tryz.ntmps262
 go_wp2
 go_ret
 exact ⟨rfl,rfl⟩
set_option maxHeartbeats 400000 in
theorem mproduct_any (n:Int) (w:World) (hn:0≤n) (hn2:n<4294967296):
  Calls Tryz.prog 243 #[.int .u32 n] w fun r w'=>r= .returned (.func (.func 262) #[] #[.pointer (some ⟨w.heap.size,0,none⟩)])∧w.alloc (.cells #[.int .u64 n] 162)=w':=by
 go_enter Tryz.func243,Tryz.ntmps243
 go_wp2
 go_ret
 exact ⟨rfl,rfl⟩
set_option maxHeartbeats 400000 in
theorem mpower_any (a e n:Nat) (w:World) (ha:a<4294967296) (he:e<18446744073709551616) (hn:2≤n) (hn2:n<4294967296):
  Calls Tryz.prog 228 #[.int .u32 a, .int .u64 e, .int .u32 n] w fun r w'=>r= .returned (.int .u32 (pmod a e n))∧Below w.heap.size w w':=by
 go_enter Tryz.func228,Tryz.ntmps228
 go_wp2_with (go_at_call 243;refine (mproduct_any _ _ (by omega) (by omega)).mono ?_;rintro e w' ⟨rfl,rfl⟩)
 go_loop [0,1,8] (fun va ve vo=> ∃ a' e' o':Nat,va= .int .u32 a'∧ve= .int .u64 e'∧vo= .int .u32 o'∧a'<4294967296∧e'≤e∧o'<n∧Hid (o'*a' ^ e' % n=pmod a e n)) (fun _ ve _=>(intOf ve).toNat)
 case atStart=>exact ⟨a,e,1,rfl,rfl,rfl,ha,Nat.le_refl _,by omega,by show _=_;rw [Nat.one_mul];rfl⟩
 case round=>
  obtain ⟨a',e',o',rfl,rfl,rfl,ha',he',ho',hI⟩:=hrel
  have hmo:o'*a' % n<n:=Nat.mod_lt _ (by omega)
  have hma:a'*a' % n<n:=Nat.mod_lt _ (by omega)
  have hp:(w.alloc (.cells #[.int .u64 n] 162)).cell? ⟨w.heap.size,0,none⟩=some (.int .u64 n):=by simp [go_sem]
  by_cases h0:0<e'
  ·by_cases h1:e' % 2=1
   ·have hst:=Lib.hid (pow_step_odd n o' a' e' h1)
    have hb:(bits BinOp.and IntKind.u64 (e':Int) 1==1)=true:=by rw [and_one_u64 _ (by omega) (by omega)];simp;omega
    go_wp2_with (go_at_call 262;refine (mproduct1_any _ _ _ _ _ hp (by omega) (by omega) (by omega) (by omega) (by omega) (by omega)).mono ?_;rintro e w' ⟨rfl,rfl⟩)
    simp only [mulmod_nat]
    go_round
    case rel=>exact ⟨a'*a' % n,e' / 2,o'*a' % n,rfl,rfl,rfl,by omega,by omega,by omega,(hst.out.symm.trans hI)⟩
    case measure=>simp [intOf];omega
   ·have hst:=Lib.hid (pow_step_even n o' a' e' (by omega))
    have hb:(bits BinOp.and IntKind.u64 (e':Int) 1==1)=false:=by rw [and_one_u64 _ (by omega) (by omega)];simp;omega
    go_wp2_with (go_at_call 262;refine (mproduct1_any _ _ _ _ _ hp (by omega) (by omega) (by omega) (by omega) (by omega) (by omega)).mono ?_;rintro e w' ⟨rfl,rfl⟩)
    simp only [mulmod_nat]
    go_round
    case rel=>exact ⟨a'*a' % n,e' / 2,o',rfl,rfl,rfl,by omega,by omega,by omega,(hst.out.symm.trans hI)⟩
    case measure=>simp [intOf];omega
  ·go_wp2
   go_ret
   obtain rfl:e'=0:=by omega
   have h:=hI.out
   rw [Nat.pow_zero,Nat.mul_one,Nat.mod_eq_of_lt ho'] at h
   exact ⟨ret_int (by rw [h]),(Below.refl _ _).alloc (Nat.le_refl _) _⟩
end Go.Proofs.YtljfgdlgmdcmfaaGreat
namespace Go.Proofs.YtljfgdlgmdcmfaaGreat
open Go.RowKit
theorem and_one_u32 (d:Nat) (h:d<4294967296):bits BinOp.and IntKind.u32 (d:Int) 1=((d % 2:Nat):Int):=by
 have h1:=u32_and (d:Int) 1 (by omega) (by omega) (by omega) (by omega)
 rw [h1];show ((d &&& 1:Nat):Int)=_;rw [Nat.and_one_is_mod]
theorem half_split {d t m:Nat} (hev:d % 2=0) (h:d*2 ^ t=m):d / 2*2 ^ (t+1)=m:=by
 rw [Nat.pow_succ,Nat.mul_comm (2 ^ t) 2, ←Nat.mul_assoc,show d / 2*2=d by omega];exact h
set_option maxHeartbeats 400000 in
theorem mpasses_any (a n:Nat) (w:World) (ha:a<4294967296) (hn:3≤n) (hn2:n<4294967296) (hodd:n % 2=1):
  Calls Tryz.prog 205 #[.int .u32 a, .int .u32 n] w fun r w'=>r= .returned (.bool (SP a n))∧Below w.heap.size w w':=by
 have hmd:a % n<n:=Nat.mod_lt _ (by omega)
 go_enter Tryz.func205,Tryz.ntmps205
 go_wp2_with fail
 go_loop [5,6] (fun vd vt=> ∃ d t:Nat,vd= .int .u32 d∧vt= .int .i64 t∧0<d∧d<4294967296∧t<32∧Hid (d*2 ^ t=n - 1)) (fun vd _=>(intOf vd).toNat)
 case atStart=>exact ⟨n - 1,0,by congr 1;omega,rfl,by omega,by omega,by omega,by show _=_;omega⟩
 case round=>
  obtain ⟨d,t,rfl,rfl,hd0,hd,ht,hI⟩:=hrel
  by_cases hev:d % 2=0
  ·have hb:(bits BinOp.and IntKind.u32 (d:Int) 1==0)=true:=by rw [and_one_u32 d hd];simp;omega
   have hI2:=half_split hev hI.out
   have ht2:t+1<32:=two_pow_lt (m:=n - 1) (by omega) (by omega) hI2
   have HI2:=Lib.hid hI2
   clear hI2 hI
   go_wp2_with fail
   go_round
   case rel=>exact ⟨d / 2,t+1,by go_num,by go_num,by omega,by omega,ht2,HI2⟩
   case measure=>simp [intOf];omega
  ·have hb:(bits BinOp.and IntKind.u32 (d:Int) 1==0)=false:=by rw [and_one_u32 d hd];simp;omega
   have ht1:1≤t:=by
    cases t with
    | zero=>have h:=hI.out;simp at h;omega
    | succ t=>omega
   go_wp2_with fail
   rw [show (a:Int) % (n:Int)=((a % n:Nat):Int) by rw [Int.natCast_emod]]
   refine (mpower_any _ _ _ _ (by omega) (by omega) (by omega) (by omega)).mono ?_
   rintro e w1 ⟨rfl,hb1⟩
   have hS:=Lib.hid (SP_of (a:=a) (n:=n) (x:=pmod (a % n) d n) ht (by omega) hI.out rfl)
   have hlt:pmod (a % n) d n<n:=Nat.mod_lt _ (by omega)
   generalize pmod (a % n) d n=x0 at hlt hS ⊢
   by_cases h1:x0=1
   ·have e1:((x0:Int)==1)=true:=by simp;omega
    have H1:=Lib.hid h1;clear h1
    go_wp2_with fail
    go_ret
    exact ⟨ret_bool (by rw [hS.out,H1.out];rfl),hb1⟩
   ·have e1:((x0:Int)==1)=false:=by simp;omega
    obtain ⟨s,rfl⟩: ∃ s,t=s+1:=⟨t - 1,by omega⟩
    by_cases h2:x0=n - 1
    ·have e2:((x0:Int)==(n:Int) - 1)=true:=by simp;omega
     have H2:=Lib.hid h2;clear h2
     go_wp2_with fail
     go_ret
     exact ⟨ret_bool (by rw [hS.out,anyEq_hit H2.out,Bool.or_true]),hb1⟩
    ·have e2:((x0:Int)==(n:Int) - 1)=false:=by simp;omega
     go_wp2_with fail
     have hS2:Hid (SP a n=anyEq n (x0*x0 % n) s):=by
      show _=_;rw [hS.out,anyEq_miss h2,show (x0==1)=false by simp [h1],Bool.false_or]
     clear hS
     go_loop [7,34] (fun vx vk=> ∃ x k:Nat,vx= .int .u32 x∧vk= .int .i64 k∧x<n∧k≤s∧Hid (SP a n=anyEq n (x*x % n) (s - k))) (fun _ vk=>s - (intOf vk).toNat)
     case atStart=>exact ⟨x0,0,rfl,rfl,hlt,by omega,hS2⟩
     case round=>
      obtain ⟨x,k,rfl,rfl,hx,hk,hS3⟩:=hrel
      obtain ⟨m1,m2,m3,m4⟩:=mulmod_fits x x n (by omega) (by omega) (by omega) (by omega) (by omega) (by omega)
      by_cases hks:k<s
      ·obtain ⟨r,hr⟩: ∃ r,s - k=r+1:=⟨s - k - 1,by omega⟩
       by_cases h3:x*x % n=n - 1
       ·have e3:((x:Int)*(x:Int) % (n:Int)==(n:Int) - 1)=true:=by rw [mulmod_nat];generalize x*x % n=y at h3;exact beq_iff_eq.2 (by omega)
        have H3:=Lib.hid h3;clear h3
        have HR:=Lib.hid hr;clear hr
        go_wp2_with fail
        go_ret
        exact ⟨ret_bool (by rw [hS3.out,HR.out,anyEq_hit H3.out]),hb1⟩
       ·have e3:((x:Int)*(x:Int) % (n:Int)==(n:Int) - 1)=false:=by rw [mulmod_nat];generalize x*x % n=y at h3;exact beq_eq_false_iff_ne.2 (by omega)
        have HR:=Lib.hid hr;clear hr
        go_wp2_with fail
        simp only [mulmod_nat]
        go_round
        case rel=>exact ⟨x*x % n,k+1,rfl,by go_num,Nat.mod_lt _ (by omega),by omega,by show _=_;rw [hS3.out,HR.out,anyEq_miss h3];congr 1;have:=HR.out;omega⟩
        case measure=>simp [intOf];omega
      ·go_wp2_with fail
       go_ret
       exact ⟨ret_bool (by rw [hS3.out,show s - k=0 by omega];rfl),hb1⟩
end Go.Proofs.YtljfgdlgmdcmfaaGreat
namespace Go.Proofs.YtljfgdlgmdcmfaaGreat
open Go.RowKit
theorem seven0 (w:World):(Instr.index 235 (.agg #[.int .u32 2, .int .u32 3, .int .u32 5, .int .u32 7, .int .u32 11, .int .u32 13, .int .u32 61]) (.int .i64 0)).run Tryz.prog w= .ok (.int .u32 2) w:=by kernel_rfl
theorem seven1 (w:World):(Instr.index 235 (.agg #[.int .u32 2, .int .u32 3, .int .u32 5, .int .u32 7, .int .u32 11, .int .u32 13, .int .u32 61]) (.int .i64 1)).run Tryz.prog w= .ok (.int .u32 3) w:=by kernel_rfl
theorem seven2 (w:World):(Instr.index 235 (.agg #[.int .u32 2, .int .u32 3, .int .u32 5, .int .u32 7, .int .u32 11, .int .u32 13, .int .u32 61]) (.int .i64 2)).run Tryz.prog w= .ok (.int .u32 5) w:=by kernel_rfl
theorem seven3 (w:World):(Instr.index 235 (.agg #[.int .u32 2, .int .u32 3, .int .u32 5, .int .u32 7, .int .u32 11, .int .u32 13, .int .u32 61]) (.int .i64 3)).run Tryz.prog w= .ok (.int .u32 7) w:=by kernel_rfl
theorem seven4 (w:World):(Instr.index 235 (.agg #[.int .u32 2, .int .u32 3, .int .u32 5, .int .u32 7, .int .u32 11, .int .u32 13, .int .u32 61]) (.int .i64 4)).run Tryz.prog w= .ok (.int .u32 11) w:=by kernel_rfl
theorem seven5 (w:World):(Instr.index 235 (.agg #[.int .u32 2, .int .u32 3, .int .u32 5, .int .u32 7, .int .u32 11, .int .u32 13, .int .u32 61]) (.int .i64 5)).run Tryz.prog w= .ok (.int .u32 13) w:=by kernel_rfl
theorem seven6 (w:World):(Instr.index 235 (.agg #[.int .u32 2, .int .u32 3, .int .u32 5, .int .u32 7, .int .u32 11, .int .u32 13, .int .u32 61]) (.int .i64 6)).run Tryz.prog w= .ok (.int .u32 61) w:=by kernel_rfl
theorem three0 (w:World):(Instr.index 236 (.agg #[.int .u32 2, .int .u32 7, .int .u32 61]) (.int .i64 0)).run Tryz.prog w= .ok (.int .u32 2) w:=by kernel_rfl
theorem three1 (w:World):(Instr.index 236 (.agg #[.int .u32 2, .int .u32 7, .int .u32 61]) (.int .i64 1)).run Tryz.prog w= .ok (.int .u32 7) w:=by kernel_rfl
theorem three2 (w:World):(Instr.index 236 (.agg #[.int .u32 2, .int .u32 7, .int .u32 61]) (.int .i64 2)).run Tryz.prog w= .ok (.int .u32 61) w:=by kernel_rfl
theorem mpasses_int (a:Int) (n:Nat) (w:World) (ha0:0≤a) (ha:a<4294967296) (hn:3≤n) (hn2:n<4294967296) (hodd:n % 2=1):
  Calls Tryz.prog 205 #[.int .u32 a, .int .u32 n] w fun r w'=>r= .returned (.bool (SP a.toNat n))∧Below w.heap.size w w':=by
 obtain ⟨b,rfl⟩:=Int.eq_ofNat_of_zero_le ha0
 exact mpasses_any b n w (by omega) hn hn2 hodd
def NoSmall (n k:Nat):Prop:= ∀ p,p∈smalls.take k→n % p≠0
theorem noSmall_step {n k p:Nat} (h:NoSmall n k) (hp:smalls[k]? =some p) (hd:n % p≠0):NoSmall n (k+1):=by
 intro q hq
 rw [List.take_add_one] at hq
 rcases List.mem_append.1 hq with h1 | h1
 ·exact h q h1
 ·rw [hp] at h1;simp at h1;subst h1;exact hd
theorem mPrime_small {n k p:Nat} (h2: ¬ n<2) (h:NoSmall n k) (hp:smalls[k]? =some p) (hd:n % p=0):mPrime n=(n==p):=by
 have hf:smalls.find? (fun p=>n % p==0)=some p:=by
  have hk:k<smalls.length:=(List.getElem?_eq_some_iff.1 hp).1
  have e:smalls=smalls.take k++p::smalls.drop (k+1):=by
   have hpk:smalls[k]=p:=(List.getElem?_eq_some_iff.1 hp).2
   rw [←hpk,List.getElem_cons_drop,List.take_append_drop]
  rw [e,List.find?_append,List.find?_eq_none.2 (by intro q hq;simpa using h q hq)]
  simp [hd]
 unfold mPrime
 rw [if_neg h2,hf]
theorem mPrime_none {n:Nat} (h2: ¬ n<2) (h:NoSmall n 7):mPrime n=(SP 2 n && (SP 7 n && SP 61 n)):=by
 have hf:smalls.find? (fun p=>n % p==0)=none:=List.find?_eq_none.2 (by intro q hq;simpa using h q (by simpa [smalls] using hq))
 unfold mPrime
 rw [if_neg h2,hf]
set_option maxHeartbeats 1000000 in
theorem mPrime_any (n:Nat) (w:World) (hn2:n<4294967296):
  Calls Tryz.prog 139 #[.int .u32 n] w fun r w'=>r= .returned (.bool (mPrime n))∧Below w.heap.size w w':=by
 by_cases h2:n<2
 ·go_enter Tryz.func139,Tryz.ntmps139
  go_wp2_with fail
  go_ret
  exact ⟨ret_bool (by unfold mPrime;rw [if_pos h2]),Below.refl _ _⟩
 ·go_enter Tryz.func139,Tryz.ntmps139
  go_wp2_with fail
  go_loop [4,10] (fun _ vk=> ∃ k:Nat,vk= .int .i64 k∧k≤7∧Hid (NoSmall n k)) (fun _ vk=>7 - (intOf vk).toNat)
  case atStart=>exact ⟨0,rfl,by omega,by intro p hp;simp at hp⟩
  case round=>
   obtain ⟨k,rfl,hk,hno⟩:=hrel
   rcases (show k=0∨k=1∨k=2∨k=3∨k=4∨k=5∨k=6∨k=7 by omega) with rfl | rfl | rfl | rfl | rfl | rfl | rfl | rfl
   ·have hix:=seven0
    by_cases hd:n % 2=0
    ·have hM:=Lib.hid (mPrime_small h2 hno.out (show smalls[0]? =some 2 from rfl) hd)
     have hb:((n:Int) % 2==0)=true:=beq_iff_eq.2 (by omega)
     by_cases he:n=2
     ·have hq:((n:Int)==2)=true:=beq_iff_eq.2 (by omega)
      have HE:=Lib.hid he
      clear he hd
      go_wp2_with fail
      go_ret
      exact ⟨ret_bool (by rw [hM.out,HE.out];rfl),Below.refl _ _⟩
     ·have hq:((n:Int)==2)=false:=beq_eq_false_iff_ne.2 (by omega)
      clear hd
      go_wp2_with fail
      go_ret
      exact ⟨ret_bool (by rw [hM.out,beq_eq_false_iff_ne.2 he]),Below.refl _ _⟩
    ·have hb:((n:Int) % 2==0)=false:=beq_eq_false_iff_ne.2 (by omega)
     have hN:=Lib.hid (noSmall_step hno.out (show smalls[0]? =some 2 from rfl) hd)
     go_wp2_with fail
     go_round
     case rel=>exact ⟨1,rfl,by omega,hN⟩
     case measure=>simp [intOf]
   ·have hix:=seven1
    by_cases hd:n % 3=0
    ·have hM:=Lib.hid (mPrime_small h2 hno.out (show smalls[1]? =some 3 from rfl) hd)
     have hb:((n:Int) % 3==0)=true:=beq_iff_eq.2 (by omega)
     by_cases he:n=3
     ·have hq:((n:Int)==3)=true:=beq_iff_eq.2 (by omega)
      have HE:=Lib.hid he
      clear he hd
      go_wp2_with fail
      go_ret
      exact ⟨ret_bool (by rw [hM.out,HE.out];rfl),Below.refl _ _⟩
     ·have hq:((n:Int)==3)=false:=beq_eq_false_iff_ne.2 (by omega)
      clear hd
      go_wp2_with fail
      go_ret
      exact ⟨ret_bool (by rw [hM.out,beq_eq_false_iff_ne.2 he]),Below.refl _ _⟩
    ·have hb:((n:Int) % 3==0)=false:=beq_eq_false_iff_ne.2 (by omega)
     have hN:=Lib.hid (noSmall_step hno.out (show smalls[1]? =some 3 from rfl) hd)
     go_wp2_with fail
     go_round
     case rel=>exact ⟨2,rfl,by omega,hN⟩
     case measure=>simp [intOf]
   ·have hix:=seven2
    by_cases hd:n % 5=0
    ·have hM:=Lib.hid (mPrime_small h2 hno.out (show smalls[2]? =some 5 from rfl) hd)
     have hb:((n:Int) % 5==0)=true:=beq_iff_eq.2 (by omega)
     by_cases he:n=5
     ·have hq:((n:Int)==5)=true:=beq_iff_eq.2 (by omega)
      have HE:=Lib.hid he
      clear he hd
      go_wp2_with fail
      go_ret
      exact ⟨ret_bool (by rw [hM.out,HE.out];rfl),Below.refl _ _⟩
     ·have hq:((n:Int)==5)=false:=beq_eq_false_iff_ne.2 (by omega)
      clear hd
      go_wp2_with fail
      go_ret
      exact ⟨ret_bool (by rw [hM.out,beq_eq_false_iff_ne.2 he]),Below.refl _ _⟩
    ·have hb:((n:Int) % 5==0)=false:=beq_eq_false_iff_ne.2 (by omega)
     have hN:=Lib.hid (noSmall_step hno.out (show smalls[2]? =some 5 from rfl) hd)
     go_wp2_with fail
     go_round
     case rel=>exact ⟨3,rfl,by omega,hN⟩
     case measure=>simp [intOf]
   ·have hix:=seven3
    by_cases hd:n % 7=0
    ·have hM:=Lib.hid (mPrime_small h2 hno.out (show smalls[3]? =some 7 from rfl) hd)
     have hb:((n:Int) % 7==0)=true:=beq_iff_eq.2 (by omega)
     by_cases he:n=7
     ·have hq:((n:Int)==7)=true:=beq_iff_eq.2 (by omega)
      have HE:=Lib.hid he
      clear he hd
      go_wp2_with fail
      go_ret
      exact ⟨ret_bool (by rw [hM.out,HE.out];rfl),Below.refl _ _⟩
     ·have hq:((n:Int)==7)=false:=beq_eq_false_iff_ne.2 (by omega)
      clear hd
      go_wp2_with fail
      go_ret
      exact ⟨ret_bool (by rw [hM.out,beq_eq_false_iff_ne.2 he]),Below.refl _ _⟩
    ·have hb:((n:Int) % 7==0)=false:=beq_eq_false_iff_ne.2 (by omega)
     have hN:=Lib.hid (noSmall_step hno.out (show smalls[3]? =some 7 from rfl) hd)
     go_wp2_with fail
     go_round
     case rel=>exact ⟨4,rfl,by omega,hN⟩
     case measure=>simp [intOf]
   ·have hix:=seven4
    by_cases hd:n % 11=0
    ·have hM:=Lib.hid (mPrime_small h2 hno.out (show smalls[4]? =some 11 from rfl) hd)
     have hb:((n:Int) % 11==0)=true:=beq_iff_eq.2 (by omega)
     by_cases he:n=11
     ·have hq:((n:Int)==11)=true:=beq_iff_eq.2 (by omega)
      have HE:=Lib.hid he
      clear he hd
      go_wp2_with fail
      go_ret
      exact ⟨ret_bool (by rw [hM.out,HE.out];rfl),Below.refl _ _⟩
     ·have hq:((n:Int)==11)=false:=beq_eq_false_iff_ne.2 (by omega)
      clear hd
      go_wp2_with fail
      go_ret
      exact ⟨ret_bool (by rw [hM.out,beq_eq_false_iff_ne.2 he]),Below.refl _ _⟩
    ·have hb:((n:Int) % 11==0)=false:=beq_eq_false_iff_ne.2 (by omega)
     have hN:=Lib.hid (noSmall_step hno.out (show smalls[4]? =some 11 from rfl) hd)
     go_wp2_with fail
     go_round
     case rel=>exact ⟨5,rfl,by omega,hN⟩
     case measure=>simp [intOf]
   ·have hix:=seven5
    by_cases hd:n % 13=0
    ·have hM:=Lib.hid (mPrime_small h2 hno.out (show smalls[5]? =some 13 from rfl) hd)
     have hb:((n:Int) % 13==0)=true:=beq_iff_eq.2 (by omega)
     by_cases he:n=13
     ·have hq:((n:Int)==13)=true:=beq_iff_eq.2 (by omega)
      have HE:=Lib.hid he
      clear he hd
      go_wp2_with fail
      go_ret
      exact ⟨ret_bool (by rw [hM.out,HE.out];rfl),Below.refl _ _⟩
     ·have hq:((n:Int)==13)=false:=beq_eq_false_iff_ne.2 (by omega)
      clear hd
      go_wp2_with fail
      go_ret
      exact ⟨ret_bool (by rw [hM.out,beq_eq_false_iff_ne.2 he]),Below.refl _ _⟩
    ·have hb:((n:Int) % 13==0)=false:=beq_eq_false_iff_ne.2 (by omega)
     have hN:=Lib.hid (noSmall_step hno.out (show smalls[5]? =some 13 from rfl) hd)
     go_wp2_with fail
     go_round
     case rel=>exact ⟨6,rfl,by omega,hN⟩
     case measure=>simp [intOf]
   ·have hix:=seven6
    by_cases hd:n % 61=0
    ·have hM:=Lib.hid (mPrime_small h2 hno.out (show smalls[6]? =some 61 from rfl) hd)
     have hb:((n:Int) % 61==0)=true:=beq_iff_eq.2 (by omega)
     by_cases he:n=61
     ·have hq:((n:Int)==61)=true:=beq_iff_eq.2 (by omega)
      have HE:=Lib.hid he
      clear he hd
      go_wp2_with fail
      go_ret
      exact ⟨ret_bool (by rw [hM.out,HE.out];rfl),Below.refl _ _⟩
     ·have hq:((n:Int)==61)=false:=beq_eq_false_iff_ne.2 (by omega)
      clear hd
      go_wp2_with fail
      go_ret
      exact ⟨ret_bool (by rw [hM.out,beq_eq_false_iff_ne.2 he]),Below.refl _ _⟩
    ·have hb:((n:Int) % 61==0)=false:=beq_eq_false_iff_ne.2 (by omega)
     have hN:=Lib.hid (noSmall_step hno.out (show smalls[6]? =some 61 from rfl) hd)
     go_wp2_with fail
     go_round
     case rel=>exact ⟨7,rfl,by omega,hN⟩
     case measure=>simp [intOf]
   ·have hodd:n % 2=1:=by have:=hno.out 2 (by simp [smalls]);omega
    have hM:=Lib.hid (mPrime_none h2 hno.out)
    go_wp2_with fail
    go_loopw [6,22] (fun _ vk wr=> ∃ k:Nat,vk= .int .i64 k∧k≤3∧Hid (∀ p,p∈[2,7,61].take k→SP p n=true)∧Below w.heap.size w wr) (fun _ vk _=>3 - (intOf vk).toNat)
    case atStart=>exact ⟨0,rfl,by omega,by intro p hp;simp at hp,Below.refl _ _⟩
    case round=>
     obtain ⟨k,rfl,hk,hall,hbel⟩:=hrel
     have hbs:=hbel.size
     rcases (show k=0∨k=1∨k=2∨k=3 by omega) with rfl | rfl | rfl | rfl
     ·have hix:=three0
      by_cases hs:SP 2 n=true
      ·have HA:Hid (∀ p,p∈[2,7,61].take 1→SP p n=true):=by
        intro p hp;rw [List.take_add_one] at hp
        rcases List.mem_append.1 hp with h1 | h1
        ·exact hall.out p h1
        ·simp at h1;subst h1;exact hs
       go_wp2_with (go_at_call 205;refine (mpasses_int _ _ _ (by omega) (by omega) (by omega) (by omega) (by omega)).mono ?_;rintro e w1 ⟨rfl,hb1⟩)
       go_roundw
       case rel=>exact ⟨1,rfl,by omega,HA,hbel.trans (hb1.mono hbs)⟩
       case measure=>simp [intOf]
      ·have hs':SP 2 n=false:=by simpa using hs
       clear hs
       have HR:Hid (mPrime n=false):=by show _=_;rw [hM.out,hs'];simp
       go_wp2_with (go_at_call 205;refine (mpasses_int _ _ _ (by omega) (by omega) (by omega) (by omega) (by omega)).mono ?_;rintro e w1 ⟨rfl,hb1⟩)
       go_ret
       exact ⟨ret_bool (by rw [HR.out]),hbel.trans (hb1.mono hbs)⟩
     ·have hix:=three1
      by_cases hs:SP 7 n=true
      ·have HA:Hid (∀ p,p∈[2,7,61].take 2→SP p n=true):=by
        intro p hp;rw [List.take_add_one] at hp
        rcases List.mem_append.1 hp with h1 | h1
        ·exact hall.out p h1
        ·simp at h1;subst h1;exact hs
       go_wp2_with (go_at_call 205;refine (mpasses_int _ _ _ (by omega) (by omega) (by omega) (by omega) (by omega)).mono ?_;rintro e w1 ⟨rfl,hb1⟩)
       go_roundw
       case rel=>exact ⟨2,rfl,by omega,HA,hbel.trans (hb1.mono hbs)⟩
       case measure=>simp [intOf]
      ·have hs':SP 7 n=false:=by simpa using hs
       clear hs
       have HR:Hid (mPrime n=false):=by show _=_;rw [hM.out,hs'];simp
       go_wp2_with (go_at_call 205;refine (mpasses_int _ _ _ (by omega) (by omega) (by omega) (by omega) (by omega)).mono ?_;rintro e w1 ⟨rfl,hb1⟩)
       go_ret
       exact ⟨ret_bool (by rw [HR.out]),hbel.trans (hb1.mono hbs)⟩
     ·have hix:=three2
      by_cases hs:SP 61 n=true
      ·have HA:Hid (∀ p,p∈[2,7,61].take 3→SP p n=true):=by
        intro p hp;rw [List.take_add_one] at hp
        rcases List.mem_append.1 hp with h1 | h1
        ·exact hall.out p h1
        ·simp at h1;subst h1;exact hs
       go_wp2_with (go_at_call 205;refine (mpasses_int _ _ _ (by omega) (by omega) (by omega) (by omega) (by omega)).mono ?_;rintro e w1 ⟨rfl,hb1⟩)
       go_roundw
       case rel=>exact ⟨3,rfl,by omega,HA,hbel.trans (hb1.mono hbs)⟩
       case measure=>simp [intOf]
      ·have hs':SP 61 n=false:=by simpa using hs
       clear hs
       have HR:Hid (mPrime n=false):=by show _=_;rw [hM.out,hs'];simp
       go_wp2_with (go_at_call 205;refine (mpasses_int _ _ _ (by omega) (by omega) (by omega) (by omega) (by omega)).mono ?_;rintro e w1 ⟨rfl,hb1⟩)
       go_ret
       exact ⟨ret_bool (by rw [HR.out]),hbel.trans (hb1.mono hbs)⟩
     ·have HR:Hid (mPrime n=true):=by show _=_;rw [hM.out,hall.out 2 (by simp),hall.out 7 (by simp),hall.out 61 (by simp)];rfl
      go_wp2_with fail
      go_ret
      exact ⟨ret_bool (by rw [HR.out]),hbel⟩
end Go.Proofs.YtljfgdlgmdcmfaaGreat
namespace Go.Proofs.YtljfgdlgmdcmfaaGreat
open Go.RowKit
theorem dim_bits: ∀ k:Nat,k<29→(bits BinOp.and IntKind.i64 ((k:Int)+4) ((k:Int)+3)==0)=isDim ((k:Int)+4):=by decide
set_option maxHeartbeats 400000 in
theorem pdim_any (n:Int) (w:World) (_h0: -9223372036854775808≤n) (_h1:n≤9223372036854775807):
  Calls Tryz.prog 137 #[.int .i64 n] w fun r w'=>r= .returned (.bool (isDim n))∧w=w':=by
 by_cases h4:4≤n
 ·by_cases h32:n≤32
  ·have hk:=dim_bits (n - 4).toNat (by omega)
   have e1:(((n - 4).toNat:Nat):Int)=n - 4:=by omega
   rw [e1,show n - 4+4=n by omega,show n - 4+3=n - 1 by omega] at hk
   have d4:decide (4≤n)=true:=decide_eq_true h4
   have d32:decide (n≤32)=true:=decide_eq_true h32
   go_enter Tryz.func137,Tryz.ntmps137
   go_wp2_with fail
   go_ret
   exact ⟨ret_bool (by first | rfl | exact hk),rfl⟩
  ·have hR:Hid (isDim n=false):=by
    show _=_
    unfold isDim
    simp only [Bool.or_eq_false_iff,beq_eq_false_iff_ne];omega
   have d4:decide (4≤n)=true:=decide_eq_true h4
   have d32:decide (n≤32)=false:=decide_eq_false h32
   go_enter Tryz.func137,Tryz.ntmps137
   go_wp2_with fail
   go_ret
   exact ⟨ret_bool (by rw [hR.out]),rfl⟩
 ·have hR:Hid (isDim n=false):=by
   show _=_
   unfold isDim
   simp only [Bool.or_eq_false_iff,beq_eq_false_iff_ne];omega
  have d4:decide (4≤n)=false:=decide_eq_false h4
  go_enter Tryz.func137,Tryz.ntmps137
  go_wp2_with fail
  go_ret
  exact ⟨ret_bool (by rw [hR.out]),rfl⟩
set_option maxHeartbeats 1000000 in
theorem ppower_any (n:Int) (p:Nat) (e:Int) (w:World) (hn4:4≤n) (hn:n≤32) (hp:p<4294967296) (he0: -9223372036854775808≤e) (he1:e≤9223372036854775807):
  Calls Tryz.prog 101 #[.int .i64 n, .int .u32 p, .int .i64 e] w fun r w'=>r= .returned (.int .i64 (powv mPrime n p e:Nat))∧Below w.heap.size w w':=by
 by_cases c1:p<3
 case pos=>
  have d1:decide ((p:Int)<3)=true:=decide_eq_true (by omega)
  have hR:Hid (powv mPrime n p e=0):=powv_no (by omega)
  go_enter Tryz.func101,Tryz.ntmps101
  go_wp2_with fail
  go_ret
  exact ⟨ret_int (by rw [hR.out];rfl),Below.refl _ _⟩
 have d1:decide ((p:Int)<3)=false:=decide_eq_false (by omega)
 by_cases c2:p<65536
 case neg=>
  have d2:decide ((65536:Int)≤p)=true:=decide_eq_true (by omega)
  have hR:Hid (powv mPrime n p e=0):=powv_no (by omega)
  go_enter Tryz.func101,Tryz.ntmps101
  go_wp2_with fail
  go_ret
  exact ⟨ret_int (by rw [hR.out];rfl),Below.refl _ _⟩
 have d2:decide ((65536:Int)≤p)=false:=decide_eq_false (by omega)
 cases c3:mPrime p with
 | false=>
  have hR:Hid (powv mPrime n p e=0):=powv_no (by rw [c3];simp)
  go_enter Tryz.func101,Tryz.ntmps101
  go_wp2_with (go_at_call 139;refine (mPrime_any _ _ (by omega)).mono ?_;rintro e w1 ⟨rfl,hb1⟩)
  go_ret
  exact ⟨ret_int (by rw [hR.out];rfl),hb1⟩
 | true=>
 by_cases c4:(p:Int) % (2*n)=1
 case neg=>
  have d4:((p:Int) % (2*n) !=1)=true:=by simpa using c4
  have hR:Hid (powv mPrime n p e=0):=powv_no (by
   intro hc;apply c4;have h:=hc.2.2.2.1
   have:((p % (2*n).toNat:Nat):Int)=1:=by rw [h];rfl
   rw [Int.natCast_emod,Int.toNat_of_nonneg (by omega)] at this;exact this)
  clear c4
  go_enter Tryz.func101,Tryz.ntmps101
  go_wp2_with (go_at_call 139;refine (mPrime_any _ _ (by omega)).mono ?_;rintro e w1 ⟨rfl,hb1⟩)
  go_ret
  exact ⟨ret_int (by rw [hR.out];rfl),hb1⟩
 have d4:((p:Int) % (2*n) !=1)=false:=by simpa using c4
 have c4':p % (2*n).toNat=1:=by
  have:((p % (2*n).toNat:Nat):Int)=1:=by rw [Int.natCast_emod,Int.toNat_of_nonneg (by omega)];exact c4
  omega
 by_cases c5:1≤e
 case neg=>
  have d5:decide (e<1)=true:=decide_eq_true (by omega)
  have hR:Hid (powv mPrime n p e=0):=powv_no (by omega)
  clear c4 c4'
  go_enter Tryz.func101,Tryz.ntmps101
  go_wp2_with (go_at_call 139;refine (mPrime_any _ _ (by omega)).mono ?_;rintro e w1 ⟨rfl,hb1⟩)
  go_ret
  exact ⟨ret_int (by rw [hR.out];rfl),hb1⟩
 have d5:decide (e<1)=false:=decide_eq_false (by omega)
 have hall:=Lib.hid (show 3≤p∧p<65536∧mPrime p=true∧p % (2*n).toNat=1∧1≤e from ⟨by omega,c2,c3,c4',c5⟩)
 clear c4 c4'
 go_enter Tryz.func101,Tryz.ntmps101
 go_wp2_with (go_at_call 139;refine (mPrime_any _ _ (by omega)).mono ?_;rintro e w1 ⟨rfl,hb1⟩)
 go_loop [7,32] (fun vt vk=> ∃ k t:Nat,vt= .int .i64 t∧vk= .int .i64 k∧(k:Int)≤e∧t≤2147483647∧Hid (p ^ k=t)) (fun _ vk=>(e - intOf vk).toNat)
 case atStart=>exact ⟨0,1,rfl,rfl,by omega,by omega,rfl⟩
 case round=>
  obtain ⟨k,t,rfl,rfl,hk,ht,hI⟩:=hrel
  have hm0:(0:Int)≤(t:Int)*(p:Int):=Int.mul_nonneg (by omega) (by omega)
  have hm1:(t:Int)*(p:Int)≤2147483647*65536:=Int.mul_le_mul (by omega) (by omega) (by omega) (by omega)
  have hstep:=Lib.hid (show p ^ (k+1)=t*p by rw [Nat.pow_succ,hI.out])
  by_cases hlt:(k:Int)<e
  ·by_cases hbig:2147483647<t*p
   ·have hb:(2147483647:Int)<(t:Int)*(p:Int):=by have:=Int.ofNat_lt.2 hbig;rw [Int.natCast_mul] at this;exact this
    have hR:Hid (powv mPrime n p e=0):=powv_big (k:=k+1) (by omega) (by omega) (by rw [hstep.out];exact hbig)
    clear hbig
    go_wp2_with fail
    go_ret
    exact ⟨ret_int (by rw [hR.out];rfl),hb1⟩
   ·have hb: ¬ (2147483647:Int)<(t:Int)*(p:Int):=by intro hc;apply hbig;rw [←Int.natCast_mul] at hc;exact Int.ofNat_lt.1 hc
    have hbig':=Lib.hid hbig
    clear hbig
    go_wp2_with fail
    go_round
    case rel=>exact ⟨k+1,t*p,by rw [Int.natCast_mul],by go_num,by omega,by have:=hbig'.out;omega,hstep.out⟩
    case measure=>simp [intOf];omega
  ·have hR:Hid (powv mPrime n p e=t):=by
    show _=_;rw [powv_yes hall.out (k:=k) (by omega) (by rw [hI.out];exact ht),hI.out]
   go_wp2_with fail
   go_ret
   exact ⟨ret_int (by rw [hR.out]),hb1⟩
end Go.Proofs.YtljfgdlgmdcmfaaGreat
namespace Go.Proofs.YtljfgdlgmdcmfaaGreat
open Go.RowKit
set_option maxHeartbeats 1000000 in
theorem pgood_any (q s:Nat) (a:Addr) (w:World) (hq:q<4294967296) (hs0:0<s) (hs1:s≤137438953408) (ha:w.cell? a=some (.int .i64 s)):
  Calls Tryz.prog 138 #[.int .u32 q, .pointer (some a)] w fun r w'=>r= .returned (.bool (goodS mPrime s q))∧Below w.heap.size w w':=by
 by_cases c1:1073741824<q
 case neg=>
  have d1:decide ((1073741824:Int)<q)=false:=decide_eq_false (by omega)
  have hR:Hid (goodS mPrime s q=false):=by show _=_;unfold goodS;rw [decide_eq_false c1];rfl
  go_enter Tryz.func138,Tryz.ntmps138
  go_wp2_with fail
  go_ret
  exact ⟨ret_bool (by rw [hR.out]),Below.refl _ _⟩
 have d1:decide ((1073741824:Int)<q)=true:=decide_eq_true (by omega)
 by_cases c2:q≤2147483647
 case neg=>
  have d2:decide ((q:Int)≤2147483647)=false:=decide_eq_false (by omega)
  have hR:Hid (goodS mPrime s q=false):=by show _=_;unfold goodS;rw [decide_eq_true c1,decide_eq_false c2];rfl
  go_enter Tryz.func138,Tryz.ntmps138
  go_wp2_with fail
  go_ret
  exact ⟨ret_bool (by rw [hR.out]),Below.refl _ _⟩
 have d2:decide ((q:Int)≤2147483647)=true:=decide_eq_true (by omega)
 by_cases c3:q % s=1
 case neg=>
  have d3:((q:Int) % (s:Int)==1)=false:=by
   apply beq_eq_false_iff_ne.2;intro hc;apply c3
   have:((q % s:Nat):Int)=1:=by rw [Int.natCast_emod];exact hc
   omega
  have hR:Hid (goodS mPrime s q=false):=by show _=_;unfold goodS;rw [decide_eq_false c3];simp
  clear c3
  go_enter Tryz.func138,Tryz.ntmps138
  go_wp2_with (fail)
  go_ret
  exact ⟨ret_bool (by rw [hR.out]),Below.refl _ _⟩
 have d3:((q:Int) % (s:Int)==1)=true:=by
  apply beq_iff_eq.2
  rw [←Int.natCast_emod,c3];rfl
 have H3:=Lib.hid c3
 clear c3
 cases c4:mPrime q with
 | false=>
  have hR:Hid (goodS mPrime s q=false):=by show _=_;unfold goodS;rw [c4];simp
  go_enter Tryz.func138,Tryz.ntmps138
  go_wp2_with (go_at_call 139;refine (mPrime_any _ _ (by omega)).mono ?_;rintro e w1 ⟨rfl,hb1⟩)
  go_ret
  exact ⟨ret_bool (by rw [hR.out]),hb1⟩
 | true=>
  have hR:Hid (goodS mPrime s q=true):=by show _=_;unfold goodS;rw [c4,decide_eq_true c1,decide_eq_true c2,decide_eq_true H3.out];rfl
  go_enter Tryz.func138,Tryz.ntmps138
  go_wp2_with (go_at_call 139;refine (mPrime_any _ _ (by omega)).mono ?_;rintro e w1 ⟨rfl,hb1⟩)
  go_ret
  exact ⟨ret_bool (by rw [hR.out]),hb1⟩
end Go.Proofs.YtljfgdlgmdcmfaaGreat
namespace Go.Proofs.YtljfgdlgmdcmfaaGreat
open Go.RowKit
structure BoxP (w:World) (a:Nat) (x:Par) (cv:Value):Prop where
 n:w.cell? ⟨a,0,none⟩=some (.int .i64 x.n)
 p:w.cell? ⟨a,1,none⟩=some (.int .u32 x.p)
 r:w.cell? ⟨a,2,none⟩=some (.int .i64 x.r)
 ch:w.cell? ⟨a,3,none⟩=some cv
 sp:w.cell? ⟨a,4,none⟩=some (.int .u32 x.sp)
 wt:w.cell? ⟨a,5,none⟩=some (.int .i64 x.wt)
 er:w.cell? ⟨a,6,none⟩=some (.int .u32 x.er)
theorem BoxP.below {w w':World} {a B:Nat} {x:Par} {cv:Value} (h:BoxP w a x cv) (hb:Below B w w') (ha:a<B):BoxP w' a x cv:=by
 refine ⟨?_,?_,?_,?_,?_,?_,?_⟩<;>rw [hb.cell (p:=⟨a,_,none⟩) ha]
 ·exact h.n
 ·exact h.p
 ·exact h.r
 ·exact h.ch
 ·exact h.sp
 ·exact h.wt
 ·exact h.er
structure RowAt (w:World) (b off:Nat) (l:List Nat):Prop where
 blk:b<w.heap.size
 cell: ∀ i (h:i<l.length),w.cell? ⟨b,off+i,none⟩=some (.int .u32 (l[i]:Nat))
 rng: ∀ q,q∈l→q<4294967296
theorem RowAt.below {w w':World} {b off B:Nat} {l:List Nat} (h:RowAt w b off l) (hb:Below B w w') (ha:b<B):RowAt w' b off l:=
 ⟨Nat.lt_of_lt_of_le h.blk hb.size,fun i hi=>by rw [hb.cell (p:=⟨b,_,none⟩) ha];exact h.cell i hi,h.rng⟩
set_option maxHeartbeats 400000 in
theorem pc2_any (t:Nat) (a:Addr) (w:World) (ha:w.cell? a=some (.int .i64 t)):
  Calls Tryz.prog 140 #[.pointer (some a)] w fun r w'=>r= .returned (.bool (decide (0<t)))∧w=w':=by
 have hR:Hid (decide (0<t)=decide ((0:Int)<t)):=by show _=_;by_cases h:0<t<;>simp [h]
 go_enter Tryz.func140,Tryz.ntmps140
 go_wp2_with fail
 go_ret
 exact ⟨ret_bool (by rw [hR.out]),rfl⟩
set_option maxHeartbeats 400000 in
theorem pc3_any (a:Nat) (p:Option Addr) (n cap:Nat) (w:World) (ha:w.cell? ⟨a,3,none⟩=some (.slice p n cap)):
  Calls Tryz.prog 141 #[.pointer (some ⟨a,0,none⟩)] w fun r w'=>r= .returned (.bool (lenB n))∧w=w':=by
 by_cases h1:1≤n
 ·have d1:decide (1≤(n:Int))=true:=decide_eq_true (by omega)
  by_cases h2:n≤24
  ·have d2:decide ((n:Int)≤24)=true:=decide_eq_true (by omega)
   go_enter Tryz.func141,Tryz.ntmps141
   go_wp2_with fail
   go_ret
   exact ⟨ret_bool (by unfold lenB;rw [decide_eq_true (show 1≤n∧n≤24 from ⟨h1,h2⟩)]),rfl⟩
  ·have d2:decide ((n:Int)≤24)=false:=decide_eq_false (by omega)
   go_enter Tryz.func141,Tryz.ntmps141
   go_wp2_with fail
   go_ret
   exact ⟨ret_bool (by unfold lenB;rw [decide_eq_false (show ¬ (1≤n∧n≤24) by omega)]),rfl⟩
 ·have d1:decide (1≤(n:Int))=false:=decide_eq_false (by omega)
  go_enter Tryz.func141,Tryz.ntmps141
  go_wp2_with fail
  go_ret
  exact ⟨ret_bool (by unfold lenB;rw [decide_eq_false (show ¬ (1≤n∧n≤24) by omega)]),rfl⟩
set_option maxHeartbeats 400000 in
theorem pc4_any (a:Nat) (x:Par) (cv:Value) (w:World) (hB:BoxP w a x cv):
  Calls Tryz.prog 142 #[.pointer (some ⟨a,0,none⟩)] w fun r w'=>r= .returned (.bool (wtB x))∧w=w':=by
 have l5:=hB.wt
 have l0:=hB.n
 have l6:=hB.er
 clear hB
 by_cases h1:1≤x.wt
 ·have d1:decide (1≤x.wt)=true:=decide_eq_true h1
  by_cases h2:x.wt≤x.n
  ·have d2:decide (x.wt≤x.n)=true:=decide_eq_true h2
   by_cases h3:x.er≤64
   ·have d3:decide ((x.er:Int)≤64)=true:=decide_eq_true (by omega)
    have hR:Hid (wtB x=true):=decide_eq_true ⟨h1,h2,h3⟩
    go_enter Tryz.func142,Tryz.ntmps142
    go_wp2_with fail
    go_ret
    exact ⟨ret_bool (by rw [hR.out]),rfl⟩
   ·have d3:decide ((x.er:Int)≤64)=false:=decide_eq_false (by omega)
    have hR:Hid (wtB x=false):=decide_eq_false (fun h=>h3 h.2.2)
    go_enter Tryz.func142,Tryz.ntmps142
    go_wp2_with fail
    go_ret
    exact ⟨ret_bool (by rw [hR.out]),rfl⟩
  ·have d2:decide (x.wt≤x.n)=false:=decide_eq_false h2
   have hR:Hid (wtB x=false):=decide_eq_false (fun h=>h2 h.2.1)
   go_enter Tryz.func142,Tryz.ntmps142
   go_wp2_with fail
   go_ret
   exact ⟨ret_bool (by rw [hR.out]),rfl⟩
 ·have d1:decide (1≤x.wt)=false:=decide_eq_false h1
  have hR:Hid (wtB x=false):=decide_eq_false (fun h=>h1 h.1)
  go_enter Tryz.func142,Tryz.ntmps142
  go_wp2_with fail
  go_ret
  exact ⟨ret_bool (by rw [hR.out]),rfl⟩
set_option maxHeartbeats 400000 in
theorem pc5_any (a f c:Nat) (s:Nat) (x:Par) (cv:Value) (w:World) (hB:BoxP w a x cv) (hx:x.sp<4294967296) (hs0:0<s) (hs1:s≤137438953408)
  (hf:w.cell? ⟨f,0,none⟩=some (.func (.func 138) #[] #[.pointer (some ⟨c,0,none⟩)])) (hc:w.cell? ⟨c,0,none⟩=some (.int .i64 s)):
  Calls Tryz.prog 143 #[.pointer (some ⟨f,0,none⟩), .pointer (some ⟨a,0,none⟩)] w fun r w'=>r= .returned (.bool (goodS mPrime s x.sp))∧Below w.heap.size w w':=by
 have l4:=hB.sp
 clear hB
 go_enter Tryz.func143,Tryz.ntmps143
 go_wp2_with (go_at_call 138;refine (pgood_any _ _ _ _ hx hs0 hs1 hc).mono ?_;rintro e w1 ⟨rfl,hb1⟩)
 go_ret
 exact ⟨rfl,hb1⟩
set_option maxHeartbeats 400000 in
theorem pc61_any (q a f c:Nat) (s:Nat) (x:Par) (cv:Value) (w:World) (hB:BoxP w a x cv) (hq:q<4294967296) (hs0:0<s) (hs1:s≤137438953408)
  (hf:w.cell? ⟨f,0,none⟩=some (.func (.func 138) #[] #[.pointer (some ⟨c,0,none⟩)])) (hc:w.cell? ⟨c,0,none⟩=some (.int .i64 s)):
  Calls Tryz.prog 146 #[.int .u32 q, .pointer (some ⟨a,0,none⟩), .pointer (some ⟨f,0,none⟩)] w fun r w'=>r= .returned (.bool (badB mPrime s x.sp q))∧Below w.heap.size w w':=by
 have l4:=hB.sp
 clear hB
 by_cases h1:q<x.sp
 ·have d1:decide (x.sp≤q)=false:=decide_eq_false (by omega)
  have hR:Hid (badB mPrime s x.sp q=!(goodS mPrime s q)):=by show _=_;unfold badB;rw [decide_eq_true h1];rfl
  go_enter Tryz.func146,Tryz.ntmps146
  go_wp2_with (go_at_call 138;refine (pgood_any _ _ _ _ hq hs0 hs1 hc).mono ?_;rintro e w1 ⟨rfl,hb1⟩)
  go_ret
  exact ⟨ret_bool (by rw [hR.out]),hb1⟩
 ·have d1:decide (x.sp≤q)=true:=decide_eq_true (by omega)
  have hR:Hid (badB mPrime s x.sp q=true):=by show _=_;unfold badB;rw [decide_eq_false h1];rfl
  go_enter Tryz.func146,Tryz.ntmps146
  go_wp2_with fail
  go_ret
  exact ⟨ret_bool (by rw [hR.out]),Below.refl _ _⟩
def idxOf (p:Nat→Bool) (l:List Nat):Int:=if l.any p then (l.findIdx p:Int) else -1
theorem idxOf_hit {p:Nat→Bool} {l:List Nat} {k:Nat} (hk:k<l.length) (h0: ∀ j (hj:j<k),p (l[j]'(by omega))=false) (h1:p l[k]=true):idxOf p l=k:=by
 have e:l.findIdx p=k:=(List.findIdx_eq hk).2 ⟨h1,h0⟩
 unfold idxOf
 rw [if_pos (List.any_eq_true.2 ⟨l[k],List.getElem_mem hk,h1⟩),e]
theorem idxOf_miss {p:Nat→Bool} {l:List Nat} (h0: ∀ j (hj:j<l.length),p l[j]=false):idxOf p l= -1:=by
 unfold idxOf
 rw [if_neg]
 intro h
 obtain ⟨x,hx,hpx⟩:=List.any_eq_true.1 h
 obtain ⟨j,hj,rfl⟩:=List.mem_iff_getElem.1 hx
 rw [h0 j hj] at hpx;exact absurd hpx (by simp)
theorem idxOf_nonneg (p:Nat→Bool) (l:List Nat):decide (0≤idxOf p l)=l.any p:=by
 unfold idxOf
 cases h:l.any p with
 | true=>simp
 | false=>simp
set_option maxHeartbeats 1000000 in
theorem pidx_any (b off cap a f c:Nat) (l:List Nat) (s:Nat) (x:Par) (cv:Value) (w:World) (hl:RowAt w b off l) (hlen:l.length≤140737488351232) (hB:BoxP w a x cv) (ha:a<w.heap.size) (hs0:0<s) (hs1:s≤137438953408)
  (hf:w.cell? ⟨f,0,none⟩=some (.func (.func 138) #[] #[.pointer (some ⟨c,0,none⟩)])) (hfw:f<w.heap.size) (hc:w.cell? ⟨c,0,none⟩=some (.int .i64 s)) (hcw:c<w.heap.size):
  Calls Tryz.prog 206 #[.slice (some ⟨b,off,none⟩) l.length cap, .func (.func 146) #[] #[.pointer (some ⟨a,0,none⟩), .pointer (some ⟨f,0,none⟩)]] w fun r w'=>
   r= .returned (.int .i64 (idxOf (badB mPrime s x.sp) l))∧Below w.heap.size w w':=by
 go_enter Tryz.func206,Tryz.ntmps206
 go_wp2_with fail
 go_loopw [5,8] (fun _ vk wr=> ∃ k:Nat,vk= .int .i64 k∧k≤l.length∧Hid (∀ j (hj:j<k) (hj2:j<l.length),badB mPrime s x.sp l[j]=false)∧Below w.heap.size w wr) (fun _ vk _=>l.length - (intOf vk).toNat)
 case atStart=>exact ⟨0,rfl,by omega,by intro j hj;omega,Below.refl _ _⟩
 case round=>
  obtain ⟨k,rfl,hk,hno,hbel⟩:=hrel
  have hsz:=hbel.size
  by_cases hlt:k<l.length
  ·have hq:=hl.rng l[k] (List.getElem_mem hlt)
   have hcell:wr.cell? ⟨b,off+k,none⟩=some (.int .u32 (l[k]:Nat)):=by rw [hbel.cell (p:=⟨b,_,none⟩) hl.blk];exact hl.cell k hlt
   have hB':=Lib.hid (hB.below hbel ha)
   have hf':Hid (wr.cell? ⟨f,0,none⟩=some (.func (.func 138) #[] #[.pointer (some ⟨c,0,none⟩)])):=by show _=_;rw [hbel.cell (p:=⟨f,0,none⟩) hfw];exact hf
   have hc':Hid (wr.cell? ⟨c,0,none⟩=some (.int .i64 s)):=by show _=_;rw [hbel.cell (p:=⟨c,0,none⟩) hcw];exact hc
   cases hv:badB mPrime s x.sp l[k] with
   | true=>
    have hR:Hid (idxOf (badB mPrime s x.sp) l=k):=idxOf_hit hlt (fun j hj=>hno.out j hj (by omega)) hv
    generalize l[k]=q at*
    have hv':=Lib.hid hv
    clear hv
    go_wp2_with (go_at_call 146;refine (pc61_any _ _ _ _ _ _ _ _ hB'.out hq hs0 hs1 hf'.out hc'.out).mono ?_;rintro e w1 ⟨rfl,hb1⟩;rw [hv'.out])
    go_ret
    exact ⟨ret_int (by rw [hR.out]),hbel.trans (hb1.mono hsz)⟩
   | false=>
    have hno':Hid (∀ j (hj:j<k+1) (hj2:j<l.length),badB mPrime s x.sp l[j]=false):=by
     intro j hj hj2
     by_cases e:j=k
     ·subst e;exact hv
     ·exact hno.out j (by omega) hj2
    generalize l[k]=q at*
    have hv':=Lib.hid hv
    clear hv
    go_wp2_with (go_at_call 146;refine (pc61_any _ _ _ _ _ _ _ _ hB'.out hq hs0 hs1 hf'.out hc'.out).mono ?_;rintro e w1 ⟨rfl,hb1⟩;rw [hv'.out])
    go_roundw
    case rel=>exact ⟨k+1,by go_num,by omega,hno',hbel.trans (hb1.mono hsz)⟩
    case measure=>simp [intOf];omega
  ·have hR:Hid (idxOf (badB mPrime s x.sp) l= -1):=idxOf_miss (fun j hj=>hno.out j (by omega) hj)
   go_wp2_with fail
   go_ret
   exact ⟨ret_int (by rw [hR.out]),hbel⟩
end Go.Proofs.YtljfgdlgmdcmfaaGreat
