/- Parts of a proof. -/
import Derived.Test.YtljfgdlgmdcmfaaGreatQvg
import Derived.Test.YtljfgdlgmdcmfaaGreatQvf
import Derived.ProofKit
import Derived.SizedLaws
import Derived.Deep.Fields
import Derived.Test.YtljfgdlgmdcmfaaGreatQvd
import Derived.TacticsIn
import Derived.OrdersIn
import Derived.RangeFuncCalls
import Derived.Lib.Hide
import Derived.RangeFuncBound
import Derived.RangeFuncLeaves
import Derived.Shelf.Abstract
import Derived.Shelf.RegionOpen
import Derived.OwnWalkIn
import Derived.TacticsInMore
import Derived.LoopNIn
import Derived.LoopIn
import Derived.WalkMore
set_option linter.unusedVariables false
set_option linter.unusedSimpArgs false
set_option maxHeartbeats 1600000
set_option maxRecDepth 100000
namespace Go.Proofs.YtljfgdlgmdcmfaaGreat
section
open Go.RowKit Wv
def fC (f:Nat→Int→Int) (l:Int):Nat→Int
 | 0=>l
 | i+1=>if fC f l i<0 then fC f l i else f i (fC f l i)
theorem yD        {f : Nat → Int → Int} {l : Int} {i : Nat} (h : fC   f l i < 0) : ∀ {n : Nat}, i ≤ n → fC   f l n = fC   f l i
  | 0, q => by have : i = 0 := by omega
               subst this; rfl
  | n + 1, q => by
    by_cases e : i = n + 1
    · subst e; rfl
    · have ih := yD        h (n := n) (by omega)
      show (if fC   f l n < 0 then fC   f l n else f n (fC   f l n)) = _;rw [ih, if_pos h]
def dG:Ex→Int→Int
 | .nil,l=>l
 | .mk k s n nl li na ar,l=>fC (fun i x=>dG (ar i) x) (l - 1 - nl - s.size) na
theorem wO (k:Int) (s:ByteArray) (n:Int) (nl:Nat) (li:Nat→Int) (na:Nat) (ar:Nat→Ex) (l:Int):dG (.mk k s n nl li na ar) l=fC (fun i x=>dG (ar i) x) (l - 1 - nl - s.size) na:=rfl
theorem wP {f:Nat→Int→Int} {B:Int} {l:Int} (hl:l≤B) (hl': -1000000000000000≤l): ∀ n,(∀ i,i<n→ ∀ x,0≤x→x≤B→f i x≤B∧ -1000000000000000≤f i x)→fC f l n≤B∧ -1000000000000000≤fC f l n
 | 0,_=>⟨hl,hl'⟩
 | n+1,hf=>by
  have ih:=wP hl hl' n fun i hi=>hf i (by omega)
  show (if fC f l n<0 then fC f l n else f n (fC f l n))≤B∧ -1000000000000000≤(if fC f l n<0 then fC f l n else f n (fC f l n));by_cases h:fC f l n<0
  ·rw [if_pos h];exact ih
  ·rw [if_neg h];exact hf n (by omega) _ (by omega) ih.1
theorem wQ: ∀ (e:Ex),okE e→ ∀ (l B:Int), -150000000000000≤l→l≤B→0≤B→B≤1000000→dG e l≤B∧ -1000000000000000≤dG e l:=by
 intro e;induction e with
 | nil=>intro h;exact h.elim
 | mk k s n nl li na ar ih=>
  rintro ⟨h1,h2,h3,h4⟩ l B h5 h6 h8 h7;rw [wO];exact wP (by omega) (by omega) na fun i hi x q1 q2=>ih i (h4 i hi) x B (by omega) q2 h8 h7
theorem Um: ∀ (e:Ex),okE e→ ∀ (l:Int),0≤dG e l→(bC e:Int)≤l - dG e l:=by
 intro e;induction e with
 | nil=>intro h;exact h.elim
 | mk k s n nl li na ar ih=>
  rintro ⟨h1,h2,h3,h4⟩ l h;rw [wO] at h ⊢;have key: ∀ m,m≤na→0≤fC (fun i x=>dG (ar i) x) (l - 1 - nl - s.size) m→(dM 1 (fun i=>bC (ar i)) m:Int)≤1+(l - 1 - nl - s.size) - fC (fun i x=>dG (ar i) x) (l - 1 - nl - s.size) m:=by
   intro m;induction m with
   | zero=>intro _ _;show ((1:Nat):Int)≤1+(l - 1 - nl - s.size) - (l - 1 - nl - s.size);omega
   | succ m ihm=>
    intro hm hq;have e1:fC (fun i x=>dG (ar i) x) (l - 1 - nl - s.size) (m+1)=if fC (fun i x=>dG (ar i) x) (l - 1 - nl - s.size) m<0 then fC (fun i x=>dG (ar i) x) (l - 1 - nl - s.size) m else dG (ar m) (fC (fun i x=>dG (ar i) x) (l - 1 - nl - s.size) m):=rfl
    by_cases hn:fC (fun i x=>dG (ar i) x) (l - 1 - nl - s.size) m<0
    ·rw [e1,if_pos hn] at hq;omega
    ·rw [e1,if_neg hn] at hq ⊢;have g1:=ihm (by omega) (by omega);have g2:=ih m (h4 m (by omega)) _ hq;have e2:dM 1 (fun i=>bC (ar i)) (m+1)=dM 1 (fun i=>bC (ar i)) m+bC (ar m):=rfl;rw [e2,Int.natCast_add];omega
  have hk:=key na (Nat.le_refl _) h;have e3:bC (.mk k s n nl li na ar)=dM 1 (fun i=>bC (ar i)) na:=rfl;rw [e3];omega
theorem Ad {a b:AV} (h1:Clo a) (h2:Clo b): ∀ x,x∈[a,b]→Clo x:=by simp only [Wv.BC];exact ⟨h1,h2⟩
theorem ah1 {n i:Nat} {p:Nat→Bool} (hi:i<n) (h:p i=true):aI n p=true:=by
 unfold aI;exact List.any_eq_true.2 ⟨i,List.mem_range.2 hi,h⟩
theorem any_none {n:Nat} {p:Nat→Bool} (h: ∀ i,i<n→p i=false):aI n p=false:=by
 unfold aI;exact List.any_eq_false.2 fun i hi=>by rw [h i (List.mem_range.1 hi)];exact Bool.noConfusion
def yE (f:Nat→ByteArray):Nat→Nat
 | 0=>0
 | i+1=>yE f i+(f i).size+1
def rE (n:Nat) (f:Nat→ByteArray) (most:Int):Bool:=aI n fun i=>decide (most - yE f i≤((f i).size:Int))
theorem FW (f:Nat→ByteArray) (i:Nat):yE f (i+1)=yE f i+(f i).size+1:=rfl
theorem KL (n:Nat) (f:Nat→ByteArray) (most:Int) (hn:n≤140737488351232) (h0: -1000000≤most) (h1:most≤1000000):TC Tryz.prog 56 [bG n f, .v (.int .i64 most)] (.v (.bool (rE n f most))):=by
 unfold bG;refine Wv.TC.by 27 [5,0,9,1,18,4] [] [.tmp 4] Tryz.func56 rfl rfl rfl ?clo ?_
 case clo=>simp only [Wv.BC]
 refine Wv.W ?_;refine aQ (σ:=Nat) (fun i=>[(0, .t n 1 (tab n fun i=> .v (.string (f i)))),(1, .v (.int .i64 (most - yE f i))),(5, .v (.int .i64 i))]) (fun i=>[]) (fun i=>i≤n∧(yE f i:Int)≤2000000∧ ∀ j,j<i→decide (most - yE f j≤((f j).size:Int))=false) (fun i=>n - i) 0 ⟨Nat.zero_le _,by show ((0:Nat):Int)≤_;omega,fun j hj=>by omega⟩ Wv.V (by simp (disch:=first|exact Wv.D|fail) only [Wv.B,simprocAttr,yE,Int.natCast_zero,Int.sub_zero]) ?_;rintro i ⟨hi,hs,hb⟩;by_cases hlt:i<n
 ·have e1:(i:Int)<(n:Int):=by omega
  by_cases hq:most - yE f i≤((f i).size:Int)
  ·have hL:rE n f most=true:=ah1 hlt (ah hq);exact Wv.V3 (ah e1) (ah hq) hL
  ·have hss:=FW f i;have e5:most - (yE f i:Int) - ((f i).size:Int) - 1=most - ((yE f (i+1):Nat):Int):=by rw [hss];omega
   refine Wv.W2 (ah e1) (aj hq) ?_;refine au (i+1) ⟨by omega,by omega,fun j hj=>?_⟩ (by omega) rfl (Wv.V3 e5 @Int.natCast_add @Int.natCast_one);by_cases e:j=i
   ·subst e;exact aj hq
   ·exact hb j (by omega)
 ·obtain rfl:n=i:=by omega
  have hL:rE n f most=false:=any_none hb;exact Wv.V3 @Int.lt_irrefl @decide_false hL
theorem Un (e:Ex) (h:okE e) (l:Int) (h0: -150000000000000≤l) (h1:l≤1000000):TC Tryz.prog 57 [.g (exC e), .v (.int .i64 l)] (.v (.int .i64 (dG e l))):=by
 induction e generalizing l with
 | nil=>exact h.elim
 | mk k s n nl li na ar ih=>
 have hle:=fun m=>wQ (.mk k s n nl li na ar) h l 1000000 h0 h1 (by omega) (by omega)
 obtain ⟨hs,hnl,hna,hh⟩:=h;have hacc: ∀ m,m≤na→fC (fun i x=>dG (ar i) x) (l - 1 - nl - s.size) m≤1000000∧ -1000000000000000≤fC (fun i x=>dG (ar i) x) (l - 1 - nl - s.size) m:=fun m hm=>
  wP (by omega) (by omega) m fun i hi x q1 q2=>wQ (ar i) (hh i (by omega)) x 1000000 (by omega) q2 (by omega) (by omega)
 rw [wO];clear hle;refine Wv.TC.by 35 [0,1,2,5,24,4] [] [.tmp 4] Tryz.func57 rfl rfl rfl ?clo ?_
 case clo=>simp only [Wv.BC]
 unfold exC;refine Wv.W ?_;refine aQ (σ:=Nat) (fun i=>[(1, .v (.int .i64 (fC (fun i x=>dG (ar i) x) (l - 1 - nl - s.size) i))),(2, .ptr 0 0),(5, .v (.int .i64 i))])
  (fun i=>[some (.blk [.v (.int .i64 k), .v (.string s), .v (.int .i64 n), .t nl 1 (tab nl fun i=> .v (.int .i64 (li i))), .t na 5 (cO na fun i=>exC (ar i))])])
  (fun i=>i≤na) (fun i=>na - i) 0 (Nat.zero_le _) Wv.V (by simp (disch:=first|exact Wv.D|fail) only [Wv.B,simprocAttr,fC]) ?_
 intro i hi;have hai:=hacc i hi;have hst:fC (fun i x=>dG (ar i) x) (l - 1 - nl - s.size) i<0→fC (fun i x=>dG (ar i) x) (l - 1 - nl - s.size) na=fC (fun i x=>dG (ar i) x) (l - 1 - nl - s.size) i:=fun q=>yD q hi
 have hsu:fC (fun i x=>dG (ar i) x) (l - 1 - nl - s.size) (i+1)=if fC (fun i x=>dG (ar i) x) (l - 1 - nl - s.size) i<0 then fC (fun i x=>dG (ar i) x) (l - 1 - nl - s.size) i else dG (ar i) (fC (fun i x=>dG (ar i) x) (l - 1 - nl - s.size) i):=rfl
 by_cases hlt:i<na
 ·have e1:(i:Int)<na:=by omega
  generalize hA:fC (fun i x=>dG (ar i) x) (l - 1 - nl - s.size) i=A at*;by_cases hneg:A<0
  ·have e2: ¬ 0≤A:=by omega
   have e3:=hst hneg;exact Wv.V3 (ah e1) (aj e2) e3
  ·have e2:0≤A:=by omega
   rw [if_neg hneg] at hsu;have T:=ih i (hh i hlt) A (by omega) hai.1;have hP:=wQ (ar i) (hh i hlt) A 1000000 (by omega) hai.1 (by omega) (by omega);have hG:=bU (ar i);have hoy:=hh i hlt;have hL:=dw (n:=na) (f:=fun i=>exC (ar i)) fun i _=>eX (ar i)
   obtain ⟨r,hd⟩: ∃ r,List.drop (i*5) (cO na fun i=>exC (ar i))=exC (ar i)++r:=bH (f:=fun i=>exC (ar i)) (fun i=>gJ (ar i)) hlt;revert hd T hG hL hsu;generalize (cO na fun i=>exC (ar i))=L;generalize dG (ar i) A=pa at hP ⊢;generalize ar i=y at hoy ⊢;obtain ⟨k',s',n',nl',li',na',ar',rfl⟩:=lQ hoy;rw [dh];intro hsu T hG hL hd;simp only [List.cons_append,List.nil_append] at hd;refine Wv.W3 (ah e1) (ah e2) hd ?_;refine ak T rfl (Ad hG (.v _)) Wv.c ?_;refine Wv.W ?_;refine au (i+1) (by omega) (by omega) rfl (Wv.V3 hsu @Int.natCast_add @Int.natCast_one)
 ·obtain rfl:i=na:=by omega
  exact Wv.V2f @Int.lt_irrefl @decide_false
def yF:Ex→Nat
 | .nil=>0
 | .mk k s n nl li na ar=>dM (if k=11∨k=13 then 1 else 0) (fun i=>yF (ar i)) na
theorem Dy {a b:Nat} {f g:Nat→Nat}: ∀ {n:Nat},a≤b→(∀ i,i<n→f i≤g i)→dM a f n≤dM b g n
 | 0,h,_=>h
 | n+1,h,hf=>by
  have h1:=Dy (n:=n) h fun i hi=>hf i (by omega)
  have h2:=hf n (by omega);show dM a f n+f n≤dM b g n+g n;omega
theorem AP: ∀ (e:Ex),yF e≤bC e:=by
 intro e;induction e with
 | nil=>exact Nat.zero_le _
 | mk k s n nl li na ar ih=>exact Dy (by split<;>omega) fun i _=>ih i
theorem Oe (e : Ex) (h : okE e) (hc : bC e ≤ 1000000) : TC Tryz.prog 58 [.g (exC e)] (.v (.int .i64 (yF e))) := by
  induction e with
  | nil => exact h.elim
  | mk k s n nl li na ar ih =>
  obtain ⟨hs, hnl, hna, hh⟩ := h;have hcn : dM 1 (fun i => bC (ar i)) na ≤ 1000000 := hc;have hfin : yF (.mk k s n nl li na ar) = dM (if k = 11 ∨ k = 13 then 1 else 0) (fun i => yF (ar i)) na := rfl;rw [hfin];refine Wv.TC.by 29 [0, 1, 12, 4, 17, 3, 2] [] [.tmp 2] Tryz.func58 rfl rfl rfl ?clo ?_
  case clo => simp only [Wv.BC]
  unfold exC;generalize hb : (if k = 11 ∨ k = 13 then 1 else 0 : Nat) = b0 at *;have hb1 : b0 ≤ 1 := by rw [← hb]; split <;> omega
  by_cases k11 : k = 11;rotate_left
  by_cases k13 : k = 13;rotate_left
  all_goals
    first
    | (have hb0 : b0 = 1 := by rw [← hb]; exact if_pos (by omega)
       simp (disch:=first|exact Wv.D|fail) only [Wv.B, simprocAttr, ah k11])
    | (have hb0 : b0 = 1 := by rw [← hb]; exact if_pos (by omega)
       simp (disch:=first|exact Wv.D|fail) only [Wv.B, simprocAttr, aj k11, ah k13])
    | (have hb0 : b0 = 0 := by rw [← hb]; exact if_neg (by omega)
       simp (disch:=first|exact Wv.D|fail) only [Wv.B, simprocAttr, aj k11, aj k13])
    clear hb hfin;refine aQ (σ := Nat) (fun i => [(1, .ptr 0 0), (3, .v (.int .i64 (dM b0 (fun i => yF (ar i)) i : Nat))), (4, .v (.int .i64 i))])
      (fun i => [some (.blk [.v (.int .i64 k), .v (.string s), .v (.int .i64 n), .t nl 1 (tab nl fun i => .v (.int .i64 (li i))), .t na 5 (cO na fun i => exC (ar i))])])
      (fun i => i ≤ na) (fun i => na - i) 0 (Nat.zero_le _) Wv.V (by simp (disch:=first|exact Wv.D|fail) only [Wv.B, simprocAttr, dM, hb0, Int.natCast_one, Int.natCast_zero]) ?_
    clear hb0;intro i hi;by_cases hlt : i < na
    · have e1 : (i : Int) < na := by omega
      have q1 := qZ 1 (fun i => bC (ar i)) hlt;have hqi := Dy (n := i) (f := fun i => yF (ar i)) (g := fun i => bC (ar i)) hb1 fun j _ => AP (ar j)
      have hqm : dM 1 (fun i => bC (ar i)) i ≤ dM 1 (fun i => bC (ar i)) na := wL 1 _ hi;have q3 := AP (ar i);have T := ih i (hh i hlt) (by omega);have hG := bU (ar i);have hoy := hh i hlt;have hL := dw (n := na) (f := fun i => exC (ar i)) fun i _ => eX (ar i)
      obtain ⟨r, hd⟩ : ∃ r, List.drop (i * 5) (cO na fun i => exC (ar i)) = exC (ar i) ++ r := bH (f := fun i => exC (ar i)) (fun i => gJ (ar i)) hlt;revert T hG hL hd;generalize (cO na fun i => exC (ar i)) = L;generalize hc2 : yF (ar i) = c2 at *;generalize hcc : bC (ar i) = cc at *;generalize ar i = y at hoy ⊢;obtain ⟨k', s', n', nl', li', na', ar', rfl⟩ := lQ hoy;rw [dh];intro T hG hL hd;simp only [List.cons_append, List.nil_append] at hd;refine Wv.W2 (ah e1) hd ?_;refine ak T rfl (dR hG) Wv.c ?_;refine Wv.W ?_;refine au (i + 1) (by omega) (by omega) rfl (by simp (disch:=first|exact Wv.D|fail) only [Wv.B, simprocAttr, dM, hc2, Int.natCast_add, Int.natCast_one])
    · obtain rfl : i = na := by omega
      exact Wv.V2f @Int.lt_irrefl @decide_false
structure EN (c:Ci):Prop where
 name:c.name.size≤140737488351232
 ni:c.ni≤140737488351232
 nl:c.nl≤140737488351232
 no:c.no≤140737488351232
 fi: ∀ i,i<c.ni→(c.fi i).size≤140737488351232
 fo: ∀ i,i<c.no→(c.fo i).size≤140737488351232
 ln: ∀ i,i<c.nl→(c.ln i).size≤140737488351232
 le: ∀ i,i<c.nl→okE (c.le i)
def jI (c:Ci) (most:Int) (i:Nat):Int:=fC (fun i x=>dG (c.le i) (x - (c.ln i).size)) (most - c.name.size) i
def KN (c:Ci) (most:Int):Bool:=rE c.ni c.fi most || (rE c.no c.fo most || (decide (most<(c.nl:Int)) || decide (jI c most c.nl<0)))
theorem uX (c:Ci) (most:Int) (i:Nat):jI c most (i+1)=if jI c most i<0 then jI c most i else dG (c.le i) (jI c most i - (c.ln i).size):=rfl
variable {most:Int}
theorem YW {c:Ci} (h:EN c)  (h0:0≤most) (h1:most≤1000000): ∀ i,i≤c.nl→jI c most i≤1000000∧ -1000000000000000≤jI c most i:=fun i hi=>by
 have:=h.name;exact wP (by omega) (by omega) i fun j hj x q1 q2=>by
  have:=h.ln j (by omega);exact wQ _ (h.le j (by omega)) _ 1000000 (by omega) (by omega) (by omega) (by omega)
theorem YX {c:Ci} (h:EN c)  (h0:0≤most): ∀ i,i≤c.nl→0≤jI c most i→jI c most i≤most∧ ∀ j,j<i→(bC (c.le j):Int)≤most:=by
 intro i;induction i with
 | zero=>exact fun _ q=>⟨by show most - c.name.size≤most;omega,fun j hj=>by omega⟩
 | succ i ih=>
  intro hi hq;rw [uX] at hq ⊢;by_cases hn:jI c most i<0
  ·rw [if_pos hn] at hq;omega
  ·rw [if_neg hn] at hq ⊢;obtain ⟨g1,g2⟩:=ih (by omega) (by omega);have g3:=Um (c.le i) (h.le i (by omega)) _ hq;have g4:1≤bC (c.le i):=by cases c.le i with
    | nil=>exact Nat.le_refl _
    | mk k s n nl li na ar=>exact yA 1 _ _
   refine ⟨by omega,fun j hj=>?_⟩;by_cases e:j=i
   ·subst e;omega
   ·exact g2 j (by omega)
theorem ah2 {c:Ci} (h:EN c)  (h0:0≤most) (h1:most≤1000000) (hb:KN c most=false):okC c∧c.nl≤1000000∧ ∀ i,i<c.nl→(bC (c.le i):Int)≤most:=by
 unfold KN at hb;simp only [Bool.or_eq_false_iff,decide_eq_false_iff_not] at hb;obtain ⟨_,_,b3,b4⟩:=hb;have hl:=(YX h h0 c.nl (Nat.le_refl _) (by omega)).2;exact ⟨⟨h.name,h.ni,h.nl,h.no,h.fi,h.fo,h.ln,fun i hi=>⟨h.le i hi,by have:=hl i hi;omega⟩⟩,by omega,hl⟩
theorem Og (c:Ci) (h:EN c) (most:Int) (h0:0≤most) (h1:most≤1000000):TC Tryz.prog 16 [.g (ciC c), .v (.int .i64 most)] (.v (.bool (KN c most))):=by
 have hli:=YW h h0 h1;have hB:KN c most=(rE c.ni c.fi most || (rE c.no c.fo most || (decide (most<(c.nl:Int)) || decide (jI c most c.nl<0)))):=rfl;have T1:=KL c.ni c.fi most h.ni (by omega) h1;have T2:=KL c.no c.fo most h.no (by omega) h1;have hnm:=h.name;generalize rE c.ni c.fi most=b1 at*;generalize rE c.no c.fo most=b2 at*;generalize KN c most=B at*;refine Wv.TC.by 58 [0,1,2,28,6,5,37,4] [(7,16)] [.tmp 4] Tryz.func16 rfl rfl rfl ?clo ?_
 case clo=>simp only [Wv.BC]
 unfold ciC bG at*;refine Wv.W ?_;refine ak T1 rfl (Ad Wv.c (.v _)) Wv.c ?_;cases b1 with
 | true=>exact Wv.V2f hB @Bool.true_or
 | false=>
 refine Wv.W ?_;refine ak T2 rfl (Ad Wv.c (.v _)) Wv.c ?_;cases b2 with
 | true=>exact Wv.V3 hB @Bool.true_or @Bool.false_or
 | false=>
 by_cases h3:most<(c.nl:Int)
 ·rw [ah h3] at hB;exact Wv.V4 (ah h3) hB @Bool.true_or @Bool.false_or
 rw [aj h3,Bool.false_or,Bool.false_or,Bool.false_or] at hB;refine Wv.W1 (aj h3) ?_;refine aQ (σ:=Nat) (fun i=>[(2, .ptr 0 0),(5, .v (.int .i64 (jI c most i))),(6, .v (.int .i64 i))])
  (fun i=>[some (.blk [.v (.string c.name), .t c.ni 1 (tab c.ni fun i=> .v (.string (c.fi i))), .t c.nl 6 c.lets, .t c.no 1 (tab c.no fun i=> .v (.string (c.fo i)))])])
  (fun i=>i≤c.nl) (fun i=>c.nl - i) 0 (Nat.zero_le _) rfl (by simp (disch:=first|exact Wv.D|fail) only [Wv.B,simprocAttr,jI,fC]) ?_
 intro i hi;have hai:=hli i hi;have hsu:=uX c most i;have hst:jI c most i<0→jI c most c.nl=jI c most i:=fun q=>yD q hi
 by_cases hlt:i<c.nl
 ·have e1:(i:Int)<(c.nl:Int):=by omega
  generalize jI c most i=A at*;by_cases hneg:A<0
  ·have e2: ¬ 0≤A:=by omega
   have e3:=hst hneg;rw [e3] at hB;exact Wv.V3 (ah e1) (aj e2) hB
  ·have e2:0≤A:=by omega
   rw [if_neg hneg] at hsu;have hln:=h.ln i hlt;have T:=Un (c.le i) (h.le i hlt) (A - (c.ln i).size) (by omega) (by omega);have hG:=bU (c.le i);have hoy:=h.le i hlt;have hL:=iV c;obtain ⟨r,hd⟩: ∃ r,List.drop (i*6) c.lets=iD (c.ln i) (c.le i)++r:=bH (f:=fun i=>iD (c.ln i) (c.le i)) (fun i=>gV _ _) hlt;unfold iD at hd;generalize hA':dG (c.le i) (A - (c.ln i).size)=A' at*;generalize hle:c.le i=y at*;obtain ⟨k',s',n',nl',li',na',ar',rfl⟩:=lQ hoy;rw [dh] at T hG hd;simp only [List.cons_append,List.nil_append] at hd;refine Wv.W3 (ah e1) (ah e2) hd ?_;refine eU T rfl (Ad hG (.v _)) Wv.c ?_;refine Wv.W ?_;refine au (i+1) (by omega) (by omega) rfl (Wv.V3 hsu @Int.natCast_add @Int.natCast_one)
 ·obtain rfl:i=c.nl:=by omega
  exact Wv.V3 @Int.lt_irrefl @decide_false hB
def yG (c:Ci) (i:Nat):Nat:=dM 0 (fun i=>yF (c.le i)) i
def Qe (p:Nat) (c:Ci):Bool:=decide ((0:Int)<(yG c c.nl:Nat)) && decide ((1000:Int)<((yG c c.nl:Nat):Int)*(if (600:Int)<(p:Int) then (600:Int) else (p:Int)))
theorem ad1 {c:Ci} (hc: ∀ i,i<c.nl→yF (c.le i)≤1000000): ∀ i,i≤c.nl→yG c i≤i*1000000:=by
 intro i;induction i with
 | zero=>
  intro _;have h3:yG c 0=0:=rfl;omega
 | succ i ih=>
  intro hi;have h1:=ih (by omega);have h2:=hc i (by omega);have h3:yG c (i+1)=yG c i+yF (c.le i):=rfl;rw [h3,Nat.add_mul,Nat.one_mul];exact Nat.add_le_add h1 h2
theorem Uo (x:List AV) (hx: ∀ a,a∈x→Clo a) (p:Nat) (A0 A2 A3 A4 A5 A6:AV) (hxe:x=[A0, .v (.int .u32 p),A2,A3,A4,A5,A6]) (hp:p≤4294967295) (c:Ci) (h:EN c) (hnl:c.nl≤1000000) (hcn: ∀ i,i<c.nl→bC (c.le i)≤1000000):TC Tryz.prog 17 [.g x, .g (ciC c)] (.v (.bool (Qe p c))):=by
 subst hxe;have hle:=ad1 (c:=c) fun i hi=>Nat.le_trans (AP _) (hcn i hi)
 have hB:Qe p c=(decide ((0:Int)<(yG c c.nl:Nat)) && decide ((1000:Int)<((yG c c.nl:Nat):Int)*(if (600:Int)<(p:Int) then (600:Int) else (p:Int)))):=rfl;have hn2:c.nl*1000000≤1000000000000:=by omega
 generalize Qe p c=B at*;refine Wv.TC.by 34 [0,1,6,3,11,5,2,4] [] [.tmp 4] Tryz.func17 rfl rfl rfl ?clo ?_
 case clo=>simp only [Wv.BC]
 unfold ciC bG at*;refine Wv.W ?_;refine aQ (σ:=Nat) (fun i=>[(2, .ptr 0 0),(3, .ptr 1 0),(5, .v (.int .i64 (yG c i:Nat))),(6, .v (.int .i64 i))])
  (fun i=>[some (.blk [A0, .v (.int .u32 p),A2,A3,A4,A5,A6]),some (.blk [.v (.string c.name), .t c.ni 1 (tab c.ni fun i=> .v (.string (c.fi i))), .t c.nl 6 c.lets, .t c.no 1 (tab c.no fun i=> .v (.string (c.fo i)))])])
  (fun i=>i≤c.nl) (fun i=>c.nl - i) 0 (Nat.zero_le _) rfl (by simp (disch:=first|exact Wv.D|fail) only [Wv.B,simprocAttr,yG,dM,Int.natCast_zero]) ?_
 intro i hi;have hai:=hle i hi;have hin:i*1000000≤1000000000000:=Nat.le_trans (Nat.mul_le_mul_right _ hi) hn2;have hsu:yG c (i+1)=yG c i+yF (c.le i):=rfl;by_cases hlt:i<c.nl
 ·have e1:(i:Int)<(c.nl:Int):=by omega
  have q3:=Nat.le_trans (AP (c.le i)) (hcn i hlt);have T:=Oe (c.le i) (h.le i hlt) (hcn i hlt);have hG:=bU (c.le i);have hoy:=h.le i hlt;have hL:=iV c;obtain ⟨r,hd⟩: ∃ r,List.drop (i*6) c.lets=iD (c.ln i) (c.le i)++r:=bH (f:=fun i=>iD (c.ln i) (c.le i)) (fun i=>gV _ _) hlt;unfold iD at hd;generalize yF (c.le i)=tt at*;generalize hle:c.le i=y at*;obtain ⟨k',s',n',nl',li',na',ar',rfl⟩:=lQ hoy;rw [dh] at T hG hd;simp only [List.cons_append,List.nil_append] at hd;refine Wv.W2 (ah e1) hd ?_;refine ak T rfl (dR hG) Wv.c ?_;refine Wv.W ?_;refine au (i+1) (by omega) (by omega) rfl (Wv.V3 hsu @Int.natCast_add @Int.natCast_one)
 ·obtain rfl:i=c.nl:=by omega
  generalize yG c c.nl=m at*;have hm:m≤1000000000000:=by omega
  by_cases h0:(0:Int)<(m:Int)
  ·have hmul:((m:Nat):Int)*(if (600:Int)<(p:Int) then (600:Int) else (p:Int))≤1000000000000*600:=Int.mul_le_mul (by omega) (by split<;>omega) (by split<;>omega) (by omega);have anB:0≤((m:Nat):Int)*(if (600:Int)<(p:Int) then (600:Int) else (p:Int)):=Int.mul_nonneg (by omega) (by split<;>omega);rw [ah h0,Bool.true_and] at hB;exact Wv.V4 @Int.lt_irrefl @decide_false (ah h0) hB
  ·rw [aj h0,Bool.false_and] at hB;exact Wv.V4 @Int.lt_irrefl @decide_false (aj h0) hB
end
section
open Go.ChangeShapes Go.WideShapes Go.ChangeAt Go.RowKit Go.Deep Wv
instance:Inhabited Ex:=⟨.nil⟩
instance:Inhabited ByteArray:=⟨⟨#[]⟩⟩
variable {α:Type}
theorem amZ {l:List α} (h:l.length=5): ∃ a b c d e,l=[a,b,c,d,e]:=by
 match l,h with
 | [a,b,c,d,e],_=>exact ⟨a,b,c,d,e,rfl⟩
theorem am0 {l:List α} (h:l.length=6): ∃ a b c d e f,l=[a,b,c,d,e,f]:=by
 match l,h with
 | [a,b,c,d,e,f],_=>exact ⟨a,b,c,d,e,f,rfl⟩
theorem am1 {l:List α} (h:l.length=4): ∃ a b c d,l=[a,b,c,d]:=by
 match l,h with
 | [a,b,c,d],_=>exact ⟨a,b,c,d,rfl⟩
variable {l:List AV}
theorem alr {t:TypeId}  (h:Sh Tryz.prog t l):(t=46→ ∃ e,okE e∧l=exC e):=by
 have key:(t=46→ ∃ e,okE e∧l=exC e)∧(t=44→ ∃ (n:Nat) (f:Nat→Ex),n≤140737488351232∧(∀ i,i<n→okE (f i))∧l=[.t n 5 (cO n fun i=>exC (f i))]):=by
  induction h with
  | bool h=>exact ⟨fun e=>(by subst e;cases Tryz.underlying46.symm.trans h),fun e=>(by subst e;cases Tryz.underlying44.symm.trans h)⟩
  | int h=>exact ⟨fun e=>(by subst e;cases Tryz.underlying46.symm.trans h),fun e=>(by subst e;cases Tryz.underlying44.symm.trans h)⟩
  | str h=>exact ⟨fun e=>(by subst e;cases Tryz.underlying46.symm.trans h),fun e=>(by subst e;cases Tryz.underlying44.symm.trans h)⟩
  | @slice t e n f h hn hl hf ih=>
   refine ⟨fun e=>(by subst e;cases Tryz.underlying46.symm.trans h),fun e=>?_⟩;subst e;have:=Tryz.underlying44.symm.trans h;injection this with this;injection this with this;subst this;have hc:Tryz.prog.cellsOf 46=5:=by kernel_rfl
   have hb:1≤Tryz.prog.bytesOf 46:=Nat.le_of_ble_eq_true (by kernel_rfl);obtain ⟨g,hg⟩:=choose_lt (α:=Ex) fun i hi=>(ih i hi).1 rfl
   rw [hc];refine ⟨n,g,?_,fun i hi=>(hg i hi).1,?_⟩
   ·have h1:=Nat.mul_le_mul_left n hb;have h2:reachBytes=140737488351232:=rfl;omega
   ·rw [Dh fun i hi=>(hg i hi).2];rfl
  | @struct t fs l h hl hf ih=>
   refine ⟨fun e=>?_,fun e=>(by subst e;cases Tryz.underlying44.symm.trans h)⟩;subst e;have:=Tryz.underlying46.symm.trans h;injection this with this;injection this with this;subst this;have hc:Tryz.prog.cellsOf 46=5:=by kernel_rfl
   rw [hc] at hl;obtain ⟨a,b,c,d,e,rfl⟩:=amZ hl;have c1:Tryz.prog.cellsOf 3=1:=by kernel_rfl
   have c2:Tryz.prog.cellsOf 9=1:=by kernel_rfl
   have c3:Tryz.prog.cellsOf 2=1:=by kernel_rfl
   have c4:Tryz.prog.cellsOf 43=1:=by kernel_rfl
   have c5:Tryz.prog.cellsOf 44=1:=by kernel_rfl
   have h0:Sh Tryz.prog 3 (([a,b,c,d,e].drop 0).take (Tryz.prog.cellsOf 3)):=hf 0 _ rfl;have h1:Sh Tryz.prog 9 (([a,b,c,d,e].drop 1).take (Tryz.prog.cellsOf 9)):=hf 1 _ rfl;have h2:Sh Tryz.prog 2 (([a,b,c,d,e].drop 2).take (Tryz.prog.cellsOf 2)):=hf 2 _ rfl;have h3:Sh Tryz.prog 43 (([a,b,c,d,e].drop 3).take (Tryz.prog.cellsOf 43)):=hf 3 _ rfl;have h4:=(ih 4 _ rfl).2 rfl;have h4': ∃ (n:Nat) (f:Nat→Ex),n≤140737488351232∧(∀ i,i<n→okE (f i))∧([a,b,c,d,e].drop 4).take (Tryz.prog.cellsOf 44)=[.t n 5 (cO n fun i=>exC (f i))]:=h4;rw [c1] at h0;rw [c2] at h1;rw [c3] at h2;rw [c4] at h3;rw [c5] at h4';obtain ⟨z0,e0,_⟩:=qh Tryz.underlying3 h0;obtain ⟨s1,e1,w1⟩:=Ia Tryz.underlying9 h1;obtain ⟨z2,e2,_⟩:=qh Tryz.underlying2 h2;obtain ⟨n3,f3,e3,w3,_⟩:=Ib Tryz.underlying43 Tryz.underlying2 (Nat.le_of_ble_eq_true (by kernel_rfl)) (by kernel_rfl) h3;obtain ⟨n4,f4,w4,o4,e4⟩:=h4';have f0:[a]=[AV.v (.int .i64 z0)]:=e0;have f1:[b]=[AV.v (.string s1)]:=e1;have f2:[c]=[AV.v (.int .i64 z2)]:=e2;have f3':[d]=[AV.t n3 1 (tab n3 fun i=> .v (.int .i64 (f3 i)))]:=e3;have f4':[e]=[AV.t n4 5 (cO n4 fun i=>exC (f4 i))]:=e4;simp only [List.cons.injEq,and_true] at f0 f1 f2 f3' f4';subst f0 f1 f2 f3' f4';have hr:reachBytes=140737488351232:=rfl;exact ⟨.mk z0 s1 z2 n3 f3 n4 f4,⟨by omega,by omega,w4,o4⟩,rfl⟩
 exact key.1
def als:List TypeId:=[3,2,9,43,26,46,44,49,27,29]
theorem ad2:setB Tryz.prog als=true:=by kernel_rfl
theorem ah3 (h:Sh Tryz.prog 49 l): ∃ s e,s.size≤140737488351232∧okE e∧l=iD s e:=by
 obtain ⟨hl,hf⟩:=x9 Tryz.underlying49 h;have hc:Tryz.prog.cellsOf 49=6:=by kernel_rfl
 rw [hc] at hl;obtain ⟨a,b,c,d,e,f,rfl⟩:=am0 hl;have c2:Tryz.prog.cellsOf 9=1:=by kernel_rfl
 have c3:Tryz.prog.cellsOf 46=5:=by kernel_rfl
 have h0:Sh Tryz.prog 9 (([a,b,c,d,e,f].drop 0).take (Tryz.prog.cellsOf 9)):=hf 0 _ rfl;have h1:Sh Tryz.prog 46 (([a,b,c,d,e,f].drop 1).take (Tryz.prog.cellsOf 46)):=hf 1 _ rfl;rw [c2] at h0;rw [c3] at h1;obtain ⟨s,e0,w0⟩:=Ia Tryz.underlying9 h0;obtain ⟨x,o1,e1⟩:=alr h1 rfl;have f0:[a]=[AV.v (.string s)]:=e0;have f1:[b,c,d,e,f]=exC x:=e1;simp only [List.cons.injEq,and_true] at f0;subst f0;have hr:reachBytes=140737488351232:=rfl;exact ⟨s,x,by omega,o1,by rw [f1];rfl⟩
theorem alu (h:Sh Tryz.prog 29 l): ∃ c,EN c∧l=ciC c:=by
 obtain ⟨hl,hf⟩:=x9 Tryz.underlying29 h;have hc:Tryz.prog.cellsOf 29=4:=by kernel_rfl
 rw [hc] at hl;obtain ⟨a,b,c,d,rfl⟩:=am1 hl;have c2:Tryz.prog.cellsOf 9=1:=by kernel_rfl
 have c3:Tryz.prog.cellsOf 26=1:=by kernel_rfl
 have c4:Tryz.prog.cellsOf 27=1:=by kernel_rfl
 have c5:Tryz.prog.cellsOf 49=6:=by kernel_rfl
 have h0:Sh Tryz.prog 9 (([a,b,c,d].drop 0).take (Tryz.prog.cellsOf 9)):=hf 0 _ rfl;have h1:Sh Tryz.prog 26 (([a,b,c,d].drop 1).take (Tryz.prog.cellsOf 26)):=hf 1 _ rfl;have h2:Sh Tryz.prog 27 (([a,b,c,d].drop 2).take (Tryz.prog.cellsOf 27)):=hf 2 _ rfl;have h3:Sh Tryz.prog 26 (([a,b,c,d].drop 3).take (Tryz.prog.cellsOf 26)):=hf 3 _ rfl;rw [c2] at h0;rw [c3] at h1 h3;rw [c4] at h2;obtain ⟨s,e0,w0⟩:=Ia Tryz.underlying9 h0;obtain ⟨n1,g1,e1,w1,w1'⟩:=Qa Tryz.underlying26 Tryz.underlying9 (Nat.le_of_ble_eq_true (by kernel_rfl)) (by kernel_rfl) h1;obtain ⟨n2,g2,e2,w2,q2⟩:=wG Tryz.underlying27 (Nat.le_of_ble_eq_true (by kernel_rfl)) h2;obtain ⟨n3,g3,e3,w3,w3'⟩:=Qa Tryz.underlying26 Tryz.underlying9 (Nat.le_of_ble_eq_true (by kernel_rfl)) (by kernel_rfl) h3;obtain ⟨L,hL⟩:=choose_lt (α:=ByteArray × Ex) (p:=fun i q=>q.1.size≤140737488351232∧okE q.2∧g2 i=iD q.1 q.2) fun i hi=>by
  obtain ⟨s,e,k1,k2,k3⟩:=ah3 (q2 i hi);exact ⟨(s,e),(⟨k1,k2,k3⟩:s.size≤140737488351232∧okE e∧g2 i=iD s e)⟩
 have f0:[a]=[AV.v (.string s)]:=e0;have f1:[b]=[AV.t n1 1 (tab n1 fun i=> .v (.string (g1 i)))]:=e1;have f2:[c]=[AV.t n2 (Tryz.prog.cellsOf 49) ((List.range n2).flatMap g2)]:=e2;have f3:[d]=[AV.t n3 1 (tab n3 fun i=> .v (.string (g3 i)))]:=e3;rw [c5,Dh fun i hi=>(hL i hi).2.2] at f2;simp only [List.cons.injEq,and_true] at f0 f1 f2 f3;subst f0 f1 f2 f3;have hr:reachBytes=140737488351232:=rfl;exact ⟨{name:=s,ni:=n1,fi:=g1,nl:=n2,ln:=fun i=>(L i).1,le:=fun i=>(L i).2,no:=n3,fo:=g3},
  ⟨by show s.size≤_;omega,by show n1≤_;omega,by show n2≤_;omega,by show n3≤_;omega,fun i hi=>by have:=w1' i hi;show (g1 i).size≤_;omega,fun i hi=>by have:=w3' i hi;show (g3 i).size≤_;omega,fun i hi=>(hL i hi).1,fun i hi=>(hL i hi).2.1⟩,rfl⟩
theorem aa9 {H:Type} {enc:TypeId × Value→H} {w:World} {base b0:Nat} {spare:Nat→Bool} {held:Bool} {r:Reach} {v:Value} {d:DataW H} {p:List MemPlace}
  (hv:Value.okWide Tryz.prog w r b0 29 v) (h:DataW.Trod enc Tryz.prog w base spare held 29 v d p) (hl:xZ Tryz.prog 29 d): ∃ c,EN c∧Rep (zL w) (.g (ciC c)) v:=by
 simp only [Value.okWide,Tryz.underlying29] at hv;obtain ⟨cs,rfl,_,_⟩:=hv;obtain ⟨fuel,hf⟩:=h;obtain ⟨l,s1,s2,s3⟩:=reads ad2 fuel _ _ _ (by unfold als;simp) hf hl;obtain ⟨c,hc,rfl⟩:=alu s1;refine ⟨c,hc,?_⟩;have e:(Value.agg cs)= .agg cs.toList.toArray:=by simp
 rw [e];exact .g s2.1 s2.2
end
section
end
section
open Go.RowKit Wv
def Io:List (Value × AV):=[(.int .i64 2, .fn (.func 164) [.ptr 0 0] []),(.int .i64 3, .fn (.func 165) [.ptr 0 0] []),(.int .i64 7, .fn (.func 166) [.ptr 0 0] []),(.int .i64 8, .fn (.func 167) [.ptr 0 0] []),(.int .i64 10, .fn (.func 168) [.ptr 0 0] []),(.int .i64 14, .fn (.func 169) [.ptr 0 0] []),(.int .i64 11, .fn (.func 170) [.ptr 0 0] []),(.int .i64 13, .fn (.func 171) [.ptr 0 0] []),(.int .i64 12, .fn (.func 172) [.ptr 0 0] [])]
theorem Ur {h:Hp} (h0:0<h.length) (hh:loH h.length h):RD Tryz.prog 110 [.ptr 0 0] h (fun r=>r= .tm Io) (fun _=>False):=by
 refine RD.of ?_ (by rintro r rfl;unfold Io;refine .tm fun p hp=>?_;simp only [List.mem_cons,List.not_mem_nil,or_false] at hp;rcases hp with rfl | rfl | rfl | rfl | rfl | rfl | rfl | rfl | rfl<;>exact .fn (by rintro a ha;rw [List.mem_singleton] at ha;subst ha;exact .ptr h0) (by rintro a ha;cases ha)) (fun r q=>q.elim) hh;refine Wv.HTP.by 23 [0,2] [(1000000,h.length)] [.tmp 2] Tryz.func110 rfl rfl rfl ?base ?_
 case base=>rfl
 have hget: ∀ o:Option Ob,(h++[o])[h.length]? =some o:=fun o=>List.getElem?_concat_length
 have hset: ∀ o o':Option Ob,(h++[o]).set h.length o'=h++[o']:=fun o o'=>by rw [List.set_append_right _ _ (Nat.le_refl _),Nat.sub_self];rfl
 refine Wv.W2 hget hset ?_;exact ⟨rfl,by rw [List.take_append_of_le_length (Nat.le_refl _),List.take_length]⟩
def aF:Nms→ByteArray→Option (Bool × Nat)
 | [],_=>none
 | p::r,s=>if s=p.1 then some p.2 else aF r s
theorem wR (s:ByteArray): ∀ ns:Nms,eP (.string s) (nsE ns)=(aF ns s).map shA
 | []=>rfl
 | p::r=>by
  have ih:=wR s r;show (if keyE (.string s) (.string p.1)=true then some (shA p.2) else eP (.string s) (nsE r))=_;rw [ih];show _=Option.map shA (if s=p.1 then some p.2 else aF r s);have:keyE (.string s) (.string p.1)=decide (s=p.1):=C9;rw [this];by_cases e:s=p.1
  ·rw [if_pos (ah e),if_pos e];rfl
  ·rw [if_neg (by simp [e]),if_neg e]
def bK (f:Nat→Except Int (Bool × Nat)):Nat→Except Int (Bool × Nat × Nat)
 | 0=> .ok (true,0,0)
 | n+1=>match bK f n with
  | .error e=> .error e
  | .ok (kn,d,u)=>match f n with
   | .error e=> .error e
   | .ok (k',d')=> .ok (kn && k',max d d',if k'=true then u else u+1)
def Dz:Option (Bool × Nat)→Except Int (Bool × Nat)
 | some r=> .ok r
 | none=> .error 230
def yH (kn:Bool) (d:Nat):Except Int Nat→Except Int (Bool × Nat)
 | .error e=> .error e
 | .ok m=>if (if kn=true then 0 else d+m)≤8 then .ok (kn,if kn=true then 0 else d+m) else .error 232
def DC (f:Nat→Except Int Nat):Except Int (Bool × Nat × Nat)→Except Int (Bool × Nat)
 | .error e=> .error e
 | .ok (kn,d,u)=>yH kn d (f u)
def shE (ns:Nms) (ru:Ex→Nat→Except Int Nat):Ex→Except Int (Bool × Nat)
 | .nil=> .error 0
 | .mk k s n nl li na ar=>if k=1 then Dz (aF ns s) else DC (ru (.mk k s n nl li na ar)) (bK (fun i=>shE ns ru (ar i)) na)
def KO:Except Int (Bool × Nat × Nat)→Bool × Nat × Nat
 | .ok r=>r
 | .error _=>(true,0,0)
def alv:Except Int Nat→Nat
 | .ok _=>0
 | .error _=>1
def afo (f:Nat→Except Int Nat):Except Int (Bool × Nat × Nat)→Nat
 | .ok (_,_,u)=>alv (f u)
 | .error _=>0
theorem yI        {f : Nat → Except Int (Bool × Nat)} {i : Nat} {e : Int} (h : bK    f i = .error e) : ∀ {n : Nat}, i ≤ n → bK    f n = .error e
  | 0, q => by have : i = 0 := by omega
               subst this; exact h
  | n + 1, q => by
    by_cases hq : i = n + 1
    · subst hq; exact h
    · have := yI        h (n := n) (by omega)
      simp only [bK   , this]
theorem yJ {ns:Nms} {ru:Ex→Nat→Except Int Nat} (hn: ∀ s r,aF ns s=some r→r.2≤8) (x:Ex) {r:Bool × Nat} (h:shE ns ru x= .ok r):r.2≤8:=by
 rcases x with _ | ⟨k,s,n,nl,li,na,ar⟩
 ·cases h
 unfold shE at h;by_cases hk:k=1
 ·rw [if_pos hk] at h;cases hf:aF ns s with
  | none=>rw [hf] at h;cases h
  | some r'=>rw [hf] at h;simp only [Dz] at h;injection h with h;subst h;exact hn s _ hf
 ·rw [if_neg hk] at h;cases hf:bK (fun i=>shE ns ru (ar i)) na with
  | error e=>rw [hf] at h;cases h
  | ok q=>
   obtain ⟨kn,d,u⟩:=q;rw [hf] at h;simp only [DC] at h;cases hr:ru (.mk k s n nl li na ar) u with
   | error e=>rw [hr] at h;cases h
   | ok m=>
    rw [hr] at h;simp only [yH] at h;by_cases hle:(if kn=true then 0 else d+m)≤8
    ·rw [if_pos hle] at h;injection h with h;subst h;exact hle
    ·rw [if_neg hle] at h;cases h
theorem rF {f:Nat→Except Int (Bool × Nat)} (hf: ∀ i r,f i= .ok r→r.2≤8): ∀ {n:Nat} {r:Bool × Nat × Nat},bK f n= .ok r→r.2.1≤8∧r.2.2≤n
 | 0,r,h=>by injection h with h;subst h;exact ⟨by show 0≤8;omega,Nat.le_refl _⟩
 | n+1,r,h=>by
  simp only [bK] at h;split at h
  ·cases h
  ·next kn d u h1=>
   have ih:=rF hf h1;split at h
   ·cases h
   ·next k' d' h2=>
    have:=hf _ _ h2;injection h with h;subst h;simp only at this ih ⊢;refine ⟨by omega,?_⟩;split<;>omega
def YZ (k:Int):Option FuncId:=match k with | 2=>some 164 | 3=>some 165 | 7=>some 166 | 8=>some 167 | 10=>some 168 | 14=>some 169 | 11=>some 170 | 13=>some 171 | 12=>some 172 | _=>none
def Ip (x:Par) (t:Int) (ns:Nms) (ru:Ex→Nat→Except Int Nat) (ks:Ex→Prop):Prop:=
 ∀ e unk,ks e→okE e→aW e=true→unk≤2→(∀ m,ru e unk= .ok m→m≤4294967296)∧match YZ e.kind with | some f=>jg x t ns f e unk (ru e unk) | none=>ru e unk= .ok 0
def ad3 (ks:Ex→Prop):Ex→Prop
 | .nil=>False
 | .mk k s n nl li na ar=>ks (.mk k s n nl li na ar)∧ ∀ i,i<na→ad3 ks (ar i)
theorem wS {a b:AV} (h1:Clo a) (h2:Clo b): ∀ x,x∈[a,b]→Clo x:=by
 intro x hx;rcases List.mem_cons.1 hx with rfl | hx
 ·exact h1
 ·rw [List.mem_singleton] at hx;subst hx;exact h2
theorem DF:keysB (.int .i64) Io=true:=rfl
theorem Oh (k:Int) (h1:1≤k) (h2:k≤15):eP (.int .i64 k) Io=(YZ k).map fun f=> .fn (.func f) [.ptr 0 0] []:=by
 have:k=1∨k=2∨k=3∨k=4∨k=5∨k=6∨k=7∨k=8∨k=9∨k=10∨k=11∨k=12∨k=13∨k=14∨k=15:=by omega
 rcases this with rfl | rfl | rfl | rfl | rfl | rfl | rfl | rfl | rfl | rfl | rfl | rfl | rfl | rfl | rfl<;>rfl
theorem KP (l:List Nat): ∀ a,a∈l.map (fun (c:Nat)=>AV.v (.int .u32 c))→Clo a:=by
 intro a ha;obtain ⟨c,_,rfl⟩:=List.mem_map.1 ha;exact .v _
theorem DI {m:Nat} (ns:Nms):(∀ x:Value × AV,x∈nsE ns→lo m x.2)=True:=eq_true fun a ha=> .clo (tu ns _ (List.mem_map_of_mem ha))
theorem nU (l:List Nat):(∀ a,a∈l.map (fun (c:Nat)=>AV.v (.int .u32 c))→Clo a)=True:=eq_true (KP l)
theorem zN: ∀ ns:Nms,keysB .str (nsE ns)=true
 | []=>rfl
 | p::r=>zN r
def ShC (x:Par) (t:Int) (ns:Nms) (e:Ex) (o:Except Int (Bool × Nat)):Prop:=
 RD Tryz.prog 65 [.ptr 0 0, .g (exC e)] (hT x t ns) (fun r=> ∃ s,o= .ok s∧r=shA s) (fun r=> ∃ e,o= .error e∧r=lu e)
theorem gu {k:Int} {s:ByteArray} {n:Int} {nl:Nat} {li:Nat→Int} {na:Nat} {ar:Nat→Ex} (h:aW (.mk k s n nl li na ar)=true):(1≤k∧k≤15)∧na≤2∧ ∀ i,i<na→aW (ar i)=true:=by
 unfold aW at h;simp only [Bool.and_eq_true,Bool.not_eq_true',decide_eq_true_eq,decide_eq_false_iff_not] at h;obtain ⟨h1,h2,_,h4,_,_,_,_,h8⟩:=h;have hk: ∀ m:Nat,argN m≤2:=fun m=>by unfold argN;split<;>decide
 have:=hk k.toNat;refine ⟨⟨by omega,by omega⟩,by omega,fun i hi=>?_⟩;unfold aI at h8;have h9:=List.any_eq_false.1 h8 i (List.mem_range.2 hi);simpa using h9
theorem ad4 (x:Par) (t:Int) (ns:Nms) (ru:Ex→Nat→Except Int Nat) (ks:Ex→Prop) (hns: ∀ s r,aF ns s=some r→r.2≤8) (hR:Ip x t ns ru ks) (e:Ex) (ho:okE e) (hf:aW e=true) (hk:ad3 ks e):ShC x t ns e (shE ns ru e):=by
 induction e with
 | nil=>exact ho.elim
 | mk k s n nl li na ar ih=>
 obtain ⟨hs,hnl,hna,hh⟩:=ho;have ⟨⟨hk1,hk2⟩,ah4,hfa⟩:=gu hf;refine RD.of ?_ (by rintro r ⟨s,_,rfl⟩;exact .clo (AO s)) (by rintro r ⟨e,_,rfl⟩;exact .clo (iG e)) (KI x t ns);rw [dh];unfold hT tyC;have hS:shE ns ru (.mk k s n nl li na ar)=if k=1 then Dz (aF ns s) else DC (ru (.mk k s n nl li na ar)) (bK (fun i=>shE ns ru (ar i)) na):=rfl
 obtain ⟨c,hc⟩: ∃ c,c=afo (ru (.mk k s n nl li na ar)) (bK (fun i=>shE ns ru (ar i)) na):=⟨_,rfl⟩
 refine Wv.HTP.by 76 [1,3,15,0,6,5,4,33,32,34,31,10,7,11,48,8,12,59,69] [(2,11),(16,4),(18,6),(1000000,2),(4000018,c)] [.cell 4 42] Tryz.func65 rfl rfl rfl ?base ?_
 case base=>rfl
 by_cases hk1:k=1
 ·rw [if_pos hk1] at hS;cases hq:aF ns s with
  | none=>
   rw [hq] at hS;simp only [Dz] at hS;have hlm:=wR s ns;rw [hq] at hlm;simp only [Option.map_none] at hlm;refine Wv.W3 (ah hk1) @zN hlm ?_;refine aJ (fst:=[]) (cap:=[]) (bI false 230) (by rintro av h' ⟨hb,_⟩;cases hb) ?_;rintro av h' ⟨_,rfl,rfl⟩;refine Wv.W2 @bV hS ?_;exact ⟨230,rfl,rfl⟩
  | some r=>
   rw [hq] at hS;simp only [Dz] at hS;have hlm:=wR s ns;rw [hq] at hlm;simp only [Option.map_some,shA] at hlm;refine Wv.W3 (ah hk1) @zN hlm ?_;refine aJ (fst:=[]) (cap:=[]) (bI true 230) ?_ (by rintro av h' ⟨hb,_⟩;cases hb);rintro av h' ⟨_,rfl,rfl⟩;refine Wv.W1 hS ?_;exact ⟨r,rfl,rfl⟩
 ·rw [if_neg hk1] at hS;refine Wv.W1 (aj hk1) ?_;generalize hfE:(fun i=>shE ns ru (ar i))=fE at hS hc;have hLc:=dw (n:=na) (f:=fun i=>exC (ar i)) fun i _=>eX (ar i)
  have hdr: ∀ i,i<na→ ∃ r,List.drop (i*5) (cO na fun i=>exC (ar i))=exC (ar i)++r:=fun i hi=>bH (f:=fun i=>exC (ar i)) (fun i=>gJ (ar i)) hi
  generalize hL:(cO na fun i=>exC (ar i))=L at hLc hdr ⊢;refine aQ (σ:=Nat) (fun i=>[(0, .ptr 0 0),(3, .ptr 2 0),(4, .ptr 3 0),(7, .ptr 4 0),(8, .v (.int .i64 (KO (bK fE i)).2.2)),(31, .t na 5 L),(32, .v (.int .i64 na)),(33, .v (.int .i64 i))])
   (fun i=>[some (.blk [.v (.int .i64 x.n), .v (.int .u32 x.p), .v (.int .i64 x.r), .t x.ch.length 1 (x.ch.map fun (c:Nat)=> .v (.int .u32 c)), .v (.int .u32 x.sp), .v (.int .i64 x.wt), .v (.int .u32 x.er), .v (.int .i64 t), .mp 1]),some (.map (nsE ns)),
    some (.blk [.v (.int .i64 k), .v (.string s), .v (.int .i64 n), .t nl 1 (tab nl fun i=> .v (.int .i64 (li i))), .t na 5 L]),some (.blk [.v (.bool false), .v (.int .i64 0)]),some (.blk [.v (.bool (KO (bK fE i)).1), .v (.int .i64 (KO (bK fE i)).2.1)])])
   (fun i=>i≤na∧bK fE i= .ok (KO (bK fE i))) (fun i=>na - i) 0 ⟨Nat.zero_le _,rfl⟩ (by simp (disch:=first|exact Wv.D|fail) only [Wv.B,simprocAttr,bK,KO]) (by simp (disch:=first|exact Wv.D|fail) only [Wv.B,simprocAttr,bK,KO]) ?_
  rintro i ⟨hi,hfo⟩;obtain ⟨r,hr⟩: ∃ r,KO (bK fE i)=r:=⟨_,rfl⟩
  rw [hr] at hfo;by_cases hlt:i<na
  ·have e1:(i:Int)<na:=by omega
   obtain ⟨r2,hd⟩:=hdr i hlt;have T:=ih i (hh i hlt) (hfa i hlt) (hk.2 i hlt);have hfi:fE i=shE ns ru (ar i):=by rw [←hfE]
   obtain ⟨kn,d,u⟩:=r;have hle: ∀ r,shE ns ru (ar i)= .ok r→r.2≤8:=fun r h=>yJ hns (ar i) h
   have hbd:=rF (f:=fE) (fun j r h=>by
    rw [←hfE] at h;exact yJ hns (ar j) h) hfo
   simp only at hbd;have hG:=bU (ar i);have hE:=RD.hT (x:=x) (t:=t) (ns:=ns) (args:=[.g (exC (ar i))]) T;generalize shE ns ru (ar i)=O at hE hfi hle;clear T;have hoy:=hh i hlt;generalize ar i=y at hd hE hG hoy;obtain ⟨k',s',n',nl',li',na',ar',rfl⟩:=lQ hoy;rw [dh] at hd hE hG;simp only [List.cons_append,List.nil_append] at hd;unfold tyC at hE;refine Wv.W2 hd hr ?_;refine aJ (fst:=[]) (cap:=[]) (hE _ (dR hG) (by rintro r ⟨s,_,rfl⟩;exact AO s) (by rintro r ⟨e,_,rfl⟩;exact iG e)) ?_ ?_
   ·rintro av h' ⟨⟨⟨k2,d2⟩,hO,rfl⟩,rfl⟩;subst hO;have hnx:bK fE (i+1)= .ok (kn && k2,max d d2,if k2=true then u else u+1):=by simp only [bK,hfo,hfi]
    have hng:KO (bK fE (i+1))=(kn && k2,max d d2,if k2=true then u else u+1):=by rw [hnx];rfl
    have hd2:=hle _ rfl;simp only at hd2;have hmx:(if (d2:Int)>(d:Int) then (d2:Int) else (d:Int))=((max d d2:Nat):Int):=by split<;>omega
    unfold shA;cases k2 with
    | true=>
     refine Wv.W1 hmx ?_;refine Wv.iO (i+1) 5 (by first | decide | exact Nat.le_of_ble_eq_true rfl) (⟨by omega,by rw [hnx];rfl⟩) (by omega) (Wv.V2f @bJ hng) (Wv.V3 @Int.natCast_add @Int.natCast_one hng) (by simp only [Wv.BL, ↓reduceIte,Nat.reduceLeDiff,eq_true hLc,nU,DI]<;>omega) (by simp only [Wv.BL, ↓reduceIte,Nat.reduceLeDiff,eq_true hLc,nU,DI]<;>omega)
    | false=>
     refine Wv.W1 hmx ?_;refine Wv.iO (i+1) 5 (by first | decide | exact Nat.le_of_ble_eq_true rfl) (⟨by omega,by rw [hnx];rfl⟩) (by omega) (Wv.V2f @bJ hng) (Wv.V3 @Int.natCast_add @Int.natCast_one hng) (by simp only [Wv.BL, ↓reduceIte,Nat.reduceLeDiff,eq_true hLc,nU,DI]<;>omega) (by simp only [Wv.BL, ↓reduceIte,Nat.reduceLeDiff,eq_true hLc,nU,DI]<;>omega)
   ·rintro av h' ⟨⟨e,hO,rfl⟩,rfl⟩;subst hO;have hnx:bK fE (i+1)= .error e:=by simp only [bK,hfo,hfi]
    rw [yI hnx (n:=na) (by omega)] at hS;simp only [DC] at hS;refine Wv.W2 @bV hS ?_;exact ⟨e,rfl,rfl⟩
  ·have hin:i=na:=by omega
   subst hin;obtain ⟨kn,d,u⟩:=r;have hbd:=rF (f:=fE) (fun j r h=>by
    rw [←hfE] at h;exact yJ hns (ar j) h) hfo
   simp only at hbd;rw [hfo] at hS hc;simp only [DC] at hS;simp only [afo] at hc;have hRu:=hR (.mk k s n nl li i ar) u hk.1 ⟨hs,hnl,hna,hh⟩ hf (by omega);generalize ru (.mk k s n nl li i ar) u=O at hS hRu hc;have hlr:=Oh k (by omega) hk2;have hG:=bU (.mk k s n nl li i ar);rw [dh] at hG;obtain ⟨hm,hRf⟩:=hRu;unfold jg Ex.kind at hRf;rw [dh] at hRf;rw [hL] at hG hRf;refine Wv.W1 hr ?_;refine dD (fst:=[]) (cap:=[]) (Ur (Nat.zero_lt_succ _) (by simp only [Wv.BL, ↓reduceIte,Nat.reduceLeDiff,DI,nU,eq_true hLc,List.length_cons,List.length_nil,Nat.reduceAdd,Nat.reduceLT])) ?_ (by rintro av h' ⟨h,_⟩;exact h.elim);cases hq:YZ k with
   | none=>
    rw [hq] at hlr hRf;simp only at hRf;simp only [Option.map_none] at hlr;subst hRf;cases kn with
    | true=>
     have hS1:yH true d (.ok 0)= .ok (true,0):=rfl;rw [hS1] at hS;refine Wv.W2 @DF hlr ?_;refine aJ (fst:=[]) (cap:=[]) (bI true 232) ?_ (by rintro av h' ⟨hb,_⟩;cases hb);rintro av h' ⟨_,rfl,rfl⟩;refine Wv.W1 hS ?_;exact ⟨_,rfl,rfl⟩
    | false=>
     have hS1:yH false d (.ok 0)= .ok (false,d):=if_pos (by show d+0≤8;omega);rw [hS1] at hS;have hd8:(d:Int)≤8:=by omega
     refine Wv.W3 @DF hlr (ah hd8) ?_;refine aJ (fst:=[]) (cap:=[]) (bI true 232) ?_ (by rintro av h' ⟨hb,_⟩;cases hb);rintro av h' ⟨_,rfl,rfl⟩;refine Wv.W1 hS ?_;exact ⟨_,rfl,rfl⟩
   | some f=>
    rw [hq] at hlr hRf;simp only at hRf;simp only [Option.map_some] at hlr;have hE:=RD.hT (x:=x) (t:=t) (ns:=ns) (args:=[.g _, .v (.int .i64 u)]) hRf;unfold tyC at hE;simp (disch:=first|exact Wv.D|fail) only [Wv.B,simprocAttr,DF,hlr];cases O with
    | error e=>
     have hc1:c=1:=hc;refine dD (res:= .t 1 1 []) (fst:=[.ptr 0 0]) (cap:=[]) ((hE _ (wS hG Wv.c) (by rintro r ⟨s,_,rfl⟩;exact .v _) (by rintro r ⟨e,_,rfl⟩;exact iG e)).mono (by rintro r h' ⟨⟨_,q,_⟩,_⟩;cases q) (fun _ _ q=>q)) ?_ ?_
     ·refine Wv.W1 hc1 ?_;exact ⟨5,_,_,rfl,rfl,rfl,rfl,rfl⟩
     ·rintro av h' ⟨⟨e',q,rfl⟩,rfl⟩;injection q with q;subst q;have hS2:yH kn d (.error e)= .error e:=rfl;rw [hS2] at hS;refine Wv.W2 @bV hS ?_;exact ⟨_,rfl,rfl⟩
    | ok m=>
     have hm':=hm m rfl;have hc1:c=0:=hc;refine dD (res:= .v (.int .i64 m)) (fst:=[.ptr 0 0]) (cap:=[]) ((hE _ (wS hG Wv.c) (by rintro r ⟨s,_,rfl⟩;exact .v _) (by rintro r ⟨e,_,rfl⟩;exact iG e)).mono (by rintro r h' ⟨⟨_,q,rfl⟩,rfl⟩;injection q with q;subst q;exact ⟨rfl,rfl⟩) (fun _ _ q=>q)) ?_ (by rintro av h' ⟨⟨_,q,_⟩,_⟩;cases q);have hS2:yH kn d (.ok m)=if (if kn=true then 0 else d+m)≤8 then .ok (kn,if kn=true then 0 else d+m) else .error 232:=rfl
     rw [hS2] at hS;cases kn with
     | true=>
      simp only [if_true,Nat.zero_le] at hS;refine Wv.W1 hc1 ?_;refine aJ (fst:=[]) (cap:=[]) (bI true 232) ?_ (by rintro av h' ⟨hb,_⟩;cases hb);rintro av h' ⟨_,rfl,rfl⟩;refine Wv.W1 hS ?_;exact ⟨_,rfl,rfl⟩
     | false=>
      simp only [Bool.false_eq_true,if_false] at hS;by_cases h8:d+m≤8
      ·rw [if_pos h8] at hS;have hd8:(d:Int)+m≤8:=by omega
       refine Wv.W2 hc1 (ah hd8) ?_;refine aJ (fst:=[]) (cap:=[]) (bI true 232) ?_ (by rintro av h' ⟨hb,_⟩;cases hb);rintro av h' ⟨_,rfl,rfl⟩;refine Wv.W1 hS ?_;exact ⟨_,rfl,by unfold shA;rw [Int.natCast_add]⟩
      ·rw [if_neg h8] at hS;have hd8: ¬ (d:Int)+m≤8:=by omega
       refine Wv.W2 hc1 (aj hd8) ?_;refine aJ (fst:=[]) (cap:=[]) (bI false 232) (by rintro av h' ⟨hb,_⟩;cases hb) ?_;rintro av h' ⟨_,rfl,rfl⟩;refine Wv.W2 @bV hS ?_;exact ⟨_,rfl,rfl⟩
end
section
open Go.RowKit Wv
def jM (t:Int) (nl:Nat) (li:Nat→Int) (least most:Int):Bool:=decide (least≤(nl:Int)) && (decide ((nl:Int)≤most) && !aI nl fun i=>!nG t (li i))
theorem KQ (x:Par) (t:Int) (ns:Nms) (n:Int) (hn:inB n=true) (ht:1≤t) (ht':t≤4611686018427387904):
  HT Tryz.prog 239 [.v (.int .i64 n), .ptr 2 0] (hT x t ns++[some (.blk [.ptr 0 0])]) (fun r h'=>r= .v (.bool (!nG t n))∧h'=hT x t ns++[some (.blk [.ptr 0 0])]):=by
 have hE:=RD.hT (Qd x t ns n hn ht ht');generalize nG t n=b at*;unfold hT tyC at*;simp only [List.cons_append,List.nil_append] at*;refine Wv.HT.by 8 [1,0,3] [(1000000,3)] [.tmp 3] Tryz.func239 rfl rfl rfl ?base ?_
 case base=>rfl
 refine Wv.W ?_;refine aJ (fst:=[]) (cap:=[]) (hE _ Wv.c (by rintro r rfl;simp only [Wv.BC]) (by rintro r h;exact h.elim)) ?_ (by rintro av h' ⟨h,_⟩;exact h.elim);rintro av h' ⟨rfl,rfl⟩;exact Wv.V
theorem DJ (x:Par) (t:Int) (ns:Nms) (nl:Nat) (li:Nat→Int) (least most:Int) (hn:nl≤140737488351232) (hin: ∀ i,i<nl→inB (li i)=true) (ht:1≤t) (ht':t≤4611686018427387904):
  RD Tryz.prog 213 [.ptr 0 0, .t nl 1 (tab nl fun i=> .v (.int .i64 (li i))), .v (.int .i64 least), .v (.int .i64 most)] (hT x t ns) (fun r=>jM t nl li least most=true∧r= .tup []) (fun r=>jM t nl li least most=false∧r=lu 233):=by
 refine RD.of ?_ (fun r q=>q.2▸ .clo Wv.c) (fun r q=>q.2▸ .clo (iG 233)) (KI x t ns);have hC:=yu (h:=hT x t ns++[(some (Ob.blk [AV.ptr 0 0]):Option Ob)]) nl li (fun i=>!nG t (li i)) 239 [] [.ptr 2 0] hn (fun i hi=>KQ x t ns (li i) (hin i hi) ht ht');have hL:jM t nl li least most=(decide (least≤(nl:Int)) && (decide ((nl:Int)≤most) && !aI nl fun i=>!nG t (li i))):=rfl;generalize (aI nl fun i=>!nG t (li i))=b at*;generalize jM t nl li least most=B at*;unfold hT tyC at*;simp only [List.cons_append,List.nil_append] at*;refine Wv.HTP.by 27 [0,4,1,2,3,8] [(1000000,2)] [] Tryz.func213 rfl rfl rfl ?base ?_
 case base=>rfl
 cases h1:decide (least≤(nl:Int))
 ·rw [h1,Bool.false_and] at hL;refine Wv.W1 h1 ?_;refine aJ (fst:=[]) (cap:=[]) (bI _ 233) (by rintro av h' ⟨hb,_⟩;cases hb) ?_;rintro av h' ⟨_,rfl,rfl⟩;refine Wv.W1 @bV ?_;exact hL
 cases h2:decide ((nl:Int)≤most)
 ·rw [h1,h2,Bool.false_and,Bool.and_false] at hL;refine Wv.W2 h1 h2 ?_;refine aJ (fst:=[]) (cap:=[]) (bI _ 233) (by rintro av h' ⟨hb,_⟩;cases hb) ?_;rintro av h' ⟨_,rfl,rfl⟩;refine Wv.W1 @bV ?_;exact hL
 rw [h1,h2,Bool.true_and,Bool.true_and] at hL;refine Wv.W2 h1 h2 ?_;refine aB (fst:=[]) (cap:=[]) hC ?_;rintro av h' ⟨rfl,rfl⟩;refine Wv.W ?_;refine aJ (fst:=[]) (cap:=[]) (bI _ 233) ?_ ?_
 ·rintro av h' ⟨hb,rfl,rfl⟩;refine Wv.W ?_;exact hL.trans hb
 ·rintro av h' ⟨hb,rfl,rfl⟩;refine Wv.W1 @bV ?_;exact hL.trans hb
theorem uY {h:Hp} (e:Int):HTP Tryz.prog 66 [.v (.bool true), .v (.int .i64 e)] h (fun r h'=>r= .tup []∧h'=h) (fun _ _=>False):=
 (bI true e).mono (fun _ _ q=>q.2) (fun _ _ q=>by cases q.1)
theorem tC {h:Hp} (e:Int) (res:AV):HTP Tryz.prog 66 [.v (.bool false), .v (.int .i64 e)] h (fun r h'=>r=res∧h'=h) (fun r h'=>r=lu e∧h'=h):=
 (bI false e).mono (fun _ _ q=>by cases q.1) (fun _ _ q=>q.2)
theorem zO (x:Par) (t:Int) (ns:Nms) (nl:Nat) (li:Nat→Int) (least most:Int) (hn:nl≤140737488351232) (hin: ∀ i,i<nl→inB (li i)=true) (ht:1≤t) (ht':t≤4611686018427387904) (hb:jM t nl li least most=true) (r:Hp):
  HTP Tryz.prog 213 [.ptr 0 0, .t nl 1 (tab nl fun i=> .v (.int .i64 (li i))), .v (.int .i64 least), .v (.int .i64 most)] (some (.blk (tyC x t))::some (.map (nsE ns))::r) (fun q h'=>q= .tup []∧h'=some (.blk (tyC x t))::some (.map (nsE ns))::r) (fun _ _=>False):=
 (RD.hT (DJ x t ns nl li least most hn hin ht ht') r Wv.c (by rintro r ⟨_,rfl⟩;simp only [Wv.BC]) (by rintro r ⟨_,rfl⟩;exact iG 233)).mono (fun _ _ q=>⟨q.1.2,q.2⟩) (fun _ _ q=>by rw [hb] at q;cases q.1.1)
theorem DK (x:Par) (t:Int) (ns:Nms) (nl:Nat) (li:Nat→Int) (least most:Int) (hn:nl≤140737488351232) (hin: ∀ i,i<nl→inB (li i)=true) (ht:1≤t) (ht':t≤4611686018427387904) (hb:jM t nl li least most=false) (res:AV) (r:Hp):
  HTP Tryz.prog 213 [.ptr 0 0, .t nl 1 (tab nl fun i=> .v (.int .i64 (li i))), .v (.int .i64 least), .v (.int .i64 most)] (some (.blk (tyC x t))::some (.map (nsE ns))::r) (fun q h'=>q=res∧h'=some (.blk (tyC x t))::some (.map (nsE ns))::r) (fun q h'=>q=lu 233∧h'=some (.blk (tyC x t))::some (.map (nsE ns))::r):=
 (RD.hT (DJ x t ns nl li least most hn hin ht ht') r Wv.c (by rintro r ⟨_,rfl⟩;simp only [Wv.BC]) (by rintro r ⟨_,rfl⟩;exact iG 233)).mono (fun _ _ q=>by rw [hb] at q;cases q.1.1) (fun _ _ q=>⟨q.1.2,q.2⟩)
theorem Iq (x:Par) (t:Int) (ns:Nms) (k:Int) (s:ByteArray) (n:Int) (nl:Nat) (li:Nat→Int) (na:Nat) (ar:Nat→Ex) (unk:Nat) (hn:nl≤140737488351232) (hin: ∀ i,i<nl→inB (li i)=true) (ht:1≤t) (ht':t≤4611686018427387904):
  jg x t ns 165 (.mk k s n nl li na ar) unk (if jM t nl li 0 x.n=true then .ok 0 else .error 233):=by
 refine jg.of ?_;have hY:=zO x t ns nl li 0 x.n hn hin ht ht';have hZ:=DK x t ns nl li 0 x.n hn hin ht ht';generalize jM t nl li 0 x.n=b at*;rw [dh];have hM:=dw (n:=na) (f:=fun i=>exC (ar i)) fun i _=>eX (ar i)
 generalize cO na (fun i=>exC (ar i))=M at*;unfold hT tyC at*;obtain ⟨c,hc⟩: ∃ c:Nat,c=if b=true then 0 else 1:=⟨_,rfl⟩
 refine Wv.HTP.by 16 [1,0,4,6] [(1,9),(1000000,2),(4000001,c)] [.tmp 6] Tryz.func165 rfl rfl rfl ?base ?_
 case base=>rfl
 cases b with
 | false=>
  have hc1:c=1:=hc;refine Wv.W ?_;refine dD (fst:=[]) (cap:=[]) (hZ rfl (.t 1 1 []) _) ?_ ?_
  ·refine Wv.W1 hc1 ?_;exact ⟨8,_,_,rfl,rfl,rfl,rfl,rfl⟩
  ·rintro av h' ⟨rfl,rfl⟩;refine Wv.W1 @bV ?_;exact ⟨233,rfl,rfl⟩
 | true=>
  have hc1:c=0:=hc;refine Wv.W ?_;refine dD (fst:=[]) (cap:=[]) (hY rfl _) ?_ (fun _ _ q=>q.elim);refine Wv.W1 hc1 ?_;exact ⟨0,rfl,rfl⟩
def Us (n:Int):Bool:=!decide (n=0) && !decide (n=1)
theorem Ut (n:Int):TC Tryz.prog 214 [.v (.int .i64 n)] (.v (.bool (Us n))):=by
 refine Wv.TC.by 9 [0,2] [] [.tmp 2] Tryz.func214 rfl rfl rfl ?clo ?_
 case clo=>simp only [Wv.BC]
 unfold Us;cases h1:decide (n=0)
 ·exact Wv.V1 h1
 ·exact Wv.V1 h1
def KR (x:Par) (n:Int):Bool:=decide (0≤n) && decide (n<x.n / 2)
theorem Uu (x : Par) (t : Int) (ns : Nms) (k : Int) (s : ByteArray) (n : Int) (nl : Nat) (li : Nat → Int) (na : Nat) (ar : Nat → Ex) (unk : Nat) (hN : 0 ≤ x.n) (hN' : x.n ≤ 4611686018427387904) :
    jg x t ns 167 (.mk k s n nl li na ar) unk (if KR x n = true then .ok 0 else .error 233) := by
  refine jg.of ?_;have hb : KR x n = (decide (0 ≤ n) && decide (n < x.n / 2)) := rfl;generalize KR x n = b at *;rw [dh];have hM := dw (n := na) (f := fun i => exC (ar i)) fun i _ => eX (ar i)
  generalize cO na (fun i => exC (ar i)) = M at *;unfold hT tyC at *;obtain ⟨c, hc⟩ : ∃ c : Nat, c = if b = true then 0 else 1 := ⟨_, rfl⟩
  refine Wv.HTP.by 22 [1, 4, 0, 6] [(1, 15), (1000000, 2), (4000001, c)] [.tmp 6] Tryz.func167 rfl rfl rfl ?base ?_
  case base => rfl
  have hq : x.n.tdiv 2 = x.n / 2 := Int.tdiv_eq_ediv_of_nonneg hN;cases h1 : decide (0 ≤ n) <;> cases h2 : decide (n < x.n / 2);all_goals
    rw [h1, h2] at hb;refine Wv.W3 hq h1 h2 ?_;first
    | (have hbt : b = true := hb
       subst hbt;have hc1 : c = 0 := hc;refine dD (fst := []) (cap := []) (uY 233) ?_ (fun _ _ q => q.elim);refine Wv.W1 hc1 ?_;exact ⟨0, rfl, rfl⟩)
    | (have hbt : b = false := hb
       subst hbt;have hc1 : c = 1 := hc;refine dD (fst := []) (cap := []) (tC 233 (.t 1 1 [])) ?_ ?_
       · simp (disch:=first|exact Wv.D|fail) only [Wv.B, simprocAttr, hc1]
         exact ⟨14, _, _, rfl, rfl, rfl, rfl, rfl⟩
       · rintro av h' ⟨rfl, rfl⟩
         refine Wv.W1 @bV ?_;exact ⟨233, rfl, rfl⟩)
def alx (nl:Nat) (li:Nat→Int):Bool:=!aI nl fun i=>Us (li i)
def FX (x:Par) (nl:Nat) (li:Nat→Int):Bool:=decide ((nl:Int)≤x.n) && alx nl li
theorem Oi (x:Par) (t:Int) (ns:Nms) (k:Int) (s:ByteArray) (n:Int) (nl:Nat) (li:Nat→Int) (na:Nat) (ar:Nat→Ex) (unk:Nat) (hn:nl≤140737488351232):
  jg x t ns 168 (.mk k s n nl li na ar) unk (if FX x nl li=true then .ok 0 else .error 233):=by
 refine jg.of ?_;have hb:FX x nl li=(decide ((nl:Int)≤x.n) && !aI nl fun i=>Us (li i)):=rfl;have hC:=fun h=>(yu (h:=h) nl li (fun i=>Us (li i)) 214 [] [] hn (fun i hi=>HT.PZ (Ut (li i)) rfl Wv.c Wv.c)).toP (fun _ _=>False)
 generalize FX x nl li=b at*;generalize (aI nl fun i=>Us (li i))=b2 at*;rw [dh];have hM:=dw (n:=na) (f:=fun i=>exC (ar i)) fun i _=>eX (ar i)
 generalize cO na (fun i=>exC (ar i))=M at*;unfold hT tyC at*;obtain ⟨c,hc⟩: ∃ c:Nat,c=if b=true then 0 else 1:=⟨_,rfl⟩
 refine Wv.HTP.by 25 [1,4,0,7,6] [(2,17),(1000000,2),(4000002,c)] [.tmp 6] Tryz.func168 rfl rfl rfl ?base ?_
 case base=>rfl
 cases h1:decide ((nl:Int)≤x.n)
 ·rw [h1] at hb;have hbt:b=false:=hb;subst hbt;have hc1:c=1:=hc;refine Wv.W1 h1 ?_;refine dD (fst:=[]) (cap:=[]) (tC 233 (.t 1 1 [])) ?_ ?_
  ·refine Wv.W1 hc1 ?_;exact ⟨16,_,_,rfl,rfl,rfl,rfl,rfl⟩
  ·rintro av h' ⟨rfl,rfl⟩;refine Wv.W1 @bV ?_;exact ⟨233,rfl,rfl⟩
 ·rw [h1] at hb;refine Wv.W1 h1 ?_;refine dD (fst:=[]) (cap:=[]) (hC _) ?_ (fun _ _ q=>q.elim);cases b2 with
  | false=>
   have hbt:b=true:=hb;subst hbt;have hc1:c=0:=hc;refine Wv.W ?_;refine dD (fst:=[]) (cap:=[]) (uY 233) ?_ (fun _ _ q=>q.elim);refine Wv.W1 hc1 ?_;exact ⟨0,rfl,rfl⟩
  | true=>
   have hbt:b=false:=hb;subst hbt;have hc1:c=1:=hc;refine Wv.W ?_;refine dD (fst:=[]) (cap:=[]) (tC 233 (.t 1 1 [])) ?_ ?_
   ·refine Wv.W1 hc1 ?_;exact ⟨16,_,_,rfl,rfl,rfl,rfl,rfl⟩
   ·rintro av h' ⟨rfl,rfl⟩;refine Wv.W1 @bV ?_;exact ⟨233,rfl,rfl⟩
theorem KT (x:Par) (t:Int) (ns:Nms) (k:Int) (s:ByteArray) (n:Int) (nl:Nat) (li:Nat→Int) (na:Nat) (ar:Nat→Ex) (unk:Nat) (ht:1≤t) (ht':t≤4611686018427387904):
  jg x t ns 172 (.mk k s n nl li na ar) unk (if x.r=1 then .ok (dU (t - 1)) else .error 231):=by
 refine jg.of ?_;rw [dh];have hM:=dw (n:=na) (f:=fun i=>exC (ar i)) fun i _=>eX (ar i)
 generalize cO na (fun i=>exC (ar i))=M at*;unfold hT tyC at*;have T:=yB (t - 1) (by omega);generalize dU (t - 1)=st at*;refine Wv.HTP.by 20 [1,0,6] [(1000000,2)] [.tmp 6] Tryz.func172 rfl rfl rfl ?base ?_
 case base=>rfl
 by_cases hr:x.r=1
 ·refine Wv.W1 (ah hr) ?_;refine aJ (fst:=[]) (cap:=[]) (bI _ 231) ?_ (by rintro av h' ⟨hb,_⟩;simp [hr] at hb);rintro av h' ⟨_,rfl,rfl⟩;refine Wv.W ?_;refine ak T rfl Wv.c Wv.c ?_;simp (disch:=first|exact Wv.D|fail) only [Wv.B,simprocAttr,if_pos hr];exact ⟨_,rfl,rfl⟩
 ·refine Wv.W1 (aj hr) ?_;refine aJ (fst:=[]) (cap:=[]) (bI _ 231) (by rintro av h' ⟨hb,_⟩;simp [hr] at hb) ?_;rintro av h' ⟨_,rfl,rfl⟩;simp (disch:=first|exact Wv.D|fail) only [Wv.B,simprocAttr,bV,if_neg hr];exact ⟨_,rfl,rfl⟩
end
end Go.Proofs.YtljfgdlgmdcmfaaGreat
namespace Go.Proofs.YtljfgdlgmdcmfaaGreat.Wv
section
open Go.RowKit
abbrev Rnd (l:Nat):Fence:=Fence.wide.inRound l
def noD (o:Oper):Bool:=match o.op with
 | .defer _=>false
 | _=>true
def inB:Code→Bool
 | .region _ ops _=>ops.toList.all noD
 | .seq a b=>inB a && inB b
 | .cond _ a b=>inB a && inB b
 | .block _ b=>inB b
 | .loop b=>inB b
 | .scope _=>false
 | .rangeFunc .. =>false
 | _=>true
theorem Y1 {o:Oper} (h:noD o=true): ∀ c,o.op≠ .defer c:=fun c e=>by unfold noD at h;rw [e] at h;cases h
theorem afp {P : Program} {o : Oper} {a : Act} {w : World} {next : Act → World → Prop} {Q : Exit → Act → World → Prop} {l n : Nat} (hd : ∀ c, o.op ≠ .defer c) (h : o.wp P a w next Q) : o.wpIn (Rnd l) n P a w next Q := by
  refine ⟨fun _ _ => trivial, ?_⟩;rw [Oper.semAt_eq _ _ _ hd];unfold Oper.wp at h;revert h;cases (execOp a.eval o).run P w with
  | ok x w' =>
    cases x <;> simp only [Oper.upon, Oper.uponIn] <;> intro h <;> first
      | exact h
      | exact h.elim
      | exact And.intro (fun e => by cases e) ((((callsIn_wide (n := n - 1)).2 h).inRound l).mono (fun e w'' q => by cases e <;> exact q))
      | (refine And.intro (fun e => by cases e) (fun c cs _ => ?_)
         obtain ⟨v, w', r, s⟩ := h c cs;exact ⟨v, w', r, stepsIn_wide.2 s⟩)
  | halt x w' => cases x <;> simp only [Oper.upon, Oper.uponIn] <;> intro h <;> first | exact h | exact h.elim
theorem Ir {P:Program} {ops:Array Oper} {Q:Exit→Act→World→Prop} {r n:Nat} (hd:ops.toList.all noD=true) (hQ: ¬ LetsOut Q): ∀ (l:List Nat) (a:Act) (w:World),wpOps P ops Q l a w→wpOpsIn (Rnd r) n P ops Q l a w
 | [],a,w,h=>h
 | i::l,a,w,h=>by
  rw [wpOps_cons] at h;rw [wpOpsIn_cons];unfold wpOp at h;unfold wpOpIn;split at h
  ·next ho=>simp only [ho];exact Ir hd hQ l a w h
  ·next o ho=>
   simp only [ho];split at h
   ·next hw=>
    rw [if_pos hw];rcases h with h | h
    ·refine afp (Y1 (List.all_eq_true.1 hd o (List.mem_of_getElem? (i:=i) (by rw [Array.getElem?_toList];exact ho)))) ?_;exact Oper.wp_mono (fun a w q=>Ir hd hQ l a w q) h
    ·exact absurd h.2 hQ
   ·next hw=>rw [if_neg hw];exact ⟨fun _ _=>trivial,Ir hd hQ l _ w h⟩
theorem Iu {P:Program} {ops:Array Oper} {Q:Exit→Act→World→Prop} {r n:Nat} (hd:ops.toList.all noD=true) (hQ: ¬ LetsOut Q): ∀ (f:Nat) (listed:Array Bool) (a:Act) (w:World),wpAny P .any ops Q f listed a w→wpAnyIn (Rnd r) n P .any ops Q f listed a w
 | 0,listed,a,w,h=>h
 | f+1,listed,a,w,h=>by
  refine ⟨h.1,fun i hi=>?_⟩;have h:=h.2 i hi;unfold wpOp at h;unfold wpOpIn;split at h
  ·next ho=>simp only [ho];exact Iu hd hQ f _ a w h
  ·next o ho=>
   simp only [ho];split at h
   ·next hw=>
    rw [if_pos hw];rcases h with h | h
    ·refine afp (Y1 (List.all_eq_true.1 hd o (List.mem_of_getElem? (i:=i) (by rw [Array.getElem?_toList];exact ho)))) ?_;exact Oper.wp_mono (fun a w q=>Iu hd hQ f _ a w q) h
    ·exact absurd h.2 hQ
   ·next hw=>rw [if_neg hw];exact ⟨fun _ _=>trivial,Iu hd hQ f _ _ w h⟩
theorem least {p:Nat→Prop} (h: ∃ n,p n): ∃ n,p n∧ ∀ m,m<n→ ¬ p m:=by
 obtain ⟨n,hn⟩:=h;induction n using Nat.strongRecOn with
 | _ n ih=>
  by_cases hq: ∃ m,m<n∧p m
  ·obtain ⟨m,h1,h2⟩:=hq;exact ih m h1 h2
  ·exact ⟨n,hn,fun m hm hp=>hq ⟨m,hm,hp⟩⟩
theorem DL {F:Fence} {n:Nat} {P:Program} {Q:Exit→Act→World→Prop} {a:Act} {w:World} {c:Code} (J:Nat→Act→World→Prop) (m:Nat) (h0:J m a w)
  (hr: ∀ m a w,J m a w→c.wpIn F n P (Exit.then (fun a' w'=> ∃ m',m'<m∧J m' a' w') Q) a w):(Code.loop c).wpIn F n P Q a w:=by
 classical
 obtain ⟨μ,hμ⟩: ∃ μ :Act→World→Nat, ∀ a w,(∃ m,J m a w)→J (μ a w) a w∧ ∀ m,m< μ a w→ ¬ J m a w:=
  ⟨fun a w=>if h: ∃ m,J m a w then Classical.choose (least h) else 0,fun a w h=>by simp only [dif_pos h];exact Classical.choose_spec (least h)⟩
 refine wpIn_loop (fun a w=> ∃ m,J m a w) μ ⟨m,h0⟩ fun a w hI=>?_
 refine wpIn_mono (hr _ a w (hμ a w hI).1) fun e a' w' q=>?_
 cases e with
 | normal=>
  obtain ⟨m',h1,h2⟩:=q;refine ⟨⟨m',h2⟩,?_⟩;apply Nat.lt_of_not_le;intro hle;exact (hμ a' w' ⟨m',h2⟩).2 m' (by omega) h2
 | _=>exact q
theorem FY {n0:Nat} {X:Cx} {N:Nat} {Q:dA}: ¬ LetsOut (aP n0 X N Q):=fun ⟨_,_,h⟩=>h
theorem ql {P:Program} (bT:P.follows .mixedOrders=true) {N:Nat} {L:List Nat} {ks:List (Nat × Nat)} {r n:Nat} (hes: ∀ id,kOf ks id≠1000000): ∀ (c:Code) (Q:dA) (X:Cx) (e:Ev) (a:Act),dL N ks c=true→inB c=true→base ks≤X.h.length→Ok X→aN X N e a→bP P N L ks c Q e X.h→c.wpIn (Rnd r) n P (aP (base ks) X N Q) a X.w
 | .skip,Q,X,e,a,_,_,hn,hX,hE,h=>wpIn_skip ((aP.intro ((Step.refl X).toN hn) hX hE).1 h)
 | .ret,Q,X,e,a,_,_,hn,hX,hE,h=>wpIn_ret ((aP.intro ((Step.refl X).toN hn) hX hE).2.2 h)
 | .exit id,Q,X,e,a,_,_,hn,hX,hE,h=>wpIn_exit ((aP.intro ((Step.refl X).toN hn) hX hE).2.1 id h)
 | .label l,Q,X,e,a,_,_,hn,hX,hE,h=>wpIn_label ((aP.intro ((Step.refl X).toN hn) hX hE).1 h)
 | .scope b,Q,X,e,a,hk,hi,hn,hX,hE,h=>by cases hi
 | .rangeFunc f ps ag b,Q,X,e,a,hk,hi,hn,hX,hE,h=>by cases hi
 | .region id ops false,Q,X,e,a,hk,hi,hn,hX,hE,h=>by
  refine wpIn_region (Ir hi FY _ _ _ ?_);have:=Ar (P:=P) (Q:=aP (base ks) X N Q) (ops:=ops) (e1:=jm ops.toList e) (fun o ho=>mG ho e) hk ops.toList 0 X e a _ (fun i=>by rw [List.drop_zero]) hX hE (hE.del _) h
   (fun Y av v a' S hY hEY hr hp=>⟨v,av,Y,_,rfl,rfl,S.toN hn,hY,hEY,hr,hp⟩) (fun Y e' a' S hY hEY hq=>(aP.intro (S.toN hn) hY (hEY.keep L)).1 hq)
  rw [Array.length_toList, ←List.range_eq_range'] at this;exact this
 | .region id ops true,Q,X,e,a,hk,hi,hn,hX,hE,h=>by
  refine wpIn_region_any bT (Iu hi FY _ _ _ _ ?_);have h':qy (kOf ks id) (HY P N ks id ops Q e X.h) _:=h;unfold qy at h';rw [if_neg (hes id)] at h';have hk':nO N (kOf ks id) ops=true:=by
   have h0:(nO N (kOf ks id) ops || decide (kOf ks id=1000000))=true:=hk;rw [aj (hes id),Bool.or_false] at h0;exact h0
  exact J6 (id:=id) bT _ _ hk' hX hE h' (fun Y av v a' S hY hEY hr hp=>⟨v,av,Y,_,rfl,rfl,S.toN hn,hY,hEY,hr,hp⟩) fun Y e' a' S hY hEY hq=>(aP.intro (S.toN hn) hY (hEY.keep L)).1 hq
 | .seq x y,Q,X,e,a,hk,hi,hn,hX,hE,h=>by
  simp only [dL,Bool.and_eq_true] at hk;simp only [inB,Bool.and_eq_true] at hi;refine wpIn_seq (wpIn_mono (ql bT hes x _ X e a hk.1 hi.1 hn hX hE h) ?_);intro ex a' w' hp;have:=hp.elim;cases this with
  | ok z ex Y e' a' S hY hEY hq hx=>
   rcases hx with ⟨rfl,rfl⟩ | ⟨i,rfl,rfl⟩ | ⟨rfl,rfl⟩ | ⟨v,av,rfl,rfl,hr⟩
   ·exact wpIn_mono (ql bT hes y Q Y e' a' hk.2 hi.2 S.len hY hEY hq) fun ex a2 w2 hp2=>hp2.map hX S fun _ _ _ q=>q
   ·exact (aP.intro S hY hEY).2.1 i hq
   ·exact (aP.intro S hY hEY).2.2 hq
   ·exact ⟨v,av,Y,e',rfl,rfl,S,hY,hEY,hr,hq⟩
 | .cond c x y,Q,X,e,a,hk,hi,hn,hX,hE,h=>by
  simp only [dL,Bool.and_eq_true] at hk;simp only [inB,Bool.and_eq_true] at hi;obtain ⟨t,ht,h⟩:=h;have hr:=hE.dO c;rw [ht] at hr;have hv:a.eval c= .bool t:=by cases h1:a.eval c<;>rw [h1] at hr<;>cases hr;rfl
  refine wpIn_cond hv ?_;cases t
  ·exact ql bT hes y Q X e a hk.2 hi.2 hn hX hE (by simpa using h)
  ·exact ql bT hes x Q X e a hk.1 hi.1 hn hX hE (by simpa using h)
 | .block id b,Q,X,e,a,hk,hi,hn,hX,hE,h=>by
  refine wpIn_block (wpIn_mono (ql bT hes b _ X e a hk hi hn hX hE h) ?_);intro ex a' w' hp;have:=hp.elim;cases this with
  | ok z ex Y e' a' S hY hEY hq hx=>
   rcases hx with ⟨rfl,rfl⟩ | ⟨i,rfl,rfl⟩ | ⟨rfl,rfl⟩ | ⟨v,av,rfl,rfl,hr⟩
   ·exact (aP.intro S hY hEY).1 hq
   ·simp only at hq;show (if i=id then aP (base ks) X N Q .normal a' Y.w else aP (base ks) X N Q (.exit i) a' Y.w);split at hq
    ·next ei=>rw [if_pos ei];exact (aP.intro S hY hEY).1 hq
    ·next ei=>rw [if_neg ei];exact (aP.intro S hY hEY).2.1 i hq
   ·exact (aP.intro S hY hEY).2.2 hq
   ·exact ⟨v,av,Y,e',rfl,rfl,S,hY,hEY,hr,hq⟩
 | .loop b,Q,X,e,a,hk,hi,hn,hX,hE,h=>by
  obtain ⟨I,n₀,e₀,h₀,hent,hI,CY⟩:=h;obtain ⟨Y₀,y1,y2,y3,y4,y5⟩:=hent X a rfl hn hX hE;rw [←y1];refine DL (fun n a' w'=> ∃ Y e',Y.w=w'∧aT (base ks) X Y∧Ok Y∧aN Y N e' a'∧I n e' Y.h) n₀ ⟨Y₀,e₀,rfl,y3,y4,y5,by rw [y2];exact hI⟩ ?_;rintro n a' w' ⟨Y,e',rfl,S,hY,hEY,hIY⟩;refine wpIn_mono (ql bT hes b _ Y e' a' hk hi S.len hY hEY (CY n e' Y.h hIY)) ?_;intro ex a2 w2 hp;have:=hp.elim;cases this with
  | ok z ex Z e2 a2 S2 hZ hEZ hq hx=>
   rcases hx with ⟨rfl,rfl⟩ | ⟨i,rfl,rfl⟩ | ⟨rfl,rfl⟩ | ⟨v,av,rfl,rfl,hr⟩
   ·obtain ⟨n',e₁,h₁,J8,hlt,hI2⟩:=hq;obtain ⟨V,v1,v2,v3,v4,v5⟩:=J8 Z a2 rfl S2.len hZ hEZ;exact ⟨n',hlt,V,e₁,v1,(S.trans hX S2).trans hX v3,v4,v5,by rw [v2];exact hI2⟩
   ·exact (aP.intro (S.trans hX S2) hZ hEZ).2.1 i hq
   ·exact (aP.intro (S.trans hX S2) hZ hEZ).2.2 hq
   ·exact ⟨v,av,Z,e2,rfl,rfl,S.trans hX S2,hZ,hEZ,hr,hq⟩
 | .goto _,_,_,_,_,_,_,_,_,_,h=>h.elim
 | .refuse _,_,_,_,_,_,_,_,_,_,h=>h.elim
end
section
open Go.RowKit
inductive nt:AV→Prop
 | clo {a:AV} (h:Clo a):nt a
 | own {id n:Nat}:nt (.own id n)
 | ptr {id n:Nat}:nt (.ptr id n)
 | ap {id n o:Nat}:nt (.ap id n o)
 | mp {id:Nat}:nt (.mp id)
 | g {l:List AV} (h: ∀ (a:AV),a∈l→nt a):nt (.g l)
 | tup {l:List AV} (h: ∀ (a:AV),a∈l→nt a):nt (.tup l)
 | fn {f:Fn} {l1 l2:List AV} (h1: ∀ (a:AV),a∈l1→nt a) (h2: ∀ (a:AV),a∈l2→nt a):nt (.fn f l1 l2)
 | ifc {T:TypeId} {a:AV} (h:nt a):nt (.ifc T a)
def ntL (l:List AV):Prop:= ∀ (a:AV),a∈l→nt a
def ntH (m:Nat):Nat→Hp→Prop
 | _,[]=>True
 | k,none::r=>ntH m (k+1) r
 | k,some (.blk c)::r=>ntL c∧ntH m (k+1) r
 | k,some (.arr _ _ c _)::r=>ntL c∧ntH m (k+1) r
 | k,some (.map es)::r=>k<m∧ntL (es.map (·.2))∧ntH m (k+1) r
theorem tH {m:Nat}: ∀ {h:Hp} {k:Nat} (hn:ntH m k h) (i:Nat),(∀ c,h[i]? =some (some (.blk c))→ntL c)∧(∀ T s c fz,h[i]? =some (some (.arr T s c fz))→ntL c)∧(∀ es,h[i]? =some (some (.map es))→k+i<m∧ntL (es.map (·.2)))
 | [],k,_,i=>⟨fun c h=>by simp at h,fun T s c fz h=>by simp at h,fun es h=>by simp at h⟩
 | o::r,k,hn,0=>by
  refine ⟨fun c h=>?_,fun T s c fz h=>?_,fun es h=>?_⟩<;>simp at h<;>subst h
  ·exact hn.1
  ·exact hn.1
  ·exact ⟨hn.1,hn.2.1⟩
 | o::r,k,hn,i+1=>by
  have hr:ntH m (k+1) r:=by
   cases o with
   | none=>exact hn
   | some o=>cases o with
    | blk c=>exact hn.2
    | arr T s c fz=>exact hn.2
    | map es=>exact hn.2.2
  have ih:=tH hr i;refine ⟨fun c h=>ih.1 c (by simpa using h),fun T s c fz h=>ih.2.1 T s c fz (by simpa using h),fun es h=>?_⟩;have:=ih.2.2 es (by simpa using h);exact ⟨by omega,this.2⟩
section
variable {X:Cx} {W':World} {row:Option Nat}
theorem cell_far (hg:X.w.grownBy W' row) (hr: ∀ r,row=some r→ ∃ o:Obj,X.w.heap[r]? =some o∧o.isCells=false) {b off:Nat} {x:Value} (hx:cellAt X.w b off=some x):cellAt W' b off=some x:=by
 have hb:=eH hx;have hne:some b≠row:=fun e=>by
  obtain ⟨o,h1,h2⟩:=hr b e.symm;unfold cellAt World.cell? at hx;simp only [h1] at hx;cases o<;>first | (cases h2;done) | simp at hx
 unfold cellAt World.cell? at hx ⊢;rw [hg.block b hb hne];exact hx
theorem Rep.far (hg:X.w.grownBy W' row) (hr: ∀ r,row=some r→ ∃ o:Obj,X.w.heap[r]? =some o∧o.isCells=false) {a:AV} {x:Value} (h:Rep X a x) (hn:nt a):Rep ⟨W',X.m,X.h,X.bad,X.ds⟩ a x:=by
 have K: ∀ b o u,cellAt X.w b o=some u→ ¬ X.bad b o→cellAt W' b o=some u∧ ¬ X.bad b o:=fun b o u h1 h2=>⟨cell_far hg hr h1,h2⟩
 induction h with
 | v x=>exact .v x
 | none x=>exact .none x
 | t hl hc hn' hcap hp hr' ih=>cases hn with | clo h=>exact Rep.clo (Y:=⟨W',X.m,X.h,X.bad,X.ds⟩) (.t hl hc hn' hcap hp hr') h K
 | g hc hr' ih=>
  cases hn with
  | clo h=>exact Rep.clo (Y:=⟨W',X.m,X.h,X.bad,X.ds⟩) (.g hc hr') h K
  | g h=>exact .g hc fun i a x h1 h2=>ih i a x h1 h2 (h a (List.mem_of_getElem? h1))
 | tup hc hr' ih=>
  cases hn with
  | clo h=>exact Rep.clo (Y:=⟨W',X.m,X.h,X.bad,X.ds⟩) (.tup hc hr') h K
  | tup h=>exact .tup hc fun i a x h1 h2=>ih i a x h1 h2 (h a (List.mem_of_getElem? h1))
 | tp hc hp hr' ih=>cases hn with | clo h=>exact Rep.clo (Y:=⟨W',X.m,X.h,X.bad,X.ds⟩) (.tp hc hp hr') h K
 | fn h1 h2 r1 r2 ih1 ih2=>
  cases hn with
  | clo h=>exact Rep.clo (Y:=⟨W',X.m,X.h,X.bad,X.ds⟩) (.fn h1 h2 r1 r2) h K
  | fn q1 q2=>exact .fn h1 h2 (fun i a x g1 g2=>ih1 i a x g1 g2 (q1 a (List.mem_of_getElem? g1))) (fun i a x g1 g2=>ih2 i a x g1 g2 (q2 a (List.mem_of_getElem? g1)))
 | ifc h ih=>
  cases hn with
  | clo h'=>exact Rep.clo (Y:=⟨W',X.m,X.h,X.bad,X.ds⟩) (.ifc h) h' K
  | ifc h'=>exact .ifc (ih h')
 | e0 b=>exact .e0 b
 | own hid h=>exact .own hid h
 | ptr hid h=>exact .ptr hid h
 | ap hid h=>exact .ap hid h
 | mp hid h=>exact .mp hid h
 | tm hb hm hl hk hr' ih=>cases hn with | clo h=>cases h
theorem Ok.far (hX:Ok X) (hg:X.w.grownBy W' row) (hr: ∀ r,row=some r→ ∃ o:Obj,X.w.heap[r]? =some o∧o.isCells=false) {m:Nat} (hn:ntH m 0 X.h) (hm: ∀ id es,X.h[id]? =some (some (.map es))→ ∀ b,(X.m id).1=some b→some b≠row):Ok ⟨W',X.m,X.h,X.bad,X.ds⟩:=by
 have other: ∀ {b:Nat} {cvs:Array Value} {T:TypeId} {fr:Nat × Nat},X.w.heap[b]? =some (.cells cvs T fr)→W'.heap[b]? =some (.cells cvs T fr):=fun {b cvs T fr} h1=>by
  rw [hg.block b (Array.getElem?_eq_some_iff.1 h1).1 (fun e=>by obtain ⟨o,h2,h3⟩:=hr b e.symm;rw [h1] at h2;injection h2 with h2;subst h2;cases h3)];exact h1
 refine ⟨fun id cells hh=>?_,fun id T size cells fz hh=>?_,fun i j b hi hj=>hX.inj i j b hi hj,fun b o hb=>Nat.lt_of_lt_of_le (hX.dX b o hb) hg.size,fun id es hh=>?_⟩
 ·obtain ⟨b,cvs,T,h1,h2,h3,h4,h5⟩:=hX.blk id cells hh;exact ⟨b,cvs,T,h1,other h2,h3,h4,fun i a x g1 g2=>(h5 i a x g1 g2).far hg hr ((tH hn id).1 cells hh a (List.mem_of_getElem? g1))⟩
 ·obtain ⟨g1,g2,n,g3,g4⟩:=hX.arr id T size cells fz hh;refine ⟨g1,g2,n,g3,?_⟩;rcases g4 with g4 | ⟨b,cvs,g4⟩
  ·exact .inl g4
  ·exact .inr ⟨b,cvs,⟨g4.at_,other g4.blk,g4.cap,g4.iQ,g4.sz,g4.bad,fun i a x q1 q2=>(g4.rep i a x q1 q2).far hg hr ((tH hn id).2.1 T size cells fz hh a (List.mem_of_getElem? q1)),g4.good⟩⟩
 ·obtain ⟨b,ents,clock,h1,h2,h3,h4⟩:=hX.map id es hh;refine ⟨b,ents,clock,h1,?_,h3,fun i p e q1 q2=>⟨(h4 i p e q1 q2).1,(h4 i p e q1 q2).2.far hg hr (((tH hn id).2.2 es hh).2 p.2 (List.mem_map.2 ⟨p,List.mem_of_getElem? q1,rfl⟩))⟩⟩;show W'.heap[b]? =_;rw [hg.block b (Array.getElem?_eq_some_iff.1 h2).1 (hm id es hh b h1)];exact h2
end
variable {X:Cx}
theorem aT.less {m n:Nat} {Y:Cx} (S:aT m X Y) (h:n≤m):aT n X Y:=
 ⟨S.os,S.tape,S.output,S.size,S.block,S.keep,Nat.le_trans h S.len,fun i T s c f hi=>S.oh i T s c f (Nat.lt_of_lt_of_le hi h),fun i c hi=>S.l7 i c (Nat.lt_of_lt_of_le hi h),S.own,S.nC,fun i es hi=>S.omap i es (Nat.lt_of_lt_of_le hi h),S.dse⟩
def RI (X:Cx) (H:Hp→Prop) (W:World):Prop:= ∃ Y,Y.w=W∧aT X.h.length (X.def_ []) Y∧Ok Y∧H Y.h
theorem RI.own {α:Type}  (hX:Ok X) {H:α→Hp→Prop} (hn: ∀ s h,H s h→ntH X.h.length 0 h):OwnFrom X.w.heap.size (fun s W=>RI X (H s) W):=by
 rintro s W W' row ⟨Y,rfl,S,hY,hH⟩ hg hr;have hr2: ∀ r,row=some r→ ∃ o:Obj,Y.w.heap[r]? =some o∧o.isCells=false:=fun r e=>(hr r e).2
 have hnt:=hn s _ hH;refine ⟨⟨W',Y.m,Y.h,Y.bad,Y.ds⟩,rfl,?_,?_,hH⟩
 ·refine ⟨hg.os.trans S.os,hg.tape.trans S.tape,hg.output.trans S.output,Nat.le_trans S.size hg.size,fun b hb hm=>?_,fun b o x hx hb=>⟨cell_far hg hr2 (S.keep b o x hx hb).1,(S.keep b o x hx hb).2⟩,S.len,S.oh,S.l7,S.own,S.nC,S.omap,S.dse⟩;show W'.heap[b]? =_;rw [hg.block b (Nat.lt_of_lt_of_le hb S.size) (fun e=>by have:=(hr b e.symm).1;exact absurd hb (Nat.not_lt_of_le this))];exact S.block b hb hm
 ·refine Ok.far hY hg hr2 hnt fun id es hh b hb e=>?_
  have hid:=((tH hnt id).2.2 es hh).1;rw [Nat.zero_add] at hid;obtain ⟨es',h1,h2⟩:=S.omap id es hid hh;rw [h2] at hb;have hlt:b<X.w.heap.size:=(hX.def_ (d:=[])).lt ⟨id,⟨_,h1⟩,hb⟩;have:=(hr b e.symm).1;omega
def KpI (X:Cx) (ids:List Nat) (W W':World):Prop:= ∀ i,i∈ids→ ∀ b,(X.m i).1=some b→ ∀ o,W'.cell? ⟨b,o,none⟩=W.cell? ⟨b,o,none⟩
theorem FZ (hX:Ok X) {i b:Nat} {l:List Value} (h:X.h[i]? =some (some (.blk (l.map .v)))) (hb:(X.m i).1=some b): ∀ o,X.w.cell? ⟨b,o,none⟩=l[o]? :=by
 obtain ⟨b',cvs,T,h1,h2,h3,h4,h5⟩:=hX.blk i _ h;rw [hb] at h1;injection h1 with h1;subst h1;intro o;have:=aZ (off:=o) h2;unfold cellAt at this;rw [this];rw [List.length_map] at h3;by_cases ho:o<l.length
 ·have ho2:o<cvs.size:=by omega
  have:=h5 o (.v l[o]) cvs[o] (by simp [ho]) (by simp [ho2]);generalize hq:cvs[o]=q at this;cases this;rw [Array.getElem?_eq_getElem ho2,List.getElem?_eq_getElem ho,hq]
 ·rw [Array.getElem?_eq_none (by omega),List.getElem?_eq_none (by omega)]
theorem F5: ∀ (l m:List Value),l.map AV.v=m.map AV.v→l=m
 | [],[],_=>rfl
 | [],_::_,h=>by simp at h
 | _::_,[],h=>by simp at h
 | a::l,b::m,h=>by
  simp only [List.map_cons,List.cons.injEq,AV.v.injEq] at h;rw [h.1,F5 l m h.2]
def afq (P:Program) (gf:FuncId) (caps:List AV) (h:Hp) {α:Type} (encs:α→Array Value) (ids:List Nat) (S Sp:List α→Prop) (Nb:Nat):Prop:=
 ∀ (X:Cx) (vs:List Value),Ok X→X.h=h→fJ X caps vs→SeqStopsK Fence.wide 8 P gf vs.toArray encs (KpI X ids) S Sp Nb X.w
def aly (n0 N:Nat) (H:Hp→Prop) (Hx:Code→Hp→Prop):dA:=fun ex e h=>match ex with
 | .normal=> ∃ e1 h1,Ent n0 N e h e1 h1∧H h1
 | .ret=>Hx .ret h
 | .exit i=>Hx (.exit i) h
 | .panic _=>False
def Exx (Q:dA) (e:Ev) (h:Hp):Code→Prop
 | .ret=>Q .ret e h
 | .exit i=>Q (.exit i) e h
 | _=>False
def ah5 (ks:List (Nat × Nat)):Bool:=ks.all fun p=>!Nat.beq p.2 1000000
theorem Qg: ∀ {ks:List (Nat × Nat)},ah5 ks=true→ ∀ id,kOf ks id≠1000000
 | [],_,id=>by show (0:Nat)≠1000000;decide
 | (i,k)::r,h,id=>by
  have h':(!Nat.beq k 1000000 && ah5 r)=true:=h;rw [Bool.and_eq_true] at h';show (if i=id then k else kOf r id)≠1000000;split
  ·intro e;subst e;cases h'.1
  ·exact Qg h'.2 id
theorem ah6 {P:Program} (bT:P.follows .mixedOrders=true) {N:Nat} {L:List Nat} {ks ks':List (Nat × Nat)} {f:Operand} {ps:Array Tmp} {ag b:Code} {Q:dA} {e:Ev} {h:Hp} {α:Type} {encs:α→Array Value} {ids:List Nat} {S Sp:List α→Prop} {Nb:Nat} {gf:FuncId} {caps:List AV}
  (hf:dO e f= .fn (.func gf) [] caps) (hbd:lM P gf=true) (hit:afq P gf caps h encs ids S Sp Nb) (hps: ∀ x,(encs x).size=ps.size) (hok:dL N ks' b=true) (hin:inB b=true) (hes:ah5 ks'=true) (hb:base ks'=h.length)
  (e1:α→Ev) (a₁:Act→α→Act)
  (hassign: ∀ (a:Act) (l:Nat) (x:α) (W:World) (K:Act→World→Prop),a.tmps.size=N→K (a₁ a x) W→ag.wpIn (Rnd l) 7 P (Exit.then K (fun _ _ _=>False)) {tmps:=(ps.zip (encs x)).foldl (fun t (p,v)=>t.setIfInBounds p v) a.tmps,defers:=[]} W)
  (hrel: ∀ (a:Act) (x:α),a.tmps.size=N→(a₁ a x).defers=[]∧(a₁ a x).tmps.size=N∧ ∀ d,aO (e1 x) d= .none∨(∃ v,aO (e1 x) d= .v v∧(a₁ a x).tmps.getD d undef=v)∨(aO (e1 x) d=aO e d∧(a₁ a x).tmps.getD d undef=a.tmps.getD d undef))
  (Hs:List α→Hp→Prop) (Hx:Code→List α→Hp→Prop) (hnt: ∀ pre h',Hs pre h'→ntH h.length 0 h') (am2: ∀ c pre h',Hx c pre h'→ntH h.length 0 h')
  (alz: ∀ i,i∈ids→i<h.length∧ ∃ l:List Value, ∀ pre h',Hs pre h'→h'[i]? =some (some (.blk (l.map .v)))) (h0:Hs [] h)
  (hbody: ∀ pre x h',Hs pre h'→pre.length<Nb→h.length≤h'.length→bP P N L ks' b (aly h.length N (Hs (pre++[x])) fun c=>Hx c (pre++[x])) (e1 x) h')
  (hdone: ∀ xs h',S xs→Hs xs h'→Q .normal e h') (hstop: ∀ c pre h',Sp pre→Hx c pre h'→Exx Q e h' c):
  ∀ (X:Cx) (a:Act),base ks≤X.h.length→X.h=h→Ok X→aN X N e a→(Code.rangeFunc f ps ag b).wp P (gy (base ks) X N Q) a X.w:=by
 intro X a hbs hh hX hE;subst hh;have hX0:Ok (X.def_ []):=hX.def_;have hfr:=hE.dO f;rw [hf] at hfr;obtain ⟨lb,hg,hlb⟩: ∃ lb:List Value,a.eval f= .func (.func gf) #[] lb.toArray∧fJ X caps lb:=by
  generalize a.eval f=q at hfr;cases hfr with
  | @fn _ _ _ v1 v2 h1 h2 r1 r2=>
   have:v1=[]:=List.eq_nil_of_length_eq_zero h1;subst this;exact ⟨v2,rfl,h2,r2⟩
 have afr: ∀ {Y:Cx},aT X.h.length (X.def_ []) Y→Step (X.def_ []) Y:=fun S=>aT.full S
 have Y2: ∀ {pre:List α} {Y:Cx},aT X.h.length (X.def_ []) Y→Ok Y→Hs pre Y.h→ ∀ i,i∈ids→ ∀ b,(X.m i).1=some b→ ∃ l:List Value,(∀ pre h',Hs pre h'→h'[i]? =some (some (.blk (l.map .v))))∧ ∀ o,Y.w.cell? ⟨b,o,none⟩=l[o]? :=by
  intro pre Y S hY hH i hi b hb;obtain ⟨hlt,l,hl⟩:=alz i hi;have h1:=hl pre _ hH;obtain ⟨c',_,h3⟩:=S.l7 i _ hlt h1;exact ⟨l,hl,FZ hY h1 (by rw [h3];exact hb)⟩
 have close: ∀ {x:Ex} {ex:Exit} {Y:Cx} {D:Nat},aT X.h.length (X.def_ []) Y→Ok Y→X.w.heap.size≤D→Y.w.heap[D]? =some (.deferred (some []))→Q x e Y.h→((x= .normal∧ex= .normal)∨(∃ i,x= .exit i∧ex= .exit i)∨(x= .ret∧ex= .ret))→gy (base ks) X N Q ex {a with defers:={target:= .collected D,args:= #[]}::a.defers} Y.w:=by
  intro x ex Y D S hY hD hd hq hx;have S2:aT (base ks) X (Y.def_ X.ds):=(aT.re (X:=X) (d:=[]) (d2:=X.ds) S).less hbs;refine gy.close (Y:=Y.def_ X.ds) (e:=e) (l:=[D]) ?_ ⟨by simp,fun D' h'=>by rw [List.mem_singleton] at h';subst h';exact ⟨hD,hd⟩⟩ S2 hY.def_ ⟨rfl,hE.size,fun d=>?_⟩ hq ?_
  ·show _::a.defers=_;rw [hE.defers];rfl
  ·have h1:Rep (X.def_ []) (aO e d) (a.tmps.getD d undef):=(hE.rep d).def_;exact (h1.mono (afr S)).def_
  ·rcases hx with h | h | h
   ·exact .inl h
   ·exact .inr (.inl h)
   ·exact .inr (.inr (.inl h))
 refine wpIn_wide.1 (wpIn_rangeFunc_ownG (F:=Fence.wide) (n:=9) (Kp:=KpI X ids) rfl (by decide) hg trivial (fun args w=>pY hbd args w) (hit X lb hX rfl hlb) ?_ ?_ (Below.refl _ _) hps (fun pre W=>RI X (Hs pre) W) (fun c pre W=>RI X (Hx c pre) W) (RI.own hX hnt) (fun c=>RI.own hX (am2 c)) ⟨X.def_ [],rfl,(Step.refl _).toN (Nat.le_refl _),hX0,h0⟩ (a₁ a) (fun l x W K hK=>hassign a l x W K hE.size hK) ?_ ?_ ?_)
 ·intro A B C h1 h2 i hi b hb o;rw [h2 i hi b hb o,h1 i hi b hb o]
 ·intro W l o o' hl hlo hc hw i hi b hb off;obtain ⟨hlt,lv,hlv⟩:=alz i hi;have h1:=hlv [] _ h0;have hbl:b<X.w.heap.size:=hX.lt ⟨i,⟨_,h1⟩,hb⟩;unfold World.cell?;rw [World.putObj_heap_other (by show b≠l;omega)]
 ·rintro l pre x W ⟨Y,rfl,S,hY,hH⟩ hlt;obtain ⟨r1,r2,r3⟩:=hrel a x hE.size;have hEY:aN Y N (e1 x) (a₁ a x):=by
   refine ⟨r1.trans S.dse.symm,r2,fun d=>?_⟩;rcases r3 d with q | ⟨v,q1,q2⟩ | ⟨q1,q2⟩
   ·rw [q];exact .none _
   ·rw [q1,q2];exact .v v
   ·rw [q1,q2];have h1:Rep (X.def_ []) (aO e d) (a.tmps.getD d undef):=(hE.rep d).def_;exact h1.mono (afr S)
  have hw:=hbody pre x Y.h hH hlt S.len;refine wpIn_mono (ql bT (Qg hes) b _ Y (e1 x) (a₁ a x) hok hin (by rw [hb];exact S.len) hY hEY hw) ?_;intro ex a' w' hp;have:=hp.elim;cases this with
  | ok z ex Z e2 a2 T hZ hEZ hq hx=>
   rw [hb] at T;have keep:KeepsFrom X.w.heap.size Y.w Z.w:=⟨T.size,fun k o hk ho hc=>by
    rw [T.block k (Array.getElem?_eq_some_iff.1 ho).1 ?_];exact ho;rintro ⟨i,⟨ob,hi⟩,he⟩;cases ob with
    | blk cells=>
     obtain ⟨b',cvs,U,q1,q2,_⟩:=hY.blk i cells hi;rw [q1] at he;injection he with he;subst he;rw [ho] at q2;injection q2 with q2;subst q2;cases hc
    | arr U s cells fz=>
     obtain ⟨_,_,n',_,q1 | ⟨b',cvs,q1⟩⟩:=hY.arr i U s cells fz hi
     ·rw [q1.1] at he;cases he
     ·have q2:=q1.at_;rw [q2] at he;injection he with he;subst he;have:=q1.blk;rw [ho] at this;injection this with this;subst this;cases hc
    | map es=>
     have hid:=((tH (hnt _ _ hH) i).2.2 es hi).1;rw [Nat.zero_add] at hid;obtain ⟨es',g1,g2⟩:=S.omap i es hid hi;rw [g2] at he;have:=hX0.lt ⟨i,⟨_,g1⟩,he⟩;exact absurd hk (by show ¬ X.w.heap.size≤k;exact Nat.not_le_of_lt this)⟩
   rcases hx with ⟨rfl,rfl⟩ | ⟨i,rfl,rfl⟩ | ⟨rfl,rfl⟩ | ⟨v,av,rfl,rfl,hr⟩
   ·obtain ⟨e3,h3,hent,hH3⟩:=hq;obtain ⟨V,v1,v2,v3,v4,v5⟩:=hent Z _ rfl T.len hZ hEZ;have SV:aT X.h.length (X.def_ []) V:=(S.trans hX0 T).trans hX0 v3;refine ⟨keep,fun i hi b hb o=>?_,V,v1,SV,v4,by rw [v2];exact hH3⟩;obtain ⟨l1,q1,q2⟩:=Y2 S hY hH i hi b hb;obtain ⟨l2,q3,q4⟩:=Y2 SV v4 (by rw [v2];exact hH3) i hi b hb;have e4:=q1 _ _ hH;rw [q3 _ _ hH] at e4;have e5:l2=l1:=by
     injection e4 with e4;injection e4 with e4;injection e4 with e4;exact F5 _ _ e4
    rw [q2, ←v1,q4,e5]
   ·exact ⟨keep,Z,rfl,S.trans hX0 T,hZ,hq⟩
   ·exact ⟨keep,Z,rfl,S.trans hX0 T,hZ,hq⟩
   ·exact hq.elim
 ·rintro D xs W hD hS ⟨Y,rfl,S,hY,hH⟩ hd;exact close S hY hD hd (hdone xs _ hS hH) (.inl ⟨rfl,rfl⟩)
 ·rintro D c pre W hD hS ⟨Y,rfl,S,hY,hH⟩ hd;have hs:=hstop c pre _ hS hH;cases c with
  | ret=>exact wpIn_ret (close S hY hD hd hs (.inr (.inr ⟨rfl,rfl⟩)))
  | exit i=>exact wpIn_exit (close S hY hD hd hs (.inr (.inl ⟨i,rfl,rfl⟩)))
  | _=>exact hs.elim
end
section
open Go.RowKit
variable {P:Program}{a:Act}
theorem F6 {F:Fence} {n:Nat}  {id:Nat} {d t:Tmp} {o:Oper} {Q:Exit→Act→World→Prop}  {w:World}
  (ho:o.op= .assign (.tmp t)) (hd:o.dst=some d) (hg:o.guard=none) (h:Q .normal {a with tmps:=a.tmps.setIfInBounds d (a.tmps.getD t undef)} w):(Code.region id #[o] false).wpIn F n P Q a w:=by
 obtain ⟨dst,op,ty,pos,af,g⟩:=o;simp only at ho hd hg;subst ho hd hg;refine wpIn_region ?_;show wpOpsIn F n P _ Q [0] a w;simp only [wpOpsIn,Region.wanted,List.getElem?_toArray,List.getElem?_cons_zero,if_true];refine ⟨?_,?_⟩
 ·intro f hf;cases hf
 ·rw [Oper.semAt_eq _ _ _ (fun c hc=>by cases hc)];exact h
theorem AQ: ∀ (e:Ev) (d:Nat),aO e d= .none∨ ∃ p,p∈e∧p.1=d∧aO e d=p.2
 | [],d=> .inl rfl
 | (k,a)::r,d=>by
  by_cases h:k=d
  ·exact .inr ⟨(k,a),List.mem_cons_self ..,h,if_pos h⟩
  ·rcases AQ r d with q | ⟨p,q1,q2,q3⟩
   ·exact .inl (by show (if k=d then a else aO r d)=_;rw [if_neg h];exact q)
   ·exact .inr ⟨p,List.mem_cons_of_mem _ q1,q2,by show (if k=d then a else aO r d)=_;rw [if_neg h];exact q3⟩
theorem o9 {T:Array Value} {i j:Nat} {v:Value}:(T.setIfInBounds i v).getD j undef=if i=j∧j<T.size then v else T.getD j undef:=by
 simp only [Array.getD_eq_getD_getElem?,Array.getElem?_setIfInBounds];by_cases h:i=j
 ·subst h;by_cases hs:i<T.size
  ·simp [hs]
  ·simp [hs]
 ·simp [h]
def KU (p q d1 d2:Tmp) (v1 v2:Value) (a:Act):Act:={tmps:=(((a.tmps.setIfInBounds p v1).setIfInBounds q v2).setIfInBounds d1 v1).setIfInBounds d2 v2,defers:=[]}
variable {N:Nat}
theorem assign2 {F:Fence} {n:Nat}  {i1 i2:Nat} {p q d1 d2:Tmp} {o1 o2:Oper} {K:Act→World→Prop}  {W:World} {v1 v2:Value}  (h1:o1.op= .assign (.tmp p)) (h1':o1.dst=some d1) (am3:o1.guard=none) (h2:o2.op= .assign (.tmp q)) (h2':o2.dst=some d2) (am4:o2.guard=none)
  (hN:a.tmps.size=N) (hp:p<N) (hq:q<N) (hpq:p≠q) (hdq:d1≠q) (hK:K (KU p q d1 d2 v1 v2 a) W):
  ((Code.region i1 #[o1] false).seq (Code.region i2 #[o2] false)).wpIn F n P (Exit.then K (fun _ _ _=>False)) {tmps:=(#[p,q].zip #[v1,v2]).foldl (fun t (x:Tmp × Value)=>t.setIfInBounds x.1 x.2) a.tmps,defers:=[]} W:=by
 refine wpIn_seq (F6 h1 h1' am3 (F6 h2 h2' am4 ?_));have e:((#[p,q].zip #[v1,v2]).foldl (fun (t:Array Value) (x:Tmp × Value)=>t.setIfInBounds x.1 x.2) a.tmps)=(a.tmps.setIfInBounds p v1).setIfInBounds q v2:=by simp
 rw [e];have e3:((a.tmps.setIfInBounds p v1).setIfInBounds q v2).getD p undef=v1:=by
  rw [o9,if_neg (fun h=>hpq h.1.symm),o9,if_pos ⟨rfl,by rw [hN];exact hp⟩]
 rw [e3];have e4:(((a.tmps.setIfInBounds p v1).setIfInBounds q v2).setIfInBounds d1 v1).getD q undef=v2:=by
  rw [o9,if_neg (fun h=>hdq h.1),o9,if_pos ⟨rfl,by rw [Array.size_setIfInBounds,hN];exact hq⟩]
 rw [e4];exact hK
variable {e:Ev}
theorem am5 {e0:Ev} {p q d1 d2:Tmp} {v1 v2:Value}   (hN:a.tmps.size=N) (hd1:d1<N) (hd2:d2<N) (h12:d1≠d2)
  (hsub: ∀ x,x∈e0→aO e x.1=x.2∧x.1≠p∧x.1≠q∧x.1≠d1∧x.1≠d2):
  (KU p q d1 d2 v1 v2 a).defers=[]∧(KU p q d1 d2 v1 v2 a).tmps.size=N∧ ∀ d,aO ((d1, .v v1)::(d2, .v v2)::e0) d= .none∨(∃ v,aO ((d1, .v v1)::(d2, .v v2)::e0) d= .v v∧(KU p q d1 d2 v1 v2 a).tmps.getD d undef=v)∨
   (aO ((d1, .v v1)::(d2, .v v2)::e0) d=aO e d∧(KU p q d1 d2 v1 v2 a).tmps.getD d undef=a.tmps.getD d undef):=by
 refine ⟨rfl,by simp [KU,hN],fun d=>?_⟩;have hg:aO ((d1, .v v1)::(d2, .v v2)::e0) d=if d1=d then .v v1 else if d2=d then .v v2 else aO e0 d:=rfl
 rw [hg];unfold KU;simp only [o9,Array.size_setIfInBounds,hN];by_cases c1:d1=d
 ·subst c1;refine .inr (.inl ⟨v1,if_pos rfl,?_⟩);rw [if_neg (fun h=>h12 h.1.symm),if_pos ⟨rfl,hd1⟩]
 ·rw [if_neg c1];by_cases c2:d2=d
  ·subst c2;refine .inr (.inl ⟨v2,if_pos rfl,?_⟩);rw [if_pos ⟨rfl,hd2⟩]
  ·rw [if_neg c2];rcases AQ e0 d with q' | ⟨x,q1,q2,q3⟩
   ·exact .inl q'
   ·obtain ⟨g1,g2,g3,g4,g5⟩:=hsub x q1;subst q2;refine .inr (.inr ⟨by rw [q3,g1],?_⟩);rw [if_neg (fun h=>g5 h.1.symm),if_neg (fun h=>g4 h.1.symm),if_neg (fun h=>g3 h.1.symm),if_neg (fun h=>g2 h.1.symm)]
variable {h:Hp}{n0:Nat}
theorem Ent.close (d:Nat) (a a':AV) (h':Hp) (ha:aO e d=a) (hc:fD h a=some (a',h')):Ent n0 N e h ((d,a')::e) h':=fun X act hh hn hX hE=>by
 subst hh;have hv:=hE.rep d;rw [ha] at hv;obtain ⟨Y,y1,y2,y3,y4,y5⟩:=su X a a' h' _ hX hc hv;have hE2:=hE.mono y2;refine ⟨Y,y1,y4,y2.toN hn,y3,hE2.defers,hE2.size,fun d'=>?_⟩;show Rep Y (if d=d' then a' else aO e d') _;by_cases q:d=d'
 ·subst q;rw [if_pos rfl];exact y5
 ·rw [if_neg q];exact hE2.rep d'
def ah7 (P:Program) (rs:Array ResultVar) (R:AV→Hp→Prop):dA:=fun x e h=>match x with
 | .exit _=>False
 | .panic _=>False
 | _=> ∃ r,uQ P h e rs=some r∧R r h
variable {R:AV→Hp→Prop}
theorem wU {rs:Array ResultVar}   :ah7 P rs R .normal e h=sA (fun r=>R r h) (uQ P h e rs):=Eq.trans rfl rfl
theorem wV {rs:Array ResultVar}   :ah7 P rs R .ret e h=sA (fun r=>R r h) (uQ P h e rs):=Eq.trans rfl rfl
theorem HT.byO {f:FuncId} {fn:Func} {body:Code} {args:List AV}   (N:Nat) (L:List Nat) (ks:List (Nat × Nat)) (rs:List ResultVar) (hf:P.funcs[f]? =some fn) (hb:fn.body=some body) (hn:fn.ntmps=N) (hr:fn.results=rs.toArray) (hbs:base ks=h.length)
  (hw:bP P N L ks body (ah7 P rs.toArray R) (qM 0 args) h) (bT:P.follows .mixedOrders=true:=by kernel_rfl) (hp:lM P f=true:=by kernel_rfl) (hk:dL N ks body=true:=by kernel_rfl) (hN:args.length≤N:=by exact Nat.le_of_ble_eq_true rfl):HT P f args h R:=by
 subst hn;rw [←hr] at hw;refine ⟨hp,fun X vs hX hh hr=>?_⟩;subst hh;have hX':Ok (X.def_ []):=hX.def_;have hr':fJ (X.def_ []) args vs:=⟨hr.1,fun i a x h1 h2=>(hr.2 i a x h1 h2).def_⟩
 refine (callsIn_wide (n:=0)).1 (callsIn_of_wp_marks hf hb trivial (wpIn_wide.2 (wp_mono (fQ bT body _ (X.def_ []) _ _ hk (by rw [hbs];exact Nat.le_refl _) hX' (CS rfl hr' hN) hw) ?_)) rfl);intro ex a' w' hpost;obtain ⟨z,Y,e',l,rfl,e1,M,SN,hY,hEY,_,hq,hx⟩:=hpost.open;rw [hbs] at SN;have hd:a'.defers=l.map uD:=by rw [e1];exact List.append_nil _
 obtain ⟨Z,z1,z2,z3,z4,z5,z6⟩:=CZ l Y SN hY M;have S:=aT.full (X:=X.def_ []) z4;have hEZ:aN Z fn.ntmps e' {a' with defers:=[]}:=⟨by rw [z3];exact hEY.defers,hEY.size,fun d=>z6 _ _ (hEY.rep d)⟩
 have key:(∃ r,uQ P Y.h e' fn.results=some r∧R r Y.h)→LeavesIn Fence.wide 0 P fn a'.tmps (fun e w'=> ∃ v V av,e= .returned v∧V.w=w'∧Step X V∧Ok V∧Rep V av v∧R av V.h) [] .returning (shut Y.w l):=by
  rintro ⟨r,h1,h3⟩;rw [←z2] at h1 h3;obtain ⟨v,q1,q2⟩:=Au (fn:=fn) z5 hEZ h1;rw [←z1];exact ⟨v,q1,v,Z.def_ X.ds,r,rfl,rfl,S.undef,z5.def_,q2.def_,h3⟩
 rcases hx with ⟨rfl,rfl⟩ | ⟨i,rfl,rfl⟩ | ⟨rfl,rfl⟩ | ⟨v,av,rfl,rfl,hrv⟩
 ·show LeavesInM Fence.wide 0 P fn a'.tmps _ a'.defers .returning Y.w;rw [hd];exact iZ (by simp) l _ M (key hq)
 ·exact hq.elim
 ·show LeavesInM Fence.wide 0 P fn a'.tmps _ a'.defers .returning Y.w;rw [hd];exact iZ (by simp) l _ M (key hq)
 ·exact hq.elim
theorem Ent.jh (id:Nat) (T:TypeId) (s:Nat) (cells:List AV) (fz k:Nat) (hg:h[id]? =some (some (.arr T s cells fz))) (h1:fz≤k) (h2:k≤cells.length):Ent n0 N e h e (h.set id (some (.arr T s cells k))):=fun X act hh hn hX hE=>by
 subst hh;have hE2:=hE.mono (Step.jh k hg);exact ⟨X.jh id T s cells k,rfl,rfl,(Step.jh k hg).toN hn,hX.jh hg h1 h2,hE2.defers,hE2.size,hE2.rep⟩
theorem Ent.wk (d:Nat) (a b:AV) (ha:aO e d=a) (hw:Wk a b):Ent n0 N e h ((d,b)::e) h:=fun X act hh hn hX hE=>by
 refine ⟨X,rfl,hh,(Step.refl X).toN (hh▸hn),hX,hE.defers,hE.size,fun d'=>?_⟩;show Rep X (if d=d' then b else aO e d') _;by_cases q:d=d'
 ·subst q;rw [if_pos rfl];have hv:=hE.rep d;rw [ha] at hv;exact hw _ _ hv
 ·rw [if_neg q];exact hE.rep d'
end
section
open Go.RowKit
def KW:List Nat→Nat→Nat
 | [],_=>0
 | a::r,j=>if a=j then 0 else KW r j+1
structure ah8 (σ:List Nat) (ops:Array Oper):Prop where
 len:σ.length=ops.size
 inv: ∀ i,i<ops.size→KW σ i<ops.size∧σ.getD (KW σ i) 0=i
 fwd: ∀ p,p<ops.size→σ.getD p 0<ops.size∧KW σ (σ.getD p 0)=p
 aft: ∀ (i:Nat) (o:Oper),ops[i]? =some o→ ∀ e,e∈o.after→e.on<ops.size
 grd: ∀ (i:Nat) (o:Oper),ops[i]? =some o→ ∀ g b,o.guard=some (g,b)→g<ops.size
section
variable {σ:List Nat} {ops:Array Oper}
def LsP (σ:List Nat) (ops:Array Oper) (l l':Array Bool):Prop:=l.size=ops.size∧l'.size=ops.size∧ ∀ i,i<ops.size→l'.getD (KW σ i) false=l.getD i false
theorem LsP.put (D:ah8 σ ops) {l l':Array Bool} (h:LsP σ ops l l') {i:Nat} (hi:i<ops.size):LsP σ ops (l.setIfInBounds i true) (l'.setIfInBounds (KW σ i) true):=by
 obtain ⟨h1,h2,h3⟩:=h;refine ⟨by simp [h1],by simp [h2],fun j hj=>?_⟩;have hp:=(D.inv i hi).1;have hq:=(D.inv j hj).1;have inj:KW σ i=KW σ j→i=j:=fun e=>by rw [←(D.inv i hi).2, ←(D.inv j hj).2,e]
 simp only [Array.getD_eq_getD_getElem?,Array.getElem?_setIfInBounds,h1,h2];have h3':=h3 j hj;simp only [Array.getD_eq_getD_getElem?] at h3';by_cases e:i=j
 ·subst e;simp [hi,hp]
 ·rw [if_neg e,if_neg (fun q=>e (inj q))];exact h3'
end
theorem wW {P:Program} {ops:Array Oper} {Q:Exit→Act→World→Prop} {i:Nat} {o:Oper} {v:Value} {K:Act→World→Prop} {a:Act} {w w':World} (hi:ops[i]? =some o) (hg:Region.wanted o (yielded ops a.tmps)=true)
  (hrun:(execOp a.eval o).run P w= .ok (.value v) w') (hK:K (a.put o.dst v) w'):wpOp P ops Q i K a w:=by
 unfold wpOp;rw [hi];simp only;rw [if_pos hg];refine .inl ?_;unfold Oper.wp;rw [hrun];exact hK
end
end Go.Proofs.YtljfgdlgmdcmfaaGreat.Wv
namespace Go.Proofs.YtljfgdlgmdcmfaaGreat
section
open Go.RowKit Wv
def rowP (i k:Nat):List (Nat × Nat):=(List.range k).map fun j=>(i,j)
theorem tJ (i k:Nat):rowP i (k+1)=rowP i k++[(i,k)]:=by unfold rowP;rw [List.range_succ,List.map_append];rfl
def prs:Nat→List (Nat × Nat)
 | 0=>[]
 | i+1=>prs i++rowP i i
variable {i:Nat}
theorem ah9    {n:Nat} (h : i ≤ n) : prs i <+: prs n := by
  induction n with
  | zero => have : i = 0 := by omega
            subst this; exact List.prefix_refl _
  | succ n ih =>
    by_cases e : i = n + 1
    · subst e; exact List.prefix_refl _
    · exact (ih (by omega)).trans (List.prefix_append _ _)
theorem ad5     {j k:Nat} (h : j ≤ k) : rowP i j <+: rowP i k := by
  induction k with
  | zero => have : j = 0 := by omega
            subst this; exact List.prefix_refl _
  | succ k ih =>
    by_cases e : j = k + 1
    · subst e; exact List.prefix_refl _
    · rw [tJ       ]; exact (ih (by omega)).trans (List.prefix_append _ _)
theorem ad6 {k n:Nat} (h:i<n) (hk:k≤i):prs i++rowP i k<+:prs n:=
 ((List.prefix_append_right_inj (prs i)).2 (ad5 hk)).trans (ah9 (i:=i+1) h)
def aia (x:Nat × Nat):Array Value:= #[.int .i64 (x.1:Nat), .int .i64 (x.2:Nat)]
theorem Y3 (F:Fence) (n:Nat) (hF:F.fn 264) (hro:F.round=none) (l B N:Nat) (J Jx:List (Nat × Nat)→World→Prop) (Kp:World→World→Prop)
  (hY: ∀ pre (x:Nat × Nat) W,x.1<N→x.2<x.1→J pre W→pre.length<(prs N).length→YieldAt F (n - 1) Tryz.prog l (aia x) W fun e W'=>
   (e= .returned (.bool true)∧J (pre++[x]) W'∧Kp W W')∨(e= .returned (.bool false)∧Jx (pre++[x]) W'))
  (W:World) (hB:W.cell? ⟨B,0,none⟩=some (.int .i64 N)) (hN:N≤4611686018427387904) (hn:1≤n) (h0:J [] W):
  CallsIn F n Tryz.prog 264 #[.func (.yield l) #[] #[], .pointer (some ⟨B,0,none⟩)] W fun e W'=>(∃ v,e= .returned v)∧
   ((∃ ys,ys=prs N∧J ys W')∨(∃ pre,pre<+:prs N∧Jx pre W')):=by
 refine callsIn_of_wp Tryz.func264 rfl hF ?_ hro;simp only [Tryz.ntmps264,List.size_toArray,List.length_cons,List.length_nil,Nat.reduceAdd,Nat.reduceSub,Array.replicate_succ,Array.replicate_zero,List.push_toArray,List.append_toArray,List.nil_append,List.cons_append];gi_wp2
 gi_loopw [6] (fun v6 wr=> ∃ (i:Nat),v6= .int .i64 i∧i≤N∧J (prs i) wr) (fun v6 _=>N - (intOf v6).toNat)
 case atStart=>exact ⟨0,rfl,Nat.zero_le _,h0⟩
 case round=>
  obtain ⟨i,rfl,hi,hJ⟩:=hrel;have HJ:=Lib.hid hJ;clear hJ;by_cases hlt:i<N
  ·have e1:(i:Int)<(N:Int):=by omega
   gi_wp2
   gi_loopw [10] (fun v10 wr=> ∃ (k:Nat),v10= .int .i64 k∧k≤i∧J (prs i++rowP i k) wr) (fun v10 _=>i - (intOf v10).toNat)
   case atStart=>exact ⟨0,rfl,Nat.zero_le _,by show J (prs i++[]) _;rw [List.append_nil];exact HJ.out⟩
   case round=>
    obtain ⟨k,rfl,hk,hJ⟩:=hrel;by_cases hlt2:k<i
    ·have e2:(k:Int)<(i:Int):=by omega
     have hpre:Hid (prs i++rowP i (k+1)<+:prs N):=ad6 hlt hlt2;have hlen:(prs i++rowP i k).length<(prs N).length:=by
      have:=hpre.out.length_le;rw [tJ, ←List.append_assoc,List.length_append,List.length_singleton] at this;omega
     obtain ⟨fn,tmps,assign,body,hy,hR⟩:=hY (prs i++rowP i k) (i,k) _ hlt hlt2 hJ hlen;simp only [aia] at hy;clear hJ hlen;gi_wp2
     refine hR.mono ?_;clear hy hR;rintro e W' (⟨rfl,hJ',hk'⟩ | ⟨rfl,alA⟩)
     ·have HJ':=Lib.hid hJ';clear hJ' hk';gi_wp2
      go_roundw
      case rel=>exact ⟨k+1,by go_num,by omega,by rw [tJ, ←List.append_assoc];exact HJ'.out⟩
      case measure=>simp [intOf];omega
     ·have HJ':=Lib.hid alA;clear alA;gi_wp2
      refine bodyPost_ret (results_none rfl _ _ _) rfl ?_;exact ⟨⟨_,rfl⟩, .inr ⟨_,hpre.out,by rw [tJ, ←List.append_assoc];exact HJ'.out⟩⟩
    ·have hki:k=i:=by omega
     subst hki;have HJ2:=Lib.hid hJ;clear hJ;gi_wp2
     go_roundw
     case rel=>exact ⟨k+1,by go_num,by omega,HJ2.out⟩
     case measure=>simp [intOf];omega
  ·have hiN:i=N:=by omega
   subst hiN;gi_wp2
   go_end0
   exact ⟨⟨_,rfl⟩, .inl ⟨_,rfl,HJ.out⟩⟩
abbrev PrT (N:Nat):={p:Nat × Nat // p.1<N∧p.2<p.1}
theorem Oj {h:Hp} {id:Nat} (N:Nat) (hh:h[id]? =some (some (.blk [.v (.int .i64 N)]))) (hN:N≤4611686018427387904):
  afq Tryz.prog 264 [.ptr id 0] h (fun (x:PrT N)=>aia x.1) [id] (fun ys=>ys.map (·.1)=prs N) (fun pre=>pre.map (·.1)<+:prs N) (prs N).length:=by
 intro X vs hX hXh hr l J Jx W hW _ _ hY h0;subst hXh;match vs,hr.1 with
 | [v0],_=>
  have hv:=hr.2 0 _ v0 rfl rfl;cases hv with
  | ptr hid hp=>
  obtain ⟨b,hb,rfl⟩:=hp _ hh;have hc:=FZ (l:=[.int .i64 N]) hX hh hb 0;have hlt:b<X.w.heap.size:=hX.lt ⟨id,⟨_,hh⟩,hb⟩;have K:=Y3 Fence.wide 8 trivial rfl l b N (fun q W=> ∃ q':List (PrT N),q'.map (·.1)=q∧J q' W) (fun q W=> ∃ q':List (PrT N),q'.map (·.1)=q∧Jx q' W) _ (fun pre x W x1 x2 ⟨q',e,hJ⟩ hl=>by
    subst e;obtain ⟨fn,tmps,assign,body,g1,g2⟩:=hY q' ⟨x,x1,x2⟩ W hJ (by simpa using hl);refine ⟨fn,tmps,assign,body,g1,g2.mono ?_⟩;rintro e W' (⟨e1,e2,e3⟩ | ⟨e1,e2⟩)
    ·exact .inl ⟨e1,⟨_,by simp,e2⟩,e3⟩
    ·exact .inr ⟨e1,⟨_,by simp,e2⟩⟩) W ((hW.cell (p:=⟨b,0,none⟩) hlt).trans hc) hN (by decide) ⟨[],rfl,h0⟩
  refine K.mono ?_;rintro e W' ⟨he,⟨ys,rfl,q',e1,e2⟩ | ⟨pre,e0,q',e1,e2⟩⟩
  ·exact ⟨he, .inl ⟨q',e1,e2⟩⟩
  ·exact ⟨he, .inr ⟨q',by show q'.map (·.1)<+:prs N;rw [e1];exact e0,e2⟩⟩
end
end Go.Proofs.YtljfgdlgmdcmfaaGreat
