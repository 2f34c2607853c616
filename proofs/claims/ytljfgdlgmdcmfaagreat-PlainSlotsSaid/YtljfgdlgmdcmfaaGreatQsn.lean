/- Parts of a proof. -/
import Derived.Test.YtljfgdlgmdcmfaaGreatQsm
import Derived.Test.YtljfgdlgmdcmfaaGreatQsh
import Derived.Test.YtljfgdlgmdcmfaaGreatQsj
import Derived.Lib.ItoaNum
set_option linter.unusedVariables false
set_option linter.unusedSimpArgs false
set_option maxHeartbeats 1600000
set_option maxRecDepth 100000
namespace Go.Proofs.YtljfgdlgmdcmfaaGreat
section
open Go.RowKit Wv
theorem Qp {b:Bool} {f:Nat→Bool} {i:Nat} (h:f i=true): ∀ {n:Nat},i<n→xA b f n=true
 | 0,q=>by omega
 | n+1,q=>by
  show (xA b f n || f n)=true;by_cases e:i=n
  ·subst e;rw [h,Bool.or_true]
  ·rw [Qp h (by omega),Bool.true_or]
theorem FV {b:Bool} {f:Nat→Bool}: ∀ {n:Nat},(∀ i,i<n→f i=false)→xA b f n=b
 | 0,_=>rfl
 | n+1,h=>by
  show (xA b f n || f n)=b;rw [FV fun i hi=>h i (by omega),h n (by omega),Bool.or_false]
theorem FW (n:Nat) (f:Nat→ByteArray) (hn:n≤140737488351232) (hf: ∀ i,i<n→(f i).size≤140737488351232):TC Tryz.prog 112 [bW n f] (.v (.bool (!aQ n fun i=>!nameB (f i)))):=by
 obtain ⟨B,hB⟩: ∃ B,B=!aQ n fun i=>!nameB (f i):=⟨_,rfl⟩
 rw [←hB];unfold bW;refine Wv.TC.by 16 [3,0,7,15,2] [] [.tmp 2] Tryz.func112 rfl rfl rfl ?clo ?_
 case clo=>simp only [Wv.BC]
 refine Wv.W ?_;refine aV (σ:=Nat) (fun i=>[(0, .t n 1 (tab n fun i=> .v (.string (f i)))),(3, .v (.int .i64 i))]) (fun _=>[])
  (fun i=>i≤n∧ ∀ j,j<i→(!nameB (f j))=false) (fun i=>n - i) 0 ⟨Nat.zero_le _,fun j hj=>by omega⟩ rfl Wv.V ?_
 rintro i ⟨hi,hbef⟩;by_cases hlt:i<n
 ·have e1:(i:Int)<n:=by omega
  have T:=wO (f i) (hf i hlt);refine Wv.W1 (ah e1) ?_;refine ak T rfl Wv.c Wv.c ?_;cases hq:nameB (f i) with
  | false=>
   have hA:=jv (p:=fun i=>!nameB (f i)) hlt (by simp [hq]);refine Wv.W ?_;rw [hB,hA];rfl
  | true=>
   refine Wv.W ?_;refine ay (i+1) ⟨by omega,fun j hj=>?_⟩ (by omega) rfl Wv.V2;by_cases e:j=i
   ·subst e;rw [hq];rfl
   ·exact hbef j (by omega)
 ·obtain rfl:n=i:=by omega
  have hA:=gQ (p:=fun i=>!nameB (f i)) hbef;refine Wv.W2 @Int.lt_irrefl @decide_false ?_;rw [hB,hA];rfl
theorem Uk (x:Ex) (h:okE x) (hc:bQ x≤4611686018427387904):TC Tryz.prog 181 [.g (exC x)] (.v (.int .i64 (bQ x))):=by
 induction x with
 | nil=>exact h.elim
 | mk k s n nl li na ar ih=>
 obtain ⟨hs,hnl,hna,hh⟩:=h;have hfin:bQ (.mk k s n nl li na ar)=dO 1 (fun i=>bQ (ar i)) na:=rfl;rw [hfin] at hc ⊢;have hC:=dK (n:=na) (f:=fun i=>exC (ar i)) fun i _=>eX (ar i)
 have hdA: ∀ i,i<na→ ∃ r,List.drop (i*5) (dN na fun i=>exC (ar i))=exC (ar i)++r:=fun i hi=>cO (f:=fun i=>exC (ar i)) (fun i=>iU (ar i)) hi
 rw [cZ];refine Wv.TC.by 21 [0,4,1,9,3,2] [] [.tmp 2] Tryz.func181 rfl rfl rfl ?clo ?_
 case clo=>simp only [Wv.BC]
 generalize (dN na fun i=>exC (ar i))=L at*;refine Wv.W ?_;refine aV (σ:=Nat) (fun i=>[(1, .ptr 0 0),(3, .v (.int .i64 (dO 1 (fun i=>bQ (ar i)) i:Nat))),(4, .v (.int .i64 i))])
  (fun i=>[some (.blk [.v (.int .i64 k), .v (.string s), .v (.int .i64 n), .t nl 1 (tab nl fun i=> .v (.int .i64 (li i))), .t na 5 L])])
  (fun i=>i≤na) (fun i=>na - i) 0 (Nat.zero_le _) rfl (by simp (disch:=first|exact Wv.D|fail) only [Wv.B,simprocAttr,dO,Int.natCast_one]) ?_
 intro i hi;by_cases hlt:i<na
 ·have e1:(i:Int)<na:=by omega
  have h2:dO 1 (fun i=>bQ (ar i)) i+bQ (ar i)≤dO 1 (fun i=>bQ (ar i)) na:=vU 1 (fun i=>bQ (ar i)) hlt;have hnx:dO 1 (fun i=>bQ (ar i)) (i+1)=dO 1 (fun i=>bQ (ar i)) i+bQ (ar i):=rfl;have T:=ih i (hh i hlt) (by omega);have hG:=dw (ar i);have hoy:=hh i hlt;obtain ⟨r,hd⟩:=hdA i hlt;obtain ⟨c0,c1,c2,c3,c4,c5,c6,h5⟩: ∃ (k:Int) (s:ByteArray) (m:Int) (a:Nat) (l:List AV) (b:Nat) (r:List AV),exC (ar i)=[.v (.int .i64 k), .v (.string s), .v (.int .i64 m), .t a 1 l, .t b 5 r]:=by cases ar i<;>exact ⟨_,_,_,_,_,_,_,rfl⟩
  simp only [h5,List.cons_append,List.nil_append] at hd;rw [h5] at T hG;generalize dO 1 (fun i=>bQ (ar i)) i=S0 at*;generalize bQ (ar i)=Y at*;refine Wv.W2 (ah e1) hd ?_;refine ak T rfl (eG hG) Wv.c ?_;refine Wv.W ?_;refine ay (i+1) (by omega) (by omega) rfl (Wv.V3 hnx @Int.natCast_add @Int.natCast_one)
 ·obtain rfl:i=na:=by omega
  exact Wv.V2f @Int.lt_irrefl @decide_false
theorem Ul        (x : Ex) (h : okE x) (hc : bQ   x ≤ 4611686018427387904) : TC Tryz.prog 182 [.g (exC x)] (.v (.int .i64 (fG   x))) := by
  induction x with
  | nil => exact h.elim
  | mk k s n nl li na ar ih =>
  obtain ⟨hs, hnl, hna, hh⟩ := h;have hcn : ∀ i, i < na → bQ   (ar i) ≤ 4611686018427387904 := fun i hi => by
    have h1 : dO   1 (fun i => bQ   (ar i)) na ≤ 4611686018427387904 := hc;have h2 : dO   1 (fun i => bQ   (ar i)) i + bQ   (ar i) ≤ dO   1 (fun i => bQ   (ar i)) na := vU       1 (fun i => bQ   (ar i)) hi;omega
  have hdp := zN      (.mk k s n nl li na ar);have hfin : fG   (.mk k s n nl li na ar) = jU   (fun i => fG   (ar i)) na + 1 := rfl;rw [hfin] at hdp ⊢;have hdn : jU   (fun i => fG   (ar i)) na + 1 ≤ 4611686018427387904 := Nat.le_trans hdp hc;have hdi : ∀ i, i ≤ na → jU   (fun i => fG   (ar i)) i ≤ jU   (fun i => fG   (ar i)) na := fun i hi => by
    have key : ∀ n, i ≤ n → jU   (fun i => fG   (ar i)) i ≤ jU   (fun i => fG   (ar i)) n := fun n => by
      induction n with
      | zero => intro q; obtain rfl : i = 0 := by omega
                exact Nat.le_refl _
      | succ n ihn =>
        intro q;by_cases e : i = n + 1
        · subst e; exact Nat.le_refl _
        · have := ihn (by omega)
          show _ ≤ max (jU   (fun i => fG   (ar i)) n) (fG   (ar n));omega
    exact key na hi
  have hdA : ∀ i, i < na → ∃ r, List.drop (i * 5) (dN   na fun i => exC (ar i)) = exC (ar i) ++ r := fun i hi => cO        (f := fun i => exC (ar i)) (fun i => iU      (ar i)) hi
  rw [cZ    ];refine Wv.TC.by 22 [0, 4, 1, 9, 3, 2] [] [.tmp 2] Tryz.func182 rfl rfl rfl ?clo ?_
  case clo => simp only [Wv.BC]
  generalize (dN   na fun i => exC (ar i)) = L at *;refine Wv.W ?_;refine aV   (σ := Nat) (fun i => [(1, .ptr 0 0), (3, .v (.int .i64 (jU   (fun i => fG   (ar i)) i : Nat))), (4, .v (.int .i64 i))])
    (fun i => [some (.blk [.v (.int .i64 k), .v (.string s), .v (.int .i64 n), .t nl 1 (tab nl fun i => .v (.int .i64 (li i))), .t na 5 L])])
    (fun i => i ≤ na) (fun i => na - i) 0 (Nat.zero_le _) rfl (by simp (disch:=first|exact Wv.D|fail) only [Wv.B, simprocAttr, jU  , Int.natCast_zero]) ?_
  intro i hi;by_cases hlt : i < na
  · have e1 : (i : Int) < na := by omega
    have hnx : jU   (fun i => fG   (ar i)) (i + 1) = max (jU   (fun i => fG   (ar i)) i) (fG   (ar i)) := rfl;have hb1 := hdi (i + 1) (by omega);have T := ih i (hh i hlt) (hcn i hlt);have hG := dw      (ar i);obtain ⟨r, hd⟩ := hdA i hlt;obtain ⟨c0, c1, c2, c3, c4, c5, c6, h5⟩ : ∃ (k : Int) (s : ByteArray) (m : Int) (a : Nat) (l : List AV) (b : Nat) (r : List AV), exC (ar i) = [.v (.int .i64 k), .v (.string s), .v (.int .i64 m), .t a 1 l, .t b 5 r] := by cases ar i <;> exact ⟨_, _, _, _, _, _, _, rfl⟩
    simp only [h5, List.cons_append, List.nil_append] at hd;rw [h5] at T hG;have hmx : (if ((fG   (ar i) : Nat) : Int) > ((jU   (fun i => fG   (ar i)) i : Nat) : Int) then ((fG   (ar i) : Nat) : Int) else ((jU   (fun i => fG   (ar i)) i : Nat) : Int)) = ((jU   (fun i => fG   (ar i)) (i + 1) : Nat) : Int) := by
      rw [hnx]; split <;> omega
    generalize hS1 : jU   (fun i => fG   (ar i)) (i + 1) = S1 at *;generalize jU   (fun i => fG   (ar i)) i = S0 at *;generalize fG   (ar i) = Y at *;refine Wv.W2 (ah     e1) hd ?_;refine ak      T rfl (eG    hG) Wv.c ?_;refine Wv.W1 hmx ?_;refine ay     (i + 1) (by omega) (by omega) rfl (Wv.V3 hS1 @Int.natCast_add @Int.natCast_one)
  · obtain rfl : i = na := by omega
    simp (disch:=first|exact Wv.D|fail) only [Wv.B, simprocAttr, Int.lt_irrefl, decide_false, Int.natCast_add, Int.natCast_one]
theorem Um (x:Ex) (h:okE x):TC Tryz.prog 183 [.g (exC x)] (.v (.bool (!lC x))):=by
 induction x with
 | nil=>exact h.elim
 | mk k s n nl li na ar ih=>
 obtain ⟨hs,hnl,hna,hh⟩:=h;have hfin:lC (.mk k s n nl li na ar)=xA (decide (600<(nl:Int))) (fun i=>lC (ar i)) na:=rfl;obtain ⟨B,hB⟩: ∃ B,B=!lC (.mk k s n nl li na ar):=⟨_,rfl⟩
 rw [←hB];rw [hfin] at hB;have hdA: ∀ i,i<na→ ∃ r,List.drop (i*5) (dN na fun i=>exC (ar i))=exC (ar i)++r:=fun i hi=>cO (f:=fun i=>exC (ar i)) (fun i=>iU (ar i)) hi
 rw [cZ];refine Wv.TC.by 22 [0,3,1,8,17,2] [] [.tmp 2] Tryz.func183 rfl rfl rfl ?clo ?_
 case clo=>simp only [Wv.BC]
 generalize (dN na fun i=>exC (ar i))=L at*;refine Wv.W ?_;refine aV (σ:=Nat) (fun i=>[(1, .ptr 0 0),(3, .v (.int .i64 i))])
  (fun i=>[some (.blk [.v (.int .i64 k), .v (.string s), .v (.int .i64 n), .t nl 1 (tab nl fun i=> .v (.int .i64 (li i))), .t na 5 L])])
  (fun i=>i≤na∧ ∀ j,j<i→lC (ar j)=false) (fun i=>na - i) 0 ⟨Nat.zero_le _,fun j hj=>by omega⟩ rfl Wv.V ?_
 rintro i ⟨hi,hbef⟩;by_cases hlt:i<na
 ·have e1:(i:Int)<na:=by omega
  have T:=ih i (hh i hlt);have hG:=dw (ar i);obtain ⟨r,hd⟩:=hdA i hlt;obtain ⟨c0,c1,c2,c3,c4,c5,c6,h5⟩: ∃ (k:Int) (s:ByteArray) (m:Int) (a:Nat) (l:List AV) (b:Nat) (r:List AV),exC (ar i)=[.v (.int .i64 k), .v (.string s), .v (.int .i64 m), .t a 1 l, .t b 5 r]:=by cases ar i<;>exact ⟨_,_,_,_,_,_,_,rfl⟩
  simp only [h5,List.cons_append,List.nil_append] at hd;rw [h5] at T hG;cases hq:lC (ar i) with
  | true=>
   rw [Qp (f:=fun i=>lC (ar i)) hq hlt] at hB;rw [hq] at T;refine Wv.W2 (ah e1) hd ?_;refine ak T rfl (eG hG) Wv.c ?_;refine Wv.W ?_;rw [hB];rfl
  | false=>
   rw [hq] at T;refine Wv.W2 (ah e1) hd ?_;refine ak T rfl (eG hG) Wv.c ?_;refine Wv.W ?_;refine ay (i+1) ⟨by omega,fun j hj=>?_⟩ (by omega) rfl Wv.V2;by_cases e:j=i
   ·subst e;exact hq
   ·exact hbef j (by omega)
 ·obtain rfl:i=na:=by omega
  rw [FV hbef] at hB;refine Wv.W2 @Int.lt_irrefl @decide_false ?_;rw [hB];by_cases q:(600:Int)<nl
  ·rw [ah q,aj (by omega)];rfl
  ·rw [aj q,ah (by omega)];rfl
theorem OH (x : Ex) (h : okE x) : TC Tryz.prog 114 [.g (exC x)] (.v (.bool (bD x))) := by
  induction x with
  | nil => exact h.elim
  | mk k s n nl li na ar ih =>
  obtain ⟨hs, hnl, hna, hh⟩ := h;have hfin : bD (.mk k s n nl li na ar) = (!decide (k < 1) && (!decide (15 < k) && ((if k = 1 then nameB s else decide (s = ⟨#[]⟩)) && (decide ((na : Int) = argN k.toNat) && ((BZ k.toNat || decide (n = 0)) && ((Cb k.toNat || decide ((nl : Int) = 0)) && (inB n && (!aQ nl (fun i => !inB (li i)) && !aQ na fun i => !bD (ar i))))))))) := rfl;obtain ⟨B, hB⟩ : ∃ B, B = bD (.mk k s n nl li na ar) := ⟨_, rfl⟩
  rw [← hB];rw [hfin] at hB;have hdA : ∀ i, i < na → ∃ r, List.drop (i * 5) (dN na fun i => exC (ar i)) = exC (ar i) ++ r := fun i hi => cO (f := fun i => exC (ar i)) (fun i => iU (ar i)) hi
  have TA := Zx k;rw [cZ];refine Wv.TC.by 88 [0, 1, 40, 59, 3, 64, 73, 4, 78, 87, 2] [(1, 34)] [.tmp 2] Tryz.func114 rfl rfl rfl ?clo ?_
  case clo => simp only [Wv.BC]
  generalize (dN na fun i => exC (ar i)) = L at *;by_cases hk : 1 ≤ k ∧ k ≤ 15;rotate_left
  · have hR : Zw k = -1 := if_neg hk
    rw [hR] at TA;have hBf : B = false := by
      rw [hB];by_cases q : k < 1
      · rw [ah q]; rfl
      · rw [aj q, ah (show 15 < k by omega)]; rfl
    refine Wv.W ?_;refine eU TA rfl Wv.c Wv.c ?_;exact Wv.V2f (aj (show ¬ (-1 : Int) = na by omega)) hBf
  have hR : Zw k = argN k.toNat := if_pos hk;rw [hR] at TA;rw [aj (show ¬ k < 1 by omega), aj (show ¬ 15 < k by omega), Bool.not_false, Bool.true_and, Bool.true_and] at hB;have TI := zf n;have TH := OG k hk;have TL := LD k hk;have TN := wO s hs;have hcm := LC (argN k.toNat) (na : Int);generalize argN k.toNat = A1 at *;generalize BZ k.toNat = A2 at *;generalize Cb k.toNat = A3 at *;generalize nameB s = A4 at *;have hI : inB n = inB n := rfl;refine Wv.W ?_;refine eU TA rfl Wv.c Wv.c ?_;cases d1 : decide ((na : Int) = A1) with
  | false =>
    rw [d1] at hB hcm;simp only [Bool.false_and, Bool.and_false] at hB;simp (disch:=first|exact Wv.D|fail) only [Wv.B, simprocAttr, hcm, hB]
  | true =>
  rw [d1] at hB hcm;refine Wv.W1 hcm ?_;refine eU TI rfl Wv.c Wv.c ?_;cases d2 : inB n with
  | false =>
    rw [d2] at hB;simp only [Bool.false_and, Bool.and_false] at hB;simp (disch:=first|exact Wv.D|fail) only [Wv.B, simprocAttr, hB]
  | true =>
  rw [d2] at hB;rw [Bool.true_and, Bool.true_and] at hB;have fin2 : (A2 || decide (n = 0)) = false → B = false := fun q => by rw [hB, q]; simp
  have am9 : (A3 || decide ((nl : Int) = 0)) = false → B = false := fun q => by rw [hB, q]; simp
  have al0 : (if k = 1 then A4 else decide (s = ⟨#[]⟩)) = false → B = false := fun q => by rw [hB, q]; simp
  have ana : ∀ i, i < nl → inB (li i) = false → B = false := fun i hi q => by rw [hB, jv (p := fun i => !inB (li i)) hi (by simp [q])]; simp
  have anb : ∀ i, i < na → bD (ar i) = false → B = false := fun i hi q => by rw [hB, jv (p := fun i => !bD (ar i)) hi (by simp [q])]; simp
  have anc : (A2 || decide (n = 0)) = true → (A3 || decide ((nl : Int) = 0)) = true → (if k = 1 then A4 else decide (s = ⟨#[]⟩)) = true → (∀ i, i < nl → inB (li i) = true) → (∀ i, i < na → bD (ar i) = true) → B = true := fun q1 q2 q3 q4 q5 => by
    rw [hB, q1, q2, q3, gQ (p := fun i => !inB (li i)) fun i hi => by simp [q4 i hi], gQ (p := fun i => !bD (ar i)) fun i hi => by simp [q5 i hi]]; rfl
  clear hB hfin;simp (disch:=first|exact Wv.D|fail) only [Wv.B, simprocAttr];cases d3 : decide (n = 0);refine Wv.W1 d3 ?_;refine eU TH rfl Wv.c Wv.c ?_;cases A2
  (have hBf := fin2 (by rw [d3]; rfl)
   simp (disch:=first|exact Wv.D|fail) only [Wv.B, simprocAttr, d3, hBf])
  refine Wv.W1 d3 ?_;rotate_left
  simp (disch:=first|exact Wv.D|fail) only [Wv.B, simprocAttr, d3];all_goals
    cases d4 : decide ((nl : Int) = 0);refine Wv.W1 d4 ?_;refine eU TL rfl Wv.c Wv.c ?_;cases A3
    (have hBf := am9 (by rw [d4]; rfl)
     simp (disch:=first|exact Wv.D|fail) only [Wv.B, simprocAttr, d4, hBf])
    refine Wv.W1 d4 ?_;rotate_left
    simp (disch:=first|exact Wv.D|fail) only [Wv.B, simprocAttr, d4]
  all_goals
    by_cases hk1 : k = 1;refine Wv.W1 (ah hk1) ?_;refine ak TN rfl Wv.c Wv.c ?_;cases A4
    (have hBf := al0 (if_pos hk1)
     simp (disch:=first|exact Wv.D|fail) only [Wv.B, simprocAttr, ah hk1, hBf])
    refine Wv.W1 (ah hk1) ?_;have g3 : (if k = 1 then true else decide (s = ⟨#[]⟩)) = true := if_pos hk1;rotate_left
    cases d5 : decide (s = ⟨#[]⟩)
    (have hBf := al0 ((if_neg hk1).trans d5)
     simp (disch:=first|exact Wv.D|fail) only [Wv.B, simprocAttr, aj hk1, d5, hBf])
    refine Wv.W2 (aj hk1) d5 ?_;have g3 : (if k = 1 then A4 else decide (s = ⟨#[]⟩)) = true := (if_neg hk1).trans d5
  all_goals
    refine aV (σ := Nat) (fun i => [(1, .ptr 0 0), (3, .v (.int .i64 i))])
      (fun i => [some (.blk [.v (.int .i64 k), .v (.string s), .v (.int .i64 n), .t nl 1 (tab nl fun i => .v (.int .i64 (li i))), .t na 5 L])])
      (fun i => i ≤ nl ∧ ∀ j, j < i → inB (li j) = true) (fun i => nl - i) 0 ⟨Nat.zero_le _, fun j hj => by omega⟩ rfl Wv.V ?_
    rintro i ⟨hi, hbef⟩;by_cases hlt : i < nl
    · have e1 : (i : Int) < nl := by omega
      have TJ := zf (li i);cases hq : inB (li i) with
      | false =>
        have hBf := ana i hlt hq;rw [hq] at TJ;refine Wv.W1 (ah e1) ?_;refine ak TJ rfl Wv.c Wv.c ?_;simp (disch:=first|exact Wv.D|fail) only [Wv.B, simprocAttr, hBf]
      | true =>
        rw [hq] at TJ;refine Wv.W1 (ah e1) ?_;refine ak TJ rfl Wv.c Wv.c ?_;refine Wv.W ?_;refine ay (i + 1) ⟨by omega, fun j hj => ?_⟩ (by omega) rfl Wv.V2;by_cases e : j = i
        · subst e; exact hq
        · exact hbef j (by omega)
    obtain rfl : i = nl := by omega
    refine Wv.W2 @Int.lt_irrefl @decide_false ?_;clear hi hlt;refine aV (σ := Nat) (fun j => [(1, .ptr 0 0), (4, .v (.int .i64 j))])
      (fun j => [some (.blk [.v (.int .i64 k), .v (.string s), .v (.int .i64 n), .t i 1 (tab i fun i => .v (.int .i64 (li i))), .t na 5 L])])
      (fun j => j ≤ na ∧ ∀ q, q < j → bD (ar q) = true) (fun j => na - j) 0 ⟨Nat.zero_le _, fun j hj => by omega⟩ rfl Wv.V ?_
    rintro j ⟨hj, al5⟩;by_cases hlt : j < na
    · have e1 : (j : Int) < na := by omega
      have T := ih j (hh j hlt);have hG := dw (ar j);obtain ⟨r, hd⟩ := hdA j hlt;obtain ⟨c0, c1, c2, c3, c4, c5, c6, h5⟩ : ∃ (k : Int) (s : ByteArray) (m : Int) (a : Nat) (l : List AV) (b : Nat) (r : List AV), exC (ar j) = [.v (.int .i64 k), .v (.string s), .v (.int .i64 m), .t a 1 l, .t b 5 r] := by cases ar j <;> exact ⟨_, _, _, _, _, _, _, rfl⟩
      simp only [h5, List.cons_append, List.nil_append] at hd;rw [h5] at T hG;cases hq : bD (ar j) with
      | false =>
        have hBf := anb j hlt hq;rw [hq] at T;refine Wv.W2 (ah e1) hd ?_;refine ak T rfl (eG hG) Wv.c ?_;simp (disch:=first|exact Wv.D|fail) only [Wv.B, simprocAttr, hBf]
      | true =>
        rw [hq] at T;refine Wv.W2 (ah e1) hd ?_;refine ak T rfl (eG hG) Wv.c ?_;refine Wv.W ?_;refine ay (j + 1) ⟨by omega, fun q hq2 => ?_⟩ (by omega) rfl Wv.V2;by_cases e : q = j
        · subst e; exact hq
        · exact al5 q (by omega)
    · obtain rfl : j = na := by omega
      have hBt := anc (by first | rfl | (rw [d3]; first | rfl | exact Bool.or_true _)) (by first | rfl | (rw [d4]; first | rfl | exact Bool.or_true _)) g3 hbef al5;exact Wv.V3 @Int.lt_irrefl @decide_false hBt
end
section
open Go.RowKit Wv
theorem LG (y:Ex): ∃ (k:Int) (s:ByteArray) (m:Int) (a:Nat) (l:List AV) (b:Nat) (r:List AV),exC y=[.v (.int .i64 k), .v (.string s), .v (.int .i64 m), .t a 1 l, .t b 5 r]:=by cases y<;>exact ⟨_,_,_,_,_,_,_,rfl⟩
theorem Zy (c:Ci) {i:Nat} (hi:i<c.nl): ∃ r,List.drop (i*6) c.lets= .v (.string (c.ln i))::(exC (c.le i)++r):=by
 obtain ⟨r,h⟩:=cO (f:=fun i=>jL (c.ln i) (c.le i)) (fun i=>ji _ _) hi;exact ⟨r,h⟩
theorem Un {c:Ci} (h: ∀ j,j<c.nl→decide (40<((fG (c.le j):Nat):Int))=false∧lC (c.le j)=false):jB c=decide (((c.sum c.nl:Nat):Int)≤400):=by
 unfold jB;by_cases q:((c.sum c.nl:Nat):Int)≤400
 ·rw [ah q,gQ]
  ·rfl
  ·intro j hj;have h1:c.sum (j+1)≤c.sum c.nl:=vT 0 (fun i=>bQ (c.le i)) hj;obtain ⟨h2,h3⟩:=h j hj;show (decide (400<((c.sum (j+1):Nat):Int)) || (decide (40<((fG (c.le j):Nat):Int)) || lC (c.le j)))=false;rw [h2,h3,aj (by omega)];rfl
 ·rw [aj q];have hn:c.nl≠0:=fun e=>q (by rw [e];show ((0:Nat):Int)≤400;omega)
  rw [jv (i:=c.nl - 1) (by omega)]
  ·rfl
  ·show (decide (400<((c.sum (c.nl - 1+1):Nat):Int)) || _)=true;rw [show c.nl - 1+1=c.nl by omega,ah (by omega)];rfl
theorem Uo {c:Ci} {i:Nat} (hi:i<c.nl) (h:(decide (40<((fG (c.le i):Nat):Int)) || lC (c.le i))=true):jB c=false:=by
 unfold jB;rw [jv hi (show c.big i=true from ?_)]
 ·rfl
 ·show (decide (400<((c.sum (i+1):Nat):Int)) || _)=true;rw [h,Bool.or_true]
theorem Ur (c:Ci) (h:okC c) (hn:c.nl≤1000000) (hcn: ∀ i,i<c.nl→bQ (c.le i)≤1000000):TC Tryz.prog 115 [.g (ciC c)] (.v (.bool (jB c))):=by
 have hsm: ∀ i,i≤c.nl→c.sum i≤1000000*i:=fun i=>by
  induction i with
  | zero=>intro _;exact Nat.le_refl 0
  | succ i ih=>
   intro hi;have:=ih (by omega);have:=hcn i (by omega);show dO 0 (fun i=>bQ (c.le i)) i+bQ (c.le i)≤_;have e:c.sum i=dO 0 (fun i=>bQ (c.le i)) i:=rfl;omega
 have hsb: ∀ i,i≤c.nl→c.sum i≤1000000000000:=fun i hi=>by
  have:=hsm i hi;have:=Nat.mul_le_mul_left 1000000 (show i≤1000000 by omega);omega
 refine Wv.TC.by 41 [0,4,1,9,3,38,2] [] [.tmp 2] Tryz.func115 rfl rfl rfl ?clo ?_
 case clo=>simp only [Wv.BC]
 unfold ciC bW;refine Wv.W ?_;refine aV (σ:=Nat) (fun i=>[(1, .ptr 0 0),(3, .v (.int .i64 (c.sum i:Nat))),(4, .v (.int .i64 i))])
  (fun i=>[some (.blk [.v (.string c.name), .t c.ni 1 (tab c.ni fun i=> .v (.string (c.fi i))), .t c.nl 6 c.lets, .t c.no 1 (tab c.no fun i=> .v (.string (c.fo i)))])])
  (fun i=>i≤c.nl∧ ∀ j,j<i→decide (40<((fG (c.le j):Nat):Int))=false∧lC (c.le j)=false) (fun i=>c.nl - i) 0 ⟨Nat.zero_le _,fun j hj=>by omega⟩ rfl (by simp (disch:=first|exact Wv.D|fail) only [Wv.B,simprocAttr,Ci.sum,dO,Int.natCast_zero]) ?_
 rintro i ⟨hi,hbef⟩;have hnl:=h.nl;by_cases hlt:i<c.nl
 ·have e1:(i:Int)<c.nl:=by omega
  have hs1:c.sum (i+1)=c.sum i+bQ (c.le i):=rfl;have hs2:=hsb (i+1) (by omega);have hci:=hcn i hlt;have hdc:=zN (c.le i);have T1:=Uk (c.le i) (h.le i hlt).1 (h.le i hlt).2;have T2:=Ul (c.le i) (h.le i hlt).1 (h.le i hlt).2;have T3:=Um (c.le i) (h.le i hlt).1;have hG:=dw (c.le i);have hbad:=Uo (c:=c) hlt;obtain ⟨r,hd⟩:=Zy c hlt;obtain ⟨c0,c1,c2,c3,c4,c5,c6,h5⟩:=LG (c.le i);simp only [h5,List.cons_append,List.nil_append] at hd;rw [h5] at T1 T2 T3 hG;generalize hS1:c.sum (i+1)=S1 at*;generalize c.sum i=S0 at*;generalize hY:bQ (c.le i)=Y at*;generalize hZ:fG (c.le i)=Z at*;refine Wv.W2 (ah e1) hd ?_;refine ak T1 rfl (eG hG) Wv.c ?_;refine Wv.W1 hd ?_;refine ak T2 rfl (eG hG) Wv.c ?_;cases d1:decide (40<(Z:Int)) with
  | true=>
   have d1':decide ((Z:Int)>40)=true:=d1;have hf:=hbad (by rw [d1];rfl);simp (disch:=first|exact Wv.D|fail) only [Wv.B,simprocAttr,d1',hf]
  | false=>
   have d1':decide ((Z:Int)>40)=false:=d1;simp (disch:=first|exact Wv.D|fail) only [Wv.B,simprocAttr,d1',hd];refine ak T3 rfl (eG hG) Wv.c ?_;cases d2:lC (c.le i) with
   | true=>
    have hf:=hbad (by rw [d2,Bool.or_true]);simp (disch:=first|exact Wv.D|fail) only [Wv.B,simprocAttr,hf]
   | false=>
    refine Wv.W ?_;refine ay (i+1) ⟨by omega,fun j hj=>?_⟩ (by omega) rfl (by simp (disch:=first|exact Wv.D|fail) only [Wv.B,simprocAttr,hS1,hs1,Int.natCast_add,Int.natCast_one]);by_cases e:j=i
    ·subst e;exact ⟨by rw [hZ];exact d1,d2⟩
    ·exact hbef j (by omega)
 ·obtain rfl:i=c.nl:=by omega
  have hf:=Un hbef;exact Wv.V3 @Int.lt_irrefl @decide_false hf
theorem LH (c:Ci):TC Tryz.prog 113 [.g (ciC c)] (.v (.bool (tu c))):=by
 refine Wv.TC.by 19 [0,1,2] [] [.tmp 2] Tryz.func113 rfl rfl rfl ?clo ?_
 case clo=>simp only [Wv.BC]
 unfold ciC bW;have hN:tu c=(decide ((c.ni:Int)≤8) && (decide ((c.nl:Int)≤60) && decide ((c.no:Int)≤8))):=rfl;cases h1:decide ((c.ni:Int)≤8) with
 | false=>rw [h1,Bool.false_and] at hN;simp (disch:=first|exact Wv.D|fail) only [Wv.B,simprocAttr,h1,hN]
 | true=>
 cases h2:decide ((c.nl:Int)≤60) with
 | false=>rw [h1,h2,Bool.false_and,Bool.and_false] at hN;simp (disch:=first|exact Wv.D|fail) only [Wv.B,simprocAttr,h1,h2,hN]
 | true=>rw [h1,h2,Bool.true_and,Bool.true_and] at hN;simp (disch:=first|exact Wv.D|fail) only [Wv.B,simprocAttr,h1,h2,hN]
theorem OI (c:Ci) (h:okC c) (hn:c.nl≤1000000) (hcn: ∀ i,i<c.nl→bQ (c.le i)≤1000000):TC Tryz.prog 67 [.g (ciC c)] (.v (.int .i64 (dV c))):=by
 have hcl:=vV c;have hLc:=jk c;have T0:=wO c.name h.name;have T1:=FW c.ni c.fi h.ni h.fi;have T2:=FW c.no c.fo h.no h.fo;have T3:=LH c;have T4:=Ur c h hn hcn;have hsc:=mF c.ni c.fi;have hso:=mF c.no c.fo;have hN:dV c=if (!nameB c.name || (aQ c.ni (fun i=>!nameB (c.fi i)) || (aQ c.no (fun i=>!nameB (c.fo i)) || (decide ((c.no:Int)=0) || !tu c))))=true then 2
  else if aQ c.nl (fun i=>!nameB (c.ln i) || !bD (c.le i))=true then 2 else if jB c=true then 0 else 3:=rfl
 generalize dV c=R at*;unfold ciC bW at*;refine Wv.TC.by 59 [0,1,30,3,35,55,58,2] [] [.tmp 2] Tryz.func67 rfl rfl rfl ?clo ?_
 case clo=>simp only [Wv.BC]
 refine Wv.W ?_;refine ak T0 rfl Wv.c Wv.c ?_;cases h1:nameB c.name with
 | false=>rw [h1] at hN;simp only [Bool.not_false,Bool.true_or,if_true] at hN;simp (disch:=first|exact Wv.D|fail) only [Wv.B,simprocAttr,hN]
 | true=>
 refine Wv.W ?_;refine ak T1 rfl (eG hsc) Wv.c ?_;cases h2:aQ c.ni (fun i=>!nameB (c.fi i)) with
 | true=>rw [h1,h2] at hN;simp only [Bool.not_true,Bool.false_or,Bool.true_or,if_true] at hN;simp (disch:=first|exact Wv.D|fail) only [Wv.B,simprocAttr,hN]
 | false=>
 refine Wv.W ?_;refine ak T2 rfl (eG hso) Wv.c ?_;cases h3:aQ c.no (fun i=>!nameB (c.fo i)) with
 | true=>rw [h1,h2,h3] at hN;simp only [Bool.not_true,Bool.false_or,Bool.true_or,if_true] at hN;simp (disch:=first|exact Wv.D|fail) only [Wv.B,simprocAttr,hN]
 | false=>
 cases h4:decide ((c.no:Int)=0) with
 | true=>rw [h1,h2,h3,h4] at hN;simp only [Bool.not_true,Bool.false_or,Bool.true_or,if_true] at hN;simp (disch:=first|exact Wv.D|fail) only [Wv.B,simprocAttr,h4,hN]
 | false=>
 refine Wv.W1 h4 ?_;refine ak T3 rfl (eG hcl) Wv.c ?_;cases h5:tu c with
 | false=>rw [h1,h2,h3,h4,h5] at hN;simp only [Bool.not_true,Bool.not_false,Bool.false_or,Bool.or_true,if_true] at hN;simp (disch:=first|exact Wv.D|fail) only [Wv.B,simprocAttr,hN]
 | true=>
 rw [h1,h2,h3,h4,h5] at hN;simp only [Bool.not_true,Bool.or_false,Bool.false_eq_true,if_false] at hN;refine Wv.W ?_;refine aV (σ:=Nat) (fun i=>[(1, .ptr 0 0),(3, .v (.int .i64 i))])
  (fun i=>[some (.blk [.v (.string c.name), .t c.ni 1 (tab c.ni fun i=> .v (.string (c.fi i))), .t c.nl 6 c.lets, .t c.no 1 (tab c.no fun i=> .v (.string (c.fo i)))])])
  (fun i=>i≤c.nl∧ ∀ j,j<i→(!nameB (c.ln j) || !bD (c.le j))=false) (fun i=>c.nl - i) 0 ⟨Nat.zero_le _,fun j hj=>by omega⟩ rfl Wv.V ?_
 rintro i ⟨hi,hbef⟩;have hnl:=h.nl;by_cases hlt:i<c.nl
 ·have e1:(i:Int)<c.nl:=by omega
  have T5:=wO (c.ln i) (h.ln i hlt);have T6:=OH (c.le i) (h.le i hlt).1;have hG:=dw (c.le i);have hbad:(!nameB (c.ln i) || !bD (c.le i))=true→R=2:=fun q=>by
   rw [hN,jv (p:=fun i=>!nameB (c.ln i) || !bD (c.le i)) hlt q];rfl
  obtain ⟨r,hd⟩:=Zy c hlt;obtain ⟨c0,c1,c2,c3,c4,c5,c6,h6⟩:=LG (c.le i);simp only [h6,List.cons_append,List.nil_append] at hd;rw [h6] at T6 hG;refine Wv.W2 (ah e1) hd ?_;refine ak T5 rfl Wv.c Wv.c ?_;cases d1:nameB (c.ln i) with
  | false=>
   have hf:=hbad (by rw [d1];rfl);simp (disch:=first|exact Wv.D|fail) only [Wv.B,simprocAttr,hf]
  | true=>
   refine Wv.W1 hd ?_;refine ak T6 rfl (eG hG) Wv.c ?_;cases d2:bD (c.le i) with
   | false=>
    have hf:=hbad (by rw [d2];simp);simp (disch:=first|exact Wv.D|fail) only [Wv.B,simprocAttr,hf]
   | true=>
    refine Wv.W ?_;refine ay (i+1) ⟨by omega,fun j hj=>?_⟩ (by omega) rfl Wv.V2;by_cases e:j=i
    ·subst e;rw [d1,d2];rfl
    ·exact hbef j (by omega)
 ·obtain rfl:i=c.nl:=by omega
  rw [gQ hbef] at hN;simp only [Bool.false_eq_true,if_false] at hN;refine Wv.W2 @Int.lt_irrefl @decide_false ?_;refine ak T4 rfl (eG hcl) Wv.c ?_;cases d3:jB c with
  | true=>rw [d3] at hN;simp only [if_true] at hN;simp (disch:=first|exact Wv.D|fail) only [Wv.B,simprocAttr,hN]
  | false=>rw [d3] at hN;simp only [Bool.false_eq_true,if_false] at hN;simp (disch:=first|exact Wv.D|fail) only [Wv.B,simprocAttr,hN]
end
section
open Go.RowKit Wv
def shM (m:Nat) (sh:Nat→Bool × Nat):List AV:=dN m fun i=>[.v (.bool (sh i).1), .v (.int .i64 (sh i).2)]
def yC (N t r:Int) (m:Nat) (nm:Nat→ByteArray) (sh:Nat→Bool × Nat):List AV:=[.v (.int .i64 N), .v (.int .i64 t), .v (.int .i64 r),bW m nm, .t m 2 (shM m sh)]
theorem ad1 (m:Nat) (sh:Nat→Bool × Nat): ∀ a,a∈shM m sh→Clo a:=dK fun i _=>by simp only [Wv.BC]
theorem uJ (N t r:Int) (m:Nat) (nm:Nat→ByteArray) (sh:Nat→Bool × Nat):Clo (.tp (yC N t r m nm sh)):=by
 refine .tp ?_;unfold yC bW;simp only [Wv.BC];exact ad1 m sh
theorem aiI {m:Nat} {sh:Nat→Bool × Nat} {i:Nat} (hi:i<m): ∃ r,List.drop (i*2) (shM m sh)= .v (.bool (sh i).1):: .v (.int .i64 (sh i).2)::r:=by
 obtain ⟨r,h⟩:=cO (m:=2) (f:=fun i=>[AV.v (.bool (sh i).1), .v (.int .i64 (sh i).2)]) (fun i=>rfl) hi;exact ⟨r,h⟩
def fiR (m:Nat) (nm:Nat→ByteArray) (sh:Nat→Bool × Nat) (s:ByteArray):Option (Bool × Nat):=(findF (fun i=>decide (nm i=s)) m).map sh
def fiA (o:Option (Bool × Nat)):AV:= .tup [shA (o.getD (false,0)), .v (.bool o.isSome)]
theorem Ac (o:Option (Bool × Nat)):Clo (fiA o):=by unfold fiA shA;simp only [Wv.BC]
theorem wP (N t r:Int) (m:Nat) (nm:Nat→ByteArray) (sh:Nat→Bool × Nat) (s:ByteArray) (hm:m≤140737488351232):TC Tryz.prog 68 [.tp (yC N t r m nm sh), .v (.string s)] (fiA (fiR m nm sh s)):=by
 have hc:=Ac (fiR m nm sh s);have hR:fiR m nm sh s=(findF (fun i=>decide (nm i=s)) m).map sh:=rfl;generalize fiR m nm sh s=R at*;have hdr: ∀ i,i<m→ ∃ r,List.drop (i*2) (shM m sh)= .v (.bool (sh i).1):: .v (.int .i64 (sh i).2)::r:=fun i hi=>aiI hi
 unfold yC bW;refine Wv.TC.by 33 [6,0,13,1,24,4,5] [] [.cell 4 42, .tmp 5] Tryz.func68 rfl rfl rfl ?clo ?_
 case clo=>exact hc
 generalize shM m sh=L at*;refine Wv.W ?_;refine aV (σ:=Nat) (fun i=>[(0, .tp [.v (.int .i64 N), .v (.int .i64 t), .v (.int .i64 r), .t m 1 (tab m fun i=> .v (.string (nm i))), .t m 2 L]),(1, .v (.string s)),(4, .ptr 0 0),(6, .v (.int .i64 i))]) (fun _=>[some (.blk [.v (.bool false), .v (.int .i64 0)])])
  (fun i=>i≤m∧ ∀ j,j<i→decide (nm j=s)=false) (fun i=>m - i) 0 ⟨Nat.zero_le _,fun j hj=>by omega⟩ rfl Wv.V ?_
 rintro i ⟨hi,hbef⟩;by_cases hlt:i<m
 ·have e1:(i:Int)<m:=by omega
  obtain ⟨rr,hd⟩:=hdr i hlt;cases hq:decide (nm i=s) with
  | true=>
   rw [iO (p:=fun i=>decide (nm i=s)) hlt hq hbef] at hR;subst hR;refine Wv.W3 (ah e1) hq hd ?_;rfl
  | false=>
   refine Wv.W2 (ah e1) hq ?_;refine ay (i+1) ⟨by omega,fun j hj=>?_⟩ (by omega) rfl Wv.V2;by_cases e:j=i
   ·subst e;exact hq
   ·exact hbef j (by omega)
 ·obtain rfl:m=i:=by omega
  rw [ig (p:=fun i=>decide (nm i=s)) hbef] at hR;subst hR;refine Wv.W2 @Int.lt_irrefl @decide_false ?_;rfl
theorem Qq (N t r:Int) (m:Nat) (nm:Nat→ByteArray) (sh:Nat→Bool × Nat) (n:Int) (hn:inB n=true) (ht:1≤t) (ht':t≤4611686018427387904):TC Tryz.prog 185 [.tp (yC N t r m nm sh), .v (.int .i64 n)] (.v (.bool (mV t n))):=by
 have hn': -4294967295≤n∧n≤4294967295:=by
  unfold inB at hn;rw [Bool.and_eq_true] at hn;exact ⟨of_decide_eq_true hn.1,of_decide_eq_true hn.2⟩
 have hq1:(t - 1).tdiv 2=(t - 1) / 2:=Int.tdiv_eq_ediv_of_nonneg (by omega);have hq2:(-(t - 1)).tdiv 2= -((t - 1) / 2):=by rw [Int.neg_tdiv,hq1]
 have hq3:(0 - (t - 1)).tdiv 2= -((t - 1) / 2):=by rw [Int.zero_sub,hq2]
 have hB:mV t n=(decide (n≥ -((t - 1) / 2)) && decide (n≤(t - 1) / 2)):=by
  unfold mV;by_cases h1:n≥ -((t - 1) / 2)
  ·rw [ah h1,Bool.true_and];by_cases h2:n≤(t - 1) / 2
   ·rw [ah h2];exact ah (by split<;>omega)
   ·rw [aj h2];exact aj (by split<;>omega)
  ·rw [aj h1,Bool.false_and];exact aj (by split<;>omega)
 unfold yC bW;refine Wv.TC.by 24 [1,0,4] [] [.tmp 4] Tryz.func185 rfl rfl rfl ?clo ?_
 case clo=>simp only [Wv.BC]
 generalize shM m sh=L at*;have hw:IntKind.i64.wrap (-((t - 1) / 2))= -((t - 1) / 2):=by rw [IntKind.wrap_i64];omega
 have hw2:IntKind.i64.wrap ((t - 1) / 2)=(t - 1) / 2:=by rw [IntKind.wrap_i64];omega
 generalize (t - 1) / 2=H at*;by_cases h1:n≥ -H
 ·rw [ah h1,Bool.true_and] at hB;simp (disch:=first|exact Wv.D|fail) only [Wv.B,simprocAttr,hq1,hq2,hq3,hw,hw2,ah (show -H≤n from h1),hB]
 ·rw [aj h1,Bool.false_and] at hB;simp (disch:=first|exact Wv.D|fail) only [Wv.B,simprocAttr,hq1,hq2,hq3,hw,hw2,aj (show ¬(-H≤n) from h1),hB]
theorem LJ (N t r:Int) (m:Nat) (nm:Nat→ByteArray) (sh:Nat→Bool × Nat) (nl:Nat) (li:Nat→Int) (most:Int) (hnl:nl≤140737488351232) (hli: ∀ i,i<nl→inB (li i)=true) (ht:1≤t) (ht':t≤4611686018427387904):TC Tryz.prog 186 [.tp (yC N t r m nm sh), .t nl 1 (tab nl fun i=> .v (.int .i64 (li i))), .v (.int .i64 most)] (.v (.bool (jM t nl li 0 most))):=by
 have hB:jM t nl li 0 most=(decide ((nl:Int)≤most) && !aQ nl fun i=>!mV t (li i)):=by
  unfold jM;rw [ah (show (0:Int)≤(nl:Int) by omega),Bool.true_and]
 have hyc:=uJ N t r m nm sh;have TB:=fun i hi=>Qq N t r m nm sh (li i) (hli i hi) ht ht'
 generalize jM t nl li 0 most=B at*;generalize yC N t r m nm sh=Y at*;refine Wv.TC.by 25 [7,1,11,0,20,2,6] [] [.tmp 6] Tryz.func186 rfl rfl rfl ?clo ?_
 case clo=>simp only [Wv.BC]
 refine Wv.W ?_;refine aV (σ:=Nat) (fun i=>[(0, .tp Y),(1, .t nl 1 (tab nl fun i=> .v (.int .i64 (li i)))),(2, .v (.int .i64 most)),(7, .v (.int .i64 i))]) (fun _=>[])
  (fun i=>i≤nl∧ ∀ j,j<i→(!mV t (li j))=false) (fun i=>nl - i) 0 ⟨Nat.zero_le _,fun j hj=>by omega⟩ rfl Wv.V ?_
 rintro i ⟨hi,hbef⟩;by_cases hlt:i<nl
 ·have e1:(i:Int)<nl:=by omega
  have T:=TB i hlt;cases hq:mV t (li i) with
  | false=>
   rw [hq] at T;rw [jv (p:=fun i=>!mV t (li i)) hlt (by simp [hq])] at hB;refine Wv.W1 (ah e1) ?_;refine ak T rfl (ou hyc (.v _)) Wv.c ?_;refine Wv.W ?_;rw [hB];simp
  | true=>
   rw [hq] at T;refine Wv.W1 (ah e1) ?_;refine ak T rfl (ou hyc (.v _)) Wv.c ?_;refine Wv.W ?_;refine ay (i+1) ⟨by omega,fun j hj=>?_⟩ (by omega) rfl Wv.V2;by_cases e:j=i
   ·subst e;rw [hq];rfl
   ·exact hbef j (by omega)
 ·obtain rfl:i=nl:=by omega
  rw [gQ hbef] at hB;refine Wv.W2 @Int.lt_irrefl @decide_false ?_;rw [hB,Bool.not_false,Bool.and_true]
theorem Zz (nl:Nat) (li:Nat→Int) (hnl:nl≤140737488351232):TC Tryz.prog 187 [.t nl 1 (tab nl fun i=> .v (.int .i64 (li i)))] (.v (.bool (!aQ nl fun i=>!decide (li i=0) && !decide (li i=1)))):=by
 obtain ⟨B,hB⟩: ∃ B,B=!aQ nl fun i=>!decide (li i=0) && !decide (li i=1):=⟨_,rfl⟩
 rw [←hB];refine Wv.TC.by 22 [3,0,7,21,2] [] [.tmp 2] Tryz.func187 rfl rfl rfl ?clo ?_
 case clo=>simp only [Wv.BC]
 refine Wv.W ?_;refine aV (σ:=Nat) (fun i=>[(0, .t nl 1 (tab nl fun i=> .v (.int .i64 (li i)))),(3, .v (.int .i64 i))]) (fun _=>[])
  (fun i=>i≤nl∧ ∀ j,j<i→(!decide (li j=0) && !decide (li j=1))=false) (fun i=>nl - i) 0 ⟨Nat.zero_le _,fun j hj=>by omega⟩ rfl Wv.V ?_
 rintro i ⟨hi,hbef⟩;by_cases hlt:i<nl
 ·have e1:(i:Int)<nl:=by omega
  have hnx:(!decide (li i=0) && !decide (li i=1))=false→ ∀ j,j<i+1→(!decide (li j=0) && !decide (li j=1))=false:=fun h j hj=>by
   by_cases e:j=i
   ·subst e;exact h
   ·exact hbef j (by omega)
  cases h0:decide (li i=0) with
  | true=>
   refine Wv.W2 (ah e1) h0 ?_;refine ay (i+1) ⟨by omega,hnx (by rw [h0];rfl)⟩ (by omega) rfl Wv.V2
  | false=>
   cases h1:decide (li i=1) with
   | true=>
    refine Wv.W3 (ah e1) h0 h1 ?_;refine ay (i+1) ⟨by omega,hnx (by rw [h0,h1];rfl)⟩ (by omega) rfl Wv.V2
   | false=>
    rw [jv (p:=fun i=>!decide (li i=0) && !decide (li i=1)) hlt (by rw [h0,h1];rfl)] at hB;refine Wv.W3 (ah e1) h0 h1 ?_;rw [hB];rfl
 ·obtain rfl:i=nl:=by omega
  rw [gQ hbef] at hB;refine Wv.W2 @Int.lt_irrefl @decide_false ?_;rw [hB];rfl
theorem ZA (b:Bool):TC Tryz.prog 184 [.v (.bool b)] (.v (.int .i64 (if b=true then 0 else 233))):=by
 refine Wv.TC.by 4 [0,3,2] [] [.tmp 2] Tryz.func184 rfl rfl rfl ?clo ?_
 case clo=>simp only [Wv.BC]
 cases b
 ·exact Wv.V
 ·exact Wv.V
theorem ZB (a b:Int):TC Tryz.prog 220 [.v (.int .i64 a), .v (.int .i64 b)] (.v (.int .i64 (if a<b then 1 else 0))):=by
 refine Wv.TC.by 8 [0,1,7,4] [] [.tmp 4] Tryz.func220 rfl rfl rfl ?clo ?_
 case clo=>simp only [Wv.BC]
 by_cases h:a<b
 ·rw [if_pos h];exact Wv.V1 (ah h)
 ·rw [if_neg h];exact Wv.V1 (aj h)
end
section
open Go.RowKit Wv
theorem yA (n:Nat) (f:Nat→Nat) (hn:n≤2000000000):TC Tryz.prog 258 [fH n f] (cu (aW (ofT n f))):=by
 rw [Fp,Kq];have hc:=jV (dB f n) f;unfold fH;refine Wv.TC.by 24 [0,3,16,4,2] [] [.tmp 2] Tryz.func258 rfl rfl rfl ?clo ?_
 case clo=>simp only [Wv.BC]
 refine Wv.W ?_;refine aV (σ:=Nat) (fun k=>[(0,fH n f),(3, .v (.int .i64 k))]) (fun k=>[]) (fun k=>k≤n∧dB f k=dB f n) (fun k=>k) n ⟨Nat.le_refl _,rfl⟩ Wv.V (by simp (disch:=first|exact Wv.D|fail) only [Wv.B,simprocAttr,fH]) ?_;rintro k ⟨hk,he⟩;unfold fH;cases k with
 | zero=>
  have e0:dB f n=0:=he.symm;simp (disch:=first|exact Wv.D|fail) only [Wv.B,simprocAttr,e0]
 | succ k=>
  have e1:((k+1:Nat):Int) - 1=(k:Int):=by omega
  have e2:(0:Int)<((k+1:Nat):Int):=by omega
  by_cases hd:f k=0
  ·have he':dB f k=dB f n:=by rw [←he,iw,if_pos hd]
   refine Wv.W3 e1 (ah e2) hd ?_;refine ay k ⟨by omega,he'⟩ (by omega) Wv.V Wv.V
  ·have he':dB f n=k+1:=by rw [←he,iw,if_neg hd]
   have hd': ¬ ((f k:Nat):Int)=0:=by omega
   simp (disch:=first|exact Wv.D|fail) only [Wv.B,simprocAttr,e1,ah e2,aj hd',he']
theorem Ad (n:Nat) (f:Nat→Nat) (i:Nat) (hn:n≤140737488351232) (hf:f i≤4294967295):TC Tryz.prog 266 [fH n f, .v (.int .i64 i)] (.v (.int .u64 (if i<n then f i else 0:Nat))):=by
 unfold fH;refine Wv.TC.by 18 [1,0,12,4] [] [.tmp 4] Tryz.func266 rfl rfl rfl ?clo ?_
 case clo=>simp only [Wv.BC]
 have h0: ¬ (i:Int)<0:=by omega
 by_cases h:i<n
 ·have h1: ¬ (n:Int)≤(i:Int):=by omega
  rw [if_pos h];exact Wv.V2f (aj h0) (aj h1)
 ·have h1:(n:Int)≤(i:Int):=by omega
  rw [if_neg h];exact Wv.V2f (aj h0) (ah h1)
theorem ZC (a n:Nat) (h1:2≤n) (h2:n≤2147483647) (ha:a<n):TC Tryz.prog 256 [.v (.int .u32 a), .v (.int .u32 n)] (.tup [.v (.int .u32 (jm a n).1), .v (.bool (decide (Nat.gcd n a=1)))]):=by
 refine Wv.TC.by 42 [1,0,7,16,6,10,9,8,33,35,4,5] [] [.tmp 4, .tmp 5] Tryz.func256 rfl rfl rfl ?clo ?_
 case clo=>simp only [Wv.BC]
 refine Wv.W ?_;have HS:=EuI.start h1 ha;refine aV (σ:=Nat × Nat × Int × Int) (fun s=>[(1, .v (.int .u32 n)),(6, .v (.int .i64 (s.1:Nat))),(7, .v (.int .i64 (s.2.1:Nat))),(8, .v (.int .i64 s.2.2.1)),(9, .v (.int .i64 s.2.2.2))]) (fun s=>[])
  (fun s=>EuI n a s.1 s.2.1 s.2.2.1 s.2.2.2) (fun s=>s.2.1) (n,a,0,1) HS Wv.V Wv.V ?_
 rintro ⟨x,y,u,v⟩ he;simp only at he ⊢;by_cases hy:0<y
 ·have hy0: ¬ ((y:Int)=0):=by omega
  have hs:=he.step hy;have hxn:=he.xn;have hu0:=he.u0;have hu1:=he.u1;have hv0':=hs.v0;have amZ:=hs.v1;have hdm:=Nat.div_add_mod x y;have hr:x % y<y:=Nat.mod_lt _ hy;have edt:(x:Int).tdiv (y:Int)=((x / y:Nat):Int):=by rw [Int.tdiv_eq_ediv_of_nonneg (by omega)];exact (Int.natCast_ediv x y).symm
  generalize x / y=q at*;generalize x % y=r at*;have hqy:((y*q+r:Nat):Int)=(x:Int):=by rw [hdm]
  rw [Int.natCast_add,Int.natCast_mul,Int.mul_comm] at hqy;have hq0:(0:Int)≤(q:Int)*(y:Int):=Int.mul_nonneg (by omega) (by omega);have hqx:(q:Int)≤(x:Int):=by
   have h:(q:Int)*1≤(q:Int)*(y:Int):=Int.mul_le_mul_of_nonneg_left (by omega) (by omega);omega
  have e2:IntKind.i64.wrap ((q:Int)*(y:Int))=(q:Int)*(y:Int):=by rw [IntKind.wrap_i64];omega
  have e3:(x:Int) - (q:Int)*(y:Int)=(r:Int):=by omega
  have e4:IntKind.i64.wrap ((q:Int)*v)=(q:Int)*v:=by rw [IntKind.wrap_i64];omega
  have e5:IntKind.i64.wrap (u - (q:Int)*v)=u - (q:Int)*v:=by rw [IntKind.wrap_i64];omega
  simp (disch:=first|exact Wv.D|fail) only [Wv.B,simprocAttr,aj hy0,edt,e2,e3,e4,e5];refine ay (y,r,v,u - (q:Int)*v) hs hr Wv.V Wv.V
 ·obtain rfl:y=0:=by omega
  have hg:=he.gc;rw [Nat.gcd_zero_right] at hg;by_cases hx:x=1
  ·have hi:jm a n=(NG a n,0):=if_pos (by rw [←hg,hx]);have hgg:Nat.gcd n a=1:=by rw [←hg,hx]
   obtain ⟨f1,f2,f3⟩:=he.fin h1 hx;subst hx;have hf:Tt u n=if u<0 then u+n else u:=rfl
   have hu0:=he.u0;have hu1:=he.u1;by_cases hu:u<0
   ·rw [if_pos hu] at hf;refine Wv.W3 (ah hu) hi (ah hgg) ?_;rw [←f3,hf]
   ·rw [if_neg hu] at hf;refine Wv.W3 (aj hu) hi (ah hgg) ?_;rw [←f3,hf]
  ·have hgg: ¬ Nat.gcd n a=1:=fun e=>hx (by rw [hg,e])
   have hi:jm a n=(0,4):=if_neg hgg;have hx': ¬ ((x:Int)=1):=by omega
   exact Wv.V3 (aj hx') hi (aj hgg)
def Us (m:Nat) (p q:Nat) (f g:Nat→Nat) (i:Nat):Nat:=((if i<p then f i else 0)+m - (if i<q then g i else 0)) % m
def minL (m:Nat) (a b:List Nat):List Nat:=aW (ofT (max a.length b.length) (Us m a.length b.length (fun i=>a.getD i 0) (fun i=>b.getD i 0)))
theorem LK (m:Nat) (a b:List Nat) (h1:2≤m) (h2:m≤2147483647) (ha: ∀ i,a.getD i 0<m) (hb: ∀ i,b.getD i 0<m) (hn:a.length≤1000000000) (hk:b.length≤1000000000):
  TC Tryz.prog 259 [.v (.int .u32 m),cu a,cu b] (cu (minL m a b)):=by
 unfold minL cu;obtain ⟨N,hN⟩: ∃ N,N=max a.length b.length:=⟨_,rfl⟩
 have hT:=yA (max a.length b.length) (Us m a.length b.length (fun i=>a.getD i 0) (fun i=>b.getD i 0)) (by omega);generalize (aW (ofT (max a.length b.length) (Us m a.length b.length (fun i=>a.getD i 0) (fun i=>b.getD i 0))))=R at*;have hRc:=aU R;unfold cu at hT hRc;obtain ⟨f,hf⟩: ∃ f:Nat→Nat,f=fun i=>a.getD i 0:=⟨_,rfl⟩
 obtain ⟨g,hg⟩: ∃ g:Nat→Nat,g=fun i=>b.getD i 0:=⟨_,rfl⟩
 have ef: ∀ i,a.getD i 0=f i:=fun i=>by rw [hf]
 have eg: ∀ i,b.getD i 0=g i:=fun i=>by rw [hg]
 simp only [ef,eg] at*;clear ef eg hf hg;generalize a.length=p at*;generalize b.length=q at*;have hmy:(if (q:Int)>(p:Int) then (q:Int) else (p:Int))=(N:Int):=by rw [hN];split<;>omega
 have hNN:N≤1000000000:=by omega
 rw [←hN] at hT;clear hN;have TA:=fun i=>Ad p f i (by omega) (by have:=ha i;omega)
 have TB:=fun i=>Ad q g i (by omega) (by have:=hb i;omega)
 have hcf:=jV p f;have hcg:=jV q g;have hx: ∀ i,(if i<p then f i else 0)<m:=fun i=>by split;exact ha i;omega
 have hy: ∀ i,(if i<q then g i else 0)<m:=fun i=>by split;exact hb i;omega
 have hF: ∀ i,Us m p q f g i=((if i<p then f i else 0)+m - (if i<q then g i else 0)) % m:=fun i=>rfl
 generalize Us m p q f g=F at*;unfold fH at*;refine Wv.TC.by 37 [8,1,2,15,7,0,6] [] [.tmp 6] Tryz.func259 rfl rfl rfl ?clo ?_
 case clo=>exact hRc
 refine Wv.W ?_;refine pY (σ:=Nat) (fun i=>[(0, .v (.int .u32 m)),(1, .t p 1 (tab p fun i=> .v (.int .u32 (f i:Nat)))),(2, .t q 1 (tab q fun i=> .v (.int .u32 (g i:Nat)))),(7, .own 0 i),(8, .v (.int .i64 i))])
  (fun i=>[some (.arr 22 1 (tab i fun i=> .v (.int .u32 (F i:Nat))) 0)]) (fun i=>i≤N) (fun i=>N - i) 0 (Nat.zero_le _) ?_ ?_
 ·refine Ent.trans (Ent.nil 7 22 1 (by omega) rfl) (Ent.fit ?_);exact Wv.V
 intro i hi;by_cases hlt:i<N
 ·have e1:(i:Int)<N:=by omega
  have tA:=TA i;have tB:=TB i;have hx:=hx i;have hy:=hy i;have hF':=hF i;generalize (if i<p then f i else 0)=x at*;generalize (if i<q then g i else 0)=y at*;have e7:IntKind.u32.wrap (((x:Int)+(m:Int) - (y:Int)) % (m:Int))=(F i:Int):=by
   have h8:(((x+m - y) % m:Nat):Int)=((x:Int)+(m:Int) - (y:Int)) % (m:Int):=by rw [Int.natCast_emod,Int.natCast_sub (by omega),Int.natCast_add]
   have h9:(x+m - y) % m<m:=Nat.mod_lt _ (by omega);rw [←h8,IntKind.wrap_u32,hF'];omega
  refine Wv.W2 hmy (ah e1) ?_;refine ak tA rfl (ou hcf (.v _)) Wv.c ?_;refine Wv.W ?_;refine ak tB rfl (ou hcg (.v _)) Wv.c ?_;refine Wv.W2 @qO e7 ?_;refine Wv.jh (i+1) 1 (by first | decide | exact Nat.le_of_ble_eq_true rfl) (by omega) (by omega) (Wv.V1 @bZ) Wv.V2 (by simp only [Wv.BL, ↓reduceIte,Nat.reduceLeDiff]<;>omega) (by simp only [Wv.BL, ↓reduceIte,Nat.reduceLeDiff]<;>omega)
 ·obtain rfl:i=N:=by omega
  refine Wv.W3 hmy @Int.lt_irrefl @decide_false ?_;refine jT hT (NI Wv.c) hRc ?_;refine Wv.W ?_;refine iM rfl ?_;exact Wv.V
def cvS (m:Nat) (f g:Nat→Nat) (i:Nat):Nat→Nat
 | 0=>0
 | k+1=>(cvS m f g i k+f k*g (i - k)) % m
def atF (n:Nat) (f:Nat→Nat) (i:Nat):Nat:=if i<n then f i else 0
def ku (m:Nat) (a b:List Nat):List Nat:=aW (ofT (a.length+b.length) fun i=>cvS m (atF a.length fun i=>a.getD i 0) (atF b.length fun i=>b.getD i 0) i (i+1))
theorem ZE {m:Nat} (hm:0<m) (f g:Nat→Nat) (i:Nat): ∀ k,cvS m f g i k<m
 | 0=>hm
 | k+1=>Nat.mod_lt _ hm
theorem LM (m:Nat) (a b:List Nat) (h1:2≤m) (h2:m≤2147483647) (ha: ∀ i,a.getD i 0<m) (hb: ∀ i,b.getD i 0<m) (hn:a.length≤1000000000) (hk:b.length≤1000000000):
  TC Tryz.prog 257 [.v (.int .u32 m),cu a,cu b] (cu (ku m a b)):=by
 unfold ku cu;have hT:=yA (a.length+b.length) (fun i=>cvS m (atF a.length fun i=>a.getD i 0) (atF b.length fun i=>b.getD i 0) i (i+1)) (by omega);generalize (aW (ofT (a.length+b.length) (fun i=>cvS m (atF a.length fun i=>a.getD i 0) (atF b.length fun i=>b.getD i 0) i (i+1))))=R at*;have hRc:=aU R;unfold cu at hT hRc;obtain ⟨f,hf⟩: ∃ f:Nat→Nat,f=fun i=>a.getD i 0:=⟨_,rfl⟩
 obtain ⟨g,hg⟩: ∃ g:Nat→Nat,g=fun i=>b.getD i 0:=⟨_,rfl⟩
 have ef: ∀ i,a.getD i 0=f i:=fun i=>by rw [hf]
 have eg: ∀ i,b.getD i 0=g i:=fun i=>by rw [hg]
 simp only [ef,eg] at*;clear ef eg hf hg;generalize a.length=p at*;generalize b.length=q at*;have TA:=fun i=>Ad p f i (by omega) (by have:=ha i;omega)
 have TB:=fun i=>Ad q g i (by omega) (by have:=hb i;omega)
 have hcf:=jV p f;have hcg:=jV q g;have hx: ∀ i,atF p f i<m:=fun i=>by unfold atF;split;exact ha i;omega
 have hy: ∀ i,atF q g i<m:=fun i=>by unfold atF;split;exact hb i;omega
 have fA: ∀ i,(if i<p then f i else 0)=atF p f i:=fun i=>rfl
 have fB: ∀ i,(if i<q then g i else 0)=atF q g i:=fun i=>rfl
 simp only [fA] at TA;simp only [fB] at TB;generalize atF p f=u at*;generalize atF q g=v at*;clear fA fB;have hS: ∀ i k,cvS m u v i (k+1)=(cvS m u v i k+u k*v (i - k)) % m:=fun i k=>rfl
 have hS0: ∀ i,cvS m u v i 0=0:=fun i=>rfl
 have hSl: ∀ i k,cvS m u v i k<m:=fun i k=>ZE (by omega) u v i k
 generalize cvS m u v=F at*;unfold fH at*;refine Wv.TC.by 46 [8,1,2,17,10,22,9,0,7,6] [] [.tmp 6] Tryz.func257 rfl rfl rfl ?clo ?_
 case clo=>exact hRc
 refine Wv.W ?_;refine pY (σ:=Nat) (fun i=>[(0, .v (.int .u32 m)),(1, .t p 1 (tab p fun i=> .v (.int .u32 (f i:Nat)))),(2, .t q 1 (tab q fun i=> .v (.int .u32 (g i:Nat)))),(7, .own 0 i),(8, .v (.int .i64 i))])
  (fun i=>[some (.arr 22 1 (tab i fun i=> .v (.int .u32 (F i (i+1):Nat))) 0)]) (fun i=>i≤p+q) (fun i=>p+q - i) 0 (Nat.zero_le _) ?_ ?_
 ·refine Ent.trans (Ent.nil 7 22 1 (by omega) rfl) (Ent.fit ?_);exact Wv.V
 intro i hi;by_cases hlt:i<p+q
 ·have e1:(i:Int)<(p:Int)+(q:Int):=by omega
  have hz:=hS0 i;refine Wv.W1 (ah e1) ?_;refine aV (σ:=Nat) (fun k=>[(0, .v (.int .u32 m)),(1, .t p 1 (tab p fun i=> .v (.int .u32 (f i:Nat)))),(2, .t q 1 (tab q fun i=> .v (.int .u32 (g i:Nat)))),(7, .own 0 i),(8, .v (.int .i64 i)),(9, .v (.int .u64 (F i k:Nat))),(10, .v (.int .i64 k))])
   (fun k=>[some (.arr 22 1 (tab i fun i=> .v (.int .u32 (F i (i+1):Nat))) 0)]) (fun k=>k≤i+1) (fun k=>i+1 - k) 0 (Nat.zero_le _) rfl (Wv.V1 hz) ?_
  intro k hkk;by_cases hlt2:k<i+1
  ·have e4:(k:Int)≤(i:Int):=by omega
   have e5:(i:Int) - (k:Int)=((i - k:Nat):Int):=by omega
   have tA:=TA k;have tB:=TB (i - k);have hx:=hx k;have hy:=hy (i - k);have hS':=hS i k;have hSk:=hSl i k;have anz:=hSl i (k+1);generalize u k=x at*;generalize v (i - k)=y at*;have hb1:=oO hx hy h2;have hb':((x*y:Nat):Int)≤4611686014132420609:=by omega
   have hb0:0≤((x*y:Nat):Int):=by omega
   rw [Int.natCast_mul] at hb' hb0;have e7:((F i k:Nat)+(x:Int)*(y:Int)) % (m:Int)=(F i (k+1):Int):=by rw [hS',Int.natCast_emod,Int.natCast_add,Int.natCast_mul]
   refine Wv.W1 (ah e4) ?_;refine ak tA rfl (ou hcf (.v _)) Wv.c ?_;refine Wv.W1 e5 ?_;refine ak tB rfl (ou hcg (.v _)) Wv.c ?_;refine Wv.W2 @qO e7 ?_;refine ay (k+1) (by omega) (by omega) rfl Wv.V2
  ·obtain rfl:k=i+1:=by omega
   have e6: ¬ (((i+1:Nat):Int)≤(i:Int)):=by omega
   have hSk:=hSl i (i+1);have e7:IntKind.u32.wrap ((F i (i+1):Nat):Int)=(F i (i+1):Int):=by rw [IntKind.wrap_u32];omega
   refine Wv.W2 (aj e6) e7 ?_;refine Wv.jh (i+1) 1 (by first | decide | exact Nat.le_of_ble_eq_true rfl) (by omega) (by omega) (Wv.V1 @bZ) Wv.V2 (by simp only [Wv.BL, ↓reduceIte,Nat.reduceLeDiff]<;>omega) (by simp only [Wv.BL, ↓reduceIte,Nat.reduceLeDiff]<;>omega)
 ·obtain rfl:i=p+q:=by omega
  refine Wv.W3 @Int.natCast_add @Int.lt_irrefl @decide_false ?_;refine jT hT (NI Wv.c) hRc ?_;refine Wv.W ?_;refine iM rfl ?_;exact Wv.V
end
section
open Go.RowKit Wv
def iD (m:Nat) (xs ys:Nat→Nat) (i:Nat):Nat→List Nat
 | 0=>[ys i]
 | k+1=>if k=i then iD m xs ys i k else ku m (ku m (aW (iD m xs ys i k)) [(m - xs k) % m,1]) [(jm ((xs i+m - xs k) % m) m).1]
def mW (m n:Nat) (xs ys:Nat→Nat):Nat→List Nat
 | 0=>[]
 | i+1=>minL m (mW m n xs ys i) (minL m [] (aW (iD m xs ys i n)))
def okP (m:Nat) (xs:Nat→Nat) (i k:Nat):Bool:=decide (k=i) || decide (Nat.gcd m ((xs i+m - xs k) % m)=1)
def IB (m n:Nat) (xs:Nat→Nat):Bool:=aQ n fun i=>aQ n fun k=>!okP m xs i k
def LP (m n:Nat) (xs ys:Nat→Nat):AV:=if IB m n xs=true then .tup [.v (.slice none 0 0), .v (.int .i64 7)] else .tup [cu (mW m n xs ys n), .v (.int .i64 0)]
theorem ZF (m n:Nat) (xs ys:Nat→Nat):Clo (LP m n xs ys):=by
 unfold LP;split
 ·simp only [Wv.BC]
 ·simp only [Wv.BC,aU]
variable {m:Nat}
theorem Ae (hm:0<m) (a b:List Nat) (i:Nat):(ku m a b).getD i 0<m:=mM hm (Hq hm fun i=>ZE hm _ _ i _) i
theorem qX (m:Nat) (a b:List Nat):(ku m a b).length≤a.length+b.length:=by
 unfold ku;refine Nat.le_trans (iE _) ?_;rw [rX];exact Nat.le_refl _
theorem Af (hm:0<m) (a b:List Nat) (i:Nat):(minL m a b).getD i 0<m:=mM hm (Hq hm fun i=>Nat.mod_lt _ hm) i
theorem wQ (m:Nat) (a b:List Nat):(minL m a b).length≤max a.length b.length:=by
 unfold minL;refine Nat.le_trans (iE _) ?_;rw [rX];exact Nat.le_refl _
theorem ZG (hm:0<m) (i:Nat):([]:List Nat).getD i 0<m:=by simpa using hm
theorem ZH {a:Nat} (hm:0<m) (ha:a<m) (i:Nat):[a].getD i 0<m:=by
 match i with
 | 0=>exact ha
 | i+1=>simpa using hm
theorem aiJ {a b:Nat} (hm:0<m) (ha:a<m) (hb:b<m) (i:Nat):[a,b].getD i 0<m:=by
 match i with
 | 0=>exact ha
 | 1=>exact hb
 | i+2=>simpa using hm
theorem wR {m:Nat} (hm:2≤m) (xs ys:Nat→Nat) (i:Nat) (hy:ys i<m): ∀ k,(∀ j,(iD m xs ys i k).getD j 0<m)∧(iD m xs ys i k).length≤1+3*k
 | 0=>⟨ZH (by omega) hy,by show 1≤_;omega⟩
 | k+1=>by
  have ih:=wR hm xs ys i hy k;unfold iD;split
  ·exact ⟨ih.1,by omega⟩
  ·refine ⟨Ae (by omega) _ _,?_⟩;refine Nat.le_trans (qX _ _ _) ?_;have h1:=qX m (aW (iD m xs ys i k)) [(m - xs k) % m,1];have h2:=iE (iD m xs ys i k);have h3:[(m - xs k) % m,1].length=2:=rfl;have h4:[(jm ((xs i+m - xs k) % m) m).1].length=1:=rfl;omega
theorem Ag {m:Nat} (hm:2≤m) (n:Nat) (xs ys:Nat→Nat) (hy: ∀ i,i<n→ys i<m): ∀ i,i≤n→(∀ j,(mW m n xs ys i).getD j 0<m)∧(mW m n xs ys i).length≤1+3*n
 | 0,_=>⟨ZG (by omega),Nat.zero_le _⟩
 | i+1,hi=>by
  have ih:=Ag hm n xs ys hy i (by omega);have hp:=wR hm xs ys i (hy i (by omega)) n;unfold mW;refine ⟨Af (by omega) _ _,Nat.le_trans (wQ _ _ _) (Nat.max_le.2 ⟨ih.2,Nat.le_trans (wQ _ _ _) (Nat.max_le.2 ⟨Nat.zero_le _,Nat.le_trans (iE _) hp.2⟩)⟩)⟩
theorem Ah (l:List Nat): ∃ (p:Nat) (g:Nat→Nat),cu l= .t p 1 (tab p fun i=> .v (.int .u32 (g i:Nat))):=⟨_,_,rfl⟩
theorem ZI (N:Nat) (l:List Nat):lo N (cu l)=True:=eq_true (.clo (aU l))
theorem DT (l:List Nat) (hn:l.length≤2000000000):TC Tryz.prog 258 [cu l] (cu (aW l)):=by
 have T:=yA l.length (fun i=>l.getD i 0) hn;rw [Ko] at T;exact T
theorem OJ (m n:Nat) (xs ys:Nat→Nat) (h1:2≤m) (h2:m≤2147483647) (hn:n≤256) (hx: ∀ i,i<n→xs i<m) (hy: ∀ i,i<n→ys i<m):
  TC Tryz.prog 241 [.v (.int .u32 m),fH n xs,fH n ys] (LP m n xs ys):=by
 have hRc:=ZF m n xs ys;have hRx: ∀ i k,i<n→k<n→okP m xs i k=false→LP m n xs ys= .tup [.v (.slice none 0 0), .v (.int .i64 7)]:=fun i k hi hk h=>
  if_pos (jv (p:=fun i=>aQ n fun k=>!okP m xs i k) hi (jv (p:=fun k=>!okP m xs i k) hk (by rw [h];rfl)))
 have hRy:(∀ i,i<n→ ∀ k,k<n→okP m xs i k=true)→LP m n xs ys= .tup [cu (mW m n xs ys n), .v (.int .i64 0)]:=fun h=>by
  have:IB m n xs=false:=gQ fun i hi=>gQ fun k hk=>by rw [h i hi k hk];rfl
  unfold LP;rw [this];rfl
 generalize LP m n xs ys=R at*;have d1: ¬ (m:Int)<2:=by omega
 have d2: ¬ (2147483647:Int)<(m:Int):=by omega
 have d3: ¬ (256:Int)<(n:Int):=by omega
 unfold fH;refine Wv.TC.by 126 [0,1,2,28,31,8,35,51,10,55,12,66,71,14,96,11,15,13,9,6,7] [(19,23)] [.tmp 6, .tmp 7] Tryz.func241 rfl rfl rfl ?clo ?_
 case clo=>exact hRc
 refine Wv.W3 (aj d1) (aj d2) (aj d3) ?_;refine aV (σ:=Nat) (fun i=>[(0, .v (.int .u32 m)),(1, .t n 1 (tab n fun i=> .v (.int .u32 (xs i:Nat)))),(2, .t n 1 (tab n fun i=> .v (.int .u32 (ys i:Nat)))),(8, .v (.int .i64 i))])
  (fun i=>[]) (fun i=>i≤n) (fun i=>n - i) 0 (Nat.zero_le _) rfl Wv.V ?_
 intro i hi;by_cases hlt:i<n
 ·have e1:(i:Int)<(n:Int):=by omega
  have e2: ¬ (m:Int)≤(xs i:Int):=by have:=hx i hlt;omega
  have e3: ¬ (m:Int)≤(ys i:Int):=by have:=hy i hlt;omega
  refine Wv.W3 (ah e1) (aj e2) (aj e3) ?_;refine ay (i+1) (by omega) (by omega) rfl Wv.V2
 obtain rfl:n=i:=by omega
 clear hlt;refine Wv.W2 @Int.lt_irrefl @decide_false ?_;refine pY (σ:=Nat) (fun i=>[(0, .v (.int .u32 m)),(1, .t n 1 (tab n fun i=> .v (.int .u32 (xs i:Nat)))),(2, .t n 1 (tab n fun i=> .v (.int .u32 (ys i:Nat)))),(9,cu (mW m n xs ys i)),(10, .v (.int .i64 i))])
  (fun i=>[]) (fun i=>i≤n∧ ∀ j,j<i→ ∀ k,k<n→okP m xs j k=true) (fun i=>n - i) 0 ⟨Nat.zero_le _,fun j hj=>by omega⟩ ?_ ?_
 ·refine Ent.trans (Ent.wk 9 _ (.t 0 1 []) rfl (Wk.nil 1)) (Ent.fit ?_);refine Wv.W ?_;rfl
 rintro i ⟨hi,hbef⟩;by_cases hlt:i<n
 ·have e1:(i:Int)<(n:Int):=by omega
  obtain ⟨ho1,ho2⟩:=Ag h1 n xs ys hy i hi;have hyi:=hy i hlt;have hxi:=hx i hlt;have hP:=wR h1 xs ys i hyi;have hP0:cu (iD m xs ys i 0)= .t 1 1 [.v (.int .u32 (ys i:Nat))]:=rfl;have hPn: ∀ k,iD m xs ys i (k+1)=if k=i then iD m xs ys i k else ku m (ku m (aW (iD m xs ys i k)) [(m - xs k) % m,1]) [(jm ((xs i+m - xs k) % m) m).1]:=fun k=>rfl
  have hOn:mW m n xs ys (i+1)=minL m (mW m n xs ys i) (minL m [] (aW (iD m xs ys i n))):=rfl;generalize hO':mW m n xs ys (i+1)=O' at*;generalize mW m n xs ys i=O at*;generalize iD m xs ys i=P at*;refine Wv.W1 (ah e1) ?_;refine pY (σ:=Nat) (fun k=>[(0, .v (.int .u32 m)),(1, .t n 1 (tab n fun i=> .v (.int .u32 (xs i:Nat)))),(2, .t n 1 (tab n fun i=> .v (.int .u32 (ys i:Nat)))),(9,cu O),(10, .v (.int .i64 i)),(11,cu (P k)),(12, .v (.int .i64 k))])
   (fun k=>[]) (fun k=>k≤n∧ ∀ j,j<k→okP m xs i j=true) (fun k=>n - k) 0 ⟨Nat.zero_le _,fun j hj=>by omega⟩ ?_ ?_
  ·refine Ent.trans (Ent.close 11 (.own 0 1) (.t 1 1 [.v (.int .u32 (ys i:Nat))]) _ rfl rfl) (Ent.cut 0 (Nat.zero_le _) ?_ ?_ ?_)
   ·exact Wv.V1 hP0
   ·simp only [Wv.BL, ↓reduceIte,Nat.reduceLeDiff,hP0];exact .clo (aU _)
   ·simp only [Wv.BL, ↓reduceIte,Nat.reduceLeDiff]
  rintro k ⟨hk,hkb⟩;by_cases hlt2:k<n
  ·have e2:(k:Int)<(n:Int):=by omega
   have hnx:okP m xs i k=true→ ∀ j,j<k+1→okP m xs i j=true:=fun h j hj=>by
    by_cases e:j=k
    ·subst e;exact h
    ·exact hkb j (by omega)
   by_cases hki:k=i
   ·have e3:(k:Int)=(i:Int):=by omega
    have hPk:P (k+1)=P k:=by rw [hPn,if_pos hki]
    have ho:okP m xs i k=true:=by unfold okP;rw [ah hki,Bool.true_or]
    refine Wv.W2 (ah e2) (ah e3) ?_;refine ay (k+1) ⟨by omega,hnx ho⟩ (by omega) rfl (Wv.V3 hPk @Int.natCast_add @Int.natCast_one)
   ·have e3: ¬ (k:Int)=(i:Int):=by omega
    have hPk:P (k+1)=ku m (ku m (aW (P k)) [(m - xs k) % m,1]) [(jm ((xs i+m - xs k) % m) m).1]:=by rw [hPn,if_neg hki]
    have ho:okP m xs i k=decide (Nat.gcd m ((xs i+m - xs k) % m)=1):=by unfold okP;rw [aj hki,Bool.false_or]
    have hxk:=hx k hlt2;have hm: ¬ (m:Int)=0:=by omega
    have hr:(xs i+m - xs k) % m<m:=Nat.mod_lt _ (by omega);have f1:((xs i:Int)+(m:Int) - (xs k:Int)) % (m:Int)=(((xs i+m - xs k) % m:Nat):Int):=by
     rw [Int.natCast_emod];congr 1;omega
    have hz:(m - xs k) % m<m:=Nat.mod_lt _ (by omega);have f4:((m:Int) - (xs k:Int)) % (m:Int)=(((m - xs k) % m:Nat):Int):=by
     rw [Int.natCast_emod];congr 1;omega
    obtain ⟨hp1,hp2⟩:=hP k;have hiv:=PL (a:=(xs i+m - xs k) % m) (n:=m) (by omega);have TI:=ZC ((xs i+m - xs k) % m) m h1 h2 hr;have al6:=hRx i k hlt hlt2;simp (disch:=first|exact Wv.D|fail) only [Wv.B,simprocAttr,ah e2,aj e3,aj hm,qO,f1];refine eU TI rfl Wv.c Wv.c ?_;generalize (xs i+m - xs k) % m=z at*;by_cases hg:Nat.gcd m z=1
    ·rw [ah hg] at ho;have hg':decide (Nat.gcd m z=1)=true:=ah hg;generalize (jm z m).1=iv at*;generalize (m - xs k) % m=u at*;have ht1:=mM (m:=m) (by omega) hp1;have ht2:=iE (P k);have hq1:=Ae (m:=m) (by omega) (aW (P k)) [u,1];have hq2:=qX m (aW (P k)) [u,1];have hq3:[u,1].length=2:=rfl;have T1:=DT (P k) (by omega);have T2:TC Tryz.prog 257 [.v (.int .u32 m),cu (aW (P k)), .t 2 1 [.v (.int .u32 (u:Nat)), .v (.int .u32 1)]] (cu (ku m (aW (P k)) [u,1])):=LM m (aW (P k)) [u,1] h1 h2 ht1 (aiJ (by omega) hz (by omega)) (by omega) (by show 2≤_;omega);have T3:TC Tryz.prog 257 [.v (.int .u32 m),cu (ku m (aW (P k)) [u,1]), .t 1 1 [.v (.int .u32 (iv:Nat))]] (cu (ku m (ku m (aW (P k)) [u,1]) [iv])):=LM m (ku m (aW (P k)) [u,1]) [iv] h1 h2 hq1 (ZH (by omega) hiv) (by omega) (by show 1≤_;omega);rw [←hPk] at T3;have hc1:=aU (aW (P k));have hc2:=aU (ku m (aW (P k)) [u,1]);have hc3:=aU (P (k+1));have hc0:=aU (P k);clear hPk hPn hRx al6 hq1 hq2 hq3 ht1 ht2 hp1 hp2;obtain ⟨p1,g1,hW1⟩:=Ah (aW (P k));obtain ⟨p2,g2,hW2⟩:=Ah (ku m (aW (P k)) [u,1]);rw [hW1] at T1 T2 hc1;rw [hW2] at T2 T3 hc2;simp (disch:=first|exact Wv.D|fail) only [Wv.B,simprocAttr,hg',aj hm,qO,f4];refine ak T1 rfl (NI hc0) hc1 ?_;refine Wv.W ?_;refine jT T2 Wv.c hc2 ?_;refine Wv.W ?_;refine iM rfl ?_;refine Wv.W ?_;refine jT T3 Wv.c hc3 ?_;refine Wv.W ?_;refine iM rfl ?_;refine Wv.W ?_;refine Wv.jh (k+1) 0 (by first | decide | exact Nat.le_of_ble_eq_true rfl) (⟨by omega,hnx ho⟩) (by omega) (Wv.V1 @bZ) Wv.V2 (by simp only [Wv.BL, ↓reduceIte,Nat.reduceLeDiff,ZI]<;>omega) (by simp only [Wv.BL, ↓reduceIte,Nat.reduceLeDiff,ZI]<;>omega)
    ·rw [aj hg] at ho;have hg':decide (Nat.gcd m z=1)=false:=aj hg;have hR:=al6 ho;simp (disch:=first|exact Wv.D|fail) only [Wv.B,simprocAttr,hg',hR]
  ·obtain rfl:n=k:=by omega
   obtain ⟨hp1,hp2⟩:=hP n;have ht1:=mM (m:=m) (by omega) hp1;have ht2:=iE (P n);have hq1:=Af (m:=m) (by omega) [] (aW (P n));have hq2:=wQ m [] (aW (P n));have hq3:([]:List Nat).length=0:=rfl;have T1:=DT (P n) (by omega);have T2:TC Tryz.prog 259 [.v (.int .u32 m), .t 0 1 [],cu (aW (P n))] (cu (minL m [] (aW (P n)))):=LK m [] (aW (P n)) h1 h2 (ZG (by omega)) ht1 (by show 0≤_;omega) (by omega);have T3:TC Tryz.prog 259 [.v (.int .u32 m),cu O,cu (minL m [] (aW (P n)))] (cu O'):=by
    rw [hOn];exact LK m O (minL m [] (aW (P n))) h1 h2 ho1 hq1 (by omega) (by omega)
   have hc1:=aU (aW (P n));have hc2:=aU (minL m [] (aW (P n)));have hc3:=aU O';have hc0:=aU (P n);have hc4:=aU O;have hbe: ∀ j,j<i+1→ ∀ l,l<n→okP m xs j l=true:=fun j hj=>by
    by_cases e:j=i
    ·subst e;exact hkb
    ·exact hbef j (by omega)
   clear hPn hRx hq1 hq2 hq3 ht1 ht2 hp1 hp2 hOn;obtain ⟨p1,g1,hW1⟩:=Ah (aW (P n));obtain ⟨p2,g2,hW2⟩:=Ah (minL m [] (aW (P n)));rw [hW1] at T1 T2 hc1;rw [hW2] at T2 T3 hc2;refine Wv.W2 @Int.lt_irrefl @decide_false ?_;refine ak T1 rfl (NI hc0) hc1 ?_;refine Wv.W ?_;refine acW T2 rfl ⟨Wk.refl _,Wk.nil 1,Wk.refl _,trivial⟩ Wv.c hc2 ?_;refine Wv.W ?_;refine ak T3 rfl (by simp only [Wv.BC];exact hc4) hc3 ?_;refine Wv.W ?_;refine ay (i+1) ⟨by omega,hbe⟩ (by omega) rfl (Wv.V3 hO' @Int.natCast_add @Int.natCast_one)
 ·obtain rfl:n=i:=by omega
  have hR:=hRy hbef;simp (disch:=first|exact Wv.D|fail) only [Wv.B,simprocAttr,Int.lt_irrefl,decide_false,hR,cu,fH]
end
section
open Go.RowKit Wv
def eqm (m a b:Int):Prop:= ∃ c,a=b+m*c
variable {a m:Int}
theorem eqm.rfl' :eqm m a a:=⟨0,by grind⟩
variable {b:Int}
theorem eqm.symm :eqm m a b→eqm m b a:=fun ⟨c,h⟩=>⟨-c,by grind⟩
theorem eqm.trans {c:Int}:eqm m a b→eqm m b c→eqm m a c:=fun ⟨x,h⟩ ⟨y,h'⟩=>⟨x+y,by grind⟩
variable {d:Int}
theorem eqm.add {c:Int}:eqm m a b→eqm m c d→eqm m (a+c) (b+d):=fun ⟨x,h⟩ ⟨y,h'⟩=>⟨x+y,by grind⟩
theorem eqm.sub {c:Int}:eqm m a b→eqm m c d→eqm m (a - c) (b - d):=fun ⟨x,h⟩ ⟨y,h'⟩=>⟨x - y,by grind⟩
theorem eqm.mul {c:Int}:eqm m a b→eqm m c d→eqm m (a*c) (b*d):=fun ⟨x,h⟩ ⟨y,h'⟩=>⟨b*y+d*x+m*x*y,by subst h h';grind⟩
theorem eqm.nat (m a : Nat) : eqm m ((a % m : Nat) : Int) a := ⟨-((a / m : Nat) : Int), by have := Nat.div_add_mod a m; have h : ((m * (a / m) + a % m : Nat) : Int) = a := by rw [this]
                                                                                           rw [Int.natCast_add, Int.natCast_mul] at h; grind⟩
def evF (f:Nat→Int):Nat→Int→Int
 | 0,_=>0
 | n+1,x=>f 0+x*evF (fun i=>f (i+1)) n x
theorem oV : ∀ {n:Nat} {f g:Nat→Int} {x:Int},(∀ i,i<n→eqm m (f i) (g i))→eqm m (evF f n x) (evF g n x)
 | 0,_,_,_,_=>eqm.rfl'
 | n+1,f,g,x,h=>(h 0 (Nat.zero_lt_succ _)).add (eqm.rfl'.mul (oV fun i hi=>h (i+1) (by omega)))
theorem DU: ∀ {n:Nat} {f:Nat→Int} {x:Int},(∀ i,f i=0)→evF f n x=0
 | 0,_,_,_=>rfl
 | n+1,f,x,h=>by
  have:=DU (n:=n) (f:=fun i=>f (i+1)) (x:=x) fun i=>h _
  simp only [evF,this,h 0];grind
theorem IC: ∀ {n k:Nat} {f:Nat→Int} {x:Int},(∀ i,n≤i→f i=0)→evF f (n+k) x=evF f n x
 | 0,k,f,x,h=>DU fun i=>h i (Nat.zero_le _)
 | n+1,k,f,x,h=>by
  rw [show n+1+k=(n+k)+1 by omega];simp only [evF];rw [IC fun i hi=>h (i+1) (by omega)]
theorem sQ: ∀ {n:Nat} {f g:Nat→Int} {c x:Int},evF (fun i=>f i+c*g i) n x=evF f n x+c*evF g n x
 | 0,_,_,_,_=>by simp only [evF];grind
 | n+1,f,g,c,x=>by
  have:=sQ (n:=n) (f:=fun i=>f (i+1)) (g:=fun i=>g (i+1)) (c:=c) (x:=x);simp only [evF,this];grind
def upF (f:Nat→Int):Nat→Int
 | 0=>0
 | i+1=>f i
variable {n:Nat}
theorem aiK {f:Nat→Int} {x:Int}:evF (upF f) (n+1) x=x*evF f n x:=by
 simp only [evF,upF];grind
def zC (f:Nat→Int) (n:Nat) (a:Int) (i:Nat):Int:=evF (fun j=>f (i+1+j)) (n - i) a
theorem FX (f:Nat→Int) (n:Nat) (a:Int):zC f n a 0=evF (fun i=>f (i+1)) n a:=by
 unfold zC;rw [Nat.sub_zero];congr 1;funext j;congr 1;omega
theorem FY (f:Nat→Int) (n:Nat) (a:Int) (i:Nat):zC f (n+1) a (i+1)=zC (fun i=>f (i+1)) n a i:=by
 unfold zC;rw [show n+1 - (i+1)=n - i by omega];congr 1;funext j;congr 1;omega
theorem Qr: ∀ {n:Nat} {f:Nat→Int} {a x:Int},evF f (n+1) x=evF (zC f n a) n x*(x - a)+evF f (n+1) a
 | 0,f,a,x=>by simp only [evF];grind
 | n+1,f,a,x=>by
  have ih:=Qr (n:=n) (f:=fun i=>f (i+1)) (a:=a) (x:=x);have e:evF (zC f (n+1) a) (n+1) x=evF (fun i=>f (i+1)) (n+1) a+x*evF (zC (fun i=>f (i+1)) n a) n x:=by
   show zC f (n+1) a 0+x*evF (fun i=>zC f (n+1) a (i+1)) n x=_;rw [FX];congr 3;funext i;exact FY f n a i
  rw [e];have e1:evF f (n+1+1) x=f 0+x*evF (fun i=>f (i+1)) (n+1) x:=rfl;have e2:evF f (n+1+1) a=f 0+a*evF (fun i=>f (i+1)) (n+1) a:=rfl;rw [e1,e2,ih];grind
theorem LQ {m:Int}: ∀ {n:Nat} {f:Nat→Int} {a:Int},eqm m (evF f (n+1) a) 0→(∀ i,i<n→eqm m (zC f n a i) 0)→ ∀ j,j<n+1→eqm m (f j) 0
 | 0,f,a,h,_,j,hj=>by
  obtain rfl:j=0:=by omega
  obtain ⟨c,h⟩:=h;exact ⟨c,by simp only [evF] at h;grind⟩
 | n+1,f,a,h,hq,j,hj=>by
  have h0:=hq 0 (by omega);rw [FX] at h0;have e2:evF f (n+1+1) a=f 0+a*evF (fun i=>f (i+1)) (n+1) a:=rfl;cases j with
  | zero=>
   obtain ⟨c,h⟩:=h;obtain ⟨d,h0⟩:=h0;exact ⟨c - a*d,by rw [e2,h0] at h;grind⟩
  | succ j=>exact LQ (f:=fun i=>f (i+1)) h0 (fun i hi=>by rw [←FY];exact hq (i+1) (by omega)) j (by omega)
theorem roots {m:Int} {xs:Nat→Int}: ∀ (n:Nat) (f:Nat→Int),(∀ i,i<n→eqm m (evF f n (xs i)) 0)→(∀ i k,k<i→i<n→ ∃ b,eqm m ((xs i - xs k)*b) 1)→ ∀ j,j<n→eqm m (f j) 0
 | 0,f,_,_,j,hj=>by omega
 | n+1,f,h,hu,j,hj=>by
  refine LQ (a:=xs n) (h n (by omega)) (roots n _ (fun i hi=>?_) fun i k hk hi=>hu i k hk (by omega)) j hj;obtain ⟨c1,h1⟩:=h i (by omega);obtain ⟨c2,h2⟩:=h n (by omega);obtain ⟨b,c3,h3⟩:=hu n i hi (by omega);rw [Qr (a:=xs n),h2] at h1;generalize evF (zC f n (xs n)) n (xs i)=E at*;exact ⟨-(c1 - c2)*b - E*c3,by grind⟩
def jH (m a:Int):Prop:= ∃ b,eqm m (a*b) 1
theorem jH.mul :jH m a→jH m b→jH m (a*b):=fun ⟨x,h⟩ ⟨y,h'⟩=>⟨x*y,by
 have:=h.mul h';rw [show a*b*(x*y)=a*x*(b*y) by grind];simpa using this⟩
theorem jH.congr (h:eqm m a b):jH m a→jH m b:=fun ⟨x,q⟩=>⟨x,(h.symm.mul eqm.rfl').trans q⟩
theorem aiL {a:Nat}: ∀ (y x:Nat) (u v:Int),EuI n a x y u v→ ∃ w:Int,(n:Int)∣w*a - (Nat.gcd n a:Nat):=by
 intro y;induction y using Nat.strongRecOn with
 | _ y ih=>
  intro x u v h;by_cases hy:0<y
  ·exact ih _ (Nat.mod_lt _ hy) _ _ _ (h.step hy)
  ·obtain rfl:y=0:=by omega
   have hg:=h.gc;rw [Nat.gcd_zero_right] at hg;exact ⟨u,hg▸h.du⟩
theorem ZJ       {a:Nat} (hn : 2 ≤ n) (ha : a < n) (hg : Nat.gcd n a = 1) : jH    n a := by
  obtain ⟨w, c, h⟩ := aiL    _ _ _ _ (EuI.start hn ha);rw [hg] at h
  exact ⟨w, c, by have h1 : ((1 : Nat) : Int) = 1 := rfl
                  rw [h1] at h; grind⟩
theorem DV {a:Nat} (hn:2≤n) (h:jH n a):Nat.gcd n a=1∧eqm n ((jm a n).1*a) 1:=by
 obtain ⟨b,c,hb⟩:=h;obtain ⟨i,hi⟩: ∃ i:Nat,(i:Int)=b % n:=⟨(b % n).toNat,Int.toNat_of_nonneg (Int.emod_nonneg _ (by omega))⟩
 have hin:i<n:=by have:=Int.emod_lt_of_pos b (show (0:Int)<n by omega);omega
 have hbd:=Int.mul_ediv_add_emod b n;rw [←hi] at hbd;have e1:((i*a:Nat):Int)=1+n*(c - (b / n)*a):=by
  rw [Int.natCast_mul];have:(i:Int)=b - n*(b / n):=by omega
  rw [this];grind
 have e2:i*a % n=1:=by
  have h2:((i*a % n:Nat):Int)=1:=by
   rw [Int.natCast_emod,e1,Int.add_mul_emod_self_left];exact Int.emod_eq_of_lt (by omega) (by omega)
  omega
 have hg:Nat.gcd n a=1:=by
  have d1:=Nat.gcd_dvd_left n a;have d2:=Nat.gcd_dvd_right n a;have d3:Nat.gcd n a∣i*a:=Nat.dvd_trans d2 (Nat.dvd_mul_left _ _);have h4:Nat.gcd n a∣i*a % n:=(Nat.dvd_mod_iff d1).2 d3;rw [e2] at h4;exact Nat.dvd_one.1 h4
 refine ⟨hg,?_⟩;have:(jm a n).1=i:=by unfold jm;rw [if_pos hg];exact PG hin e2
 rw [this, ←Int.natCast_mul,e1];exact ⟨c - (b / n)*a,rfl⟩
def cI (l:List Nat) (i:Nat):Int:=((l.getD i 0:Nat):Int)
variable {l:List Nat}
theorem gU {i:Nat} (h:l.length≤i):cI l i=0:=by unfold cI;simp [h]
def evL (l:List Nat) (x:Int):Int:=evF (cI l) l.length x
theorem iY {N:Nat} (h:l.length≤N) (x:Int):evF (cI l) N x=evL l x:=by
 obtain ⟨k,rfl⟩: ∃ k,N=l.length+k:=⟨N - l.length,by omega⟩
 exact IC fun i hi=>gU hi
theorem FZ {f:Nat→Nat}: ∀ {n i:Nat},dB f n≤i→i<n→f i=0
 | n+1,i,h,hi=>by
  rw [iw] at h;by_cases hz:f n=0
  ·rw [if_pos hz] at h;by_cases e:i=n
   ·subst e;exact hz
   ·exact FZ h (by omega)
  ·rw [if_neg hz] at h;omega
theorem F5 (l:List Nat) (i:Nat):(aW l).getD i 0=l.getD i 0:=by
 unfold aW;rw [List.getD_eq_getElem?_getD,List.getElem?_take];split
 ·rw [List.getD_eq_getElem?_getD]
 ·next h=>
  by_cases hi:i<l.length
  ·have:=FZ (f:=fun i=>l.getD i 0) (Nat.le_of_not_lt h) hi;rw [this];rfl
  ·simp [Nat.le_of_not_lt hi]
theorem pV (l:List Nat) (i:Nat):cI (aW l) i=cI l i:=by unfold cI;rw [F5]
theorem LU (l:List Nat) (x:Int):evL (aW l) x=evL l x:=by
 rw [←iY (iE l) x];show evF _ _ _=evF _ _ _;congr 1;funext i;exact pV l i
theorem DW (n:Nat) (f:Nat→Nat) (i:Nat):cI (ofT n f) i=if i<n then (f i:Int) else 0:=by
 unfold cI;rw [zU];split<;>rfl
theorem Ut (m:Nat) (a b:List Nat) (c i:Nat):eqm m (cI (mJ m a b c) i) (cI a i+c*cI b i):=by
 unfold mJ;rw [pV,DW];by_cases h:i<max a.length b.length
 ·rw [if_pos h];by_cases h2:i<b.length
  ·rw [if_pos h2];refine (eqm.nat m _).trans ⟨0,?_⟩;unfold cI;rw [Int.natCast_add,Int.natCast_mul];grind
  ·rw [if_neg h2,gU (l:=b) (by omega)];exact ⟨0,by unfold cI;grind⟩
 ·rw [if_neg h,gU (l:=a) (by omega),gU (l:=b) (by omega)];exact ⟨0,by grind⟩
theorem Qs (m u:Nat) (f g:Nat→Nat) (h0:g 0=u) (h1:g 1=1): ∀ p j,eqm m (cvF m 2 f g p j) ((if j<p then (f j:Int)*u else 0)+if 1≤j∧j - 1<p then (f (j - 1):Int) else 0)
 | 0,j=>by
  rw [if_neg (by omega),if_neg (by omega)];exact ⟨0,by show (0:Int)=_;grind⟩
 | p+1,j=>by
  have ih:=Qs m u f g h0 h1 p j;unfold cvF;by_cases hj:p≤j∧j<p+2
  ·rw [if_pos hj];refine (eqm.nat m _).trans ?_;rw [Int.natCast_add,Int.natCast_mul];by_cases e:j=p
   ·subst e;rw [if_neg (by omega)] at ih;rw [if_pos (by omega),Nat.sub_self,h0];have e2:(if 1≤j∧j - 1<j+1 then (f (j - 1):Int) else 0)=if 1≤j∧j - 1<j then (f (j - 1):Int) else 0:=by
     by_cases h1j:1≤j
     ·rw [if_pos ⟨h1j,by omega⟩,if_pos ⟨h1j,by omega⟩]
     ·rw [if_neg (by omega),if_neg (by omega)]
    rw [e2];refine (ih.add eqm.rfl').trans ⟨0,by grind⟩
   ·obtain rfl:j=p+1:=by omega
    rw [if_neg (by omega),if_neg (by omega)] at ih;rw [if_neg (by omega),if_pos (by omega),show p+1 - p=1 by omega,h1];refine (ih.add eqm.rfl').trans ⟨0,?_⟩;rw [show p+1 - 1=p by omega,Int.natCast_one];grind
  ·rw [if_neg hj];have e1:(if j<p+1 then (f j:Int)*u else 0)=if j<p then (f j:Int)*u else 0:=by
    by_cases h:j<p
    ·rw [if_pos h,if_pos (by omega)]
    ·rw [if_neg h,if_neg (by omega)]
   have e2:(if 1≤j∧j - 1<p+1 then (f (j - 1):Int) else 0)=if 1≤j∧j - 1<p then (f (j - 1):Int) else 0:=by
    by_cases h:1≤j∧j - 1<p
    ·rw [if_pos h,if_pos (by omega)]
    ·rw [if_neg h,if_neg (by omega)]
   rw [e1,e2];exact ih
theorem Uu (m u:Nat) (a:List Nat) (i:Nat):eqm m (cI (jW m a [u,1]) i) (upF (cI a) i+u*cI a i):=by
 unfold jW;by_cases ha:a.length=0
 ·rw [if_pos (.inl ha),gU (l:=[]) (Nat.zero_le _),gU (l:=a) (by omega)];cases i with
  | zero=>exact ⟨0,by simp only [upF];grind⟩
  | succ i=>exact ⟨0,by simp only [upF];rw [gU (l:=a) (by omega)];grind⟩
 ·rw [if_neg (by rintro (h | h)<;>first | exact ha h | cases h),pV,DW];have h2:[u,1].length=2:=rfl;rw [h2];have hc:=Qs m u (fun i=>a.getD i 0) (fun i=>[u,1].getD i 0) rfl rfl a.length i;have e1:(if i<a.length then ((a.getD i 0:Nat):Int)*u else 0)=u*cI a i:=by
   by_cases h:i<a.length
   ·rw [if_pos h];unfold cI;grind
   ·rw [if_neg h,gU (by omega)];grind
  have e2:(if 1≤i∧i - 1<a.length then ((a.getD (i - 1) 0:Nat):Int) else 0)=upF (cI a) i:=by
   cases i with
   | zero=>rw [if_neg (by omega)];rfl
   | succ i=>
    show _=cI a i;by_cases h:i<a.length
    ·rw [if_pos ⟨by omega,by omega⟩];rfl
    ·rw [if_neg (by omega),gU (by omega)]
  simp only [e1,e2] at hc;by_cases h:i<a.length+2 - 1
  ·rw [if_pos h];exact hc.trans ⟨0,by grind⟩
  ·rw [if_neg h,gU (by omega)];obtain ⟨j,rfl⟩: ∃ j,i=j+1:=⟨i - 1,by omega⟩
   show eqm m 0 (cI a j+u*0);rw [gU (by omega)];exact ⟨0,by grind⟩
theorem Qu (m:Nat) (f:Nat→Nat) (x n:Nat): ∀ k,k≤n→eqm m (Dj m f x n k) (evF (fun i=>((f (n - k+i):Nat):Int)) k x)
 | 0,_=>eqm.rfl'
 | k+1,h=>by
  have ih:=Qu m f x n k (by omega);unfold Dj;refine (eqm.nat m _).trans ?_;have e:evF (fun i=>((f (n - (k+1)+i):Nat):Int)) (k+1) x=(f (n - 1 - k):Int)+x*evF (fun i=>((f (n - k+i):Nat):Int)) k x:=by
   show ((f (n - (k+1)+0):Nat):Int)+x*evF (fun i=>((f (n - (k+1)+(i+1)):Nat):Int)) k x=_;rw [show n - (k+1)+0=n - 1 - k by omega];congr 3;funext i;rw [show n - (k+1)+(i+1)=n - k+i by omega]
  rw [e,Int.natCast_add,Int.natCast_mul];refine ((ih.mul eqm.rfl').add eqm.rfl').trans ⟨0,by grind⟩
theorem ZK (m:Nat) (l:List Nat) (x:Nat):eqm m (mG m l x) (evL l x):=by
 have:=Qu m (fun i=>l.getD i 0) x l.length l.length (Nat.le_refl _);simp only [Nat.sub_self,Nat.zero_add] at this;exact this
theorem ZL (m:Nat) (a b:List Nat) (c:Nat) (x:Int):eqm m (evL (mJ m a b c) x) (evL a x+c*evL b x):=by
 obtain ⟨N,h1,h2,h3⟩: ∃ N,(mJ m a b c).length≤N∧a.length≤N∧b.length≤N:=⟨max a.length b.length,Fz _ _ _ _,by omega,by omega⟩
 rw [←iY h1, ←iY h2, ←iY h3, ←sQ];exact oV fun i _=>Ut m a b c i
theorem Qv {m:Nat} {a:List Nat} {u:Nat} (hl:l.length≤a.length+2) (h: ∀ i,eqm m (cI l i) (upF (cI a) i+u*cI a i)) (x:Int):eqm m (evL l x) ((x+u)*evL a x):=by
 have h1:l.length≤(a.length+1)+1:=by omega
 rw [←iY h1];refine (oV fun i _=>h i).trans ?_;rw [sQ,aiK,iY (show a.length≤a.length+1 by omega),iY (show a.length≤a.length+1+1 by omega)];exact ⟨0,by grind⟩
theorem ZM (m:Nat) (a:List Nat) (u:Nat) (x:Int):eqm m (evL (jW m a [u,1]) x) ((x+u)*evL a x):=
 Qv (Nat.le_trans (FB _ _ _) (by show a.length+2 - 1≤_;omega)) (Uu m u a) x
theorem wS {m a b:Nat} (hb:b≤m):eqm m (((a+m - b) % m:Nat):Int) (a - b):=by
 refine (eqm.nat m _).trans ⟨1,?_⟩;rw [Int.natCast_sub (by omega),Int.natCast_add];grind
theorem Qw {m b:Nat} (hb:b≤m):eqm m (((m - b) % m:Nat):Int) (-b):=by
 refine (eqm.nat m _).trans ⟨1,?_⟩;rw [Int.natCast_sub hb];grind
theorem LV {m n:Nat} (hm:2≤m) (xs ys:Nat→Nat) (hx: ∀ i,i<n→xs i<m) (hu: ∀ i k,k<i→i<n→jH m ((xs i:Int) - xs k)): ∀ i,i≤n→(∀ k,k<i→eqm m (evL (bT m xs ys i).1 (xs k)) (ys k))∧(∀ k,k<i→eqm m (evL (bT m xs ys i).2 (xs k)) 0)∧ ∀ k,i≤k→k<n→jH m (evL (bT m xs ys i).2 (xs k))
 | 0,_=>⟨fun k hk=>by omega,fun k hk=>by omega,fun k _ _=>⟨1,0,by show ((1:Int)+(xs k:Int)*0)*1=_;grind⟩⟩
 | i+1,hi=>by
  obtain ⟨h1,h2,h3⟩:=LV hm xs ys hx hu i (by omega);have e1:(bT m xs ys (i+1)).1=mJ m (bT m xs ys i).1 (bT m xs ys i).2 ((ys i+m - mG m (bT m xs ys i).1 (xs i)) % m*(jm (mG m (bT m xs ys i).2 (xs i)) m).1 % m):=rfl;have e2:(bT m xs ys (i+1)).2=jW m (bT m xs ys i).2 [(m - xs i) % m,1]:=rfl;rw [e1,e2];generalize (bT m xs ys i).1=P at*;generalize (bT m xs ys i).2=B at*;have hvP:=ZK m P (xs i);have hvB:=ZK m B (xs i);have hlP:=Hr (m:=m) (by omega) P (xs i);have hub:jH m (mG m B (xs i):Nat):=(h3 i (Nat.le_refl _) (by omega)).congr hvB.symm;have hinv:=(DV hm hub).2;have hs:=wS (a:=ys i) (Nat.le_of_lt hlP);have hc:=eqm.nat m ((ys i+m - mG m P (xs i)) % m*(jm (mG m B (xs i)) m).1);rw [Int.natCast_mul] at hc;generalize (ys i+m - mG m P (xs i)) % m*(jm (mG m B (xs i)) m).1 % m=c at*;generalize (jm (mG m B (xs i)) m).1=iv at*;have hc2:=hc.trans (hs.mul eqm.rfl');have hz:=Qw (Nat.le_of_lt (hx i (by omega)));have hB: ∀ x:Int,eqm m (evL (jW m B [(m - xs i) % m,1]) x) ((x - xs i)*evL B x):=fun x=>(ZM m B _ x).trans (((eqm.rfl'.add hz).mul eqm.rfl').trans ⟨0,by grind⟩)
  refine ⟨fun k hk=>?_,fun k hk=>?_,fun k hk hk2=>?_⟩
  ·refine (ZL m P B c (xs k)).trans ?_;by_cases e:k=i
   ·subst e;refine (eqm.rfl'.add (hc2.mul hvB.symm)).trans ?_;obtain ⟨c1,hvP⟩:=hvP;obtain ⟨c2,hinv⟩:=hinv;exact ⟨-c1+((ys k:Int) - (mG m P (xs k):Nat))*c2,by grind⟩
   ·obtain ⟨c1,q1⟩:=h1 k (by omega);obtain ⟨c2,q2⟩:=h2 k (by omega);exact ⟨c1+c*c2,by rw [q1,q2];grind⟩
  ·refine (hB _).trans ?_;by_cases e:k=i
   ·subst e;exact ⟨0,by grind⟩
   ·obtain ⟨c2,q2⟩:=h2 k (by omega);exact ⟨((xs k:Int) - xs i)*c2,by rw [q2];grind⟩
  ·exact ((hu k i (by omega) hk2).mul (h3 k (by omega) hk2)).congr (hB _).symm
end
section
open Go.RowKit Wv
theorem LW (n:Int) (h:n≤4611686018427387904):dL n≤62∧n≤((2 ^ dL n:Nat):Int)∧ ∀ j,j<dL n→((2 ^ j:Nat):Int)<n:=by
 unfold dL;by_cases h1:n≤1
 ·rw [if_pos h1];exact ⟨by omega,by show n≤1;exact h1,fun j hj=>by omega⟩
 ·rw [if_neg h1];obtain ⟨x,hx⟩: ∃ x:Nat,n=(x:Int)+1:=⟨(n - 1).toNat,by omega⟩
  have hx2:(n - 1).toNat=x:=by omega
  rw [hx2];obtain ⟨b1,b2,b3⟩:=Lib.bitLenAux_bounds 64 x (by show x<18446744073709551616;omega) (by omega);have e:Lib.bitLen x=Lib.bitLenAux 64 x:=rfl;rw [e];generalize Lib.bitLenAux 64 x=L at*;refine ⟨?_,by omega,fun j hj=>?_⟩
  ·refine Classical.byContradiction fun hh=>?_
   have:=Nat.pow_le_pow_right (n:=2) (by decide) (show 62≤L - 1 by omega);have e:2 ^ 62=4611686018427387904:=rfl;omega
  ·have:=Nat.pow_le_pow_right (n:=2) (by decide) (show j≤L - 1 by omega);omega
theorem sU (n:Int) (h:n≤4611686018427387904):TC Tryz.prog 188 [.v (.int .i64 n)] (.v (.int .i64 (dL n))):=by
 obtain ⟨f1,f2,f3⟩:=LW n h;generalize dL n=L at*;refine Wv.TC.by 12 [3,0,8,2] [] [.tmp 2] Tryz.func188 rfl rfl rfl ?clo ?_
 case clo=>simp only [Wv.BC]
 refine Wv.W ?_;refine aV (σ:=Nat) (fun e=>[(0, .v (.int .i64 n)),(3, .v (.int .i64 e))]) (fun _=>[]) (fun e=>e≤L) (fun e=>L - e) 0 (Nat.zero_le _) rfl Wv.V ?_;intro e he;have hm:min e 64=e:=by omega
 have hp:2 ^ e≤4611686018427387904:=Nat.pow_le_pow_right (n:=2) (by decide) (show e≤62 by omega);have hp0:0<2 ^ e:=Nat.pow_pos (by decide);have hw:IntKind.i64.wrap ((2:Int) ^ e)=((2 ^ e:Nat):Int):=by
  have e2:((2:Int) ^ e)=((2 ^ e:Nat):Int):=by rw [Int.natCast_pow];rfl
  rw [e2];generalize 2 ^ e=q at*;rw [IntKind.wrap_i64];omega
 by_cases hlt:e<L
 ·have q:=f3 e hlt;generalize ((2 ^ e:Nat):Int)=z at*;simp (disch:=first|exact Wv.D|fail) only [Wv.B,simprocAttr,Int.toNat_natCast,hm,Int.one_mul,hw,ah q];refine ay (e+1) (by omega) (by omega) rfl Wv.V2
 ·obtain rfl:L=e:=by omega
  have q: ¬ ((2 ^ L:Nat):Int)<n:=by omega
  generalize ((2 ^ L:Nat):Int)=z at*;simp (disch:=first|exact Wv.D|fail) only [Wv.B,simprocAttr,Int.toNat_natCast,hm,Int.one_mul,hw,aj q]
def zD (t:Nat) (val:Nat→Int):List Nat:=if IB t t id=true then [] else mW t t id (iW t val) t
def yB (t:Nat) (val:Nat→Int):Nat:=dB (fun i=>(zD t val).getD i 0) (zD t val).length - 1
theorem LX {t:Nat} (h2:2≤t) (val:Nat→Int):(zD t val).length≤1+3*t:=by
 unfold zD;split
 ·exact Nat.zero_le _
 ·exact (Ag h2 t id (iW t val) (fun i _=>pK (by omega) val i) t (Nat.le_refl _)).2
theorem ZN (t:Nat) (val:Nat→Int) (h2:2≤t) (h256:t≤256):
  TC Tryz.prog 241 [.v (.int .u32 t),fH t id,fH t (iW t val)] (.tup [cu (zD t val), .v (.int .i64 (if IB t t id=true then 7 else 0))]):=by
 refine (OJ t t id (iW t val) h2 (by omega) h256 (fun i hi=>hi) fun i hi=>pK (by omega) val i).res ?_;unfold LP zD;cases IB t t id with
 | true=>exact Wk.tup ⟨Wk.nil 1,Wk.refl _,trivial⟩
 | false=>exact Wk.refl _
theorem ZO {a t:Int} (ht:0<t):(a.tmod t+t).tmod t=(a+t) % t:=by
 have h1:=Int.lt_tmod_of_pos a ht;rw [Int.tmod_eq_emod_of_nonneg (by omega),Int.tmod_def,Int.add_emod_right,Int.add_emod_right,Int.sub_mul_emod_self_left]
theorem OL (N r:Int) (t m:Nat) (nm:Nat→ByteArray) (sh:Nat→Bool × Nat) (val:Nat→Int) (h2:2≤t) (h256:t≤256) (hb: ∀ i,i<t→inB (val i)=true):
  TC Tryz.prog 219 [.tp (yC N t r m nm sh), .t t 1 (tab t fun i=> .v (.int .i64 (val i)))] (.v (.int .i64 (yB t val))):=by
 have TI:=ZN t val h2 h256;have hD:yB t val=dB (fun i=>(zD t val).getD i 0) (zD t val).length - 1:=rfl;have hll:=LX h2 val;have hv: ∀ i,i<t→ -4294967295≤val i∧val i≤4294967295:=fun i hi=>by
  have h:=hb i hi;unfold inB at h;rw [Bool.and_eq_true] at h;exact ⟨of_decide_eq_true h.1,of_decide_eq_true h.2⟩
 generalize zD t val=l at*;generalize (if IB t t id=true then 7 else 0:Int)=er at*;generalize yB t val=D at*;unfold yC bW;refine Wv.TC.by 70 [7,1,15,5,6,0,11,8,60,67,10,4] [(6,19),(3000006,3)] [.tmp 4] Tryz.func219 rfl rfl rfl ?clo ?_
 case clo=>simp only [Wv.BC]
 have hYc:=uJ N t r m nm sh;unfold yC bW at hYc;generalize shM m sh=L at*;have hLl: ∀ k,lo k _=True:=fun k=>eq_true (.clo hYc)
 refine Wv.W ?_;refine pY (σ:=Nat) (fun i=>[(0, .tp [.v (.int .i64 N), .v (.int .i64 t), .v (.int .i64 r), .t m 1 (tab m fun i=> .v (.string (nm i))), .t m 2 L]),(1, .t t 1 (tab t fun i=> .v (.int .i64 (val i)))),(5, .own 0 i),(6, .own 1 i),(7, .v (.int .i64 i))])
  (fun i=>[some (.arr 22 1 (tab i fun i=> .v (.int .u32 (i:Nat))) 0),some (.arr 22 1 (tab i fun i=> .v (.int .u32 (iW t val i:Nat))) 0)]) (fun i=>i≤t) (fun i=>t - i) 0 (Nat.zero_le _) ?_ ?_
 ·refine Ent.trans (Ent.nil 5 22 1 (by omega) rfl) (Ent.trans (Ent.nil 6 22 1 (by omega) rfl) (Ent.fit ?_));exact Wv.V
 intro i hi;by_cases hlt:i<t
 ·have e1:(i:Int)<(t:Int):=by omega
  have ht0: ¬ (t:Int)=0:=by omega
  obtain ⟨v1,v2⟩:=hv i hlt;have e2:((val i).tmod t+t).tmod t=((iW t val i:Nat):Int):=by rw [ZO (by omega)];exact (zW (by omega) val i).symm
  have e3:=pK (t:=t) (by omega) val i;have m1:=Int.lt_tmod_of_pos (val i) (show (0:Int)<t by omega);have m2:=Int.tmod_lt_of_pos (val i) (show (0:Int)<t by omega);refine Wv.W3 (ah e1) (aj ht0) e2 ?_;refine Wv.jh (i+1) 2 (by first | decide | exact Nat.le_of_ble_eq_true rfl) (by omega) (by omega) (Wv.V1 @bZ) Wv.V2 (by simp only [Wv.BL, ↓reduceIte,Nat.reduceLeDiff,hLl]<;>omega) (by simp only [Wv.BL, ↓reduceIte,Nat.reduceLeDiff,hLl]<;>omega)
 ·obtain rfl:t=i:=by omega
  refine Wv.W2 @Int.lt_irrefl @decide_false ?_;refine jT TI (by simp only [Wv.BC,aU,jV]) (by simp only [Wv.BC,aU]) ?_;refine Wv.W ?_;refine iM rfl ?_;simp (disch:=first|exact Wv.D|fail) only [Wv.B,simprocAttr,cu,fH];refine aV (σ:=Nat) (fun i=>[(8, .t l.length 1 (tab l.length fun i=> .v (.int .u32 (l.getD i 0:Nat)))),(10, .v (.int .i64 (dB (fun i=>l.getD i 0) i - 1:Nat))),(11, .v (.int .i64 i))])
   (fun _=>[some (.arr 22 1 (tab t fun i=> .v (.int .u32 (i:Nat))) t),some (.arr 22 1 (tab t fun i=> .v (.int .u32 (iW t val i:Nat))) t)]) (fun i=>i≤l.length) (fun i=>l.length - i) 0 (Nat.zero_le _) Wv.V (by simp (disch:=first|exact Wv.D|fail) only [Wv.B,simprocAttr];rfl) ?_
  clear hv hb TI;intro i hi;by_cases hlt:i<l.length
  ·have e1:(i:Int)<(l.length:Int):=by omega
   have hs:=iw (fun i=>l.getD i 0) i;by_cases hz:l.getD i 0=0
   ·rw [if_pos hz] at hs;refine Wv.W2 (ah e1) hz ?_;refine ay (i+1) (by omega) (by omega) rfl (Wv.V3 hs @Int.natCast_add @Int.natCast_one)
   ·rw [if_neg hz] at hs;have hz': ¬ ((l.getD i 0:Nat):Int)=0:=by omega
    have hs':dB (fun i=>l.getD i 0) (i+1) - 1=i:=by rw [hs];rfl
    refine Wv.W2 (ah e1) (aj hz') ?_;refine ay (i+1) (by omega) (by omega) rfl (by simp (disch:=first|exact Wv.D|fail) only [Wv.B,simprocAttr,hs',Int.natCast_add,Int.natCast_one])
  ·obtain rfl:i=l.length:=by omega
   exact Wv.V3 @Int.lt_irrefl @decide_false hD
end
section
open Go.RowKit Wv
variable {m:Nat}
theorem LY (a b:List Nat) (hb: ∀ i,b.getD i 0<m) (i:Nat):eqm m (cI (minL m a b) i) (cI a i+ -1*cI b i):=by
 unfold minL;rw [pV,DW];by_cases h:i<max a.length b.length
 ·rw [if_pos h];unfold Us;have e1:(if i<a.length then a.getD i 0 else 0)=a.getD i 0:=by
   by_cases h:i<a.length
   ·rw [if_pos h]
   ·rw [if_neg h];simp [Nat.le_of_not_lt h]
  have e2:(if i<b.length then b.getD i 0 else 0)=b.getD i 0:=by
   by_cases h:i<b.length
   ·rw [if_pos h]
   ·rw [if_neg h];simp [Nat.le_of_not_lt h]
  rw [e1,e2];exact (wS (Nat.le_of_lt (hb i))).trans ⟨0,by unfold cI;grind⟩
 ·rw [if_neg h,gU (l:=a) (by omega),gU (l:=b) (by omega)];exact ⟨0,by grind⟩
theorem Qx (a b:List Nat) (hb: ∀ i,b.getD i 0<m) (x:Int):eqm m (evL (minL m a b) x) (evL a x - evL b x):=by
 obtain ⟨N,h1,h2,h3⟩: ∃ N,(minL m a b).length≤N∧a.length≤N∧b.length≤N:=⟨max a.length b.length,wQ _ _ _,by omega,by omega⟩
 rw [←iY h1, ←iY h2, ←iY h3];have:=sQ (n:=N) (f:=cI a) (g:=cI b) (c:= -1) (x:=x);refine (oV fun i _=>LY a b hb i).trans ⟨0,by rw [this];grind⟩
variable {f:Nat→Nat}{i:Nat}
theorem DX {g:Nat→Nat} : ∀ {k:Nat},(∀ j,j<k→g (i - j)=0)→cvS m f g i k=0
 | 0,_=>rfl
 | k+1,h=>by
  unfold cvS;rw [DX fun j hj=>h j (by omega),h k (by omega),Nat.mul_zero];exact Nat.zero_mod _
theorem Qy (a:List Nat) (i:Nat):atF a.length (fun i=>a.getD i 0) i=a.getD i 0:=by
 unfold atF;by_cases h:i<a.length
 ·rw [if_pos h]
 ·rw [if_neg h];simp [Nat.le_of_not_lt h]
theorem F6 (m u:Nat) (a:List Nat) (i:Nat):eqm m (cI (ku m a [u,1]) i) (upF (cI a) i+u*cI a i):=by
 unfold ku;rw [pV,DW];have h2:[u,1].length=2:=rfl;rw [h2];have ha:=Qy a;generalize hf:atF a.length (fun i=>a.getD i 0)=f at*;have g0:atF 2 (fun i=>[u,1].getD i 0) 0=u:=rfl;have g1:atF 2 (fun i=>[u,1].getD i 0) 1=1:=rfl;have g2: ∀ j,2≤j→atF 2 (fun i=>[u,1].getD i 0) j=0:=fun j hj=>if_neg (by omega)
 generalize atF 2 (fun i=>[u,1].getD i 0)=g at*;by_cases h:i<a.length+2
 ·rw [if_pos h];cases i with
  | zero=>
   have e:cvS m f g 0 (0+1)=(0+f 0*u) % m:=by simp only [cvS,Nat.sub_zero,g0]
   rw [e,ha];refine (eqm.nat m _).trans ⟨0,?_⟩;rw [Int.natCast_add,Int.natCast_mul];simp only [upF,cI];grind
  | succ i=>
   have e0:cvS m f g (i+1) i=0:=DX fun j hj=>g2 _ (by omega)
   have e1:cvS m f g (i+1) (i+1)=(0+f i*1) % m:=by
    show (cvS m f g (i+1) i+f i*g (i+1 - i)) % m=_;rw [e0,show i+1 - i=1 by omega,g1]
   have e:cvS m f g (i+1) (i+1+1)=((0+f i*1) % m+f (i+1)*u) % m:=by
    show (cvS m f g (i+1) (i+1)+f (i+1)*g (i+1 - (i+1))) % m=_;rw [e1,Nat.sub_self,g0]
   rw [e,ha,ha];refine (eqm.nat m _).trans ?_;rw [Int.natCast_add,Int.natCast_mul];refine ((eqm.nat m _).add eqm.rfl').trans ⟨0,?_⟩;rw [Int.natCast_add,Int.natCast_mul];simp only [upF,cI];grind
 ·rw [if_neg h,gU (l:=a) (by omega)];obtain ⟨j,rfl⟩: ∃ j,i=j+1:=⟨i - 1,by omega⟩
  show eqm m 0 (cI a j+u*0);rw [gU (by omega)];exact ⟨0,by grind⟩
theorem F7 (m c:Nat) (a:List Nat) (i:Nat):eqm m (cI (ku m a [c]) i) (c*cI a i):=by
 unfold ku;rw [pV,DW];have h2:[c].length=1:=rfl;rw [h2];have ha:=Qy a;generalize hf:atF a.length (fun i=>a.getD i 0)=f at*;have g0:atF 1 (fun i=>[c].getD i 0) 0=c:=rfl;have g2: ∀ j,1≤j→atF 1 (fun i=>[c].getD i 0) j=0:=fun j hj=>if_neg (by omega)
 generalize atF 1 (fun i=>[c].getD i 0)=g at*;by_cases h:i<a.length+1
 ·rw [if_pos h];have e0:cvS m f g i i=0:=DX fun j hj=>g2 _ (by omega)
  have e:cvS m f g i (i+1)=(0+f i*c) % m:=by
   show (cvS m f g i i+f i*g (i - i)) % m=_;rw [e0,Nat.sub_self,g0]
  rw [e,ha];refine (eqm.nat m _).trans ⟨0,?_⟩;rw [Int.natCast_add,Int.natCast_mul];simp only [cI];grind
 ·rw [if_neg h,gU (l:=a) (by omega)];exact ⟨0,by grind⟩
theorem ZP (m:Nat) (a:List Nat) (u:Nat) (x:Int):eqm m (evL (ku m a [u,1]) x) ((x+u)*evL a x):=
 Qv (qX _ _ _) (F6 m u a) x
theorem ZQ (m:Nat) (a:List Nat) (c:Nat) (x:Int):eqm m (evL (ku m a [c]) x) (c*evL a x):=by
 have h1:(ku m a [c]).length≤a.length+1:=qX _ _ _;rw [←iY h1, ←iY (show a.length≤a.length+1 by omega)];have:=sQ (n:=a.length+1) (f:=fun _=>0) (g:=cI a) (c:=c) (x:=x);rw [DU fun _=>rfl] at this;refine (oV (g:=fun i=>0+(c:Int)*cI a i) fun i _=>(F7 m c a i).trans ⟨0,by grind⟩).trans ⟨0,by rw [this];grind⟩
def dgL (l:List Nat) (d:Nat):Prop:= ∀ j,d≤j→cI l j=0
theorem Uw {v:Nat} (hv:v<m) (h:eqm m (v:Int) 0):v=0:=by
 obtain ⟨c,h⟩:=h;have h2:((v:Int)) % m=0:=by rw [h,Int.zero_add,Int.mul_emod_right]
 rw [Int.emod_eq_of_lt (by omega) (by omega)] at h2;omega
theorem IE {l:List Nat} {j:Nat} (hl:l.getD j 0<m) (h:eqm m (cI l j) 0):cI l j=0:=by
 unfold cI at h ⊢;rw [Uw hl h];rfl
variable {a:List Nat}{d:Nat}
theorem ad2 {u:Nat} (hm:2≤m)  (h:dgL a d):dgL (ku m a [u,1]) (d+1):=fun j hj=>by
 refine IE (Ae (by omega) _ _ _) ((F6 m u a j).trans ⟨0,?_⟩);obtain ⟨i,rfl⟩: ∃ i,j=i+1:=⟨j - 1,by omega⟩
 show cI a i+u*cI a (i+1)=_;rw [h i (by omega),h (i+1) (by omega)];grind
theorem ad3 {c:Nat} (hm:2≤m)  (h:dgL a d):dgL (ku m a [c]) d:=fun j hj=>by
 refine IE (Ae (by omega) _ _ _) ((F7 m c a j).trans ⟨0,?_⟩);rw [h j hj];grind
theorem Qz (h:dgL a d):dgL (aW a) d:=fun j hj=>by rw [pV];exact h j hj
theorem ZR (hm:2≤m) {b:List Nat} (hb: ∀ i,b.getD i 0<m) (h1:dgL a d) (h2:dgL b d):dgL (minL m a b) d:=fun j hj=>by
 refine IE (Af (by omega) _ _ _) ((LY a b hb j).trans ⟨0,?_⟩);rw [h1 j hj,h2 j hj];grind
theorem aiM (l:List Nat):dgL l l.length:=fun j hj=>gU hj
theorem aeP {l:List Nat}  (h:dgL l d) (x:Int):evF (cI l) d x=evL l x:=by
 rcases Nat.le_total l.length d with q | q
 ·exact iY q x
 ·obtain ⟨k,hk⟩: ∃ k,l.length=d+k:=⟨l.length - d,by omega⟩
  unfold evL;rw [hk];exact (IC h).symm
theorem QB {m:Nat} (hm:2≤m) (xs ys:Nat→Nat) (i:Nat): ∀ k,dgL (iD m xs ys i k) (if k≤i then k+1 else k)
 | 0=>by rw [if_pos (Nat.zero_le _)];exact aiM [ys i]
 | k+1=>by
  have ih:=QB hm xs ys i k;unfold iD;by_cases e:k=i
  ·subst e;rw [if_pos rfl,if_neg (by omega)];rw [if_pos (Nat.le_refl _)] at ih;exact ih
  ·rw [if_neg e];have h1:=ad3 (c:=(jm ((xs i+m - xs k) % m) m).1) hm (ad2 (u:=(m - xs k) % m) hm (Qz ih));by_cases h:k+1≤i
   ·rw [if_pos h];rw [if_pos (by omega)] at h1;exact h1
   ·rw [if_neg h];rw [if_neg (by omega)] at h1;exact h1
theorem LZ {m n:Nat} (hm:2≤m) (xs ys:Nat→Nat) (hx: ∀ i,i<n→xs i<m) (hu: ∀ i k,k<n→i<n→k≠i→jH m ((xs i:Int) - xs k)) (i:Nat) (hi:i<n): ∀ k,k≤n→eqm m (evL (iD m xs ys i k) (xs i)) (ys i)∧ ∀ j,j<k→j≠i→eqm m (evL (iD m xs ys i k) (xs j)) 0
 | 0,_=>⟨⟨0,by show ((ys i:Nat):Int)+(xs i:Int)*0=_;grind⟩,fun j hj=>by omega⟩
 | k+1,hk=>by
  obtain ⟨h1,h2⟩:=LZ hm xs ys hx hu i hi k (by omega);unfold iD;by_cases e:k=i
  ·rw [if_pos e];exact ⟨h1,fun j hj hne=>h2 j (by omega) hne⟩
  ·rw [if_neg e];generalize iD m xs ys i k=P at*;have hz:=Qw (Nat.le_of_lt (hx k (by omega)));have hs:=wS (a:=xs i) (Nat.le_of_lt (hx k (by omega)));have hinv:=(DV hm ((hu i k (by omega) hi e).congr hs.symm)).2;generalize (jm ((xs i+m - xs k) % m) m).1=iv at*;have hE: ∀ x:Int,eqm m (evL (ku m (ku m (aW P) [(m - xs k) % m,1]) [iv]) x) (iv*((x - xs k)*evL P x)):=fun x=>by
    refine (ZQ m _ iv x).trans (eqm.rfl'.mul ((ZP m _ _ x).trans ?_));rw [LU];exact ((eqm.rfl'.add hz).mul eqm.rfl').trans ⟨0,by grind⟩
   refine ⟨(hE _).trans ?_,fun j hj hne=>(hE _).trans ?_⟩
   ·have h3:=(eqm.rfl' (a:=(iv:Int))).mul hs.symm;obtain ⟨c1,q1⟩:=h3.trans hinv;obtain ⟨c2,q2⟩:=h1;refine ⟨(iv*((xs i:Int) - xs k))*c2+ys i*c1,?_⟩;rw [q2];have:(iv:Int)*(((xs i:Int) - xs k)*(ys i+m*c2))=(iv*((xs i:Int) - xs k))*ys i+m*((iv*((xs i:Int) - xs k))*c2):=by grind
    rw [this];have q3:(iv*((xs i:Int) - xs k))*ys i=(1+m*c1)*ys i:=by rw [q1]
    rw [q3];grind
   ·by_cases ej:j=k
    ·subst ej;exact ⟨0,by grind⟩
    ·obtain ⟨c2,q2⟩:=h2 j (by omega) hne;exact ⟨iv*((xs j:Int) - xs k)*c2,by rw [q2];grind⟩
theorem ad4 (hm:2≤m) (xs ys:Nat→Nat) (i:Nat) (hy:ys i<m) (k:Nat): ∀ j,(aW (iD m xs ys i k)).getD j 0<m:=mM (by omega) (wR hm xs ys i hy k).1
theorem QC {m n:Nat} (hm:2≤m) (xs ys:Nat→Nat) (hx: ∀ i,i<n→xs i<m) (hy: ∀ i,i<n→ys i<m) (hu: ∀ i k,k<n→i<n→k≠i→jH m ((xs i:Int) - xs k)): ∀ i,i≤n→(∀ j,j<i→eqm m (evL (mW m n xs ys i) (xs j)) (ys j))∧(∀ j,i≤j→j<n→eqm m (evL (mW m n xs ys i) (xs j)) 0)∧dgL (mW m n xs ys i) n
 | 0,_=>⟨fun j hj=>by omega,fun j _ _=>⟨0,by show (0:Int)=_;grind⟩,fun j hj=>gU (l:=[]) (Nat.zero_le _)⟩
 | i+1,hi=>by
  obtain ⟨h1,h2,h3⟩:=QC hm xs ys hx hy hu i (by omega);obtain ⟨p1,p2⟩:=LZ hm xs ys hx hu i (by omega) n (Nat.le_refl _);have pd:=QB hm xs ys i n;rw [if_neg (by omega)] at pd;have pl:=ad4 hm xs ys i (hy i (by omega)) n;unfold mW;generalize mW m n xs ys i=O at*;have hnl: ∀ j,(minL m [] (aW (iD m xs ys i n))).getD j 0<m:=Af (by omega) _ _;have hE: ∀ x:Int,eqm m (evL (minL m O (minL m [] (aW (iD m xs ys i n)))) x) (evL O x+evL (iD m xs ys i n) x):=fun x=>by
   refine (Qx _ _ hnl x).trans ((eqm.rfl'.sub (Qx _ _ pl x)).trans ?_);rw [LU];exact ⟨0,by show evL O x - (0 - evL (iD m xs ys i n) x)=_;grind⟩
  refine ⟨fun j hj=>(hE _).trans ?_,fun j hj hj2=>(hE _).trans ?_,ZR hm hnl h3 (ZR hm pl (fun j hj=>gU (l:=[]) (Nat.zero_le _)) (Qz pd))⟩
  ·by_cases e:j=i
   ·subst e;obtain ⟨c1,q1⟩:=h2 j (Nat.le_refl _) (by omega);obtain ⟨c2,q2⟩:=p1;exact ⟨c1+c2,by rw [q1,q2];grind⟩
   ·obtain ⟨c1,q1⟩:=h1 j (by omega);obtain ⟨c2,q2⟩:=p2 j (by omega) e;exact ⟨c1+c2,by rw [q1,q2];grind⟩
  ·obtain ⟨c1,q1⟩:=h2 j (by omega) hj2;obtain ⟨c2,q2⟩:=p2 j hj2 (by omega);exact ⟨c1+c2,by rw [q1,q2];grind⟩
variable {n:Nat}
theorem ZT (hm:2≤m) (xs ys:Nat→Nat) (hx: ∀ i,i<n→xs i<m) (hy: ∀ i,i<n→ys i<m) (hu: ∀ i k,k<n→i<n→k≠i→jH m ((xs i:Int) - xs k)) (j:Nat):(aW (bT m xs ys n).1).getD j 0=(mW m n xs ys n).getD j 0:=by
 obtain ⟨n1,_,_⟩:=LV hm xs ys hx (fun i k hk hi=>hu i k (by omega) hi (by omega)) n (Nat.le_refl _);obtain ⟨o1,_,o3⟩:=QC hm xs ys hx hy hu n (Nat.le_refl _);obtain ⟨k1,_,k3,_⟩:=zV hm xs ys n;obtain ⟨l1,_⟩:=Ag hm n xs ys hy n (Nat.le_refl _);rw [F5];generalize (bT m xs ys n).1=P at*;generalize mW m n xs ys n=O at*;have dP:dgL P n:=fun j hj=>gU (by omega)
 by_cases hj:j<n
 ·have hr:=roots (m:=m) (xs:=fun i=>(xs i:Int)) n (fun i=>cI P i+ -1*cI O i) (fun i hi=>by
   rw [sQ,aeP dP,aeP o3];obtain ⟨c1,q1⟩:=n1 i hi;obtain ⟨c2,q2⟩:=o1 i hi;exact ⟨c1 - c2,by rw [q1,q2];grind⟩) (fun i k hk hi=>hu i k (by omega) hi (by omega)) j hj
  obtain ⟨c,hc⟩:=hr;have h1:=k1 j;have h2:=l1 j;unfold cI at hc;generalize P.getD j 0=u at*;generalize O.getD j 0=v at*;have e:(u:Int)=v+m*c:=by grind
  have e2:((u:Int)) % m=(v:Int) % m:=by rw [e,Int.add_mul_emod_self_left]
  rw [Int.emod_eq_of_lt (by omega) (by omega),Int.emod_eq_of_lt (by omega) (by omega)] at e2;omega
 ·have h1:=dP j (by omega);have h2:=o3 j (by omega);unfold cI at h1 h2;omega
theorem uK (h: ∀ i,n≤i→f i=0): ∀ k,dB f (n+k)=dB f n
 | 0=>rfl
 | k+1=>by
  show dB f ((n+k)+1)=_;rw [iw,if_pos (h _ (by omega))];exact uK h k
variable {k:Nat}
theorem OM (h1: ∀ i,n≤i→f i=0) (h2: ∀ i,k≤i→f i=0):dB f n=dB f k:=by
 rcases Nat.le_total n k with q | q
 ·obtain ⟨d,rfl⟩: ∃ d,k=n+d:=⟨k - n,by omega⟩
  exact (uK h1 d).symm
 ·obtain ⟨d,rfl⟩: ∃ d,n=k+d:=⟨n - k,by omega⟩
  exact uK h2 d
theorem Ai {i k:Nat}: ∀ {n:Nat},(i,k)∈prs n↔k<i∧i<n
 | 0=>by simp [prs]
 | n+1=>by
  show (i,k)∈prs n++rowP n n↔_;rw [List.mem_append,Ai (n:=n)];unfold rowP;rw [List.mem_map];constructor
  ·rintro (h | ⟨j,hj,e⟩)
   ·omega
   ·have:=List.mem_range.1 hj;injection e with e1 e2;omega
  ·rintro ⟨h1,h2⟩;by_cases e:i=n
   ·exact .inr ⟨k,List.mem_range.2 (by omega),by rw [e]⟩
   ·exact .inl ⟨h1,by omega⟩
theorem DY {xs:Nat→Nat}  (hm:2≤m) (hk:xs k<m) (h:Nat.gcd m ((xs i+m - xs k) % m)=1):jH m ((xs i:Int) - xs k):=
 (ZJ hm (Nat.mod_lt _ (by omega)) h).congr (wS (Nat.le_of_lt hk))
theorem DZ {xs:Nat→Nat}  (hm:2≤m) (hk:xs k<m) (h:jH m ((xs i:Int) - xs k)):Nat.gcd m ((xs i+m - xs k) % m)=1:=
 (DV hm (h.congr (wS (Nat.le_of_lt hk)).symm)).1
theorem ZU {m a b:Int} (h:jH m (a - b)):jH m (b - a):=by
 obtain ⟨x,c,h⟩:=h;exact ⟨-x,c,by grind⟩
theorem ZV {t:Nat} (h2:2≤t) (val:Nat→Int):zy t val=dL (yB t val):=by
 have hyl: ∀ i,i<t→iW t val i<t:=fun i _=>pK (by omega) val i
 unfold zy yB zD kQ;cases hl:IB t t id with
 | true=>
  rw [if_pos rfl];have hx: ¬ (prs t).all (l9 t id)=true:=fun hall=>by
   unfold IB aQ at hl;obtain ⟨i,hi,h⟩:=List.any_eq_true.1 hl;obtain ⟨k,hk,h⟩:=List.any_eq_true.1 h;have hi:=List.mem_range.1 hi;have hk:=List.mem_range.1 hk;unfold okP at h;rw [Bool.not_eq_true',Bool.or_eq_false_iff] at h;have hne:=of_decide_eq_false h.1;have hg:=of_decide_eq_false h.2;rcases Nat.lt_or_gt_of_ne hne with q | q
   ·have:=List.all_eq_true.1 hall (i,k) (Ai.2 ⟨q,hi⟩);exact hg (of_decide_eq_true this)
   ·have:=List.all_eq_true.1 hall (k,i) (Ai.2 ⟨q,hk⟩);have h3:=of_decide_eq_true this;exact hg (DZ (xs:=id) h2 hk (ZU (DY (xs:=id) h2 hi h3)))
  rw [if_neg hx]
 | false=>
  have hu: ∀ i k,k<t→i<t→k≠i→jH t (((id i:Nat):Int) - (id k:Nat)):=fun i k hk hi hne=>by
   unfold IB aQ at hl;have h:=List.any_eq_false.1 hl i (List.mem_range.2 hi);have h:=List.any_eq_false.1 (Bool.eq_false_iff.2 h) k (List.mem_range.2 hk);have h:okP t id i k=true:=by simpa using h
   unfold okP at h;rw [aj hne,Bool.false_or] at h;exact DY (xs:=id) h2 hk (of_decide_eq_true h)
  have hall:(prs t).all (l9 t id)=true:=List.all_eq_true.2 fun p hp=>by
   obtain ⟨q1,q2⟩:=Ai.1 (show (p.1,p.2)∈prs t from hp);exact ah (DZ (xs:=id) h2 (show id p.2<t by show p.2<t;omega) (hu p.1 p.2 (by omega) q2 (by omega)))
  rw [if_pos hall];have key:=ZT (n:=t) h2 id (iW t val) (fun i hi=>hi) hyl hu;show dL ((dB (fun i=>(aW (bT t id (iW t val) t).1).getD i 0) (aW (bT t id (iW t val) t).1).length - 1:Nat):Int)=_;have e:(fun i=>(aW (bT t id (iW t val) t).1).getD i 0)=fun i=>(mW t t id (iW t val) t).getD i 0:=funext key
  rw [e];rw [OM (f:=fun i=>(mW t t id (iW t val) t).getD i 0) (n:=(aW (bT t id (iW t val) t).1).length) (k:=(mW t t id (iW t val) t).length) (fun i hi=>by rw [←key i];simp [hi]) (fun i hi=>by simp [hi])];rfl
end
end Go.Proofs.YtljfgdlgmdcmfaaGreat
