/- Parts of a proof. -/
import Derived.Test.YtljfgdlgmdcmfaaGreatQtj
import Derived.Test.YtljfgdlgmdcmfaaGreatQtg
import Derived.Test.YtljfgdlgmdcmfaaGreatQtd
import Derived.TacticsIn
import Derived.OrdersIn
import Derived.Test.YtljfgdlgmdcmfaaGreatQtf
set_option linter.unusedVariables false
set_option linter.unusedSimpArgs false
set_option maxHeartbeats 1600000
set_option maxRecDepth 100000
namespace Go.Proofs.YtljfgdlgmdcmfaaGreat
section
open Go.RowKit Wv
theorem UU {b:Bool} {f:Nat→Bool} {i:Nat} (h:f i=true): ∀ {n:Nat},i<n→wS b f n=true
 | 0,q=>by omega
 | n+1,q=>by
  show (wS b f n || f n)=true
  by_cases e:i=n
  ·subst e;rw [h,Bool.or_true]
  ·rw [UU h (by omega),Bool.true_or]
theorem Fb {b:Bool} {f:Nat→Bool}: ∀ {n:Nat},(∀ i,i<n→f i=false)→wS b f n=b
 | 0,_=>rfl
 | n+1,h=>by
  show (wS b f n || f n)=b
  rw [Fb fun i hi=>h i (by omega),h n (by omega),Bool.or_false]
theorem Fe (n:Nat) (f:Nat→ByteArray) (hn:n≤140737488351232) (hf: ∀ i,i<n→(f i).size≤140737488351232):TC Tryz.prog 112 [bn n f] (.v (.bool (!bg n fun i=>!nameB (f i)))):=by
 obtain ⟨B,hB⟩: ∃ B,B=!bg n fun i=>!nameB (f i):=⟨_,rfl⟩
 rw [←hB]
 unfold bn
 refine Wv.TC.by 16 [3,0,7,15,2] [] [.tmp 2] Tryz.func112 rfl rfl rfl ?clo ?_
 case clo=>simp only [Wv.BC]
 refine Wv.W ?_
 refine dQ (σ:=Nat) (fun i=>[(0, .t n 1 (tab n fun i=> .v (.string (f i)))),(3, .v (.int .i64 i))]) (fun _=>[])
  (fun i=>i≤n∧ ∀ j,j<i→(!nameB (f j))=false) (fun i=>n - i) 0 ⟨Nat.zero_le _,fun j hj=>by omega⟩ rfl Wv.V ?_
 rintro i ⟨hi,hbef⟩
 by_cases hlt:i<n
 ·have e1:(i:Int)<n:=by omega
  have T:=vS (f i) (hf i hlt)
  simp (disch:=first|exact Wv.D|fail) only [Wv.B,simprocAttr,decide_eq_true e1]
  refine ah T rfl Wv.c Wv.c ?_
  cases hq:nameB (f i) with
  | false=>
   have hA:=jl (p:=fun i=>!nameB (f i)) hlt (by simp [hq])
   refine Wv.W ?_
   rw [hB,hA];rfl
  | true=>
   refine Wv.W ?_
   refine aH (i+1) ⟨by omega,fun j hj=>?_⟩ (by omega) rfl Wv.V2
   by_cases e:j=i
   ·subst e;rw [hq];rfl
   ·exact hbef j (by omega)
 ·obtain rfl:n=i:=by omega
  have hA:=fO (p:=fun i=>!nameB (f i)) hbef
  simp (disch:=first|exact Wv.D|fail) only [Wv.B,simprocAttr,Int.lt_irrefl,decide_false]
  rw [hB,hA];rfl
theorem WG (x:Ex) (h:okE x) (hc:aY x≤4611686018427387904):TC Tryz.prog 181 [.g (exC x)] (.v (.int .i64 (aY x))):=by
 induction x with
 | nil=>exact h.elim
 | mk k s n nl li na ar ih=>
 obtain ⟨hs,hnl,hna,hh⟩:=h
 have hfin:aY (.mk k s n nl li na ar)=dB 1 (fun i=>aY (ar i)) na:=rfl
 rw [hfin] at hc ⊢
 have hC:=dG (n:=na) (f:=fun i=>exC (ar i)) fun i _=>eF (ar i)
 have hdA: ∀ i,i<na→ ∃ r,List.drop (i*5) (bT na fun i=>exC (ar i))=exC (ar i)++r:=fun i hi=>bP (f:=fun i=>exC (ar i)) (fun i=>iC (ar i)) hi
 rw [dA]
 refine Wv.TC.by 21 [0,4,1,9,3,2] [] [.tmp 2] Tryz.func181 rfl rfl rfl ?clo ?_
 case clo=>simp only [Wv.BC]
 generalize (bT na fun i=>exC (ar i))=L at*
 refine Wv.W ?_
 refine dQ (σ:=Nat) (fun i=>[(1, .ptr 0 0),(3, .v (.int .i64 (dB 1 (fun i=>aY (ar i)) i:Nat))),(4, .v (.int .i64 i))])
  (fun i=>[some (.blk [.v (.int .i64 k), .v (.string s), .v (.int .i64 n), .t nl 1 (tab nl fun i=> .v (.int .i64 (li i))), .t na 5 L])])
  (fun i=>i≤na) (fun i=>na - i) 0 (Nat.zero_le _) rfl (by simp (disch:=first|exact Wv.D|fail) only [Wv.B,simprocAttr,dB,Int.natCast_one]) ?_
 intro i hi
 by_cases hlt:i<na
 ·have e1:(i:Int)<na:=by omega
  have h2:dB 1 (fun i=>aY (ar i)) i+aY (ar i)≤dB 1 (fun i=>aY (ar i)) na:=qo 1 (fun i=>aY (ar i)) hlt
  have hnx:dB 1 (fun i=>aY (ar i)) (i+1)=dB 1 (fun i=>aY (ar i)) i+aY (ar i):=rfl
  have T:=ih i (hh i hlt) (by omega)
  have hG:=bQ (ar i)
  have hoy:=hh i hlt
  obtain ⟨r,hd⟩:=hdA i hlt
  obtain ⟨c0,c1,c2,c3,c4,c5,c6,h5⟩: ∃ (k:Int) (s:ByteArray) (m:Int) (a:Nat) (l:List AV) (b:Nat) (r:List AV),exC (ar i)=[.v (.int .i64 k), .v (.string s), .v (.int .i64 m), .t a 1 l, .t b 5 r]:=by cases ar i<;>exact ⟨_,_,_,_,_,_,_,rfl⟩
  simp only [h5,List.cons_append,List.nil_append] at hd
  rw [h5] at T hG
  generalize dB 1 (fun i=>aY (ar i)) i=S0 at*
  generalize aY (ar i)=Y at*
  simp (disch:=first|exact Wv.D|fail) only [Wv.B,simprocAttr,decide_eq_true e1,hd]
  refine ah T rfl (dW hG) Wv.c ?_
  refine Wv.W ?_
  refine aH (i+1) (by omega) (by omega) rfl (by simp (disch:=first|exact Wv.D|fail) only [Wv.B,simprocAttr,hnx,Int.natCast_add,Int.natCast_one])
 ·obtain rfl:i=na:=by omega
  simp (disch:=first|exact Wv.D|fail) only [Wv.B,simprocAttr,Int.lt_irrefl,decide_false]
theorem WH        (x : Ex) (h : okE x) (hc : aY   x ≤ 4611686018427387904) : TC Tryz.prog 182 [.g (exC x)] (.v (.int .i64 (eP   x))) := by
  induction x with
  | nil => exact h.elim
  | mk k s n nl li na ar ih =>
  obtain ⟨hs, hnl, hna, hh⟩ := h
  have hcn : ∀ i, i < na → aY   (ar i) ≤ 4611686018427387904 := fun i hi => by
    have h1 : dB   1 (fun i => aY   (ar i)) na ≤ 4611686018427387904 := hc
    have h2 : dB   1 (fun i => aY   (ar i)) i + aY   (ar i) ≤ dB   1 (fun i => aY   (ar i)) na := qo       1 (fun i => aY   (ar i)) hi
    omega
  have hdp := zC      (.mk k s n nl li na ar)
  have hfin : eP   (.mk k s n nl li na ar) = jM   (fun i => eP   (ar i)) na + 1 := rfl
  rw [hfin] at hdp ⊢
  have hdn : jM   (fun i => eP   (ar i)) na + 1 ≤ 4611686018427387904 := Nat.le_trans hdp hc
  have hdi : ∀ i, i ≤ na → jM   (fun i => eP   (ar i)) i ≤ jM   (fun i => eP   (ar i)) na := fun i hi => by
    have key : ∀ n, i ≤ n → jM   (fun i => eP   (ar i)) i ≤ jM   (fun i => eP   (ar i)) n := fun n => by
      induction n with
      | zero => intro q; obtain rfl : i = 0 := by omega
                exact Nat.le_refl _
      | succ n ihn =>
        intro q
        by_cases e : i = n + 1
        · subst e; exact Nat.le_refl _
        · have := ihn (by omega)
          show _ ≤ max (jM   (fun i => eP   (ar i)) n) (eP   (ar n))
          omega
    exact key na hi
  have hdA : ∀ i, i < na → ∃ r, List.drop (i * 5) (bT   na fun i => exC (ar i)) = exC (ar i) ++ r := fun i hi => bP        (f := fun i => exC (ar i)) (fun i => iC      (ar i)) hi
  rw [dA    ]
  refine Wv.TC.by 22 [0, 4, 1, 9, 3, 2] [] [.tmp 2] Tryz.func182 rfl rfl rfl ?clo ?_
  case clo => simp only [Wv.BC]
  generalize (bT   na fun i => exC (ar i)) = L at *
  refine Wv.W ?_
  refine dQ   (σ := Nat) (fun i => [(1, .ptr 0 0), (3, .v (.int .i64 (jM   (fun i => eP   (ar i)) i : Nat))), (4, .v (.int .i64 i))])
    (fun i => [some (.blk [.v (.int .i64 k), .v (.string s), .v (.int .i64 n), .t nl 1 (tab nl fun i => .v (.int .i64 (li i))), .t na 5 L])])
    (fun i => i ≤ na) (fun i => na - i) 0 (Nat.zero_le _) rfl (by simp (disch:=first|exact Wv.D|fail) only [Wv.B, simprocAttr, jM  , Int.natCast_zero]) ?_
  intro i hi
  by_cases hlt : i < na
  · have e1 : (i : Int) < na := by omega
    have hnx : jM   (fun i => eP   (ar i)) (i + 1) = max (jM   (fun i => eP   (ar i)) i) (eP   (ar i)) := rfl
    have hb1 := hdi (i + 1) (by omega)
    have T := ih i (hh i hlt) (hcn i hlt)
    have hG := bQ      (ar i)
    obtain ⟨r, hd⟩ := hdA i hlt
    obtain ⟨c0, c1, c2, c3, c4, c5, c6, h5⟩ : ∃ (k : Int) (s : ByteArray) (m : Int) (a : Nat) (l : List AV) (b : Nat) (r : List AV), exC (ar i) = [.v (.int .i64 k), .v (.string s), .v (.int .i64 m), .t a 1 l, .t b 5 r] := by cases ar i <;> exact ⟨_, _, _, _, _, _, _, rfl⟩
    simp only [h5, List.cons_append, List.nil_append] at hd
    rw [h5] at T hG
    have hmx : (if ((eP   (ar i) : Nat) : Int) > ((jM   (fun i => eP   (ar i)) i : Nat) : Int) then ((eP   (ar i) : Nat) : Int) else ((jM   (fun i => eP   (ar i)) i : Nat) : Int)) = ((jM   (fun i => eP   (ar i)) (i + 1) : Nat) : Int) := by
      rw [hnx]; split <;> omega
    generalize hS1 : jM   (fun i => eP   (ar i)) (i + 1) = S1 at *
    generalize jM   (fun i => eP   (ar i)) i = S0 at *
    generalize eP   (ar i) = Y at *
    simp (disch:=first|exact Wv.D|fail) only [Wv.B, simprocAttr, decide_eq_true e1, hd]
    refine ah      T rfl (dW    hG) Wv.c ?_
    simp (disch:=first|exact Wv.D|fail) only [Wv.B, simprocAttr, hmx]
    refine aH     (i + 1) (by omega) (by omega) rfl (by simp (disch:=first|exact Wv.D|fail) only [Wv.B, simprocAttr, hS1, Int.natCast_add, Int.natCast_one])
  · obtain rfl : i = na := by omega
    simp (disch:=first|exact Wv.D|fail) only [Wv.B, simprocAttr, Int.lt_irrefl, decide_false, Int.natCast_add, Int.natCast_one]
theorem WI (x:Ex) (h:okE x):TC Tryz.prog 183 [.g (exC x)] (.v (.bool (!kT x))):=by
 induction x with
 | nil=>exact h.elim
 | mk k s n nl li na ar ih=>
 obtain ⟨hs,hnl,hna,hh⟩:=h
 have hfin:kT (.mk k s n nl li na ar)=wS (decide (600<(nl:Int))) (fun i=>kT (ar i)) na:=rfl
 obtain ⟨B,hB⟩: ∃ B,B=!kT (.mk k s n nl li na ar):=⟨_,rfl⟩
 rw [←hB]
 rw [hfin] at hB
 have hdA: ∀ i,i<na→ ∃ r,List.drop (i*5) (bT na fun i=>exC (ar i))=exC (ar i)++r:=fun i hi=>bP (f:=fun i=>exC (ar i)) (fun i=>iC (ar i)) hi
 rw [dA]
 refine Wv.TC.by 22 [0,3,1,8,17,2] [] [.tmp 2] Tryz.func183 rfl rfl rfl ?clo ?_
 case clo=>simp only [Wv.BC]
 generalize (bT na fun i=>exC (ar i))=L at*
 refine Wv.W ?_
 refine dQ (σ:=Nat) (fun i=>[(1, .ptr 0 0),(3, .v (.int .i64 i))])
  (fun i=>[some (.blk [.v (.int .i64 k), .v (.string s), .v (.int .i64 n), .t nl 1 (tab nl fun i=> .v (.int .i64 (li i))), .t na 5 L])])
  (fun i=>i≤na∧ ∀ j,j<i→kT (ar j)=false) (fun i=>na - i) 0 ⟨Nat.zero_le _,fun j hj=>by omega⟩ rfl Wv.V ?_
 rintro i ⟨hi,hbef⟩
 by_cases hlt:i<na
 ·have e1:(i:Int)<na:=by omega
  have T:=ih i (hh i hlt)
  have hG:=bQ (ar i)
  obtain ⟨r,hd⟩:=hdA i hlt
  obtain ⟨c0,c1,c2,c3,c4,c5,c6,h5⟩: ∃ (k:Int) (s:ByteArray) (m:Int) (a:Nat) (l:List AV) (b:Nat) (r:List AV),exC (ar i)=[.v (.int .i64 k), .v (.string s), .v (.int .i64 m), .t a 1 l, .t b 5 r]:=by cases ar i<;>exact ⟨_,_,_,_,_,_,_,rfl⟩
  simp only [h5,List.cons_append,List.nil_append] at hd
  rw [h5] at T hG
  cases hq:kT (ar i) with
  | true=>
   rw [UU (f:=fun i=>kT (ar i)) hq hlt] at hB
   rw [hq] at T
   simp (disch:=first|exact Wv.D|fail) only [Wv.B,simprocAttr,decide_eq_true e1,hd]
   refine ah T rfl (dW hG) Wv.c ?_
   refine Wv.W ?_
   rw [hB];rfl
  | false=>
   rw [hq] at T
   simp (disch:=first|exact Wv.D|fail) only [Wv.B,simprocAttr,decide_eq_true e1,hd]
   refine ah T rfl (dW hG) Wv.c ?_
   refine Wv.W ?_
   refine aH (i+1) ⟨by omega,fun j hj=>?_⟩ (by omega) rfl Wv.V2
   by_cases e:j=i
   ·subst e;exact hq
   ·exact hbef j (by omega)
 ·obtain rfl:i=na:=by omega
  rw [Fb hbef] at hB
  simp (disch:=first|exact Wv.D|fail) only [Wv.B,simprocAttr,Int.lt_irrefl,decide_false]
  rw [hB]
  by_cases q:(600:Int)<nl
  ·rw [decide_eq_true q,decide_eq_false (by omega)];rfl
  ·rw [decide_eq_false q,decide_eq_true (by omega)];rfl
theorem OU (x : Ex) (h : okE x) : TC Tryz.prog 114 [.g (exC x)] (.v (.bool (cu x))) := by
  induction x with
  | nil => exact h.elim
  | mk k s n nl li na ar ih =>
  obtain ⟨hs, hnl, hna, hh⟩ := h
  have hfin : cu (.mk k s n nl li na ar) = (!decide (k < 1) && (!decide (15 < k) && ((if k = 1 then nameB s else decide (s = ⟨#[]⟩)) && (decide ((na : Int) = argN k.toNat) && ((BN k.toNat || decide (n = 0)) && ((BO k.toNat || decide ((nl : Int) = 0)) && (inB n && (!bg nl (fun i => !inB (li i)) && !bg na fun i => !cu (ar i))))))))) := rfl
  obtain ⟨B, hB⟩ : ∃ B, B = cu (.mk k s n nl li na ar) := ⟨_, rfl⟩
  rw [← hB]
  rw [hfin] at hB
  have hdA : ∀ i, i < na → ∃ r, List.drop (i * 5) (bT na fun i => exC (ar i)) = exC (ar i) ++ r := fun i hi => bP (f := fun i => exC (ar i)) (fun i => iC (ar i)) hi
  have TA := aaK k
  rw [dA]
  refine Wv.TC.by 88 [0, 1, 40, 59, 3, 64, 73, 4, 78, 87, 2] [(1, 34)] [.tmp 2] Tryz.func114 rfl rfl rfl ?clo ?_
  case clo => simp only [Wv.BC]
  generalize (bT na fun i => exC (ar i)) = L at *
  by_cases hk : 1 ≤ k ∧ k ≤ 15
  rotate_left
  · have hR : aaJ k = -1 := if_neg hk
    rw [hR] at TA
    have hBf : B = false := by
      rw [hB]
      by_cases q : k < 1
      · rw [decide_eq_true q]; rfl
      · rw [decide_eq_false q, decide_eq_true (show 15 < k by omega)]; rfl
    refine Wv.W ?_
    refine gq TA rfl Wv.c Wv.c ?_
    simp (disch:=first|exact Wv.D|fail) only [Wv.B, simprocAttr, decide_eq_false (show ¬ (-1 : Int) = na by omega), hBf]
  have hR : aaJ k = argN k.toNat := if_pos hk
  rw [hR] at TA
  rw [decide_eq_false (show ¬ k < 1 by omega), decide_eq_false (show ¬ 15 < k by omega), Bool.not_false, Bool.true_and, Bool.true_and] at hB
  have TI := yN n
  have TH := OT k hk
  have TL := MK k hk
  have TN := vS s hs
  have hcm := MJ (argN k.toNat) (na : Int)
  generalize argN k.toNat = A1 at *
  generalize BN k.toNat = A2 at *
  generalize BO k.toNat = A3 at *
  generalize nameB s = A4 at *
  have hI : inB n = inB n := rfl
  refine Wv.W ?_
  refine gq TA rfl Wv.c Wv.c ?_
  cases d1 : decide ((na : Int) = A1) with
  | false =>
    rw [d1] at hB hcm
    simp only [Bool.false_and, Bool.and_false] at hB
    simp (disch:=first|exact Wv.D|fail) only [Wv.B, simprocAttr, hcm, hB]
  | true =>
  rw [d1] at hB hcm
  simp (disch:=first|exact Wv.D|fail) only [Wv.B, simprocAttr, hcm]
  refine gq TI rfl Wv.c Wv.c ?_
  cases d2 : inB n with
  | false =>
    rw [d2] at hB
    simp only [Bool.false_and, Bool.and_false] at hB
    simp (disch:=first|exact Wv.D|fail) only [Wv.B, simprocAttr, hB]
  | true =>
  rw [d2] at hB
  rw [Bool.true_and, Bool.true_and] at hB
  have fin2 : (A2 || decide (n = 0)) = false → B = false := fun q => by rw [hB, q]; simp
  have ajV : (A3 || decide ((nl : Int) = 0)) = false → B = false := fun q => by rw [hB, q]; simp
  have aiI : (if k = 1 then A4 else decide (s = ⟨#[]⟩)) = false → B = false := fun q => by rw [hB, q]; simp
  have ajW : ∀ i, i < nl → inB (li i) = false → B = false := fun i hi q => by rw [hB, jl (p := fun i => !inB (li i)) hi (by simp [q])]; simp
  have ajX : ∀ i, i < na → cu (ar i) = false → B = false := fun i hi q => by rw [hB, jl (p := fun i => !cu (ar i)) hi (by simp [q])]; simp
  have ajY : (A2 || decide (n = 0)) = true → (A3 || decide ((nl : Int) = 0)) = true → (if k = 1 then A4 else decide (s = ⟨#[]⟩)) = true → (∀ i, i < nl → inB (li i) = true) → (∀ i, i < na → cu (ar i) = true) → B = true := fun q1 q2 q3 q4 q5 => by
    rw [hB, q1, q2, q3, fO (p := fun i => !inB (li i)) fun i hi => by simp [q4 i hi], fO (p := fun i => !cu (ar i)) fun i hi => by simp [q5 i hi]]; rfl
  clear hB hfin
  simp (disch:=first|exact Wv.D|fail) only [Wv.B, simprocAttr]
  cases d3 : decide (n = 0)
  simp (disch:=first|exact Wv.D|fail) only [Wv.B, simprocAttr, d3]
  refine gq TH rfl Wv.c Wv.c ?_
  cases A2
  (have hBf := fin2 (by rw [d3]; rfl)
   simp (disch:=first|exact Wv.D|fail) only [Wv.B, simprocAttr, d3, hBf])
  simp (disch:=first|exact Wv.D|fail) only [Wv.B, simprocAttr, d3]
  rotate_left
  simp (disch:=first|exact Wv.D|fail) only [Wv.B, simprocAttr, d3]
  all_goals
    cases d4 : decide ((nl : Int) = 0)
    simp (disch:=first|exact Wv.D|fail) only [Wv.B, simprocAttr, d4]
    refine gq TL rfl Wv.c Wv.c ?_
    cases A3
    (have hBf := ajV (by rw [d4]; rfl)
     simp (disch:=first|exact Wv.D|fail) only [Wv.B, simprocAttr, d4, hBf])
    simp (disch:=first|exact Wv.D|fail) only [Wv.B, simprocAttr, d4]
    rotate_left
    simp (disch:=first|exact Wv.D|fail) only [Wv.B, simprocAttr, d4]
  all_goals
    by_cases hk1 : k = 1
    simp (disch:=first|exact Wv.D|fail) only [Wv.B, simprocAttr, decide_eq_true hk1]
    refine ah TN rfl Wv.c Wv.c ?_
    cases A4
    (have hBf := aiI (if_pos hk1)
     simp (disch:=first|exact Wv.D|fail) only [Wv.B, simprocAttr, decide_eq_true hk1, hBf])
    simp (disch:=first|exact Wv.D|fail) only [Wv.B, simprocAttr, decide_eq_true hk1]
    have g3 : (if k = 1 then true else decide (s = ⟨#[]⟩)) = true := if_pos hk1
    rotate_left
    cases d5 : decide (s = ⟨#[]⟩)
    (have hBf := aiI ((if_neg hk1).trans d5)
     simp (disch:=first|exact Wv.D|fail) only [Wv.B, simprocAttr, decide_eq_false hk1, d5, hBf])
    simp (disch:=first|exact Wv.D|fail) only [Wv.B, simprocAttr, decide_eq_false hk1, d5]
    have g3 : (if k = 1 then A4 else decide (s = ⟨#[]⟩)) = true := (if_neg hk1).trans d5
  all_goals
    refine dQ (σ := Nat) (fun i => [(1, .ptr 0 0), (3, .v (.int .i64 i))])
      (fun i => [some (.blk [.v (.int .i64 k), .v (.string s), .v (.int .i64 n), .t nl 1 (tab nl fun i => .v (.int .i64 (li i))), .t na 5 L])])
      (fun i => i ≤ nl ∧ ∀ j, j < i → inB (li j) = true) (fun i => nl - i) 0 ⟨Nat.zero_le _, fun j hj => by omega⟩ rfl Wv.V ?_
    rintro i ⟨hi, hbef⟩
    by_cases hlt : i < nl
    · have e1 : (i : Int) < nl := by omega
      have TJ := yN (li i)
      cases hq : inB (li i) with
      | false =>
        have hBf := ajW i hlt hq
        rw [hq] at TJ
        simp (disch:=first|exact Wv.D|fail) only [Wv.B, simprocAttr, decide_eq_true e1]
        refine ah TJ rfl Wv.c Wv.c ?_
        simp (disch:=first|exact Wv.D|fail) only [Wv.B, simprocAttr, hBf]
      | true =>
        rw [hq] at TJ
        simp (disch:=first|exact Wv.D|fail) only [Wv.B, simprocAttr, decide_eq_true e1]
        refine ah TJ rfl Wv.c Wv.c ?_
        refine Wv.W ?_
        refine aH (i + 1) ⟨by omega, fun j hj => ?_⟩ (by omega) rfl Wv.V2
        by_cases e : j = i
        · subst e; exact hq
        · exact hbef j (by omega)
    obtain rfl : i = nl := by omega
    simp (disch:=first|exact Wv.D|fail) only [Wv.B, simprocAttr, Int.lt_irrefl, decide_false]
    clear hi hlt
    refine dQ (σ := Nat) (fun j => [(1, .ptr 0 0), (4, .v (.int .i64 j))])
      (fun j => [some (.blk [.v (.int .i64 k), .v (.string s), .v (.int .i64 n), .t i 1 (tab i fun i => .v (.int .i64 (li i))), .t na 5 L])])
      (fun j => j ≤ na ∧ ∀ q, q < j → cu (ar q) = true) (fun j => na - j) 0 ⟨Nat.zero_le _, fun j hj => by omega⟩ rfl Wv.V ?_
    rintro j ⟨hj, aiJ⟩
    by_cases hlt : j < na
    · have e1 : (j : Int) < na := by omega
      have T := ih j (hh j hlt)
      have hG := bQ (ar j)
      obtain ⟨r, hd⟩ := hdA j hlt
      obtain ⟨c0, c1, c2, c3, c4, c5, c6, h5⟩ : ∃ (k : Int) (s : ByteArray) (m : Int) (a : Nat) (l : List AV) (b : Nat) (r : List AV), exC (ar j) = [.v (.int .i64 k), .v (.string s), .v (.int .i64 m), .t a 1 l, .t b 5 r] := by cases ar j <;> exact ⟨_, _, _, _, _, _, _, rfl⟩
      simp only [h5, List.cons_append, List.nil_append] at hd
      rw [h5] at T hG
      cases hq : cu (ar j) with
      | false =>
        have hBf := ajX j hlt hq
        rw [hq] at T
        simp (disch:=first|exact Wv.D|fail) only [Wv.B, simprocAttr, decide_eq_true e1, hd]
        refine ah T rfl (dW hG) Wv.c ?_
        simp (disch:=first|exact Wv.D|fail) only [Wv.B, simprocAttr, hBf]
      | true =>
        rw [hq] at T
        simp (disch:=first|exact Wv.D|fail) only [Wv.B, simprocAttr, decide_eq_true e1, hd]
        refine ah T rfl (dW hG) Wv.c ?_
        refine Wv.W ?_
        refine aH (j + 1) ⟨by omega, fun q hq2 => ?_⟩ (by omega) rfl Wv.V2
        by_cases e : q = j
        · subst e; exact hq
        · exact aiJ q (by omega)
    · obtain rfl : j = na := by omega
      have hBt := ajY (by first | rfl | (rw [d3]; first | rfl | exact Bool.or_true _)) (by first | rfl | (rw [d4]; first | rfl | exact Bool.or_true _)) g3 hbef aiJ
      simp (disch:=first|exact Wv.D|fail) only [Wv.B, simprocAttr, Int.lt_irrefl, decide_false, hBt]
end
section
open Go.RowKit Wv
theorem ML (y:Ex): ∃ (k:Int) (s:ByteArray) (m:Int) (a:Nat) (l:List AV) (b:Nat) (r:List AV),exC y=[.v (.int .i64 k), .v (.string s), .v (.int .i64 m), .t a 1 l, .t b 5 r]:=by cases y<;>exact ⟨_,_,_,_,_,_,_,rfl⟩
theorem aaL (c:Ci) {i:Nat} (hi:i<c.nl): ∃ r,List.drop (i*6) c.lets= .v (.string (c.ln i))::(exC (c.le i)++r):=by
 obtain ⟨r,h⟩:=bP (f:=fun i=>iY (c.ln i) (c.le i)) (fun i=>iG _ _) hi
 exact ⟨r,h⟩
theorem WJ {c:Ci} (h: ∀ j,j<c.nl→decide (40<((eP (c.le j):Nat):Int))=false∧kT (c.le j)=false):jo c=decide (((c.sum c.nl:Nat):Int)≤400):=by
 unfold jo
 by_cases q:((c.sum c.nl:Nat):Int)≤400
 ·rw [decide_eq_true q,fO]
  ·rfl
  ·intro j hj
   have h1:c.sum (j+1)≤c.sum c.nl:=vC 0 (fun i=>aY (c.le i)) hj
   obtain ⟨h2,h3⟩:=h j hj
   show (decide (400<((c.sum (j+1):Nat):Int)) || (decide (40<((eP (c.le j):Nat):Int)) || kT (c.le j)))=false
   rw [h2,h3,decide_eq_false (by omega)];rfl
 ·rw [decide_eq_false q]
  have hn:c.nl≠0:=fun e=>q (by rw [e];show ((0:Nat):Int)≤400;omega)
  rw [jl (i:=c.nl - 1) (by omega)]
  ·rfl
  ·show (decide (400<((c.sum (c.nl - 1+1):Nat):Int)) || _)=true
   rw [show c.nl - 1+1=c.nl by omega,decide_eq_true (by omega)];rfl
theorem WL {c:Ci} {i:Nat} (hi:i<c.nl) (h:(decide (40<((eP (c.le i):Nat):Int)) || kT (c.le i))=true):jo c=false:=by
 unfold jo
 rw [jl hi (show c.big i=true from ?_)]
 ·rfl
 ·show (decide (400<((c.sum (i+1):Nat):Int)) || _)=true
  rw [h,Bool.or_true]
theorem WM (c:Ci) (h:okC c) (hn:c.nl≤1000000) (hcn: ∀ i,i<c.nl→aY (c.le i)≤1000000):TC Tryz.prog 115 [.g (ciC c)] (.v (.bool (jo c))):=by
 have hsm: ∀ i,i≤c.nl→c.sum i≤1000000*i:=fun i=>by
  induction i with
  | zero=>intro _;exact Nat.le_refl 0
  | succ i ih=>
   intro hi
   have:=ih (by omega)
   have:=hcn i (by omega)
   show dB 0 (fun i=>aY (c.le i)) i+aY (c.le i)≤_
   have e:c.sum i=dB 0 (fun i=>aY (c.le i)) i:=rfl
   omega
 have hsb: ∀ i,i≤c.nl→c.sum i≤1000000000000:=fun i hi=>by
  have:=hsm i hi
  have:=Nat.mul_le_mul_left 1000000 (show i≤1000000 by omega)
  omega
 refine Wv.TC.by 41 [0,4,1,9,3,38,2] [] [.tmp 2] Tryz.func115 rfl rfl rfl ?clo ?_
 case clo=>simp only [Wv.BC]
 unfold ciC bn
 refine Wv.W ?_
 refine dQ (σ:=Nat) (fun i=>[(1, .ptr 0 0),(3, .v (.int .i64 (c.sum i:Nat))),(4, .v (.int .i64 i))])
  (fun i=>[some (.blk [.v (.string c.name), .t c.ni 1 (tab c.ni fun i=> .v (.string (c.fi i))), .t c.nl 6 c.lets, .t c.no 1 (tab c.no fun i=> .v (.string (c.fo i)))])])
  (fun i=>i≤c.nl∧ ∀ j,j<i→decide (40<((eP (c.le j):Nat):Int))=false∧kT (c.le j)=false) (fun i=>c.nl - i) 0 ⟨Nat.zero_le _,fun j hj=>by omega⟩ rfl (by simp (disch:=first|exact Wv.D|fail) only [Wv.B,simprocAttr,Ci.sum,dB,Int.natCast_zero]) ?_
 rintro i ⟨hi,hbef⟩
 have hnl:=h.nl
 by_cases hlt:i<c.nl
 ·have e1:(i:Int)<c.nl:=by omega
  have hs1:c.sum (i+1)=c.sum i+aY (c.le i):=rfl
  have hs2:=hsb (i+1) (by omega)
  have hci:=hcn i hlt
  have hdc:=zC (c.le i)
  have T1:=WG (c.le i) (h.le i hlt).1 (h.le i hlt).2
  have T2:=WH (c.le i) (h.le i hlt).1 (h.le i hlt).2
  have T3:=WI (c.le i) (h.le i hlt).1
  have hG:=bQ (c.le i)
  have hbad:=WL (c:=c) hlt
  obtain ⟨r,hd⟩:=aaL c hlt
  obtain ⟨c0,c1,c2,c3,c4,c5,c6,h5⟩:=ML (c.le i)
  simp only [h5,List.cons_append,List.nil_append] at hd
  rw [h5] at T1 T2 T3 hG
  generalize hS1:c.sum (i+1)=S1 at*
  generalize c.sum i=S0 at*
  generalize hY:aY (c.le i)=Y at*
  generalize hZ:eP (c.le i)=Z at*
  simp (disch:=first|exact Wv.D|fail) only [Wv.B,simprocAttr,decide_eq_true e1,hd]
  refine ah T1 rfl (dW hG) Wv.c ?_
  simp (disch:=first|exact Wv.D|fail) only [Wv.B,simprocAttr,hd]
  refine ah T2 rfl (dW hG) Wv.c ?_
  cases d1:decide (40<(Z:Int)) with
  | true=>
   have d1':decide ((Z:Int)>40)=true:=d1
   have hf:=hbad (by rw [d1];rfl)
   simp (disch:=first|exact Wv.D|fail) only [Wv.B,simprocAttr,d1',hf]
  | false=>
   have d1':decide ((Z:Int)>40)=false:=d1
   simp (disch:=first|exact Wv.D|fail) only [Wv.B,simprocAttr,d1',hd]
   refine ah T3 rfl (dW hG) Wv.c ?_
   cases d2:kT (c.le i) with
   | true=>
    have hf:=hbad (by rw [d2,Bool.or_true])
    simp (disch:=first|exact Wv.D|fail) only [Wv.B,simprocAttr,hf]
   | false=>
    refine Wv.W ?_
    refine aH (i+1) ⟨by omega,fun j hj=>?_⟩ (by omega) rfl (by simp (disch:=first|exact Wv.D|fail) only [Wv.B,simprocAttr,hS1,hs1,Int.natCast_add,Int.natCast_one])
    by_cases e:j=i
    ·subst e;exact ⟨by rw [hZ];exact d1,d2⟩
    ·exact hbef j (by omega)
 ·obtain rfl:i=c.nl:=by omega
  have hf:=WJ hbef
  simp (disch:=first|exact Wv.D|fail) only [Wv.B,simprocAttr,Int.lt_irrefl,decide_false,hf]
theorem MN (c:Ci):TC Tryz.prog 113 [.g (ciC c)] (.v (.bool (yY c))):=by
 refine Wv.TC.by 19 [0,1,2] [] [.tmp 2] Tryz.func113 rfl rfl rfl ?clo ?_
 case clo=>simp only [Wv.BC]
 unfold ciC bn
 have hN:yY c=(decide ((c.ni:Int)≤8) && (decide ((c.nl:Int)≤60) && decide ((c.no:Int)≤8))):=rfl
 cases h1:decide ((c.ni:Int)≤8) with
 | false=>rw [h1,Bool.false_and] at hN;simp (disch:=first|exact Wv.D|fail) only [Wv.B,simprocAttr,h1,hN]
 | true=>
 cases h2:decide ((c.nl:Int)≤60) with
 | false=>rw [h1,h2,Bool.false_and,Bool.and_false] at hN;simp (disch:=first|exact Wv.D|fail) only [Wv.B,simprocAttr,h1,h2,hN]
 | true=>rw [h1,h2,Bool.true_and,Bool.true_and] at hN;simp (disch:=first|exact Wv.D|fail) only [Wv.B,simprocAttr,h1,h2,hN]
theorem OV (c:Ci) (h:okC c) (hn:c.nl≤1000000) (hcn: ∀ i,i<c.nl→aY (c.le i)≤1000000):TC Tryz.prog 67 [.g (ciC c)] (.v (.int .i64 (fD c))):=by
 have hcl:=vF c
 have hLc:=jO c
 have T0:=vS c.name h.name
 have T1:=Fe c.ni c.fi h.ni h.fi
 have T2:=Fe c.no c.fo h.no h.fo
 have T3:=MN c
 have T4:=WM c h hn hcn
 have hsc:=jL c.ni c.fi
 have hso:=jL c.no c.fo
 have hN:fD c=if (!nameB c.name || (bg c.ni (fun i=>!nameB (c.fi i)) || (bg c.no (fun i=>!nameB (c.fo i)) || (decide ((c.no:Int)=0) || !yY c))))=true then 2
  else if bg c.nl (fun i=>!nameB (c.ln i) || !cu (c.le i))=true then 2 else if jo c=true then 0 else 3:=rfl
 generalize fD c=R at*
 unfold ciC bn at*
 refine Wv.TC.by 59 [0,1,30,3,35,55,58,2] [] [.tmp 2] Tryz.func67 rfl rfl rfl ?clo ?_
 case clo=>simp only [Wv.BC]
 refine Wv.W ?_
 refine ah T0 rfl Wv.c Wv.c ?_
 cases h1:nameB c.name with
 | false=>rw [h1] at hN;simp only [Bool.not_false,Bool.true_or,if_true] at hN;simp (disch:=first|exact Wv.D|fail) only [Wv.B,simprocAttr,hN]
 | true=>
 refine Wv.W ?_
 refine ah T1 rfl (dW hsc) Wv.c ?_
 cases h2:bg c.ni (fun i=>!nameB (c.fi i)) with
 | true=>rw [h1,h2] at hN;simp only [Bool.not_true,Bool.false_or,Bool.true_or,if_true] at hN;simp (disch:=first|exact Wv.D|fail) only [Wv.B,simprocAttr,hN]
 | false=>
 refine Wv.W ?_
 refine ah T2 rfl (dW hso) Wv.c ?_
 cases h3:bg c.no (fun i=>!nameB (c.fo i)) with
 | true=>rw [h1,h2,h3] at hN;simp only [Bool.not_true,Bool.false_or,Bool.true_or,if_true] at hN;simp (disch:=first|exact Wv.D|fail) only [Wv.B,simprocAttr,hN]
 | false=>
 cases h4:decide ((c.no:Int)=0) with
 | true=>rw [h1,h2,h3,h4] at hN;simp only [Bool.not_true,Bool.false_or,Bool.true_or,if_true] at hN;simp (disch:=first|exact Wv.D|fail) only [Wv.B,simprocAttr,h4,hN]
 | false=>
 simp (disch:=first|exact Wv.D|fail) only [Wv.B,simprocAttr,h4]
 refine ah T3 rfl (dW hcl) Wv.c ?_
 cases h5:yY c with
 | false=>rw [h1,h2,h3,h4,h5] at hN;simp only [Bool.not_true,Bool.not_false,Bool.false_or,Bool.or_true,if_true] at hN;simp (disch:=first|exact Wv.D|fail) only [Wv.B,simprocAttr,hN]
 | true=>
 rw [h1,h2,h3,h4,h5] at hN
 simp only [Bool.not_true,Bool.or_false,Bool.false_eq_true,if_false] at hN
 refine Wv.W ?_
 refine dQ (σ:=Nat) (fun i=>[(1, .ptr 0 0),(3, .v (.int .i64 i))])
  (fun i=>[some (.blk [.v (.string c.name), .t c.ni 1 (tab c.ni fun i=> .v (.string (c.fi i))), .t c.nl 6 c.lets, .t c.no 1 (tab c.no fun i=> .v (.string (c.fo i)))])])
  (fun i=>i≤c.nl∧ ∀ j,j<i→(!nameB (c.ln j) || !cu (c.le j))=false) (fun i=>c.nl - i) 0 ⟨Nat.zero_le _,fun j hj=>by omega⟩ rfl Wv.V ?_
 rintro i ⟨hi,hbef⟩
 have hnl:=h.nl
 by_cases hlt:i<c.nl
 ·have e1:(i:Int)<c.nl:=by omega
  have T5:=vS (c.ln i) (h.ln i hlt)
  have T6:=OU (c.le i) (h.le i hlt).1
  have hG:=bQ (c.le i)
  have hbad:(!nameB (c.ln i) || !cu (c.le i))=true→R=2:=fun q=>by
   rw [hN,jl (p:=fun i=>!nameB (c.ln i) || !cu (c.le i)) hlt q];rfl
  obtain ⟨r,hd⟩:=aaL c hlt
  obtain ⟨c0,c1,c2,c3,c4,c5,c6,h6⟩:=ML (c.le i)
  simp only [h6,List.cons_append,List.nil_append] at hd
  rw [h6] at T6 hG
  simp (disch:=first|exact Wv.D|fail) only [Wv.B,simprocAttr,decide_eq_true e1,hd]
  refine ah T5 rfl Wv.c Wv.c ?_
  cases d1:nameB (c.ln i) with
  | false=>
   have hf:=hbad (by rw [d1];rfl)
   simp (disch:=first|exact Wv.D|fail) only [Wv.B,simprocAttr,hf]
  | true=>
   simp (disch:=first|exact Wv.D|fail) only [Wv.B,simprocAttr,hd]
   refine ah T6 rfl (dW hG) Wv.c ?_
   cases d2:cu (c.le i) with
   | false=>
    have hf:=hbad (by rw [d2];simp)
    simp (disch:=first|exact Wv.D|fail) only [Wv.B,simprocAttr,hf]
   | true=>
    refine Wv.W ?_
    refine aH (i+1) ⟨by omega,fun j hj=>?_⟩ (by omega) rfl Wv.V2
    by_cases e:j=i
    ·subst e;rw [d1,d2];rfl
    ·exact hbef j (by omega)
 ·obtain rfl:i=c.nl:=by omega
  rw [fO hbef] at hN
  simp only [Bool.false_eq_true,if_false] at hN
  simp (disch:=first|exact Wv.D|fail) only [Wv.B,simprocAttr,Int.lt_irrefl,decide_false]
  refine ah T4 rfl (dW hcl) Wv.c ?_
  cases d3:jo c with
  | true=>rw [d3] at hN;simp only [if_true] at hN;simp (disch:=first|exact Wv.D|fail) only [Wv.B,simprocAttr,hN]
  | false=>rw [d3] at hN;simp only [Bool.false_eq_true,if_false] at hN;simp (disch:=first|exact Wv.D|fail) only [Wv.B,simprocAttr,hN]
end
section
open Go.RowKit Wv
def G9:List (Value × AV):=[(.int .i64 2, .fn (.func 164) [.ptr 0 0] []),(.int .i64 3, .fn (.func 165) [.ptr 0 0] []),(.int .i64 7, .fn (.func 166) [.ptr 0 0] []),(.int .i64 8, .fn (.func 167) [.ptr 0 0] []),(.int .i64 10, .fn (.func 168) [.ptr 0 0] []),(.int .i64 14, .fn (.func 169) [.ptr 0 0] []),(.int .i64 11, .fn (.func 170) [.ptr 0 0] []),(.int .i64 13, .fn (.func 171) [.ptr 0 0] []),(.int .i64 12, .fn (.func 172) [.ptr 0 0] [])]
theorem WO {h:Hp} (h0:0<h.length) (hh:loH h.length h):RD Tryz.prog 110 [.ptr 0 0] h (fun r=>r= .tm G9) (fun _=>False):=by
 refine RD.of ?_ (by rintro r rfl;unfold G9;refine .tm fun p hp=>?_;simp only [List.mem_cons,List.not_mem_nil,or_false] at hp;rcases hp with rfl | rfl | rfl | rfl | rfl | rfl | rfl | rfl | rfl<;>exact .fn (by rintro a ha;rw [List.mem_singleton] at ha;subst ha;exact .ptr h0) (by rintro a ha;cases ha)) (fun r q=>q.elim) hh
 refine Wv.HTP.by 23 [0,2] [(1000000,h.length)] [.tmp 2] Tryz.func110 rfl rfl rfl ?base ?_
 case base=>rfl
 have hget: ∀ o:Option Ob,(h++[o])[h.length]? =some o:=fun o=>List.getElem?_concat_length
 have hset: ∀ o o':Option Ob,(h++[o]).set h.length o'=h++[o']:=fun o o'=>by rw [List.set_append_right _ _ (Nat.le_refl _),Nat.sub_self];rfl
 simp (disch:=first|exact Wv.D|fail) only [Wv.B,simprocAttr,hget,hset]
 exact ⟨rfl,by rw [List.take_append_of_le_length (Nat.le_refl _),List.take_length]⟩
def bI:Nms→ByteArray→Option (Bool × Nat)
 | [],_=>none
 | p::r,s=>if s=p.1 then some p.2 else bI r s
theorem vT (s:ByteArray): ∀ ns:Nms,iR (.string s) (nsE ns)=(bI ns s).map shA
 | []=>rfl
 | p::r=>by
  have ih:=vT s r
  show (if keyE (.string s) (.string p.1)=true then some (shA p.2) else iR (.string s) (nsE r))=_
  rw [ih]
  show _=Option.map shA (if s=p.1 then some p.2 else bI r s)
  have:keyE (.string s) (.string p.1)=decide (s=p.1):=GN
  rw [this]
  by_cases e:s=p.1
  ·rw [if_pos (decide_eq_true e),if_pos e];rfl
  ·rw [if_neg (by simp [e]),if_neg e]
def dI (f:Nat→Except Int (Bool × Nat)):Nat→Except Int (Bool × Nat × Nat)
 | 0=> .ok (true,0,0)
 | n+1=>match dI f n with
  | .error e=> .error e
  | .ok (kn,d,u)=>match f n with
   | .error e=> .error e
   | .ok (k',d')=> .ok (kn && k',max d d',if k'=true then u else u+1)
def Fg:Option (Bool × Nat)→Except Int (Bool × Nat)
 | some r=> .ok r
 | none=> .error 230
def He (kn:Bool) (d:Nat):Except Int Nat→Except Int (Bool × Nat)
 | .error e=> .error e
 | .ok m=>if (if kn=true then 0 else d+m)≤8 then .ok (kn,if kn=true then 0 else d+m) else .error 232
def Fh (f:Nat→Except Int Nat):Except Int (Bool × Nat × Nat)→Except Int (Bool × Nat)
 | .error e=> .error e
 | .ok (kn,d,u)=>He kn d (f u)
def shE (ns:Nms) (ru:Ex→Nat→Except Int Nat):Ex→Except Int (Bool × Nat)
 | .nil=> .error 0
 | .mk k s n nl li na ar=>if k=1 then Fg (bI ns s) else Fh (ru (.mk k s n nl li na ar)) (dI (fun i=>shE ns ru (ar i)) na)
def MO:Except Int (Bool × Nat × Nat)→Bool × Nat × Nat
 | .ok r=>r
 | .error _=>(true,0,0)
def aiK:Except Int Nat→Nat
 | .ok _=>0
 | .error _=>1
def afB (f:Nat→Except Int Nat):Except Int (Bool × Nat × Nat)→Nat
 | .ok (_,_,u)=>aiK (f u)
 | .error _=>0
theorem xq        {f : Nat → Except Int (Bool × Nat)} {i : Nat} {e : Int} (h : dI    f i = .error e) : ∀ {n : Nat}, i ≤ n → dI    f n = .error e
  | 0, q => by have : i = 0 := by omega
               subst this; exact h
  | n + 1, q => by
    by_cases hq : i = n + 1
    · subst hq; exact h
    · have := xq        h (n := n) (by omega)
      simp only [dI   , this]
theorem xu {ns:Nms} {ru:Ex→Nat→Except Int Nat} (hn: ∀ s r,bI ns s=some r→r.2≤8) (x:Ex) {r:Bool × Nat} (h:shE ns ru x= .ok r):r.2≤8:=by
 rcases x with _ | ⟨k,s,n,nl,li,na,ar⟩
 ·cases h
 unfold shE at h
 by_cases hk:k=1
 ·rw [if_pos hk] at h
  cases hf:bI ns s with
  | none=>rw [hf] at h;cases h
  | some r'=>rw [hf] at h;simp only [Fg] at h;injection h with h;subst h;exact hn s _ hf
 ·rw [if_neg hk] at h
  cases hf:dI (fun i=>shE ns ru (ar i)) na with
  | error e=>rw [hf] at h;cases h
  | ok q=>
   obtain ⟨kn,d,u⟩:=q
   rw [hf] at h
   simp only [Fh] at h
   cases hr:ru (.mk k s n nl li na ar) u with
   | error e=>rw [hr] at h;cases h
   | ok m=>
    rw [hr] at h
    simp only [He] at h
    by_cases hle:(if kn=true then 0 else d+m)≤8
    ·rw [if_pos hle] at h;injection h with h;subst h;exact hle
    ·rw [if_neg hle] at h;cases h
theorem qB {f:Nat→Except Int (Bool × Nat)} (hf: ∀ i r,f i= .ok r→r.2≤8): ∀ {n:Nat} {r:Bool × Nat × Nat},dI f n= .ok r→r.2.1≤8∧r.2.2≤n
 | 0,r,h=>by injection h with h;subst h;exact ⟨by show 0≤8;omega,Nat.le_refl _⟩
 | n+1,r,h=>by
  simp only [dI] at h
  split at h
  ·cases h
  ·next kn d u h1=>
   have ih:=qB hf h1
   split at h
   ·cases h
   ·next k' d' h2=>
    have:=hf _ _ h2
    injection h with h;subst h
    simp only at this ih ⊢
    refine ⟨by omega,?_⟩
    split<;>omega
def aaM (k:Int):Option FuncId:=match k with | 2=>some 164 | 3=>some 165 | 7=>some 166 | 8=>some 167 | 10=>some 168 | 14=>some 169 | 11=>some 170 | 13=>some 171 | 12=>some 172 | _=>none
def zH (x:Par) (t:Int) (ns:Nms) (ru:Ex→Nat→Except Int Nat) (ks:Ex→Prop):Prop:=
 ∀ e unk,ks e→okE e→cu e=true→unk≤2→(∀ m,ru e unk= .ok m→m≤4294967296)∧match aaM e.kind with | some f=>iU x t ns f e unk (ru e unk) | none=>ru e unk= .ok 0
def xw (ks:Ex→Prop):Ex→Prop
 | .nil=>False
 | .mk k s n nl li na ar=>ks (.mk k s n nl li na ar)∧ ∀ i,i<na→xw ks (ar i)
theorem aaN {a b:AV} (h1:Clo a) (h2:Clo b): ∀ x,x∈[a,b]→Clo x:=by
 intro x hx
 rcases List.mem_cons.1 hx with rfl | hx
 ·exact h1
 ·rw [List.mem_singleton] at hx;subst hx;exact h2
theorem CJ:keysB (.int .i64) G9=true:=rfl
theorem OW (k:Int) (h1:1≤k) (h2:k≤15):iR (.int .i64 k) G9=(aaM k).map fun f=> .fn (.func f) [.ptr 0 0] []:=by
 have:k=1∨k=2∨k=3∨k=4∨k=5∨k=6∨k=7∨k=8∨k=9∨k=10∨k=11∨k=12∨k=13∨k=14∨k=15:=by omega
 rcases this with rfl | rfl | rfl | rfl | rfl | rfl | rfl | rfl | rfl | rfl | rfl | rfl | rfl | rfl | rfl<;>rfl
theorem MP (l:List Nat): ∀ a,a∈l.map (fun (c:Nat)=>AV.v (.int .u32 c))→Clo a:=by
 intro a ha
 obtain ⟨c,_,rfl⟩:=List.mem_map.1 ha
 exact .v _
theorem CO {m:Nat} (ns:Nms):(∀ x:Value × AV,x∈nsE ns→lo m x.2)=True:=eq_true fun a ha=> .clo (rD ns _ (List.mem_map_of_mem ha))
theorem vU (l:List Nat):(∀ a,a∈l.map (fun (c:Nat)=>AV.v (.int .u32 c))→Clo a)=True:=eq_true (MP l)
theorem yO: ∀ ns:Nms,keysB .str (nsE ns)=true
 | []=>rfl
 | p::r=>yO r
def ShC (x:Par) (t:Int) (ns:Nms) (e:Ex) (o:Except Int (Bool × Nat)):Prop:=
 RD Tryz.prog 65 [.ptr 0 0, .g (exC e)] (hT x t ns) (fun r=> ∃ s,o= .ok s∧r=shA s) (fun r=> ∃ e,o= .error e∧r=kN e)
theorem oM {k:Int} {s:ByteArray} {n:Int} {nl:Nat} {li:Nat→Int} {na:Nat} {ar:Nat→Ex} (h:cu (.mk k s n nl li na ar)=true):(1≤k∧k≤15)∧na≤2∧ ∀ i,i<na→cu (ar i)=true:=by
 unfold cu at h
 simp only [Bool.and_eq_true,Bool.not_eq_true',decide_eq_true_eq,decide_eq_false_iff_not] at h
 obtain ⟨h1,h2,_,h4,_,_,_,_,h8⟩:=h
 have hk: ∀ m:Nat,argN m≤2:=fun m=>by unfold argN;split<;>decide
 have:=hk k.toNat
 refine ⟨⟨by omega,by omega⟩,by omega,fun i hi=>?_⟩
 unfold bg at h8
 have h9:=List.any_eq_false.1 h8 i (List.mem_range.2 hi)
 simpa using h9
theorem adh (x:Par) (t:Int) (ns:Nms) (ru:Ex→Nat→Except Int Nat) (ks:Ex→Prop) (hns: ∀ s r,bI ns s=some r→r.2≤8) (hR:zH x t ns ru ks) (e:Ex) (ho:okE e) (hf:cu e=true) (hk:xw ks e):ShC x t ns e (shE ns ru e):=by
 induction e with
 | nil=>exact ho.elim
 | mk k s n nl li na ar ih=>
 obtain ⟨hs,hnl,hna,hh⟩:=ho
 have ⟨⟨hk1,hk2⟩,ajZ,hfa⟩:=oM hf
 refine RD.of ?_ (by rintro r ⟨s,_,rfl⟩;exact .clo (zG s)) (by rintro r ⟨e,_,rfl⟩;exact .clo (gU e)) (MI x t ns)
 rw [dA]
 unfold hT tyC
 have hS:shE ns ru (.mk k s n nl li na ar)=if k=1 then Fg (bI ns s) else Fh (ru (.mk k s n nl li na ar)) (dI (fun i=>shE ns ru (ar i)) na):=rfl
 obtain ⟨c,hc⟩: ∃ c,c=afB (ru (.mk k s n nl li na ar)) (dI (fun i=>shE ns ru (ar i)) na):=⟨_,rfl⟩
 refine Wv.HTP.by 76 [1,3,15,0,6,5,4,33,32,34,31,10,7,11,48,8,12,59,69] [(2,11),(16,4),(18,6),(1000000,2),(4000018,c)] [.cell 4 42] Tryz.func65 rfl rfl rfl ?base ?_
 case base=>rfl
 by_cases hk1:k=1
 ·rw [if_pos hk1] at hS
  cases hq:bI ns s with
  | none=>
   rw [hq] at hS
   simp only [Fg] at hS
   have hlm:=vT s ns
   rw [hq] at hlm
   simp only [Option.map_none] at hlm
   simp (disch:=first|exact Wv.D|fail) only [Wv.B,simprocAttr,decide_eq_true hk1,yO,hlm]
   refine bf (fst:=[]) (cap:=[]) (aZ false 230) (by rintro av h' ⟨hb,_⟩;cases hb) ?_
   rintro av h' ⟨_,rfl,rfl⟩
   simp (disch:=first|exact Wv.D|fail) only [Wv.B,simprocAttr,bJ,hS]
   exact ⟨230,rfl,rfl⟩
  | some r=>
   rw [hq] at hS
   simp only [Fg] at hS
   have hlm:=vT s ns
   rw [hq] at hlm
   simp only [Option.map_some,shA] at hlm
   simp (disch:=first|exact Wv.D|fail) only [Wv.B,simprocAttr,decide_eq_true hk1,yO,hlm]
   refine bf (fst:=[]) (cap:=[]) (aZ true 230) ?_ (by rintro av h' ⟨hb,_⟩;cases hb)
   rintro av h' ⟨_,rfl,rfl⟩
   simp (disch:=first|exact Wv.D|fail) only [Wv.B,simprocAttr,hS]
   exact ⟨r,rfl,rfl⟩
 ·rw [if_neg hk1] at hS
  simp (disch:=first|exact Wv.D|fail) only [Wv.B,simprocAttr,decide_eq_false hk1]
  generalize hfE:(fun i=>shE ns ru (ar i))=fE at hS hc
  have hLc:=dG (n:=na) (f:=fun i=>exC (ar i)) fun i _=>eF (ar i)
  have hdr: ∀ i,i<na→ ∃ r,List.drop (i*5) (bT na fun i=>exC (ar i))=exC (ar i)++r:=fun i hi=>bP (f:=fun i=>exC (ar i)) (fun i=>iC (ar i)) hi
  generalize hL:(bT na fun i=>exC (ar i))=L at hLc hdr ⊢
  refine dQ (σ:=Nat) (fun i=>[(0, .ptr 0 0),(3, .ptr 2 0),(4, .ptr 3 0),(7, .ptr 4 0),(8, .v (.int .i64 (MO (dI fE i)).2.2)),(31, .t na 5 L),(32, .v (.int .i64 na)),(33, .v (.int .i64 i))])
   (fun i=>[some (.blk [.v (.int .i64 x.n), .v (.int .u32 x.p), .v (.int .i64 x.r), .t x.ch.length 1 (x.ch.map fun (c:Nat)=> .v (.int .u32 c)), .v (.int .u32 x.sp), .v (.int .i64 x.wt), .v (.int .u32 x.er), .v (.int .i64 t), .mp 1]),some (.map (nsE ns)),
    some (.blk [.v (.int .i64 k), .v (.string s), .v (.int .i64 n), .t nl 1 (tab nl fun i=> .v (.int .i64 (li i))), .t na 5 L]),some (.blk [.v (.bool false), .v (.int .i64 0)]),some (.blk [.v (.bool (MO (dI fE i)).1), .v (.int .i64 (MO (dI fE i)).2.1)])])
   (fun i=>i≤na∧dI fE i= .ok (MO (dI fE i))) (fun i=>na - i) 0 ⟨Nat.zero_le _,rfl⟩ (by simp (disch:=first|exact Wv.D|fail) only [Wv.B,simprocAttr,dI,MO]) (by simp (disch:=first|exact Wv.D|fail) only [Wv.B,simprocAttr,dI,MO]) ?_
  rintro i ⟨hi,hfo⟩
  obtain ⟨r,hr⟩: ∃ r,MO (dI fE i)=r:=⟨_,rfl⟩
  rw [hr] at hfo
  by_cases hlt:i<na
  ·have e1:(i:Int)<na:=by omega
   obtain ⟨r2,hd⟩:=hdr i hlt
   have T:=ih i (hh i hlt) (hfa i hlt) (hk.2 i hlt)
   have hfi:fE i=shE ns ru (ar i):=by rw [←hfE]
   obtain ⟨kn,d,u⟩:=r
   have hle: ∀ r,shE ns ru (ar i)= .ok r→r.2≤8:=fun r h=>xu hns (ar i) h
   have hbd:=qB (f:=fE) (fun j r h=>by
    rw [←hfE] at h
    exact xu hns (ar j) h) hfo
   simp only at hbd
   have hG:=bQ (ar i)
   have hE:=RD.hT (x:=x) (t:=t) (ns:=ns) (args:=[.g (exC (ar i))]) T
   generalize shE ns ru (ar i)=O at hE hfi hle
   clear T
   have hoy:=hh i hlt
   generalize ar i=y at hd hE hG hoy
   obtain ⟨k',s',n',nl',li',na',ar',rfl⟩:=nN hoy
   rw [dA] at hd hE hG
   simp only [List.cons_append,List.nil_append] at hd
   unfold tyC at hE
   simp (disch:=first|exact Wv.D|fail) only [Wv.B,simprocAttr,hd,hr]
   refine bf (fst:=[]) (cap:=[]) (hE _ (dW hG) (by rintro r ⟨s,_,rfl⟩;exact zG s) (by rintro r ⟨e,_,rfl⟩;exact gU e)) ?_ ?_
   ·rintro av h' ⟨⟨⟨k2,d2⟩,hO,rfl⟩,rfl⟩
    subst hO
    have hnx:dI fE (i+1)= .ok (kn && k2,max d d2,if k2=true then u else u+1):=by simp only [dI,hfo,hfi]
    have hng:MO (dI fE (i+1))=(kn && k2,max d d2,if k2=true then u else u+1):=by rw [hnx];rfl
    have hd2:=hle _ rfl
    simp only at hd2
    have hmx:(if (d2:Int)>(d:Int) then (d2:Int) else (d:Int))=((max d d2:Nat):Int):=by split<;>omega
    unfold shA
    cases k2 with
    | true=>
     simp (disch:=first|exact Wv.D|fail) only [Wv.B,simprocAttr,hmx]
     refine Wv.jd (i+1) 5 (by first | decide | exact Nat.le_of_ble_eq_true rfl) (⟨by omega,by rw [hnx];rfl⟩) (by omega) (by simp (disch:=first|exact Wv.D|fail) only [Wv.B,simprocAttr,dH,hng]) (by simp (disch:=first|exact Wv.D|fail) only [Wv.B,simprocAttr,Int.natCast_add,Int.natCast_one,hng]) (by simp only [Wv.BL, ↓reduceIte,Nat.reduceLeDiff,eq_true hLc,vU,CO]<;>omega) (by simp only [Wv.BL, ↓reduceIte,Nat.reduceLeDiff,eq_true hLc,vU,CO]<;>omega)
    | false=>
     simp (disch:=first|exact Wv.D|fail) only [Wv.B,simprocAttr,hmx]
     refine Wv.jd (i+1) 5 (by first | decide | exact Nat.le_of_ble_eq_true rfl) (⟨by omega,by rw [hnx];rfl⟩) (by omega) (by simp (disch:=first|exact Wv.D|fail) only [Wv.B,simprocAttr,dH,hng]) (by simp (disch:=first|exact Wv.D|fail) only [Wv.B,simprocAttr,Int.natCast_add,Int.natCast_one,hng]) (by simp only [Wv.BL, ↓reduceIte,Nat.reduceLeDiff,eq_true hLc,vU,CO]<;>omega) (by simp only [Wv.BL, ↓reduceIte,Nat.reduceLeDiff,eq_true hLc,vU,CO]<;>omega)
   ·rintro av h' ⟨⟨e,hO,rfl⟩,rfl⟩
    subst hO
    have hnx:dI fE (i+1)= .error e:=by simp only [dI,hfo,hfi]
    rw [xq hnx (n:=na) (by omega)] at hS
    simp only [Fh] at hS
    simp (disch:=first|exact Wv.D|fail) only [Wv.B,simprocAttr,bJ,hS]
    exact ⟨e,rfl,rfl⟩
  ·have hin:i=na:=by omega
   subst hin
   obtain ⟨kn,d,u⟩:=r
   have hbd:=qB (f:=fE) (fun j r h=>by
    rw [←hfE] at h
    exact xu hns (ar j) h) hfo
   simp only at hbd
   rw [hfo] at hS hc
   simp only [Fh] at hS
   simp only [afB] at hc
   have hRu:=hR (.mk k s n nl li i ar) u hk.1 ⟨hs,hnl,hna,hh⟩ hf (by omega)
   generalize ru (.mk k s n nl li i ar) u=O at hS hRu hc
   have hlr:=OW k (by omega) hk2
   have hG:=bQ (.mk k s n nl li i ar)
   rw [dA] at hG
   obtain ⟨hm,hRf⟩:=hRu
   unfold iU Ex.kind at hRf
   rw [dA] at hRf
   rw [hL] at hG hRf
   simp (disch:=first|exact Wv.D|fail) only [Wv.B,simprocAttr,hr]
   refine eu (fst:=[]) (cap:=[]) (WO (Nat.zero_lt_succ _) (by simp only [Wv.BL, ↓reduceIte,Nat.reduceLeDiff,CO,vU,eq_true hLc,List.length_cons,List.length_nil,Nat.reduceAdd,Nat.reduceLT])) ?_ (by rintro av h' ⟨h,_⟩;exact h.elim)
   cases hq:aaM k with
   | none=>
    rw [hq] at hlr hRf
    simp only at hRf
    simp only [Option.map_none] at hlr
    subst hRf
    cases kn with
    | true=>
     have hS1:He true d (.ok 0)= .ok (true,0):=rfl
     rw [hS1] at hS
     simp (disch:=first|exact Wv.D|fail) only [Wv.B,simprocAttr,CJ,hlr]
     refine bf (fst:=[]) (cap:=[]) (aZ true 232) ?_ (by rintro av h' ⟨hb,_⟩;cases hb)
     rintro av h' ⟨_,rfl,rfl⟩
     simp (disch:=first|exact Wv.D|fail) only [Wv.B,simprocAttr,hS]
     exact ⟨_,rfl,rfl⟩
    | false=>
     have hS1:He false d (.ok 0)= .ok (false,d):=if_pos (by show d+0≤8;omega)
     rw [hS1] at hS
     have hd8:(d:Int)≤8:=by omega
     simp (disch:=first|exact Wv.D|fail) only [Wv.B,simprocAttr,CJ,hlr,decide_eq_true hd8]
     refine bf (fst:=[]) (cap:=[]) (aZ true 232) ?_ (by rintro av h' ⟨hb,_⟩;cases hb)
     rintro av h' ⟨_,rfl,rfl⟩
     simp (disch:=first|exact Wv.D|fail) only [Wv.B,simprocAttr,hS]
     exact ⟨_,rfl,rfl⟩
   | some f=>
    rw [hq] at hlr hRf
    simp only at hRf
    simp only [Option.map_some] at hlr
    have hE:=RD.hT (x:=x) (t:=t) (ns:=ns) (args:=[.g _, .v (.int .i64 u)]) hRf
    unfold tyC at hE
    simp (disch:=first|exact Wv.D|fail) only [Wv.B,simprocAttr,CJ,hlr]
    cases O with
    | error e=>
     have hc1:c=1:=hc
     refine eu (res:= .t 1 1 []) (fst:=[.ptr 0 0]) (cap:=[]) ((hE _ (aaN hG Wv.c) (by rintro r ⟨s,_,rfl⟩;exact .v _) (by rintro r ⟨e,_,rfl⟩;exact gU e)).mono (by rintro r h' ⟨⟨_,q,_⟩,_⟩;cases q) (fun _ _ q=>q)) ?_ ?_
     ·simp (disch:=first|exact Wv.D|fail) only [Wv.B,simprocAttr,hc1]
      exact ⟨5,_,_,rfl,rfl,rfl,rfl,rfl⟩
     ·rintro av h' ⟨⟨e',q,rfl⟩,rfl⟩
      injection q with q
      subst q
      have hS2:He kn d (.error e)= .error e:=rfl
      rw [hS2] at hS
      simp (disch:=first|exact Wv.D|fail) only [Wv.B,simprocAttr,bJ,hS]
      exact ⟨_,rfl,rfl⟩
    | ok m=>
     have hm':=hm m rfl
     have hc1:c=0:=hc
     refine eu (res:= .v (.int .i64 m)) (fst:=[.ptr 0 0]) (cap:=[]) ((hE _ (aaN hG Wv.c) (by rintro r ⟨s,_,rfl⟩;exact .v _) (by rintro r ⟨e,_,rfl⟩;exact gU e)).mono (by rintro r h' ⟨⟨_,q,rfl⟩,rfl⟩;injection q with q;subst q;exact ⟨rfl,rfl⟩) (fun _ _ q=>q)) ?_ (by rintro av h' ⟨⟨_,q,_⟩,_⟩;cases q)
     have hS2:He kn d (.ok m)=if (if kn=true then 0 else d+m)≤8 then .ok (kn,if kn=true then 0 else d+m) else .error 232:=rfl
     rw [hS2] at hS
     cases kn with
     | true=>
      simp only [if_true,Nat.zero_le] at hS
      simp (disch:=first|exact Wv.D|fail) only [Wv.B,simprocAttr,hc1]
      refine bf (fst:=[]) (cap:=[]) (aZ true 232) ?_ (by rintro av h' ⟨hb,_⟩;cases hb)
      rintro av h' ⟨_,rfl,rfl⟩
      simp (disch:=first|exact Wv.D|fail) only [Wv.B,simprocAttr,hS]
      exact ⟨_,rfl,rfl⟩
     | false=>
      simp only [Bool.false_eq_true,if_false] at hS
      by_cases h8:d+m≤8
      ·rw [if_pos h8] at hS
       have hd8:(d:Int)+m≤8:=by omega
       simp (disch:=first|exact Wv.D|fail) only [Wv.B,simprocAttr,hc1,decide_eq_true hd8]
       refine bf (fst:=[]) (cap:=[]) (aZ true 232) ?_ (by rintro av h' ⟨hb,_⟩;cases hb)
       rintro av h' ⟨_,rfl,rfl⟩
       simp (disch:=first|exact Wv.D|fail) only [Wv.B,simprocAttr,hS]
       exact ⟨_,rfl,by unfold shA;rw [Int.natCast_add]⟩
      ·rw [if_neg h8] at hS
       have hd8: ¬ (d:Int)+m≤8:=by omega
       simp (disch:=first|exact Wv.D|fail) only [Wv.B,simprocAttr,hc1,decide_eq_false hd8]
       refine bf (fst:=[]) (cap:=[]) (aZ false 232) (by rintro av h' ⟨hb,_⟩;cases hb) ?_
       rintro av h' ⟨_,rfl,rfl⟩
       simp (disch:=first|exact Wv.D|fail) only [Wv.B,simprocAttr,bJ,hS]
       exact ⟨_,rfl,rfl⟩
end
section
open Go.RowKit Wv
def jW (t:Int) (nl:Nat) (li:Nat→Int) (least most:Int):Bool:=decide (least≤(nl:Int)) && (decide ((nl:Int)≤most) && !bg nl fun i=>!lq t (li i))
theorem MQ (x:Par) (t:Int) (ns:Nms) (n:Int) (hn:inB n=true) (ht:1≤t) (ht':t≤4611686018427387904):
  HT Tryz.prog 239 [.v (.int .i64 n), .ptr 2 0] (hT x t ns++[some (.blk [.ptr 0 0])]) (fun r h'=>r= .v (.bool (!lq t n))∧h'=hT x t ns++[some (.blk [.ptr 0 0])]):=by
 have hE:=RD.hT (UR x t ns n hn ht ht')
 generalize lq t n=b at*
 unfold hT tyC at*
 simp only [List.cons_append,List.nil_append] at*
 refine Wv.HT.by 8 [1,0,3] [(1000000,3)] [.tmp 3] Tryz.func239 rfl rfl rfl ?base ?_
 case base=>rfl
 refine Wv.W ?_
 refine bf (fst:=[]) (cap:=[]) (hE _ Wv.c (by rintro r rfl;simp only [Wv.BC]) (by rintro r h;exact h.elim)) ?_ (by rintro av h' ⟨h,_⟩;exact h.elim)
 rintro av h' ⟨rfl,rfl⟩
 exact Wv.V
theorem CP (x:Par) (t:Int) (ns:Nms) (nl:Nat) (li:Nat→Int) (least most:Int) (hn:nl≤140737488351232) (hin: ∀ i,i<nl→inB (li i)=true) (ht:1≤t) (ht':t≤4611686018427387904):
  RD Tryz.prog 213 [.ptr 0 0, .t nl 1 (tab nl fun i=> .v (.int .i64 (li i))), .v (.int .i64 least), .v (.int .i64 most)] (hT x t ns) (fun r=>jW t nl li least most=true∧r= .tup []) (fun r=>jW t nl li least most=false∧r=kN 233):=by
 refine RD.of ?_ (fun r q=>q.2▸ .clo Wv.c) (fun r q=>q.2▸ .clo (gU 233)) (MI x t ns)
 have hC:=wR (h:=hT x t ns++[(some (Ob.blk [AV.ptr 0 0]):Option Ob)]) nl li (fun i=>!lq t (li i)) 239 [] [.ptr 2 0] hn (fun i hi=>MQ x t ns (li i) (hin i hi) ht ht')
 have hL:jW t nl li least most=(decide (least≤(nl:Int)) && (decide ((nl:Int)≤most) && !bg nl fun i=>!lq t (li i))):=rfl
 generalize (bg nl fun i=>!lq t (li i))=b at*
 generalize jW t nl li least most=B at*
 unfold hT tyC at*
 simp only [List.cons_append,List.nil_append] at*
 refine Wv.HTP.by 27 [0,4,1,2,3,8] [(1000000,2)] [] Tryz.func213 rfl rfl rfl ?base ?_
 case base=>rfl
 cases h1:decide (least≤(nl:Int))
 ·rw [h1,Bool.false_and] at hL
  simp (disch:=first|exact Wv.D|fail) only [Wv.B,simprocAttr,h1]
  refine bf (fst:=[]) (cap:=[]) (aZ _ 233) (by rintro av h' ⟨hb,_⟩;cases hb) ?_
  rintro av h' ⟨_,rfl,rfl⟩
  simp (disch:=first|exact Wv.D|fail) only [Wv.B,simprocAttr,bJ]
  exact hL
 cases h2:decide ((nl:Int)≤most)
 ·rw [h1,h2,Bool.false_and,Bool.and_false] at hL
  simp (disch:=first|exact Wv.D|fail) only [Wv.B,simprocAttr,h1,h2]
  refine bf (fst:=[]) (cap:=[]) (aZ _ 233) (by rintro av h' ⟨hb,_⟩;cases hb) ?_
  rintro av h' ⟨_,rfl,rfl⟩
  simp (disch:=first|exact Wv.D|fail) only [Wv.B,simprocAttr,bJ]
  exact hL
 rw [h1,h2,Bool.true_and,Bool.true_and] at hL
 simp (disch:=first|exact Wv.D|fail) only [Wv.B,simprocAttr,h1,h2]
 refine dF (fst:=[]) (cap:=[]) hC ?_
 rintro av h' ⟨rfl,rfl⟩
 refine Wv.W ?_
 refine bf (fst:=[]) (cap:=[]) (aZ _ 233) ?_ ?_
 ·rintro av h' ⟨hb,rfl,rfl⟩
  refine Wv.W ?_
  exact hL.trans hb
 ·rintro av h' ⟨hb,rfl,rfl⟩
  simp (disch:=first|exact Wv.D|fail) only [Wv.B,simprocAttr,bJ]
  exact hL.trans hb
theorem uo {h:Hp} (e:Int):HTP Tryz.prog 66 [.v (.bool true), .v (.int .i64 e)] h (fun r h'=>r= .tup []∧h'=h) (fun _ _=>False):=
 (aZ true e).mono (fun _ _ q=>q.2) (fun _ _ q=>by cases q.1)
theorem rE {h:Hp} (e:Int) (res:AV):HTP Tryz.prog 66 [.v (.bool false), .v (.int .i64 e)] h (fun r h'=>r=res∧h'=h) (fun r h'=>r=kN e∧h'=h):=
 (aZ false e).mono (fun _ _ q=>by cases q.1) (fun _ _ q=>q.2)
theorem yP (x:Par) (t:Int) (ns:Nms) (nl:Nat) (li:Nat→Int) (least most:Int) (hn:nl≤140737488351232) (hin: ∀ i,i<nl→inB (li i)=true) (ht:1≤t) (ht':t≤4611686018427387904) (hb:jW t nl li least most=true) (r:Hp):
  HTP Tryz.prog 213 [.ptr 0 0, .t nl 1 (tab nl fun i=> .v (.int .i64 (li i))), .v (.int .i64 least), .v (.int .i64 most)] (some (.blk (tyC x t))::some (.map (nsE ns))::r) (fun q h'=>q= .tup []∧h'=some (.blk (tyC x t))::some (.map (nsE ns))::r) (fun _ _=>False):=
 (RD.hT (CP x t ns nl li least most hn hin ht ht') r Wv.c (by rintro r ⟨_,rfl⟩;simp only [Wv.BC]) (by rintro r ⟨_,rfl⟩;exact gU 233)).mono (fun _ _ q=>⟨q.1.2,q.2⟩) (fun _ _ q=>by rw [hb] at q;cases q.1.1)
theorem CQ (x:Par) (t:Int) (ns:Nms) (nl:Nat) (li:Nat→Int) (least most:Int) (hn:nl≤140737488351232) (hin: ∀ i,i<nl→inB (li i)=true) (ht:1≤t) (ht':t≤4611686018427387904) (hb:jW t nl li least most=false) (res:AV) (r:Hp):
  HTP Tryz.prog 213 [.ptr 0 0, .t nl 1 (tab nl fun i=> .v (.int .i64 (li i))), .v (.int .i64 least), .v (.int .i64 most)] (some (.blk (tyC x t))::some (.map (nsE ns))::r) (fun q h'=>q=res∧h'=some (.blk (tyC x t))::some (.map (nsE ns))::r) (fun q h'=>q=kN 233∧h'=some (.blk (tyC x t))::some (.map (nsE ns))::r):=
 (RD.hT (CP x t ns nl li least most hn hin ht ht') r Wv.c (by rintro r ⟨_,rfl⟩;simp only [Wv.BC]) (by rintro r ⟨_,rfl⟩;exact gU 233)).mono (fun _ _ q=>by rw [hb] at q;cases q.1.1) (fun _ _ q=>⟨q.1.2,q.2⟩)
theorem Hf (x:Par) (t:Int) (ns:Nms) (k:Int) (s:ByteArray) (n:Int) (nl:Nat) (li:Nat→Int) (na:Nat) (ar:Nat→Ex) (unk:Nat) (hn:nl≤140737488351232) (hin: ∀ i,i<nl→inB (li i)=true) (ht:1≤t) (ht':t≤4611686018427387904):
  iU x t ns 165 (.mk k s n nl li na ar) unk (if jW t nl li 0 x.n=true then .ok 0 else .error 233):=by
 refine iU.of ?_
 have hY:=yP x t ns nl li 0 x.n hn hin ht ht'
 have hZ:=CQ x t ns nl li 0 x.n hn hin ht ht'
 generalize jW t nl li 0 x.n=b at*
 rw [dA]
 have hM:=dG (n:=na) (f:=fun i=>exC (ar i)) fun i _=>eF (ar i)
 generalize bT na (fun i=>exC (ar i))=M at*
 unfold hT tyC at*
 obtain ⟨c,hc⟩: ∃ c:Nat,c=if b=true then 0 else 1:=⟨_,rfl⟩
 refine Wv.HTP.by 16 [1,0,4,6] [(1,9),(1000000,2),(4000001,c)] [.tmp 6] Tryz.func165 rfl rfl rfl ?base ?_
 case base=>rfl
 cases b with
 | false=>
  have hc1:c=1:=hc
  refine Wv.W ?_
  refine eu (fst:=[]) (cap:=[]) (hZ rfl (.t 1 1 []) _) ?_ ?_
  ·simp (disch:=first|exact Wv.D|fail) only [Wv.B,simprocAttr,hc1]
   exact ⟨8,_,_,rfl,rfl,rfl,rfl,rfl⟩
  ·rintro av h' ⟨rfl,rfl⟩
   simp (disch:=first|exact Wv.D|fail) only [Wv.B,simprocAttr,bJ]
   exact ⟨233,rfl,rfl⟩
 | true=>
  have hc1:c=0:=hc
  refine Wv.W ?_
  refine eu (fst:=[]) (cap:=[]) (hY rfl _) ?_ (fun _ _ q=>q.elim)
  simp (disch:=first|exact Wv.D|fail) only [Wv.B,simprocAttr,hc1]
  exact ⟨0,rfl,rfl⟩
def WQ (n:Int):Bool:=!decide (n=0) && !decide (n=1)
theorem WR (n:Int):TC Tryz.prog 214 [.v (.int .i64 n)] (.v (.bool (WQ n))):=by
 refine Wv.TC.by 9 [0,2] [] [.tmp 2] Tryz.func214 rfl rfl rfl ?clo ?_
 case clo=>simp only [Wv.BC]
 unfold WQ
 cases h1:decide (n=0)
 ·simp (disch:=first|exact Wv.D|fail) only [Wv.B,simprocAttr,h1]
 ·simp (disch:=first|exact Wv.D|fail) only [Wv.B,simprocAttr,h1]
def adi (x:Par) (n:Int):Bool:=decide (0≤n) && decide (n<x.n / 2)
theorem WS (x : Par) (t : Int) (ns : Nms) (k : Int) (s : ByteArray) (n : Int) (nl : Nat) (li : Nat → Int) (na : Nat) (ar : Nat → Ex) (unk : Nat) (hN : 0 ≤ x.n) (hN' : x.n ≤ 4611686018427387904) :
    iU x t ns 167 (.mk k s n nl li na ar) unk (if adi x n = true then .ok 0 else .error 233) := by
  refine iU.of ?_
  have hb : adi x n = (decide (0 ≤ n) && decide (n < x.n / 2)) := rfl
  generalize adi x n = b at *
  rw [dA]
  have hM := dG (n := na) (f := fun i => exC (ar i)) fun i _ => eF (ar i)
  generalize bT na (fun i => exC (ar i)) = M at *
  unfold hT tyC at *
  obtain ⟨c, hc⟩ : ∃ c : Nat, c = if b = true then 0 else 1 := ⟨_, rfl⟩
  refine Wv.HTP.by 22 [1, 4, 0, 6] [(1, 15), (1000000, 2), (4000001, c)] [.tmp 6] Tryz.func167 rfl rfl rfl ?base ?_
  case base => rfl
  have hq : x.n.tdiv 2 = x.n / 2 := Int.tdiv_eq_ediv_of_nonneg hN
  cases h1 : decide (0 ≤ n) <;> cases h2 : decide (n < x.n / 2)
  all_goals
    rw [h1, h2] at hb
    simp (disch:=first|exact Wv.D|fail) only [Wv.B, simprocAttr, hq, h1, h2]
    first
    | (have hbt : b = true := hb
       subst hbt
       have hc1 : c = 0 := hc
       refine eu (fst := []) (cap := []) (uo 233) ?_ (fun _ _ q => q.elim)
       simp (disch:=first|exact Wv.D|fail) only [Wv.B, simprocAttr, hc1]
       exact ⟨0, rfl, rfl⟩)
    | (have hbt : b = false := hb
       subst hbt
       have hc1 : c = 1 := hc
       refine eu (fst := []) (cap := []) (rE 233 (.t 1 1 [])) ?_ ?_
       · simp (disch:=first|exact Wv.D|fail) only [Wv.B, simprocAttr, hc1]
         exact ⟨14, _, _, rfl, rfl, rfl, rfl, rfl⟩
       · rintro av h' ⟨rfl, rfl⟩
         simp (disch:=first|exact Wv.D|fail) only [Wv.B, simprocAttr, bJ]
         exact ⟨233, rfl, rfl⟩)
def aiL (nl:Nat) (li:Nat→Int):Bool:=!bg nl fun i=>WQ (li i)
def UW (x:Par) (nl:Nat) (li:Nat→Int):Bool:=decide ((nl:Int)≤x.n) && aiL nl li
theorem OX (x:Par) (t:Int) (ns:Nms) (k:Int) (s:ByteArray) (n:Int) (nl:Nat) (li:Nat→Int) (na:Nat) (ar:Nat→Ex) (unk:Nat) (hn:nl≤140737488351232):
  iU x t ns 168 (.mk k s n nl li na ar) unk (if UW x nl li=true then .ok 0 else .error 233):=by
 refine iU.of ?_
 have hb:UW x nl li=(decide ((nl:Int)≤x.n) && !bg nl fun i=>WQ (li i)):=rfl
 have hC:=fun h=>(wR (h:=h) nl li (fun i=>WQ (li i)) 214 [] [] hn (fun i hi=>HT.Qk (WR (li i)) rfl Wv.c Wv.c)).toP (fun _ _=>False)
 generalize UW x nl li=b at*
 generalize (bg nl fun i=>WQ (li i))=b2 at*
 rw [dA]
 have hM:=dG (n:=na) (f:=fun i=>exC (ar i)) fun i _=>eF (ar i)
 generalize bT na (fun i=>exC (ar i))=M at*
 unfold hT tyC at*
 obtain ⟨c,hc⟩: ∃ c:Nat,c=if b=true then 0 else 1:=⟨_,rfl⟩
 refine Wv.HTP.by 25 [1,4,0,7,6] [(2,17),(1000000,2),(4000002,c)] [.tmp 6] Tryz.func168 rfl rfl rfl ?base ?_
 case base=>rfl
 cases h1:decide ((nl:Int)≤x.n)
 ·rw [h1] at hb
  have hbt:b=false:=hb
  subst hbt
  have hc1:c=1:=hc
  simp (disch:=first|exact Wv.D|fail) only [Wv.B,simprocAttr,h1]
  refine eu (fst:=[]) (cap:=[]) (rE 233 (.t 1 1 [])) ?_ ?_
  ·simp (disch:=first|exact Wv.D|fail) only [Wv.B,simprocAttr,hc1]
   exact ⟨16,_,_,rfl,rfl,rfl,rfl,rfl⟩
  ·rintro av h' ⟨rfl,rfl⟩
   simp (disch:=first|exact Wv.D|fail) only [Wv.B,simprocAttr,bJ]
   exact ⟨233,rfl,rfl⟩
 ·rw [h1] at hb
  simp (disch:=first|exact Wv.D|fail) only [Wv.B,simprocAttr,h1]
  refine eu (fst:=[]) (cap:=[]) (hC _) ?_ (fun _ _ q=>q.elim)
  cases b2 with
  | false=>
   have hbt:b=true:=hb
   subst hbt
   have hc1:c=0:=hc
   refine Wv.W ?_
   refine eu (fst:=[]) (cap:=[]) (uo 233) ?_ (fun _ _ q=>q.elim)
   simp (disch:=first|exact Wv.D|fail) only [Wv.B,simprocAttr,hc1]
   exact ⟨0,rfl,rfl⟩
  | true=>
   have hbt:b=false:=hb
   subst hbt
   have hc1:c=1:=hc
   refine Wv.W ?_
   refine eu (fst:=[]) (cap:=[]) (rE 233 (.t 1 1 [])) ?_ ?_
   ·simp (disch:=first|exact Wv.D|fail) only [Wv.B,simprocAttr,hc1]
    exact ⟨16,_,_,rfl,rfl,rfl,rfl,rfl⟩
   ·rintro av h' ⟨rfl,rfl⟩
    simp (disch:=first|exact Wv.D|fail) only [Wv.B,simprocAttr,bJ]
    exact ⟨233,rfl,rfl⟩
theorem MR (x:Par) (t:Int) (ns:Nms) (k:Int) (s:ByteArray) (n:Int) (nl:Nat) (li:Nat→Int) (na:Nat) (ar:Nat→Ex) (unk:Nat) (ht:1≤t) (ht':t≤4611686018427387904):
  iU x t ns 172 (.mk k s n nl li na ar) unk (if x.r=1 then .ok (dD (t - 1)) else .error 231):=by
 refine iU.of ?_
 rw [dA]
 have hM:=dG (n:=na) (f:=fun i=>exC (ar i)) fun i _=>eF (ar i)
 generalize bT na (fun i=>exC (ar i))=M at*
 unfold hT tyC at*
 have T:=rC (t - 1) (by omega)
 generalize dD (t - 1)=st at*
 refine Wv.HTP.by 20 [1,0,6] [(1000000,2)] [.tmp 6] Tryz.func172 rfl rfl rfl ?base ?_
 case base=>rfl
 by_cases hr:x.r=1
 ·simp (disch:=first|exact Wv.D|fail) only [Wv.B,simprocAttr,decide_eq_true hr]
  refine bf (fst:=[]) (cap:=[]) (aZ _ 231) ?_ (by rintro av h' ⟨hb,_⟩;simp [hr] at hb)
  rintro av h' ⟨_,rfl,rfl⟩
  refine Wv.W ?_
  refine ah T rfl Wv.c Wv.c ?_
  simp (disch:=first|exact Wv.D|fail) only [Wv.B,simprocAttr,if_pos hr]
  exact ⟨_,rfl,rfl⟩
 ·simp (disch:=first|exact Wv.D|fail) only [Wv.B,simprocAttr,decide_eq_false hr]
  refine bf (fst:=[]) (cap:=[]) (aZ _ 231) (by rintro av h' ⟨hb,_⟩;simp [hr] at hb) ?_
  rintro av h' ⟨_,rfl,rfl⟩
  simp (disch:=first|exact Wv.D|fail) only [Wv.B,simprocAttr,bJ,if_neg hr]
  exact ⟨_,rfl,rfl⟩
end
section
open Go.RowKit Wv
def shM (m:Nat) (sh:Nat→Bool × Nat):List AV:=bT m fun i=>[.v (.bool (sh i).1), .v (.int .i64 (sh i).2)]
def yC (N t r:Int) (m:Nat) (nm:Nat→ByteArray) (sh:Nat→Bool × Nat):List AV:=[.v (.int .i64 N), .v (.int .i64 t), .v (.int .i64 r),bn m nm, .t m 2 (shM m sh)]
theorem adk (m:Nat) (sh:Nat→Bool × Nat): ∀ a,a∈shM m sh→Clo a:=dG fun i _=>by simp only [Wv.BC]
theorem uq (N t r:Int) (m:Nat) (nm:Nat→ByteArray) (sh:Nat→Bool × Nat):Clo (.tp (yC N t r m nm sh)):=by
 refine .tp ?_
 unfold yC bn
 simp only [Wv.BC]
 exact adk m sh
theorem agD {m:Nat} {sh:Nat→Bool × Nat} {i:Nat} (hi:i<m): ∃ r,List.drop (i*2) (shM m sh)= .v (.bool (sh i).1):: .v (.int .i64 (sh i).2)::r:=by
 obtain ⟨r,h⟩:=bP (m:=2) (f:=fun i=>[AV.v (.bool (sh i).1), .v (.int .i64 (sh i).2)]) (fun i=>rfl) hi
 exact ⟨r,h⟩
def fiR (m:Nat) (nm:Nat→ByteArray) (sh:Nat→Bool × Nat) (s:ByteArray):Option (Bool × Nat):=(findF (fun i=>decide (nm i=s)) m).map sh
def fiA (o:Option (Bool × Nat)):AV:= .tup [shA (o.getD (false,0)), .v (.bool o.isSome)]
theorem zI (o:Option (Bool × Nat)):Clo (fiA o):=by unfold fiA shA;simp only [Wv.BC]
theorem vV (N t r:Int) (m:Nat) (nm:Nat→ByteArray) (sh:Nat→Bool × Nat) (s:ByteArray) (hm:m≤140737488351232):TC Tryz.prog 68 [.tp (yC N t r m nm sh), .v (.string s)] (fiA (fiR m nm sh s)):=by
 have hc:=zI (fiR m nm sh s)
 have hR:fiR m nm sh s=(findF (fun i=>decide (nm i=s)) m).map sh:=rfl
 generalize fiR m nm sh s=R at*
 have hdr: ∀ i,i<m→ ∃ r,List.drop (i*2) (shM m sh)= .v (.bool (sh i).1):: .v (.int .i64 (sh i).2)::r:=fun i hi=>agD hi
 unfold yC bn
 refine Wv.TC.by 33 [6,0,13,1,24,4,5] [] [.cell 4 42, .tmp 5] Tryz.func68 rfl rfl rfl ?clo ?_
 case clo=>exact hc
 generalize shM m sh=L at*
 refine Wv.W ?_
 refine dQ (σ:=Nat) (fun i=>[(0, .tp [.v (.int .i64 N), .v (.int .i64 t), .v (.int .i64 r), .t m 1 (tab m fun i=> .v (.string (nm i))), .t m 2 L]),(1, .v (.string s)),(4, .ptr 0 0),(6, .v (.int .i64 i))]) (fun _=>[some (.blk [.v (.bool false), .v (.int .i64 0)])])
  (fun i=>i≤m∧ ∀ j,j<i→decide (nm j=s)=false) (fun i=>m - i) 0 ⟨Nat.zero_le _,fun j hj=>by omega⟩ rfl Wv.V ?_
 rintro i ⟨hi,hbef⟩
 by_cases hlt:i<m
 ·have e1:(i:Int)<m:=by omega
  obtain ⟨rr,hd⟩:=hdr i hlt
  cases hq:decide (nm i=s) with
  | true=>
   rw [iF (p:=fun i=>decide (nm i=s)) hlt hq hbef] at hR
   subst hR
   simp (disch:=first|exact Wv.D|fail) only [Wv.B,simprocAttr,decide_eq_true e1,hq,hd]
   rfl
  | false=>
   simp (disch:=first|exact Wv.D|fail) only [Wv.B,simprocAttr,decide_eq_true e1,hq]
   refine aH (i+1) ⟨by omega,fun j hj=>?_⟩ (by omega) rfl Wv.V2
   by_cases e:j=i
   ·subst e;exact hq
   ·exact hbef j (by omega)
 ·obtain rfl:m=i:=by omega
  rw [gu (p:=fun i=>decide (nm i=s)) hbef] at hR
  subst hR
  simp (disch:=first|exact Wv.D|fail) only [Wv.B,simprocAttr,Int.lt_irrefl,decide_false]
  rfl
theorem UY (N t r:Int) (m:Nat) (nm:Nat→ByteArray) (sh:Nat→Bool × Nat) (n:Int) (hn:inB n=true) (ht:1≤t) (ht':t≤4611686018427387904):TC Tryz.prog 185 [.tp (yC N t r m nm sh), .v (.int .i64 n)] (.v (.bool (lq t n))):=by
 have hn': -4294967295≤n∧n≤4294967295:=by
  unfold inB at hn
  rw [Bool.and_eq_true] at hn
  exact ⟨of_decide_eq_true hn.1,of_decide_eq_true hn.2⟩
 have hq1:(t - 1).tdiv 2=(t - 1) / 2:=Int.tdiv_eq_ediv_of_nonneg (by omega)
 have hq2:(-(t - 1)).tdiv 2= -((t - 1) / 2):=by rw [Int.neg_tdiv,hq1]
 have hq3:(0 - (t - 1)).tdiv 2= -((t - 1) / 2):=by rw [Int.zero_sub,hq2]
 have hB:lq t n=(decide (n≥ -((t - 1) / 2)) && decide (n≤(t - 1) / 2)):=by
  unfold lq
  by_cases h1:n≥ -((t - 1) / 2)
  ·rw [decide_eq_true h1,Bool.true_and]
   by_cases h2:n≤(t - 1) / 2
   ·rw [decide_eq_true h2];exact decide_eq_true (by split<;>omega)
   ·rw [decide_eq_false h2];exact decide_eq_false (by split<;>omega)
  ·rw [decide_eq_false h1,Bool.false_and];exact decide_eq_false (by split<;>omega)
 unfold yC bn
 refine Wv.TC.by 24 [1,0,4] [] [.tmp 4] Tryz.func185 rfl rfl rfl ?clo ?_
 case clo=>simp only [Wv.BC]
 generalize shM m sh=L at*
 have hw:IntKind.i64.wrap (-((t - 1) / 2))= -((t - 1) / 2):=by rw [IntKind.wrap_i64];omega
 have hw2:IntKind.i64.wrap ((t - 1) / 2)=(t - 1) / 2:=by rw [IntKind.wrap_i64];omega
 generalize (t - 1) / 2=H at*
 by_cases h1:n≥ -H
 ·rw [decide_eq_true h1,Bool.true_and] at hB
  simp (disch:=first|exact Wv.D|fail) only [Wv.B,simprocAttr,hq1,hq2,hq3,hw,hw2,decide_eq_true (show -H≤n from h1),hB]
 ·rw [decide_eq_false h1,Bool.false_and] at hB
  simp (disch:=first|exact Wv.D|fail) only [Wv.B,simprocAttr,hq1,hq2,hq3,hw,hw2,decide_eq_false (show ¬(-H≤n) from h1),hB]
theorem MS (N t r:Int) (m:Nat) (nm:Nat→ByteArray) (sh:Nat→Bool × Nat) (nl:Nat) (li:Nat→Int) (most:Int) (hnl:nl≤140737488351232) (hli: ∀ i,i<nl→inB (li i)=true) (ht:1≤t) (ht':t≤4611686018427387904):TC Tryz.prog 186 [.tp (yC N t r m nm sh), .t nl 1 (tab nl fun i=> .v (.int .i64 (li i))), .v (.int .i64 most)] (.v (.bool (jW t nl li 0 most))):=by
 have hB:jW t nl li 0 most=(decide ((nl:Int)≤most) && !bg nl fun i=>!lq t (li i)):=by
  unfold jW;rw [decide_eq_true (show (0:Int)≤(nl:Int) by omega),Bool.true_and]
 have hyc:=uq N t r m nm sh
 have TB:=fun i hi=>UY N t r m nm sh (li i) (hli i hi) ht ht'
 generalize jW t nl li 0 most=B at*
 generalize yC N t r m nm sh=Y at*
 refine Wv.TC.by 25 [7,1,11,0,20,2,6] [] [.tmp 6] Tryz.func186 rfl rfl rfl ?clo ?_
 case clo=>simp only [Wv.BC]
 refine Wv.W ?_
 refine dQ (σ:=Nat) (fun i=>[(0, .tp Y),(1, .t nl 1 (tab nl fun i=> .v (.int .i64 (li i)))),(2, .v (.int .i64 most)),(7, .v (.int .i64 i))]) (fun _=>[])
  (fun i=>i≤nl∧ ∀ j,j<i→(!lq t (li j))=false) (fun i=>nl - i) 0 ⟨Nat.zero_le _,fun j hj=>by omega⟩ rfl Wv.V ?_
 rintro i ⟨hi,hbef⟩
 by_cases hlt:i<nl
 ·have e1:(i:Int)<nl:=by omega
  have T:=TB i hlt
  cases hq:lq t (li i) with
  | false=>
   rw [hq] at T
   rw [jl (p:=fun i=>!lq t (li i)) hlt (by simp [hq])] at hB
   simp (disch:=first|exact Wv.D|fail) only [Wv.B,simprocAttr,decide_eq_true e1]
   refine ah T rfl (jf hyc (.v _)) Wv.c ?_
   refine Wv.W ?_
   rw [hB];simp
  | true=>
   rw [hq] at T
   simp (disch:=first|exact Wv.D|fail) only [Wv.B,simprocAttr,decide_eq_true e1]
   refine ah T rfl (jf hyc (.v _)) Wv.c ?_
   refine Wv.W ?_
   refine aH (i+1) ⟨by omega,fun j hj=>?_⟩ (by omega) rfl Wv.V2
   by_cases e:j=i
   ·subst e;rw [hq];rfl
   ·exact hbef j (by omega)
 ·obtain rfl:i=nl:=by omega
  rw [fO hbef] at hB
  simp (disch:=first|exact Wv.D|fail) only [Wv.B,simprocAttr,Int.lt_irrefl,decide_false]
  rw [hB,Bool.not_false,Bool.and_true]
theorem aaO (nl:Nat) (li:Nat→Int) (hnl:nl≤140737488351232):TC Tryz.prog 187 [.t nl 1 (tab nl fun i=> .v (.int .i64 (li i)))] (.v (.bool (!bg nl fun i=>!decide (li i=0) && !decide (li i=1)))):=by
 obtain ⟨B,hB⟩: ∃ B,B=!bg nl fun i=>!decide (li i=0) && !decide (li i=1):=⟨_,rfl⟩
 rw [←hB]
 refine Wv.TC.by 22 [3,0,7,21,2] [] [.tmp 2] Tryz.func187 rfl rfl rfl ?clo ?_
 case clo=>simp only [Wv.BC]
 refine Wv.W ?_
 refine dQ (σ:=Nat) (fun i=>[(0, .t nl 1 (tab nl fun i=> .v (.int .i64 (li i)))),(3, .v (.int .i64 i))]) (fun _=>[])
  (fun i=>i≤nl∧ ∀ j,j<i→(!decide (li j=0) && !decide (li j=1))=false) (fun i=>nl - i) 0 ⟨Nat.zero_le _,fun j hj=>by omega⟩ rfl Wv.V ?_
 rintro i ⟨hi,hbef⟩
 by_cases hlt:i<nl
 ·have e1:(i:Int)<nl:=by omega
  have hnx:(!decide (li i=0) && !decide (li i=1))=false→ ∀ j,j<i+1→(!decide (li j=0) && !decide (li j=1))=false:=fun h j hj=>by
   by_cases e:j=i
   ·subst e;exact h
   ·exact hbef j (by omega)
  cases h0:decide (li i=0) with
  | true=>
   simp (disch:=first|exact Wv.D|fail) only [Wv.B,simprocAttr,decide_eq_true e1,h0]
   refine aH (i+1) ⟨by omega,hnx (by rw [h0];rfl)⟩ (by omega) rfl Wv.V2
  | false=>
   cases h1:decide (li i=1) with
   | true=>
    simp (disch:=first|exact Wv.D|fail) only [Wv.B,simprocAttr,decide_eq_true e1,h0,h1]
    refine aH (i+1) ⟨by omega,hnx (by rw [h0,h1];rfl)⟩ (by omega) rfl Wv.V2
   | false=>
    rw [jl (p:=fun i=>!decide (li i=0) && !decide (li i=1)) hlt (by rw [h0,h1];rfl)] at hB
    simp (disch:=first|exact Wv.D|fail) only [Wv.B,simprocAttr,decide_eq_true e1,h0,h1]
    rw [hB];rfl
 ·obtain rfl:i=nl:=by omega
  rw [fO hbef] at hB
  simp (disch:=first|exact Wv.D|fail) only [Wv.B,simprocAttr,Int.lt_irrefl,decide_false]
  rw [hB];rfl
theorem aaP (b:Bool):TC Tryz.prog 184 [.v (.bool b)] (.v (.int .i64 (if b=true then 0 else 233))):=by
 refine Wv.TC.by 4 [0,3,2] [] [.tmp 2] Tryz.func184 rfl rfl rfl ?clo ?_
 case clo=>simp only [Wv.BC]
 cases b
 ·simp (disch:=first|exact Wv.D|fail) only [Wv.B,simprocAttr]
 ·simp (disch:=first|exact Wv.D|fail) only [Wv.B,simprocAttr]
theorem aaQ (a b:Int):TC Tryz.prog 220 [.v (.int .i64 a), .v (.int .i64 b)] (.v (.int .i64 (if a<b then 1 else 0))):=by
 refine Wv.TC.by 8 [0,1,7,4] [] [.tmp 4] Tryz.func220 rfl rfl rfl ?clo ?_
 case clo=>simp only [Wv.BC]
 by_cases h:a<b
 ·rw [if_pos h]
  simp (disch:=first|exact Wv.D|fail) only [Wv.B,simprocAttr,decide_eq_true h]
 ·rw [if_neg h]
  simp (disch:=first|exact Wv.D|fail) only [Wv.B,simprocAttr,decide_eq_false h]
end
end Go.Proofs.YtljfgdlgmdcmfaaGreat
namespace Go.Proofs.YtljfgdlgmdcmfaaGreat.Wv
section
open Go.RowKit
abbrev Rnd (l:Nat):Fence:=Fence.wide.inRound l
def noD (o:Oper):Bool:=match o.op with
 | .defer _=>false
 | _=>true
def inB:Code→Bool
 | .region _ ops _=>ops.toList.all noD
 | .seq a b=>inB a && inB b
 | .cond _ a b=>inB a && inB b
 | .block _ b=>inB b
 | .loop b=>inB b
 | .scope _=>false
 | .rangeFunc .. =>false
 | _=>true
theorem aaR {o:Oper} (h:noD o=true): ∀ c,o.op≠ .defer c:=fun c e=>by unfold noD at h;rw [e] at h;cases h
theorem afC {P : Program} {o : Oper} {a : Act} {w : World} {next : Act → World → Prop} {Q : Exit → Act → World → Prop} {l n : Nat} (hd : ∀ c, o.op ≠ .defer c) (h : o.wp P a w next Q) : o.wpIn (Rnd l) n P a w next Q := by
  refine ⟨fun _ _ => trivial, ?_⟩
  rw [Oper.semAt_eq _ _ _ hd]
  unfold Oper.wp at h
  revert h
  cases (execOp a.eval o).run P w with
  | ok x w' =>
    cases x <;> simp only [Oper.upon, Oper.uponIn] <;> intro h <;> first
      | exact h
      | exact h.elim
      | exact And.intro (fun e => by cases e) ((((callsIn_wide (n := n - 1)).2 h).inRound l).mono (fun e w'' q => by cases e <;> exact q))
      | (refine And.intro (fun e => by cases e) (fun c cs _ => ?_)
         obtain ⟨v, w', r, s⟩ := h c cs
         exact ⟨v, w', r, stepsIn_wide.2 s⟩)
  | halt x w' => cases x <;> simp only [Oper.upon, Oper.uponIn] <;> intro h <;> first | exact h | exact h.elim
theorem Hg {P:Program} {ops:Array Oper} {Q:Exit→Act→World→Prop} {r n:Nat} (hd:ops.toList.all noD=true) (hQ: ¬ LetsOut Q): ∀ (l:List Nat) (a:Act) (w:World),wpOps P ops Q l a w→wpOpsIn (Rnd r) n P ops Q l a w
 | [],a,w,h=>h
 | i::l,a,w,h=>by
  rw [wpOps_cons] at h
  rw [wpOpsIn_cons]
  unfold wpOp at h
  unfold wpOpIn
  split at h
  ·next ho=>simp only [ho];exact Hg hd hQ l a w h
  ·next o ho=>
   simp only [ho]
   split at h
   ·next hw=>
    rw [if_pos hw]
    rcases h with h | h
    ·refine afC (aaR (List.all_eq_true.1 hd o (List.mem_of_getElem? (i:=i) (by rw [Array.getElem?_toList];exact ho)))) ?_
     exact Oper.wp_mono (fun a w q=>Hg hd hQ l a w q) h
    ·exact absurd h.2 hQ
   ·next hw=>rw [if_neg hw];exact ⟨fun _ _=>trivial,Hg hd hQ l _ w h⟩
theorem Hl {P:Program} {ops:Array Oper} {Q:Exit→Act→World→Prop} {r n:Nat} (hd:ops.toList.all noD=true) (hQ: ¬ LetsOut Q): ∀ (f:Nat) (listed:Array Bool) (a:Act) (w:World),wpAny P .any ops Q f listed a w→wpAnyIn (Rnd r) n P .any ops Q f listed a w
 | 0,listed,a,w,h=>h
 | f+1,listed,a,w,h=>by
  refine ⟨h.1,fun i hi=>?_⟩
  have h:=h.2 i hi
  unfold wpOp at h
  unfold wpOpIn
  split at h
  ·next ho=>simp only [ho];exact Hl hd hQ f _ a w h
  ·next o ho=>
   simp only [ho]
   split at h
   ·next hw=>
    rw [if_pos hw]
    rcases h with h | h
    ·refine afC (aaR (List.all_eq_true.1 hd o (List.mem_of_getElem? (i:=i) (by rw [Array.getElem?_toList];exact ho)))) ?_
     exact Oper.wp_mono (fun a w q=>Hl hd hQ f _ a w q) h
    ·exact absurd h.2 hQ
   ·next hw=>rw [if_neg hw];exact ⟨fun _ _=>trivial,Hl hd hQ f _ _ w h⟩
theorem least {p:Nat→Prop} (h: ∃ n,p n): ∃ n,p n∧ ∀ m,m<n→ ¬ p m:=by
 obtain ⟨n,hn⟩:=h
 induction n using Nat.strongRecOn with
 | _ n ih=>
  by_cases hq: ∃ m,m<n∧p m
  ·obtain ⟨m,h1,h2⟩:=hq;exact ih m h1 h2
  ·exact ⟨n,hn,fun m hm hp=>hq ⟨m,hm,hp⟩⟩
theorem CS {F:Fence} {n:Nat} {P:Program} {Q:Exit→Act→World→Prop} {a:Act} {w:World} {c:Code} (J:Nat→Act→World→Prop) (m:Nat) (h0:J m a w)
  (hr: ∀ m a w,J m a w→c.wpIn F n P (Exit.then (fun a' w'=> ∃ m',m'<m∧J m' a' w') Q) a w):(Code.loop c).wpIn F n P Q a w:=by
 classical
 obtain ⟨μ,hμ⟩: ∃ μ :Act→World→Nat, ∀ a w,(∃ m,J m a w)→J (μ a w) a w∧ ∀ m,m< μ a w→ ¬ J m a w:=
  ⟨fun a w=>if h: ∃ m,J m a w then Classical.choose (least h) else 0,fun a w h=>by simp only [dif_pos h];exact Classical.choose_spec (least h)⟩
 refine wpIn_loop (fun a w=> ∃ m,J m a w) μ ⟨m,h0⟩ fun a w hI=>?_
 refine wpIn_mono (hr _ a w (hμ a w hI).1) fun e a' w' q=>?_
 cases e with
 | normal=>
  obtain ⟨m',h1,h2⟩:=q
  refine ⟨⟨m',h2⟩,?_⟩
  apply Nat.lt_of_not_le
  intro hle
  exact (hμ a' w' ⟨m',h2⟩).2 m' (by omega) h2
 | _=>exact q
theorem Fj {n0:Nat} {X:Cx} {N:Nat} {Q:bU}: ¬ LetsOut (aO n0 X N Q):=fun ⟨_,_,h⟩=>h
theorem oN {P:Program} (bV:P.follows .mixedOrders=true) {N:Nat} {L:List Nat} {ks:List (Nat × Nat)} {r n:Nat} (hes: ∀ id,kOf ks id≠1000000): ∀ (c:Code) (Q:bU) (X:Cx) (e:Ev) (a:Act),dw N ks c=true→inB c=true→base ks≤X.h.length→Ok X→aI X N e a→bH P N L ks c Q e X.h→c.wpIn (Rnd r) n P (aO (base ks) X N Q) a X.w
 | .skip,Q,X,e,a,_,_,hn,hX,hE,h=>wpIn_skip ((aO.intro ((Step.refl X).toN hn) hX hE).1 h)
 | .ret,Q,X,e,a,_,_,hn,hX,hE,h=>wpIn_ret ((aO.intro ((Step.refl X).toN hn) hX hE).2.2 h)
 | .exit id,Q,X,e,a,_,_,hn,hX,hE,h=>wpIn_exit ((aO.intro ((Step.refl X).toN hn) hX hE).2.1 id h)
 | .label l,Q,X,e,a,_,_,hn,hX,hE,h=>wpIn_label ((aO.intro ((Step.refl X).toN hn) hX hE).1 h)
 | .scope b,Q,X,e,a,hk,hi,hn,hX,hE,h=>by cases hi
 | .rangeFunc f ps ag b,Q,X,e,a,hk,hi,hn,hX,hE,h=>by cases hi
 | .region id ops false,Q,X,e,a,hk,hi,hn,hX,hE,h=>by
  refine wpIn_region (Hg hi Fj _ _ _ ?_)
  have:=zu (P:=P) (Q:=aO (base ks) X N Q) (ops:=ops) (e1:=jc ops.toList e) (fun o ho=>lH ho e) hk ops.toList 0 X e a _ (fun i=>by rw [List.drop_zero]) hX hE (hE.del _) h
   (fun Y av v a' S hY hEY hr hp=>⟨v,av,Y,_,rfl,rfl,S.toN hn,hY,hEY,hr,hp⟩) (fun Y e' a' S hY hEY hq=>(aO.intro (S.toN hn) hY (hEY.keep L)).1 hq)
  rw [Array.length_toList, ←List.range_eq_range'] at this
  exact this
 | .region id ops true,Q,X,e,a,hk,hi,hn,hX,hE,h=>by
  refine wpIn_region_any bV (Hl hi Fj _ _ _ _ ?_)
  have h':qc (kOf ks id) (Ot P N ks id ops Q e X.h) _:=h
  unfold qc at h'
  rw [if_neg (hes id)] at h'
  have hk':o7 N (kOf ks id) ops=true:=by
   have h0:(o7 N (kOf ks id) ops || decide (kOf ks id=1000000))=true:=hk
   rw [decide_eq_false (hes id),Bool.or_false] at h0;exact h0
  exact Je (id:=id) bV _ _ hk' hX hE h' (fun Y av v a' S hY hEY hr hp=>⟨v,av,Y,_,rfl,rfl,S.toN hn,hY,hEY,hr,hp⟩) fun Y e' a' S hY hEY hq=>(aO.intro (S.toN hn) hY (hEY.keep L)).1 hq
 | .seq x y,Q,X,e,a,hk,hi,hn,hX,hE,h=>by
  simp only [dw,Bool.and_eq_true] at hk
  simp only [inB,Bool.and_eq_true] at hi
  refine wpIn_seq (wpIn_mono (oN bV hes x _ X e a hk.1 hi.1 hn hX hE h) ?_)
  intro ex a' w' hp
  have:=hp.elim
  cases this with
  | ok z ex Y e' a' S hY hEY hq hx=>
   rcases hx with ⟨rfl,rfl⟩ | ⟨i,rfl,rfl⟩ | ⟨rfl,rfl⟩ | ⟨v,av,rfl,rfl,hr⟩
   ·exact wpIn_mono (oN bV hes y Q Y e' a' hk.2 hi.2 S.len hY hEY hq) fun ex a2 w2 hp2=>hp2.map hX S fun _ _ _ q=>q
   ·exact (aO.intro S hY hEY).2.1 i hq
   ·exact (aO.intro S hY hEY).2.2 hq
   ·exact ⟨v,av,Y,e',rfl,rfl,S,hY,hEY,hr,hq⟩
 | .cond c x y,Q,X,e,a,hk,hi,hn,hX,hE,h=>by
  simp only [dw,Bool.and_eq_true] at hk
  simp only [inB,Bool.and_eq_true] at hi
  obtain ⟨t,ht,h⟩:=h
  have hr:=hE.dK c
  rw [ht] at hr
  have hv:a.eval c= .bool t:=by cases h1:a.eval c<;>rw [h1] at hr<;>cases hr;rfl
  refine wpIn_cond hv ?_
  cases t
  ·exact oN bV hes y Q X e a hk.2 hi.2 hn hX hE (by simpa using h)
  ·exact oN bV hes x Q X e a hk.1 hi.1 hn hX hE (by simpa using h)
 | .block id b,Q,X,e,a,hk,hi,hn,hX,hE,h=>by
  refine wpIn_block (wpIn_mono (oN bV hes b _ X e a hk hi hn hX hE h) ?_)
  intro ex a' w' hp
  have:=hp.elim
  cases this with
  | ok z ex Y e' a' S hY hEY hq hx=>
   rcases hx with ⟨rfl,rfl⟩ | ⟨i,rfl,rfl⟩ | ⟨rfl,rfl⟩ | ⟨v,av,rfl,rfl,hr⟩
   ·exact (aO.intro S hY hEY).1 hq
   ·simp only at hq
    show (if i=id then aO (base ks) X N Q .normal a' Y.w else aO (base ks) X N Q (.exit i) a' Y.w)
    split at hq
    ·next ei=>rw [if_pos ei];exact (aO.intro S hY hEY).1 hq
    ·next ei=>rw [if_neg ei];exact (aO.intro S hY hEY).2.1 i hq
   ·exact (aO.intro S hY hEY).2.2 hq
   ·exact ⟨v,av,Y,e',rfl,rfl,S,hY,hEY,hr,hq⟩
 | .loop b,Q,X,e,a,hk,hi,hn,hX,hE,h=>by
  obtain ⟨I,n₀,e₀,h₀,hent,hI,AZ⟩:=h
  obtain ⟨Y₀,y1,y2,y3,y4,y5⟩:=hent X a rfl hn hX hE
  rw [←y1]
  refine CS (fun n a' w'=> ∃ Y e',Y.w=w'∧aP (base ks) X Y∧Ok Y∧aI Y N e' a'∧I n e' Y.h) n₀ ⟨Y₀,e₀,rfl,y3,y4,y5,by rw [y2];exact hI⟩ ?_
  rintro n a' w' ⟨Y,e',rfl,S,hY,hEY,hIY⟩
  refine wpIn_mono (oN bV hes b _ Y e' a' hk hi S.len hY hEY (AZ n e' Y.h hIY)) ?_
  intro ex a2 w2 hp
  have:=hp.elim
  cases this with
  | ok z ex Z e2 a2 S2 hZ hEZ hq hx=>
   rcases hx with ⟨rfl,rfl⟩ | ⟨i,rfl,rfl⟩ | ⟨rfl,rfl⟩ | ⟨v,av,rfl,rfl,hr⟩
   ·obtain ⟨n',e₁,h₁,Jg,hlt,hI2⟩:=hq
    obtain ⟨V,v1,v2,v3,v4,v5⟩:=Jg Z a2 rfl S2.len hZ hEZ
    exact ⟨n',hlt,V,e₁,v1,(S.trans hX S2).trans hX v3,v4,v5,by rw [v2];exact hI2⟩
   ·exact (aO.intro (S.trans hX S2) hZ hEZ).2.1 i hq
   ·exact (aO.intro (S.trans hX S2) hZ hEZ).2.2 hq
   ·exact ⟨v,av,Z,e2,rfl,rfl,S.trans hX S2,hZ,hEZ,hr,hq⟩
 | .goto _,_,_,_,_,_,_,_,_,_,h=>h.elim
 | .refuse _,_,_,_,_,_,_,_,_,_,h=>h.elim
end
section
open Go.RowKit
inductive nt:AV→Prop
 | clo {a:AV} (h:Clo a):nt a
 | own {id n:Nat}:nt (.own id n)
 | ptr {id n:Nat}:nt (.ptr id n)
 | ap {id n o:Nat}:nt (.ap id n o)
 | mp {id:Nat}:nt (.mp id)
 | g {l:List AV} (h: ∀ (a:AV),a∈l→nt a):nt (.g l)
 | tup {l:List AV} (h: ∀ (a:AV),a∈l→nt a):nt (.tup l)
 | fn {f:Fn} {l1 l2:List AV} (h1: ∀ (a:AV),a∈l1→nt a) (h2: ∀ (a:AV),a∈l2→nt a):nt (.fn f l1 l2)
 | ifc {T:TypeId} {a:AV} (h:nt a):nt (.ifc T a)
def ntL (l:List AV):Prop:= ∀ (a:AV),a∈l→nt a
def ntH (m:Nat):Nat→Hp→Prop
 | _,[]=>True
 | k,none::r=>ntH m (k+1) r
 | k,some (.blk c)::r=>ntL c∧ntH m (k+1) r
 | k,some (.arr _ _ c _)::r=>ntL c∧ntH m (k+1) r
 | k,some (.map es)::r=>k<m∧ntL (es.map (·.2))∧ntH m (k+1) r
theorem rF {m:Nat}: ∀ {h:Hp} {k:Nat} (hn:ntH m k h) (i:Nat),(∀ c,h[i]? =some (some (.blk c))→ntL c)∧(∀ T s c fz,h[i]? =some (some (.arr T s c fz))→ntL c)∧(∀ es,h[i]? =some (some (.map es))→k+i<m∧ntL (es.map (·.2)))
 | [],k,_,i=>⟨fun c h=>by simp at h,fun T s c fz h=>by simp at h,fun es h=>by simp at h⟩
 | o::r,k,hn,0=>by
  refine ⟨fun c h=>?_,fun T s c fz h=>?_,fun es h=>?_⟩<;>simp at h<;>subst h
  ·exact hn.1
  ·exact hn.1
  ·exact ⟨hn.1,hn.2.1⟩
 | o::r,k,hn,i+1=>by
  have hr:ntH m (k+1) r:=by
   cases o with
   | none=>exact hn
   | some o=>cases o with
    | blk c=>exact hn.2
    | arr T s c fz=>exact hn.2
    | map es=>exact hn.2.2
  have ih:=rF hr i
  refine ⟨fun c h=>ih.1 c (by simpa using h),fun T s c fz h=>ih.2.1 T s c fz (by simpa using h),fun es h=>?_⟩
  have:=ih.2.2 es (by simpa using h)
  exact ⟨by omega,this.2⟩
section
variable {X:Cx} {W':World} {row:Option Nat}
theorem cell_far (hg:X.w.grownBy W' row) (hr: ∀ r,row=some r→ ∃ o:Obj,X.w.heap[r]? =some o∧o.isCells=false) {b off:Nat} {x:Value} (hx:cellAt X.w b off=some x):cellAt W' b off=some x:=by
 have hb:=dO hx
 have hne:some b≠row:=fun e=>by
  obtain ⟨o,h1,h2⟩:=hr b e.symm
  unfold cellAt World.cell? at hx
  simp only [h1] at hx
  cases o<;>first | (cases h2;done) | simp at hx
 unfold cellAt World.cell? at hx ⊢
 rw [hg.block b hb hne];exact hx
theorem Rep.far (hg:X.w.grownBy W' row) (hr: ∀ r,row=some r→ ∃ o:Obj,X.w.heap[r]? =some o∧o.isCells=false) {a:AV} {x:Value} (h:Rep X a x) (hn:nt a):Rep ⟨W',X.m,X.h,X.bad,X.ds⟩ a x:=by
 have K: ∀ b o u,cellAt X.w b o=some u→ ¬ X.bad b o→cellAt W' b o=some u∧ ¬ X.bad b o:=fun b o u h1 h2=>⟨cell_far hg hr h1,h2⟩
 induction h with
 | v x=>exact .v x
 | none x=>exact .none x
 | t hl hc hn' hcap hp hr' ih=>cases hn with | clo h=>exact Rep.clo (Y:=⟨W',X.m,X.h,X.bad,X.ds⟩) (.t hl hc hn' hcap hp hr') h K
 | g hc hr' ih=>
  cases hn with
  | clo h=>exact Rep.clo (Y:=⟨W',X.m,X.h,X.bad,X.ds⟩) (.g hc hr') h K
  | g h=>exact .g hc fun i a x h1 h2=>ih i a x h1 h2 (h a (List.mem_of_getElem? h1))
 | tup hc hr' ih=>
  cases hn with
  | clo h=>exact Rep.clo (Y:=⟨W',X.m,X.h,X.bad,X.ds⟩) (.tup hc hr') h K
  | tup h=>exact .tup hc fun i a x h1 h2=>ih i a x h1 h2 (h a (List.mem_of_getElem? h1))
 | tp hc hp hr' ih=>cases hn with | clo h=>exact Rep.clo (Y:=⟨W',X.m,X.h,X.bad,X.ds⟩) (.tp hc hp hr') h K
 | fn h1 h2 r1 r2 ih1 ih2=>
  cases hn with
  | clo h=>exact Rep.clo (Y:=⟨W',X.m,X.h,X.bad,X.ds⟩) (.fn h1 h2 r1 r2) h K
  | fn q1 q2=>exact .fn h1 h2 (fun i a x g1 g2=>ih1 i a x g1 g2 (q1 a (List.mem_of_getElem? g1))) (fun i a x g1 g2=>ih2 i a x g1 g2 (q2 a (List.mem_of_getElem? g1)))
 | ifc h ih=>
  cases hn with
  | clo h'=>exact Rep.clo (Y:=⟨W',X.m,X.h,X.bad,X.ds⟩) (.ifc h) h' K
  | ifc h'=>exact .ifc (ih h')
 | e0 b=>exact .e0 b
 | own hid h=>exact .own hid h
 | ptr hid h=>exact .ptr hid h
 | ap hid h=>exact .ap hid h
 | mp hid h=>exact .mp hid h
 | tm hb hm hl hk hr' ih=>cases hn with | clo h=>cases h
theorem Ok.far (hX:Ok X) (hg:X.w.grownBy W' row) (hr: ∀ r,row=some r→ ∃ o:Obj,X.w.heap[r]? =some o∧o.isCells=false) {m:Nat} (hn:ntH m 0 X.h) (hm: ∀ id es,X.h[id]? =some (some (.map es))→ ∀ b,(X.m id).1=some b→some b≠row):Ok ⟨W',X.m,X.h,X.bad,X.ds⟩:=by
 have other: ∀ {b:Nat} {cvs:Array Value} {T:TypeId} {fr:Nat × Nat},X.w.heap[b]? =some (.cells cvs T fr)→W'.heap[b]? =some (.cells cvs T fr):=fun {b cvs T fr} h1=>by
  rw [hg.block b (Array.getElem?_eq_some_iff.1 h1).1 (fun e=>by obtain ⟨o,h2,h3⟩:=hr b e.symm;rw [h1] at h2;injection h2 with h2;subst h2;cases h3)];exact h1
 refine ⟨fun id cells hh=>?_,fun id T size cells fz hh=>?_,fun i j b hi hj=>hX.inj i j b hi hj,fun b o hb=>Nat.lt_of_lt_of_le (hX.eG b o hb) hg.size,fun id es hh=>?_⟩
 ·obtain ⟨b,cvs,T,h1,h2,h3,h4,h5⟩:=hX.blk id cells hh
  exact ⟨b,cvs,T,h1,other h2,h3,h4,fun i a x g1 g2=>(h5 i a x g1 g2).far hg hr ((rF hn id).1 cells hh a (List.mem_of_getElem? g1))⟩
 ·obtain ⟨g1,g2,n,g3,g4⟩:=hX.arr id T size cells fz hh
  refine ⟨g1,g2,n,g3,?_⟩
  rcases g4 with g4 | ⟨b,cvs,g4⟩
  ·exact .inl g4
  ·exact .inr ⟨b,cvs,⟨g4.at_,other g4.blk,g4.cap,g4.jG,g4.sz,g4.bad,fun i a x q1 q2=>(g4.rep i a x q1 q2).far hg hr ((rF hn id).2.1 T size cells fz hh a (List.mem_of_getElem? q1)),g4.good⟩⟩
 ·obtain ⟨b,ents,clock,h1,h2,h3,h4⟩:=hX.map id es hh
  refine ⟨b,ents,clock,h1,?_,h3,fun i p e q1 q2=>⟨(h4 i p e q1 q2).1,(h4 i p e q1 q2).2.far hg hr (((rF hn id).2.2 es hh).2 p.2 (List.mem_map.2 ⟨p,List.mem_of_getElem? q1,rfl⟩))⟩⟩
  show W'.heap[b]? =_
  rw [hg.block b (Array.getElem?_eq_some_iff.1 h2).1 (hm id es hh b h1)];exact h2
end
variable {X:Cx}
theorem aP.less {m n:Nat} {Y:Cx} (S:aP m X Y) (h:n≤m):aP n X Y:=
 ⟨S.os,S.tape,S.output,S.size,S.block,S.keep,Nat.le_trans h S.len,fun i T s c f hi=>S.nZ i T s c f (Nat.lt_of_lt_of_le hi h),fun i c hi=>S.lC i c (Nat.lt_of_lt_of_le hi h),S.own,S.og,fun i es hi=>S.omap i es (Nat.lt_of_lt_of_le hi h),S.dse⟩
def RI (X:Cx) (H:Hp→Prop) (W:World):Prop:= ∃ Y,Y.w=W∧aP X.h.length (X.def_ []) Y∧Ok Y∧H Y.h
theorem RI.own {α:Type}  (hX:Ok X) {H:α→Hp→Prop} (hn: ∀ s h,H s h→ntH X.h.length 0 h):OwnFrom X.w.heap.size (fun s W=>RI X (H s) W):=by
 rintro s W W' row ⟨Y,rfl,S,hY,hH⟩ hg hr
 have hr2: ∀ r,row=some r→ ∃ o:Obj,Y.w.heap[r]? =some o∧o.isCells=false:=fun r e=>(hr r e).2
 have hnt:=hn s _ hH
 refine ⟨⟨W',Y.m,Y.h,Y.bad,Y.ds⟩,rfl,?_,?_,hH⟩
 ·refine ⟨hg.os.trans S.os,hg.tape.trans S.tape,hg.output.trans S.output,Nat.le_trans S.size hg.size,fun b hb hm=>?_,fun b o x hx hb=>⟨cell_far hg hr2 (S.keep b o x hx hb).1,(S.keep b o x hx hb).2⟩,S.len,S.nZ,S.lC,S.own,S.og,S.omap,S.dse⟩
  show W'.heap[b]? =_
  rw [hg.block b (Nat.lt_of_lt_of_le hb S.size) (fun e=>by have:=(hr b e.symm).1;exact absurd hb (Nat.not_lt_of_le this))]
  exact S.block b hb hm
 ·refine Ok.far hY hg hr2 hnt fun id es hh b hb e=>?_
  have hid:=((rF hnt id).2.2 es hh).1
  rw [Nat.zero_add] at hid
  obtain ⟨es',h1,h2⟩:=S.omap id es hid hh
  rw [h2] at hb
  have hlt:b<X.w.heap.size:=(hX.def_ (d:=[])).lt ⟨id,⟨_,h1⟩,hb⟩
  have:=(hr b e.symm).1
  omega
def KpI (X:Cx) (ids:List Nat) (W W':World):Prop:= ∀ i,i∈ids→ ∀ b,(X.m i).1=some b→ ∀ o,W'.cell? ⟨b,o,none⟩=W.cell? ⟨b,o,none⟩
theorem Fp (hX:Ok X) {i b:Nat} {l:List Value} (h:X.h[i]? =some (some (.blk (l.map .v)))) (hb:(X.m i).1=some b): ∀ o,X.w.cell? ⟨b,o,none⟩=l[o]? :=by
 obtain ⟨b',cvs,T,h1,h2,h3,h4,h5⟩:=hX.blk i _ h
 rw [hb] at h1;injection h1 with h1;subst h1
 intro o
 have:=bD (off:=o) h2
 unfold cellAt at this
 rw [this]
 rw [List.length_map] at h3
 by_cases ho:o<l.length
 ·have ho2:o<cvs.size:=by omega
  have:=h5 o (.v l[o]) cvs[o] (by simp [ho]) (by simp [ho2])
  generalize hq:cvs[o]=q at this
  cases this
  rw [Array.getElem?_eq_getElem ho2,List.getElem?_eq_getElem ho,hq]
 ·rw [Array.getElem?_eq_none (by omega),List.getElem?_eq_none (by omega)]
theorem Fq: ∀ (l m:List Value),l.map AV.v=m.map AV.v→l=m
 | [],[],_=>rfl
 | [],_::_,h=>by simp at h
 | _::_,[],h=>by simp at h
 | a::l,b::m,h=>by
  simp only [List.map_cons,List.cons.injEq,AV.v.injEq] at h
  rw [h.1,Fq l m h.2]
def afD (P:Program) (gf:FuncId) (caps:List AV) (h:Hp) {α:Type} (encs:α→Array Value) (ids:List Nat) (S Sp:List α→Prop) (Nb:Nat):Prop:=
 ∀ (X:Cx) (vs:List Value),Ok X→X.h=h→eX X caps vs→SeqStopsK Fence.wide 8 P gf vs.toArray encs (KpI X ids) S Sp Nb X.w
def aiM (n0 N:Nat) (H:Hp→Prop) (Hx:Code→Hp→Prop):bU:=fun ex e h=>match ex with
 | .normal=> ∃ e1 h1,Ent n0 N e h e1 h1∧H h1
 | .ret=>Hx .ret h
 | .exit i=>Hx (.exit i) h
 | .panic _=>False
def Exx (Q:bU) (e:Ev) (h:Hp):Code→Prop
 | .ret=>Q .ret e h
 | .exit i=>Q (.exit i) e h
 | _=>False
def agE (ks:List (Nat × Nat)):Bool:=ks.all fun p=>!Nat.beq p.2 1000000
theorem UZ: ∀ {ks:List (Nat × Nat)},agE ks=true→ ∀ id,kOf ks id≠1000000
 | [],_,id=>by show (0:Nat)≠1000000;decide
 | (i,k)::r,h,id=>by
  have h':(!Nat.beq k 1000000 && agE r)=true:=h
  rw [Bool.and_eq_true] at h'
  show (if i=id then k else kOf r id)≠1000000
  split
  ·intro e
   subst e
   cases h'.1
  ·exact UZ h'.2 id
theorem agF {P:Program} (bV:P.follows .mixedOrders=true) {N:Nat} {L:List Nat} {ks ks':List (Nat × Nat)} {f:Operand} {ps:Array Tmp} {ag b:Code} {Q:bU} {e:Ev} {h:Hp} {α:Type} {encs:α→Array Value} {ids:List Nat} {S Sp:List α→Prop} {Nb:Nat} {gf:FuncId} {caps:List AV}
  (hf:dK e f= .fn (.func gf) [] caps) (hbd:kX P gf=true) (hit:afD P gf caps h encs ids S Sp Nb) (hps: ∀ x,(encs x).size=ps.size) (hok:dw N ks' b=true) (hin:inB b=true) (hes:agE ks'=true) (hb:base ks'=h.length)
  (e1:α→Ev) (a₁:Act→α→Act)
  (hassign: ∀ (a:Act) (l:Nat) (x:α) (W:World) (K:Act→World→Prop),a.tmps.size=N→K (a₁ a x) W→ag.wpIn (Rnd l) 7 P (Exit.then K (fun _ _ _=>False)) {tmps:=(ps.zip (encs x)).foldl (fun t (p,v)=>t.setIfInBounds p v) a.tmps,defers:=[]} W)
  (hrel: ∀ (a:Act) (x:α),a.tmps.size=N→(a₁ a x).defers=[]∧(a₁ a x).tmps.size=N∧ ∀ d,aJ (e1 x) d= .none∨(∃ v,aJ (e1 x) d= .v v∧(a₁ a x).tmps.getD d undef=v)∨(aJ (e1 x) d=aJ e d∧(a₁ a x).tmps.getD d undef=a.tmps.getD d undef))
  (Hs:List α→Hp→Prop) (Hx:Code→List α→Hp→Prop) (hnt: ∀ pre h',Hs pre h'→ntH h.length 0 h') (aj0: ∀ c pre h',Hx c pre h'→ntH h.length 0 h')
  (aiN: ∀ i,i∈ids→i<h.length∧ ∃ l:List Value, ∀ pre h',Hs pre h'→h'[i]? =some (some (.blk (l.map .v)))) (h0:Hs [] h)
  (hbody: ∀ pre x h',Hs pre h'→pre.length<Nb→h.length≤h'.length→bH P N L ks' b (aiM h.length N (Hs (pre++[x])) fun c=>Hx c (pre++[x])) (e1 x) h')
  (hdone: ∀ xs h',S xs→Hs xs h'→Q .normal e h') (hstop: ∀ c pre h',Sp pre→Hx c pre h'→Exx Q e h' c):
  ∀ (X:Cx) (a:Act),base ks≤X.h.length→X.h=h→Ok X→aI X N e a→(Code.rangeFunc f ps ag b).wp P (fG (base ks) X N Q) a X.w:=by
 intro X a hbs hh hX hE
 subst hh
 have hX0:Ok (X.def_ []):=hX.def_
 have hfr:=hE.dK f
 rw [hf] at hfr
 obtain ⟨lb,hg,hlb⟩: ∃ lb:List Value,a.eval f= .func (.func gf) #[] lb.toArray∧eX X caps lb:=by
  generalize a.eval f=q at hfr
  cases hfr with
  | @fn _ _ _ v1 v2 h1 h2 r1 r2=>
   have:v1=[]:=List.eq_nil_of_length_eq_zero h1
   subst this
   exact ⟨v2,rfl,h2,r2⟩
 have afE: ∀ {Y:Cx},aP X.h.length (X.def_ []) Y→Step (X.def_ []) Y:=fun S=>aP.full S
 have aaS: ∀ {pre:List α} {Y:Cx},aP X.h.length (X.def_ []) Y→Ok Y→Hs pre Y.h→ ∀ i,i∈ids→ ∀ b,(X.m i).1=some b→ ∃ l:List Value,(∀ pre h',Hs pre h'→h'[i]? =some (some (.blk (l.map .v))))∧ ∀ o,Y.w.cell? ⟨b,o,none⟩=l[o]? :=by
  intro pre Y S hY hH i hi b hb
  obtain ⟨hlt,l,hl⟩:=aiN i hi
  have h1:=hl pre _ hH
  obtain ⟨c',_,h3⟩:=S.lC i _ hlt h1
  exact ⟨l,hl,Fp hY h1 (by rw [h3];exact hb)⟩
 have close: ∀ {x:Ex} {ex:Exit} {Y:Cx} {D:Nat},aP X.h.length (X.def_ []) Y→Ok Y→X.w.heap.size≤D→Y.w.heap[D]? =some (.deferred (some []))→Q x e Y.h→((x= .normal∧ex= .normal)∨(∃ i,x= .exit i∧ex= .exit i)∨(x= .ret∧ex= .ret))→fG (base ks) X N Q ex {a with defers:={target:= .collected D,args:= #[]}::a.defers} Y.w:=by
  intro x ex Y D S hY hD hd hq hx
  have S2:aP (base ks) X (Y.def_ X.ds):=(aP.re (X:=X) (d:=[]) (d2:=X.ds) S).less hbs
  refine fG.close (Y:=Y.def_ X.ds) (e:=e) (l:=[D]) ?_ ⟨by simp,fun D' h'=>by rw [List.mem_singleton] at h';subst h';exact ⟨hD,hd⟩⟩ S2 hY.def_ ⟨rfl,hE.size,fun d=>?_⟩ hq ?_
  ·show _::a.defers=_
   rw [hE.defers];rfl
  ·have h1:Rep (X.def_ []) (aJ e d) (a.tmps.getD d undef):=(hE.rep d).def_
   exact (h1.mono (afE S)).def_
  ·rcases hx with h | h | h
   ·exact .inl h
   ·exact .inr (.inl h)
   ·exact .inr (.inr (.inl h))
 refine wpIn_wide.1 (wpIn_rangeFunc_ownG (F:=Fence.wide) (n:=9) (Kp:=KpI X ids) rfl (by decide) hg trivial (fun args w=>oG hbd args w) (hit X lb hX rfl hlb) ?_ ?_ (Below.refl _ _) hps (fun pre W=>RI X (Hs pre) W) (fun c pre W=>RI X (Hx c pre) W) (RI.own hX hnt) (fun c=>RI.own hX (aj0 c)) ⟨X.def_ [],rfl,(Step.refl _).toN (Nat.le_refl _),hX0,h0⟩ (a₁ a) (fun l x W K hK=>hassign a l x W K hE.size hK) ?_ ?_ ?_)
 ·intro A B C h1 h2 i hi b hb o
  rw [h2 i hi b hb o,h1 i hi b hb o]
 ·intro W l o o' hl hlo hc hw i hi b hb off
  obtain ⟨hlt,lv,hlv⟩:=aiN i hi
  have h1:=hlv [] _ h0
  have hbl:b<X.w.heap.size:=hX.lt ⟨i,⟨_,h1⟩,hb⟩
  unfold World.cell?
  rw [World.putObj_heap_other (by show b≠l;omega)]
 ·rintro l pre x W ⟨Y,rfl,S,hY,hH⟩ hlt
  obtain ⟨r1,r2,r3⟩:=hrel a x hE.size
  have hEY:aI Y N (e1 x) (a₁ a x):=by
   refine ⟨r1.trans S.dse.symm,r2,fun d=>?_⟩
   rcases r3 d with q | ⟨v,q1,q2⟩ | ⟨q1,q2⟩
   ·rw [q];exact .none _
   ·rw [q1,q2];exact .v v
   ·rw [q1,q2]
    have h1:Rep (X.def_ []) (aJ e d) (a.tmps.getD d undef):=(hE.rep d).def_
    exact h1.mono (afE S)
  have hw:=hbody pre x Y.h hH hlt S.len
  refine wpIn_mono (oN bV (UZ hes) b _ Y (e1 x) (a₁ a x) hok hin (by rw [hb];exact S.len) hY hEY hw) ?_
  intro ex a' w' hp
  have:=hp.elim
  cases this with
  | ok z ex Z e2 a2 T hZ hEZ hq hx=>
   rw [hb] at T
   have keep:KeepsFrom X.w.heap.size Y.w Z.w:=⟨T.size,fun k o hk ho hc=>by
    rw [T.block k (Array.getElem?_eq_some_iff.1 ho).1 ?_];exact ho
    rintro ⟨i,⟨ob,hi⟩,he⟩
    cases ob with
    | blk cells=>
     obtain ⟨b',cvs,U,q1,q2,_⟩:=hY.blk i cells hi
     rw [q1] at he;injection he with he;subst he;rw [ho] at q2;injection q2 with q2;subst q2;cases hc
    | arr U s cells fz=>
     obtain ⟨_,_,n',_,q1 | ⟨b',cvs,q1⟩⟩:=hY.arr i U s cells fz hi
     ·rw [q1.1] at he;cases he
     ·have q2:=q1.at_
      rw [q2] at he;injection he with he;subst he
      have:=q1.blk;rw [ho] at this;injection this with this;subst this;cases hc
    | map es=>
     have hid:=((rF (hnt _ _ hH) i).2.2 es hi).1
     rw [Nat.zero_add] at hid
     obtain ⟨es',g1,g2⟩:=S.omap i es hid hi
     rw [g2] at he
     have:=hX0.lt ⟨i,⟨_,g1⟩,he⟩
     exact absurd hk (by show ¬ X.w.heap.size≤k;exact Nat.not_le_of_lt this)⟩
   rcases hx with ⟨rfl,rfl⟩ | ⟨i,rfl,rfl⟩ | ⟨rfl,rfl⟩ | ⟨v,av,rfl,rfl,hr⟩
   ·obtain ⟨e3,h3,hent,hH3⟩:=hq
    obtain ⟨V,v1,v2,v3,v4,v5⟩:=hent Z _ rfl T.len hZ hEZ
    have SV:aP X.h.length (X.def_ []) V:=(S.trans hX0 T).trans hX0 v3
    refine ⟨keep,fun i hi b hb o=>?_,V,v1,SV,v4,by rw [v2];exact hH3⟩
    obtain ⟨l1,q1,q2⟩:=aaS S hY hH i hi b hb
    obtain ⟨l2,q3,q4⟩:=aaS SV v4 (by rw [v2];exact hH3) i hi b hb
    have e4:=q1 _ _ hH
    rw [q3 _ _ hH] at e4
    have e5:l2=l1:=by
     injection e4 with e4;injection e4 with e4;injection e4 with e4
     exact Fq _ _ e4
    rw [q2, ←v1,q4,e5]
   ·exact ⟨keep,Z,rfl,S.trans hX0 T,hZ,hq⟩
   ·exact ⟨keep,Z,rfl,S.trans hX0 T,hZ,hq⟩
   ·exact hq.elim
 ·rintro D xs W hD hS ⟨Y,rfl,S,hY,hH⟩ hd
  exact close S hY hD hd (hdone xs _ hS hH) (.inl ⟨rfl,rfl⟩)
 ·rintro D c pre W hD hS ⟨Y,rfl,S,hY,hH⟩ hd
  have hs:=hstop c pre _ hS hH
  cases c with
  | ret=>exact wpIn_ret (close S hY hD hd hs (.inr (.inr ⟨rfl,rfl⟩)))
  | exit i=>exact wpIn_exit (close S hY hD hd hs (.inr (.inl ⟨i,rfl,rfl⟩)))
  | _=>exact hs.elim
end
section
open Go.RowKit
variable {P:Program}{a:Act}
theorem Fv {F:Fence} {n:Nat}  {id:Nat} {d t:Tmp} {o:Oper} {Q:Exit→Act→World→Prop}  {w:World}
  (ho:o.op= .assign (.tmp t)) (hd:o.dst=some d) (hg:o.guard=none) (h:Q .normal {a with tmps:=a.tmps.setIfInBounds d (a.tmps.getD t undef)} w):(Code.region id #[o] false).wpIn F n P Q a w:=by
 obtain ⟨dst,op,ty,pos,af,g⟩:=o
 simp only at ho hd hg
 subst ho hd hg
 refine wpIn_region ?_
 show wpOpsIn F n P _ Q [0] a w
 simp only [wpOpsIn,Region.wanted,List.getElem?_toArray,List.getElem?_cons_zero,if_true]
 refine ⟨?_,?_⟩
 ·intro f hf
  cases hf
 ·rw [Oper.semAt_eq _ _ _ (fun c hc=>by cases hc)]
  exact h
theorem zJ: ∀ (e:Ev) (d:Nat),aJ e d= .none∨ ∃ p,p∈e∧p.1=d∧aJ e d=p.2
 | [],d=> .inl rfl
 | (k,a)::r,d=>by
  by_cases h:k=d
  ·exact .inr ⟨(k,a),List.mem_cons_self ..,h,if_pos h⟩
  ·rcases zJ r d with q | ⟨p,q1,q2,q3⟩
   ·exact .inl (by show (if k=d then a else aJ r d)=_;rw [if_neg h];exact q)
   ·exact .inr ⟨p,List.mem_cons_of_mem _ q1,q2,by show (if k=d then a else aJ r d)=_;rw [if_neg h];exact q3⟩
theorem nS {T:Array Value} {i j:Nat} {v:Value}:(T.setIfInBounds i v).getD j undef=if i=j∧j<T.size then v else T.getD j undef:=by
 simp only [Array.getD_eq_getD_getElem?,Array.getElem?_setIfInBounds]
 by_cases h:i=j
 ·subst h
  by_cases hs:i<T.size
  ·simp [hs]
  ·simp [hs]
 ·simp [h]
def MV (p q d1 d2:Tmp) (v1 v2:Value) (a:Act):Act:={tmps:=(((a.tmps.setIfInBounds p v1).setIfInBounds q v2).setIfInBounds d1 v1).setIfInBounds d2 v2,defers:=[]}
variable {N:Nat}
theorem assign2 {F:Fence} {n:Nat}  {i1 i2:Nat} {p q d1 d2:Tmp} {o1 o2:Oper} {K:Act→World→Prop}  {W:World} {v1 v2:Value}  (h1:o1.op= .assign (.tmp p)) (h1':o1.dst=some d1) (aj1:o1.guard=none) (h2:o2.op= .assign (.tmp q)) (h2':o2.dst=some d2) (aj2:o2.guard=none)
  (hN:a.tmps.size=N) (hp:p<N) (hq:q<N) (hpq:p≠q) (hdq:d1≠q) (hK:K (MV p q d1 d2 v1 v2 a) W):
  ((Code.region i1 #[o1] false).seq (Code.region i2 #[o2] false)).wpIn F n P (Exit.then K (fun _ _ _=>False)) {tmps:=(#[p,q].zip #[v1,v2]).foldl (fun t (x:Tmp × Value)=>t.setIfInBounds x.1 x.2) a.tmps,defers:=[]} W:=by
 refine wpIn_seq (Fv h1 h1' aj1 (Fv h2 h2' aj2 ?_))
 have e:((#[p,q].zip #[v1,v2]).foldl (fun (t:Array Value) (x:Tmp × Value)=>t.setIfInBounds x.1 x.2) a.tmps)=(a.tmps.setIfInBounds p v1).setIfInBounds q v2:=by simp
 rw [e]
 have e3:((a.tmps.setIfInBounds p v1).setIfInBounds q v2).getD p undef=v1:=by
  rw [nS,if_neg (fun h=>hpq h.1.symm),nS,if_pos ⟨rfl,by rw [hN];exact hp⟩]
 rw [e3]
 have e4:(((a.tmps.setIfInBounds p v1).setIfInBounds q v2).setIfInBounds d1 v1).getD q undef=v2:=by
  rw [nS,if_neg (fun h=>hdq h.1),nS,if_pos ⟨rfl,by rw [Array.size_setIfInBounds,hN];exact hq⟩]
 rw [e4]
 exact hK
variable {e:Ev}
theorem aj3 {e0:Ev} {p q d1 d2:Tmp} {v1 v2:Value}   (hN:a.tmps.size=N) (hd1:d1<N) (hd2:d2<N) (h12:d1≠d2)
  (hsub: ∀ x,x∈e0→aJ e x.1=x.2∧x.1≠p∧x.1≠q∧x.1≠d1∧x.1≠d2):
  (MV p q d1 d2 v1 v2 a).defers=[]∧(MV p q d1 d2 v1 v2 a).tmps.size=N∧ ∀ d,aJ ((d1, .v v1)::(d2, .v v2)::e0) d= .none∨(∃ v,aJ ((d1, .v v1)::(d2, .v v2)::e0) d= .v v∧(MV p q d1 d2 v1 v2 a).tmps.getD d undef=v)∨
   (aJ ((d1, .v v1)::(d2, .v v2)::e0) d=aJ e d∧(MV p q d1 d2 v1 v2 a).tmps.getD d undef=a.tmps.getD d undef):=by
 refine ⟨rfl,by simp [MV,hN],fun d=>?_⟩
 have hg:aJ ((d1, .v v1)::(d2, .v v2)::e0) d=if d1=d then .v v1 else if d2=d then .v v2 else aJ e0 d:=rfl
 rw [hg]
 unfold MV
 simp only [nS,Array.size_setIfInBounds,hN]
 by_cases c1:d1=d
 ·subst c1
  refine .inr (.inl ⟨v1,if_pos rfl,?_⟩)
  rw [if_neg (fun h=>h12 h.1.symm),if_pos ⟨rfl,hd1⟩]
 ·rw [if_neg c1]
  by_cases c2:d2=d
  ·subst c2
   refine .inr (.inl ⟨v2,if_pos rfl,?_⟩)
   rw [if_pos ⟨rfl,hd2⟩]
  ·rw [if_neg c2]
   rcases zJ e0 d with q' | ⟨x,q1,q2,q3⟩
   ·exact .inl q'
   ·obtain ⟨g1,g2,g3,g4,g5⟩:=hsub x q1
    subst q2
    refine .inr (.inr ⟨by rw [q3,g1],?_⟩)
    rw [if_neg (fun h=>g5 h.1.symm),if_neg (fun h=>g4 h.1.symm),if_neg (fun h=>g3 h.1.symm),if_neg (fun h=>g2 h.1.symm)]
variable {h:Hp}{n0:Nat}
theorem Ent.close (d:Nat) (a a':AV) (h':Hp) (ha:aJ e d=a) (hc:eH h a=some (a',h')):Ent n0 N e h ((d,a')::e) h':=fun X act hh hn hX hE=>by
 subst hh
 have hv:=hE.rep d
 rw [ha] at hv
 obtain ⟨Y,y1,y2,y3,y4,y5⟩:=wJ X a a' h' _ hX hc hv
 have hE2:=hE.mono y2
 refine ⟨Y,y1,y4,y2.toN hn,y3,hE2.defers,hE2.size,fun d'=>?_⟩
 show Rep Y (if d=d' then a' else aJ e d') _
 by_cases q:d=d'
 ·subst q
  rw [if_pos rfl];exact y5
 ·rw [if_neg q];exact hE2.rep d'
def agG (P:Program) (rs:Array ResultVar) (R:AV→Hp→Prop):bU:=fun x e h=>match x with
 | .exit _=>False
 | .panic _=>False
 | _=> ∃ r,tX P h e rs=some r∧R r h
variable {R:AV→Hp→Prop}
theorem aiO {rs:Array ResultVar}   :agG P rs R .normal e h=sA (fun r=>R r h) (tX P h e rs):=Eq.trans rfl rfl
theorem aiP {rs:Array ResultVar}   :agG P rs R .ret e h=sA (fun r=>R r h) (tX P h e rs):=Eq.trans rfl rfl
theorem HT.byO {f:FuncId} {fn:Func} {body:Code} {args:List AV}   (N:Nat) (L:List Nat) (ks:List (Nat × Nat)) (rs:List ResultVar) (hf:P.funcs[f]? =some fn) (hb:fn.body=some body) (hn:fn.ntmps=N) (hr:fn.results=rs.toArray) (hbs:base ks=h.length)
  (hw:bH P N L ks body (agG P rs.toArray R) (pR 0 args) h) (bV:P.follows .mixedOrders=true:=by kernel_rfl) (hp:kX P f=true:=by kernel_rfl) (hk:dw N ks body=true:=by kernel_rfl) (hN:args.length≤N:=by exact Nat.le_of_ble_eq_true rfl):HT P f args h R:=by
 subst hn
 rw [←hr] at hw
 refine ⟨hp,fun X vs hX hh hr=>?_⟩
 subst hh
 have hX':Ok (X.def_ []):=hX.def_
 have hr':eX (X.def_ []) args vs:=⟨hr.1,fun i a x h1 h2=>(hr.2 i a x h1 h2).def_⟩
 refine (callsIn_wide (n:=0)).1 (callsIn_of_wp_marks hf hb trivial (wpIn_wide.2 (wp_mono (eY bV body _ (X.def_ []) _ _ hk (by rw [hbs];exact Nat.le_refl _) hX' (AQ rfl hr' hN) hw) ?_)) rfl)
 intro ex a' w' hpost
 obtain ⟨z,Y,e',l,rfl,e1,M,SN,hY,hEY,_,hq,hx⟩:=hpost.open
 rw [hbs] at SN
 have hd:a'.defers=l.map rY:=by rw [e1];exact List.append_nil _
 obtain ⟨Z,z1,z2,z3,z4,z5,z6⟩:=A8 l Y SN hY M
 have S:=aP.full (X:=X.def_ []) z4
 have hEZ:aI Z fn.ntmps e' {a' with defers:=[]}:=⟨by rw [z3];exact hEY.defers,hEY.size,fun d=>z6 _ _ (hEY.rep d)⟩
 have key:(∃ r,tX P Y.h e' fn.results=some r∧R r Y.h)→LeavesIn Fence.wide 0 P fn a'.tmps (fun e w'=> ∃ v V av,e= .returned v∧V.w=w'∧Step X V∧Ok V∧Rep V av v∧R av V.h) [] .returning (shut Y.w l):=by
  rintro ⟨r,h1,h3⟩
  rw [←z2] at h1 h3
  obtain ⟨v,q1,q2⟩:=zx (fn:=fn) z5 hEZ h1
  rw [←z1]
  exact ⟨v,q1,v,Z.def_ X.ds,r,rfl,rfl,S.undef,z5.def_,q2.def_,h3⟩
 rcases hx with ⟨rfl,rfl⟩ | ⟨i,rfl,rfl⟩ | ⟨rfl,rfl⟩ | ⟨v,av,rfl,rfl,hrv⟩
 ·show LeavesInM Fence.wide 0 P fn a'.tmps _ a'.defers .returning Y.w
  rw [hd];exact iL (by simp) l _ M (key hq)
 ·exact hq.elim
 ·show LeavesInM Fence.wide 0 P fn a'.tmps _ a'.defers .returning Y.w
  rw [hd];exact iL (by simp) l _ M (key hq)
 ·exact hq.elim
theorem Ent.iV (id:Nat) (T:TypeId) (s:Nat) (cells:List AV) (fz k:Nat) (hg:h[id]? =some (some (.arr T s cells fz))) (h1:fz≤k) (h2:k≤cells.length):Ent n0 N e h e (h.set id (some (.arr T s cells k))):=fun X act hh hn hX hE=>by
 subst hh
 have hE2:=hE.mono (Step.iV k hg)
 exact ⟨X.iV id T s cells k,rfl,rfl,(Step.iV k hg).toN hn,hX.iV hg h1 h2,hE2.defers,hE2.size,hE2.rep⟩
theorem Ent.wk (d:Nat) (a b:AV) (ha:aJ e d=a) (hw:Wk a b):Ent n0 N e h ((d,b)::e) h:=fun X act hh hn hX hE=>by
 refine ⟨X,rfl,hh,(Step.refl X).toN (hh▸hn),hX,hE.defers,hE.size,fun d'=>?_⟩
 show Rep X (if d=d' then b else aJ e d') _
 by_cases q:d=d'
 ·subst q
  rw [if_pos rfl]
  have hv:=hE.rep d
  rw [ha] at hv
  exact hw _ _ hv
 ·rw [if_neg q];exact hE.rep d'
end
section
open Go.RowKit
def MW:List Nat→Nat→Nat
 | [],_=>0
 | a::r,j=>if a=j then 0 else MW r j+1
structure agH (σ:List Nat) (ops:Array Oper):Prop where
 len:σ.length=ops.size
 inv: ∀ i,i<ops.size→MW σ i<ops.size∧σ.getD (MW σ i) 0=i
 fwd: ∀ p,p<ops.size→σ.getD p 0<ops.size∧MW σ (σ.getD p 0)=p
 aft: ∀ (i:Nat) (o:Oper),ops[i]? =some o→ ∀ e,e∈o.after→e.on<ops.size
 grd: ∀ (i:Nat) (o:Oper),ops[i]? =some o→ ∀ g b,o.guard=some (g,b)→g<ops.size
section
variable {σ:List Nat} {ops:Array Oper}
def LsP (σ:List Nat) (ops:Array Oper) (l l':Array Bool):Prop:=l.size=ops.size∧l'.size=ops.size∧ ∀ i,i<ops.size→l'.getD (MW σ i) false=l.getD i false
theorem LsP.put (D:agH σ ops) {l l':Array Bool} (h:LsP σ ops l l') {i:Nat} (hi:i<ops.size):LsP σ ops (l.setIfInBounds i true) (l'.setIfInBounds (MW σ i) true):=by
 obtain ⟨h1,h2,h3⟩:=h
 refine ⟨by simp [h1],by simp [h2],fun j hj=>?_⟩
 have hp:=(D.inv i hi).1
 have hq:=(D.inv j hj).1
 have inj:MW σ i=MW σ j→i=j:=fun e=>by rw [←(D.inv i hi).2, ←(D.inv j hj).2,e]
 simp only [Array.getD_eq_getD_getElem?,Array.getElem?_setIfInBounds,h1,h2]
 have h3':=h3 j hj
 simp only [Array.getD_eq_getD_getElem?] at h3'
 by_cases e:i=j
 ·subst e;simp [hi,hp]
 ·rw [if_neg e,if_neg (fun q=>e (inj q))];exact h3'
end
theorem vW {P:Program} {ops:Array Oper} {Q:Exit→Act→World→Prop} {i:Nat} {o:Oper} {v:Value} {K:Act→World→Prop} {a:Act} {w w':World} (hi:ops[i]? =some o) (hg:Region.wanted o (yielded ops a.tmps)=true)
  (hrun:(execOp a.eval o).run P w= .ok (.value v) w') (hK:K (a.put o.dst v) w'):wpOp P ops Q i K a w:=by
 unfold wpOp
 rw [hi]
 simp only
 rw [if_pos hg]
 refine .inl ?_
 unfold Oper.wp
 rw [hrun]
 exact hK
end
end Go.Proofs.YtljfgdlgmdcmfaaGreat.Wv
