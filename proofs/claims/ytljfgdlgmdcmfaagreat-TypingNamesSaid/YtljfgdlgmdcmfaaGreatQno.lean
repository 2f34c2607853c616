/- Parts of a proof: The law of Typing: its circuits; what is shown. The law of Typing: the parameters of TypingFields; Type with them. TypingFields: the plain law. TypingFields: the plain law of circuits. TypingNames: the plain law: a name can be replaced by the expression of its let. TypingNames: the law's helpers: size, grown. TypingNames: the law's helpers: grown. TypingNames: the law's helpers: put. TypingNames: circuits that are copied. TypingNames: what Type answers before and behind. params.Modulus of any parameters. Typing: params.Modulus on the machine of abstract values. TypingNames: the walk. -/
import Derived.Test.YtljfgdlgmdcmfaaGreatQnn
import Derived.Test.YtljfgdlgmdcmfaaGreatQnh
import Derived.Test.YtljfgdlgmdcmfaaGreatQnf
import Derived.Test.YtljfgdlgmdcmfaaGreatQnk
namespace Go.Proofs.YtljfgdlgmdcmfaaGreat
open Go.RowKit Wv
set_option linter.unusedVariables false
set_option linter.unusedSimpArgs false
def poX (n:Int) (e:Ex):Ex:= .mk 14 ⟨#[]⟩ n 0 (fun _=>0) 1 fun _=>e
def ciT (e1 e2:Ex) (o:ByteArray):Ci:={name:=⟨#[99]⟩,ni:=1,fi:=fun _=>⟨#[120]⟩,nl:=2,ln:=fun i=>match i with | 0=>⟨#[97]⟩ | _=>⟨#[98]⟩,le:=fun i=>match i with | 0=>e1 | _=>e2,no:=1,fo:=fun _=>o}
theorem ciT_ok {e1 e2:Ex} {o:ByteArray} (h1:okE e1∧cntE e1≤4611686018427387904) (h2:okE e2∧cntE e2≤4611686018427387904) (ho:o.size≤140737488351232):okC (ciT e1 e2 o) where
 name:=show 1≤_ by decide
 ni:=show 1≤_ by decide
 nl:=show 2≤_ by decide
 no:=show 1≤_ by decide
 fi:=fun i _=>show 1≤_ by decide
 fo:=fun i _=>ho
 ln:=fun i _=>by
  cases i with
  | zero=>show 1≤_;decide
  | succ i=>show 1≤_;decide
 le:=fun i _=>by
  cases i with
  | zero=>exact h1
  | succ i=>exact h2
theorem ciT_all {e1 e2:Ex} {o:ByteArray} {ks:Ex→Prop} (h1:allK ks e1) (h2:allK ks e2): ∀ i,i<(ciT e1 e2 o).nl→allK ks ((ciT e1 e2 o).le i):=fun i _=>by
 cases i with
 | zero=>exact h1
 | succ i=>exact h2
theorem poX_ok {n:Int} {e:Ex} (h:okE e):okE (poX n e):=⟨by decide,by omega,by omega,fun i hi=>h⟩
theorem poX_all {n:Int} {e:Ex} (h:allK ksP e):allK ksP (poX n e):=⟨.inr (.inr (.inr rfl)),fun i _=>h⟩
theorem nmX_all (s:ByteArray):allK ksP (nmX s):=⟨.inl rfl,fun i hi=>by omega⟩
def typeS (c:Ci):List (Bool × Nat) × Int × Int:=if checkI c≠0 then ([],0,checkI c) else typeT c (ruP 17)
theorem typeS_eq (c:Ci):typeQ 0 c (ruP 17)=typeS c:=by
 unfold typeQ typeS
 rw [if_neg (by simp)]
theorem ptype_ciT {e1 e2:Ex} {o:ByteArray} (h1:okE e1∧cntE e1≤4611686018427387904) (h2:okE e2∧cntE e2≤4611686018427387904) (ho:o.size≤140737488351232) (k1:allK ksP e1) (k2:allK ksP e2):
  TC Tryz.prog 19 [.g (parC plnP), .g (ciC (ciT e1 e2 o))] (typeA (typeS (ciT e1 e2 o))):=by
 rw [←typeS_eq]
 exact ptype_pln _ (ciT_ok h1 h2 ho) (ciT_all k1 k2)
def shC (o:ByteArray):Ci:=ciT (muX (nmX ⟨#[120]⟩) (nmX ⟨#[120]⟩)) (poX 5 (nmX ⟨#[120]⟩)) o
theorem ptype_sh (o:ByteArray) (ho:o.size≤140737488351232):TC Tryz.prog 19 [.g (parC plnP), .g (ciC (shC o))] (typeA (typeS (shC o))):=
 ptype_ciT ⟨muX_ok _ _ (nmX_ok _ (by decide)) (nmX_ok _ (by decide)),by decide⟩ ⟨poX_ok (nmX_ok _ (by decide)),by decide⟩ ho
  ⟨.inr (.inr (.inl rfl)),fun i hi=>by
   match i,hi with
   | 0,_=>exact nmX_all _
   | 1,_=>exact nmX_all _⟩ (poX_all (nmX_all _))
theorem typeA_clo (q:List (Bool × Nat) × Int × Int):Clo (typeA q):=by
 unfold typeA
 simp only [Wv.BC]
 exact shL_clo _
def shOrc:List (FuncId × List AV × AV):=[(27,[], .g (parC plnP)),(19,[.g (parC plnP), .g (ciC (shC ⟨#[97]⟩))],typeA (typeS (shC ⟨#[97]⟩))),(19,[.g (parC plnP), .g (ciC (shC ⟨#[121]⟩))],typeA (typeS (shC ⟨#[121]⟩)))]
theorem shOrc_ok:OrcOk Tryz.prog (orcL shOrc):=orcL_ok fun q h=>by
 simp only [shOrc,List.mem_cons,List.not_mem_nil,or_false] at h
 rcases h with rfl | rfl | rfl
 ·exact ⟨plain_tc, .g (parC_clo plnP)⟩
 ·exact ⟨ptype_sh _ (by decide),typeA_clo _⟩
 ·exact ⟨ptype_sh _ (by decide),typeA_clo _⟩
theorem shown_tc:TC Tryz.prog 15 [] (.v (.bool true)):=
 TC.reck (by kernel_rfl) 1000 100 tbTyp_ok shOrc_ok (by kernel_rfl)
def sN (n:Nat):Option Nat:=findF (fun s=>Nat.ble n (2 ^ s)) 8
end Go.Proofs.YtljfgdlgmdcmfaaGreat
namespace Go.Proofs.YtljfgdlgmdcmfaaGreat
open Go.RowKit Wv
set_option linter.unusedVariables false
set_option linter.unusedSimpArgs false
end Go.Proofs.YtljfgdlgmdcmfaaGreat
namespace Go.Proofs.YtljfgdlgmdcmfaaGreat
open Go.RowKit Wv
set_option linter.unusedVariables false
set_option linter.unusedSimpArgs false
theorem any_false {n:Nat} {p:Nat→Bool} (h:anyN n p=false) {i:Nat} (hi:i<n):p i=false:=by
 cases hq:p i with
 | false=>rfl
 | true=>rw [any_at hi hq] at h;cases h
theorem name_args {k:Int} {s:ByteArray} {n:Int} {nl:Nat} {li:Nat→Int} {na:Nat} {ar:Nat→Ex} (h:formB (.mk k s n nl li na ar)=true) (hk:k=1):na=0:=by
 unfold formB at h
 simp only [Bool.and_eq_true,decide_eq_true_eq] at h
 have h4:=h.2.2.2.1
 rw [hk] at h4
 have:argN (1:Int).toNat=0:=rfl
 rw [this] at h4
 omega
theorem shE_node {ns:Nms} {ru:Ex→Nat→Except Int Nat} {k:Int} {s:ByteArray} {n:Int} {nl:Nat} {li:Nat→Int} {na:Nat} {ar:Nat→Ex} (hk:k≠1):shE ns ru (.mk k s n nl li na ar)=nodeE (ru (.mk k s n nl li na ar)) (foldE (fun i=>shE ns ru (ar i)) na):=by
 show (if k=1 then _ else _)=_
 rw [if_neg hk]
theorem shE_name {ns:Nms} {ru:Ex→Nat→Except Int Nat} {k:Int} {s:ByteArray} {n:Int} {nl:Nat} {li:Nat→Int} {na:Nat} {ar:Nat→Ex} (hk:k=1):shE ns ru (.mk k s n nl li na ar)=nameE (findN ns s):=by
 show (if k=1 then _ else _)=_
 rw [if_pos hk]
theorem foldE_next (f:Nat→Except Int (Bool × Nat)) (n:Nat):foldE f (n+1)=match foldE f n with
  | .error e=> .error e
  | .ok (kn,d,u)=>match f n with
   | .error e=> .error e
   | .ok (k',d')=> .ok (kn && k',max d d',if k'=true then u else u+1):=rfl
theorem sh_ne {ns:Nms} {ru:Ex→Nat→Except Int Nat} (hru: ∀ x u er,ru x u= .error er→er≠0): ∀ (x:Ex),formB x=true→ ∀ er,shE ns ru x= .error er→er≠0:=by
 intro x
 induction x with
 | nil=>intro h;cases h
 | mk k s n nl li na ar ih=>
  intro hf er hr
  obtain ⟨hk,hna,har⟩:=formB_args hf
  by_cases k1:k=1
  ·rw [shE_name k1] at hr
   cases hq:findN ns s with
   | some p=>rw [hq] at hr;cases hr
   | none=>rw [hq] at hr;injection hr with hr;subst hr;decide
  ·rw [shE_node k1] at hr
   have fold: ∀ m,m≤na→ ∀ er,foldE (fun i=>shE ns ru (ar i)) m= .error er→er≠0:=by
    intro m
    induction m with
    | zero=>intro _ er h;cases h
    | succ m ihm=>
     intro hm er h
     rw [foldE_next] at h
     cases h1:foldE (fun i=>shE ns ru (ar i)) m with
     | error e=>rw [h1] at h;injection h with h;subst h;exact ihm (by omega) _ h1
     | ok q=>
      obtain ⟨kn,d,u⟩:=q
      rw [h1] at h
      simp only at h
      cases h2:shE ns ru (ar m) with
      | error e=>rw [h2] at h;injection h with h;subst h;exact ih m (har m (by omega)) _ h2
      | ok r=>rw [h2] at h;cases h
   cases h1:foldE (fun i=>shE ns ru (ar i)) na with
   | error e=>rw [h1] at hr;injection hr with hr;subst hr;exact fold na (Nat.le_refl _) _ h1
   | ok q=>
    obtain ⟨kn,d,u⟩:=q
    rw [h1] at hr
    have hr':finE kn d (ru (.mk k s n nl li na ar) u)= .error er:=hr
    cases hu:ru (.mk k s n nl li na ar) u with
    | error e=>rw [hu] at hr';injection hr' with hr';subst hr';exact hru _ _ _ hu
    | ok m=>
     rw [hu] at hr'
     have h8:(if (if kn=true then 0 else d+m)≤8 then Except.ok (kn,if kn=true then 0 else d+m) else .error 232)=(Except.error er:Except Int (Bool × Nat)):=hr'
     by_cases hle:(if kn=true then 0 else d+m)≤8
     ·rw [if_pos hle] at h8;cases h8
     ·rw [if_neg hle] at h8;injection h8 with h8;subst h8;decide
theorem ruA_ne (x:Par) (t:Nat): ∀ e u er,ruA x t e u= .error er→er≠0:=by
 intro e u er h
 cases e with
 | nil=>cases h
 | mk k s n nl li na ar=>
  have z: ∀ {b:Prop} [Decidable b] {v:Except Int Nat} {w:Int},w≠0→(v= .error er→er≠0)→(if b then v else .error w)=(Except.error er:Except Int Nat)→er≠0:=fun {b _ v w} hw hv hq=>by
   split at hq
   ·exact hv hq
   ·injection hq with hq;subst hq;exact hw
  have ok: ∀ {v:Nat},(Except.ok v:Except Int Nat)= .error er→er≠0:=fun h=>by cases h
  unfold ruA at h
  simp only at h
  split at h
  ·exact z (by decide) ok h
  split at h
  ·exact z (by decide) ok h
  split at h
  ·exact ok h
  split at h
  ·exact z (by decide) ok h
  split at h
  ·exact z (by decide) ok h
  split at h
  ·exact z (by decide) ok h
  split at h
  ·unfold tblR at h;exact z (by decide) (z (by decide) ok) h
  split at h
  ·unfold lesR at h;exact z (by decide) (z (by decide) ok) h
  split at h
  ·exact z (by decide) ok h
  ·exact ok h
section
variable {ln:Nat→ByteArray} {ns0:Nms}
theorem letT_next (sh:Nms→Nat→Except Int (Bool × Nat)) (i:Nat):letT ns0 ln sh (i+1)=letR ln sh i (letT ns0 ln sh i):=rfl
theorem let_ne {f:Nms→Nat→Except Int (Bool × Nat)}: ∀ {n:Nat},(∀ i,i<n→ ∀ ns er,f ns i= .error er→er≠0)→ ∀ {j er},letT ns0 ln f n= .error (j,er)→er≠0
 | 0,_,j,er,hq=>by cases hq
 | n+1,hf,j,er,hq=>by
  rw [letT_next] at hq
  cases h1:letT ns0 ln f n with
  | error e=>
   rw [h1] at hq
   have hq':(Except.error e:Except (Nat × Int) (Nms × List (Bool × Nat)))= .error (j,er):=hq
   injection hq' with hq'
   subst hq'
   exact let_ne (fun i hi=>hf i (by omega)) h1
  | ok p=>
   obtain ⟨ns,ss⟩:=p
   rw [h1] at hq
   have hq':(if (findN ns (ln n)).isSome=true then Except.error (n,230) else letS ns ss n (ln n) (f ns n))=(Except.error (j,er):Except (Nat × Int) (Nms × List (Bool × Nat))):=hq
   by_cases hs:(findN ns (ln n)).isSome=true
   ·rw [if_pos hs] at hq'
    injection hq' with hq'
    injection hq' with h3 h4
    subst h4;decide
   ·rw [if_neg hs] at hq'
    cases h2:f ns n with
    | ok r=>rw [h2] at hq';cases hq'
    | error e=>
     rw [h2] at hq'
     have hq2:(Except.error (n,e):Except (Nat × Int) (Nms × List (Bool × Nat)))= .error (j,er):=hq'
     injection hq2 with hq2
     injection hq2 with h3 h4
     subst h4
     exact hf n (by omega) ns _ h2
theorem out_ne {ns:Nms} {fo:Nat→ByteArray}: ∀ {n:Nat} {e:Int},outT ns fo n=some e→e≠0
 | 0,e,h=>by cases h
 | n+1,e,h=>by
  have h':(match outT ns fo n with | some e=>some e | none=>outR (findN ns (fo n)))=some e:=h
  cases h1:outT ns fo n with
  | some e'=>rw [h1] at h';injection h' with h';subst h';exact out_ne h1
  | none=>
   rw [h1] at h'
   simp only at h'
   cases h2:findN ns (fo n) with
   | none=>rw [h2] at h';injection h' with h';subst h';decide
   | some r=>
    rw [h2] at h'
    have h3:(if r.1=true then some (234:Int) else none)=some e:=h'
    split at h3
    ·injection h3 with h3;subst h3;decide
    ·cases h3
end
structure FldOk (q r:List (Bool × Nat) × Int × Int) (fld:Bool):Prop where
 same:q.2.2=0→fld=false→r.2.2=0∧q.1=r.1
 field:q.2.2=0→fld=true→r.2.2=231∧0≤r.2.1
 other:q.2.2≠0→r.2.2=0→q.2.2=233∧0≤q.2.1
end Go.Proofs.YtljfgdlgmdcmfaaGreat
namespace Go.Proofs.YtljfgdlgmdcmfaaGreat
open Go.RowKit Wv
set_option linter.unusedVariables false
set_option linter.unusedSimpArgs false
theorem findF_cases (p:Nat→Bool) (n:Nat):(∃ i,findF p n=some i∧i<n∧p i=true∧ ∀ j,j<i→p j=false)∨(findF p n=none∧ ∀ j,j<n→p j=false):=by
 cases h:findF p n with
 | none=>
  refine .inr ⟨rfl,fun j hj=>?_⟩
  unfold findF at h
  rw [List.find?_eq_none] at h
  have:=h j (List.mem_range.2 hj)
  simpa using this
 | some i=>
  unfold findF at h
  rw [List.find?_eq_some_iff_getElem] at h
  obtain ⟨h1,k,hk,h2,h3⟩:=h
  rw [List.getElem_range] at h2
  subst h2
  rw [List.length_range] at hk
  refine .inl ⟨k,rfl,hk,h1,fun j hj=>?_⟩
  have:=h3 j hj
  rw [List.getElem_range] at this
  simpa using this
def putE (ln:Nat→ByteArray) (R:Nat→Ex) (n:Nat):Ex→Ex
 | .nil=> .nil
 | .mk k s m nl li na ar=>if k=1 then (match findF (fun i=>decide (ln i=s)) n with | some i=>R i | none=> .mk k s m nl li na ar) else .mk k s m nl li na fun i=>putE ln R n (ar i)
def resP (ln:Nat→ByteArray) (le:Nat→Ex) (n:Nat):Ex:=putE ln (fun i=>if i<n then resP ln le i else .nil) n (le n)
termination_by n
abbrev resR (ln:Nat→ByteArray) (le:Nat→Ex) (n:Nat):Nat→Ex:=fun i=>if i<n then resP ln le i else .nil
theorem resP_eq (ln:Nat→ByteArray) (le:Nat→Ex) (n:Nat):resP ln le n=putE ln (resR ln le n) n (le n):=by
 rw [resP]
theorem putE_name {ln:Nat→ByteArray} {R:Nat→Ex} {n:Nat} {k:Int} {s:ByteArray} {m:Int} {nl:Nat} {li:Nat→Int} {na:Nat} {ar:Nat→Ex} (hk:k=1):putE ln R n (.mk k s m nl li na ar)=match findF (fun i=>decide (ln i=s)) n with | some i=>R i | none=> .mk k s m nl li na ar:=by
 show (if k=1 then _ else _)=_
 rw [if_pos hk]
theorem putE_node {ln:Nat→ByteArray} {R:Nat→Ex} {n:Nat} {k:Int} {s:ByteArray} {m:Int} {nl:Nat} {li:Nat→Int} {na:Nat} {ar:Nat→Ex} (hk:k≠1):putE ln R n (.mk k s m nl li na ar)= .mk k s m nl li na fun i=>putE ln R n (ar i):=by
 show (if k=1 then _ else _)=_
 rw [if_neg hk]
theorem put_ind {ln:Nat→ByteArray} {R:Nat→Ex} {n:Nat} {p:Ex→Ex→Prop} (h0:p .nil .nil) (h1: ∀ k s m nl li na ar i,k=1→i<n→ln i=s→p (.mk k s m nl li na ar) (R i)) (h2: ∀ k s m nl li na ar,k=1→p (.mk k s m nl li na ar) (.mk k s m nl li na ar))
  (h3: ∀ k s m nl li na ar,k≠1→(∀ i,p (ar i) (putE ln R n (ar i)))→p (.mk k s m nl li na ar) (.mk k s m nl li na fun i=>putE ln R n (ar i))): ∀ x,p x (putE ln R n x):=by
 intro x
 induction x with
 | nil=>exact h0
 | mk k s m nl li na ar ih=>
  by_cases hk:k=1
  ·rw [putE_name hk]
   rcases findF_cases (fun i=>decide (ln i=s)) n with ⟨i,h,hi,hp,_⟩ | ⟨h,_⟩
   ·rw [h];exact h1 _ _ _ _ _ _ _ _ hk hi (of_decide_eq_true hp)
   ·rw [h];exact h2 _ _ _ _ _ _ _ hk
  ·rw [putE_node hk];exact h3 _ _ _ _ _ _ _ hk ih
theorem findN_more {s:ByteArray} {ns':Nms}: ∀ {ns:Nms},findN (ns++ns') s=(match findN ns s with | some r=>some r | none=>findN ns' s)
 | []=>rfl
 | p::r=>by
  show (if s=p.1 then some p.2 else findN (r++ns') s)=match (if s=p.1 then some p.2 else findN r s) with | some r=>some r | none=>findN ns' s
  by_cases h:s=p.1
  ·rw [if_pos h,if_pos h]
  ·rw [if_neg h,if_neg h];exact findN_more
theorem foldE_mono {f g:Nat→Except Int (Bool × Nat)}: ∀ {n:Nat},(∀ i,i<n→ ∀ r,f i= .ok r→g i= .ok r)→ ∀ {q},foldE f n= .ok q→foldE g n= .ok q
 | 0,_,q,hq=>hq
 | n+1,h,q,hq=>by
  rw [foldE_next] at hq ⊢
  cases h1:foldE f n with
  | error e=>rw [h1] at hq;cases hq
  | ok p=>
   rw [h1] at hq
   rw [foldE_mono (fun i hi=>h i (by omega)) h1]
   obtain ⟨kn,d,u⟩:=p
   simp only at hq ⊢
   cases h2:f n with
   | error e=>rw [h2] at hq;cases hq
   | ok r=>rw [h2] at hq;rw [h n (by omega) r h2];exact hq
theorem shE_ext {ns ns':Nms} {ru:Ex→Nat→Except Int Nat} (hn: ∀ s r,findN ns s=some r→findN ns' s=some r): ∀ x r,shE ns ru x= .ok r→shE ns' ru x= .ok r:=by
 intro x
 induction x with
 | nil=>intro r h;cases h
 | mk k s m nl li na ar ih=>
  intro r h
  by_cases hk:k=1
  ·rw [shE_name hk] at h ⊢
   cases h1:findN ns s with
   | none=>rw [h1] at h;cases h
   | some q=>rw [h1] at h;rw [hn _ _ h1];exact h
  ·rw [shE_node hk] at h ⊢
   cases h1:foldE (fun i=>shE ns ru (ar i)) na with
   | error e=>rw [h1] at h;cases h
   | ok q=>rw [h1] at h;rw [foldE_mono (fun i _ r=>ih i r) h1];exact h
section
variable {ln:Nat→ByteArray} {ns0:Nms}
theorem let_facts {f:Nms→Nat→Except Int (Bool × Nat)}: ∀ {n:Nat} {ns:Nms} {ss:List (Bool × Nat)},letT ns0 ln f n= .ok (ns,ss)→ss.length=n∧ ∀ i,i<n→ ∃ ns' ss' r,letT ns0 ln f i= .ok (ns',ss')∧f ns' i= .ok r∧ss[i]? =some r∧findN ns (ln i)=some r∧ ∀ s r',findN ns' s=some r'→findN ns s=some r'
 | 0,ns,ss,h=>by
  have h':(Except.ok (ns0,[]):Except (Nat × Int) (Nms × List (Bool × Nat)))= .ok (ns,ss):=h
  injection h' with h'
  injection h' with h1 h2
  subst h2
  exact ⟨rfl,fun i hi=>by omega⟩
 | n+1,ns,ss,h=>by
  rw [letT_next] at h
  cases h1:letT ns0 ln f n with
  | error e=>rw [h1] at h;cases h
  | ok p=>
   obtain ⟨ns1,ss1⟩:=p
   rw [h1] at h
   have h':(if (findN ns1 (ln n)).isSome=true then Except.error (n,230) else letS ns1 ss1 n (ln n) (f ns1 n))=(Except.ok (ns,ss):Except (Nat × Int) (Nms × List (Bool × Nat))):=h
   obtain ⟨i1,i2⟩:=let_facts h1
   by_cases hs:(findN ns1 (ln n)).isSome=true
   ·rw [if_pos hs] at h';cases h'
   ·rw [if_neg hs] at h'
    have hs':findN ns1 (ln n)=none:=by simpa using hs
    cases h2:f ns1 n with
    | error e=>rw [h2] at h';cases h'
    | ok r=>
     rw [h2] at h'
     have h3:(Except.ok (ns1++[(ln n,r)],ss1++[r]):Except (Nat × Int) (Nms × List (Bool × Nat)))= .ok (ns,ss):=h'
     injection h3 with h3
     injection h3 with h4 h5
     subst h4 h5
     have hmono: ∀ s r',findN ns1 s=some r'→findN (ns1++[(ln n,r)]) s=some r':=fun s r' q=>by rw [findN_more,q]
     refine ⟨by rw [List.length_append,i1];rfl,fun i hi=>?_⟩
     by_cases q:i<n
     ·obtain ⟨ns',ss',r',a1,a2,a3,a4,a5⟩:=i2 i q
      exact ⟨ns',ss',r',a1,a2,by rw [List.getElem?_append_left (by omega)];exact a3,hmono _ _ a4,fun s r' h=>hmono _ _ (a5 s r' h)⟩
     ·obtain rfl:i=n:=by omega
      refine ⟨ns1,ss1,r,h1,h2,by rw [List.getElem?_append_right (by omega),i1,Nat.sub_self];rfl,?_,hmono⟩
      rw [findN_more,hs']
      show (if ln i=ln i then some r else none)=some r
      rw [if_pos rfl]
theorem put_sh {le:Nat→Ex} {ru:Ex→Nat→Except Int Nat} (hru: ∀ k s m nl li na ar ar' u,ru (.mk k s m nl li na ar) u=ru (.mk k s m nl li na ar') u): ∀ (n:Nat) {ns:Nms} {ss:List (Bool × Nat)},letT ns0 ln (fun ns i=>shE ns ru (le i)) n= .ok (ns,ss)→ ∀ x r,shE ns ru x= .ok r→shE ns ru (putE ln (resR ln le n) n x)= .ok r:=by
 intro n
 induction n using Nat.strongRecOn with
 | ind n IH=>
 intro ns ss hl x
 obtain ⟨_,hf⟩:=let_facts hl
 refine put_ind (p:=fun x y=> ∀ r,shE ns ru x= .ok r→shE ns ru y= .ok r) (fun r h=>h) ?_ (fun k s m nl li na ar hk r h=>h) ?_ x
 ·intro k s m nl li na ar i hk hi hs r h
  obtain ⟨ns',ss',r',a1,a2,a3,a4,a5⟩:=hf i hi
  rw [shE_name hk, ←hs,a4] at h
  have h':(Except.ok r':Except Int (Bool × Nat))= .ok r:=h
  injection h' with h'
  subst h'
  have e:resR ln le n i=resP ln le i:=if_pos hi
  rw [e,resP_eq]
  exact shE_ext a5 _ _ (IH i hi a1 _ _ a2)
 ·intro k s m nl li na ar hk ih r h
  rw [shE_node hk] at h ⊢
  cases h1:foldE (fun i=>shE ns ru (ar i)) na with
  | error e=>rw [h1] at h;cases h
  | ok q=>
   rw [h1] at h
   rw [foldE_mono (fun i _ r=>ih i r) h1]
   obtain ⟨kn,d,u⟩:=q
   have h':finE kn d (ru (.mk k s m nl li na ar) u)= .ok r:=h
   show finE kn d (ru (.mk k s m nl li na fun i=>putE ln (resR ln le n) n (ar i)) u)= .ok r
   rw [←hru k s m nl li na ar];exact h'
theorem let_mono {f g:Nms→Nat→Except Int (Bool × Nat)}: ∀ {n:Nat},(∀ i,i<n→ ∀ ns ss r,letT ns0 ln f i= .ok (ns,ss)→f ns i= .ok r→g ns i= .ok r)→ ∀ {q},letT ns0 ln f n= .ok q→letT ns0 ln g n= .ok q
 | 0,_,q,h=>h
 | n+1,hg,q,h=>by
  rw [letT_next] at h ⊢
  cases h1:letT ns0 ln f n with
  | error e=>rw [h1] at h;cases h
  | ok p=>
   obtain ⟨ns1,ss1⟩:=p
   rw [h1] at h
   rw [let_mono (fun i hi=>hg i (by omega)) h1]
   have h':(if (findN ns1 (ln n)).isSome=true then Except.error (n,230) else letS ns1 ss1 n (ln n) (f ns1 n))=(Except.ok q:Except (Nat × Int) (Nms × List (Bool × Nat))):=h
   show (if (findN ns1 (ln n)).isSome=true then Except.error (n,230) else letS ns1 ss1 n (ln n) (g ns1 n))=(Except.ok q:Except (Nat × Int) (Nms × List (Bool × Nat)))
   split at h'
   ·cases h'
   ·next hs=>
    rw [if_neg hs]
    cases h2:f ns1 n with
    | error e=>rw [h2] at h';cases h'
    | ok r=>rw [h2] at h';rw [hg n (by omega) _ _ _ h1 h2];exact h'
end
def shInv (r:Bool × Nat):Prop:=r.2≤8∧(r.1=true→r.2=0)
theorem shE_inv {ns:Nms} {ru:Ex→Nat→Except Int Nat} (hn: ∀ s r,findN ns s=some r→shInv r): ∀ x r,shE ns ru x= .ok r→shInv r:=by
 intro x r h
 cases x with
 | nil=>cases h
 | mk k s m nl li na ar=>
  by_cases hk:k=1
  ·rw [shE_name hk] at h
   cases h1:findN ns s with
   | none=>rw [h1] at h;cases h
   | some q=>
    rw [h1] at h
    have h':(Except.ok q:Except Int (Bool × Nat))= .ok r:=h
    injection h' with h'
    subst h'
    exact hn _ _ h1
  ·rw [shE_node hk] at h
   cases h1:foldE (fun i=>shE ns ru (ar i)) na with
   | error e=>rw [h1] at h;cases h
   | ok q=>
    rw [h1] at h
    obtain ⟨kn,d,u⟩:=q
    have h':finE kn d (ru (.mk k s m nl li na ar) u)= .ok r:=h
    cases h2:ru (.mk k s m nl li na ar) u with
    | error e=>rw [h2] at h';cases h'
    | ok w=>
     rw [h2] at h'
     have h3:(if (if kn=true then 0 else d+w)≤8 then Except.ok (kn,if kn=true then 0 else d+w) else .error 232:Except Int (Bool × Nat))= .ok r:=h'
     by_cases hle:(if kn=true then 0 else d+w)≤8
     ·rw [if_pos hle] at h3
      injection h3 with h3
      subst h3
      exact ⟨hle,fun q=>if_pos q⟩
     ·rw [if_neg hle] at h3;cases h3
theorem let_inv {ln:Nat→ByteArray} {ns0:Nms} {ru:Nat→Ex→Nat→Except Int Nat} {le:Nat→Ex} (h0: ∀ s r,findN ns0 s=some r→shInv r): ∀ {n:Nat} {ns:Nms} {ss:List (Bool × Nat)},letT ns0 ln (fun ns i=>shE ns (ru i) (le i)) n= .ok (ns,ss)→(∀ s r,findN ns s=some r→shInv r)∧ ∀ (i:Nat) (r:Bool × Nat),ss[i]? =some r→shInv r
 | 0,ns,ss,h=>by
  have h':(Except.ok (ns0,[]):Except (Nat × Int) (Nms × List (Bool × Nat)))= .ok (ns,ss):=h
  injection h' with h'
  injection h' with h1 h2
  subst h1 h2
  exact ⟨h0,fun i r h=>by simp at h⟩
 | n+1,ns,ss,h=>by
  rw [letT_next] at h
  cases h1:letT ns0 ln (fun ns i=>shE ns (ru i) (le i)) n with
  | error e=>rw [h1] at h;cases h
  | ok p=>
   obtain ⟨ns1,ss1⟩:=p
   rw [h1] at h
   have h':(if (findN ns1 (ln n)).isSome=true then Except.error (n,230) else letS ns1 ss1 n (ln n) (shE ns1 (ru n) (le n)))=(Except.ok (ns,ss):Except (Nat × Int) (Nms × List (Bool × Nat))):=h
   obtain ⟨i1,i2⟩:=let_inv h0 h1
   split at h'
   ·cases h'
   ·cases h2:shE ns1 (ru n) (le n) with
    | error e=>rw [h2] at h';cases h'
    | ok r=>
     rw [h2] at h'
     have hr:=shE_inv i1 _ _ h2
     have h3:(Except.ok (ns1++[(ln n,r)],ss1++[r]):Except (Nat × Int) (Nms × List (Bool × Nat)))= .ok (ns,ss):=h'
     injection h3 with h3
     injection h3 with h4 h5
     subst h4 h5
     refine ⟨fun s r' q=>?_,fun i r' q=>?_⟩
     ·rcases findN_app q with q | rfl
      ·exact i1 _ _ q
      ·exact hr
     ·by_cases hi:i<ss1.length
      ·rw [List.getElem?_append_left hi] at q;exact i2 i r' q
      ·rw [List.getElem?_append_right (by omega)] at q
       cases hk:i - ss1.length with
       | zero=>rw [hk] at q;simp at q;subst q;exact hr
       | succ j=>rw [hk] at q;simp at q
theorem insT_inv {f:Nat→ByteArray}: ∀ {n:Nat} {ns:Nms},insT f n=some ns→ ∀ s r,findN ns s=some r→shInv r
 | 0,ns,h,s,r,h2=>by injection h with h;subst h;cases h2
 | n+1,ns,h,s,r,h2=>by
  cases hq:insT f n with
  | none=>simp only [insT,hq,Option.bind_none] at h;cases h
  | some ns1=>
   simp only [insT,hq,Option.bind_some] at h
   cases h3:findN ns1 (f n) with
   | some r=>rw [h3] at h;cases h
   | none=>
    rw [h3] at h
    injection h with h
    subst h
    rcases findN_app h2 with q | rfl
    ·exact insT_inv hq s r q
    ·exact ⟨by show (0:Nat)≤8;omega,fun _=>rfl⟩
def putC (c:Ci) (a:Nat):Ci:={c with le:=fun i=>if i=a then resP c.ln c.le a else c.le i}
theorem put_type {c:Ci} {ru:Ex→Nat→Except Int Nat} (hru: ∀ k s m nl li na ar ar' u,ru (.mk k s m nl li na ar) u=ru (.mk k s m nl li na ar') u) (hne: ∀ x u er,ru x u= .error er→er≠0) {a:Nat} (ha:a<c.nl) (hc:checkI c=0) (h:(typeT c ru).2.2=0):
  typeT (putC c a) ru=typeT c ru∧(typeT c ru).1.length=c.nl∧ ∃ r,(typeT c ru).1[a]? =some r∧shInv r:=by
 have t1: ∀ c:Ci,typeT c ru=match insT c.fi c.ni with | none=>([], -1,230) | some ns=>midT c (letT ns c.ln (fun ns i=>shE ns ru (c.le i)) c.nl):=fun c=>rfl
 rw [t1] at h ⊢
 rw [t1]
 have e0:insT (putC c a).fi (putC c a).ni=insT c.fi c.ni:=rfl
 rw [e0]
 cases hi:insT c.fi c.ni with
 | none=>rw [hi] at h;cases h
 | some ns0=>
  rw [hi] at h
  simp only at h ⊢
  cases hl:letT ns0 c.ln (fun ns i=>shE ns ru (c.le i)) c.nl with
  | error p=>
   obtain ⟨i,e⟩:=p
   rw [hl] at h
   have he:e=0:=h
   exact absurd he (let_ne (fun i hi ns er q=>sh_ne hne _ (check_form hc hi) er q) hl)
  | ok q=>
   obtain ⟨ns,ss⟩:=q
   have hl2:letT ns0 (putC c a).ln (fun ns i=>shE ns ru ((putC c a).le i)) (putC c a).nl= .ok (ns,ss):=by
    refine let_mono (f:=fun ns i=>shE ns ru (c.le i)) (fun i hi ns' ss' r q1 q2=>?_) hl
    show shE ns' ru (if i=a then resP c.ln c.le a else c.le i)= .ok r
    split
    ·next e=>
     subst e
     rw [resP_eq]
     exact put_sh hru i q1 _ _ q2
    ·exact q2
   rw [hl] at h
   rw [hl2]
   refine ⟨rfl,?_⟩
   obtain ⟨f1,f2⟩:=let_facts hl
   have m1:midT c (.ok (ns,ss))=lastT ss c.nl (outT ns c.fo c.no):=rfl
   rw [m1] at h ⊢
   cases ho:outT ns c.fo c.no with
   | some e=>
    rw [ho] at h
    have he:e=0:=h
    exact absurd he (out_ne ho)
   | none=>
    show ss.length=c.nl∧ ∃ r,ss[a]? =some r∧shInv r
    refine ⟨f1,?_⟩
    obtain ⟨_,_,r,_,_,a3,_,_⟩:=f2 a ha
    exact ⟨r,a3,(let_inv (ru:=fun _=>ru) (insT_inv hi) hl).2 a r a3⟩
theorem formB_put {ln:Nat→ByteArray} {R:Nat→Ex} {n:Nat} (hR: ∀ i,i<n→formB (R i)=true): ∀ x,formB x=true→formB (putE ln R n x)=true:=
 put_ind (p:=fun x y=>formB x=true→formB y=true) (fun h=>h) (fun k s m nl li na ar i hk hi hs h=>hR i hi) (fun k s m nl li na ar hk h=>h) fun k s m nl li na ar hk ih h=>by
  have h1:formB (.mk k s m nl li na ar)=true:=h
  unfold formB at h ⊢
  simp only [Bool.and_eq_true] at h ⊢
  obtain ⟨q1,q2,q3,q4,q5,q6,q7,q8,q9⟩:=h
  refine ⟨q1,q2,q3,q4,q5,q6,q7,q8,?_⟩
  have hA:=(formB_args h1).2.2
  simp only [Bool.not_eq_true'] at q9 ⊢
  unfold anyN at q9 ⊢
  rw [List.any_eq_false] at q9 ⊢
  intro i hi
  have:=ih i (hA i (List.mem_range.1 hi))
  simp [this]
theorem resP_form {ln:Nat→ByteArray} {le:Nat→Ex}: ∀ (n:Nat),(∀ i,i≤n→formB (le i)=true)→formB (resP ln le n)=true:=by
 intro n
 induction n using Nat.strongRecOn with
 | ind n IH=>
 intro h
 rw [resP_eq]
 refine formB_put (fun i hi=>?_) _ (h n (Nat.le_refl _))
 have e:resR ln le n i=resP ln le i:=if_pos hi
 rw [e]
 exact IH i hi fun j hj=>h j (by omega)
theorem put_check {c:Ci} {a:Nat} (ha:a<c.nl) (hc:checkI c=0):checkI (putC c a)=if smallB (putC c a)=true then 0 else 3:=by
 have hf: ∀ i,i<c.nl→formB (c.le i)=true:=fun i hi=>check_form hc hi
 unfold checkI at hc ⊢
 split at hc
 ·cases hc
 ·next h1=>
  refine Eq.trans (if_neg h1) ?_
  split at hc
  ·cases hc
  ·next h2=>
   refine if_neg ?_
   intro h3
   apply h2
   unfold anyN at h3 ⊢
   rw [List.any_eq_true] at h3 ⊢
   obtain ⟨i,hi,h4⟩:=h3
   refine ⟨i,hi,?_⟩
   have hi':i<c.nl:=List.mem_range.1 hi
   have h5:formB ((putC c a).le i)=true:=by
    show formB (if i=a then resP c.ln c.le a else c.le i)=true
    split
    ·exact resP_form a fun j hj=>hf j (by omega)
    ·exact hf i hi'
   rw [h5] at h4
   rw [hf i hi']
   exact h4
end Go.Proofs.YtljfgdlgmdcmfaaGreat
namespace Go.Proofs.YtljfgdlgmdcmfaaGreat
open Go.RowKit Wv
set_option linter.unusedVariables false
set_option linter.unusedSimpArgs false
theorem clB3 {a b c:AV} (h1:Clo a) (h2:Clo b) (h3:Clo c): ∀ x,x∈[a,b,c]→Clo x:=by simp only [Wv.BC];exact ⟨h1,h2,h3⟩
def sumC (f:Nat→Nat):Nat→Nat
 | 0=>1
 | n+1=>if sumC f n≤2000 then sumC f n+f n else sumC f n
theorem sum_stop {f:Nat→Nat} {i:Nat} (h: ¬ sumC f i≤2000): ∀ {n:Nat},i≤n→sumC f n=sumC f i
 | 0,q=>by
  have:i=0:=by omega
  subst this;rfl
 | n+1,q=>by
  by_cases e:i=n+1
  ·subst e;rfl
  ·have ih:=sum_stop h (n:=n) (by omega)
   show (if sumC f n≤2000 then _ else _)=_
   rw [ih,if_neg h]
theorem sum_bound {f g:Nat→Nat} (h: ∀ i,f i≤2001*g i): ∀ n,sumC f n≤2001*accS 1 g n
 | 0=>by show 1≤2001*1;omega
 | n+1=>by
  have ih:=sum_bound h n
  have:=h n
  have e:accS 1 g (n+1)=accS 1 g n+g n:=rfl
  show (if sumC f n≤2000 then sumC f n+f n else sumC f n)≤_
  rw [e]
  split<;>omega
def sizE (ln:Nat→ByteArray) (Z:Nat→Nat) (n:Nat):Ex→Nat
 | .nil=>1
 | .mk k s m nl li na ar=>(if k=1 then (findF (fun i=>decide (ln i=s)) n).map Z else none).getD (sumC (fun i=>sizE ln Z n (ar i)) na)
theorem siz_le {ln:Nat→ByteArray} {Z:Nat→Nat} {n:Nat} (hZ: ∀ i,Z i≤2001): ∀ x,sizE ln Z n x≤2001*cntE x:=by
 intro x
 induction x with
 | nil=>show 1≤2001*1;omega
 | mk k s m nl li na ar ih=>
  have h1:sumC (fun i=>sizE ln Z n (ar i)) na≤2001*cntE (.mk k s m nl li na ar):=sum_bound ih na
  have h2:1≤cntE (.mk k s m nl li na ar):=accS_base 1 _ na
  show (if k=1 then (findF (fun i=>decide (ln i=s)) n).map Z else none).getD (sumC (fun i=>sizE ln Z n (ar i)) na)≤_
  split
  ·cases findF (fun i=>decide (ln i=s)) n with
   | none=>exact h1
   | some i=>have:=hZ i;show Z i≤_;omega
  ·exact h1
theorem tabM_take {m:Nat} {f:Nat→List AV} (h: ∀ i,(f i).length=m): ∀ {n i:Nat},i≤n→List.take (i*m) (tabM n f)=tabM i f
 | 0,i,hi=>by
  obtain rfl:i=0:=by omega
  rw [Nat.zero_mul];rfl
 | n+1,i,hi=>by
  by_cases e:i=n+1
  ·subst e
   exact List.take_of_length_le (by rw [tabM_len h];exact Nat.le_refl _)
  ·rw [tabM_succ,List.take_append_of_le_length (by rw [tabM_len h];exact Nat.mul_le_mul_right _ (by omega)),tabM_take h (by omega)]
set_option maxHeartbeats 400000 in
set_option maxRecDepth 100000 in
theorem lsize_tc (ln:Nat→ByteArray) (le:Nat→Ex) (Z:Nat→Nat) (n:Nat) (hn:n≤140737488351232) (hZ: ∀ i,Z i≤2001) (x:Ex) (h:okE x) (hc:cntE x≤1000000):TC Tryz.prog 72 [.g (exC x), .t n 6 (tabM n fun i=>letC (ln i) (le i)), .t n 1 (tab n fun i=> .v (.int .i64 (Z i:Nat)))] (.v (.int .i64 (sizE ln Z n x:Nat))):=by
 have hLc: ∀ a,a∈tabM n (fun i=>letC (ln i) (le i))→Clo a:=tabM_clo fun i _=>letC_clo _ _
 have hdr: ∀ i,i<n→ ∃ r,List.drop (i*6) (tabM n fun i=>letC (ln i) (le i))= .v (.string (ln i))::r:=fun i hi=>by
  obtain ⟨r,h⟩:=tabM_drop (f:=fun i=>letC (ln i) (le i)) (fun i=>letC_len _ _) hi
  exact ⟨exC (le i)++r,h⟩
 have hLn:(tabM n fun i=>letC (ln i) (le i)).length=n*6:=tabM_len fun i=>letC_len _ _
 generalize (tabM n fun i=>letC (ln i) (le i))=LL at*
 induction x with
 | nil=>exact h.elim
 | mk k s m nl li na ar ih=>
 obtain ⟨hs,hnl,hna,hh⟩:=h
 have hcn: ∀ i,i<na→cntE (ar i)≤1000000:=fun i hi=>by
  have h1:accS 1 (fun i=>cntE (ar i)) na≤1000000:=hc
  have h2:accS 1 (fun i=>cntE (ar i)) i+cntE (ar i)≤accS 1 (fun i=>cntE (ar i)) na:=accS_one 1 (fun i=>cntE (ar i)) hi
  omega
 have hsz: ∀ i,i<na→sizE ln Z n (ar i)≤2001000000:=fun i hi=>by
  have:=siz_le (ln:=ln) (n:=n) hZ (ar i)
  have:=hcn i hi
  omega
 have hfin:sizE ln Z n (.mk k s m nl li na ar)=(if k=1 then (findF (fun i=>decide (ln i=s)) n).map Z else none).getD (sumC (fun i=>sizE ln Z n (ar i)) na):=rfl
 obtain ⟨R,hR⟩: ∃ R,sizE ln Z n (.mk k s m nl li na ar)=R:=⟨_,rfl⟩
 rw [hR] at hfin ⊢
 have hC:=tabM_clo (n:=na) (f:=fun i=>exC (ar i)) fun i _=>exC_clo (ar i)
 have hdA: ∀ i,i<na→ ∃ r,List.drop (i*5) (tabM na fun i=>exC (ar i))=exC (ar i)++r:=fun i hi=>tabM_drop (f:=fun i=>exC (ar i)) (fun i=>exC_len (ar i)) hi
 refine Wv.TC.by 53 [0,3,12,7,1,16,26,2,9,8,39,6] [(5,7)] [.tmp 6] (by kernel_rfl) Tryz.func72 rfl rfl rfl (by kernel_rfl) (by kernel_rfl) (Nat.le_of_ble_eq_true rfl) rfl ?clo ?_
 case clo=>simp only [Wv.BC]
 unfold exC
 generalize (tabM na fun i=>exC (ar i))=L at*
 by_cases hk:k=1
 simp only [if_pos hk] at hfin
 simp (maxSteps:=2000000) (disch:=first | omega | assumption | (simp only [Wv.Bx,simprocAttr]<;>omega) | fail) only [Wv.B,simprocAttr,decide_eq_true hk]
 refine wfor (σ:=Nat) (fun i=>[(1, .t n 6 LL),(2, .t n 1 (tab n fun i=> .v (.int .i64 (Z i:Nat)))),(3, .ptr 0 0),(7, .v (.int .i64 i))])
  (fun i=>[some (.blk [.v (.int .i64 k), .v (.string s), .v (.int .i64 m), .t nl 1 (tab nl fun i=> .v (.int .i64 (li i))), .t na 5 L])])
  (fun i=>i≤n∧ ∀ j,j<i→decide (ln j=s)=false) (fun i=>n - i) 0 ⟨Nat.zero_le _,fun j hj=>by omega⟩ (by simp (maxSteps:=2000000) (disch:=first | omega | assumption | (simp only [Wv.Bx,simprocAttr]<;>omega) | fail) only [Wv.B,simprocAttr]) (by simp (maxSteps:=2000000) (disch:=first | omega | assumption | (simp only [Wv.Bx,simprocAttr]<;>omega) | fail) only [Wv.B,simprocAttr]) ?_
 rintro i ⟨hi,hbef⟩
 by_cases hlt:i<n
 ·have e1:(i:Int)<n:=by omega
  obtain ⟨rr,hd⟩:=hdr i hlt
  cases hq:decide (ln i=s) with
  | true=>
   have hf:=findF_at (p:=fun i=>decide (ln i=s)) hlt hq hbef
   rw [hf] at hfin
   simp only [Option.map_some,Option.getD_some] at hfin
   simp (maxSteps:=2000000) (disch:=first | omega | assumption | (simp only [Wv.Bx,simprocAttr]<;>omega) | fail) only [Wv.B,simprocAttr,decide_eq_true e1,hd,hq]
   rw [hfin]
  | false=>
   simp (maxSteps:=2000000) (disch:=first | omega | assumption | (simp only [Wv.Bx,simprocAttr]<;>omega) | fail) only [Wv.B,simprocAttr,decide_eq_true e1,hd,hq]
   refine k_next (i+1) ⟨by omega,fun j hj=>?_⟩ (by omega) rfl (by simp (maxSteps:=2000000) (disch:=first | omega | assumption | (simp only [Wv.Bx,simprocAttr]<;>omega) | fail) only [Wv.B,simprocAttr,Int.natCast_add,Int.natCast_one])
   by_cases e:j=i
   ·subst e;exact hq
   ·exact hbef j (by omega)
 obtain rfl:n=i:=by omega
 rw [findF_none hbef] at hfin
 simp only [Option.map_none,Option.getD_none] at hfin
 simp (maxSteps:=2000000) (disch:=first | omega | assumption | (simp only [Wv.Bx,simprocAttr]<;>omega) | fail) only [Wv.B,simprocAttr,Int.lt_irrefl,decide_false]
 rotate_left
 simp only [if_neg hk,Option.getD_none] at hfin
 simp (maxSteps:=2000000) (disch:=first | omega | assumption | (simp only [Wv.Bx,simprocAttr]<;>omega) | fail) only [Wv.B,simprocAttr,decide_eq_false hk]
 all_goals
  refine wfor (σ:=Nat) (fun i=>[(1, .t n 6 LL),(2, .t n 1 (tab n fun i=> .v (.int .i64 (Z i:Nat)))),(3, .ptr 0 0),(8, .v (.int .i64 (sumC (fun i=>sizE ln Z n (ar i)) i:Nat))),(9, .v (.int .i64 i))])
   (fun i=>[some (.blk [.v (.int .i64 k), .v (.string s), .v (.int .i64 m), .t nl 1 (tab nl fun i=> .v (.int .i64 (li i))), .t na 5 L])])
   (fun i=>i≤na) (fun i=>na - i) 0 (Nat.zero_le _) (by simp (maxSteps:=2000000) (disch:=first | omega | assumption | (simp only [Wv.Bx,simprocAttr]<;>omega) | fail) only [Wv.B,simprocAttr]) (by simp (maxSteps:=2000000) (disch:=first | omega | assumption | (simp only [Wv.Bx,simprocAttr]<;>omega) | fail) only [Wv.B,simprocAttr,sumC,Int.natCast_one]) ?_
  intro i hi
  by_cases hlt:i<na
  ·have e1:(i:Int)<na:=by omega
   have hnx:sumC (fun i=>sizE ln Z n (ar i)) (i+1)=if sumC (fun i=>sizE ln Z n (ar i)) i≤2000 then sumC (fun i=>sizE ln Z n (ar i)) i+sizE ln Z n (ar i) else sumC (fun i=>sizE ln Z n (ar i)) i:=rfl
   by_cases h2:sumC (fun i=>sizE ln Z n (ar i)) i≤2000
   ·rw [if_pos h2] at hnx
    have T:=ih i (hh i hlt) (hcn i hlt)
    have hG:=exG_clo (ar i)
    have hoy:=hh i hlt
    have hsi:=hsz i hlt
    obtain ⟨r,hd⟩:=hdA i hlt
    generalize sumC (fun i=>sizE ln Z n (ar i)) i=S0 at*
    have e2:(S0:Int)≤2000:=by omega
    revert T hG hd hsi hnx
    generalize sizE ln Z n (ar i)=Y
    generalize ar i=y at hoy ⊢
    obtain ⟨k',s',n',nl',li',na',ar',rfl⟩:=ok_mk hoy
    rw [exC_mk]
    intro T hG hsi hd hnx
    simp only [List.cons_append,List.nil_append] at hd
    simp (maxSteps:=2000000) (disch:=first | omega | assumption | (simp only [Wv.Bx,simprocAttr]<;>omega) | fail) only [Wv.B,simprocAttr,decide_eq_true e1,decide_eq_true e2,hd]
    refine call_TC T rfl (clB3 hG (.t hLc) (by simp only [Wv.BC])) (by simp only [Wv.BC]) ?_
    simp (maxSteps:=2000000) (disch:=first | omega | assumption | (simp only [Wv.Bx,simprocAttr]<;>omega) | fail) only [Wv.B,simprocAttr]
    refine k_next (i+1) (by omega) (by omega) rfl (by simp (maxSteps:=2000000) (disch:=first | omega | assumption | (simp only [Wv.Bx,simprocAttr]<;>omega) | fail) only [Wv.B,simprocAttr,hnx,Int.natCast_add,Int.natCast_one])
   ·have hst:=sum_stop h2 (n:=na) (by omega)
    rw [hst] at hfin
    generalize sumC (fun i=>sizE ln Z n (ar i)) i=S0 at*
    have e2: ¬ (S0:Int)≤2000:=by omega
    simp (maxSteps:=2000000) (disch:=first | omega | assumption | (simp only [Wv.Bx,simprocAttr]<;>omega) | fail) only [Wv.B,simprocAttr,decide_eq_true e1,decide_eq_false e2]
    rw [hfin]
  ·obtain rfl:i=na:=by omega
   simp (maxSteps:=2000000) (disch:=first | omega | assumption | (simp only [Wv.Bx,simprocAttr]<;>omega) | fail) only [Wv.B,simprocAttr,Int.lt_irrefl,decide_false]
   rw [hfin]
end Go.Proofs.YtljfgdlgmdcmfaaGreat
namespace Go.Proofs.YtljfgdlgmdcmfaaGreat
open Go.RowKit Wv
set_option linter.unusedVariables false
set_option linter.unusedSimpArgs false
theorem view1_row {h:Hp} {id n T s z:Nat} {cells:List AV} (hg:h[id]? =some (some (.arr T s cells z))) (hl:cells.length=n*s) (hz:z=cells.length):view2 h (.own id n)=some (.t n s cells):=by
 show (match h[id]? with | some (some (.arr _ s cells fz))=>if cells.length=n*s∧fz=cells.length then some (AV.t n s cells) else none | _=>none)=_
 rw [hg]
 simp only
 rw [if_pos ⟨hl,hz⟩]
theorem viewL_cons {h:Hp} {a a':AV} {r r':List AV} (h1:view2 h a=some a') (h2:viewL h r=some r'):viewL h (a::r)=some (a'::r'):=by
 unfold viewL at*
 show (match view2 h a,mapO (view2 h) r with | some a',some r'=>some (a'::r') | _,_=>none)=_
 rw [h1,h2]
theorem sum_congr {f g:Nat→Nat} (h: ∀ i,f i=g i): ∀ n,sumC f n=sumC g n
 | 0=>rfl
 | n+1=>by
  show (if sumC f n≤2000 then sumC f n+f n else sumC f n)=(if sumC g n≤2000 then sumC g n+g n else sumC g n)
  rw [sum_congr h n,h n]
theorem siz_congr {ln:Nat→ByteArray} {Z Z':Nat→Nat} {n:Nat} (h: ∀ i,i<n→Z i=Z' i): ∀ x,sizE ln Z n x=sizE ln Z' n x:=by
 intro x
 induction x with
 | nil=>rfl
 | mk k s m nl li na ar ih=>
  show (if k=1 then (findF (fun i=>decide (ln i=s)) n).map Z else none).getD (sumC (fun i=>sizE ln Z n (ar i)) na)=(if k=1 then (findF (fun i=>decide (ln i=s)) n).map Z' else none).getD (sumC (fun i=>sizE ln Z' n (ar i)) na)
  rw [sum_congr ih na]
  split
  ·rcases findF_cases (fun i=>decide (ln i=s)) n with ⟨i,q,hi,_⟩ | ⟨q,_⟩
   ·rw [q,Option.map_some,Option.map_some,h i hi]
   ·rw [q];rfl
  ·rfl
def grZ (ln:Nat→ByteArray) (le:Nat→Ex) (n:Nat):Nat:=min 2001 (sizE ln (fun i=>if i<n then grZ ln le i else 0) n (le n))
termination_by n
theorem grZ_eq (ln:Nat→ByteArray) (le:Nat→Ex) (n:Nat):grZ ln le n=min 2001 (sizE ln (grZ ln le) n (le n)):=by
 rw [grZ,siz_congr fun i hi=>if_pos hi]
theorem grZ_le (ln:Nat→ByteArray) (le:Nat→Ex) (n:Nat):grZ ln le n≤2001:=by rw [grZ_eq];exact Nat.min_le_left ..
set_option maxHeartbeats 400000 in
set_option maxRecDepth 100000 in
theorem lgrown_tc (ln:Nat→ByteArray) (le:Nat→Ex) (n a:Nat) (hn:n≤1000) (ha:a<n) (h: ∀ i,i<n→okE (le i)∧cntE (le i)≤1000000):TC Tryz.prog 23 [.t n 6 (tabM n fun i=>letC (ln i) (le i)), .v (.int .i64 a)] (.v (.int .i64 (grZ ln le a:Nat))):=by
 have hdr: ∀ i,i<n→ ∃ r,List.drop (i*6) (tabM n fun i=>letC (ln i) (le i))= .v (.string (ln i))::(exC (le i)++r):=fun i hi=>by
  obtain ⟨r,h⟩:=tabM_drop (f:=fun i=>letC (ln i) (le i)) (fun i=>letC_len _ _) hi
  exact ⟨r,h⟩
 have htk: ∀ i,i<n→List.drop (0*6) (List.take (i*6) (tabM n fun i=>letC (ln i) (le i)))=tabM i fun i=>letC (ln i) (le i):=fun i hi=>by
  rw [Nat.zero_mul,List.drop_zero]
  exact tabM_take (f:=fun i=>letC (ln i) (le i)) (fun i=>letC_len _ _) (by omega)
 have hLc: ∀ i a,a∈tabM i (fun i=>letC (ln i) (le i))→Clo a:=fun i=>tabM_clo fun i _=>letC_clo _ _
 refine Wv.TC.by 30 [6,1,9,5,0,4] [(5,13)] [.tmp 4] (by kernel_rfl) Tryz.func23 rfl rfl rfl (by kernel_rfl) (by kernel_rfl) (Nat.le_of_ble_eq_true rfl) rfl ?clo ?_
 case clo=>simp only [Wv.BC]
 generalize hLL:(tabM n fun i=>letC (ln i) (le i))=LL at*
 simp (maxSteps:=2000000) (disch:=first | omega | assumption | (simp only [Wv.Bx,simprocAttr]<;>omega) | fail) only [Wv.B,simprocAttr]
 refine wforE (σ:=Nat) (fun i=>[(0, .t n 6 LL),(1, .v (.int .i64 a)),(5, .own 0 i),(6, .v (.int .i64 i))]) (fun i=>[some (.arr 3 1 (tab i fun i=> .v (.int .i64 (grZ ln le i:Nat))) (i - 1))]) (fun i=>i≤a+1) (fun i=>a+1 - i) 0 (by omega) ?_ ?_
 ·refine Ent.trans (Ent.nil 5 3 1 (by omega) rfl) (Ent.fit ?_)
  simp (maxSteps:=2000000) (disch:=first | omega | assumption | (simp only [Wv.Bx,simprocAttr]<;>omega) | fail) only [Wv.B,simprocAttr]
 intro i hi
 by_cases hlt:i<a+1
 ·have e1:(i:Int)≤a:=by omega
  have T:=lsize_tc ln le (grZ ln le) i (by omega) (grZ_le ln le) (le i) (h i (by omega)).1 (h i (by omega)).2
  have hZ:=grZ_eq ln le i
  have hG:=exG_clo (le i)
  have hoy:=(h i (by omega)).1
  have hsi:=siz_le (ln:=ln) (n:=i) (grZ_le ln le) (le i)
  have hci:=(h i (by omega)).2
  obtain ⟨r,hd⟩:=hdr i (by omega)
  have ht:=htk i (by omega)
  have hL1:=hLc i
  revert T hZ hG hsi hci hd
  generalize sizE ln (grZ ln le) i (le i)=Y
  generalize le i=y at hoy ⊢
  obtain ⟨k',s',n',nl',li',na',ar',rfl⟩:=ok_mk hoy
  rw [exC_mk]
  intro T hZ hG hsi hci hd
  simp only [List.cons_append,List.nil_append] at hd
  simp (maxSteps:=2000000) (disch:=first | omega | assumption | (simp only [Wv.Bx,simprocAttr]<;>omega) | fail) only [Wv.B,simprocAttr,decide_eq_true e1,hd,ht]
  refine calm_TC T (viewL_cons (view2_clo hG) (viewL_cons rfl (viewL_cons (view1_row rfl (by rw [tab_len,Nat.mul_one]) tab_len.symm) rfl))) (clB3 hG (.t hL1) (by simp only [Wv.BC])) (by simp only [Wv.BC]) ?_
  have hZ':(if (Y:Int)<2001 then (Y:Int) else 2001)=(grZ ln le i:Nat):=by rw [hZ];split<;>omega
  simp (maxSteps:=2000000) (disch:=first | omega | assumption | (simp only [Wv.Bx,simprocAttr]<;>omega) | fail) only [Wv.B,simprocAttr,hZ']
  refine k_next (i+1) (by omega) (by omega) ?_ (by simp (maxSteps:=2000000) (disch:=first | omega | assumption | (simp only [Wv.Bx,simprocAttr]<;>omega) | fail) only [Wv.B,simprocAttr,Int.natCast_add,Int.natCast_one])
  rw [tab_snoc (f:=fun i=>AV.v (.int .i64 (grZ ln le i:Nat)))];rfl
 ·obtain rfl:i=a+1:=by omega
  simp (maxSteps:=2000000) (disch:=first | omega | assumption | (simp only [Wv.Bx,simprocAttr]<;>omega) | fail) only [Wv.B,simprocAttr,decide_eq_false (show ¬ ((a+1:Nat):Int)≤a by omega)]
end Go.Proofs.YtljfgdlgmdcmfaaGreat
namespace Go.Proofs.YtljfgdlgmdcmfaaGreat
open Go.RowKit Wv
set_option linter.unusedVariables false
set_option linter.unusedSimpArgs false
theorem na_cnt {k:Int} {s:ByteArray} {m:Int} {nl:Nat} {li:Nat→Int} {na:Nat} {ar:Nat→Ex}:na+1≤cntE (.mk k s m nl li na ar):=by
 have h1: ∀ x,1≤cntE x:=fun x=>by
  cases x with
  | nil=>exact Nat.le_refl 1
  | mk k s m nl li na ar=>exact accS_base 1 _ na
 have h2: ∀ n,n+1≤accS 1 (fun i=>cntE (ar i)) n:=fun n=>by
  induction n with
  | zero=>exact Nat.le_refl 1
  | succ n ih=>have:=h1 (ar n);show n+1+1≤accS 1 (fun i=>cntE (ar i)) n+cntE (ar n);omega
 exact h2 na
theorem viewL_nil {h:Hp}:viewL h []=some []:=rfl
theorem exC_five (y:Ex): ∃ (k:Int) (s:ByteArray) (m:Int) (a:Nat) (l:List AV) (b:Nat) (r:List AV),exC y=[.v (.int .i64 k), .v (.string s), .v (.int .i64 m), .t a 1 l, .t b 5 r]:=by cases y<;>exact ⟨_,_,_,_,_,_,_,rfl⟩
theorem exC_put (ln:Nat→ByteArray) (R:Nat→Ex) (n:Nat) {k:Int} {s:ByteArray} {m:Int} {nl:Nat} {li:Nat→Int} {na:Nat} {ar:Nat→Ex} (hk:k≠1):exC (putE ln R n (.mk k s m nl li na ar))=[.v (.int .i64 k), .v (.string s), .v (.int .i64 m), .t nl 1 (tab nl fun i=> .v (.int .i64 (li i))), .t na 5 (tabM na fun i=>exC (putE ln R n (ar i)))]:=by
 rw [putE_node hk,exC_mk]
set_option maxHeartbeats 800000 in
set_option maxRecDepth 100000 in
theorem lput_tc (ln:Nat→ByteArray) (le:Nat→Ex): ∀ (n:Nat),n≤1000→(∀ i,i<n→okE (le i)∧cntE (le i)≤1000000)→ ∀ x,okE x→cntE x≤1000000→TC Tryz.prog 24 [.g (exC x), .t n 6 (tabM n fun i=>letC (ln i) (le i))] (.g (exC (putE ln (resR ln le n) n x))):=by
 intro n
 induction n using Nat.strongRecOn with
 | ind n IH=>
 intro hn hle x
 have hdr: ∀ i,i<n→ ∃ r,List.drop (i*6) (tabM n fun i=>letC (ln i) (le i))= .v (.string (ln i))::(exC (le i)++r):=fun i hi=>by
  obtain ⟨r,h⟩:=tabM_drop (f:=fun i=>letC (ln i) (le i)) (fun i=>letC_len _ _) hi
  exact ⟨r,h⟩
 have htk: ∀ i,i<n→List.drop (0*6) (List.take (i*6) (tabM n fun i=>letC (ln i) (le i)))=tabM i fun i=>letC (ln i) (le i):=fun i hi=>by
  rw [Nat.zero_mul,List.drop_zero]
  exact tabM_take (f:=fun i=>letC (ln i) (le i)) (fun i=>letC_len _ _) (by omega)
 have hLc: ∀ i a,a∈tabM i (fun i=>letC (ln i) (le i))→Clo a:=fun i=>tabM_clo fun i _=>letC_clo _ _
 have hLcn:=hLc n
 generalize hLL:(tabM n fun i=>letC (ln i) (le i))=LL at*
 induction x with
 | nil=>intro h _;exact h.elim
 | mk k s m nl li na ar ih=>
 rintro ⟨hs,hnl,hna,hh⟩ hc
 have hcn: ∀ i,i<na→cntE (ar i)≤1000000:=fun i hi=>by
  have h1:accS 1 (fun i=>cntE (ar i)) na≤1000000:=hc
  have h2:accS 1 (fun i=>cntE (ar i)) i+cntE (ar i)≤accS 1 (fun i=>cntE (ar i)) na:=accS_one 1 (fun i=>cntE (ar i)) hi
  omega
 have hnc:na+1≤cntE (.mk k s m nl li na ar):=na_cnt
 have hRc:=exG_clo (putE ln (resR ln le n) n (.mk k s m nl li na ar))
 have hC:=tabM_clo (n:=na) (f:=fun i=>exC (ar i)) fun i _=>exC_clo (ar i)
 have hdA: ∀ i,i<na→ ∃ r,List.drop (i*5) (tabM na fun i=>exC (ar i))=exC (ar i)++r:=fun i hi=>tabM_drop (f:=fun i=>exC (ar i)) (fun i=>exC_len (ar i)) hi
 by_cases hk:k=1
 ·have hput:=putE_name (ln:=ln) (R:=resR ln le n) (n:=n) (s:=s) (m:=m) (nl:=nl) (li:=li) (na:=na) (ar:=ar) hk
  generalize putE ln (resR ln le n) n (.mk k s m nl li na ar)=RR at*
  obtain ⟨c0,c1,c2,c3,c4,c5,c6,h5⟩:=exC_five RR
  rw [h5] at hRc ⊢
  rw [exC_mk]
  refine Wv.TC.by 55 [0,2,10,5,1,14,24,4,7,39,6] [(5,7),(6,8)] [.cell 4 46] (by kernel_rfl) Tryz.func24 rfl rfl rfl (by kernel_rfl) (by kernel_rfl) (Nat.le_of_ble_eq_true rfl) rfl ?clo ?_
  case clo=>exact hRc
  generalize hLd:(tabM na fun i=>exC (ar i))=L at*
  simp (maxSteps:=2000000) (disch:=first | omega | assumption | (simp only [Wv.Bx,simprocAttr]<;>omega) | fail) only [Wv.B,simprocAttr,decide_eq_true hk]
  refine wfor (σ:=Nat) (fun i=>[(1, .t n 6 LL),(2, .ptr 0 0),(4, .ptr 1 0),(5, .v (.int .i64 i))])
   (fun i=>[some (.blk [.v (.int .i64 k), .v (.string s), .v (.int .i64 m), .t nl 1 (tab nl fun i=> .v (.int .i64 (li i))), .t na 5 L]),some (.blk [.v (.int .i64 0), .v (.string ⟨#[]⟩), .v (.int .i64 0), .v (.slice none 0 0), .v (.slice none 0 0)])])
   (fun i=>i≤n∧ ∀ j,j<i→decide (ln j=s)=false) (fun i=>n - i) 0 ⟨Nat.zero_le _,fun j hj=>by omega⟩ (by simp (maxSteps:=2000000) (disch:=first | omega | assumption | (simp only [Wv.Bx,simprocAttr]<;>omega) | fail) only [Wv.B,simprocAttr]) (by simp (maxSteps:=2000000) (disch:=first | omega | assumption | (simp only [Wv.Bx,simprocAttr]<;>omega) | fail) only [Wv.B,simprocAttr]) ?_
  rintro i ⟨hi,hbef⟩
  by_cases hlt:i<n
  ·have e1:(i:Int)<n:=by omega
   obtain ⟨rr,hd⟩:=hdr i hlt
   cases hq:decide (ln i=s) with
   | true=>
    have hf:=findF_at (p:=fun i=>decide (ln i=s)) hlt hq hbef
    rw [hf] at hput
    have e2:resR ln le n i=resP ln le i:=if_pos hlt
    simp only [e2] at hput
    have T:=IH i hlt (by omega) (fun j hj=>hle j (by omega)) (le i) (hle i hlt).1 (hle i hlt).2
    rw [←resP_eq, ←hput] at T
    have hG:=exG_clo (le i)
    have hoy:=(hle i hlt).1
    have ht:=htk i hlt
    have hL1:=hLc i
    rw [h5] at T
    revert T
    revert hG
    revert hd
    generalize le i=y at hoy ⊢
    obtain ⟨k',s',n',nl',li',na',ar',rfl⟩:=ok_mk hoy
    rw [exC_mk]
    intro hd hG T
    simp only [List.cons_append,List.nil_append] at hd
    simp (maxSteps:=2000000) (disch:=first | omega | assumption | (simp only [Wv.Bx,simprocAttr]<;>omega) | fail) only [Wv.B,simprocAttr,decide_eq_true e1,hd,hq,ht]
    refine call_TC T rfl (clB2 hG (.t hL1)) hRc ?_
    simp (maxSteps:=2000000) (disch:=first | omega | assumption | (simp only [Wv.Bx,simprocAttr]<;>omega) | fail) only [Wv.B,simprocAttr]
   | false=>
    simp (maxSteps:=2000000) (disch:=first | omega | assumption | (simp only [Wv.Bx,simprocAttr]<;>omega) | fail) only [Wv.B,simprocAttr,decide_eq_true e1,hd,hq]
    refine k_next (i+1) ⟨by omega,fun j hj=>?_⟩ (by omega) rfl (by simp (maxSteps:=2000000) (disch:=first | omega | assumption | (simp only [Wv.Bx,simprocAttr]<;>omega) | fail) only [Wv.B,simprocAttr,Int.natCast_add,Int.natCast_one])
    by_cases e:j=i
    ·subst e;exact hq
    ·exact hbef j (by omega)
  obtain rfl:n=i:=by omega
  rw [findF_none hbef] at hput
  simp only at hput
  subst hput
  rw [exC_mk,hLd] at h5
  simp only [List.cons.injEq,AV.v.injEq,Value.int.injEq,Value.string.injEq,AV.t.injEq,true_and,and_true] at h5
  obtain ⟨q0,q1,q2,⟨q3,q4⟩,q5,q6⟩:=h5
  subst q0 q1 q2 q3 q4 q5 q6
  simp (maxSteps:=2000000) (disch:=first | omega | assumption | (simp only [Wv.Bx,simprocAttr]<;>omega) | fail) only [Wv.B,simprocAttr,Int.lt_irrefl,decide_false]
 ·rw [exC_put ln (resR ln le n) n hk] at hRc ⊢
  have hC2: ∀ i a,a∈tabM i (fun i=>exC (putE ln (resR ln le n) n (ar i)))→Clo a:=fun i=>tabM_clo fun i _=>exC_clo _
  have hS2:=fun i=>tabM_succ i (fun i=>exC (putE ln (resR ln le n) n (ar i)))
  have hN2: ∀ i,(tabM i fun i=>exC (putE ln (resR ln le n) n (ar i))).length=i*5:=fun i=>tabM_len fun i=>exC_len _
  rw [exC_mk]
  refine Wv.TC.by 55 [0,2,10,5,1,14,24,4,7,39,6] [(5,7),(6,8)] [.cell 4 46] (by kernel_rfl) Tryz.func24 rfl rfl rfl (by kernel_rfl) (by kernel_rfl) (Nat.le_of_ble_eq_true rfl) rfl ?clo ?_
  case clo=>exact hRc
  generalize (tabM na fun i=>exC (ar i))=L at*
  simp (maxSteps:=2000000) (disch:=first | omega | assumption | (simp only [Wv.Bx,simprocAttr]<;>omega) | fail) only [Wv.B,simprocAttr,decide_eq_false hk]
  refine wforE (σ:=Nat) (fun i=>[(1, .t n 6 LL),(2, .ptr 0 0),(4, .ptr 1 0),(6, .own 2 i),(7, .v (.int .i64 i))])
   (fun i=>[some (.blk [.v (.int .i64 k), .v (.string s), .v (.int .i64 m), .t nl 1 (tab nl fun i=> .v (.int .i64 (li i))), .t na 5 L]),some (.blk [.v (.int .i64 0), .v (.string ⟨#[]⟩), .v (.int .i64 0), .v (.slice none 0 0), .v (.slice none 0 0)]),some (.arr 46 5 (tabM i fun i=>exC (putE ln (resR ln le n) n (ar i))) 0)])
   (fun i=>i≤na) (fun i=>na - i) 0 (Nat.zero_le _) ?_ ?_
  ·refine Ent.trans (Ent.nil 6 46 5 (by omega) rfl) (Ent.fit ?_)
   simp (maxSteps:=2000000) (disch:=first | omega | assumption | (simp only [Wv.Bx,simprocAttr]<;>omega) | fail) only [Wv.B,simprocAttr]
  intro i hi
  by_cases hlt:i<na
  ·have e1:(i:Int)<na:=by omega
   have T:=ih i (hh i hlt) (hcn i hlt)
   have hG:=exG_clo (ar i)
   have hG2:=exG_clo (putE ln (resR ln le n) n (ar i))
   have hoy:=hh i hlt
   have hs2:=hS2 i
   have hc2:=hC2 (i+1)
   have hn2:=hN2 i
   obtain ⟨r,hd⟩:=hdA i hlt
   obtain ⟨c0,c1,c2,c3,c4,c5,c6,h5⟩:=exC_five (putE ln (resR ln le n) n (ar i))
   simp only [h5] at hs2
   rw [h5] at T hG2
   revert T
   revert hG
   revert hd
   generalize ar i=y at hoy ⊢
   obtain ⟨k',s',n',nl',li',na',ar',rfl⟩:=ok_mk hoy
   rw [exC_mk]
   intro hd hG T
   simp only [List.cons_append,List.nil_append] at hd
   simp (maxSteps:=2000000) (disch:=first | omega | assumption | (simp only [Wv.Bx,simprocAttr]<;>omega) | fail) only [Wv.B,simprocAttr,decide_eq_true e1,hd,hn2]
   refine call_TC T rfl (clB2 hG (.t hLcn)) hG2 ?_
   simp (maxSteps:=2000000) (disch:=first | omega | assumption | (simp only [Wv.Bx,simprocAttr]<;>omega) | fail) only [Wv.B,simprocAttr,hn2]
   have hcl2: ∀ m,loL m (tabM (i+1) fun i=>exC (putE ln (resR ln le n) n (ar i)))=True:=fun m=>eq_true fun a ha=> .clo (hc2 a ha)
   refine Wv.k_cut (i+1) 3 (by first | decide | exact Nat.le_of_ble_eq_true rfl) (by omega) (by omega) (by simp (maxSteps:=2000000) (disch:=first | omega | assumption | (simp only [Wv.Bx,simprocAttr]<;>omega) | fail) only [Wv.B,simprocAttr,tab_snoc,hs2]) (by simp (maxSteps:=2000000) (disch:=first | omega | assumption | (simp only [Wv.Bx,simprocAttr]<;>omega) | fail) only [Wv.B,simprocAttr,Int.natCast_add,Int.natCast_one,hs2]) (by simp only [↓reduceIte,List.take_zero,List.take_succ_cons,List.take_nil,Wv.BK,Nat.zero_lt_succ,Nat.lt_add_one,Nat.reduceLeDiff,Nat.lt_one_iff,Nat.one_lt_two,hcl2,eq_true hC,eq_true hLcn]<;>omega) (by simp only [↓reduceIte,List.take_zero,List.take_succ_cons,List.take_nil,Wv.BK,Nat.zero_lt_succ,Nat.lt_add_one,Nat.reduceLeDiff,Nat.lt_one_iff,Nat.one_lt_two,hcl2,eq_true hC,eq_true hLcn]<;>omega)
  ·obtain rfl:i=na:=by omega
   have hn2:=hN2 i
   have hcl: ∀ a b z,cellsA [a,b,some (.arr 46 5 (tabM i fun i=>exC (putE ln (resR ln le n) n (ar i))) z)] (.own 2 i)=some [.own 2 i]:=fun a b z=>cl_own (by rw [lv_own];show decide _=true;rw [hn2];simp)
   simp (maxSteps:=2000000) (disch:=first | omega | assumption | (simp only [Wv.Bx,simprocAttr]<;>omega) | fail) only [Wv.B,simprocAttr,Int.lt_irrefl,decide_false,hn2,hcl]
end Go.Proofs.YtljfgdlgmdcmfaaGreat
namespace Go.Proofs.YtljfgdlgmdcmfaaGreat
open Go.RowKit Wv
set_option linter.unusedVariables false
set_option linter.unusedSimpArgs false
theorem lon_parts {k:Int} {s:ByteArray} {m:Int} {nl:Nat} {li:Nat→Int} {na:Nat} {ar:Nat→Ex} (h:lonE (.mk k s m nl li na ar)=false):nl≤600∧ ∀ i,i<na→lonE (ar i)=false:=by
 have h0:accO (decide (600<(nl:Int))) (fun i=>lonE (ar i)) na=false:=h
 have key: ∀ n,accO (decide (600<(nl:Int))) (fun i=>lonE (ar i)) n=false→decide (600<(nl:Int))=false∧ ∀ i,i<n→lonE (ar i)=false:=fun n=>by
  induction n with
  | zero=>intro q;exact ⟨q,fun i hi=>by omega⟩
  | succ n ih=>
   intro q
   have q':(accO (decide (600<(nl:Int))) (fun i=>lonE (ar i)) n || lonE (ar n))=false:=q
   rw [Bool.or_eq_false_iff] at q'
   obtain ⟨a,b⟩:=ih q'.1
   refine ⟨a,fun i hi=>?_⟩
   by_cases e:i=n
   ·subst e;exact q'.2
   ·exact b i (by omega)
 obtain ⟨a,b⟩:=key na h0
 have:=of_decide_eq_false a
 exact ⟨by omega,b⟩
set_option maxHeartbeats 800000 in
set_option maxRecDepth 100000 in
theorem lcopy_tc: ∀ x,okE x→cntE x≤1000000→lonE x=false→TC Tryz.prog 59 [.g (exC x)] (.g (exC x)):=by
 intro x
 induction x with
 | nil=>intro h _ _;exact h.elim
 | mk k s m nl li na ar ih=>
 rintro ⟨hs,hnl,hna,hh⟩ hc hlo
 obtain ⟨hl0,hl1⟩:=lon_parts hlo
 have hRc:=exG_clo (.mk k s m nl li na ar)
 have hcn: ∀ i,i<na→cntE (ar i)≤1000000:=fun i hi=>by
  have h1:accS 1 (fun i=>cntE (ar i)) na≤1000000:=hc
  have h2:accS 1 (fun i=>cntE (ar i)) i+cntE (ar i)≤accS 1 (fun i=>cntE (ar i)) na:=accS_one 1 (fun i=>cntE (ar i)) hi
  omega
 have hnc:na+1≤cntE (.mk k s m nl li na ar):=na_cnt
 have hdA: ∀ i,i<na→ ∃ r,List.drop (i*5) (tabM na fun i=>exC (ar i))=exC (ar i)++r:=fun i hi=>tabM_drop (f:=fun i=>exC (ar i)) (fun i=>exC_len (ar i)) hi
 have hC2: ∀ i a,a∈tabM i (fun i=>exC (ar i))→Clo a:=fun i=>tabM_clo fun i _=>exC_clo _
 have hC:=hC2 na
 have hS2:=fun i=>tabM_succ i (fun i=>exC (ar i))
 have hN2: ∀ i,(tabM i fun i=>exC (ar i)).length=i*5:=fun i=>tabM_len fun i=>exC_len _
 rw [exC_mk] at hRc ⊢
 obtain ⟨L,hL⟩: ∃ L,L=tabM na fun i=>exC (ar i):=⟨_,rfl⟩
 refine Wv.TC.by 29 [0,1,4,14,3,2] [] [.cell 2 46] (by kernel_rfl) Tryz.func59 rfl rfl rfl (by kernel_rfl) (by kernel_rfl) (Nat.le_of_ble_eq_true rfl) rfl ?clo ?_
 case clo=>exact hRc
 rw [←hL] at hdA hC
 have hfin: ∀ l:List AV,l=(tabM na fun i=>exC (ar i))→AV.g [.v (.int .i64 k), .v (.string s), .v (.int .i64 m), .t nl 1 (tab nl fun i=> .v (.int .i64 (li i))), .t na 5 l]= .g [.v (.int .i64 k), .v (.string s), .v (.int .i64 m), .t nl 1 (tab nl fun i=> .v (.int .i64 (li i))), .t na 5 (tabM na fun i=>exC (ar i))]:=fun l e=>by rw [e]
 rw [←hL]
 simp (maxSteps:=2000000) (disch:=first | omega | assumption | (simp only [Wv.Bx,simprocAttr]<;>omega) | fail) only [Wv.B,simprocAttr]
 refine wforE (σ:=Nat) (fun i=>[(1, .ptr 0 0),(2, .ptr 1 0),(3, .own 3 i),(4, .v (.int .i64 i))])
  (fun i=>[some (.blk [.v (.int .i64 k), .v (.string s), .v (.int .i64 m), .own 2 nl, .t na 5 L]),some (.blk [.v (.int .i64 0), .v (.string ⟨#[]⟩), .v (.int .i64 0), .v (.slice none 0 0), .v (.slice none 0 0)]),some (.arr 2 1 (tab nl fun i=> .v (.int .i64 (li i))) 0),some (.arr 46 5 (tabM i fun i=>exC (ar i)) 0)])
  (fun i=>i≤na) (fun i=>na - i) 0 (Nat.zero_le _) ?_ ?_
 ·refine Ent.trans (Ent.nil 3 46 5 (by omega) rfl) (Ent.fit ?_)
  simp (maxSteps:=2000000) (disch:=first | omega | assumption | (simp only [Wv.Bx,simprocAttr]<;>omega) | fail) only [Wv.B,simprocAttr]
 intro i hi
 by_cases hlt:i<na
 ·have e1:(i:Int)<na:=by omega
  have T:=ih i (hh i hlt) (hcn i hlt) (hl1 i hlt)
  have hG:=exG_clo (ar i)
  have hoy:=hh i hlt
  have hs2:=hS2 i
  have hc2:=hC2 (i+1)
  have hn2:=hN2 i
  have hcl2: ∀ m,loL m (tabM (i+1) fun i=>exC (ar i))=True:=fun m=>eq_true fun a ha=> .clo (hc2 a ha)
  obtain ⟨r,hd⟩:=hdA i hlt
  obtain ⟨c0,c1,c2,c3,c4,c5,c6,h5⟩:=exC_five (ar i)
  simp only [h5,List.cons_append,List.nil_append] at hd hs2
  rw [h5] at T hG
  simp (maxSteps:=2000000) (disch:=first | omega | assumption | (simp only [Wv.Bx,simprocAttr]<;>omega) | fail) only [Wv.B,simprocAttr,decide_eq_true e1,hd,hn2]
  refine call_TC T rfl (cloA1 hG) hG ?_
  simp (maxSteps:=2000000) (disch:=first | omega | assumption | (simp only [Wv.Bx,simprocAttr]<;>omega) | fail) only [Wv.B,simprocAttr,hn2]
  refine Wv.k_cut (i+1) 4 (by first | decide | exact Nat.le_of_ble_eq_true rfl) (by omega) (by omega) (by simp (maxSteps:=2000000) (disch:=first | omega | assumption | (simp only [Wv.Bx,simprocAttr]<;>omega) | fail) only [Wv.B,simprocAttr,tab_snoc,hs2]) (by simp (maxSteps:=2000000) (disch:=first | omega | assumption | (simp only [Wv.Bx,simprocAttr]<;>omega) | fail) only [Wv.B,simprocAttr,Int.natCast_add,Int.natCast_one,hs2]) (by simp only [↓reduceIte,List.take_zero,List.take_succ_cons,List.take_nil,Wv.BK,Nat.zero_lt_succ,Nat.lt_add_one,Nat.reduceLeDiff,Nat.lt_one_iff,Nat.one_lt_two,hcl2,eq_true hC]<;>omega) (by simp only [↓reduceIte,List.take_zero,List.take_succ_cons,List.take_nil,Wv.BK,Nat.zero_lt_succ,Nat.lt_add_one,Nat.reduceLeDiff,Nat.lt_one_iff,Nat.one_lt_two,hcl2,eq_true hC]<;>omega)
 ·obtain rfl:i=na:=by omega
  have hn2:=hN2 i
  have hcl: ∀ a b c z,cellsA [a,b,c,some (.arr 46 5 (tabM i fun i=>exC (ar i)) z)] (.own 3 i)=some [.own 3 i]:=fun a b c z=>cl_own (by rw [lv_own];show decide _=true;rw [hn2];simp)
  simp (maxSteps:=2000000) (disch:=first | omega | assumption | (simp only [Wv.Bx,simprocAttr]<;>omega) | fail) only [Wv.B,simprocAttr,Int.lt_irrefl,decide_false,hn2,hcl]
  rw [hL]
set_option maxHeartbeats 800000 in
set_option maxRecDepth 100000 in
theorem lCopied_ht (A B:List AV) (hA: ∀ a,a∈A→Clo a) (hB: ∀ a,a∈B→Clo a) (c:Ci) (h:okC c) (hni:c.ni≤1000) (hno:c.no≤1000) (hnl:c.nl≤1000) (hle: ∀ i,i<c.nl→cntE (c.le i)≤1000000∧lonE (c.le i)=false):
  HT Tryz.prog 18 [.g (ciC c)] [some (.blk A),some (.blk B)] (fun r h'=>r= .g [.v (.string c.name),strsA c.ni c.fi, .own 4 c.nl,strsA c.no c.fo]∧ ∃ a b,h'=[some (.blk A),some (.blk B),a,b,some (.arr 49 6 c.lets 0)]):=by
 have hLc:=lets_clo c
 have hdr: ∀ i,i<c.nl→ ∃ r,List.drop (i*6) c.lets= .v (.string (c.ln i))::(exC (c.le i)++r):=fun i hi=>by
  obtain ⟨r,h⟩:=tabM_drop (f:=fun i=>letC (c.ln i) (c.le i)) (fun i=>letC_len _ _) hi
  exact ⟨r,h⟩
 have hC2: ∀ i a,a∈tabM i (fun i=>letC (c.ln i) (c.le i))→Clo a:=fun i=>tabM_clo fun i _=>letC_clo _ _
 have hS2:=fun i=>tabM_succ i (fun i=>letC (c.ln i) (c.le i))
 have hN2: ∀ i,(tabM i fun i=>letC (c.ln i) (c.le i)).length=i*6:=fun i=>tabM_len fun i=>letC_len _ _
 have hlets:c.lets=tabM c.nl fun i=>letC (c.ln i) (c.le i):=rfl
 unfold ciC strsA
 obtain ⟨LL,hLL⟩: ∃ LL,LL=c.lets:=⟨_,rfl⟩
 refine Wv.HT.byO 42 [0,1,4,19,3,2] [(1,9),(1000000,2),(6,16),(3000006,16)] [.cell 2 29] (by kernel_rfl) Tryz.func18 rfl rfl rfl (by kernel_rfl) (by kernel_rfl) (Nat.le_of_ble_eq_true rfl) ?base ?_
 case base=>rfl
 rw [←hLL]
 have hLL2: ∀ a,a∈LL→Clo a:=by rw [hLL];exact hLc
 have hAl: ∀ m,loL m A=True:=fun m=>eq_true fun a ha=> .clo (hA a ha)
 have hBl: ∀ m,loL m B=True:=fun m=>eq_true fun a ha=> .clo (hB a ha)
 have tS: ∀ (n:Nat) (f:Nat→ByteArray) (h:Hp),(tab n fun i=>AV.v (.string (f i))).all (oneA h)=true:=fun n f h=>tab_all fun _ _=>rfl
 simp (maxSteps:=2000000) (disch:=first | omega | assumption | (simp only [Wv.Bx,simprocAttr]<;>omega) | fail) only [Wv.B,simprocAttr,tS]
 refine wforE (σ:=Nat) (fun i=>[(1, .ptr 2 0),(2, .ptr 3 0),(3, .own 4 i),(4, .v (.int .i64 i))])
  (fun i=>[some (.blk A),some (.blk B),some (.blk [.v (.string c.name), .t c.ni 1 (tab c.ni fun i=> .v (.string (c.fi i))), .t c.nl 6 LL, .t c.no 1 (tab c.no fun i=> .v (.string (c.fo i)))]),some (.blk [.v (.string ⟨#[]⟩), .v (.slice none 0 0), .v (.slice none 0 0), .v (.slice none 0 0)]),some (.arr 49 6 (tabM i fun i=>letC (c.ln i) (c.le i)) 0)])
  (fun i=>i≤c.nl) (fun i=>c.nl - i) 0 (Nat.zero_le _) ?_ ?_
 ·refine Ent.trans (Ent.nil 3 49 6 (by omega) rfl) (Ent.fit ?_)
  simp (maxSteps:=2000000) (disch:=first | omega | assumption | (simp only [Wv.Bx,simprocAttr]<;>omega) | fail) only [Wv.B,simprocAttr]
 intro i hi
 by_cases hlt:i<c.nl
 ·have e1:(i:Int)<c.nl:=by omega
  have hoy:=(h.le i hlt).1
  have T:=lcopy_tc (c.le i) hoy (hle i hlt).1 (hle i hlt).2
  have hG:=exG_clo (c.le i)
  have hs2:=hS2 i
  have hc2:=hC2 (i+1)
  have hn2:=hN2 i
  have hcl2: ∀ m,loL m (tabM (i+1) fun i=>letC (c.ln i) (c.le i))=True:=fun m=>eq_true fun a ha=> .clo (hc2 a ha)
  obtain ⟨r,hd⟩:=hdr i hlt
  have hlet:letC (c.ln i) (c.le i)= .v (.string (c.ln i))::exC (c.le i):=rfl
  obtain ⟨c0,c1,c2,c3,c4,c5,c6,h5⟩:=exC_five (c.le i)
  rw [hlet] at hs2
  simp only [h5,List.cons_append,List.nil_append] at hd hs2
  rw [h5] at T hG
  rw [←hLL] at hd
  simp (maxSteps:=2000000) (disch:=first | omega | assumption | (simp only [Wv.Bx,simprocAttr]<;>omega) | fail) only [Wv.B,simprocAttr,decide_eq_true e1,hd,hn2]
  refine calm_TC T (viewL_cons (view2_clo hG) viewL_nil) (cloA1 hG) hG ?_
  simp (maxSteps:=2000000) (disch:=first | omega | assumption | (simp only [Wv.Bx,simprocAttr]<;>omega) | fail) only [Wv.B,simprocAttr,hn2]
  refine Wv.k_cut (i+1) 5 (by first | decide | exact Nat.le_of_ble_eq_true rfl) (by omega) (by omega) (by simp (maxSteps:=2000000) (disch:=first | omega | assumption | (simp only [Wv.Bx,simprocAttr]<;>omega) | fail) only [Wv.B,simprocAttr,tab_snoc,hs2]) (by simp (maxSteps:=2000000) (disch:=first | omega | assumption | (simp only [Wv.Bx,simprocAttr]<;>omega) | fail) only [Wv.B,simprocAttr,Int.natCast_add,Int.natCast_one,hs2]) (by simp only [↓reduceIte,List.take_zero,List.take_succ_cons,List.take_nil,Wv.BK,Nat.zero_lt_succ,Nat.lt_add_one,Nat.reduceLeDiff,Nat.lt_one_iff,Nat.one_lt_two,hcl2,hAl,hBl,eq_true hLL2]<;>omega) (by simp only [↓reduceIte,List.take_zero,List.take_succ_cons,List.take_nil,Wv.BK,Nat.zero_lt_succ,Nat.lt_add_one,Nat.reduceLeDiff,Nat.lt_one_iff,Nat.one_lt_two,hcl2,hAl,hBl,eq_true hLL2]<;>omega)
 ·obtain rfl:i=c.nl:=by omega
  have hn2:=hN2 c.nl
  rw [←hlets, ←hLL] at hn2
  have hcl: ∀ a b c' d z,cellsA [a,b,c',d,some (.arr 49 6 LL z)] (.own 4 c.nl)=some [.own 4 c.nl]:=fun a b c' d z=>cl_own (by rw [lv_own];show decide _=true;rw [hn2];simp)
  rw [←hlets, ←hLL]
  simp (maxSteps:=2000000) (disch:=first | omega | assumption | (simp only [Wv.Bx,simprocAttr]<;>omega) | fail) only [Wv.B,simprocAttr,Int.lt_irrefl,decide_false,hn2,hcl,finO1,finO0]
  exact ⟨_,_,rfl⟩
end Go.Proofs.YtljfgdlgmdcmfaaGreat
namespace Go.Proofs.YtljfgdlgmdcmfaaGreat
open Go.RowKit Wv
set_option linter.unusedVariables false
set_option linter.unusedSimpArgs false
theorem setLA_get: ∀ (l L:List AV) (o i:Nat),o+l.length≤L.length→(setLA L o l)[i]? =if o≤i∧i<o+l.length then l[i - o]? else L[i]?
 | [],L,o,i,h=>by
  rw [if_neg (by simp only [List.length_nil];omega)];rfl
 | a::r,L,o,i,h=>by
  rw [List.length_cons] at h
  show (setLA (L.set o a) (o+1) r)[i]? =_
  rw [setLA_get r (L.set o a) (o+1) i (by rw [List.length_set];omega),List.length_cons]
  by_cases e:o=i
  ·subst e
   rw [if_neg (by omega),if_pos (by omega),List.getElem?_set_self (by omega),Nat.sub_self];rfl
  ·by_cases q:o+1≤i∧i<o+1+r.length
   ·rw [if_pos q,if_pos (by omega)]
    obtain ⟨k,rfl⟩: ∃ k,i=o+1+k:=⟨i - (o+1),by omega⟩
    rw [show o+1+k - (o+1)=k by omega,show o+1+k - o=k+1 by omega];rfl
   ·rw [if_neg q,if_neg (by omega),List.getElem?_set_ne e]
theorem lets_put {c:Ci} {a:Nat} (ha:a<c.nl):setLA c.lets (a*6+1) (exC (resP c.ln c.le a))=(putC c a).lets:=by
 have h5:=exC_len (resP c.ln c.le a)
 have hL:c.lets.length=c.nl*6:=lets_len c
 have hP:(putC c a).lets.length=c.nl*6:=lets_len (putC c a)
 have ha6:(a+1)*6≤c.nl*6:=Nat.mul_le_mul_right 6 ha
 refine List.ext_getElem? fun i=>?_
 rw [setLA_get _ _ _ _ (by rw [h5,hL];omega),h5]
 by_cases hi:i<c.nl*6
 ·obtain ⟨q,r,hr,rfl⟩: ∃ q r,r<6∧i=q*6+r:=⟨i / 6,i % 6,Nat.mod_lt _ (by omega),by omega⟩
  have hq:q<c.nl:=by omega
  have g1:c.lets[q*6+r]? =(letC (c.ln q) (c.le q))[r]? :=flat_get (f:=fun i=>letC (c.ln i) (c.le i)) (fun i _=>letC_len _ _) q r hq hr
  have g2:(putC c a).lets[q*6+r]? =(letC (c.ln q) (if q=a then resP c.ln c.le a else c.le q))[r]? :=flat_get (f:=fun i=>letC (c.ln i) (if i=a then resP c.ln c.le a else c.le i)) (fun i _=>letC_len _ _) q r hq hr
  rw [g1,g2]
  by_cases e:q=a
  ·subst e
   rw [if_pos rfl]
   by_cases h0:r=0
   ·subst h0
    rw [if_neg (by omega)];rfl
   ·rw [if_pos (by omega)]
    obtain ⟨k,rfl⟩: ∃ k,r=k+1:=⟨r - 1,by omega⟩
    rw [show q*6+(k+1) - (q*6+1)=k by omega];rfl
  ·rw [if_neg e,if_neg (by omega)]
 ·rw [if_neg (by omega),List.getElem?_eq_none (by omega),List.getElem?_eq_none (by omega)]
theorem ok_put {ln:Nat→ByteArray} {R:Nat→Ex} {n:Nat} (hR: ∀ i,i<n→okE (R i)): ∀ x,okE x→okE (putE ln R n x):=
 put_ind (p:=fun x y=>okE x→okE y) (fun h=>h) (fun k s m nl li na ar i hk hi hs h=>hR i hi) (fun k s m nl li na ar hk h=>h) fun k s m nl li na ar hk ih h=>⟨h.1,h.2.1,h.2.2.1,fun i hi=>ih i (h.2.2.2 i hi)⟩
theorem resP_ok {ln:Nat→ByteArray} {le:Nat→Ex}: ∀ (n:Nat),(∀ i,i≤n→okE (le i))→okE (resP ln le n):=by
 intro n
 induction n using Nat.strongRecOn with
 | ind n IH=>
 intro h
 rw [resP_eq]
 refine ok_put (fun i hi=>?_) _ (h n (Nat.le_refl _))
 have e:resR ln le n i=resP ln le i:=if_pos hi
 rw [e]
 exact IH i hi fun j hj=>h j (by omega)
theorem put_cnt {ln:Nat→ByteArray} {R:Nat→Ex} {Z:Nat→Nat} {n:Nat} (hR: ∀ i,i<n→Z i≤2000→cntE (R i)≤Z i): ∀ x,formB x=true→sizE ln Z n x≤2000→cntE (putE ln R n x)≤sizE ln Z n x:=by
 intro x
 induction x with
 | nil=>intro h;cases h
 | mk k s m nl li na ar ih=>
  intro hf
  have hfin:sizE ln Z n (.mk k s m nl li na ar)=(if k=1 then (findF (fun i=>decide (ln i=s)) n).map Z else none).getD (sumC (fun i=>sizE ln Z n (ar i)) na):=rfl
  rw [hfin]
  by_cases hk:k=1
  ·rw [if_pos hk,putE_name hk]
   have hna:=name_args hf hk
   rcases findF_cases (fun i=>decide (ln i=s)) n with ⟨i,q,hi,_⟩ | ⟨q,_⟩
   ·rw [q,Option.map_some,Option.getD_some]
    exact fun h=>hR i hi h
   ·rw [q,Option.map_none,Option.getD_none]
    subst hna
    exact fun _=>Nat.le_refl 1
  ·rw [if_neg hk,Option.getD_none,putE_node hk]
   have hA:=(formB_args hf).2.2
   have key: ∀ j,j≤na→sumC (fun i=>sizE ln Z n (ar i)) j≤2000→accS 1 (fun i=>cntE (putE ln R n (ar i))) j≤sumC (fun i=>sizE ln Z n (ar i)) j:=by
    intro j
    induction j with
    | zero=>exact fun _ _=>Nat.le_refl 1
    | succ j ihj=>
     intro hj hs
     have e:sumC (fun i=>sizE ln Z n (ar i)) (j+1)=if sumC (fun i=>sizE ln Z n (ar i)) j≤2000 then sumC (fun i=>sizE ln Z n (ar i)) j+sizE ln Z n (ar j) else sumC (fun i=>sizE ln Z n (ar i)) j:=rfl
     have e2:accS 1 (fun i=>cntE (putE ln R n (ar i))) (j+1)=accS 1 (fun i=>cntE (putE ln R n (ar i))) j+cntE (putE ln R n (ar j)):=rfl
     by_cases q:sumC (fun i=>sizE ln Z n (ar i)) j≤2000
     ·rw [if_pos q] at e
      have:=ihj (by omega) q
      have:=ih j (hA j (by omega)) (by omega)
      omega
     ·rw [if_neg q] at e;omega
   exact key na (Nat.le_refl _)
theorem resP_cnt {ln:Nat→ByteArray} {le:Nat→Ex}: ∀ (n:Nat),(∀ i,i≤n→formB (le i)=true)→grZ ln le n≤2000→cntE (resP ln le n)≤grZ ln le n:=by
 intro n
 induction n using Nat.strongRecOn with
 | ind n IH=>
 intro h hg
 rw [grZ_eq] at hg ⊢
 have hs:sizE ln (grZ ln le) n (le n)≤2000:=by omega
 rw [resP_eq]
 refine Nat.le_trans (put_cnt (Z:=grZ ln le) (fun i hi hz=>?_) _ (h n (Nat.le_refl _)) hs) (by omega)
 have e:resR ln le n i=resP ln le i:=if_pos hi
 rw [e]
 exact IH i hi (fun j hj=>h j (by omega)) hz
theorem typeQ_err {me:Int} {c:Ci} {ru:Ex→Nat→Except Int Nat} (h:(typeQ me c ru).2.2≠0):(typeQ me c ru).1=[]:=by
 unfold typeQ at h ⊢
 split
 ·rfl
 ·next h1=>
  rw [if_neg h1] at h
  split
  ·rfl
  ·next h2=>
   rw [if_neg h2] at h
   have t1:typeT c ru=match insT c.fi c.ni with | none=>([], -1,230) | some ns=>midT c (letT ns c.ln (fun ns i=>shE ns ru (c.le i)) c.nl):=rfl
   rw [t1] at h ⊢
   cases hi:insT c.fi c.ni with
   | none=>rfl
   | some ns=>
    rw [hi] at h
    simp only at h ⊢
    cases hl:letT ns c.ln (fun ns i=>shE ns ru (c.le i)) c.nl with
    | error p=>rfl
    | ok q=>
     rw [hl] at h
     have m1:midT c (.ok q)=lastT q.2 c.nl (outT q.1 c.fo c.no):=rfl
     rw [m1] at h ⊢
     cases ho:outT q.1 c.fo c.no with
     | none=>rw [ho] at h;exact absurd rfl h
     | some e=>rfl
theorem typeQ_ok {me:Int} {c:Ci} {ru:Ex→Nat→Except Int Nat} (h:(typeQ me c ru).2.2=0):me=0∧checkI c=0∧typeQ me c ru=typeT c ru:=by
 unfold typeQ at h ⊢
 by_cases h1:me=0
 ·rw [if_neg (by simp [h1])] at h ⊢
  by_cases h2:checkI c=0
  ·exact ⟨h1,h2,by rw [if_neg (by simp [h2])]⟩
  ·rw [if_pos (by simpa using h2)] at h
   exact absurd h h2
 ·rw [if_pos (by simpa using h1)] at h
  cases h
theorem names_law {me:Int} {c:Ci} {ru:Ex→Nat→Except Int Nat} (hru: ∀ k s m nl li na ar ar' u,ru (.mk k s m nl li na ar) u=ru (.mk k s m nl li na ar') u) (hne: ∀ x u er,ru x u= .error er→er≠0) {a:Nat} (ha:a<c.nl) (h:(typeQ me c ru).2.2=0):
  (typeQ me c ru).1.length=c.nl∧(∃ r,(typeQ me c ru).1[a]? =some r∧shInv r)∧((typeQ me (putC c a) ru).2.2=3∨typeQ me (putC c a) ru=typeQ me c ru):=by
 obtain ⟨h1,h2,h3⟩:=typeQ_ok h
 rw [h3] at h
 obtain ⟨q1,q2,q3⟩:=put_type hru hne ha h2 h
 rw [h3]
 refine ⟨q2,q3,?_⟩
 have hc:=put_check (a:=a) ha h2
 unfold typeQ
 rw [if_neg (by simp [h1])]
 by_cases hs:smallB (putC c a)=true
 ·rw [if_pos hs] at hc
  rw [if_neg (by simp [hc])]
  exact .inr q1
 ·rw [if_neg hs] at hc
  rw [if_pos (by rw [hc];decide)]
  exact .inl hc
theorem ruA_args (x:Par) (t:Nat): ∀ k s m nl li na ar ar' u,ruA x t (.mk k s m nl li na ar) u=ruA x t (.mk k s m nl li na ar') u:=fun k s m nl li na ar ar' u=>rfl
theorem putC_ok {c:Ci} (h:okC c) {a:Nat} (ha:a<c.nl) (hc:checkI c=0) (hg:grZ c.ln c.le a≤2000):okC (putC c a) where
 name:=h.name
 ni:=h.ni
 nl:=h.nl
 no:=h.no
 fi:=h.fi
 fo:=h.fo
 ln:=h.ln
 le:=fun i hi=>by
  show okE (if i=a then resP c.ln c.le a else c.le i)∧cntE (if i=a then resP c.ln c.le a else c.le i)≤_
  split
  ·exact ⟨resP_ok a fun j hj=>(h.le j (by omega)).1,by have:=resP_cnt (ln:=c.ln) (le:=c.le) a (fun j hj=>check_form hc (by omega)) hg;omega⟩
  ·exact h.le i hi
theorem check_lon {c:Ci} (hc:checkI c=0) {i:Nat} (hi:i<c.nl):lonE (c.le i)=false:=by
 unfold checkI at hc
 split at hc
 ·cases hc
 ·split at hc
  ·cases hc
  ·by_cases hs:smallB c=true
   ·unfold smallB at hs
    simp only [Bool.not_eq_true'] at hs
    have:=any_false hs hi
    unfold Ci.big at this
    simp only [Bool.or_eq_false_iff] at this
    exact this.2.2
   ·rw [if_neg hs] at hc;cases hc
end Go.Proofs.YtljfgdlgmdcmfaaGreat
namespace Go.Proofs.YtljfgdlgmdcmfaaGreat
open Go.RowKit
theorem SliceAt.below {w w':World} {v:Value} {l:List Nat} (h:SliceAt w v l) (hb:Below w.heap.size w w'):SliceAt w' v l:=by
 obtain ⟨p,cap,h1,h2,h3,h4⟩:=h
 exact ⟨p,cap,h1,h2,h3,fun hne=>by obtain ⟨b,off,e,hr⟩:=h4 hne;exact ⟨b,off,e,hr.below hb hr.blk⟩⟩
theorem okB_dim {pr:Nat→Bool} {x:Par} (h:okB pr x=true):4≤x.n∧x.n≤32:=by
 have hd:isDim x.n=true:=by rw [okB_conds] at h;simp only [Bool.and_eq_true] at h;exact h.1
 have:=isDim_cases hd;omega
theorem bel_then {B:Nat} {a X w:World} (hb:Below X.heap.size X w) (h:Below B a X) (hB:B≤X.heap.size):Below B a w:=h.trans (hb.mono hB)
def modB (pr:Nat→Bool) (x:Par) (k:Int):Bool:=okB pr x && (decide (1≤k) && decide (k≤x.r))
def modErr (pr:Nat→Bool) (x:Par) (k:Int):Int:=if modB pr x k then 0 else 2
def modVal (pr:Nat→Bool) (x:Par) (k:Int):Nat:=if modB pr x k then powv pr x.n x.p k else 0
theorem mod_no {pr:Nat→Bool} {x:Par} {k:Int} (h:modB pr x k=false):modErr pr x k=2∧modVal pr x k=0:=by unfold modErr modVal;rw [h];exact ⟨rfl,rfl⟩
theorem mod_yes {pr:Nat→Bool} {x:Par} {k:Int} (h:modB pr x k=true):modErr pr x k=0∧modVal pr x k=powv pr x.n x.p k:=by unfold modErr modVal;rw [h];exact ⟨rfl,rfl⟩
set_option maxHeartbeats 1000000 in
set_option maxRecDepth 100000 in
theorem pmod_any (x:Par) (cv:Value) (k:Int) (w:World) (hx:ParOk x) (hcv:SliceAt w cv x.ch):
  Calls Tryz.prog 60 #[x.val cv, .int .i64 k] w fun r w'=>r= .returned (.tuple #[.int .i64 (modVal mPrime x k:Nat), .int .i64 (modErr mPrime x k)])∧Below w.heap.size w w':=by
 have hB:Hid (BoxP (w.alloc (.cells #[.int .i64 x.n, .int .u32 x.p, .int .i64 x.r,cv, .int .u32 x.sp, .int .i64 x.wt, .int .u32 x.er] 25)) w.heap.size x cv):=by constructor<;>simp [go_sem]
 have hbW:Hid (Below w.heap.size w (w.alloc (.cells #[.int .i64 x.n, .int .u32 x.p, .int .i64 x.r,cv, .int .u32 x.sp, .int .i64 x.wt, .int .u32 x.er] 25))):=(Below.refl _ _).alloc (Nat.le_refl _) _
 have HS:Hid (SliceAt (w.alloc (.cells #[.int .i64 x.n, .int .u32 x.p, .int .i64 x.r,cv, .int .u32 x.sp, .int .i64 x.wt, .int .u32 x.er] 25)) cv x.ch):=hcv.below hbW.out
 have hlt:w.heap.size<(w.alloc (.cells #[.int .i64 x.n, .int .u32 x.p, .int .i64 x.r,cv, .int .u32 x.sp, .int .i64 x.wt, .int .u32 x.er] 25)).heap.size:=by simp
 unfold Par.val
 cases hok:okB mPrime x with
 | false=>
  have HC:Hid (chk mPrime x=2):=chk_two hok
  have HR:Hid (modErr mPrime x k=2∧modVal mPrime x k=0):=mod_no (by unfold modB;rw [hok];rfl)
  clear hok
  go_enter Tryz.func60,Tryz.ntmps60
  go_wp2_with fail
  refine (pcheck_any x cv _ hx HS.out).mono ?_
  rintro e w1 ⟨rfl,hb1⟩
  have y0:=(hB.out.below hb1 hlt).n;have y1:=(hB.out.below hb1 hlt).p;have y2:=(hB.out.below hb1 hlt).r
  have HB1:=Lib.hid (bel_then hb1 hbW.out (by simp))
  clear hb1
  rw [HC.out]
  go_wp2_with fail
  go_ret2
  exact ⟨by rw [HR.out.1,HR.out.2];rfl,HB1.out⟩
 | true=>
  have hd:=okB_dim hok
  have hn4:=hd.1;have hn32:=hd.2
  have HC:Hid (chk mPrime x=0):=chk_ok hok
  clear hd
  by_cases h1:k<1
  ·have HR:Hid (modErr mPrime x k=2∧modVal mPrime x k=0):=mod_no (by unfold modB;rw [decide_eq_false (show ¬ 1≤k by omega)];simp)
   have d1:decide (k<1)=true:=decide_eq_true h1
   clear hok
   go_enter Tryz.func60,Tryz.ntmps60
   go_wp2_with fail
   refine (pcheck_any x cv _ hx HS.out).mono ?_
   rintro e w1 ⟨rfl,hb1⟩
   have y0:=(hB.out.below hb1 hlt).n;have y1:=(hB.out.below hb1 hlt).p;have y2:=(hB.out.below hb1 hlt).r
   have HB1:=Lib.hid (bel_then hb1 hbW.out (by simp))
   clear hb1
   rw [HC.out]
   go_wp2_with fail
   go_ret2
   exact ⟨by rw [HR.out.1,HR.out.2];rfl,HB1.out⟩
  ·by_cases h2:x.r<k
   ·have HR:Hid (modErr mPrime x k=2∧modVal mPrime x k=0):=mod_no (by unfold modB;rw [decide_eq_false (show ¬ k≤x.r by omega)];simp)
    have d1:decide (k<1)=false:=decide_eq_false h1
    have d2:decide (x.r<k)=true:=decide_eq_true h2
    clear hok
    go_enter Tryz.func60,Tryz.ntmps60
    go_wp2_with fail
    refine (pcheck_any x cv _ hx HS.out).mono ?_
    rintro e w1 ⟨rfl,hb1⟩
    have y0:=(hB.out.below hb1 hlt).n;have y1:=(hB.out.below hb1 hlt).p;have y2:=(hB.out.below hb1 hlt).r
    have HB1:=Lib.hid (bel_then hb1 hbW.out (by simp))
    clear hb1
    rw [HC.out]
    go_wp2_with fail
    go_ret2
    exact ⟨by rw [HR.out.1,HR.out.2];rfl,HB1.out⟩
   ·have HR:Hid (modErr mPrime x k=0∧modVal mPrime x k=powv mPrime x.n x.p k):=mod_yes (by unfold modB;rw [hok,decide_eq_true (show 1≤k by omega),decide_eq_true (show k≤x.r by omega)];rfl)
    have d1:decide (k<1)=false:=decide_eq_false h1
    have d2:decide (x.r<k)=false:=decide_eq_false h2
    have hr1:=hx.r1
    have hp1:=hx.p1
    clear hok
    go_enter Tryz.func60,Tryz.ntmps60
    go_wp2_with fail
    refine (pcheck_any x cv _ hx HS.out).mono ?_
    rintro e w1 ⟨rfl,hb1⟩
    have y0:=(hB.out.below hb1 hlt).n;have y1:=(hB.out.below hb1 hlt).p;have y2:=(hB.out.below hb1 hlt).r
    have HB1:=Lib.hid (bel_then hb1 hbW.out (by simp))
    clear hb1
    rw [HC.out]
    go_wp2_with fail
    refine (ppower_any _ _ _ _ hn4 hn32 hp1 (by omega) (by omega)).mono ?_
    rintro e w2 ⟨rfl,hb2⟩
    have HB2:=Lib.hid (HB1.out.trans (hb2.mono HB1.out.size))
    clear hb2
    go_wp2_with fail
    go_ret2
    exact ⟨by rw [HR.out.1,HR.out.2];rfl,HB2.out⟩
end Go.Proofs.YtljfgdlgmdcmfaaGreat
namespace Go.Proofs.YtljfgdlgmdcmfaaGreat
open Go.RowKit Wv
set_option linter.unusedVariables false
set_option linter.unusedSimpArgs false
theorem par_rep {X : Cx} {x : Par} {v : Value} (hlen : x.ch.length ≤ 140737488351232) (hrng : ∀ q, q ∈ x.ch → q < 4294967296) (h : Rep X (.g (parC x)) v) : ∃ cv, v = x.val cv ∧ SliceAt X.w cv x.ch := by
  cases h with
  | g hc hr =>
  rename_i cvs
  unfold parC at hc hr
  match cvs, hc with
  | [c0, c1, c2, c3, c4, c5, c6], _ =>
    have e0 := rep_v (hr 0 _ c0 rfl rfl)
    have e1 := rep_v (hr 1 _ c1 rfl rfl)
    have e2 := rep_v (hr 2 _ c2 rfl rfl)
    have e4 := rep_v (hr 4 _ c4 rfl rfl)
    have e5 := rep_v (hr 5 _ c5 rfl rfl)
    have e6 := rep_v (hr 6 _ c6 rfl rfl)
    have h3 := hr 3 _ c3 rfl rfl
    subst e0 e1 e2 e4 e5 e6
    refine ⟨c3, rfl, ?_⟩
    cases h3 with
    | @t _ _ _ p cap cs hl hcs hn hcap hp hrr =>
      refine ⟨p, cap, rfl, hn, hlen, fun hne => ?_⟩
      obtain ⟨b, off, rfl, hq⟩ := hp (List.length_pos_iff.2 hne)
      refine ⟨b, off, rfl, ?_⟩
      have key : ∀ i (hi : i < x.ch.length), cellAt X.w b (off + i) = some (.int .u32 (x.ch[i] : Nat)) := fun i hi => by
       have hi2 : i < cs.length := by rw [hcs, List.length_map]; exact hi
       have h5 := hq i cs[i] (List.getElem?_eq_getElem hi2)
       have h6 := hrr i (.v (.int .u32 x.ch[i])) cs[i] (by rw [List.getElem?_map, List.getElem?_eq_getElem hi]; rfl) (List.getElem?_eq_getElem hi2)
       rw [rep_v h6] at h5
       exact h5.1
      exact ⟨cellAt_lt (key 0 (List.length_pos_iff.2 hne)), key, hrng⟩
theorem pmodulus_tc (x:Par) (k:Int) (hx:ParOk x) (hlen:x.ch.length≤140737488351232) (hrng: ∀ q,q∈x.ch→q<4294967296):TC Tryz.prog 60 [.g (parC x), .v (.int .i64 k)] (.tup [.v (.int .i64 (modVal mPrime x k:Nat)), .v (.int .i64 (modErr mPrime x k))]):=by
 refine ⟨by kernel_rfl,fun X vs hX hbad hr=>?_⟩
 obtain ⟨h1,h2⟩:=hr
 match vs,h1 with
 | [v0,v1],_=>
  obtain ⟨cv,rfl,hs⟩:=par_rep hlen hrng (h2 0 _ v0 rfl rfl)
  have e1:=rep_v (h2 1 _ v1 rfl rfl)
  subst e1
  refine (pmod_any x cv k X.w hx hs).mono ?_
  rintro e w' ⟨rfl,hb⟩
  refine ⟨_,rfl,hb,fun m=>?_⟩
  exact .tup (cvs:=[_,_]) rfl (fun i a y q1 q2=>by
   match i with
   | 0=>simp at q1 q2;subst q1 q2;exact .v _
   | 1=>simp at q1 q2;subst q1 q2;exact .v _
   | i+2=>simp at q1)
end Go.Proofs.YtljfgdlgmdcmfaaGreat
namespace Go.Proofs.YtljfgdlgmdcmfaaGreat
open Go.RowKit Wv
set_option linter.unusedVariables false
set_option linter.unusedSimpArgs false
theorem shL_get: ∀ (ss:List (Bool × Nat)) (i:Nat) (p:Bool × Nat),ss[i]? =some p→ ∃ r,List.drop (i*2) (shL ss)= .v (.bool p.1):: .v (.int .i64 p.2)::r
 | [],i,p,h=>by simp at h
 | p::l,0,q,h=>by
  simp at h
  subst h
  exact ⟨shL l,rfl⟩
 | p::l,i+1,q,h=>by
  obtain ⟨r,e⟩:=shL_get l i q (by simpa using h)
  refine ⟨r,?_⟩
  rw [←e,Nat.add_mul,Nat.one_mul]
  show List.drop (i*2+2) (_::_::shL l)=_
  rfl
theorem check_in {c:Ci} (h:checkI c=0):c.ni≤8∧c.no≤8:=by
 unfold checkI at h
 split at h
 ·cases h
 ·next h1=>
  simp only [Bool.or_eq_true,not_or,Bool.not_eq_true',Bool.not_eq_false] at h1
  have:=h1.2.2.2.2
  unfold fewB at this
  simp only [Bool.and_eq_true,decide_eq_true_eq] at this
  omega
theorem mod_facts {x:Par} (h:modErr mPrime x x.r=0):2≤modVal mPrime x x.r∧modVal mPrime x x.r≤2147483647∧4≤x.n∧x.n≤32:=by
 unfold modErr at h
 cases hb:modB mPrime x x.r with
 | false=>rw [hb] at h;cases h
 | true=>
  have hv:=(mod_yes hb).2
  unfold modB at hb
  rw [Bool.and_eq_true] at hb
  have hd:=okB_dim hb.1
  have ht:0<x.t mPrime:=by
   have:=hb.1
   unfold okB at this
   simp only [Bool.and_eq_true,decide_eq_true_eq] at this
   exact this.2.1
  have hle:=powv_le mPrime x.n x.p x.r
  have e:x.t mPrime=powv mPrime x.n x.p x.r:=rfl
  refine ⟨?_,by omega,hd⟩
  rw [hv]
  rw [e] at ht
  unfold powv at ht ⊢
  split at ht
  ·next hq=>
   rw [if_pos hq]
   have:x.p ^ 1≤x.p ^ x.r.toNat:=Nat.pow_le_pow_right (by omega) (by omega)
   rw [Nat.pow_one] at this
   omega
  ·omega
theorem ptype_any (x:Par) (hx:ParOk x) (hlen:x.ch.length≤140737488351232) (hrng: ∀ q,q∈x.ch→q<4294967296) (c:Ci) (hc:okC c):TC Tryz.prog 19 [.g (parC x), .g (ciC c)] (typeA (typeQ (modErr mPrime x x.r) c (ruA x (modVal mPrime x x.r)))):=
 ptype_tc x c (ruA x (modVal mPrime x x.r)) ksA (modVal mPrime x x.r) (modErr mPrime x x.r) (pmodulus_tc x x.r hx hlen hrng) hc (fun h ns=>by
  obtain ⟨h1,h2,h3,h4⟩:=mod_facts h
  exact rulesA x _ ns h1 (by omega) (by omega) (by omega)) fun i hi=>allK_A _ (hc.le i hi).1
set_option maxHeartbeats 3200000 in
set_option maxRecDepth 100000 in
theorem lnames_tc (x:Par) (hx:ParOk x) (hlen:x.ch.length≤140737488351232) (hrng: ∀ q,q∈x.ch→q<4294967296) (c:Ci) (h:okC0 c) (a:Int) (ha: -9223372036854775808≤a∧a≤9223372036854775807):TC Tryz.prog 4 [.g (parC x), .g (ciC c), .v (.int .i64 a)] (.v (.bool true)):=by
 have TB:=lbeyond_tc c h 3000 (by omega) (by omega)
 have hCg:=ciG_clo c
 have hPg:Clo (.g (parC x)):= .g (parC_clo x)
 have hpp:=hx.p1
 obtain ⟨CH,hCH⟩: ∃ CH,CH=x.ch.map fun (c:Nat)=>AV.v (.int .u32 c):=⟨_,rfl⟩
 have hP7:parC x=[.v (.int .i64 x.n), .v (.int .u32 x.p), .v (.int .i64 x.r), .t x.ch.length 1 CH, .v (.int .u32 x.sp), .v (.int .i64 x.wt), .v (.int .u32 x.er)]:=by rw [hCH];rfl
 refine Wv.TC.by 138 [0,1,15,3,4,2,52,9,61,7,101,10,13,11,6] [(11,1000000)] [.tmp 6] (by kernel_rfl) Tryz.func4 rfl rfl rfl (by kernel_rfl) (by kernel_rfl) (Nat.le_of_ble_eq_true rfl) rfl ?clo ?_
 case clo=>simp only [Wv.BC]
 rw [hP7] at hPg ⊢
 unfold ciC strsA at*
 simp (maxSteps:=2000000) (disch:=first | omega | assumption | (simp only [Wv.Bx,simprocAttr]<;>omega) | fail) only [Wv.B,simprocAttr]
 refine call_TC shown_tc rfl (by simp only [Wv.BC]) (by simp only [Wv.BC]) ?_
 by_cases h100:x.ch.length≤100
 rotate_left
 ·simp (maxSteps:=2000000) (disch:=first | omega | assumption | (simp only [Wv.Bx,simprocAttr]<;>omega) | fail) only [Wv.B,simprocAttr,decide_eq_true (show (x.ch.length:Int)>100 by omega)]
 have d1:decide ((x.ch.length:Int)>100)=false:=decide_eq_false (by omega)
 simp (maxSteps:=2000000) (disch:=first | omega | assumption | (simp only [Wv.Bx,simprocAttr]<;>omega) | fail) only [Wv.B,simprocAttr,d1]
 refine call_TC TB rfl (clB2 hCg (.v _)) (by simp only [Wv.BC]) ?_
 cases hb:beyB c 3000 with
 | true=>simp (maxSteps:=2000000) (disch:=first | omega | assumption | (simp only [Wv.Bx,simprocAttr]<;>omega) | fail) only [Wv.B,simprocAttr,hb]
 | false=>
 obtain ⟨hok,hnl,hcn⟩:=okC_of h (by omega) (by omega) hb
 have hcn3: ∀ i,i<c.nl→cntE (c.le i)≤1000000:=fun i hi=>by have:=hcn i hi;omega
 have TH:=lheavy_tc (parC x) (parC_clo x) x.p _ _ _ _ _ _ hP7 (by omega) c h hnl hcn3
 rw [hP7] at TH
 unfold ciC strsA at TH
 generalize heavB x.p c=hv at*
 simp (maxSteps:=2000000) (disch:=first | omega | assumption | (simp only [Wv.Bx,simprocAttr]<;>omega) | fail) only [Wv.B,simprocAttr,hb]
 refine call_TC TH rfl (clB2 hPg hCg) (by simp only [Wv.BC]) ?_
 cases hv with
 | true=>simp (maxSteps:=2000000) (disch:=first | omega | assumption | (simp only [Wv.Bx,simprocAttr]<;>omega) | fail) only [Wv.B,simprocAttr]
 | false=>
 by_cases h6:c.nl≤6
 rotate_left
 ·simp (maxSteps:=2000000) (disch:=first | omega | assumption | (simp only [Wv.Bx,simprocAttr]<;>omega) | fail) only [Wv.B,simprocAttr,decide_eq_true (show (c.nl:Int)>6 by omega)]
 have d2:decide ((c.nl:Int)>6)=false:=decide_eq_false (by omega)
 by_cases h0:a<0
 ·simp (maxSteps:=2000000) (disch:=first | omega | assumption | (simp only [Wv.Bx,simprocAttr]<;>omega) | fail) only [Wv.B,simprocAttr,d2,decide_eq_true h0]
 by_cases h1:a≥c.nl
 ·simp (maxSteps:=2000000) (disch:=first | omega | assumption | (simp only [Wv.Bx,simprocAttr]<;>omega) | fail) only [Wv.B,simprocAttr,d2,decide_eq_false h0,decide_eq_true h1]
 obtain ⟨n,rfl⟩: ∃ n:Nat,a=n:=⟨a.toNat,by omega⟩
 have hn:n<c.nl:=by omega
 have d3:decide ((n:Int)<0)=false:=decide_eq_false h0
 have d4:decide ((n:Int)≥c.nl)=false:=decide_eq_false h1
 have TG:=lgrown_tc c.ln c.le c.nl n (by omega) hn fun i hi=>⟨h.le i hi,hcn3 i hi⟩
 have hlets:(tabM c.nl fun i=>letC (c.ln i) (c.le i))=c.lets:=rfl
 rw [hlets] at TG
 have hLc:=lets_clo c
 simp (maxSteps:=2000000) (disch:=first | omega | assumption | (simp only [Wv.Bx,simprocAttr]<;>omega) | fail) only [Wv.B,simprocAttr,d2,d3,d4]
 refine call_TC TG rfl (clB2 (.t hLc) (.v _)) (by simp only [Wv.BC]) ?_
 by_cases hg:grZ c.ln c.le n≤2000
 rotate_left
 ·simp (maxSteps:=2000000) (disch:=first | omega | assumption | (simp only [Wv.Bx,simprocAttr]<;>omega) | fail) only [Wv.B,simprocAttr,decide_eq_true (show ((grZ c.ln c.le n:Nat):Int)>2000 by omega)]
 have d5:decide (((grZ c.ln c.le n:Nat):Int)>2000)=false:=decide_eq_false (by omega)
 have TA:=ptype_any x hx hlen hrng c hok
 have hqE:=typeQ_err (me:=modErr mPrime x x.r) (c:=c) (ru:=ruA x (modVal mPrime x x.r))
 have hqO:=typeQ_ok (me:=modErr mPrime x x.r) (c:=c) (ru:=ruA x (modVal mPrime x x.r))
 have hqL:=names_law (me:=modErr mPrime x x.r) (ruA_args x (modVal mPrime x x.r)) (ruA_ne x (modVal mPrime x x.r)) hn
 have TQ: ∀ _:checkI c=0,TC Tryz.prog 19 [.g (parC x), .g (ciC (putC c n))] (typeA (typeQ (modErr mPrime x x.r) (putC c n) (ruA x (modVal mPrime x x.r)))):=fun hck=>ptype_any x hx hlen hrng (putC c n) (putC_ok hok hn hck hg)
 rw [hP7] at TA TQ
 unfold ciC strsA at TA
 generalize typeQ (modErr mPrime x x.r) c (ruA x (modVal mPrime x x.r))=q at*
 generalize typeQ (modErr mPrime x x.r) (putC c n) (ruA x (modVal mPrime x x.r))=q2 at*
 obtain ⟨s1,at1,e1⟩:=q
 obtain ⟨s2,at2,e2⟩:=q2
 have hqc:=typeA_clo (s1,at1,e1)
 have t1:typeA (s1,at1,e1)= .tup [.t s1.length 2 (shL s1), .v (.int .i64 at1), .v (.int .i64 e1)]:=rfl
 rw [t1] at TA hqc
 simp only at hqE hqO hqL
 simp (maxSteps:=2000000) (disch:=first | omega | assumption | (simp only [Wv.Bx,simprocAttr]<;>omega) | fail) only [Wv.B,simprocAttr,d5]
 refine call_TC TA rfl (clB2 hPg hCg) hqc ?_
 simp (maxSteps:=2000000) (disch:=first | omega | assumption | (simp only [Wv.Bx,simprocAttr]<;>omega) | fail) only [Wv.B,simprocAttr]
 by_cases he:e1=0
 rotate_left
 ·have hs1:=hqE he
  subst hs1
  simp (maxSteps:=2000000) (disch:=first | omega | assumption | (simp only [Wv.Bx,simprocAttr]<;>omega) | fail) only [Wv.B,simprocAttr,decide_eq_false he,shL,List.flatMap_nil,List.length_nil]
 have hck:=(hqO he).2.1
 obtain ⟨hsl,⟨⟨rk,rd⟩,hr,hr8,hr0⟩,h3⟩:=hqL he
 have TQ:=TQ hck
 have hqc2:=typeA_clo (s2,at2,e2)
 have t2:typeA (s2,at2,e2)= .tup [.t s2.length 2 (shL s2), .v (.int .i64 at2), .v (.int .i64 e2)]:=rfl
 rw [t2] at TQ hqc2
 obtain ⟨rr,hd⟩: ∃ r,List.drop (n*2) (shL s1)= .v (.bool rk):: .v (.int .i64 rd)::r:=shL_get s1 n (rk,rd) hr
 have hr8':rd≤8:=hr8
 have hci:=check_in hck
 have hll:=lets_len c
 have f1:decide ((rd:Int)<0)=false:=decide_eq_false (by omega)
 have f2:decide ((rd:Int)>8)=false:=decide_eq_false (by omega)
 have hlen2:=shL_len s1
 have f0:decide ((s1.length:Int)=c.nl)=true:=decide_eq_true (by omega)
 have hRd:rk=true→rd=0:=hr0
 have HC:=lCopied_ht (parC x) (ciC c) (parC_clo x) (ciC_clo c) c hok (by omega) (by omega) (by omega) fun i hi=>⟨hcn3 i hi,check_lon hck hi⟩
 rw [hP7] at HC
 unfold ciC strsA at HC
 have TP:=lput_tc c.ln c.le n (by omega) (fun i hi=>⟨h.le i (by omega),hcn3 i (by omega)⟩) (c.le n) (h.le n hn) (hcn3 n hn)
 rw [←resP_eq] at TP
 have hLS:=lets_put hn
 have hGn:=exG_clo (c.le n)
 have hGr:=exG_clo (resP c.ln c.le n)
 have hLn: ∀ a,a∈tabM n (fun i=>letC (c.ln i) (c.le i))→Clo a:=tabM_clo fun i _=>letC_clo _ _
 have htk:List.drop (0*6) (List.take (n*6) c.lets)=tabM n fun i=>letC (c.ln i) (c.le i):=by
  rw [Nat.zero_mul,List.drop_zero]
  exact tabM_take (f:=fun i=>letC (c.ln i) (c.le i)) (fun i=>letC_len _ _) (by omega)
 obtain ⟨r2,hd2⟩: ∃ r,List.drop (n*6) c.lets= .v (.string (c.ln n))::(exC (c.le n)++r):=tabM_drop (f:=fun i=>letC (c.ln i) (c.le i)) (fun i=>letC_len _ _) hn
 obtain ⟨u0,u1,u2,u3,u4,u5,u6,hu⟩:=exC_five (c.le n)
 obtain ⟨v0,v1,v2,v3,v4,v5,v6,hv⟩:=exC_five (resP c.ln c.le n)
 rw [hu] at TP hGn hd2
 rw [hv] at TP hLS hGr
 simp only [setLA_cons,setLA_nil] at hLS
 simp only [List.cons_append,List.nil_append] at hd2
 have hd3:=congrArg (List.drop 1) hd2
 rw [List.drop_drop,List.drop_succ_cons,List.drop_zero] at hd3
 have hlp:(putC c n).lets.length=c.nl*6:=lets_len (putC c n)
 have hCP:Clo (.g [.v (.string c.name), .t c.ni 1 (tab c.ni fun i=> .v (.string (c.fi i))), .t c.nl 6 (putC c n).lets, .t c.no 1 (tab c.no fun i=> .v (.string (c.fo i)))]):=ciG_clo (putC c n)
 have TQ':TC Tryz.prog 19 [.g [.v (.int .i64 x.n), .v (.int .u32 x.p), .v (.int .i64 x.r), .t x.ch.length 1 CH, .v (.int .u32 x.sp), .v (.int .i64 x.wt), .v (.int .u32 x.er)], .g [.v (.string c.name), .t c.ni 1 (tab c.ni fun i=> .v (.string (c.fi i))), .t c.nl 6 (putC c n).lets, .t c.no 1 (tab c.no fun i=> .v (.string (c.fo i)))]] (.tup [.t s2.length 2 (shL s2), .v (.int .i64 at2), .v (.int .i64 e2)]):=TQ
 cases rk
 simp (maxSteps:=2000000) (disch:=first | omega | assumption | (simp only [Wv.Bx,simprocAttr]<;>omega) | fail) only [Wv.B,simprocAttr,decide_eq_true he,f0,hd,f1,f2]
 rotate_left
 obtain rfl:rd=0:=hRd rfl
 simp (maxSteps:=2000000) (disch:=first | omega | assumption | (simp only [Wv.Bx,simprocAttr]<;>omega) | fail) only [Wv.B,simprocAttr,decide_eq_true he,f0,hd,f1,f2,Int.natCast_zero]
 all_goals
  refine call_HT (fst:=[]) (cap:=[]) HC ?_
  rintro av h' ⟨rfl,o2,o3,rfl⟩
  simp (maxSteps:=2000000) (disch:=first | omega | assumption | (simp only [Wv.Bx,simprocAttr]<;>omega) | fail) only [Wv.B,simprocAttr,hll]
  refine esc_ent (L:=[0,1,15,3,4,2,52,9,61,7,101,10,13,11,6]) (ks':=[(11,16),(3000011,16)]) (by kernel_rfl) (Ent.frzK 4 _ 6 c.lets 0 (n*6) rfl (Nat.zero_le _) (by rw [hll];exact Nat.mul_le_mul_right 6 (by omega))) rfl (by simp) (by kernel_rfl) ?_
  simp (maxSteps:=2000000) (disch:=first | omega | assumption | (simp only [Wv.Bx,simprocAttr]<;>omega) | fail) only [Wv.B,simprocAttr,hll,hd2,hd3,htk]
  refine calm_TC TP (viewL_cons (view2_clo hGn) (viewL_cons rfl viewL_nil)) (clB2 hGn (.t hLn)) hGr ?_
  simp (maxSteps:=2000000) (disch:=first | omega | assumption | (simp only [Wv.Bx,simprocAttr]<;>omega) | fail) only [Wv.B,simprocAttr,hll,hLS]
  refine call_cl TQ' (clB2 hPg hCP) hqc2 ?_
  simp (maxSteps:=2000000) (disch:=first | omega | assumption | (simp only [Wv.Bx,simprocAttr]<;>omega) | fail) only [Wv.B,simprocAttr,hlp]
  refine sCl_some rfl ?_
  simp (maxSteps:=2000000) (disch:=first | omega | assumption | (simp only [Wv.Bx,simprocAttr]<;>omega) | fail) only [Wv.B,simprocAttr]
  rcases h3 with h3 | h3
  ·simp (maxSteps:=2000000) (disch:=first | omega | assumption | (simp only [Wv.Bx,simprocAttr]<;>omega) | fail) only [Wv.B,simprocAttr,decide_eq_true h3]
  ·injection h3 with g1 g2
   injection g2 with g2 g3
   subst g1 g2 g3
   have S:=lsame_yes s2 (by omega)
   have hsc:=shL_clo s2
   simp (maxSteps:=2000000) (disch:=first | omega | assumption | (simp only [Wv.Bx,simprocAttr]<;>omega) | fail) only [Wv.B,simprocAttr,decide_eq_false (show ¬ e2=3 by omega),decide_eq_true he]
   refine call_TC S rfl (clB2 (.t hsc) (.t hsc)) (by simp only [Wv.BC]) ?_
   simp (maxSteps:=2000000) (disch:=first | omega | assumption | (simp only [Wv.Bx,simprocAttr]<;>omega) | fail) only [Wv.B,simprocAttr]
end Go.Proofs.YtljfgdlgmdcmfaaGreat
