/- Parts of a proof. -/
import Derived.Test.YthlhibpfagekfaaGreatQpd
set_option linter.unusedVariables false
namespace Go.Proofs.YthlhibpfagekfaaGreat.Wv
section
open Go.RowKit
section
variable (P:Program) (p₀:AV→Hp→Prop) (N:Nat) (L:List Nat) (ks:List (Nat × Nat))
def kSeq (b:Code) (Q:PostW):PostW:=fun x e' h'=>match x with | .normal=>wCode P N L ks b Q e' h' | x=>Q x e' h'
def kBlk (id:Nat) (Q:PostW):PostW:=fun x e' h'=>match x with | .exit i=>if i=id then Q .normal e' h' else Q (.exit i) e' h' | x=>Q x e' h'
def kP (l:List Oper) (e:Ev) (Q:PostW):AV→Hp→Prop:=fun a h=>Q (.panic a) (delE l e) h
def kReg (Q:PostW):Ev→Hp→Prop:=fun e h=>Q .normal (keepE L e) h
def kTail (fl:Nat) (hd all rest:List Oper) (n:Nat) (h:Hp) (Q:PostW):Ev→List (Tmp × Value)→Prop:=fun e1 al=>if fl=1 then DeadE hd e1 else wOps P p₀ all rest (allocEnv n al e1) (h++al.map blkOf) (kReg L Q)
def kO (all r:List Oper) (d:Option Tmp) (e:Ev) (K:Ev→Hp→Prop):AV→Hp→Prop:=fun a h=>wOps P p₀ all r (putE e d a) h K
def kR (K:AV→Hp→Prop) (h:Hp):AV→Prop:=fun a=>K a h
def kH (all:List Oper) (h:Hp) (r:List Oper) (d:Option Tmp) (e:Ev) (al:List (Tmp × Value)) (K:Ev→List (Tmp × Value)→Prop):AV→Prop:=fun a=>wHead P p₀ all h r (putE e d a) al K
def kFor (ks:List (Nat × Nat)) (N:Nat) {σ:Type} (env:σ→Ev) (hp:σ→Hp) (inv:σ→Prop) (ms:σ→Nat) (n:Nat) (Q:PostW):PostW:=fun x e h=>match x with
 | .normal=> ∃ n' e₁ h₁,Ent (base ks) N e h e₁ h₁∧n'<n∧ ∃ s,e₁=env s∧h₁=hp s∧inv s∧n'=ms s
 | x=>Q x e h
def sV (K:AV→Prop) (o:Option Value):Prop:= ∃ r,o=some r∧K (.v r)
def sA (K:AV→Prop) (o:Option AV):Prop:= ∃ r,o=some r∧K r
def sG (K:AV→Prop) (o:Option (List AV)):Prop:= ∃ r,o=some r∧K (.g r)
def sO (K:AV→Hp→Prop) (o:Option (AV × Hp)):Prop:= ∃ r h,o=some (r,h)∧K r h
def sH (K:AV→Hp→Prop) (o:Option Hp):Prop:= ∃ h,o=some h∧K .none h
def sZ (K:AV→Hp→Prop) (h:Hp) (o:Option Value):Prop:= ∃ z,o=some z∧K (.ptr h.length 0) (h++[some (.blk (vcells z))])
def sB (K:AV→Hp→Prop) (h:Hp) (o:Option (List AV)):Prop:= ∃ l,o=some l∧K (.ptr h.length 0) (h++[some (.blk l)])
def sS (K:AV→Hp→Prop) (h:Hp) (n:Nat) (o:Option (TypeId × Nat × List AV)):Prop:= ∃ te s l,o=some (te,s,l)∧K (.own h.length n) (h++[some (.arr te s l 0)])
def sT (K:AV→Prop) (n:Nat) (o:Option (TypeId × Nat × List AV)):Prop:= ∃ te s l,o=some (te,s,l)∧K (.t n s l)
def sI (P:Program) (T:TypeId) (K:AV→Hp→Prop) (h:Hp) (l c:Option Int):Prop:= ∃ zl zc te s L,l=some zl∧c=some zc∧makeA P T zl zc=some (te,s,L)∧K (.own h.length zl.toNat) (h++[some (.arr te s L 0)])
def sN (K:AV→Prop) (x:AV) (o:Option Bool):Prop:=o=some false∧K x
def sL (K:AV→Prop) (o:Option Nat):Prop:= ∃ n,o=some n∧K (.v (.int .i64 n))
def sP (K:AV→Prop) (c x y:AV):Prop:= ∃ t,c= .v (.bool t)∧K (bif t then x else y)
def sCall (K:AV→Hp→Prop) (h:Hp) (f:AV) (args:List AV):Prop:= ∃ fid fst cap,f= .fn (.func fid) fst cap∧HTP P fid (fst++args++cap) h K p₀
def sCalm (K:AV→Prop) (h:Hp) (f:AV) (args:List AV):Prop:= ∃ fid fst cap,f= .fn (.func fid) fst cap∧ ∃ res,HTP P fid (fst++args++cap) h (fun r h'=>r=res∧h'=h) p₀∧K res
def sC (a b:Code) (Q:PostW) (e:Ev) (h:Hp) (c:AV):Prop:= ∃ t,c= .v (.bool t)∧if t=true then wCode P N L ks a Q e h else wCode P N L ks b Q e h
def sW (all:List Oper) (o:Oper) (r:List Oper) (d:Option Tmp) (e:Ev) (h:Hp) (K:Ev→Hp→Prop) (want:Bool) (g:AV):Prop:= ∃ b,gB want g=some b∧if b=true then wOp P p₀ o (opnd e) h (kO P p₀ all r d e K) else wOps P p₀ all r (putE e d (.v undef)) h K
def sY (all:List Oper) (h:Hp) (o:Oper) (r:List Oper) (d:Option Tmp) (e:Ev) (al:List (Tmp × Value)) (K:Ev→List (Tmp × Value)→Prop) (want:Bool) (g:AV):Prop:= ∃ b,gB want g=some b∧if b=true then cOp P p₀ o (opnd e) h (kH P p₀ all h r d e al K) else wHead P p₀ all h r (putE e d (.v undef)) al K
def gGet (e:Ev):Option Tmp→AV
 | some d=>getE e d
 | none=> .none
def sF (Q:AV→Hp→Prop) (h:Hp) (o:Option AV):Prop:= ∃ r,o=some r∧ ∃ r' h',close3 h r=some (r',h')∧Q r' h'
def sE (Q:AV→Hp→Prop) (o:Option (AV × Hp)):Prop:= ∃ r h,o=some (r,h)∧Q r h
def sD (all:List Oper) (h:Hp) (r:List Oper) (d:Option Tmp) (e:Ev) (al:List (Tmp × Value)) (K:Ev→List (Tmp × Value)→Prop) (T:TypeId):Prop:= ∃ T' z d',Op.alloc T=Op.alloc T'∧d=some d'∧zeroP P T'=some z∧wHead P p₀ all h r (putE e d .none) (al++[(d',z)]) K
end
section
variable {P:Program} {p₀:AV→Hp→Prop} {N:Nat} {L:List Nat} {ks:List (Nat × Nat)}
def fitE:Ev→Ev→Prop
 | [],_=>True
 | (d,a)::r,e=>getE e d=a∧fitE r e
variable {e:Ev}
theorem fitE_nil :fitE [] e=True:=Eq.trans rfl rfl
theorem fitE_cons {d:Nat} {a:AV} {r:Ev}:fitE ((d,a)::r) e=(getE e d=a∧fitE r e):=Eq.trans rfl rfl
theorem fitE_get: ∀ {e' e:Ev} (h:fitE e' e) (d:Nat),getE e' d=getE e d∨getE e' d= .none
 | [],e,_,d=> .inr rfl
 | (k,a)::r,e,h,d=>by
  show (if k=d then a else getE r d)=_∨(if k=d then a else getE r d)=_;by_cases hk:k=d
  ·subst hk;left;rw [if_pos rfl];exact h.1.symm
  ·rw [if_neg hk];exact fitE_get h.2 d
variable {h:Hp}
theorem Ent.fit {n0:Nat} {e':Ev}  (hf:fitE e' e):Ent n0 N e h e' h:=fun X a hh hn hX hE=>⟨X,rfl,hh,(Step.refl X).toN (hh▸hn),hX,hE.defers,hE.size,fun d=>by
 rcases fitE_get hf d with q | q
 ·rw [q];exact hE.rep d
 ·rw [q];exact .none _⟩
variable {Q:PostW}
theorem c_skip :wCode P N L ks .skip Q e h=Q .normal e h:=Eq.trans rfl rfl
theorem c_ret :wCode P N L ks .ret Q e h=Q .ret e h:=Eq.trans rfl rfl
variable {i:Nat}
theorem c_exit :wCode P N L ks (.exit i) Q e h=Q (.exit i) e h:=Eq.trans rfl rfl
theorem c_label :wCode P N L ks (.label i) Q e h=Q .normal e h:=Eq.trans rfl rfl
variable {b:Code}
theorem c_scope :wCode P N L ks (.scope b) Q e h=wCode P N L ks b Q e h:=Eq.trans rfl rfl
theorem c_seq {a:Code}   :wCode P N L ks (.seq a b) Q e h=wCode P N L ks a (kSeq P N L ks b Q) e h:=Eq.trans rfl rfl
theorem c_block :wCode P N L ks (.block i b) Q e h=wCode P N L ks b (kBlk i Q) e h:=Eq.trans rfl rfl
theorem c_cond {c:Operand} {a:Code}   :wCode P N L ks (.cond c a b) Q e h=sC P N L ks a b Q e h (opnd e c):=Eq.trans rfl rfl
variable {l:List Oper}
theorem c_reg :wCode P N L ks (.region i l.toArray false) Q e h=wOps P (kP l e Q) l l e h (kReg L Q):=Eq.trans rfl rfl
theorem c_draw :wCode P N L ks (.region i l.toArray true) Q e h=wDraw (kOf ks i) (escE P N ks i l.toArray Q e h) (wHead P (kP l e Q) l (frzM (kOf ks (3000000+i)) h) (l.take (kOf ks i)) e [] (kTail P (kP l e Q) L (kOf ks (4000000+i)) (l.take (kOf ks i)) l (l.drop (kOf ks i)) h.length (frzM (kOf ks (3000000+i)) h) Q)):=Eq.trans rfl rfl
theorem wd_no {k:Nat} {E W:Prop} (hk:k≠1000000):wDraw k E W=W:=if_neg hk
theorem wd_esc {E W:Prop}:wDraw 1000000 E W=E:=if_pos rfl
theorem k_seq0 :kSeq P N L ks b Q .normal e h=wCode P N L ks b Q e h:=Eq.trans rfl rfl
theorem k_seq1 :kSeq P N L ks b Q (.exit i) e h=Q (.exit i) e h:=Eq.trans rfl rfl
theorem k_seq2 :kSeq P N L ks b Q .ret e h=Q .ret e h:=Eq.trans rfl rfl
theorem k_seq3 {a:AV}  :kSeq P N L ks b Q (.panic a) e h=Q (.panic a) e h:=Eq.trans rfl rfl
theorem k_p {a:AV} :kP l e Q a h=Q (.panic a) (delE l e) h:=Eq.trans rfl rfl
variable {j:Nat}
theorem k_blk0 :kBlk j Q .normal e h=Q .normal e h:=Eq.trans rfl rfl
theorem k_blk1 :kBlk j Q (.exit i) e h=if i=j then Q .normal e h else Q (.exit i) e h:=Eq.trans rfl rfl
theorem k_blk2 :kBlk j Q .ret e h=Q .ret e h:=Eq.trans rfl rfl
theorem k_blk3 {a:AV}  :kBlk j Q (.panic a) e h=Q (.panic a) e h:=Eq.trans rfl rfl
theorem k_reg :kReg L Q e h=Q .normal (keepE L e) h:=Eq.trans rfl rfl
variable {al:List (Tmp × Value)}{all:List Oper}{n:Nat}
theorem k_tail1 {hd rest:List Oper}    {e1:Ev} :kTail P p₀ L 1 hd all rest n h Q e1 al=DeadE hd e1:=Eq.trans rfl rfl
theorem k_tail {hd rest:List Oper}    {e1:Ev} :kTail P p₀ L 0 hd all rest n h Q e1 al=wOps P p₀ all rest (allocEnv n al e1) (h++al.map blkOf) (kReg L Q):=Eq.trans rfl rfl
variable {d:Option Tmp}{r:List Oper}
theorem k_o {K:Ev→Hp→Prop} {a:AV} :kO P p₀ all r d e K a h=wOps P p₀ all r (putE e d a) h K:=Eq.trans rfl rfl
theorem k_r {K:AV→Hp→Prop}  {a:AV}:kR K h a=K a h:=Eq.trans rfl rfl
theorem k_h {K:Ev→List (Tmp × Value)→Prop} {a:AV}:kH P p₀ all h r d e al K a=wHead P p₀ all h r (putE e d a) al K:=Eq.trans rfl rfl
variable {σ:Type}
theorem k_next {env:σ→Ev} {hp:σ→Hp} {inv:σ→Prop} {ms:σ→Nat}     (s:σ) (hi:inv s) (hm:ms s<n) (hh:h=hp s) (he:fitE (env s) e):kFor ks N env hp inv ms n Q .normal e h:=by
 subst hh;exact ⟨_,_,_,Ent.fit he,hm,s,rfl,rfl,hi,rfl⟩
theorem k_turn {env:σ→Ev} {hp:σ→Hp} {inv:σ→Prop} {ms:σ→Nat}     (s:σ) (he:Ent (base ks) N e h (env s) (hp s)) (hi:inv s) (hm:ms s<n):kFor ks N env hp inv ms n Q .normal e h:=
 ⟨_,_,_,he,hm,s,rfl,rfl,hi,rfl⟩
theorem k_for1 {env:σ→Ev} {hp:σ→Hp} {inv:σ→Prop} {ms:σ→Nat}    :kFor ks N env hp inv ms n Q (.exit i) e h=Q (.exit i) e h:=Eq.trans rfl rfl
theorem k_for2 {env:σ→Ev} {hp:σ→Hp} {inv:σ→Prop} {ms:σ→Nat}    :kFor ks N env hp inv ms n Q .ret e h=Q .ret e h:=Eq.trans rfl rfl
theorem k_for3 {env:σ→Ev} {hp:σ→Hp} {inv:σ→Prop} {ms:σ→Nat}   {a:AV}  :kFor ks N env hp inv ms n Q (.panic a) e h=Q (.panic a) e h:=Eq.trans rfl rfl
theorem wfor (env:σ→Ev) (hp:σ→Hp) (inv:σ→Prop) (ms:σ→Nat) (s0:σ)     (hi:inv s0) (hh:h=hp s0) (he:fitE (env s0) e)
  (hr: ∀ s,inv s→wCode P N L ks b (kFor ks N env hp inv ms (ms s) Q) (env s) (hp s)):wCode P N L ks (.loop b) Q e h:=by
 subst hh;refine ⟨fun n e h=> ∃ s,e=env s∧h=hp s∧inv s∧n=ms s,ms s0,_,_,Ent.fit he,⟨s0,rfl,rfl,hi,rfl⟩,?_⟩;rintro n e' h' ⟨s,rfl,rfl,hs,rfl⟩;exact hr s hs
variable {args:List AV}{body:Code}{fn:Func}
theorem TC.by {f:FuncId}    {res:AV} (N:Nat) (L:List Nat) (ks:List (Nat × Nat)) (rs:List ResultVar) (hf:P.funcs[f]? =some fn) (hb:fn.body=some body) (hn:fn.ntmps=N) (hr:fn.results=rs.toArray) (hc:Clo res)
  (hw:wCode P N L ks body (Fin P rs.toArray fun r _=>r=res) (argE 0 args) []) (hmix:P.follows .mixedOrders=true:=by kernel_rfl) (hp:bodyP P f=true:=by kernel_rfl) (hk:okCode N ks body=true:=by kernel_rfl) (hN:args.length≤N:=by exact Nat.le_of_ble_eq_true rfl) (hbs:base ks=0:=by rfl):TC P f args res:=by
 subst hn;rw [←hr] at hw;exact TC.of L ks hmix hf hb hp hk hN hbs hc hw
theorem HT.by {f:FuncId}     {R:AV→Hp→Prop} (N:Nat) (L:List Nat) (ks:List (Nat × Nat)) (rs:List ResultVar) (hf:P.funcs[f]? =some fn) (hb:fn.body=some body) (hn:fn.ntmps=N) (hr:fn.results=rs.toArray) (hbs:base ks=h.length)
  (hw:wCode P N L ks body (Fin P rs.toArray R) (argE 0 args) h) (hmix:P.follows .mixedOrders=true:=by kernel_rfl) (hp:bodyP P f=true:=by kernel_rfl) (hk:okCode N ks body=true:=by kernel_rfl) (hN:args.length≤N:=by exact Nat.le_of_ble_eq_true rfl):HT P f args h R:=by
 subst hn;rw [←hr] at hw;exact HT.of hmix hf hb hp hk hN hbs hw
theorem HTP.by {f:FuncId}     {R p:AV→Hp→Prop} (N:Nat) (L:List Nat) (ks:List (Nat × Nat)) (rs:List ResultVar) (hf:P.funcs[f]? =some fn) (hb:fn.body=some body) (hn:fn.ntmps=N) (hr:fn.results=rs.toArray) (hbs:base ks=h.length)
  (hw:wCode P N L ks body (FinP P rs.toArray R p) (argE 0 args) h) (hmix:P.follows .mixedOrders=true:=by kernel_rfl) (hp:bodyP P f=true:=by kernel_rfl) (hk:okCode N ks body=true:=by kernel_rfl) (hN:args.length≤N:=by exact Nat.le_of_ble_eq_true rfl):HTP P f args h R p:=by
 subst hn;rw [←hr] at hw;exact HTP.of hmix hf hb hp hk hN hbs hw
theorem fz_zero :frzM 0 h=h.map froze:=frzM_zero h
theorem fz_cons {m:Nat} {o:Option Ob} {r:Hp}:frzM m (o::r)=(if m % 2=1 then o else froze o)::frzM (m / 2) r:=Eq.trans rfl rfl
theorem fz_nil {m:Nat}:frzM m []=[]:=by cases m<;>rfl
theorem o_nil {K:Ev→Hp→Prop}:wOps P p₀ all [] e h K=K e h:=Eq.trans rfl rfl
variable {a:Array Edge}{p:String}
theorem o_cons {K:Ev→Hp→Prop}  {t:TypeId}   {op:Op}:wOps P p₀ all (⟨d,op,t,p,a,none⟩::r) e h K=wOp P p₀ ⟨d,op,t,p,a,none⟩ (opnd e) h (kO P p₀ all r d e K):=Eq.trans rfl rfl
theorem o_when {K:Ev→Hp→Prop}  {t:TypeId}   {op:Op}  {w:Bool}:wOps P p₀ all (⟨d,op,t,p,a,some (j,w)⟩::r) e h K=sW P p₀ all ⟨d,op,t,p,a,none⟩ r d e h K w (gGet e ((all[j]?).bind (·.dst))):=by
 have e1: ∀ K',wOp P p₀ ⟨d,op,t,p,a,some (j,w)⟩ (opnd e) h K'=wOp P p₀ ⟨d,op,t,p,a,none⟩ (opnd e) h K':=fun K'=>by cases op<;>rfl
 have e2:guardE all e j=gGet e ((all[j]?).bind (·.dst)):=by unfold guardE gGet;rfl
 show (∃ b,gB w (guardE all e j)=some b∧(if b=true then wOp P p₀ ⟨d,op,t,p,a,some (j,w)⟩ (opnd e) h (kO P p₀ all r d e K) else _))=_;rw [e1,e2];rfl
theorem h_nil {K:Ev→List (Tmp × Value)→Prop}:wHead P p₀ all h [] e al K=K e al:=Eq.trans rfl rfl
variable {T:TypeId}
theorem h_alloc {K:Ev→List (Tmp × Value)→Prop}  {t:TypeId}   :wHead P p₀ all h (⟨d, .alloc T,t,p,a,none⟩::r) e al K=sD P p₀ all h r d e al K T:=Eq.trans rfl rfl
theorem h_cons {K:Ev→List (Tmp × Value)→Prop}  {t:TypeId}   {op:Op}:isAlloc ⟨d,op,t,p,a,none⟩=false→wHead P p₀ all h (⟨d,op,t,p,a,none⟩::r) e al K=cOp P p₀ ⟨d,op,t,p,a,none⟩ (opnd e) h (kH P p₀ all h r d e al K):=fun hn=>by
 show (if isAlloc ⟨d,op,t,p,a,none⟩=true then _ else _)=_;rw [hn];rfl
theorem h_when {K:Ev→List (Tmp × Value)→Prop}  {t:TypeId}   {op:Op}  {w:Bool}:wHead P p₀ all h (⟨d,op,t,p,a,some (j,w)⟩::r) e al K=sY P p₀ all h ⟨d,op,t,p,a,none⟩ r d e al K w (gGet e ((all[j]?).bind (·.dst))):=by
 have e1: ∀ K',cOp P p₀ ⟨d,op,t,p,a,some (j,w)⟩ (opnd e) h K'=cOp P p₀ ⟨d,op,t,p,a,none⟩ (opnd e) h K':=fun K'=>by cases op<;>rfl
 have e2:guardE all e j=gGet e ((all[j]?).bind (·.dst)):=by unfold guardE gGet;rfl
 show (∃ b,gB w (guardE all e j)=some b∧(if b=true then cOp P p₀ ⟨d,op,t,p,a,some (j,w)⟩ (opnd e) h (kH P p₀ all h r d e al K) else _))=_;rw [e1,e2];rfl
variable {E:Operand→AV}{K:AV→Prop}{x:Operand}
theorem r_move {t:TypeId}   {g:Option (Nat × Bool)}  :rOp P ⟨d, .move x,t,p,a,g⟩ E h K=K (E x):=Eq.trans rfl rfl
theorem r_assign {t:TypeId}   {g:Option (Nat × Bool)}  :rOp P ⟨d, .assign x,t,p,a,g⟩ E h K=K (E x):=Eq.trans rfl rfl
variable {y:Operand}
theorem r_pick {t:TypeId}   {g:Option (Nat × Bool)} {c:Operand} :rOp P ⟨d, .pick c x y,t,p,a,g⟩ E h K=sP K (E c) (E x) (E y):=Eq.trans rfl rfl
variable {parts:Array (Nat × Operand)}
theorem r_build {t:TypeId}   {g:Option (Nat × Bool)}   :rOp P ⟨d, .build T parts,t,p,a,g⟩ E h K=sG K (buildA P h T (parts.toList.map fun p=>(p.1,E p.2))):=Eq.trans rfl rfl
theorem r_load {t:TypeId}   {g:Option (Nat × Bool)}   :rOp P ⟨d, .load T x,t,p,a,g⟩ E h K=(szP P T≠some 0∧sA K (loadA P h T (E x))):=Eq.trans rfl rfl
theorem r_nilCheck {t:TypeId}   {g:Option (Nat × Bool)}  :rOp P ⟨d, .nilCheck x,t,p,a,g⟩ E h K=sN K (E x) (nilPA h (E x)):=Eq.trans rfl rfl
variable {op:BinOp}{ty:TypeId}
theorem r_binOp {t:TypeId}   {g:Option (Nat × Bool)}    :rOp P ⟨d, .binOp op T x y ty,t,p,a,g⟩ E h K=sV K (binA P h op T (E x) (E y)):=Eq.trans rfl rfl
theorem r_unOp {t:TypeId}   {g:Option (Nat × Bool)} {op:UnOp}   :rOp P ⟨d, .unOp op T x,t,p,a,g⟩ E h K=sV K (unA op (E x)):=Eq.trans rfl rfl
variable {s u:TypeId}
theorem r_convert {t:TypeId}   {g:Option (Nat × Bool)}   :rOp P ⟨d, .convert s u x,t,p,a,g⟩ E h K=sV K (convA P h s u (E x)):=Eq.trans rfl rfl
variable {f:Nat}
theorem r_fieldAddr {t:TypeId}   {g:Option (Nat × Bool)} {S:TypeId}   :rOp P ⟨d, .fieldAddr S x f,t,p,a,g⟩ E h K=sA K (faddrA P h S (E x) f):=Eq.trans rfl rfl
theorem r_field {t:TypeId}   {g:Option (Nat × Bool)} {S:TypeId}   :rOp P ⟨d, .field S x f,t,p,a,g⟩ E h K=sA K (fieldA P S (E x) f):=Eq.trans rfl rfl
theorem r_extract {t:TypeId}   {g:Option (Nat × Bool)}   :rOp P ⟨d, .extract x i,t,p,a,g⟩ E h K=sA K (extrA (E x) i):=Eq.trans rfl rfl
theorem w_ifc {t:TypeId}   {g:Option (Nat × Bool)}   {K:AV→Hp→Prop}:wOp P p₀ ⟨d, .makeInterface T x,t,p,a,g⟩ E h K=(ifcP P T=true∧K (.ifc T (E x)) h):=Eq.trans rfl rfl
theorem q_ifc {t:TypeId}   {g:Option (Nat × Bool)}   :cOp P p₀ ⟨d, .makeInterface T x,t,p,a,g⟩ E h K=(ifcP P T=true∧K (.ifc T (E x))):=Eq.trans rfl rfl
variable {k:Operand}
theorem w_lookup {t:TypeId}   {g:Option (Nat × Bool)}   {ok:Bool} {K:AV→Hp→Prop}:wOp P p₀ ⟨d, .lookup T x k ok,t,p,a,g⟩ E h K=sA (kR K h) (lookupA P h T (E x) (E k) ok):=Eq.trans rfl rfl
theorem q_lookup {t:TypeId}   {g:Option (Nat × Bool)}   {ok:Bool} :cOp P p₀ ⟨d, .lookup T x k ok,t,p,a,g⟩ E h K=sA K (lookupA P h T (E x) (E k) ok):=Eq.trans rfl rfl
theorem w_makeMap {t:TypeId}   {g:Option (Nat × Bool)}  {K:AV→Hp→Prop}:wOp P p₀ ⟨d, .makeMap T none,t,p,a,g⟩ E h K=K (.mp h.length) (h++[some (.map [])]):=propext ⟨fun q=>q.2,fun q=>⟨rfl,q⟩⟩
theorem w_mapUpdate {t:TypeId}   {g:Option (Nat × Bool)}  {m:Operand} {K:AV→Hp→Prop}:wOp P p₀ ⟨d, .mapUpdate T m k x,t,p,a,g⟩ E h K=sH K (updateA P h T (E m) (E k) (E x)):=Eq.trans rfl rfl
theorem w_insert {t:TypeId}   {g:Option (Nat × Bool)}  {m:Operand} {K:AV→Hp→Prop}:wOp P p₀ ⟨d, .insert T m k x,t,p,a,g⟩ E h K=sH K (updateA P h T (E m) (E k) (E x)):=Eq.trans rfl rfl
def sPan (p:AV→Hp→Prop) (h:Hp) (x:AV):Prop:= ∃ T a,x= .ifc T a∧p (.ifc T a) h
theorem sPan_ifc {x:AV}:sPan p₀ h (.ifc T x)=p₀ (.ifc T x) h:=propext ⟨fun ⟨_,_,e,q⟩=>by cases e;exact q,fun q=>⟨_,_,rfl,q⟩⟩
theorem w_panic {t:TypeId}   {g:Option (Nat × Bool)}  {K:AV→Hp→Prop}:wOp P p₀ ⟨d, .panic x,t,p,a,g⟩ E h K=sPan p₀ h (E x):=Eq.trans rfl rfl
theorem w_move {t:TypeId}   {g:Option (Nat × Bool)}  {K:AV→Hp→Prop}:wOp P p₀ ⟨d, .move x,t,p,a,g⟩ E h K=rOp P ⟨d, .move x,t,p,a,g⟩ E h (kR K h):=Eq.trans rfl rfl
theorem q_move {t:TypeId}   {g:Option (Nat × Bool)}  :cOp P p₀ ⟨d, .move x,t,p,a,g⟩ E h K=rOp P ⟨d, .move x,t,p,a,g⟩ E h K:=Eq.trans rfl rfl
theorem w_assign {t:TypeId}   {g:Option (Nat × Bool)}  {K:AV→Hp→Prop}:wOp P p₀ ⟨d, .assign x,t,p,a,g⟩ E h K=rOp P ⟨d, .assign x,t,p,a,g⟩ E h (kR K h):=Eq.trans rfl rfl
theorem q_assign {t:TypeId}   {g:Option (Nat × Bool)}  :cOp P p₀ ⟨d, .assign x,t,p,a,g⟩ E h K=rOp P ⟨d, .assign x,t,p,a,g⟩ E h K:=Eq.trans rfl rfl
theorem w_pick {t:TypeId}   {g:Option (Nat × Bool)} {c:Operand} {K:AV→Hp→Prop}:wOp P p₀ ⟨d, .pick c x y,t,p,a,g⟩ E h K=rOp P ⟨d, .pick c x y,t,p,a,g⟩ E h (kR K h):=Eq.trans rfl rfl
theorem q_pick {t:TypeId}   {g:Option (Nat × Bool)} {c:Operand} :cOp P p₀ ⟨d, .pick c x y,t,p,a,g⟩ E h K=rOp P ⟨d, .pick c x y,t,p,a,g⟩ E h K:=Eq.trans rfl rfl
theorem w_build {t:TypeId}   {g:Option (Nat × Bool)}   {K:AV→Hp→Prop}:wOp P p₀ ⟨d, .build T parts,t,p,a,g⟩ E h K=rOp P ⟨d, .build T parts,t,p,a,g⟩ E h (kR K h):=Eq.trans rfl rfl
theorem q_build {t:TypeId}   {g:Option (Nat × Bool)}   :cOp P p₀ ⟨d, .build T parts,t,p,a,g⟩ E h K=rOp P ⟨d, .build T parts,t,p,a,g⟩ E h K:=Eq.trans rfl rfl
theorem w_load {t:TypeId}   {g:Option (Nat × Bool)}   {K:AV→Hp→Prop}:wOp P p₀ ⟨d, .load T x,t,p,a,g⟩ E h K=rOp P ⟨d, .load T x,t,p,a,g⟩ E h (kR K h):=Eq.trans rfl rfl
theorem q_load {t:TypeId}   {g:Option (Nat × Bool)}   :cOp P p₀ ⟨d, .load T x,t,p,a,g⟩ E h K=rOp P ⟨d, .load T x,t,p,a,g⟩ E h K:=Eq.trans rfl rfl
theorem w_nilCheck {t:TypeId}   {g:Option (Nat × Bool)}  {K:AV→Hp→Prop}:wOp P p₀ ⟨d, .nilCheck x,t,p,a,g⟩ E h K=rOp P ⟨d, .nilCheck x,t,p,a,g⟩ E h (kR K h):=Eq.trans rfl rfl
theorem q_nilCheck {t:TypeId}   {g:Option (Nat × Bool)}  :cOp P p₀ ⟨d, .nilCheck x,t,p,a,g⟩ E h K=rOp P ⟨d, .nilCheck x,t,p,a,g⟩ E h K:=Eq.trans rfl rfl
theorem w_binOp {t:TypeId}   {g:Option (Nat × Bool)}    {K:AV→Hp→Prop}:wOp P p₀ ⟨d, .binOp op T x y ty,t,p,a,g⟩ E h K=rOp P ⟨d, .binOp op T x y ty,t,p,a,g⟩ E h (kR K h):=Eq.trans rfl rfl
theorem q_binOp {t:TypeId}   {g:Option (Nat × Bool)}    :cOp P p₀ ⟨d, .binOp op T x y ty,t,p,a,g⟩ E h K=rOp P ⟨d, .binOp op T x y ty,t,p,a,g⟩ E h K:=Eq.trans rfl rfl
theorem w_unOp {t:TypeId}   {g:Option (Nat × Bool)} {op:UnOp}   {K:AV→Hp→Prop}:wOp P p₀ ⟨d, .unOp op T x,t,p,a,g⟩ E h K=rOp P ⟨d, .unOp op T x,t,p,a,g⟩ E h (kR K h):=Eq.trans rfl rfl
theorem q_unOp {t:TypeId}   {g:Option (Nat × Bool)} {op:UnOp}   :cOp P p₀ ⟨d, .unOp op T x,t,p,a,g⟩ E h K=rOp P ⟨d, .unOp op T x,t,p,a,g⟩ E h K:=Eq.trans rfl rfl
theorem w_convert {t:TypeId}   {g:Option (Nat × Bool)}   {K:AV→Hp→Prop}:wOp P p₀ ⟨d, .convert s u x,t,p,a,g⟩ E h K=sA (kR K h) (cvA P h s u (E x)):=Eq.trans rfl rfl
theorem q_convert {t:TypeId}   {g:Option (Nat × Bool)}   :cOp P p₀ ⟨d, .convert s u x,t,p,a,g⟩ E h K=sV K (convA P [] s u (E x)):=Eq.trans rfl rfl
theorem w_fieldAddr {t:TypeId}   {g:Option (Nat × Bool)} {S:TypeId}   {K:AV→Hp→Prop}:wOp P p₀ ⟨d, .fieldAddr S x f,t,p,a,g⟩ E h K=rOp P ⟨d, .fieldAddr S x f,t,p,a,g⟩ E h (kR K h):=Eq.trans rfl rfl
theorem q_fieldAddr {t:TypeId}   {g:Option (Nat × Bool)} {S:TypeId}   :cOp P p₀ ⟨d, .fieldAddr S x f,t,p,a,g⟩ E h K=rOp P ⟨d, .fieldAddr S x f,t,p,a,g⟩ E h K:=Eq.trans rfl rfl
theorem w_field {t:TypeId}   {g:Option (Nat × Bool)} {S:TypeId}   {K:AV→Hp→Prop}:wOp P p₀ ⟨d, .field S x f,t,p,a,g⟩ E h K=rOp P ⟨d, .field S x f,t,p,a,g⟩ E h (kR K h):=Eq.trans rfl rfl
theorem q_field {t:TypeId}   {g:Option (Nat × Bool)} {S:TypeId}   :cOp P p₀ ⟨d, .field S x f,t,p,a,g⟩ E h K=rOp P ⟨d, .field S x f,t,p,a,g⟩ E h K:=Eq.trans rfl rfl
theorem w_extract {t:TypeId}   {g:Option (Nat × Bool)}   {K:AV→Hp→Prop}:wOp P p₀ ⟨d, .extract x i,t,p,a,g⟩ E h K=rOp P ⟨d, .extract x i,t,p,a,g⟩ E h (kR K h):=Eq.trans rfl rfl
theorem q_extract {t:TypeId}   {g:Option (Nat × Bool)}   :cOp P p₀ ⟨d, .extract x i,t,p,a,g⟩ E h K=rOp P ⟨d, .extract x i,t,p,a,g⟩ E h K:=Eq.trans rfl rfl
end
end
section
open Go.RowKit
def sT0 (K:AV→Prop) (n:Nat) (o:Option (TypeId × Nat × List AV)):Prop:= ∃ te s l,o=some (te,s,l)∧K (if n=0 then .e0 else .t n s l)
def sX1 (P:Program) (h:Hp) (T:TypeId) (x:AV) (K:AV→Prop) (z:Option Int):Prop:= ∃ i,z=some i∧sA K (idxA P h T x i)
def sX2 (P:Program) (T:TypeId) (x:AV) (K:AV→Prop) (z:Option Int):Prop:= ∃ i,z=some i∧sA K (indexA P T x i)
section
variable {P:Program} {p₀:AV→Hp→Prop} {E:Operand→AV} {h:Hp} {d:Option Tmp} {t:TypeId} {p:String} {a:Array Edge} {g:Option (Nat × Bool)}
variable {T:TypeId}{hi:Option Operand}{x:Operand}
theorem r_slice {lo:Option Operand} {K:AV→Prop}:rOp P ⟨d, .slice T x lo hi none,t,p,a,g⟩ E h K=sA K (sliceT P h T (E x) (lo.map E) (hi.map E)):=propext ⟨fun q=>q.2,fun q=>⟨rfl,q⟩⟩
theorem q_slice {lo:Option Operand} {K:AV→Prop}:cOp P p₀ ⟨d, .slice T x lo hi none,t,p,a,g⟩ E h K=rOp P ⟨d, .slice T x lo hi none,t,p,a,g⟩ E h K:=Eq.trans rfl rfl
variable {K:AV→Hp→Prop}
theorem w_slice {lo:Option Operand} :wOp P p₀ ⟨d, .slice T x lo hi none,t,p,a,g⟩ E h K=sO K (sliceA P h T (E x) (lo.map E) (hi.map E)):=propext ⟨fun q=>q.2,fun q=>⟨rfl,q⟩⟩
variable {i:Operand}
theorem r_indexAddr {K:AV→Prop}:rOp P ⟨d, .indexAddr T x i,t,p,a,g⟩ E h K=sX1 P h T (E x) K (intA (E i)):=propext ⟨fun ⟨z,r,q1,q2,q3⟩=>⟨z,q1,r,q2,q3⟩,fun ⟨z,q1,r,q2,q3⟩=>⟨z,r,q1,q2,q3⟩⟩
theorem q_indexAddr {K:AV→Prop}:cOp P p₀ ⟨d, .indexAddr T x i,t,p,a,g⟩ E h K=rOp P ⟨d, .indexAddr T x i,t,p,a,g⟩ E h K:=Eq.trans rfl rfl
theorem w_indexAddr :wOp P p₀ ⟨d, .indexAddr T x i,t,p,a,g⟩ E h K=rOp P ⟨d, .indexAddr T x i,t,p,a,g⟩ E h (kR K h):=Eq.trans rfl rfl
theorem r_index {K:AV→Prop}:rOp P ⟨d, .index T x i,t,p,a,g⟩ E h K=sX2 P T (E x) K (intA (E i)):=propext ⟨fun ⟨z,r,q1,q2,q3⟩=>⟨z,q1,r,q2,q3⟩,fun ⟨z,q1,r,q2,q3⟩=>⟨z,r,q1,q2,q3⟩⟩
theorem q_index {K:AV→Prop}:cOp P p₀ ⟨d, .index T x i,t,p,a,g⟩ E h K=rOp P ⟨d, .index T x i,t,p,a,g⟩ E h K:=Eq.trans rfl rfl
theorem w_index :wOp P p₀ ⟨d, .index T x i,t,p,a,g⟩ E h K=rOp P ⟨d, .index T x i,t,p,a,g⟩ E h (kR K h):=Eq.trans rfl rfl
variable {l1 l2:List Operand}
theorem r_func {f:Fn}  {K:AV→Prop}:rOp P ⟨d, .makeFunc f l1.toArray l2.toArray,t,p,a,g⟩ E h K=K (.fn f (l1.map E) (l2.map E)):=Eq.trans rfl rfl
theorem q_func {f:Fn}  {K:AV→Prop}:cOp P p₀ ⟨d, .makeFunc f l1.toArray l2.toArray,t,p,a,g⟩ E h K=K (.fn f (l1.map E) (l2.map E)):=Eq.trans rfl rfl
theorem w_func {f:Fn}  :wOp P p₀ ⟨d, .makeFunc f l1.toArray l2.toArray,t,p,a,g⟩ E h K=K (.fn f (l1.map E) (l2.map E)) h:=Eq.trans rfl rfl
theorem len_eq {K:AV→Prop}:rCall P ⟨.builtin .len, #[x], #[T]⟩ E h K=sL K (lenA P h T (E x)):=propext ⟨fun ⟨_,n,q1,_,q2⟩=>⟨n,q1,q2⟩,fun ⟨n,q1,q2⟩=>⟨rfl,n,q1,rfl,q2⟩⟩
theorem q_len {K:AV→Prop}:cOp P p₀ ⟨d, .call ⟨.builtin .len, #[x], #[T]⟩,t,p,a,g⟩ E h K=sL K (lenA P h T (E x)):=len_eq
theorem w_len :wOp P p₀ ⟨d, .call ⟨.builtin .len, #[x], #[T]⟩,t,p,a,g⟩ E h K=sL (kR K h) (lenA P h T (E x)):=len_eq (K:=kR K h)
variable {l:List Operand}{tt:Array TypeId}
theorem q_max {K:AV→Prop}:cOp P p₀ ⟨d, .call ⟨.builtin .max,l.toArray,tt⟩,t,p,a,g⟩ E h K=sA K (mmA true (l.map E)):=Eq.trans rfl rfl
theorem w_max :wOp P p₀ ⟨d, .call ⟨.builtin .max,l.toArray,tt⟩,t,p,a,g⟩ E h K=sA (kR K h) (mmA true (l.map E)):=Eq.trans rfl rfl
theorem q_min {K:AV→Prop}:cOp P p₀ ⟨d, .call ⟨.builtin .min,l.toArray,tt⟩,t,p,a,g⟩ E h K=sA K (mmA false (l.map E)):=Eq.trans rfl rfl
theorem w_min :wOp P p₀ ⟨d, .call ⟨.builtin .min,l.toArray,tt⟩,t,p,a,g⟩ E h K=sA (kR K h) (mmA false (l.map E)):=Eq.trans rfl rfl
variable {U:TypeId}{y:Operand}
theorem w_append :wOp P p₀ ⟨d, .call ⟨.builtin .append, #[x,y], #[T,U]⟩,t,p,a,g⟩ E h K=sO K (appendA P h T U (E x) (E y)):=propext ⟨fun ⟨_,_,q⟩=>q,fun q=>⟨rfl,rfl,q⟩⟩
theorem w_copy :wOp P p₀ ⟨d, .call ⟨.builtin .copy, #[x,y], #[T,U]⟩,t,p,a,g⟩ E h K=sO K (copyA P h T U (E x) (E y)):=propext ⟨fun ⟨_,_,q⟩=>q,fun q=>⟨rfl,rfl,q⟩⟩
theorem w_call {f:Operand}   :wOp P p₀ ⟨d, .call ⟨.value f,l.toArray,tt⟩,t,p,a,g⟩ E h K=sCall P p₀ K h (E f) (l.map E):=Eq.trans rfl rfl
theorem q_call {f:Operand}   {K:AV→Prop}:cOp P p₀ ⟨d, .call ⟨.value f,l.toArray,tt⟩,t,p,a,g⟩ E h K=sCalm P p₀ K h (E f) (l.map E):=Eq.trans rfl rfl
theorem q_lit {n:Nat} {l:List (Nat × Operand)} {K:AV→Prop}:cOp P p₀ ⟨d, .buildSlice T n l.toArray,t,p,a,g⟩ E h K=sT0 K n (litA P h T n (l.map fun p=>(p.1,E p.2))):=Eq.trans rfl rfl
theorem q_append {K:AV→Prop}:cOp P p₀ ⟨d, .call ⟨.builtin .append, #[x,y], #[T,U]⟩,t,p,a,g⟩ E h K=sA K (appT P h T U (E x) (E y)):=propext ⟨fun ⟨_,_,q⟩=>q,fun q=>⟨rfl,rfl,q⟩⟩
theorem w_lit {n:Nat} {l:List (Nat × Operand)} :wOp P p₀ ⟨d, .buildSlice T n l.toArray,t,p,a,g⟩ E h K=sS K h n (litA P h T n (l.map fun p=>(p.1,E p.2))):=Eq.trans rfl rfl
theorem w_alloc :wOp P p₀ ⟨d, .alloc T,t,p,a,g⟩ E h K=sZ K h (zeroP P T):=Eq.trans rfl rfl
theorem w_box :wOp P p₀ ⟨d, .box T x,t,p,a,g⟩ E h K=sB K h (cellsA h (E x)):=Eq.trans rfl rfl
theorem w_store :wOp P p₀ ⟨d, .store T x y,t,p,a,g⟩ E h K=sH K (storeA P h T (E x) (E y)):=Eq.trans rfl rfl
theorem w_make :wOp P p₀ ⟨d, .makeSlice T x y,t,p,a,g⟩ E h K=sI P T K h (intA (E x)) (intA (E y)):=Eq.trans rfl rfl
end
section
variable {P:Program} {p₀:AV→Hp→Prop} {N:Nat} {L:List Nat} {ks:List (Nat × Nat)}
theorem some_ex {α:Type} {x:α} {K:α→Prop}:(∃ r,some x=some r∧K r)=K x:=propext ⟨fun ⟨r,h1,h2⟩=>by injection h1 with h1;subst h1;exact h2,fun h=>⟨x,rfl,h⟩⟩
variable {v:Value}
theorem sV_some {K:AV→Prop} :sV K (some v)=K (.v v):=some_ex (K:=fun r=>K (.v r))
theorem sA_some {K:AV→Prop} {v:AV}:sA K (some v)=K v:=some_ex
variable {l:List AV}
theorem sG_some {K:AV→Prop} :sG K (some l)=K (.g l):=some_ex (K:=fun r=>K (.g r))
variable {h:Hp}
theorem sO_some {K:AV→Hp→Prop} {v:AV} :sO K (some (v,h))=K v h:=propext ⟨fun ⟨r,h',h1,h2⟩=>by injection h1 with h1;injection h1 with e1 e2;subst e1 e2;exact h2,fun q=>⟨v,h,rfl,q⟩⟩
theorem sE_some {K:AV→Hp→Prop} {v:AV} :sE K (some (v,h))=K v h:=sO_some
theorem sH_some {K:AV→Hp→Prop} :sH K (some h)=K .none h:=some_ex (K:=fun r=>K .none r)
theorem sZ_some {K:AV→Hp→Prop}  {z:Value}:sZ K h (some z)=K (.ptr h.length 0) (h++[some (.blk (vcells z))]):=propext ⟨fun ⟨r,h1,h2⟩=>by injection h1 with h1;subst h1;exact h2,fun q=>⟨z,rfl,q⟩⟩
theorem sB_some {K:AV→Hp→Prop}  {z:List AV}:sB K h (some z)=K (.ptr h.length 0) (h++[some (.blk z)]):=propext ⟨fun ⟨r,h1,h2⟩=>by injection h1 with h1;subst h1;exact h2,fun q=>⟨z,rfl,q⟩⟩
variable {n s:Nat}{te:TypeId}
theorem sS_some {K:AV→Hp→Prop}     :sS K h n (some (te,s,l))=K (.own h.length n) (h++[some (.arr te s l 0)]):=propext ⟨fun ⟨_,_,_,h1,h2⟩=>by injection h1 with h1;injection h1 with e1 h1;injection h1 with e2 e3;subst e1 e2 e3;exact h2,fun q=>⟨te,s,l,rfl,q⟩⟩
theorem sT_some {K:AV→Prop}    :sT K n (some (te,s,l))=K (.t n s l):=propext ⟨fun ⟨_,_,_,h1,h2⟩=>by injection h1 with h1;injection h1 with e1 h1;injection h1 with e2 e3;subst e1 e2 e3;exact h2,fun q=>⟨te,s,l,rfl,q⟩⟩
theorem sT0_some {K:AV→Prop}    :sT0 K n (some (te,s,l))=K (if n=0 then .e0 else .t n s l):=propext ⟨fun ⟨_,_,_,h1,h2⟩=>by injection h1 with h1;injection h1 with e1 h1;injection h1 with e2 e3;subst e1 e2 e3;exact h2,fun q=>⟨te,s,l,rfl,q⟩⟩
variable {T:TypeId}
theorem sI_some {K:AV→Hp→Prop}  {zl zc:Int}:sI P T K h (some zl) (some zc)=sS K h zl.toNat (makeA P T zl zc):=propext ⟨fun ⟨_,_,te,s,l,h1,h2,h3,h4⟩=>by injection h1 with h1;injection h2 with h2;subst h1 h2;exact ⟨te,s,l,h3,h4⟩,fun ⟨te,s,l,h3,h4⟩=>⟨_,_,te,s,l,rfl,rfl,h3,h4⟩⟩
variable {x:AV}
theorem sX1_some {K:AV→Prop} {i:Int}:sX1 P h T x K (some i)=sA K (idxA P h T x i):=some_ex (K:=fun i=>sA K (idxA P h T x i))
theorem sX2_some {K:AV→Prop} {i:Int}:sX2 P T x K (some i)=sA K (indexA P T x i):=some_ex (K:=fun i=>sA K (indexA P T x i))
theorem sN_some {K:AV→Prop} :sN K x (some false)=K x:=propext ⟨fun q=>q.2,fun q=>⟨rfl,q⟩⟩
theorem sL_some {K:AV→Prop} :sL K (some n)=K (.v (.int .i64 n)):=some_ex (K:=fun n:Nat=>K (.v (.int .i64 n)))
theorem sP_t {K:AV→Prop} {y:AV}:sP K (.v (.bool true)) x y=K x:=propext ⟨fun ⟨t,h1,h2⟩=>by cases h1;exact h2,fun q=>⟨true,rfl,q⟩⟩
theorem sP_f {K:AV→Prop} {y:AV}:sP K (.v (.bool false)) x y=K y:=propext ⟨fun ⟨t,h1,h2⟩=>by cases h1;exact h2,fun q=>⟨false,rfl,q⟩⟩
variable {e:Ev}
theorem sC_t {a b:Code} {Q:PostW}  :sC P N L ks a b Q e h (.v (.bool true))=wCode P N L ks a Q e h:=propext ⟨fun ⟨t,h1,h2⟩=>by cases h1;exact h2,fun q=>⟨true,rfl,q⟩⟩
theorem sC_f {a b:Code} {Q:PostW}  :sC P N L ks a b Q e h (.v (.bool false))=wCode P N L ks b Q e h:=propext ⟨fun ⟨t,h1,h2⟩=>by cases h1;exact h2,fun q=>⟨false,rfl,q⟩⟩
variable {all r:List Oper}{d:Option Tmp}{o:Oper}
theorem sW_tt {K:Ev→Hp→Prop}:sW P p₀ all o r d e h K true (.v (.bool true))=wOp P p₀ o (opnd e) h (kO P p₀ all r d e K):=propext ⟨fun ⟨t,h1,h2⟩=>by injection h1 with h1;subst h1;simpa using h2,fun q=>⟨_,rfl,by simpa using q⟩⟩
theorem sW_tf {K:Ev→Hp→Prop}:sW P p₀ all o r d e h K true (.v (.bool false))=wOps P p₀ all r (putE e d (.v undef)) h K:=propext ⟨fun ⟨t,h1,h2⟩=>by injection h1 with h1;subst h1;simpa using h2,fun q=>⟨_,rfl,by simpa using q⟩⟩
theorem sW_ft {K:Ev→Hp→Prop}:sW P p₀ all o r d e h K false (.v (.bool true))=wOps P p₀ all r (putE e d (.v undef)) h K:=propext ⟨fun ⟨t,h1,h2⟩=>by injection h1 with h1;subst h1;simpa using h2,fun q=>⟨_,rfl,by simpa using q⟩⟩
theorem sW_ff {K:Ev→Hp→Prop}:sW P p₀ all o r d e h K false (.v (.bool false))=wOp P p₀ o (opnd e) h (kO P p₀ all r d e K):=propext ⟨fun ⟨t,h1,h2⟩=>by injection h1 with h1;subst h1;simpa using h2,fun q=>⟨_,rfl,by simpa using q⟩⟩
variable {q:Prop}
theorem sW_dt00 {K:Ev→Hp→Prop}  [Decidable q] (hq: ¬ q):sW P p₀ all o r d e h K true (.v (.bool (decide q)))=wOps P p₀ all r (putE e d (.v undef)) h K:=by rw [alB hq];exact sW_tf
theorem sW_dt01 {K:Ev→Hp→Prop}  [Decidable q] (hq:q):sW P p₀ all o r d e h K true (.v (.bool (decide q)))=wOp P p₀ o (opnd e) h (kO P p₀ all r d e K):=by rw [alA hq];exact sW_tt
theorem sW_dt10 {K:Ev→Hp→Prop}  [Decidable q] (hq: ¬ q):sW P p₀ all o r d e h K true (.v (.bool (!decide q)))=wOp P p₀ o (opnd e) h (kO P p₀ all r d e K):=by rw [alB hq];exact sW_tt
theorem sW_dt11 {K:Ev→Hp→Prop}  [Decidable q] (hq:q):sW P p₀ all o r d e h K true (.v (.bool (!decide q)))=wOps P p₀ all r (putE e d (.v undef)) h K:=by rw [alA hq];exact sW_tf
theorem sW_df00 {K:Ev→Hp→Prop}  [Decidable q] (hq: ¬ q):sW P p₀ all o r d e h K false (.v (.bool (decide q)))=wOp P p₀ o (opnd e) h (kO P p₀ all r d e K):=by rw [alB hq];exact sW_ff
theorem sW_df01 {K:Ev→Hp→Prop}  [Decidable q] (hq:q):sW P p₀ all o r d e h K false (.v (.bool (decide q)))=wOps P p₀ all r (putE e d (.v undef)) h K:=by rw [alA hq];exact sW_ft
theorem sW_df10 {K:Ev→Hp→Prop}  [Decidable q] (hq: ¬ q):sW P p₀ all o r d e h K false (.v (.bool (!decide q)))=wOps P p₀ all r (putE e d (.v undef)) h K:=by rw [alB hq];exact sW_ft
theorem sW_df11 {K:Ev→Hp→Prop}  [Decidable q] (hq:q):sW P p₀ all o r d e h K false (.v (.bool (!decide q)))=wOp P p₀ o (opnd e) h (kO P p₀ all r d e K):=by rw [alA hq];exact sW_ff
theorem sW_un {K:Ev→Hp→Prop} {w:Bool}:sW P p₀ all o r d e h K w (.v undef)=wOps P p₀ all r (putE e d (.v undef)) h K:=propext ⟨fun ⟨t,h1,h2⟩=>by injection h1 with h1;subst h1;simpa using h2,fun q=>⟨_,rfl,by simpa using q⟩⟩
variable {K:Ev→List (Tmp × Value)→Prop}{al:List (Tmp × Value)}
theorem sY_un {w:Bool}:sY P p₀ all h o r d e al K w (.v undef)=wHead P p₀ all h r (putE e d (.v undef)) al K:=propext ⟨fun ⟨t,h1,h2⟩=>by injection h1 with h1;subst h1;simpa using h2,fun q=>⟨_,rfl,by simpa using q⟩⟩
theorem sY_tt :sY P p₀ all h o r d e al K true (.v (.bool true))=cOp P p₀ o (opnd e) h (kH P p₀ all h r d e al K):=propext ⟨fun ⟨t,h1,h2⟩=>by injection h1 with h1;subst h1;simpa using h2,fun q=>⟨_,rfl,by simpa using q⟩⟩
theorem sY_tf :sY P p₀ all h o r d e al K true (.v (.bool false))=wHead P p₀ all h r (putE e d (.v undef)) al K:=propext ⟨fun ⟨t,h1,h2⟩=>by injection h1 with h1;subst h1;simpa using h2,fun q=>⟨_,rfl,by simpa using q⟩⟩
theorem sY_ft :sY P p₀ all h o r d e al K false (.v (.bool true))=wHead P p₀ all h r (putE e d (.v undef)) al K:=propext ⟨fun ⟨t,h1,h2⟩=>by injection h1 with h1;subst h1;simpa using h2,fun q=>⟨_,rfl,by simpa using q⟩⟩
theorem sY_ff :sY P p₀ all h o r d e al K false (.v (.bool false))=cOp P p₀ o (opnd e) h (kH P p₀ all h r d e al K):=propext ⟨fun ⟨t,h1,h2⟩=>by injection h1 with h1;subst h1;simpa using h2,fun q=>⟨_,rfl,by simpa using q⟩⟩
theorem sY_dt00 [Decidable q] (hq: ¬ q):sY P p₀ all h o r d e al K true (.v (.bool (decide q)))=wHead P p₀ all h r (putE e d (.v undef)) al K:=by rw [alB hq];exact sY_tf
theorem sY_dt01 [Decidable q] (hq:q):sY P p₀ all h o r d e al K true (.v (.bool (decide q)))=cOp P p₀ o (opnd e) h (kH P p₀ all h r d e al K):=by rw [alA hq];exact sY_tt
theorem sY_dt10 [Decidable q] (hq: ¬ q):sY P p₀ all h o r d e al K true (.v (.bool (!decide q)))=cOp P p₀ o (opnd e) h (kH P p₀ all h r d e al K):=by rw [alB hq];exact sY_tt
theorem sY_dt11 [Decidable q] (hq:q):sY P p₀ all h o r d e al K true (.v (.bool (!decide q)))=wHead P p₀ all h r (putE e d (.v undef)) al K:=by rw [alA hq];exact sY_tf
theorem sY_df00 [Decidable q] (hq: ¬ q):sY P p₀ all h o r d e al K false (.v (.bool (decide q)))=cOp P p₀ o (opnd e) h (kH P p₀ all h r d e al K):=by rw [alB hq];exact sY_ff
theorem sY_df01 [Decidable q] (hq:q):sY P p₀ all h o r d e al K false (.v (.bool (decide q)))=wHead P p₀ all h r (putE e d (.v undef)) al K:=by rw [alA hq];exact sY_ft
theorem sY_df10 [Decidable q] (hq: ¬ q):sY P p₀ all h o r d e al K false (.v (.bool (!decide q)))=wHead P p₀ all h r (putE e d (.v undef)) al K:=by rw [alB hq];exact sY_ft
theorem sY_df11 [Decidable q] (hq:q):sY P p₀ all h o r d e al K false (.v (.bool (!decide q)))=cOp P p₀ o (opnd e) h (kH P p₀ all h r d e al K):=by rw [alA hq];exact sY_ff
theorem sP_d00 {K:AV→Prop} {y:AV}  [Decidable q] (hq: ¬ q):sP K (.v (.bool (decide q))) x y=K y:=by rw [alB hq];exact sP_f
theorem sP_d01 {K:AV→Prop} {y:AV}  [Decidable q] (hq:q):sP K (.v (.bool (decide q))) x y=K x:=by rw [alA hq];exact sP_t
theorem sP_d10 {K:AV→Prop} {y:AV}  [Decidable q] (hq: ¬ q):sP K (.v (.bool (!decide q))) x y=K x:=by rw [alB hq];exact sP_t
theorem sP_d11 {K:AV→Prop} {y:AV}  [Decidable q] (hq:q):sP K (.v (.bool (!decide q))) x y=K y:=by rw [alA hq];exact sP_f
variable {Q:AV→Hp→Prop}
theorem sF_some {r:AV}:sF Q h (some r)=sE Q (close3 h r):=some_ex (K:=fun r=>sE Q (close3 h r))
variable {p:AV→Hp→Prop}{rs:Array ResultVar}
theorem finP0 :FinP P rs Q p .normal e h=sF Q h (resA P h e rs):=propext ⟨fun ⟨r,r',h',h1,h2,h3⟩=>⟨r,h1,r',h',h2,h3⟩,fun ⟨r,h1,r',h',h2,h3⟩=>⟨r,r',h',h1,h2,h3⟩⟩
theorem finP1 :FinP P rs Q p .ret e h=sF Q h (resA P h e rs):=finP0 (p:=p)
variable {a:AV}
theorem finP2 :FinP P rs Q p (.panic a) e h=sE p (close3 h a):=propext ⟨fun ⟨r',h',h2,h3⟩=>⟨r',h',h2,h3⟩,fun ⟨r',h',h2,h3⟩=>⟨r',h',h2,h3⟩⟩
theorem fin0 :Fin P rs Q .normal e h=sF Q h (resA P h e rs):=propext ⟨fun ⟨r,r',h',h1,h2,h3⟩=>⟨r,h1,r',h',h2,h3⟩,fun ⟨r,h1,r',h',h2,h3⟩=>⟨r,r',h',h1,h2,h3⟩⟩
theorem fin1 :Fin P rs Q .ret e h=sF Q h (resA P h e rs):=fin0
def resB:Option (List AV)→Option AV
 | some [a]=>some a
 | some l=>some (.tup l)
 | none=>none
theorem resA_eq {rs:List ResultVar}  :resA P h e rs.toArray=resB (resL P h e rs):=by
 show (match resL P h e rs with | some [a]=>some a | some l=>some (.tup l) | none=>none)=_;cases resL P h e rs with
 | none=>rfl
 | some l=>match l with
  | []=>rfl
  | [_]=>rfl
  | _::_::_=>rfl
theorem resB1 :resB (some [a])=some a:=Eq.trans rfl rfl
theorem resB0:resB (some [])=some (.tup []):=Eq.trans rfl rfl
theorem resB2 {b:AV} :resB (some (a::b::l))=some (.tup (a::b::l)):=Eq.trans rfl rfl
theorem resL_nil :resL P h e []=some []:=Eq.trans rfl rfl
theorem resL_tmp {t:Tmp} {r:List ResultVar}:resL P h e (.tmp t::r)=(resL P h e r).map (fun l=>getE e t::l):=Eq.trans rfl rfl
def resC:Option AV→Option (List AV)→Option (List AV)
 | some a,some l=>some (a::l)
 | _,_=>none
theorem resC_some :resC (some a) (some l)=some (a::l):=Eq.trans rfl rfl
theorem yes_c {a b:Code} {Q:PostW}    [Decidable q] (hq:q):sC P N L ks a b Q e h (.v (.bool (decide q)))=wCode P N L ks a Q e h:=by rw [alA hq];exact sC_t
theorem no_c {a b:Code} {Q:PostW}    [Decidable q] (hq: ¬ q):sC P N L ks a b Q e h (.v (.bool (decide q)))=wCode P N L ks b Q e h:=by rw [alB hq];exact sC_f
theorem yes_n {a b:Code} {Q:PostW}    [Decidable q] (hq:q):sC P N L ks a b Q e h (.v (.bool (!decide q)))=wCode P N L ks b Q e h:=by rw [alA hq];exact sC_f
theorem no_n {a b:Code} {Q:PostW}    [Decidable q] (hq: ¬ q):sC P N L ks a b Q e h (.v (.bool (!decide q)))=wCode P N L ks a Q e h:=by rw [alB hq];exact sC_t
theorem gGet_some {d:Tmp}:gGet e (some d)=getE e d:=Eq.trans rfl rfl
theorem put_some {d:Tmp} :putE e (some d) a=(d,a)::e:=Eq.trans rfl rfl
theorem put_none :putE e none a=e:=Eq.trans rfl rfl
theorem get_nil {d:Tmp}:getE [] d= .none:=Eq.trans rfl rfl
theorem get_cons {k d:Tmp}  {r:Ev}:getE ((k,a)::r) d=if k=d then a else getE r d:=Eq.trans rfl rfl
theorem op_tmp {d:Tmp}:opnd e (.tmp d)=getE e d:=Eq.trans rfl rfl
theorem op_const :opnd e (.const v)= .v v:=Eq.trans rfl rfl
theorem op_func {f:FuncId}:opnd e (.func f)= .fn (.func f) [] []:=Eq.trans rfl rfl
theorem op_global {g:Nat}:opnd e (.global g)= .v (.pointer (some ⟨g,0,none⟩)):=Eq.trans rfl rfl
theorem keep_nil :keepE [] e=[]:=Eq.trans rfl rfl
theorem keep_cons {d:Nat} {L:List Nat}:keepE (d::L) e=(d,getE e d)::keepE L e:=Eq.trans rfl rfl
theorem kof_cons {i k d:Nat} {r:List (Nat × Nat)}:kOf ((i,k)::r) d=if i=d then k else kOf r d:=Eq.trans rfl rfl
theorem kof_nil {d:Nat}:kOf [] d=0:=Eq.trans rfl rfl
theorem arr_list {α:Type} {l:List α}:l.toArray.toList=l:=Eq.trans rfl rfl
theorem arg_nil {k:Nat}:argE k []=[]:=Eq.trans rfl rfl
theorem arg_cons {k:Nat}  {r:List AV}:argE k (a::r)=(k,a)::argE (k+1) r:=Eq.trans rfl rfl
theorem al_nil :allocEnv n [] e=e:=Eq.trans rfl rfl
theorem al_cons {d:Tmp} {z:Value} {r:List (Tmp × Value)}:allocEnv n ((d,z)::r) e=(d, .ptr n 0)::allocEnv (n+1) r e:=Eq.trans rfl rfl
theorem blkOf_eq {d:Tmp} {z:Value}:blkOf (d,z)=some (.blk (vcells z)):=Eq.trans rfl rfl
variable {k:IntKind}{z:Int}
theorem int_int :intA (.v (.int k z))=some z:=Eq.trans rfl rfl
variable {k':IntKind}{op:BinOp}{y:Int}
theorem bin_int {x:Int}:binA P h op T (.v (.int k x)) (.v (.int k' y))=binV op (.int k x) (.int k' y):=Eq.trans rfl rfl
theorem bin_str {x y:ByteArray}:binA P h op T (.v (.string x)) (.v (.string y))=binV op (.string x) (.string y):=Eq.trans rfl rfl
variable {b:Bool}
theorem eq_eql :eqOp .eql b=some (.bool b):=Eq.trans rfl rfl
theorem eq_neq :eqOp .neq b=some (.bool (!b)):=Eq.trans rfl rfl
theorem b_add {x:Int}:binV .add (.int k x) (.int k y)=some (.int k (k.wrap (x+y))):=if_pos rfl
theorem b_sub {x:Int}:binV .sub (.int k x) (.int k y)=some (.int k (k.wrap (x - y))):=if_pos rfl
theorem b_mul {x:Int}:binV .mul (.int k x) (.int k y)=some (.int k (k.wrap (x*y))):=if_pos rfl
theorem b_quo {x:Int} (hy:y≠0):binV .quo (.int k x) (.int k y)=some (.int k (k.wrap (x.tdiv y))):=if_pos ⟨rfl,hy⟩
theorem b_rem {x:Int} (hy:y≠0):binV .rem (.int k x) (.int k y)=some (.int k (x.tmod y)):=if_pos ⟨rfl,hy⟩
theorem b_shl {x:Int} (hy:0≤y):binV .shl (.int k x) (.int k' y)=some (.int k (k.wrap (x*2 ^ (min y.toNat k.bits)))):=if_pos hy
theorem b_shr {x:Int} (hy:0≤y):binV .shr (.int k x) (.int k' y)=some (.int k (x.fdiv (2 ^ (min y.toNat k.bits)))):=if_pos hy
theorem b_and {x:Int}:binV .and (.int k x) (.int k y)=some (.int k (k.wrap (BitVec.ofInt k.bits x &&& BitVec.ofInt k.bits y).toNat)):=if_pos rfl
theorem b_or {x:Int}:binV .or (.int k x) (.int k y)=some (.int k (k.wrap (BitVec.ofInt k.bits x ||| BitVec.ofInt k.bits y).toNat)):=if_pos rfl
theorem b_xor {x:Int}:binV .xor (.int k x) (.int k y)=some (.int k (k.wrap (BitVec.ofInt k.bits x ^^^ BitVec.ofInt k.bits y).toNat)):=if_pos rfl
theorem b_eql {x:Int}:binV .eql (.int k x) (.int k y)=some (.bool (decide (x=y))):=if_pos rfl
theorem b_neq {x:Int}:binV .neq (.int k x) (.int k y)=some (.bool (!decide (x=y))):=if_pos rfl
theorem b_lss {x:Int}:binV .lss (.int k x) (.int k y)=some (.bool (decide (x<y))):=if_pos rfl
theorem b_leq {x:Int}:binV .leq (.int k x) (.int k y)=some (.bool (decide (x≤y))):=if_pos rfl
theorem b_gtr {x:Int}:binV .gtr (.int k x) (.int k y)=some (.bool (decide (y<x))):=if_pos rfl
theorem b_geq {x:Int}:binV .geq (.int k x) (.int k y)=some (.bool (decide (y≤x))):=if_pos rfl
theorem b_cat {x y:ByteArray} (hs:x.size+y.size≤9223372036854775807):binV .add (.string x) (.string y)=some (.string (x++y)):=if_pos hs
theorem b_seq {x y:ByteArray}:binV .eql (.string x) (.string y)=some (.bool (decide (x=y))):=Eq.trans rfl rfl
theorem b_sne {x y:ByteArray}:binV .neq (.string x) (.string y)=some (.bool (!decide (x=y))):=Eq.trans rfl rfl
theorem u_not :unA .not (.v (.bool b))=some (.bool (!b)):=Eq.trans rfl rfl
theorem u_neg :unA .neg (.v (.int k z))=some (.int k (k.wrap (0 - z))):=Eq.trans rfl rfl
theorem ex_tup {i:Nat}:extrA (.tup l) i=l[i]? :=Eq.trans rfl rfl
theorem mm_max {x:Int}:mmA true [.v (.int k x), .v (.int k' y)]=some (.v (.int k (if y>x then y else x))):=Eq.trans rfl rfl
theorem mm_min {x:Int}:mmA false [.v (.int k x), .v (.int k' y)]=some (.v (.int k (if y<x then y else x))):=Eq.trans rfl rfl
theorem w64 {x:Int} (h1: -9223372036854775808≤x) (h2:x≤9223372036854775807):IntKind.i64.wrap x=x:=by rw [IntKind.wrap_i64];omega
theorem wu32 {x:Int} (h1:0≤x) (h2:x≤4294967295):IntKind.u32.wrap x=x:=by rw [IntKind.wrap_u32];omega
theorem wu64 {x:Int} (h1:0≤x) (h2:x≤18446744073709551615):IntKind.u64.wrap x=x:=by rw [IntKind.wrap_u64];omega
theorem wu8 {x:Int} (h1:0≤x) (h2:x≤255):IntKind.u8.wrap x=x:=by rw [IntKind.wrap_u8];omega
theorem bits_u32:IntKind.u32.bits=32:=Eq.trans rfl rfl
theorem bits_u64:IntKind.u64.bits=64:=Eq.trans rfl rfl
theorem bits_i64:IntKind.i64.bits=64:=Eq.trans rfl rfl
theorem bits_u8:IntKind.u8.bits=8:=Eq.trans rfl rfl
def tab (n:Nat) (f:Nat→AV):List AV:=(List.range n).map f
theorem tab_len {f:Nat→AV}:(tab n f).length=n:=by simp [tab]
theorem tab_get {k:Nat} {f:Nat→AV} (hk:k<n):(tab n f)[k]? =some (f k):=by simp [tab,hk]
theorem tab_set {k:Nat} {f:Nat→AV} :(tab n f).set k x=tab n (fun i=>if i=k then x else f i):=by
 apply List.ext_getElem?;intro i;by_cases hi:i<n
 ·rw [tab_get hi,List.getElem?_set];by_cases e:k=i
  ·subst e;simp [tab_len,hi]
  ·simp [e,tab_get hi,show i≠k from fun e'=>e e'.symm]
 ·simp [tab,hi]
theorem ints_tab {f:Nat→Int}:intsOf (tab n fun i=> .v (.int .u8 (f i)))=some ((List.range n).map f):=by
 unfold tab;generalize List.range n=l;induction l with
 | nil=>rfl
 | cons a r ih=>
  simp only [List.map_cons];show (intsOf (r.map _)).map _=_;rw [ih];rfl
theorem tab_congr {f f':Nat→AV} (h: ∀ i,i<n→f i=f' i):tab n f=tab n f':=by
 apply List.ext_getElem?;intro i;by_cases hi:i<n
 ·rw [tab_get hi,tab_get hi,h i hi]
 ·simp [tab,hi]
theorem ld :loadA P h T a=(behind h a).bind (takeA P T):=Eq.trans rfl rfl
def bBlk (off:Nat):Option (Option Ob)→Option (List AV)
 | some (some (.blk cells))=>some (cells.drop off)
 | _=>none
variable {id off:Nat}
theorem bh_ptr :behind h (.ptr id off)=bBlk off h[id]? :=by
 show (match h[id]? with | some (some (.blk cells))=>some (cells.drop off) | _=>none)=_;unfold bBlk;rfl
theorem bBlk_some :bBlk off (some (some (.blk l)))=some (l.drop off):=Eq.trans rfl rfl
def bArr (n off:Nat):Option (Option Ob)→Option (List AV)
 | some (some (.arr _ s cells _))=>if cells.length=n*s then some (cells.drop off) else none
 | _=>none
theorem bh_ap :behind h (.ap id n off)=bArr n off h[id]? :=by
 show (match h[id]? with | some (some (.arr _ s cells _))=>if cells.length=n*s then some (cells.drop off) else none | _=>none)=_;unfold bArr;rfl
variable {fz:Nat}
theorem bArr1 (hl:l.length=n):bArr n off (some (some (.arr T 1 l fz)))=some (l.drop off):=if_pos (by omega)
theorem bArr_some (hl:l.length=n*s):bArr n off (some (some (.arr T s l fz)))=some (l.drop off):=if_pos hl
theorem bh_tp :behind h (.tp l)=some l:=Eq.trans rfl rfl
def lArr (n:Nat):Option (Option Ob)→Bool
 | some (some (.arr _ s cells _))=>decide (cells.length=n*s)
 | _=>false
def lBlk:Option (Option Ob)→Bool
 | some (some (.blk _))=>true
 | _=>false
theorem lv_own :liveA h (.own id n)=lArr n h[id]? :=by
 show (match h[id]? with | some (some (.arr _ s cells _))=>decide (cells.length=n*s) | _=>false)=_;unfold lArr;rfl
theorem lv_ap :liveA h (.ap id n off)=lArr n h[id]? :=by
 show (match h[id]? with | some (some (.arr _ s cells _))=>decide (cells.length=n*s) | _=>false)=_;unfold lArr;rfl
theorem lv_ptr :liveA h (.ptr id off)=lBlk h[id]? :=by
 show (match h[id]? with | some (some (.blk _))=>true | _=>false)=_;unfold lBlk;rfl
theorem lArr_some :lArr n (some (some (.arr T s l fz)))=decide (l.length=n*s):=Eq.trans rfl rfl
theorem lBlk_some :lBlk (some (some (.blk l)))=true:=Eq.trans rfl rfl
theorem cl_int :cellsA h (.v (.int k z))=some [.v (.int k z)]:=Eq.trans rfl rfl
theorem cl_bool :cellsA h (.v (.bool b))=some [.v (.bool b)]:=Eq.trans rfl rfl
theorem cl_str {b:ByteArray}:cellsA h (.v (.string b))=some [.v (.string b)]:=Eq.trans rfl rfl
theorem cl_nils :cellsA h (.v (.slice none 0 0))=some [.v (.slice none 0 0)]:=Eq.trans rfl rfl
theorem cl_nilp {q:Option Addr}:cellsA h (.v (.pointer q))=some [.v (.pointer q)]:=Eq.trans rfl rfl
theorem cl_t :cellsA h (.t n s l)=some [.t n s l]:=Eq.trans rfl rfl
theorem cl_g :cellsA h (.g l)=some l:=Eq.trans rfl rfl
theorem cl_tp :cellsA h (.tp l)=some [.tp l]:=Eq.trans rfl rfl
variable {l2:List AV}
theorem cl_fn {f:Fn} {l1:List AV}:cellsA h (.fn f l1 l2)=some [.fn f l1 l2]:=Eq.trans rfl rfl
theorem cl_own (h0:liveA h (.own id n)=true):cellsA h (.own id n)=some [.own id n]:=if_pos h0
theorem cl_ptr (h0:liveA h (.ptr id n)=true):cellsA h (.ptr id n)=some [.ptr id n]:=if_pos h0
theorem on_v :oneA h (.v v)=v.oneCell':=Eq.trans rfl rfl
theorem oc_int :Value.oneCell' (.int k z)=true:=Eq.trans rfl rfl
theorem oc_bool :Value.oneCell' (.bool b)=true:=Eq.trans rfl rfl
theorem oc_str {b:ByteArray}:Value.oneCell' (.string b)=true:=Eq.trans rfl rfl
theorem oc_slice {q:Option Addr} {c:Nat}:Value.oneCell' (.slice q n c)=true:=Eq.trans rfl rfl
theorem oc_ptr {q:Option Addr}:Value.oneCell' (.pointer q)=true:=Eq.trans rfl rfl
theorem on_t :oneA h (.t n s l)=true:=Eq.trans rfl rfl
theorem on_tp :oneA h (.tp l)=true:=Eq.trans rfl rfl
theorem on_fn {f:Fn} {l1:List AV}:oneA h (.fn f l1 l2)=true:=Eq.trans rfl rfl
theorem on_own :oneA h (.own id n)=liveA h (.own id n):=Eq.trans rfl rfl
theorem on_ptr :oneA h (.ptr id n)=liveA h (.ptr id n):=Eq.trans rfl rfl
def stB (h:Hp) (a:AV) (l:List AV):Option Nat→Bool→Option Hp
 | some n,true=>if n=l.length then match a with
   | .ptr id off=>match h[id]? with
    | some (some (.blk cells))=>if off+l.length≤cells.length then some (h.set id (some (.blk (setLA cells off l)))) else none
    | _=>none
   | .ap id n off=>match h[id]? with
    | some (some (.arr T s cells fz))=>if cells.length=n*s∧fz≤off∧off+l.length≤cells.length then some (h.set id (some (.arr T s (setLA cells off l) fz))) else none
    | _=>none
   | _=>none
  else none
 | _,_=>none
def stA (P:Program) (h:Hp) (T:TypeId) (a:AV):Option (List AV)→Option Hp
 | some l=>stB h a l (szP P T) (l.all (oneA h))
 | none=>none
theorem st :storeA P h T a x=stA P h T a (cellsA h x):=by
 unfold storeA stA;cases cellsA h x with
 | none=>rfl
 | some l=>
  simp only [Option.bind_some];unfold stB;cases szP P T with
  | none=>rw [if_neg (by simp)]
  | some n=>
   cases hl:l.all (oneA h) with
   | false=>rw [if_neg (by simp)]
   | true=>
    by_cases e:n=l.length
    ·subst e;rw [if_pos ⟨rfl,rfl⟩];simp only [if_true];rfl
    ·rw [if_neg (fun q=>e (by injection q.1))];simp only [e,if_false]
def stP (h:Hp) (id off:Nat) (l:List AV):Option (Option Ob)→Option Hp
 | some (some (.blk cells))=>if off+l.length≤cells.length then some (h.set id (some (.blk (setLA cells off l)))) else none
 | _=>none
def stQ (h:Hp) (id n off:Nat) (l:List AV):Option (Option Ob)→Option Hp
 | some (some (.arr T s cells fz))=>if cells.length=n*s∧fz≤off∧off+l.length≤cells.length then some (h.set id (some (.arr T s (setLA cells off l) fz))) else none
 | _=>none
theorem st_ptr (hn:n=l.length):stB h (.ptr id off) l (some n) true=stP h id off l h[id]? :=by
 show (if n=l.length then _ else _)=_;rw [if_pos hn];unfold stP;rfl
variable {m:Nat}
theorem st_ap (hn:n=l.length):stB h (.ap id m off) l (some n) true=stQ h id m off l h[id]? :=by
 show (if n=l.length then _ else _)=_;rw [if_pos hn];unfold stQ;rfl
theorem stP_some {cells:List AV} (hl:off+l.length≤cells.length):stP h id off l (some (some (.blk cells)))=some (h.set id (some (.blk (setLA cells off l)))):=if_pos hl
theorem stQ_one {cells:List AV} (h1:cells.length=n) (h2:fz≤off) (h3:off<n):stQ h id n off [x] (some (some (.arr T 1 cells fz)))=some (h.set id (some (.arr T 1 (cells.set off x) fz))):=if_pos ⟨by omega,h2,by simp;omega⟩
theorem stQ_some {cells:List AV} (h1:cells.length=n*s) (h2:fz≤off) (h3:off+l.length≤cells.length):stQ h id n off l (some (some (.arr T s cells fz)))=some (h.set id (some (.arr T s (setLA cells off l) fz))):=if_pos ⟨h1,h2,h3⟩
theorem setLA_nil {o:Nat}:setLA l o []=l:=Eq.trans rfl rfl
theorem setLA_cons {r:List AV} {o:Nat} :setLA l o (a::r)=setLA (l.set o a) (o+1) r:=Eq.trans rfl rfl
def sDz (P:Program) (all:List Oper) (h:Hp) (r:List Oper) (d:Tmp) (e:Ev) (al:List (Tmp × Value)) (K:Ev→List (Tmp × Value)→Prop):Option Value→Prop
 | some z=>wHead P p₀ all h r ((d, .none)::e) (al++[(d,z)]) K
 | none=>False
theorem sD_z {d:Tmp}    :sD P p₀ all h r (some d) e al K T=sDz (p₀:=p₀) P all h r d e al K (zeroP P T):=by
 cases hz:zeroP P T with
 | none=>exact propext ⟨fun ⟨T',z',d',h1,h2,h3,h4⟩=>by injection h1 with h1;subst h1;rw [hz] at h3;(cases h3),fun q=>q.elim⟩
 | some z=>exact propext ⟨fun ⟨T',z',d',h1,h2,h3,h4⟩=>by injection h1 with h1;subst h1;injection h2 with h2;subst h2;rw [hz] at h3;injection h3 with h3;subst h3;exact h4,fun q=>⟨T,z,d,rfl,rfl,hz,q⟩⟩
theorem sDz_some {d:Tmp}    {z:Value}:sDz (p₀:=p₀) P all h r d e al K (some z)=wHead P p₀ all h r ((d, .none)::e) (al++[(d,z)]) K:=Eq.trans rfl rfl
def rsB (a:Option AV) (l:Option (List AV)):Option Nat→Option (List AV)
 | some 0=>none
 | _=>resC a l
theorem resL_cell {t:Tmp}  {r:List ResultVar}:resL P h e (.cell t T::r)=rsB (loadA P h T (getE e t)) (resL P h e r) (szP P T):=by
 simp only [resL];cases hs:szP P T with
 | none=>simp only [reduceCtorEq,if_false];cases loadA P h T (getE e t)<;>cases resL P h e r<;>rfl
 | some n=>cases n with
  | zero=>rfl
  | succ n=>rw [if_neg (by simp)];cases loadA P h T (getE e t)<;>cases resL P h e r<;>rfl
theorem rsB_some {a:Option AV} {l:Option (List AV)}  (hn:n≠0):rsB a l (some n)=resC a l:=by
 cases n with
 | zero=>exact absurd rfl hn
 | succ n=>rfl
def bB (op:BinOp) (x y:Bool):Bool→Option Value
 | true=>eqOp op (x==y)
 | false=>none
theorem bin_bool {x y:Bool}:binA P h op T (.v (.bool x)) (.v (.bool y))=bB op x y (isBoolP P T):=by
 show (if isBoolP P T then _ else _)=_;cases isBoolP P T<;>rfl
theorem bB_true {x y:Bool}:bB op x y true=eqOp op (x==y):=Eq.trans rfl rfl
def bN (op:BinOp) (b:Option Bool):Bool→Option Value
 | true=>b.bind (eqOp op)
 | false=>none
def nP:Bool→Option Bool
 | true=>some false
 | false=>none
theorem np_ptr :nilPA h (.ptr id off)=nP (liveA h (.ptr id off)):=by
 show (if liveA h (.ptr id off)=true then some false else none)=_;cases liveA h (.ptr id off)<;>rfl
theorem np_ap :nilPA h (.ap id n off)=nP (liveA h (.ap id n off)):=by
 show (if liveA h (.ap id n off)=true then some false else none)=_;cases liveA h (.ap id n off)<;>rfl
theorem np_tp :nilPA h (.tp l)=some false:=Eq.trans rfl rfl
theorem np_v {p:Option Addr}:nilPA h (.v (.pointer p))=some p.isNone:=Eq.trans rfl rfl
theorem nP_true:nP true=some false:=Eq.trans rfl rfl
theorem bin_pz :binA P h op T x (.t 1 1 [])=some (.int .i64 0):=Eq.trans rfl rfl
theorem bin_nilp :binA P h op T x (.v (.pointer none))=bN op (nilPA h x) (isPtrP P T):=by
 show (if isPtrP P T then _ else _)=_;cases isPtrP P T<;>rfl
theorem bin_nils :binA P h op T x (.v (.slice none 0 0))=bN op (nilSA h x) ((elemP P T).isSome):=by
 show (if (elemP P T).isSome then _ else _)=_;cases (elemP P T).isSome<;>rfl
theorem bin_g {m:List AV}:binA P h op T x (.g m)=eqG P op T (cellsOf x) (some m):=Eq.trans rfl rfl
theorem bin_agg {cs:Array Value}:binA P h op T x (.v (.agg cs))=eqG P op T (cellsOf x) (some (cs.toList.map .v)):=Eq.trans rfl rfl
def eqH (op:BinOp) (l m:Option (List AV)):Option (List FK)→Option Value
 | some ks=>match l,m with
  | some l,some m=>(eqL ks l m).bind (eqOp op)
  | _,_=>none
 | none=>none
theorem eqG_h {l m:Option (List AV)}:eqG P op T l m=eqH op l m (flatP P T):=by
 unfold eqG;cases flatP P T<;>cases l<;>cases m<;>rfl
theorem eqH_some {m:List AV} {ks:List FK}:eqH op (some l) (some m) (some ks)=(eqL ks l m).bind (eqOp op):=Eq.trans rfl rfl
theorem eqL_nil:eqL [] [] []=some true:=Eq.trans rfl rfl
theorem eqL_cons {k:FK} {ks:List FK} {b:AV} {m:List AV}:eqL (k::ks) (a::l) (b::m)=andO (eqC k a b) (eqL ks l m):=Eq.trans rfl rfl
theorem eqC_i {a b:Int}:eqC .i (.v (.int k a)) (.v (.int k b))=some (decide (a=b)):=if_pos rfl
theorem eqC_b {a:Bool}:eqC .b (.v (.bool a)) (.v (.bool b))=some (a==b):=Eq.trans rfl rfl
theorem eqC_s {a b:ByteArray}:eqC .s (.v (.string a)) (.v (.string b))=some (decide (a=b)):=Eq.trans rfl rfl
theorem andO_some {p q:Bool}:andO (some p) (some q)=some (p && q):=Eq.trans rfl rfl
theorem bN_true :bN op (some b) true=eqOp op b:=Eq.trans rfl rfl
def cvB (z:Int):Option IntKind→Bool→Option Value
 | some k,true=>some (.int k (k.wrap z))
 | _,_=>none
variable {u:TypeId}
theorem conv_int {s:TypeId}  :convA P h s u (.v (.int k z))=cvB z (intP P u) (P.underlying s).isSome:=by
 show (if (P.underlying s).isSome then _ else _)=_;cases (P.underlying s).isSome<;>cases intP P u<;>rfl
def cvS (b:ByteArray):Bool→Bool→Option Value
 | true,true=>some (.string b)
 | _,_=>none
theorem conv_str {s:TypeId} {b:ByteArray}:convA P h s u (.v (.string b))=cvS b (isStrP P s) (isStrP P u):=by
 show (if _∧_ then _ else _)=_;cases isStrP P s<;>cases isStrP P u<;>simp [cvS]
theorem cvS_true {b:ByteArray}:cvS b true true=some (.string b):=Eq.trans rfl rfl
def stD:Option IntKind→Bool→Option (List Int)→Option Value
 | some .u8,true,some ns=>some (.string (strOf ns))
 | _,_,_=>none
theorem str_one {s:TypeId} {cells:List AV}:strA P s u 1 cells=stD ((elemP P s).bind (intP P)) (isStrP P u) (intsOf cells):=by
 unfold strA;cases h1:(elemP P s).bind (intP P) with
 | none=>rfl
 | some k=>cases k<;>cases isStrP P u<;>cases intsOf cells<;>rfl
theorem stD_some {ns:List Int}:stD (some .u8) true (some ns)=some (.string (strOf ns)):=Eq.trans rfl rfl
variable {sz:Nat}
theorem conv_t {s:TypeId}  {cells:List AV} (hl:cells.length=n*sz):convA P h s u (.t n sz cells)=strA P s u sz cells:=if_pos hl
def cvO (P:Program) (s u:TypeId) (n:Nat):Option (Option Ob)→Option Value
 | some (some (.arr _ sz cells _))=>if cells.length=n*sz then strA P s u sz cells else none
 | _=>none
theorem conv_own {s:TypeId} :convA P h s u (.own id n)=cvO P s u n h[id]? :=by
 unfold convA cvO;rfl
theorem cvO_one {s:TypeId}   {cells:List AV} (hl:cells.length=n):cvO P s u n (some (some (.arr T 1 cells fz)))=strA P s u 1 cells:=if_pos (by omega)
theorem ints_nil:intsOf []=some []:=Eq.trans rfl rfl
theorem cvB_some :cvB z (some k) true=some (.int k (k.wrap z)):=Eq.trans rfl rfl
def tkB (l:List AV):Option Bool→Option Nat→Option AV
 | some false,some _=>l[0]?
 | some true,some s=>if s≤l.length then some (.g (l.take s)) else none
 | _,_=>none
theorem tk :takeA P T l=tkB l (aggP P T) (szP P T):=by
 unfold takeA tkB;cases aggP P T with
 | none=>rfl
 | some b=>cases b<;>cases szP P T<;>rfl
theorem tkB_one :tkB l (some false) (some s)=l[0]? :=Eq.trans rfl rfl
theorem tkB_agg (h:s≤l.length):tkB l (some true) (some s)=some (.g (l.take s)):=if_pos h
def ixD (id n:Nat) (z:Int) (s:Nat):Bool→Option AV
 | true=>if 0≤z∧z<n then some (.ap id n (z.toNat*s)) else none
 | false=>none
def ixC (h:Hp) (a:AV) (z:Int):Option Nat→Option AV
 | some s=>match a with
  | .t n s' cells=>if s'=s∧0≤z∧z<n then some (.tp (cells.drop (z.toNat*s))) else none
  | .own id n=>ixD id n z s (liveA h (.own id n))
  | _=>none
 | none=>none
def ixE (h:Hp) (a:AV) (z:Int) (n:Nat):Option Nat→Option AV
 | some s=>if 0≤z∧z<n then shiftA h a (z.toNat*s) else none
 | none=>none
def ixB (P:Program) (h:Hp) (a:AV) (z:Int):Option TypeId→Option (Nat × TypeId)→Option AV
 | some e,_=>ixC h a z (szP P e)
 | none,some (n,e)=>ixE h a z n (szP P e)
 | none,none=>none
theorem ix :idxA P h T a z=ixB P h a z (elemP P T) (arrP P T):=by
 unfold idxA ixB;cases elemP P T with
 | some e=>
  cases hs:szP P e with
  | none=>simp only [hs];rfl
  | some s=>
   simp only [hs,Option.bind_some];unfold ixC;cases a<;>first | rfl | skip
   ·next id n=>
    unfold ixD;cases hl:liveA h (.own id n) with
    | true=>simp [hl]
    | false=>simp [hl]
 | none=>
  cases arrP P T with
  | none=>rfl
  | some p=>obtain ⟨n,e⟩:=p;simp only;cases szP P e<;>rfl
theorem ixB_s {e:TypeId} {o:Option (Nat × TypeId)}:ixB P h a z (some e) o=ixC h a z (szP P e):=Eq.trans rfl rfl
theorem ixB_a {e:TypeId} :ixB P h a z none (some (n,e))=ixE h a z n (szP P e):=Eq.trans rfl rfl
theorem ixC_t (h3:0≤z) (h4:z<n):ixC h (.t n s l) z (some s)=some (.tp (l.drop (z.toNat*s))):=if_pos ⟨rfl,h3,h4⟩
theorem ixC_own :ixC h (.own id n) z (some s)=ixD id n z s (liveA h (.own id n)):=Eq.trans rfl rfl
theorem ixD_true (h3:0≤z) (h4:z<n):ixD id n z s true=some (.ap id n (z.toNat*s)):=if_pos ⟨h3,h4⟩
theorem ixE_some (h3:0≤z) (h4:z<n):ixE h a z n (some s)=shiftA h a (z.toNat*s):=if_pos ⟨h3,h4⟩
def shB (a:AV) (o:Nat):Bool→Option AV
 | true=>match a with
  | .ptr id off=>some (.ptr id (off+o))
  | .ap id n off=>some (.ap id n (off+o))
  | .tp cells=>some (.tp (cells.drop o))
  | _=>none
 | false=>none
theorem sh {o:Nat}:shiftA h a o=shB a o (liveA h a):=by
 unfold shiftA shB;cases liveA h a<;>rfl
theorem sh_ptr {o:Nat}:shB (.ptr id off) o true=some (.ptr id (off+o)):=Eq.trans rfl rfl
theorem sh_ap {o:Nat}:shB (.ap id n off) o true=some (.ap id n (off+o)):=Eq.trans rfl rfl
theorem sh_tp {o:Nat}:shB (.tp l) o true=some (.tp (l.drop o)):=Eq.trans rfl rfl
theorem lv_tp :liveA h (.tp l)=true:=Eq.trans rfl rfl
def lenD (n:Nat):Bool→Option Nat
 | true=>some n
 | false=>none
def lenC (h:Hp) (x:AV):Option TypeId→Bool→Option Nat
 | o,b=>match x with
  | .v (.string s)=>if b then some s.size else none
  | .t n _ _=>o.map fun _=>n
  | .own id n=>if liveA h (.own id n) then o.map fun _=>n else none
  | .v (.slice _ n _)=>o.map fun _=>n
  | _=>none
def lenB (P:Program) (h:Hp) (T:TypeId) (x:AV):Option (Nat × TypeId)→Option Nat
 | some (n,_)=>some n
 | none=>lenC h x (elemP P T) (isStrP P T)
theorem len :lenA P h T x=lenB P h T x (arrP P T):=by
 unfold lenA lenB;cases arrP P T<;>rfl
theorem len_arr {e:TypeId}  :lenB P h T x (some (n,e))=some n:=Eq.trans rfl rfl
theorem len_no :lenB P h T x none=lenC h x (elemP P T) (isStrP P T):=Eq.trans rfl rfl
theorem len_t {e:TypeId}   :lenC h (.t n s l) (some e) b=some n:=Eq.trans rfl rfl
theorem len_nil {e:TypeId} :lenC h (.v (.slice none 0 0)) (some e) b=some 0:=Eq.trans rfl rfl
theorem len_own {e:TypeId}  :lenC h (.own id n) (some e) b=lenD n (liveA h (.own id n)):=by
 show (if liveA h (.own id n) then _ else _)=_;cases liveA h (.own id n)<;>rfl
theorem lenD_true :lenD n true=some n:=Eq.trans rfl rfl
theorem len_str {o:Option TypeId} {s:ByteArray}:lenC h (.v (.string s)) o true=some s.size:=Eq.trans rfl rfl
theorem stA_some :stA P h T a (some l)=stB h a l (szP P T) (l.all (oneA h)):=Eq.trans rfl rfl
def apE (h:Hp) (T by_ sz:Nat) (s:AV) (mn:Nat × List AV):Option (AV × Hp):=match s with
 | .own id n=>match h[id]? with
  | some (some (.arr T' s' cells fz))=>if T'=T∧s'=sz∧cells.length=n*sz∧n+mn.1≤maxLen∧(n+mn.1)*by_≤140737488355328 then some (.own id (n+mn.1),h.set id (some (.arr T sz (cells++mn.2) fz))) else none
  | _=>none
 | .v (.slice none 0 0)=>if mn.1≤maxLen∧mn.1*by_≤140737488355328 then some (.own h.length mn.1,h++[some (.arr T sz mn.2 0)]) else none
 | _=>none
def apB (h:Hp) (T:TypeId) (s:AV):Option Nat→Option Nat→Option Value→Option (Nat × List AV)→Option (AV × Hp)
 | some sz,some by_,some z,some mn=>if z.cells.size=sz∧0<sz then apE h T by_ sz s mn else none
 | _,_,_,_=>none
def apA (P:Program) (h:Hp) (tx:TypeId) (s x:AV):Option TypeId→Option (AV × Hp)
 | some T=>apB h T s (szP P T) (bytP P T) (zeroP P T) ((szP P T).bind fun sz=>srcA P h tx sz x)
 | none=>none
variable {tx:TypeId}
theorem ap {t:TypeId} {s:AV}:appendA P h t tx s x=apA P h tx s x (elemP P t):=by
 unfold appendA apA;cases elemP P t with
 | none=>rfl
 | some T=>
  simp only [Option.bind_some];cases szP P T with
  | none=>rfl
  | some sz=>
   simp only [Option.bind_some];cases bytP P T with
   | none=>rfl
   | some by_=>
    simp only [Option.bind_some];cases zeroP P T with
    | none=>rfl
    | some z=>
     simp only [Option.bind_some];cases srcA P h tx sz x with
     | none=>rfl
     | some mn=>
      simp only [Option.bind_some,apB,apE];cases s<;>rfl
theorem apA_some {s:AV}:apA P h tx s x (some T)=apB h T s (szP P T) (bytP P T) (zeroP P T) ((szP P T).bind fun sz=>srcA P h tx sz x):=Eq.trans rfl rfl
variable {by_:Nat}
theorem apB_one {s:AV}  {z:Value} {mn:Nat × List AV} (h1:z.cells.size=sz) (h2:0<sz):apB h T s (some sz) (some by_) (some z) (some mn)=apE h T by_ sz s mn:=if_pos ⟨h1,h2⟩
def apF (h:Hp) (T by_ sz id n:Nat) (m:Nat) (l:List AV):Option (Option Ob)→Option (AV × Hp)
 | some (some (.arr T' s' cells fz))=>if T'=T∧s'=sz∧cells.length=n*sz∧n+m≤maxLen∧(n+m)*by_≤140737488355328 then some (.own id (n+m),h.set id (some (.arr T sz (cells++l) fz))) else none
 | _=>none
theorem apE_own {T:Nat} :apE h T by_ sz (AV.own id n) (m,l)=apF h T by_ sz id n m l h[id]? :=by
 unfold apE apF;rfl
theorem apF_some {T:Nat} {cells:List AV} (h1:cells.length=n*sz) (h2:n+m≤1152921504606846975) (h3:(n+m)*by_≤140737488355328):apF h T by_ sz id n m l (some (some (.arr T sz cells fz)))=some (.own id (n+m),h.set id (some (.arr T sz (cells++l) fz))):=if_pos ⟨rfl,rfl,h1,Nat.le_trans h2 (by decide),h3⟩
theorem apF_one {T:Nat} {cells:List AV} (h1:cells.length=n) (h2:n+m≤1152921504606846975) (h3:(n+m)*by_≤140737488355328):apF h T by_ 1 id n m l (some (some (.arr T 1 cells fz)))=some (.own id (n+m),h.set id (some (.arr T 1 (cells++l) fz))):=if_pos ⟨rfl,rfl,by omega,Nat.le_trans h2 (by decide),h3⟩
theorem apE_nil {T:Nat}  (h2:m≤1152921504606846975) (h3:m*by_≤140737488355328):apE h T by_ sz (.v (.slice none 0 0)) (m,l)=some (AV.own h.length m,h++[some (.arr T sz l 0)]):=if_pos ⟨Nat.le_trans h2 (by decide),h3⟩
def cpE (h:Hp) (id n sz m:Nat) (l:List AV):Option (Option Ob)→Option (AV × Hp)
 | some (some (.arr T' s' cells fz))=>if s'=sz∧fz=0∧cells.length=n*sz∧m≤n then some (.v (.int .i64 m),h.set id (some (.arr T' s' (setLA cells 0 l) 0))) else none
 | _=>none
def cpB (h:Hp):AV→Option Nat→Option (Nat × List AV)→Option (AV × Hp)
 | .own id n,some sz,some mn=>cpE h id n sz mn.1 mn.2 h[id]?
 | _,_,_=>none
def cpA (P:Program) (h:Hp) (tx:TypeId) (d x:AV):Option TypeId→Option (AV × Hp)
 | some T=>cpB h d (szP P T) ((szP P T).bind fun sz=>srcA P h tx sz x)
 | none=>none
theorem cp {t:TypeId} {d:AV}:copyA P h t tx d x=cpA P h tx d x (elemP P t):=by
 unfold copyA cpA;cases elemP P t with
 | none=>rfl
 | some T=>
  simp only [Option.bind_some];cases szP P T with
  | none=>cases d<;>rfl
  | some sz=>
   simp only [Option.bind_some];cases srcA P h tx sz x with
   | none=>cases d<;>rfl
   | some mn=>
    simp only [Option.bind_some];cases d<;>rfl
theorem cpA_some {d:AV}:cpA P h tx d x (some T)=cpB h d (szP P T) ((szP P T).bind fun sz=>srcA P h tx sz x):=Eq.trans rfl rfl
theorem cpB_own :cpB h (AV.own id n) (some sz) (some (m,l))=cpE h id n sz m l h[id]? :=Eq.trans rfl rfl
theorem cpE_some {T:Nat} {cells:List AV} (h1:cells.length=n*sz) (h2:m≤n):cpE h id n sz m l (some (some (.arr T sz cells 0)))=some (AV.v (.int .i64 m),h.set id (some (.arr T sz (setLA cells 0 l) 0))):=if_pos ⟨rfl,rfl,h1,h2⟩
theorem cpE_one {T:Nat} {cells:List AV} (h1:cells.length=n) (h2:m≤n):cpE h id n 1 m l (some (some (.arr T 1 cells 0)))=some (AV.v (.int .i64 m),h.set id (some (.arr T 1 (setLA cells 0 l) 0))):=if_pos ⟨rfl,rfl,by omega,h2⟩
def atE (sz m:Nat) (l:List AV):AV→Option AV
 | .e0=>some (.t m sz l)
 | .v (.slice none 0 0)=>some (.t m sz l)
 | _=>none
def atB (s:AV):Option Nat→Option Nat→Option Value→Option (Nat × List AV)→Option AV
 | some sz,some by_,some z,some mn=>if z.cells.size=sz∧0<sz∧mn.1≤maxLen∧mn.1*by_≤140737488355328 then atE sz mn.1 mn.2 s else none
 | _,_,_,_=>none
def atA (P:Program) (h:Hp) (tx:TypeId) (s x:AV):Option TypeId→Option AV
 | some T=>atB s (szP P T) (bytP P T) (zeroP P T) ((szP P T).bind fun sz=>srcA P h tx sz x)
 | none=>none
theorem at_ {t:TypeId} {s:AV}:appT P h t tx s x=atA P h tx s x (elemP P t):=by
 unfold appT atA;cases elemP P t with
 | none=>rfl
 | some T=>
  simp only [Option.bind_some];cases szP P T with
  | none=>rfl
  | some sz=>
   simp only [Option.bind_some];cases bytP P T with
   | none=>rfl
   | some by_=>
    simp only [Option.bind_some];cases zeroP P T with
    | none=>rfl
    | some z=>
     simp only [Option.bind_some];cases srcA P h tx sz x with
     | none=>rfl
     | some mn=>
      simp only [Option.bind_some,atB];cases s<;>rfl
theorem atA_some {s:AV}:atA P h tx s x (some T)=atB s (szP P T) (bytP P T) (zeroP P T) ((szP P T).bind fun sz=>srcA P h tx sz x):=Eq.trans rfl rfl
theorem atB_some {s:AV}  {z:Value}  (h1:z.cells.size=sz) (h2:0<sz) (h3:m≤1152921504606846975) (h4:m*by_≤140737488355328):atB s (some sz) (some by_) (some z) (some (m,l))=atE sz m l s:=if_pos ⟨h1,h2,Nat.le_trans h3 (by decide),h4⟩
theorem atE_e0 :atE sz m l .e0=some (.t m sz l):=Eq.trans rfl rfl
theorem atE_nil :atE sz m l (.v (.slice none 0 0))=some (.t m sz l):=Eq.trans rfl rfl
theorem cl_e0 :cellsA h .e0=some [.e0]:=Eq.trans rfl rfl
theorem on_e0 :oneA h .e0=true:=Eq.trans rfl rfl
theorem cs1_e0 :close1 h .e0=some (.e0,h):=Eq.trans rfl rfl
theorem cs2_e0 :close2 h .e0=some (.e0,h):=Eq.trans rfl rfl
theorem cs3_e0 :close3 h .e0=some (.e0,h):=Eq.trans rfl rfl
def srB (h:Hp) (s:Nat) (x:AV):Bool→Bool→Option (Nat × List AV)
 | e,b=>match x with
  | .t m s' cells=>if s'=s∧e=true∧cells.all (oneA h)=true then some (m,cells) else none
  | .own id m=>match h[id]? with
   | some (some (.arr _ s' cells _))=>if s'=s∧cells.length=m*s∧e=true∧cells.all (oneA h)=true then some (m,cells) else none
   | _=>none
  | .v (.string c)=>if s=1∧b=true then some (c.size,c.data.toList.map fun c=> .v (.int .u8 c.toNat)) else none
  | .v (.slice none 0 0)=>if e=true then some (0,[]) else none
  | _=>none
theorem sr :srcA P h tx s x=srB h s x (elemP P tx).isSome (isStrP P tx):=by
 unfold srcA srB;rfl
def srC (m:Nat) (l:List AV):Bool→Option (Nat × List AV)
 | true=>some (m,l)
 | false=>none
theorem sr_t :srB h s (.t m s l) true b=srC m l (l.all (oneA h)):=by
 simp only [srB];cases hl:l.all (oneA h)<;>simp [srC]
theorem srC_true :srC m l true=some (m,l):=Eq.trans rfl rfl
def srD (h:Hp) (s m:Nat):Option (Option Ob)→Option (Nat × List AV)
 | some (some (.arr _ s' cells _))=>if s'=s∧cells.length=m*s then srC m cells (cells.all (oneA h)) else none
 | _=>none
theorem sr_own :srB h s (.own id m) true b=srD h s m h[id]? :=by
 simp only [srB,srD];split
 ·next T s' cells fz _=>
  cases hl:cells.all (oneA h)<;>simp [srC]
 ·rfl
theorem srD_some (hl:l.length=m*s):srD h s m (some (some (.arr T s l fz)))=srC m l (l.all (oneA h)):=if_pos ⟨rfl,hl⟩
theorem srD_one (hl:l.length=m):srD h 1 m (some (some (.arr T 1 l fz)))=srC m l (l.all (oneA h)):=if_pos ⟨rfl,by omega⟩
theorem sr_nil :srB h s (.v (.slice none 0 0)) true b=some (0,[]):=Eq.trans rfl rfl
theorem sr_str {e:Bool} {c:ByteArray}:srB h 1 (.v (.string c)) e true=some (c.size,c.data.toList.map fun c=> .v (.int .u8 c.toNat)):=by
 unfold srB;simp
def clB (h:Hp) (id n:Nat):Option (Option Ob)→Option (AV × Hp)
 | some (some (.arr T s cells fz))=>if cells.length=n*s then some (.t n s cells,h.set id (some (.arr T s cells cells.length))) else none
 | _=>none
theorem clB_some (hl:l.length=n*s):clB h id n (some (some (.arr T s l fz)))=some (.t n s l,h.set id (some (.arr T s l l.length))):=if_pos hl
theorem clB_one (hl:l.length=n):clB h id n (some (some (.arr T 1 l fz)))=some (.t n 1 l,h.set id (some (.arr T 1 l l.length))):=if_pos (by omega)
theorem cs1_v {x:Value}:close1 h (.v x)=some ((.v x),h):=Eq.trans rfl rfl
theorem cs1_t :close1 h (.t n s l)=some ((.t n s l),h):=Eq.trans rfl rfl
theorem cs1_tp :close1 h (.tp l)=some ((.tp l),h):=Eq.trans rfl rfl
theorem cs1_fn {f:Fn} :close1 h (.fn f l l2)=some ((.fn f l l2),h):=Eq.trans rfl rfl
theorem cs1_none :close1 h .none=some (.none,h):=Eq.trans rfl rfl
theorem cs1_ptr :close1 h (.ptr id off)=some ((.ptr id off),h):=Eq.trans rfl rfl
theorem cs1_own :close1 h (.own id n)=clB h id n h[id]? :=by
 unfold clB;first | rfl | (show close1 h (.own id n)=_;rfl)
theorem cs2_v {x:Value}:close2 h (.v x)=some ((.v x),h):=Eq.trans rfl rfl
theorem cs2_t :close2 h (.t n s l)=some ((.t n s l),h):=Eq.trans rfl rfl
theorem cs2_tp :close2 h (.tp l)=some ((.tp l),h):=Eq.trans rfl rfl
theorem cs2_fn {f:Fn} :close2 h (.fn f l l2)=some ((.fn f l l2),h):=Eq.trans rfl rfl
theorem cs2_none :close2 h .none=some (.none,h):=Eq.trans rfl rfl
theorem cs2_ptr :close2 h (.ptr id off)=some ((.ptr id off),h):=Eq.trans rfl rfl
theorem cs2_own :close2 h (.own id n)=clB h id n h[id]? :=by
 unfold clB;first | rfl | (show close1 h (.own id n)=_;rfl)
theorem cs3_v {x:Value}:close3 h (.v x)=some ((.v x),h):=Eq.trans rfl rfl
theorem cs3_t :close3 h (.t n s l)=some ((.t n s l),h):=Eq.trans rfl rfl
theorem cs3_tp :close3 h (.tp l)=some ((.tp l),h):=Eq.trans rfl rfl
theorem cs3_fn {f:Fn} :close3 h (.fn f l l2)=some ((.fn f l l2),h):=Eq.trans rfl rfl
theorem cs3_none :close3 h .none=some (.none,h):=Eq.trans rfl rfl
theorem cs3_ptr :close3 h (.ptr id off)=some ((.ptr id off),h):=Eq.trans rfl rfl
theorem cs3_own :close3 h (.own id n)=clB h id n h[id]? :=by
 unfold clB;first | rfl | (show close1 h (.own id n)=_;rfl)
theorem cs2_g :close2 h (.g l)=(closeWith close1 h l).map fun p=>(.g p.1,p.2):=Eq.trans rfl rfl
theorem cs3_g :close3 h (.g l)=(closeWith close1 h l).map fun p=>(.g p.1,p.2):=Eq.trans rfl rfl
theorem cs3_tup :close3 h (.tup l)=(closeWith close2 h l).map fun p=>(.tup p.1,p.2):=Eq.trans rfl rfl
def cwC (a:AV):Option (List AV × Hp)→Option (List AV × Hp)
 | some (r,h)=>some (a::r,h)
 | none=>none
def cwB (f:Hp→AV→Option (AV × Hp)) (r:List AV):Option (AV × Hp)→Option (List AV × Hp)
 | some (a,h)=>cwC a (closeWith f h r)
 | none=>none
variable {f:Hp→AV→Option (AV × Hp)}
theorem cw_nil :closeWith f h []=some ([],h):=Eq.trans rfl rfl
theorem cw_cons {r:List AV}:closeWith f h (a::r)=cwB f r (f h a):=by
 simp only [closeWith];cases f h a with
 | none=>rfl
 | some p=>obtain ⟨a',h1⟩:=p;simp only [cwB,cwC];cases closeWith f h1 r<;>rfl
theorem cwB_some {r:List AV}:cwB f r (some (a,h))=cwC a (closeWith f h r):=Eq.trans rfl rfl
theorem cwC_some {r:List AV}:cwC a (some (r,h))=some (a::r,h):=Eq.trans rfl rfl
end
end
section
open Go.RowKit
section
variable {P:Program} {p₀:AV→Hp→Prop}
def ltB (e n m:Nat):Option Nat→Option Value→Option (List AV)→Option (TypeId × Nat × List AV)
 | some s,some _,some L=>if m=n∧0<s∧n*s≤16777216 then some (e,s,L) else none
 | _,_,_=>none
def ltA (P:Program) (h:Hp) (n:Nat) (parts:List (Nat × AV)):Option TypeId→Option (TypeId × Nat × List AV)
 | some e=>ltB e n parts.length (szP P e) (zeroP P e) ((szP P e).bind fun s=>rowA h s 0 parts)
 | none=>none
variable {T:TypeId}{h:Hp}{n:Nat}{parts:List (Nat × AV)}
theorem lt :litA P h T n parts=ltA P h n parts (elemP P T):=by
 unfold litA ltA;cases elemP P T with
 | none=>rfl
 | some e=>
  simp only [Option.bind_some];cases szP P e with
  | none=>rfl
  | some s=>
   simp only [Option.bind_some];cases zeroP P e with
   | none=>rfl
   | some z=>
    simp only [Option.bind_some];cases rowA h s 0 parts<;>rfl
variable {e:TypeId}
theorem ltA_some :ltA P h n parts (some e)=ltB e n parts.length (szP P e) (zeroP P e) ((szP P e).bind fun s=>rowA h s 0 parts):=Eq.trans rfl rfl
variable {s:Nat}{z:Value}
theorem ltB_some {e m:Nat}  {L:List AV} (h1:m=n) (h2:0<s) (h3:n*s≤16777216):ltB e n m (some s) (some z) (some L)=some (e,s,L):=if_pos ⟨h1,h2,h3⟩
def rwB (j k s:Nat):Option (List AV)→Option (List AV)→Option (List AV)
 | some l,some L=>if j=k∧l.length=s then some (l++L) else none
 | _,_=>none
variable {k:Nat}
theorem rw_nil :rowA h s k []=some []:=Eq.trans rfl rfl
variable {a:AV}{r:List (Nat × AV)}
theorem rw_cons {j:Nat}  :rowA h s k ((j,a)::r)=rwB j k s (cellsA h a) (rowA h s (k+1) r):=by
 simp only [rowA];cases cellsA h a<;>cases rowA h s (k+1) r<;>rfl
variable {l:List AV}
theorem rwB_some {j:Nat} {L:List AV} (h1:j=k) (h2:l.length=s):rwB j k s (some l) (some L)=some (l++L):=if_pos ⟨h1,h2⟩
def mkB (e:Nat) (zl zc:Int):Option Nat→Option Value→Option Nat→Option (TypeId × Nat × List AV)
 | some s,some z,some by_=>if 0<s∧0≤zl∧zl≤zc∧zc≤9223372036854775807∧(by_:Int)*zc≤140737488355328 then some (e,s,zrowA z (zl.toNat*s)) else none
 | _,_,_=>none
def mkA (P:Program) (zl zc:Int):Option TypeId→Option (TypeId × Nat × List AV)
 | some e=>mkB e zl zc (szP P e) (zeroP P e) (bytP P e)
 | none=>none
variable {zc zl:Int}
theorem mk :makeA P T zl zc=mkA P zl zc (elemP P T):=by
 unfold makeA mkA;cases elemP P T with
 | none=>rfl
 | some e=>
  simp only [Option.bind_some];cases szP P e with
  | none=>rfl
  | some s=>
   simp only [Option.bind_some];cases zeroP P e with
   | none=>rfl
   | some z=>
    simp only [Option.bind_some];cases bytP P e<;>rfl
theorem mkA_some :mkA P zl zc (some e)=mkB e zl zc (szP P e) (zeroP P e) (bytP P e):=Eq.trans rfl rfl
theorem mkB_some {e:Nat}  {by_:Nat}  (h1:0<s) (h2:0≤zl) (h3:zl≤zc) (h4:zc≤9223372036854775807) (h5:(by_:Int)*zc≤140737488355328):mkB e zl zc (some s) (some z) (some by_)=some (e,s,zrowA z (zl.toNat*s)):=if_pos ⟨h1,h2,h3,h4,h5⟩
theorem zrow_int {k:IntKind} :zrowA (.int k 0) n=tab n (fun _=> .v (.int k 0)):=by
 show (if (1:Nat)=1 then List.replicate n (AV.v (.int k 0)) else _)=_;rw [if_pos rfl];apply List.ext_getElem?;intro i;by_cases hi:i<n
 ·rw [tab_get hi];simp [hi]
 ·simp [tab,hi]
theorem zrow_bool :zrowA (.bool false) n=tab n (fun _=> .v (.bool false)):=by
 show (if (1:Nat)=1 then List.replicate n (AV.v (.bool false)) else _)=_;rw [if_pos rfl];apply List.ext_getElem?;intro i;by_cases hi:i<n
 ·rw [tab_get hi];simp [hi]
 ·simp [tab,hi]
theorem zrow_nil :zrowA (.slice none 0 0) n=tab n (fun _=> .v (.slice none 0 0)):=by
 show (if (1:Nat)=1 then List.replicate n (AV.v (.slice none 0 0)) else _)=_;rw [if_pos rfl];apply List.ext_getElem?;intro i;by_cases hi:i<n
 ·rw [tab_get hi];simp [hi]
 ·simp [tab,hi]
def fdB (h:Hp) (a:AV) (o:Nat):Option Nat→Option AV
 | some s=>if s=0 then none else shiftA h a o
 | none=>none
def fdA (P:Program) (h:Hp) (a:AV):Option (Nat × TypeId)→Option AV
 | some (o,T)=>fdB h a o (szP P T)
 | none=>none
theorem fd {S:TypeId}  {f:Nat}:faddrA P h S a f=fdA P h a (fldP P S f):=by
 unfold faddrA fdA;cases fldP P S f with
 | none=>rfl
 | some ot=>
  obtain ⟨o,T⟩:=ot;simp only [Option.bind_some];cases hs:szP P T with
  | none=>simp only [reduceCtorEq,if_false,Option.bind_none];rfl
  | some s=>
   simp only [Option.bind_some,Option.some.injEq,fdB]
variable {o:Nat}
theorem fdA_some :fdA P h a (some (o,T))=fdB h a o (szP P T):=Eq.trans rfl rfl
theorem fdB_some (hs:s≠0):fdB h a o (some s)=shiftA h a o:=if_neg hs
def flB (P:Program) (T:TypeId) (o:Nat):Option (List AV)→Option AV
 | some l=>takeA P T (l.drop o)
 | none=>none
def flA (P:Program) (x:AV):Option (Nat × TypeId)→Option AV
 | some (o,T)=>flB P T o (cellsOf x)
 | none=>none
theorem fl {S:TypeId} {x:AV} {f:Nat}:fieldA P S x f=flA P x (fldP P S f):=by
 unfold fieldA flA;cases fldP P S f with
 | none=>rfl
 | some ot=>
  obtain ⟨o,T⟩:=ot;simp only [Option.bind_some];cases cellsOf x<;>rfl
theorem flA_some {x:AV}  :flA P x (some (o,T))=flB P T o (cellsOf x):=Eq.trans rfl rfl
theorem flB_some :flB P T o (some l)=takeA P T (l.drop o):=Eq.trans rfl rfl
theorem co_g :cellsOf (.g l)=some l:=Eq.trans rfl rfl
theorem co_agg {l:List Value}:cellsOf (.v (.agg l.toArray))=some (l.map .v):=Eq.trans rfl rfl
theorem cl_agg {l:List Value}:cellsA h (.v (.agg l.toArray))=some (l.map .v):=Eq.trans rfl rfl
def fsP (P:Program) (T:TypeId):Option (List (Nat × Nat)):=match P.underlying T with
 | some (.struct fs)=>if fs.toList.all (fun f=>(P.info? f.type).isSome) then some (fs.toList.map fun f=>(f.offset,((P.info? f.type).map (·.size)).getD 0)) else none
 | some (.array n e)=>if n≤64 then (szP P e).map fun s=>(List.range n).map fun i=>(i*s,s) else none
 | _=>none
def bdA (h:Hp) (parts:List (Nat × AV)):Option Value→Option (List (Nat × Nat))→Option (List AV)→Option (List AV)
 | some z,some l,_=>fillA h (fun i=>l[i]?) (vcells z) parts
 | _,_,o=>o
theorem bd :buildA P h T parts=bdA h parts (zeroP P T) (fsP P T) (buildA P h T parts):=by
 cases hz:zeroP P T with
 | none=>rfl
 | some z=>
  cases hf:fsP P T with
  | none=>rfl
  | some l=>
   show _=fillA h (fun i=>l[i]?) (vcells z) parts;unfold buildA;have:placesP P T=some (fun i=>l[i]?):=by
    unfold fsP at hf;unfold placesP;split at hf
    ·next fs hu=>
     rw [hu];simp only;split at hf
     ·next hall=>
      rw [if_pos hall];injection hf with hf;subst hf;congr 1;funext i
      rw [List.getElem?_map,Array.getElem?_toList]
     ·cases hf
    ·next n e hu=>
     rw [hu];simp only;split at hf
     ·cases hs:szP P e with
      | none=>rw [hs] at hf;cases hf
      | some s=>rw [hs] at hf;injection hf with hf;subst hf;rfl
     ·cases hf
    ·cases hf
   rw [hz,this]
def fiB (h:Hp) (pl:List (Nat × Nat)) (cells:List AV) (r:List (Nat × AV)):Option (Nat × Nat)→Option (List AV)→Option (List AV)
 | some (o,n),some l=>if l.length=n∧o+n≤cells.length then fillA h (fun i=>pl[i]?) (setLA cells o l) r else none
 | _,_=>none
def bdX (P:Program) (h:Hp) (T:TypeId) (parts:List (Nat × AV)):Option Value→Option (List (Nat × Nat))→Option (List AV)
 | some z,some l=>fillA h (fun i=>l[i]?) (vcells z) parts
 | _,_=>buildA P h T parts
theorem bdx {K:AV→Prop}:sG K (buildA P h T parts)=sG K (bdX P h T parts (zeroP P T) (fsP P T)):=by
 congr 1;cases hz:zeroP P T with
 | none=>rfl
 | some z=>
  cases hf:fsP P T with
  | none=>rfl
  | some l=>
   rw [bd,hz,hf];rfl
theorem bdX_some {l:List (Nat × Nat)}:bdX P h T parts (some z) (some l)=fillA h (fun i=>l[i]?) (vcells z) parts:=Eq.trans rfl rfl
theorem fi_nil {pl:Nat→Option (Nat × Nat)} {cells:List AV}:fillA h pl cells []=some cells:=Eq.trans rfl rfl
theorem fi_cons {pl:List (Nat × Nat)} {cells:List AV} {i:Nat}  :fillA h (fun i=>pl[i]?) cells ((i,a)::r)=fiB h pl cells r pl[i]? (cellsA h a):=by
 simp only [fillA];cases pl[i]? with
 | none=>rfl
 | some on=>obtain ⟨o,n⟩:=on;cases cellsA h a<;>rfl
theorem fiB_some {pl:List (Nat × Nat)} {cells:List AV}   (h1:l.length=n) (h2:o+n≤cells.length):fiB h pl cells r (some (o,n)) (some l)=fillA h (fun i=>pl[i]?) (setLA cells o l) r:=if_pos ⟨h1,h2⟩
theorem bo_none {d:Nat}:boundA none d=some d:=Eq.trans rfl rfl
theorem bo_some {k:IntKind} {z:Int} {d:Nat} (hz:0≤z):boundA (some (.v (.int k z))) d=some z.toNat:=if_pos hz
def slT (n s:Nat) (cells:List AV):Option Nat→Option Nat→Option Nat→Option AV
 | some a,some b,some s'=>if s'=s∧a≤b∧b≤n then some (.t (b - a) s ((cells.take (b*s)).drop (a*s))) else none
 | _,_,_=>none
def hx (h:Hp):Option AV→Option (AV × Hp)
 | some a=>some (a,h)
 | none=>none
theorem hx_some :hx h (some a)=some (a,h):=Eq.trans rfl rfl
def szE (P:Program):Option TypeId→Option Nat
 | some e=>szP P e
 | none=>none
theorem szE_some :szE P (some e)=szP P e:=Eq.trans rfl rfl
variable {hi:Option AV}
theorem sl_t {cells:List AV} {lo:Option AV}:sliceA P h T (.t n s cells) lo hi=hx h (slT n s cells (boundA lo 0) (boundA hi n) (szE P (elemP P T))):=by
 simp only [sliceA];have:(elemP P T).bind (szP P)=szE P (elemP P T):=by cases elemP P T<;>rfl
 rw [this];cases boundA lo 0 with
 | none=>rfl
 | some a=>
  cases boundA hi n with
  | none=>rfl
  | some b=>
   simp only [slT];cases szE P (elemP P T) with
   | none=>simp;rfl
   | some s'=>
    simp only [Option.some.injEq];split<;>rfl
theorem st_t {cells:List AV} {lo:Option AV}:sliceT P h T (.t n s cells) lo hi=slT n s cells (boundA lo 0) (boundA hi n) (szE P (elemP P T)):=by
 show (sliceA P [] T (.t n s cells) lo hi).map (·.1)=_;rw [sl_t];cases slT n s cells (boundA lo 0) (boundA hi n) (szE P (elemP P T))<;>rfl
def slO (n:Nat):Option Nat→Option Nat→Option Nat→Option (Option Ob)→Option AV
 | some a,some b,some s',some (some (.arr _ s cells fz))=>if s'=s∧cells.length=n*s∧a≤b∧b≤n∧b*s≤fz then some (.t (b - a) s ((cells.take (b*s)).drop (a*s))) else none
 | _,_,_,_=>none
theorem st_o {id:Nat} {lo:Option AV}:sliceT P h T (.own id n) lo hi=slO n (boundA lo 0) (boundA hi n) (szE P (elemP P T)) h[id]? :=by
 simp only [sliceT];have:(elemP P T).bind (szP P)=szE P (elemP P T):=by cases elemP P T<;>rfl
 rw [this];cases h[id]? with
 | none=>unfold slO;split<;>first | rfl | simp_all
 | some o=>
  cases o with
  | none=>unfold slO;split<;>first | rfl | simp_all
  | some o=>
   cases o with
   | arr T' s cells fz=>
    cases boundA lo 0 with
    | none=>rfl
    | some a=>
     cases boundA hi n with
     | none=>rfl
     | some b=>
      simp only [slO];cases szE P (elemP P T) with
      | none=>simp
      | some s'=>simp only [Option.some.injEq]
   | _=>unfold slO;split<;>first | rfl | simp_all
variable {b:Nat}
theorem slO_some {a fz:Nat}  {cells:List AV} (h0:cells.length=n*s) (h1:a≤b) (h2:b≤n) (h3:b*s≤fz):slO n (some a) (some b) (some s) (some (some (.arr T s cells fz)))=some (.t (b - a) s ((cells.take (b*s)).drop (a*s))):=if_pos ⟨rfl,h0,h1,h2,h3⟩
theorem slT_some {a:Nat} {cells:List AV} (h1:a≤b) (h2:b≤n):slT n s cells (some a) (some b) (some s)=some (.t (b - a) s ((cells.take (b*s)).drop (a*s))):=if_pos ⟨rfl,h1,h2⟩
def slS (x:ByteArray):Option Nat→Option Nat→Bool→Option AV
 | some a,some b,true=>if a≤b∧b≤x.size then some (.v (.string (x.extract a b))) else none
 | _,_,_=>none
variable {x:ByteArray}
theorem sl_s {lo:Option AV}:sliceA P h T (.v (.string x)) lo hi=hx h (slS x (boundA lo 0) (boundA hi x.size) (isStrP P T)):=by
 simp only [sliceA];cases isStrP P T with
 | false=>cases boundA lo 0<;>cases boundA hi x.size<;>rfl
 | true=>
  cases boundA lo 0 with
  | none=>rfl
  | some a=>
   cases boundA hi x.size with
   | none=>rfl
   | some b=>
    simp only [slS,if_true];split<;>rfl
theorem st_s {lo:Option AV}:sliceT P h T (.v (.string x)) lo hi=slS x (boundA lo 0) (boundA hi x.size) (isStrP P T):=by
 show (sliceA P [] T (.v (.string x)) lo hi).map (·.1)=_;rw [sl_s];cases slS x (boundA lo 0) (boundA hi x.size) (isStrP P T)<;>rfl
theorem slS_some {a:Nat} (h1:a≤b) (h2:b≤x.size):slS x (some a) (some b) true=some (.v (.string (x.extract a b))):=if_pos ⟨h1,h2⟩
variable {f:Nat→AV}
theorem tab_take (hk:k≤n):(tab n f).take k=tab k f:=by
 apply List.ext_getElem?;intro i;rw [List.getElem?_take];by_cases hi:i<k
 ·rw [if_pos hi,tab_get (by omega),tab_get hi]
 ·rw [if_neg hi];simp [tab,hi]
theorem tab_drop :(tab n f).drop k=tab (n - k) (fun i=>f (i+k)):=by
 apply List.ext_getElem?;intro i;rw [List.getElem?_drop];by_cases hi:i<n - k
 ·rw [tab_get (by omega),tab_get hi,Nat.add_comm]
 ·simp [tab,hi,show ¬ k+i<n by omega]
theorem tab_nil :tab 0 f=[]:=Eq.trans rfl rfl
theorem tab_all {g:AV→Bool} (h: ∀ i,i<n→g (f i)=true):(tab n f).all g=true:=by
 rw [List.all_eq_true];intro a ha;obtain ⟨i,hi,rfl⟩:=List.mem_map.1 ha;exact h i (List.mem_range.1 hi)
theorem tab_one {k:IntKind} {f:Nat→Int}:(tab n fun i=> .v (.int k (f i))).all (oneA h)=true:=tab_all fun _ _=>rfl
def isB (x:ByteArray) (z:Int):Bool→Option AV
 | true=>if 0≤z then (x[z.toNat]?).map fun b=> .v (.int .u8 b.toNat) else none
 | false=>none
theorem ix_str {z:Int}:indexA P T (.v (.string x)) z=isB x z (isStrP P T):=by
 unfold indexA isB;cases isStrP P T with
 | false=>simp
 | true=>simp
theorem isB_true {z:Int} (hz:0≤z):isB x z true=(x[z.toNat]?).map fun b=> .v (.int .u8 b.toNat):=if_pos hz
end
section
variable {P:Program} {p₀:AV→Hp→Prop}
variable {h:Hp}{s u:TypeId}
theorem cv_int {k:IntKind} {z:Int}:cvA P h s u (.v (.int k z))=(convA P h s u (.v (.int k z))).map .v:=Eq.trans rfl rfl
variable {n:Nat}
theorem cv_t {sz:Nat} {cells:List AV}:cvA P h s u (.t n sz cells)=(convA P h s u (.t n sz cells)).map .v:=Eq.trans rfl rfl
variable {id:Nat}
theorem cv_own :cvA P h s u (.own id n)=(convA P h s u (.own id n)).map .v:=Eq.trans rfl rfl
variable {b:ByteArray}
theorem cv_str :cvA P h s u (.v (.string b))=cvX P h s u b ((elemP P u).bind (intP P)):=Eq.trans rfl rfl
theorem cvX_none :cvX P h s u b none=(convA P h s u (.v (.string b))).map .v:=Eq.trans rfl rfl
theorem cvX_u8 (h1:(P.underlying s).isSome=true) (h2:b.size≤140737488351232):cvX P h s u b (some .u8)=some (.t b.size 1 (bytA b)):=if_pos ⟨h1,h2⟩
variable {T:TypeId}
theorem sl_ptr :sliceA P h T (.ptr id 0) none none=sliceP1 P h id h[id]? (arrP P T):=by
 unfold sliceA;simp
theorem slP1_some {e:TypeId} {cells:List AV}:sliceP1 P h id (some (some (.blk cells))) (some (n,e))=sliceP2 h id cells n (szP P e):=Eq.trans rfl rfl
theorem slP2_some {s:Nat} {cells:List AV} (h1:cells.length=n*s) (h2:n≤1000000):sliceP2 h id cells n (some s)=some (.t n s cells,h.set id none):=if_pos ⟨h1,h2⟩
def lkB (h:Hp) (x:AV) (kv:Value) (ok:Bool):Option KK→Option Value→Option AV
 | some q,some z=>if keyK q kv=true then match x with
   | .mp id=>match h[id]? with
    | some (some (.map es))=>if keysB q es=true then some (lkRes ok z (lookM kv es)) else none
    | _=>none
   | .tm es=>if keysB q es=true then some (lkRes ok z (lookM kv es)) else none
   | .v (.map none)=>some (lkRes ok z none)
   | _=>none
   else none
 | _,_=>none
def lkD (kv:Value) (ok:Bool) (q:KK) (z:Value):Option (Option Ob)→Option AV
 | some (some (.map es))=>if keysB q es=true then some (lkRes ok z (lookM kv es)) else none
 | _=>none
def lkA (P:Program) (h:Hp) (x:AV) (kv:Value) (ok:Bool):Option (TypeId × TypeId)→Option AV
 | some (K,E)=>lkB h x kv ok (kkP P K) (zeroP P E)
 | none=>none
variable {kv:Value}{x:AV}
theorem lk {ok:Bool}:lookupA P h T x (.v kv) ok=lkA P h x kv ok (mapP P T):=by
 unfold lookupA lkA;cases mapP P T with
 | none=>rfl
 | some KE=>
  obtain ⟨K,E⟩:=KE;simp only [Option.bind_some];cases kkP P K with
  | none=>cases zeroP P E<;>rfl
  | some q=>
   simp only [Option.bind_some];cases zeroP P E with
   | none=>rfl
   | some z=>rfl
theorem lkA_some {ok:Bool} {K E:TypeId}:lkA P h x kv ok (some (K,E))=lkB h x kv ok (kkP P K) (zeroP P E):=Eq.trans rfl rfl
variable {q:KK}{z:Value}
theorem lkB_mp {ok:Bool}  :lkB h (.mp id) kv ok (some q) (some z)=if keyK q kv=true then lkD kv ok q z h[id]? else none:=Eq.trans rfl rfl
variable {es:List (Value × AV)}
theorem lkB_tm {ok:Bool}  :lkB h (.tm es) kv ok (some q) (some z)=if keyK q kv=true then (if keysB q es=true then some (lkRes ok z (lookM kv es)) else none) else none:=Eq.trans rfl rfl
theorem lkD_some {ok:Bool}  :lkD kv ok q z (some (some (.map es)))=if keysB q es=true then some (lkRes ok z (lookM kv es)) else none:=Eq.trans rfl rfl
variable {a:AV}
theorem lkR_tt :lkRes true z (some a)= .tup [a, .v (.bool true)]:=Eq.trans rfl rfl
theorem lkR_tn :lkRes true z none= .tup [.v z, .v (.bool false)]:=Eq.trans rfl rfl
theorem lkR_ft :lkRes false z (some a)=a:=Eq.trans rfl rfl
theorem lkR_fn :lkRes false z none= .v z:=Eq.trans rfl rfl
theorem kk_int {q:IntKind} {n:Int}:keyK (.int q) (.int q n)=true:=alA rfl
theorem kk_str {s:ByteArray}:keyK .str (.string s)=true:=Eq.trans rfl rfl
theorem kb_nil :keysB q []=true:=Eq.trans rfl rfl
variable {r:List (Value × AV)}
theorem kb_cons {p:Value × AV} :keysB q (p::r)=(keyK q p.1 && keysB q r):=Eq.trans rfl rfl
variable {k:Value}
theorem lm_nil :lookM k []=none:=Eq.trans rfl rfl
theorem lm_cons {k':Value}  :lookM k ((k',a)::r)=if keyE k k'=true then some a else lookM k r:=Eq.trans rfl rfl
theorem ke_int {q q':IntKind} {a b:Int}:keyE (.int q a) (.int q' b)=decide (a=b):=Eq.trans rfl rfl
theorem ke_str {a:ByteArray}:keyE (.string a) (.string b)=decide (a=b):=Eq.trans rfl rfl
theorem pm_nil :putM k a []=[(k,a)]:=Eq.trans rfl rfl
theorem pm_cons {k':Value} {a':AV} :putM k a ((k',a')::r)=if keyE k k'=true then (k,a)::r else (k',a')::putM k a r:=Eq.trans rfl rfl
def upD (h:Hp) (id:Nat) (kv:Value) (a:AV) (q:KK):Option (Option Ob)→Option Hp
 | some (some (.map es))=>if keysB q es=true then some (h.set id (some (.map (putM kv a es)))) else none
 | _=>none
def upB (h:Hp) (id:Nat) (kv:Value) (a:AV):Option KK→Option Hp
 | some q=>if keyK q kv=true then upD h id kv a q h[id]? else none
 | none=>none
def upA (P:Program) (h:Hp) (id:Nat) (kv:Value) (a:AV):Option (TypeId × TypeId)→Option Hp
 | some (K,_)=>upB h id kv a (kkP P K)
 | none=>none
theorem up :updateA P h T (.mp id) (.v kv) a=upA P h id kv a (mapP P T):=by
 unfold updateA upA;cases mapP P T with
 | none=>rfl
 | some KE=>
  obtain ⟨K,E⟩:=KE;simp only [Option.bind_some];cases kkP P K with
  | none=>rfl
  | some q=>rfl
theorem upA_some {K E:TypeId}:upA P h id kv a (some (K,E))=upB h id kv a (kkP P K):=Eq.trans rfl rfl
theorem upB_some :upB h id kv a (some q)=if keyK q kv=true then upD h id kv a q h[id]? else none:=Eq.trans rfl rfl
theorem upD_some :upD h id kv a q (some (some (.map es)))=if keysB q es=true then some (h.set id (some (.map (putM kv a es)))) else none:=Eq.trans rfl rfl
def bF (op:BinOp):Option Bool→Bool→Option Value
 | some b,true=>eqOp op b
 | _,_=>none
theorem bin_nilf {op:BinOp}  :binA P h op T x (.v .nilFunc)=bF op (nilFA x) (isFnP P T):=by
 show (if isFnP P T=true then (nilFA x).bind (eqOp op) else none)=_;cases isFnP P T<;>cases nilFA x<;>rfl
theorem bF_eq {b:Bool}:bF .eql (some b) true=some (.bool b):=Eq.trans rfl rfl
theorem bF_ne {b:Bool}:bF .neq (some b) true=some (.bool (!b)):=Eq.trans rfl rfl
theorem nf_nil:nilFA (.v .nilFunc)=some true:=Eq.trans rfl rfl
variable {f:Fn}
theorem nf_fn {a b:List AV}:nilFA (.fn f a b)=some false:=Eq.trans rfl rfl
theorem ca_mp :cellsA h (.mp id)=if liveA h (.mp id)=true then some [.mp id] else none:=Eq.trans rfl rfl
def lMap:Option (Option Ob)→Bool
 | some (some (.map _))=>true
 | _=>false
theorem lv_mp :liveA h (.mp id)=lMap h[id]? :=Eq.trans rfl rfl
theorem lMap_some :lMap (some (some (.map es)))=true:=Eq.trans rfl rfl
theorem on_mp :oneA h (.mp id)=liveA h (.mp id):=Eq.trans rfl rfl
theorem ca_fn {a b:List AV}:cellsA h (.fn f a b)=some [.fn f a b]:=Eq.trans rfl rfl
theorem ca_ifc :cellsA h (.ifc T a)=some [.ifc T a]:=Eq.trans rfl rfl
theorem on_ifc :oneA h (.ifc T a)=true:=Eq.trans rfl rfl
def cl1M (h:Hp) (id:Nat):Option (Option Ob)→Option (AV × Hp)
 | some (some (.map es))=>some (.tm es,h.set id none)
 | _=>none
theorem cl3_mp :close3 h (.mp id)=cl1M h id h[id]? :=Eq.trans rfl rfl
theorem cl1M_some :cl1M h id (some (some (.map es)))=some (.tm es,h.set id none):=Eq.trans rfl rfl
theorem cl3_ifc :close3 h (.ifc T a)=some (.ifc T a,h):=Eq.trans rfl rfl
theorem cl3_fn {a b:List AV}:close3 h (.fn f a b)=some (.fn f a b,h):=Eq.trans rfl rfl
end
end
end Go.Proofs.YthlhibpfagekfaaGreat.Wv
