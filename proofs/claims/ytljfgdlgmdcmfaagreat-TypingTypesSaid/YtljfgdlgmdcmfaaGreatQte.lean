/- Parts of a proof. -/
import Derived.Test.YtljfgdlgmdcmfaaGreatQtd
set_option linter.unusedVariables false
namespace Go.Proofs.YtljfgdlgmdcmfaaGreat.Wv
section
open Go.RowKit
section
variable (P:Program) (p₀:AV→Hp→Prop) (N:Nat) (L:List Nat) (ks:List (Nat × Nat))
def Ye (b:Code) (Q:bU):bU:=fun x e' h'=>match x with | .normal=>bH P N L ks b Q e' h' | x=>Q x e' h'
def Yf (id:Nat) (Q:bU):bU:=fun x e' h'=>match x with | .exit i=>if i=id then Q .normal e' h' else Q (.exit i) e' h' | x=>Q x e' h'
def kP (l:List Oper) (e:Ev) (Q:bU):AV→Hp→Prop:=fun a h=>Q (.panic a) (jc l e) h
def Yg (Q:bU):Ev→Hp→Prop:=fun e h=>Q .normal (kY L e) h
def Yh (fl:Nat) (hd all rest:List Oper) (n:Nat) (h:Hp) (Q:bU):Ev→List (Tmp × Value)→Prop:=fun e1 al=>if fl=1 then Jd hd e1 else fZ P p₀ all rest (dU n al e1) (h++al.map l7) (Yg L Q)
def kO (all r:List Oper) (d:Option Tmp) (e:Ev) (K:Ev→Hp→Prop):AV→Hp→Prop:=fun a h=>fZ P p₀ all r (bY e d a) h K
def kR (K:AV→Hp→Prop) (h:Hp):AV→Prop:=fun a=>K a h
def kH (all:List Oper) (h:Hp) (r:List Oper) (d:Option Tmp) (e:Ev) (al:List (Tmp × Value)) (K:Ev→List (Tmp × Value)→Prop):AV→Prop:=fun a=>dL P p₀ all h r (bY e d a) al K
def Jh (ks:List (Nat × Nat)) (N:Nat) {σ:Type} (env:σ→Ev) (hp:σ→Hp) (inv:σ→Prop) (ms:σ→Nat) (n:Nat) (Q:bU):bU:=fun x e h=>match x with
 | .normal=> ∃ n' e₁ h₁,Ent (base ks) N e h e₁ h₁∧n'<n∧ ∃ s,e₁=env s∧h₁=hp s∧inv s∧n'=ms s
 | x=>Q x e h
def sV (K:AV→Prop) (o:Option Value):Prop:= ∃ r,o=some r∧K (.v r)
def sA (K:AV→Prop) (o:Option AV):Prop:= ∃ r,o=some r∧K r
def sG (K:AV→Prop) (o:Option (List AV)):Prop:= ∃ r,o=some r∧K (.g r)
def sO (K:AV→Hp→Prop) (o:Option (AV × Hp)):Prop:= ∃ r h,o=some (r,h)∧K r h
def sH (K:AV→Hp→Prop) (o:Option Hp):Prop:= ∃ h,o=some h∧K .none h
def sZ (K:AV→Hp→Prop) (h:Hp) (o:Option Value):Prop:= ∃ z,o=some z∧K (.ptr h.length 0) (h++[some (.blk (fC z))])
def sB (K:AV→Hp→Prop) (h:Hp) (o:Option (List AV)):Prop:= ∃ l,o=some l∧K (.ptr h.length 0) (h++[some (.blk l)])
def sS (K:AV→Hp→Prop) (h:Hp) (n:Nat) (o:Option (TypeId × Nat × List AV)):Prop:= ∃ te s l,o=some (te,s,l)∧K (.own h.length n) (h++[some (.arr te s l 0)])
def sT (K:AV→Prop) (n:Nat) (o:Option (TypeId × Nat × List AV)):Prop:= ∃ te s l,o=some (te,s,l)∧K (.t n s l)
def sI (P:Program) (T:TypeId) (K:AV→Hp→Prop) (h:Hp) (l c:Option Int):Prop:= ∃ zl zc te s L,l=some zl∧c=some zc∧uK P T zl zc=some (te,s,L)∧K (.own h.length zl.toNat) (h++[some (.arr te s L 0)])
def sN (K:AV→Prop) (x:AV) (o:Option Bool):Prop:=o=some false∧K x
def sL (K:AV→Prop) (o:Option Nat):Prop:= ∃ n,o=some n∧K (.v (.int .i64 n))
def sP (K:AV→Prop) (c x y:AV):Prop:= ∃ t,c= .v (.bool t)∧K (bif t then x else y)
def Bj (K:AV→Hp→Prop) (h:Hp) (f:AV) (args:List AV):Prop:= ∃ fid fst cap,f= .fn (.func fid) fst cap∧HTP P fid (fst++args++cap) h K p₀
def Yi (K:AV→Prop) (h:Hp) (f:AV) (args:List AV):Prop:= ∃ fid fst cap,f= .fn (.func fid) fst cap∧ ∃ res,HTP P fid (fst++args++cap) h (fun r h'=>r=res∧h'=h) p₀∧K res
def sC (a b:Code) (Q:bU) (e:Ev) (h:Hp) (c:AV):Prop:= ∃ t,c= .v (.bool t)∧if t=true then bH P N L ks a Q e h else bH P N L ks b Q e h
def sW (all:List Oper) (o:Oper) (r:List Oper) (d:Option Tmp) (e:Ev) (h:Hp) (K:Ev→Hp→Prop) (want:Bool) (g:AV):Prop:= ∃ b,gB want g=some b∧if b=true then wOp P p₀ o (dK e) h (kO P p₀ all r d e K) else fZ P p₀ all r (bY e d (.v undef)) h K
def sY (all:List Oper) (h:Hp) (o:Oper) (r:List Oper) (d:Option Tmp) (e:Ev) (al:List (Tmp × Value)) (K:Ev→List (Tmp × Value)→Prop) (want:Bool) (g:AV):Prop:= ∃ b,gB want g=some b∧if b=true then cOp P p₀ o (dK e) h (kH P p₀ all h r d e al K) else dL P p₀ all h r (bY e d (.v undef)) al K
def Ou (e:Ev):Option Tmp→AV
 | some d=>aJ e d
 | none=> .none
def sF (Q:AV→Hp→Prop) (h:Hp) (o:Option AV):Prop:= ∃ r,o=some r∧ ∃ r' h',dS h r=some (r',h')∧Q r' h'
def sE (Q:AV→Hp→Prop) (o:Option (AV × Hp)):Prop:= ∃ r h,o=some (r,h)∧Q r h
def sD (all:List Oper) (h:Hp) (r:List Oper) (d:Option Tmp) (e:Ev) (al:List (Tmp × Value)) (K:Ev→List (Tmp × Value)→Prop) (T:TypeId):Prop:= ∃ T' z d',Op.alloc T=Op.alloc T'∧d=some d'∧ak P T'=some z∧dL P p₀ all h r (bY e d .none) (al++[(d',z)]) K
end
section
variable {P:Program} {p₀:AV→Hp→Prop} {N:Nat} {L:List Nat} {ks:List (Nat × Nat)}
def wO:Ev→Ev→Prop
 | [],_=>True
 | (d,a)::r,e=>aJ e d=a∧wO r e
variable {e:Ev}
theorem Ji :wO [] e=True:=Eq.trans rfl rfl
theorem Eu {d:Nat} {a:AV} {r:Ev}:wO ((d,a)::r) e=(aJ e d=a∧wO r e):=Eq.trans rfl rfl
theorem uX: ∀ {e' e:Ev} (h:wO e' e) (d:Nat),aJ e' d=aJ e d∨aJ e' d= .none
 | [],e,_,d=> .inr rfl
 | (k,a)::r,e,h,d=>by
  show (if k=d then a else aJ r d)=_∨(if k=d then a else aJ r d)=_
  by_cases hk:k=d
  ·subst hk;left;rw [if_pos rfl];exact h.1.symm
  ·rw [if_neg hk];exact uX h.2 d
variable {h:Hp}
theorem Ent.fit {n0:Nat} {e':Ev}  (hf:wO e' e):Ent n0 N e h e' h:=fun X a hh hn hX hE=>⟨X,rfl,hh,(Step.refl X).toN (hh▸hn),hX,hE.defers,hE.size,fun d=>by
 rcases uX hf d with q | q
 ·rw [q];exact hE.rep d
 ·rw [q];exact .none _⟩
variable {Q:bU}
theorem Yj :bH P N L ks .skip Q e h=Q .normal e h:=Eq.trans rfl rfl
theorem ad3 :bH P N L ks .ret Q e h=Q .ret e h:=Eq.trans rfl rfl
variable {i:Nat}
theorem Yk :bH P N L ks (.exit i) Q e h=Q (.exit i) e h:=Eq.trans rfl rfl
theorem Ql :bH P N L ks (.label i) Q e h=Q .normal e h:=Eq.trans rfl rfl
variable {b:Code}
theorem Qm :bH P N L ks (.scope b) Q e h=bH P N L ks b Q e h:=Eq.trans rfl rfl
theorem ad4 {a:Code}   :bH P N L ks (.seq a b) Q e h=bH P N L ks a (Ye P N L ks b Q) e h:=Eq.trans rfl rfl
theorem Qn :bH P N L ks (.block i b) Q e h=bH P N L ks b (Yf i Q) e h:=Eq.trans rfl rfl
theorem Yl {c:Operand} {a:Code}   :bH P N L ks (.cond c a b) Q e h=sC P N L ks a b Q e h (dK e c):=Eq.trans rfl rfl
variable {l:List Oper}
theorem ad5 :bH P N L ks (.region i l.toArray false) Q e h=fZ P (kP l e Q) l l e h (Yg L Q):=Eq.trans rfl rfl
theorem Ym :bH P N L ks (.region i l.toArray true) Q e h=qc (kOf ks i) (Ot P N ks i l.toArray Q e h) (dL P (kP l e Q) l (jF (kOf ks (3000000+i)) h) (l.take (kOf ks i)) e [] (Yh P (kP l e Q) L (kOf ks (4000000+i)) (l.take (kOf ks i)) l (l.drop (kOf ks i)) h.length (jF (kOf ks (3000000+i)) h) Q)):=Eq.trans rfl rfl
theorem ad6 {k:Nat} {E W:Prop} (hk:k≠1000000):qc k E W=W:=if_neg hk
theorem Yn {E W:Prop}:qc 1000000 E W=E:=if_pos rfl
theorem Yo :Ye P N L ks b Q .normal e h=bH P N L ks b Q e h:=Eq.trans rfl rfl
theorem Yp :Ye P N L ks b Q (.exit i) e h=Q (.exit i) e h:=Eq.trans rfl rfl
theorem Yq :Ye P N L ks b Q .ret e h=Q .ret e h:=Eq.trans rfl rfl
theorem Yr {a:AV}  :Ye P N L ks b Q (.panic a) e h=Q (.panic a) e h:=Eq.trans rfl rfl
theorem k_p {a:AV} :kP l e Q a h=Q (.panic a) (jc l e) h:=Eq.trans rfl rfl
variable {j:Nat}
theorem Yt :Yf j Q .normal e h=Q .normal e h:=Eq.trans rfl rfl
theorem Yu :Yf j Q (.exit i) e h=if i=j then Q .normal e h else Q (.exit i) e h:=Eq.trans rfl rfl
theorem Yv :Yf j Q .ret e h=Q .ret e h:=Eq.trans rfl rfl
theorem Yw {a:AV}  :Yf j Q (.panic a) e h=Q (.panic a) e h:=Eq.trans rfl rfl
theorem k_reg :Yg L Q e h=Q .normal (kY L e) h:=Eq.trans rfl rfl
variable {al:List (Tmp × Value)}{all:List Oper}{n:Nat}
theorem Qo {hd rest:List Oper}    {e1:Ev} :Yh P p₀ L 1 hd all rest n h Q e1 al=Jd hd e1:=Eq.trans rfl rfl
theorem Yx {hd rest:List Oper}    {e1:Ev} :Yh P p₀ L 0 hd all rest n h Q e1 al=fZ P p₀ all rest (dU n al e1) (h++al.map l7) (Yg L Q):=Eq.trans rfl rfl
variable {d:Option Tmp}{r:List Oper}
theorem k_o {K:Ev→Hp→Prop} {a:AV} :kO P p₀ all r d e K a h=fZ P p₀ all r (bY e d a) h K:=Eq.trans rfl rfl
theorem k_r {K:AV→Hp→Prop}  {a:AV}:kR K h a=K a h:=Eq.trans rfl rfl
theorem k_h {K:Ev→List (Tmp × Value)→Prop} {a:AV}:kH P p₀ all h r d e al K a=dL P p₀ all h r (bY e d a) al K:=Eq.trans rfl rfl
variable {σ:Type}
theorem aH {env:σ→Ev} {hp:σ→Hp} {inv:σ→Prop} {ms:σ→Nat}     (s:σ) (hi:inv s) (hm:ms s<n) (hh:h=hp s) (he:wO (env s) e):Jh ks N env hp inv ms n Q .normal e h:=by
 subst hh
 exact ⟨_,_,_,Ent.fit he,hm,s,rfl,rfl,hi,rfl⟩
theorem af6 {env:σ→Ev} {hp:σ→Hp} {inv:σ→Prop} {ms:σ→Nat}     (s:σ) (he:Ent (base ks) N e h (env s) (hp s)) (hi:inv s) (hm:ms s<n):Jh ks N env hp inv ms n Q .normal e h:=
 ⟨_,_,_,he,hm,s,rfl,rfl,hi,rfl⟩
theorem Yy {env:σ→Ev} {hp:σ→Hp} {inv:σ→Prop} {ms:σ→Nat}    :Jh ks N env hp inv ms n Q (.exit i) e h=Q (.exit i) e h:=Eq.trans rfl rfl
theorem Yz {env:σ→Ev} {hp:σ→Hp} {inv:σ→Prop} {ms:σ→Nat}    :Jh ks N env hp inv ms n Q .ret e h=Q .ret e h:=Eq.trans rfl rfl
theorem YA {env:σ→Ev} {hp:σ→Hp} {inv:σ→Prop} {ms:σ→Nat}   {a:AV}  :Jh ks N env hp inv ms n Q (.panic a) e h=Q (.panic a) e h:=Eq.trans rfl rfl
theorem dQ (env:σ→Ev) (hp:σ→Hp) (inv:σ→Prop) (ms:σ→Nat) (s0:σ)     (hi:inv s0) (hh:h=hp s0) (he:wO (env s0) e)
  (hr: ∀ s,inv s→bH P N L ks b (Jh ks N env hp inv ms (ms s) Q) (env s) (hp s)):bH P N L ks (.loop b) Q e h:=by
 subst hh
 refine ⟨fun n e h=> ∃ s,e=env s∧h=hp s∧inv s∧n=ms s,ms s0,_,_,Ent.fit he,⟨s0,rfl,rfl,hi,rfl⟩,?_⟩
 rintro n e' h' ⟨s,rfl,rfl,hs,rfl⟩
 exact hr s hs
variable {args:List AV}{body:Code}{fn:Func}
theorem TC.by {f:FuncId}    {res:AV} (N:Nat) (L:List Nat) (ks:List (Nat × Nat)) (rs:List ResultVar) (hf:P.funcs[f]? =some fn) (hb:fn.body=some body) (hn:fn.ntmps=N) (hr:fn.results=rs.toArray) (hc:Clo res)
  (hw:bH P N L ks body (Fin P rs.toArray fun r _=>r=res) (pR 0 args) []) (bV:P.follows .mixedOrders=true:=by kernel_rfl) (hp:kX P f=true:=by kernel_rfl) (hk:dw N ks body=true:=by kernel_rfl) (hN:args.length≤N:=by exact Nat.le_of_ble_eq_true rfl) (hbs:base ks=0:=by rfl):TC P f args res:=by
 subst hn
 rw [←hr] at hw
 exact TC.of L ks bV hf hb hp hk hN hbs hc hw
theorem HT.by {f:FuncId}     {R:AV→Hp→Prop} (N:Nat) (L:List Nat) (ks:List (Nat × Nat)) (rs:List ResultVar) (hf:P.funcs[f]? =some fn) (hb:fn.body=some body) (hn:fn.ntmps=N) (hr:fn.results=rs.toArray) (hbs:base ks=h.length)
  (hw:bH P N L ks body (Fin P rs.toArray R) (pR 0 args) h) (bV:P.follows .mixedOrders=true:=by kernel_rfl) (hp:kX P f=true:=by kernel_rfl) (hk:dw N ks body=true:=by kernel_rfl) (hN:args.length≤N:=by exact Nat.le_of_ble_eq_true rfl):HT P f args h R:=by
 subst hn
 rw [←hr] at hw
 exact HT.of bV hf hb hp hk hN hbs hw
theorem HTP.by {f:FuncId}     {R p:AV→Hp→Prop} (N:Nat) (L:List Nat) (ks:List (Nat × Nat)) (rs:List ResultVar) (hf:P.funcs[f]? =some fn) (hb:fn.body=some body) (hn:fn.ntmps=N) (hr:fn.results=rs.toArray) (hbs:base ks=h.length)
  (hw:bH P N L ks body (DL P rs.toArray R p) (pR 0 args) h) (bV:P.follows .mixedOrders=true:=by kernel_rfl) (hp:kX P f=true:=by kernel_rfl) (hk:dw N ks body=true:=by kernel_rfl) (hN:args.length≤N:=by exact Nat.le_of_ble_eq_true rfl):HTP P f args h R p:=by
 subst hn
 rw [←hr] at hw
 exact HTP.of bV hf hb hp hk hN hbs hw
theorem Qp :jF 0 h=h.map froze:=qU h
theorem Qq {m:Nat} {o:Option Ob} {r:Hp}:jF m (o::r)=(if m % 2=1 then o else froze o)::jF (m / 2) r:=Eq.trans rfl rfl
theorem YB {m:Nat}:jF m []=[]:=by cases m<;>rfl
theorem ad7 {K:Ev→Hp→Prop}:fZ P p₀ all [] e h K=K e h:=Eq.trans rfl rfl
variable {a:Array Edge}{p:String}
theorem YC {K:Ev→Hp→Prop}  {t:TypeId}   {op:Op}:fZ P p₀ all (⟨d,op,t,p,a,none⟩::r) e h K=wOp P p₀ ⟨d,op,t,p,a,none⟩ (dK e) h (kO P p₀ all r d e K):=Eq.trans rfl rfl
theorem YD {K:Ev→Hp→Prop}  {t:TypeId}   {op:Op}  {w:Bool}:fZ P p₀ all (⟨d,op,t,p,a,some (j,w)⟩::r) e h K=sW P p₀ all ⟨d,op,t,p,a,none⟩ r d e h K w (Ou e ((all[j]?).bind (·.dst))):=by
 have e1: ∀ K',wOp P p₀ ⟨d,op,t,p,a,some (j,w)⟩ (dK e) h K'=wOp P p₀ ⟨d,op,t,p,a,none⟩ (dK e) h K':=fun K'=>by cases op<;>rfl
 have e2:guardE all e j=Ou e ((all[j]?).bind (·.dst)):=by unfold guardE Ou;rfl
 show (∃ b,gB w (guardE all e j)=some b∧(if b=true then wOp P p₀ ⟨d,op,t,p,a,some (j,w)⟩ (dK e) h (kO P p₀ all r d e K) else _))=_
 rw [e1,e2];rfl
theorem ad8 {K:Ev→List (Tmp × Value)→Prop}:dL P p₀ all h [] e al K=K e al:=Eq.trans rfl rfl
variable {T:TypeId}
theorem Qr {K:Ev→List (Tmp × Value)→Prop}  {t:TypeId}   :dL P p₀ all h (⟨d, .alloc T,t,p,a,none⟩::r) e al K=sD P p₀ all h r d e al K T:=Eq.trans rfl rfl
theorem YE {K:Ev→List (Tmp × Value)→Prop}  {t:TypeId}   {op:Op}:aB ⟨d,op,t,p,a,none⟩=false→dL P p₀ all h (⟨d,op,t,p,a,none⟩::r) e al K=cOp P p₀ ⟨d,op,t,p,a,none⟩ (dK e) h (kH P p₀ all h r d e al K):=fun hn=>by
 show (if aB ⟨d,op,t,p,a,none⟩=true then _ else _)=_
 rw [hn];rfl
theorem YF {K:Ev→List (Tmp × Value)→Prop}  {t:TypeId}   {op:Op}  {w:Bool}:dL P p₀ all h (⟨d,op,t,p,a,some (j,w)⟩::r) e al K=sY P p₀ all h ⟨d,op,t,p,a,none⟩ r d e al K w (Ou e ((all[j]?).bind (·.dst))):=by
 have e1: ∀ K',cOp P p₀ ⟨d,op,t,p,a,some (j,w)⟩ (dK e) h K'=cOp P p₀ ⟨d,op,t,p,a,none⟩ (dK e) h K':=fun K'=>by cases op<;>rfl
 have e2:guardE all e j=Ou e ((all[j]?).bind (·.dst)):=by unfold guardE Ou;rfl
 show (∃ b,gB w (guardE all e j)=some b∧(if b=true then cOp P p₀ ⟨d,op,t,p,a,some (j,w)⟩ (dK e) h (kH P p₀ all h r d e al K) else _))=_
 rw [e1,e2];rfl
variable {E:Operand→AV}{K:AV→Prop}{x:Operand}
theorem YG {t:TypeId}   {g:Option (Nat × Bool)}  :rOp P ⟨d, .move x,t,p,a,g⟩ E h K=K (E x):=Eq.trans rfl rfl
theorem Jj {t:TypeId}   {g:Option (Nat × Bool)}  :rOp P ⟨d, .assign x,t,p,a,g⟩ E h K=K (E x):=Eq.trans rfl rfl
variable {y:Operand}
theorem YH {t:TypeId}   {g:Option (Nat × Bool)} {c:Operand} :rOp P ⟨d, .pick c x y,t,p,a,g⟩ E h K=sP K (E c) (E x) (E y):=Eq.trans rfl rfl
variable {parts:Array (Nat × Operand)}
theorem Qs {t:TypeId}   {g:Option (Nat × Bool)}   :rOp P ⟨d, .build T parts,t,p,a,g⟩ E h K=sG K (mQ P h T (parts.toList.map fun p=>(p.1,E p.2))):=Eq.trans rfl rfl
theorem YI {t:TypeId}   {g:Option (Nat × Bool)}   :rOp P ⟨d, .load T x,t,p,a,g⟩ E h K=(szP P T≠some 0∧sA K (pz P h T (E x))):=Eq.trans rfl rfl
theorem Bl {t:TypeId}   {g:Option (Nat × Bool)}  :rOp P ⟨d, .nilCheck x,t,p,a,g⟩ E h K=sN K (E x) (lF h (E x)):=Eq.trans rfl rfl
variable {op:BinOp}{ty:TypeId}
theorem Qu {t:TypeId}   {g:Option (Nat × Bool)}    :rOp P ⟨d, .binOp op T x y ty,t,p,a,g⟩ E h K=sV K (pK P h op T (E x) (E y)):=Eq.trans rfl rfl
theorem YJ {t:TypeId}   {g:Option (Nat × Bool)} {op:UnOp}   :rOp P ⟨d, .unOp op T x,t,p,a,g⟩ E h K=sV K (unA op (E x)):=Eq.trans rfl rfl
variable {s u:TypeId}
theorem Ew {t:TypeId}   {g:Option (Nat × Bool)}   :rOp P ⟨d, .convert s u x,t,p,a,g⟩ E h K=sV K (iy P h s u (E x)):=Eq.trans rfl rfl
variable {f:Nat}
theorem yA {t:TypeId}   {g:Option (Nat × Bool)} {S:TypeId}   :rOp P ⟨d, .fieldAddr S x f,t,p,a,g⟩ E h K=sA K (tJ P h S (E x) f):=Eq.trans rfl rfl
theorem Qv {t:TypeId}   {g:Option (Nat × Bool)} {S:TypeId}   :rOp P ⟨d, .field S x f,t,p,a,g⟩ E h K=sA K (tN P S (E x) f):=Eq.trans rfl rfl
theorem Ey {t:TypeId}   {g:Option (Nat × Bool)}   :rOp P ⟨d, .extract x i,t,p,a,g⟩ E h K=sA K (Ei (E x) i):=Eq.trans rfl rfl
theorem ad9 {t:TypeId}   {g:Option (Nat × Bool)}   {K:AV→Hp→Prop}:wOp P p₀ ⟨d, .makeInterface T x,t,p,a,g⟩ E h K=(aT P T=true∧K (.ifc T (E x)) h):=Eq.trans rfl rfl
theorem aea {t:TypeId}   {g:Option (Nat × Bool)}   :cOp P p₀ ⟨d, .makeInterface T x,t,p,a,g⟩ E h K=(aT P T=true∧K (.ifc T (E x))):=Eq.trans rfl rfl
variable {k:Operand}
theorem Jk {t:TypeId}   {g:Option (Nat × Bool)}   {ok:Bool} {K:AV→Hp→Prop}:wOp P p₀ ⟨d, .lookup T x k ok,t,p,a,g⟩ E h K=sA (kR K h) (lY P h T (E x) (E k) ok):=Eq.trans rfl rfl
theorem Jl {t:TypeId}   {g:Option (Nat × Bool)}   {ok:Bool} :cOp P p₀ ⟨d, .lookup T x k ok,t,p,a,g⟩ E h K=sA K (lY P h T (E x) (E k) ok):=Eq.trans rfl rfl
theorem Ez {t:TypeId}   {g:Option (Nat × Bool)}  {K:AV→Hp→Prop}:wOp P p₀ ⟨d, .makeMap T none,t,p,a,g⟩ E h K=K (.mp h.length) (h++[some (.map [])]):=propext ⟨fun q=>q.2,fun q=>⟨rfl,q⟩⟩
theorem yB {t:TypeId}   {g:Option (Nat × Bool)}  {m:Operand} {K:AV→Hp→Prop}:wOp P p₀ ⟨d, .mapUpdate T m k x,t,p,a,g⟩ E h K=sH K (kJ P h T (E m) (E k) (E x)):=Eq.trans rfl rfl
theorem Jm {t:TypeId}   {g:Option (Nat × Bool)}  {m:Operand} {K:AV→Hp→Prop}:wOp P p₀ ⟨d, .insert T m k x,t,p,a,g⟩ E h K=sH K (kJ P h T (E m) (E k) (E x)):=Eq.trans rfl rfl
def ahX (p:AV→Hp→Prop) (h:Hp) (x:AV):Prop:= ∃ T a,x= .ifc T a∧p (.ifc T a) h
theorem Jo {x:AV}:ahX p₀ h (.ifc T x)=p₀ (.ifc T x) h:=propext ⟨fun ⟨_,_,e,q⟩=>by cases e;exact q,fun q=>⟨_,_,rfl,q⟩⟩
theorem Qw {t:TypeId}   {g:Option (Nat × Bool)}  {K:AV→Hp→Prop}:wOp P p₀ ⟨d, .panic x,t,p,a,g⟩ E h K=ahX p₀ h (E x):=Eq.trans rfl rfl
theorem YK {t:TypeId}   {g:Option (Nat × Bool)}  {K:AV→Hp→Prop}:wOp P p₀ ⟨d, .move x,t,p,a,g⟩ E h K=rOp P ⟨d, .move x,t,p,a,g⟩ E h (kR K h):=Eq.trans rfl rfl
theorem YL {t:TypeId}   {g:Option (Nat × Bool)}  :cOp P p₀ ⟨d, .move x,t,p,a,g⟩ E h K=rOp P ⟨d, .move x,t,p,a,g⟩ E h K:=Eq.trans rfl rfl
theorem Jp {t:TypeId}   {g:Option (Nat × Bool)}  {K:AV→Hp→Prop}:wOp P p₀ ⟨d, .assign x,t,p,a,g⟩ E h K=rOp P ⟨d, .assign x,t,p,a,g⟩ E h (kR K h):=Eq.trans rfl rfl
theorem Jq {t:TypeId}   {g:Option (Nat × Bool)}  :cOp P p₀ ⟨d, .assign x,t,p,a,g⟩ E h K=rOp P ⟨d, .assign x,t,p,a,g⟩ E h K:=Eq.trans rfl rfl
theorem YM {t:TypeId}   {g:Option (Nat × Bool)} {c:Operand} {K:AV→Hp→Prop}:wOp P p₀ ⟨d, .pick c x y,t,p,a,g⟩ E h K=rOp P ⟨d, .pick c x y,t,p,a,g⟩ E h (kR K h):=Eq.trans rfl rfl
theorem YN {t:TypeId}   {g:Option (Nat × Bool)} {c:Operand} :cOp P p₀ ⟨d, .pick c x y,t,p,a,g⟩ E h K=rOp P ⟨d, .pick c x y,t,p,a,g⟩ E h K:=Eq.trans rfl rfl
theorem Qx {t:TypeId}   {g:Option (Nat × Bool)}   {K:AV→Hp→Prop}:wOp P p₀ ⟨d, .build T parts,t,p,a,g⟩ E h K=rOp P ⟨d, .build T parts,t,p,a,g⟩ E h (kR K h):=Eq.trans rfl rfl
theorem Qy {t:TypeId}   {g:Option (Nat × Bool)}   :cOp P p₀ ⟨d, .build T parts,t,p,a,g⟩ E h K=rOp P ⟨d, .build T parts,t,p,a,g⟩ E h K:=Eq.trans rfl rfl
theorem YO {t:TypeId}   {g:Option (Nat × Bool)}   {K:AV→Hp→Prop}:wOp P p₀ ⟨d, .load T x,t,p,a,g⟩ E h K=rOp P ⟨d, .load T x,t,p,a,g⟩ E h (kR K h):=Eq.trans rfl rfl
theorem YP {t:TypeId}   {g:Option (Nat × Bool)}   :cOp P p₀ ⟨d, .load T x,t,p,a,g⟩ E h K=rOp P ⟨d, .load T x,t,p,a,g⟩ E h K:=Eq.trans rfl rfl
theorem Bo {t:TypeId}   {g:Option (Nat × Bool)}  {K:AV→Hp→Prop}:wOp P p₀ ⟨d, .nilCheck x,t,p,a,g⟩ E h K=rOp P ⟨d, .nilCheck x,t,p,a,g⟩ E h (kR K h):=Eq.trans rfl rfl
theorem Bq {t:TypeId}   {g:Option (Nat × Bool)}  :cOp P p₀ ⟨d, .nilCheck x,t,p,a,g⟩ E h K=rOp P ⟨d, .nilCheck x,t,p,a,g⟩ E h K:=Eq.trans rfl rfl
theorem Qz {t:TypeId}   {g:Option (Nat × Bool)}    {K:AV→Hp→Prop}:wOp P p₀ ⟨d, .binOp op T x y ty,t,p,a,g⟩ E h K=rOp P ⟨d, .binOp op T x y ty,t,p,a,g⟩ E h (kR K h):=Eq.trans rfl rfl
theorem QB {t:TypeId}   {g:Option (Nat × Bool)}    :cOp P p₀ ⟨d, .binOp op T x y ty,t,p,a,g⟩ E h K=rOp P ⟨d, .binOp op T x y ty,t,p,a,g⟩ E h K:=Eq.trans rfl rfl
theorem YQ {t:TypeId}   {g:Option (Nat × Bool)} {op:UnOp}   {K:AV→Hp→Prop}:wOp P p₀ ⟨d, .unOp op T x,t,p,a,g⟩ E h K=rOp P ⟨d, .unOp op T x,t,p,a,g⟩ E h (kR K h):=Eq.trans rfl rfl
theorem YR {t:TypeId}   {g:Option (Nat × Bool)} {op:UnOp}   :cOp P p₀ ⟨d, .unOp op T x,t,p,a,g⟩ E h K=rOp P ⟨d, .unOp op T x,t,p,a,g⟩ E h K:=Eq.trans rfl rfl
theorem EC {t:TypeId}   {g:Option (Nat × Bool)}   {K:AV→Hp→Prop}:wOp P p₀ ⟨d, .convert s u x,t,p,a,g⟩ E h K=sA (kR K h) (cvA P h s u (E x)):=Eq.trans rfl rfl
theorem ED {t:TypeId}   {g:Option (Nat × Bool)}   :cOp P p₀ ⟨d, .convert s u x,t,p,a,g⟩ E h K=sV K (iy P [] s u (E x)):=Eq.trans rfl rfl
theorem yD {t:TypeId}   {g:Option (Nat × Bool)} {S:TypeId}   {K:AV→Hp→Prop}:wOp P p₀ ⟨d, .fieldAddr S x f,t,p,a,g⟩ E h K=rOp P ⟨d, .fieldAddr S x f,t,p,a,g⟩ E h (kR K h):=Eq.trans rfl rfl
theorem yE {t:TypeId}   {g:Option (Nat × Bool)} {S:TypeId}   :cOp P p₀ ⟨d, .fieldAddr S x f,t,p,a,g⟩ E h K=rOp P ⟨d, .fieldAddr S x f,t,p,a,g⟩ E h K:=Eq.trans rfl rfl
theorem QC {t:TypeId}   {g:Option (Nat × Bool)} {S:TypeId}   {K:AV→Hp→Prop}:wOp P p₀ ⟨d, .field S x f,t,p,a,g⟩ E h K=rOp P ⟨d, .field S x f,t,p,a,g⟩ E h (kR K h):=Eq.trans rfl rfl
theorem QD {t:TypeId}   {g:Option (Nat × Bool)} {S:TypeId}   :cOp P p₀ ⟨d, .field S x f,t,p,a,g⟩ E h K=rOp P ⟨d, .field S x f,t,p,a,g⟩ E h K:=Eq.trans rfl rfl
theorem EF {t:TypeId}   {g:Option (Nat × Bool)}   {K:AV→Hp→Prop}:wOp P p₀ ⟨d, .extract x i,t,p,a,g⟩ E h K=rOp P ⟨d, .extract x i,t,p,a,g⟩ E h (kR K h):=Eq.trans rfl rfl
theorem EG {t:TypeId}   {g:Option (Nat × Bool)}   :cOp P p₀ ⟨d, .extract x i,t,p,a,g⟩ E h K=rOp P ⟨d, .extract x i,t,p,a,g⟩ E h K:=Eq.trans rfl rfl
end
end
section
open Go.RowKit
def sT0 (K:AV→Prop) (n:Nat) (o:Option (TypeId × Nat × List AV)):Prop:= ∃ te s l,o=some (te,s,l)∧K (if n=0 then .e0 else .t n s l)
def sX1 (P:Program) (h:Hp) (T:TypeId) (x:AV) (K:AV→Prop) (z:Option Int):Prop:= ∃ i,z=some i∧sA K (Gn P h T x i)
def sX2 (P:Program) (T:TypeId) (x:AV) (K:AV→Prop) (z:Option Int):Prop:= ∃ i,z=some i∧sA K (oC P T x i)
section
variable {P:Program} {p₀:AV→Hp→Prop} {E:Operand→AV} {h:Hp} {d:Option Tmp} {t:TypeId} {p:String} {a:Array Edge} {g:Option (Nat × Bool)}
variable {T:TypeId}{hi:Option Operand}{x:Operand}
theorem QE {lo:Option Operand} {K:AV→Prop}:rOp P ⟨d, .slice T x lo hi none,t,p,a,g⟩ E h K=sA K (sliceT P h T (E x) (lo.map E) (hi.map E)):=propext ⟨fun q=>q.2,fun q=>⟨rfl,q⟩⟩
theorem QF {lo:Option Operand} {K:AV→Prop}:cOp P p₀ ⟨d, .slice T x lo hi none,t,p,a,g⟩ E h K=rOp P ⟨d, .slice T x lo hi none,t,p,a,g⟩ E h K:=Eq.trans rfl rfl
variable {K:AV→Hp→Prop}
theorem QG {lo:Option Operand} :wOp P p₀ ⟨d, .slice T x lo hi none,t,p,a,g⟩ E h K=sO K (ig P h T (E x) (lo.map E) (hi.map E)):=propext ⟨fun q=>q.2,fun q=>⟨rfl,q⟩⟩
variable {i:Operand}
theorem yF {K:AV→Prop}:rOp P ⟨d, .indexAddr T x i,t,p,a,g⟩ E h K=sX1 P h T (E x) K (o9 (E i)):=propext ⟨fun ⟨z,r,q1,q2,q3⟩=>⟨z,q1,r,q2,q3⟩,fun ⟨z,q1,r,q2,q3⟩=>⟨z,r,q1,q2,q3⟩⟩
theorem yG {K:AV→Prop}:cOp P p₀ ⟨d, .indexAddr T x i,t,p,a,g⟩ E h K=rOp P ⟨d, .indexAddr T x i,t,p,a,g⟩ E h K:=Eq.trans rfl rfl
theorem yH :wOp P p₀ ⟨d, .indexAddr T x i,t,p,a,g⟩ E h K=rOp P ⟨d, .indexAddr T x i,t,p,a,g⟩ E h (kR K h):=Eq.trans rfl rfl
theorem QH {K:AV→Prop}:rOp P ⟨d, .index T x i,t,p,a,g⟩ E h K=sX2 P T (E x) K (o9 (E i)):=propext ⟨fun ⟨z,r,q1,q2,q3⟩=>⟨z,q1,r,q2,q3⟩,fun ⟨z,q1,r,q2,q3⟩=>⟨z,r,q1,q2,q3⟩⟩
theorem QI {K:AV→Prop}:cOp P p₀ ⟨d, .index T x i,t,p,a,g⟩ E h K=rOp P ⟨d, .index T x i,t,p,a,g⟩ E h K:=Eq.trans rfl rfl
theorem QJ :wOp P p₀ ⟨d, .index T x i,t,p,a,g⟩ E h K=rOp P ⟨d, .index T x i,t,p,a,g⟩ E h (kR K h):=Eq.trans rfl rfl
variable {l1 l2:List Operand}
theorem YS {f:Fn}  {K:AV→Prop}:rOp P ⟨d, .makeFunc f l1.toArray l2.toArray,t,p,a,g⟩ E h K=K (.fn f (l1.map E) (l2.map E)):=Eq.trans rfl rfl
theorem YT {f:Fn}  {K:AV→Prop}:cOp P p₀ ⟨d, .makeFunc f l1.toArray l2.toArray,t,p,a,g⟩ E h K=K (.fn f (l1.map E) (l2.map E)):=Eq.trans rfl rfl
theorem YU {f:Fn}  :wOp P p₀ ⟨d, .makeFunc f l1.toArray l2.toArray,t,p,a,g⟩ E h K=K (.fn f (l1.map E) (l2.map E)) h:=Eq.trans rfl rfl
theorem len_eq {K:AV→Prop}:rV P ⟨.builtin .len, #[x], #[T]⟩ E h K=sL K (DI P h T (E x)):=propext ⟨fun ⟨_,n,q1,_,q2⟩=>⟨n,q1,q2⟩,fun ⟨n,q1,q2⟩=>⟨rfl,n,q1,rfl,q2⟩⟩
theorem q_len {K:AV→Prop}:cOp P p₀ ⟨d, .call ⟨.builtin .len, #[x], #[T]⟩,t,p,a,g⟩ E h K=sL K (DI P h T (E x)):=len_eq
theorem aeb :wOp P p₀ ⟨d, .call ⟨.builtin .len, #[x], #[T]⟩,t,p,a,g⟩ E h K=sL (kR K h) (DI P h T (E x)):=len_eq (K:=kR K h)
variable {l:List Operand}{tt:Array TypeId}
theorem aec {K:AV→Prop}:cOp P p₀ ⟨d, .call ⟨.builtin .max,l.toArray,tt⟩,t,p,a,g⟩ E h K=sA K (mmA true (l.map E)):=Eq.trans rfl rfl
theorem aed :wOp P p₀ ⟨d, .call ⟨.builtin .max,l.toArray,tt⟩,t,p,a,g⟩ E h K=sA (kR K h) (mmA true (l.map E)):=Eq.trans rfl rfl
theorem aee {K:AV→Prop}:cOp P p₀ ⟨d, .call ⟨.builtin .min,l.toArray,tt⟩,t,p,a,g⟩ E h K=sA K (mmA false (l.map E)):=Eq.trans rfl rfl
theorem aef :wOp P p₀ ⟨d, .call ⟨.builtin .min,l.toArray,tt⟩,t,p,a,g⟩ E h K=sA (kR K h) (mmA false (l.map E)):=Eq.trans rfl rfl
variable {U:TypeId}{y:Operand}
theorem Jr :wOp P p₀ ⟨d, .call ⟨.builtin .append, #[x,y], #[T,U]⟩,t,p,a,g⟩ E h K=sO K (lZ P h T U (E x) (E y)):=propext ⟨fun ⟨_,_,q⟩=>q,fun q=>⟨rfl,rfl,q⟩⟩
theorem YV :wOp P p₀ ⟨d, .call ⟨.builtin .copy, #[x,y], #[T,U]⟩,t,p,a,g⟩ E h K=sO K (yh P h T U (E x) (E y)):=propext ⟨fun ⟨_,_,q⟩=>q,fun q=>⟨rfl,rfl,q⟩⟩
theorem YW {f:Operand}   :wOp P p₀ ⟨d, .call ⟨.value f,l.toArray,tt⟩,t,p,a,g⟩ E h K=Bj P p₀ K h (E f) (l.map E):=Eq.trans rfl rfl
theorem YX {f:Operand}   {K:AV→Prop}:cOp P p₀ ⟨d, .call ⟨.value f,l.toArray,tt⟩,t,p,a,g⟩ E h K=Yi P p₀ K h (E f) (l.map E):=Eq.trans rfl rfl
theorem aeg {n:Nat} {l:List (Nat × Operand)} {K:AV→Prop}:cOp P p₀ ⟨d, .buildSlice T n l.toArray,t,p,a,g⟩ E h K=sT0 K n (yU P h T n (l.map fun p=>(p.1,E p.2))):=Eq.trans rfl rfl
theorem Js {K:AV→Prop}:cOp P p₀ ⟨d, .call ⟨.builtin .append, #[x,y], #[T,U]⟩,t,p,a,g⟩ E h K=sA K (I5 P h T U (E x) (E y)):=propext ⟨fun ⟨_,_,q⟩=>q,fun q=>⟨rfl,rfl,q⟩⟩
theorem aeh {n:Nat} {l:List (Nat × Operand)} :wOp P p₀ ⟨d, .buildSlice T n l.toArray,t,p,a,g⟩ E h K=sS K h n (yU P h T n (l.map fun p=>(p.1,E p.2))):=Eq.trans rfl rfl
theorem QK :wOp P p₀ ⟨d, .alloc T,t,p,a,g⟩ E h K=sZ K h (ak P T):=Eq.trans rfl rfl
theorem aei :wOp P p₀ ⟨d, .box T x,t,p,a,g⟩ E h K=sB K h (cellsA h (E x)):=Eq.trans rfl rfl
theorem QL :wOp P p₀ ⟨d, .store T x y,t,p,a,g⟩ E h K=sH K (tH P h T (E x) (E y)):=Eq.trans rfl rfl
theorem YZ :wOp P p₀ ⟨d, .makeSlice T x y,t,p,a,g⟩ E h K=sI P T K h (o9 (E x)) (o9 (E y)):=Eq.trans rfl rfl
end
section
variable {P:Program} {p₀:AV→Hp→Prop} {N:Nat} {L:List Nat} {ks:List (Nat × Nat)}
theorem l9 {α:Type} {x:α} {K:α→Prop}:(∃ r,some x=some r∧K r)=K x:=propext ⟨fun ⟨r,h1,h2⟩=>by injection h1 with h1;subst h1;exact h2,fun h=>⟨x,rfl,h⟩⟩
variable {v:Value}
theorem QM {K:AV→Prop} :sV K (some v)=K (.v v):=l9 (K:=fun r=>K (.v r))
theorem QN {K:AV→Prop} {v:AV}:sA K (some v)=K v:=l9
variable {l:List AV}
theorem QO {K:AV→Prop} :sG K (some l)=K (.g l):=l9 (K:=fun r=>K (.g r))
variable {h:Hp}
theorem GK {K:AV→Hp→Prop} {v:AV} :sO K (some (v,h))=K v h:=propext ⟨fun ⟨r,h',h1,h2⟩=>by injection h1 with h1;injection h1 with e1 e2;subst e1 e2;exact h2,fun q=>⟨v,h,rfl,q⟩⟩
theorem QS {K:AV→Hp→Prop} {v:AV} :sE K (some (v,h))=K v h:=GK
theorem QT {K:AV→Hp→Prop} :sH K (some h)=K .none h:=l9 (K:=fun r=>K .none r)
theorem QU {K:AV→Hp→Prop}  {z:Value}:sZ K h (some z)=K (.ptr h.length 0) (h++[some (.blk (fC z))]):=propext ⟨fun ⟨r,h1,h2⟩=>by injection h1 with h1;subst h1;exact h2,fun q=>⟨z,rfl,q⟩⟩
theorem QV {K:AV→Hp→Prop}  {z:List AV}:sB K h (some z)=K (.ptr h.length 0) (h++[some (.blk z)]):=propext ⟨fun ⟨r,h1,h2⟩=>by injection h1 with h1;subst h1;exact h2,fun q=>⟨z,rfl,q⟩⟩
variable {n s:Nat}{te:TypeId}
theorem QW {K:AV→Hp→Prop}     :sS K h n (some (te,s,l))=K (.own h.length n) (h++[some (.arr te s l 0)]):=propext ⟨fun ⟨_,_,_,h1,h2⟩=>by injection h1 with h1;injection h1 with e1 h1;injection h1 with e2 e3;subst e1 e2 e3;exact h2,fun q=>⟨te,s,l,rfl,q⟩⟩
theorem QX {K:AV→Prop}    :sT K n (some (te,s,l))=K (.t n s l):=propext ⟨fun ⟨_,_,_,h1,h2⟩=>by injection h1 with h1;injection h1 with e1 h1;injection h1 with e2 e3;subst e1 e2 e3;exact h2,fun q=>⟨te,s,l,rfl,q⟩⟩
theorem Jt {K:AV→Prop}    :sT0 K n (some (te,s,l))=K (if n=0 then .e0 else .t n s l):=propext ⟨fun ⟨_,_,_,h1,h2⟩=>by injection h1 with h1;injection h1 with e1 h1;injection h1 with e2 e3;subst e1 e2 e3;exact h2,fun q=>⟨te,s,l,rfl,q⟩⟩
variable {T:TypeId}
theorem QY {K:AV→Hp→Prop}  {zl zc:Int}:sI P T K h (some zl) (some zc)=sS K h zl.toNat (uK P T zl zc):=propext ⟨fun ⟨_,_,te,s,l,h1,h2,h3,h4⟩=>by injection h1 with h1;injection h2 with h2;subst h1 h2;exact ⟨te,s,l,h3,h4⟩,fun ⟨te,s,l,h3,h4⟩=>⟨_,_,te,s,l,rfl,rfl,h3,h4⟩⟩
variable {x:AV}
theorem Ju {K:AV→Prop} {i:Int}:sX1 P h T x K (some i)=sA K (Gn P h T x i):=l9 (K:=fun i=>sA K (Gn P h T x i))
theorem Jv {K:AV→Prop} {i:Int}:sX2 P T x K (some i)=sA K (oC P T x i):=l9 (K:=fun i=>sA K (oC P T x i))
theorem QZ {K:AV→Prop} :sN K x (some false)=K x:=propext ⟨fun q=>q.2,fun q=>⟨rfl,q⟩⟩
theorem Q5 {K:AV→Prop} :sL K (some n)=K (.v (.int .i64 n)):=l9 (K:=fun n:Nat=>K (.v (.int .i64 n)))
theorem acM {K:AV→Prop} {y:AV}:sP K (.v (.bool true)) x y=K x:=propext ⟨fun ⟨t,h1,h2⟩=>by cases h1;exact h2,fun q=>⟨true,rfl,q⟩⟩
theorem acN {K:AV→Prop} {y:AV}:sP K (.v (.bool false)) x y=K y:=propext ⟨fun ⟨t,h1,h2⟩=>by cases h1;exact h2,fun q=>⟨false,rfl,q⟩⟩
variable {e:Ev}
theorem acO {a b:Code} {Q:bU}  :sC P N L ks a b Q e h (.v (.bool true))=bH P N L ks a Q e h:=propext ⟨fun ⟨t,h1,h2⟩=>by cases h1;exact h2,fun q=>⟨true,rfl,q⟩⟩
theorem acP {a b:Code} {Q:bU}  :sC P N L ks a b Q e h (.v (.bool false))=bH P N L ks b Q e h:=propext ⟨fun ⟨t,h1,h2⟩=>by cases h1;exact h2,fun q=>⟨false,rfl,q⟩⟩
variable {all r:List Oper}{d:Option Tmp}{o:Oper}
theorem Q7 {K:Ev→Hp→Prop}:sW P p₀ all o r d e h K true (.v (.bool true))=wOp P p₀ o (dK e) h (kO P p₀ all r d e K):=propext ⟨fun ⟨t,h1,h2⟩=>by injection h1 with h1;subst h1;simpa using h2,fun q=>⟨_,rfl,by simpa using q⟩⟩
theorem Q8 {K:Ev→Hp→Prop}:sW P p₀ all o r d e h K true (.v (.bool false))=fZ P p₀ all r (bY e d (.v undef)) h K:=propext ⟨fun ⟨t,h1,h2⟩=>by injection h1 with h1;subst h1;simpa using h2,fun q=>⟨_,rfl,by simpa using q⟩⟩
theorem Q9 {K:Ev→Hp→Prop}:sW P p₀ all o r d e h K false (.v (.bool true))=fZ P p₀ all r (bY e d (.v undef)) h K:=propext ⟨fun ⟨t,h1,h2⟩=>by injection h1 with h1;subst h1;simpa using h2,fun q=>⟨_,rfl,by simpa using q⟩⟩
theorem Rf {K:Ev→Hp→Prop}:sW P p₀ all o r d e h K false (.v (.bool false))=wOp P p₀ o (dK e) h (kO P p₀ all r d e K):=propext ⟨fun ⟨t,h1,h2⟩=>by injection h1 with h1;subst h1;simpa using h2,fun q=>⟨_,rfl,by simpa using q⟩⟩
variable {q:Prop}
theorem Rh {K:Ev→Hp→Prop}  [Decidable q] (hq: ¬ q):sW P p₀ all o r d e h K true (.v (.bool (decide q)))=fZ P p₀ all r (bY e d (.v undef)) h K:=by rw [decide_eq_false hq];exact Q8
theorem Ri {K:Ev→Hp→Prop}  [Decidable q] (hq:q):sW P p₀ all o r d e h K true (.v (.bool (decide q)))=wOp P p₀ o (dK e) h (kO P p₀ all r d e K):=by rw [decide_eq_true hq];exact Q7
theorem Rj {K:Ev→Hp→Prop}  [Decidable q] (hq: ¬ q):sW P p₀ all o r d e h K true (.v (.bool (!decide q)))=wOp P p₀ o (dK e) h (kO P p₀ all r d e K):=by rw [decide_eq_false hq];exact Q7
theorem Rk {K:Ev→Hp→Prop}  [Decidable q] (hq:q):sW P p₀ all o r d e h K true (.v (.bool (!decide q)))=fZ P p₀ all r (bY e d (.v undef)) h K:=by rw [decide_eq_true hq];exact Q8
theorem Rl {K:Ev→Hp→Prop}  [Decidable q] (hq: ¬ q):sW P p₀ all o r d e h K false (.v (.bool (decide q)))=wOp P p₀ o (dK e) h (kO P p₀ all r d e K):=by rw [decide_eq_false hq];exact Rf
theorem Ro {K:Ev→Hp→Prop}  [Decidable q] (hq:q):sW P p₀ all o r d e h K false (.v (.bool (decide q)))=fZ P p₀ all r (bY e d (.v undef)) h K:=by rw [decide_eq_true hq];exact Q9
theorem Rq {K:Ev→Hp→Prop}  [Decidable q] (hq: ¬ q):sW P p₀ all o r d e h K false (.v (.bool (!decide q)))=fZ P p₀ all r (bY e d (.v undef)) h K:=by rw [decide_eq_false hq];exact Q9
theorem Rt {K:Ev→Hp→Prop}  [Decidable q] (hq:q):sW P p₀ all o r d e h K false (.v (.bool (!decide q)))=wOp P p₀ o (dK e) h (kO P p₀ all r d e K):=by rw [decide_eq_true hq];exact Rf
theorem aej {K:Ev→Hp→Prop} {w:Bool}:sW P p₀ all o r d e h K w (.v undef)=fZ P p₀ all r (bY e d (.v undef)) h K:=propext ⟨fun ⟨t,h1,h2⟩=>by injection h1 with h1;subst h1;simpa using h2,fun q=>⟨_,rfl,by simpa using q⟩⟩
variable {K:Ev→List (Tmp × Value)→Prop}{al:List (Tmp × Value)}
theorem aek {w:Bool}:sY P p₀ all h o r d e al K w (.v undef)=dL P p₀ all h r (bY e d (.v undef)) al K:=propext ⟨fun ⟨t,h1,h2⟩=>by injection h1 with h1;subst h1;simpa using h2,fun q=>⟨_,rfl,by simpa using q⟩⟩
theorem Ru :sY P p₀ all h o r d e al K true (.v (.bool true))=cOp P p₀ o (dK e) h (kH P p₀ all h r d e al K):=propext ⟨fun ⟨t,h1,h2⟩=>by injection h1 with h1;subst h1;simpa using h2,fun q=>⟨_,rfl,by simpa using q⟩⟩
theorem Rw :sY P p₀ all h o r d e al K true (.v (.bool false))=dL P p₀ all h r (bY e d (.v undef)) al K:=propext ⟨fun ⟨t,h1,h2⟩=>by injection h1 with h1;subst h1;simpa using h2,fun q=>⟨_,rfl,by simpa using q⟩⟩
theorem Rx :sY P p₀ all h o r d e al K false (.v (.bool true))=dL P p₀ all h r (bY e d (.v undef)) al K:=propext ⟨fun ⟨t,h1,h2⟩=>by injection h1 with h1;subst h1;simpa using h2,fun q=>⟨_,rfl,by simpa using q⟩⟩
theorem Ry :sY P p₀ all h o r d e al K false (.v (.bool false))=cOp P p₀ o (dK e) h (kH P p₀ all h r d e al K):=propext ⟨fun ⟨t,h1,h2⟩=>by injection h1 with h1;subst h1;simpa using h2,fun q=>⟨_,rfl,by simpa using q⟩⟩
theorem Rz [Decidable q] (hq: ¬ q):sY P p₀ all h o r d e al K true (.v (.bool (decide q)))=dL P p₀ all h r (bY e d (.v undef)) al K:=by rw [decide_eq_false hq];exact Rw
theorem RF [Decidable q] (hq:q):sY P p₀ all h o r d e al K true (.v (.bool (decide q)))=cOp P p₀ o (dK e) h (kH P p₀ all h r d e al K):=by rw [decide_eq_true hq];exact Ru
theorem RG [Decidable q] (hq: ¬ q):sY P p₀ all h o r d e al K true (.v (.bool (!decide q)))=cOp P p₀ o (dK e) h (kH P p₀ all h r d e al K):=by rw [decide_eq_false hq];exact Ru
theorem RH [Decidable q] (hq:q):sY P p₀ all h o r d e al K true (.v (.bool (!decide q)))=dL P p₀ all h r (bY e d (.v undef)) al K:=by rw [decide_eq_true hq];exact Rw
theorem RJ [Decidable q] (hq: ¬ q):sY P p₀ all h o r d e al K false (.v (.bool (decide q)))=cOp P p₀ o (dK e) h (kH P p₀ all h r d e al K):=by rw [decide_eq_false hq];exact Ry
theorem RN [Decidable q] (hq:q):sY P p₀ all h o r d e al K false (.v (.bool (decide q)))=dL P p₀ all h r (bY e d (.v undef)) al K:=by rw [decide_eq_true hq];exact Rx
theorem RP [Decidable q] (hq: ¬ q):sY P p₀ all h o r d e al K false (.v (.bool (!decide q)))=dL P p₀ all h r (bY e d (.v undef)) al K:=by rw [decide_eq_false hq];exact Rx
theorem RQ [Decidable q] (hq:q):sY P p₀ all h o r d e al K false (.v (.bool (!decide q)))=cOp P p₀ o (dK e) h (kH P p₀ all h r d e al K):=by rw [decide_eq_true hq];exact Ry
theorem Y1 {K:AV→Prop} {y:AV}  [Decidable q] (hq: ¬ q):sP K (.v (.bool (decide q))) x y=K y:=by rw [decide_eq_false hq];exact acN
theorem Y2 {K:AV→Prop} {y:AV}  [Decidable q] (hq:q):sP K (.v (.bool (decide q))) x y=K x:=by rw [decide_eq_true hq];exact acM
theorem Y3 {K:AV→Prop} {y:AV}  [Decidable q] (hq: ¬ q):sP K (.v (.bool (!decide q))) x y=K x:=by rw [decide_eq_false hq];exact acM
theorem Y4 {K:AV→Prop} {y:AV}  [Decidable q] (hq:q):sP K (.v (.bool (!decide q))) x y=K y:=by rw [decide_eq_true hq];exact acN
variable {Q:AV→Hp→Prop}
theorem RS {r:AV}:sF Q h (some r)=sE Q (dS h r):=l9 (K:=fun r=>sE Q (dS h r))
variable {p:AV→Hp→Prop}{rs:Array ResultVar}
theorem Y5 :DL P rs Q p .normal e h=sF Q h (tX P h e rs):=propext ⟨fun ⟨r,r',h',h1,h2,h3⟩=>⟨r,h1,r',h',h2,h3⟩,fun ⟨r,h1,r',h',h2,h3⟩=>⟨r,r',h',h1,h2,h3⟩⟩
theorem ael :DL P rs Q p .ret e h=sF Q h (tX P h e rs):=Y5 (p:=p)
variable {a:AV}
theorem aem :DL P rs Q p (.panic a) e h=sE p (dS h a):=propext ⟨fun ⟨r',h',h2,h3⟩=>⟨r',h',h2,h3⟩,fun ⟨r',h',h2,h3⟩=>⟨r',h',h2,h3⟩⟩
theorem fin0 :Fin P rs Q .normal e h=sF Q h (tX P h e rs):=propext ⟨fun ⟨r,r',h',h1,h2,h3⟩=>⟨r,h1,r',h',h2,h3⟩,fun ⟨r,h1,r',h',h2,h3⟩=>⟨r,r',h',h1,h2,h3⟩⟩
theorem fin1 :Fin P rs Q .ret e h=sF Q h (tX P h e rs):=fin0
def acQ:Option (List AV)→Option AV
 | some [a]=>some a
 | some l=>some (.tup l)
 | none=>none
theorem RU {rs:List ResultVar}  :tX P h e rs.toArray=acQ (nJ P h e rs):=by
 show (match nJ P h e rs with | some [a]=>some a | some l=>some (.tup l) | none=>none)=_
 cases nJ P h e rs with
 | none=>rfl
 | some l=>match l with
  | []=>rfl
  | [_]=>rfl
  | _::_::_=>rfl
theorem aen :acQ (some [a])=some a:=Eq.trans rfl rfl
theorem aeo:acQ (some [])=some (.tup []):=Eq.trans rfl rfl
theorem aep {b:AV} :acQ (some (a::b::l))=some (.tup (a::b::l)):=Eq.trans rfl rfl
theorem Jw :nJ P h e []=some []:=Eq.trans rfl rfl
theorem Jy {t:Tmp} {r:List ResultVar}:nJ P h e (.tmp t::r)=(nJ P h e r).map (fun l=>aJ e t::l):=Eq.trans rfl rfl
def af7:Option AV→Option (List AV)→Option (List AV)
 | some a,some l=>some (a::l)
 | _,_=>none
theorem EH :af7 (some a) (some l)=some (a::l):=Eq.trans rfl rfl
theorem aer {a b:Code} {Q:bU}    [Decidable q] (hq:q):sC P N L ks a b Q e h (.v (.bool (decide q)))=bH P N L ks a Q e h:=by rw [decide_eq_true hq];exact acO
theorem ahY {a b:Code} {Q:bU}    [Decidable q] (hq: ¬ q):sC P N L ks a b Q e h (.v (.bool (decide q)))=bH P N L ks b Q e h:=by rw [decide_eq_false hq];exact acP
theorem aes {a b:Code} {Q:bU}    [Decidable q] (hq:q):sC P N L ks a b Q e h (.v (.bool (!decide q)))=bH P N L ks b Q e h:=by rw [decide_eq_true hq];exact acP
theorem ahZ {a b:Code} {Q:bU}    [Decidable q] (hq: ¬ q):sC P N L ks a b Q e h (.v (.bool (!decide q)))=bH P N L ks a Q e h:=by rw [decide_eq_false hq];exact acO
theorem EI {d:Tmp}:Ou e (some d)=aJ e d:=Eq.trans rfl rfl
theorem Jz {d:Tmp} :bY e (some d) a=(d,a)::e:=Eq.trans rfl rfl
theorem JA :bY e none a=e:=Eq.trans rfl rfl
theorem get_nil {d:Tmp}:aJ [] d= .none:=Eq.trans rfl rfl
theorem JB {k d:Tmp}  {r:Ev}:aJ ((k,a)::r) d=if k=d then a else aJ r d:=Eq.trans rfl rfl
theorem Y6 {d:Tmp}:dK e (.tmp d)=aJ e d:=Eq.trans rfl rfl
theorem JC :dK e (.const v)= .v v:=Eq.trans rfl rfl
theorem RV {f:FuncId}:dK e (.func f)= .fn (.func f) [] []:=Eq.trans rfl rfl
theorem EJ {g:Nat}:dK e (.global g)= .v (.pointer (some ⟨g,0,none⟩)):=Eq.trans rfl rfl
theorem JD :kY [] e=[]:=Eq.trans rfl rfl
theorem EK {d:Nat} {L:List Nat}:kY (d::L) e=(d,aJ e d)::kY L e:=Eq.trans rfl rfl
theorem JE {i k d:Nat} {r:List (Nat × Nat)}:kOf ((i,k)::r) d=if i=d then k else kOf r d:=Eq.trans rfl rfl
theorem RX {d:Nat}:kOf [] d=0:=Eq.trans rfl rfl
theorem JF {α:Type} {l:List α}:l.toArray.toList=l:=Eq.trans rfl rfl
theorem RY {k:Nat}:pR k []=[]:=Eq.trans rfl rfl
theorem JG {k:Nat}  {r:List AV}:pR k (a::r)=(k,a)::pR (k+1) r:=Eq.trans rfl rfl
theorem Y7 :dU n [] e=e:=Eq.trans rfl rfl
theorem RZ {d:Tmp} {z:Value} {r:List (Tmp × Value)}:dU n ((d,z)::r) e=(d, .ptr n 0)::dU (n+1) r e:=Eq.trans rfl rfl
theorem JH {d:Tmp} {z:Value}:l7 (d,z)=some (.blk (fC z)):=Eq.trans rfl rfl
variable {k:IntKind}{z:Int}
theorem Si :o9 (.v (.int k z))=some z:=Eq.trans rfl rfl
variable {k':IntKind}{op:BinOp}{y:Int}
theorem Sj {x:Int}:pK P h op T (.v (.int k x)) (.v (.int k' y))=jI op (.int k x) (.int k' y):=Eq.trans rfl rfl
theorem Sl {x y:ByteArray}:pK P h op T (.v (.string x)) (.v (.string y))=jI op (.string x) (.string y):=Eq.trans rfl rfl
variable {b:Bool}
theorem Y8 :oz .eql b=some (.bool b):=Eq.trans rfl rfl
theorem Y9 :oz .neq b=some (.bool (!b)):=Eq.trans rfl rfl
theorem aeu {x:Int}:jI .add (.int k x) (.int k y)=some (.int k (k.wrap (x+y))):=if_pos rfl
theorem aev {x:Int}:jI .sub (.int k x) (.int k y)=some (.int k (k.wrap (x - y))):=if_pos rfl
theorem aew {x:Int}:jI .mul (.int k x) (.int k y)=some (.int k (k.wrap (x*y))):=if_pos rfl
theorem aex {x:Int} (hy:y≠0):jI .quo (.int k x) (.int k y)=some (.int k (k.wrap (x.tdiv y))):=if_pos ⟨rfl,hy⟩
theorem aey {x:Int} (hy:y≠0):jI .rem (.int k x) (.int k y)=some (.int k (x.tmod y)):=if_pos ⟨rfl,hy⟩
theorem aez {x:Int} (hy:0≤y):jI .shl (.int k x) (.int k' y)=some (.int k (k.wrap (x*2 ^ (min y.toNat k.bits)))):=if_pos hy
theorem aeA {x:Int} (hy:0≤y):jI .shr (.int k x) (.int k' y)=some (.int k (x.fdiv (2 ^ (min y.toNat k.bits)))):=if_pos hy
theorem aeB {x:Int}:jI .and (.int k x) (.int k y)=some (.int k (k.wrap (BitVec.ofInt k.bits x &&& BitVec.ofInt k.bits y).toNat)):=if_pos rfl
theorem ah0 {x:Int}:jI .or (.int k x) (.int k y)=some (.int k (k.wrap (BitVec.ofInt k.bits x ||| BitVec.ofInt k.bits y).toNat)):=if_pos rfl
theorem aeC {x:Int}:jI .xor (.int k x) (.int k y)=some (.int k (k.wrap (BitVec.ofInt k.bits x ^^^ BitVec.ofInt k.bits y).toNat)):=if_pos rfl
theorem aeD {x:Int}:jI .eql (.int k x) (.int k y)=some (.bool (decide (x=y))):=if_pos rfl
theorem aeE {x:Int}:jI .neq (.int k x) (.int k y)=some (.bool (!decide (x=y))):=if_pos rfl
theorem aeF {x:Int}:jI .lss (.int k x) (.int k y)=some (.bool (decide (x<y))):=if_pos rfl
theorem aeG {x:Int}:jI .leq (.int k x) (.int k y)=some (.bool (decide (x≤y))):=if_pos rfl
theorem aeH {x:Int}:jI .gtr (.int k x) (.int k y)=some (.bool (decide (y<x))):=if_pos rfl
theorem aeI {x:Int}:jI .geq (.int k x) (.int k y)=some (.bool (decide (y≤x))):=if_pos rfl
theorem aeJ {x y:ByteArray} (hs:x.size+y.size≤9223372036854775807):jI .add (.string x) (.string y)=some (.string (x++y)):=if_pos hs
theorem aeK {x y:ByteArray}:jI .eql (.string x) (.string y)=some (.bool (decide (x=y))):=Eq.trans rfl rfl
theorem aeL {x y:ByteArray}:jI .neq (.string x) (.string y)=some (.bool (!decide (x=y))):=Eq.trans rfl rfl
theorem aeM :unA .not (.v (.bool b))=some (.bool (!b)):=Eq.trans rfl rfl
theorem aeN :unA .neg (.v (.int k z))=some (.int k (k.wrap (0 - z))):=Eq.trans rfl rfl
theorem Za {i:Nat}:Ei (.tup l) i=l[i]? :=Eq.trans rfl rfl
theorem Zb {x:Int}:mmA true [.v (.int k x), .v (.int k' y)]=some (.v (.int k (if y>x then y else x))):=Eq.trans rfl rfl
theorem Zc {x:Int}:mmA false [.v (.int k x), .v (.int k' y)]=some (.v (.int k (if y<x then y else x))):=Eq.trans rfl rfl
theorem w64 {x:Int} (h1: -9223372036854775808≤x) (h2:x≤9223372036854775807):IntKind.i64.wrap x=x:=by rw [IntKind.wrap_i64];omega
theorem ah1 {x:Int} (h1:0≤x) (h2:x≤4294967295):IntKind.u32.wrap x=x:=by rw [IntKind.wrap_u32];omega
theorem wu64 {x:Int} (h1:0≤x) (h2:x≤18446744073709551615):IntKind.u64.wrap x=x:=by rw [IntKind.wrap_u64];omega
theorem wu8 {x:Int} (h1:0≤x) (h2:x≤255):IntKind.u8.wrap x=x:=by rw [IntKind.wrap_u8];omega
theorem JI:IntKind.u32.bits=32:=Eq.trans rfl rfl
theorem JJ:IntKind.u64.bits=64:=Eq.trans rfl rfl
theorem JK:IntKind.i64.bits=64:=Eq.trans rfl rfl
theorem Sm:IntKind.u8.bits=8:=Eq.trans rfl rfl
def tab (n:Nat) (f:Nat→AV):List AV:=(List.range n).map f
theorem uY {f:Nat→AV}:(tab n f).length=n:=by simp [tab]
theorem iM {k:Nat} {f:Nat→AV} (hk:k<n):(tab n f)[k]? =some (f k):=by simp [tab,hk]
theorem oH {k:Nat} {f:Nat→AV} :(tab n f).set k x=tab n (fun i=>if i=k then x else f i):=by
 apply List.ext_getElem?
 intro i
 by_cases hi:i<n
 ·rw [iM hi,List.getElem?_set]
  by_cases e:k=i
  ·subst e;simp [uY,hi]
  ·simp [e,iM hi,show i≠k from fun e'=>e e'.symm]
 ·simp [tab,hi]
theorem JL {f:Nat→Int}:intsOf (tab n fun i=> .v (.int .u8 (f i)))=some ((List.range n).map f):=by
 unfold tab
 generalize List.range n=l
 induction l with
 | nil=>rfl
 | cons a r ih=>
  simp only [List.map_cons]
  show (intsOf (r.map _)).map _=_
  rw [ih];rfl
theorem fM {f f':Nat→AV} (h: ∀ i,i<n→f i=f' i):tab n f=tab n f':=by
 apply List.ext_getElem?
 intro i
 by_cases hi:i<n
 ·rw [iM hi,iM hi,h i hi]
 ·simp [tab,hi]
theorem ld :pz P h T a=(behind h a).bind (takeA P T):=Eq.trans rfl rfl
def af8 (off:Nat):Option (Option Ob)→Option (List AV)
 | some (some (.blk cells))=>some (cells.drop off)
 | _=>none
variable {id off:Nat}
theorem Zd :behind h (.ptr id off)=af8 off h[id]? :=by
 show (match h[id]? with | some (some (.blk cells))=>some (cells.drop off) | _=>none)=_
 unfold af8;rfl
theorem EL :af8 off (some (some (.blk l)))=some (l.drop off):=Eq.trans rfl rfl
def acR (n off:Nat):Option (Option Ob)→Option (List AV)
 | some (some (.arr _ s cells _))=>if cells.length=n*s then some (cells.drop off) else none
 | _=>none
theorem aeO :behind h (.ap id n off)=acR n off h[id]? :=by
 show (match h[id]? with | some (some (.arr _ s cells _))=>if cells.length=n*s then some (cells.drop off) else none | _=>none)=_
 unfold acR;rfl
variable {fz:Nat}
theorem aeP (hl:l.length=n):acR n off (some (some (.arr T 1 l fz)))=some (l.drop off):=if_pos (by omega)
theorem EM (hl:l.length=n*s):acR n off (some (some (.arr T s l fz)))=some (l.drop off):=if_pos hl
theorem aeQ :behind h (.tp l)=some l:=Eq.trans rfl rfl
def Ze (n:Nat):Option (Option Ob)→Bool
 | some (some (.arr _ s cells _))=>decide (cells.length=n*s)
 | _=>false
def af9:Option (Option Ob)→Bool
 | some (some (.blk _))=>true
 | _=>false
theorem mY :bG h (.own id n)=Ze n h[id]? :=by
 show (match h[id]? with | some (some (.arr _ s cells _))=>decide (cells.length=n*s) | _=>false)=_
 unfold Ze;rfl
theorem Sr :bG h (.ap id n off)=Ze n h[id]? :=by
 show (match h[id]? with | some (some (.arr _ s cells _))=>decide (cells.length=n*s) | _=>false)=_
 unfold Ze;rfl
theorem GL :bG h (.ptr id off)=af9 h[id]? :=by
 show (match h[id]? with | some (some (.blk _))=>true | _=>false)=_
 unfold af9;rfl
theorem qV :Ze n (some (some (.arr T s l fz)))=decide (l.length=n*s):=Eq.trans rfl rfl
theorem qW :af9 (some (some (.blk l)))=true:=Eq.trans rfl rfl
theorem Zf :cellsA h (.v (.int k z))=some [.v (.int k z)]:=Eq.trans rfl rfl
theorem Sv :cellsA h (.v (.bool b))=some [.v (.bool b)]:=Eq.trans rfl rfl
theorem Zg {b:ByteArray}:cellsA h (.v (.string b))=some [.v (.string b)]:=Eq.trans rfl rfl
theorem Sz :cellsA h (.v (.slice none 0 0))=some [.v (.slice none 0 0)]:=Eq.trans rfl rfl
theorem SA {q:Option Addr}:cellsA h (.v (.pointer q))=some [.v (.pointer q)]:=Eq.trans rfl rfl
theorem ah2 :cellsA h (.t n s l)=some [.t n s l]:=Eq.trans rfl rfl
theorem ah3 :cellsA h (.g l)=some l:=Eq.trans rfl rfl
theorem aeR :cellsA h (.tp l)=some [.tp l]:=Eq.trans rfl rfl
variable {l2:List AV}
theorem aeS {f:Fn} {l1:List AV}:cellsA h (.fn f l1 l2)=some [.fn f l1 l2]:=Eq.trans rfl rfl
theorem qh (h0:bG h (.own id n)=true):cellsA h (.own id n)=some [.own id n]:=if_pos h0
theorem Zh (h0:bG h (.ptr id n)=true):cellsA h (.ptr id n)=some [.ptr id n]:=if_pos h0
theorem ah4 :jV h (.v v)=v.oneCell':=Eq.trans rfl rfl
theorem Zi :Value.oneCell' (.int k z)=true:=Eq.trans rfl rfl
theorem SB :Value.oneCell' (.bool b)=true:=Eq.trans rfl rfl
theorem Zj {b:ByteArray}:Value.oneCell' (.string b)=true:=Eq.trans rfl rfl
theorem JM {q:Option Addr} {c:Nat}:Value.oneCell' (.slice q n c)=true:=Eq.trans rfl rfl
theorem Zk {q:Option Addr}:Value.oneCell' (.pointer q)=true:=Eq.trans rfl rfl
theorem ah5 :jV h (.t n s l)=true:=Eq.trans rfl rfl
theorem aeT :jV h (.tp l)=true:=Eq.trans rfl rfl
theorem aeU {f:Fn} {l1:List AV}:jV h (.fn f l1 l2)=true:=Eq.trans rfl rfl
theorem Zl :jV h (.own id n)=bG h (.own id n):=Eq.trans rfl rfl
theorem Zm :jV h (.ptr id n)=bG h (.ptr id n):=Eq.trans rfl rfl
def stB (h:Hp) (a:AV) (l:List AV):Option Nat→Bool→Option Hp
 | some n,true=>if n=l.length then match a with
   | .ptr id off=>match h[id]? with
    | some (some (.blk cells))=>if off+l.length≤cells.length then some (h.set id (some (.blk (dY cells off l)))) else none
    | _=>none
   | .ap id n off=>match h[id]? with
    | some (some (.arr T s cells fz))=>if cells.length=n*s∧fz≤off∧off+l.length≤cells.length then some (h.set id (some (.arr T s (dY cells off l) fz))) else none
    | _=>none
   | _=>none
  else none
 | _,_=>none
def stA (P:Program) (h:Hp) (T:TypeId) (a:AV):Option (List AV)→Option Hp
 | some l=>stB h a l (szP P T) (l.all (jV h))
 | none=>none
theorem st :tH P h T a x=stA P h T a (cellsA h x):=by
 unfold tH stA
 cases cellsA h x with
 | none=>rfl
 | some l=>
  simp only [Option.bind_some]
  unfold stB
  cases szP P T with
  | none=>rw [if_neg (by simp)]
  | some n=>
   cases hl:l.all (jV h) with
   | false=>rw [if_neg (by simp)]
   | true=>
    by_cases e:n=l.length
    ·subst e;rw [if_pos ⟨rfl,rfl⟩];simp only [if_true];rfl
    ·rw [if_neg (fun q=>e (by injection q.1))];simp only [e,if_false]
def stP (h:Hp) (id off:Nat) (l:List AV):Option (Option Ob)→Option Hp
 | some (some (.blk cells))=>if off+l.length≤cells.length then some (h.set id (some (.blk (dY cells off l)))) else none
 | _=>none
def stQ (h:Hp) (id n off:Nat) (l:List AV):Option (Option Ob)→Option Hp
 | some (some (.arr T s cells fz))=>if cells.length=n*s∧fz≤off∧off+l.length≤cells.length then some (h.set id (some (.arr T s (dY cells off l) fz))) else none
 | _=>none
theorem Zn (hn:n=l.length):stB h (.ptr id off) l (some n) true=stP h id off l h[id]? :=by
 show (if n=l.length then _ else _)=_
 rw [if_pos hn];unfold stP;rfl
variable {m:Nat}
theorem aeV (hn:n=l.length):stB h (.ap id m off) l (some n) true=stQ h id m off l h[id]? :=by
 show (if n=l.length then _ else _)=_
 rw [if_pos hn];unfold stQ;rfl
theorem JO {cells:List AV} (hl:off+l.length≤cells.length):stP h id off l (some (some (.blk cells)))=some (h.set id (some (.blk (dY cells off l)))):=if_pos hl
theorem SC {cells:List AV} (h1:cells.length=n) (h2:fz≤off) (h3:off<n):stQ h id n off [x] (some (some (.arr T 1 cells fz)))=some (h.set id (some (.arr T 1 (cells.set off x) fz))):=if_pos ⟨by omega,h2,by simp;omega⟩
theorem JQ {cells:List AV} (h1:cells.length=n*s) (h2:fz≤off) (h3:off+l.length≤cells.length):stQ h id n off l (some (some (.arr T s cells fz)))=some (h.set id (some (.arr T s (dY cells off l) fz))):=if_pos ⟨h1,h2,h3⟩
theorem EN {o:Nat}:dY l o []=l:=Eq.trans rfl rfl
theorem BA {r:List AV} {o:Nat} :dY l o (a::r)=dY (l.set o a) (o+1) r:=Eq.trans rfl rfl
def sDz (P:Program) (all:List Oper) (h:Hp) (r:List Oper) (d:Tmp) (e:Ev) (al:List (Tmp × Value)) (K:Ev→List (Tmp × Value)→Prop):Option Value→Prop
 | some z=>dL P p₀ all h r ((d, .none)::e) (al++[(d,z)]) K
 | none=>False
theorem ah6 {d:Tmp}    :sD P p₀ all h r (some d) e al K T=sDz (p₀:=p₀) P all h r d e al K (ak P T):=by
 cases hz:ak P T with
 | none=>exact propext ⟨fun ⟨T',z',d',h1,h2,h3,h4⟩=>by injection h1 with h1;subst h1;rw [hz] at h3;(cases h3),fun q=>q.elim⟩
 | some z=>exact propext ⟨fun ⟨T',z',d',h1,h2,h3,h4⟩=>by injection h1 with h1;subst h1;injection h2 with h2;subst h2;rw [hz] at h3;injection h3 with h3;subst h3;exact h4,fun q=>⟨T,z,d,rfl,rfl,hz,q⟩⟩
theorem JR {d:Tmp}    {z:Value}:sDz (p₀:=p₀) P all h r d e al K (some z)=dL P p₀ all h r ((d, .none)::e) (al++[(d,z)]) K:=Eq.trans rfl rfl
def rsB (a:Option AV) (l:Option (List AV)):Option Nat→Option (List AV)
 | some 0=>none
 | _=>af7 a l
theorem EO {t:Tmp}  {r:List ResultVar}:nJ P h e (.cell t T::r)=rsB (pz P h T (aJ e t)) (nJ P h e r) (szP P T):=by
 simp only [nJ]
 cases hs:szP P T with
 | none=>simp only [reduceCtorEq,if_false];cases pz P h T (aJ e t)<;>cases nJ P h e r<;>rfl
 | some n=>cases n with
  | zero=>rfl
  | succ n=>rw [if_neg (by simp)];cases pz P h T (aJ e t)<;>cases nJ P h e r<;>rfl
theorem JU {a:Option AV} {l:Option (List AV)}  (hn:n≠0):rsB a l (some n)=af7 a l:=by
 cases n with
 | zero=>exact absurd rfl hn
 | succ n=>rfl
def bB (op:BinOp) (x y:Bool):Bool→Option Value
 | true=>oz op (x==y)
 | false=>none
theorem JV {x y:Bool}:pK P h op T (.v (.bool x)) (.v (.bool y))=bB op x y (qP P T):=by
 show (if qP P T then _ else _)=_
 cases qP P T<;>rfl
theorem SE {x y:Bool}:bB op x y true=oz op (x==y):=Eq.trans rfl rfl
def bN (op:BinOp) (b:Option Bool):Bool→Option Value
 | true=>b.bind (oz op)
 | false=>none
def nP:Bool→Option Bool
 | true=>some false
 | false=>none
theorem Zo :lF h (.ptr id off)=nP (bG h (.ptr id off)):=by
 show (if bG h (.ptr id off)=true then some false else none)=_
 cases bG h (.ptr id off)<;>rfl
theorem aeW :lF h (.ap id n off)=nP (bG h (.ap id n off)):=by
 show (if bG h (.ap id n off)=true then some false else none)=_
 cases bG h (.ap id n off)<;>rfl
theorem aeX :lF h (.tp l)=some false:=Eq.trans rfl rfl
theorem ah7 {p:Option Addr}:lF h (.v (.pointer p))=some p.isNone:=Eq.trans rfl rfl
theorem SG:nP true=some false:=Eq.trans rfl rfl
theorem Zp :pK P h op T x (.t 1 1 [])=some (.int .i64 0):=Eq.trans rfl rfl
theorem JW :pK P h op T x (.v (.pointer none))=bN op (lF h x) (iW P T):=by
 show (if iW P T then _ else _)=_
 cases iW P T<;>rfl
theorem JX :pK P h op T x (.v (.slice none 0 0))=bN op (Ee h x) ((aA P T).isSome):=by
 show (if (aA P T).isSome then _ else _)=_
 cases (aA P T).isSome<;>rfl
theorem aeY {m:List AV}:pK P h op T x (.g m)=eqG P op T (cellsOf x) (some m):=Eq.trans rfl rfl
theorem SH {cs:Array Value}:pK P h op T x (.v (.agg cs))=eqG P op T (cellsOf x) (some (cs.toList.map .v)):=Eq.trans rfl rfl
def eqH (op:BinOp) (l m:Option (List AV)):Option (List FK)→Option Value
 | some ks=>match l,m with
  | some l,some m=>(eqL ks l m).bind (oz op)
  | _,_=>none
 | none=>none
theorem aeZ {l m:Option (List AV)}:eqG P op T l m=eqH op l m (kW P T):=by
 unfold eqG
 cases kW P T<;>cases l<;>cases m<;>rfl
theorem JY {m:List AV} {ks:List FK}:eqH op (some l) (some m) (some ks)=(eqL ks l m).bind (oz op):=Eq.trans rfl rfl
theorem SI:eqL [] [] []=some true:=Eq.trans rfl rfl
theorem JZ {k:FK} {ks:List FK} {b:AV} {m:List AV}:eqL (k::ks) (a::l) (b::m)=afU (eqC k a b) (eqL ks l m):=Eq.trans rfl rfl
theorem ae0 {a b:Int}:eqC .i (.v (.int k a)) (.v (.int k b))=some (decide (a=b)):=if_pos rfl
theorem ae1 {a:Bool}:eqC .b (.v (.bool a)) (.v (.bool b))=some (a==b):=Eq.trans rfl rfl
theorem ae2 {a b:ByteArray}:eqC .s (.v (.string a)) (.v (.string b))=some (decide (a=b)):=Eq.trans rfl rfl
theorem EP {p q:Bool}:afU (some p) (some q)=some (p && q):=Eq.trans rfl rfl
theorem SK :bN op (some b) true=oz op b:=Eq.trans rfl rfl
def cvB (z:Int):Option IntKind→Bool→Option Value
 | some k,true=>some (.int k (k.wrap z))
 | _,_=>none
variable {u:TypeId}
theorem J3 {s:TypeId}  :iy P h s u (.v (.int k z))=cvB z (lD P u) (P.underlying s).isSome:=by
 show (if (P.underlying s).isSome then _ else _)=_
 cases (P.underlying s).isSome<;>cases lD P u<;>rfl
def cvS (b:ByteArray):Bool→Bool→Option Value
 | true,true=>some (.string b)
 | _,_=>none
theorem J4 {s:TypeId} {b:ByteArray}:iy P h s u (.v (.string b))=cvS b (dn P s) (dn P u):=by
 show (if _∧_ then _ else _)=_
 cases dn P s<;>cases dn P u<;>simp [cvS]
theorem J5 {b:ByteArray}:cvS b true true=some (.string b):=Eq.trans rfl rfl
def stD:Option IntKind→Bool→Option (List Int)→Option Value
 | some .u8,true,some ns=>some (.string (strOf ns))
 | _,_,_=>none
theorem SL {s:TypeId} {cells:List AV}:Gs P s u 1 cells=stD ((aA P s).bind (lD P)) (dn P u) (intsOf cells):=by
 unfold Gs
 cases h1:(aA P s).bind (lD P) with
 | none=>rfl
 | some k=>cases k<;>cases dn P u<;>cases intsOf cells<;>rfl
theorem J6 {ns:List Int}:stD (some .u8) true (some ns)=some (.string (strOf ns)):=Eq.trans rfl rfl
variable {sz:Nat}
theorem Zq {s:TypeId}  {cells:List AV} (hl:cells.length=n*sz):iy P h s u (.t n sz cells)=Gs P s u sz cells:=if_pos hl
def cvO (P:Program) (s u:TypeId) (n:Nat):Option (Option Ob)→Option Value
 | some (some (.arr _ sz cells _))=>if cells.length=n*sz then Gs P s u sz cells else none
 | _=>none
theorem J7 {s:TypeId} :iy P h s u (.own id n)=cvO P s u n h[id]? :=by
 unfold iy cvO;rfl
theorem SQ {s:TypeId}   {cells:List AV} (hl:cells.length=n):cvO P s u n (some (some (.arr T 1 cells fz)))=Gs P s u 1 cells:=if_pos (by omega)
theorem J8:intsOf []=some []:=Eq.trans rfl rfl
theorem J9 :cvB z (some k) true=some (.int k (k.wrap z)):=Eq.trans rfl rfl
def tkB (l:List AV):Option Bool→Option Nat→Option AV
 | some false,some _=>l[0]?
 | some true,some s=>if s≤l.length then some (.g (l.take s)) else none
 | _,_=>none
theorem tk :takeA P T l=tkB l (aF P T) (szP P T):=by
 unfold takeA tkB
 cases aF P T with
 | none=>rfl
 | some b=>cases b<;>cases szP P T<;>rfl
theorem SX :tkB l (some false) (some s)=l[0]? :=Eq.trans rfl rfl
theorem SY (h:s≤l.length):tkB l (some true) (some s)=some (.g (l.take s)):=if_pos h
def ixD (id n:Nat) (z:Int) (s:Nat):Bool→Option AV
 | true=>if 0≤z∧z<n then some (.ap id n (z.toNat*s)) else none
 | false=>none
def ixC (h:Hp) (a:AV) (z:Int):Option Nat→Option AV
 | some s=>match a with
  | .t n s' cells=>if s'=s∧0≤z∧z<n then some (.tp (cells.drop (z.toNat*s))) else none
  | .own id n=>ixD id n z s (bG h (.own id n))
  | _=>none
 | none=>none
def ixE (h:Hp) (a:AV) (z:Int) (n:Nat):Option Nat→Option AV
 | some s=>if 0≤z∧z<n then mP h a (z.toNat*s) else none
 | none=>none
def ixB (P:Program) (h:Hp) (a:AV) (z:Int):Option TypeId→Option (Nat × TypeId)→Option AV
 | some e,_=>ixC h a z (szP P e)
 | none,some (n,e)=>ixE h a z n (szP P e)
 | none,none=>none
theorem ix :Gn P h T a z=ixB P h a z (aA P T) (aN P T):=by
 unfold Gn ixB
 cases aA P T with
 | some e=>
  cases hs:szP P e with
  | none=>simp only [hs];rfl
  | some s=>
   simp only [hs,Option.bind_some]
   unfold ixC
   cases a<;>first | rfl | skip
   ·next id n=>
    unfold ixD
    cases hl:bG h (.own id n) with
    | true=>simp [hl]
    | false=>simp [hl]
 | none=>
  cases aN P T with
  | none=>rfl
  | some p=>obtain ⟨n,e⟩:=p;simp only;cases szP P e<;>rfl
theorem ae3 {e:TypeId} {o:Option (Nat × TypeId)}:ixB P h a z (some e) o=ixC h a z (szP P e):=Eq.trans rfl rfl
theorem ae4 {e:TypeId} :ixB P h a z none (some (n,e))=ixE h a z n (szP P e):=Eq.trans rfl rfl
theorem ae5 (h3:0≤z) (h4:z<n):ixC h (.t n s l) z (some s)=some (.tp (l.drop (z.toNat*s))):=if_pos ⟨rfl,h3,h4⟩
theorem S9 :ixC h (.own id n) z (some s)=ixD id n z s (bG h (.own id n)):=Eq.trans rfl rfl
theorem Ko (h3:0≤z) (h4:z<n):ixD id n z s true=some (.ap id n (z.toNat*s)):=if_pos ⟨h3,h4⟩
theorem Kq (h3:0≤z) (h4:z<n):ixE h a z n (some s)=mP h a (z.toNat*s):=if_pos ⟨h3,h4⟩
def shB (a:AV) (o:Nat):Bool→Option AV
 | true=>match a with
  | .ptr id off=>some (.ptr id (off+o))
  | .ap id n off=>some (.ap id n (off+o))
  | .tp cells=>some (.tp (cells.drop o))
  | _=>none
 | false=>none
theorem sh {o:Nat}:mP h a o=shB a o (bG h a):=by
 unfold mP shB
 cases bG h a<;>rfl
theorem Zr {o:Nat}:shB (.ptr id off) o true=some (.ptr id (off+o)):=Eq.trans rfl rfl
theorem ae6 {o:Nat}:shB (.ap id n off) o true=some (.ap id n (off+o)):=Eq.trans rfl rfl
theorem ae7 {o:Nat}:shB (.tp l) o true=some (.tp (l.drop o)):=Eq.trans rfl rfl
theorem Tc :bG h (.tp l)=true:=Eq.trans rfl rfl
def lenD (n:Nat):Bool→Option Nat
 | true=>some n
 | false=>none
def V4 (h:Hp) (x:AV):Option TypeId→Bool→Option Nat
 | o,b=>match x with
  | .v (.string s)=>if b then some s.size else none
  | .t n _ _=>o.map fun _=>n
  | .own id n=>if bG h (.own id n) then o.map fun _=>n else none
  | .v (.slice _ n _)=>o.map fun _=>n
  | _=>none
def mZ (P:Program) (h:Hp) (T:TypeId) (x:AV):Option (Nat × TypeId)→Option Nat
 | some (n,_)=>some n
 | none=>V4 h x (aA P T) (dn P T)
theorem len :DI P h T x=mZ P h T x (aN P T):=by
 unfold DI mZ
 cases aN P T<;>rfl
theorem Td {e:TypeId}  :mZ P h T x (some (n,e))=some n:=Eq.trans rfl rfl
theorem Zt :mZ P h T x none=V4 h x (aA P T) (dn P T):=Eq.trans rfl rfl
theorem ae8 {e:TypeId}   :V4 h (.t n s l) (some e) b=some n:=Eq.trans rfl rfl
theorem len_nil {e:TypeId} :V4 h (.v (.slice none 0 0)) (some e) b=some 0:=Eq.trans rfl rfl
theorem Ti {e:TypeId}  :V4 h (.own id n) (some e) b=lenD n (bG h (.own id n)):=by
 show (if bG h (.own id n) then _ else _)=_
 cases bG h (.own id n)<;>rfl
theorem ER :lenD n true=some n:=Eq.trans rfl rfl
theorem Tj {o:Option TypeId} {s:ByteArray}:V4 h (.v (.string s)) o true=some s.size:=Eq.trans rfl rfl
theorem Kr :stA P h T a (some l)=stB h a l (szP P T) (l.all (jV h)):=Eq.trans rfl rfl
def apE (h:Hp) (T by_ sz:Nat) (s:AV) (mn:Nat × List AV):Option (AV × Hp):=match s with
 | .own id n=>match h[id]? with
  | some (some (.arr T' s' cells fz))=>if T'=T∧s'=sz∧cells.length=n*sz∧n+mn.1≤maxLen∧(n+mn.1)*by_≤140737488355328 then some (.own id (n+mn.1),h.set id (some (.arr T sz (cells++mn.2) fz))) else none
  | _=>none
 | .v (.slice none 0 0)=>if mn.1≤maxLen∧mn.1*by_≤140737488355328 then some (.own h.length mn.1,h++[some (.arr T sz mn.2 0)]) else none
 | _=>none
def apB (h:Hp) (T:TypeId) (s:AV):Option Nat→Option Nat→Option Value→Option (Nat × List AV)→Option (AV × Hp)
 | some sz,some by_,some z,some mn=>if z.cells.size=sz∧0<sz then apE h T by_ sz s mn else none
 | _,_,_,_=>none
def apA (P:Program) (h:Hp) (tx:TypeId) (s x:AV):Option TypeId→Option (AV × Hp)
 | some T=>apB h T s (szP P T) (aK P T) (ak P T) ((szP P T).bind fun sz=>mW P h tx sz x)
 | none=>none
variable {tx:TypeId}
theorem ap {t:TypeId} {s:AV}:lZ P h t tx s x=apA P h tx s x (aA P t):=by
 unfold lZ apA
 cases aA P t with
 | none=>rfl
 | some T=>
  simp only [Option.bind_some]
  cases szP P T with
  | none=>rfl
  | some sz=>
   simp only [Option.bind_some]
   cases aK P T with
   | none=>rfl
   | some by_=>
    simp only [Option.bind_some]
    cases ak P T with
    | none=>rfl
    | some z=>
     simp only [Option.bind_some]
     cases mW P h tx sz x with
     | none=>rfl
     | some mn=>
      simp only [Option.bind_some,apB,apE]
      cases s<;>rfl
theorem Kt {s:AV}:apA P h tx s x (some T)=apB h T s (szP P T) (aK P T) (ak P T) ((szP P T).bind fun sz=>mW P h tx sz x):=Eq.trans rfl rfl
variable {by_:Nat}
theorem Tm {s:AV}  {z:Value} {mn:Nat × List AV} (h1:z.cells.size=sz) (h2:0<sz):apB h T s (some sz) (some by_) (some z) (some mn)=apE h T by_ sz s mn:=if_pos ⟨h1,h2⟩
def apF (h:Hp) (T by_ sz id n:Nat) (m:Nat) (l:List AV):Option (Option Ob)→Option (AV × Hp)
 | some (some (.arr T' s' cells fz))=>if T'=T∧s'=sz∧cells.length=n*sz∧n+m≤maxLen∧(n+m)*by_≤140737488355328 then some (.own id (n+m),h.set id (some (.arr T sz (cells++l) fz))) else none
 | _=>none
theorem Tn {T:Nat} :apE h T by_ sz (AV.own id n) (m,l)=apF h T by_ sz id n m l h[id]? :=by
 unfold apE apF;rfl
theorem Ku {T:Nat} {cells:List AV} (h1:cells.length=n*sz) (h2:n+m≤1152921504606846975) (h3:(n+m)*by_≤140737488355328):apF h T by_ sz id n m l (some (some (.arr T sz cells fz)))=some (.own id (n+m),h.set id (some (.arr T sz (cells++l) fz))):=if_pos ⟨rfl,rfl,h1,Nat.le_trans h2 (by decide),h3⟩
theorem Tq {T:Nat} {cells:List AV} (h1:cells.length=n) (h2:n+m≤1152921504606846975) (h3:(n+m)*by_≤140737488355328):apF h T by_ 1 id n m l (some (some (.arr T 1 cells fz)))=some (.own id (n+m),h.set id (some (.arr T 1 (cells++l) fz))):=if_pos ⟨rfl,rfl,by omega,Nat.le_trans h2 (by decide),h3⟩
theorem Tt {T:Nat}  (h2:m≤1152921504606846975) (h3:m*by_≤140737488355328):apE h T by_ sz (.v (.slice none 0 0)) (m,l)=some (AV.own h.length m,h++[some (.arr T sz l 0)]):=if_pos ⟨Nat.le_trans h2 (by decide),h3⟩
def cpE (h:Hp) (id n sz m:Nat) (l:List AV):Option (Option Ob)→Option (AV × Hp)
 | some (some (.arr T' s' cells fz))=>if s'=sz∧fz=0∧cells.length=n*sz∧m≤n then some (.v (.int .i64 m),h.set id (some (.arr T' s' (dY cells 0 l) 0))) else none
 | _=>none
def cpB (h:Hp):AV→Option Nat→Option (Nat × List AV)→Option (AV × Hp)
 | .own id n,some sz,some mn=>cpE h id n sz mn.1 mn.2 h[id]?
 | _,_,_=>none
def cpA (P:Program) (h:Hp) (tx:TypeId) (d x:AV):Option TypeId→Option (AV × Hp)
 | some T=>cpB h d (szP P T) ((szP P T).bind fun sz=>mW P h tx sz x)
 | none=>none
theorem cp {t:TypeId} {d:AV}:yh P h t tx d x=cpA P h tx d x (aA P t):=by
 unfold yh cpA
 cases aA P t with
 | none=>rfl
 | some T=>
  simp only [Option.bind_some]
  cases szP P T with
  | none=>cases d<;>rfl
  | some sz=>
   simp only [Option.bind_some]
   cases mW P h tx sz x with
   | none=>cases d<;>rfl
   | some mn=>
    simp only [Option.bind_some]
    cases d<;>rfl
theorem Kv {d:AV}:cpA P h tx d x (some T)=cpB h d (szP P T) ((szP P T).bind fun sz=>mW P h tx sz x):=Eq.trans rfl rfl
theorem Tv :cpB h (AV.own id n) (some sz) (some (m,l))=cpE h id n sz m l h[id]? :=Eq.trans rfl rfl
theorem Kw {T:Nat} {cells:List AV} (h1:cells.length=n*sz) (h2:m≤n):cpE h id n sz m l (some (some (.arr T sz cells 0)))=some (AV.v (.int .i64 m),h.set id (some (.arr T sz (dY cells 0 l) 0))):=if_pos ⟨rfl,rfl,h1,h2⟩
theorem Tz {T:Nat} {cells:List AV} (h1:cells.length=n) (h2:m≤n):cpE h id n 1 m l (some (some (.arr T 1 cells 0)))=some (AV.v (.int .i64 m),h.set id (some (.arr T 1 (dY cells 0 l) 0))):=if_pos ⟨rfl,rfl,by omega,h2⟩
def atE (sz m:Nat) (l:List AV):AV→Option AV
 | .e0=>some (.t m sz l)
 | .v (.slice none 0 0)=>some (.t m sz l)
 | _=>none
def atB (s:AV):Option Nat→Option Nat→Option Value→Option (Nat × List AV)→Option AV
 | some sz,some by_,some z,some mn=>if z.cells.size=sz∧0<sz∧mn.1≤maxLen∧mn.1*by_≤140737488355328 then atE sz mn.1 mn.2 s else none
 | _,_,_,_=>none
def atA (P:Program) (h:Hp) (tx:TypeId) (s x:AV):Option TypeId→Option AV
 | some T=>atB s (szP P T) (aK P T) (ak P T) ((szP P T).bind fun sz=>mW P h tx sz x)
 | none=>none
theorem at_ {t:TypeId} {s:AV}:I5 P h t tx s x=atA P h tx s x (aA P t):=by
 unfold I5 atA
 cases aA P t with
 | none=>rfl
 | some T=>
  simp only [Option.bind_some]
  cases szP P T with
  | none=>rfl
  | some sz=>
   simp only [Option.bind_some]
   cases aK P T with
   | none=>rfl
   | some by_=>
    simp only [Option.bind_some]
    cases ak P T with
    | none=>rfl
    | some z=>
     simp only [Option.bind_some]
     cases mW P h tx sz x with
     | none=>rfl
     | some mn=>
      simp only [Option.bind_some,atB]
      cases s<;>rfl
theorem Ky {s:AV}:atA P h tx s x (some T)=atB s (szP P T) (aK P T) (ak P T) ((szP P T).bind fun sz=>mW P h tx sz x):=Eq.trans rfl rfl
theorem Kz {s:AV}  {z:Value}  (h1:z.cells.size=sz) (h2:0<sz) (h3:m≤1152921504606846975) (h4:m*by_≤140737488355328):atB s (some sz) (some by_) (some z) (some (m,l))=atE sz m l s:=if_pos ⟨h1,h2,Nat.le_trans h3 (by decide),h4⟩
theorem Zu :atE sz m l .e0=some (.t m sz l):=Eq.trans rfl rfl
theorem TG :atE sz m l (.v (.slice none 0 0))=some (.t m sz l):=Eq.trans rfl rfl
theorem ae9 :cellsA h .e0=some [.e0]:=Eq.trans rfl rfl
theorem afa :jV h .e0=true:=Eq.trans rfl rfl
theorem Zv :eH h .e0=some (.e0,h):=Eq.trans rfl rfl
theorem Zw :dX h .e0=some (.e0,h):=Eq.trans rfl rfl
theorem Zx :dS h .e0=some (.e0,h):=Eq.trans rfl rfl
def srB (h:Hp) (s:Nat) (x:AV):Bool→Bool→Option (Nat × List AV)
 | e,b=>match x with
  | .t m s' cells=>if s'=s∧e=true∧cells.all (jV h)=true then some (m,cells) else none
  | .own id m=>match h[id]? with
   | some (some (.arr _ s' cells _))=>if s'=s∧cells.length=m*s∧e=true∧cells.all (jV h)=true then some (m,cells) else none
   | _=>none
  | .v (.string c)=>if s=1∧b=true then some (c.size,c.data.toList.map fun c=> .v (.int .u8 c.toNat)) else none
  | .v (.slice none 0 0)=>if e=true then some (0,[]) else none
  | _=>none
theorem sr :mW P h tx s x=srB h s x (aA P tx).isSome (dn P tx):=by
 unfold mW srB;rfl
def srC (m:Nat) (l:List AV):Bool→Option (Nat × List AV)
 | true=>some (m,l)
 | false=>none
theorem ah8 :srB h s (.t m s l) true b=srC m l (l.all (jV h)):=by
 simp only [srB]
 cases hl:l.all (jV h)<;>simp [srC]
theorem KA :srC m l true=some (m,l):=Eq.trans rfl rfl
def srD (h:Hp) (s m:Nat):Option (Option Ob)→Option (Nat × List AV)
 | some (some (.arr _ s' cells _))=>if s'=s∧cells.length=m*s then srC m cells (cells.all (jV h)) else none
 | _=>none
theorem Zy :srB h s (.own id m) true b=srD h s m h[id]? :=by
 simp only [srB,srD]
 split
 ·next T s' cells fz _=>
  cases hl:cells.all (jV h)<;>simp [srC]
 ·rfl
theorem KC (hl:l.length=m*s):srD h s m (some (some (.arr T s l fz)))=srC m l (l.all (jV h)):=if_pos ⟨rfl,hl⟩
theorem TQ (hl:l.length=m):srD h 1 m (some (some (.arr T 1 l fz)))=srC m l (l.all (jV h)):=if_pos ⟨rfl,by omega⟩
theorem Zz :srB h s (.v (.slice none 0 0)) true b=some (0,[]):=Eq.trans rfl rfl
theorem ZA {e:Bool} {c:ByteArray}:srB h 1 (.v (.string c)) e true=some (c.size,c.data.toList.map fun c=> .v (.int .u8 c.toNat)):=by
 unfold srB;simp
def clB (h:Hp) (id n:Nat):Option (Option Ob)→Option (AV × Hp)
 | some (some (.arr T s cells fz))=>if cells.length=n*s then some (.t n s cells,h.set id (some (.arr T s cells cells.length))) else none
 | _=>none
theorem KD (hl:l.length=n*s):clB h id n (some (some (.arr T s l fz)))=some (.t n s l,h.set id (some (.arr T s l l.length))):=if_pos hl
theorem TT (hl:l.length=n):clB h id n (some (some (.arr T 1 l fz)))=some (.t n 1 l,h.set id (some (.arr T 1 l l.length))):=if_pos (by omega)
theorem afb {x:Value}:eH h (.v x)=some ((.v x),h):=Eq.trans rfl rfl
theorem afc :eH h (.t n s l)=some ((.t n s l),h):=Eq.trans rfl rfl
theorem ZB :eH h (.tp l)=some ((.tp l),h):=Eq.trans rfl rfl
theorem ZC {f:Fn} :eH h (.fn f l l2)=some ((.fn f l l2),h):=Eq.trans rfl rfl
theorem KF :eH h .none=some (.none,h):=Eq.trans rfl rfl
theorem TU :eH h (.ptr id off)=some ((.ptr id off),h):=Eq.trans rfl rfl
theorem TV :eH h (.own id n)=clB h id n h[id]? :=by
 unfold clB;first | rfl | (show eH h (.own id n)=_;rfl)
theorem afd {x:Value}:dX h (.v x)=some ((.v x),h):=Eq.trans rfl rfl
theorem afe :dX h (.t n s l)=some ((.t n s l),h):=Eq.trans rfl rfl
theorem ZE :dX h (.tp l)=some ((.tp l),h):=Eq.trans rfl rfl
theorem ZF {f:Fn} :dX h (.fn f l l2)=some ((.fn f l l2),h):=Eq.trans rfl rfl
theorem KG :dX h .none=some (.none,h):=Eq.trans rfl rfl
theorem TW :dX h (.ptr id off)=some ((.ptr id off),h):=Eq.trans rfl rfl
theorem TY :dX h (.own id n)=clB h id n h[id]? :=by
 unfold clB;first | rfl | (show eH h (.own id n)=_;rfl)
theorem aff {x:Value}:dS h (.v x)=some ((.v x),h):=Eq.trans rfl rfl
theorem afg :dS h (.t n s l)=some ((.t n s l),h):=Eq.trans rfl rfl
theorem ZG :dS h (.tp l)=some ((.tp l),h):=Eq.trans rfl rfl
theorem ZH {f:Fn} :dS h (.fn f l l2)=some ((.fn f l l2),h):=Eq.trans rfl rfl
theorem KH :dS h .none=some (.none,h):=Eq.trans rfl rfl
theorem Ua :dS h (.ptr id off)=some ((.ptr id off),h):=Eq.trans rfl rfl
theorem Ub :dS h (.own id n)=clB h id n h[id]? :=by
 unfold clB;first | rfl | (show eH h (.own id n)=_;rfl)
theorem afh :dX h (.g l)=(closeWith eH h l).map fun p=>(.g p.1,p.2):=Eq.trans rfl rfl
theorem afi :dS h (.g l)=(closeWith eH h l).map fun p=>(.g p.1,p.2):=Eq.trans rfl rfl
theorem Uc :dS h (.tup l)=(closeWith dX h l).map fun p=>(.tup p.1,p.2):=Eq.trans rfl rfl
def cwC (a:AV):Option (List AV × Hp)→Option (List AV × Hp)
 | some (r,h)=>some (a::r,h)
 | none=>none
def cwB (f:Hp→AV→Option (AV × Hp)) (r:List AV):Option (AV × Hp)→Option (List AV × Hp)
 | some (a,h)=>cwC a (closeWith f h r)
 | none=>none
variable {f:Hp→AV→Option (AV × Hp)}
theorem ZI :closeWith f h []=some ([],h):=Eq.trans rfl rfl
theorem Ud {r:List AV}:closeWith f h (a::r)=cwB f r (f h a):=by
 simp only [closeWith]
 cases f h a with
 | none=>rfl
 | some p=>obtain ⟨a',h1⟩:=p;simp only [cwB,cwC];cases closeWith f h1 r<;>rfl
theorem KI {r:List AV}:cwB f r (some (a,h))=cwC a (closeWith f h r):=Eq.trans rfl rfl
theorem KJ {r:List AV}:cwC a (some (r,h))=some (a::r,h):=Eq.trans rfl rfl
end
end
section
open Go.RowKit
section
variable {P:Program} {p₀:AV→Hp→Prop}
def ltB (e n m:Nat):Option Nat→Option Value→Option (List AV)→Option (TypeId × Nat × List AV)
 | some s,some _,some L=>if m=n∧0<s∧n*s≤16777216 then some (e,s,L) else none
 | _,_,_=>none
def ltA (P:Program) (h:Hp) (n:Nat) (parts:List (Nat × AV)):Option TypeId→Option (TypeId × Nat × List AV)
 | some e=>ltB e n parts.length (szP P e) (ak P e) ((szP P e).bind fun s=>rowA h s 0 parts)
 | none=>none
variable {T:TypeId}{h:Hp}{n:Nat}{parts:List (Nat × AV)}
theorem lt :yU P h T n parts=ltA P h n parts (aA P T):=by
 unfold yU ltA
 cases aA P T with
 | none=>rfl
 | some e=>
  simp only [Option.bind_some]
  cases szP P e with
  | none=>rfl
  | some s=>
   simp only [Option.bind_some]
   cases ak P e with
   | none=>rfl
   | some z=>
    simp only [Option.bind_some]
    cases rowA h s 0 parts<;>rfl
variable {e:TypeId}
theorem KL :ltA P h n parts (some e)=ltB e n parts.length (szP P e) (ak P e) ((szP P e).bind fun s=>rowA h s 0 parts):=Eq.trans rfl rfl
variable {s:Nat}{z:Value}
theorem KN {e m:Nat}  {L:List AV} (h1:m=n) (h2:0<s) (h3:n*s≤16777216):ltB e n m (some s) (some z) (some L)=some (e,s,L):=if_pos ⟨h1,h2,h3⟩
def rwB (j k s:Nat):Option (List AV)→Option (List AV)→Option (List AV)
 | some l,some L=>if j=k∧l.length=s then some (l++L) else none
 | _,_=>none
variable {k:Nat}
theorem ZJ :rowA h s k []=some []:=Eq.trans rfl rfl
variable {a:AV}{r:List (Nat × AV)}
theorem Ue {j:Nat}  :rowA h s k ((j,a)::r)=rwB j k s (cellsA h a) (rowA h s (k+1) r):=by
 simp only [rowA]
 cases cellsA h a<;>cases rowA h s (k+1) r<;>rfl
variable {l:List AV}
theorem KO {j:Nat} {L:List AV} (h1:j=k) (h2:l.length=s):rwB j k s (some l) (some L)=some (l++L):=if_pos ⟨h1,h2⟩
def mkB (e:Nat) (zl zc:Int):Option Nat→Option Value→Option Nat→Option (TypeId × Nat × List AV)
 | some s,some z,some by_=>if 0<s∧0≤zl∧zl≤zc∧zc≤9223372036854775807∧(by_:Int)*zc≤140737488355328 then some (e,s,pJ z (zl.toNat*s)) else none
 | _,_,_=>none
def mkA (P:Program) (zl zc:Int):Option TypeId→Option (TypeId × Nat × List AV)
 | some e=>mkB e zl zc (szP P e) (ak P e) (aK P e)
 | none=>none
variable {zc zl:Int}
theorem mk :uK P T zl zc=mkA P zl zc (aA P T):=by
 unfold uK mkA
 cases aA P T with
 | none=>rfl
 | some e=>
  simp only [Option.bind_some]
  cases szP P e with
  | none=>rfl
  | some s=>
   simp only [Option.bind_some]
   cases ak P e with
   | none=>rfl
   | some z=>
    simp only [Option.bind_some]
    cases aK P e<;>rfl
theorem KP :mkA P zl zc (some e)=mkB e zl zc (szP P e) (ak P e) (aK P e):=Eq.trans rfl rfl
theorem KQ {e:Nat}  {by_:Nat}  (h1:0<s) (h2:0≤zl) (h3:zl≤zc) (h4:zc≤9223372036854775807) (h5:(by_:Int)*zc≤140737488355328):mkB e zl zc (some s) (some z) (some by_)=some (e,s,pJ z (zl.toNat*s)):=if_pos ⟨h1,h2,h3,h4,h5⟩
theorem KR {k:IntKind} :pJ (.int k 0) n=tab n (fun _=> .v (.int k 0)):=by
 show (if (1:Nat)=1 then List.replicate n (AV.v (.int k 0)) else _)=_
 rw [if_pos rfl]
 apply List.ext_getElem?
 intro i
 by_cases hi:i<n
 ·rw [iM hi];simp [hi]
 ·simp [tab,hi]
theorem ES :pJ (.bool false) n=tab n (fun _=> .v (.bool false)):=by
 show (if (1:Nat)=1 then List.replicate n (AV.v (.bool false)) else _)=_
 rw [if_pos rfl]
 apply List.ext_getElem?
 intro i
 by_cases hi:i<n
 ·rw [iM hi];simp [hi]
 ·simp [tab,hi]
theorem KT :pJ (.slice none 0 0) n=tab n (fun _=> .v (.slice none 0 0)):=by
 show (if (1:Nat)=1 then List.replicate n (AV.v (.slice none 0 0)) else _)=_
 rw [if_pos rfl]
 apply List.ext_getElem?
 intro i
 by_cases hi:i<n
 ·rw [iM hi];simp [hi]
 ·simp [tab,hi]
def fdB (h:Hp) (a:AV) (o:Nat):Option Nat→Option AV
 | some s=>if s=0 then none else mP h a o
 | none=>none
def fdA (P:Program) (h:Hp) (a:AV):Option (Nat × TypeId)→Option AV
 | some (o,T)=>fdB h a o (szP P T)
 | none=>none
theorem fd {S:TypeId}  {f:Nat}:tJ P h S a f=fdA P h a (aC P S f):=by
 unfold tJ fdA
 cases aC P S f with
 | none=>rfl
 | some ot=>
  obtain ⟨o,T⟩:=ot
  simp only [Option.bind_some]
  cases hs:szP P T with
  | none=>simp only [reduceCtorEq,if_false,Option.bind_none];rfl
  | some s=>
   simp only [Option.bind_some,Option.some.injEq,fdB]
variable {o:Nat}
theorem KU :fdA P h a (some (o,T))=fdB h a o (szP P T):=Eq.trans rfl rfl
theorem KW (hs:s≠0):fdB h a o (some s)=mP h a o:=if_neg hs
def flB (P:Program) (T:TypeId) (o:Nat):Option (List AV)→Option AV
 | some l=>takeA P T (l.drop o)
 | none=>none
def flA (P:Program) (x:AV):Option (Nat × TypeId)→Option AV
 | some (o,T)=>flB P T o (cellsOf x)
 | none=>none
theorem fl {S:TypeId} {x:AV} {f:Nat}:tN P S x f=flA P x (aC P S f):=by
 unfold tN flA
 cases aC P S f with
 | none=>rfl
 | some ot=>
  obtain ⟨o,T⟩:=ot
  simp only [Option.bind_some]
  cases cellsOf x<;>rfl
theorem KX {x:AV}  :flA P x (some (o,T))=flB P T o (cellsOf x):=Eq.trans rfl rfl
theorem KY :flB P T o (some l)=takeA P T (l.drop o):=Eq.trans rfl rfl
theorem ah9 :cellsOf (.g l)=some l:=Eq.trans rfl rfl
theorem ZK {l:List Value}:cellsOf (.v (.agg l.toArray))=some (l.map .v):=Eq.trans rfl rfl
theorem ZL {l:List Value}:cellsA h (.v (.agg l.toArray))=some (l.map .v):=Eq.trans rfl rfl
def fsP (P:Program) (T:TypeId):Option (List (Nat × Nat)):=match P.underlying T with
 | some (.struct fs)=>if fs.toList.all (fun f=>(P.info? f.type).isSome) then some (fs.toList.map fun f=>(f.offset,((P.info? f.type).map (·.size)).getD 0)) else none
 | some (.array n e)=>if n≤64 then (szP P e).map fun s=>(List.range n).map fun i=>(i*s,s) else none
 | _=>none
def bdA (h:Hp) (parts:List (Nat × AV)):Option Value→Option (List (Nat × Nat))→Option (List AV)→Option (List AV)
 | some z,some l,_=>lW h (fun i=>l[i]?) (fC z) parts
 | _,_,o=>o
theorem bd :mQ P h T parts=bdA h parts (ak P T) (fsP P T) (mQ P h T parts):=by
 cases hz:ak P T with
 | none=>rfl
 | some z=>
  cases hf:fsP P T with
  | none=>rfl
  | some l=>
   show _=lW h (fun i=>l[i]?) (fC z) parts
   unfold mQ
   have:zo P T=some (fun i=>l[i]?):=by
    unfold fsP at hf
    unfold zo
    split at hf
    ·next fs hu=>
     rw [hu]
     simp only
     split at hf
     ·next hall=>
      rw [if_pos hall]
      injection hf with hf
      subst hf
      congr 1
      funext i
      rw [List.getElem?_map,Array.getElem?_toList]
     ·cases hf
    ·next n e hu=>
     rw [hu]
     simp only
     split at hf
     ·cases hs:szP P e with
      | none=>rw [hs] at hf;cases hf
      | some s=>rw [hs] at hf;injection hf with hf;subst hf;rfl
     ·cases hf
    ·cases hf
   rw [hz,this]
def fiB (h:Hp) (pl:List (Nat × Nat)) (cells:List AV) (r:List (Nat × AV)):Option (Nat × Nat)→Option (List AV)→Option (List AV)
 | some (o,n),some l=>if l.length=n∧o+n≤cells.length then lW h (fun i=>pl[i]?) (dY cells o l) r else none
 | _,_=>none
def bdX (P:Program) (h:Hp) (T:TypeId) (parts:List (Nat × AV)):Option Value→Option (List (Nat × Nat))→Option (List AV)
 | some z,some l=>lW h (fun i=>l[i]?) (fC z) parts
 | _,_=>mQ P h T parts
theorem bdx {K:AV→Prop}:sG K (mQ P h T parts)=sG K (bdX P h T parts (ak P T) (fsP P T)):=by
 congr 1
 cases hz:ak P T with
 | none=>rfl
 | some z=>
  cases hf:fsP P T with
  | none=>rfl
  | some l=>
   rw [bd,hz,hf];rfl
theorem KZ {l:List (Nat × Nat)}:bdX P h T parts (some z) (some l)=lW h (fun i=>l[i]?) (fC z) parts:=Eq.trans rfl rfl
theorem ZM {pl:Nat→Option (Nat × Nat)} {cells:List AV}:lW h pl cells []=some cells:=Eq.trans rfl rfl
theorem Uf {pl:List (Nat × Nat)} {cells:List AV} {i:Nat}  :lW h (fun i=>pl[i]?) cells ((i,a)::r)=fiB h pl cells r pl[i]? (cellsA h a):=by
 simp only [lW]
 cases pl[i]? with
 | none=>rfl
 | some on=>obtain ⟨o,n⟩:=on;cases cellsA h a<;>rfl
theorem La {pl:List (Nat × Nat)} {cells:List AV}   (h1:l.length=n) (h2:o+n≤cells.length):fiB h pl cells r (some (o,n)) (some l)=lW h (fun i=>pl[i]?) (dY cells o l) r:=if_pos ⟨h1,h2⟩
theorem Ug {d:Nat}:aQ none d=some d:=Eq.trans rfl rfl
theorem Uh {k:IntKind} {z:Int} {d:Nat} (hz:0≤z):aQ (some (.v (.int k z))) d=some z.toNat:=if_pos hz
def slT (n s:Nat) (cells:List AV):Option Nat→Option Nat→Option Nat→Option AV
 | some a,some b,some s'=>if s'=s∧a≤b∧b≤n then some (.t (b - a) s ((cells.take (b*s)).drop (a*s))) else none
 | _,_,_=>none
def hx (h:Hp):Option AV→Option (AV × Hp)
 | some a=>some (a,h)
 | none=>none
theorem Ui :hx h (some a)=some (a,h):=Eq.trans rfl rfl
def szE (P:Program):Option TypeId→Option Nat
 | some e=>szP P e
 | none=>none
theorem Lc :szE P (some e)=szP P e:=Eq.trans rfl rfl
variable {hi:Option AV}
theorem aga {cells:List AV} {lo:Option AV}:ig P h T (.t n s cells) lo hi=hx h (slT n s cells (aQ lo 0) (aQ hi n) (szE P (aA P T))):=by
 simp only [ig]
 have:(aA P T).bind (szP P)=szE P (aA P T):=by cases aA P T<;>rfl
 rw [this]
 cases aQ lo 0 with
 | none=>rfl
 | some a=>
  cases aQ hi n with
  | none=>rfl
  | some b=>
   simp only [slT]
   cases szE P (aA P T) with
   | none=>simp;rfl
   | some s'=>
    simp only [Option.some.injEq]
    split<;>rfl
theorem aia {cells:List AV} {lo:Option AV}:sliceT P h T (.t n s cells) lo hi=slT n s cells (aQ lo 0) (aQ hi n) (szE P (aA P T)):=by
 show (ig P [] T (.t n s cells) lo hi).map (·.1)=_
 rw [aga]
 cases slT n s cells (aQ lo 0) (aQ hi n) (szE P (aA P T))<;>rfl
def slO (n:Nat):Option Nat→Option Nat→Option Nat→Option (Option Ob)→Option AV
 | some a,some b,some s',some (some (.arr _ s cells fz))=>if s'=s∧cells.length=n*s∧a≤b∧b≤n∧b*s≤fz then some (.t (b - a) s ((cells.take (b*s)).drop (a*s))) else none
 | _,_,_,_=>none
theorem aib {id:Nat} {lo:Option AV}:sliceT P h T (.own id n) lo hi=slO n (aQ lo 0) (aQ hi n) (szE P (aA P T)) h[id]? :=by
 simp only [sliceT]
 have:(aA P T).bind (szP P)=szE P (aA P T):=by cases aA P T<;>rfl
 rw [this]
 cases h[id]? with
 | none=>unfold slO;split<;>first | rfl | simp_all
 | some o=>
  cases o with
  | none=>unfold slO;split<;>first | rfl | simp_all
  | some o=>
   cases o with
   | arr T' s cells fz=>
    cases aQ lo 0 with
    | none=>rfl
    | some a=>
     cases aQ hi n with
     | none=>rfl
     | some b=>
      simp only [slO]
      cases szE P (aA P T) with
      | none=>simp
      | some s'=>simp only [Option.some.injEq]
   | _=>unfold slO;split<;>first | rfl | simp_all
variable {b:Nat}
theorem Ld {a fz:Nat}  {cells:List AV} (h0:cells.length=n*s) (h1:a≤b) (h2:b≤n) (h3:b*s≤fz):slO n (some a) (some b) (some s) (some (some (.arr T s cells fz)))=some (.t (b - a) s ((cells.take (b*s)).drop (a*s))):=if_pos ⟨rfl,h0,h1,h2,h3⟩
theorem Le {a:Nat} {cells:List AV} (h1:a≤b) (h2:b≤n):slT n s cells (some a) (some b) (some s)=some (.t (b - a) s ((cells.take (b*s)).drop (a*s))):=if_pos ⟨rfl,h1,h2⟩
def slS (x:ByteArray):Option Nat→Option Nat→Bool→Option AV
 | some a,some b,true=>if a≤b∧b≤x.size then some (.v (.string (x.extract a b))) else none
 | _,_,_=>none
variable {x:ByteArray}
theorem agb {lo:Option AV}:ig P h T (.v (.string x)) lo hi=hx h (slS x (aQ lo 0) (aQ hi x.size) (dn P T)):=by
 simp only [ig]
 cases dn P T with
 | false=>cases aQ lo 0<;>cases aQ hi x.size<;>rfl
 | true=>
  cases aQ lo 0 with
  | none=>rfl
  | some a=>
   cases aQ hi x.size with
   | none=>rfl
   | some b=>
    simp only [slS,if_true]
    split<;>rfl
theorem aic {lo:Option AV}:sliceT P h T (.v (.string x)) lo hi=slS x (aQ lo 0) (aQ hi x.size) (dn P T):=by
 show (ig P [] T (.v (.string x)) lo hi).map (·.1)=_
 rw [agb]
 cases slS x (aQ lo 0) (aQ hi x.size) (dn P T)<;>rfl
theorem Lh {a:Nat} (h1:a≤b) (h2:b≤x.size):slS x (some a) (some b) true=some (.v (.string (x.extract a b))):=if_pos ⟨h1,h2⟩
variable {f:Nat→AV}
theorem Lj (hk:k≤n):(tab n f).take k=tab k f:=by
 apply List.ext_getElem?
 intro i
 rw [List.getElem?_take]
 by_cases hi:i<k
 ·rw [if_pos hi,iM (by omega),iM hi]
 ·rw [if_neg hi];simp [tab,hi]
theorem Ll :(tab n f).drop k=tab (n - k) (fun i=>f (i+k)):=by
 apply List.ext_getElem?
 intro i
 rw [List.getElem?_drop]
 by_cases hi:i<n - k
 ·rw [iM (by omega),iM hi,Nat.add_comm]
 ·simp [tab,hi,show ¬ k+i<n by omega]
theorem Uj :tab 0 f=[]:=Eq.trans rfl rfl
theorem Uk {g:AV→Bool} (h: ∀ i,i<n→g (f i)=true):(tab n f).all g=true:=by
 rw [List.all_eq_true]
 intro a ha
 obtain ⟨i,hi,rfl⟩:=List.mem_map.1 ha
 exact h i (List.mem_range.1 hi)
theorem Ul {k:IntKind} {f:Nat→Int}:(tab n fun i=> .v (.int k (f i))).all (jV h)=true:=Uk fun _ _=>rfl
def isB (x:ByteArray) (z:Int):Bool→Option AV
 | true=>if 0≤z then (x[z.toNat]?).map fun b=> .v (.int .u8 b.toNat) else none
 | false=>none
theorem ZN {z:Int}:oC P T (.v (.string x)) z=isB x z (dn P T):=by
 unfold oC isB
 cases dn P T with
 | false=>simp
 | true=>simp
theorem Lm {z:Int} (hz:0≤z):isB x z true=(x[z.toNat]?).map fun b=> .v (.int .u8 b.toNat):=if_pos hz
end
section
variable {P:Program} {p₀:AV→Hp→Prop}
variable {h:Hp}{s u:TypeId}
theorem ZO {k:IntKind} {z:Int}:cvA P h s u (.v (.int k z))=(iy P h s u (.v (.int k z))).map .v:=Eq.trans rfl rfl
variable {n:Nat}
theorem aie {sz:Nat} {cells:List AV}:cvA P h s u (.t n sz cells)=(iy P h s u (.t n sz cells)).map .v:=Eq.trans rfl rfl
variable {id:Nat}
theorem ZP :cvA P h s u (.own id n)=(iy P h s u (.own id n)).map .v:=Eq.trans rfl rfl
variable {b:ByteArray}
theorem ZQ :cvA P h s u (.v (.string b))=cvX P h s u b ((aA P u).bind (lD P)):=Eq.trans rfl rfl
theorem Lp :cvX P h s u b none=(iy P h s u (.v (.string b))).map .v:=Eq.trans rfl rfl
theorem Ov (h1:(P.underlying s).isSome=true) (h2:b.size≤140737488351232):cvX P h s u b (some .u8)=some (.t b.size 1 (Gw b)):=if_pos ⟨h1,h2⟩
variable {T:TypeId}
theorem ZR :ig P h T (.ptr id 0) none none=uN P h id h[id]? (aN P T):=by
 unfold ig;simp
theorem ET {e:TypeId} {cells:List AV}:uN P h id (some (some (.blk cells))) (some (n,e))=zq h id cells n (szP P e):=Eq.trans rfl rfl
theorem EU {s:Nat} {cells:List AV} (h1:cells.length=n*s) (h2:n≤1000000):zq h id cells n (some s)=some (.t n s cells,h.set id none):=if_pos ⟨h1,h2⟩
def lkB (h:Hp) (x:AV) (kv:Value) (ok:Bool):Option KK→Option Value→Option AV
 | some q,some z=>if jJ q kv=true then match x with
   | .mp id=>match h[id]? with
    | some (some (.map es))=>if keysB q es=true then some (lX ok z (iR kv es)) else none
    | _=>none
   | .tm es=>if keysB q es=true then some (lX ok z (iR kv es)) else none
   | .v (.map none)=>some (lX ok z none)
   | _=>none
   else none
 | _,_=>none
def lkD (kv:Value) (ok:Bool) (q:KK) (z:Value):Option (Option Ob)→Option AV
 | some (some (.map es))=>if keysB q es=true then some (lX ok z (iR kv es)) else none
 | _=>none
def lkA (P:Program) (h:Hp) (x:AV) (kv:Value) (ok:Bool):Option (TypeId × TypeId)→Option AV
 | some (K,E)=>lkB h x kv ok (kkP P K) (ak P E)
 | none=>none
variable {kv:Value}{x:AV}
theorem lk {ok:Bool}:lY P h T x (.v kv) ok=lkA P h x kv ok (tV P T):=by
 unfold lY lkA
 cases tV P T with
 | none=>rfl
 | some KE=>
  obtain ⟨K,E⟩:=KE
  simp only [Option.bind_some]
  cases kkP P K with
  | none=>cases ak P E<;>rfl
  | some q=>
   simp only [Option.bind_some]
   cases ak P E with
   | none=>rfl
   | some z=>rfl
theorem Lr {ok:Bool} {K E:TypeId}:lkA P h x kv ok (some (K,E))=lkB h x kv ok (kkP P K) (ak P E):=Eq.trans rfl rfl
variable {q:KK}{z:Value}
theorem ZT {ok:Bool}  :lkB h (.mp id) kv ok (some q) (some z)=if jJ q kv=true then lkD kv ok q z h[id]? else none:=Eq.trans rfl rfl
variable {es:List (Value × AV)}
theorem ZU {ok:Bool}  :lkB h (.tm es) kv ok (some q) (some z)=if jJ q kv=true then (if keysB q es=true then some (lX ok z (iR kv es)) else none) else none:=Eq.trans rfl rfl
theorem Ls {ok:Bool}  :lkD kv ok q z (some (some (.map es)))=if keysB q es=true then some (lX ok z (iR kv es)) else none:=Eq.trans rfl rfl
variable {a:AV}
theorem ZV :lX true z (some a)= .tup [a, .v (.bool true)]:=Eq.trans rfl rfl
theorem ZW :lX true z none= .tup [.v z, .v (.bool false)]:=Eq.trans rfl rfl
theorem ZX :lX false z (some a)=a:=Eq.trans rfl rfl
theorem ZY :lX false z none= .v z:=Eq.trans rfl rfl
theorem Z4 {q:IntKind} {n:Int}:jJ (.int q) (.int q n)=true:=decide_eq_true rfl
theorem Z5 {s:ByteArray}:jJ .str (.string s)=true:=Eq.trans rfl rfl
theorem Z7 :keysB q []=true:=Eq.trans rfl rfl
variable {r:List (Value × AV)}
theorem Um {p:Value × AV} :keysB q (p::r)=(jJ q p.1 && keysB q r):=Eq.trans rfl rfl
variable {k:Value}
theorem Z8 :iR k []=none:=Eq.trans rfl rfl
theorem Un {k':Value}  :iR k ((k',a)::r)=if keyE k k'=true then some a else iR k r:=Eq.trans rfl rfl
theorem Z9 {q q':IntKind} {a b:Int}:keyE (.int q a) (.int q' b)=decide (a=b):=Eq.trans rfl rfl
theorem GN {a:ByteArray}:keyE (.string a) (.string b)=decide (a=b):=Eq.trans rfl rfl
theorem aac :rQ k a []=[(k,a)]:=Eq.trans rfl rfl
theorem Uo {k':Value} {a':AV} :rQ k a ((k',a')::r)=if keyE k k'=true then (k,a)::r else (k',a')::rQ k a r:=Eq.trans rfl rfl
def upD (h:Hp) (id:Nat) (kv:Value) (a:AV) (q:KK):Option (Option Ob)→Option Hp
 | some (some (.map es))=>if keysB q es=true then some (h.set id (some (.map (rQ kv a es)))) else none
 | _=>none
def upB (h:Hp) (id:Nat) (kv:Value) (a:AV):Option KK→Option Hp
 | some q=>if jJ q kv=true then upD h id kv a q h[id]? else none
 | none=>none
def upA (P:Program) (h:Hp) (id:Nat) (kv:Value) (a:AV):Option (TypeId × TypeId)→Option Hp
 | some (K,_)=>upB h id kv a (kkP P K)
 | none=>none
theorem up :kJ P h T (.mp id) (.v kv) a=upA P h id kv a (tV P T):=by
 unfold kJ upA
 cases tV P T with
 | none=>rfl
 | some KE=>
  obtain ⟨K,E⟩:=KE
  simp only [Option.bind_some]
  cases kkP P K with
  | none=>rfl
  | some q=>rfl
theorem Lu {K E:TypeId}:upA P h id kv a (some (K,E))=upB h id kv a (kkP P K):=Eq.trans rfl rfl
theorem LC :upB h id kv a (some q)=if jJ q kv=true then upD h id kv a q h[id]? else none:=Eq.trans rfl rfl
theorem LD :upD h id kv a q (some (some (.map es)))=if keysB q es=true then some (h.set id (some (.map (rQ kv a es)))) else none:=Eq.trans rfl rfl
def bF (op:BinOp):Option Bool→Bool→Option Value
 | some b,true=>oz op b
 | _,_=>none
theorem LG {op:BinOp}  :pK P h op T x (.v .nilFunc)=bF op (uO x) (iw P T):=by
 show (if iw P T=true then (uO x).bind (oz op) else none)=_
 cases iw P T<;>cases uO x<;>rfl
theorem afj {b:Bool}:bF .eql (some b) true=some (.bool b):=Eq.trans rfl rfl
theorem afk {b:Bool}:bF .neq (some b) true=some (.bool (!b)):=Eq.trans rfl rfl
theorem aad:uO (.v .nilFunc)=some true:=Eq.trans rfl rfl
variable {f:Fn}
theorem afl {a b:List AV}:uO (.fn f a b)=some false:=Eq.trans rfl rfl
theorem afm :cellsA h (.mp id)=if bG h (.mp id)=true then some [.mp id] else none:=Eq.trans rfl rfl
def aif:Option (Option Ob)→Bool
 | some (some (.map _))=>true
 | _=>false
theorem afn :bG h (.mp id)=aif h[id]? :=Eq.trans rfl rfl
theorem EW :aif (some (some (.map es)))=true:=Eq.trans rfl rfl
theorem afo :jV h (.mp id)=bG h (.mp id):=Eq.trans rfl rfl
theorem afp {a b:List AV}:cellsA h (.fn f a b)=some [.fn f a b]:=Eq.trans rfl rfl
theorem aae :cellsA h (.ifc T a)=some [.ifc T a]:=Eq.trans rfl rfl
theorem aaf :jV h (.ifc T a)=true:=Eq.trans rfl rfl
def aii (h:Hp) (id:Nat):Option (Option Ob)→Option (AV × Hp)
 | some (some (.map es))=>some (.tm es,h.set id none)
 | _=>none
theorem aag :dS h (.mp id)=aii h id h[id]? :=Eq.trans rfl rfl
theorem EX :aii h id (some (some (.map es)))=some (.tm es,h.set id none):=Eq.trans rfl rfl
theorem Ur :dS h (.ifc T a)=some (.ifc T a,h):=Eq.trans rfl rfl
theorem aah {a b:List AV}:dS h (.fn f a b)=some (.fn f a b,h):=Eq.trans rfl rfl
end
end
end Go.Proofs.YtljfgdlgmdcmfaaGreat.Wv
