/- Parts of a proof. -/
import Derived.Test.YtljfgdlgmdcmfaaGreatQwd
set_option linter.unusedVariables false
namespace Go.Proofs.YtljfgdlgmdcmfaaGreat.Wv
section
open Go.RowKit
section
variable (P:Program) (p₀:AV→Hp→Prop) (N:Nat) (L:List Nat) (ks:List (Nat × Nat))
def WG (b:Code) (Q:dw):dw:=fun x e' h'=>match x with | .normal=>bK P N L ks b Q e' h' | x=>Q x e' h'
def WH (id:Nat) (Q:dw):dw:=fun x e' h'=>match x with | .exit i=>if i=id then Q .normal e' h' else Q (.exit i) e' h' | x=>Q x e' h'
def kP (l:List Oper) (e:Ev) (Q:dw):AV→Hp→Prop:=fun a h=>Q (.panic a) (ji l e) h
def Tm (Q:dw):Ev→Hp→Prop:=fun e h=>Q .normal (lN L e) h
def WI (fl:Nat) (hd all rest:List Oper) (n:Nat) (h:Hp) (Q:dw):Ev→List (Tmp × Value)→Prop:=fun e1 al=>if fl=1 then Kz hd e1 else ig P p₀ all rest (eF n al e1) (h++al.map nM) (Tm L Q)
def kO (all r:List Oper) (d:Option Tmp) (e:Ev) (K:Ev→Hp→Prop):AV→Hp→Prop:=fun a h=>ig P p₀ all r (bP e d a) h K
def kR (K:AV→Hp→Prop) (h:Hp):AV→Prop:=fun a=>K a h
def kH (all:List Oper) (h:Hp) (r:List Oper) (d:Option Tmp) (e:Ev) (al:List (Tmp × Value)) (K:Ev→List (Tmp × Value)→Prop):AV→Prop:=fun a=>dL P p₀ all h r (bP e d a) al K
def KF (ks:List (Nat × Nat)) (N:Nat) {σ:Type} (env:σ→Ev) (hp:σ→Hp) (inv:σ→Prop) (ms:σ→Nat) (n:Nat) (Q:dw):dw:=fun x e h=>match x with
 | .normal=> ∃ n' e₁ h₁,Ent (base ks) N e h e₁ h₁∧n'<n∧ ∃ s,e₁=env s∧h₁=hp s∧inv s∧n'=ms s
 | x=>Q x e h
def sV (K:AV→Prop) (o:Option Value):Prop:= ∃ r,o=some r∧K (.v r)
def sA (K:AV→Prop) (o:Option AV):Prop:= ∃ r,o=some r∧K r
def sG (K:AV→Prop) (o:Option (List AV)):Prop:= ∃ r,o=some r∧K (.g r)
def sO (K:AV→Hp→Prop) (o:Option (AV × Hp)):Prop:= ∃ r h,o=some (r,h)∧K r h
def sH (K:AV→Hp→Prop) (o:Option Hp):Prop:= ∃ h,o=some h∧K .none h
def sZ (K:AV→Hp→Prop) (h:Hp) (o:Option Value):Prop:= ∃ z,o=some z∧K (.ptr h.length 0) (h++[some (.blk (fV z))])
def sB (K:AV→Hp→Prop) (h:Hp) (o:Option (List AV)):Prop:= ∃ l,o=some l∧K (.ptr h.length 0) (h++[some (.blk l)])
def sS (K:AV→Hp→Prop) (h:Hp) (n:Nat) (o:Option (TypeId × Nat × List AV)):Prop:= ∃ te s l,o=some (te,s,l)∧K (.own h.length n) (h++[some (.arr te s l 0)])
def sT (K:AV→Prop) (n:Nat) (o:Option (TypeId × Nat × List AV)):Prop:= ∃ te s l,o=some (te,s,l)∧K (.t n s l)
def sI (P:Program) (T:TypeId) (K:AV→Hp→Prop) (h:Hp) (l c:Option Int):Prop:= ∃ zl zc te s L,l=some zl∧c=some zc∧wo P T zl zc=some (te,s,L)∧K (.own h.length zl.toNat) (h++[some (.arr te s L 0)])
def sN (K:AV→Prop) (x:AV) (o:Option Bool):Prop:=o=some false∧K x
def sL (K:AV→Prop) (o:Option Nat):Prop:= ∃ n,o=some n∧K (.v (.int .i64 n))
def sP (K:AV→Prop) (c x y:AV):Prop:= ∃ t,c= .v (.bool t)∧K (bif t then x else y)
def Dc (K:AV→Hp→Prop) (h:Hp) (f:AV) (args:List AV):Prop:= ∃ fid fst cap,f= .fn (.func fid) fst cap∧HTP P fid (fst++args++cap) h K p₀
def Qr (K:AV→Prop) (h:Hp) (f:AV) (args:List AV):Prop:= ∃ fid fst cap,f= .fn (.func fid) fst cap∧ ∃ res,HTP P fid (fst++args++cap) h (fun r h'=>r=res∧h'=h) p₀∧K res
def sC (a b:Code) (Q:dw) (e:Ev) (h:Hp) (c:AV):Prop:= ∃ t,c= .v (.bool t)∧if t=true then bK P N L ks a Q e h else bK P N L ks b Q e h
def sW (all:List Oper) (o:Oper) (r:List Oper) (d:Option Tmp) (e:Ev) (h:Hp) (K:Ev→Hp→Prop) (want:Bool) (g:AV):Prop:= ∃ b,gB want g=some b∧if b=true then wOp P p₀ o (dK e) h (kO P p₀ all r d e K) else ig P p₀ all r (bP e d (.v undef)) h K
def sY (all:List Oper) (h:Hp) (o:Oper) (r:List Oper) (d:Option Tmp) (e:Ev) (al:List (Tmp × Value)) (K:Ev→List (Tmp × Value)→Prop) (want:Bool) (g:AV):Prop:= ∃ b,gB want g=some b∧if b=true then cOp P p₀ o (dK e) h (kH P p₀ all h r d e al K) else dL P p₀ all h r (bP e d (.v undef)) al K
def Oc (e:Ev):Option Tmp→AV
 | some d=>aO e d
 | none=> .none
def sF (Q:AV→Hp→Prop) (h:Hp) (o:Option AV):Prop:= ∃ r,o=some r∧ ∃ r' h',eu h r=some (r',h')∧Q r' h'
def sE (Q:AV→Hp→Prop) (o:Option (AV × Hp)):Prop:= ∃ r h,o=some (r,h)∧Q r h
def sD (all:List Oper) (h:Hp) (r:List Oper) (d:Option Tmp) (e:Ev) (al:List (Tmp × Value)) (K:Ev→List (Tmp × Value)→Prop) (T:TypeId):Prop:= ∃ T' z d',Op.alloc T=Op.alloc T'∧d=some d'∧aA P T'=some z∧dL P p₀ all h r (bP e d .none) (al++[(d',z)]) K
end
section
variable {P:Program} {p₀:AV→Hp→Prop} {N:Nat} {L:List Nat} {ks:List (Nat × Nat)}
def wJ:Ev→Ev→Prop
 | [],_=>True
 | (d,a)::r,e=>aO e d=a∧wJ r e
variable {e:Ev}
theorem WJ :wJ [] e=True:=Eq.trans rfl rfl
theorem Tq {d:Nat} {a:AV} {r:Ev}:wJ ((d,a)::r) e=(aO e d=a∧wJ r e):=Eq.trans rfl rfl
theorem wK: ∀ {e' e:Ev} (h:wJ e' e) (d:Nat),aO e' d=aO e d∨aO e' d= .none
 | [],e,_,d=> .inr rfl
 | (k,a)::r,e,h,d=>by
  show (if k=d then a else aO r d)=_∨(if k=d then a else aO r d)=_;by_cases hk:k=d
  ·subst hk;left;rw [if_pos rfl];exact h.1.symm
  ·rw [if_neg hk];exact wK h.2 d
variable {h:Hp}
theorem Ent.fit {n0:Nat} {e':Ev}  (hf:wJ e' e):Ent n0 N e h e' h:=fun X a hh hn hX hE=>⟨X,rfl,hh,(Step.refl X).toN (hh▸hn),hX,hE.defers,hE.size,fun d=>by
 rcases wK hf d with q | q
 ·rw [q];exact hE.rep d
 ·rw [q];exact .none _⟩
variable {Q:dw}
theorem agm :bK P N L ks .skip Q e h=Q .normal e h:=Eq.trans rfl rfl
theorem akm :bK P N L ks .ret Q e h=Q .ret e h:=Eq.trans rfl rfl
variable {i:Nat}
theorem agn :bK P N L ks (.exit i) Q e h=Q (.exit i) e h:=Eq.trans rfl rfl
theorem abT :bK P N L ks (.label i) Q e h=Q .normal e h:=Eq.trans rfl rfl
variable {b:Code}
theorem abU :bK P N L ks (.scope b) Q e h=bK P N L ks b Q e h:=Eq.trans rfl rfl
theorem akn {a:Code}   :bK P N L ks (.seq a b) Q e h=bK P N L ks a (WG P N L ks b Q) e h:=Eq.trans rfl rfl
theorem abV :bK P N L ks (.block i b) Q e h=bK P N L ks b (WH i Q) e h:=Eq.trans rfl rfl
theorem agp {c:Operand} {a:Code}   :bK P N L ks (.cond c a b) Q e h=sC P N L ks a b Q e h (dK e c):=Eq.trans rfl rfl
variable {l:List Oper}
theorem ako :bK P N L ks (.region i l.toArray false) Q e h=ig P (kP l e Q) l l e h (Tm L Q):=Eq.trans rfl rfl
theorem agq :bK P N L ks (.region i l.toArray true) Q e h=qy (kOf ks i) (Ih P N ks i l.toArray Q e h) (dL P (kP l e Q) l (fP (kOf ks (3000000+i)) h) (l.take (kOf ks i)) e [] (WI P (kP l e Q) L (kOf ks (4000000+i)) (l.take (kOf ks i)) l (l.drop (kOf ks i)) h.length (fP (kOf ks (3000000+i)) h) Q)):=Eq.trans rfl rfl
theorem akp {k:Nat} {E W:Prop} (hk:k≠1000000):qy k E W=W:=if_neg hk
theorem agr {E W:Prop}:qy 1000000 E W=E:=if_pos rfl
theorem ags :WG P N L ks b Q .normal e h=bK P N L ks b Q e h:=Eq.trans rfl rfl
theorem agt :WG P N L ks b Q (.exit i) e h=Q (.exit i) e h:=Eq.trans rfl rfl
theorem agu :WG P N L ks b Q .ret e h=Q .ret e h:=Eq.trans rfl rfl
theorem agv {a:AV}  :WG P N L ks b Q (.panic a) e h=Q (.panic a) e h:=Eq.trans rfl rfl
theorem k_p {a:AV} :kP l e Q a h=Q (.panic a) (ji l e) h:=Eq.trans rfl rfl
variable {j:Nat}
theorem agw :WH j Q .normal e h=Q .normal e h:=Eq.trans rfl rfl
theorem agx :WH j Q (.exit i) e h=if i=j then Q .normal e h else Q (.exit i) e h:=Eq.trans rfl rfl
theorem agy :WH j Q .ret e h=Q .ret e h:=Eq.trans rfl rfl
theorem agz {a:AV}  :WH j Q (.panic a) e h=Q (.panic a) e h:=Eq.trans rfl rfl
theorem k_reg :Tm L Q e h=Q .normal (lN L e) h:=Eq.trans rfl rfl
variable {al:List (Tmp × Value)}{all:List Oper}{n:Nat}
theorem abW {hd rest:List Oper}    {e1:Ev} :WI P p₀ L 1 hd all rest n h Q e1 al=Kz hd e1:=Eq.trans rfl rfl
theorem agB {hd rest:List Oper}    {e1:Ev} :WI P p₀ L 0 hd all rest n h Q e1 al=ig P p₀ all rest (eF n al e1) (h++al.map nM) (Tm L Q):=Eq.trans rfl rfl
variable {d:Option Tmp}{r:List Oper}
theorem k_o {K:Ev→Hp→Prop} {a:AV} :kO P p₀ all r d e K a h=ig P p₀ all r (bP e d a) h K:=Eq.trans rfl rfl
theorem k_r {K:AV→Hp→Prop}  {a:AV}:kR K h a=K a h:=Eq.trans rfl rfl
theorem k_h {K:Ev→List (Tmp × Value)→Prop} {a:AV}:kH P p₀ all h r d e al K a=dL P p₀ all h r (bP e d a) al K:=Eq.trans rfl rfl
variable {σ:Type}
theorem ay {env:σ→Ev} {hp:σ→Hp} {inv:σ→Prop} {ms:σ→Nat}     (s:σ) (hi:inv s) (hm:ms s<n) (hh:h=hp s) (he:wJ (env s) e):KF ks N env hp inv ms n Q .normal e h:=by
 subst hh;exact ⟨_,_,_,Ent.fit he,hm,s,rfl,rfl,hi,rfl⟩
theorem Oe {env:σ→Ev} {hp:σ→Hp} {inv:σ→Prop} {ms:σ→Nat}     (s:σ) (he:Ent (base ks) N e h (env s) (hp s)) (hi:inv s) (hm:ms s<n):KF ks N env hp inv ms n Q .normal e h:=
 ⟨_,_,_,he,hm,s,rfl,rfl,hi,rfl⟩
theorem agC {env:σ→Ev} {hp:σ→Hp} {inv:σ→Prop} {ms:σ→Nat}    :KF ks N env hp inv ms n Q (.exit i) e h=Q (.exit i) e h:=Eq.trans rfl rfl
theorem agD {env:σ→Ev} {hp:σ→Hp} {inv:σ→Prop} {ms:σ→Nat}    :KF ks N env hp inv ms n Q .ret e h=Q .ret e h:=Eq.trans rfl rfl
theorem agE {env:σ→Ev} {hp:σ→Hp} {inv:σ→Prop} {ms:σ→Nat}   {a:AV}  :KF ks N env hp inv ms n Q (.panic a) e h=Q (.panic a) e h:=Eq.trans rfl rfl
theorem aT (env:σ→Ev) (hp:σ→Hp) (inv:σ→Prop) (ms:σ→Nat) (s0:σ)     (hi:inv s0) (hh:h=hp s0) (he:wJ (env s0) e)
  (hr: ∀ s,inv s→bK P N L ks b (KF ks N env hp inv ms (ms s) Q) (env s) (hp s)):bK P N L ks (.loop b) Q e h:=by
 subst hh;refine ⟨fun n e h=> ∃ s,e=env s∧h=hp s∧inv s∧n=ms s,ms s0,_,_,Ent.fit he,⟨s0,rfl,rfl,hi,rfl⟩,?_⟩;rintro n e' h' ⟨s,rfl,rfl,hs,rfl⟩;exact hr s hs
variable {args:List AV}{body:Code}{fn:Func}
theorem TC.by {f:FuncId}    {res:AV} (N:Nat) (L:List Nat) (ks:List (Nat × Nat)) (rs:List ResultVar) (hf:P.funcs[f]? =some fn) (hb:fn.body=some body) (hn:fn.ntmps=N) (hr:fn.results=rs.toArray) (hc:Clo res)
  (hw:bK P N L ks body (Fin P rs.toArray fun r _=>r=res) (qN 0 args) []) (bU:P.follows .mixedOrders=true:=by kernel_rfl) (hp:lM P f=true:=by kernel_rfl) (hk:dJ N ks body=true:=by kernel_rfl) (hN:args.length≤N:=by exact Nat.le_of_ble_eq_true rfl) (hbs:base ks=0:=by rfl):TC P f args res:=by
 subst hn;rw [←hr] at hw;exact TC.of L ks bU hf hb hp hk hN hbs hc hw
theorem HT.by {f:FuncId}     {R:AV→Hp→Prop} (N:Nat) (L:List Nat) (ks:List (Nat × Nat)) (rs:List ResultVar) (hf:P.funcs[f]? =some fn) (hb:fn.body=some body) (hn:fn.ntmps=N) (hr:fn.results=rs.toArray) (hbs:base ks=h.length)
  (hw:bK P N L ks body (Fin P rs.toArray R) (qN 0 args) h) (bU:P.follows .mixedOrders=true:=by kernel_rfl) (hp:lM P f=true:=by kernel_rfl) (hk:dJ N ks body=true:=by kernel_rfl) (hN:args.length≤N:=by exact Nat.le_of_ble_eq_true rfl):HT P f args h R:=by
 subst hn;rw [←hr] at hw;exact HT.of bU hf hb hp hk hN hbs hw
theorem HTP.by {f:FuncId}     {R p:AV→Hp→Prop} (N:Nat) (L:List Nat) (ks:List (Nat × Nat)) (rs:List ResultVar) (hf:P.funcs[f]? =some fn) (hb:fn.body=some body) (hn:fn.ntmps=N) (hr:fn.results=rs.toArray) (hbs:base ks=h.length)
  (hw:bK P N L ks body (EP P rs.toArray R p) (qN 0 args) h) (bU:P.follows .mixedOrders=true:=by kernel_rfl) (hp:lM P f=true:=by kernel_rfl) (hk:dJ N ks body=true:=by kernel_rfl) (hN:args.length≤N:=by exact Nat.le_of_ble_eq_true rfl):HTP P f args h R p:=by
 subst hn;rw [←hr] at hw;exact HTP.of bU hf hb hp hk hN hbs hw
theorem abX :fP 0 h=h.map froze:=oV h
theorem abY {m:Nat} {o:Option Ob} {r:Hp}:fP m (o::r)=(if m % 2=1 then o else froze o)::fP (m / 2) r:=Eq.trans rfl rfl
theorem agF {m:Nat}:fP m []=[]:=by cases m<;>rfl
theorem akq {K:Ev→Hp→Prop}:ig P p₀ all [] e h K=K e h:=Eq.trans rfl rfl
variable {a:Array Edge}{p:String}
theorem agG {K:Ev→Hp→Prop}  {t:TypeId}   {op:Op}:ig P p₀ all (⟨d,op,t,p,a,none⟩::r) e h K=wOp P p₀ ⟨d,op,t,p,a,none⟩ (dK e) h (kO P p₀ all r d e K):=Eq.trans rfl rfl
theorem agH {K:Ev→Hp→Prop}  {t:TypeId}   {op:Op}  {w:Bool}:ig P p₀ all (⟨d,op,t,p,a,some (j,w)⟩::r) e h K=sW P p₀ all ⟨d,op,t,p,a,none⟩ r d e h K w (Oc e ((all[j]?).bind (·.dst))):=by
 have e1: ∀ K',wOp P p₀ ⟨d,op,t,p,a,some (j,w)⟩ (dK e) h K'=wOp P p₀ ⟨d,op,t,p,a,none⟩ (dK e) h K':=fun K'=>by cases op<;>rfl
 have e2:guardE all e j=Oc e ((all[j]?).bind (·.dst)):=by unfold guardE Oc;rfl
 show (∃ b,gB w (guardE all e j)=some b∧(if b=true then wOp P p₀ ⟨d,op,t,p,a,some (j,w)⟩ (dK e) h (kO P p₀ all r d e K) else _))=_;rw [e1,e2];rfl
theorem akr {K:Ev→List (Tmp × Value)→Prop}:dL P p₀ all h [] e al K=K e al:=Eq.trans rfl rfl
variable {T:TypeId}
theorem abZ {K:Ev→List (Tmp × Value)→Prop}  {t:TypeId}   :dL P p₀ all h (⟨d, .alloc T,t,p,a,none⟩::r) e al K=sD P p₀ all h r d e al K T:=Eq.trans rfl rfl
theorem agI {K:Ev→List (Tmp × Value)→Prop}  {t:TypeId}   {op:Op}:aB ⟨d,op,t,p,a,none⟩=false→dL P p₀ all h (⟨d,op,t,p,a,none⟩::r) e al K=cOp P p₀ ⟨d,op,t,p,a,none⟩ (dK e) h (kH P p₀ all h r d e al K):=fun hn=>by
 show (if aB ⟨d,op,t,p,a,none⟩=true then _ else _)=_;rw [hn];rfl
theorem agJ {K:Ev→List (Tmp × Value)→Prop}  {t:TypeId}   {op:Op}  {w:Bool}:dL P p₀ all h (⟨d,op,t,p,a,some (j,w)⟩::r) e al K=sY P p₀ all h ⟨d,op,t,p,a,none⟩ r d e al K w (Oc e ((all[j]?).bind (·.dst))):=by
 have e1: ∀ K',cOp P p₀ ⟨d,op,t,p,a,some (j,w)⟩ (dK e) h K'=cOp P p₀ ⟨d,op,t,p,a,none⟩ (dK e) h K':=fun K'=>by cases op<;>rfl
 have e2:guardE all e j=Oc e ((all[j]?).bind (·.dst)):=by unfold guardE Oc;rfl
 show (∃ b,gB w (guardE all e j)=some b∧(if b=true then cOp P p₀ ⟨d,op,t,p,a,some (j,w)⟩ (dK e) h (kH P p₀ all h r d e al K) else _))=_;rw [e1,e2];rfl
variable {E:Operand→AV}{K:AV→Prop}{x:Operand}
theorem agK {t:TypeId}   {g:Option (Nat × Bool)}  :rOp P ⟨d, .move x,t,p,a,g⟩ E h K=K (E x):=Eq.trans rfl rfl
theorem WL {t:TypeId}   {g:Option (Nat × Bool)}  :rOp P ⟨d, .assign x,t,p,a,g⟩ E h K=K (E x):=Eq.trans rfl rfl
variable {y:Operand}
theorem agL {t:TypeId}   {g:Option (Nat × Bool)} {c:Operand} :rOp P ⟨d, .pick c x y,t,p,a,g⟩ E h K=sP K (E c) (E x) (E y):=Eq.trans rfl rfl
variable {parts:Array (Nat × Operand)}
theorem ab1 {t:TypeId}   {g:Option (Nat × Bool)}   :rOp P ⟨d, .build T parts,t,p,a,g⟩ E h K=sG K (oq P h T (parts.toList.map fun p=>(p.1,E p.2))):=Eq.trans rfl rfl
theorem agM {t:TypeId}   {g:Option (Nat × Bool)}   :rOp P ⟨d, .load T x,t,p,a,g⟩ E h K=(szP P T≠some 0∧sA K (qF P h T (E x))):=Eq.trans rfl rfl
theorem Og {t:TypeId}   {g:Option (Nat × Bool)}  :rOp P ⟨d, .nilCheck x,t,p,a,g⟩ E h K=sN K (E x) (mg h (E x)):=Eq.trans rfl rfl
variable {op:BinOp}{ty:TypeId}
theorem ab2 {t:TypeId}   {g:Option (Nat × Bool)}    :rOp P ⟨d, .binOp op T x y ty,t,p,a,g⟩ E h K=sV K (qK P h op T (E x) (E y)):=Eq.trans rfl rfl
theorem agN {t:TypeId}   {g:Option (Nat × Bool)} {op:UnOp}   :rOp P ⟨d, .unOp op T x,t,p,a,g⟩ E h K=sV K (unA op (E x)):=Eq.trans rfl rfl
variable {s u:TypeId}
theorem Tt {t:TypeId}   {g:Option (Nat × Bool)}   :rOp P ⟨d, .convert s u x,t,p,a,g⟩ E h K=sV K (iI P h s u (E x)):=Eq.trans rfl rfl
variable {f:Nat}
theorem KG {t:TypeId}   {g:Option (Nat × Bool)} {S:TypeId}   :rOp P ⟨d, .fieldAddr S x f,t,p,a,g⟩ E h K=sA K (uP P h S (E x) f):=Eq.trans rfl rfl
theorem ab3 {t:TypeId}   {g:Option (Nat × Bool)} {S:TypeId}   :rOp P ⟨d, .field S x f,t,p,a,g⟩ E h K=sA K (uS P S (E x) f):=Eq.trans rfl rfl
theorem Tv {t:TypeId}   {g:Option (Nat × Bool)}   :rOp P ⟨d, .extract x i,t,p,a,g⟩ E h K=sA K (FB (E x) i):=Eq.trans rfl rfl
theorem aks {t:TypeId}   {g:Option (Nat × Bool)}   {K:AV→Hp→Prop}:wOp P p₀ ⟨d, .makeInterface T x,t,p,a,g⟩ E h K=(bY P T=true∧K (.ifc T (E x)) h):=Eq.trans rfl rfl
theorem akt {t:TypeId}   {g:Option (Nat × Bool)}   :cOp P p₀ ⟨d, .makeInterface T x,t,p,a,g⟩ E h K=(bY P T=true∧K (.ifc T (E x))):=Eq.trans rfl rfl
variable {k:Operand}
theorem WM {t:TypeId}   {g:Option (Nat × Bool)}   {ok:Bool} {K:AV→Hp→Prop}:wOp P p₀ ⟨d, .lookup T x k ok,t,p,a,g⟩ E h K=sA (kR K h) (nI P h T (E x) (E k) ok):=Eq.trans rfl rfl
theorem WO {t:TypeId}   {g:Option (Nat × Bool)}   {ok:Bool} :cOp P p₀ ⟨d, .lookup T x k ok,t,p,a,g⟩ E h K=sA K (nI P h T (E x) (E k) ok):=Eq.trans rfl rfl
theorem Tz {t:TypeId}   {g:Option (Nat × Bool)}  {K:AV→Hp→Prop}:wOp P p₀ ⟨d, .makeMap T none,t,p,a,g⟩ E h K=K (.mp h.length) (h++[some (.map [])]):=propext ⟨fun q=>q.2,fun q=>⟨rfl,q⟩⟩
theorem KH {t:TypeId}   {g:Option (Nat × Bool)}  {m:Operand} {K:AV→Hp→Prop}:wOp P p₀ ⟨d, .mapUpdate T m k x,t,p,a,g⟩ E h K=sH K (kV P h T (E m) (E k) (E x)):=Eq.trans rfl rfl
theorem WQ {t:TypeId}   {g:Option (Nat × Bool)}  {m:Operand} {K:AV→Hp→Prop}:wOp P p₀ ⟨d, .insert T m k x,t,p,a,g⟩ E h K=sH K (kV P h T (E m) (E k) (E x)):=Eq.trans rfl rfl
def aku (p:AV→Hp→Prop) (h:Hp) (x:AV):Prop:= ∃ T a,x= .ifc T a∧p (.ifc T a) h
theorem WR {x:AV}:aku p₀ h (.ifc T x)=p₀ (.ifc T x) h:=propext ⟨fun ⟨_,_,e,q⟩=>by cases e;exact q,fun q=>⟨_,_,rfl,q⟩⟩
theorem ab4 {t:TypeId}   {g:Option (Nat × Bool)}  {K:AV→Hp→Prop}:wOp P p₀ ⟨d, .panic x,t,p,a,g⟩ E h K=aku p₀ h (E x):=Eq.trans rfl rfl
theorem agO {t:TypeId}   {g:Option (Nat × Bool)}  {K:AV→Hp→Prop}:wOp P p₀ ⟨d, .move x,t,p,a,g⟩ E h K=rOp P ⟨d, .move x,t,p,a,g⟩ E h (kR K h):=Eq.trans rfl rfl
theorem agP {t:TypeId}   {g:Option (Nat × Bool)}  :cOp P p₀ ⟨d, .move x,t,p,a,g⟩ E h K=rOp P ⟨d, .move x,t,p,a,g⟩ E h K:=Eq.trans rfl rfl
theorem WS {t:TypeId}   {g:Option (Nat × Bool)}  {K:AV→Hp→Prop}:wOp P p₀ ⟨d, .assign x,t,p,a,g⟩ E h K=rOp P ⟨d, .assign x,t,p,a,g⟩ E h (kR K h):=Eq.trans rfl rfl
theorem WT {t:TypeId}   {g:Option (Nat × Bool)}  :cOp P p₀ ⟨d, .assign x,t,p,a,g⟩ E h K=rOp P ⟨d, .assign x,t,p,a,g⟩ E h K:=Eq.trans rfl rfl
theorem agQ {t:TypeId}   {g:Option (Nat × Bool)} {c:Operand} {K:AV→Hp→Prop}:wOp P p₀ ⟨d, .pick c x y,t,p,a,g⟩ E h K=rOp P ⟨d, .pick c x y,t,p,a,g⟩ E h (kR K h):=Eq.trans rfl rfl
theorem agR {t:TypeId}   {g:Option (Nat × Bool)} {c:Operand} :cOp P p₀ ⟨d, .pick c x y,t,p,a,g⟩ E h K=rOp P ⟨d, .pick c x y,t,p,a,g⟩ E h K:=Eq.trans rfl rfl
theorem ab5 {t:TypeId}   {g:Option (Nat × Bool)}   {K:AV→Hp→Prop}:wOp P p₀ ⟨d, .build T parts,t,p,a,g⟩ E h K=rOp P ⟨d, .build T parts,t,p,a,g⟩ E h (kR K h):=Eq.trans rfl rfl
theorem ab6 {t:TypeId}   {g:Option (Nat × Bool)}   :cOp P p₀ ⟨d, .build T parts,t,p,a,g⟩ E h K=rOp P ⟨d, .build T parts,t,p,a,g⟩ E h K:=Eq.trans rfl rfl
theorem agS {t:TypeId}   {g:Option (Nat × Bool)}   {K:AV→Hp→Prop}:wOp P p₀ ⟨d, .load T x,t,p,a,g⟩ E h K=rOp P ⟨d, .load T x,t,p,a,g⟩ E h (kR K h):=Eq.trans rfl rfl
theorem agT {t:TypeId}   {g:Option (Nat × Bool)}   :cOp P p₀ ⟨d, .load T x,t,p,a,g⟩ E h K=rOp P ⟨d, .load T x,t,p,a,g⟩ E h K:=Eq.trans rfl rfl
theorem Oh {t:TypeId}   {g:Option (Nat × Bool)}  {K:AV→Hp→Prop}:wOp P p₀ ⟨d, .nilCheck x,t,p,a,g⟩ E h K=rOp P ⟨d, .nilCheck x,t,p,a,g⟩ E h (kR K h):=Eq.trans rfl rfl
theorem Oi {t:TypeId}   {g:Option (Nat × Bool)}  :cOp P p₀ ⟨d, .nilCheck x,t,p,a,g⟩ E h K=rOp P ⟨d, .nilCheck x,t,p,a,g⟩ E h K:=Eq.trans rfl rfl
theorem ab7 {t:TypeId}   {g:Option (Nat × Bool)}    {K:AV→Hp→Prop}:wOp P p₀ ⟨d, .binOp op T x y ty,t,p,a,g⟩ E h K=rOp P ⟨d, .binOp op T x y ty,t,p,a,g⟩ E h (kR K h):=Eq.trans rfl rfl
theorem ab8 {t:TypeId}   {g:Option (Nat × Bool)}    :cOp P p₀ ⟨d, .binOp op T x y ty,t,p,a,g⟩ E h K=rOp P ⟨d, .binOp op T x y ty,t,p,a,g⟩ E h K:=Eq.trans rfl rfl
theorem agU {t:TypeId}   {g:Option (Nat × Bool)} {op:UnOp}   {K:AV→Hp→Prop}:wOp P p₀ ⟨d, .unOp op T x,t,p,a,g⟩ E h K=rOp P ⟨d, .unOp op T x,t,p,a,g⟩ E h (kR K h):=Eq.trans rfl rfl
theorem agV {t:TypeId}   {g:Option (Nat × Bool)} {op:UnOp}   :cOp P p₀ ⟨d, .unOp op T x,t,p,a,g⟩ E h K=rOp P ⟨d, .unOp op T x,t,p,a,g⟩ E h K:=Eq.trans rfl rfl
theorem TQ {t:TypeId}   {g:Option (Nat × Bool)}   {K:AV→Hp→Prop}:wOp P p₀ ⟨d, .convert s u x,t,p,a,g⟩ E h K=sA (kR K h) (cvA P h s u (E x)):=Eq.trans rfl rfl
theorem TR {t:TypeId}   {g:Option (Nat × Bool)}   :cOp P p₀ ⟨d, .convert s u x,t,p,a,g⟩ E h K=sV K (iI P [] s u (E x)):=Eq.trans rfl rfl
theorem KI {t:TypeId}   {g:Option (Nat × Bool)} {S:TypeId}   {K:AV→Hp→Prop}:wOp P p₀ ⟨d, .fieldAddr S x f,t,p,a,g⟩ E h K=rOp P ⟨d, .fieldAddr S x f,t,p,a,g⟩ E h (kR K h):=Eq.trans rfl rfl
theorem KJ {t:TypeId}   {g:Option (Nat × Bool)} {S:TypeId}   :cOp P p₀ ⟨d, .fieldAddr S x f,t,p,a,g⟩ E h K=rOp P ⟨d, .fieldAddr S x f,t,p,a,g⟩ E h K:=Eq.trans rfl rfl
theorem ab9 {t:TypeId}   {g:Option (Nat × Bool)} {S:TypeId}   {K:AV→Hp→Prop}:wOp P p₀ ⟨d, .field S x f,t,p,a,g⟩ E h K=rOp P ⟨d, .field S x f,t,p,a,g⟩ E h (kR K h):=Eq.trans rfl rfl
theorem acd {t:TypeId}   {g:Option (Nat × Bool)} {S:TypeId}   :cOp P p₀ ⟨d, .field S x f,t,p,a,g⟩ E h K=rOp P ⟨d, .field S x f,t,p,a,g⟩ E h K:=Eq.trans rfl rfl
theorem TU {t:TypeId}   {g:Option (Nat × Bool)}   {K:AV→Hp→Prop}:wOp P p₀ ⟨d, .extract x i,t,p,a,g⟩ E h K=rOp P ⟨d, .extract x i,t,p,a,g⟩ E h (kR K h):=Eq.trans rfl rfl
theorem TW {t:TypeId}   {g:Option (Nat × Bool)}   :cOp P p₀ ⟨d, .extract x i,t,p,a,g⟩ E h K=rOp P ⟨d, .extract x i,t,p,a,g⟩ E h K:=Eq.trans rfl rfl
end
end
section
open Go.RowKit
def sT0 (K:AV→Prop) (n:Nat) (o:Option (TypeId × Nat × List AV)):Prop:= ∃ te s l,o=some (te,s,l)∧K (if n=0 then .e0 else .t n s l)
def sX1 (P:Program) (h:Hp) (T:TypeId) (x:AV) (K:AV→Prop) (z:Option Int):Prop:= ∃ i,z=some i∧sA K (Ht P h T x i)
def sX2 (P:Program) (T:TypeId) (x:AV) (K:AV→Prop) (z:Option Int):Prop:= ∃ i,z=some i∧sA K (mD P T x i)
section
variable {P:Program} {p₀:AV→Hp→Prop} {E:Operand→AV} {h:Hp} {d:Option Tmp} {t:TypeId} {p:String} {a:Array Edge} {g:Option (Nat × Bool)}
variable {T:TypeId}{hi:Option Operand}{x:Operand}
theorem ace {lo:Option Operand} {K:AV→Prop}:rOp P ⟨d, .slice T x lo hi none,t,p,a,g⟩ E h K=sA K (sliceT P h T (E x) (lo.map E) (hi.map E)):=propext ⟨fun q=>q.2,fun q=>⟨rfl,q⟩⟩
theorem acf {lo:Option Operand} {K:AV→Prop}:cOp P p₀ ⟨d, .slice T x lo hi none,t,p,a,g⟩ E h K=rOp P ⟨d, .slice T x lo hi none,t,p,a,g⟩ E h K:=Eq.trans rfl rfl
variable {K:AV→Hp→Prop}
theorem acg {lo:Option Operand} :wOp P p₀ ⟨d, .slice T x lo hi none,t,p,a,g⟩ E h K=sO K (iG P h T (E x) (lo.map E) (hi.map E)):=propext ⟨fun q=>q.2,fun q=>⟨rfl,q⟩⟩
variable {i:Operand}
theorem KL {K:AV→Prop}:rOp P ⟨d, .indexAddr T x i,t,p,a,g⟩ E h K=sX1 P h T (E x) K (qC (E i)):=propext ⟨fun ⟨z,r,q1,q2,q3⟩=>⟨z,q1,r,q2,q3⟩,fun ⟨z,q1,r,q2,q3⟩=>⟨z,r,q1,q2,q3⟩⟩
theorem KN {K:AV→Prop}:cOp P p₀ ⟨d, .indexAddr T x i,t,p,a,g⟩ E h K=rOp P ⟨d, .indexAddr T x i,t,p,a,g⟩ E h K:=Eq.trans rfl rfl
theorem KO :wOp P p₀ ⟨d, .indexAddr T x i,t,p,a,g⟩ E h K=rOp P ⟨d, .indexAddr T x i,t,p,a,g⟩ E h (kR K h):=Eq.trans rfl rfl
theorem ach {K:AV→Prop}:rOp P ⟨d, .index T x i,t,p,a,g⟩ E h K=sX2 P T (E x) K (qC (E i)):=propext ⟨fun ⟨z,r,q1,q2,q3⟩=>⟨z,q1,r,q2,q3⟩,fun ⟨z,q1,r,q2,q3⟩=>⟨z,r,q1,q2,q3⟩⟩
theorem aci {K:AV→Prop}:cOp P p₀ ⟨d, .index T x i,t,p,a,g⟩ E h K=rOp P ⟨d, .index T x i,t,p,a,g⟩ E h K:=Eq.trans rfl rfl
theorem acj :wOp P p₀ ⟨d, .index T x i,t,p,a,g⟩ E h K=rOp P ⟨d, .index T x i,t,p,a,g⟩ E h (kR K h):=Eq.trans rfl rfl
variable {l1 l2:List Operand}
theorem agW {f:Fn}  {K:AV→Prop}:rOp P ⟨d, .makeFunc f l1.toArray l2.toArray,t,p,a,g⟩ E h K=K (.fn f (l1.map E) (l2.map E)):=Eq.trans rfl rfl
theorem agX {f:Fn}  {K:AV→Prop}:cOp P p₀ ⟨d, .makeFunc f l1.toArray l2.toArray,t,p,a,g⟩ E h K=K (.fn f (l1.map E) (l2.map E)):=Eq.trans rfl rfl
theorem agY {f:Fn}  :wOp P p₀ ⟨d, .makeFunc f l1.toArray l2.toArray,t,p,a,g⟩ E h K=K (.fn f (l1.map E) (l2.map E)) h:=Eq.trans rfl rfl
theorem len_eq {K:AV→Prop}:uD P ⟨.builtin .len, #[x], #[T]⟩ E h K=sL K (EM P h T (E x)):=propext ⟨fun ⟨_,n,q1,_,q2⟩=>⟨n,q1,q2⟩,fun ⟨n,q1,q2⟩=>⟨rfl,n,q1,rfl,q2⟩⟩
theorem q_len {K:AV→Prop}:cOp P p₀ ⟨d, .call ⟨.builtin .len, #[x], #[T]⟩,t,p,a,g⟩ E h K=sL K (EM P h T (E x)):=len_eq
theorem akv :wOp P p₀ ⟨d, .call ⟨.builtin .len, #[x], #[T]⟩,t,p,a,g⟩ E h K=sL (kR K h) (EM P h T (E x)):=len_eq (K:=kR K h)
variable {l:List Operand}{tt:Array TypeId}
theorem akw {K:AV→Prop}:cOp P p₀ ⟨d, .call ⟨.builtin .max,l.toArray,tt⟩,t,p,a,g⟩ E h K=sA K (mmA true (l.map E)):=Eq.trans rfl rfl
theorem akx :wOp P p₀ ⟨d, .call ⟨.builtin .max,l.toArray,tt⟩,t,p,a,g⟩ E h K=sA (kR K h) (mmA true (l.map E)):=Eq.trans rfl rfl
theorem aky {K:AV→Prop}:cOp P p₀ ⟨d, .call ⟨.builtin .min,l.toArray,tt⟩,t,p,a,g⟩ E h K=sA K (mmA false (l.map E)):=Eq.trans rfl rfl
theorem akz :wOp P p₀ ⟨d, .call ⟨.builtin .min,l.toArray,tt⟩,t,p,a,g⟩ E h K=sA (kR K h) (mmA false (l.map E)):=Eq.trans rfl rfl
variable {U:TypeId}{y:Operand}
theorem WU :wOp P p₀ ⟨d, .call ⟨.builtin .append, #[x,y], #[T,U]⟩,t,p,a,g⟩ E h K=sO K (nJ P h T U (E x) (E y)):=propext ⟨fun ⟨_,_,q⟩=>q,fun q=>⟨rfl,rfl,q⟩⟩
theorem agZ :wOp P p₀ ⟨d, .call ⟨.builtin .copy, #[x,y], #[T,U]⟩,t,p,a,g⟩ E h K=sO K (zD P h T U (E x) (E y)):=propext ⟨fun ⟨_,_,q⟩=>q,fun q=>⟨rfl,rfl,q⟩⟩
theorem ag0 {f:Operand}   :wOp P p₀ ⟨d, .call ⟨.value f,l.toArray,tt⟩,t,p,a,g⟩ E h K=Dc P p₀ K h (E f) (l.map E):=Eq.trans rfl rfl
theorem ag1 {f:Operand}   {K:AV→Prop}:cOp P p₀ ⟨d, .call ⟨.value f,l.toArray,tt⟩,t,p,a,g⟩ E h K=Qr P p₀ K h (E f) (l.map E):=Eq.trans rfl rfl
theorem akA {n:Nat} {l:List (Nat × Operand)} {K:AV→Prop}:cOp P p₀ ⟨d, .buildSlice T n l.toArray,t,p,a,g⟩ E h K=sT0 K n (zZ P h T n (l.map fun p=>(p.1,E p.2))):=Eq.trans rfl rfl
theorem WV {K:AV→Prop}:cOp P p₀ ⟨d, .call ⟨.builtin .append, #[x,y], #[T,U]⟩,t,p,a,g⟩ E h K=sA K (Kq P h T U (E x) (E y)):=propext ⟨fun ⟨_,_,q⟩=>q,fun q=>⟨rfl,rfl,q⟩⟩
theorem akB {n:Nat} {l:List (Nat × Operand)} :wOp P p₀ ⟨d, .buildSlice T n l.toArray,t,p,a,g⟩ E h K=sS K h n (zZ P h T n (l.map fun p=>(p.1,E p.2))):=Eq.trans rfl rfl
theorem acn :wOp P p₀ ⟨d, .alloc T,t,p,a,g⟩ E h K=sZ K h (aA P T):=Eq.trans rfl rfl
theorem akC :wOp P p₀ ⟨d, .box T x,t,p,a,g⟩ E h K=sB K h (cellsA h (E x)):=Eq.trans rfl rfl
theorem aco :wOp P p₀ ⟨d, .store T x y,t,p,a,g⟩ E h K=sH K (uO P h T (E x) (E y)):=Eq.trans rfl rfl
theorem ag2 :wOp P p₀ ⟨d, .makeSlice T x y,t,p,a,g⟩ E h K=sI P T K h (qC (E x)) (qC (E y)):=Eq.trans rfl rfl
end
section
variable {P:Program} {p₀:AV→Hp→Prop} {N:Nat} {L:List Nat} {ks:List (Nat × Nat)}
theorem nN {α:Type} {x:α} {K:α→Prop}:(∃ r,some x=some r∧K r)=K x:=propext ⟨fun ⟨r,h1,h2⟩=>by injection h1 with h1;subst h1;exact h2,fun h=>⟨x,rfl,h⟩⟩
variable {v:Value}
theorem acp {K:AV→Prop} :sV K (some v)=K (.v v):=nN (K:=fun r=>K (.v r))
theorem acr {K:AV→Prop} {v:AV}:sA K (some v)=K v:=nN
variable {l:List AV}
theorem acs {K:AV→Prop} :sG K (some l)=K (.g l):=nN (K:=fun r=>K (.g r))
variable {h:Hp}
theorem Qs {K:AV→Hp→Prop} {v:AV} :sO K (some (v,h))=K v h:=propext ⟨fun ⟨r,h',h1,h2⟩=>by injection h1 with h1;injection h1 with e1 e2;subst e1 e2;exact h2,fun q=>⟨v,h,rfl,q⟩⟩
theorem acu {K:AV→Hp→Prop} {v:AV} :sE K (some (v,h))=K v h:=Qs
theorem acv {K:AV→Hp→Prop} :sH K (some h)=K .none h:=nN (K:=fun r=>K .none r)
theorem acw {K:AV→Hp→Prop}  {z:Value}:sZ K h (some z)=K (.ptr h.length 0) (h++[some (.blk (fV z))]):=propext ⟨fun ⟨r,h1,h2⟩=>by injection h1 with h1;subst h1;exact h2,fun q=>⟨z,rfl,q⟩⟩
theorem acy {K:AV→Hp→Prop}  {z:List AV}:sB K h (some z)=K (.ptr h.length 0) (h++[some (.blk z)]):=propext ⟨fun ⟨r,h1,h2⟩=>by injection h1 with h1;subst h1;exact h2,fun q=>⟨z,rfl,q⟩⟩
variable {n s:Nat}{te:TypeId}
theorem acz {K:AV→Hp→Prop}     :sS K h n (some (te,s,l))=K (.own h.length n) (h++[some (.arr te s l 0)]):=propext ⟨fun ⟨_,_,_,h1,h2⟩=>by injection h1 with h1;injection h1 with e1 h1;injection h1 with e2 e3;subst e1 e2 e3;exact h2,fun q=>⟨te,s,l,rfl,q⟩⟩
theorem acA {K:AV→Prop}    :sT K n (some (te,s,l))=K (.t n s l):=propext ⟨fun ⟨_,_,_,h1,h2⟩=>by injection h1 with h1;injection h1 with e1 h1;injection h1 with e2 e3;subst e1 e2 e3;exact h2,fun q=>⟨te,s,l,rfl,q⟩⟩
theorem WW {K:AV→Prop}    :sT0 K n (some (te,s,l))=K (if n=0 then .e0 else .t n s l):=propext ⟨fun ⟨_,_,_,h1,h2⟩=>by injection h1 with h1;injection h1 with e1 h1;injection h1 with e2 e3;subst e1 e2 e3;exact h2,fun q=>⟨te,s,l,rfl,q⟩⟩
variable {T:TypeId}
theorem acB {K:AV→Hp→Prop}  {zl zc:Int}:sI P T K h (some zl) (some zc)=sS K h zl.toNat (wo P T zl zc):=propext ⟨fun ⟨_,_,te,s,l,h1,h2,h3,h4⟩=>by injection h1 with h1;injection h2 with h2;subst h1 h2;exact ⟨te,s,l,h3,h4⟩,fun ⟨te,s,l,h3,h4⟩=>⟨_,_,te,s,l,rfl,rfl,h3,h4⟩⟩
variable {x:AV}
theorem WX {K:AV→Prop} {i:Int}:sX1 P h T x K (some i)=sA K (Ht P h T x i):=nN (K:=fun i=>sA K (Ht P h T x i))
theorem WY {K:AV→Prop} {i:Int}:sX2 P T x K (some i)=sA K (mD P T x i):=nN (K:=fun i=>sA K (mD P T x i))
theorem acC {K:AV→Prop} :sN K x (some false)=K x:=propext ⟨fun q=>q.2,fun q=>⟨rfl,q⟩⟩
theorem acD {K:AV→Prop} :sL K (some n)=K (.v (.int .i64 n)):=nN (K:=fun n:Nat=>K (.v (.int .i64 n)))
theorem ag3 {K:AV→Prop} {y:AV}:sP K (.v (.bool true)) x y=K x:=propext ⟨fun ⟨t,h1,h2⟩=>by cases h1;exact h2,fun q=>⟨true,rfl,q⟩⟩
theorem ag4 {K:AV→Prop} {y:AV}:sP K (.v (.bool false)) x y=K y:=propext ⟨fun ⟨t,h1,h2⟩=>by cases h1;exact h2,fun q=>⟨false,rfl,q⟩⟩
variable {e:Ev}
theorem ag5 {a b:Code} {Q:dw}  :sC P N L ks a b Q e h (.v (.bool true))=bK P N L ks a Q e h:=propext ⟨fun ⟨t,h1,h2⟩=>by cases h1;exact h2,fun q=>⟨true,rfl,q⟩⟩
theorem ag6 {a b:Code} {Q:dw}  :sC P N L ks a b Q e h (.v (.bool false))=bK P N L ks b Q e h:=propext ⟨fun ⟨t,h1,h2⟩=>by cases h1;exact h2,fun q=>⟨false,rfl,q⟩⟩
variable {all r:List Oper}{d:Option Tmp}{o:Oper}
theorem WZ {K:Ev→Hp→Prop}:sW P p₀ all o r d e h K true (.v (.bool true))=wOp P p₀ o (dK e) h (kO P p₀ all r d e K):=propext ⟨fun ⟨t,h1,h2⟩=>by injection h1 with h1;subst h1;simpa using h2,fun q=>⟨_,rfl,by simpa using q⟩⟩
theorem W9 {K:Ev→Hp→Prop}:sW P p₀ all o r d e h K true (.v (.bool false))=ig P p₀ all r (bP e d (.v undef)) h K:=propext ⟨fun ⟨t,h1,h2⟩=>by injection h1 with h1;subst h1;simpa using h2,fun q=>⟨_,rfl,by simpa using q⟩⟩
theorem Xa {K:Ev→Hp→Prop}:sW P p₀ all o r d e h K false (.v (.bool true))=ig P p₀ all r (bP e d (.v undef)) h K:=propext ⟨fun ⟨t,h1,h2⟩=>by injection h1 with h1;subst h1;simpa using h2,fun q=>⟨_,rfl,by simpa using q⟩⟩
theorem Xb {K:Ev→Hp→Prop}:sW P p₀ all o r d e h K false (.v (.bool false))=wOp P p₀ o (dK e) h (kO P p₀ all r d e K):=propext ⟨fun ⟨t,h1,h2⟩=>by injection h1 with h1;subst h1;simpa using h2,fun q=>⟨_,rfl,by simpa using q⟩⟩
variable {q:Prop}
theorem acE {K:Ev→Hp→Prop}  [Decidable q] (hq: ¬ q):sW P p₀ all o r d e h K true (.v (.bool (decide q)))=ig P p₀ all r (bP e d (.v undef)) h K:=by rw [aj hq];exact W9
theorem acF {K:Ev→Hp→Prop}  [Decidable q] (hq:q):sW P p₀ all o r d e h K true (.v (.bool (decide q)))=wOp P p₀ o (dK e) h (kO P p₀ all r d e K):=by rw [ah hq];exact WZ
theorem acG {K:Ev→Hp→Prop}  [Decidable q] (hq: ¬ q):sW P p₀ all o r d e h K true (.v (.bool (!decide q)))=wOp P p₀ o (dK e) h (kO P p₀ all r d e K):=by rw [aj hq];exact WZ
theorem acH {K:Ev→Hp→Prop}  [Decidable q] (hq:q):sW P p₀ all o r d e h K true (.v (.bool (!decide q)))=ig P p₀ all r (bP e d (.v undef)) h K:=by rw [ah hq];exact W9
theorem acI {K:Ev→Hp→Prop}  [Decidable q] (hq: ¬ q):sW P p₀ all o r d e h K false (.v (.bool (decide q)))=wOp P p₀ o (dK e) h (kO P p₀ all r d e K):=by rw [aj hq];exact Xb
theorem acJ {K:Ev→Hp→Prop}  [Decidable q] (hq:q):sW P p₀ all o r d e h K false (.v (.bool (decide q)))=ig P p₀ all r (bP e d (.v undef)) h K:=by rw [ah hq];exact Xa
theorem acK {K:Ev→Hp→Prop}  [Decidable q] (hq: ¬ q):sW P p₀ all o r d e h K false (.v (.bool (!decide q)))=ig P p₀ all r (bP e d (.v undef)) h K:=by rw [aj hq];exact Xa
theorem acL {K:Ev→Hp→Prop}  [Decidable q] (hq:q):sW P p₀ all o r d e h K false (.v (.bool (!decide q)))=wOp P p₀ o (dK e) h (kO P p₀ all r d e K):=by rw [ah hq];exact Xb
theorem akD {K:Ev→Hp→Prop} {w:Bool}:sW P p₀ all o r d e h K w (.v undef)=ig P p₀ all r (bP e d (.v undef)) h K:=propext ⟨fun ⟨t,h1,h2⟩=>by injection h1 with h1;subst h1;simpa using h2,fun q=>⟨_,rfl,by simpa using q⟩⟩
variable {K:Ev→List (Tmp × Value)→Prop}{al:List (Tmp × Value)}
theorem akE {w:Bool}:sY P p₀ all h o r d e al K w (.v undef)=dL P p₀ all h r (bP e d (.v undef)) al K:=propext ⟨fun ⟨t,h1,h2⟩=>by injection h1 with h1;subst h1;simpa using h2,fun q=>⟨_,rfl,by simpa using q⟩⟩
theorem Xc :sY P p₀ all h o r d e al K true (.v (.bool true))=cOp P p₀ o (dK e) h (kH P p₀ all h r d e al K):=propext ⟨fun ⟨t,h1,h2⟩=>by injection h1 with h1;subst h1;simpa using h2,fun q=>⟨_,rfl,by simpa using q⟩⟩
theorem Xd :sY P p₀ all h o r d e al K true (.v (.bool false))=dL P p₀ all h r (bP e d (.v undef)) al K:=propext ⟨fun ⟨t,h1,h2⟩=>by injection h1 with h1;subst h1;simpa using h2,fun q=>⟨_,rfl,by simpa using q⟩⟩
theorem Xe :sY P p₀ all h o r d e al K false (.v (.bool true))=dL P p₀ all h r (bP e d (.v undef)) al K:=propext ⟨fun ⟨t,h1,h2⟩=>by injection h1 with h1;subst h1;simpa using h2,fun q=>⟨_,rfl,by simpa using q⟩⟩
theorem Xf :sY P p₀ all h o r d e al K false (.v (.bool false))=cOp P p₀ o (dK e) h (kH P p₀ all h r d e al K):=propext ⟨fun ⟨t,h1,h2⟩=>by injection h1 with h1;subst h1;simpa using h2,fun q=>⟨_,rfl,by simpa using q⟩⟩
theorem acM [Decidable q] (hq: ¬ q):sY P p₀ all h o r d e al K true (.v (.bool (decide q)))=dL P p₀ all h r (bP e d (.v undef)) al K:=by rw [aj hq];exact Xd
theorem acN [Decidable q] (hq:q):sY P p₀ all h o r d e al K true (.v (.bool (decide q)))=cOp P p₀ o (dK e) h (kH P p₀ all h r d e al K):=by rw [ah hq];exact Xc
theorem acO [Decidable q] (hq: ¬ q):sY P p₀ all h o r d e al K true (.v (.bool (!decide q)))=cOp P p₀ o (dK e) h (kH P p₀ all h r d e al K):=by rw [aj hq];exact Xc
theorem acP [Decidable q] (hq:q):sY P p₀ all h o r d e al K true (.v (.bool (!decide q)))=dL P p₀ all h r (bP e d (.v undef)) al K:=by rw [ah hq];exact Xd
theorem acQ [Decidable q] (hq: ¬ q):sY P p₀ all h o r d e al K false (.v (.bool (decide q)))=cOp P p₀ o (dK e) h (kH P p₀ all h r d e al K):=by rw [aj hq];exact Xf
theorem acR [Decidable q] (hq:q):sY P p₀ all h o r d e al K false (.v (.bool (decide q)))=dL P p₀ all h r (bP e d (.v undef)) al K:=by rw [ah hq];exact Xe
theorem acS [Decidable q] (hq: ¬ q):sY P p₀ all h o r d e al K false (.v (.bool (!decide q)))=dL P p₀ all h r (bP e d (.v undef)) al K:=by rw [aj hq];exact Xe
theorem acT [Decidable q] (hq:q):sY P p₀ all h o r d e al K false (.v (.bool (!decide q)))=cOp P p₀ o (dK e) h (kH P p₀ all h r d e al K):=by rw [ah hq];exact Xf
theorem ag7 {K:AV→Prop} {y:AV}  [Decidable q] (hq: ¬ q):sP K (.v (.bool (decide q))) x y=K y:=by rw [aj hq];exact ag4
theorem ag8 {K:AV→Prop} {y:AV}  [Decidable q] (hq:q):sP K (.v (.bool (decide q))) x y=K x:=by rw [ah hq];exact ag3
theorem ag9 {K:AV→Prop} {y:AV}  [Decidable q] (hq: ¬ q):sP K (.v (.bool (!decide q))) x y=K x:=by rw [aj hq];exact ag3
theorem aha {K:AV→Prop} {y:AV}  [Decidable q] (hq:q):sP K (.v (.bool (!decide q))) x y=K y:=by rw [ah hq];exact ag4
variable {Q:AV→Hp→Prop}
theorem acU {r:AV}:sF Q h (some r)=sE Q (eu h r):=nN (K:=fun r=>sE Q (eu h r))
variable {p:AV→Hp→Prop}{rs:Array ResultVar}
theorem afI :EP P rs Q p .normal e h=sF Q h (uU P h e rs):=propext ⟨fun ⟨r,r',h',h1,h2,h3⟩=>⟨r,h1,r',h',h2,h3⟩,fun ⟨r,h1,r',h',h2,h3⟩=>⟨r,r',h',h1,h2,h3⟩⟩
theorem akF :EP P rs Q p .ret e h=sF Q h (uU P h e rs):=afI (p:=p)
variable {a:AV}
theorem akG :EP P rs Q p (.panic a) e h=sE p (eu h a):=propext ⟨fun ⟨r',h',h2,h3⟩=>⟨r',h',h2,h3⟩,fun ⟨r',h',h2,h3⟩=>⟨r',h',h2,h3⟩⟩
theorem fin0 :Fin P rs Q .normal e h=sF Q h (uU P h e rs):=propext ⟨fun ⟨r,r',h',h1,h2,h3⟩=>⟨r,h1,r',h',h2,h3⟩,fun ⟨r,h1,r',h',h2,h3⟩=>⟨r,r',h',h1,h2,h3⟩⟩
theorem fin1 :Fin P rs Q .ret e h=sF Q h (uU P h e rs):=fin0
def acV:Option (List AV)→Option AV
 | some [a]=>some a
 | some l=>some (.tup l)
 | none=>none
theorem acW {rs:List ResultVar}  :uU P h e rs.toArray=acV (oU P h e rs):=by
 show (match oU P h e rs with | some [a]=>some a | some l=>some (.tup l) | none=>none)=_;cases oU P h e rs with
 | none=>rfl
 | some l=>match l with
  | []=>rfl
  | [_]=>rfl
  | _::_::_=>rfl
theorem akH :acV (some [a])=some a:=Eq.trans rfl rfl
theorem akI:acV (some [])=some (.tup []):=Eq.trans rfl rfl
theorem akJ {b:AV} :acV (some (a::b::l))=some (.tup (a::b::l)):=Eq.trans rfl rfl
theorem Xg :oU P h e []=some []:=Eq.trans rfl rfl
theorem Xh {t:Tmp} {r:List ResultVar}:oU P h e (.tmp t::r)=(oU P h e r).map (fun l=>aO e t::l):=Eq.trans rfl rfl
def ahb:Option AV→Option (List AV)→Option (List AV)
 | some a,some l=>some (a::l)
 | _,_=>none
theorem TY :ahb (some a) (some l)=some (a::l):=Eq.trans rfl rfl
theorem akK {a b:Code} {Q:dw}    [Decidable q] (hq:q):sC P N L ks a b Q e h (.v (.bool (decide q)))=bK P N L ks a Q e h:=by rw [ah hq];exact ag5
theorem anJ {a b:Code} {Q:dw}    [Decidable q] (hq: ¬ q):sC P N L ks a b Q e h (.v (.bool (decide q)))=bK P N L ks b Q e h:=by rw [aj hq];exact ag6
theorem akL {a b:Code} {Q:dw}    [Decidable q] (hq:q):sC P N L ks a b Q e h (.v (.bool (!decide q)))=bK P N L ks b Q e h:=by rw [ah hq];exact ag6
theorem anK {a b:Code} {Q:dw}    [Decidable q] (hq: ¬ q):sC P N L ks a b Q e h (.v (.bool (!decide q)))=bK P N L ks a Q e h:=by rw [aj hq];exact ag5
theorem Ua {d:Tmp}:Oc e (some d)=aO e d:=Eq.trans rfl rfl
theorem Xi {d:Tmp} :bP e (some d) a=(d,a)::e:=Eq.trans rfl rfl
theorem Xj :bP e none a=e:=Eq.trans rfl rfl
theorem get_nil {d:Tmp}:aO [] d= .none:=Eq.trans rfl rfl
theorem Xk {k d:Tmp}  {r:Ev}:aO ((k,a)::r) d=if k=d then a else aO r d:=Eq.trans rfl rfl
theorem ahc {d:Tmp}:dK e (.tmp d)=aO e d:=Eq.trans rfl rfl
theorem Xl :dK e (.const v)= .v v:=Eq.trans rfl rfl
theorem acX {f:FuncId}:dK e (.func f)= .fn (.func f) [] []:=Eq.trans rfl rfl
theorem Ub {g:Nat}:dK e (.global g)= .v (.pointer (some ⟨g,0,none⟩)):=Eq.trans rfl rfl
theorem Xm :lN [] e=[]:=Eq.trans rfl rfl
theorem Uc {d:Nat} {L:List Nat}:lN (d::L) e=(d,aO e d)::lN L e:=Eq.trans rfl rfl
theorem Xn {i k d:Nat} {r:List (Nat × Nat)}:kOf ((i,k)::r) d=if i=d then k else kOf r d:=Eq.trans rfl rfl
theorem acY {d:Nat}:kOf [] d=0:=Eq.trans rfl rfl
theorem Xo {α:Type} {l:List α}:l.toArray.toList=l:=Eq.trans rfl rfl
theorem acZ {k:Nat}:qN k []=[]:=Eq.trans rfl rfl
theorem Xp {k:Nat}  {r:List AV}:qN k (a::r)=(k,a)::qN (k+1) r:=Eq.trans rfl rfl
theorem ahd :eF n [] e=e:=Eq.trans rfl rfl
theorem ac0 {d:Tmp} {z:Value} {r:List (Tmp × Value)}:eF n ((d,z)::r) e=(d, .ptr n 0)::eF (n+1) r e:=Eq.trans rfl rfl
theorem Xq {d:Tmp} {z:Value}:nM (d,z)=some (.blk (fV z)):=Eq.trans rfl rfl
variable {k:IntKind}{z:Int}
theorem ac1 :qC (.v (.int k z))=some z:=Eq.trans rfl rfl
variable {k':IntKind}{op:BinOp}{y:Int}
theorem ac2 {x:Int}:qK P h op T (.v (.int k x)) (.v (.int k' y))=jP op (.int k x) (.int k' y):=Eq.trans rfl rfl
theorem ac3 {x y:ByteArray}:qK P h op T (.v (.string x)) (.v (.string y))=jP op (.string x) (.string y):=Eq.trans rfl rfl
variable {b:Bool}
theorem ahe :pV .eql b=some (.bool b):=Eq.trans rfl rfl
theorem ahf :pV .neq b=some (.bool (!b)):=Eq.trans rfl rfl
theorem akM {x:Int}:jP .add (.int k x) (.int k y)=some (.int k (k.wrap (x+y))):=if_pos rfl
theorem akN {x:Int}:jP .sub (.int k x) (.int k y)=some (.int k (k.wrap (x - y))):=if_pos rfl
theorem akO {x:Int}:jP .mul (.int k x) (.int k y)=some (.int k (k.wrap (x*y))):=if_pos rfl
theorem akP {x:Int} (hy:y≠0):jP .quo (.int k x) (.int k y)=some (.int k (k.wrap (x.tdiv y))):=if_pos ⟨rfl,hy⟩
theorem akQ {x:Int} (hy:y≠0):jP .rem (.int k x) (.int k y)=some (.int k (x.tmod y)):=if_pos ⟨rfl,hy⟩
theorem akR {x:Int} (hy:0≤y):jP .shl (.int k x) (.int k' y)=some (.int k (k.wrap (x*2 ^ (min y.toNat k.bits)))):=if_pos hy
theorem akS {x:Int} (hy:0≤y):jP .shr (.int k x) (.int k' y)=some (.int k (x.fdiv (2 ^ (min y.toNat k.bits)))):=if_pos hy
theorem akT {x:Int}:jP .and (.int k x) (.int k y)=some (.int k (k.wrap (BitVec.ofInt k.bits x &&& BitVec.ofInt k.bits y).toNat)):=if_pos rfl
theorem anL {x:Int}:jP .or (.int k x) (.int k y)=some (.int k (k.wrap (BitVec.ofInt k.bits x ||| BitVec.ofInt k.bits y).toNat)):=if_pos rfl
theorem akU {x:Int}:jP .xor (.int k x) (.int k y)=some (.int k (k.wrap (BitVec.ofInt k.bits x ^^^ BitVec.ofInt k.bits y).toNat)):=if_pos rfl
theorem akV {x:Int}:jP .eql (.int k x) (.int k y)=some (.bool (decide (x=y))):=if_pos rfl
theorem akW {x:Int}:jP .neq (.int k x) (.int k y)=some (.bool (!decide (x=y))):=if_pos rfl
theorem akX {x:Int}:jP .lss (.int k x) (.int k y)=some (.bool (decide (x<y))):=if_pos rfl
theorem akY {x:Int}:jP .leq (.int k x) (.int k y)=some (.bool (decide (x≤y))):=if_pos rfl
theorem akZ {x:Int}:jP .gtr (.int k x) (.int k y)=some (.bool (decide (y<x))):=if_pos rfl
theorem ak0 {x:Int}:jP .geq (.int k x) (.int k y)=some (.bool (decide (y≤x))):=if_pos rfl
theorem ak1 {x y:ByteArray} (hs:x.size+y.size≤9223372036854775807):jP .add (.string x) (.string y)=some (.string (x++y)):=if_pos hs
theorem ak2 {x y:ByteArray}:jP .eql (.string x) (.string y)=some (.bool (decide (x=y))):=Eq.trans rfl rfl
theorem ak3 {x y:ByteArray}:jP .neq (.string x) (.string y)=some (.bool (!decide (x=y))):=Eq.trans rfl rfl
theorem ak4 :unA .not (.v (.bool b))=some (.bool (!b)):=Eq.trans rfl rfl
theorem ak5 :unA .neg (.v (.int k z))=some (.int k (k.wrap (0 - z))):=Eq.trans rfl rfl
theorem ahg {i:Nat}:FB (.tup l) i=l[i]? :=Eq.trans rfl rfl
theorem ahh {x:Int}:mmA true [.v (.int k x), .v (.int k' y)]=some (.v (.int k (if y>x then y else x))):=Eq.trans rfl rfl
theorem ahi {x:Int}:mmA false [.v (.int k x), .v (.int k' y)]=some (.v (.int k (if y<x then y else x))):=Eq.trans rfl rfl
theorem w64 {x:Int} (h1: -9223372036854775808≤x) (h2:x≤9223372036854775807):IntKind.i64.wrap x=x:=by rw [IntKind.wrap_i64];omega
theorem anM {x:Int} (h1:0≤x) (h2:x≤4294967295):IntKind.u32.wrap x=x:=by rw [IntKind.wrap_u32];omega
theorem wu64 {x:Int} (h1:0≤x) (h2:x≤18446744073709551615):IntKind.u64.wrap x=x:=by rw [IntKind.wrap_u64];omega
theorem wu8 {x:Int} (h1:0≤x) (h2:x≤255):IntKind.u8.wrap x=x:=by rw [IntKind.wrap_u8];omega
theorem Xr:IntKind.u32.bits=32:=Eq.trans rfl rfl
theorem Xt:IntKind.u64.bits=64:=Eq.trans rfl rfl
theorem Xu:IntKind.i64.bits=64:=Eq.trans rfl rfl
theorem ac4:IntKind.u8.bits=8:=Eq.trans rfl rfl
def tab (n:Nat) (f:Nat→AV):List AV:=(List.range n).map f
theorem iJ {f:Nat→AV}:(tab n f).length=n:=by simp [tab]
theorem jq {k:Nat} {f:Nat→AV} (hk:k<n):(tab n f)[k]? =some (f k):=by simp [tab,hk]
theorem dA {k:Nat} {f:Nat→AV} :(tab n f).set k x=tab n (fun i=>if i=k then x else f i):=by
 apply List.ext_getElem?;intro i;by_cases hi:i<n
 ·rw [jq hi,List.getElem?_set];by_cases e:k=i
  ·subst e;simp [iJ,hi]
  ·simp [e,jq hi,show i≠k from fun e'=>e e'.symm]
 ·simp [tab,hi]
theorem Xv {f:Nat→Int}:intsOf (tab n fun i=> .v (.int .u8 (f i)))=some ((List.range n).map f):=by
 unfold tab;generalize List.range n=l;induction l with
 | nil=>rfl
 | cons a r ih=>
  simp only [List.map_cons];show (intsOf (r.map _)).map _=_;rw [ih];rfl
theorem aP {f f':Nat→AV} (h: ∀ i,i<n→f i=f' i):tab n f=tab n f':=by
 apply List.ext_getElem?;intro i;by_cases hi:i<n
 ·rw [jq hi,jq hi,h i hi]
 ·simp [tab,hi]
theorem ld :qF P h T a=(behind h a).bind (takeA P T):=Eq.trans rfl rfl
def ahj (off:Nat):Option (Option Ob)→Option (List AV)
 | some (some (.blk cells))=>some (cells.drop off)
 | _=>none
variable {id off:Nat}
theorem ahk :behind h (.ptr id off)=ahj off h[id]? :=by
 show (match h[id]? with | some (some (.blk cells))=>some (cells.drop off) | _=>none)=_;unfold ahj;rfl
theorem Ud :ahj off (some (some (.blk l)))=some (l.drop off):=Eq.trans rfl rfl
def ac5 (n off:Nat):Option (Option Ob)→Option (List AV)
 | some (some (.arr _ s cells _))=>if cells.length=n*s then some (cells.drop off) else none
 | _=>none
theorem ak6 :behind h (.ap id n off)=ac5 n off h[id]? :=by
 show (match h[id]? with | some (some (.arr _ s cells _))=>if cells.length=n*s then some (cells.drop off) else none | _=>none)=_;unfold ac5;rfl
variable {fz:Nat}
theorem ak7 (hl:l.length=n):ac5 n off (some (some (.arr T 1 l fz)))=some (l.drop off):=if_pos (by omega)
theorem Ue (hl:l.length=n*s):ac5 n off (some (some (.arr T s l fz)))=some (l.drop off):=if_pos hl
theorem ak8 :behind h (.tp l)=some l:=Eq.trans rfl rfl
def Xw (n:Nat):Option (Option Ob)→Bool
 | some (some (.arr _ s cells _))=>decide (cells.length=n*s)
 | _=>false
def ahl:Option (Option Ob)→Bool
 | some (some (.blk _))=>true
 | _=>false
theorem qV :bQ h (.own id n)=Xw n h[id]? :=by
 show (match h[id]? with | some (some (.arr _ s cells _))=>decide (cells.length=n*s) | _=>false)=_;unfold Xw;rfl
theorem afJ :bQ h (.ap id n off)=Xw n h[id]? :=by
 show (match h[id]? with | some (some (.arr _ s cells _))=>decide (cells.length=n*s) | _=>false)=_;unfold Xw;rfl
theorem Xx :bQ h (.ptr id off)=ahl h[id]? :=by
 show (match h[id]? with | some (some (.blk _))=>true | _=>false)=_;unfold ahl;rfl
theorem FV :Xw n (some (some (.arr T s l fz)))=decide (l.length=n*s):=Eq.trans rfl rfl
theorem FW :ahl (some (some (.blk l)))=true:=Eq.trans rfl rfl
theorem ahm :cellsA h (.v (.int k z))=some [.v (.int k z)]:=Eq.trans rfl rfl
theorem ac6 :cellsA h (.v (.bool b))=some [.v (.bool b)]:=Eq.trans rfl rfl
theorem ahn {b:ByteArray}:cellsA h (.v (.string b))=some [.v (.string b)]:=Eq.trans rfl rfl
theorem ac7 :cellsA h (.v (.slice none 0 0))=some [.v (.slice none 0 0)]:=Eq.trans rfl rfl
theorem ac8 {q:Option Addr}:cellsA h (.v (.pointer q))=some [.v (.pointer q)]:=Eq.trans rfl rfl
theorem anN :cellsA h (.t n s l)=some [.t n s l]:=Eq.trans rfl rfl
theorem anO :cellsA h (.g l)=some l:=Eq.trans rfl rfl
theorem ak9 :cellsA h (.tp l)=some [.tp l]:=Eq.trans rfl rfl
variable {l2:List AV}
theorem ala {f:Fn} {l1:List AV}:cellsA h (.fn f l1 l2)=some [.fn f l1 l2]:=Eq.trans rfl rfl
theorem uX (h0:bQ h (.own id n)=true):cellsA h (.own id n)=some [.own id n]:=if_pos h0
theorem aho (h0:bQ h (.ptr id n)=true):cellsA h (.ptr id n)=some [.ptr id n]:=if_pos h0
theorem anP :kK h (.v v)=v.oneCell':=Eq.trans rfl rfl
theorem ahp :Value.oneCell' (.int k z)=true:=Eq.trans rfl rfl
theorem ac9 :Value.oneCell' (.bool b)=true:=Eq.trans rfl rfl
theorem ahq {b:ByteArray}:Value.oneCell' (.string b)=true:=Eq.trans rfl rfl
theorem Xy {q:Option Addr} {c:Nat}:Value.oneCell' (.slice q n c)=true:=Eq.trans rfl rfl
theorem ahr {q:Option Addr}:Value.oneCell' (.pointer q)=true:=Eq.trans rfl rfl
theorem anQ :kK h (.t n s l)=true:=Eq.trans rfl rfl
theorem alb :kK h (.tp l)=true:=Eq.trans rfl rfl
theorem alc {f:Fn} {l1:List AV}:kK h (.fn f l1 l2)=true:=Eq.trans rfl rfl
theorem ahs :kK h (.own id n)=bQ h (.own id n):=Eq.trans rfl rfl
theorem aht :kK h (.ptr id n)=bQ h (.ptr id n):=Eq.trans rfl rfl
def stB (h:Hp) (a:AV) (l:List AV):Option Nat→Bool→Option Hp
 | some n,true=>if n=l.length then match a with
   | .ptr id off=>match h[id]? with
    | some (some (.blk cells))=>if off+l.length≤cells.length then some (h.set id (some (.blk (dY cells off l)))) else none
    | _=>none
   | .ap id n off=>match h[id]? with
    | some (some (.arr T s cells fz))=>if cells.length=n*s∧fz≤off∧off+l.length≤cells.length then some (h.set id (some (.arr T s (dY cells off l) fz))) else none
    | _=>none
   | _=>none
  else none
 | _,_=>none
def stA (P:Program) (h:Hp) (T:TypeId) (a:AV):Option (List AV)→Option Hp
 | some l=>stB h a l (szP P T) (l.all (kK h))
 | none=>none
theorem st :uO P h T a x=stA P h T a (cellsA h x):=by
 unfold uO stA;cases cellsA h x with
 | none=>rfl
 | some l=>
  simp only [Option.bind_some];unfold stB;cases szP P T with
  | none=>rw [if_neg (by simp)]
  | some n=>
   cases hl:l.all (kK h) with
   | false=>rw [if_neg (by simp)]
   | true=>
    by_cases e:n=l.length
    ·subst e;rw [if_pos ⟨rfl,rfl⟩];simp only [if_true];rfl
    ·rw [if_neg (fun q=>e (by injection q.1))];simp only [e,if_false]
def stP (h:Hp) (id off:Nat) (l:List AV):Option (Option Ob)→Option Hp
 | some (some (.blk cells))=>if off+l.length≤cells.length then some (h.set id (some (.blk (dY cells off l)))) else none
 | _=>none
def stQ (h:Hp) (id n off:Nat) (l:List AV):Option (Option Ob)→Option Hp
 | some (some (.arr T s cells fz))=>if cells.length=n*s∧fz≤off∧off+l.length≤cells.length then some (h.set id (some (.arr T s (dY cells off l) fz))) else none
 | _=>none
theorem ahu (hn:n=l.length):stB h (.ptr id off) l (some n) true=stP h id off l h[id]? :=by
 show (if n=l.length then _ else _)=_;rw [if_pos hn];unfold stP;rfl
variable {m:Nat}
theorem ald (hn:n=l.length):stB h (.ap id m off) l (some n) true=stQ h id m off l h[id]? :=by
 show (if n=l.length then _ else _)=_;rw [if_pos hn];unfold stQ;rfl
theorem Xz {cells:List AV} (hl:off+l.length≤cells.length):stP h id off l (some (some (.blk cells)))=some (h.set id (some (.blk (dY cells off l)))):=if_pos hl
theorem ada {cells:List AV} (h1:cells.length=n) (h2:fz≤off) (h3:off<n):stQ h id n off [x] (some (some (.arr T 1 cells fz)))=some (h.set id (some (.arr T 1 (cells.set off x) fz))):=if_pos ⟨by omega,h2,by simp;omega⟩
theorem XA {cells:List AV} (h1:cells.length=n*s) (h2:fz≤off) (h3:off+l.length≤cells.length):stQ h id n off l (some (some (.arr T s cells fz)))=some (h.set id (some (.arr T s (dY cells off l) fz))):=if_pos ⟨h1,h2,h3⟩
theorem Uf {o:Nat}:dY l o []=l:=Eq.trans rfl rfl
theorem Oj {r:List AV} {o:Nat} :dY l o (a::r)=dY (l.set o a) (o+1) r:=Eq.trans rfl rfl
def sDz (P:Program) (all:List Oper) (h:Hp) (r:List Oper) (d:Tmp) (e:Ev) (al:List (Tmp × Value)) (K:Ev→List (Tmp × Value)→Prop):Option Value→Prop
 | some z=>dL P p₀ all h r ((d, .none)::e) (al++[(d,z)]) K
 | none=>False
theorem anR {d:Tmp}    :sD P p₀ all h r (some d) e al K T=sDz (p₀:=p₀) P all h r d e al K (aA P T):=by
 cases hz:aA P T with
 | none=>exact propext ⟨fun ⟨T',z',d',h1,h2,h3,h4⟩=>by injection h1 with h1;subst h1;rw [hz] at h3;(cases h3),fun q=>q.elim⟩
 | some z=>exact propext ⟨fun ⟨T',z',d',h1,h2,h3,h4⟩=>by injection h1 with h1;subst h1;injection h2 with h2;subst h2;rw [hz] at h3;injection h3 with h3;subst h3;exact h4,fun q=>⟨T,z,d,rfl,rfl,hz,q⟩⟩
theorem XB {d:Tmp}    {z:Value}:sDz (p₀:=p₀) P all h r d e al K (some z)=dL P p₀ all h r ((d, .none)::e) (al++[(d,z)]) K:=Eq.trans rfl rfl
def rsB (a:Option AV) (l:Option (List AV)):Option Nat→Option (List AV)
 | some 0=>none
 | _=>ahb a l
theorem Ug {t:Tmp}  {r:List ResultVar}:oU P h e (.cell t T::r)=rsB (qF P h T (aO e t)) (oU P h e r) (szP P T):=by
 simp only [oU];cases hs:szP P T with
 | none=>simp only [reduceCtorEq,if_false];cases qF P h T (aO e t)<;>cases oU P h e r<;>rfl
 | some n=>cases n with
  | zero=>rfl
  | succ n=>rw [if_neg (by simp)];cases qF P h T (aO e t)<;>cases oU P h e r<;>rfl
theorem XD {a:Option AV} {l:Option (List AV)}  (hn:n≠0):rsB a l (some n)=ahb a l:=by
 cases n with
 | zero=>exact absurd rfl hn
 | succ n=>rfl
def bB (op:BinOp) (x y:Bool):Bool→Option Value
 | true=>pV op (x==y)
 | false=>none
theorem XE {x y:Bool}:qK P h op T (.v (.bool x)) (.v (.bool y))=bB op x y (su P T):=by
 show (if su P T then _ else _)=_;cases su P T<;>rfl
theorem adb {x y:Bool}:bB op x y true=pV op (x==y):=Eq.trans rfl rfl
def bN (op:BinOp) (b:Option Bool):Bool→Option Value
 | true=>b.bind (pV op)
 | false=>none
def nP:Bool→Option Bool
 | true=>some false
 | false=>none
theorem ahv :mg h (.ptr id off)=nP (bQ h (.ptr id off)):=by
 show (if bQ h (.ptr id off)=true then some false else none)=_;cases bQ h (.ptr id off)<;>rfl
theorem ale :mg h (.ap id n off)=nP (bQ h (.ap id n off)):=by
 show (if bQ h (.ap id n off)=true then some false else none)=_;cases bQ h (.ap id n off)<;>rfl
theorem alf :mg h (.tp l)=some false:=Eq.trans rfl rfl
theorem anS {p:Option Addr}:mg h (.v (.pointer p))=some p.isNone:=Eq.trans rfl rfl
theorem ade:nP true=some false:=Eq.trans rfl rfl
theorem ahw :qK P h op T x (.t 1 1 [])=some (.int .i64 0):=Eq.trans rfl rfl
theorem XF :qK P h op T x (.v (.pointer none))=bN op (mg h x) (kL P T):=by
 show (if kL P T then _ else _)=_;cases kL P T<;>rfl
theorem XG :qK P h op T x (.v (.slice none 0 0))=bN op (zx h x) ((aH P T).isSome):=by
 show (if (aH P T).isSome then _ else _)=_;cases (aH P T).isSome<;>rfl
theorem alg {m:List AV}:qK P h op T x (.g m)=eqG P op T (cellsOf x) (some m):=Eq.trans rfl rfl
theorem adf {cs:Array Value}:qK P h op T x (.v (.agg cs))=eqG P op T (cellsOf x) (some (cs.toList.map .v)):=Eq.trans rfl rfl
def eqH (op:BinOp) (l m:Option (List AV)):Option (List FK)→Option Value
 | some ks=>match l,m with
  | some l,some m=>(eqL ks l m).bind (pV op)
  | _,_=>none
 | none=>none
theorem alh {l m:Option (List AV)}:eqG P op T l m=eqH op l m (uz P T):=by
 unfold eqG;cases uz P T<;>cases l<;>cases m<;>rfl
theorem XH {m:List AV} {ks:List FK}:eqH op (some l) (some m) (some ks)=(eqL ks l m).bind (pV op):=Eq.trans rfl rfl
theorem adg:eqL [] [] []=some true:=Eq.trans rfl rfl
theorem XI {k:FK} {ks:List FK} {b:AV} {m:List AV}:eqL (k::ks) (a::l) (b::m)=agb (eqC k a b) (eqL ks l m):=Eq.trans rfl rfl
theorem ali {a b:Int}:eqC .i (.v (.int k a)) (.v (.int k b))=some (decide (a=b)):=if_pos rfl
theorem alj {a:Bool}:eqC .b (.v (.bool a)) (.v (.bool b))=some (a==b):=Eq.trans rfl rfl
theorem alk {a b:ByteArray}:eqC .s (.v (.string a)) (.v (.string b))=some (decide (a=b)):=Eq.trans rfl rfl
theorem Uh {p q:Bool}:agb (some p) (some q)=some (p && q):=Eq.trans rfl rfl
theorem adh :bN op (some b) true=pV op b:=Eq.trans rfl rfl
def cvB (z:Int):Option IntKind→Bool→Option Value
 | some k,true=>some (.int k (k.wrap z))
 | _,_=>none
variable {u:TypeId}
theorem XJ {s:TypeId}  :iI P h s u (.v (.int k z))=cvB z (l9 P u) (P.underlying s).isSome:=by
 show (if (P.underlying s).isSome then _ else _)=_;cases (P.underlying s).isSome<;>cases l9 P u<;>rfl
def cvS (b:ByteArray):Bool→Bool→Option Value
 | true,true=>some (.string b)
 | _,_=>none
theorem XK {s:TypeId} {b:ByteArray}:iI P h s u (.v (.string b))=cvS b (dI P s) (dI P u):=by
 show (if _∧_ then _ else _)=_;cases dI P s<;>cases dI P u<;>simp [cvS]
theorem XL {b:ByteArray}:cvS b true true=some (.string b):=Eq.trans rfl rfl
def stD:Option IntKind→Bool→Option (List Int)→Option Value
 | some .u8,true,some ns=>some (.string (strOf ns))
 | _,_,_=>none
theorem adi {s:TypeId} {cells:List AV}:Hy P s u 1 cells=stD ((aH P s).bind (l9 P)) (dI P u) (intsOf cells):=by
 unfold Hy;cases h1:(aH P s).bind (l9 P) with
 | none=>rfl
 | some k=>cases k<;>cases dI P u<;>cases intsOf cells<;>rfl
theorem XM {ns:List Int}:stD (some .u8) true (some ns)=some (.string (strOf ns)):=Eq.trans rfl rfl
variable {sz:Nat}
theorem ahx {s:TypeId}  {cells:List AV} (hl:cells.length=n*sz):iI P h s u (.t n sz cells)=Hy P s u sz cells:=if_pos hl
def cvO (P:Program) (s u:TypeId) (n:Nat):Option (Option Ob)→Option Value
 | some (some (.arr _ sz cells _))=>if cells.length=n*sz then Hy P s u sz cells else none
 | _=>none
theorem XO {s:TypeId} :iI P h s u (.own id n)=cvO P s u n h[id]? :=by
 unfold iI cvO;rfl
theorem adk {s:TypeId}   {cells:List AV} (hl:cells.length=n):cvO P s u n (some (some (.arr T 1 cells fz)))=Hy P s u 1 cells:=if_pos (by omega)
theorem XP:intsOf []=some []:=Eq.trans rfl rfl
theorem XQ :cvB z (some k) true=some (.int k (k.wrap z)):=Eq.trans rfl rfl
def tkB (l:List AV):Option Bool→Option Nat→Option AV
 | some false,some _=>l[0]?
 | some true,some s=>if s≤l.length then some (.g (l.take s)) else none
 | _,_=>none
theorem tk :takeA P T l=tkB l (bg P T) (szP P T):=by
 unfold takeA tkB;cases bg P T with
 | none=>rfl
 | some b=>cases b<;>cases szP P T<;>rfl
theorem adl :tkB l (some false) (some s)=l[0]? :=Eq.trans rfl rfl
theorem adn (h:s≤l.length):tkB l (some true) (some s)=some (.g (l.take s)):=if_pos h
def ixD (id n:Nat) (z:Int) (s:Nat):Bool→Option AV
 | true=>if 0≤z∧z<n then some (.ap id n (z.toNat*s)) else none
 | false=>none
def ixC (h:Hp) (a:AV) (z:Int):Option Nat→Option AV
 | some s=>match a with
  | .t n s' cells=>if s'=s∧0≤z∧z<n then some (.tp (cells.drop (z.toNat*s))) else none
  | .own id n=>ixD id n z s (bQ h (.own id n))
  | _=>none
 | none=>none
def ixE (h:Hp) (a:AV) (z:Int) (n:Nat):Option Nat→Option AV
 | some s=>if 0≤z∧z<n then oh h a (z.toNat*s) else none
 | none=>none
def ixB (P:Program) (h:Hp) (a:AV) (z:Int):Option TypeId→Option (Nat × TypeId)→Option AV
 | some e,_=>ixC h a z (szP P e)
 | none,some (n,e)=>ixE h a z n (szP P e)
 | none,none=>none
theorem ix :Ht P h T a z=ixB P h a z (aH P T) (bJ P T):=by
 unfold Ht ixB;cases aH P T with
 | some e=>
  cases hs:szP P e with
  | none=>simp only [hs];rfl
  | some s=>
   simp only [hs,Option.bind_some];unfold ixC;cases a<;>first | rfl | skip
   ·next id n=>
    unfold ixD;cases hl:bQ h (.own id n) with
    | true=>simp [hl]
    | false=>simp [hl]
 | none=>
  cases bJ P T with
  | none=>rfl
  | some p=>obtain ⟨n,e⟩:=p;simp only;cases szP P e<;>rfl
theorem alm {e:TypeId} {o:Option (Nat × TypeId)}:ixB P h a z (some e) o=ixC h a z (szP P e):=Eq.trans rfl rfl
theorem aln {e:TypeId} :ixB P h a z none (some (n,e))=ixE h a z n (szP P e):=Eq.trans rfl rfl
theorem alo (h3:0≤z) (h4:z<n):ixC h (.t n s l) z (some s)=some (.tp (l.drop (z.toNat*s))):=if_pos ⟨rfl,h3,h4⟩
theorem ado :ixC h (.own id n) z (some s)=ixD id n z s (bQ h (.own id n)):=Eq.trans rfl rfl
theorem XT (h3:0≤z) (h4:z<n):ixD id n z s true=some (.ap id n (z.toNat*s)):=if_pos ⟨h3,h4⟩
theorem XU (h3:0≤z) (h4:z<n):ixE h a z n (some s)=oh h a (z.toNat*s):=if_pos ⟨h3,h4⟩
def shB (a:AV) (o:Nat):Bool→Option AV
 | true=>match a with
  | .ptr id off=>some (.ptr id (off+o))
  | .ap id n off=>some (.ap id n (off+o))
  | .tp cells=>some (.tp (cells.drop o))
  | _=>none
 | false=>none
theorem sh {o:Nat}:oh h a o=shB a o (bQ h a):=by
 unfold oh shB;cases bQ h a<;>rfl
theorem ahy {o:Nat}:shB (.ptr id off) o true=some (.ptr id (off+o)):=Eq.trans rfl rfl
theorem alp {o:Nat}:shB (.ap id n off) o true=some (.ap id n (off+o)):=Eq.trans rfl rfl
theorem alq {o:Nat}:shB (.tp l) o true=some (.tp (l.drop o)):=Eq.trans rfl rfl
theorem afK :bQ h (.tp l)=true:=Eq.trans rfl rfl
def lenD (n:Nat):Bool→Option Nat
 | true=>some n
 | false=>none
def Ui (h:Hp) (x:AV):Option TypeId→Bool→Option Nat
 | o,b=>match x with
  | .v (.string s)=>if b then some s.size else none
  | .t n _ _=>o.map fun _=>n
  | .own id n=>if bQ h (.own id n) then o.map fun _=>n else none
  | .v (.slice _ n _)=>o.map fun _=>n
  | _=>none
def pY (P:Program) (h:Hp) (T:TypeId) (x:AV):Option (Nat × TypeId)→Option Nat
 | some (n,_)=>some n
 | none=>Ui h x (aH P T) (dI P T)
theorem len :EM P h T x=pY P h T x (bJ P T):=by
 unfold EM pY;cases bJ P T<;>rfl
theorem adp {e:TypeId}  :pY P h T x (some (n,e))=some n:=Eq.trans rfl rfl
theorem ahz :pY P h T x none=Ui h x (aH P T) (dI P T):=Eq.trans rfl rfl
theorem alr {e:TypeId}   :Ui h (.t n s l) (some e) b=some n:=Eq.trans rfl rfl
theorem len_nil {e:TypeId} :Ui h (.v (.slice none 0 0)) (some e) b=some 0:=Eq.trans rfl rfl
theorem adq {e:TypeId}  :Ui h (.own id n) (some e) b=lenD n (bQ h (.own id n)):=by
 show (if bQ h (.own id n) then _ else _)=_;cases bQ h (.own id n)<;>rfl
theorem Uj :lenD n true=some n:=Eq.trans rfl rfl
theorem adr {o:Option TypeId} {s:ByteArray}:Ui h (.v (.string s)) o true=some s.size:=Eq.trans rfl rfl
theorem XV :stA P h T a (some l)=stB h a l (szP P T) (l.all (kK h)):=Eq.trans rfl rfl
def apE (h:Hp) (T by_ sz:Nat) (s:AV) (mn:Nat × List AV):Option (AV × Hp):=match s with
 | .own id n=>match h[id]? with
  | some (some (.arr T' s' cells fz))=>if T'=T∧s'=sz∧cells.length=n*sz∧n+mn.1≤maxLen∧(n+mn.1)*by_≤140737488355328 then some (.own id (n+mn.1),h.set id (some (.arr T sz (cells++mn.2) fz))) else none
  | _=>none
 | .v (.slice none 0 0)=>if mn.1≤maxLen∧mn.1*by_≤140737488355328 then some (.own h.length mn.1,h++[some (.arr T sz mn.2 0)]) else none
 | _=>none
def apB (h:Hp) (T:TypeId) (s:AV):Option Nat→Option Nat→Option Value→Option (Nat × List AV)→Option (AV × Hp)
 | some sz,some by_,some z,some mn=>if z.cells.size=sz∧0<sz then apE h T by_ sz s mn else none
 | _,_,_,_=>none
def apA (P:Program) (h:Hp) (tx:TypeId) (s x:AV):Option TypeId→Option (AV × Hp)
 | some T=>apB h T s (szP P T) (bC P T) (aA P T) ((szP P T).bind fun sz=>oz P h tx sz x)
 | none=>none
variable {tx:TypeId}
theorem ap {t:TypeId} {s:AV}:nJ P h t tx s x=apA P h tx s x (aH P t):=by
 unfold nJ apA;cases aH P t with
 | none=>rfl
 | some T=>
  simp only [Option.bind_some];cases szP P T with
  | none=>rfl
  | some sz=>
   simp only [Option.bind_some];cases bC P T with
   | none=>rfl
   | some by_=>
    simp only [Option.bind_some];cases aA P T with
    | none=>rfl
    | some z=>
     simp only [Option.bind_some];cases oz P h tx sz x with
     | none=>rfl
     | some mn=>
      simp only [Option.bind_some,apB,apE];cases s<;>rfl
theorem XW {s:AV}:apA P h tx s x (some T)=apB h T s (szP P T) (bC P T) (aA P T) ((szP P T).bind fun sz=>oz P h tx sz x):=Eq.trans rfl rfl
variable {by_:Nat}
theorem ads {s:AV}  {z:Value} {mn:Nat × List AV} (h1:z.cells.size=sz) (h2:0<sz):apB h T s (some sz) (some by_) (some z) (some mn)=apE h T by_ sz s mn:=if_pos ⟨h1,h2⟩
def apF (h:Hp) (T by_ sz id n:Nat) (m:Nat) (l:List AV):Option (Option Ob)→Option (AV × Hp)
 | some (some (.arr T' s' cells fz))=>if T'=T∧s'=sz∧cells.length=n*sz∧n+m≤maxLen∧(n+m)*by_≤140737488355328 then some (.own id (n+m),h.set id (some (.arr T sz (cells++l) fz))) else none
 | _=>none
theorem adt {T:Nat} :apE h T by_ sz (AV.own id n) (m,l)=apF h T by_ sz id n m l h[id]? :=by
 unfold apE apF;rfl
theorem XY {T:Nat} {cells:List AV} (h1:cells.length=n*sz) (h2:n+m≤1152921504606846975) (h3:(n+m)*by_≤140737488355328):apF h T by_ sz id n m l (some (some (.arr T sz cells fz)))=some (.own id (n+m),h.set id (some (.arr T sz (cells++l) fz))):=if_pos ⟨rfl,rfl,h1,Nat.le_trans h2 (by decide),h3⟩
theorem adu {T:Nat} {cells:List AV} (h1:cells.length=n) (h2:n+m≤1152921504606846975) (h3:(n+m)*by_≤140737488355328):apF h T by_ 1 id n m l (some (some (.arr T 1 cells fz)))=some (.own id (n+m),h.set id (some (.arr T 1 (cells++l) fz))):=if_pos ⟨rfl,rfl,by omega,Nat.le_trans h2 (by decide),h3⟩
theorem adv {T:Nat}  (h2:m≤1152921504606846975) (h3:m*by_≤140737488355328):apE h T by_ sz (.v (.slice none 0 0)) (m,l)=some (AV.own h.length m,h++[some (.arr T sz l 0)]):=if_pos ⟨Nat.le_trans h2 (by decide),h3⟩
def cpE (h:Hp) (id n sz m:Nat) (l:List AV):Option (Option Ob)→Option (AV × Hp)
 | some (some (.arr T' s' cells fz))=>if s'=sz∧fz=0∧cells.length=n*sz∧m≤n then some (.v (.int .i64 m),h.set id (some (.arr T' s' (dY cells 0 l) 0))) else none
 | _=>none
def cpB (h:Hp):AV→Option Nat→Option (Nat × List AV)→Option (AV × Hp)
 | .own id n,some sz,some mn=>cpE h id n sz mn.1 mn.2 h[id]?
 | _,_,_=>none
def cpA (P:Program) (h:Hp) (tx:TypeId) (d x:AV):Option TypeId→Option (AV × Hp)
 | some T=>cpB h d (szP P T) ((szP P T).bind fun sz=>oz P h tx sz x)
 | none=>none
theorem cp {t:TypeId} {d:AV}:zD P h t tx d x=cpA P h tx d x (aH P t):=by
 unfold zD cpA;cases aH P t with
 | none=>rfl
 | some T=>
  simp only [Option.bind_some];cases szP P T with
  | none=>cases d<;>rfl
  | some sz=>
   simp only [Option.bind_some];cases oz P h tx sz x with
   | none=>cases d<;>rfl
   | some mn=>
    simp only [Option.bind_some];cases d<;>rfl
theorem XZ {d:AV}:cpA P h tx d x (some T)=cpB h d (szP P T) ((szP P T).bind fun sz=>oz P h tx sz x):=Eq.trans rfl rfl
theorem adw :cpB h (AV.own id n) (some sz) (some (m,l))=cpE h id n sz m l h[id]? :=Eq.trans rfl rfl
theorem X3 {T:Nat} {cells:List AV} (h1:cells.length=n*sz) (h2:m≤n):cpE h id n sz m l (some (some (.arr T sz cells 0)))=some (AV.v (.int .i64 m),h.set id (some (.arr T sz (dY cells 0 l) 0))):=if_pos ⟨rfl,rfl,h1,h2⟩
theorem adx {T:Nat} {cells:List AV} (h1:cells.length=n) (h2:m≤n):cpE h id n 1 m l (some (some (.arr T 1 cells 0)))=some (AV.v (.int .i64 m),h.set id (some (.arr T 1 (dY cells 0 l) 0))):=if_pos ⟨rfl,rfl,by omega,h2⟩
def atE (sz m:Nat) (l:List AV):AV→Option AV
 | .e0=>some (.t m sz l)
 | .v (.slice none 0 0)=>some (.t m sz l)
 | _=>none
def atB (s:AV):Option Nat→Option Nat→Option Value→Option (Nat × List AV)→Option AV
 | some sz,some by_,some z,some mn=>if z.cells.size=sz∧0<sz∧mn.1≤maxLen∧mn.1*by_≤140737488355328 then atE sz mn.1 mn.2 s else none
 | _,_,_,_=>none
def atA (P:Program) (h:Hp) (tx:TypeId) (s x:AV):Option TypeId→Option AV
 | some T=>atB s (szP P T) (bC P T) (aA P T) ((szP P T).bind fun sz=>oz P h tx sz x)
 | none=>none
theorem at_ {t:TypeId} {s:AV}:Kq P h t tx s x=atA P h tx s x (aH P t):=by
 unfold Kq atA;cases aH P t with
 | none=>rfl
 | some T=>
  simp only [Option.bind_some];cases szP P T with
  | none=>rfl
  | some sz=>
   simp only [Option.bind_some];cases bC P T with
   | none=>rfl
   | some by_=>
    simp only [Option.bind_some];cases aA P T with
    | none=>rfl
    | some z=>
     simp only [Option.bind_some];cases oz P h tx sz x with
     | none=>rfl
     | some mn=>
      simp only [Option.bind_some,atB];cases s<;>rfl
theorem X4 {s:AV}:atA P h tx s x (some T)=atB s (szP P T) (bC P T) (aA P T) ((szP P T).bind fun sz=>oz P h tx sz x):=Eq.trans rfl rfl
theorem X5 {s:AV}  {z:Value}  (h1:z.cells.size=sz) (h2:0<sz) (h3:m≤1152921504606846975) (h4:m*by_≤140737488355328):atB s (some sz) (some by_) (some z) (some (m,l))=atE sz m l s:=if_pos ⟨h1,h2,Nat.le_trans h3 (by decide),h4⟩
theorem ahA :atE sz m l .e0=some (.t m sz l):=Eq.trans rfl rfl
theorem ady :atE sz m l (.v (.slice none 0 0))=some (.t m sz l):=Eq.trans rfl rfl
theorem als :cellsA h .e0=some [.e0]:=Eq.trans rfl rfl
theorem alu :kK h .e0=true:=Eq.trans rfl rfl
theorem ahB :fF h .e0=some (.e0,h):=Eq.trans rfl rfl
theorem ahC :fC h .e0=some (.e0,h):=Eq.trans rfl rfl
theorem ahD :eu h .e0=some (.e0,h):=Eq.trans rfl rfl
def srB (h:Hp) (s:Nat) (x:AV):Bool→Bool→Option (Nat × List AV)
 | e,b=>match x with
  | .t m s' cells=>if s'=s∧e=true∧cells.all (kK h)=true then some (m,cells) else none
  | .own id m=>match h[id]? with
   | some (some (.arr _ s' cells _))=>if s'=s∧cells.length=m*s∧e=true∧cells.all (kK h)=true then some (m,cells) else none
   | _=>none
  | .v (.string c)=>if s=1∧b=true then some (c.size,c.data.toList.map fun c=> .v (.int .u8 c.toNat)) else none
  | .v (.slice none 0 0)=>if e=true then some (0,[]) else none
  | _=>none
theorem sr :oz P h tx s x=srB h s x (aH P tx).isSome (dI P tx):=by
 unfold oz srB;rfl
def srC (m:Nat) (l:List AV):Bool→Option (Nat × List AV)
 | true=>some (m,l)
 | false=>none
theorem anT :srB h s (.t m s l) true b=srC m l (l.all (kK h)):=by
 simp only [srB];cases hl:l.all (kK h)<;>simp [srC]
theorem X6 :srC m l true=some (m,l):=Eq.trans rfl rfl
def srD (h:Hp) (s m:Nat):Option (Option Ob)→Option (Nat × List AV)
 | some (some (.arr _ s' cells _))=>if s'=s∧cells.length=m*s then srC m cells (cells.all (kK h)) else none
 | _=>none
theorem ahE :srB h s (.own id m) true b=srD h s m h[id]? :=by
 simp only [srB,srD];split
 ·next T s' cells fz _=>
  cases hl:cells.all (kK h)<;>simp [srC]
 ·rfl
theorem X7 (hl:l.length=m*s):srD h s m (some (some (.arr T s l fz)))=srC m l (l.all (kK h)):=if_pos ⟨rfl,hl⟩
theorem adz (hl:l.length=m):srD h 1 m (some (some (.arr T 1 l fz)))=srC m l (l.all (kK h)):=if_pos ⟨rfl,by omega⟩
theorem ahF :srB h s (.v (.slice none 0 0)) true b=some (0,[]):=Eq.trans rfl rfl
theorem ahG {e:Bool} {c:ByteArray}:srB h 1 (.v (.string c)) e true=some (c.size,c.data.toList.map fun c=> .v (.int .u8 c.toNat)):=by
 unfold srB;simp
def clB (h:Hp) (id n:Nat):Option (Option Ob)→Option (AV × Hp)
 | some (some (.arr T s cells fz))=>if cells.length=n*s then some (.t n s cells,h.set id (some (.arr T s cells cells.length))) else none
 | _=>none
theorem X8 (hl:l.length=n*s):clB h id n (some (some (.arr T s l fz)))=some (.t n s l,h.set id (some (.arr T s l l.length))):=if_pos hl
theorem adA (hl:l.length=n):clB h id n (some (some (.arr T 1 l fz)))=some (.t n 1 l,h.set id (some (.arr T 1 l l.length))):=if_pos (by omega)
theorem alv {x:Value}:fF h (.v x)=some ((.v x),h):=Eq.trans rfl rfl
theorem alx :fF h (.t n s l)=some ((.t n s l),h):=Eq.trans rfl rfl
theorem ahH :fF h (.tp l)=some ((.tp l),h):=Eq.trans rfl rfl
theorem ahI {f:Fn} :fF h (.fn f l l2)=some ((.fn f l l2),h):=Eq.trans rfl rfl
theorem X9 :fF h .none=some (.none,h):=Eq.trans rfl rfl
theorem adB :fF h (.ptr id off)=some ((.ptr id off),h):=Eq.trans rfl rfl
theorem adC :fF h (.own id n)=clB h id n h[id]? :=by
 unfold clB;first | rfl | (show fF h (.own id n)=_;rfl)
theorem aly {x:Value}:fC h (.v x)=some ((.v x),h):=Eq.trans rfl rfl
theorem alz :fC h (.t n s l)=some ((.t n s l),h):=Eq.trans rfl rfl
theorem ahJ :fC h (.tp l)=some ((.tp l),h):=Eq.trans rfl rfl
theorem ahK {f:Fn} :fC h (.fn f l l2)=some ((.fn f l l2),h):=Eq.trans rfl rfl
theorem Ya :fC h .none=some (.none,h):=Eq.trans rfl rfl
theorem adD :fC h (.ptr id off)=some ((.ptr id off),h):=Eq.trans rfl rfl
theorem adE :fC h (.own id n)=clB h id n h[id]? :=by
 unfold clB;first | rfl | (show fF h (.own id n)=_;rfl)
theorem alA {x:Value}:eu h (.v x)=some ((.v x),h):=Eq.trans rfl rfl
theorem alB :eu h (.t n s l)=some ((.t n s l),h):=Eq.trans rfl rfl
theorem ahL :eu h (.tp l)=some ((.tp l),h):=Eq.trans rfl rfl
theorem ahM {f:Fn} :eu h (.fn f l l2)=some ((.fn f l l2),h):=Eq.trans rfl rfl
theorem Yb :eu h .none=some (.none,h):=Eq.trans rfl rfl
theorem adF :eu h (.ptr id off)=some ((.ptr id off),h):=Eq.trans rfl rfl
theorem adG :eu h (.own id n)=clB h id n h[id]? :=by
 unfold clB;first | rfl | (show fF h (.own id n)=_;rfl)
theorem alC :fC h (.g l)=(closeWith fF h l).map fun p=>(.g p.1,p.2):=Eq.trans rfl rfl
theorem alD :eu h (.g l)=(closeWith fF h l).map fun p=>(.g p.1,p.2):=Eq.trans rfl rfl
theorem adH :eu h (.tup l)=(closeWith fC h l).map fun p=>(.tup p.1,p.2):=Eq.trans rfl rfl
def cwC (a:AV):Option (List AV × Hp)→Option (List AV × Hp)
 | some (r,h)=>some (a::r,h)
 | none=>none
def cwB (f:Hp→AV→Option (AV × Hp)) (r:List AV):Option (AV × Hp)→Option (List AV × Hp)
 | some (a,h)=>cwC a (closeWith f h r)
 | none=>none
variable {f:Hp→AV→Option (AV × Hp)}
theorem ahN :closeWith f h []=some ([],h):=Eq.trans rfl rfl
theorem adI {r:List AV}:closeWith f h (a::r)=cwB f r (f h a):=by
 simp only [closeWith];cases f h a with
 | none=>rfl
 | some p=>obtain ⟨a',h1⟩:=p;simp only [cwB,cwC];cases closeWith f h1 r<;>rfl
theorem Yc {r:List AV}:cwB f r (some (a,h))=cwC a (closeWith f h r):=Eq.trans rfl rfl
theorem Yd {r:List AV}:cwC a (some (r,h))=some (a::r,h):=Eq.trans rfl rfl
end
end
section
open Go.RowKit
section
variable {P:Program} {p₀:AV→Hp→Prop}
def ltB (e n m:Nat):Option Nat→Option Value→Option (List AV)→Option (TypeId × Nat × List AV)
 | some s,some _,some L=>if m=n∧0<s∧n*s≤16777216 then some (e,s,L) else none
 | _,_,_=>none
def ltA (P:Program) (h:Hp) (n:Nat) (parts:List (Nat × AV)):Option TypeId→Option (TypeId × Nat × List AV)
 | some e=>ltB e n parts.length (szP P e) (aA P e) ((szP P e).bind fun s=>rowA h s 0 parts)
 | none=>none
variable {T:TypeId}{h:Hp}{n:Nat}{parts:List (Nat × AV)}
theorem lt :zZ P h T n parts=ltA P h n parts (aH P T):=by
 unfold zZ ltA;cases aH P T with
 | none=>rfl
 | some e=>
  simp only [Option.bind_some];cases szP P e with
  | none=>rfl
  | some s=>
   simp only [Option.bind_some];cases aA P e with
   | none=>rfl
   | some z=>
    simp only [Option.bind_some];cases rowA h s 0 parts<;>rfl
variable {e:TypeId}
theorem Ye :ltA P h n parts (some e)=ltB e n parts.length (szP P e) (aA P e) ((szP P e).bind fun s=>rowA h s 0 parts):=Eq.trans rfl rfl
variable {s:Nat}{z:Value}
theorem Yf {e m:Nat}  {L:List AV} (h1:m=n) (h2:0<s) (h3:n*s≤16777216):ltB e n m (some s) (some z) (some L)=some (e,s,L):=if_pos ⟨h1,h2,h3⟩
def rwB (j k s:Nat):Option (List AV)→Option (List AV)→Option (List AV)
 | some l,some L=>if j=k∧l.length=s then some (l++L) else none
 | _,_=>none
variable {k:Nat}
theorem ahO :rowA h s k []=some []:=Eq.trans rfl rfl
variable {a:AV}{r:List (Nat × AV)}
theorem adJ {j:Nat}  :rowA h s k ((j,a)::r)=rwB j k s (cellsA h a) (rowA h s (k+1) r):=by
 simp only [rowA];cases cellsA h a<;>cases rowA h s (k+1) r<;>rfl
variable {l:List AV}
theorem Yg {j:Nat} {L:List AV} (h1:j=k) (h2:l.length=s):rwB j k s (some l) (some L)=some (l++L):=if_pos ⟨h1,h2⟩
def mkB (e:Nat) (zl zc:Int):Option Nat→Option Value→Option Nat→Option (TypeId × Nat × List AV)
 | some s,some z,some by_=>if 0<s∧0≤zl∧zl≤zc∧zc≤9223372036854775807∧(by_:Int)*zc≤140737488355328 then some (e,s,qJ z (zl.toNat*s)) else none
 | _,_,_=>none
def mkA (P:Program) (zl zc:Int):Option TypeId→Option (TypeId × Nat × List AV)
 | some e=>mkB e zl zc (szP P e) (aA P e) (bC P e)
 | none=>none
variable {zc zl:Int}
theorem mk :wo P T zl zc=mkA P zl zc (aH P T):=by
 unfold wo mkA;cases aH P T with
 | none=>rfl
 | some e=>
  simp only [Option.bind_some];cases szP P e with
  | none=>rfl
  | some s=>
   simp only [Option.bind_some];cases aA P e with
   | none=>rfl
   | some z=>
    simp only [Option.bind_some];cases bC P e<;>rfl
theorem Yh :mkA P zl zc (some e)=mkB e zl zc (szP P e) (aA P e) (bC P e):=Eq.trans rfl rfl
theorem Yi {e:Nat}  {by_:Nat}  (h1:0<s) (h2:0≤zl) (h3:zl≤zc) (h4:zc≤9223372036854775807) (h5:(by_:Int)*zc≤140737488355328):mkB e zl zc (some s) (some z) (some by_)=some (e,s,qJ z (zl.toNat*s)):=if_pos ⟨h1,h2,h3,h4,h5⟩
theorem Yj {k:IntKind} :qJ (.int k 0) n=tab n (fun _=> .v (.int k 0)):=by
 show (if (1:Nat)=1 then List.replicate n (AV.v (.int k 0)) else _)=_;rw [if_pos rfl];apply List.ext_getElem?;intro i;by_cases hi:i<n
 ·rw [jq hi];simp [hi]
 ·simp [tab,hi]
theorem Uk :qJ (.bool false) n=tab n (fun _=> .v (.bool false)):=by
 show (if (1:Nat)=1 then List.replicate n (AV.v (.bool false)) else _)=_;rw [if_pos rfl];apply List.ext_getElem?;intro i;by_cases hi:i<n
 ·rw [jq hi];simp [hi]
 ·simp [tab,hi]
theorem Yk :qJ (.slice none 0 0) n=tab n (fun _=> .v (.slice none 0 0)):=by
 show (if (1:Nat)=1 then List.replicate n (AV.v (.slice none 0 0)) else _)=_;rw [if_pos rfl];apply List.ext_getElem?;intro i;by_cases hi:i<n
 ·rw [jq hi];simp [hi]
 ·simp [tab,hi]
def fdB (h:Hp) (a:AV) (o:Nat):Option Nat→Option AV
 | some s=>if s=0 then none else oh h a o
 | none=>none
def fdA (P:Program) (h:Hp) (a:AV):Option (Nat × TypeId)→Option AV
 | some (o,T)=>fdB h a o (szP P T)
 | none=>none
theorem fd {S:TypeId}  {f:Nat}:uP P h S a f=fdA P h a (aZ P S f):=by
 unfold uP fdA;cases aZ P S f with
 | none=>rfl
 | some ot=>
  obtain ⟨o,T⟩:=ot;simp only [Option.bind_some];cases hs:szP P T with
  | none=>simp only [reduceCtorEq,if_false,Option.bind_none];rfl
  | some s=>
   simp only [Option.bind_some,Option.some.injEq,fdB]
variable {o:Nat}
theorem Yl :fdA P h a (some (o,T))=fdB h a o (szP P T):=Eq.trans rfl rfl
theorem Ym (hs:s≠0):fdB h a o (some s)=oh h a o:=if_neg hs
def flB (P:Program) (T:TypeId) (o:Nat):Option (List AV)→Option AV
 | some l=>takeA P T (l.drop o)
 | none=>none
def flA (P:Program) (x:AV):Option (Nat × TypeId)→Option AV
 | some (o,T)=>flB P T o (cellsOf x)
 | none=>none
theorem fl {S:TypeId} {x:AV} {f:Nat}:uS P S x f=flA P x (aZ P S f):=by
 unfold uS flA;cases aZ P S f with
 | none=>rfl
 | some ot=>
  obtain ⟨o,T⟩:=ot;simp only [Option.bind_some];cases cellsOf x<;>rfl
theorem Yn {x:AV}  :flA P x (some (o,T))=flB P T o (cellsOf x):=Eq.trans rfl rfl
theorem Yo :flB P T o (some l)=takeA P T (l.drop o):=Eq.trans rfl rfl
theorem anU :cellsOf (.g l)=some l:=Eq.trans rfl rfl
theorem ahP {l:List Value}:cellsOf (.v (.agg l.toArray))=some (l.map .v):=Eq.trans rfl rfl
theorem ahQ {l:List Value}:cellsA h (.v (.agg l.toArray))=some (l.map .v):=Eq.trans rfl rfl
def fsP (P:Program) (T:TypeId):Option (List (Nat × Nat)):=match P.underlying T with
 | some (.struct fs)=>if fs.toList.all (fun f=>(P.info? f.type).isSome) then some (fs.toList.map fun f=>(f.offset,((P.info? f.type).map (·.size)).getD 0)) else none
 | some (.array n e)=>if n≤64 then (szP P e).map fun s=>(List.range n).map fun i=>(i*s,s) else none
 | _=>none
def bdA (h:Hp) (parts:List (Nat × AV)):Option Value→Option (List (Nat × Nat))→Option (List AV)→Option (List AV)
 | some z,some l,_=>nG h (fun i=>l[i]?) (fV z) parts
 | _,_,o=>o
theorem bd :oq P h T parts=bdA h parts (aA P T) (fsP P T) (oq P h T parts):=by
 cases hz:aA P T with
 | none=>rfl
 | some z=>
  cases hf:fsP P T with
  | none=>rfl
  | some l=>
   show _=nG h (fun i=>l[i]?) (fV z) parts;unfold oq;have:Am P T=some (fun i=>l[i]?):=by
    unfold fsP at hf;unfold Am;split at hf
    ·next fs hu=>
     rw [hu];simp only;split at hf
     ·next hall=>
      rw [if_pos hall];injection hf with hf;subst hf;congr 1;funext i
      rw [List.getElem?_map,Array.getElem?_toList]
     ·cases hf
    ·next n e hu=>
     rw [hu];simp only;split at hf
     ·cases hs:szP P e with
      | none=>rw [hs] at hf;cases hf
      | some s=>rw [hs] at hf;injection hf with hf;subst hf;rfl
     ·cases hf
    ·cases hf
   rw [hz,this]
def fiB (h:Hp) (pl:List (Nat × Nat)) (cells:List AV) (r:List (Nat × AV)):Option (Nat × Nat)→Option (List AV)→Option (List AV)
 | some (o,n),some l=>if l.length=n∧o+n≤cells.length then nG h (fun i=>pl[i]?) (dY cells o l) r else none
 | _,_=>none
def bdX (P:Program) (h:Hp) (T:TypeId) (parts:List (Nat × AV)):Option Value→Option (List (Nat × Nat))→Option (List AV)
 | some z,some l=>nG h (fun i=>l[i]?) (fV z) parts
 | _,_=>oq P h T parts
theorem bdx {K:AV→Prop}:sG K (oq P h T parts)=sG K (bdX P h T parts (aA P T) (fsP P T)):=by
 congr 1;cases hz:aA P T with
 | none=>rfl
 | some z=>
  cases hf:fsP P T with
  | none=>rfl
  | some l=>
   rw [bd,hz,hf];rfl
theorem Yp {l:List (Nat × Nat)}:bdX P h T parts (some z) (some l)=nG h (fun i=>l[i]?) (fV z) parts:=Eq.trans rfl rfl
theorem ahR {pl:Nat→Option (Nat × Nat)} {cells:List AV}:nG h pl cells []=some cells:=Eq.trans rfl rfl
theorem adK {pl:List (Nat × Nat)} {cells:List AV} {i:Nat}  :nG h (fun i=>pl[i]?) cells ((i,a)::r)=fiB h pl cells r pl[i]? (cellsA h a):=by
 simp only [nG];cases pl[i]? with
 | none=>rfl
 | some on=>obtain ⟨o,n⟩:=on;cases cellsA h a<;>rfl
theorem Yq {pl:List (Nat × Nat)} {cells:List AV}   (h1:l.length=n) (h2:o+n≤cells.length):fiB h pl cells r (some (o,n)) (some l)=nG h (fun i=>pl[i]?) (dY cells o l) r:=if_pos ⟨h1,h2⟩
theorem adL {d:Nat}:aU none d=some d:=Eq.trans rfl rfl
theorem adM {k:IntKind} {z:Int} {d:Nat} (hz:0≤z):aU (some (.v (.int k z))) d=some z.toNat:=if_pos hz
def slT (n s:Nat) (cells:List AV):Option Nat→Option Nat→Option Nat→Option AV
 | some a,some b,some s'=>if s'=s∧a≤b∧b≤n then some (.t (b - a) s ((cells.take (b*s)).drop (a*s))) else none
 | _,_,_=>none
def hx (h:Hp):Option AV→Option (AV × Hp)
 | some a=>some (a,h)
 | none=>none
theorem adN :hx h (some a)=some (a,h):=Eq.trans rfl rfl
def szE (P:Program):Option TypeId→Option Nat
 | some e=>szP P e
 | none=>none
theorem Yr :szE P (some e)=szP P e:=Eq.trans rfl rfl
variable {hi:Option AV}
theorem alE {cells:List AV} {lo:Option AV}:iG P h T (.t n s cells) lo hi=hx h (slT n s cells (aU lo 0) (aU hi n) (szE P (aH P T))):=by
 simp only [iG];have:(aH P T).bind (szP P)=szE P (aH P T):=by cases aH P T<;>rfl
 rw [this];cases aU lo 0 with
 | none=>rfl
 | some a=>
  cases aU hi n with
  | none=>rfl
  | some b=>
   simp only [slT];cases szE P (aH P T) with
   | none=>simp;rfl
   | some s'=>
    simp only [Option.some.injEq];split<;>rfl
theorem anV {cells:List AV} {lo:Option AV}:sliceT P h T (.t n s cells) lo hi=slT n s cells (aU lo 0) (aU hi n) (szE P (aH P T)):=by
 show (iG P [] T (.t n s cells) lo hi).map (·.1)=_;rw [alE];cases slT n s cells (aU lo 0) (aU hi n) (szE P (aH P T))<;>rfl
def slO (n:Nat):Option Nat→Option Nat→Option Nat→Option (Option Ob)→Option AV
 | some a,some b,some s',some (some (.arr _ s cells fz))=>if s'=s∧cells.length=n*s∧a≤b∧b≤n∧b*s≤fz then some (.t (b - a) s ((cells.take (b*s)).drop (a*s))) else none
 | _,_,_,_=>none
theorem anW {id:Nat} {lo:Option AV}:sliceT P h T (.own id n) lo hi=slO n (aU lo 0) (aU hi n) (szE P (aH P T)) h[id]? :=by
 simp only [sliceT];have:(aH P T).bind (szP P)=szE P (aH P T):=by cases aH P T<;>rfl
 rw [this];cases h[id]? with
 | none=>unfold slO;split<;>first | rfl | simp_all
 | some o=>
  cases o with
  | none=>unfold slO;split<;>first | rfl | simp_all
  | some o=>
   cases o with
   | arr T' s cells fz=>
    cases aU lo 0 with
    | none=>rfl
    | some a=>
     cases aU hi n with
     | none=>rfl
     | some b=>
      simp only [slO];cases szE P (aH P T) with
      | none=>simp
      | some s'=>simp only [Option.some.injEq]
   | _=>unfold slO;split<;>first | rfl | simp_all
variable {b:Nat}
theorem Yt {a fz:Nat}  {cells:List AV} (h0:cells.length=n*s) (h1:a≤b) (h2:b≤n) (h3:b*s≤fz):slO n (some a) (some b) (some s) (some (some (.arr T s cells fz)))=some (.t (b - a) s ((cells.take (b*s)).drop (a*s))):=if_pos ⟨rfl,h0,h1,h2,h3⟩
theorem Yu {a:Nat} {cells:List AV} (h1:a≤b) (h2:b≤n):slT n s cells (some a) (some b) (some s)=some (.t (b - a) s ((cells.take (b*s)).drop (a*s))):=if_pos ⟨rfl,h1,h2⟩
def slS (x:ByteArray):Option Nat→Option Nat→Bool→Option AV
 | some a,some b,true=>if a≤b∧b≤x.size then some (.v (.string (x.extract a b))) else none
 | _,_,_=>none
variable {x:ByteArray}
theorem alF {lo:Option AV}:iG P h T (.v (.string x)) lo hi=hx h (slS x (aU lo 0) (aU hi x.size) (dI P T)):=by
 simp only [iG];cases dI P T with
 | false=>cases aU lo 0<;>cases aU hi x.size<;>rfl
 | true=>
  cases aU lo 0 with
  | none=>rfl
  | some a=>
   cases aU hi x.size with
   | none=>rfl
   | some b=>
    simp only [slS,if_true];split<;>rfl
theorem anX {lo:Option AV}:sliceT P h T (.v (.string x)) lo hi=slS x (aU lo 0) (aU hi x.size) (dI P T):=by
 show (iG P [] T (.v (.string x)) lo hi).map (·.1)=_;rw [alF];cases slS x (aU lo 0) (aU hi x.size) (dI P T)<;>rfl
theorem Yv {a:Nat} (h1:a≤b) (h2:b≤x.size):slS x (some a) (some b) true=some (.v (.string (x.extract a b))):=if_pos ⟨h1,h2⟩
variable {f:Nat→AV}
theorem Yw (hk:k≤n):(tab n f).take k=tab k f:=by
 apply List.ext_getElem?;intro i;rw [List.getElem?_take];by_cases hi:i<k
 ·rw [if_pos hi,jq (by omega),jq hi]
 ·rw [if_neg hi];simp [tab,hi]
theorem Yx :(tab n f).drop k=tab (n - k) (fun i=>f (i+k)):=by
 apply List.ext_getElem?;intro i;rw [List.getElem?_drop];by_cases hi:i<n - k
 ·rw [jq (by omega),jq hi,Nat.add_comm]
 ·simp [tab,hi,show ¬ k+i<n by omega]
theorem adO :tab 0 f=[]:=Eq.trans rfl rfl
theorem adP {g:AV→Bool} (h: ∀ i,i<n→g (f i)=true):(tab n f).all g=true:=by
 rw [List.all_eq_true];intro a ha;obtain ⟨i,hi,rfl⟩:=List.mem_map.1 ha;exact h i (List.mem_range.1 hi)
theorem adQ {k:IntKind} {f:Nat→Int}:(tab n fun i=> .v (.int k (f i))).all (kK h)=true:=adP fun _ _=>rfl
def isB (x:ByteArray) (z:Int):Bool→Option AV
 | true=>if 0≤z then (x[z.toNat]?).map fun b=> .v (.int .u8 b.toNat) else none
 | false=>none
theorem ahS {z:Int}:mD P T (.v (.string x)) z=isB x z (dI P T):=by
 unfold mD isB;cases dI P T with
 | false=>simp
 | true=>simp
theorem Yy {z:Int} (hz:0≤z):isB x z true=(x[z.toNat]?).map fun b=> .v (.int .u8 b.toNat):=if_pos hz
end
section
variable {P:Program} {p₀:AV→Hp→Prop}
variable {h:Hp}{s u:TypeId}
theorem ahT {k:IntKind} {z:Int}:cvA P h s u (.v (.int k z))=(iI P h s u (.v (.int k z))).map .v:=Eq.trans rfl rfl
variable {n:Nat}
theorem anY {sz:Nat} {cells:List AV}:cvA P h s u (.t n sz cells)=(iI P h s u (.t n sz cells)).map .v:=Eq.trans rfl rfl
variable {id:Nat}
theorem ahU :cvA P h s u (.own id n)=(iI P h s u (.own id n)).map .v:=Eq.trans rfl rfl
variable {b:ByteArray}
theorem ahV :cvA P h s u (.v (.string b))=cvX P h s u b ((aH P u).bind (l9 P)):=Eq.trans rfl rfl
theorem Yz :cvX P h s u b none=(iI P h s u (.v (.string b))).map .v:=Eq.trans rfl rfl
theorem YA (h1:(P.underlying s).isSome=true) (h2:b.size≤140737488351232):cvX P h s u b (some .u8)=some (.t b.size 1 (H9 b)):=if_pos ⟨h1,h2⟩
variable {T:TypeId}
theorem ahW :iG P h T (.ptr id 0) none none=wz P h id h[id]? (bJ P T):=by
 unfold iG;simp
theorem Ul {e:TypeId} {cells:List AV}:wz P h id (some (some (.blk cells))) (some (n,e))=Ap h id cells n (szP P e):=Eq.trans rfl rfl
theorem Um {s:Nat} {cells:List AV} (h1:cells.length=n*s) (h2:n≤1000000):Ap h id cells n (some s)=some (.t n s cells,h.set id none):=if_pos ⟨h1,h2⟩
def lkB (h:Hp) (x:AV) (kv:Value) (ok:Bool):Option KK→Option Value→Option AV
 | some q,some z=>if fO q kv=true then match x with
   | .mp id=>match h[id]? with
    | some (some (.map es))=>if keysB q es=true then some (nH ok z (eP kv es)) else none
    | _=>none
   | .tm es=>if keysB q es=true then some (nH ok z (eP kv es)) else none
   | .v (.map none)=>some (nH ok z none)
   | _=>none
   else none
 | _,_=>none
def lkD (kv:Value) (ok:Bool) (q:KK) (z:Value):Option (Option Ob)→Option AV
 | some (some (.map es))=>if keysB q es=true then some (nH ok z (eP kv es)) else none
 | _=>none
def lkA (P:Program) (h:Hp) (x:AV) (kv:Value) (ok:Bool):Option (TypeId × TypeId)→Option AV
 | some (K,E)=>lkB h x kv ok (kkP P K) (aA P E)
 | none=>none
variable {kv:Value}{x:AV}
theorem lk {ok:Bool}:nI P h T x (.v kv) ok=lkA P h x kv ok (uT P T):=by
 unfold nI lkA;cases uT P T with
 | none=>rfl
 | some KE=>
  obtain ⟨K,E⟩:=KE;simp only [Option.bind_some];cases kkP P K with
  | none=>cases aA P E<;>rfl
  | some q=>
   simp only [Option.bind_some];cases aA P E with
   | none=>rfl
   | some z=>rfl
theorem YB {ok:Bool} {K E:TypeId}:lkA P h x kv ok (some (K,E))=lkB h x kv ok (kkP P K) (aA P E):=Eq.trans rfl rfl
variable {q:KK}{z:Value}
theorem ahX {ok:Bool}  :lkB h (.mp id) kv ok (some q) (some z)=if fO q kv=true then lkD kv ok q z h[id]? else none:=Eq.trans rfl rfl
variable {es:List (Value × AV)}
theorem ahY {ok:Bool}  :lkB h (.tm es) kv ok (some q) (some z)=if fO q kv=true then (if keysB q es=true then some (nH ok z (eP kv es)) else none) else none:=Eq.trans rfl rfl
theorem YC {ok:Bool}  :lkD kv ok q z (some (some (.map es)))=if keysB q es=true then some (nH ok z (eP kv es)) else none:=Eq.trans rfl rfl
variable {a:AV}
theorem ahZ :nH true z (some a)= .tup [a, .v (.bool true)]:=Eq.trans rfl rfl
theorem ah0 :nH true z none= .tup [.v z, .v (.bool false)]:=Eq.trans rfl rfl
theorem ah1 :nH false z (some a)=a:=Eq.trans rfl rfl
theorem ah2 :nH false z none= .v z:=Eq.trans rfl rfl
theorem ah3 {q:IntKind} {n:Int}:fO (.int q) (.int q n)=true:=ah rfl
theorem ah4 {s:ByteArray}:fO .str (.string s)=true:=Eq.trans rfl rfl
theorem ah5 :keysB q []=true:=Eq.trans rfl rfl
variable {r:List (Value × AV)}
theorem adR {p:Value × AV} :keysB q (p::r)=(fO q p.1 && keysB q r):=Eq.trans rfl rfl
variable {k:Value}
theorem ah6 :eP k []=none:=Eq.trans rfl rfl
theorem adS {k':Value}  :eP k ((k',a)::r)=if keyE k k'=true then some a else eP k r:=Eq.trans rfl rfl
theorem ah7 {q q':IntKind} {a b:Int}:keyE (.int q a) (.int q' b)=decide (a=b):=Eq.trans rfl rfl
theorem Df {a:ByteArray}:keyE (.string a) (.string b)=decide (a=b):=Eq.trans rfl rfl
theorem ah8 :kC k a []=[(k,a)]:=Eq.trans rfl rfl
theorem adT {k':Value} {a':AV} :kC k a ((k',a')::r)=if keyE k k'=true then (k,a)::r else (k',a')::kC k a r:=Eq.trans rfl rfl
def upD (h:Hp) (id:Nat) (kv:Value) (a:AV) (q:KK):Option (Option Ob)→Option Hp
 | some (some (.map es))=>if keysB q es=true then some (h.set id (some (.map (kC kv a es)))) else none
 | _=>none
def upB (h:Hp) (id:Nat) (kv:Value) (a:AV):Option KK→Option Hp
 | some q=>if fO q kv=true then upD h id kv a q h[id]? else none
 | none=>none
def upA (P:Program) (h:Hp) (id:Nat) (kv:Value) (a:AV):Option (TypeId × TypeId)→Option Hp
 | some (K,_)=>upB h id kv a (kkP P K)
 | none=>none
theorem up :kV P h T (.mp id) (.v kv) a=upA P h id kv a (uT P T):=by
 unfold kV upA;cases uT P T with
 | none=>rfl
 | some KE=>
  obtain ⟨K,E⟩:=KE;simp only [Option.bind_some];cases kkP P K with
  | none=>rfl
  | some q=>rfl
theorem YD {K E:TypeId}:upA P h id kv a (some (K,E))=upB h id kv a (kkP P K):=Eq.trans rfl rfl
theorem YE :upB h id kv a (some q)=if fO q kv=true then upD h id kv a q h[id]? else none:=Eq.trans rfl rfl
theorem YF :upD h id kv a q (some (some (.map es)))=if keysB q es=true then some (h.set id (some (.map (kC kv a es)))) else none:=Eq.trans rfl rfl
def bF (op:BinOp):Option Bool→Bool→Option Value
 | some b,true=>pV op b
 | _,_=>none
theorem YG {op:BinOp}  :qK P h op T x (.v .nilFunc)=bF op (wB x) (jQ P T):=by
 show (if jQ P T=true then (wB x).bind (pV op) else none)=_;cases jQ P T<;>cases wB x<;>rfl
theorem alG {b:Bool}:bF .eql (some b) true=some (.bool b):=Eq.trans rfl rfl
theorem alH {b:Bool}:bF .neq (some b) true=some (.bool (!b)):=Eq.trans rfl rfl
theorem ah9:wB (.v .nilFunc)=some true:=Eq.trans rfl rfl
variable {f:Fn}
theorem alI {a b:List AV}:wB (.fn f a b)=some false:=Eq.trans rfl rfl
theorem alJ :cellsA h (.mp id)=if bQ h (.mp id)=true then some [.mp id] else none:=Eq.trans rfl rfl
def alK:Option (Option Ob)→Bool
 | some (some (.map _))=>true
 | _=>false
theorem alL :bQ h (.mp id)=alK h[id]? :=Eq.trans rfl rfl
theorem Un :alK (some (some (.map es)))=true:=Eq.trans rfl rfl
theorem alM :kK h (.mp id)=bQ h (.mp id):=Eq.trans rfl rfl
theorem alN {a b:List AV}:cellsA h (.fn f a b)=some [.fn f a b]:=Eq.trans rfl rfl
theorem aia :cellsA h (.ifc T a)=some [.ifc T a]:=Eq.trans rfl rfl
theorem aib :kK h (.ifc T a)=true:=Eq.trans rfl rfl
def alO (h:Hp) (id:Nat):Option (Option Ob)→Option (AV × Hp)
 | some (some (.map es))=>some (.tm es,h.set id none)
 | _=>none
theorem aic :eu h (.mp id)=alO h id h[id]? :=Eq.trans rfl rfl
theorem Uo :alO h id (some (some (.map es)))=some (.tm es,h.set id none):=Eq.trans rfl rfl
theorem adU :eu h (.ifc T a)=some (.ifc T a,h):=Eq.trans rfl rfl
theorem aie {a b:List AV}:eu h (.fn f a b)=some (.fn f a b,h):=Eq.trans rfl rfl
end
end
end Go.Proofs.YtljfgdlgmdcmfaaGreat.Wv
