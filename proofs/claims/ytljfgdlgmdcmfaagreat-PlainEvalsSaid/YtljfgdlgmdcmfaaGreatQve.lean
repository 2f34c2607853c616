/- Parts of a proof. -/
import Derived.Test.YtljfgdlgmdcmfaaGreatQvd
set_option linter.unusedVariables false
namespace Go.Proofs.YtljfgdlgmdcmfaaGreat.Wv
section
open Go.RowKit
section
variable (P:Program) (p₀:AV→Hp→Prop) (N:Nat) (L:List Nat) (ks:List (Nat × Nat))
def Wy (b:Code) (Q:dA):dA:=fun x e' h'=>match x with | .normal=>bP P N L ks b Q e' h' | x=>Q x e' h'
def WA (id:Nat) (Q:dA):dA:=fun x e' h'=>match x with | .exit i=>if i=id then Q .normal e' h' else Q (.exit i) e' h' | x=>Q x e' h'
def kP (l:List Oper) (e:Ev) (Q:dA):AV→Hp→Prop:=fun a h=>Q (.panic a) (jm l e) h
def SB (Q:dA):Ev→Hp→Prop:=fun e h=>Q .normal (lN L e) h
def WB (fl:Nat) (hd all rest:List Oper) (n:Nat) (h:Hp) (Q:dA):Ev→List (Tmp × Value)→Prop:=fun e1 al=>if fl=1 then J5 hd e1 else iy P p₀ all rest (eu n al e1) (h++al.map nR) (SB L Q)
def kO (all r:List Oper) (d:Option Tmp) (e:Ev) (K:Ev→Hp→Prop):AV→Hp→Prop:=fun a h=>iy P p₀ all r (bY e d a) h K
def kR (K:AV→Hp→Prop) (h:Hp):AV→Prop:=fun a=>K a h
def kH (all:List Oper) (h:Hp) (r:List Oper) (d:Option Tmp) (e:Ev) (al:List (Tmp × Value)) (K:Ev→List (Tmp × Value)→Prop):AV→Prop:=fun a=>dQ P p₀ all h r (bY e d a) al K
def J9 (ks:List (Nat × Nat)) (N:Nat) {σ:Type} (env:σ→Ev) (hp:σ→Hp) (inv:σ→Prop) (ms:σ→Nat) (n:Nat) (Q:dA):dA:=fun x e h=>match x with
 | .normal=> ∃ n' e₁ h₁,Ent (base ks) N e h e₁ h₁∧n'<n∧ ∃ s,e₁=env s∧h₁=hp s∧inv s∧n'=ms s
 | x=>Q x e h
def sV (K:AV→Prop) (o:Option Value):Prop:= ∃ r,o=some r∧K (.v r)
def sA (K:AV→Prop) (o:Option AV):Prop:= ∃ r,o=some r∧K r
def sG (K:AV→Prop) (o:Option (List AV)):Prop:= ∃ r,o=some r∧K (.g r)
def sO (K:AV→Hp→Prop) (o:Option (AV × Hp)):Prop:= ∃ r h,o=some (r,h)∧K r h
def sH (K:AV→Hp→Prop) (o:Option Hp):Prop:= ∃ h,o=some h∧K .none h
def sZ (K:AV→Hp→Prop) (h:Hp) (o:Option Value):Prop:= ∃ z,o=some z∧K (.ptr h.length 0) (h++[some (.blk (fZ z))])
def sB (K:AV→Hp→Prop) (h:Hp) (o:Option (List AV)):Prop:= ∃ l,o=some l∧K (.ptr h.length 0) (h++[some (.blk l)])
def sS (K:AV→Hp→Prop) (h:Hp) (n:Nat) (o:Option (TypeId × Nat × List AV)):Prop:= ∃ te s l,o=some (te,s,l)∧K (.own h.length n) (h++[some (.arr te s l 0)])
def sT (K:AV→Prop) (n:Nat) (o:Option (TypeId × Nat × List AV)):Prop:= ∃ te s l,o=some (te,s,l)∧K (.t n s l)
def sI (P:Program) (T:TypeId) (K:AV→Hp→Prop) (h:Hp) (l c:Option Int):Prop:= ∃ zl zc te s L,l=some zl∧c=some zc∧vU P T zl zc=some (te,s,L)∧K (.own h.length zl.toNat) (h++[some (.arr te s L 0)])
def sN (K:AV→Prop) (x:AV) (o:Option Bool):Prop:=o=some false∧K x
def sL (K:AV→Prop) (o:Option Nat):Prop:= ∃ n,o=some n∧K (.v (.int .i64 n))
def sP (K:AV→Prop) (c x y:AV):Prop:= ∃ t,c= .v (.bool t)∧K (bif t then x else y)
def zI (K:AV→Hp→Prop) (h:Hp) (f:AV) (args:List AV):Prop:= ∃ fid fst cap,f= .fn (.func fid) fst cap∧HTP P fid (fst++args++cap) h K p₀
def P5 (K:AV→Prop) (h:Hp) (f:AV) (args:List AV):Prop:= ∃ fid fst cap,f= .fn (.func fid) fst cap∧ ∃ res,HTP P fid (fst++args++cap) h (fun r h'=>r=res∧h'=h) p₀∧K res
def sC (a b:Code) (Q:dA) (e:Ev) (h:Hp) (c:AV):Prop:= ∃ t,c= .v (.bool t)∧if t=true then bP P N L ks a Q e h else bP P N L ks b Q e h
def sW (all:List Oper) (o:Oper) (r:List Oper) (d:Option Tmp) (e:Ev) (h:Hp) (K:Ev→Hp→Prop) (want:Bool) (g:AV):Prop:= ∃ b,gB want g=some b∧if b=true then wOp P p₀ o (dO e) h (kO P p₀ all r d e K) else iy P p₀ all r (bY e d (.v undef)) h K
def sY (all:List Oper) (h:Hp) (o:Oper) (r:List Oper) (d:Option Tmp) (e:Ev) (al:List (Tmp × Value)) (K:Ev→List (Tmp × Value)→Prop) (want:Bool) (g:AV):Prop:= ∃ b,gB want g=some b∧if b=true then cOp P p₀ o (dO e) h (kH P p₀ all h r d e al K) else dQ P p₀ all h r (bY e d (.v undef)) al K
def NI (e:Ev):Option Tmp→AV
 | some d=>aO e d
 | none=> .none
def sF (Q:AV→Hp→Prop) (h:Hp) (o:Option AV):Prop:= ∃ r,o=some r∧ ∃ r' h',dZ h r=some (r',h')∧Q r' h'
def sE (Q:AV→Hp→Prop) (o:Option (AV × Hp)):Prop:= ∃ r h,o=some (r,h)∧Q r h
def sD (all:List Oper) (h:Hp) (r:List Oper) (d:Option Tmp) (e:Ev) (al:List (Tmp × Value)) (K:Ev→List (Tmp × Value)→Prop) (T:TypeId):Prop:= ∃ T' z d',Op.alloc T=Op.alloc T'∧d=some d'∧aA P T'=some z∧dQ P p₀ all h r (bY e d .none) (al++[(d',z)]) K
end
section
variable {P:Program} {p₀:AV→Hp→Prop} {N:Nat} {L:List Nat} {ks:List (Nat × Nat)}
def wC:Ev→Ev→Prop
 | [],_=>True
 | (d,a)::r,e=>aO e d=a∧wC r e
variable {e:Ev}
theorem WC :wC [] e=True:=Eq.trans rfl rfl
theorem SC {d:Nat} {a:AV} {r:Ev}:wC ((d,a)::r) e=(aO e d=a∧wC r e):=Eq.trans rfl rfl
theorem wE: ∀ {e' e:Ev} (h:wC e' e) (d:Nat),aO e' d=aO e d∨aO e' d= .none
 | [],e,_,d=> .inr rfl
 | (k,a)::r,e,h,d=>by
  show (if k=d then a else aO r d)=_∨(if k=d then a else aO r d)=_;by_cases hk:k=d
  ·subst hk;left;rw [if_pos rfl];exact h.1.symm
  ·rw [if_neg hk];exact wE h.2 d
variable {h:Hp}
theorem Ent.fit {n0:Nat} {e':Ev}  (hf:wC e' e):Ent n0 N e h e' h:=fun X a hh hn hX hE=>⟨X,rfl,hh,(Step.refl X).toN (hh▸hn),hX,hE.defers,hE.size,fun d=>by
 rcases wE hf d with q | q
 ·rw [q];exact hE.rep d
 ·rw [q];exact .none _⟩
variable {Q:dA}
theorem afQ :bP P N L ks .skip Q e h=Q .normal e h:=Eq.trans rfl rfl
theorem ajF :bP P N L ks .ret Q e h=Q .ret e h:=Eq.trans rfl rfl
variable {i:Nat}
theorem afR :bP P N L ks (.exit i) Q e h=Q (.exit i) e h:=Eq.trans rfl rfl
theorem abw :bP P N L ks (.label i) Q e h=Q .normal e h:=Eq.trans rfl rfl
variable {b:Code}
theorem abx :bP P N L ks (.scope b) Q e h=bP P N L ks b Q e h:=Eq.trans rfl rfl
theorem ajG {a:Code}   :bP P N L ks (.seq a b) Q e h=bP P N L ks a (Wy P N L ks b Q) e h:=Eq.trans rfl rfl
theorem aby :bP P N L ks (.block i b) Q e h=bP P N L ks b (WA i Q) e h:=Eq.trans rfl rfl
theorem afS {c:Operand} {a:Code}   :bP P N L ks (.cond c a b) Q e h=sC P N L ks a b Q e h (dO e c):=Eq.trans rfl rfl
variable {l:List Oper}
theorem ajH :bP P N L ks (.region i l.toArray false) Q e h=iy P (kP l e Q) l l e h (SB L Q):=Eq.trans rfl rfl
theorem afT :bP P N L ks (.region i l.toArray true) Q e h=qy (kOf ks i) (HY P N ks i l.toArray Q e h) (dQ P (kP l e Q) l (fP (kOf ks (3000000+i)) h) (l.take (kOf ks i)) e [] (WB P (kP l e Q) L (kOf ks (4000000+i)) (l.take (kOf ks i)) l (l.drop (kOf ks i)) h.length (fP (kOf ks (3000000+i)) h) Q)):=Eq.trans rfl rfl
theorem ajI {k:Nat} {E W:Prop} (hk:k≠1000000):qy k E W=W:=if_neg hk
theorem afU {E W:Prop}:qy 1000000 E W=E:=if_pos rfl
theorem afV :Wy P N L ks b Q .normal e h=bP P N L ks b Q e h:=Eq.trans rfl rfl
theorem afW :Wy P N L ks b Q (.exit i) e h=Q (.exit i) e h:=Eq.trans rfl rfl
theorem afX :Wy P N L ks b Q .ret e h=Q .ret e h:=Eq.trans rfl rfl
theorem afY {a:AV}  :Wy P N L ks b Q (.panic a) e h=Q (.panic a) e h:=Eq.trans rfl rfl
theorem k_p {a:AV} :kP l e Q a h=Q (.panic a) (jm l e) h:=Eq.trans rfl rfl
variable {j:Nat}
theorem afZ :WA j Q .normal e h=Q .normal e h:=Eq.trans rfl rfl
theorem af0 :WA j Q (.exit i) e h=if i=j then Q .normal e h else Q (.exit i) e h:=Eq.trans rfl rfl
theorem af2 :WA j Q .ret e h=Q .ret e h:=Eq.trans rfl rfl
theorem af4 {a:AV}  :WA j Q (.panic a) e h=Q (.panic a) e h:=Eq.trans rfl rfl
theorem k_reg :SB L Q e h=Q .normal (lN L e) h:=Eq.trans rfl rfl
variable {al:List (Tmp × Value)}{all:List Oper}{n:Nat}
theorem abz {hd rest:List Oper}    {e1:Ev} :WB P p₀ L 1 hd all rest n h Q e1 al=J5 hd e1:=Eq.trans rfl rfl
theorem af5 {hd rest:List Oper}    {e1:Ev} :WB P p₀ L 0 hd all rest n h Q e1 al=iy P p₀ all rest (eu n al e1) (h++al.map nR) (SB L Q):=Eq.trans rfl rfl
variable {d:Option Tmp}{r:List Oper}
theorem k_o {K:Ev→Hp→Prop} {a:AV} :kO P p₀ all r d e K a h=iy P p₀ all r (bY e d a) h K:=Eq.trans rfl rfl
theorem k_r {K:AV→Hp→Prop}  {a:AV}:kR K h a=K a h:=Eq.trans rfl rfl
theorem k_h {K:Ev→List (Tmp × Value)→Prop} {a:AV}:kH P p₀ all h r d e al K a=dQ P p₀ all h r (bY e d a) al K:=Eq.trans rfl rfl
variable {σ:Type}
theorem au {env:σ→Ev} {hp:σ→Hp} {inv:σ→Prop} {ms:σ→Nat}     (s:σ) (hi:inv s) (hm:ms s<n) (hh:h=hp s) (he:wC (env s) e):J9 ks N env hp inv ms n Q .normal e h:=by
 subst hh;exact ⟨_,_,_,Ent.fit he,hm,s,rfl,rfl,hi,rfl⟩
theorem NJ {env:σ→Ev} {hp:σ→Hp} {inv:σ→Prop} {ms:σ→Nat}     (s:σ) (he:Ent (base ks) N e h (env s) (hp s)) (hi:inv s) (hm:ms s<n):J9 ks N env hp inv ms n Q .normal e h:=
 ⟨_,_,_,he,hm,s,rfl,rfl,hi,rfl⟩
theorem af6 {env:σ→Ev} {hp:σ→Hp} {inv:σ→Prop} {ms:σ→Nat}    :J9 ks N env hp inv ms n Q (.exit i) e h=Q (.exit i) e h:=Eq.trans rfl rfl
theorem af7 {env:σ→Ev} {hp:σ→Hp} {inv:σ→Prop} {ms:σ→Nat}    :J9 ks N env hp inv ms n Q .ret e h=Q .ret e h:=Eq.trans rfl rfl
theorem af8 {env:σ→Ev} {hp:σ→Hp} {inv:σ→Prop} {ms:σ→Nat}   {a:AV}  :J9 ks N env hp inv ms n Q (.panic a) e h=Q (.panic a) e h:=Eq.trans rfl rfl
theorem aQ (env:σ→Ev) (hp:σ→Hp) (inv:σ→Prop) (ms:σ→Nat) (s0:σ)     (hi:inv s0) (hh:h=hp s0) (he:wC (env s0) e)
  (hr: ∀ s,inv s→bP P N L ks b (J9 ks N env hp inv ms (ms s) Q) (env s) (hp s)):bP P N L ks (.loop b) Q e h:=by
 subst hh;refine ⟨fun n e h=> ∃ s,e=env s∧h=hp s∧inv s∧n=ms s,ms s0,_,_,Ent.fit he,⟨s0,rfl,rfl,hi,rfl⟩,?_⟩;rintro n e' h' ⟨s,rfl,rfl,hs,rfl⟩;exact hr s hs
variable {args:List AV}{body:Code}{fn:Func}
theorem TC.by {f:FuncId}    {res:AV} (N:Nat) (L:List Nat) (ks:List (Nat × Nat)) (rs:List ResultVar) (hf:P.funcs[f]? =some fn) (hb:fn.body=some body) (hn:fn.ntmps=N) (hr:fn.results=rs.toArray) (hc:Clo res)
  (hw:bP P N L ks body (Fin P rs.toArray fun r _=>r=res) (qM 0 args) []) (bT:P.follows .mixedOrders=true:=by kernel_rfl) (hp:lM P f=true:=by kernel_rfl) (hk:dL N ks body=true:=by kernel_rfl) (hN:args.length≤N:=by exact Nat.le_of_ble_eq_true rfl) (hbs:base ks=0:=by rfl):TC P f args res:=by
 subst hn;rw [←hr] at hw;exact TC.of L ks bT hf hb hp hk hN hbs hc hw
theorem HT.by {f:FuncId}     {R:AV→Hp→Prop} (N:Nat) (L:List Nat) (ks:List (Nat × Nat)) (rs:List ResultVar) (hf:P.funcs[f]? =some fn) (hb:fn.body=some body) (hn:fn.ntmps=N) (hr:fn.results=rs.toArray) (hbs:base ks=h.length)
  (hw:bP P N L ks body (Fin P rs.toArray R) (qM 0 args) h) (bT:P.follows .mixedOrders=true:=by kernel_rfl) (hp:lM P f=true:=by kernel_rfl) (hk:dL N ks body=true:=by kernel_rfl) (hN:args.length≤N:=by exact Nat.le_of_ble_eq_true rfl):HT P f args h R:=by
 subst hn;rw [←hr] at hw;exact HT.of bT hf hb hp hk hN hbs hw
theorem HTP.by {f:FuncId}     {R p:AV→Hp→Prop} (N:Nat) (L:List Nat) (ks:List (Nat × Nat)) (rs:List ResultVar) (hf:P.funcs[f]? =some fn) (hb:fn.body=some body) (hn:fn.ntmps=N) (hr:fn.results=rs.toArray) (hbs:base ks=h.length)
  (hw:bP P N L ks body (EK P rs.toArray R p) (qM 0 args) h) (bT:P.follows .mixedOrders=true:=by kernel_rfl) (hp:lM P f=true:=by kernel_rfl) (hk:dL N ks body=true:=by kernel_rfl) (hN:args.length≤N:=by exact Nat.le_of_ble_eq_true rfl):HTP P f args h R p:=by
 subst hn;rw [←hr] at hw;exact HTP.of bT hf hb hp hk hN hbs hw
theorem abA :fP 0 h=h.map froze:=oZ h
theorem abB {m:Nat} {o:Option Ob} {r:Hp}:fP m (o::r)=(if m % 2=1 then o else froze o)::fP (m / 2) r:=Eq.trans rfl rfl
theorem af9 {m:Nat}:fP m []=[]:=by cases m<;>rfl
theorem ajJ {K:Ev→Hp→Prop}:iy P p₀ all [] e h K=K e h:=Eq.trans rfl rfl
variable {a:Array Edge}{p:String}
theorem aga {K:Ev→Hp→Prop}  {t:TypeId}   {op:Op}:iy P p₀ all (⟨d,op,t,p,a,none⟩::r) e h K=wOp P p₀ ⟨d,op,t,p,a,none⟩ (dO e) h (kO P p₀ all r d e K):=Eq.trans rfl rfl
theorem agb {K:Ev→Hp→Prop}  {t:TypeId}   {op:Op}  {w:Bool}:iy P p₀ all (⟨d,op,t,p,a,some (j,w)⟩::r) e h K=sW P p₀ all ⟨d,op,t,p,a,none⟩ r d e h K w (NI e ((all[j]?).bind (·.dst))):=by
 have e1: ∀ K',wOp P p₀ ⟨d,op,t,p,a,some (j,w)⟩ (dO e) h K'=wOp P p₀ ⟨d,op,t,p,a,none⟩ (dO e) h K':=fun K'=>by cases op<;>rfl
 have e2:guardE all e j=NI e ((all[j]?).bind (·.dst)):=by unfold guardE NI;rfl
 show (∃ b,gB w (guardE all e j)=some b∧(if b=true then wOp P p₀ ⟨d,op,t,p,a,some (j,w)⟩ (dO e) h (kO P p₀ all r d e K) else _))=_;rw [e1,e2];rfl
theorem ajK {K:Ev→List (Tmp × Value)→Prop}:dQ P p₀ all h [] e al K=K e al:=Eq.trans rfl rfl
variable {T:TypeId}
theorem abC {K:Ev→List (Tmp × Value)→Prop}  {t:TypeId}   :dQ P p₀ all h (⟨d, .alloc T,t,p,a,none⟩::r) e al K=sD P p₀ all h r d e al K T:=Eq.trans rfl rfl
theorem agc {K:Ev→List (Tmp × Value)→Prop}  {t:TypeId}   {op:Op}:aC ⟨d,op,t,p,a,none⟩=false→dQ P p₀ all h (⟨d,op,t,p,a,none⟩::r) e al K=cOp P p₀ ⟨d,op,t,p,a,none⟩ (dO e) h (kH P p₀ all h r d e al K):=fun hn=>by
 show (if aC ⟨d,op,t,p,a,none⟩=true then _ else _)=_;rw [hn];rfl
theorem agd {K:Ev→List (Tmp × Value)→Prop}  {t:TypeId}   {op:Op}  {w:Bool}:dQ P p₀ all h (⟨d,op,t,p,a,some (j,w)⟩::r) e al K=sY P p₀ all h ⟨d,op,t,p,a,none⟩ r d e al K w (NI e ((all[j]?).bind (·.dst))):=by
 have e1: ∀ K',cOp P p₀ ⟨d,op,t,p,a,some (j,w)⟩ (dO e) h K'=cOp P p₀ ⟨d,op,t,p,a,none⟩ (dO e) h K':=fun K'=>by cases op<;>rfl
 have e2:guardE all e j=NI e ((all[j]?).bind (·.dst)):=by unfold guardE NI;rfl
 show (∃ b,gB w (guardE all e j)=some b∧(if b=true then cOp P p₀ ⟨d,op,t,p,a,some (j,w)⟩ (dO e) h (kH P p₀ all h r d e al K) else _))=_;rw [e1,e2];rfl
variable {E:Operand→AV}{K:AV→Prop}{x:Operand}
theorem agf {t:TypeId}   {g:Option (Nat × Bool)}  :rOp P ⟨d, .move x,t,p,a,g⟩ E h K=K (E x):=Eq.trans rfl rfl
theorem WE {t:TypeId}   {g:Option (Nat × Bool)}  :rOp P ⟨d, .assign x,t,p,a,g⟩ E h K=K (E x):=Eq.trans rfl rfl
variable {y:Operand}
theorem agh {t:TypeId}   {g:Option (Nat × Bool)} {c:Operand} :rOp P ⟨d, .pick c x y,t,p,a,g⟩ E h K=sP K (E c) (E x) (E y):=Eq.trans rfl rfl
variable {parts:Array (Nat × Operand)}
theorem abD {t:TypeId}   {g:Option (Nat × Bool)}   :rOp P ⟨d, .build T parts,t,p,a,g⟩ E h K=sG K (oD P h T (parts.toList.map fun p=>(p.1,E p.2))):=Eq.trans rfl rfl
theorem agi {t:TypeId}   {g:Option (Nat × Bool)}   :rOp P ⟨d, .load T x,t,p,a,g⟩ E h K=(szP P T≠some 0∧sA K (qE P h T (E x))):=Eq.trans rfl rfl
theorem NK {t:TypeId}   {g:Option (Nat × Bool)}  :rOp P ⟨d, .nilCheck x,t,p,a,g⟩ E h K=sN K (E x) (mg h (E x)):=Eq.trans rfl rfl
variable {op:BinOp}{ty:TypeId}
theorem abE {t:TypeId}   {g:Option (Nat × Bool)}    :rOp P ⟨d, .binOp op T x y ty,t,p,a,g⟩ E h K=sV K (qJ P h op T (E x) (E y)):=Eq.trans rfl rfl
theorem agj {t:TypeId}   {g:Option (Nat × Bool)} {op:UnOp}   :rOp P ⟨d, .unOp op T x,t,p,a,g⟩ E h K=sV K (unA op (E x)):=Eq.trans rfl rfl
variable {s u:TypeId}
theorem SE {t:TypeId}   {g:Option (Nat × Bool)}   :rOp P ⟨d, .convert s u x,t,p,a,g⟩ E h K=sV K (iM P h s u (E x)):=Eq.trans rfl rfl
variable {f:Nat}
theorem Ko {t:TypeId}   {g:Option (Nat × Bool)} {S:TypeId}   :rOp P ⟨d, .fieldAddr S x f,t,p,a,g⟩ E h K=sA K (uM P h S (E x) f):=Eq.trans rfl rfl
theorem abG {t:TypeId}   {g:Option (Nat × Bool)} {S:TypeId}   :rOp P ⟨d, .field S x f,t,p,a,g⟩ E h K=sA K (uO P S (E x) f):=Eq.trans rfl rfl
theorem SG {t:TypeId}   {g:Option (Nat × Bool)}   :rOp P ⟨d, .extract x i,t,p,a,g⟩ E h K=sA K (Fq (E x) i):=Eq.trans rfl rfl
theorem ajL {t:TypeId}   {g:Option (Nat × Bool)}   {K:AV→Hp→Prop}:wOp P p₀ ⟨d, .makeInterface T x,t,p,a,g⟩ E h K=(bW P T=true∧K (.ifc T (E x)) h):=Eq.trans rfl rfl
theorem ajM {t:TypeId}   {g:Option (Nat × Bool)}   :cOp P p₀ ⟨d, .makeInterface T x,t,p,a,g⟩ E h K=(bW P T=true∧K (.ifc T (E x))):=Eq.trans rfl rfl
variable {k:Operand}
theorem WG {t:TypeId}   {g:Option (Nat × Bool)}   {ok:Bool} {K:AV→Hp→Prop}:wOp P p₀ ⟨d, .lookup T x k ok,t,p,a,g⟩ E h K=sA (kR K h) (nM P h T (E x) (E k) ok):=Eq.trans rfl rfl
theorem WH {t:TypeId}   {g:Option (Nat × Bool)}   {ok:Bool} :cOp P p₀ ⟨d, .lookup T x k ok,t,p,a,g⟩ E h K=sA K (nM P h T (E x) (E k) ok):=Eq.trans rfl rfl
theorem SH {t:TypeId}   {g:Option (Nat × Bool)}  {K:AV→Hp→Prop}:wOp P p₀ ⟨d, .makeMap T none,t,p,a,g⟩ E h K=K (.mp h.length) (h++[some (.map [])]):=propext ⟨fun q=>q.2,fun q=>⟨rfl,q⟩⟩
theorem Kq {t:TypeId}   {g:Option (Nat × Bool)}  {m:Operand} {K:AV→Hp→Prop}:wOp P p₀ ⟨d, .mapUpdate T m k x,t,p,a,g⟩ E h K=sH K (kW P h T (E m) (E k) (E x)):=Eq.trans rfl rfl
theorem WI {t:TypeId}   {g:Option (Nat × Bool)}  {m:Operand} {K:AV→Hp→Prop}:wOp P p₀ ⟨d, .insert T m k x,t,p,a,g⟩ E h K=sH K (kW P h T (E m) (E k) (E x)):=Eq.trans rfl rfl
def ajN (p:AV→Hp→Prop) (h:Hp) (x:AV):Prop:= ∃ T a,x= .ifc T a∧p (.ifc T a) h
theorem WJ {x:AV}:ajN p₀ h (.ifc T x)=p₀ (.ifc T x) h:=propext ⟨fun ⟨_,_,e,q⟩=>by cases e;exact q,fun q=>⟨_,_,rfl,q⟩⟩
theorem abH {t:TypeId}   {g:Option (Nat × Bool)}  {K:AV→Hp→Prop}:wOp P p₀ ⟨d, .panic x,t,p,a,g⟩ E h K=ajN p₀ h (E x):=Eq.trans rfl rfl
theorem agk {t:TypeId}   {g:Option (Nat × Bool)}  {K:AV→Hp→Prop}:wOp P p₀ ⟨d, .move x,t,p,a,g⟩ E h K=rOp P ⟨d, .move x,t,p,a,g⟩ E h (kR K h):=Eq.trans rfl rfl
theorem agl {t:TypeId}   {g:Option (Nat × Bool)}  :cOp P p₀ ⟨d, .move x,t,p,a,g⟩ E h K=rOp P ⟨d, .move x,t,p,a,g⟩ E h K:=Eq.trans rfl rfl
theorem WL {t:TypeId}   {g:Option (Nat × Bool)}  {K:AV→Hp→Prop}:wOp P p₀ ⟨d, .assign x,t,p,a,g⟩ E h K=rOp P ⟨d, .assign x,t,p,a,g⟩ E h (kR K h):=Eq.trans rfl rfl
theorem WM {t:TypeId}   {g:Option (Nat × Bool)}  :cOp P p₀ ⟨d, .assign x,t,p,a,g⟩ E h K=rOp P ⟨d, .assign x,t,p,a,g⟩ E h K:=Eq.trans rfl rfl
theorem agm {t:TypeId}   {g:Option (Nat × Bool)} {c:Operand} {K:AV→Hp→Prop}:wOp P p₀ ⟨d, .pick c x y,t,p,a,g⟩ E h K=rOp P ⟨d, .pick c x y,t,p,a,g⟩ E h (kR K h):=Eq.trans rfl rfl
theorem agn {t:TypeId}   {g:Option (Nat × Bool)} {c:Operand} :cOp P p₀ ⟨d, .pick c x y,t,p,a,g⟩ E h K=rOp P ⟨d, .pick c x y,t,p,a,g⟩ E h K:=Eq.trans rfl rfl
theorem abI {t:TypeId}   {g:Option (Nat × Bool)}   {K:AV→Hp→Prop}:wOp P p₀ ⟨d, .build T parts,t,p,a,g⟩ E h K=rOp P ⟨d, .build T parts,t,p,a,g⟩ E h (kR K h):=Eq.trans rfl rfl
theorem abJ {t:TypeId}   {g:Option (Nat × Bool)}   :cOp P p₀ ⟨d, .build T parts,t,p,a,g⟩ E h K=rOp P ⟨d, .build T parts,t,p,a,g⟩ E h K:=Eq.trans rfl rfl
theorem agp {t:TypeId}   {g:Option (Nat × Bool)}   {K:AV→Hp→Prop}:wOp P p₀ ⟨d, .load T x,t,p,a,g⟩ E h K=rOp P ⟨d, .load T x,t,p,a,g⟩ E h (kR K h):=Eq.trans rfl rfl
theorem agq {t:TypeId}   {g:Option (Nat × Bool)}   :cOp P p₀ ⟨d, .load T x,t,p,a,g⟩ E h K=rOp P ⟨d, .load T x,t,p,a,g⟩ E h K:=Eq.trans rfl rfl
theorem NM {t:TypeId}   {g:Option (Nat × Bool)}  {K:AV→Hp→Prop}:wOp P p₀ ⟨d, .nilCheck x,t,p,a,g⟩ E h K=rOp P ⟨d, .nilCheck x,t,p,a,g⟩ E h (kR K h):=Eq.trans rfl rfl
theorem NP {t:TypeId}   {g:Option (Nat × Bool)}  :cOp P p₀ ⟨d, .nilCheck x,t,p,a,g⟩ E h K=rOp P ⟨d, .nilCheck x,t,p,a,g⟩ E h K:=Eq.trans rfl rfl
theorem abK {t:TypeId}   {g:Option (Nat × Bool)}    {K:AV→Hp→Prop}:wOp P p₀ ⟨d, .binOp op T x y ty,t,p,a,g⟩ E h K=rOp P ⟨d, .binOp op T x y ty,t,p,a,g⟩ E h (kR K h):=Eq.trans rfl rfl
theorem abL {t:TypeId}   {g:Option (Nat × Bool)}    :cOp P p₀ ⟨d, .binOp op T x y ty,t,p,a,g⟩ E h K=rOp P ⟨d, .binOp op T x y ty,t,p,a,g⟩ E h K:=Eq.trans rfl rfl
theorem agr {t:TypeId}   {g:Option (Nat × Bool)} {op:UnOp}   {K:AV→Hp→Prop}:wOp P p₀ ⟨d, .unOp op T x,t,p,a,g⟩ E h K=rOp P ⟨d, .unOp op T x,t,p,a,g⟩ E h (kR K h):=Eq.trans rfl rfl
theorem ags {t:TypeId}   {g:Option (Nat × Bool)} {op:UnOp}   :cOp P p₀ ⟨d, .unOp op T x,t,p,a,g⟩ E h K=rOp P ⟨d, .unOp op T x,t,p,a,g⟩ E h K:=Eq.trans rfl rfl
theorem SI {t:TypeId}   {g:Option (Nat × Bool)}   {K:AV→Hp→Prop}:wOp P p₀ ⟨d, .convert s u x,t,p,a,g⟩ E h K=sA (kR K h) (cvA P h s u (E x)):=Eq.trans rfl rfl
theorem SK {t:TypeId}   {g:Option (Nat × Bool)}   :cOp P p₀ ⟨d, .convert s u x,t,p,a,g⟩ E h K=sV K (iM P [] s u (E x)):=Eq.trans rfl rfl
theorem Kr {t:TypeId}   {g:Option (Nat × Bool)} {S:TypeId}   {K:AV→Hp→Prop}:wOp P p₀ ⟨d, .fieldAddr S x f,t,p,a,g⟩ E h K=rOp P ⟨d, .fieldAddr S x f,t,p,a,g⟩ E h (kR K h):=Eq.trans rfl rfl
theorem Kt {t:TypeId}   {g:Option (Nat × Bool)} {S:TypeId}   :cOp P p₀ ⟨d, .fieldAddr S x f,t,p,a,g⟩ E h K=rOp P ⟨d, .fieldAddr S x f,t,p,a,g⟩ E h K:=Eq.trans rfl rfl
theorem abM {t:TypeId}   {g:Option (Nat × Bool)} {S:TypeId}   {K:AV→Hp→Prop}:wOp P p₀ ⟨d, .field S x f,t,p,a,g⟩ E h K=rOp P ⟨d, .field S x f,t,p,a,g⟩ E h (kR K h):=Eq.trans rfl rfl
theorem abN {t:TypeId}   {g:Option (Nat × Bool)} {S:TypeId}   :cOp P p₀ ⟨d, .field S x f,t,p,a,g⟩ E h K=rOp P ⟨d, .field S x f,t,p,a,g⟩ E h K:=Eq.trans rfl rfl
theorem SL {t:TypeId}   {g:Option (Nat × Bool)}   {K:AV→Hp→Prop}:wOp P p₀ ⟨d, .extract x i,t,p,a,g⟩ E h K=rOp P ⟨d, .extract x i,t,p,a,g⟩ E h (kR K h):=Eq.trans rfl rfl
theorem SQ {t:TypeId}   {g:Option (Nat × Bool)}   :cOp P p₀ ⟨d, .extract x i,t,p,a,g⟩ E h K=rOp P ⟨d, .extract x i,t,p,a,g⟩ E h K:=Eq.trans rfl rfl
end
end
section
open Go.RowKit
def sT0 (K:AV→Prop) (n:Nat) (o:Option (TypeId × Nat × List AV)):Prop:= ∃ te s l,o=some (te,s,l)∧K (if n=0 then .e0 else .t n s l)
def sX1 (P:Program) (h:Hp) (T:TypeId) (x:AV) (K:AV→Prop) (z:Option Int):Prop:= ∃ i,z=some i∧sA K (G9 P h T x i)
def sX2 (P:Program) (T:TypeId) (x:AV) (K:AV→Prop) (z:Option Int):Prop:= ∃ i,z=some i∧sA K (mD P T x i)
section
variable {P:Program} {p₀:AV→Hp→Prop} {E:Operand→AV} {h:Hp} {d:Option Tmp} {t:TypeId} {p:String} {a:Array Edge} {g:Option (Nat × Bool)}
variable {T:TypeId}{hi:Option Operand}{x:Operand}
theorem abO {lo:Option Operand} {K:AV→Prop}:rOp P ⟨d, .slice T x lo hi none,t,p,a,g⟩ E h K=sA K (sliceT P h T (E x) (lo.map E) (hi.map E)):=propext ⟨fun q=>q.2,fun q=>⟨rfl,q⟩⟩
theorem abP {lo:Option Operand} {K:AV→Prop}:cOp P p₀ ⟨d, .slice T x lo hi none,t,p,a,g⟩ E h K=rOp P ⟨d, .slice T x lo hi none,t,p,a,g⟩ E h K:=Eq.trans rfl rfl
variable {K:AV→Hp→Prop}
theorem abQ {lo:Option Operand} :wOp P p₀ ⟨d, .slice T x lo hi none,t,p,a,g⟩ E h K=sO K (iK P h T (E x) (lo.map E) (hi.map E)):=propext ⟨fun q=>q.2,fun q=>⟨rfl,q⟩⟩
variable {i:Operand}
theorem Ku {K:AV→Prop}:rOp P ⟨d, .indexAddr T x i,t,p,a,g⟩ E h K=sX1 P h T (E x) K (qB (E i)):=propext ⟨fun ⟨z,r,q1,q2,q3⟩=>⟨z,q1,r,q2,q3⟩,fun ⟨z,q1,r,q2,q3⟩=>⟨z,r,q1,q2,q3⟩⟩
theorem Kv {K:AV→Prop}:cOp P p₀ ⟨d, .indexAddr T x i,t,p,a,g⟩ E h K=rOp P ⟨d, .indexAddr T x i,t,p,a,g⟩ E h K:=Eq.trans rfl rfl
theorem Kw :wOp P p₀ ⟨d, .indexAddr T x i,t,p,a,g⟩ E h K=rOp P ⟨d, .indexAddr T x i,t,p,a,g⟩ E h (kR K h):=Eq.trans rfl rfl
theorem abR {K:AV→Prop}:rOp P ⟨d, .index T x i,t,p,a,g⟩ E h K=sX2 P T (E x) K (qB (E i)):=propext ⟨fun ⟨z,r,q1,q2,q3⟩=>⟨z,q1,r,q2,q3⟩,fun ⟨z,q1,r,q2,q3⟩=>⟨z,r,q1,q2,q3⟩⟩
theorem abS {K:AV→Prop}:cOp P p₀ ⟨d, .index T x i,t,p,a,g⟩ E h K=rOp P ⟨d, .index T x i,t,p,a,g⟩ E h K:=Eq.trans rfl rfl
theorem abT :wOp P p₀ ⟨d, .index T x i,t,p,a,g⟩ E h K=rOp P ⟨d, .index T x i,t,p,a,g⟩ E h (kR K h):=Eq.trans rfl rfl
variable {l1 l2:List Operand}
theorem agt {f:Fn}  {K:AV→Prop}:rOp P ⟨d, .makeFunc f l1.toArray l2.toArray,t,p,a,g⟩ E h K=K (.fn f (l1.map E) (l2.map E)):=Eq.trans rfl rfl
theorem agu {f:Fn}  {K:AV→Prop}:cOp P p₀ ⟨d, .makeFunc f l1.toArray l2.toArray,t,p,a,g⟩ E h K=K (.fn f (l1.map E) (l2.map E)):=Eq.trans rfl rfl
theorem agv {f:Fn}  :wOp P p₀ ⟨d, .makeFunc f l1.toArray l2.toArray,t,p,a,g⟩ E h K=K (.fn f (l1.map E) (l2.map E)) h:=Eq.trans rfl rfl
theorem len_eq {K:AV→Prop}:uw P ⟨.builtin .len, #[x], #[T]⟩ E h K=sL K (EG P h T (E x)):=propext ⟨fun ⟨_,n,q1,_,q2⟩=>⟨n,q1,q2⟩,fun ⟨n,q1,q2⟩=>⟨rfl,n,q1,rfl,q2⟩⟩
theorem q_len {K:AV→Prop}:cOp P p₀ ⟨d, .call ⟨.builtin .len, #[x], #[T]⟩,t,p,a,g⟩ E h K=sL K (EG P h T (E x)):=len_eq
theorem ajO :wOp P p₀ ⟨d, .call ⟨.builtin .len, #[x], #[T]⟩,t,p,a,g⟩ E h K=sL (kR K h) (EG P h T (E x)):=len_eq (K:=kR K h)
variable {l:List Operand}{tt:Array TypeId}
theorem ajP {K:AV→Prop}:cOp P p₀ ⟨d, .call ⟨.builtin .max,l.toArray,tt⟩,t,p,a,g⟩ E h K=sA K (mmA true (l.map E)):=Eq.trans rfl rfl
theorem ajQ :wOp P p₀ ⟨d, .call ⟨.builtin .max,l.toArray,tt⟩,t,p,a,g⟩ E h K=sA (kR K h) (mmA true (l.map E)):=Eq.trans rfl rfl
theorem ajR {K:AV→Prop}:cOp P p₀ ⟨d, .call ⟨.builtin .min,l.toArray,tt⟩,t,p,a,g⟩ E h K=sA K (mmA false (l.map E)):=Eq.trans rfl rfl
theorem ajS :wOp P p₀ ⟨d, .call ⟨.builtin .min,l.toArray,tt⟩,t,p,a,g⟩ E h K=sA (kR K h) (mmA false (l.map E)):=Eq.trans rfl rfl
variable {U:TypeId}{y:Operand}
theorem WO :wOp P p₀ ⟨d, .call ⟨.builtin .append, #[x,y], #[T,U]⟩,t,p,a,g⟩ E h K=sO K (nN P h T U (E x) (E y)):=propext ⟨fun ⟨_,_,q⟩=>q,fun q=>⟨rfl,rfl,q⟩⟩
theorem agw :wOp P p₀ ⟨d, .call ⟨.builtin .copy, #[x,y], #[T,U]⟩,t,p,a,g⟩ E h K=sO K (zD P h T U (E x) (E y)):=propext ⟨fun ⟨_,_,q⟩=>q,fun q=>⟨rfl,rfl,q⟩⟩
theorem agx {f:Operand}   :wOp P p₀ ⟨d, .call ⟨.value f,l.toArray,tt⟩,t,p,a,g⟩ E h K=zI P p₀ K h (E f) (l.map E):=Eq.trans rfl rfl
theorem agy {f:Operand}   {K:AV→Prop}:cOp P p₀ ⟨d, .call ⟨.value f,l.toArray,tt⟩,t,p,a,g⟩ E h K=P5 P p₀ K h (E f) (l.map E):=Eq.trans rfl rfl
theorem ajT {n:Nat} {l:List (Nat × Operand)} {K:AV→Prop}:cOp P p₀ ⟨d, .buildSlice T n l.toArray,t,p,a,g⟩ E h K=sT0 K n (zZ P h T n (l.map fun p=>(p.1,E p.2))):=Eq.trans rfl rfl
theorem WQ {K:AV→Prop}:cOp P p₀ ⟨d, .call ⟨.builtin .append, #[x,y], #[T,U]⟩,t,p,a,g⟩ E h K=sA K (JV P h T U (E x) (E y)):=propext ⟨fun ⟨_,_,q⟩=>q,fun q=>⟨rfl,rfl,q⟩⟩
theorem ajU {n:Nat} {l:List (Nat × Operand)} :wOp P p₀ ⟨d, .buildSlice T n l.toArray,t,p,a,g⟩ E h K=sS K h n (zZ P h T n (l.map fun p=>(p.1,E p.2))):=Eq.trans rfl rfl
theorem abU :wOp P p₀ ⟨d, .alloc T,t,p,a,g⟩ E h K=sZ K h (aA P T):=Eq.trans rfl rfl
theorem ajV :wOp P p₀ ⟨d, .box T x,t,p,a,g⟩ E h K=sB K h (cellsA h (E x)):=Eq.trans rfl rfl
theorem abV :wOp P p₀ ⟨d, .store T x y,t,p,a,g⟩ E h K=sH K (uK P h T (E x) (E y)):=Eq.trans rfl rfl
theorem agz :wOp P p₀ ⟨d, .makeSlice T x y,t,p,a,g⟩ E h K=sI P T K h (qB (E x)) (qB (E y)):=Eq.trans rfl rfl
end
section
variable {P:Program} {p₀:AV→Hp→Prop} {N:Nat} {L:List Nat} {ks:List (Nat × Nat)}
theorem nS {α:Type} {x:α} {K:α→Prop}:(∃ r,some x=some r∧K r)=K x:=propext ⟨fun ⟨r,h1,h2⟩=>by injection h1 with h1;subst h1;exact h2,fun h=>⟨x,rfl,h⟩⟩
variable {v:Value}
theorem abW {K:AV→Prop} :sV K (some v)=K (.v v):=nS (K:=fun r=>K (.v r))
theorem abX {K:AV→Prop} {v:AV}:sA K (some v)=K v:=nS
variable {l:List AV}
theorem abY {K:AV→Prop} :sG K (some l)=K (.g l):=nS (K:=fun r=>K (.g r))
variable {h:Hp}
theorem P6 {K:AV→Hp→Prop} {v:AV} :sO K (some (v,h))=K v h:=propext ⟨fun ⟨r,h',h1,h2⟩=>by injection h1 with h1;injection h1 with e1 e2;subst e1 e2;exact h2,fun q=>⟨v,h,rfl,q⟩⟩
theorem abZ {K:AV→Hp→Prop} {v:AV} :sE K (some (v,h))=K v h:=P6
theorem ab1 {K:AV→Hp→Prop} :sH K (some h)=K .none h:=nS (K:=fun r=>K .none r)
theorem ab2 {K:AV→Hp→Prop}  {z:Value}:sZ K h (some z)=K (.ptr h.length 0) (h++[some (.blk (fZ z))]):=propext ⟨fun ⟨r,h1,h2⟩=>by injection h1 with h1;subst h1;exact h2,fun q=>⟨z,rfl,q⟩⟩
theorem ab3 {K:AV→Hp→Prop}  {z:List AV}:sB K h (some z)=K (.ptr h.length 0) (h++[some (.blk z)]):=propext ⟨fun ⟨r,h1,h2⟩=>by injection h1 with h1;subst h1;exact h2,fun q=>⟨z,rfl,q⟩⟩
variable {n s:Nat}{te:TypeId}
theorem ab4 {K:AV→Hp→Prop}     :sS K h n (some (te,s,l))=K (.own h.length n) (h++[some (.arr te s l 0)]):=propext ⟨fun ⟨_,_,_,h1,h2⟩=>by injection h1 with h1;injection h1 with e1 h1;injection h1 with e2 e3;subst e1 e2 e3;exact h2,fun q=>⟨te,s,l,rfl,q⟩⟩
theorem ab5 {K:AV→Prop}    :sT K n (some (te,s,l))=K (.t n s l):=propext ⟨fun ⟨_,_,_,h1,h2⟩=>by injection h1 with h1;injection h1 with e1 h1;injection h1 with e2 e3;subst e1 e2 e3;exact h2,fun q=>⟨te,s,l,rfl,q⟩⟩
theorem WR {K:AV→Prop}    :sT0 K n (some (te,s,l))=K (if n=0 then .e0 else .t n s l):=propext ⟨fun ⟨_,_,_,h1,h2⟩=>by injection h1 with h1;injection h1 with e1 h1;injection h1 with e2 e3;subst e1 e2 e3;exact h2,fun q=>⟨te,s,l,rfl,q⟩⟩
variable {T:TypeId}
theorem ab6 {K:AV→Hp→Prop}  {zl zc:Int}:sI P T K h (some zl) (some zc)=sS K h zl.toNat (vU P T zl zc):=propext ⟨fun ⟨_,_,te,s,l,h1,h2,h3,h4⟩=>by injection h1 with h1;injection h2 with h2;subst h1 h2;exact ⟨te,s,l,h3,h4⟩,fun ⟨te,s,l,h3,h4⟩=>⟨_,_,te,s,l,rfl,rfl,h3,h4⟩⟩
variable {x:AV}
theorem WS {K:AV→Prop} {i:Int}:sX1 P h T x K (some i)=sA K (G9 P h T x i):=nS (K:=fun i=>sA K (G9 P h T x i))
theorem WT {K:AV→Prop} {i:Int}:sX2 P T x K (some i)=sA K (mD P T x i):=nS (K:=fun i=>sA K (mD P T x i))
theorem ab7 {K:AV→Prop} :sN K x (some false)=K x:=propext ⟨fun q=>q.2,fun q=>⟨rfl,q⟩⟩
theorem ab8 {K:AV→Prop} :sL K (some n)=K (.v (.int .i64 n)):=nS (K:=fun n:Nat=>K (.v (.int .i64 n)))
theorem agB {K:AV→Prop} {y:AV}:sP K (.v (.bool true)) x y=K x:=propext ⟨fun ⟨t,h1,h2⟩=>by cases h1;exact h2,fun q=>⟨true,rfl,q⟩⟩
theorem agC {K:AV→Prop} {y:AV}:sP K (.v (.bool false)) x y=K y:=propext ⟨fun ⟨t,h1,h2⟩=>by cases h1;exact h2,fun q=>⟨false,rfl,q⟩⟩
variable {e:Ev}
theorem agD {a b:Code} {Q:dA}  :sC P N L ks a b Q e h (.v (.bool true))=bP P N L ks a Q e h:=propext ⟨fun ⟨t,h1,h2⟩=>by cases h1;exact h2,fun q=>⟨true,rfl,q⟩⟩
theorem agE {a b:Code} {Q:dA}  :sC P N L ks a b Q e h (.v (.bool false))=bP P N L ks b Q e h:=propext ⟨fun ⟨t,h1,h2⟩=>by cases h1;exact h2,fun q=>⟨false,rfl,q⟩⟩
variable {all r:List Oper}{d:Option Tmp}{o:Oper}
theorem WU {K:Ev→Hp→Prop}:sW P p₀ all o r d e h K true (.v (.bool true))=wOp P p₀ o (dO e) h (kO P p₀ all r d e K):=propext ⟨fun ⟨t,h1,h2⟩=>by injection h1 with h1;subst h1;simpa using h2,fun q=>⟨_,rfl,by simpa using q⟩⟩
theorem WV {K:Ev→Hp→Prop}:sW P p₀ all o r d e h K true (.v (.bool false))=iy P p₀ all r (bY e d (.v undef)) h K:=propext ⟨fun ⟨t,h1,h2⟩=>by injection h1 with h1;subst h1;simpa using h2,fun q=>⟨_,rfl,by simpa using q⟩⟩
theorem WW {K:Ev→Hp→Prop}:sW P p₀ all o r d e h K false (.v (.bool true))=iy P p₀ all r (bY e d (.v undef)) h K:=propext ⟨fun ⟨t,h1,h2⟩=>by injection h1 with h1;subst h1;simpa using h2,fun q=>⟨_,rfl,by simpa using q⟩⟩
theorem WX {K:Ev→Hp→Prop}:sW P p₀ all o r d e h K false (.v (.bool false))=wOp P p₀ o (dO e) h (kO P p₀ all r d e K):=propext ⟨fun ⟨t,h1,h2⟩=>by injection h1 with h1;subst h1;simpa using h2,fun q=>⟨_,rfl,by simpa using q⟩⟩
variable {q:Prop}
theorem ab9 {K:Ev→Hp→Prop}  [Decidable q] (hq: ¬ q):sW P p₀ all o r d e h K true (.v (.bool (decide q)))=iy P p₀ all r (bY e d (.v undef)) h K:=by rw [aj hq];exact WV
theorem acd {K:Ev→Hp→Prop}  [Decidable q] (hq:q):sW P p₀ all o r d e h K true (.v (.bool (decide q)))=wOp P p₀ o (dO e) h (kO P p₀ all r d e K):=by rw [ah hq];exact WU
theorem ace {K:Ev→Hp→Prop}  [Decidable q] (hq: ¬ q):sW P p₀ all o r d e h K true (.v (.bool (!decide q)))=wOp P p₀ o (dO e) h (kO P p₀ all r d e K):=by rw [aj hq];exact WU
theorem acf {K:Ev→Hp→Prop}  [Decidable q] (hq:q):sW P p₀ all o r d e h K true (.v (.bool (!decide q)))=iy P p₀ all r (bY e d (.v undef)) h K:=by rw [ah hq];exact WV
theorem acg {K:Ev→Hp→Prop}  [Decidable q] (hq: ¬ q):sW P p₀ all o r d e h K false (.v (.bool (decide q)))=wOp P p₀ o (dO e) h (kO P p₀ all r d e K):=by rw [aj hq];exact WX
theorem ach {K:Ev→Hp→Prop}  [Decidable q] (hq:q):sW P p₀ all o r d e h K false (.v (.bool (decide q)))=iy P p₀ all r (bY e d (.v undef)) h K:=by rw [ah hq];exact WW
theorem aci {K:Ev→Hp→Prop}  [Decidable q] (hq: ¬ q):sW P p₀ all o r d e h K false (.v (.bool (!decide q)))=iy P p₀ all r (bY e d (.v undef)) h K:=by rw [aj hq];exact WW
theorem acj {K:Ev→Hp→Prop}  [Decidable q] (hq:q):sW P p₀ all o r d e h K false (.v (.bool (!decide q)))=wOp P p₀ o (dO e) h (kO P p₀ all r d e K):=by rw [ah hq];exact WX
theorem ajW {K:Ev→Hp→Prop} {w:Bool}:sW P p₀ all o r d e h K w (.v undef)=iy P p₀ all r (bY e d (.v undef)) h K:=propext ⟨fun ⟨t,h1,h2⟩=>by injection h1 with h1;subst h1;simpa using h2,fun q=>⟨_,rfl,by simpa using q⟩⟩
variable {K:Ev→List (Tmp × Value)→Prop}{al:List (Tmp × Value)}
theorem ajX {w:Bool}:sY P p₀ all h o r d e al K w (.v undef)=dQ P p₀ all h r (bY e d (.v undef)) al K:=propext ⟨fun ⟨t,h1,h2⟩=>by injection h1 with h1;subst h1;simpa using h2,fun q=>⟨_,rfl,by simpa using q⟩⟩
theorem WY :sY P p₀ all h o r d e al K true (.v (.bool true))=cOp P p₀ o (dO e) h (kH P p₀ all h r d e al K):=propext ⟨fun ⟨t,h1,h2⟩=>by injection h1 with h1;subst h1;simpa using h2,fun q=>⟨_,rfl,by simpa using q⟩⟩
theorem WZ :sY P p₀ all h o r d e al K true (.v (.bool false))=dQ P p₀ all h r (bY e d (.v undef)) al K:=propext ⟨fun ⟨t,h1,h2⟩=>by injection h1 with h1;subst h1;simpa using h2,fun q=>⟨_,rfl,by simpa using q⟩⟩
theorem W9 :sY P p₀ all h o r d e al K false (.v (.bool true))=dQ P p₀ all h r (bY e d (.v undef)) al K:=propext ⟨fun ⟨t,h1,h2⟩=>by injection h1 with h1;subst h1;simpa using h2,fun q=>⟨_,rfl,by simpa using q⟩⟩
theorem Xa :sY P p₀ all h o r d e al K false (.v (.bool false))=cOp P p₀ o (dO e) h (kH P p₀ all h r d e al K):=propext ⟨fun ⟨t,h1,h2⟩=>by injection h1 with h1;subst h1;simpa using h2,fun q=>⟨_,rfl,by simpa using q⟩⟩
theorem acn [Decidable q] (hq: ¬ q):sY P p₀ all h o r d e al K true (.v (.bool (decide q)))=dQ P p₀ all h r (bY e d (.v undef)) al K:=by rw [aj hq];exact WZ
theorem aco [Decidable q] (hq:q):sY P p₀ all h o r d e al K true (.v (.bool (decide q)))=cOp P p₀ o (dO e) h (kH P p₀ all h r d e al K):=by rw [ah hq];exact WY
theorem acp [Decidable q] (hq: ¬ q):sY P p₀ all h o r d e al K true (.v (.bool (!decide q)))=cOp P p₀ o (dO e) h (kH P p₀ all h r d e al K):=by rw [aj hq];exact WY
theorem acr [Decidable q] (hq:q):sY P p₀ all h o r d e al K true (.v (.bool (!decide q)))=dQ P p₀ all h r (bY e d (.v undef)) al K:=by rw [ah hq];exact WZ
theorem acs [Decidable q] (hq: ¬ q):sY P p₀ all h o r d e al K false (.v (.bool (decide q)))=cOp P p₀ o (dO e) h (kH P p₀ all h r d e al K):=by rw [aj hq];exact Xa
theorem acu [Decidable q] (hq:q):sY P p₀ all h o r d e al K false (.v (.bool (decide q)))=dQ P p₀ all h r (bY e d (.v undef)) al K:=by rw [ah hq];exact W9
theorem acv [Decidable q] (hq: ¬ q):sY P p₀ all h o r d e al K false (.v (.bool (!decide q)))=dQ P p₀ all h r (bY e d (.v undef)) al K:=by rw [aj hq];exact W9
theorem acw [Decidable q] (hq:q):sY P p₀ all h o r d e al K false (.v (.bool (!decide q)))=cOp P p₀ o (dO e) h (kH P p₀ all h r d e al K):=by rw [ah hq];exact Xa
theorem agF {K:AV→Prop} {y:AV}  [Decidable q] (hq: ¬ q):sP K (.v (.bool (decide q))) x y=K y:=by rw [aj hq];exact agC
theorem agG {K:AV→Prop} {y:AV}  [Decidable q] (hq:q):sP K (.v (.bool (decide q))) x y=K x:=by rw [ah hq];exact agB
theorem agH {K:AV→Prop} {y:AV}  [Decidable q] (hq: ¬ q):sP K (.v (.bool (!decide q))) x y=K x:=by rw [aj hq];exact agB
theorem agI {K:AV→Prop} {y:AV}  [Decidable q] (hq:q):sP K (.v (.bool (!decide q))) x y=K y:=by rw [ah hq];exact agC
variable {Q:AV→Hp→Prop}
theorem acy {r:AV}:sF Q h (some r)=sE Q (dZ h r):=nS (K:=fun r=>sE Q (dZ h r))
variable {p:AV→Hp→Prop}{rs:Array ResultVar}
theorem afk :EK P rs Q p .normal e h=sF Q h (uQ P h e rs):=propext ⟨fun ⟨r,r',h',h1,h2,h3⟩=>⟨r,h1,r',h',h2,h3⟩,fun ⟨r,h1,r',h',h2,h3⟩=>⟨r,r',h',h1,h2,h3⟩⟩
theorem ajY :EK P rs Q p .ret e h=sF Q h (uQ P h e rs):=afk (p:=p)
variable {a:AV}
theorem ajZ :EK P rs Q p (.panic a) e h=sE p (dZ h a):=propext ⟨fun ⟨r',h',h2,h3⟩=>⟨r',h',h2,h3⟩,fun ⟨r',h',h2,h3⟩=>⟨r',h',h2,h3⟩⟩
theorem fin0 :Fin P rs Q .normal e h=sF Q h (uQ P h e rs):=propext ⟨fun ⟨r,r',h',h1,h2,h3⟩=>⟨r,h1,r',h',h2,h3⟩,fun ⟨r,h1,r',h',h2,h3⟩=>⟨r,r',h',h1,h2,h3⟩⟩
theorem fin1 :Fin P rs Q .ret e h=sF Q h (uQ P h e rs):=fin0
def acz:Option (List AV)→Option AV
 | some [a]=>some a
 | some l=>some (.tup l)
 | none=>none
theorem acA {rs:List ResultVar}  :uQ P h e rs.toArray=acz (oW P h e rs):=by
 show (match oW P h e rs with | some [a]=>some a | some l=>some (.tup l) | none=>none)=_;cases oW P h e rs with
 | none=>rfl
 | some l=>match l with
  | []=>rfl
  | [_]=>rfl
  | _::_::_=>rfl
theorem aj0 :acz (some [a])=some a:=Eq.trans rfl rfl
theorem aj1:acz (some [])=some (.tup []):=Eq.trans rfl rfl
theorem aj2 {b:AV} :acz (some (a::b::l))=some (.tup (a::b::l)):=Eq.trans rfl rfl
theorem Xb :oW P h e []=some []:=Eq.trans rfl rfl
theorem Xc {t:Tmp} {r:List ResultVar}:oW P h e (.tmp t::r)=(oW P h e r).map (fun l=>aO e t::l):=Eq.trans rfl rfl
def agJ:Option AV→Option (List AV)→Option (List AV)
 | some a,some l=>some (a::l)
 | _,_=>none
theorem SX :agJ (some a) (some l)=some (a::l):=Eq.trans rfl rfl
theorem aj3 {a b:Code} {Q:dA}    [Decidable q] (hq:q):sC P N L ks a b Q e h (.v (.bool (decide q)))=bP P N L ks a Q e h:=by rw [ah hq];exact agD
theorem amA {a b:Code} {Q:dA}    [Decidable q] (hq: ¬ q):sC P N L ks a b Q e h (.v (.bool (decide q)))=bP P N L ks b Q e h:=by rw [aj hq];exact agE
theorem aj6 {a b:Code} {Q:dA}    [Decidable q] (hq:q):sC P N L ks a b Q e h (.v (.bool (!decide q)))=bP P N L ks b Q e h:=by rw [ah hq];exact agE
theorem amB {a b:Code} {Q:dA}    [Decidable q] (hq: ¬ q):sC P N L ks a b Q e h (.v (.bool (!decide q)))=bP P N L ks a Q e h:=by rw [aj hq];exact agD
theorem SY {d:Tmp}:NI e (some d)=aO e d:=Eq.trans rfl rfl
theorem Xd {d:Tmp} :bY e (some d) a=(d,a)::e:=Eq.trans rfl rfl
theorem Xe :bY e none a=e:=Eq.trans rfl rfl
theorem get_nil {d:Tmp}:aO [] d= .none:=Eq.trans rfl rfl
theorem Xf {k d:Tmp}  {r:Ev}:aO ((k,a)::r) d=if k=d then a else aO r d:=Eq.trans rfl rfl
theorem agK {d:Tmp}:dO e (.tmp d)=aO e d:=Eq.trans rfl rfl
theorem Xg :dO e (.const v)= .v v:=Eq.trans rfl rfl
theorem acB {f:FuncId}:dO e (.func f)= .fn (.func f) [] []:=Eq.trans rfl rfl
theorem S9 {g:Nat}:dO e (.global g)= .v (.pointer (some ⟨g,0,none⟩)):=Eq.trans rfl rfl
theorem Xh :lN [] e=[]:=Eq.trans rfl rfl
theorem Tc {d:Nat} {L:List Nat}:lN (d::L) e=(d,aO e d)::lN L e:=Eq.trans rfl rfl
theorem Xi {i k d:Nat} {r:List (Nat × Nat)}:kOf ((i,k)::r) d=if i=d then k else kOf r d:=Eq.trans rfl rfl
theorem acC {d:Nat}:kOf [] d=0:=Eq.trans rfl rfl
theorem Xj {α:Type} {l:List α}:l.toArray.toList=l:=Eq.trans rfl rfl
theorem acD {k:Nat}:qM k []=[]:=Eq.trans rfl rfl
theorem Xk {k:Nat}  {r:List AV}:qM k (a::r)=(k,a)::qM (k+1) r:=Eq.trans rfl rfl
theorem agL :eu n [] e=e:=Eq.trans rfl rfl
theorem acE {d:Tmp} {z:Value} {r:List (Tmp × Value)}:eu n ((d,z)::r) e=(d, .ptr n 0)::eu (n+1) r e:=Eq.trans rfl rfl
theorem Xl {d:Tmp} {z:Value}:nR (d,z)=some (.blk (fZ z)):=Eq.trans rfl rfl
variable {k:IntKind}{z:Int}
theorem acF :qB (.v (.int k z))=some z:=Eq.trans rfl rfl
variable {k':IntKind}{op:BinOp}{y:Int}
theorem acG {x:Int}:qJ P h op T (.v (.int k x)) (.v (.int k' y))=jQ op (.int k x) (.int k' y):=Eq.trans rfl rfl
theorem acH {x y:ByteArray}:qJ P h op T (.v (.string x)) (.v (.string y))=jQ op (.string x) (.string y):=Eq.trans rfl rfl
variable {b:Bool}
theorem agM :pW .eql b=some (.bool b):=Eq.trans rfl rfl
theorem agN :pW .neq b=some (.bool (!b)):=Eq.trans rfl rfl
theorem aj7 {x:Int}:jQ .add (.int k x) (.int k y)=some (.int k (k.wrap (x+y))):=if_pos rfl
theorem aj8 {x:Int}:jQ .sub (.int k x) (.int k y)=some (.int k (k.wrap (x - y))):=if_pos rfl
theorem aj9 {x:Int}:jQ .mul (.int k x) (.int k y)=some (.int k (k.wrap (x*y))):=if_pos rfl
theorem akb {x:Int} (hy:y≠0):jQ .quo (.int k x) (.int k y)=some (.int k (k.wrap (x.tdiv y))):=if_pos ⟨rfl,hy⟩
theorem akc {x:Int} (hy:y≠0):jQ .rem (.int k x) (.int k y)=some (.int k (x.tmod y)):=if_pos ⟨rfl,hy⟩
theorem akd {x:Int} (hy:0≤y):jQ .shl (.int k x) (.int k' y)=some (.int k (k.wrap (x*2 ^ (min y.toNat k.bits)))):=if_pos hy
theorem ake {x:Int} (hy:0≤y):jQ .shr (.int k x) (.int k' y)=some (.int k (x.fdiv (2 ^ (min y.toNat k.bits)))):=if_pos hy
theorem akf {x:Int}:jQ .and (.int k x) (.int k y)=some (.int k (k.wrap (BitVec.ofInt k.bits x &&& BitVec.ofInt k.bits y).toNat)):=if_pos rfl
theorem amC {x:Int}:jQ .or (.int k x) (.int k y)=some (.int k (k.wrap (BitVec.ofInt k.bits x ||| BitVec.ofInt k.bits y).toNat)):=if_pos rfl
theorem akg {x:Int}:jQ .xor (.int k x) (.int k y)=some (.int k (k.wrap (BitVec.ofInt k.bits x ^^^ BitVec.ofInt k.bits y).toNat)):=if_pos rfl
theorem akh {x:Int}:jQ .eql (.int k x) (.int k y)=some (.bool (decide (x=y))):=if_pos rfl
theorem aki {x:Int}:jQ .neq (.int k x) (.int k y)=some (.bool (!decide (x=y))):=if_pos rfl
theorem akj {x:Int}:jQ .lss (.int k x) (.int k y)=some (.bool (decide (x<y))):=if_pos rfl
theorem akk {x:Int}:jQ .leq (.int k x) (.int k y)=some (.bool (decide (x≤y))):=if_pos rfl
theorem akl {x:Int}:jQ .gtr (.int k x) (.int k y)=some (.bool (decide (y<x))):=if_pos rfl
theorem akm {x:Int}:jQ .geq (.int k x) (.int k y)=some (.bool (decide (y≤x))):=if_pos rfl
theorem akn {x y:ByteArray} (hs:x.size+y.size≤9223372036854775807):jQ .add (.string x) (.string y)=some (.string (x++y)):=if_pos hs
theorem ako {x y:ByteArray}:jQ .eql (.string x) (.string y)=some (.bool (decide (x=y))):=Eq.trans rfl rfl
theorem akp {x y:ByteArray}:jQ .neq (.string x) (.string y)=some (.bool (!decide (x=y))):=Eq.trans rfl rfl
theorem akq :unA .not (.v (.bool b))=some (.bool (!b)):=Eq.trans rfl rfl
theorem akr :unA .neg (.v (.int k z))=some (.int k (k.wrap (0 - z))):=Eq.trans rfl rfl
theorem agO {i:Nat}:Fq (.tup l) i=l[i]? :=Eq.trans rfl rfl
theorem agP {x:Int}:mmA true [.v (.int k x), .v (.int k' y)]=some (.v (.int k (if y>x then y else x))):=Eq.trans rfl rfl
theorem agQ {x:Int}:mmA false [.v (.int k x), .v (.int k' y)]=some (.v (.int k (if y<x then y else x))):=Eq.trans rfl rfl
theorem w64 {x:Int} (h1: -9223372036854775808≤x) (h2:x≤9223372036854775807):IntKind.i64.wrap x=x:=by rw [IntKind.wrap_i64];omega
theorem amD {x:Int} (h1:0≤x) (h2:x≤4294967295):IntKind.u32.wrap x=x:=by rw [IntKind.wrap_u32];omega
theorem wu64 {x:Int} (h1:0≤x) (h2:x≤18446744073709551615):IntKind.u64.wrap x=x:=by rw [IntKind.wrap_u64];omega
theorem wu8 {x:Int} (h1:0≤x) (h2:x≤255):IntKind.u8.wrap x=x:=by rw [IntKind.wrap_u8];omega
theorem Xm:IntKind.u32.bits=32:=Eq.trans rfl rfl
theorem Xn:IntKind.u64.bits=64:=Eq.trans rfl rfl
theorem Xo:IntKind.i64.bits=64:=Eq.trans rfl rfl
theorem acI:IntKind.u8.bits=8:=Eq.trans rfl rfl
def tab (n:Nat) (f:Nat→AV):List AV:=(List.range n).map f
theorem iC {f:Nat→AV}:(tab n f).length=n:=by simp [tab]
theorem jv {k:Nat} {f:Nat→AV} (hk:k<n):(tab n f)[k]? =some (f k):=by simp [tab,hk]
theorem dB {k:Nat} {f:Nat→AV} :(tab n f).set k x=tab n (fun i=>if i=k then x else f i):=by
 apply List.ext_getElem?;intro i;by_cases hi:i<n
 ·rw [jv hi,List.getElem?_set];by_cases e:k=i
  ·subst e;simp [iC,hi]
  ·simp [e,jv hi,show i≠k from fun e'=>e e'.symm]
 ·simp [tab,hi]
theorem Xp {f:Nat→Int}:intsOf (tab n fun i=> .v (.int .u8 (f i)))=some ((List.range n).map f):=by
 unfold tab;generalize List.range n=l;induction l with
 | nil=>rfl
 | cons a r ih=>
  simp only [List.map_cons];show (intsOf (r.map _)).map _=_;rw [ih];rfl
theorem aS {f f':Nat→AV} (h: ∀ i,i<n→f i=f' i):tab n f=tab n f':=by
 apply List.ext_getElem?;intro i;by_cases hi:i<n
 ·rw [jv hi,jv hi,h i hi]
 ·simp [tab,hi]
theorem ld :qE P h T a=(behind h a).bind (takeA P T):=Eq.trans rfl rfl
def agR (off:Nat):Option (Option Ob)→Option (List AV)
 | some (some (.blk cells))=>some (cells.drop off)
 | _=>none
variable {id off:Nat}
theorem agS :behind h (.ptr id off)=agR off h[id]? :=by
 show (match h[id]? with | some (some (.blk cells))=>some (cells.drop off) | _=>none)=_;unfold agR;rfl
theorem Td :agR off (some (some (.blk l)))=some (l.drop off):=Eq.trans rfl rfl
def acJ (n off:Nat):Option (Option Ob)→Option (List AV)
 | some (some (.arr _ s cells _))=>if cells.length=n*s then some (cells.drop off) else none
 | _=>none
theorem aks :behind h (.ap id n off)=acJ n off h[id]? :=by
 show (match h[id]? with | some (some (.arr _ s cells _))=>if cells.length=n*s then some (cells.drop off) else none | _=>none)=_;unfold acJ;rfl
variable {fz:Nat}
theorem akt (hl:l.length=n):acJ n off (some (some (.arr T 1 l fz)))=some (l.drop off):=if_pos (by omega)
theorem Ti (hl:l.length=n*s):acJ n off (some (some (.arr T s l fz)))=some (l.drop off):=if_pos hl
theorem aku :behind h (.tp l)=some l:=Eq.trans rfl rfl
def Xq (n:Nat):Option (Option Ob)→Bool
 | some (some (.arr _ s cells _))=>decide (cells.length=n*s)
 | _=>false
def agT:Option (Option Ob)→Bool
 | some (some (.blk _))=>true
 | _=>false
theorem mP :bQ h (.own id n)=Xq n h[id]? :=by
 show (match h[id]? with | some (some (.arr _ s cells _))=>decide (cells.length=n*s) | _=>false)=_;unfold Xq;rfl
theorem afl :bQ h (.ap id n off)=Xq n h[id]? :=by
 show (match h[id]? with | some (some (.arr _ s cells _))=>decide (cells.length=n*s) | _=>false)=_;unfold Xq;rfl
theorem Xr :bQ h (.ptr id off)=agT h[id]? :=by
 show (match h[id]? with | some (some (.blk _))=>true | _=>false)=_;unfold agT;rfl
theorem FP :Xq n (some (some (.arr T s l fz)))=decide (l.length=n*s):=Eq.trans rfl rfl
theorem FQ :agT (some (some (.blk l)))=true:=Eq.trans rfl rfl
theorem agU :cellsA h (.v (.int k z))=some [.v (.int k z)]:=Eq.trans rfl rfl
theorem acK :cellsA h (.v (.bool b))=some [.v (.bool b)]:=Eq.trans rfl rfl
theorem agV {b:ByteArray}:cellsA h (.v (.string b))=some [.v (.string b)]:=Eq.trans rfl rfl
theorem acL :cellsA h (.v (.slice none 0 0))=some [.v (.slice none 0 0)]:=Eq.trans rfl rfl
theorem acM {q:Option Addr}:cellsA h (.v (.pointer q))=some [.v (.pointer q)]:=Eq.trans rfl rfl
theorem amE :cellsA h (.t n s l)=some [.t n s l]:=Eq.trans rfl rfl
theorem amF :cellsA h (.g l)=some l:=Eq.trans rfl rfl
theorem akv :cellsA h (.tp l)=some [.tp l]:=Eq.trans rfl rfl
variable {l2:List AV}
theorem akw {f:Fn} {l1:List AV}:cellsA h (.fn f l1 l2)=some [.fn f l1 l2]:=Eq.trans rfl rfl
theorem oK (h0:bQ h (.own id n)=true):cellsA h (.own id n)=some [.own id n]:=if_pos h0
theorem agW (h0:bQ h (.ptr id n)=true):cellsA h (.ptr id n)=some [.ptr id n]:=if_pos h0
theorem amG :kE h (.v v)=v.oneCell':=Eq.trans rfl rfl
theorem agX :Value.oneCell' (.int k z)=true:=Eq.trans rfl rfl
theorem acN :Value.oneCell' (.bool b)=true:=Eq.trans rfl rfl
theorem agY {b:ByteArray}:Value.oneCell' (.string b)=true:=Eq.trans rfl rfl
theorem Xt {q:Option Addr} {c:Nat}:Value.oneCell' (.slice q n c)=true:=Eq.trans rfl rfl
theorem agZ {q:Option Addr}:Value.oneCell' (.pointer q)=true:=Eq.trans rfl rfl
theorem amH :kE h (.t n s l)=true:=Eq.trans rfl rfl
theorem akx :kE h (.tp l)=true:=Eq.trans rfl rfl
theorem aky {f:Fn} {l1:List AV}:kE h (.fn f l1 l2)=true:=Eq.trans rfl rfl
theorem ag0 :kE h (.own id n)=bQ h (.own id n):=Eq.trans rfl rfl
theorem ag1 :kE h (.ptr id n)=bQ h (.ptr id n):=Eq.trans rfl rfl
def stB (h:Hp) (a:AV) (l:List AV):Option Nat→Bool→Option Hp
 | some n,true=>if n=l.length then match a with
   | .ptr id off=>match h[id]? with
    | some (some (.blk cells))=>if off+l.length≤cells.length then some (h.set id (some (.blk (dW cells off l)))) else none
    | _=>none
   | .ap id n off=>match h[id]? with
    | some (some (.arr T s cells fz))=>if cells.length=n*s∧fz≤off∧off+l.length≤cells.length then some (h.set id (some (.arr T s (dW cells off l) fz))) else none
    | _=>none
   | _=>none
  else none
 | _,_=>none
def stA (P:Program) (h:Hp) (T:TypeId) (a:AV):Option (List AV)→Option Hp
 | some l=>stB h a l (szP P T) (l.all (kE h))
 | none=>none
theorem st :uK P h T a x=stA P h T a (cellsA h x):=by
 unfold uK stA;cases cellsA h x with
 | none=>rfl
 | some l=>
  simp only [Option.bind_some];unfold stB;cases szP P T with
  | none=>rw [if_neg (by simp)]
  | some n=>
   cases hl:l.all (kE h) with
   | false=>rw [if_neg (by simp)]
   | true=>
    by_cases e:n=l.length
    ·subst e;rw [if_pos ⟨rfl,rfl⟩];simp only [if_true];rfl
    ·rw [if_neg (fun q=>e (by injection q.1))];simp only [e,if_false]
def stP (h:Hp) (id off:Nat) (l:List AV):Option (Option Ob)→Option Hp
 | some (some (.blk cells))=>if off+l.length≤cells.length then some (h.set id (some (.blk (dW cells off l)))) else none
 | _=>none
def stQ (h:Hp) (id n off:Nat) (l:List AV):Option (Option Ob)→Option Hp
 | some (some (.arr T s cells fz))=>if cells.length=n*s∧fz≤off∧off+l.length≤cells.length then some (h.set id (some (.arr T s (dW cells off l) fz))) else none
 | _=>none
theorem ag2 (hn:n=l.length):stB h (.ptr id off) l (some n) true=stP h id off l h[id]? :=by
 show (if n=l.length then _ else _)=_;rw [if_pos hn];unfold stP;rfl
variable {m:Nat}
theorem akz (hn:n=l.length):stB h (.ap id m off) l (some n) true=stQ h id m off l h[id]? :=by
 show (if n=l.length then _ else _)=_;rw [if_pos hn];unfold stQ;rfl
theorem Xu {cells:List AV} (hl:off+l.length≤cells.length):stP h id off l (some (some (.blk cells)))=some (h.set id (some (.blk (dW cells off l)))):=if_pos hl
theorem acO {cells:List AV} (h1:cells.length=n) (h2:fz≤off) (h3:off<n):stQ h id n off [x] (some (some (.arr T 1 cells fz)))=some (h.set id (some (.arr T 1 (cells.set off x) fz))):=if_pos ⟨by omega,h2,by simp;omega⟩
theorem Xv {cells:List AV} (h1:cells.length=n*s) (h2:fz≤off) (h3:off+l.length≤cells.length):stQ h id n off l (some (some (.arr T s cells fz)))=some (h.set id (some (.arr T s (dW cells off l) fz))):=if_pos ⟨h1,h2,h3⟩
theorem Tj {o:Nat}:dW l o []=l:=Eq.trans rfl rfl
theorem NQ {r:List AV} {o:Nat} :dW l o (a::r)=dW (l.set o a) (o+1) r:=Eq.trans rfl rfl
def sDz (P:Program) (all:List Oper) (h:Hp) (r:List Oper) (d:Tmp) (e:Ev) (al:List (Tmp × Value)) (K:Ev→List (Tmp × Value)→Prop):Option Value→Prop
 | some z=>dQ P p₀ all h r ((d, .none)::e) (al++[(d,z)]) K
 | none=>False
theorem amI {d:Tmp}    :sD P p₀ all h r (some d) e al K T=sDz (p₀:=p₀) P all h r d e al K (aA P T):=by
 cases hz:aA P T with
 | none=>exact propext ⟨fun ⟨T',z',d',h1,h2,h3,h4⟩=>by injection h1 with h1;subst h1;rw [hz] at h3;(cases h3),fun q=>q.elim⟩
 | some z=>exact propext ⟨fun ⟨T',z',d',h1,h2,h3,h4⟩=>by injection h1 with h1;subst h1;injection h2 with h2;subst h2;rw [hz] at h3;injection h3 with h3;subst h3;exact h4,fun q=>⟨T,z,d,rfl,rfl,hz,q⟩⟩
theorem Xw {d:Tmp}    {z:Value}:sDz (p₀:=p₀) P all h r d e al K (some z)=dQ P p₀ all h r ((d, .none)::e) (al++[(d,z)]) K:=Eq.trans rfl rfl
def rsB (a:Option AV) (l:Option (List AV)):Option Nat→Option (List AV)
 | some 0=>none
 | _=>agJ a l
theorem Tm {t:Tmp}  {r:List ResultVar}:oW P h e (.cell t T::r)=rsB (qE P h T (aO e t)) (oW P h e r) (szP P T):=by
 simp only [oW];cases hs:szP P T with
 | none=>simp only [reduceCtorEq,if_false];cases qE P h T (aO e t)<;>cases oW P h e r<;>rfl
 | some n=>cases n with
  | zero=>rfl
  | succ n=>rw [if_neg (by simp)];cases qE P h T (aO e t)<;>cases oW P h e r<;>rfl
theorem Xx {a:Option AV} {l:Option (List AV)}  (hn:n≠0):rsB a l (some n)=agJ a l:=by
 cases n with
 | zero=>exact absurd rfl hn
 | succ n=>rfl
def bB (op:BinOp) (x y:Bool):Bool→Option Value
 | true=>pW op (x==y)
 | false=>none
theorem Xy {x y:Bool}:qJ P h op T (.v (.bool x)) (.v (.bool y))=bB op x y (rY P T):=by
 show (if rY P T then _ else _)=_;cases rY P T<;>rfl
theorem acP {x y:Bool}:bB op x y true=pW op (x==y):=Eq.trans rfl rfl
def bN (op:BinOp) (b:Option Bool):Bool→Option Value
 | true=>b.bind (pW op)
 | false=>none
def nP:Bool→Option Bool
 | true=>some false
 | false=>none
theorem ag3 :mg h (.ptr id off)=nP (bQ h (.ptr id off)):=by
 show (if bQ h (.ptr id off)=true then some false else none)=_;cases bQ h (.ptr id off)<;>rfl
theorem akA :mg h (.ap id n off)=nP (bQ h (.ap id n off)):=by
 show (if bQ h (.ap id n off)=true then some false else none)=_;cases bQ h (.ap id n off)<;>rfl
theorem akB :mg h (.tp l)=some false:=Eq.trans rfl rfl
theorem amJ {p:Option Addr}:mg h (.v (.pointer p))=some p.isNone:=Eq.trans rfl rfl
theorem acQ:nP true=some false:=Eq.trans rfl rfl
theorem ag4 :qJ P h op T x (.t 1 1 [])=some (.int .i64 0):=Eq.trans rfl rfl
theorem Xz :qJ P h op T x (.v (.pointer none))=bN op (mg h x) (kL P T):=by
 show (if kL P T then _ else _)=_;cases kL P T<;>rfl
theorem XA :qJ P h op T x (.v (.slice none 0 0))=bN op (zx h x) ((aG P T).isSome):=by
 show (if (aG P T).isSome then _ else _)=_;cases (aG P T).isSome<;>rfl
theorem akC {m:List AV}:qJ P h op T x (.g m)=eqG P op T (cellsOf x) (some m):=Eq.trans rfl rfl
theorem acR {cs:Array Value}:qJ P h op T x (.v (.agg cs))=eqG P op T (cellsOf x) (some (cs.toList.map .v)):=Eq.trans rfl rfl
def eqH (op:BinOp) (l m:Option (List AV)):Option (List FK)→Option Value
 | some ks=>match l,m with
  | some l,some m=>(eqL ks l m).bind (pW op)
  | _,_=>none
 | none=>none
theorem akD {l m:Option (List AV)}:eqG P op T l m=eqH op l m (uq P T):=by
 unfold eqG;cases uq P T<;>cases l<;>cases m<;>rfl
theorem XB {m:List AV} {ks:List FK}:eqH op (some l) (some m) (some ks)=(eqL ks l m).bind (pW op):=Eq.trans rfl rfl
theorem acS:eqL [] [] []=some true:=Eq.trans rfl rfl
theorem XD {k:FK} {ks:List FK} {b:AV} {m:List AV}:eqL (k::ks) (a::l) (b::m)=afH (eqC k a b) (eqL ks l m):=Eq.trans rfl rfl
theorem akE {a b:Int}:eqC .i (.v (.int k a)) (.v (.int k b))=some (decide (a=b)):=if_pos rfl
theorem akF {a:Bool}:eqC .b (.v (.bool a)) (.v (.bool b))=some (a==b):=Eq.trans rfl rfl
theorem akG {a b:ByteArray}:eqC .s (.v (.string a)) (.v (.string b))=some (decide (a=b)):=Eq.trans rfl rfl
theorem Tq {p q:Bool}:afH (some p) (some q)=some (p && q):=Eq.trans rfl rfl
theorem acT :bN op (some b) true=pW op b:=Eq.trans rfl rfl
def cvB (z:Int):Option IntKind→Bool→Option Value
 | some k,true=>some (.int k (k.wrap z))
 | _,_=>none
variable {u:TypeId}
theorem XE {s:TypeId}  :iM P h s u (.v (.int k z))=cvB z (l9 P u) (P.underlying s).isSome:=by
 show (if (P.underlying s).isSome then _ else _)=_;cases (P.underlying s).isSome<;>cases l9 P u<;>rfl
def cvS (b:ByteArray):Bool→Bool→Option Value
 | true,true=>some (.string b)
 | _,_=>none
theorem XF {s:TypeId} {b:ByteArray}:iM P h s u (.v (.string b))=cvS b (dK P s) (dK P u):=by
 show (if _∧_ then _ else _)=_;cases dK P s<;>cases dK P u<;>simp [cvS]
theorem XG {b:ByteArray}:cvS b true true=some (.string b):=Eq.trans rfl rfl
def stD:Option IntKind→Bool→Option (List Int)→Option Value
 | some .u8,true,some ns=>some (.string (strOf ns))
 | _,_,_=>none
theorem acU {s:TypeId} {cells:List AV}:Hg P s u 1 cells=stD ((aG P s).bind (l9 P)) (dK P u) (intsOf cells):=by
 unfold Hg;cases h1:(aG P s).bind (l9 P) with
 | none=>rfl
 | some k=>cases k<;>cases dK P u<;>cases intsOf cells<;>rfl
theorem XH {ns:List Int}:stD (some .u8) true (some ns)=some (.string (strOf ns)):=Eq.trans rfl rfl
variable {sz:Nat}
theorem ag5 {s:TypeId}  {cells:List AV} (hl:cells.length=n*sz):iM P h s u (.t n sz cells)=Hg P s u sz cells:=if_pos hl
def cvO (P:Program) (s u:TypeId) (n:Nat):Option (Option Ob)→Option Value
 | some (some (.arr _ sz cells _))=>if cells.length=n*sz then Hg P s u sz cells else none
 | _=>none
theorem XI {s:TypeId} :iM P h s u (.own id n)=cvO P s u n h[id]? :=by
 unfold iM cvO;rfl
theorem acV {s:TypeId}   {cells:List AV} (hl:cells.length=n):cvO P s u n (some (some (.arr T 1 cells fz)))=Hg P s u 1 cells:=if_pos (by omega)
theorem XJ:intsOf []=some []:=Eq.trans rfl rfl
theorem XK :cvB z (some k) true=some (.int k (k.wrap z)):=Eq.trans rfl rfl
def tkB (l:List AV):Option Bool→Option Nat→Option AV
 | some false,some _=>l[0]?
 | some true,some s=>if s≤l.length then some (.g (l.take s)) else none
 | _,_=>none
theorem tk :takeA P T l=tkB l (bn P T) (szP P T):=by
 unfold takeA tkB;cases bn P T with
 | none=>rfl
 | some b=>cases b<;>cases szP P T<;>rfl
theorem acW :tkB l (some false) (some s)=l[0]? :=Eq.trans rfl rfl
theorem acX (h:s≤l.length):tkB l (some true) (some s)=some (.g (l.take s)):=if_pos h
def ixD (id n:Nat) (z:Int) (s:Nat):Bool→Option AV
 | true=>if 0≤z∧z<n then some (.ap id n (z.toNat*s)) else none
 | false=>none
def ixC (h:Hp) (a:AV) (z:Int):Option Nat→Option AV
 | some s=>match a with
  | .t n s' cells=>if s'=s∧0≤z∧z<n then some (.tp (cells.drop (z.toNat*s))) else none
  | .own id n=>ixD id n z s (bQ h (.own id n))
  | _=>none
 | none=>none
def ixE (h:Hp) (a:AV) (z:Int) (n:Nat):Option Nat→Option AV
 | some s=>if 0≤z∧z<n then oC h a (z.toNat*s) else none
 | none=>none
def ixB (P:Program) (h:Hp) (a:AV) (z:Int):Option TypeId→Option (Nat × TypeId)→Option AV
 | some e,_=>ixC h a z (szP P e)
 | none,some (n,e)=>ixE h a z n (szP P e)
 | none,none=>none
theorem ix :G9 P h T a z=ixB P h a z (aG P T) (bM P T):=by
 unfold G9 ixB;cases aG P T with
 | some e=>
  cases hs:szP P e with
  | none=>simp only [hs];rfl
  | some s=>
   simp only [hs,Option.bind_some];unfold ixC;cases a<;>first | rfl | skip
   ·next id n=>
    unfold ixD;cases hl:bQ h (.own id n) with
    | true=>simp [hl]
    | false=>simp [hl]
 | none=>
  cases bM P T with
  | none=>rfl
  | some p=>obtain ⟨n,e⟩:=p;simp only;cases szP P e<;>rfl
theorem akH {e:TypeId} {o:Option (Nat × TypeId)}:ixB P h a z (some e) o=ixC h a z (szP P e):=Eq.trans rfl rfl
theorem akI {e:TypeId} :ixB P h a z none (some (n,e))=ixE h a z n (szP P e):=Eq.trans rfl rfl
theorem akJ (h3:0≤z) (h4:z<n):ixC h (.t n s l) z (some s)=some (.tp (l.drop (z.toNat*s))):=if_pos ⟨rfl,h3,h4⟩
theorem acY :ixC h (.own id n) z (some s)=ixD id n z s (bQ h (.own id n)):=Eq.trans rfl rfl
theorem XL (h3:0≤z) (h4:z<n):ixD id n z s true=some (.ap id n (z.toNat*s)):=if_pos ⟨h3,h4⟩
theorem XM (h3:0≤z) (h4:z<n):ixE h a z n (some s)=oC h a (z.toNat*s):=if_pos ⟨h3,h4⟩
def shB (a:AV) (o:Nat):Bool→Option AV
 | true=>match a with
  | .ptr id off=>some (.ptr id (off+o))
  | .ap id n off=>some (.ap id n (off+o))
  | .tp cells=>some (.tp (cells.drop o))
  | _=>none
 | false=>none
theorem sh {o:Nat}:oC h a o=shB a o (bQ h a):=by
 unfold oC shB;cases bQ h a<;>rfl
theorem ag6 {o:Nat}:shB (.ptr id off) o true=some (.ptr id (off+o)):=Eq.trans rfl rfl
theorem akK {o:Nat}:shB (.ap id n off) o true=some (.ap id n (off+o)):=Eq.trans rfl rfl
theorem akL {o:Nat}:shB (.tp l) o true=some (.tp (l.drop o)):=Eq.trans rfl rfl
theorem afm :bQ h (.tp l)=true:=Eq.trans rfl rfl
def lenD (n:Nat):Bool→Option Nat
 | true=>some n
 | false=>none
def Tt (h:Hp) (x:AV):Option TypeId→Bool→Option Nat
 | o,b=>match x with
  | .v (.string s)=>if b then some s.size else none
  | .t n _ _=>o.map fun _=>n
  | .own id n=>if bQ h (.own id n) then o.map fun _=>n else none
  | .v (.slice _ n _)=>o.map fun _=>n
  | _=>none
def qc (P:Program) (h:Hp) (T:TypeId) (x:AV):Option (Nat × TypeId)→Option Nat
 | some (n,_)=>some n
 | none=>Tt h x (aG P T) (dK P T)
theorem len :EG P h T x=qc P h T x (bM P T):=by
 unfold EG qc;cases bM P T<;>rfl
theorem acZ {e:TypeId}  :qc P h T x (some (n,e))=some n:=Eq.trans rfl rfl
theorem ag7 :qc P h T x none=Tt h x (aG P T) (dK P T):=Eq.trans rfl rfl
theorem akM {e:TypeId}   :Tt h (.t n s l) (some e) b=some n:=Eq.trans rfl rfl
theorem len_nil {e:TypeId} :Tt h (.v (.slice none 0 0)) (some e) b=some 0:=Eq.trans rfl rfl
theorem ac0 {e:TypeId}  :Tt h (.own id n) (some e) b=lenD n (bQ h (.own id n)):=by
 show (if bQ h (.own id n) then _ else _)=_;cases bQ h (.own id n)<;>rfl
theorem Tv :lenD n true=some n:=Eq.trans rfl rfl
theorem ac1 {o:Option TypeId} {s:ByteArray}:Tt h (.v (.string s)) o true=some s.size:=Eq.trans rfl rfl
theorem XO :stA P h T a (some l)=stB h a l (szP P T) (l.all (kE h)):=Eq.trans rfl rfl
def apE (h:Hp) (T by_ sz:Nat) (s:AV) (mn:Nat × List AV):Option (AV × Hp):=match s with
 | .own id n=>match h[id]? with
  | some (some (.arr T' s' cells fz))=>if T'=T∧s'=sz∧cells.length=n*sz∧n+mn.1≤maxLen∧(n+mn.1)*by_≤140737488355328 then some (.own id (n+mn.1),h.set id (some (.arr T sz (cells++mn.2) fz))) else none
  | _=>none
 | .v (.slice none 0 0)=>if mn.1≤maxLen∧mn.1*by_≤140737488355328 then some (.own h.length mn.1,h++[some (.arr T sz mn.2 0)]) else none
 | _=>none
def apB (h:Hp) (T:TypeId) (s:AV):Option Nat→Option Nat→Option Value→Option (Nat × List AV)→Option (AV × Hp)
 | some sz,some by_,some z,some mn=>if z.cells.size=sz∧0<sz then apE h T by_ sz s mn else none
 | _,_,_,_=>none
def apA (P:Program) (h:Hp) (tx:TypeId) (s x:AV):Option TypeId→Option (AV × Hp)
 | some T=>apB h T s (szP P T) (bD P T) (aA P T) ((szP P T).bind fun sz=>oH P h tx sz x)
 | none=>none
variable {tx:TypeId}
theorem ap {t:TypeId} {s:AV}:nN P h t tx s x=apA P h tx s x (aG P t):=by
 unfold nN apA;cases aG P t with
 | none=>rfl
 | some T=>
  simp only [Option.bind_some];cases szP P T with
  | none=>rfl
  | some sz=>
   simp only [Option.bind_some];cases bD P T with
   | none=>rfl
   | some by_=>
    simp only [Option.bind_some];cases aA P T with
    | none=>rfl
    | some z=>
     simp only [Option.bind_some];cases oH P h tx sz x with
     | none=>rfl
     | some mn=>
      simp only [Option.bind_some,apB,apE];cases s<;>rfl
theorem XP {s:AV}:apA P h tx s x (some T)=apB h T s (szP P T) (bD P T) (aA P T) ((szP P T).bind fun sz=>oH P h tx sz x):=Eq.trans rfl rfl
variable {by_:Nat}
theorem ac2 {s:AV}  {z:Value} {mn:Nat × List AV} (h1:z.cells.size=sz) (h2:0<sz):apB h T s (some sz) (some by_) (some z) (some mn)=apE h T by_ sz s mn:=if_pos ⟨h1,h2⟩
def apF (h:Hp) (T by_ sz id n:Nat) (m:Nat) (l:List AV):Option (Option Ob)→Option (AV × Hp)
 | some (some (.arr T' s' cells fz))=>if T'=T∧s'=sz∧cells.length=n*sz∧n+m≤maxLen∧(n+m)*by_≤140737488355328 then some (.own id (n+m),h.set id (some (.arr T sz (cells++l) fz))) else none
 | _=>none
theorem ac3 {T:Nat} :apE h T by_ sz (AV.own id n) (m,l)=apF h T by_ sz id n m l h[id]? :=by
 unfold apE apF;rfl
theorem XQ {T:Nat} {cells:List AV} (h1:cells.length=n*sz) (h2:n+m≤1152921504606846975) (h3:(n+m)*by_≤140737488355328):apF h T by_ sz id n m l (some (some (.arr T sz cells fz)))=some (.own id (n+m),h.set id (some (.arr T sz (cells++l) fz))):=if_pos ⟨rfl,rfl,h1,Nat.le_trans h2 (by decide),h3⟩
theorem ac4 {T:Nat} {cells:List AV} (h1:cells.length=n) (h2:n+m≤1152921504606846975) (h3:(n+m)*by_≤140737488355328):apF h T by_ 1 id n m l (some (some (.arr T 1 cells fz)))=some (.own id (n+m),h.set id (some (.arr T 1 (cells++l) fz))):=if_pos ⟨rfl,rfl,by omega,Nat.le_trans h2 (by decide),h3⟩
theorem ac5 {T:Nat}  (h2:m≤1152921504606846975) (h3:m*by_≤140737488355328):apE h T by_ sz (.v (.slice none 0 0)) (m,l)=some (AV.own h.length m,h++[some (.arr T sz l 0)]):=if_pos ⟨Nat.le_trans h2 (by decide),h3⟩
def cpE (h:Hp) (id n sz m:Nat) (l:List AV):Option (Option Ob)→Option (AV × Hp)
 | some (some (.arr T' s' cells fz))=>if s'=sz∧fz=0∧cells.length=n*sz∧m≤n then some (.v (.int .i64 m),h.set id (some (.arr T' s' (dW cells 0 l) 0))) else none
 | _=>none
def cpB (h:Hp):AV→Option Nat→Option (Nat × List AV)→Option (AV × Hp)
 | .own id n,some sz,some mn=>cpE h id n sz mn.1 mn.2 h[id]?
 | _,_,_=>none
def cpA (P:Program) (h:Hp) (tx:TypeId) (d x:AV):Option TypeId→Option (AV × Hp)
 | some T=>cpB h d (szP P T) ((szP P T).bind fun sz=>oH P h tx sz x)
 | none=>none
theorem cp {t:TypeId} {d:AV}:zD P h t tx d x=cpA P h tx d x (aG P t):=by
 unfold zD cpA;cases aG P t with
 | none=>rfl
 | some T=>
  simp only [Option.bind_some];cases szP P T with
  | none=>cases d<;>rfl
  | some sz=>
   simp only [Option.bind_some];cases oH P h tx sz x with
   | none=>cases d<;>rfl
   | some mn=>
    simp only [Option.bind_some];cases d<;>rfl
theorem XT {d:AV}:cpA P h tx d x (some T)=cpB h d (szP P T) ((szP P T).bind fun sz=>oH P h tx sz x):=Eq.trans rfl rfl
theorem ac6 :cpB h (AV.own id n) (some sz) (some (m,l))=cpE h id n sz m l h[id]? :=Eq.trans rfl rfl
theorem XU {T:Nat} {cells:List AV} (h1:cells.length=n*sz) (h2:m≤n):cpE h id n sz m l (some (some (.arr T sz cells 0)))=some (AV.v (.int .i64 m),h.set id (some (.arr T sz (dW cells 0 l) 0))):=if_pos ⟨rfl,rfl,h1,h2⟩
theorem ac7 {T:Nat} {cells:List AV} (h1:cells.length=n) (h2:m≤n):cpE h id n 1 m l (some (some (.arr T 1 cells 0)))=some (AV.v (.int .i64 m),h.set id (some (.arr T 1 (dW cells 0 l) 0))):=if_pos ⟨rfl,rfl,by omega,h2⟩
def atE (sz m:Nat) (l:List AV):AV→Option AV
 | .e0=>some (.t m sz l)
 | .v (.slice none 0 0)=>some (.t m sz l)
 | _=>none
def atB (s:AV):Option Nat→Option Nat→Option Value→Option (Nat × List AV)→Option AV
 | some sz,some by_,some z,some mn=>if z.cells.size=sz∧0<sz∧mn.1≤maxLen∧mn.1*by_≤140737488355328 then atE sz mn.1 mn.2 s else none
 | _,_,_,_=>none
def atA (P:Program) (h:Hp) (tx:TypeId) (s x:AV):Option TypeId→Option AV
 | some T=>atB s (szP P T) (bD P T) (aA P T) ((szP P T).bind fun sz=>oH P h tx sz x)
 | none=>none
theorem at_ {t:TypeId} {s:AV}:JV P h t tx s x=atA P h tx s x (aG P t):=by
 unfold JV atA;cases aG P t with
 | none=>rfl
 | some T=>
  simp only [Option.bind_some];cases szP P T with
  | none=>rfl
  | some sz=>
   simp only [Option.bind_some];cases bD P T with
   | none=>rfl
   | some by_=>
    simp only [Option.bind_some];cases aA P T with
    | none=>rfl
    | some z=>
     simp only [Option.bind_some];cases oH P h tx sz x with
     | none=>rfl
     | some mn=>
      simp only [Option.bind_some,atB];cases s<;>rfl
theorem XV {s:AV}:atA P h tx s x (some T)=atB s (szP P T) (bD P T) (aA P T) ((szP P T).bind fun sz=>oH P h tx sz x):=Eq.trans rfl rfl
theorem XW {s:AV}  {z:Value}  (h1:z.cells.size=sz) (h2:0<sz) (h3:m≤1152921504606846975) (h4:m*by_≤140737488355328):atB s (some sz) (some by_) (some z) (some (m,l))=atE sz m l s:=if_pos ⟨h1,h2,Nat.le_trans h3 (by decide),h4⟩
theorem ag8 :atE sz m l .e0=some (.t m sz l):=Eq.trans rfl rfl
theorem ac8 :atE sz m l (.v (.slice none 0 0))=some (.t m sz l):=Eq.trans rfl rfl
theorem akN :cellsA h .e0=some [.e0]:=Eq.trans rfl rfl
theorem akO :kE h .e0=true:=Eq.trans rfl rfl
theorem ag9 :fD h .e0=some (.e0,h):=Eq.trans rfl rfl
theorem aha :dY h .e0=some (.e0,h):=Eq.trans rfl rfl
theorem ahb :dZ h .e0=some (.e0,h):=Eq.trans rfl rfl
def srB (h:Hp) (s:Nat) (x:AV):Bool→Bool→Option (Nat × List AV)
 | e,b=>match x with
  | .t m s' cells=>if s'=s∧e=true∧cells.all (kE h)=true then some (m,cells) else none
  | .own id m=>match h[id]? with
   | some (some (.arr _ s' cells _))=>if s'=s∧cells.length=m*s∧e=true∧cells.all (kE h)=true then some (m,cells) else none
   | _=>none
  | .v (.string c)=>if s=1∧b=true then some (c.size,c.data.toList.map fun c=> .v (.int .u8 c.toNat)) else none
  | .v (.slice none 0 0)=>if e=true then some (0,[]) else none
  | _=>none
theorem sr :oH P h tx s x=srB h s x (aG P tx).isSome (dK P tx):=by
 unfold oH srB;rfl
def srC (m:Nat) (l:List AV):Bool→Option (Nat × List AV)
 | true=>some (m,l)
 | false=>none
theorem amK :srB h s (.t m s l) true b=srC m l (l.all (kE h)):=by
 simp only [srB];cases hl:l.all (kE h)<;>simp [srC]
theorem XY :srC m l true=some (m,l):=Eq.trans rfl rfl
def srD (h:Hp) (s m:Nat):Option (Option Ob)→Option (Nat × List AV)
 | some (some (.arr _ s' cells _))=>if s'=s∧cells.length=m*s then srC m cells (cells.all (kE h)) else none
 | _=>none
theorem ahc :srB h s (.own id m) true b=srD h s m h[id]? :=by
 simp only [srB,srD];split
 ·next T s' cells fz _=>
  cases hl:cells.all (kE h)<;>simp [srC]
 ·rfl
theorem XZ (hl:l.length=m*s):srD h s m (some (some (.arr T s l fz)))=srC m l (l.all (kE h)):=if_pos ⟨rfl,hl⟩
theorem ac9 (hl:l.length=m):srD h 1 m (some (some (.arr T 1 l fz)))=srC m l (l.all (kE h)):=if_pos ⟨rfl,by omega⟩
theorem ahd :srB h s (.v (.slice none 0 0)) true b=some (0,[]):=Eq.trans rfl rfl
theorem ahe {e:Bool} {c:ByteArray}:srB h 1 (.v (.string c)) e true=some (c.size,c.data.toList.map fun c=> .v (.int .u8 c.toNat)):=by
 unfold srB;simp
def clB (h:Hp) (id n:Nat):Option (Option Ob)→Option (AV × Hp)
 | some (some (.arr T s cells fz))=>if cells.length=n*s then some (.t n s cells,h.set id (some (.arr T s cells cells.length))) else none
 | _=>none
theorem X3 (hl:l.length=n*s):clB h id n (some (some (.arr T s l fz)))=some (.t n s l,h.set id (some (.arr T s l l.length))):=if_pos hl
theorem ada (hl:l.length=n):clB h id n (some (some (.arr T 1 l fz)))=some (.t n 1 l,h.set id (some (.arr T 1 l l.length))):=if_pos (by omega)
theorem akP {x:Value}:fD h (.v x)=some ((.v x),h):=Eq.trans rfl rfl
theorem akQ :fD h (.t n s l)=some ((.t n s l),h):=Eq.trans rfl rfl
theorem ahf :fD h (.tp l)=some ((.tp l),h):=Eq.trans rfl rfl
theorem ahg {f:Fn} :fD h (.fn f l l2)=some ((.fn f l l2),h):=Eq.trans rfl rfl
theorem X4 :fD h .none=some (.none,h):=Eq.trans rfl rfl
theorem adb :fD h (.ptr id off)=some ((.ptr id off),h):=Eq.trans rfl rfl
theorem ade :fD h (.own id n)=clB h id n h[id]? :=by
 unfold clB;first | rfl | (show fD h (.own id n)=_;rfl)
theorem akR {x:Value}:dY h (.v x)=some ((.v x),h):=Eq.trans rfl rfl
theorem akS :dY h (.t n s l)=some ((.t n s l),h):=Eq.trans rfl rfl
theorem ahh :dY h (.tp l)=some ((.tp l),h):=Eq.trans rfl rfl
theorem ahi {f:Fn} :dY h (.fn f l l2)=some ((.fn f l l2),h):=Eq.trans rfl rfl
theorem X5 :dY h .none=some (.none,h):=Eq.trans rfl rfl
theorem adf :dY h (.ptr id off)=some ((.ptr id off),h):=Eq.trans rfl rfl
theorem adg :dY h (.own id n)=clB h id n h[id]? :=by
 unfold clB;first | rfl | (show fD h (.own id n)=_;rfl)
theorem akT {x:Value}:dZ h (.v x)=some ((.v x),h):=Eq.trans rfl rfl
theorem akU :dZ h (.t n s l)=some ((.t n s l),h):=Eq.trans rfl rfl
theorem ahj :dZ h (.tp l)=some ((.tp l),h):=Eq.trans rfl rfl
theorem ahk {f:Fn} :dZ h (.fn f l l2)=some ((.fn f l l2),h):=Eq.trans rfl rfl
theorem X6 :dZ h .none=some (.none,h):=Eq.trans rfl rfl
theorem adh :dZ h (.ptr id off)=some ((.ptr id off),h):=Eq.trans rfl rfl
theorem adi :dZ h (.own id n)=clB h id n h[id]? :=by
 unfold clB;first | rfl | (show fD h (.own id n)=_;rfl)
theorem akV :dY h (.g l)=(closeWith fD h l).map fun p=>(.g p.1,p.2):=Eq.trans rfl rfl
theorem akW :dZ h (.g l)=(closeWith fD h l).map fun p=>(.g p.1,p.2):=Eq.trans rfl rfl
theorem adk :dZ h (.tup l)=(closeWith dY h l).map fun p=>(.tup p.1,p.2):=Eq.trans rfl rfl
def cwC (a:AV):Option (List AV × Hp)→Option (List AV × Hp)
 | some (r,h)=>some (a::r,h)
 | none=>none
def cwB (f:Hp→AV→Option (AV × Hp)) (r:List AV):Option (AV × Hp)→Option (List AV × Hp)
 | some (a,h)=>cwC a (closeWith f h r)
 | none=>none
variable {f:Hp→AV→Option (AV × Hp)}
theorem ahl :closeWith f h []=some ([],h):=Eq.trans rfl rfl
theorem adl {r:List AV}:closeWith f h (a::r)=cwB f r (f h a):=by
 simp only [closeWith];cases f h a with
 | none=>rfl
 | some p=>obtain ⟨a',h1⟩:=p;simp only [cwB,cwC];cases closeWith f h1 r<;>rfl
theorem X7 {r:List AV}:cwB f r (some (a,h))=cwC a (closeWith f h r):=Eq.trans rfl rfl
theorem X8 {r:List AV}:cwC a (some (r,h))=some (a::r,h):=Eq.trans rfl rfl
end
end
section
open Go.RowKit
section
variable {P:Program} {p₀:AV→Hp→Prop}
def ltB (e n m:Nat):Option Nat→Option Value→Option (List AV)→Option (TypeId × Nat × List AV)
 | some s,some _,some L=>if m=n∧0<s∧n*s≤16777216 then some (e,s,L) else none
 | _,_,_=>none
def ltA (P:Program) (h:Hp) (n:Nat) (parts:List (Nat × AV)):Option TypeId→Option (TypeId × Nat × List AV)
 | some e=>ltB e n parts.length (szP P e) (aA P e) ((szP P e).bind fun s=>rowA h s 0 parts)
 | none=>none
variable {T:TypeId}{h:Hp}{n:Nat}{parts:List (Nat × AV)}
theorem lt :zZ P h T n parts=ltA P h n parts (aG P T):=by
 unfold zZ ltA;cases aG P T with
 | none=>rfl
 | some e=>
  simp only [Option.bind_some];cases szP P e with
  | none=>rfl
  | some s=>
   simp only [Option.bind_some];cases aA P e with
   | none=>rfl
   | some z=>
    simp only [Option.bind_some];cases rowA h s 0 parts<;>rfl
variable {e:TypeId}
theorem X9 :ltA P h n parts (some e)=ltB e n parts.length (szP P e) (aA P e) ((szP P e).bind fun s=>rowA h s 0 parts):=Eq.trans rfl rfl
variable {s:Nat}{z:Value}
theorem Ya {e m:Nat}  {L:List AV} (h1:m=n) (h2:0<s) (h3:n*s≤16777216):ltB e n m (some s) (some z) (some L)=some (e,s,L):=if_pos ⟨h1,h2,h3⟩
def rwB (j k s:Nat):Option (List AV)→Option (List AV)→Option (List AV)
 | some l,some L=>if j=k∧l.length=s then some (l++L) else none
 | _,_=>none
variable {k:Nat}
theorem ahm :rowA h s k []=some []:=Eq.trans rfl rfl
variable {a:AV}{r:List (Nat × AV)}
theorem adn {j:Nat}  :rowA h s k ((j,a)::r)=rwB j k s (cellsA h a) (rowA h s (k+1) r):=by
 simp only [rowA];cases cellsA h a<;>cases rowA h s (k+1) r<;>rfl
variable {l:List AV}
theorem Yb {j:Nat} {L:List AV} (h1:j=k) (h2:l.length=s):rwB j k s (some l) (some L)=some (l++L):=if_pos ⟨h1,h2⟩
def mkB (e:Nat) (zl zc:Int):Option Nat→Option Value→Option Nat→Option (TypeId × Nat × List AV)
 | some s,some z,some by_=>if 0<s∧0≤zl∧zl≤zc∧zc≤9223372036854775807∧(by_:Int)*zc≤140737488355328 then some (e,s,qI z (zl.toNat*s)) else none
 | _,_,_=>none
def mkA (P:Program) (zl zc:Int):Option TypeId→Option (TypeId × Nat × List AV)
 | some e=>mkB e zl zc (szP P e) (aA P e) (bD P e)
 | none=>none
variable {zc zl:Int}
theorem mk :vU P T zl zc=mkA P zl zc (aG P T):=by
 unfold vU mkA;cases aG P T with
 | none=>rfl
 | some e=>
  simp only [Option.bind_some];cases szP P e with
  | none=>rfl
  | some s=>
   simp only [Option.bind_some];cases aA P e with
   | none=>rfl
   | some z=>
    simp only [Option.bind_some];cases bD P e<;>rfl
theorem Yc :mkA P zl zc (some e)=mkB e zl zc (szP P e) (aA P e) (bD P e):=Eq.trans rfl rfl
theorem Yd {e:Nat}  {by_:Nat}  (h1:0<s) (h2:0≤zl) (h3:zl≤zc) (h4:zc≤9223372036854775807) (h5:(by_:Int)*zc≤140737488355328):mkB e zl zc (some s) (some z) (some by_)=some (e,s,qI z (zl.toNat*s)):=if_pos ⟨h1,h2,h3,h4,h5⟩
theorem Ye {k:IntKind} :qI (.int k 0) n=tab n (fun _=> .v (.int k 0)):=by
 show (if (1:Nat)=1 then List.replicate n (AV.v (.int k 0)) else _)=_;rw [if_pos rfl];apply List.ext_getElem?;intro i;by_cases hi:i<n
 ·rw [jv hi];simp [hi]
 ·simp [tab,hi]
theorem Tz :qI (.bool false) n=tab n (fun _=> .v (.bool false)):=by
 show (if (1:Nat)=1 then List.replicate n (AV.v (.bool false)) else _)=_;rw [if_pos rfl];apply List.ext_getElem?;intro i;by_cases hi:i<n
 ·rw [jv hi];simp [hi]
 ·simp [tab,hi]
theorem Yf :qI (.slice none 0 0) n=tab n (fun _=> .v (.slice none 0 0)):=by
 show (if (1:Nat)=1 then List.replicate n (AV.v (.slice none 0 0)) else _)=_;rw [if_pos rfl];apply List.ext_getElem?;intro i;by_cases hi:i<n
 ·rw [jv hi];simp [hi]
 ·simp [tab,hi]
def fdB (h:Hp) (a:AV) (o:Nat):Option Nat→Option AV
 | some s=>if s=0 then none else oC h a o
 | none=>none
def fdA (P:Program) (h:Hp) (a:AV):Option (Nat × TypeId)→Option AV
 | some (o,T)=>fdB h a o (szP P T)
 | none=>none
theorem fd {S:TypeId}  {f:Nat}:uM P h S a f=fdA P h a (aV P S f):=by
 unfold uM fdA;cases aV P S f with
 | none=>rfl
 | some ot=>
  obtain ⟨o,T⟩:=ot;simp only [Option.bind_some];cases hs:szP P T with
  | none=>simp only [reduceCtorEq,if_false,Option.bind_none];rfl
  | some s=>
   simp only [Option.bind_some,Option.some.injEq,fdB]
variable {o:Nat}
theorem Yg :fdA P h a (some (o,T))=fdB h a o (szP P T):=Eq.trans rfl rfl
theorem Yh (hs:s≠0):fdB h a o (some s)=oC h a o:=if_neg hs
def flB (P:Program) (T:TypeId) (o:Nat):Option (List AV)→Option AV
 | some l=>takeA P T (l.drop o)
 | none=>none
def flA (P:Program) (x:AV):Option (Nat × TypeId)→Option AV
 | some (o,T)=>flB P T o (cellsOf x)
 | none=>none
theorem fl {S:TypeId} {x:AV} {f:Nat}:uO P S x f=flA P x (aV P S f):=by
 unfold uO flA;cases aV P S f with
 | none=>rfl
 | some ot=>
  obtain ⟨o,T⟩:=ot;simp only [Option.bind_some];cases cellsOf x<;>rfl
theorem Yi {x:AV}  :flA P x (some (o,T))=flB P T o (cellsOf x):=Eq.trans rfl rfl
theorem Yj :flB P T o (some l)=takeA P T (l.drop o):=Eq.trans rfl rfl
theorem amL :cellsOf (.g l)=some l:=Eq.trans rfl rfl
theorem ahn {l:List Value}:cellsOf (.v (.agg l.toArray))=some (l.map .v):=Eq.trans rfl rfl
theorem aho {l:List Value}:cellsA h (.v (.agg l.toArray))=some (l.map .v):=Eq.trans rfl rfl
def fsP (P:Program) (T:TypeId):Option (List (Nat × Nat)):=match P.underlying T with
 | some (.struct fs)=>if fs.toList.all (fun f=>(P.info? f.type).isSome) then some (fs.toList.map fun f=>(f.offset,((P.info? f.type).map (·.size)).getD 0)) else none
 | some (.array n e)=>if n≤64 then (szP P e).map fun s=>(List.range n).map fun i=>(i*s,s) else none
 | _=>none
def bdA (h:Hp) (parts:List (Nat × AV)):Option Value→Option (List (Nat × Nat))→Option (List AV)→Option (List AV)
 | some z,some l,_=>nJ h (fun i=>l[i]?) (fZ z) parts
 | _,_,o=>o
theorem bd :oD P h T parts=bdA h parts (aA P T) (fsP P T) (oD P h T parts):=by
 cases hz:aA P T with
 | none=>rfl
 | some z=>
  cases hf:fsP P T with
  | none=>rfl
  | some l=>
   show _=nJ h (fun i=>l[i]?) (fZ z) parts;unfold oD;have:Ap P T=some (fun i=>l[i]?):=by
    unfold fsP at hf;unfold Ap;split at hf
    ·next fs hu=>
     rw [hu];simp only;split at hf
     ·next hall=>
      rw [if_pos hall];injection hf with hf;subst hf;congr 1;funext i
      rw [List.getElem?_map,Array.getElem?_toList]
     ·cases hf
    ·next n e hu=>
     rw [hu];simp only;split at hf
     ·cases hs:szP P e with
      | none=>rw [hs] at hf;cases hf
      | some s=>rw [hs] at hf;injection hf with hf;subst hf;rfl
     ·cases hf
    ·cases hf
   rw [hz,this]
def fiB (h:Hp) (pl:List (Nat × Nat)) (cells:List AV) (r:List (Nat × AV)):Option (Nat × Nat)→Option (List AV)→Option (List AV)
 | some (o,n),some l=>if l.length=n∧o+n≤cells.length then nJ h (fun i=>pl[i]?) (dW cells o l) r else none
 | _,_=>none
def bdX (P:Program) (h:Hp) (T:TypeId) (parts:List (Nat × AV)):Option Value→Option (List (Nat × Nat))→Option (List AV)
 | some z,some l=>nJ h (fun i=>l[i]?) (fZ z) parts
 | _,_=>oD P h T parts
theorem bdx {K:AV→Prop}:sG K (oD P h T parts)=sG K (bdX P h T parts (aA P T) (fsP P T)):=by
 congr 1;cases hz:aA P T with
 | none=>rfl
 | some z=>
  cases hf:fsP P T with
  | none=>rfl
  | some l=>
   rw [bd,hz,hf];rfl
theorem Yk {l:List (Nat × Nat)}:bdX P h T parts (some z) (some l)=nJ h (fun i=>l[i]?) (fZ z) parts:=Eq.trans rfl rfl
theorem ahp {pl:Nat→Option (Nat × Nat)} {cells:List AV}:nJ h pl cells []=some cells:=Eq.trans rfl rfl
theorem ado {pl:List (Nat × Nat)} {cells:List AV} {i:Nat}  :nJ h (fun i=>pl[i]?) cells ((i,a)::r)=fiB h pl cells r pl[i]? (cellsA h a):=by
 simp only [nJ];cases pl[i]? with
 | none=>rfl
 | some on=>obtain ⟨o,n⟩:=on;cases cellsA h a<;>rfl
theorem Yl {pl:List (Nat × Nat)} {cells:List AV}   (h1:l.length=n) (h2:o+n≤cells.length):fiB h pl cells r (some (o,n)) (some l)=nJ h (fun i=>pl[i]?) (dW cells o l) r:=if_pos ⟨h1,h2⟩
theorem adp {d:Nat}:aU none d=some d:=Eq.trans rfl rfl
theorem adq {k:IntKind} {z:Int} {d:Nat} (hz:0≤z):aU (some (.v (.int k z))) d=some z.toNat:=if_pos hz
def slT (n s:Nat) (cells:List AV):Option Nat→Option Nat→Option Nat→Option AV
 | some a,some b,some s'=>if s'=s∧a≤b∧b≤n then some (.t (b - a) s ((cells.take (b*s)).drop (a*s))) else none
 | _,_,_=>none
def hx (h:Hp):Option AV→Option (AV × Hp)
 | some a=>some (a,h)
 | none=>none
theorem adr :hx h (some a)=some (a,h):=Eq.trans rfl rfl
def szE (P:Program):Option TypeId→Option Nat
 | some e=>szP P e
 | none=>none
theorem Ym :szE P (some e)=szP P e:=Eq.trans rfl rfl
variable {hi:Option AV}
theorem akX {cells:List AV} {lo:Option AV}:iK P h T (.t n s cells) lo hi=hx h (slT n s cells (aU lo 0) (aU hi n) (szE P (aG P T))):=by
 simp only [iK];have:(aG P T).bind (szP P)=szE P (aG P T):=by cases aG P T<;>rfl
 rw [this];cases aU lo 0 with
 | none=>rfl
 | some a=>
  cases aU hi n with
  | none=>rfl
  | some b=>
   simp only [slT];cases szE P (aG P T) with
   | none=>simp;rfl
   | some s'=>
    simp only [Option.some.injEq];split<;>rfl
theorem amM {cells:List AV} {lo:Option AV}:sliceT P h T (.t n s cells) lo hi=slT n s cells (aU lo 0) (aU hi n) (szE P (aG P T)):=by
 show (iK P [] T (.t n s cells) lo hi).map (·.1)=_;rw [akX];cases slT n s cells (aU lo 0) (aU hi n) (szE P (aG P T))<;>rfl
def slO (n:Nat):Option Nat→Option Nat→Option Nat→Option (Option Ob)→Option AV
 | some a,some b,some s',some (some (.arr _ s cells fz))=>if s'=s∧cells.length=n*s∧a≤b∧b≤n∧b*s≤fz then some (.t (b - a) s ((cells.take (b*s)).drop (a*s))) else none
 | _,_,_,_=>none
theorem amN {id:Nat} {lo:Option AV}:sliceT P h T (.own id n) lo hi=slO n (aU lo 0) (aU hi n) (szE P (aG P T)) h[id]? :=by
 simp only [sliceT];have:(aG P T).bind (szP P)=szE P (aG P T):=by cases aG P T<;>rfl
 rw [this];cases h[id]? with
 | none=>unfold slO;split<;>first | rfl | simp_all
 | some o=>
  cases o with
  | none=>unfold slO;split<;>first | rfl | simp_all
  | some o=>
   cases o with
   | arr T' s cells fz=>
    cases aU lo 0 with
    | none=>rfl
    | some a=>
     cases aU hi n with
     | none=>rfl
     | some b=>
      simp only [slO];cases szE P (aG P T) with
      | none=>simp
      | some s'=>simp only [Option.some.injEq]
   | _=>unfold slO;split<;>first | rfl | simp_all
variable {b:Nat}
theorem Yn {a fz:Nat}  {cells:List AV} (h0:cells.length=n*s) (h1:a≤b) (h2:b≤n) (h3:b*s≤fz):slO n (some a) (some b) (some s) (some (some (.arr T s cells fz)))=some (.t (b - a) s ((cells.take (b*s)).drop (a*s))):=if_pos ⟨rfl,h0,h1,h2,h3⟩
theorem Yo {a:Nat} {cells:List AV} (h1:a≤b) (h2:b≤n):slT n s cells (some a) (some b) (some s)=some (.t (b - a) s ((cells.take (b*s)).drop (a*s))):=if_pos ⟨rfl,h1,h2⟩
def slS (x:ByteArray):Option Nat→Option Nat→Bool→Option AV
 | some a,some b,true=>if a≤b∧b≤x.size then some (.v (.string (x.extract a b))) else none
 | _,_,_=>none
variable {x:ByteArray}
theorem akY {lo:Option AV}:iK P h T (.v (.string x)) lo hi=hx h (slS x (aU lo 0) (aU hi x.size) (dK P T)):=by
 simp only [iK];cases dK P T with
 | false=>cases aU lo 0<;>cases aU hi x.size<;>rfl
 | true=>
  cases aU lo 0 with
  | none=>rfl
  | some a=>
   cases aU hi x.size with
   | none=>rfl
   | some b=>
    simp only [slS,if_true];split<;>rfl
theorem amO {lo:Option AV}:sliceT P h T (.v (.string x)) lo hi=slS x (aU lo 0) (aU hi x.size) (dK P T):=by
 show (iK P [] T (.v (.string x)) lo hi).map (·.1)=_;rw [akY];cases slS x (aU lo 0) (aU hi x.size) (dK P T)<;>rfl
theorem Yp {a:Nat} (h1:a≤b) (h2:b≤x.size):slS x (some a) (some b) true=some (.v (.string (x.extract a b))):=if_pos ⟨h1,h2⟩
variable {f:Nat→AV}
theorem Yq (hk:k≤n):(tab n f).take k=tab k f:=by
 apply List.ext_getElem?;intro i;rw [List.getElem?_take];by_cases hi:i<k
 ·rw [if_pos hi,jv (by omega),jv hi]
 ·rw [if_neg hi];simp [tab,hi]
theorem Yr :(tab n f).drop k=tab (n - k) (fun i=>f (i+k)):=by
 apply List.ext_getElem?;intro i;rw [List.getElem?_drop];by_cases hi:i<n - k
 ·rw [jv (by omega),jv hi,Nat.add_comm]
 ·simp [tab,hi,show ¬ k+i<n by omega]
theorem ads :tab 0 f=[]:=Eq.trans rfl rfl
theorem P7 {g:AV→Bool} (h: ∀ i,i<n→g (f i)=true):(tab n f).all g=true:=by
 rw [List.all_eq_true];intro a ha;obtain ⟨i,hi,rfl⟩:=List.mem_map.1 ha;exact h i (List.mem_range.1 hi)
theorem adt {k:IntKind} {f:Nat→Int}:(tab n fun i=> .v (.int k (f i))).all (kE h)=true:=P7 fun _ _=>rfl
def isB (x:ByteArray) (z:Int):Bool→Option AV
 | true=>if 0≤z then (x[z.toNat]?).map fun b=> .v (.int .u8 b.toNat) else none
 | false=>none
theorem ahq {z:Int}:mD P T (.v (.string x)) z=isB x z (dK P T):=by
 unfold mD isB;cases dK P T with
 | false=>simp
 | true=>simp
theorem Yt {z:Int} (hz:0≤z):isB x z true=(x[z.toNat]?).map fun b=> .v (.int .u8 b.toNat):=if_pos hz
end
section
variable {P:Program} {p₀:AV→Hp→Prop}
variable {h:Hp}{s u:TypeId}
theorem ahr {k:IntKind} {z:Int}:cvA P h s u (.v (.int k z))=(iM P h s u (.v (.int k z))).map .v:=Eq.trans rfl rfl
variable {n:Nat}
theorem amP {sz:Nat} {cells:List AV}:cvA P h s u (.t n sz cells)=(iM P h s u (.t n sz cells)).map .v:=Eq.trans rfl rfl
variable {id:Nat}
theorem ahs :cvA P h s u (.own id n)=(iM P h s u (.own id n)).map .v:=Eq.trans rfl rfl
variable {b:ByteArray}
theorem aht :cvA P h s u (.v (.string b))=cvX P h s u b ((aG P u).bind (l9 P)):=Eq.trans rfl rfl
theorem Yu :cvX P h s u b none=(iM P h s u (.v (.string b))).map .v:=Eq.trans rfl rfl
theorem Yv (h1:(P.underlying s).isSome=true) (h2:b.size≤140737488351232):cvX P h s u b (some .u8)=some (.t b.size 1 (Hr b)):=if_pos ⟨h1,h2⟩
variable {T:TypeId}
theorem ahu :iK P h T (.ptr id 0) none none=vW P h id h[id]? (bM P T):=by
 unfold iK;simp
theorem TQ {e:TypeId} {cells:List AV}:vW P h id (some (some (.blk cells))) (some (n,e))=Aq h id cells n (szP P e):=Eq.trans rfl rfl
theorem TR {s:Nat} {cells:List AV} (h1:cells.length=n*s) (h2:n≤1000000):Aq h id cells n (some s)=some (.t n s cells,h.set id none):=if_pos ⟨h1,h2⟩
def lkB (h:Hp) (x:AV) (kv:Value) (ok:Bool):Option KK→Option Value→Option AV
 | some q,some z=>if fO q kv=true then match x with
   | .mp id=>match h[id]? with
    | some (some (.map es))=>if keysB q es=true then some (nK ok z (eP kv es)) else none
    | _=>none
   | .tm es=>if keysB q es=true then some (nK ok z (eP kv es)) else none
   | .v (.map none)=>some (nK ok z none)
   | _=>none
   else none
 | _,_=>none
def lkD (kv:Value) (ok:Bool) (q:KK) (z:Value):Option (Option Ob)→Option AV
 | some (some (.map es))=>if keysB q es=true then some (nK ok z (eP kv es)) else none
 | _=>none
def lkA (P:Program) (h:Hp) (x:AV) (kv:Value) (ok:Bool):Option (TypeId × TypeId)→Option AV
 | some (K,E)=>lkB h x kv ok (kkP P K) (aA P E)
 | none=>none
variable {kv:Value}{x:AV}
theorem lk {ok:Bool}:nM P h T x (.v kv) ok=lkA P h x kv ok (uP P T):=by
 unfold nM lkA;cases uP P T with
 | none=>rfl
 | some KE=>
  obtain ⟨K,E⟩:=KE;simp only [Option.bind_some];cases kkP P K with
  | none=>cases aA P E<;>rfl
  | some q=>
   simp only [Option.bind_some];cases aA P E with
   | none=>rfl
   | some z=>rfl
theorem Yw {ok:Bool} {K E:TypeId}:lkA P h x kv ok (some (K,E))=lkB h x kv ok (kkP P K) (aA P E):=Eq.trans rfl rfl
variable {q:KK}{z:Value}
theorem ahv {ok:Bool}  :lkB h (.mp id) kv ok (some q) (some z)=if fO q kv=true then lkD kv ok q z h[id]? else none:=Eq.trans rfl rfl
variable {es:List (Value × AV)}
theorem ahw {ok:Bool}  :lkB h (.tm es) kv ok (some q) (some z)=if fO q kv=true then (if keysB q es=true then some (nK ok z (eP kv es)) else none) else none:=Eq.trans rfl rfl
theorem Yx {ok:Bool}  :lkD kv ok q z (some (some (.map es)))=if keysB q es=true then some (nK ok z (eP kv es)) else none:=Eq.trans rfl rfl
variable {a:AV}
theorem ahx :nK true z (some a)= .tup [a, .v (.bool true)]:=Eq.trans rfl rfl
theorem ahy :nK true z none= .tup [.v z, .v (.bool false)]:=Eq.trans rfl rfl
theorem ahz :nK false z (some a)=a:=Eq.trans rfl rfl
theorem ahA :nK false z none= .v z:=Eq.trans rfl rfl
theorem ahB {q:IntKind} {n:Int}:fO (.int q) (.int q n)=true:=ah rfl
theorem ahC {s:ByteArray}:fO .str (.string s)=true:=Eq.trans rfl rfl
theorem ahD :keysB q []=true:=Eq.trans rfl rfl
variable {r:List (Value × AV)}
theorem adu {p:Value × AV} :keysB q (p::r)=(fO q p.1 && keysB q r):=Eq.trans rfl rfl
variable {k:Value}
theorem ahE :eP k []=none:=Eq.trans rfl rfl
theorem adv {k':Value}  :eP k ((k',a)::r)=if keyE k k'=true then some a else eP k r:=Eq.trans rfl rfl
theorem ahF {q q':IntKind} {a b:Int}:keyE (.int q a) (.int q' b)=decide (a=b):=Eq.trans rfl rfl
theorem C9 {a:ByteArray}:keyE (.string a) (.string b)=decide (a=b):=Eq.trans rfl rfl
theorem ahG :kF k a []=[(k,a)]:=Eq.trans rfl rfl
theorem adw {k':Value} {a':AV} :kF k a ((k',a')::r)=if keyE k k'=true then (k,a)::r else (k',a')::kF k a r:=Eq.trans rfl rfl
def upD (h:Hp) (id:Nat) (kv:Value) (a:AV) (q:KK):Option (Option Ob)→Option Hp
 | some (some (.map es))=>if keysB q es=true then some (h.set id (some (.map (kF kv a es)))) else none
 | _=>none
def upB (h:Hp) (id:Nat) (kv:Value) (a:AV):Option KK→Option Hp
 | some q=>if fO q kv=true then upD h id kv a q h[id]? else none
 | none=>none
def upA (P:Program) (h:Hp) (id:Nat) (kv:Value) (a:AV):Option (TypeId × TypeId)→Option Hp
 | some (K,_)=>upB h id kv a (kkP P K)
 | none=>none
theorem up :kW P h T (.mp id) (.v kv) a=upA P h id kv a (uP P T):=by
 unfold kW upA;cases uP P T with
 | none=>rfl
 | some KE=>
  obtain ⟨K,E⟩:=KE;simp only [Option.bind_some];cases kkP P K with
  | none=>rfl
  | some q=>rfl
theorem Yy {K E:TypeId}:upA P h id kv a (some (K,E))=upB h id kv a (kkP P K):=Eq.trans rfl rfl
theorem Yz :upB h id kv a (some q)=if fO q kv=true then upD h id kv a q h[id]? else none:=Eq.trans rfl rfl
theorem YA :upD h id kv a q (some (some (.map es)))=if keysB q es=true then some (h.set id (some (.map (kF kv a es)))) else none:=Eq.trans rfl rfl
def bF (op:BinOp):Option Bool→Bool→Option Value
 | some b,true=>pW op b
 | _,_=>none
theorem YB {op:BinOp}  :qJ P h op T x (.v .nilFunc)=bF op (vX x) (jR P T):=by
 show (if jR P T=true then (vX x).bind (pW op) else none)=_;cases jR P T<;>cases vX x<;>rfl
theorem akZ {b:Bool}:bF .eql (some b) true=some (.bool b):=Eq.trans rfl rfl
theorem ak0 {b:Bool}:bF .neq (some b) true=some (.bool (!b)):=Eq.trans rfl rfl
theorem ahH:vX (.v .nilFunc)=some true:=Eq.trans rfl rfl
variable {f:Fn}
theorem ak1 {a b:List AV}:vX (.fn f a b)=some false:=Eq.trans rfl rfl
theorem ak2 :cellsA h (.mp id)=if bQ h (.mp id)=true then some [.mp id] else none:=Eq.trans rfl rfl
def ak3:Option (Option Ob)→Bool
 | some (some (.map _))=>true
 | _=>false
theorem ak4 :bQ h (.mp id)=ak3 h[id]? :=Eq.trans rfl rfl
theorem TU :ak3 (some (some (.map es)))=true:=Eq.trans rfl rfl
theorem ak5 :kE h (.mp id)=bQ h (.mp id):=Eq.trans rfl rfl
theorem ak6 {a b:List AV}:cellsA h (.fn f a b)=some [.fn f a b]:=Eq.trans rfl rfl
theorem ahI :cellsA h (.ifc T a)=some [.ifc T a]:=Eq.trans rfl rfl
theorem ahJ :kE h (.ifc T a)=true:=Eq.trans rfl rfl
def ak7 (h:Hp) (id:Nat):Option (Option Ob)→Option (AV × Hp)
 | some (some (.map es))=>some (.tm es,h.set id none)
 | _=>none
theorem ahK :dZ h (.mp id)=ak7 h id h[id]? :=Eq.trans rfl rfl
theorem TW :ak7 h id (some (some (.map es)))=some (.tm es,h.set id none):=Eq.trans rfl rfl
theorem adx :dZ h (.ifc T a)=some (.ifc T a,h):=Eq.trans rfl rfl
theorem ahL {a b:List AV}:dZ h (.fn f a b)=some (.fn f a b,h):=Eq.trans rfl rfl
end
end
end Go.Proofs.YtljfgdlgmdcmfaaGreat.Wv
