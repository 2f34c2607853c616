/- Parts of a proof. -/
import Derived.Test.YtljfgdlgmdcmfaaGreatQrd
set_option linter.unusedVariables false
namespace Go.Proofs.YtljfgdlgmdcmfaaGreat.Wv
section
open Go.RowKit
section
variable (P:Program) (p₀:AV→Hp→Prop) (N:Nat) (L:List Nat) (ks:List (Nat × Nat))
def SK (b:Code) (Q:bT):bT:=fun x e' h'=>match x with | .normal=>bD P N L ks b Q e' h' | x=>Q x e' h'
def SL (id:Nat) (Q:bT):bT:=fun x e' h'=>match x with | .exit i=>if i=id then Q .normal e' h' else Q (.exit i) e' h' | x=>Q x e' h'
def kP (l:List Oper) (e:Ev) (Q:bT):AV→Hp→Prop:=fun a h=>Q (.panic a) (iR l e) h
def YH (Q:bT):Ev→Hp→Prop:=fun e h=>Q .normal (kT L e) h
def SQ (fl:Nat) (hd all rest:List Oper) (n:Nat) (h:Hp) (Q:bT):Ev→List (Tmp × Value)→Prop:=fun e1 al=>if fl=1 then Ik hd e1 else gy P p₀ all rest (dM n al e1) (h++al.map lT) (YH L Q)
def kO (all r:List Oper) (d:Option Tmp) (e:Ev) (K:Ev→Hp→Prop):AV→Hp→Prop:=fun a h=>gy P p₀ all r (bH e d a) h K
def kR (K:AV→Hp→Prop) (h:Hp):AV→Prop:=fun a=>K a h
def kH (all:List Oper) (h:Hp) (r:List Oper) (d:Option Tmp) (e:Ev) (al:List (Tmp × Value)) (K:Ev→List (Tmp × Value)→Prop):AV→Prop:=fun a=>dG P p₀ all h r (bH e d a) al K
def Iq (ks:List (Nat × Nat)) (N:Nat) {σ:Type} (env:σ→Ev) (hp:σ→Hp) (inv:σ→Prop) (ms:σ→Nat) (n:Nat) (Q:bT):bT:=fun x e h=>match x with
 | .normal=> ∃ n' e₁ h₁,Ent (base ks) N e h e₁ h₁∧n'<n∧ ∃ s,e₁=env s∧h₁=hp s∧inv s∧n'=ms s
 | x=>Q x e h
def sV (K:AV→Prop) (o:Option Value):Prop:= ∃ r,o=some r∧K (.v r)
def sA (K:AV→Prop) (o:Option AV):Prop:= ∃ r,o=some r∧K r
def sG (K:AV→Prop) (o:Option (List AV)):Prop:= ∃ r,o=some r∧K (.g r)
def sO (K:AV→Hp→Prop) (o:Option (AV × Hp)):Prop:= ∃ r h,o=some (r,h)∧K r h
def sH (K:AV→Hp→Prop) (o:Option Hp):Prop:= ∃ h,o=some h∧K .none h
def sZ (K:AV→Hp→Prop) (h:Hp) (o:Option Value):Prop:= ∃ z,o=some z∧K (.ptr h.length 0) (h++[some (.blk (fB z))])
def sB (K:AV→Hp→Prop) (h:Hp) (o:Option (List AV)):Prop:= ∃ l,o=some l∧K (.ptr h.length 0) (h++[some (.blk l)])
def sS (K:AV→Hp→Prop) (h:Hp) (n:Nat) (o:Option (TypeId × Nat × List AV)):Prop:= ∃ te s l,o=some (te,s,l)∧K (.own h.length n) (h++[some (.arr te s l 0)])
def sT (K:AV→Prop) (n:Nat) (o:Option (TypeId × Nat × List AV)):Prop:= ∃ te s l,o=some (te,s,l)∧K (.t n s l)
def sI (P:Program) (T:TypeId) (K:AV→Hp→Prop) (h:Hp) (l c:Option Int):Prop:= ∃ zl zc te s L,l=some zl∧c=some zc∧ug P T zl zc=some (te,s,L)∧K (.own h.length zl.toNat) (h++[some (.arr te s L 0)])
def sN (K:AV→Prop) (x:AV) (o:Option Bool):Prop:=o=some false∧K x
def sL (K:AV→Prop) (o:Option Nat):Prop:= ∃ n,o=some n∧K (.v (.int .i64 n))
def sP (K:AV→Prop) (c x y:AV):Prop:= ∃ t,c= .v (.bool t)∧K (bif t then x else y)
def DU (K:AV→Hp→Prop) (h:Hp) (f:AV) (args:List AV):Prop:= ∃ fid fst cap,f= .fn (.func fid) fst cap∧HTP P fid (fst++args++cap) h K p₀
def SX (K:AV→Prop) (h:Hp) (f:AV) (args:List AV):Prop:= ∃ fid fst cap,f= .fn (.func fid) fst cap∧ ∃ res,HTP P fid (fst++args++cap) h (fun r h'=>r=res∧h'=h) p₀∧K res
def sC (a b:Code) (Q:bT) (e:Ev) (h:Hp) (c:AV):Prop:= ∃ t,c= .v (.bool t)∧if t=true then bD P N L ks a Q e h else bD P N L ks b Q e h
def sW (all:List Oper) (o:Oper) (r:List Oper) (d:Option Tmp) (e:Ev) (h:Hp) (K:Ev→Hp→Prop) (want:Bool) (g:AV):Prop:= ∃ b,gB want g=some b∧if b=true then wOp P p₀ o (dh e) h (kO P p₀ all r d e K) else gy P p₀ all r (bH e d (.v undef)) h K
def sY (all:List Oper) (h:Hp) (o:Oper) (r:List Oper) (d:Option Tmp) (e:Ev) (al:List (Tmp × Value)) (K:Ev→List (Tmp × Value)→Prop) (want:Bool) (g:AV):Prop:= ∃ b,gB want g=some b∧if b=true then cOp P p₀ o (dh e) h (kH P p₀ all h r d e al K) else dG P p₀ all h r (bH e d (.v undef)) al K
def Kw (e:Ev):Option Tmp→AV
 | some d=>aP e d
 | none=> .none
def sF (Q:AV→Hp→Prop) (h:Hp) (o:Option AV):Prop:= ∃ r,o=some r∧ ∃ r' h',dL h r=some (r',h')∧Q r' h'
def sE (Q:AV→Hp→Prop) (o:Option (AV × Hp)):Prop:= ∃ r h,o=some (r,h)∧Q r h
def sD (all:List Oper) (h:Hp) (r:List Oper) (d:Option Tmp) (e:Ev) (al:List (Tmp × Value)) (K:Ev→List (Tmp × Value)→Prop) (T:TypeId):Prop:= ∃ T' z d',Op.alloc T=Op.alloc T'∧d=some d'∧au P T'=some z∧dG P p₀ all h r (bH e d .none) (al++[(d',z)]) K
end
section
variable {P:Program} {p₀:AV→Hp→Prop} {N:Nat} {L:List Nat} {ks:List (Nat × Nat)}
def uF:Ev→Ev→Prop
 | [],_=>True
 | (d,a)::r,e=>aP e d=a∧uF r e
variable {e:Ev}
theorem SY :uF [] e=True:=Eq.trans rfl rfl
theorem Pn {d:Nat} {a:AV} {r:Ev}:uF ((d,a)::r) e=(aP e d=a∧uF r e):=Eq.trans rfl rfl
theorem uG: ∀ {e' e:Ev} (h:uF e' e) (d:Nat),aP e' d=aP e d∨aP e' d= .none
 | [],e,_,d=> .inr rfl
 | (k,a)::r,e,h,d=>by
  show (if k=d then a else aP r d)=_∨(if k=d then a else aP r d)=_;by_cases hk:k=d
  ·subst hk;left;rw [if_pos rfl];exact h.1.symm
  ·rw [if_neg hk];exact uG h.2 d
variable {h:Hp}
theorem Ent.fit {n0:Nat} {e':Ev}  (hf:uF e' e):Ent n0 N e h e' h:=fun X a hh hn hX hE=>⟨X,rfl,hh,(Step.refl X).toN (hh▸hn),hX,hE.defers,hE.size,fun d=>by
 rcases uG hf d with q | q
 ·rw [q];exact hE.rep d
 ·rw [q];exact .none _⟩
variable {Q:bT}
theorem adf :bD P N L ks .skip Q e h=Q .normal e h:=Eq.trans rfl rfl
theorem ag6 :bD P N L ks .ret Q e h=Q .ret e h:=Eq.trans rfl rfl
variable {i:Nat}
theorem adg :bD P N L ks (.exit i) Q e h=Q (.exit i) e h:=Eq.trans rfl rfl
theorem YI :bD P N L ks (.label i) Q e h=Q .normal e h:=Eq.trans rfl rfl
variable {b:Code}
theorem YJ :bD P N L ks (.scope b) Q e h=bD P N L ks b Q e h:=Eq.trans rfl rfl
theorem ag7 {a:Code}   :bD P N L ks (.seq a b) Q e h=bD P N L ks a (SK P N L ks b Q) e h:=Eq.trans rfl rfl
theorem YK :bD P N L ks (.block i b) Q e h=bD P N L ks b (SL i Q) e h:=Eq.trans rfl rfl
theorem adh {c:Operand} {a:Code}   :bD P N L ks (.cond c a b) Q e h=sC P N L ks a b Q e h (dh e c):=Eq.trans rfl rfl
variable {l:List Oper}
theorem ag8 :bD P N L ks (.region i l.toArray false) Q e h=gy P (kP l e Q) l l e h (YH L Q):=Eq.trans rfl rfl
theorem adi :bD P N L ks (.region i l.toArray true) Q e h=oQ (kOf ks i) (Kv P N ks i l.toArray Q e h) (dG P (kP l e Q) l (fP (kOf ks (3000000+i)) h) (l.take (kOf ks i)) e [] (SQ P (kP l e Q) L (kOf ks (4000000+i)) (l.take (kOf ks i)) l (l.drop (kOf ks i)) h.length (fP (kOf ks (3000000+i)) h) Q)):=Eq.trans rfl rfl
theorem ag9 {k:Nat} {E W:Prop} (hk:k≠1000000):oQ k E W=W:=if_neg hk
theorem adk {E W:Prop}:oQ 1000000 E W=E:=if_pos rfl
theorem adl :SK P N L ks b Q .normal e h=bD P N L ks b Q e h:=Eq.trans rfl rfl
theorem adn :SK P N L ks b Q (.exit i) e h=Q (.exit i) e h:=Eq.trans rfl rfl
theorem ado :SK P N L ks b Q .ret e h=Q .ret e h:=Eq.trans rfl rfl
theorem adp {a:AV}  :SK P N L ks b Q (.panic a) e h=Q (.panic a) e h:=Eq.trans rfl rfl
theorem k_p {a:AV} :kP l e Q a h=Q (.panic a) (iR l e) h:=Eq.trans rfl rfl
variable {j:Nat}
theorem adq :SL j Q .normal e h=Q .normal e h:=Eq.trans rfl rfl
theorem adr :SL j Q (.exit i) e h=if i=j then Q .normal e h else Q (.exit i) e h:=Eq.trans rfl rfl
theorem ads :SL j Q .ret e h=Q .ret e h:=Eq.trans rfl rfl
theorem adt {a:AV}  :SL j Q (.panic a) e h=Q (.panic a) e h:=Eq.trans rfl rfl
theorem k_reg :YH L Q e h=Q .normal (kT L e) h:=Eq.trans rfl rfl
variable {al:List (Tmp × Value)}{all:List Oper}{n:Nat}
theorem YL {hd rest:List Oper}    {e1:Ev} :SQ P p₀ L 1 hd all rest n h Q e1 al=Ik hd e1:=Eq.trans rfl rfl
theorem adu {hd rest:List Oper}    {e1:Ev} :SQ P p₀ L 0 hd all rest n h Q e1 al=gy P p₀ all rest (dM n al e1) (h++al.map lT) (YH L Q):=Eq.trans rfl rfl
variable {d:Option Tmp}{r:List Oper}
theorem k_o {K:Ev→Hp→Prop} {a:AV} :kO P p₀ all r d e K a h=gy P p₀ all r (bH e d a) h K:=Eq.trans rfl rfl
theorem k_r {K:AV→Hp→Prop}  {a:AV}:kR K h a=K a h:=Eq.trans rfl rfl
theorem k_h {K:Ev→List (Tmp × Value)→Prop} {a:AV}:kH P p₀ all h r d e al K a=dG P p₀ all h r (bH e d a) al K:=Eq.trans rfl rfl
variable {σ:Type}
theorem aJ {env:σ→Ev} {hp:σ→Hp} {inv:σ→Prop} {ms:σ→Nat}     (s:σ) (hi:inv s) (hm:ms s<n) (hh:h=hp s) (he:uF (env s) e):Iq ks N env hp inv ms n Q .normal e h:=by
 subst hh;exact ⟨_,_,_,Ent.fit he,hm,s,rfl,rfl,hi,rfl⟩
theorem Af {env:σ→Ev} {hp:σ→Hp} {inv:σ→Prop} {ms:σ→Nat}     (s:σ) (he:Ent (base ks) N e h (env s) (hp s)) (hi:inv s) (hm:ms s<n):Iq ks N env hp inv ms n Q .normal e h:=
 ⟨_,_,_,he,hm,s,rfl,rfl,hi,rfl⟩
theorem adv {env:σ→Ev} {hp:σ→Hp} {inv:σ→Prop} {ms:σ→Nat}    :Iq ks N env hp inv ms n Q (.exit i) e h=Q (.exit i) e h:=Eq.trans rfl rfl
theorem adw {env:σ→Ev} {hp:σ→Hp} {inv:σ→Prop} {ms:σ→Nat}    :Iq ks N env hp inv ms n Q .ret e h=Q .ret e h:=Eq.trans rfl rfl
theorem adx {env:σ→Ev} {hp:σ→Hp} {inv:σ→Prop} {ms:σ→Nat}   {a:AV}  :Iq ks N env hp inv ms n Q (.panic a) e h=Q (.panic a) e h:=Eq.trans rfl rfl
theorem dI (env:σ→Ev) (hp:σ→Hp) (inv:σ→Prop) (ms:σ→Nat) (s0:σ)     (hi:inv s0) (hh:h=hp s0) (he:uF (env s0) e)
  (hr: ∀ s,inv s→bD P N L ks b (Iq ks N env hp inv ms (ms s) Q) (env s) (hp s)):bD P N L ks (.loop b) Q e h:=by
 subst hh;refine ⟨fun n e h=> ∃ s,e=env s∧h=hp s∧inv s∧n=ms s,ms s0,_,_,Ent.fit he,⟨s0,rfl,rfl,hi,rfl⟩,?_⟩;rintro n e' h' ⟨s,rfl,rfl,hs,rfl⟩;exact hr s hs
variable {args:List AV}{body:Code}{fn:Func}
theorem TC.by {f:FuncId}    {res:AV} (N:Nat) (L:List Nat) (ks:List (Nat × Nat)) (rs:List ResultVar) (hf:P.funcs[f]? =some fn) (hb:fn.body=some body) (hn:fn.ntmps=N) (hr:fn.results=rs.toArray) (hc:Clo res)
  (hw:bD P N L ks body (Fin P rs.toArray fun r _=>r=res) (pU 0 args) []) (bJ:P.follows .mixedOrders=true:=by kernel_rfl) (hp:kS P f=true:=by kernel_rfl) (hk:cO N ks body=true:=by kernel_rfl) (hN:args.length≤N:=by exact Nat.le_of_ble_eq_true rfl) (hbs:base ks=0:=by rfl):TC P f args res:=by
 subst hn;rw [←hr] at hw;exact TC.of L ks bJ hf hb hp hk hN hbs hc hw
theorem HT.by {f:FuncId}     {R:AV→Hp→Prop} (N:Nat) (L:List Nat) (ks:List (Nat × Nat)) (rs:List ResultVar) (hf:P.funcs[f]? =some fn) (hb:fn.body=some body) (hn:fn.ntmps=N) (hr:fn.results=rs.toArray) (hbs:base ks=h.length)
  (hw:bD P N L ks body (Fin P rs.toArray R) (pU 0 args) h) (bJ:P.follows .mixedOrders=true:=by kernel_rfl) (hp:kS P f=true:=by kernel_rfl) (hk:cO N ks body=true:=by kernel_rfl) (hN:args.length≤N:=by exact Nat.le_of_ble_eq_true rfl):HT P f args h R:=by
 subst hn;rw [←hr] at hw;exact HT.of bJ hf hb hp hk hN hbs hw
theorem HTP.by {f:FuncId}     {R p:AV→Hp→Prop} (N:Nat) (L:List Nat) (ks:List (Nat × Nat)) (rs:List ResultVar) (hf:P.funcs[f]? =some fn) (hb:fn.body=some body) (hn:fn.ntmps=N) (hr:fn.results=rs.toArray) (hbs:base ks=h.length)
  (hw:bD P N L ks body (CW P rs.toArray R p) (pU 0 args) h) (bJ:P.follows .mixedOrders=true:=by kernel_rfl) (hp:kS P f=true:=by kernel_rfl) (hk:cO N ks body=true:=by kernel_rfl) (hN:args.length≤N:=by exact Nat.le_of_ble_eq_true rfl):HTP P f args h R p:=by
 subst hn;rw [←hr] at hw;exact HTP.of bJ hf hb hp hk hN hbs hw
theorem YM :fP 0 h=h.map froze:=kZ h
theorem YN {m:Nat} {o:Option Ob} {r:Hp}:fP m (o::r)=(if m % 2=1 then o else froze o)::fP (m / 2) r:=Eq.trans rfl rfl
theorem ady {m:Nat}:fP m []=[]:=by cases m<;>rfl
theorem aha {K:Ev→Hp→Prop}:gy P p₀ all [] e h K=K e h:=Eq.trans rfl rfl
variable {a:Array Edge}{p:String}
theorem adz {K:Ev→Hp→Prop}  {t:TypeId}   {op:Op}:gy P p₀ all (⟨d,op,t,p,a,none⟩::r) e h K=wOp P p₀ ⟨d,op,t,p,a,none⟩ (dh e) h (kO P p₀ all r d e K):=Eq.trans rfl rfl
theorem adA {K:Ev→Hp→Prop}  {t:TypeId}   {op:Op}  {w:Bool}:gy P p₀ all (⟨d,op,t,p,a,some (j,w)⟩::r) e h K=sW P p₀ all ⟨d,op,t,p,a,none⟩ r d e h K w (Kw e ((all[j]?).bind (·.dst))):=by
 have e1: ∀ K',wOp P p₀ ⟨d,op,t,p,a,some (j,w)⟩ (dh e) h K'=wOp P p₀ ⟨d,op,t,p,a,none⟩ (dh e) h K':=fun K'=>by cases op<;>rfl
 have e2:guardE all e j=Kw e ((all[j]?).bind (·.dst)):=by unfold guardE Kw;rfl
 show (∃ b,gB w (guardE all e j)=some b∧(if b=true then wOp P p₀ ⟨d,op,t,p,a,some (j,w)⟩ (dh e) h (kO P p₀ all r d e K) else _))=_;rw [e1,e2];rfl
theorem ahb {K:Ev→List (Tmp × Value)→Prop}:dG P p₀ all h [] e al K=K e al:=Eq.trans rfl rfl
variable {T:TypeId}
theorem YO {K:Ev→List (Tmp × Value)→Prop}  {t:TypeId}   :dG P p₀ all h (⟨d, .alloc T,t,p,a,none⟩::r) e al K=sD P p₀ all h r d e al K T:=Eq.trans rfl rfl
theorem adB {K:Ev→List (Tmp × Value)→Prop}  {t:TypeId}   {op:Op}:aF ⟨d,op,t,p,a,none⟩=false→dG P p₀ all h (⟨d,op,t,p,a,none⟩::r) e al K=cOp P p₀ ⟨d,op,t,p,a,none⟩ (dh e) h (kH P p₀ all h r d e al K):=fun hn=>by
 show (if aF ⟨d,op,t,p,a,none⟩=true then _ else _)=_;rw [hn];rfl
theorem adC {K:Ev→List (Tmp × Value)→Prop}  {t:TypeId}   {op:Op}  {w:Bool}:dG P p₀ all h (⟨d,op,t,p,a,some (j,w)⟩::r) e al K=sY P p₀ all h ⟨d,op,t,p,a,none⟩ r d e al K w (Kw e ((all[j]?).bind (·.dst))):=by
 have e1: ∀ K',cOp P p₀ ⟨d,op,t,p,a,some (j,w)⟩ (dh e) h K'=cOp P p₀ ⟨d,op,t,p,a,none⟩ (dh e) h K':=fun K'=>by cases op<;>rfl
 have e2:guardE all e j=Kw e ((all[j]?).bind (·.dst)):=by unfold guardE Kw;rfl
 show (∃ b,gB w (guardE all e j)=some b∧(if b=true then cOp P p₀ ⟨d,op,t,p,a,some (j,w)⟩ (dh e) h (kH P p₀ all h r d e al K) else _))=_;rw [e1,e2];rfl
variable {E:Operand→AV}{K:AV→Prop}{x:Operand}
theorem adD {t:TypeId}   {g:Option (Nat × Bool)}  :rOp P ⟨d, .move x,t,p,a,g⟩ E h K=K (E x):=Eq.trans rfl rfl
theorem S9 {t:TypeId}   {g:Option (Nat × Bool)}  :rOp P ⟨d, .assign x,t,p,a,g⟩ E h K=K (E x):=Eq.trans rfl rfl
variable {y:Operand}
theorem adE {t:TypeId}   {g:Option (Nat × Bool)} {c:Operand} :rOp P ⟨d, .pick c x y,t,p,a,g⟩ E h K=sP K (E c) (E x) (E y):=Eq.trans rfl rfl
variable {parts:Array (Nat × Operand)}
theorem YP {t:TypeId}   {g:Option (Nat × Bool)}   :rOp P ⟨d, .build T parts,t,p,a,g⟩ E h K=sG K (mJ P h T (parts.toList.map fun p=>(p.1,E p.2))):=Eq.trans rfl rfl
theorem adF {t:TypeId}   {g:Option (Nat × Bool)}   :rOp P ⟨d, .load T x,t,p,a,g⟩ E h K=(szP P T≠some 0∧sA K (pq P h T (E x))):=Eq.trans rfl rfl
theorem Ky {t:TypeId}   {g:Option (Nat × Bool)}  :rOp P ⟨d, .nilCheck x,t,p,a,g⟩ E h K=sN K (E x) (lC h (E x)):=Eq.trans rfl rfl
variable {op:BinOp}{ty:TypeId}
theorem YQ {t:TypeId}   {g:Option (Nat × Bool)}    :rOp P ⟨d, .binOp op T x y ty,t,p,a,g⟩ E h K=sV K (pK P h op T (E x) (E y)):=Eq.trans rfl rfl
theorem adG {t:TypeId}   {g:Option (Nat × Bool)} {op:UnOp}   :rOp P ⟨d, .unOp op T x,t,p,a,g⟩ E h K=sV K (unA op (E x)):=Eq.trans rfl rfl
variable {s u:TypeId}
theorem Po {t:TypeId}   {g:Option (Nat × Bool)}   :rOp P ⟨d, .convert s u x,t,p,a,g⟩ E h K=sV K (gX P h s u (E x)):=Eq.trans rfl rfl
variable {f:Nat}
theorem Ir {t:TypeId}   {g:Option (Nat × Bool)} {S:TypeId}   :rOp P ⟨d, .fieldAddr S x f,t,p,a,g⟩ E h K=sA K (rY P h S (E x) f):=Eq.trans rfl rfl
theorem YR {t:TypeId}   {g:Option (Nat × Bool)} {S:TypeId}   :rOp P ⟨d, .field S x f,t,p,a,g⟩ E h K=sA K (su P S (E x) f):=Eq.trans rfl rfl
theorem Pq {t:TypeId}   {g:Option (Nat × Bool)}   :rOp P ⟨d, .extract x i,t,p,a,g⟩ E h K=sA K (DC (E x) i):=Eq.trans rfl rfl
theorem ahc {t:TypeId}   {g:Option (Nat × Bool)}   {K:AV→Hp→Prop}:wOp P p₀ ⟨d, .makeInterface T x,t,p,a,g⟩ E h K=(aV P T=true∧K (.ifc T (E x)) h):=Eq.trans rfl rfl
theorem ahd {t:TypeId}   {g:Option (Nat × Bool)}   :cOp P p₀ ⟨d, .makeInterface T x,t,p,a,g⟩ E h K=(aV P T=true∧K (.ifc T (E x))):=Eq.trans rfl rfl
variable {k:Operand}
theorem Tc {t:TypeId}   {g:Option (Nat × Bool)}   {ok:Bool} {K:AV→Hp→Prop}:wOp P p₀ ⟨d, .lookup T x k ok,t,p,a,g⟩ E h K=sA (kR K h) (jV P h T (E x) (E k) ok):=Eq.trans rfl rfl
theorem Td {t:TypeId}   {g:Option (Nat × Bool)}   {ok:Bool} :cOp P p₀ ⟨d, .lookup T x k ok,t,p,a,g⟩ E h K=sA K (jV P h T (E x) (E k) ok):=Eq.trans rfl rfl
theorem Pv {t:TypeId}   {g:Option (Nat × Bool)}  {K:AV→Hp→Prop}:wOp P p₀ ⟨d, .makeMap T none,t,p,a,g⟩ E h K=K (.mp h.length) (h++[some (.map [])]):=propext ⟨fun q=>q.2,fun q=>⟨rfl,q⟩⟩
theorem Iu {t:TypeId}   {g:Option (Nat × Bool)}  {m:Operand} {K:AV→Hp→Prop}:wOp P p₀ ⟨d, .mapUpdate T m k x,t,p,a,g⟩ E h K=sH K (iW P h T (E m) (E k) (E x)):=Eq.trans rfl rfl
theorem Ti {t:TypeId}   {g:Option (Nat × Bool)}  {m:Operand} {K:AV→Hp→Prop}:wOp P p₀ ⟨d, .insert T m k x,t,p,a,g⟩ E h K=sH K (iW P h T (E m) (E k) (E x)):=Eq.trans rfl rfl
def ahe (p:AV→Hp→Prop) (h:Hp) (x:AV):Prop:= ∃ T a,x= .ifc T a∧p (.ifc T a) h
theorem Tj {x:AV}:ahe p₀ h (.ifc T x)=p₀ (.ifc T x) h:=propext ⟨fun ⟨_,_,e,q⟩=>by cases e;exact q,fun q=>⟨_,_,rfl,q⟩⟩
theorem YS {t:TypeId}   {g:Option (Nat × Bool)}  {K:AV→Hp→Prop}:wOp P p₀ ⟨d, .panic x,t,p,a,g⟩ E h K=ahe p₀ h (E x):=Eq.trans rfl rfl
theorem adH {t:TypeId}   {g:Option (Nat × Bool)}  {K:AV→Hp→Prop}:wOp P p₀ ⟨d, .move x,t,p,a,g⟩ E h K=rOp P ⟨d, .move x,t,p,a,g⟩ E h (kR K h):=Eq.trans rfl rfl
theorem adI {t:TypeId}   {g:Option (Nat × Bool)}  :cOp P p₀ ⟨d, .move x,t,p,a,g⟩ E h K=rOp P ⟨d, .move x,t,p,a,g⟩ E h K:=Eq.trans rfl rfl
theorem Tm {t:TypeId}   {g:Option (Nat × Bool)}  {K:AV→Hp→Prop}:wOp P p₀ ⟨d, .assign x,t,p,a,g⟩ E h K=rOp P ⟨d, .assign x,t,p,a,g⟩ E h (kR K h):=Eq.trans rfl rfl
theorem Tq {t:TypeId}   {g:Option (Nat × Bool)}  :cOp P p₀ ⟨d, .assign x,t,p,a,g⟩ E h K=rOp P ⟨d, .assign x,t,p,a,g⟩ E h K:=Eq.trans rfl rfl
theorem adJ {t:TypeId}   {g:Option (Nat × Bool)} {c:Operand} {K:AV→Hp→Prop}:wOp P p₀ ⟨d, .pick c x y,t,p,a,g⟩ E h K=rOp P ⟨d, .pick c x y,t,p,a,g⟩ E h (kR K h):=Eq.trans rfl rfl
theorem adK {t:TypeId}   {g:Option (Nat × Bool)} {c:Operand} :cOp P p₀ ⟨d, .pick c x y,t,p,a,g⟩ E h K=rOp P ⟨d, .pick c x y,t,p,a,g⟩ E h K:=Eq.trans rfl rfl
theorem YT {t:TypeId}   {g:Option (Nat × Bool)}   {K:AV→Hp→Prop}:wOp P p₀ ⟨d, .build T parts,t,p,a,g⟩ E h K=rOp P ⟨d, .build T parts,t,p,a,g⟩ E h (kR K h):=Eq.trans rfl rfl
theorem YU {t:TypeId}   {g:Option (Nat × Bool)}   :cOp P p₀ ⟨d, .build T parts,t,p,a,g⟩ E h K=rOp P ⟨d, .build T parts,t,p,a,g⟩ E h K:=Eq.trans rfl rfl
theorem adL {t:TypeId}   {g:Option (Nat × Bool)}   {K:AV→Hp→Prop}:wOp P p₀ ⟨d, .load T x,t,p,a,g⟩ E h K=rOp P ⟨d, .load T x,t,p,a,g⟩ E h (kR K h):=Eq.trans rfl rfl
theorem adM {t:TypeId}   {g:Option (Nat × Bool)}   :cOp P p₀ ⟨d, .load T x,t,p,a,g⟩ E h K=rOp P ⟨d, .load T x,t,p,a,g⟩ E h K:=Eq.trans rfl rfl
theorem Kz {t:TypeId}   {g:Option (Nat × Bool)}  {K:AV→Hp→Prop}:wOp P p₀ ⟨d, .nilCheck x,t,p,a,g⟩ E h K=rOp P ⟨d, .nilCheck x,t,p,a,g⟩ E h (kR K h):=Eq.trans rfl rfl
theorem KA {t:TypeId}   {g:Option (Nat × Bool)}  :cOp P p₀ ⟨d, .nilCheck x,t,p,a,g⟩ E h K=rOp P ⟨d, .nilCheck x,t,p,a,g⟩ E h K:=Eq.trans rfl rfl
theorem YV {t:TypeId}   {g:Option (Nat × Bool)}    {K:AV→Hp→Prop}:wOp P p₀ ⟨d, .binOp op T x y ty,t,p,a,g⟩ E h K=rOp P ⟨d, .binOp op T x y ty,t,p,a,g⟩ E h (kR K h):=Eq.trans rfl rfl
theorem YW {t:TypeId}   {g:Option (Nat × Bool)}    :cOp P p₀ ⟨d, .binOp op T x y ty,t,p,a,g⟩ E h K=rOp P ⟨d, .binOp op T x y ty,t,p,a,g⟩ E h K:=Eq.trans rfl rfl
theorem adN {t:TypeId}   {g:Option (Nat × Bool)} {op:UnOp}   {K:AV→Hp→Prop}:wOp P p₀ ⟨d, .unOp op T x,t,p,a,g⟩ E h K=rOp P ⟨d, .unOp op T x,t,p,a,g⟩ E h (kR K h):=Eq.trans rfl rfl
theorem adO {t:TypeId}   {g:Option (Nat × Bool)} {op:UnOp}   :cOp P p₀ ⟨d, .unOp op T x,t,p,a,g⟩ E h K=rOp P ⟨d, .unOp op T x,t,p,a,g⟩ E h K:=Eq.trans rfl rfl
theorem Px {t:TypeId}   {g:Option (Nat × Bool)}   {K:AV→Hp→Prop}:wOp P p₀ ⟨d, .convert s u x,t,p,a,g⟩ E h K=sA (kR K h) (cvA P h s u (E x)):=Eq.trans rfl rfl
theorem Py {t:TypeId}   {g:Option (Nat × Bool)}   :cOp P p₀ ⟨d, .convert s u x,t,p,a,g⟩ E h K=sV K (gX P [] s u (E x)):=Eq.trans rfl rfl
theorem Iw {t:TypeId}   {g:Option (Nat × Bool)} {S:TypeId}   {K:AV→Hp→Prop}:wOp P p₀ ⟨d, .fieldAddr S x f,t,p,a,g⟩ E h K=rOp P ⟨d, .fieldAddr S x f,t,p,a,g⟩ E h (kR K h):=Eq.trans rfl rfl
theorem Iy {t:TypeId}   {g:Option (Nat × Bool)} {S:TypeId}   :cOp P p₀ ⟨d, .fieldAddr S x f,t,p,a,g⟩ E h K=rOp P ⟨d, .fieldAddr S x f,t,p,a,g⟩ E h K:=Eq.trans rfl rfl
theorem YX {t:TypeId}   {g:Option (Nat × Bool)} {S:TypeId}   {K:AV→Hp→Prop}:wOp P p₀ ⟨d, .field S x f,t,p,a,g⟩ E h K=rOp P ⟨d, .field S x f,t,p,a,g⟩ E h (kR K h):=Eq.trans rfl rfl
theorem YZ {t:TypeId}   {g:Option (Nat × Bool)} {S:TypeId}   :cOp P p₀ ⟨d, .field S x f,t,p,a,g⟩ E h K=rOp P ⟨d, .field S x f,t,p,a,g⟩ E h K:=Eq.trans rfl rfl
theorem Pz {t:TypeId}   {g:Option (Nat × Bool)}   {K:AV→Hp→Prop}:wOp P p₀ ⟨d, .extract x i,t,p,a,g⟩ E h K=rOp P ⟨d, .extract x i,t,p,a,g⟩ E h (kR K h):=Eq.trans rfl rfl
theorem PD {t:TypeId}   {g:Option (Nat × Bool)}   :cOp P p₀ ⟨d, .extract x i,t,p,a,g⟩ E h K=rOp P ⟨d, .extract x i,t,p,a,g⟩ E h K:=Eq.trans rfl rfl
end
end
section
open Go.RowKit
def sT0 (K:AV→Prop) (n:Nat) (o:Option (TypeId × Nat × List AV)):Prop:= ∃ te s l,o=some (te,s,l)∧K (if n=0 then .e0 else .t n s l)
def sX1 (P:Program) (h:Hp) (T:TypeId) (x:AV) (K:AV→Prop) (z:Option Int):Prop:= ∃ i,z=some i∧sA K (ER P h T x i)
def sX2 (P:Program) (T:TypeId) (x:AV) (K:AV→Prop) (z:Option Int):Prop:= ∃ i,z=some i∧sA K (ou P T x i)
section
variable {P:Program} {p₀:AV→Hp→Prop} {E:Operand→AV} {h:Hp} {d:Option Tmp} {t:TypeId} {p:String} {a:Array Edge} {g:Option (Nat × Bool)}
variable {T:TypeId}{hi:Option Operand}{x:Operand}
theorem Y1 {lo:Option Operand} {K:AV→Prop}:rOp P ⟨d, .slice T x lo hi none,t,p,a,g⟩ E h K=sA K (sliceT P h T (E x) (lo.map E) (hi.map E)):=propext ⟨fun q=>q.2,fun q=>⟨rfl,q⟩⟩
theorem Y2 {lo:Option Operand} {K:AV→Prop}:cOp P p₀ ⟨d, .slice T x lo hi none,t,p,a,g⟩ E h K=rOp P ⟨d, .slice T x lo hi none,t,p,a,g⟩ E h K:=Eq.trans rfl rfl
variable {K:AV→Hp→Prop}
theorem Y3 {lo:Option Operand} :wOp P p₀ ⟨d, .slice T x lo hi none,t,p,a,g⟩ E h K=sO K (iM P h T (E x) (lo.map E) (hi.map E)):=propext ⟨fun q=>q.2,fun q=>⟨rfl,q⟩⟩
variable {i:Operand}
theorem Iz {K:AV→Prop}:rOp P ⟨d, .indexAddr T x i,t,p,a,g⟩ E h K=sX1 P h T (E x) K (pF (E i)):=propext ⟨fun ⟨z,r,q1,q2,q3⟩=>⟨z,q1,r,q2,q3⟩,fun ⟨z,q1,r,q2,q3⟩=>⟨z,r,q1,q2,q3⟩⟩
theorem IB {K:AV→Prop}:cOp P p₀ ⟨d, .indexAddr T x i,t,p,a,g⟩ E h K=rOp P ⟨d, .indexAddr T x i,t,p,a,g⟩ E h K:=Eq.trans rfl rfl
theorem IC :wOp P p₀ ⟨d, .indexAddr T x i,t,p,a,g⟩ E h K=rOp P ⟨d, .indexAddr T x i,t,p,a,g⟩ E h (kR K h):=Eq.trans rfl rfl
theorem Y4 {K:AV→Prop}:rOp P ⟨d, .index T x i,t,p,a,g⟩ E h K=sX2 P T (E x) K (pF (E i)):=propext ⟨fun ⟨z,r,q1,q2,q3⟩=>⟨z,q1,r,q2,q3⟩,fun ⟨z,q1,r,q2,q3⟩=>⟨z,r,q1,q2,q3⟩⟩
theorem Y5 {K:AV→Prop}:cOp P p₀ ⟨d, .index T x i,t,p,a,g⟩ E h K=rOp P ⟨d, .index T x i,t,p,a,g⟩ E h K:=Eq.trans rfl rfl
theorem Y6 :wOp P p₀ ⟨d, .index T x i,t,p,a,g⟩ E h K=rOp P ⟨d, .index T x i,t,p,a,g⟩ E h (kR K h):=Eq.trans rfl rfl
variable {l1 l2:List Operand}
theorem adP {f:Fn}  {K:AV→Prop}:rOp P ⟨d, .makeFunc f l1.toArray l2.toArray,t,p,a,g⟩ E h K=K (.fn f (l1.map E) (l2.map E)):=Eq.trans rfl rfl
theorem adQ {f:Fn}  {K:AV→Prop}:cOp P p₀ ⟨d, .makeFunc f l1.toArray l2.toArray,t,p,a,g⟩ E h K=K (.fn f (l1.map E) (l2.map E)):=Eq.trans rfl rfl
theorem adR {f:Fn}  :wOp P p₀ ⟨d, .makeFunc f l1.toArray l2.toArray,t,p,a,g⟩ E h K=K (.fn f (l1.map E) (l2.map E)) h:=Eq.trans rfl rfl
theorem len_eq {K:AV→Prop}:rE P ⟨.builtin .len, #[x], #[T]⟩ E h K=sL K (CS P h T (E x)):=propext ⟨fun ⟨_,n,q1,_,q2⟩=>⟨n,q1,q2⟩,fun ⟨n,q1,q2⟩=>⟨rfl,n,q1,rfl,q2⟩⟩
theorem q_len {K:AV→Prop}:cOp P p₀ ⟨d, .call ⟨.builtin .len, #[x], #[T]⟩,t,p,a,g⟩ E h K=sL K (CS P h T (E x)):=len_eq
theorem ahf :wOp P p₀ ⟨d, .call ⟨.builtin .len, #[x], #[T]⟩,t,p,a,g⟩ E h K=sL (kR K h) (CS P h T (E x)):=len_eq (K:=kR K h)
variable {l:List Operand}{tt:Array TypeId}
theorem ahg {K:AV→Prop}:cOp P p₀ ⟨d, .call ⟨.builtin .max,l.toArray,tt⟩,t,p,a,g⟩ E h K=sA K (mmA true (l.map E)):=Eq.trans rfl rfl
theorem ahh :wOp P p₀ ⟨d, .call ⟨.builtin .max,l.toArray,tt⟩,t,p,a,g⟩ E h K=sA (kR K h) (mmA true (l.map E)):=Eq.trans rfl rfl
theorem ahi {K:AV→Prop}:cOp P p₀ ⟨d, .call ⟨.builtin .min,l.toArray,tt⟩,t,p,a,g⟩ E h K=sA K (mmA false (l.map E)):=Eq.trans rfl rfl
theorem ahj :wOp P p₀ ⟨d, .call ⟨.builtin .min,l.toArray,tt⟩,t,p,a,g⟩ E h K=sA (kR K h) (mmA false (l.map E)):=Eq.trans rfl rfl
variable {U:TypeId}{y:Operand}
theorem Tt :wOp P p₀ ⟨d, .call ⟨.builtin .append, #[x,y], #[T,U]⟩,t,p,a,g⟩ E h K=sO K (lS P h T U (E x) (E y)):=propext ⟨fun ⟨_,_,q⟩=>q,fun q=>⟨rfl,rfl,q⟩⟩
theorem adS :wOp P p₀ ⟨d, .call ⟨.builtin .copy, #[x,y], #[T,U]⟩,t,p,a,g⟩ E h K=sO K (xM P h T U (E x) (E y)):=propext ⟨fun ⟨_,_,q⟩=>q,fun q=>⟨rfl,rfl,q⟩⟩
theorem adT {f:Operand}   :wOp P p₀ ⟨d, .call ⟨.value f,l.toArray,tt⟩,t,p,a,g⟩ E h K=DU P p₀ K h (E f) (l.map E):=Eq.trans rfl rfl
theorem adU {f:Operand}   {K:AV→Prop}:cOp P p₀ ⟨d, .call ⟨.value f,l.toArray,tt⟩,t,p,a,g⟩ E h K=SX P p₀ K h (E f) (l.map E):=Eq.trans rfl rfl
theorem ahk {n:Nat} {l:List (Nat × Operand)} {K:AV→Prop}:cOp P p₀ ⟨d, .buildSlice T n l.toArray,t,p,a,g⟩ E h K=sT0 K n (yB P h T n (l.map fun p=>(p.1,E p.2))):=Eq.trans rfl rfl
theorem Tv {K:AV→Prop}:cOp P p₀ ⟨d, .call ⟨.builtin .append, #[x,y], #[T,U]⟩,t,p,a,g⟩ E h K=sA K (Ib P h T U (E x) (E y)):=propext ⟨fun ⟨_,_,q⟩=>q,fun q=>⟨rfl,rfl,q⟩⟩
theorem ahl {n:Nat} {l:List (Nat × Operand)} :wOp P p₀ ⟨d, .buildSlice T n l.toArray,t,p,a,g⟩ E h K=sS K h n (yB P h T n (l.map fun p=>(p.1,E p.2))):=Eq.trans rfl rfl
theorem Y7 :wOp P p₀ ⟨d, .alloc T,t,p,a,g⟩ E h K=sZ K h (au P T):=Eq.trans rfl rfl
theorem ahm :wOp P p₀ ⟨d, .box T x,t,p,a,g⟩ E h K=sB K h (cellsA h (E x)):=Eq.trans rfl rfl
theorem Y8 :wOp P p₀ ⟨d, .store T x y,t,p,a,g⟩ E h K=sH K (rX P h T (E x) (E y)):=Eq.trans rfl rfl
theorem adV :wOp P p₀ ⟨d, .makeSlice T x y,t,p,a,g⟩ E h K=sI P T K h (pF (E x)) (pF (E y)):=Eq.trans rfl rfl
end
section
variable {P:Program} {p₀:AV→Hp→Prop} {N:Nat} {L:List Nat} {ks:List (Nat × Nat)}
theorem lU {α:Type} {x:α} {K:α→Prop}:(∃ r,some x=some r∧K r)=K x:=propext ⟨fun ⟨r,h1,h2⟩=>by injection h1 with h1;subst h1;exact h2,fun h=>⟨x,rfl,h⟩⟩
variable {v:Value}
theorem Y9 {K:AV→Prop} :sV K (some v)=K (.v v):=lU (K:=fun r=>K (.v r))
theorem Za {K:AV→Prop} {v:AV}:sA K (some v)=K v:=lU
variable {l:List AV}
theorem Zb {K:AV→Prop} :sG K (some l)=K (.g l):=lU (K:=fun r=>K (.g r))
variable {h:Hp}
theorem ND {K:AV→Hp→Prop} {v:AV} :sO K (some (v,h))=K v h:=propext ⟨fun ⟨r,h',h1,h2⟩=>by injection h1 with h1;injection h1 with e1 e2;subst e1 e2;exact h2,fun q=>⟨v,h,rfl,q⟩⟩
theorem Zc {K:AV→Hp→Prop} {v:AV} :sE K (some (v,h))=K v h:=ND
theorem Zd {K:AV→Hp→Prop} :sH K (some h)=K .none h:=lU (K:=fun r=>K .none r)
theorem Ze {K:AV→Hp→Prop}  {z:Value}:sZ K h (some z)=K (.ptr h.length 0) (h++[some (.blk (fB z))]):=propext ⟨fun ⟨r,h1,h2⟩=>by injection h1 with h1;subst h1;exact h2,fun q=>⟨z,rfl,q⟩⟩
theorem Zf {K:AV→Hp→Prop}  {z:List AV}:sB K h (some z)=K (.ptr h.length 0) (h++[some (.blk z)]):=propext ⟨fun ⟨r,h1,h2⟩=>by injection h1 with h1;subst h1;exact h2,fun q=>⟨z,rfl,q⟩⟩
variable {n s:Nat}{te:TypeId}
theorem Zg {K:AV→Hp→Prop}     :sS K h n (some (te,s,l))=K (.own h.length n) (h++[some (.arr te s l 0)]):=propext ⟨fun ⟨_,_,_,h1,h2⟩=>by injection h1 with h1;injection h1 with e1 h1;injection h1 with e2 e3;subst e1 e2 e3;exact h2,fun q=>⟨te,s,l,rfl,q⟩⟩
theorem Zh {K:AV→Prop}    :sT K n (some (te,s,l))=K (.t n s l):=propext ⟨fun ⟨_,_,_,h1,h2⟩=>by injection h1 with h1;injection h1 with e1 h1;injection h1 with e2 e3;subst e1 e2 e3;exact h2,fun q=>⟨te,s,l,rfl,q⟩⟩
theorem Tz {K:AV→Prop}    :sT0 K n (some (te,s,l))=K (if n=0 then .e0 else .t n s l):=propext ⟨fun ⟨_,_,_,h1,h2⟩=>by injection h1 with h1;injection h1 with e1 h1;injection h1 with e2 e3;subst e1 e2 e3;exact h2,fun q=>⟨te,s,l,rfl,q⟩⟩
variable {T:TypeId}
theorem Zi {K:AV→Hp→Prop}  {zl zc:Int}:sI P T K h (some zl) (some zc)=sS K h zl.toNat (ug P T zl zc):=propext ⟨fun ⟨_,_,te,s,l,h1,h2,h3,h4⟩=>by injection h1 with h1;injection h2 with h2;subst h1 h2;exact ⟨te,s,l,h3,h4⟩,fun ⟨te,s,l,h3,h4⟩=>⟨_,_,te,s,l,rfl,rfl,h3,h4⟩⟩
variable {x:AV}
theorem TD {K:AV→Prop} {i:Int}:sX1 P h T x K (some i)=sA K (ER P h T x i):=lU (K:=fun i=>sA K (ER P h T x i))
theorem TF {K:AV→Prop} {i:Int}:sX2 P T x K (some i)=sA K (ou P T x i):=lU (K:=fun i=>sA K (ou P T x i))
theorem Zj {K:AV→Prop} :sN K x (some false)=K x:=propext ⟨fun q=>q.2,fun q=>⟨rfl,q⟩⟩
theorem Zk {K:AV→Prop} :sL K (some n)=K (.v (.int .i64 n)):=lU (K:=fun n:Nat=>K (.v (.int .i64 n)))
theorem adW {K:AV→Prop} {y:AV}:sP K (.v (.bool true)) x y=K x:=propext ⟨fun ⟨t,h1,h2⟩=>by cases h1;exact h2,fun q=>⟨true,rfl,q⟩⟩
theorem adX {K:AV→Prop} {y:AV}:sP K (.v (.bool false)) x y=K y:=propext ⟨fun ⟨t,h1,h2⟩=>by cases h1;exact h2,fun q=>⟨false,rfl,q⟩⟩
variable {e:Ev}
theorem adY {a b:Code} {Q:bT}  :sC P N L ks a b Q e h (.v (.bool true))=bD P N L ks a Q e h:=propext ⟨fun ⟨t,h1,h2⟩=>by cases h1;exact h2,fun q=>⟨true,rfl,q⟩⟩
theorem adZ {a b:Code} {Q:bT}  :sC P N L ks a b Q e h (.v (.bool false))=bD P N L ks b Q e h:=propext ⟨fun ⟨t,h1,h2⟩=>by cases h1;exact h2,fun q=>⟨false,rfl,q⟩⟩
variable {all r:List Oper}{d:Option Tmp}{o:Oper}
theorem TJ {K:Ev→Hp→Prop}:sW P p₀ all o r d e h K true (.v (.bool true))=wOp P p₀ o (dh e) h (kO P p₀ all r d e K):=propext ⟨fun ⟨t,h1,h2⟩=>by injection h1 with h1;subst h1;simpa using h2,fun q=>⟨_,rfl,by simpa using q⟩⟩
theorem TK {K:Ev→Hp→Prop}:sW P p₀ all o r d e h K true (.v (.bool false))=gy P p₀ all r (bH e d (.v undef)) h K:=propext ⟨fun ⟨t,h1,h2⟩=>by injection h1 with h1;subst h1;simpa using h2,fun q=>⟨_,rfl,by simpa using q⟩⟩
theorem TL {K:Ev→Hp→Prop}:sW P p₀ all o r d e h K false (.v (.bool true))=gy P p₀ all r (bH e d (.v undef)) h K:=propext ⟨fun ⟨t,h1,h2⟩=>by injection h1 with h1;subst h1;simpa using h2,fun q=>⟨_,rfl,by simpa using q⟩⟩
theorem TQ {K:Ev→Hp→Prop}:sW P p₀ all o r d e h K false (.v (.bool false))=wOp P p₀ o (dh e) h (kO P p₀ all r d e K):=propext ⟨fun ⟨t,h1,h2⟩=>by injection h1 with h1;subst h1;simpa using h2,fun q=>⟨_,rfl,by simpa using q⟩⟩
variable {q:Prop}
theorem Zl {K:Ev→Hp→Prop}  [Decidable q] (hq: ¬ q):sW P p₀ all o r d e h K true (.v (.bool (decide q)))=gy P p₀ all r (bH e d (.v undef)) h K:=by rw [aj hq];exact TK
theorem Zm {K:Ev→Hp→Prop}  [Decidable q] (hq:q):sW P p₀ all o r d e h K true (.v (.bool (decide q)))=wOp P p₀ o (dh e) h (kO P p₀ all r d e K):=by rw [ah hq];exact TJ
theorem Zn {K:Ev→Hp→Prop}  [Decidable q] (hq: ¬ q):sW P p₀ all o r d e h K true (.v (.bool (!decide q)))=wOp P p₀ o (dh e) h (kO P p₀ all r d e K):=by rw [aj hq];exact TJ
theorem Zo {K:Ev→Hp→Prop}  [Decidable q] (hq:q):sW P p₀ all o r d e h K true (.v (.bool (!decide q)))=gy P p₀ all r (bH e d (.v undef)) h K:=by rw [ah hq];exact TK
theorem Zp {K:Ev→Hp→Prop}  [Decidable q] (hq: ¬ q):sW P p₀ all o r d e h K false (.v (.bool (decide q)))=wOp P p₀ o (dh e) h (kO P p₀ all r d e K):=by rw [aj hq];exact TQ
theorem Zq {K:Ev→Hp→Prop}  [Decidable q] (hq:q):sW P p₀ all o r d e h K false (.v (.bool (decide q)))=gy P p₀ all r (bH e d (.v undef)) h K:=by rw [ah hq];exact TL
theorem Zr {K:Ev→Hp→Prop}  [Decidable q] (hq: ¬ q):sW P p₀ all o r d e h K false (.v (.bool (!decide q)))=gy P p₀ all r (bH e d (.v undef)) h K:=by rw [aj hq];exact TL
theorem Zt {K:Ev→Hp→Prop}  [Decidable q] (hq:q):sW P p₀ all o r d e h K false (.v (.bool (!decide q)))=wOp P p₀ o (dh e) h (kO P p₀ all r d e K):=by rw [ah hq];exact TQ
theorem ahn {K:Ev→Hp→Prop} {w:Bool}:sW P p₀ all o r d e h K w (.v undef)=gy P p₀ all r (bH e d (.v undef)) h K:=propext ⟨fun ⟨t,h1,h2⟩=>by injection h1 with h1;subst h1;simpa using h2,fun q=>⟨_,rfl,by simpa using q⟩⟩
variable {K:Ev→List (Tmp × Value)→Prop}{al:List (Tmp × Value)}
theorem aho {w:Bool}:sY P p₀ all h o r d e al K w (.v undef)=dG P p₀ all h r (bH e d (.v undef)) al K:=propext ⟨fun ⟨t,h1,h2⟩=>by injection h1 with h1;subst h1;simpa using h2,fun q=>⟨_,rfl,by simpa using q⟩⟩
theorem TR :sY P p₀ all h o r d e al K true (.v (.bool true))=cOp P p₀ o (dh e) h (kH P p₀ all h r d e al K):=propext ⟨fun ⟨t,h1,h2⟩=>by injection h1 with h1;subst h1;simpa using h2,fun q=>⟨_,rfl,by simpa using q⟩⟩
theorem TS :sY P p₀ all h o r d e al K true (.v (.bool false))=dG P p₀ all h r (bH e d (.v undef)) al K:=propext ⟨fun ⟨t,h1,h2⟩=>by injection h1 with h1;subst h1;simpa using h2,fun q=>⟨_,rfl,by simpa using q⟩⟩
theorem TU :sY P p₀ all h o r d e al K false (.v (.bool true))=dG P p₀ all h r (bH e d (.v undef)) al K:=propext ⟨fun ⟨t,h1,h2⟩=>by injection h1 with h1;subst h1;simpa using h2,fun q=>⟨_,rfl,by simpa using q⟩⟩
theorem TV :sY P p₀ all h o r d e al K false (.v (.bool false))=cOp P p₀ o (dh e) h (kH P p₀ all h r d e al K):=propext ⟨fun ⟨t,h1,h2⟩=>by injection h1 with h1;subst h1;simpa using h2,fun q=>⟨_,rfl,by simpa using q⟩⟩
theorem Zu [Decidable q] (hq: ¬ q):sY P p₀ all h o r d e al K true (.v (.bool (decide q)))=dG P p₀ all h r (bH e d (.v undef)) al K:=by rw [aj hq];exact TS
theorem Zv [Decidable q] (hq:q):sY P p₀ all h o r d e al K true (.v (.bool (decide q)))=cOp P p₀ o (dh e) h (kH P p₀ all h r d e al K):=by rw [ah hq];exact TR
theorem Zw [Decidable q] (hq: ¬ q):sY P p₀ all h o r d e al K true (.v (.bool (!decide q)))=cOp P p₀ o (dh e) h (kH P p₀ all h r d e al K):=by rw [aj hq];exact TR
theorem Zx [Decidable q] (hq:q):sY P p₀ all h o r d e al K true (.v (.bool (!decide q)))=dG P p₀ all h r (bH e d (.v undef)) al K:=by rw [ah hq];exact TS
theorem Zy [Decidable q] (hq: ¬ q):sY P p₀ all h o r d e al K false (.v (.bool (decide q)))=cOp P p₀ o (dh e) h (kH P p₀ all h r d e al K):=by rw [aj hq];exact TV
theorem Zz [Decidable q] (hq:q):sY P p₀ all h o r d e al K false (.v (.bool (decide q)))=dG P p₀ all h r (bH e d (.v undef)) al K:=by rw [ah hq];exact TU
theorem ZA [Decidable q] (hq: ¬ q):sY P p₀ all h o r d e al K false (.v (.bool (!decide q)))=dG P p₀ all h r (bH e d (.v undef)) al K:=by rw [aj hq];exact TU
theorem ZB [Decidable q] (hq:q):sY P p₀ all h o r d e al K false (.v (.bool (!decide q)))=cOp P p₀ o (dh e) h (kH P p₀ all h r d e al K):=by rw [ah hq];exact TV
theorem ad1 {K:AV→Prop} {y:AV}  [Decidable q] (hq: ¬ q):sP K (.v (.bool (decide q))) x y=K y:=by rw [aj hq];exact adX
theorem ad2 {K:AV→Prop} {y:AV}  [Decidable q] (hq:q):sP K (.v (.bool (decide q))) x y=K x:=by rw [ah hq];exact adW
theorem ad3 {K:AV→Prop} {y:AV}  [Decidable q] (hq: ¬ q):sP K (.v (.bool (!decide q))) x y=K x:=by rw [aj hq];exact adW
theorem ad4 {K:AV→Prop} {y:AV}  [Decidable q] (hq:q):sP K (.v (.bool (!decide q))) x y=K y:=by rw [ah hq];exact adX
variable {Q:AV→Hp→Prop}
theorem ZC {r:AV}:sF Q h (some r)=sE Q (dL h r):=lU (K:=fun r=>sE Q (dL h r))
variable {p:AV→Hp→Prop}{rs:Array ResultVar}
theorem acv :CW P rs Q p .normal e h=sF Q h (sJ P h e rs):=propext ⟨fun ⟨r,r',h',h1,h2,h3⟩=>⟨r,h1,r',h',h2,h3⟩,fun ⟨r,h1,r',h',h2,h3⟩=>⟨r,r',h',h1,h2,h3⟩⟩
theorem ahp :CW P rs Q p .ret e h=sF Q h (sJ P h e rs):=acv (p:=p)
variable {a:AV}
theorem ahq :CW P rs Q p (.panic a) e h=sE p (dL h a):=propext ⟨fun ⟨r',h',h2,h3⟩=>⟨r',h',h2,h3⟩,fun ⟨r',h',h2,h3⟩=>⟨r',h',h2,h3⟩⟩
theorem fin0 :Fin P rs Q .normal e h=sF Q h (sJ P h e rs):=propext ⟨fun ⟨r,r',h',h1,h2,h3⟩=>⟨r,h1,r',h',h2,h3⟩,fun ⟨r,h1,r',h',h2,h3⟩=>⟨r,r',h',h1,h2,h3⟩⟩
theorem fin1 :Fin P rs Q .ret e h=sF Q h (sJ P h e rs):=fin0
def ZE:Option (List AV)→Option AV
 | some [a]=>some a
 | some l=>some (.tup l)
 | none=>none
theorem ZF {rs:List ResultVar}  :sJ P h e rs.toArray=ZE (nG P h e rs):=by
 show (match nG P h e rs with | some [a]=>some a | some l=>some (.tup l) | none=>none)=_;cases nG P h e rs with
 | none=>rfl
 | some l=>match l with
  | []=>rfl
  | [_]=>rfl
  | _::_::_=>rfl
theorem ahr :ZE (some [a])=some a:=Eq.trans rfl rfl
theorem ahs:ZE (some [])=some (.tup []):=Eq.trans rfl rfl
theorem aht {b:AV} :ZE (some (a::b::l))=some (.tup (a::b::l)):=Eq.trans rfl rfl
theorem TW :nG P h e []=some []:=Eq.trans rfl rfl
theorem TY {t:Tmp} {r:List ResultVar}:nG P h e (.tmp t::r)=(nG P h e r).map (fun l=>aP e t::l):=Eq.trans rfl rfl
def ad5:Option AV→Option (List AV)→Option (List AV)
 | some a,some l=>some (a::l)
 | _,_=>none
theorem PE :ad5 (some a) (some l)=some (a::l):=Eq.trans rfl rfl
theorem ahu {a b:Code} {Q:bT}    [Decidable q] (hq:q):sC P N L ks a b Q e h (.v (.bool (decide q)))=bD P N L ks a Q e h:=by rw [ah hq];exact adY
theorem akn {a b:Code} {Q:bT}    [Decidable q] (hq: ¬ q):sC P N L ks a b Q e h (.v (.bool (decide q)))=bD P N L ks b Q e h:=by rw [aj hq];exact adZ
theorem ahv {a b:Code} {Q:bT}    [Decidable q] (hq:q):sC P N L ks a b Q e h (.v (.bool (!decide q)))=bD P N L ks b Q e h:=by rw [ah hq];exact adZ
theorem ako {a b:Code} {Q:bT}    [Decidable q] (hq: ¬ q):sC P N L ks a b Q e h (.v (.bool (!decide q)))=bD P N L ks a Q e h:=by rw [aj hq];exact adY
theorem PG {d:Tmp}:Kw e (some d)=aP e d:=Eq.trans rfl rfl
theorem Ua {d:Tmp} :bH e (some d) a=(d,a)::e:=Eq.trans rfl rfl
theorem Ub :bH e none a=e:=Eq.trans rfl rfl
theorem get_nil {d:Tmp}:aP [] d= .none:=Eq.trans rfl rfl
theorem Uc {k d:Tmp}  {r:Ev}:aP ((k,a)::r) d=if k=d then a else aP r d:=Eq.trans rfl rfl
theorem ad6 {d:Tmp}:dh e (.tmp d)=aP e d:=Eq.trans rfl rfl
theorem Ud :dh e (.const v)= .v v:=Eq.trans rfl rfl
theorem ZG {f:FuncId}:dh e (.func f)= .fn (.func f) [] []:=Eq.trans rfl rfl
theorem PI {g:Nat}:dh e (.global g)= .v (.pointer (some ⟨g,0,none⟩)):=Eq.trans rfl rfl
theorem Ue :kT [] e=[]:=Eq.trans rfl rfl
theorem PK {d:Nat} {L:List Nat}:kT (d::L) e=(d,aP e d)::kT L e:=Eq.trans rfl rfl
theorem Uf {i k d:Nat} {r:List (Nat × Nat)}:kOf ((i,k)::r) d=if i=d then k else kOf r d:=Eq.trans rfl rfl
theorem ZH {d:Nat}:kOf [] d=0:=Eq.trans rfl rfl
theorem Ug {α:Type} {l:List α}:l.toArray.toList=l:=Eq.trans rfl rfl
theorem ZI {k:Nat}:pU k []=[]:=Eq.trans rfl rfl
theorem Uh {k:Nat}  {r:List AV}:pU k (a::r)=(k,a)::pU (k+1) r:=Eq.trans rfl rfl
theorem ad7 :dM n [] e=e:=Eq.trans rfl rfl
theorem ZJ {d:Tmp} {z:Value} {r:List (Tmp × Value)}:dM n ((d,z)::r) e=(d, .ptr n 0)::dM (n+1) r e:=Eq.trans rfl rfl
theorem Ui {d:Tmp} {z:Value}:lT (d,z)=some (.blk (fB z)):=Eq.trans rfl rfl
variable {k:IntKind}{z:Int}
theorem ZK :pF (.v (.int k z))=some z:=Eq.trans rfl rfl
variable {k':IntKind}{op:BinOp}{y:Int}
theorem ZL {x:Int}:pK P h op T (.v (.int k x)) (.v (.int k' y))=jD op (.int k x) (.int k' y):=Eq.trans rfl rfl
theorem ZM {x y:ByteArray}:pK P h op T (.v (.string x)) (.v (.string y))=jD op (.string x) (.string y):=Eq.trans rfl rfl
variable {b:Bool}
theorem ad8 :oq .eql b=some (.bool b):=Eq.trans rfl rfl
theorem ad9 :oq .neq b=some (.bool (!b)):=Eq.trans rfl rfl
theorem ahw {x:Int}:jD .add (.int k x) (.int k y)=some (.int k (k.wrap (x+y))):=if_pos rfl
theorem ahx {x:Int}:jD .sub (.int k x) (.int k y)=some (.int k (k.wrap (x - y))):=if_pos rfl
theorem ahy {x:Int}:jD .mul (.int k x) (.int k y)=some (.int k (k.wrap (x*y))):=if_pos rfl
theorem ahz {x:Int} (hy:y≠0):jD .quo (.int k x) (.int k y)=some (.int k (k.wrap (x.tdiv y))):=if_pos ⟨rfl,hy⟩
theorem ahA {x:Int} (hy:y≠0):jD .rem (.int k x) (.int k y)=some (.int k (x.tmod y)):=if_pos ⟨rfl,hy⟩
theorem ahB {x:Int} (hy:0≤y):jD .shl (.int k x) (.int k' y)=some (.int k (k.wrap (x*2 ^ (min y.toNat k.bits)))):=if_pos hy
theorem ahC {x:Int} (hy:0≤y):jD .shr (.int k x) (.int k' y)=some (.int k (x.fdiv (2 ^ (min y.toNat k.bits)))):=if_pos hy
theorem ahD {x:Int}:jD .and (.int k x) (.int k y)=some (.int k (k.wrap (BitVec.ofInt k.bits x &&& BitVec.ofInt k.bits y).toNat)):=if_pos rfl
theorem akp {x:Int}:jD .or (.int k x) (.int k y)=some (.int k (k.wrap (BitVec.ofInt k.bits x ||| BitVec.ofInt k.bits y).toNat)):=if_pos rfl
theorem ahE {x:Int}:jD .xor (.int k x) (.int k y)=some (.int k (k.wrap (BitVec.ofInt k.bits x ^^^ BitVec.ofInt k.bits y).toNat)):=if_pos rfl
theorem ahF {x:Int}:jD .eql (.int k x) (.int k y)=some (.bool (decide (x=y))):=if_pos rfl
theorem ahG {x:Int}:jD .neq (.int k x) (.int k y)=some (.bool (!decide (x=y))):=if_pos rfl
theorem ahH {x:Int}:jD .lss (.int k x) (.int k y)=some (.bool (decide (x<y))):=if_pos rfl
theorem ahI {x:Int}:jD .leq (.int k x) (.int k y)=some (.bool (decide (x≤y))):=if_pos rfl
theorem ahJ {x:Int}:jD .gtr (.int k x) (.int k y)=some (.bool (decide (y<x))):=if_pos rfl
theorem ahK {x:Int}:jD .geq (.int k x) (.int k y)=some (.bool (decide (y≤x))):=if_pos rfl
theorem ahL {x y:ByteArray} (hs:x.size+y.size≤9223372036854775807):jD .add (.string x) (.string y)=some (.string (x++y)):=if_pos hs
theorem ahM {x y:ByteArray}:jD .eql (.string x) (.string y)=some (.bool (decide (x=y))):=Eq.trans rfl rfl
theorem ahN {x y:ByteArray}:jD .neq (.string x) (.string y)=some (.bool (!decide (x=y))):=Eq.trans rfl rfl
theorem ahO :unA .not (.v (.bool b))=some (.bool (!b)):=Eq.trans rfl rfl
theorem ahP :unA .neg (.v (.int k z))=some (.int k (k.wrap (0 - z))):=Eq.trans rfl rfl
theorem aea {i:Nat}:DC (.tup l) i=l[i]? :=Eq.trans rfl rfl
theorem aeb {x:Int}:mmA true [.v (.int k x), .v (.int k' y)]=some (.v (.int k (if y>x then y else x))):=Eq.trans rfl rfl
theorem aec {x:Int}:mmA false [.v (.int k x), .v (.int k' y)]=some (.v (.int k (if y<x then y else x))):=Eq.trans rfl rfl
theorem w64 {x:Int} (h1: -9223372036854775808≤x) (h2:x≤9223372036854775807):IntKind.i64.wrap x=x:=by rw [IntKind.wrap_i64];omega
theorem akq {x:Int} (h1:0≤x) (h2:x≤4294967295):IntKind.u32.wrap x=x:=by rw [IntKind.wrap_u32];omega
theorem wu64 {x:Int} (h1:0≤x) (h2:x≤18446744073709551615):IntKind.u64.wrap x=x:=by rw [IntKind.wrap_u64];omega
theorem wu8 {x:Int} (h1:0≤x) (h2:x≤255):IntKind.u8.wrap x=x:=by rw [IntKind.wrap_u8];omega
theorem Uj:IntKind.u32.bits=32:=Eq.trans rfl rfl
theorem Uk:IntKind.u64.bits=64:=Eq.trans rfl rfl
theorem Ul:IntKind.i64.bits=64:=Eq.trans rfl rfl
theorem ZN:IntKind.u8.bits=8:=Eq.trans rfl rfl
def tab (n:Nat) (f:Nat→AV):List AV:=(List.range n).map f
theorem eU {f:Nat→AV}:(tab n f).length=n:=by simp [tab]
theorem iY {k:Nat} {f:Nat→AV} (hk:k<n):(tab n f)[k]? =some (f k):=by simp [tab,hk]
theorem dF {k:Nat} {f:Nat→AV} :(tab n f).set k x=tab n (fun i=>if i=k then x else f i):=by
 apply List.ext_getElem?;intro i;by_cases hi:i<n
 ·rw [iY hi,List.getElem?_set];by_cases e:k=i
  ·subst e;simp [eU,hi]
  ·simp [e,iY hi,show i≠k from fun e'=>e e'.symm]
 ·simp [tab,hi]
theorem Um {f:Nat→Int}:intsOf (tab n fun i=> .v (.int .u8 (f i)))=some ((List.range n).map f):=by
 unfold tab;generalize List.range n=l;induction l with
 | nil=>rfl
 | cons a r ih=>
  simp only [List.map_cons];show (intsOf (r.map _)).map _=_;rw [ih];rfl
theorem aC {f f':Nat→AV} (h: ∀ i,i<n→f i=f' i):tab n f=tab n f':=by
 apply List.ext_getElem?;intro i;by_cases hi:i<n
 ·rw [iY hi,iY hi,h i hi]
 ·simp [tab,hi]
theorem ld :pq P h T a=(behind h a).bind (takeA P T):=Eq.trans rfl rfl
def aed (off:Nat):Option (Option Ob)→Option (List AV)
 | some (some (.blk cells))=>some (cells.drop off)
 | _=>none
variable {id off:Nat}
theorem aee :behind h (.ptr id off)=aed off h[id]? :=by
 show (match h[id]? with | some (some (.blk cells))=>some (cells.drop off) | _=>none)=_;unfold aed;rfl
theorem PN :aed off (some (some (.blk l)))=some (l.drop off):=Eq.trans rfl rfl
def ZO (n off:Nat):Option (Option Ob)→Option (List AV)
 | some (some (.arr _ s cells _))=>if cells.length=n*s then some (cells.drop off) else none
 | _=>none
theorem ahQ :behind h (.ap id n off)=ZO n off h[id]? :=by
 show (match h[id]? with | some (some (.arr _ s cells _))=>if cells.length=n*s then some (cells.drop off) else none | _=>none)=_;unfold ZO;rfl
variable {fz:Nat}
theorem ahR (hl:l.length=n):ZO n off (some (some (.arr T 1 l fz)))=some (l.drop off):=if_pos (by omega)
theorem PO (hl:l.length=n*s):ZO n off (some (some (.arr T s l fz)))=some (l.drop off):=if_pos hl
theorem ahS :behind h (.tp l)=some l:=Eq.trans rfl rfl
def Un (n:Nat):Option (Option Ob)→Bool
 | some (some (.arr _ s cells _))=>decide (cells.length=n*s)
 | _=>false
def aef:Option (Option Ob)→Bool
 | some (some (.blk _))=>true
 | _=>false
theorem Uo :bG h (.own id n)=Un n h[id]? :=by
 show (match h[id]? with | some (some (.arr _ s cells _))=>decide (cells.length=n*s) | _=>false)=_;unfold Un;rfl
theorem acw :bG h (.ap id n off)=Un n h[id]? :=by
 show (match h[id]? with | some (some (.arr _ s cells _))=>decide (cells.length=n*s) | _=>false)=_;unfold Un;rfl
theorem Ur :bG h (.ptr id off)=aef h[id]? :=by
 show (match h[id]? with | some (some (.blk _))=>true | _=>false)=_;unfold aef;rfl
theorem DV :Un n (some (some (.arr T s l fz)))=decide (l.length=n*s):=Eq.trans rfl rfl
theorem DW :aef (some (some (.blk l)))=true:=Eq.trans rfl rfl
theorem aeg :cellsA h (.v (.int k z))=some [.v (.int k z)]:=Eq.trans rfl rfl
theorem ZP :cellsA h (.v (.bool b))=some [.v (.bool b)]:=Eq.trans rfl rfl
theorem aeh {b:ByteArray}:cellsA h (.v (.string b))=some [.v (.string b)]:=Eq.trans rfl rfl
theorem ZQ :cellsA h (.v (.slice none 0 0))=some [.v (.slice none 0 0)]:=Eq.trans rfl rfl
theorem ZR {q:Option Addr}:cellsA h (.v (.pointer q))=some [.v (.pointer q)]:=Eq.trans rfl rfl
theorem akr :cellsA h (.t n s l)=some [.t n s l]:=Eq.trans rfl rfl
theorem aks :cellsA h (.g l)=some l:=Eq.trans rfl rfl
theorem ahT :cellsA h (.tp l)=some [.tp l]:=Eq.trans rfl rfl
variable {l2:List AV}
theorem ahU {f:Fn} {l1:List AV}:cellsA h (.fn f l1 l2)=some [.fn f l1 l2]:=Eq.trans rfl rfl
theorem aei (h0:bG h (.own id n)=true):cellsA h (.own id n)=some [.own id n]:=if_pos h0
theorem aej (h0:bG h (.ptr id n)=true):cellsA h (.ptr id n)=some [.ptr id n]:=if_pos h0
theorem akt :jO h (.v v)=v.oneCell':=Eq.trans rfl rfl
theorem aek :Value.oneCell' (.int k z)=true:=Eq.trans rfl rfl
theorem ZT :Value.oneCell' (.bool b)=true:=Eq.trans rfl rfl
theorem ael {b:ByteArray}:Value.oneCell' (.string b)=true:=Eq.trans rfl rfl
theorem Us {q:Option Addr} {c:Nat}:Value.oneCell' (.slice q n c)=true:=Eq.trans rfl rfl
theorem aem {q:Option Addr}:Value.oneCell' (.pointer q)=true:=Eq.trans rfl rfl
theorem aku :jO h (.t n s l)=true:=Eq.trans rfl rfl
theorem ahV :jO h (.tp l)=true:=Eq.trans rfl rfl
theorem ahW {f:Fn} {l1:List AV}:jO h (.fn f l1 l2)=true:=Eq.trans rfl rfl
theorem aen :jO h (.own id n)=bG h (.own id n):=Eq.trans rfl rfl
theorem aeo :jO h (.ptr id n)=bG h (.ptr id n):=Eq.trans rfl rfl
def stB (h:Hp) (a:AV) (l:List AV):Option Nat→Bool→Option Hp
 | some n,true=>if n=l.length then match a with
   | .ptr id off=>match h[id]? with
    | some (some (.blk cells))=>if off+l.length≤cells.length then some (h.set id (some (.blk (dK cells off l)))) else none
    | _=>none
   | .ap id n off=>match h[id]? with
    | some (some (.arr T s cells fz))=>if cells.length=n*s∧fz≤off∧off+l.length≤cells.length then some (h.set id (some (.arr T s (dK cells off l) fz))) else none
    | _=>none
   | _=>none
  else none
 | _,_=>none
def stA (P:Program) (h:Hp) (T:TypeId) (a:AV):Option (List AV)→Option Hp
 | some l=>stB h a l (szP P T) (l.all (jO h))
 | none=>none
theorem st :rX P h T a x=stA P h T a (cellsA h x):=by
 unfold rX stA;cases cellsA h x with
 | none=>rfl
 | some l=>
  simp only [Option.bind_some];unfold stB;cases szP P T with
  | none=>rw [if_neg (by simp)]
  | some n=>
   cases hl:l.all (jO h) with
   | false=>rw [if_neg (by simp)]
   | true=>
    by_cases e:n=l.length
    ·subst e;rw [if_pos ⟨rfl,rfl⟩];simp only [if_true];rfl
    ·rw [if_neg (fun q=>e (by injection q.1))];simp only [e,if_false]
def stP (h:Hp) (id off:Nat) (l:List AV):Option (Option Ob)→Option Hp
 | some (some (.blk cells))=>if off+l.length≤cells.length then some (h.set id (some (.blk (dK cells off l)))) else none
 | _=>none
def stQ (h:Hp) (id n off:Nat) (l:List AV):Option (Option Ob)→Option Hp
 | some (some (.arr T s cells fz))=>if cells.length=n*s∧fz≤off∧off+l.length≤cells.length then some (h.set id (some (.arr T s (dK cells off l) fz))) else none
 | _=>none
theorem aep (hn:n=l.length):stB h (.ptr id off) l (some n) true=stP h id off l h[id]? :=by
 show (if n=l.length then _ else _)=_;rw [if_pos hn];unfold stP;rfl
variable {m:Nat}
theorem ahX (hn:n=l.length):stB h (.ap id m off) l (some n) true=stQ h id m off l h[id]? :=by
 show (if n=l.length then _ else _)=_;rw [if_pos hn];unfold stQ;rfl
theorem Ut {cells:List AV} (hl:off+l.length≤cells.length):stP h id off l (some (some (.blk cells)))=some (h.set id (some (.blk (dK cells off l)))):=if_pos hl
theorem ZU {cells:List AV} (h1:cells.length=n) (h2:fz≤off) (h3:off<n):stQ h id n off [x] (some (some (.arr T 1 cells fz)))=some (h.set id (some (.arr T 1 (cells.set off x) fz))):=if_pos ⟨by omega,h2,by simp;omega⟩
theorem Uu {cells:List AV} (h1:cells.length=n*s) (h2:fz≤off) (h3:off+l.length≤cells.length):stQ h id n off l (some (some (.arr T s cells fz)))=some (h.set id (some (.arr T s (dK cells off l) fz))):=if_pos ⟨h1,h2,h3⟩
theorem PS {o:Nat}:dK l o []=l:=Eq.trans rfl rfl
theorem KC {r:List AV} {o:Nat} :dK l o (a::r)=dK (l.set o a) (o+1) r:=Eq.trans rfl rfl
def sDz (P:Program) (all:List Oper) (h:Hp) (r:List Oper) (d:Tmp) (e:Ev) (al:List (Tmp × Value)) (K:Ev→List (Tmp × Value)→Prop):Option Value→Prop
 | some z=>dG P p₀ all h r ((d, .none)::e) (al++[(d,z)]) K
 | none=>False
theorem akv {d:Tmp}    :sD P p₀ all h r (some d) e al K T=sDz (p₀:=p₀) P all h r d e al K (au P T):=by
 cases hz:au P T with
 | none=>exact propext ⟨fun ⟨T',z',d',h1,h2,h3,h4⟩=>by injection h1 with h1;subst h1;rw [hz] at h3;(cases h3),fun q=>q.elim⟩
 | some z=>exact propext ⟨fun ⟨T',z',d',h1,h2,h3,h4⟩=>by injection h1 with h1;subst h1;injection h2 with h2;subst h2;rw [hz] at h3;injection h3 with h3;subst h3;exact h4,fun q=>⟨T,z,d,rfl,rfl,hz,q⟩⟩
theorem Uw {d:Tmp}    {z:Value}:sDz (p₀:=p₀) P all h r d e al K (some z)=dG P p₀ all h r ((d, .none)::e) (al++[(d,z)]) K:=Eq.trans rfl rfl
def rsB (a:Option AV) (l:Option (List AV)):Option Nat→Option (List AV)
 | some 0=>none
 | _=>ad5 a l
theorem PU {t:Tmp}  {r:List ResultVar}:nG P h e (.cell t T::r)=rsB (pq P h T (aP e t)) (nG P h e r) (szP P T):=by
 simp only [nG];cases hs:szP P T with
 | none=>simp only [reduceCtorEq,if_false];cases pq P h T (aP e t)<;>cases nG P h e r<;>rfl
 | some n=>cases n with
  | zero=>rfl
  | succ n=>rw [if_neg (by simp)];cases pq P h T (aP e t)<;>cases nG P h e r<;>rfl
theorem Ux {a:Option AV} {l:Option (List AV)}  (hn:n≠0):rsB a l (some n)=ad5 a l:=by
 cases n with
 | zero=>exact absurd rfl hn
 | succ n=>rfl
def bB (op:BinOp) (x y:Bool):Bool→Option Value
 | true=>oq op (x==y)
 | false=>none
theorem Uy {x y:Bool}:pK P h op T (.v (.bool x)) (.v (.bool y))=bB op x y (qF P T):=by
 show (if qF P T then _ else _)=_;cases qF P T<;>rfl
theorem ZV {x y:Bool}:bB op x y true=oq op (x==y):=Eq.trans rfl rfl
def bN (op:BinOp) (b:Option Bool):Bool→Option Value
 | true=>b.bind (oq op)
 | false=>none
def nP:Bool→Option Bool
 | true=>some false
 | false=>none
theorem aer :lC h (.ptr id off)=nP (bG h (.ptr id off)):=by
 show (if bG h (.ptr id off)=true then some false else none)=_;cases bG h (.ptr id off)<;>rfl
theorem ahY :lC h (.ap id n off)=nP (bG h (.ap id n off)):=by
 show (if bG h (.ap id n off)=true then some false else none)=_;cases bG h (.ap id n off)<;>rfl
theorem ahZ :lC h (.tp l)=some false:=Eq.trans rfl rfl
theorem akw {p:Option Addr}:lC h (.v (.pointer p))=some p.isNone:=Eq.trans rfl rfl
theorem ZW:nP true=some false:=Eq.trans rfl rfl
theorem aes :pK P h op T x (.t 1 1 [])=some (.int .i64 0):=Eq.trans rfl rfl
theorem Uz :pK P h op T x (.v (.pointer none))=bN op (lC h x) (iO P T):=by
 show (if iO P T then _ else _)=_;cases iO P T<;>rfl
theorem UA :pK P h op T x (.v (.slice none 0 0))=bN op (zG h x) ((aG P T).isSome):=by
 show (if (aG P T).isSome then _ else _)=_;cases (aG P T).isSome<;>rfl
theorem ah0 {m:List AV}:pK P h op T x (.g m)=eqG P op T (cellsOf x) (some m):=Eq.trans rfl rfl
theorem ZX {cs:Array Value}:pK P h op T x (.v (.agg cs))=eqG P op T (cellsOf x) (some (cs.toList.map .v)):=Eq.trans rfl rfl
def eqH (op:BinOp) (l m:Option (List AV)):Option (List FK)→Option Value
 | some ks=>match l,m with
  | some l,some m=>(eqL ks l m).bind (oq op)
  | _,_=>none
 | none=>none
theorem ah1 {l m:Option (List AV)}:eqG P op T l m=eqH op l m (kQ P T):=by
 unfold eqG;cases kQ P T<;>cases l<;>cases m<;>rfl
theorem UC {m:List AV} {ks:List FK}:eqH op (some l) (some m) (some ks)=(eqL ks l m).bind (oq op):=Eq.trans rfl rfl
theorem ZY:eqL [] [] []=some true:=Eq.trans rfl rfl
theorem UD {k:FK} {ks:List FK} {b:AV} {m:List AV}:eqL (k::ks) (a::l) (b::m)=ac4 (eqC k a b) (eqL ks l m):=Eq.trans rfl rfl
theorem ah2 {a b:Int}:eqC .i (.v (.int k a)) (.v (.int k b))=some (decide (a=b)):=if_pos rfl
theorem ah3 {a:Bool}:eqC .b (.v (.bool a)) (.v (.bool b))=some (a==b):=Eq.trans rfl rfl
theorem ah4 {a b:ByteArray}:eqC .s (.v (.string a)) (.v (.string b))=some (decide (a=b)):=Eq.trans rfl rfl
theorem PV {p q:Bool}:ac4 (some p) (some q)=some (p && q):=Eq.trans rfl rfl
theorem Z4 :bN op (some b) true=oq op b:=Eq.trans rfl rfl
def cvB (z:Int):Option IntKind→Bool→Option Value
 | some k,true=>some (.int k (k.wrap z))
 | _,_=>none
variable {u:TypeId}
theorem UE {s:TypeId}  :gX P h s u (.v (.int k z))=cvB z (lu P u) (P.underlying s).isSome:=by
 show (if (P.underlying s).isSome then _ else _)=_;cases (P.underlying s).isSome<;>cases lu P u<;>rfl
def cvS (b:ByteArray):Bool→Bool→Option Value
 | true,true=>some (.string b)
 | _,_=>none
theorem UF {s:TypeId} {b:ByteArray}:gX P h s u (.v (.string b))=cvS b (cu P s) (cu P u):=by
 show (if _∧_ then _ else _)=_;cases cu P s<;>cases cu P u<;>simp [cvS]
theorem UG {b:ByteArray}:cvS b true true=some (.string b):=Eq.trans rfl rfl
def stD:Option IntKind→Bool→Option (List Int)→Option Value
 | some .u8,true,some ns=>some (.string (strOf ns))
 | _,_,_=>none
theorem Z5 {s:TypeId} {cells:List AV}:EU P s u 1 cells=stD ((aG P s).bind (lu P)) (cu P u) (intsOf cells):=by
 unfold EU;cases h1:(aG P s).bind (lu P) with
 | none=>rfl
 | some k=>cases k<;>cases cu P u<;>cases intsOf cells<;>rfl
theorem UH {ns:List Int}:stD (some .u8) true (some ns)=some (.string (strOf ns)):=Eq.trans rfl rfl
variable {sz:Nat}
theorem aeu {s:TypeId}  {cells:List AV} (hl:cells.length=n*sz):gX P h s u (.t n sz cells)=EU P s u sz cells:=if_pos hl
def cvO (P:Program) (s u:TypeId) (n:Nat):Option (Option Ob)→Option Value
 | some (some (.arr _ sz cells _))=>if cells.length=n*sz then EU P s u sz cells else none
 | _=>none
theorem UJ {s:TypeId} :gX P h s u (.own id n)=cvO P s u n h[id]? :=by
 unfold gX cvO;rfl
theorem Z7 {s:TypeId}   {cells:List AV} (hl:cells.length=n):cvO P s u n (some (some (.arr T 1 cells fz)))=EU P s u 1 cells:=if_pos (by omega)
theorem UK:intsOf []=some []:=Eq.trans rfl rfl
theorem UL :cvB z (some k) true=some (.int k (k.wrap z)):=Eq.trans rfl rfl
def tkB (l:List AV):Option Bool→Option Nat→Option AV
 | some false,some _=>l[0]?
 | some true,some s=>if s≤l.length then some (.g (l.take s)) else none
 | _,_=>none
theorem tk :takeA P T l=tkB l (aK P T) (szP P T):=by
 unfold takeA tkB;cases aK P T with
 | none=>rfl
 | some b=>cases b<;>cases szP P T<;>rfl
theorem Z8 :tkB l (some false) (some s)=l[0]? :=Eq.trans rfl rfl
theorem Z9 (h:s≤l.length):tkB l (some true) (some s)=some (.g (l.take s)):=if_pos h
def ixD (id n:Nat) (z:Int) (s:Nat):Bool→Option AV
 | true=>if 0≤z∧z<n then some (.ap id n (z.toNat*s)) else none
 | false=>none
def ixC (h:Hp) (a:AV) (z:Int):Option Nat→Option AV
 | some s=>match a with
  | .t n s' cells=>if s'=s∧0≤z∧z<n then some (.tp (cells.drop (z.toNat*s))) else none
  | .own id n=>ixD id n z s (bG h (.own id n))
  | _=>none
 | none=>none
def ixE (h:Hp) (a:AV) (z:Int) (n:Nat):Option Nat→Option AV
 | some s=>if 0≤z∧z<n then mG h a (z.toNat*s) else none
 | none=>none
def ixB (P:Program) (h:Hp) (a:AV) (z:Int):Option TypeId→Option (Nat × TypeId)→Option AV
 | some e,_=>ixC h a z (szP P e)
 | none,some (n,e)=>ixE h a z n (szP P e)
 | none,none=>none
theorem ix :ER P h T a z=ixB P h a z (aG P T) (aS P T):=by
 unfold ER ixB;cases aG P T with
 | some e=>
  cases hs:szP P e with
  | none=>simp only [hs];rfl
  | some s=>
   simp only [hs,Option.bind_some];unfold ixC;cases a<;>first | rfl | skip
   ·next id n=>
    unfold ixD;cases hl:bG h (.own id n) with
    | true=>simp [hl]
    | false=>simp [hl]
 | none=>
  cases aS P T with
  | none=>rfl
  | some p=>obtain ⟨n,e⟩:=p;simp only;cases szP P e<;>rfl
theorem ah5 {e:TypeId} {o:Option (Nat × TypeId)}:ixB P h a z (some e) o=ixC h a z (szP P e):=Eq.trans rfl rfl
theorem ah6 {e:TypeId} :ixB P h a z none (some (n,e))=ixE h a z n (szP P e):=Eq.trans rfl rfl
theorem ah7 (h3:0≤z) (h4:z<n):ixC h (.t n s l) z (some s)=some (.tp (l.drop (z.toNat*s))):=if_pos ⟨rfl,h3,h4⟩
theorem aac :ixC h (.own id n) z (some s)=ixD id n z s (bG h (.own id n)):=Eq.trans rfl rfl
theorem UM (h3:0≤z) (h4:z<n):ixD id n z s true=some (.ap id n (z.toNat*s)):=if_pos ⟨h3,h4⟩
theorem UN (h3:0≤z) (h4:z<n):ixE h a z n (some s)=mG h a (z.toNat*s):=if_pos ⟨h3,h4⟩
def shB (a:AV) (o:Nat):Bool→Option AV
 | true=>match a with
  | .ptr id off=>some (.ptr id (off+o))
  | .ap id n off=>some (.ap id n (off+o))
  | .tp cells=>some (.tp (cells.drop o))
  | _=>none
 | false=>none
theorem sh {o:Nat}:mG h a o=shB a o (bG h a):=by
 unfold mG shB;cases bG h a<;>rfl
theorem aev {o:Nat}:shB (.ptr id off) o true=some (.ptr id (off+o)):=Eq.trans rfl rfl
theorem ah8 {o:Nat}:shB (.ap id n off) o true=some (.ap id n (off+o)):=Eq.trans rfl rfl
theorem ah9 {o:Nat}:shB (.tp l) o true=some (.tp (l.drop o)):=Eq.trans rfl rfl
theorem acy :bG h (.tp l)=true:=Eq.trans rfl rfl
def lenD (n:Nat):Bool→Option Nat
 | true=>some n
 | false=>none
def PW (h:Hp) (x:AV):Option TypeId→Bool→Option Nat
 | o,b=>match x with
  | .v (.string s)=>if b then some s.size else none
  | .t n _ _=>o.map fun _=>n
  | .own id n=>if bG h (.own id n) then o.map fun _=>n else none
  | .v (.slice _ n _)=>o.map fun _=>n
  | _=>none
def mQ (P:Program) (h:Hp) (T:TypeId) (x:AV):Option (Nat × TypeId)→Option Nat
 | some (n,_)=>some n
 | none=>PW h x (aG P T) (cu P T)
theorem len :CS P h T x=mQ P h T x (aS P T):=by
 unfold CS mQ;cases aS P T<;>rfl
theorem aad {e:TypeId}  :mQ P h T x (some (n,e))=some n:=Eq.trans rfl rfl
theorem aew :mQ P h T x none=PW h x (aG P T) (cu P T):=Eq.trans rfl rfl
theorem aia {e:TypeId}   :PW h (.t n s l) (some e) b=some n:=Eq.trans rfl rfl
theorem len_nil {e:TypeId} :PW h (.v (.slice none 0 0)) (some e) b=some 0:=Eq.trans rfl rfl
theorem aae {e:TypeId}  :PW h (.own id n) (some e) b=lenD n (bG h (.own id n)):=by
 show (if bG h (.own id n) then _ else _)=_;cases bG h (.own id n)<;>rfl
theorem PX :lenD n true=some n:=Eq.trans rfl rfl
theorem aaf {o:Option TypeId} {s:ByteArray}:PW h (.v (.string s)) o true=some s.size:=Eq.trans rfl rfl
theorem UO :stA P h T a (some l)=stB h a l (szP P T) (l.all (jO h)):=Eq.trans rfl rfl
def apE (h:Hp) (T by_ sz:Nat) (s:AV) (mn:Nat × List AV):Option (AV × Hp):=match s with
 | .own id n=>match h[id]? with
  | some (some (.arr T' s' cells fz))=>if T'=T∧s'=sz∧cells.length=n*sz∧n+mn.1≤maxLen∧(n+mn.1)*by_≤140737488355328 then some (.own id (n+mn.1),h.set id (some (.arr T sz (cells++mn.2) fz))) else none
  | _=>none
 | .v (.slice none 0 0)=>if mn.1≤maxLen∧mn.1*by_≤140737488355328 then some (.own h.length mn.1,h++[some (.arr T sz mn.2 0)]) else none
 | _=>none
def apB (h:Hp) (T:TypeId) (s:AV):Option Nat→Option Nat→Option Value→Option (Nat × List AV)→Option (AV × Hp)
 | some sz,some by_,some z,some mn=>if z.cells.size=sz∧0<sz then apE h T by_ sz s mn else none
 | _,_,_,_=>none
def apA (P:Program) (h:Hp) (tx:TypeId) (s x:AV):Option TypeId→Option (AV × Hp)
 | some T=>apB h T s (szP P T) (aQ P T) (au P T) ((szP P T).bind fun sz=>mO P h tx sz x)
 | none=>none
variable {tx:TypeId}
theorem ap {t:TypeId} {s:AV}:lS P h t tx s x=apA P h tx s x (aG P t):=by
 unfold lS apA;cases aG P t with
 | none=>rfl
 | some T=>
  simp only [Option.bind_some];cases szP P T with
  | none=>rfl
  | some sz=>
   simp only [Option.bind_some];cases aQ P T with
   | none=>rfl
   | some by_=>
    simp only [Option.bind_some];cases au P T with
    | none=>rfl
    | some z=>
     simp only [Option.bind_some];cases mO P h tx sz x with
     | none=>rfl
     | some mn=>
      simp only [Option.bind_some,apB,apE];cases s<;>rfl
theorem UQ {s:AV}:apA P h tx s x (some T)=apB h T s (szP P T) (aQ P T) (au P T) ((szP P T).bind fun sz=>mO P h tx sz x):=Eq.trans rfl rfl
variable {by_:Nat}
theorem aag {s:AV}  {z:Value} {mn:Nat × List AV} (h1:z.cells.size=sz) (h2:0<sz):apB h T s (some sz) (some by_) (some z) (some mn)=apE h T by_ sz s mn:=if_pos ⟨h1,h2⟩
def apF (h:Hp) (T by_ sz id n:Nat) (m:Nat) (l:List AV):Option (Option Ob)→Option (AV × Hp)
 | some (some (.arr T' s' cells fz))=>if T'=T∧s'=sz∧cells.length=n*sz∧n+m≤maxLen∧(n+m)*by_≤140737488355328 then some (.own id (n+m),h.set id (some (.arr T sz (cells++l) fz))) else none
 | _=>none
theorem aah {T:Nat} :apE h T by_ sz (AV.own id n) (m,l)=apF h T by_ sz id n m l h[id]? :=by
 unfold apE apF;rfl
theorem UR {T:Nat} {cells:List AV} (h1:cells.length=n*sz) (h2:n+m≤1152921504606846975) (h3:(n+m)*by_≤140737488355328):apF h T by_ sz id n m l (some (some (.arr T sz cells fz)))=some (.own id (n+m),h.set id (some (.arr T sz (cells++l) fz))):=if_pos ⟨rfl,rfl,h1,Nat.le_trans h2 (by decide),h3⟩
theorem aai {T:Nat} {cells:List AV} (h1:cells.length=n) (h2:n+m≤1152921504606846975) (h3:(n+m)*by_≤140737488355328):apF h T by_ 1 id n m l (some (some (.arr T 1 cells fz)))=some (.own id (n+m),h.set id (some (.arr T 1 (cells++l) fz))):=if_pos ⟨rfl,rfl,by omega,Nat.le_trans h2 (by decide),h3⟩
theorem aaj {T:Nat}  (h2:m≤1152921504606846975) (h3:m*by_≤140737488355328):apE h T by_ sz (.v (.slice none 0 0)) (m,l)=some (AV.own h.length m,h++[some (.arr T sz l 0)]):=if_pos ⟨Nat.le_trans h2 (by decide),h3⟩
def cpE (h:Hp) (id n sz m:Nat) (l:List AV):Option (Option Ob)→Option (AV × Hp)
 | some (some (.arr T' s' cells fz))=>if s'=sz∧fz=0∧cells.length=n*sz∧m≤n then some (.v (.int .i64 m),h.set id (some (.arr T' s' (dK cells 0 l) 0))) else none
 | _=>none
def cpB (h:Hp):AV→Option Nat→Option (Nat × List AV)→Option (AV × Hp)
 | .own id n,some sz,some mn=>cpE h id n sz mn.1 mn.2 h[id]?
 | _,_,_=>none
def cpA (P:Program) (h:Hp) (tx:TypeId) (d x:AV):Option TypeId→Option (AV × Hp)
 | some T=>cpB h d (szP P T) ((szP P T).bind fun sz=>mO P h tx sz x)
 | none=>none
theorem cp {t:TypeId} {d:AV}:xM P h t tx d x=cpA P h tx d x (aG P t):=by
 unfold xM cpA;cases aG P t with
 | none=>rfl
 | some T=>
  simp only [Option.bind_some];cases szP P T with
  | none=>cases d<;>rfl
  | some sz=>
   simp only [Option.bind_some];cases mO P h tx sz x with
   | none=>cases d<;>rfl
   | some mn=>
    simp only [Option.bind_some];cases d<;>rfl
theorem UU {d:AV}:cpA P h tx d x (some T)=cpB h d (szP P T) ((szP P T).bind fun sz=>mO P h tx sz x):=Eq.trans rfl rfl
theorem aak :cpB h (AV.own id n) (some sz) (some (m,l))=cpE h id n sz m l h[id]? :=Eq.trans rfl rfl
theorem UW {T:Nat} {cells:List AV} (h1:cells.length=n*sz) (h2:m≤n):cpE h id n sz m l (some (some (.arr T sz cells 0)))=some (AV.v (.int .i64 m),h.set id (some (.arr T sz (dK cells 0 l) 0))):=if_pos ⟨rfl,rfl,h1,h2⟩
theorem aal {T:Nat} {cells:List AV} (h1:cells.length=n) (h2:m≤n):cpE h id n 1 m l (some (some (.arr T 1 cells 0)))=some (AV.v (.int .i64 m),h.set id (some (.arr T 1 (dK cells 0 l) 0))):=if_pos ⟨rfl,rfl,by omega,h2⟩
def atE (sz m:Nat) (l:List AV):AV→Option AV
 | .e0=>some (.t m sz l)
 | .v (.slice none 0 0)=>some (.t m sz l)
 | _=>none
def atB (s:AV):Option Nat→Option Nat→Option Value→Option (Nat × List AV)→Option AV
 | some sz,some by_,some z,some mn=>if z.cells.size=sz∧0<sz∧mn.1≤maxLen∧mn.1*by_≤140737488355328 then atE sz mn.1 mn.2 s else none
 | _,_,_,_=>none
def atA (P:Program) (h:Hp) (tx:TypeId) (s x:AV):Option TypeId→Option AV
 | some T=>atB s (szP P T) (aQ P T) (au P T) ((szP P T).bind fun sz=>mO P h tx sz x)
 | none=>none
theorem at_ {t:TypeId} {s:AV}:Ib P h t tx s x=atA P h tx s x (aG P t):=by
 unfold Ib atA;cases aG P t with
 | none=>rfl
 | some T=>
  simp only [Option.bind_some];cases szP P T with
  | none=>rfl
  | some sz=>
   simp only [Option.bind_some];cases aQ P T with
   | none=>rfl
   | some by_=>
    simp only [Option.bind_some];cases au P T with
    | none=>rfl
    | some z=>
     simp only [Option.bind_some];cases mO P h tx sz x with
     | none=>rfl
     | some mn=>
      simp only [Option.bind_some,atB];cases s<;>rfl
theorem UY {s:AV}:atA P h tx s x (some T)=atB s (szP P T) (aQ P T) (au P T) ((szP P T).bind fun sz=>mO P h tx sz x):=Eq.trans rfl rfl
theorem UZ {s:AV}  {z:Value}  (h1:z.cells.size=sz) (h2:0<sz) (h3:m≤1152921504606846975) (h4:m*by_≤140737488355328):atB s (some sz) (some by_) (some z) (some (m,l))=atE sz m l s:=if_pos ⟨h1,h2,Nat.le_trans h3 (by decide),h4⟩
theorem aex :atE sz m l .e0=some (.t m sz l):=Eq.trans rfl rfl
theorem aam :atE sz m l (.v (.slice none 0 0))=some (.t m sz l):=Eq.trans rfl rfl
theorem aib :cellsA h .e0=some [.e0]:=Eq.trans rfl rfl
theorem aic :jO h .e0=true:=Eq.trans rfl rfl
theorem aey :dW h .e0=some (.e0,h):=Eq.trans rfl rfl
theorem aez :dX h .e0=some (.e0,h):=Eq.trans rfl rfl
theorem aeA :dL h .e0=some (.e0,h):=Eq.trans rfl rfl
def srB (h:Hp) (s:Nat) (x:AV):Bool→Bool→Option (Nat × List AV)
 | e,b=>match x with
  | .t m s' cells=>if s'=s∧e=true∧cells.all (jO h)=true then some (m,cells) else none
  | .own id m=>match h[id]? with
   | some (some (.arr _ s' cells _))=>if s'=s∧cells.length=m*s∧e=true∧cells.all (jO h)=true then some (m,cells) else none
   | _=>none
  | .v (.string c)=>if s=1∧b=true then some (c.size,c.data.toList.map fun c=> .v (.int .u8 c.toNat)) else none
  | .v (.slice none 0 0)=>if e=true then some (0,[]) else none
  | _=>none
theorem sr :mO P h tx s x=srB h s x (aG P tx).isSome (cu P tx):=by
 unfold mO srB;rfl
def srC (m:Nat) (l:List AV):Bool→Option (Nat × List AV)
 | true=>some (m,l)
 | false=>none
theorem akx :srB h s (.t m s l) true b=srC m l (l.all (jO h)):=by
 simp only [srB];cases hl:l.all (jO h)<;>simp [srC]
theorem U0 :srC m l true=some (m,l):=Eq.trans rfl rfl
def srD (h:Hp) (s m:Nat):Option (Option Ob)→Option (Nat × List AV)
 | some (some (.arr _ s' cells _))=>if s'=s∧cells.length=m*s then srC m cells (cells.all (jO h)) else none
 | _=>none
theorem aeB :srB h s (.own id m) true b=srD h s m h[id]? :=by
 simp only [srB,srD];split
 ·next T s' cells fz _=>
  cases hl:cells.all (jO h)<;>simp [srC]
 ·rfl
theorem U1 (hl:l.length=m*s):srD h s m (some (some (.arr T s l fz)))=srC m l (l.all (jO h)):=if_pos ⟨rfl,hl⟩
theorem aan (hl:l.length=m):srD h 1 m (some (some (.arr T 1 l fz)))=srC m l (l.all (jO h)):=if_pos ⟨rfl,by omega⟩
theorem aeC :srB h s (.v (.slice none 0 0)) true b=some (0,[]):=Eq.trans rfl rfl
theorem aeD {e:Bool} {c:ByteArray}:srB h 1 (.v (.string c)) e true=some (c.size,c.data.toList.map fun c=> .v (.int .u8 c.toNat)):=by
 unfold srB;simp
def clB (h:Hp) (id n:Nat):Option (Option Ob)→Option (AV × Hp)
 | some (some (.arr T s cells fz))=>if cells.length=n*s then some (.t n s cells,h.set id (some (.arr T s cells cells.length))) else none
 | _=>none
theorem U2 (hl:l.length=n*s):clB h id n (some (some (.arr T s l fz)))=some (.t n s l,h.set id (some (.arr T s l l.length))):=if_pos hl
theorem aao (hl:l.length=n):clB h id n (some (some (.arr T 1 l fz)))=some (.t n 1 l,h.set id (some (.arr T 1 l l.length))):=if_pos (by omega)
theorem aie {x:Value}:dW h (.v x)=some ((.v x),h):=Eq.trans rfl rfl
theorem aif :dW h (.t n s l)=some ((.t n s l),h):=Eq.trans rfl rfl
theorem aeE :dW h (.tp l)=some ((.tp l),h):=Eq.trans rfl rfl
theorem aeF {f:Fn} :dW h (.fn f l l2)=some ((.fn f l l2),h):=Eq.trans rfl rfl
theorem U3 :dW h .none=some (.none,h):=Eq.trans rfl rfl
theorem aap :dW h (.ptr id off)=some ((.ptr id off),h):=Eq.trans rfl rfl
theorem aaq :dW h (.own id n)=clB h id n h[id]? :=by
 unfold clB;first | rfl | (show dW h (.own id n)=_;rfl)
theorem aii {x:Value}:dX h (.v x)=some ((.v x),h):=Eq.trans rfl rfl
theorem aij :dX h (.t n s l)=some ((.t n s l),h):=Eq.trans rfl rfl
theorem aeG :dX h (.tp l)=some ((.tp l),h):=Eq.trans rfl rfl
theorem aeH {f:Fn} :dX h (.fn f l l2)=some ((.fn f l l2),h):=Eq.trans rfl rfl
theorem U4 :dX h .none=some (.none,h):=Eq.trans rfl rfl
theorem aar :dX h (.ptr id off)=some ((.ptr id off),h):=Eq.trans rfl rfl
theorem aas :dX h (.own id n)=clB h id n h[id]? :=by
 unfold clB;first | rfl | (show dW h (.own id n)=_;rfl)
theorem aik {x:Value}:dL h (.v x)=some ((.v x),h):=Eq.trans rfl rfl
theorem ail :dL h (.t n s l)=some ((.t n s l),h):=Eq.trans rfl rfl
theorem aeI :dL h (.tp l)=some ((.tp l),h):=Eq.trans rfl rfl
theorem aeJ {f:Fn} :dL h (.fn f l l2)=some ((.fn f l l2),h):=Eq.trans rfl rfl
theorem U5 :dL h .none=some (.none,h):=Eq.trans rfl rfl
theorem aat :dL h (.ptr id off)=some ((.ptr id off),h):=Eq.trans rfl rfl
theorem aau :dL h (.own id n)=clB h id n h[id]? :=by
 unfold clB;first | rfl | (show dW h (.own id n)=_;rfl)
theorem ain :dX h (.g l)=(closeWith dW h l).map fun p=>(.g p.1,p.2):=Eq.trans rfl rfl
theorem aio :dL h (.g l)=(closeWith dW h l).map fun p=>(.g p.1,p.2):=Eq.trans rfl rfl
theorem aav :dL h (.tup l)=(closeWith dX h l).map fun p=>(.tup p.1,p.2):=Eq.trans rfl rfl
def cwC (a:AV):Option (List AV × Hp)→Option (List AV × Hp)
 | some (r,h)=>some (a::r,h)
 | none=>none
def cwB (f:Hp→AV→Option (AV × Hp)) (r:List AV):Option (AV × Hp)→Option (List AV × Hp)
 | some (a,h)=>cwC a (closeWith f h r)
 | none=>none
variable {f:Hp→AV→Option (AV × Hp)}
theorem aeK :closeWith f h []=some ([],h):=Eq.trans rfl rfl
theorem aaw {r:List AV}:closeWith f h (a::r)=cwB f r (f h a):=by
 simp only [closeWith];cases f h a with
 | none=>rfl
 | some p=>obtain ⟨a',h1⟩:=p;simp only [cwB,cwC];cases closeWith f h1 r<;>rfl
theorem U6 {r:List AV}:cwB f r (some (a,h))=cwC a (closeWith f h r):=Eq.trans rfl rfl
theorem U7 {r:List AV}:cwC a (some (r,h))=some (a::r,h):=Eq.trans rfl rfl
end
end
section
open Go.RowKit
section
variable {P:Program} {p₀:AV→Hp→Prop}
def ltB (e n m:Nat):Option Nat→Option Value→Option (List AV)→Option (TypeId × Nat × List AV)
 | some s,some _,some L=>if m=n∧0<s∧n*s≤16777216 then some (e,s,L) else none
 | _,_,_=>none
def ltA (P:Program) (h:Hp) (n:Nat) (parts:List (Nat × AV)):Option TypeId→Option (TypeId × Nat × List AV)
 | some e=>ltB e n parts.length (szP P e) (au P e) ((szP P e).bind fun s=>rowA h s 0 parts)
 | none=>none
variable {T:TypeId}{h:Hp}{n:Nat}{parts:List (Nat × AV)}
theorem lt :yB P h T n parts=ltA P h n parts (aG P T):=by
 unfold yB ltA;cases aG P T with
 | none=>rfl
 | some e=>
  simp only [Option.bind_some];cases szP P e with
  | none=>rfl
  | some s=>
   simp only [Option.bind_some];cases au P e with
   | none=>rfl
   | some z=>
    simp only [Option.bind_some];cases rowA h s 0 parts<;>rfl
variable {e:TypeId}
theorem U8 :ltA P h n parts (some e)=ltB e n parts.length (szP P e) (au P e) ((szP P e).bind fun s=>rowA h s 0 parts):=Eq.trans rfl rfl
variable {s:Nat}{z:Value}
theorem U9 {e m:Nat}  {L:List AV} (h1:m=n) (h2:0<s) (h3:n*s≤16777216):ltB e n m (some s) (some z) (some L)=some (e,s,L):=if_pos ⟨h1,h2,h3⟩
def rwB (j k s:Nat):Option (List AV)→Option (List AV)→Option (List AV)
 | some l,some L=>if j=k∧l.length=s then some (l++L) else none
 | _,_=>none
variable {k:Nat}
theorem aeL :rowA h s k []=some []:=Eq.trans rfl rfl
variable {a:AV}{r:List (Nat × AV)}
theorem aax {j:Nat}  :rowA h s k ((j,a)::r)=rwB j k s (cellsA h a) (rowA h s (k+1) r):=by
 simp only [rowA];cases cellsA h a<;>cases rowA h s (k+1) r<;>rfl
variable {l:List AV}
theorem Va {j:Nat} {L:List AV} (h1:j=k) (h2:l.length=s):rwB j k s (some l) (some L)=some (l++L):=if_pos ⟨h1,h2⟩
def mkB (e:Nat) (zl zc:Int):Option Nat→Option Value→Option Nat→Option (TypeId × Nat × List AV)
 | some s,some z,some by_=>if 0<s∧0≤zl∧zl≤zc∧zc≤9223372036854775807∧(by_:Int)*zc≤140737488355328 then some (e,s,pJ z (zl.toNat*s)) else none
 | _,_,_=>none
def mkA (P:Program) (zl zc:Int):Option TypeId→Option (TypeId × Nat × List AV)
 | some e=>mkB e zl zc (szP P e) (au P e) (aQ P e)
 | none=>none
variable {zc zl:Int}
theorem mk :ug P T zl zc=mkA P zl zc (aG P T):=by
 unfold ug mkA;cases aG P T with
 | none=>rfl
 | some e=>
  simp only [Option.bind_some];cases szP P e with
  | none=>rfl
  | some s=>
   simp only [Option.bind_some];cases au P e with
   | none=>rfl
   | some z=>
    simp only [Option.bind_some];cases aQ P e<;>rfl
theorem Vb :mkA P zl zc (some e)=mkB e zl zc (szP P e) (au P e) (aQ P e):=Eq.trans rfl rfl
theorem Vd {e:Nat}  {by_:Nat}  (h1:0<s) (h2:0≤zl) (h3:zl≤zc) (h4:zc≤9223372036854775807) (h5:(by_:Int)*zc≤140737488355328):mkB e zl zc (some s) (some z) (some by_)=some (e,s,pJ z (zl.toNat*s)):=if_pos ⟨h1,h2,h3,h4,h5⟩
theorem Ve {k:IntKind} :pJ (.int k 0) n=tab n (fun _=> .v (.int k 0)):=by
 show (if (1:Nat)=1 then List.replicate n (AV.v (.int k 0)) else _)=_;rw [if_pos rfl];apply List.ext_getElem?;intro i;by_cases hi:i<n
 ·rw [iY hi];simp [hi]
 ·simp [tab,hi]
theorem PY :pJ (.bool false) n=tab n (fun _=> .v (.bool false)):=by
 show (if (1:Nat)=1 then List.replicate n (AV.v (.bool false)) else _)=_;rw [if_pos rfl];apply List.ext_getElem?;intro i;by_cases hi:i<n
 ·rw [iY hi];simp [hi]
 ·simp [tab,hi]
theorem Vf :pJ (.slice none 0 0) n=tab n (fun _=> .v (.slice none 0 0)):=by
 show (if (1:Nat)=1 then List.replicate n (AV.v (.slice none 0 0)) else _)=_;rw [if_pos rfl];apply List.ext_getElem?;intro i;by_cases hi:i<n
 ·rw [iY hi];simp [hi]
 ·simp [tab,hi]
def fdB (h:Hp) (a:AV) (o:Nat):Option Nat→Option AV
 | some s=>if s=0 then none else mG h a o
 | none=>none
def fdA (P:Program) (h:Hp) (a:AV):Option (Nat × TypeId)→Option AV
 | some (o,T)=>fdB h a o (szP P T)
 | none=>none
theorem fd {S:TypeId}  {f:Nat}:rY P h S a f=fdA P h a (aH P S f):=by
 unfold rY fdA;cases aH P S f with
 | none=>rfl
 | some ot=>
  obtain ⟨o,T⟩:=ot;simp only [Option.bind_some];cases hs:szP P T with
  | none=>simp only [reduceCtorEq,if_false,Option.bind_none];rfl
  | some s=>
   simp only [Option.bind_some,Option.some.injEq,fdB]
variable {o:Nat}
theorem Vg :fdA P h a (some (o,T))=fdB h a o (szP P T):=Eq.trans rfl rfl
theorem Vh (hs:s≠0):fdB h a o (some s)=mG h a o:=if_neg hs
def flB (P:Program) (T:TypeId) (o:Nat):Option (List AV)→Option AV
 | some l=>takeA P T (l.drop o)
 | none=>none
def flA (P:Program) (x:AV):Option (Nat × TypeId)→Option AV
 | some (o,T)=>flB P T o (cellsOf x)
 | none=>none
theorem fl {S:TypeId} {x:AV} {f:Nat}:su P S x f=flA P x (aH P S f):=by
 unfold su flA;cases aH P S f with
 | none=>rfl
 | some ot=>
  obtain ⟨o,T⟩:=ot;simp only [Option.bind_some];cases cellsOf x<;>rfl
theorem Vj {x:AV}  :flA P x (some (o,T))=flB P T o (cellsOf x):=Eq.trans rfl rfl
theorem Vk :flB P T o (some l)=takeA P T (l.drop o):=Eq.trans rfl rfl
theorem aky :cellsOf (.g l)=some l:=Eq.trans rfl rfl
theorem aeM {l:List Value}:cellsOf (.v (.agg l.toArray))=some (l.map .v):=Eq.trans rfl rfl
theorem aeN {l:List Value}:cellsA h (.v (.agg l.toArray))=some (l.map .v):=Eq.trans rfl rfl
def fsP (P:Program) (T:TypeId):Option (List (Nat × Nat)):=match P.underlying T with
 | some (.struct fs)=>if fs.toList.all (fun f=>(P.info? f.type).isSome) then some (fs.toList.map fun f=>(f.offset,((P.info? f.type).map (·.size)).getD 0)) else none
 | some (.array n e)=>if n≤64 then (szP P e).map fun s=>(List.range n).map fun i=>(i*s,s) else none
 | _=>none
def bdA (h:Hp) (parts:List (Nat × AV)):Option Value→Option (List (Nat × Nat))→Option (List AV)→Option (List AV)
 | some z,some l,_=>lQ h (fun i=>l[i]?) (fB z) parts
 | _,_,o=>o
theorem bd :mJ P h T parts=bdA h parts (au P T) (fsP P T) (mJ P h T parts):=by
 cases hz:au P T with
 | none=>rfl
 | some z=>
  cases hf:fsP P T with
  | none=>rfl
  | some l=>
   show _=lQ h (fun i=>l[i]?) (fB z) parts;unfold mJ;have:yI P T=some (fun i=>l[i]?):=by
    unfold fsP at hf;unfold yI;split at hf
    ·next fs hu=>
     rw [hu];simp only;split at hf
     ·next hall=>
      rw [if_pos hall];injection hf with hf;subst hf;congr 1;funext i
      rw [List.getElem?_map,Array.getElem?_toList]
     ·cases hf
    ·next n e hu=>
     rw [hu];simp only;split at hf
     ·cases hs:szP P e with
      | none=>rw [hs] at hf;cases hf
      | some s=>rw [hs] at hf;injection hf with hf;subst hf;rfl
     ·cases hf
    ·cases hf
   rw [hz,this]
def fiB (h:Hp) (pl:List (Nat × Nat)) (cells:List AV) (r:List (Nat × AV)):Option (Nat × Nat)→Option (List AV)→Option (List AV)
 | some (o,n),some l=>if l.length=n∧o+n≤cells.length then lQ h (fun i=>pl[i]?) (dK cells o l) r else none
 | _,_=>none
def bdX (P:Program) (h:Hp) (T:TypeId) (parts:List (Nat × AV)):Option Value→Option (List (Nat × Nat))→Option (List AV)
 | some z,some l=>lQ h (fun i=>l[i]?) (fB z) parts
 | _,_=>mJ P h T parts
theorem bdx {K:AV→Prop}:sG K (mJ P h T parts)=sG K (bdX P h T parts (au P T) (fsP P T)):=by
 congr 1;cases hz:au P T with
 | none=>rfl
 | some z=>
  cases hf:fsP P T with
  | none=>rfl
  | some l=>
   rw [bd,hz,hf];rfl
theorem Vl {l:List (Nat × Nat)}:bdX P h T parts (some z) (some l)=lQ h (fun i=>l[i]?) (fB z) parts:=Eq.trans rfl rfl
theorem aeO {pl:Nat→Option (Nat × Nat)} {cells:List AV}:lQ h pl cells []=some cells:=Eq.trans rfl rfl
theorem aay {pl:List (Nat × Nat)} {cells:List AV} {i:Nat}  :lQ h (fun i=>pl[i]?) cells ((i,a)::r)=fiB h pl cells r pl[i]? (cellsA h a):=by
 simp only [lQ];cases pl[i]? with
 | none=>rfl
 | some on=>obtain ⟨o,n⟩:=on;cases cellsA h a<;>rfl
theorem Vm {pl:List (Nat × Nat)} {cells:List AV}   (h1:l.length=n) (h2:o+n≤cells.length):fiB h pl cells r (some (o,n)) (some l)=lQ h (fun i=>pl[i]?) (dK cells o l) r:=if_pos ⟨h1,h2⟩
theorem aaz {d:Nat}:aZ none d=some d:=Eq.trans rfl rfl
theorem aaA {k:IntKind} {z:Int} {d:Nat} (hz:0≤z):aZ (some (.v (.int k z))) d=some z.toNat:=if_pos hz
def slT (n s:Nat) (cells:List AV):Option Nat→Option Nat→Option Nat→Option AV
 | some a,some b,some s'=>if s'=s∧a≤b∧b≤n then some (.t (b - a) s ((cells.take (b*s)).drop (a*s))) else none
 | _,_,_=>none
def hx (h:Hp):Option AV→Option (AV × Hp)
 | some a=>some (a,h)
 | none=>none
theorem aaB :hx h (some a)=some (a,h):=Eq.trans rfl rfl
def szE (P:Program):Option TypeId→Option Nat
 | some e=>szP P e
 | none=>none
theorem Vo :szE P (some e)=szP P e:=Eq.trans rfl rfl
variable {hi:Option AV}
theorem aip {cells:List AV} {lo:Option AV}:iM P h T (.t n s cells) lo hi=hx h (slT n s cells (aZ lo 0) (aZ hi n) (szE P (aG P T))):=by
 simp only [iM];have:(aG P T).bind (szP P)=szE P (aG P T):=by cases aG P T<;>rfl
 rw [this];cases aZ lo 0 with
 | none=>rfl
 | some a=>
  cases aZ hi n with
  | none=>rfl
  | some b=>
   simp only [slT];cases szE P (aG P T) with
   | none=>simp;rfl
   | some s'=>
    simp only [Option.some.injEq];split<;>rfl
theorem akz {cells:List AV} {lo:Option AV}:sliceT P h T (.t n s cells) lo hi=slT n s cells (aZ lo 0) (aZ hi n) (szE P (aG P T)):=by
 show (iM P [] T (.t n s cells) lo hi).map (·.1)=_;rw [aip];cases slT n s cells (aZ lo 0) (aZ hi n) (szE P (aG P T))<;>rfl
def slO (n:Nat):Option Nat→Option Nat→Option Nat→Option (Option Ob)→Option AV
 | some a,some b,some s',some (some (.arr _ s cells fz))=>if s'=s∧cells.length=n*s∧a≤b∧b≤n∧b*s≤fz then some (.t (b - a) s ((cells.take (b*s)).drop (a*s))) else none
 | _,_,_,_=>none
theorem akA {id:Nat} {lo:Option AV}:sliceT P h T (.own id n) lo hi=slO n (aZ lo 0) (aZ hi n) (szE P (aG P T)) h[id]? :=by
 simp only [sliceT];have:(aG P T).bind (szP P)=szE P (aG P T):=by cases aG P T<;>rfl
 rw [this];cases h[id]? with
 | none=>unfold slO;split<;>first | rfl | simp_all
 | some o=>
  cases o with
  | none=>unfold slO;split<;>first | rfl | simp_all
  | some o=>
   cases o with
   | arr T' s cells fz=>
    cases aZ lo 0 with
    | none=>rfl
    | some a=>
     cases aZ hi n with
     | none=>rfl
     | some b=>
      simp only [slO];cases szE P (aG P T) with
      | none=>simp
      | some s'=>simp only [Option.some.injEq]
   | _=>unfold slO;split<;>first | rfl | simp_all
variable {b:Nat}
theorem Vp {a fz:Nat}  {cells:List AV} (h0:cells.length=n*s) (h1:a≤b) (h2:b≤n) (h3:b*s≤fz):slO n (some a) (some b) (some s) (some (some (.arr T s cells fz)))=some (.t (b - a) s ((cells.take (b*s)).drop (a*s))):=if_pos ⟨rfl,h0,h1,h2,h3⟩
theorem Vq {a:Nat} {cells:List AV} (h1:a≤b) (h2:b≤n):slT n s cells (some a) (some b) (some s)=some (.t (b - a) s ((cells.take (b*s)).drop (a*s))):=if_pos ⟨rfl,h1,h2⟩
def slS (x:ByteArray):Option Nat→Option Nat→Bool→Option AV
 | some a,some b,true=>if a≤b∧b≤x.size then some (.v (.string (x.extract a b))) else none
 | _,_,_=>none
variable {x:ByteArray}
theorem aiq {lo:Option AV}:iM P h T (.v (.string x)) lo hi=hx h (slS x (aZ lo 0) (aZ hi x.size) (cu P T)):=by
 simp only [iM];cases cu P T with
 | false=>cases aZ lo 0<;>cases aZ hi x.size<;>rfl
 | true=>
  cases aZ lo 0 with
  | none=>rfl
  | some a=>
   cases aZ hi x.size with
   | none=>rfl
   | some b=>
    simp only [slS,if_true];split<;>rfl
theorem akB {lo:Option AV}:sliceT P h T (.v (.string x)) lo hi=slS x (aZ lo 0) (aZ hi x.size) (cu P T):=by
 show (iM P [] T (.v (.string x)) lo hi).map (·.1)=_;rw [aiq];cases slS x (aZ lo 0) (aZ hi x.size) (cu P T)<;>rfl
theorem Vr {a:Nat} (h1:a≤b) (h2:b≤x.size):slS x (some a) (some b) true=some (.v (.string (x.extract a b))):=if_pos ⟨h1,h2⟩
variable {f:Nat→AV}
theorem Vs (hk:k≤n):(tab n f).take k=tab k f:=by
 apply List.ext_getElem?;intro i;rw [List.getElem?_take];by_cases hi:i<k
 ·rw [if_pos hi,iY (by omega),iY hi]
 ·rw [if_neg hi];simp [tab,hi]
theorem Vt :(tab n f).drop k=tab (n - k) (fun i=>f (i+k)):=by
 apply List.ext_getElem?;intro i;rw [List.getElem?_drop];by_cases hi:i<n - k
 ·rw [iY (by omega),iY hi,Nat.add_comm]
 ·simp [tab,hi,show ¬ k+i<n by omega]
theorem aaC :tab 0 f=[]:=Eq.trans rfl rfl
theorem aaD {g:AV→Bool} (h: ∀ i,i<n→g (f i)=true):(tab n f).all g=true:=by
 rw [List.all_eq_true];intro a ha;obtain ⟨i,hi,rfl⟩:=List.mem_map.1 ha;exact h i (List.mem_range.1 hi)
theorem aaE {k:IntKind} {f:Nat→Int}:(tab n fun i=> .v (.int k (f i))).all (jO h)=true:=aaD fun _ _=>rfl
def isB (x:ByteArray) (z:Int):Bool→Option AV
 | true=>if 0≤z then (x[z.toNat]?).map fun b=> .v (.int .u8 b.toNat) else none
 | false=>none
theorem aeP {z:Int}:ou P T (.v (.string x)) z=isB x z (cu P T):=by
 unfold ou isB;cases cu P T with
 | false=>simp
 | true=>simp
theorem Vu {z:Int} (hz:0≤z):isB x z true=(x[z.toNat]?).map fun b=> .v (.int .u8 b.toNat):=if_pos hz
end
section
variable {P:Program} {p₀:AV→Hp→Prop}
variable {h:Hp}{s u:TypeId}
theorem aeQ {k:IntKind} {z:Int}:cvA P h s u (.v (.int k z))=(gX P h s u (.v (.int k z))).map .v:=Eq.trans rfl rfl
variable {n:Nat}
theorem akC {sz:Nat} {cells:List AV}:cvA P h s u (.t n sz cells)=(gX P h s u (.t n sz cells)).map .v:=Eq.trans rfl rfl
variable {id:Nat}
theorem aeR :cvA P h s u (.own id n)=(gX P h s u (.own id n)).map .v:=Eq.trans rfl rfl
variable {b:ByteArray}
theorem aeS :cvA P h s u (.v (.string b))=cvX P h s u b ((aG P u).bind (lu P)):=Eq.trans rfl rfl
theorem Vw :cvX P h s u b none=(gX P h s u (.v (.string b))).map .v:=Eq.trans rfl rfl
theorem Vx (h1:(P.underlying s).isSome=true) (h2:b.size≤140737488351232):cvX P h s u b (some .u8)=some (.t b.size 1 (EZ b)):=if_pos ⟨h1,h2⟩
variable {T:TypeId}
theorem aeT :iM P h T (.ptr id 0) none none=uj P h id h[id]? (aS P T):=by
 unfold iM;simp
theorem PZ {e:TypeId} {cells:List AV}:uj P h id (some (some (.blk cells))) (some (n,e))=yJ h id cells n (szP P e):=Eq.trans rfl rfl
theorem P5 {s:Nat} {cells:List AV} (h1:cells.length=n*s) (h2:n≤1000000):yJ h id cells n (some s)=some (.t n s cells,h.set id none):=if_pos ⟨h1,h2⟩
def lkB (h:Hp) (x:AV) (kv:Value) (ok:Bool):Option KK→Option Value→Option AV
 | some q,some z=>if eu q kv=true then match x with
   | .mp id=>match h[id]? with
    | some (some (.map es))=>if keysB q es=true then some (ku ok z (dB kv es)) else none
    | _=>none
   | .tm es=>if keysB q es=true then some (ku ok z (dB kv es)) else none
   | .v (.map none)=>some (ku ok z none)
   | _=>none
   else none
 | _,_=>none
def lkD (kv:Value) (ok:Bool) (q:KK) (z:Value):Option (Option Ob)→Option AV
 | some (some (.map es))=>if keysB q es=true then some (ku ok z (dB kv es)) else none
 | _=>none
def lkA (P:Program) (h:Hp) (x:AV) (kv:Value) (ok:Bool):Option (TypeId × TypeId)→Option AV
 | some (K,E)=>lkB h x kv ok (kkP P K) (au P E)
 | none=>none
variable {kv:Value}{x:AV}
theorem lk {ok:Bool}:jV P h T x (.v kv) ok=lkA P h x kv ok (qY P T):=by
 unfold jV lkA;cases qY P T with
 | none=>rfl
 | some KE=>
  obtain ⟨K,E⟩:=KE;simp only [Option.bind_some];cases kkP P K with
  | none=>cases au P E<;>rfl
  | some q=>
   simp only [Option.bind_some];cases au P E with
   | none=>rfl
   | some z=>rfl
theorem Vy {ok:Bool} {K E:TypeId}:lkA P h x kv ok (some (K,E))=lkB h x kv ok (kkP P K) (au P E):=Eq.trans rfl rfl
variable {q:KK}{z:Value}
theorem aeU {ok:Bool}  :lkB h (.mp id) kv ok (some q) (some z)=if eu q kv=true then lkD kv ok q z h[id]? else none:=Eq.trans rfl rfl
variable {es:List (Value × AV)}
theorem aeV {ok:Bool}  :lkB h (.tm es) kv ok (some q) (some z)=if eu q kv=true then (if keysB q es=true then some (ku ok z (dB kv es)) else none) else none:=Eq.trans rfl rfl
theorem Vz {ok:Bool}  :lkD kv ok q z (some (some (.map es)))=if keysB q es=true then some (ku ok z (dB kv es)) else none:=Eq.trans rfl rfl
variable {a:AV}
theorem aeW :ku true z (some a)= .tup [a, .v (.bool true)]:=Eq.trans rfl rfl
theorem aeX :ku true z none= .tup [.v z, .v (.bool false)]:=Eq.trans rfl rfl
theorem aeY :ku false z (some a)=a:=Eq.trans rfl rfl
theorem aeZ :ku false z none= .v z:=Eq.trans rfl rfl
theorem ae0 {q:IntKind} {n:Int}:eu (.int q) (.int q n)=true:=ah rfl
theorem ae1 {s:ByteArray}:eu .str (.string s)=true:=Eq.trans rfl rfl
theorem ae2 :keysB q []=true:=Eq.trans rfl rfl
variable {r:List (Value × AV)}
theorem aaF {p:Value × AV} :keysB q (p::r)=(eu q p.1 && keysB q r):=Eq.trans rfl rfl
variable {k:Value}
theorem ae3 :dB k []=none:=Eq.trans rfl rfl
theorem aaG {k':Value}  :dB k ((k',a)::r)=if keyE k k'=true then some a else dB k r:=Eq.trans rfl rfl
theorem ae4 {q q':IntKind} {a b:Int}:keyE (.int q a) (.int q' b)=decide (a=b):=Eq.trans rfl rfl
theorem sQ {a:ByteArray}:keyE (.string a) (.string b)=decide (a=b):=Eq.trans rfl rfl
theorem ae5 :iP k a []=[(k,a)]:=Eq.trans rfl rfl
theorem aaH {k':Value} {a':AV} :iP k a ((k',a')::r)=if keyE k k'=true then (k,a)::r else (k',a')::iP k a r:=Eq.trans rfl rfl
def upD (h:Hp) (id:Nat) (kv:Value) (a:AV) (q:KK):Option (Option Ob)→Option Hp
 | some (some (.map es))=>if keysB q es=true then some (h.set id (some (.map (iP kv a es)))) else none
 | _=>none
def upB (h:Hp) (id:Nat) (kv:Value) (a:AV):Option KK→Option Hp
 | some q=>if eu q kv=true then upD h id kv a q h[id]? else none
 | none=>none
def upA (P:Program) (h:Hp) (id:Nat) (kv:Value) (a:AV):Option (TypeId × TypeId)→Option Hp
 | some (K,_)=>upB h id kv a (kkP P K)
 | none=>none
theorem up :iW P h T (.mp id) (.v kv) a=upA P h id kv a (qY P T):=by
 unfold iW upA;cases qY P T with
 | none=>rfl
 | some KE=>
  obtain ⟨K,E⟩:=KE;simp only [Option.bind_some];cases kkP P K with
  | none=>rfl
  | some q=>rfl
theorem VA {K E:TypeId}:upA P h id kv a (some (K,E))=upB h id kv a (kkP P K):=Eq.trans rfl rfl
theorem VB :upB h id kv a (some q)=if eu q kv=true then upD h id kv a q h[id]? else none:=Eq.trans rfl rfl
theorem VD :upD h id kv a q (some (some (.map es)))=if keysB q es=true then some (h.set id (some (.map (iP kv a es)))) else none:=Eq.trans rfl rfl
def bF (op:BinOp):Option Bool→Bool→Option Value
 | some b,true=>oq op b
 | _,_=>none
theorem VE {op:BinOp}  :pK P h op T x (.v .nilFunc)=bF op (um x) (fV P T):=by
 show (if fV P T=true then (um x).bind (oq op) else none)=_;cases fV P T<;>cases um x<;>rfl
theorem air {b:Bool}:bF .eql (some b) true=some (.bool b):=Eq.trans rfl rfl
theorem ais {b:Bool}:bF .neq (some b) true=some (.bool (!b)):=Eq.trans rfl rfl
theorem ae6:um (.v .nilFunc)=some true:=Eq.trans rfl rfl
variable {f:Fn}
theorem ait {a b:List AV}:um (.fn f a b)=some false:=Eq.trans rfl rfl
theorem aiu :cellsA h (.mp id)=if bG h (.mp id)=true then some [.mp id] else none:=Eq.trans rfl rfl
def aiv:Option (Option Ob)→Bool
 | some (some (.map _))=>true
 | _=>false
theorem aiw :bG h (.mp id)=aiv h[id]? :=Eq.trans rfl rfl
theorem P6 :aiv (some (some (.map es)))=true:=Eq.trans rfl rfl
theorem aix :jO h (.mp id)=bG h (.mp id):=Eq.trans rfl rfl
theorem aiy {a b:List AV}:cellsA h (.fn f a b)=some [.fn f a b]:=Eq.trans rfl rfl
theorem ae7 :cellsA h (.ifc T a)=some [.ifc T a]:=Eq.trans rfl rfl
theorem ae8 :jO h (.ifc T a)=true:=Eq.trans rfl rfl
def aiz (h:Hp) (id:Nat):Option (Option Ob)→Option (AV × Hp)
 | some (some (.map es))=>some (.tm es,h.set id none)
 | _=>none
theorem ae9 :dL h (.mp id)=aiz h id h[id]? :=Eq.trans rfl rfl
theorem P7 :aiz h id (some (some (.map es)))=some (.tm es,h.set id none):=Eq.trans rfl rfl
theorem aaI :dL h (.ifc T a)=some (.ifc T a,h):=Eq.trans rfl rfl
theorem afa {a b:List AV}:dL h (.fn f a b)=some (.fn f a b,h):=Eq.trans rfl rfl
end
end
end Go.Proofs.YtljfgdlgmdcmfaaGreat.Wv
