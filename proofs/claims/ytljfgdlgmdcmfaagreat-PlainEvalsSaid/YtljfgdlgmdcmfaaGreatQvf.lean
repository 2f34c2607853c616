/- Parts of a proof. -/
import Derived.Test.YtljfgdlgmdcmfaaGreatQve
import Derived.Test.YtljfgdlgmdcmfaaGreatProg
import Derived.ProofKit
import Derived.Deep.Slices
import Derived.ChangeArms
import Derived.SizedLaws
import Derived.Lib.SlicesCompact
set_option linter.unusedVariables false
set_option maxRecDepth 100000
namespace Go.Proofs.YtljfgdlgmdcmfaaGreat.Wv
section
open Go.RowKit
def Wk (a b:AV):Prop:= ∀ (X:Cx) (v:Value),Rep X a v→Rep X b v
theorem Wk.refl (a:AV):Wk a a:=fun _ _ h=>h
variable {a b:AV}
theorem Wk.trans {c:AV} (h:Wk a b) (h':Wk b c):Wk a c:=fun X v q=>h' X v (h X v q)
theorem Wk.nil (s:Nat):Wk (.v (.slice none 0 0)) (.t 0 s []):=fun X v h=>by
 cases h;exact .t (cvs:=[]) (by simp) rfl (Nat.le_refl _) (Nat.zero_le _) (fun h=>absurd h (Nat.lt_irrefl _)) (fun i a x h1=>by simp at h1)
theorem Wk.e0 (s:Nat):Wk .e0 (.t 0 s []):=fun X v h=>by
 cases h;exact .t (cvs:=[]) (by simp) rfl (Nat.le_refl _) (Nat.zero_le _) (fun h=>absurd h (Nat.lt_irrefl _)) (fun i a x h1=>by simp at h1)
theorem Wk.agg {l:List Value}:Wk (.v (.agg l.toArray)) (.g (l.map .v)):=fun X v h=>by
 cases h;exact .g (by simp) (fun i a x h1 h2=>by
  rw [List.getElem?_map,h2] at h1;injection h1 with h1;subst h1;exact .v x)
def WkL:List AV→List AV→Prop
 | [],[]=>True
 | a::r,b::s=>Wk a b∧WkL r s
 | _,_=>False
theorem WkL.len: ∀ {l m:List AV},WkL l m→l.length=m.length
 | [],[],_=>rfl
 | _::_,_::_,h=>by simp [WkL.len h.2]
 | [],_::_,h=>h.elim
 | _::_,[],h=>h.elim
theorem WkL.get: ∀ {l m:List AV} (h:WkL l m) (i:Nat) (b:AV),m[i]? =some b→ ∃ a,l[i]? =some a∧Wk a b
 | a::r,b::s,h,0,b',hb=>by simp at hb;subst hb;exact ⟨a,by simp,h.1⟩
 | a::r,b::s,h,i+1,b',hb=>by
  obtain ⟨c,h1,h2⟩:=WkL.get h.2 i b' (by simpa using hb);exact ⟨c,by simpa using h1,h2⟩
 | [],[],h,i,b,hb=>by simp at hb
 | [],_::_,h,_,_,_=>h.elim
 | _::_,[],h,_,_,_=>h.elim
theorem Wk.g {l m:List AV} (h:WkL l m):Wk (.g l) (.g m):=fun X v q=>by
 cases q with
 | g hc hr=>
  refine .g (hc.trans h.len) fun i a x h1 h2=>?_
  obtain ⟨b,e1,e2⟩:=h.get i a h1;exact e2 X x (hr i b x e1 h2)
theorem Wk.tup {l m:List AV} (h:WkL l m):Wk (.tup l) (.tup m):=fun X v q=>by
 cases q with
 | tup hc hr=>
  refine .tup (hc.trans h.len) fun i a x h1 h2=>?_
  obtain ⟨b,e1,e2⟩:=h.get i a h1;exact e2 X x (hr i b x e1 h2)
variable {X:Cx}{l:List AV}
theorem fJ.wk {m:List AV} {vs:List Value} (h:WkL l m) (q:fJ X l vs):fJ X m vs:=⟨q.1.trans h.len,fun i a x h1 h2=>by
 obtain ⟨b,e1,e2⟩:=h.get i a h1;exact e2 X x (q.2 i b x e1 h2)⟩
variable {P:Program}{args args':List AV}{f:FuncId}
theorem TC.wk {res res':AV} (T:TC P f args' res) (ha:WkL args args') (hr:Wk res res'):TC P f args res':=by
 refine ⟨T.1,fun X vs hh hb q=>?_⟩;refine (T.2 X vs hh hb (q.wk ha)).mono ?_;rintro e w' ⟨v,h1,h2,h3⟩;exact ⟨v,h1,h2,fun m=>hr _ _ (h3 m)⟩
theorem TC.res {res res':AV} (T:TC P f args res) (hr:Wk res res'):TC P f args res':=by
 refine ⟨T.1,fun X vs hh hb q=>?_⟩;refine (T.2 X vs hh hb q).mono ?_;rintro e w' ⟨v,h1,h2,h3⟩;exact ⟨v,h1,h2,fun m=>hr _ _ (h3 m)⟩
variable {N n0:Nat}{e:Ev}{h:Hp}
theorem Ent.nil (d:Nat) (T:TypeId) (s:Nat) (hs:0<s) (hd:aO e d= .v (.slice none 0 0)):Ent n0 N e h ((d, .own h.length 0)::e) (h++[some (.arr T s [] 0)]):=fun X a hh hn hX hE=>by
 obtain ⟨Y,y1,y2,y3,y4,y5⟩:=Hq hX T s hs;rw [hh] at y4 y5;refine ⟨Y,y1,y4,y2.toN (hh▸hn),y3,hE.defers.trans y2.dse.symm,hE.size,fun k=>?_⟩;show Rep Y (if d=k then .own h.length 0 else aO e k) _;by_cases hk:d=k
 ·subst hk;rw [if_pos rfl];have:=hE.rep d;rw [hd] at this;generalize a.tmps.getD d undef=u at this ⊢;cases this;exact y5
 ·rw [if_neg hk];exact (hE.rep k).mono y2
theorem jU {L:List Nat} {ks:List (Nat × Nat)} {σ:Type} (env:σ→Ev) (hp:σ→Hp) (inv:σ→Prop) (ms:σ→Nat) (s0:σ) {b:Code} {Q:dA}   (hi:inv s0) (he:Ent (base ks) N e h (env s0) (hp s0))
  (hr: ∀ s,inv s→bP P N L ks b (J9 ks N env hp inv ms (ms s) Q) (env s) (hp s)):bP P N L ks (.loop b) Q e h:=by
 refine ⟨fun n e h=> ∃ s,e=env s∧h=hp s∧inv s∧n=ms s,ms s0,_,_,he,⟨s0,rfl,rfl,hi,rfl⟩,?_⟩;rintro n e' h' ⟨s,rfl,rfl,hs,rfl⟩;exact hr s hs
variable {x:Value}
theorem ak8 :Clo (.v x)=True:=eq_true (.v x)
theorem YC:Clo .none=True:=eq_true .none
theorem ahM:Clo .e0=True:=eq_true .e0
variable {n s:Nat}
theorem ak9 :Clo (.t n s l)= ∀ a,a∈l→Clo a:=propext ⟨fun h=>by cases h with | t h=>exact h,fun h=> .t h⟩
theorem ala :Clo (.g l)= ∀ a,a∈l→Clo a:=propext ⟨fun h=>by cases h with | g h=>exact h,fun h=> .g h⟩
theorem ady :Clo (.tup l)= ∀ a,a∈l→Clo a:=propext ⟨fun h=>by cases h with | tup h=>exact h,fun h=> .tup h⟩
theorem ahN {f:Fn} {l1 l2:List AV}:Clo (.fn f l1 l2)=((∀ a,a∈l1→Clo a)∧ ∀ a,a∈l2→Clo a):=propext ⟨fun h=>by cases h with | fn h1 h2=>exact ⟨h1,h2⟩,fun h=> .fn h.1 h.2⟩
variable {T:TypeId}
theorem adz :Clo (.ifc T a)=Clo a:=propext ⟨fun h=>by cases h with | ifc h=>exact h,fun h=> .ifc h⟩
theorem adA:(∀ a,a∈([]:List AV)→Clo a)=True:=eq_true (fun a h=>by cases h)
theorem YD :(∀ a,a∈b::l→Clo a)=(Clo b∧ ∀ a,a∈l→Clo a):=propext ⟨fun h=>⟨h b (List.mem_cons_self ..),fun a ha=>h a (List.mem_cons_of_mem _ ha)⟩,fun h a ha=>by
 rcases List.mem_cons.1 ha with rfl | ha
 ·exact h.1
 ·exact h.2 a ha⟩
theorem adB {f:Nat→AV}:(∀ a,a∈tab n f→Clo a)= ∀ i,i<n→Clo (f i):=propext ⟨fun h i hi=>h _ (List.mem_map.2 ⟨i,List.mem_range.2 hi,rfl⟩),fun h a ha=>by
 obtain ⟨i,hi,rfl⟩:=List.mem_map.1 ha;exact h i (List.mem_range.1 hi)⟩
theorem adC {α:Type} {l:List α} {f:α→AV}:(∀ a,a∈l.map f→Clo a)= ∀ x,x∈l→Clo (f x):=propext ⟨fun h x hx=>h _ (List.mem_map.2 ⟨x,hx,rfl⟩),fun h a ha=>by
 obtain ⟨x,hx,rfl⟩:=List.mem_map.1 ha;exact h x hx⟩
variable {id:Nat}
theorem YE (hX:Ok X) {off:Nat} {cells:List AV}  (h:X.h[id]? =some (some (.blk cells))) (ha:cells[off]? =some a) (hab: ∀ x,Rep X a x→Rep X b x):
  ∃ Y,Y.w=X.w∧Y.m=X.m∧Y.h=X.h.set id (some (.blk (cells.set off b)))∧Step X Y∧Ok Y:=by
 have hid:id<X.h.length:=(List.getElem?_eq_some_iff.1 h).1;have S:Step X ⟨X.w,X.m,X.h.set id (some (.blk (cells.set off b))),X.bad,X.ds⟩:=by
  refine ⟨rfl,rfl,rfl,Nat.le_refl _,fun _ _ _=>rfl,fun _ _ _ h1 h2=>⟨h1,h2⟩,by simp,fun i T s c f _ hi=>?_,fun i c _ hi=>?_,fun c hc=>?_,fun _ _ hb=> .inl hb,fun i c _ hi=>?_,rfl⟩
  ·by_cases e:i=id
   ·subst e;simp only at hi;rw [List.getElem?_set_self hid] at hi;injection hi with hi;cases hi
   ·simp only at hi;rw [cu e] at hi;exact ⟨c,f,hi,Nat.le_refl _,fun _=>rfl⟩
  ·by_cases e:i=id
   ·subst e;exact ⟨cells,h,rfl⟩
   ·simp only at hi;rw [cu e] at hi;exact ⟨c,hi,rfl⟩
  ·obtain ⟨i,⟨o,ho⟩,hc⟩:=hc;by_cases e:i=id
   ·subst e;exact .inr ⟨i,⟨_,h⟩,hc⟩
   ·simp only at ho;rw [cu e] at ho;exact .inr ⟨i,⟨o,ho⟩,hc⟩
  ·by_cases e:i=id
   ·subst e;simp only at hi;rw [List.getElem?_set_self hid] at hi;injection hi with hi;cases hi
   ·simp only at hi;rw [cu e] at hi;exact ⟨c,hi,rfl⟩
 have live: ∀ i,Cx.live ⟨X.w,X.m,X.h.set id (some (.blk (cells.set off b))),X.bad,X.ds⟩ i→X.live i:=fun i ⟨o,ho⟩=>by
  by_cases e:i=id
  ·subst e;exact ⟨_,h⟩
  ·simp only at ho;rw [cu e] at ho;exact ⟨o,ho⟩
 refine ⟨⟨X.w,X.m,X.h.set id (some (.blk (cells.set off b))),X.bad,X.ds⟩,rfl,rfl,rfl,S,fun i c hi=>?_,fun i T' s c fz hi=>?_,fun i j c hi hj=>hX.inj i j c (live i hi) (live j hj),hX.dX,fun i es hi=>?_⟩
 ·by_cases e:i=id
  ·subst e;simp only at hi;rw [List.getElem?_set_self hid] at hi;injection hi with hi;injection hi with hi;injection hi with hi;subst hi;obtain ⟨g,cvs,T',h1,h2,h3,h4,h5⟩:=hX.blk i cells h;refine ⟨g,cvs,T',h1,h2,by simpa using h3,h4,fun j a' x q1 q2=>?_⟩;suffices hx:Rep X a' x from hx.mono S
   rw [List.getElem?_set] at q1;split at q1
   ·next hj=>
    subst hj;split at q1
    ·injection q1 with q1;subst q1;exact hab x (h5 _ a x ha q2)
    ·cases q1
   ·exact h5 j a' x q1 q2
  ·simp only at hi;rw [cu e] at hi;obtain ⟨g,cvs,T',h1,h2,h3,h4,h5⟩:=hX.blk i c hi;exact ⟨g,cvs,T',h1,h2,h3,h4,fun j a' x q1 q2=>(h5 j a' x q1 q2).mono S⟩
 ·by_cases e:i=id
  ·subst e;simp only at hi;rw [List.getElem?_set_self hid] at hi;injection hi with hi;cases hi
  ·simp only at hi;rw [cu e] at hi;obtain ⟨g1,g2,n,g3,g4⟩:=hX.arr i T' s c fz hi;refine ⟨g1,g2,n,g3,?_⟩;rcases g4 with g4 | ⟨g,cvs,g4⟩
   ·exact .inl g4
   ·exact .inr ⟨g,cvs,⟨g4.at_,g4.blk,g4.cap,g4.iQ,g4.sz,g4.bad,fun j a' x q1 q2=>(g4.rep j a' x q1 q2).mono S,g4.good⟩⟩
 ·by_cases e:i=id
  ·subst e;simp only at hi;rw [List.getElem?_set_self hid] at hi;injection hi with hi;cases hi
  ·simp only at hi;rw [cu e] at hi;obtain ⟨g,ents,clock,h1,h2,h3⟩:=hX.map i es hi;exact ⟨g,ents,clock,h1,h2,h3.mono S⟩
theorem Ent.adD (id off:Nat) (T:TypeId) (s:Nat) (cells:List AV) (hs:0<s) (hc:h[id]? =some (some (.blk cells))) (hd:cells[off]? =some (.v (.slice none 0 0))):
  Ent n0 N e h e ((h++[some (Ob.arr T s [] 0)]).set id (some (.blk (cells.set off (.own h.length 0))))):=fun X a hh hn hX hE=>by
 obtain ⟨Y,y1,y2,y3,y4,y5⟩:=Hq hX T s hs;rw [hh] at y4 y5;have hid:id<h.length:=(List.getElem?_eq_some_iff.1 hc).1;obtain ⟨Z,z1,z2,z3,z4,z5⟩:=YE (a:= .v (.slice none 0 0)) (b:= .own h.length 0) y3 (id:=id) (off:=off) (cells:=cells) (by rw [y4,List.getElem?_append_left hid];exact hc) hd (fun x q=>by cases q;exact y5);exact ⟨Z,z1.trans y1,by rw [z3,y4],(y2.trans hX z4).toN (hh▸hn),z5,hE.mono (y2.trans hX z4)⟩
theorem Ent.cell (id off:Nat) (cells:List AV) (a b:AV) (hc:h[id]? =some (some (.blk cells))) (ha:cells[off]? =some a) (hw:Wk a b):
  Ent n0 N e h e (h.set id (some (.blk (cells.set off b)))):=fun X a' hh hn hX hE=>by
 subst hh;obtain ⟨Z,z1,z2,z3,z4,z5⟩:=YE hX (id:=id) (off:=off) (cells:=cells) hc ha (fun x q=>hw _ _ q);exact ⟨Z,z1,z3,z4.toN hn,z5,hE.mono z4⟩
inductive lo (m:Nat):AV→Prop
 | clo {a:AV} (h:Clo a):lo m a
 | own {id n:Nat} (h:id<m):lo m (.own id n)
 | ptr {id n:Nat} (h:id<m):lo m (.ptr id n)
 | ap {id n o:Nat} (h:id<m):lo m (.ap id n o)
 | mp {id:Nat} (h:id<m):lo m (.mp id)
 | g {l:List AV} (h: ∀ (a:AV),a∈l→lo m a):lo m (.g l)
 | tup {l:List AV} (h: ∀ (a:AV),a∈l→lo m a):lo m (.tup l)
 | fn {f:Fn} {l1 l2:List AV} (h1: ∀ (a:AV),a∈l1→lo m a) (h2: ∀ (a:AV),a∈l2→lo m a):lo m (.fn f l1 l2)
 | ifc {T:TypeId} {a:AV} (h:lo m a):lo m (.ifc T a)
 | tm {es:List (Value × AV)} (h: ∀ (p:Value × AV),p∈es→lo m p.2):lo m (.tm es)
def loE (m:Nat):Ev→Prop
 | []=>True
 | (_,a)::r=>lo m a∧loE m r
def loL (m:Nat) (l:List AV):Prop:= ∀ a,a∈l→lo m a
def loH (m:Nat):Hp→Prop
 | []=>True
 | none::r=>loH m r
 | some (.blk cells)::r=>loL m cells∧loH m r
 | some (.arr _ _ cells _)::r=>loL m cells∧loH m r
 | some (.map es)::r=>loL m (es.map (·.2))∧loH m r
variable {m:Nat}
theorem ahO :lo m (.own id n)=(id<m):=propext ⟨fun h=>(by cases h with | own h=>exact h | clo h=>cases h), .own⟩
theorem ahP :lo m (.ptr id n)=(id<m):=propext ⟨fun h=>(by cases h with | ptr h=>exact h | clo h=>cases h), .ptr⟩
theorem alb {o:Nat}:lo m (.ap id n o)=(id<m):=propext ⟨fun h=>(by cases h with | ap h=>exact h | clo h=>cases h), .ap⟩
theorem alc :lo m (.mp id)=(id<m):=propext ⟨fun h=>(by cases h with | mp h=>exact h | clo h=>cases h), .mp⟩
theorem amQ :lo m (.v x)=True:=eq_true (.clo (.v x))
theorem adE :lo m .none=True:=eq_true (.clo .none)
theorem ald :lo m .e0=True:=eq_true (.clo .e0)
theorem amR :lo m (.t n s l)= ∀ a,a∈l→Clo a:=propext ⟨fun h=>by cases h with | clo h=>cases h with | t h=>exact h,fun h=> .clo (.t h)⟩
theorem amS :lo m (.g l)=loL m l:=propext ⟨fun h=>by
 cases h with
 | g h=>exact h
 | clo h=>cases h with | g h=>exact fun a ha=> .clo (h a ha), .g⟩
theorem ahQ :lo m (.tup l)=loL m l:=propext ⟨fun h=>by
 cases h with
 | tup h=>exact h
 | clo h=>cases h with | tup h=>exact fun a ha=> .clo (h a ha), .tup⟩
theorem ale {f:Fn} {l1 l2:List AV}:lo m (.fn f l1 l2)=(loL m l1∧loL m l2):=propext ⟨fun h=>by
 cases h with
 | fn h1 h2=>exact ⟨h1,h2⟩
 | clo h=>cases h with | fn h1 h2=>exact ⟨fun a ha=> .clo (h1 a ha),fun a ha=> .clo (h2 a ha)⟩,fun h=> .fn h.1 h.2⟩
theorem ahR :lo m (.ifc T a)=lo m a:=propext ⟨fun h=>by
 cases h with
 | ifc h=>exact h
 | clo h=>cases h with | ifc h=>exact .clo h, .ifc⟩
theorem alf {es:List (Value × AV)}:lo m (.tm es)=loL m (es.map (·.2)):=by
 refine propext ⟨fun h=>?_,fun h=> .tm fun p hp=>h _ (List.mem_map.2 ⟨p,hp,rfl⟩)⟩;cases h with
 | tm h=>exact fun a ha=>by obtain ⟨p,hp,rfl⟩:=List.mem_map.1 ha;exact h p hp
 | clo h=>cases h
theorem adF :loE m []=True:=Eq.trans rfl rfl
theorem YF {d:Nat}  {r:Ev}:loE m ((d,a)::r)=(lo m a∧loE m r):=Eq.trans rfl rfl
theorem adG :loL m []=True:=eq_true fun a h=>by cases h
theorem YG :loL m (b::l)=(lo m b∧loL m l):=propext ⟨fun h=>⟨h b (List.mem_cons_self ..),fun a ha=>h a (List.mem_cons_of_mem _ ha)⟩,fun h a ha=>by
 rcases List.mem_cons.1 ha with rfl | ha
 ·exact h.1
 ·exact h.2 a ha⟩
theorem adH {f:Nat→AV}:loL m (tab n f)= ∀ i,i<n→lo m (f i):=propext ⟨fun h i hi=>h _ (List.mem_map.2 ⟨i,List.mem_range.2 hi,rfl⟩),fun h a ha=>by
 obtain ⟨i,hi,rfl⟩:=List.mem_map.1 ha;exact h i (List.mem_range.1 hi)⟩
theorem adI :loH m []=True:=Eq.trans rfl rfl
variable {r:Hp}
theorem YH :loH m (none::r)=loH m r:=Eq.trans rfl rfl
theorem adJ :loH m (some (.blk l)::r)=(loL m l∧loH m r):=Eq.trans rfl rfl
theorem adK {fz:Nat}   :loH m (some (.arr T s l fz)::r)=(loL m l∧loH m r):=Eq.trans rfl rfl
theorem adL {es:List (Value × AV)} :loH m (some (.map es)::r)=(loL m (es.map (·.2))∧loH m r):=Eq.trans rfl rfl
theorem adM {α:Type}  {l:List α} {f:α→AV}:loL m (l.map f)= ∀ x,x∈l→lo m (f x):=propext ⟨fun h x hx=>h _ (List.mem_map.2 ⟨x,hx,rfl⟩),fun h a ha=>by
 obtain ⟨x,hx,rfl⟩:=List.mem_map.1 ha;exact h x hx⟩
theorem P8 : ∀ {e:Ev} (h:loE m e) (d:Nat),lo m (aO e d)
 | [],_,d=> .clo .none
 | (k,a)::r,h,d=>by
  show lo m (if k=d then a else aO r d);split
  ·exact h.1
  ·exact P8 h.2 d
theorem qg      {m : Nat} : ∀ {h : Hp} (hl : loH m h) (i : Nat), (∀ cells, h[i]? = some (some (.blk cells)) → loL m cells) ∧ (∀ T s cells fz, h[i]? = some (some (.arr T s cells fz)) → loL m cells) ∧ (∀ es, h[i]? = some (some (.map es)) → loL m (es.map (·.2)))
  | [], _, i => ⟨fun _ hh => by simp at hh, fun _ _ _ _ hh => by simp at hh, fun _ hh => by simp at hh⟩
  | o :: r, hl, 0 => ⟨fun c hh => by
      simp at hh; subst hh; exact hl.1, fun T s c f hh => by
      simp at hh; subst hh; exact hl.1, fun es hh => by
      simp at hh; subst hh; exact hl.1⟩
  | o :: r, hl, i + 1 => by
    have hr : loH m r := by
      cases o with
      | none => exact hl
      | some o => cases o <;> exact hl.2
    have := qg      hr i;exact ⟨fun c hh => this.1 c (by simpa using hh), fun T s c f hh => this.2.1 T s c f (by simpa using hh), fun es hh => this.2.2 es (by simpa using hh)⟩
theorem Rep.cut (h:Rep X a x) (hl:lo m a):Rep ⟨X.w,X.m,X.h.take m,X.bad,X.ds⟩ a x:=by
 have look: ∀ id,id<m→(X.h.take m)[id]? =X.h[id]? :=fun id hi=>by rw [List.getElem?_take,if_pos hi]
 induction hl generalizing x with
 | clo hc=>exact h.clo hc fun b o u hu hb=>⟨hu,hb⟩
 | own hl=>
  cases h with
  | own hid hh=>
  refine .own (by rw [List.length_take];exact Nat.lt_min.2 ⟨hl,hid⟩) fun T s c f q=>hh T s c f ?_
  rw [←look _ hl];exact q
 | ptr hl=>
  cases h with
  | ptr hid hh=>
  refine .ptr (by rw [List.length_take];exact Nat.lt_min.2 ⟨hl,hid⟩) fun c q=>hh c ?_
  rw [←look _ hl];exact q
 | ap hl=>
  cases h with
  | ap hid hh=>
  refine .ap (by rw [List.length_take];exact Nat.lt_min.2 ⟨hl,hid⟩) fun T s c f q=>hh T s c f ?_
  rw [←look _ hl];exact q
 | mp hl=>
  cases h with
  | mp hid hh=>
  refine .mp (by rw [List.length_take];exact Nat.lt_min.2 ⟨hl,hid⟩) fun es q=>hh es ?_
  rw [←look _ hl];exact q
 | g hl ih=>cases h with | g hc hr=>exact .g hc fun i a x h1 h2=>ih a (List.mem_of_getElem? h1) (hr i a x h1 h2)
 | tup hl ih=>cases h with | tup hc hr=>exact .tup hc fun i a x h1 h2=>ih a (List.mem_of_getElem? h1) (hr i a x h1 h2)
 | fn q1 q2 ih1 ih2=>cases h with | fn h1 h2 r1 r2=>exact .fn h1 h2 (fun i a x k1 k2=>ih1 a (List.mem_of_getElem? k1) (r1 i a x k1 k2)) (fun i a x k1 k2=>ih2 a (List.mem_of_getElem? k1) (r2 i a x k1 k2))
 | ifc hl ih=>cases h with | ifc h=>exact .ifc (ih h)
 | tm hl ih=>
  cases h with
  | tm hb hn hl hk hr=>
  refine .tm hb (fun ⟨i,⟨o,ho⟩,he⟩=>hn ⟨i,⟨o,?_⟩,he⟩) hl hk fun i p e h1 h2=>ih p (List.mem_of_getElem? h1) (hr i p e h1 h2)
  simp only at ho;rw [List.getElem?_take] at ho;split at ho
  ·exact ho
  ·cases ho
theorem Ent.cut {e':Ev}  (m:Nat) (hm:n0≤m) (hf:wC e' e) (he:loE m e') (hh:loH m (h.take m)):Ent n0 N e h e' (h.take m):=fun X a hX0 hn hX hE=>by
 subst hX0;have sub: ∀ (i:Nat) (o:Option Ob),(X.h.take m)[i]? =some o→i<m∧X.h[i]? =some o:=fun i o q=>by
  rw [List.getElem?_take] at q;split at q
  ·next hi=>exact ⟨hi,q⟩
  ·cases q
 refine ⟨⟨X.w,X.m,X.h.take m,X.bad,X.ds⟩,rfl,rfl,?_,?_,hE.defers,hE.size,fun d=>?_⟩
 ·refine ⟨rfl,rfl,rfl,Nat.le_refl _,fun _ _ _=>rfl,fun _ _ _ h1 h2=>⟨h1,h2⟩,(by simp;exact Nat.le_min.2 ⟨hm,hn⟩),fun i T s c f _ hi=>⟨c,f,(sub i _ hi).2,Nat.le_refl _,fun _=>rfl⟩,fun i c _ hi=>⟨c,(sub i _ hi).2,rfl⟩,fun b hb=>?_,fun _ _ hb=> .inl hb,fun i c _ hi=>⟨c,(sub i _ hi).2,rfl⟩,rfl⟩
  ·obtain ⟨i,⟨o,ho⟩,hb⟩:=hb;exact .inr ⟨i,⟨o,(sub i _ ho).2⟩,hb⟩
 ·refine ⟨fun id cells hi=>?_,fun id T' s cells fz hi=>?_,fun i j b hi hj=>?_,hX.dX,fun id es hi=>?_⟩
  ·obtain ⟨b,cvs,T',h1,h2,h3,h4,h5⟩:=hX.blk id cells (sub id _ hi).2;exact ⟨b,cvs,T',h1,h2,h3,h4,fun j a x q1 q2=>Rep.cut (h5 j a x q1 q2) ((qg hh id).1 cells hi a (List.mem_of_getElem? q1))⟩
  ·obtain ⟨g1,g2,n,g3,g4⟩:=hX.arr id T' s cells fz (sub id _ hi).2;refine ⟨g1,g2,n,g3,?_⟩;rcases g4 with g4 | ⟨b,cvs,g4⟩
   ·exact .inl g4
   ·exact .inr ⟨b,cvs,⟨g4.at_,g4.blk,g4.cap,g4.iQ,g4.sz,g4.bad,fun j a x q1 q2=>Rep.cut (g4.rep j a x q1 q2) ((qg hh id).2.1 T' s cells fz hi a (List.mem_of_getElem? q1)),g4.good⟩⟩
  ·obtain ⟨o,ho⟩:=hi;obtain ⟨o',ho'⟩:=hj;exact hX.inj i j b ⟨o,(sub i _ ho).2⟩ ⟨o',(sub j _ ho').2⟩
  ·obtain ⟨b,ents,clock,h1,h2,h3,h4⟩:=hX.map id es (sub id _ hi).2;exact ⟨b,ents,clock,h1,h2,h3,fun j p e q1 q2=>⟨(h4 j p e q1 q2).1,Rep.cut (h4 j p e q1 q2).2 ((qg hh id).2.2 es hi _ (List.mem_map.2 ⟨p,List.mem_of_getElem? q1,rfl⟩))⟩⟩
 ·rcases wE hf d with q | q
  ·have:=hE.rep d;rw [←q] at this;exact Rep.cut this (P8 he d)
  ·rw [q];exact .none _
theorem iO {ks:List (Nat × Nat)}  {σ:Type} {env:σ→Ev} {hp:σ→Hp} {inv:σ→Prop} {ms:σ→Nat}  {Q:dA}   (s:σ) (m:Nat) (hb:base ks≤m) (hi:inv s) (hm:ms s<n) (hh:h.take m=hp s) (he:wC (env s) e) (hl:loE m (env s)) (hL:loH m (hp s)):J9 ks N env hp inv ms n Q .normal e h:=
 NJ s (hh▸Ent.cut m hb he hl (hh▸hL)) hi hm
variable {K p₀:AV→Hp→Prop}{cap fst:List AV}{fid:FuncId}
theorem aJ {R p:AV→Hp→Prop} (T:HTP P fid (fst++args++cap) h R p) (hK: ∀ av h',R av h'→K av h') (hp: ∀ av h',p av h'→p₀ av h'):zI P p₀ K h (.fn (.func fid) fst cap) args:=
 ⟨fid,fst,cap,rfl,T.mono hK hp⟩
theorem aB {R:AV→Hp→Prop} (T:HT P fid (fst++args++cap) h R) (hK: ∀ av h',R av h'→K av h'):zI P p₀ K h (.fn (.func fid) fst cap) args:=
 ⟨fid,fst,cap,rfl,(T.toP p₀).mono hK fun _ _ q=>q⟩
theorem ak {h':Hp}   {res:AV} (T:TC P fid args' res) (hcl:closeWith dY h args=some (args',h')) (hc: ∀ (a:AV),a∈args'→Clo a) (hres:Clo res) (hK:K res h'):zI P p₀ K h (.fn (.func fid) [] []) args:=by
 refine aB (R:=fun r h2=>r=res∧h2=h') ?_ ?_
 ·rw [List.nil_append,List.append_nil];exact HT.PZ T hcl hc hres
 ·rintro av h2 ⟨rfl,rfl⟩;exact hK
def sCl (args':List AV) (K:Hp→Prop) (o:Option (List AV × Hp)):Prop:= ∃ a h,o=some (a,h)∧a=args'∧K h
theorem iE {a:List AV} {K:Hp→Prop}  (ha:a=args') (hK:K h):sCl args' K (some (a,h)):=⟨a,h,rfl,ha,hK⟩
theorem jV {res:AV} (T:TC P fid args' res) (hc: ∀ (a:AV),a∈args'→Clo a) (hres:Clo res) (hcl:sCl args' (K res) (closeWith dY h args)):zI P p₀ K h (.fn (.func fid) [] []) args:=by
 obtain ⟨a,h',e,rfl,hK⟩:=hcl;exact ak T e hc hres hK
theorem P9 {h':Hp}  {args2:List AV} {res:AV} (T:TC P fid args' res) (hcl:closeWith dY h args=some (args2,h')) (hw:WkL args2 args') (hc: ∀ (a:AV),a∈args2→Clo a) (hres:Clo res) (hK:K res h'):zI P p₀ K h (.fn (.func fid) [] []) args:=
 ak (T.wk hw (Wk.refl _)) hcl hc hres hK
theorem dD {K:AV→Prop}    {res:AV} {p:AV→Hp→Prop} (T:HTP P fid (fst++args++cap) h (fun r h'=>r=res∧h'=h) p) (hK:K res) (hp: ∀ av h',p av h'→p₀ av h'):P5 P p₀ K h (.fn (.func fid) fst cap) args:=
 ⟨fid,fst,cap,rfl,res,T.mono (fun _ _ q=>q) hp,hK⟩
theorem zJ {a':AV} (hv:CU h a=some a') (hc:Clo a'):fD h a=some (a',h):=by
 unfold CU at hv;split at hv
 ·next id n=>
  split at hv
  ·next T s cells fz hh=>
   split at hv
   ·next hcond=>
    injection hv with hv;subst hv;unfold fD;simp only [hh,hcond.1,if_true];rw [vT (by rw [hh,hcond.2,hcond.1])]
   ·cases hv
  ·cases hv
 ·next hne=>
  injection hv with hv;subst hv;cases hc<;>rfl
theorem sQ {f:Hp→AV→Option (AV × Hp)} {g:AV→Option AV} {h:Hp} (hf: ∀ a a',g a=some a'→Clo a'→f h a=some (a',h)): ∀ (l l':List AV),EI g l=some l'→(∀ (a:AV),a∈l'→Clo a)→closeWith f h l=some (l',h)
 | [],l',hm,_=>by
  simp only [EI] at hm;injection hm with hm;subst hm;rfl
 | a::r,l',hm,hc=>by
  simp only [EI] at hm;split at hm
  ·next a' r' h1 h2=>
   injection hm with hm;subst hm;have i1:=hf a a' h1 (hc a' (List.mem_cons_self ..));have i2:=sQ hf r r' h2 fun b hb=>hc b (List.mem_cons_of_mem _ hb)
   simp only [closeWith,i1,i2]
  ·cases hm
theorem zK {a':AV} (hv:uy h a=some a') (hc:Clo a'):dY h a=some (a',h):=by
 unfold uy at hv;split at hv
 ·next l=>
  cases hl:EI (CU h) l with
  | none=>rw [hl] at hv;cases hv
  | some l'=>
   rw [hl] at hv;injection hv with hv;subst hv;cases hc with
   | g hc=>
   unfold dY;simp only [sQ (f:=fD) (g:=CU h) (h:=h) (fun a a'=>zJ) l l' hl hc,Option.map_some]
 ·next hne=>
  have:=zJ hv hc;unfold dY;split
  ·next l=>exact absurd rfl (hne l)
  ·exact this
theorem eU {K:AV→Prop}    {res:AV} (T:TC P fid args' res) (hv:JO h args=some args') (hc: ∀ (a:AV),a∈args'→Clo a) (hres:Clo res) (hK:K res):P5 P p₀ K h (.fn (.func fid) [] []) args:=by
 refine dD (p:=fun _ _=>False) ?_ hK (fun _ _ q=>q.elim);rw [List.nil_append,List.append_nil];exact (HT.PZ T (sQ (f:=dY) (g:=uy h) (fun a a'=>zK) args args' hv hc) hc hres).toP _
theorem TC.calls {res:AV} (T:TC P f args res) {w:World} {vs:List Value} (hr:fJ ⟨w,fun _=>(none,0),[],fun _ _=>False,[]⟩ args vs):
  Calls P f vs.toArray w fun e w'=> ∃ v,e= .returned v∧Below w.heap.size w w'∧Rep ⟨w',fun _=>(none,0),[],fun _ _=>False,[]⟩ res v:=by
 refine (T.2 ⟨w,fun _=>(none,0),[],fun _ _=>False,[]⟩ vs rfl (fun _ _ h=>h.elim) hr).mono ?_;rintro e w' ⟨v,h1,h2,h3⟩;exact ⟨v,h1,h2,h3 _⟩
end
section
open Go.RowKit
theorem adN {X:Cx} {m:Nat} (hX:Ok X) (hm:m≤X.h.length) (hh:loH m (X.h.take m)): ∃ Y,Y.w=X.w∧Y.h=X.h.take m∧aT m X Y∧Ok Y∧ ∀ (a:AV) (x:Value),lo m a→Rep X a x→Rep Y a x:=by
 have hE:aN X 0 [] {tmps:= #[],defers:=X.ds}:=⟨rfl,rfl,fun d=> .none _⟩
 have:=Ent.cut (n0:=m) (N:=0) (e:=[]) (e':=[]) (h:=X.h) m (Nat.le_refl _) trivial trivial hh X _ rfl hm hX hE;obtain ⟨Y,y1,y2,y3,y4,y5⟩:=this;refine ⟨⟨X.w,X.m,X.h.take m,X.bad,X.ds⟩,rfl,rfl,?_,?_,fun a x hl hr=>hr.cut hl⟩
 ·have sub: ∀ (i:Nat) (o:Option Ob),(X.h.take m)[i]? =some o→i<m∧X.h[i]? =some o:=fun i o q=>by
   rw [List.getElem?_take] at q;split at q
   ·next hi=>exact ⟨hi,q⟩
   ·cases q
  refine ⟨rfl,rfl,rfl,Nat.le_refl _,fun _ _ _=>rfl,fun _ _ _ h1 h2=>⟨h1,h2⟩,(by simp;omega),fun i T s c f _ hi=>⟨c,f,(sub i _ hi).2,Nat.le_refl _,fun _=>rfl⟩,fun i c _ hi=>⟨c,(sub i _ hi).2,rfl⟩,fun b hb=>?_,fun _ _ hb=> .inl hb,fun i c _ hi=>⟨c,(sub i _ hi).2,rfl⟩,rfl⟩;obtain ⟨i,⟨o,ho⟩,hb⟩:=hb;exact .inr ⟨i,⟨o,(sub i _ ho).2⟩,hb⟩
 ·have sub: ∀ (i:Nat) (o:Option Ob),(X.h.take m)[i]? =some o→i<m∧X.h[i]? =some o:=fun i o q=>by
   rw [List.getElem?_take] at q;split at q
   ·next hi=>exact ⟨hi,q⟩
   ·cases q
  refine ⟨fun id cells hi=>?_,fun id T' s cells fz hi=>?_,fun i j b hi hj=>?_,hX.dX,fun id es hi=>?_⟩
  ·obtain ⟨b,cvs,T',h1,h2,h3,h4,h5⟩:=hX.blk id cells (sub id _ hi).2;exact ⟨b,cvs,T',h1,h2,h3,h4,fun j a x q1 q2=>Rep.cut (h5 j a x q1 q2) ((qg hh id).1 cells hi a (List.mem_of_getElem? q1))⟩
  ·obtain ⟨g1,g2,n,g3,g4⟩:=hX.arr id T' s cells fz (sub id _ hi).2;refine ⟨g1,g2,n,g3,?_⟩;rcases g4 with g4 | ⟨b,cvs,g4⟩
   ·exact .inl g4
   ·exact .inr ⟨b,cvs,⟨g4.at_,g4.blk,g4.cap,g4.iQ,g4.sz,g4.bad,fun j a x q1 q2=>Rep.cut (g4.rep j a x q1 q2) ((qg hh id).2.1 T' s cells fz hi a (List.mem_of_getElem? q1)),g4.good⟩⟩
  ·obtain ⟨o,ho⟩:=hi;obtain ⟨o',ho'⟩:=hj;exact hX.inj i j b ⟨o,(sub i _ ho).2⟩ ⟨o',(sub j _ ho').2⟩
  ·obtain ⟨b,ents,clock,h1,h2,h3,h4⟩:=hX.map id es (sub id _ hi).2;exact ⟨b,ents,clock,h1,h2,h3,fun j p e q1 q2=>⟨(h4 j p e q1 q2).1,Rep.cut (h4 j p e q1 q2).2 ((qg hh id).2.2 es hi _ (List.mem_map.2 ⟨p,List.mem_of_getElem? q1,rfl⟩))⟩⟩
variable {P:Program}{args:List AV}{f:FuncId}{h:Hp}
theorem HTP.cut {R p:AV→Hp→Prop} (T:HTP P f args h R p) (hR: ∀ r h',R r h'→lo h.length r∧loH h.length (h'.take h.length)) (hp: ∀ r h',p r h'→lo h.length r∧loH h.length (h'.take h.length)):
  HTP P f args h (fun r h2=> ∃ h',R r h'∧h2=h'.take h.length) (fun r h2=> ∃ h',p r h'∧h2=h'.take h.length):=by
 refine ⟨T.1,fun X vs hX hh hr=>(T.2 X vs hX hh hr).mono ?_⟩;subst hh;rintro e w' ⟨v,Y,av,rfl,S,hY,hv,hq⟩;have key:lo X.h.length av→loH X.h.length (Y.h.take X.h.length)→ ∃ Z:Cx,Z.w=Y.w∧Step X Z∧Ok Z∧Rep Z av v∧Z.h=Y.h.take X.h.length:=fun h1 h2=>by
  obtain ⟨Z,z1,z2,z3,z4,z5⟩:=adN hY S.len h2;have S2:aT X.h.length X Z:=(S.toN (Nat.le_refl _)).trans hX z3;exact ⟨Z,z1,S2.full,z4,z5 _ _ h1 hv,z2⟩
 rcases hq with ⟨rfl,hq⟩ | ⟨rfl,hq⟩
 ·obtain ⟨Z,z1,z2,z3,z4,z5⟩:=key (hR _ _ hq).1 (hR _ _ hq).2;exact ⟨v,Z,av,z1,z2,z3,z4, .inl ⟨rfl,Y.h,hq,z5⟩⟩
 ·obtain ⟨Z,z1,z2,z3,z4,z5⟩:=key (hp _ _ hq).1 (hp _ _ hq).2;exact ⟨v,Z,av,z1,z2,z3,z4, .inr ⟨rfl,Y.h,hq,z5⟩⟩
def RD (P:Program) (f:FuncId) (args:List AV) (h:Hp) (R p:AV→Prop):Prop:=HTP P f args h (fun r h'=>R r∧h'=h) (fun r h'=>p r∧h'=h)
theorem RD.of {R p:AV→Prop} (T:HTP P f args h (fun r h'=>R r∧h'.take h.length=h) (fun r h'=>p r∧h'.take h.length=h)) (hR: ∀ r,R r→lo h.length r) (hp: ∀ r,p r→lo h.length r) (hh:loH h.length h):RD P f args h R p:=by
 refine (T.cut (fun r h' q=>⟨hR r q.1,by rw [q.2];exact hh⟩) (fun r h' q=>⟨hp r q.1,by rw [q.2];exact hh⟩)).mono ?_ ?_
 ·rintro r h2 ⟨h',⟨q1,q2⟩,rfl⟩;exact ⟨q1,q2⟩
 ·rintro r h2 ⟨h',⟨q1,q2⟩,rfl⟩;exact ⟨q1,q2⟩
inductive Rn (σ:Nat→Nat) (n:Nat):AV→AV→Prop
 | clo {a:AV} (h:Clo a):Rn σ n a a
 | own {id k:Nat} (h:id<n):Rn σ n (.own id k) (.own (σ id) k)
 | ptr {id o:Nat} (h:id<n):Rn σ n (.ptr id o) (.ptr (σ id) o)
 | ap {id k o:Nat} (h:id<n):Rn σ n (.ap id k o) (.ap (σ id) k o)
 | mp {id:Nat} (h:id<n):Rn σ n (.mp id) (.mp (σ id))
 | g {l l':List AV} (hl:l.length=l'.length) (h: ∀ (i:Nat) (a b:AV),l[i]? =some a→l'[i]? =some b→Rn σ n a b):Rn σ n (.g l) (.g l')
 | fn {f:Fn} {l l' k k':List AV} (hl:l.length=l'.length) (hk:k.length=k'.length) (h1: ∀ (i:Nat) (a b:AV),l[i]? =some a→l'[i]? =some b→Rn σ n a b) (h2: ∀ (i:Nat) (a b:AV),k[i]? =some a→k'[i]? =some b→Rn σ n a b):Rn σ n (.fn f l k) (.fn f l' k')
def RnL (σ:Nat→Nat) (n:Nat):List AV→List AV→Prop
 | [],[]=>True
 | a::l,b::l'=>Rn σ n a b∧RnL σ n l l'
 | _,_=>False
variable {n:Nat}{σ:Nat→Nat}
theorem RnL.len : ∀ {l l':List AV},RnL σ n l l'→l.length=l'.length
 | [],[],_=>rfl
 | _::_,_::_,h=>by simp [RnL.len h.2]
 | [],_::_,h=>h.elim
 | _::_,[],h=>h.elim
theorem RnL.get : ∀ {l l':List AV} (h:RnL σ n l l') (i:Nat) (a b:AV),l[i]? =some a→l'[i]? =some b→Rn σ n a b
 | _::_,_::_,h,0,a,b,h1,h2=>by simp at h1 h2;subst h1 h2;exact h.1
 | _::_,_::_,h,i+1,a,b,h1,h2=>RnL.get h.2 i a b (by simpa using h1) (by simpa using h2)
 | [],[],_,_,_,_,h1,_=>by simp at h1
 | [],_::_,h,_,_,_,_,_=>h.elim
 | _::_,[],h,_,_,_,_,_=>h.elim
theorem RnL.clo : ∀ {l:List AV},(∀ (a:AV),a∈l→Clo a)→RnL σ n l l
 | [],_=>trivial
 | a::r,h=>⟨.clo (h a (List.mem_cons_self ..)),RnL.clo fun b hb=>h b (List.mem_cons_of_mem _ hb)⟩
def RnO (σ:Nat→Nat) (n:Nat):Ob→Ob→Prop
 | .blk c, .blk c'=>RnL σ n c c'
 | .arr T s c fz, .arr T' s' c' fz'=>T=T'∧s=s'∧fz=fz'∧RnL σ n c c'
 | .map es, .map es'=>es.map (·.1)=es'.map (·.1)∧RnL σ n (es.map (·.2)) (es'.map (·.2))
 | _,_=>False
structure Br (σ:Nat→Nat) (A B:Cx):Prop where
 w:A.w=B.w
 bad:A.bad=B.bad
 inj: ∀ i j,i<A.h.length→j<A.h.length→σ i=σ j→i=j
 lt: ∀ i,i<A.h.length→σ i<B.h.length
 obj: ∀ i o,A.h[i]? =some (some o)→ ∃ o',B.h[σ i]? =some (some o')∧RnO σ A.h.length o o'
 bk: ∀ i o',i<A.h.length→B.h[σ i]? =some (some o')→ ∃ o,A.h[i]? =some (some o)
 fst: ∀ i,A.live i→(A.m i).1=(B.m (σ i)).1
 arr: ∀ i T s c fz,A.h[i]? =some (some (.arr T s c fz))→A.m i=B.m (σ i)
variable {A:Cx}
theorem Br.mine {B:Cx} (h:Br σ A B) {b:Nat} (hb:A.mine b):B.mine b:=by
 obtain ⟨i,⟨o,ho⟩,he⟩:=hb;obtain ⟨o',h1,_⟩:=h.obj i o ho;exact ⟨σ i,⟨o',h1⟩,by rw [←h.fst i ⟨o,ho⟩];exact he⟩
variable {a:AV}
theorem Br.down {B:Cx} (h:Br σ A B) {b:AV} {v:Value} (hn:Rn σ A.h.length a b) (hr:Rep B b v):Rep A a v:=by
 induction hn generalizing v with
 | clo hc=>exact hr.clo hc fun c o u hu hb=>⟨by rw [h.w];exact hu,by rw [h.bad];exact hb⟩
 | own hid=>
  cases hr with
  | own EF k=>
  refine .own hid fun T s c fz hh=>?_
  obtain ⟨o',h1,h2⟩:=h.obj _ _ hh;cases o'<;>simp only [RnO] at h2<;>try exact h2.elim
  obtain ⟨rfl,rfl,rfl,h2⟩:=h2;obtain ⟨k1,k2⟩:=k _ _ _ _ h1;rw [h.arr _ _ _ _ _ hh,h2.len];exact ⟨k1,k2⟩
 | ptr hid=>
  cases hr with
  | ptr EF k=>
  refine .ptr hid fun c hh=>?_
  obtain ⟨o',h1,h2⟩:=h.obj _ _ hh;cases o'<;>simp only [RnO] at h2<;>try exact h2.elim
  rw [h.fst _ ⟨_,hh⟩];exact k _ h1
 | ap hid=>
  cases hr with
  | ap EF k=>
  refine .ap hid fun T s c fz hh=>?_
  obtain ⟨o',h1,h2⟩:=h.obj _ _ hh;cases o'<;>simp only [RnO] at h2<;>try exact h2.elim
  obtain ⟨rfl,rfl,rfl,h2⟩:=h2;obtain ⟨k1,k2⟩:=k _ _ _ _ h1;rw [h.arr _ _ _ _ _ hh,h2.len];exact ⟨k1,k2⟩
 | mp hid=>
  cases hr with
  | mp EF k=>
  refine .mp hid fun c hh=>?_
  obtain ⟨o',h1,h2⟩:=h.obj _ _ hh;cases o'<;>simp only [RnO] at h2<;>try exact h2.elim
  rw [h.fst _ ⟨_,hh⟩];exact k _ h1
 | @g l l' hl hh ih=>
  cases hr with
  | g hc hr=>
  refine .g (by omega) fun i a x h1 h2=>?_
  obtain ⟨b,hb⟩: ∃ b,l'[i]? =some b:=⟨_,List.getElem?_eq_getElem (by have:=(List.getElem?_eq_some_iff.1 h1).1;omega)⟩
  exact ih i a b h1 hb (hr i b x hb h2)
 | @fn f l l' k k' hl hk h1 h2 ih1 ih2=>
  cases hr with
  | fn q1 q2 r1 r2=>
  refine .fn (by omega) (by omega) (fun i a x e1 e2=>?_) (fun i a x e1 e2=>?_)
  ·obtain ⟨b,hb⟩: ∃ b,l'[i]? =some b:=⟨_,List.getElem?_eq_getElem (by have:=(List.getElem?_eq_some_iff.1 e1).1;omega)⟩
   exact ih1 i a b e1 hb (r1 i b x hb e2)
  ·obtain ⟨b,hb⟩: ∃ b,k'[i]? =some b:=⟨_,List.getElem?_eq_getElem (by have:=(List.getElem?_eq_some_iff.1 e1).1;omega)⟩
   exact ih2 i a b e1 hb (r2 i b x hb e2)
theorem Br.up {B:Cx} (h:Br σ A B) {b:AV} {v:Value} (hn:Rn σ A.h.length a b) (hr:Rep A a v):Rep B b v:=by
 induction hn generalizing v with
 | clo hc=>exact hr.clo hc fun c o u hu hb=>⟨by rw [←h.w];exact hu,by rw [←h.bad];exact hb⟩
 | own hid=>
  cases hr with
  | own EF k=>
  refine .own (h.lt _ hid) fun T s c fz hh=>?_
  obtain ⟨o,ho⟩:=h.bk _ _ hid hh;obtain ⟨o',h1,h2⟩:=h.obj _ _ ho;rw [hh] at h1;injection h1 with h1;injection h1 with h1;subst h1;cases o<;>simp only [RnO] at h2<;>try exact h2.elim
  obtain ⟨rfl,rfl,rfl,h2⟩:=h2;obtain ⟨k1,k2⟩:=k _ _ _ _ ho;rw [←h.arr _ _ _ _ _ ho, ←h2.len];exact ⟨k1,k2⟩
 | ptr hid=>
  cases hr with
  | ptr EF k=>
  refine .ptr (h.lt _ hid) fun c hh=>?_
  obtain ⟨o,ho⟩:=h.bk _ _ hid hh;obtain ⟨o',h1,h2⟩:=h.obj _ _ ho;rw [hh] at h1;injection h1 with h1;injection h1 with h1;subst h1;cases o<;>simp only [RnO] at h2<;>try exact h2.elim
  rw [←h.fst _ ⟨_,ho⟩];exact k _ ho
 | ap hid=>
  cases hr with
  | ap EF k=>
  refine .ap (h.lt _ hid) fun T s c fz hh=>?_
  obtain ⟨o,ho⟩:=h.bk _ _ hid hh;obtain ⟨o',h1,h2⟩:=h.obj _ _ ho;rw [hh] at h1;injection h1 with h1;injection h1 with h1;subst h1;cases o<;>simp only [RnO] at h2<;>try exact h2.elim
  obtain ⟨rfl,rfl,rfl,h2⟩:=h2;obtain ⟨k1,k2⟩:=k _ _ _ _ ho;rw [←h.arr _ _ _ _ _ ho, ←h2.len];exact ⟨k1,k2⟩
 | mp hid=>
  cases hr with
  | mp EF k=>
  refine .mp (h.lt _ hid) fun c hh=>?_
  obtain ⟨o,ho⟩:=h.bk _ _ hid hh;obtain ⟨o',h1,h2⟩:=h.obj _ _ ho;rw [hh] at h1;injection h1 with h1;injection h1 with h1;subst h1;cases o<;>simp only [RnO] at h2<;>try exact h2.elim
  rw [←h.fst _ ⟨_,ho⟩];exact k _ ho
 | @g l l' hl hh ih=>
  cases hr with
  | g hc hr=>
  refine .g (by omega) fun i b x h1 h2=>?_
  obtain ⟨a,ha⟩: ∃ a,l[i]? =some a:=⟨_,List.getElem?_eq_getElem (by have:=(List.getElem?_eq_some_iff.1 h1).1;omega)⟩
  exact ih i a b ha h1 (hr i a x ha h2)
 | @fn f l l' k k' hl hk h1 h2 ih1 ih2=>
  cases hr with
  | fn q1 q2 r1 r2=>
  refine .fn (by omega) (by omega) (fun i b x e1 e2=>?_) (fun i b x e1 e2=>?_)
  ·obtain ⟨a,ha⟩: ∃ a,l[i]? =some a:=⟨_,List.getElem?_eq_getElem (by have:=(List.getElem?_eq_some_iff.1 e1).1;omega)⟩
   exact ih1 i a b ha e1 (r1 i a x ha e2)
  ·obtain ⟨a,ha⟩: ∃ a,k[i]? =some a:=⟨_,List.getElem?_eq_getElem (by have:=(List.getElem?_eq_some_iff.1 e1).1;omega)⟩
   exact ih2 i a b ha e1 (r2 i a x ha e2)
theorem Br.alg {B:Cx} (h:Br σ A B) {l l':List AV} {vs:List Value} (hn:RnL σ A.h.length l l') (hr:fJ B l' vs):fJ A l vs:=by
 refine ⟨by rw [hn.len];exact hr.1,fun i a x h1 h2=>?_⟩;obtain ⟨b,hb⟩: ∃ b,l'[i]? =some b:=⟨_,List.getElem?_eq_getElem (by have:=(List.getElem?_eq_some_iff.1 h1).1;have:=hn.len;omega)⟩
 exact h.down (hn.get i a b h1 hb) (hr.2 i b x hb h2)
theorem TY {B:Cx} (h:Br σ A B) {es es':List (Value × AV)} {ents:Array MapEntry} (h1:es.map (·.1)=es'.map (·.1)) (h2:RnL σ A.h.length (es.map (·.2)) (es'.map (·.2))) (hE:oO B es' ents):oO A es ents:=by
 have hl:es.length=es'.length:=by simpa using congrArg List.length h1
 refine ⟨by rw [hE.1,hl],fun i p e q1 q2=>?_⟩;obtain ⟨p',hp'⟩: ∃ p',es'[i]? =some p':=⟨_,List.getElem?_eq_getElem (by have:=(List.getElem?_eq_some_iff.1 q1).1;omega)⟩
 obtain ⟨k1,k2⟩:=hE.2 i p' e hp' q2;have e1:p.1=p'.1:=by
  have:=congrArg (fun l=>l[i]?) h1;simp only [List.getElem?_map,q1,hp',Option.map_some,Option.some.injEq] at this;exact this
 exact ⟨k1.trans e1.symm,h.down (h2.get i _ _ (by rw [List.getElem?_map,q1];rfl) (by rw [List.getElem?_map,hp'];rfl)) k2⟩
theorem adO {B:Cx} (h:Br σ A B) {es es':List (Value × AV)} {ents:Array MapEntry} (h1:es.map (·.1)=es'.map (·.1)) (h2:RnL σ A.h.length (es.map (·.2)) (es'.map (·.2))) (hE:oO A es ents):oO B es' ents:=by
 have hl:es.length=es'.length:=by simpa using congrArg List.length h1
 refine ⟨by rw [hE.1,hl],fun i p' e q1 q2=>?_⟩;obtain ⟨p,hp⟩: ∃ p,es[i]? =some p:=⟨_,List.getElem?_eq_getElem (by have:=(List.getElem?_eq_some_iff.1 q1).1;omega)⟩
 obtain ⟨k1,k2⟩:=hE.2 i p e hp q2;have e1:p.1=p'.1:=by
  have:=congrArg (fun l=>l[i]?) h1;simp only [List.getElem?_map,q1,hp,Option.map_some,Option.some.injEq] at this;exact this
 exact ⟨k1.trans e1,h.up (h2.get i _ _ (by rw [List.getElem?_map,hp];rfl) (by rw [List.getElem?_map,q1];rfl)) k2⟩
theorem Br.ok {B:Cx} (h:Br σ A B) (hB:Ok B):Ok A:=by
 refine ⟨fun id c hh=>?_,fun id T s c fz hh=>?_,fun i j b hi hj ei ej=>?_,fun b o hb=>?_,fun id es hh=>?_⟩
 ·obtain ⟨o',h1,h2⟩:=h.obj _ _ hh;cases o' with
  | blk c'=>
   simp only [RnO] at h2;obtain ⟨b,cvs,T,k1,k2,k3,k4,k5⟩:=hB.blk _ _ h1;refine ⟨b,cvs,T,by rw [h.fst _ ⟨_,hh⟩];exact k1,by rw [h.w];exact k2,by rw [h2.len];exact k3,fun o=>by rw [h.bad];exact k4 o,fun i a x q1 q2=>?_⟩;obtain ⟨a',ha'⟩: ∃ a',c'[i]? =some a':=⟨_,List.getElem?_eq_getElem (by have:=(List.getElem?_eq_some_iff.1 q1).1;have:=h2.len;omega)⟩
   exact h.down (h2.get i a a' q1 ha') (k5 i a' x ha' q2)
  | _=>exact h2.elim
 ·obtain ⟨o',h1,h2⟩:=h.obj _ _ hh;cases o' with
  | arr T' s' c' fz'=>
   simp only [RnO] at h2;obtain ⟨rfl,rfl,rfl,h2⟩:=h2;obtain ⟨g1,g2,n,g3,g4⟩:=hB.arr _ _ _ _ _ h1;rw [←h2.len] at g1 g3;refine ⟨g1,g2,n,g3,?_⟩;rcases g4 with ⟨g4,g5⟩ | ⟨b,cvs,g4⟩
   ·exact .inl ⟨by rw [h.arr _ _ _ _ _ hh];exact g4,List.eq_nil_of_length_eq_zero (by rw [h2.len,g5];rfl)⟩
   ·refine .inr ⟨b,cvs,⟨by rw [h.arr _ _ _ _ _ hh];exact g4.at_,by rw [h.w];exact g4.blk,by rw [h.arr _ _ _ _ _ hh];exact g4.cap,by rw [h.arr _ _ _ _ _ hh];exact g4.iQ,by rw [h.arr _ _ _ _ _ hh];exact g4.sz,fun o ho=>by rw [h.bad];exact g4.bad o ho,fun i a x q1 q2=>?_,fun o ho=>by rw [h.bad];exact g4.good o ho⟩⟩;obtain ⟨a',ha'⟩: ∃ a',c'[i]? =some a':=⟨_,List.getElem?_eq_getElem (by have:=(List.getElem?_eq_some_iff.1 q1).1;have:=h2.len;omega)⟩
    exact h.down (h2.get i a a' q1 ha') (g4.rep i a' x ha' q2)
  | _=>exact h2.elim
 ·obtain ⟨o,ho⟩:=hi;obtain ⟨o',ho'⟩:=hj;obtain ⟨q,h1,_⟩:=h.obj i o ho;obtain ⟨q',h1',_⟩:=h.obj j o' ho';exact h.inj i j (List.getElem?_eq_some_iff.1 ho).1 (List.getElem?_eq_some_iff.1 ho').1 (hB.inj _ _ b ⟨q,h1⟩ ⟨q',h1'⟩ (by rw [←h.fst i ⟨o,ho⟩];exact ei) (by rw [←h.fst j ⟨o',ho'⟩];exact ej))
 ·rw [h.bad] at hb;rw [h.w];exact hB.dX b o hb
 ·obtain ⟨o',h1,h2⟩:=h.obj _ _ hh;cases o' with
  | map es'=>
   simp only [RnO] at h2;obtain ⟨b,ents,clock,k1,k2,k3⟩:=hB.map _ _ h1;exact ⟨b,ents,clock,by rw [h.fst _ ⟨_,hh⟩];exact k1,by rw [h.w];exact k2,TY h h2.1 h2.2 k3⟩
  | _=>exact h2.elim
structure Emb (σ:Nat→Nat) (h0 h:Hp):Prop where
 inj: ∀ i j,i<h0.length→j<h0.length→σ i=σ j→i=j
 obj: ∀ i o,h0[i]? =some o→ ∃ o' o2,o=some o'∧h[σ i]? =some (some o2)∧RnO σ h0.length o' o2
theorem RD.frame {Ky:List AV} {h0:Hp} {R p:AV→Prop}  (T:RD P f Ky h0 R p) (hE:Emb σ h0 h) (ha:RnL σ h0.length Ky args) (hR: ∀ r,R r→Clo r) (hp: ∀ r,p r→Clo r):RD P f args h R p:=by
 refine ⟨T.1,fun X vs hX hh hr=>?_⟩;subst hh;have hlt: ∀ i,i<h0.length→σ i<X.h.length:=fun i hi=>by
  obtain ⟨o',o2,_,h2,_⟩:=hE.obj i _ (List.getElem?_eq_getElem hi);exact (List.getElem?_eq_some_iff.1 h2).1
 have Ua: ∀ i o,h0[i]? =some (some o)→ ∃ o',X.h[σ i]? =some (some o')∧RnO σ h0.length o o':=fun i o ho=>by
  obtain ⟨o',o2,h1,h2,h3⟩:=hE.obj i _ ho;injection h1 with h1;subst h1;exact ⟨o2,h2,h3⟩
 have hbk: ∀ i o',i<h0.length→X.h[σ i]? =some (some o')→ ∃ o,h0[i]? =some (some o):=fun i o' hi _=>by
  obtain ⟨o,o2,h1,_⟩:=hE.obj i _ (List.getElem?_eq_getElem hi);exact ⟨o,by rw [List.getElem?_eq_getElem hi,h1]⟩
 have B:Br σ ⟨X.w,fun i=>X.m (σ i),h0,X.bad,X.ds⟩ X:=⟨rfl,rfl,hE.inj,hlt,Ua,hbk,fun _ _=>rfl,fun _ _ _ _ _ _=>rfl⟩
 refine (T.2 ⟨X.w,fun i=>X.m (σ i),h0,X.bad,X.ds⟩ vs (B.ok hX) rfl (B.alg ha hr)).mono ?_;rintro e w' ⟨v,Y,av,rfl,S,hY,hv,hq⟩;have fin:Y.h=h0→Clo av→ ∃ Z:Cx,Z.w=Y.w∧Step X Z∧Ok Z∧Rep Z av v∧Z.h=X.h:=fun hYh hc=>by
  have fst: ∀ i,Y.live i→(Y.m i).1=(X.m (σ i)).1:=by
   intro i ⟨o',h⟩;have hx:=h;rw [hYh] at hx;have hi:i<h0.length:=(List.getElem?_eq_some_iff.1 hx).1;cases o' with
   | blk c=>exact (S.l7 i c hi h).elim fun _ q=>q.2
   | map es=>exact (S.omap i es hi h).elim fun _ q=>q.2
   | arr T s c fz=>
    obtain ⟨c',f',k1,_,k3⟩:=S.oh i T s c fz hi h;simp only at k1;rw [hx] at k1;injection k1 with k1;injection k1 with k1;injection k1 with e1 e2 e3 e4;subst e3;rw [k3 rfl]
  have arr: ∀ i T s c fz,Y.h[i]? =some (some (.arr T s c fz))→Y.m i=X.m (σ i):=by
   intro i T s c fz h;have hx:=h;rw [hYh] at hx;have hi:i<h0.length:=(List.getElem?_eq_some_iff.1 hx).1;obtain ⟨c',f',k1,_,k3⟩:=S.oh i T s c fz hi h;simp only at k1;rw [hx] at k1;injection k1 with k1;injection k1 with k1;injection k1 with e1 e2 e3 e4;subst e3;rw [k3 rfl]
  have BY:Br σ Y ⟨Y.w,X.m,X.h,Y.bad,X.ds⟩:=⟨rfl,rfl,by rw [hYh];exact hE.inj,by rw [hYh];exact hlt,by rw [hYh];exact Ua,by rw [hYh];exact hbk,fst,arr⟩
  have hbl: ∀ b,b<X.w.heap.size→ ¬ Cx.mine ⟨X.w,fun i=>X.m (σ i),h0,X.bad,X.ds⟩ b→Y.w.heap[b]? =X.w.heap[b]? :=fun b hb hm=>S.block b hb hm
  have SZ:Step X ⟨Y.w,X.m,X.h,Y.bad,X.ds⟩:=
   ⟨S.os,S.tape,S.output,S.size,fun b hb hm=>hbl b hb fun q=>hm (B.mine q),S.keep,Nat.le_refl _,fun i T s c fz _ hi=>⟨c,fz,hi,Nat.le_refl _,fun _=>rfl⟩,fun i c _ hi=>⟨c,hi,rfl⟩,fun b hb=> .inr hb,fun b o hb=>(S.nC b o hb).imp id B.mine,fun i c _ hi=>⟨c,hi,rfl⟩,rfl⟩
  have other: ∀ j o,X.h[j]? =some (some o)→(∀ i,i<h0.length→σ i≠j)→ ∀ b,(X.m j).1=some b→Y.w.heap[b]? =X.w.heap[b]?∧ ¬ Cx.mine ⟨X.w,fun i=>X.m (σ i),h0,X.bad,X.ds⟩ b:=by
   intro j o hj hne b hb;have hnm: ¬ Cx.mine ⟨X.w,fun i=>X.m (σ i),h0,X.bad,X.ds⟩ b:=by
    rintro ⟨i,⟨q,hq⟩,he⟩;obtain ⟨q',h1,_⟩:=Ua i q hq;exact hne i (List.getElem?_eq_some_iff.1 hq).1 (hX.inj _ _ b ⟨q',h1⟩ ⟨o,hj⟩ he hb)
   exact ⟨hbl b (hX.lt ⟨j,⟨o,hj⟩,hb⟩) hnm,hnm⟩
  have H8: ∀ b o,X.bad b o→ ¬ Cx.mine ⟨X.w,fun i=>X.m (σ i),h0,X.bad,X.ds⟩ b→Y.bad b o:=fun b o hb hm=>(S.nC b o hb).elim id fun q=>absurd q hm
  refine ⟨⟨Y.w,X.m,X.h,Y.bad,X.ds⟩,rfl,SZ,⟨fun id c hi=>?_,fun id T s c fz hi=>?_,hX.inj,hY.dX,fun id es hi=>?_⟩,hv.clo hc (fun b o u hu hb=>⟨hu,hb⟩),rfl⟩
  ·by_cases hin: ∃ i,i<h0.length∧σ i=id
   ·obtain ⟨i,hi0,rfl⟩:=hin;obtain ⟨o,ho⟩:=hbk i _ hi0 hi;obtain ⟨o',h1,h2⟩:=Ua i o ho;simp only at hi;rw [hi] at h1;injection h1 with h1;injection h1 with h1;subst h1;cases o with
    | blk c0=>
     simp only [RnO] at h2;have hY0:Y.h[i]? =some (some (.blk c0)):=by rw [hYh];exact ho
     obtain ⟨b,cvs,T,k1,k2,k3,k4,k5⟩:=hY.blk i c0 hY0;refine ⟨b,cvs,T,by rw [←fst i ⟨_,hY0⟩];exact k1,k2,by rw [←h2.len];exact k3,k4,fun j a x q1 q2=>?_⟩;obtain ⟨a0,ha0⟩: ∃ a0,c0[j]? =some a0:=⟨_,List.getElem?_eq_getElem (by have:=(List.getElem?_eq_some_iff.1 q1).1;have:=h2.len;omega)⟩
     exact BY.up (by rw [hYh];exact h2.get j a0 a ha0 q1) (k5 j a0 x ha0 q2)
    | _=>exact h2.elim
   ·obtain ⟨b,cvs,T,k1,k2,k3,k4,k5⟩:=hX.blk id c hi;obtain ⟨q1,q2⟩:=other id _ hi (fun i hi0 e=>hin ⟨i,hi0,e⟩) b k1;exact ⟨b,cvs,T,k1,q1.trans k2,k3,fun o=>H8 b o (k4 o) q2,fun j a x r1 r2=>(k5 j a x r1 r2).mono SZ⟩
  ·by_cases hin: ∃ i,i<h0.length∧σ i=id
   ·obtain ⟨i,hi0,rfl⟩:=hin;obtain ⟨o,ho⟩:=hbk i _ hi0 hi;obtain ⟨o',h1,h2⟩:=Ua i o ho;simp only at hi;rw [hi] at h1;injection h1 with h1;injection h1 with h1;subst h1;cases o with
    | arr T0 s0 c0 fz0=>
     simp only [RnO] at h2;obtain ⟨rfl,rfl,rfl,h2⟩:=h2;have hY0:Y.h[i]? =some (some (.arr T0 s0 c0 fz0)):=by rw [hYh];exact ho
     obtain ⟨g1,g2,n,g3,g4⟩:=hY.arr i _ _ _ _ hY0;have hme:=arr i _ _ _ _ hY0;refine ⟨by rw [←h2.len];exact g1,g2,n,by rw [←h2.len];exact g3,?_⟩;rcases g4 with ⟨g4,g5⟩ | ⟨b,cvs,g4⟩
     ·exact .inl ⟨by rw [←hme];exact g4,List.eq_nil_of_length_eq_zero (by rw [←h2.len,g5];rfl)⟩
     ·refine .inr ⟨b,cvs,⟨by rw [←hme];exact g4.at_,g4.blk,by rw [←hme];exact g4.cap,by rw [←hme];exact g4.iQ,by rw [←hme];exact g4.sz,g4.bad,fun j a x q1 q2=>?_,g4.good⟩⟩;obtain ⟨a0,ha0⟩: ∃ a0,c0[j]? =some a0:=⟨_,List.getElem?_eq_getElem (by have:=(List.getElem?_eq_some_iff.1 q1).1;have:=h2.len;omega)⟩
      exact BY.up (by rw [hYh];exact h2.get j a0 a ha0 q1) (g4.rep j a0 x ha0 q2)
    | _=>exact h2.elim
   ·obtain ⟨g1,g2,n,g3,g4⟩:=hX.arr id T s c fz hi;refine ⟨g1,g2,n,g3,?_⟩;rcases g4 with g4 | ⟨b,cvs,g4⟩
    ·exact .inl g4
    ·obtain ⟨q1,q2⟩:=other id _ hi (fun i hi0 e=>hin ⟨i,hi0,e⟩) b g4.at_;refine .inr ⟨b,cvs,⟨g4.at_,q1.trans g4.blk,g4.cap,g4.iQ,g4.sz,fun o ho=>H8 b o (g4.bad o ho) q2,fun j a x r1 r2=>(g4.rep j a x r1 r2).mono SZ,fun o ho hk=>?_⟩⟩;have hcell: ∃ u,cellAt X.w b o=some u:=by
      rw [aZ g4.blk];exact ⟨_,Array.getElem?_eq_getElem (by rw [g4.sz];have:=Nat.mul_le_mul_right s g4.cap;omega)⟩
     obtain ⟨u,hu⟩:=hcell;exact (S.keep b o u hu (g4.good o ho)).2 hk
  ·by_cases hin: ∃ i,i<h0.length∧σ i=id
   ·obtain ⟨i,hi0,rfl⟩:=hin;obtain ⟨o,ho⟩:=hbk i _ hi0 hi;obtain ⟨o',h1,h2⟩:=Ua i o ho;simp only at hi;rw [hi] at h1;injection h1 with h1;injection h1 with h1;subst h1;cases o with
    | map es0=>
     simp only [RnO] at h2;have hY0:Y.h[i]? =some (some (.map es0)):=by rw [hYh];exact ho
     obtain ⟨b,ents,clock,k1,k2,k3⟩:=hY.map i es0 hY0;exact ⟨b,ents,clock,by rw [←fst i ⟨_,hY0⟩];exact k1,k2,adO BY h2.1 (by rw [hYh];exact h2.2) k3⟩
    | _=>exact h2.elim
   ·obtain ⟨b,ents,clock,k1,k2,k3⟩:=hX.map id es hi;obtain ⟨q1,q2⟩:=other id _ hi (fun i hi0 e=>hin ⟨i,hi0,e⟩) b k1;exact ⟨b,ents,clock,k1,q1.trans k2,k3.mono SZ⟩
 rcases hq with ⟨rfl,h1,h2⟩ | ⟨rfl,h1,h2⟩
 ·obtain ⟨Z,z1,z2,z3,z4,z5⟩:=fin h2 (hR _ h1);exact ⟨v,Z,av,z1,z2,z3,z4, .inl ⟨rfl,h1,z5⟩⟩
 ·obtain ⟨Z,z1,z2,z3,z4,z5⟩:=fin h2 (hp _ h1);exact ⟨v,Z,av,z1,z2,z3,z4, .inr ⟨rfl,h1,z5⟩⟩
theorem Ub (hc:Clo a):CU h a=some a:=by cases hc<;>rfl
theorem Dc {f:AV→Option AV}: ∀ (l:List AV),(∀ (a:AV),a∈l→f a=some a)→EI f l=some l
 | [],_=>rfl
 | a::r,h=>by simp only [EI,h a (List.mem_cons_self ..),Dc r fun b hb=>h b (List.mem_cons_of_mem _ hb)]
theorem FT (hc:Clo a):uy h a=some a:=by
 cases hc with
 | g hc=>simp only [uy,Dc _ fun a ha=>Ub (hc a ha),Option.map_some]
 | _=>rfl
theorem TC.ht {res:AV} (T:TC P f args res) (hc: ∀ (a:AV),a∈args→Clo a) (hres:Clo res) (h:Hp):HT P f args h fun r h'=>r=res∧h'=h:=
 HT.PZ T (sQ (f:=dY) (g:=uy h) (fun a a'=>zK) args args (Dc _ fun a ha=>FT (hc a ha)) hc) hc hres
theorem TC.rd {res:AV} (T:TC P f args res) (hc: ∀ (a:AV),a∈args→Clo a) (hres:Clo res) (h:Hp) (p:AV→Hp→Prop):HTP P f args h (fun r h'=>r=res∧h'=h) p:=(T.ht hc hres h).toP p
def findF (p:Nat→Bool) (n:Nat):Option Nat:=(List.range n).find? p
variable {p:Nat→Bool}
theorem iF {i:Nat} (hi:i<n) (hp:p i=true) (hb: ∀ j,j<i→p j=false):findF p n=some i:=by
 unfold findF;rw [List.find?_eq_some_iff_getElem];refine ⟨hp,i,by simpa using hi,by simp,fun j hj=>?_⟩;simp [hb j hj]
theorem gq (hb: ∀ j,j<n→p j=false):findF p n=none:=by
 unfold findF;rw [List.find?_eq_none];intro x hx;simp [hb x (List.mem_range.1 hx)]
def qU:Option Nat→Int
 | some i=>i
 | none=> -1
def aI (n:Nat) (p:Nat→Bool):Bool:=(List.range n).any p
theorem qV :decide (0≤qU (findF p n))=aI n p:=by
 unfold aI;cases hf:findF p n with
 | none=>
  unfold findF at hf;rw [List.find?_eq_none] at hf;have:(List.range n).any p=false:=by
   rw [List.any_eq_false];exact hf
  rw [this];rfl
 | some i=>
  unfold findF at hf;have h1:=List.find?_some hf;have h2:=List.mem_of_find?_eq_some hf;have:(List.range n).any p=true:=List.any_eq_true.2 ⟨i,h2,h1⟩;rw [this];simp [qU]
end
end Go.Proofs.YtljfgdlgmdcmfaaGreat.Wv
namespace Go.Proofs.YtljfgdlgmdcmfaaGreat
section
open Go.ChangeShapes Go.WideShapes Go.ChangeAt Go.RowKit Go.Deep Wv
inductive Sh (P:Program):TypeId→List AV→Prop
 | bool {t:TypeId} (ht:P.underlying t=some .bool) (b:Bool):Sh P t [.v (.bool b)]
 | int {t:TypeId} {k:IntKind} {z:Int} (ht:P.underlying t=some (.int k)) (hz:(Lit.int k z).wf=true):Sh P t [.v (.int k z)]
 | str {t:TypeId} {s:ByteArray} (ht:P.underlying t=some .string) (hs:s.size≤reachBytes):Sh P t [.v (.string s)]
 | slice {t e:TypeId} {n:Nat} {f:Nat→List AV} (ht:P.underlying t=some (.slice e)) (hn:n*P.bytesOf e≤reachBytes) (hl: ∀ i,i<n→(f i).length=P.cellsOf e) (hf: ∀ i,i<n→Sh P e (f i)):
   Sh P t [.t n (P.cellsOf e) ((List.range n).flatMap f)]
 | struct {t:TypeId} {fs:Array Field} {l:List AV} (ht:P.underlying t=some (.struct fs)) (hl:l.length=P.cellsOf t)
   (hf: ∀ (i:Nat) (f:Field),fs[i]? =some f→Sh P f.type ((l.drop f.offset).take (P.cellsOf f.type))):Sh P t l
def Kz (P:Program):Nat→List Field→Option Nat
 | o,[]=>some o
 | o,f::r=>if f.offset=o then Kz P (o+P.cellsOf f.type) r else none
def setB (P:Program) (S:List TypeId):Bool:=S.all fun t=>match P.underlying t with
 | some .bool=>true
 | some (.int _)=>true
 | some .string=>true
 | some (.slice e)=>S.contains e && decide (0<P.cellsOf e)
 | some (.struct fs)=>fs.toList.all (fun f=>S.contains f.type) && (Kz P 0 fs.toList==some (P.cellsOf t))
 | _=>false
theorem flat_get {α:Type} {m:Nat} {f:Nat→List α}: ∀ {n:Nat},(∀ i,i<n→(f i).length=m)→ ∀ q r,q<n→r<m→((List.range n).flatMap f)[q*m+r]? =(f q)[r]?
 | 0,h,q,r,hq,hr=>by omega
 | n+1,h,q,r,hq,hr=>by
  have hl: ∀ k,k≤n→((List.range k).flatMap f).length=k*m:=fun k hk=>by
   induction k with
   | zero=>simp
   | succ k ih=>rw [List.range_succ,List.flatMap_append,List.length_append,ih (by omega)];simp [h k (by omega),Nat.add_mul]
  rw [List.range_succ,List.flatMap_append];by_cases e:q=n
  ·subst e;rw [List.getElem?_append_right (by rw [hl q (Nat.le_refl _)];omega),hl q (Nat.le_refl _),Nat.add_sub_cancel_left];simp
  ·have:q*m+m≤n*m:=by rw [←Nat.succ_mul];exact Nat.mul_le_mul_right _ (by omega)
   rw [List.getElem?_append_left (by rw [hl n (Nat.le_refl _)];omega)];exact flat_get (fun i hi=>h i (by omega)) q r (by omega) hr
theorem o7 {α:Type} {m:Nat} {f:Nat→List α}: ∀ {n:Nat},(∀ i,i<n→(f i).length=m)→((List.range n).flatMap f).length=n*m
 | 0,h=>by simp
 | n+1,h=>by rw [List.range_succ,List.flatMap_append,List.length_append,o7 (n:=n) fun i hi=>h i (by omega)];simp [h n (by omega),Nat.add_mul]
section
variable {H:Type} {enc:TypeId × Value→H} {P:Program} {w:World} {base:Nat} {spare:Nat→Bool} {held:Bool}
def xZ (P:Program) (t:TypeId) (d:DataW H):Prop:= ∀ n,n∈d.weights P t→n≤reachBytes
theorem H9 {e:TypeId} {ds:List (DataW H)} {d:DataW H} (hd:d∈ds): ∀ n,n∈d.weights P e→n∈DataW.weightsAll P e ds:=by
 induction ds with
 | nil=>cases hd
 | cons a r ih=>
  intro n hn;rw [DataW.weightsAll,List.mem_append];rcases List.mem_cons.1 hd with rfl | h
  ·exact .inl hn
  ·exact .inr (ih h n hn)
theorem oL: ∀ {ts:List TypeId} {ds:List (DataW H)} {i:Nat} {t:TypeId} {d:DataW H},ts[i]? =some t→ds[i]? =some d→ ∀ n,n∈d.weights P t→n∈DataW.weightsEach P ts ds
 | [],_,i,t,d,h1,_=>by simp at h1
 | _::_,[],i,t,d,_,h2=>by simp at h2
 | a::ts,b::ds,0,t,d,h1,h2=>by
  simp only [List.getElem?_cons_zero,Option.some.injEq] at h1 h2;subst h1 h2;intro n hn;rw [DataW.weightsEach];exact List.mem_append_left _ hn
 | a::ts,b::ds,i+1,t,d,h1,h2=>by
  intro n hn;rw [DataW.weightsEach];exact List.mem_append_right _ (oL (by simpa using h1) (by simpa using h2) n hn)
def zL (w:World):Cx:=⟨w,fun _=>(none,0),[],fun _ _=>False,[]⟩
theorem oV {X:Cx} {l1 l2:List AV} {c1 c2:List Value} (h1:fJ X l1 c1) (h2:fJ X l2 c2):fJ X (l1++l2) (c1++c2):=by
 refine ⟨by simp [h1.1,h2.1],fun i a x ha hx=>?_⟩;by_cases hi:i<l1.length
 ·rw [List.getElem?_append_left hi] at ha;rw [List.getElem?_append_left (by rw [h1.1];exact hi)] at hx;exact h1.2 i a x ha hx
 ·rw [List.getElem?_append_right (by omega)] at ha;rw [List.getElem?_append_right (by rw [h1.1];omega)] at hx;rw [h1.1] at hx;exact h2.2 _ a x ha hx
def NR (P:Program) (w:World) (t:TypeId) (cs:List Value):Prop:= ∃ l,Sh P t l∧fJ (zL w) l cs∧ ∀ a,a∈l→Clo a
theorem wF (t:TypeId): ∀ (fs:List Field) (o:Nat) (cs:List Value),Kz P o fs=some cs.length→o≤cs.length→(∀ (i:Nat) (f:Field),fs[i]? =some f→NR P w f.type ((cs.drop f.offset).take (P.cellsOf f.type)))→
  ∃ l:List AV,fJ (zL w) l (cs.drop o)∧(∀ a,a∈l→Clo a)∧ ∀ (i:Nat) (f:Field),fs[i]? =some f→o≤f.offset∧Sh P f.type ((l.drop (f.offset - o)).take (P.cellsOf f.type))
 | [],o,cs,h,ho,_=>by
  simp only [Kz,Option.some.injEq] at h;subst h;refine ⟨[],?_,fun a h=>(List.not_mem_nil h).elim,fun i f h=>by simp at h⟩;rw [List.drop_length];exact ⟨rfl,fun i a x h=>by simp at h⟩
 | f::r,o,cs,h,ho,hf=>by
  simp only [Kz] at h;split at h
  ·next e=>
   subst e;have mono: ∀ (fs:List Field) (o n:Nat),Kz P o fs=some n→o≤n:=by
    intro fs;induction fs with
    | nil=>intro o n h;simp only [Kz,Option.some.injEq] at h;omega
    | cons f r ih=>
     intro o n h;simp only [Kz] at h;split at h
     ·have:=ih _ _ h;omega
     ·cases h
   have hle:=mono r _ _ h;obtain ⟨l1,s1,r1,c1⟩:=hf 0 f rfl;obtain ⟨l2,r2,c2,g2⟩:=wF t r (f.offset+P.cellsOf f.type) cs h hle fun i f' h'=>hf (i+1) f' (by simpa using h')
   have hl1:l1.length=P.cellsOf f.type:=by
    rw [←r1.1,List.length_take,List.length_drop];omega
   have split:cs.drop f.offset=(cs.drop f.offset).take (P.cellsOf f.type)++cs.drop (f.offset+P.cellsOf f.type):=by
    rw [←List.drop_drop];exact (List.take_append_drop _ _).symm
   refine ⟨l1++l2,?_,fun a ha=>?_,fun i f' h'=>?_⟩
   ·rw [split];exact oV r1 r2
   ·rcases List.mem_append.1 ha with h | h
    ·exact c1 a h
    ·exact c2 a h
   ·cases i with
    | zero=>
     simp only [List.getElem?_cons_zero,Option.some.injEq] at h';subst h';refine ⟨Nat.le_refl _,?_⟩;rw [Nat.sub_self,List.drop_zero,List.take_append_of_le_length (by omega), ←hl1,List.take_length];exact s1
    | succ i=>
     obtain ⟨q1,q2⟩:=g2 i f' (by simpa using h');refine ⟨by omega,?_⟩;rw [show f'.offset - f.offset=l1.length+(f'.offset - (f.offset+P.cellsOf f.type)) by omega, ←List.drop_drop,List.drop_left];exact q2
  ·cases h
theorem reads {S:List TypeId} (hS:setB P S=true): ∀ (fuel:Nat) (t:TypeId) (cs:List Value) (x:DataW H × List MemPlace),t∈S→DataW.trod enc P w base spare held fuel t cs=some x→xZ P t x.1→NR P w t cs:=by
 intro fuel;induction fuel with
 | zero=>intro t cs x _ h;simp [DataW.trod] at h
 | succ fuel ih=>
  intro t cs x ht h hw;have hb:=List.all_eq_true.1 hS t ht;cases hu:P.underlying t with
  | none=>simp [hu] at hb
  | some u=>
  have one: ∀ {a:AV} {v:Value},Rep (zL w) a v→fJ (zL w) [a] [v]:=fun {a v} h=>⟨rfl,fun i b x h1 h2=>by
   cases i with
   | zero=>simp at h1 h2;subst h1 h2;exact h
   | succ i=>simp at h1⟩
  cases u with
  | bool=>
   obtain ⟨b,rfl,rfl⟩:=DataW.trod_bool hu h;exact ⟨_, .bool hu b,one (.v _),fun a ha=>by rw [List.mem_singleton] at ha;subst ha;exact .v _⟩
  | int k=>
   obtain ⟨z,rfl,rfl,hz⟩:=DataW.trod_int hu h;exact ⟨_, .int hu hz,one (.v _),fun a ha=>by rw [List.mem_singleton] at ha;subst ha;exact .v _⟩
  | string=>
   obtain ⟨s,rfl,rfl,hs⟩:=DataW.trod_string hu h;refine ⟨_, .str (s:=s) hu ?_,one (.v _),fun a ha=>by rw [List.mem_singleton] at ha;subst ha;exact .v _⟩;exact hw s.size (by show s.size∈[s.data.toList.length];rw [List.mem_singleton];rfl)
  | slice e=>
   simp only [hu,Bool.and_eq_true,decide_eq_true_eq,List.contains_iff_mem] at hb;obtain ⟨he,hc⟩:=hb;have mt: ∀ b,b∈[AV.t 0 (P.cellsOf e) ((List.range 0).flatMap fun _=>[])]→Clo b:=fun b hb=>by
    rw [List.mem_singleton] at hb;subst hb;exact .t fun b hb=>by simp at hb
   rcases DataW.trod_slice hu h with ⟨rfl,rfl⟩ | ⟨a,len,cap,elems,rest,n,e',rfl,rfl,_,hl,hcap,hlen,hel,_,_⟩
   ·exact ⟨[.t 0 (P.cellsOf e) ((List.range 0).flatMap fun _=>[])], .slice hu (by rw [Nat.zero_mul];exact Nat.zero_le _) (fun i hi=>by omega) (fun i hi=>by omega),one (.t (cvs:=[]) (by simp) rfl (Nat.le_refl _) (Nat.zero_le _) (fun h=>by omega) (fun i a x h=>by simp at h)),mt⟩
   ·obtain rfl:n=fuel:=by omega
    simp only [xZ,DataW.weights,hu] at hw;have each: ∀ i,i<len→ ∃ q:List Value × List AV,w.cells? base (a.add (i*P.cellsOf e)) (P.cellsOf e)=some q.1∧Sh P e q.2∧fJ (zL w) q.2 q.1∧ ∀ a,a∈q.2→Clo a:=fun i hi=>by
     have h0:=hel i hi;rw [List.getElem?_eq_getElem (by omega)] at h0;obtain ⟨C,h1,h2⟩:=Option.bind_eq_some_iff.1 h0;obtain ⟨F,s1,s2,s3⟩:=ih e C _ he h2 fun q hq=>hw q (List.mem_cons_of_mem _ (List.mem_append_left _ (H9 (List.mem_map_of_mem (List.getElem_mem (by omega:i<elems.length))) q hq)))
     exact ⟨(C,F),h1,s1,s2,s3⟩
    obtain ⟨Q,hQ⟩:=choose_lt each;have hcl: ∀ i,i<len→(Q i).1.length=P.cellsOf e:=fun i hi=>(World.cells?_some (hQ i hi).1).2.1
    have hal: ∀ i,i<len→(Q i).2.length=P.cellsOf e:=fun i hi=>by rw [←(hQ i hi).2.2.1.1];exact hcl i hi
    have hcell: ∀ i,i<len→ ∀ j,j<P.cellsOf e→w.cell? ((a.add (i*P.cellsOf e)).add j)=(Q i).1[j]? :=fun i hi=>(World.cells?_some (hQ i hi).1).2.2
    have hsplit: ∀ j,j<len*P.cellsOf e→j / P.cellsOf e<len∧j % P.cellsOf e<P.cellsOf e∧j=j / P.cellsOf e*P.cellsOf e+j % P.cellsOf e:=fun j hj=>
     ⟨(Nat.div_lt_iff_lt_mul hc).2 hj,Nat.mod_lt _ hc,by rw [Nat.mul_comm];exact (Nat.div_add_mod _ _).symm⟩
    refine ⟨[.t len (P.cellsOf e) ((List.range len).flatMap fun i=>(Q i).2)], .slice hu ?_ hal fun i hi=>(hQ i hi).2.1,one (.t (cvs:=(List.range len).flatMap fun i=>(Q i).1) (o7 hal) ?_ hl hcap ?_ ?_),fun b hb=>?_⟩
    ·have h1:=hw _ (List.mem_cons_self ..);simp only [List.length_map] at h1;refine Nat.le_trans (Nat.mul_le_mul_right _ ?_) h1;omega
    ·rw [o7 hal,o7 hcl]
    ·intro h0;have hs:=hcell 0 h0 0 hc;rw [List.getElem?_eq_getElem (by rw [hcl 0 h0];exact hc)] at hs;obtain ⟨b,off,spot⟩:=a;have hspot:spot=none:=by simpa [Addr.add] using World.cell?_spot hs
     subst hspot;refine ⟨b,off,rfl,fun j x hj=>⟨?_,fun h=>h⟩⟩;have hj':j<len*P.cellsOf e:=by
      have:=(List.getElem?_eq_some_iff.1 hj).1;rwa [o7 hcl] at this
     obtain ⟨q1,q2,q3⟩:=hsplit j hj';rw [q3,flat_get hcl _ _ q1 q2] at hj;have:=hcell _ q1 _ q2;rw [Go.WideShapes.add_plain,Go.WideShapes.add_plain,hj,Nat.add_assoc, ←q3] at this;exact this
    ·intro j b x hb hx;have hj':j<len*P.cellsOf e:=by
      have:=(List.getElem?_eq_some_iff.1 hx).1;rwa [o7 hcl] at this
     obtain ⟨q1,q2,q3⟩:=hsplit j hj';rw [q3,flat_get hcl _ _ q1 q2] at hx;rw [q3,flat_get hal _ _ q1 q2] at hb;exact (hQ _ q1).2.2.1.2 _ b x hb hx
    ·rw [List.mem_singleton] at hb;subst hb;refine .t fun b hb=>?_
     obtain ⟨i,h1,h2⟩:=List.mem_flatMap.1 hb;exact (hQ i (List.mem_range.1 h1)).2.2.2 b h2
  | struct fs=>
   simp only [hu,Bool.and_eq_true,List.all_eq_true,List.contains_iff_mem,beq_iff_eq] at hb;obtain ⟨hb1,hb2⟩:=hb;obtain ⟨xs,n,e,rfl,hcl,hlen,hf⟩:=DataW.trod_struct hu h;obtain rfl:n=fuel:=by omega
   have each: ∀ (i:Nat) (f:Field),fs.toList[i]? =some f→NR P w f.type ((cs.drop f.offset).take (P.cellsOf f.type)):=fun i f hi=>by
    have hi':fs[i]? =some f:=by simpa using hi
    have hlt:i<xs.length:=by rw [hlen];exact (Array.getElem?_eq_some_iff.1 hi').1
    have h1:=hf i f hi';rw [List.getElem?_eq_getElem hlt] at h1;refine ih _ _ _ (hb1 f (List.mem_of_getElem? hi)) h1 fun q hq=>hw q ?_
    simp only [DataW.weights,hu];exact oL (i:=i) (t:=f.type) (d:=xs[i].1) (by rw [List.getElem?_map,hi];rfl) (by rw [List.getElem?_map,List.getElem?_eq_getElem hlt];rfl) q hq
   obtain ⟨l,r1,c1,g1⟩:=wF t fs.toList 0 cs (by rw [hb2,hcl]) (Nat.zero_le _) each;rw [List.drop_zero] at r1;refine ⟨l, .struct hu (by rw [←r1.1,hcl]) (fun i f hi=>?_),r1,c1⟩;have:=(g1 i f (by simpa using hi)).2;rwa [Nat.sub_zero] at this
  | _=>simp [hu] at hb
end
theorem afD {f:FuncId} {args:List AV} {b:Bool} (T:TC Tryz.prog f args (.v (.bool b))) {w:World} {vs:List Value} (hr:fJ ⟨w,fun _=>(none,0),[],fun _ _=>False,[]⟩ args vs):
  Calls Tryz.prog f vs.toArray w fun e w'=>e= .returned (.bool b)∧Below w.heap.size w w':=by
 refine (T.calls hr).mono ?_;rintro e w' ⟨v,rfl,h1,h2⟩;cases h2;exact ⟨rfl,h1⟩
def alh (X:Cx):List AV→List Value→Prop
 | [],[]=>True
 | a::l,v::vs=>Rep X a v∧alh X l vs
 | _,_=>False
theorem PG {X:Cx}: ∀ {l:List AV} {vs:List Value},alh X l vs→fJ X l vs
 | [],[],_=>⟨rfl,fun i a x h=>by simp at h⟩
 | [],_::_,h=>h.elim
 | _::_,[],h=>h.elim
 | a::l,v::vs,h=>by
  obtain ⟨h1,h2⟩:=PG h.2;refine ⟨by simp [h1],fun i b x e1 e2=>?_⟩;cases i with
  | zero=>simp at e1 e2;subst e1 e2;exact h.1
  | succ i=>exact h2 i b x (by simpa using e1) (by simpa using e2)
end
section
open Go.ChangeShapes Go.WideShapes Go.ChangeAt Go.RowKit Go.Deep Wv
section
variable {P:Program} {t:TypeId} {l:List AV}
theorem qh {k:IntKind} (ht:P.underlying t=some (.int k)) (h:Sh P t l): ∃ z,l=[.v (.int k z)]∧(Lit.int k z).wf=true:=by
 cases h with
 | int h hz=>rw [ht] at h;injection h with h;injection h with h;subst h;exact ⟨_,rfl,hz⟩
 | bool h=>rw [ht] at h;cases h
 | str h=>rw [ht] at h;cases h
 | slice h=>rw [ht] at h;cases h
 | struct h=>rw [ht] at h;cases h
theorem Ia (ht:P.underlying t=some .string) (h:Sh P t l): ∃ s:ByteArray,l=[.v (.string s)]∧s.size≤reachBytes:=by
 cases h with
 | str h hs=>exact ⟨_,rfl,hs⟩
 | bool h=>rw [ht] at h;cases h
 | int h=>rw [ht] at h;cases h
 | slice h=>rw [ht] at h;cases h
 | struct h=>rw [ht] at h;cases h
variable {e:TypeId}
theorem wG (ht:P.underlying t=some (.slice e)) (hb:1≤P.bytesOf e) (h:Sh P t l): ∃ (n:Nat) (f:Nat→List AV),l=[.t n (P.cellsOf e) ((List.range n).flatMap f)]∧n≤reachBytes∧ ∀ i,i<n→Sh P e (f i):=by
 cases h with
 | @slice _ e' n f h hn hl hf=>
  rw [ht] at h;injection h with h;injection h with h;subst h;exact ⟨n,f,rfl,Nat.le_trans (by have:=Nat.mul_le_mul_left n hb;omega) hn,hf⟩
 | bool h=>rw [ht] at h;cases h
 | int h=>rw [ht] at h;cases h
 | str h=>rw [ht] at h;cases h
 | struct h=>rw [ht] at h;cases h
theorem x9 {fs:Array Field} (ht:P.underlying t=some (.struct fs)) (h:Sh P t l):l.length=P.cellsOf t∧ ∀ (i:Nat) (f:Field),fs[i]? =some f→Sh P f.type ((l.drop f.offset).take (P.cellsOf f.type)):=by
 cases h with
 | struct h hl hf=>rw [ht] at h;injection h with h;injection h with h;subst h;exact ⟨hl,hf⟩
 | bool h=>rw [ht] at h;cases h
 | int h=>rw [ht] at h;cases h
 | str h=>rw [ht] at h;cases h
 | slice h=>rw [ht] at h;cases h
theorem Df {α:Type} {n:Nat} {f:Nat→List α} {g:Nat→α} (h: ∀ i,i<n→f i=[g i]):(List.range n).flatMap f=(List.range n).map g:=by
 have: ∀ l:List Nat,(∀ i,i∈l→f i=[g i])→l.flatMap f=l.map g:=fun l=>by
  induction l with
  | nil=>intro _;rfl
  | cons a r ih=>intro h;rw [List.flatMap_cons,h a (List.mem_cons_self ..),ih fun i hi=>h i (List.mem_cons_of_mem _ hi)];rfl
 exact this _ fun i hi=>h i (List.mem_range.1 hi)
theorem Dh {α:Type} {n:Nat} {f g:Nat→List α} (h: ∀ i,i<n→f i=g i):(List.range n).flatMap f=(List.range n).flatMap g:=by
 have: ∀ l:List Nat,(∀ i,i∈l→f i=g i)→l.flatMap f=l.flatMap g:=fun l=>by
  induction l with
  | nil=>intro _;rfl
  | cons a r ih=>intro h;rw [List.flatMap_cons,List.flatMap_cons,h a (List.mem_cons_self ..),ih fun i hi=>h i (List.mem_cons_of_mem _ hi)]
 exact this _ fun i hi=>h i (List.mem_range.1 hi)
theorem Ib {k:IntKind} (ht:P.underlying t=some (.slice e)) (he:P.underlying e=some (.int k)) (hb:1≤P.bytesOf e) (hc:P.cellsOf e=1) (h:Sh P t l):
  ∃ (n:Nat) (f:Nat→Int),l=[.t n 1 (tab n fun i=> .v (.int k (f i)))]∧n≤reachBytes∧ ∀ i,i<n→(Lit.int k (f i)).wf=true:=by
 obtain ⟨n,f,rfl,hn,hf⟩:=wG ht hb h;obtain ⟨g,hg⟩:=choose_lt fun i hi=>qh he (hf i hi)
 exact ⟨n,g,by rw [hc,Df fun i hi=>(hg i hi).1];rfl,hn,fun i hi=>(hg i hi).2⟩
theorem Qa (ht:P.underlying t=some (.slice e)) (he:P.underlying e=some .string) (hb:1≤P.bytesOf e) (hc:P.cellsOf e=1) (h:Sh P t l):
  ∃ (n:Nat) (f:Nat→ByteArray),l=[.t n 1 (tab n fun i=> .v (.string (f i)))]∧n≤reachBytes∧ ∀ i,i<n→(f i).size≤reachBytes:=by
 obtain ⟨n,f,rfl,hn,hf⟩:=wG ht hb h;obtain ⟨g,hg⟩:=choose_lt (α:=ByteArray) fun i hi=>Ia he (hf i hi)
 exact ⟨n,g,by rw [hc,Df fun i hi=>(hg i hi).1];rfl,hn,fun i hi=>(hg i hi).2⟩
end
theorem uI {H:Type} {P:Program} {ts:List TypeId} {ds:List (DataW H)} (h:(DataW.weightsEach P ts ds).all (· ≤reachBytes)=true) {j:Nat} {t:TypeId} {d:DataW H} (ht:ts[j]? =some t) (hd:ds[j]? =some d):xZ P t d:=
 fun n hn=>by simpa using List.all_eq_true.1 h n (oL ht hd n hn)
end
section
open Go.ChangeShapes Go.WideShapes Go.ChangeAt Go.RowKit Go.Deep Wv
def ali:List TypeId:=[2,43,59]
theorem adP:setB Tryz.prog ali=true:=by kernel_rfl
instance:Inhabited (Nat × (Nat→Int)):=⟨(0,fun _=>0)⟩
theorem ahS {z:Int} (h:(Lit.int .i64 z).wf=true): -9223372036854775808≤z∧z≤9223372036854775807:=by
 simp [Lit.wf,IntKind.min,IntKind.max,IntKind.bits,IntKind.signed] at h;omega
theorem adQ {l:List AV} (h:Sh Tryz.prog 59 l): ∃ (m:Nat) (ln:Nat→Nat) (vs:Nat→Nat→Int),l=[.t m 1 (tab m fun i=> .t (ln i) 1 (tab (ln i) fun j=> .v (.int .i64 (vs i j))))]∧m≤140737488351232∧(∀ i,i<m→ln i≤140737488351232)∧ ∀ i,i<m→ ∀ j,j<ln i→ -9223372036854775808≤vs i j∧vs i j≤9223372036854775807:=by
 obtain ⟨m,f,rfl,hm,hf⟩:=wG Tryz.underlying59 (Nat.le_of_ble_eq_true (by kernel_rfl)) h;have hc:Tryz.prog.cellsOf 43=1:=by kernel_rfl
 have hr:reachBytes=140737488351232:=rfl;obtain ⟨L,hL⟩:=choose_lt (α:=Nat × (Nat→Int)) (p:=fun i q=>f i=[.t q.1 1 (tab q.1 fun j=> .v (.int .i64 (q.2 j)))]∧q.1≤140737488351232∧ ∀ j,j<q.1→ -9223372036854775808≤q.2 j∧q.2 j≤9223372036854775807) fun i hi=>by
  obtain ⟨n,g,e,w,o⟩:=Ib Tryz.underlying43 Tryz.underlying2 (Nat.le_of_ble_eq_true (by kernel_rfl)) (by kernel_rfl) (hf i hi);exact ⟨(n,g),e,by omega,fun j hj=>ahS (o j hj)⟩
 refine ⟨m,fun i=>(L i).1,fun i=>(L i).2,?_,by omega,fun i hi=>(hL i hi).2.1,fun i hi=>(hL i hi).2.2⟩;rw [hc,Df fun i hi=>(hL i hi).1];rfl
theorem abb {H:Type} {enc:TypeId × Value→H} {w:World} {base b0:Nat} {spare:Nat→Bool} {held:Bool} {r:Reach} {v:Value} {d:DataW H} {p:List MemPlace}
  (hv:Value.okWide Tryz.prog w r b0 59 v) (h:DataW.Trod enc Tryz.prog w base spare held 59 v d p) (hl:xZ Tryz.prog 59 d):
  ∃ (m:Nat) (ln:Nat→Nat) (vs:Nat→Nat→Int),Rep (zL w) (.t m 1 (tab m fun i=> .t (ln i) 1 (tab (ln i) fun j=> .v (.int .i64 (vs i j))))) v∧m≤140737488351232∧(∀ i,i<m→ln i≤140737488351232)∧ ∀ i,i<m→ ∀ j,j<ln i→ -9223372036854775808≤vs i j∧vs i j≤9223372036854775807:=by
 have hs: ∃ a n c,v= .slice a n c:=by
  cases v<;>simp [Value.okWide,Cell.okWide,Cell.ok,Tryz.underlying59] at hv ⊢
 obtain ⟨a,n,c,rfl⟩:=hs;obtain ⟨fuel,hf⟩:=h;obtain ⟨l,s1,s2,s3⟩:=reads adP fuel _ _ _ (by unfold ali;simp) hf hl;obtain ⟨m,ln,vs,rfl,h1,h2,h3⟩:=adQ s1;exact ⟨m,ln,vs,s2.2 0 _ _ rfl rfl,h1,h2,h3⟩
end
section
structure Par where
 n:Int
 p:Nat
 r:Int
 ch:List Nat
 sp:Nat
 wt:Int
 er:Nat
end
section
def v2f:Nat→Nat→Nat
 | 0,_=>0
 | f+1,m=>if m % 2=0 then v2f f (m / 2)+1 else 0
def wH (m:Nat):Nat:=v2f 32 m
def jc (m:Nat):Nat:=m / 2 ^ wH m
theorem ahT: ∀ (f t d:Nat),t<f→d % 2=1→v2f f (d*2 ^ t)=t:=by
 intro f;induction f with
 | zero=>intro t d h;omega
 | succ f ih=>
  intro t d h hd;cases t with
  | zero=>simp [v2f,hd]
  | succ t=>
   have h1:d*2 ^ (t+1)=2*(d*2 ^ t):=by rw [Nat.pow_succ];rw [←Nat.mul_assoc,Nat.mul_comm]
   have h2:d*2 ^ (t+1) % 2=0:=by rw [h1];omega
   have h3:d*2 ^ (t+1) / 2=d*2 ^ t:=by rw [h1];omega
   rw [v2f,if_pos h2,h3,ih t d (by omega) hd]
variable {d:Nat}
theorem KA {m t:Nat} (ht:t<32) (hd:d % 2=1) (h:d*2 ^ t=m):wH m=t∧jc m=d:=by
 have h1:wH m=t:=by rw [←h];exact ahT 32 t d ht hd
 refine ⟨h1,?_⟩;unfold jc;rw [h1, ←h,Nat.mul_div_cancel _ (Nat.pow_pos (by omega))]
def lq (n:Nat):Nat→Nat→Bool
 | _,0=>false
 | x,k+1=>x==n - 1 || lq n (x*x % n) k
def uT (a e n:Nat):Nat:=a ^ e % n
def SP (a n:Nat):Bool:=uT (a % n) (jc (n - 1)) n==1 || lq n (uT (a % n) (jc (n - 1)) n) (wH (n - 1))
variable {n x:Nat}
theorem afn {a t:Nat} (ht:t<32) (hd:d % 2=1) (h:d*2 ^ t=n - 1) (hx:x=uT (a % n) d n):SP a n=(x==1 || lq n x t):=by
 obtain ⟨h1,h2⟩:=KA ht hd h;unfold SP;rw [h1,h2,hx]
theorem yc {k:Nat} (h:x=n - 1):lq n x (k+1)=true:=by simp [lq,h]
theorem uU {k:Nat} (h:x≠n - 1):lq n x (k+1)=lq n (x*x % n) k:=by simp [lq,h]
theorem Di {t m:Nat} (hm:m<4294967296) (hd:0<d) (h:d*2 ^ t=m):t<32:=by
 apply Classical.byContradiction;intro hc;have h1:2 ^ 32≤2 ^ t:=Nat.pow_le_pow_right (by omega) (by omega);have h2:1*2 ^ t≤d*2 ^ t:=Nat.mul_le_mul_right _ hd;have h3:(2:Nat) ^ 32=4294967296:=by decide
 omega
def smalls:List Nat:=[2,3,5,7,11,13,61]
def ay (n:Nat):Bool:=
 if n<2 then false else match smalls.find? (fun p=>n % p==0) with
  | some p=>n==p
  | none=>SP 2 n && (SP 7 n && SP 61 n)
def aH (n:Nat):Bool:=
 n==2 || n==7 || n==61 || (decide (2<n) && decide (n % 2=1) && decide (0<n % 7) && decide (0<n % 61) && SP 2 n && SP 7 n && SP 61 n)
end
section
def jo (n:Int):Bool:=n==4 || n==8 || n==16 || n==32
variable {n:Int}
theorem nT (h:jo n=true):n=4∨n=8∨n=16∨n=32:=by
 unfold jo at h;simp at h;omega
def iL (pr:Nat→Bool) (n:Int) (p:Nat) (e:Int):Nat:=
 if 3≤p∧p<65536∧pr p=true∧p % (2*n).toNat=1∧1≤e∧p ^ e.toNat≤2147483647 then p ^ e.toNat else 0
theorem Ic (pr:Nat→Bool) (n:Int) (p:Nat) (e:Int):iL pr n p e≤2147483647:=by
 unfold iL;split
 ·rename_i h;exact h.2.2.2.2.2
 ·omega
variable {e:Int}{p:Nat}{pr:Nat→Bool}
theorem jy (h: ¬ (3≤p∧p<65536∧pr p=true∧p % (2*n).toNat=1∧1≤e)):iL pr n p e=0:=by
 unfold iL;rw [if_neg];intro hc;exact h ⟨hc.1,hc.2.1,hc.2.2.1,hc.2.2.2.1,hc.2.2.2.2.1⟩
theorem KC {k:Nat} (hp:3≤p) (hk:(k:Int)≤e) (h:2147483647<p ^ k):iL pr n p e=0:=by
 unfold iL;rw [if_neg];intro hc;have:p ^ k≤p ^ e.toNat:=Nat.pow_le_pow_right (by omega) (by omega);omega
theorem KD {k:Nat} (h:3≤p∧p<65536∧pr p=true∧p % (2*n).toNat=1∧1≤e) (hk:(k:Int)=e) (hb:p ^ k≤2147483647):iL pr n p e=p ^ k:=by
 have:e.toNat=k:=by omega
 unfold iL;rw [this,if_pos ⟨h.1,h.2.1,h.2.2.1,h.2.2.2.1,h.2.2.2.2,hb⟩]
def jF (pr:Nat→Bool) (s q:Nat):Bool:=
 decide (1073741824<q) && (decide (q≤2147483647) && (decide (q % s=1) && pr q))
def Par.t (pr:Nat→Bool) (x:Par):Nat:=iL pr x.n x.p x.r
def wtB (x:Par):Bool:=decide (1≤x.wt∧x.wt≤x.n∧x.er≤64)
def qc (n:Nat):Bool:=decide (1≤n∧n≤24)
def nD (pr:Nat→Bool) (s sp q:Nat):Bool:=!(decide (q<sp) && jF pr s q)
def stepOf (pr:Nat→Bool) (x:Par):Nat:=(2*x.n).toNat*x.t pr
def okB (pr:Nat→Bool) (x:Par):Bool:=
 jo x.n && (decide (0<x.t pr) && (qc x.ch.length && (wtB x && (jF pr (stepOf pr x) x.sp && (!(x.ch.any (nD pr (stepOf pr x) x.sp)) && decide x.ch.Nodup)))))
def chk (pr:Nat→Bool) (x:Par):Int:=if okB pr x then 0 else 2
end
section
theorem NS (x k:Nat):(x==k)=Nat.beq x k:=by
 rw [Bool.eq_iff_iff,beq_iff_eq,Nat.beq_eq]
def force {α:Type} (n:Nat) (f:Nat→α):α:=Nat.rec (f 0) (fun k _=>f (k+1)) n
theorem force_eq {α:Type} (n:Nat) (f:Nat→α):force n f=f n:=by cases n<;>rfl
def pwk (n:Nat) (fuel:Nat):Nat→Nat→Nat→Nat:=
 Nat.rec (fun _ _ out=>out) (fun _ ih a e out=>cond (Nat.beq e 0) out
  (force (a*a % n) fun a2=>force (e / 2) fun e2=>force (cond (Nat.beq (e % 2) 1) (out*a % n) out) fun o2=>ih a2 e2 o2)) fuel
theorem ahU (n:Nat): ∀ (fuel a e out:Nat),e<2 ^ fuel→out<n→pwk n fuel a e out=out*a ^ e % n:=by
 intro fuel;induction fuel with
 | zero=>
  intro a e out he ho;have:e=0:=by simpa using he
  subst this;show out=_;rw [Nat.pow_zero,Nat.mul_one,Nat.mod_eq_of_lt ho]
 | succ f ih=>
  intro a e out he ho;have e1:pwk n (f+1) a e out=cond (Nat.beq e 0) out (pwk n f (a*a % n) (e / 2) (cond (Nat.beq (e % 2) 1) (out*a % n) out)):=by
   show cond _ _ (force _ _)=_;rw [force_eq,force_eq,force_eq];rfl
  rw [e1];cases h0:Nat.beq e 0 with
  | true=>
   have:e=0:=Nat.eq_of_beq_eq_true h0;subst this;show out=_;rw [Nat.pow_zero,Nat.mul_one,Nat.mod_eq_of_lt ho]
  | false=>
   have he2:e / 2<2 ^ f:=by rw [Nat.pow_succ] at he;omega
   show pwk n f (a*a % n) (e / 2) _=_;cases h1:Nat.beq (e % 2) 1 with
   | true=>
    have h:e % 2=1:=Nat.eq_of_beq_eq_true h1;show pwk n f (a*a % n) (e / 2) (out*a % n)=_;rw [ih _ _ _ he2 (Nat.mod_lt _ (by omega))];have h2:a ^ e=a*(a*a) ^ (e / 2):=by
     conv=>lhs;rw [show e=2*(e / 2)+1 by omega]
     rw [Nat.pow_succ,Nat.pow_mul,Nat.pow_two,Nat.mul_comm]
    rw [h2, ←Nat.mul_assoc];simp [Nat.mul_mod,Nat.pow_mod]
   | false=>
    have h:e % 2=0:=by have:=Nat.ne_of_beq_eq_false h1;omega
    show pwk n f (a*a % n) (e / 2) out=_;rw [ih _ _ _ he2 ho];have h2:a ^ e=(a*a) ^ (e / 2):=by
     conv=>lhs;rw [show e=2*(e / 2) by omega]
     rw [Nat.pow_mul,Nat.pow_two]
    rw [h2];simp [Nat.mul_mod,Nat.pow_mod]
def adR (n fuel:Nat):Nat→Bool:=
 Nat.rec (fun _=>false) (fun _ ih x=>cond (Nat.beq x (n - 1)) true (force (x*x % n) fun y=>ih y)) fuel
theorem adS (n:Nat): ∀ (k x:Nat),adR n k x=lq n x k:=by
 intro k;induction k with
 | zero=>intro x;rfl
 | succ k ih=>
  intro x;have e1:adR n (k+1) x=cond (Nat.beq x (n - 1)) true (adR n k (x*x % n)):=by
   show cond _ _ (force _ _)=_;rw [force_eq];rfl
  rw [e1,ih,lq];rw [NS];cases Nat.beq x (n - 1)<;>rfl
def SPk (a n:Nat):Bool:=
 force (wH (n - 1)) fun t=>force ((n - 1) / 2 ^ t) fun d=>force (pwk n 32 (a % n) d 1) fun x=>cond (Nat.beq x 1) true (adR n t x)
theorem yg (a n:Nat) (hn:2≤n) (hn2:n<4294967296):SP a n=SPk a n:=by
 unfold SPk;rw [force_eq,force_eq,force_eq,adS];have hd:(n - 1) / 2 ^ wH (n - 1)=jc (n - 1):=rfl;have hlt:jc (n - 1)<2 ^ 32:=by
  rw [←hd];have:=Nat.div_le_self (n - 1) (2 ^ wH (n - 1));have h3:(2:Nat) ^ 32=4294967296:=by decide
  omega
 rw [hd,ahU n 32 (a % n) _ 1 hlt (by omega),Nat.one_mul];unfold SP uT;rw [NS];cases Nat.beq ((a % n) ^ jc (n - 1) % n) 1<;>rfl
def Qb (n:Nat):Bool:=
 cond (Nat.beq n 2) true (cond (Nat.beq n 7) true (cond (Nat.beq n 61) true
  (cond (Nat.ble n 2) false (cond (Nat.beq (n % 2) 0) false (cond (Nat.beq (n % 7) 0) false (cond (Nat.beq (n % 61) 0) false (cond (SPk 2 n) (cond (SPk 7 n) (SPk 61 n) false) false)))))))
theorem NT (n:Nat) (hn2:n<4294967296):aH n=Qb n:=by
 unfold aH Qb;by_cases h:2<n
 ·rw [yg 2 n (by omega) hn2,yg 7 n (by omega) hn2,yg 61 n (by omega) hn2];rw [NS,NS,NS];have e1:Nat.ble n 2=false:=by
   cases hb:Nat.ble n 2 with
   | false=>rfl
   | true=>have:=Nat.le_of_ble_eq_true hb;omega
  have m2:decide (n % 2=1)=!(Nat.beq (n % 2) 0):=by
   have e:Nat.beq (n % 2) 0=decide (n % 2=0):=by rw [←NS,Bool.eq_iff_iff,beq_iff_eq,decide_eq_true_eq]
   rw [e,Bool.eq_iff_iff,decide_eq_true_eq,Bool.not_eq_true',decide_eq_false_iff_not];omega
  have mk: ∀ k:Nat,decide (0<n % k)=!(Nat.beq (n % k) 0):=by
   intro k;have e:Nat.beq (n % k) 0=decide (n % k=0):=by rw [←NS,Bool.eq_iff_iff,beq_iff_eq,decide_eq_true_eq]
   rw [e,Bool.eq_iff_iff,decide_eq_true_eq,Bool.not_eq_true',decide_eq_false_iff_not];omega
  rw [e1,m2,mk,mk,ah h];cases Nat.beq n 2<;>cases Nat.beq n 7<;>cases Nat.beq n 61<;>cases Nat.beq (n % 2) 0<;>cases Nat.beq (n % 7) 0<;>cases Nat.beq (n % 61) 0<;>cases SPk 2 n<;>cases SPk 7 n<;>cases SPk 61 n<;>rfl
 ·have e1:Nat.ble n 2=true:=Nat.ble_eq_true_of_le (by omega);rcases (show n=0∨n=1∨n=2 by omega) with rfl | rfl | rfl<;>rfl
end
section
def Pr (p:Nat):Prop:=2≤p∧ ∀ m,m∣p→m=1∨m=p
theorem FU: ∀ n,2≤n→ ∃ p,Pr p∧p∣n:=by
 intro n;induction n using Nat.strongRecOn with
 | ind n ih=>
  intro h;by_cases hp:Pr n
  ·exact ⟨n,hp,Nat.dvd_refl n⟩
  ·have: ∃ m,m∣n∧m≠1∧m≠n:=by
    apply Classical.byContradiction;intro hc;apply hp;refine ⟨h,fun m hm=>?_⟩;apply Classical.byContradiction;intro hc2;exact hc ⟨m,hm,fun e=>hc2 (.inl e),fun e=>hc2 (.inr e)⟩
   obtain ⟨m,hm,h1,h2⟩:=this;have hle:=Nat.le_of_dvd (by omega) hm;have h0:m≠0:=by intro e;subst e;have:=Nat.eq_zero_of_zero_dvd hm;omega
   obtain ⟨p,hpp,hpm⟩:=ih m (by omega) (by omega);exact ⟨p,hpp,Nat.dvd_trans hpm hm⟩
variable {a p:Nat}
theorem Pr.coprime (hp:Pr p) (h: ¬ p∣a):Nat.gcd p a=1:=by
 rcases hp.2 _ (Nat.gcd_dvd_left p a) with h1 | h1
 ·exact h1
 ·exact absurd (h1▸Nat.gcd_dvd_right p a) h
theorem Pr.uV {b:Nat} (hp:Pr p) (h:p∣a*b) (ha: ¬ p∣a):p∣b:=by
 have:Nat.Coprime p a:=hp.coprime ha;exact this.dvd_of_dvd_mul_left h
def C:Nat→Nat→Nat
 | _,0=>1
 | 0,_+1=>0
 | n+1,k+1=>C n k+C n (k+1)
theorem Dj (n:Nat):C n 0=1:=by cases n<;>rfl
theorem adT: ∀ n k,n<k→C n k=0:=by
 intro n;induction n with
 | zero=>intro k h;cases k with
  | zero=>omega
  | succ k=>rfl
 | succ n ih=>intro k h;cases k with
  | zero=>omega
  | succ k=>rw [C,ih k (by omega),ih (k+1) (by omega)]
theorem ahV: ∀ n,C n n=1:=by
 intro n;induction n with
 | zero=>rfl
 | succ n ih=>rw [C,ih,adT n (n+1) (by omega)]
theorem YI: ∀ n k,(k+1)*C (n+1) (k+1)=(n+1)*C n k:=by
 intro n;induction n with
 | zero=>intro k;cases k with
  | zero=>rfl
  | succ k=>rw [adT 0 (k+1) (by omega),adT (0+1) (k+1+1) (by omega)];simp
 | succ n ih=>intro k;cases k with
  | zero=>
   have:=ih 0;have e:C (n+1+1) (0+1)=C (n+1) 0+C (n+1) (0+1):=rfl;rw [e,Dj];rw [Dj] at this;omega
  | succ j=>
   have h1:=ih j;have h2:=ih (j+1);rw [C,Nat.mul_add,h2];have h3:C (n+1) (j+1)=C n j+C n (j+1):=rfl;have e1:(j+1+1)*C (n+1) (j+1)=(n+1)*C n j+C (n+1) (j+1):=by rw [Nat.succ_mul,h1]
   rw [e1,h3,show (n+1+1)*(C n j+C n (j+1))=(n+1)*(C n j+C n (j+1))+(C n j+C n (j+1)) from Nat.succ_mul _ _,Nat.mul_add];omega
def S (n x:Nat):Nat→Nat
 | 0=>0
 | m+1=>S n x m+C n m*x ^ m
theorem alj (n x:Nat): ∀ m,S (n+1) x (m+1)=S n x (m+1)+x*S n x m:=by
 intro m;induction m with
 | zero=>simp [S,Dj]
 | succ m ih=>
  have e1:S (n+1) x (m+1+1)=S (n+1) x (m+1)+C (n+1) (m+1)*x ^ (m+1):=rfl;have e2:S n x (m+1+1)=S n x (m+1)+C n (m+1)*x ^ (m+1):=rfl;have e3:S n x (m+1)=S n x m+C n m*x ^ m:=rfl;have e4:C (n+1) (m+1)=C n m+C n (m+1):=rfl;have e5:x*(C n m*x ^ m)=C n m*x ^ (m+1):=by rw [Nat.pow_succ,Nat.mul_left_comm,Nat.mul_comm x (x ^ m)]
  rw [e1,ih,e2,e4,Nat.add_mul];conv=>rhs;rw [e3,Nat.mul_add,e5]
  rw [e3];omega
theorem alk (x:Nat): ∀ n,(x+1) ^ n=S n x (n+1):=by
 intro n;induction n with
 | zero=>simp [S,Dj]
 | succ n ih=>
  have e:S n x (n+1+1)=S n x (n+1):=by
   show S n x (n+1)+C n (n+1)*x ^ (n+1)=_;rw [adT n (n+1) (by omega)];omega
  rw [alj,e,Nat.pow_succ,ih,Nat.mul_add,Nat.mul_one,Nat.mul_comm x];omega
theorem Pr.alm (hp:Pr p) {k:Nat} (h0:0<k) (h1:k<p):p∣C p k:=by
 obtain ⟨n,rfl⟩: ∃ n,p=n+1:=⟨p - 1,by omega⟩
 obtain ⟨j,rfl⟩: ∃ j,k=j+1:=⟨k - 1,by omega⟩
 have h:=YI n j;have hd:n+1∣(j+1)*C (n+1) (j+1):=by rw [h];exact Nat.dvd_mul_right _ _
 refine hp.uV hd ?_;intro hc;have:=Nat.le_of_dvd (by omega) hc;omega
theorem Pr.aln (hp:Pr p) (x:Nat): ∀ m,m+1≤p→S p x (m+1) % p=1 % p:=by
 intro m;induction m with
 | zero=>intro _;simp [S,Dj]
 | succ m ih=>
  intro h;show (S p x (m+1)+C p (m+1)*x ^ (m+1)) % p=_;obtain ⟨c,hc⟩:=hp.alm (k:=m+1) (by omega) (by omega);rw [hc,Nat.mul_assoc,Nat.add_mul_mod_self_left,ih (by omega)]
theorem Pr.YJ (hp:Pr p) (x:Nat):(x+1) ^ p % p=(x ^ p+1) % p:=by
 rw [alk];show (S p x p+C p p*x ^ p) % p=_;obtain ⟨m,hm⟩: ∃ m,p=m+1:=⟨p - 1,by have:=hp.1;omega⟩
 have h:=hp.aln x m (by omega);rw [←hm] at h;rw [ahV,Nat.one_mul,Nat.add_mod,h, ←Nat.add_mod,Nat.add_comm]
theorem Pr.little (hp:Pr p): ∀ a,a ^ p % p=a % p:=by
 intro a;induction a with
 | zero=>rw [Nat.zero_pow (by have:=hp.1;omega)]
 | succ a ih=>rw [hp.YJ,Nat.add_mod,ih, ←Nat.add_mod]
variable {m x:Nat}
theorem Dk (hm:2≤m) (hx:1≤x) (h:m∣x - 1):x % m=1:=by
 obtain ⟨c,hc⟩:=h;have:x=1+m*c:=by omega
 rw [this,Nat.add_mul_mod_self_left];exact Nat.mod_eq_of_lt (by omega)
theorem Dl (h:x % m=1):m∣x - 1:=by
 have h2:=Nat.div_add_mod x m;rw [h] at h2;exact ⟨x / m,by omega⟩
theorem Pr.YK (hp:Pr p)  (ha: ¬ p∣a):a ^ (p - 1) % p=1:=by
 have h2:=hp.1;have ha0:0<a:=by
  rcases Nat.eq_zero_or_pos a with h | h
  ·subst h;exact absurd (Nat.dvd_zero p) ha
  ·exact h
 have h1:1≤a ^ (p - 1):=Nat.pow_pos ha0;apply Dk h2 h1;refine hp.uV (a:=a) ?_ ha;have e:a*(a ^ (p - 1) - 1)=a ^ p - a:=by
  rw [Nat.mul_sub,Nat.mul_one];congr 1;rw [Nat.mul_comm, ←Nat.pow_succ];congr 1;omega
 rw [e];exact Nat.dvd_of_mod_eq_zero (Nat.sub_mod_eq_zero_of_mod_eq (hp.little a))
theorem ig (hm:2≤m) (h:a ^ x % m=1) (c:Nat):a ^ (x*c) % m=1:=by
 rw [Nat.pow_mul,Nat.pow_mod,h,Nat.one_pow];exact Nat.mod_eq_of_lt (by omega)
variable {y:Nat}
theorem jH (hm:2≤m) (h:a ^ x % m=1) (hd:x∣y):a ^ y % m=1:=by
 obtain ⟨c,rfl⟩:=hd;exact ig hm h c
theorem zM (h:a ^ x % m=1) (h2:a ^ (x+y) % m=1):a ^ y % m=1:=by
 rw [Nat.pow_add,Nat.mul_mod,h,Nat.one_mul,Nat.mod_mod] at h2;exact h2
theorem sU (hm:2≤m) (x y:Nat):a ^ x % m=1→a ^ y % m=1→a ^ Nat.gcd x y % m=1:=by
 induction x,y using Nat.gcd.induction with
 | H0 n=>intro _ h;rw [Nat.gcd_zero_left];exact h
 | H1 x y hx ih=>
  intro h1 h2;rw [Nat.gcd_rec];refine ih ?_ h1;have e:y=x*(y / x)+y % x:=(Nat.div_add_mod y x).symm;rw [e] at h2;exact zM (ig hm h1 _) h2
theorem YL: ∀ f m,0<m→m<2 ^ f→ ∃ d,d % 2=1∧d*2 ^ v2f f m=m∧v2f f m<f:=by
 intro f;induction f with
 | zero=>intro m h0 h1;simp at h1;omega
 | succ f ih=>
  intro m h0 h1;by_cases hev:m % 2=0
  ·obtain ⟨d,hd,he,hlt⟩:=ih (m / 2) (by omega) (by rw [Nat.pow_succ] at h1;omega);have hv:v2f (f+1) m=v2f f (m / 2)+1:=by rw [v2f,if_pos hev]
   refine ⟨d,hd,?_,by omega⟩;rw [hv,Nat.pow_succ, ←Nat.mul_assoc,he];omega
  ·have hv:v2f (f+1) m=0:=by rw [v2f,if_neg hev]
   exact ⟨m,by omega,by rw [hv];simp,by omega⟩
theorem Dn       (h0 : 0 < m) (h1 : m < 4294967296) : jc   m % 2 = 1 ∧ jc   m * 2 ^ wH   m = m := by
  obtain ⟨d, hd, he, hlt⟩ := YL       32 m h0 (by have : (2 : Nat) ^ 32 = 4294967296 := by decide
                                                  omega)
  obtain ⟨h1, h2⟩ := KA       (show v2f 32 m < 32 from hlt) hd he;rw [h2];exact ⟨hd, by rw [h1]; exact he⟩
variable {n:Nat}
theorem NU {e:Nat}: ∀ k,lq n (a ^ e % n) k=true→ ∃ i,i<k∧a ^ (e*2 ^ i) % n=n - 1:=by
 intro k;induction k generalizing e with
 | zero=>intro h;simp [lq] at h
 | succ k ih=>
  intro h;simp only [lq,Bool.or_eq_true,beq_iff_eq] at h;rcases h with h | h
  ·exact ⟨0,by omega,by simpa using h⟩
  ·have e2:(a ^ e % n)*(a ^ e % n) % n=a ^ (e*2) % n:=by
    rw [←Nat.mul_mod, ←Nat.pow_add,show e+e=e*2 by omega]
   rw [e2] at h;obtain ⟨i,hi,hh⟩:=ih h;exact ⟨i+1,by omega,by rw [Nat.pow_succ,Nat.mul_comm (2 ^ i) 2, ←Nat.mul_assoc];exact hh⟩
theorem wI (h:SP a n=true):a ^ jc (n - 1) % n=1∨ ∃ i,i<wH (n - 1)∧a ^ (jc (n - 1)*2 ^ i) % n=n - 1:=by
 unfold SP uT at h;rw [←Nat.pow_mod] at h;simp only [Bool.or_eq_true,beq_iff_eq] at h;rcases h with h | h
 ·exact .inl h
 ·exact .inr (NU _ h)
variable {q:Nat}
theorem qW (hq:2≤q) (hd:q∣n) (h:x % n=1):x % q=1:=by
 have h1:x % n % q=x % q:=Nat.mod_mod_of_dvd x hd;rw [h] at h1;rw [←h1];exact Nat.mod_eq_of_lt (by omega)
theorem qX (hq:2≤q) (hd:q∣n) (hn:0<n) (h:x % n=n - 1):x % q=q - 1:=by
 have h1:x % n % q=x % q:=Nat.mod_mod_of_dvd x hd;rw [h] at h1;rw [←h1];obtain ⟨k,rfl⟩:=hd;have hk:0<k:=Nat.pos_of_mul_pos_left hn;have e:q*k - 1=q - 1+q*(k - 1):=by
  obtain ⟨j,rfl⟩: ∃ j,k=j+1:=⟨k - 1,by omega⟩
  rw [Nat.mul_add,Nat.mul_one,Nat.add_sub_cancel];omega
 rw [e,Nat.add_mul_mod_self_left];exact Nat.mod_eq_of_lt (by omega)
def sg (neg:Bool) (q:Nat):Nat:=cond neg (q - 1) 1
theorem Ie {neg:Bool} (hq:2≤q) (hd:q∣n) (hn:0<n) (h:x % n=sg neg n):x % q=sg neg q:=by
 cases neg with
 | true=>exact qX hq hd hn h
 | false=>exact qW hq hd h
theorem Dp (hq:2≤q) (h:x % q=q - 1):x*x % q=1:=by
 rw [Nat.mul_mod,h];obtain ⟨j,rfl⟩: ∃ j,q=j+2:=⟨q - 2,by omega⟩
 have e:(j+2 - 1)*(j+2 - 1)=1+(j+2)*j:=by
  show (j+1)*(j+1)=_;rw [Nat.add_mul,Nat.mul_add];simp [Nat.mul_add,Nat.add_mul];omega
 rw [e,Nat.add_mul_mod_self_left];exact Nat.mod_eq_of_lt (by omega)
theorem adU {o:Nat} (hq:2≤q) (h:x % q=q - 1) (ho:o % 2=1):x ^ o % q=q - 1:=by
 have e:o=2*(o / 2)+1:=by omega
 rw [e,Nat.pow_succ,Nat.pow_mul,Nat.pow_two,Nat.mul_mod,Nat.pow_mod,Dp hq h,Nat.one_pow,h,Nat.mod_eq_of_lt (show 1<q by omega),Nat.one_mul];exact Nat.mod_eq_of_lt (by omega)
theorem transfer {b d o s:Nat} {neg:Bool} (hp:Pr q) (hq:3≤q) (hd:d % 2=1) (ho:o % 2=1) (hy:o*2 ^ s=y) (h1:b ^ d % q=sg neg q) (h2:b ^ y % q=1):b ^ o % q=sg neg q:=by
 have hq2:2≤q:=hp.1;have hdvd:Nat.gcd y d∣o:=by
  rw [←hy];have hg:=Nat.gcd_mul_right_dvd_mul_gcd d o (2 ^ s);have h3:Nat.gcd d (2 ^ s)=1:=by
   have:Nat.Coprime d (2 ^ s):=Nat.Coprime.pow_right s (by
    have:Nat.gcd 2 d=1:=by
     rw [Nat.gcd_rec,hd];rfl
    show Nat.gcd d 2=1;rw [Nat.gcd_comm];exact this)
   exact this
  rw [h3,Nat.mul_one] at hg;rw [Nat.gcd_comm];exact Nat.dvd_trans hg (Nat.gcd_dvd_right d o)
 cases neg with
 | false=>exact jH hq2 (sU hq2 y d h2 h1) hdvd
 | true=>
  have h1':b ^ d % q=q - 1:=h1;have hdd:b ^ (d*2) % q=1:=by
   rw [Nat.pow_mul,Nat.pow_two];exact Dp hq2 h1'
  have alo:Nat.gcd y (d*2)∣o*2:=by
   have hg:=Nat.gcd_mul_right_dvd_mul_gcd y d 2;exact Nat.dvd_trans hg (Nat.mul_dvd_mul hdvd (Nat.gcd_dvd_right y 2))
  have h4:b ^ (o*2) % q=1:=jH hq2 (sU hq2 y (d*2) h2 hdd) alo;show b ^ o % q=q - 1;have hne:b ^ o % q≠1:=by
   intro hc;have h5:b ^ (o*d) % q=1:=ig hq2 hc d;rw [Nat.mul_comm,Nat.pow_mul] at h5;have h6:=adU hq2 h1' ho;omega
  have hpos:1≤b ^ o:=by
   rcases Nat.eq_zero_or_pos (b ^ o) with h | h
   ·rw [Nat.pow_mul,h] at h4;simp at h4
   ·exact h
  have hdv:q∣(b ^ o - 1)*(b ^ o+1):=by
   have h5:=Dl h4;have e:b ^ (o*2) - 1=(b ^ o - 1)*(b ^ o+1):=by
    rw [Nat.pow_mul,Nat.pow_two];obtain ⟨z,hz⟩: ∃ z,b ^ o=z+1:=⟨b ^ o - 1,by omega⟩
    rw [hz];simp [Nat.mul_add,Nat.add_mul]
   rwa [←e]
  have hn1: ¬ q∣b ^ o - 1:=fun hc=>hne (Dk hq2 hpos hc)
  obtain ⟨c,hc⟩:=hp.uV hdv hn1;have hc0:0<c:=by
   rcases Nat.eq_zero_or_pos c with h | h
   ·rw [h] at hc;simp at hc
   ·exact h
  obtain ⟨j,rfl⟩: ∃ j,c=j+1:=⟨c - 1,by omega⟩
  have e:b ^ o=q - 1+q*j:=by rw [Nat.mul_add,Nat.mul_one] at hc;omega
  rw [e,Nat.add_mul_mod_self_left];exact Nat.mod_eq_of_lt (by omega)
end
section
theorem Ig {pr:Nat→Bool} {x:Par} (h:okB pr x=false):chk pr x=2:=by unfold chk;rw [h];rfl
theorem YM {pr:Nat→Bool} {x:Par} (h:okB pr x=true):chk pr x=0:=by unfold chk;rw [h];rfl
end
section
def Bd (M:Int) (l:List Int):Prop:= ∀ z,z∈l→ -M≤z∧z≤M
variable {M:Int}{l:List Int}
theorem Bd.mono {M':Int}  (h:Bd M l) (hM:M≤M'):Bd M' l:=fun z hz=>by have:=h z hz;omega
theorem Bd.getD (h:Bd M l) (hM:0≤M) (i:Nat): -M≤l.getD i 0∧l.getD i 0≤M:=by
 rw [List.getD_eq_getElem?_getD];by_cases hi:i<l.length
 ·rw [List.getElem?_eq_getElem hi];exact h _ (List.getElem_mem hi)
 ·rw [List.getElem?_eq_none (by omega)];show -M≤0∧0≤M;omega
theorem Bd.set (h:Bd M l) (i:Nat) {v:Int} (hv: -M≤v∧v≤M):Bd M (l.set i v):=fun z hz=>by
 rcases List.mem_or_eq_of_mem_set hz with h1 | h1
 ·exact h z h1
 ·rw [h1];exact hv
end
section
open Go.RowKit Go.Lib
theorem Uc (s:List Int) (hs:s.Pairwise (fun a b=>a≤b)) (h: ∀ j (hj:j<s.length),j=0∨s[j]≠s[j - 1]):s.Nodup:=by
 rw [List.Nodup,List.pairwise_iff_getElem];intro i j hi hj hij he;rcases h j hj with h0 | h0
 ·omega
 ·apply h0;have a1:s[i]≤s[j - 1]:=by
   by_cases e:i=j - 1
   ·subst e;exact Int.le_refl _
   ·exact (List.pairwise_iff_getElem.1 hs) i (j - 1) hi (by omega) (by omega)
  have a2:s[j - 1]≤s[j]:=(List.pairwise_iff_getElem.1 hs) (j - 1) j (by omega) hj (by omega);omega
theorem Ud (s:List Int) (hs:s.Nodup): ∀ j (hj:j<s.length),j=0∨s[j]≠s[j - 1]:=by
 intro j hj;by_cases h0:j=0
 ·exact .inl h0
 ·right;have h:=(List.pairwise_iff_getElem.1 hs) (j - 1) j (by omega) hj (by omega);exact fun e=>h e.symm
theorem Ih (d:Array Int):(compactUpTo d d.size).length=d.size↔ ∀ j (hj:j<d.toList.length),j=0∨d.toList[j]≠d.toList[j - 1]:=by
 unfold compactUpTo;rw [List.length_map];have e:((List.range d.size).filter (keeps d)).length=d.size↔((List.range d.size).filter (keeps d)).length=(List.range d.size).length:=by rw [List.length_range]
 rw [e,List.length_filter_eq_length_iff];constructor
 ·intro h j hj;have hj':j<d.size:=by simpa using hj
  have hk:=h j (List.mem_range.2 hj');simp only [keeps,decide_eq_true_eq] at hk;rw [getElem!_pos d j hj',getElem!_pos d (j - 1) (by omega)] at hk;simpa using hk
 ·intro h j hj;have hj':j<d.size:=List.mem_range.1 hj;have hk:=h j (by simpa using hj');simp only [keeps,decide_eq_true_eq];rw [getElem!_pos d j hj',getElem!_pos d (j - 1) (by omega)];simpa using hk
def ints (l:List Nat):List Int:=l.map Int.ofNat
def sorted (l:List Nat):List Int:=(ints l).mergeSort fun x y=>decide (x≤y)
theorem oM (l:List Nat):(sorted l).length=l.length:=by unfold sorted ints;rw [List.length_mergeSort,List.length_map]
theorem EL (l:List Nat):(compactUpTo (sorted l).toArray (sorted l).toArray.size).length=l.length↔l.Nodup:=by
 have hlen:=oM l;have hp:(sorted l).Perm (ints l):=List.mergeSort_perm _ _;have hnd:(sorted l).Nodup↔l.Nodup:=by
  rw [hp.nodup_iff];unfold ints List.Nodup;rw [List.pairwise_map];constructor
  ·intro h;exact h.imp (fun hab e=>hab (congrArg Int.ofNat e))
  ·intro h;exact h.imp (fun hab e=>hab (Int.ofNat.inj e))
 have hs:(sorted l).Pairwise (fun a b=>a≤b):=by
  have:=List.pairwise_mergeSort (le:=fun x y:Int=>decide (x≤y)) (by intro a b c;simp;omega) (by intro a b;simp;omega) (ints l);exact this.imp (by intro a b h;simpa using h)
 have e1:(compactUpTo (sorted l).toArray (sorted l).toArray.size).length=l.length↔(compactUpTo (sorted l).toArray (sorted l).toArray.size).length=(sorted l).toArray.size:=by
  rw [List.size_toArray,hlen]
 rw [e1,Ih, ←hnd];exact ⟨Uc _ hs,Ud _⟩
def conds (pr:Nat→Bool) (x:Par):List Bool:=
 [decide (0<x.t pr),qc x.ch.length,wtB x,jF pr (stepOf pr x) x.sp,!(x.ch.any (nD pr (stepOf pr x) x.sp)),decide x.ch.Nodup]
theorem kN (pr:Nat→Bool) (x:Par):okB pr x=(jo x.n && (conds pr x).all id):=by
 unfold okB conds;simp
variable {pr:Nat→Bool}{x:Par}
theorem kQ {k:Nat} {b:Bool} (h: ∀ c,c∈(conds pr x).take k→c=true) (hk:(conds pr x)[k]? =some b) (hb:b=true): ∀ c,c∈(conds pr x).take (k+1)→c=true:=by
 intro c hc;rw [List.take_add_one] at hc;rcases List.mem_append.1 hc with h1 | h1
 ·exact h c h1
 ·rw [hk] at h1;simp at h1;rw [h1];exact hb
theorem o8 {k:Nat} (hk:(conds pr x)[k]? =some false):chk pr x=2:=by
 have:okB pr x=false:=by
  rw [kN];have:(conds pr x).all id=false:=by
   rw [List.all_eq_false];exact ⟨false,List.mem_of_getElem? hk,by simp⟩
  rw [this,Bool.and_false]
 unfold chk;rw [this];rfl
theorem Ue (hd:jo x.n=true) (h: ∀ c,c∈(conds pr x).take 6→c=true):chk pr x=0:=by
 have:okB pr x=true:=by
  rw [kN,hd,Bool.true_and,List.all_eq_true];intro c hc;exact h c hc
 unfold chk;rw [this];rfl
structure qY (x:Par):Prop where
 n0: -9223372036854775808≤x.n
 n1:x.n≤9223372036854775807
 p1:x.p<4294967296
 r0: -9223372036854775808≤x.r
 r1:x.r≤9223372036854775807
 sp1:x.sp<4294967296
theorem Ii (h:okB pr x=true):4≤x.n∧x.n≤32:=by
 have hd:jo x.n=true:=by rw [kN] at h;simp only [Bool.and_eq_true] at h;exact h.1
 have:=nT hd;omega
def kS (pr:Nat→Bool) (x:Par) (k:Int):Bool:=okB pr x && (decide (1≤k) && decide (k≤x.r))
def fK (pr:Nat→Bool) (x:Par) (k:Int):Int:=if kS pr x k then 0 else 2
def eY (pr:Nat→Bool) (x:Par) (k:Int):Nat:=if kS pr x k then iL pr x.n x.p k else 0
theorem yh {k:Int} (h:kS pr x k=false):fK pr x k=2∧eY pr x k=0:=by unfold fK eY;rw [h];exact ⟨rfl,rfl⟩
theorem Ij {k:Int} (h:kS pr x k=true):fK pr x k=0∧eY pr x k=iL pr x.n x.p k:=by unfold fK eY;rw [h];exact ⟨rfl,rfl⟩
theorem ahW (h:jo x.n=false∨qc x.ch.length=false∨wtB x=false∨ ¬ 0<x.t pr∨jF pr (stepOf pr x) x.sp=false∨(∃ q,q∈x.ch∧nD pr (stepOf pr x) x.sp q=true)∨ ¬ x.ch.Nodup):chk pr x=2:=by
 have:okB pr x=false:=by
  rw [kN];rcases h with h | h | h | h | h | ⟨q,hq,h⟩ | h
  ·rw [h];rfl
  ·unfold conds;rw [h];simp
  ·unfold conds;rw [h];simp
  ·unfold conds;rw [aj h];simp
  ·unfold conds;rw [h];simp
  ·have:x.ch.any (nD pr (stepOf pr x) x.sp)=true:=List.any_eq_true.2 ⟨q,hq,h⟩;unfold conds;rw [this];simp
  ·unfold conds;rw [aj h];simp
 unfold chk;rw [this];rfl
theorem adV (h1:jo x.n=true) (h2:qc x.ch.length=true) (h3:wtB x=true) (h4:0<x.t pr) (h5:jF pr (stepOf pr x) x.sp=true)
  (h6: ∀ q,q∈x.ch→nD pr (stepOf pr x) x.sp q=false) (h7:x.ch.Nodup):chk pr x=0:=by
 have:okB pr x=true:=by
  have hb:x.ch.any (nD pr (stepOf pr x) x.sp)=false:=by
   rw [List.any_eq_false];intro q hq;rw [h6 q hq];simp
  rw [kN,h1];unfold conds;rw [h2,h3,h5,hb,ah h4,ah h7];rfl
 unfold chk;rw [this];rfl
theorem NV {l:List Nat} {i:Nat} (hi:i<l.length) (h:(l.take i).Nodup) (hne: ∀ j (hj:j<i),l[j]'(by omega)≠l[i]):(l.take (i+1)).Nodup:=by
 rw [List.take_succ_eq_append_getElem hi,List.nodup_append];refine ⟨h,by simp,?_⟩;intro a ha b hb;simp at hb;subst hb;obtain ⟨j,hj,rfl⟩:=List.mem_iff_getElem.1 ha;rw [List.getElem_take];exact hne j (by simp at hj;omega)
theorem ahX {l:List Nat} {i j:Nat} (hi:i<l.length) (hj:j<i) (h:l[j]'(by omega)=l[i]): ¬ l.Nodup:=by
 intro hn;exact (List.pairwise_iff_getElem.1 hn) j i (by omega) hi hj h
end
end Go.Proofs.YtljfgdlgmdcmfaaGreat
