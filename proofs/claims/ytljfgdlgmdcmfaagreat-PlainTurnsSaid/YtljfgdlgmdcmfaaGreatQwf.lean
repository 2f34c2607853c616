/- Parts of a proof. -/
import Derived.Test.YtljfgdlgmdcmfaaGreatQwe
import Derived.Test.YtljfgdlgmdcmfaaGreatProg
import Derived.ProofKit
import Derived.Deep.Slices
import Derived.ChangeArms
import Derived.SizedLaws
set_option linter.unusedVariables false
set_option linter.defProp false
set_option linter.unusedSimpArgs false
set_option maxRecDepth 100000
set_option maxHeartbeats 400000
namespace Go.Proofs.YtljfgdlgmdcmfaaGreat.Wv
section
open Go.RowKit
def Wk (a b:AV):Prop:= ∀ (X:Cx) (v:Value),Rep X a v→Rep X b v
theorem Wk.refl (a:AV):Wk a a:=fun _ _ h=>h
variable {a b:AV}
theorem Wk.trans {c:AV} (h:Wk a b) (h':Wk b c):Wk a c:=fun X v q=>h' X v (h X v q)
theorem Wk.nil (s:Nat):Wk (.v (.slice none 0 0)) (.t 0 s []):=fun X v h=>by
 cases h;exact .t (cvs:=[]) (by simp) rfl (Nat.le_refl _) (Nat.zero_le _) (fun h=>absurd h (Nat.lt_irrefl _)) (fun i a x h1=>by simp at h1)
theorem Wk.e0 (s:Nat):Wk .e0 (.t 0 s []):=fun X v h=>by
 cases h;exact .t (cvs:=[]) (by simp) rfl (Nat.le_refl _) (Nat.zero_le _) (fun h=>absurd h (Nat.lt_irrefl _)) (fun i a x h1=>by simp at h1)
theorem Wk.agg {l:List Value}:Wk (.v (.agg l.toArray)) (.g (l.map .v)):=fun X v h=>by
 cases h;exact .g (by simp) (fun i a x h1 h2=>by
  rw [List.getElem?_map,h2] at h1;injection h1 with h1;subst h1;exact .v x)
def WkL:List AV→List AV→Prop
 | [],[]=>True
 | a::r,b::s=>Wk a b∧WkL r s
 | _,_=>False
theorem WkL.len: ∀ {l m:List AV},WkL l m→l.length=m.length
 | [],[],_=>rfl
 | _::_,_::_,h=>by simp [WkL.len h.2]
 | [],_::_,h=>h.elim
 | _::_,[],h=>h.elim
theorem WkL.get: ∀ {l m:List AV} (h:WkL l m) (i:Nat) (b:AV),m[i]? =some b→ ∃ a,l[i]? =some a∧Wk a b
 | a::r,b::s,h,0,b',hb=>by simp at hb;subst hb;exact ⟨a,by simp,h.1⟩
 | a::r,b::s,h,i+1,b',hb=>by
  obtain ⟨c,h1,h2⟩:=WkL.get h.2 i b' (by simpa using hb);exact ⟨c,by simpa using h1,h2⟩
 | [],[],h,i,b,hb=>by simp at hb
 | [],_::_,h,_,_,_=>h.elim
 | _::_,[],h,_,_,_=>h.elim
theorem Wk.g {l m:List AV} (h:WkL l m):Wk (.g l) (.g m):=fun X v q=>by
 cases q with
 | g hc hr=>
  refine .g (hc.trans h.len) fun i a x h1 h2=>?_
  obtain ⟨b,e1,e2⟩:=h.get i a h1;exact e2 X x (hr i b x e1 h2)
theorem Wk.tup {l m:List AV} (h:WkL l m):Wk (.tup l) (.tup m):=fun X v q=>by
 cases q with
 | tup hc hr=>
  refine .tup (hc.trans h.len) fun i a x h1 h2=>?_
  obtain ⟨b,e1,e2⟩:=h.get i a h1;exact e2 X x (hr i b x e1 h2)
variable {X:Cx}{l:List AV}
theorem fJ.wk {m:List AV} {vs:List Value} (h:WkL l m) (q:fJ X l vs):fJ X m vs:=⟨q.1.trans h.len,fun i a x h1 h2=>by
 obtain ⟨b,e1,e2⟩:=h.get i a h1;exact e2 X x (q.2 i b x e1 h2)⟩
variable {P:Program}{args args':List AV}{f:FuncId}
theorem TC.wk {res res':AV} (T:TC P f args' res) (ha:WkL args args') (hr:Wk res res'):TC P f args res':=by
 refine ⟨T.1,fun X vs hh hb q=>?_⟩;refine (T.2 X vs hh hb (q.wk ha)).mono ?_;rintro e w' ⟨v,h1,h2,h3⟩;exact ⟨v,h1,h2,fun m=>hr _ _ (h3 m)⟩
theorem TC.res {res res':AV} (T:TC P f args res) (hr:Wk res res'):TC P f args res':=by
 refine ⟨T.1,fun X vs hh hb q=>?_⟩;refine (T.2 X vs hh hb q).mono ?_;rintro e w' ⟨v,h1,h2,h3⟩;exact ⟨v,h1,h2,fun m=>hr _ _ (h3 m)⟩
variable {N n0:Nat}{e:Ev}{h:Hp}
theorem Ent.nil (d:Nat) (T:TypeId) (s:Nat) (hs:0<s) (hd:aO e d= .v (.slice none 0 0)):Ent n0 N e h ((d, .own h.length 0)::e) (h++[some (.arr T s [] 0)]):=fun X a hh hn hX hE=>by
 obtain ⟨Y,y1,y2,y3,y4,y5⟩:=H8 hX T s hs;rw [hh] at y4 y5;refine ⟨Y,y1,y4,y2.toN (hh▸hn),y3,hE.defers.trans y2.dse.symm,hE.size,fun k=>?_⟩;show Rep Y (if d=k then .own h.length 0 else aO e k) _;by_cases hk:d=k
 ·subst hk;rw [if_pos rfl];have:=hE.rep d;rw [hd] at this;generalize a.tmps.getD d undef=u at this ⊢;cases this;exact y5
 ·rw [if_neg hk];exact (hE.rep k).mono y2
theorem lQ {L:List Nat} {ks:List (Nat × Nat)} {σ:Type} (env:σ→Ev) (hp:σ→Hp) (inv:σ→Prop) (ms:σ→Nat) (s0:σ) {b:Code} {Q:dw}   (hi:inv s0) (he:Ent (base ks) N e h (env s0) (hp s0))
  (hr: ∀ s,inv s→bK P N L ks b (KF ks N env hp inv ms (ms s) Q) (env s) (hp s)):bK P N L ks (.loop b) Q e h:=by
 refine ⟨fun n e h=> ∃ s,e=env s∧h=hp s∧inv s∧n=ms s,ms s0,_,_,he,⟨s0,rfl,rfl,hi,rfl⟩,?_⟩;rintro n e' h' ⟨s,rfl,rfl,hs,rfl⟩;exact hr s hs
variable {x:Value}
theorem alP :Clo (.v x)=True:=eq_true (.v x)
theorem YH:Clo .none=True:=eq_true .none
theorem aif:Clo .e0=True:=eq_true .e0
variable {n s:Nat}
theorem alQ :Clo (.t n s l)= ∀ a,a∈l→Clo a:=propext ⟨fun h=>by cases h with | t h=>exact h,fun h=> .t h⟩
theorem alR :Clo (.g l)= ∀ a,a∈l→Clo a:=propext ⟨fun h=>by cases h with | g h=>exact h,fun h=> .g h⟩
theorem adV :Clo (.tup l)= ∀ a,a∈l→Clo a:=propext ⟨fun h=>by cases h with | tup h=>exact h,fun h=> .tup h⟩
theorem aii {f:Fn} {l1 l2:List AV}:Clo (.fn f l1 l2)=((∀ a,a∈l1→Clo a)∧ ∀ a,a∈l2→Clo a):=propext ⟨fun h=>by cases h with | fn h1 h2=>exact ⟨h1,h2⟩,fun h=> .fn h.1 h.2⟩
variable {T:TypeId}
theorem adW :Clo (.ifc T a)=Clo a:=propext ⟨fun h=>by cases h with | ifc h=>exact h,fun h=> .ifc h⟩
theorem adX:(∀ a,a∈([]:List AV)→Clo a)=True:=eq_true (fun a h=>by cases h)
theorem YI :(∀ a,a∈b::l→Clo a)=(Clo b∧ ∀ a,a∈l→Clo a):=propext ⟨fun h=>⟨h b (List.mem_cons_self ..),fun a ha=>h a (List.mem_cons_of_mem _ ha)⟩,fun h a ha=>by
 rcases List.mem_cons.1 ha with rfl | ha
 ·exact h.1
 ·exact h.2 a ha⟩
theorem adY {f:Nat→AV}:(∀ a,a∈tab n f→Clo a)= ∀ i,i<n→Clo (f i):=propext ⟨fun h i hi=>h _ (List.mem_map.2 ⟨i,List.mem_range.2 hi,rfl⟩),fun h a ha=>by
 obtain ⟨i,hi,rfl⟩:=List.mem_map.1 ha;exact h i (List.mem_range.1 hi)⟩
theorem adZ {α:Type} {l:List α} {f:α→AV}:(∀ a,a∈l.map f→Clo a)= ∀ x,x∈l→Clo (f x):=propext ⟨fun h x hx=>h _ (List.mem_map.2 ⟨x,hx,rfl⟩),fun h a ha=>by
 obtain ⟨x,hx,rfl⟩:=List.mem_map.1 ha;exact h x hx⟩
variable {id:Nat}
theorem YJ (hX:Ok X) {off:Nat} {cells:List AV}  (h:X.h[id]? =some (some (.blk cells))) (ha:cells[off]? =some a) (hab: ∀ x,Rep X a x→Rep X b x):
  ∃ Y,Y.w=X.w∧Y.m=X.m∧Y.h=X.h.set id (some (.blk (cells.set off b)))∧Step X Y∧Ok Y:=by
 have hid:id<X.h.length:=(List.getElem?_eq_some_iff.1 h).1;have S:Step X ⟨X.w,X.m,X.h.set id (some (.blk (cells.set off b))),X.bad,X.ds⟩:=by
  refine ⟨rfl,rfl,rfl,Nat.le_refl _,fun _ _ _=>rfl,fun _ _ _ h1 h2=>⟨h1,h2⟩,by simp,fun i T s c f _ hi=>?_,fun i c _ hi=>?_,fun c hc=>?_,fun _ _ hb=> .inl hb,fun i c _ hi=>?_,rfl⟩
  ·by_cases e:i=id
   ·subst e;simp only at hi;rw [List.getElem?_set_self hid] at hi;injection hi with hi;cases hi
   ·simp only at hi;rw [cu e] at hi;exact ⟨c,f,hi,Nat.le_refl _,fun _=>rfl⟩
  ·by_cases e:i=id
   ·subst e;exact ⟨cells,h,rfl⟩
   ·simp only at hi;rw [cu e] at hi;exact ⟨c,hi,rfl⟩
  ·obtain ⟨i,⟨o,ho⟩,hc⟩:=hc;by_cases e:i=id
   ·subst e;exact .inr ⟨i,⟨_,h⟩,hc⟩
   ·simp only at ho;rw [cu e] at ho;exact .inr ⟨i,⟨o,ho⟩,hc⟩
  ·by_cases e:i=id
   ·subst e;simp only at hi;rw [List.getElem?_set_self hid] at hi;injection hi with hi;cases hi
   ·simp only at hi;rw [cu e] at hi;exact ⟨c,hi,rfl⟩
 have live: ∀ i,Cx.live ⟨X.w,X.m,X.h.set id (some (.blk (cells.set off b))),X.bad,X.ds⟩ i→X.live i:=fun i ⟨o,ho⟩=>by
  by_cases e:i=id
  ·subst e;exact ⟨_,h⟩
  ·simp only at ho;rw [cu e] at ho;exact ⟨o,ho⟩
 refine ⟨⟨X.w,X.m,X.h.set id (some (.blk (cells.set off b))),X.bad,X.ds⟩,rfl,rfl,rfl,S,fun i c hi=>?_,fun i T' s c fz hi=>?_,fun i j c hi hj=>hX.inj i j c (live i hi) (live j hj),hX.eX,fun i es hi=>?_⟩
 ·by_cases e:i=id
  ·subst e;simp only at hi;rw [List.getElem?_set_self hid] at hi;injection hi with hi;injection hi with hi;injection hi with hi;subst hi;obtain ⟨g,cvs,T',h1,h2,h3,h4,h5⟩:=hX.blk i cells h;refine ⟨g,cvs,T',h1,h2,by simpa using h3,h4,fun j a' x q1 q2=>?_⟩;suffices hx:Rep X a' x from hx.mono S
   rw [List.getElem?_set] at q1;split at q1
   ·next hj=>
    subst hj;split at q1
    ·injection q1 with q1;subst q1;exact hab x (h5 _ a x ha q2)
    ·cases q1
   ·exact h5 j a' x q1 q2
  ·simp only at hi;rw [cu e] at hi;obtain ⟨g,cvs,T',h1,h2,h3,h4,h5⟩:=hX.blk i c hi;exact ⟨g,cvs,T',h1,h2,h3,h4,fun j a' x q1 q2=>(h5 j a' x q1 q2).mono S⟩
 ·by_cases e:i=id
  ·subst e;simp only at hi;rw [List.getElem?_set_self hid] at hi;injection hi with hi;cases hi
  ·simp only at hi;rw [cu e] at hi;obtain ⟨g1,g2,n,g3,g4⟩:=hX.arr i T' s c fz hi;refine ⟨g1,g2,n,g3,?_⟩;rcases g4 with g4 | ⟨g,cvs,g4⟩
   ·exact .inl g4
   ·exact .inr ⟨g,cvs,⟨g4.at_,g4.blk,g4.cap,g4.iU,g4.sz,g4.bad,fun j a' x q1 q2=>(g4.rep j a' x q1 q2).mono S,g4.good⟩⟩
 ·by_cases e:i=id
  ·subst e;simp only at hi;rw [List.getElem?_set_self hid] at hi;injection hi with hi;cases hi
  ·simp only at hi;rw [cu e] at hi;obtain ⟨g,ents,clock,h1,h2,h3⟩:=hX.map i es hi;exact ⟨g,ents,clock,h1,h2,h3.mono S⟩
theorem Ent.ad1 (id off:Nat) (T:TypeId) (s:Nat) (cells:List AV) (hs:0<s) (hc:h[id]? =some (some (.blk cells))) (hd:cells[off]? =some (.v (.slice none 0 0))):
  Ent n0 N e h e ((h++[some (Ob.arr T s [] 0)]).set id (some (.blk (cells.set off (.own h.length 0))))):=fun X a hh hn hX hE=>by
 obtain ⟨Y,y1,y2,y3,y4,y5⟩:=H8 hX T s hs;rw [hh] at y4 y5;have hid:id<h.length:=(List.getElem?_eq_some_iff.1 hc).1;obtain ⟨Z,z1,z2,z3,z4,z5⟩:=YJ (a:= .v (.slice none 0 0)) (b:= .own h.length 0) y3 (id:=id) (off:=off) (cells:=cells) (by rw [y4,List.getElem?_append_left hid];exact hc) hd (fun x q=>by cases q;exact y5);exact ⟨Z,z1.trans y1,by rw [z3,y4],(y2.trans hX z4).toN (hh▸hn),z5,hE.mono (y2.trans hX z4)⟩
theorem Ent.cell (id off:Nat) (cells:List AV) (a b:AV) (hc:h[id]? =some (some (.blk cells))) (ha:cells[off]? =some a) (hw:Wk a b):
  Ent n0 N e h e (h.set id (some (.blk (cells.set off b)))):=fun X a' hh hn hX hE=>by
 subst hh;obtain ⟨Z,z1,z2,z3,z4,z5⟩:=YJ hX (id:=id) (off:=off) (cells:=cells) hc ha (fun x q=>hw _ _ q);exact ⟨Z,z1,z3,z4.toN hn,z5,hE.mono z4⟩
inductive lo (m:Nat):AV→Prop
 | clo {a:AV} (h:Clo a):lo m a
 | own {id n:Nat} (h:id<m):lo m (.own id n)
 | ptr {id n:Nat} (h:id<m):lo m (.ptr id n)
 | ap {id n o:Nat} (h:id<m):lo m (.ap id n o)
 | mp {id:Nat} (h:id<m):lo m (.mp id)
 | g {l:List AV} (h: ∀ (a:AV),a∈l→lo m a):lo m (.g l)
 | tup {l:List AV} (h: ∀ (a:AV),a∈l→lo m a):lo m (.tup l)
 | fn {f:Fn} {l1 l2:List AV} (h1: ∀ (a:AV),a∈l1→lo m a) (h2: ∀ (a:AV),a∈l2→lo m a):lo m (.fn f l1 l2)
 | ifc {T:TypeId} {a:AV} (h:lo m a):lo m (.ifc T a)
 | tm {es:List (Value × AV)} (h: ∀ (p:Value × AV),p∈es→lo m p.2):lo m (.tm es)
def loE (m:Nat):Ev→Prop
 | []=>True
 | (_,a)::r=>lo m a∧loE m r
def loL (m:Nat) (l:List AV):Prop:= ∀ a,a∈l→lo m a
def loH (m:Nat):Hp→Prop
 | []=>True
 | none::r=>loH m r
 | some (.blk cells)::r=>loL m cells∧loH m r
 | some (.arr _ _ cells _)::r=>loL m cells∧loH m r
 | some (.map es)::r=>loL m (es.map (·.2))∧loH m r
variable {m:Nat}
theorem aij :lo m (.own id n)=(id<m):=propext ⟨fun h=>(by cases h with | own h=>exact h | clo h=>cases h), .own⟩
theorem aik :lo m (.ptr id n)=(id<m):=propext ⟨fun h=>(by cases h with | ptr h=>exact h | clo h=>cases h), .ptr⟩
theorem alS {o:Nat}:lo m (.ap id n o)=(id<m):=propext ⟨fun h=>(by cases h with | ap h=>exact h | clo h=>cases h), .ap⟩
theorem alT :lo m (.mp id)=(id<m):=propext ⟨fun h=>(by cases h with | mp h=>exact h | clo h=>cases h), .mp⟩
theorem anZ :lo m (.v x)=True:=eq_true (.clo (.v x))
theorem ad2 :lo m .none=True:=eq_true (.clo .none)
theorem alU :lo m .e0=True:=eq_true (.clo .e0)
theorem an0 :lo m (.t n s l)= ∀ a,a∈l→Clo a:=propext ⟨fun h=>by cases h with | clo h=>cases h with | t h=>exact h,fun h=> .clo (.t h)⟩
theorem an1 :lo m (.g l)=loL m l:=propext ⟨fun h=>by
 cases h with
 | g h=>exact h
 | clo h=>cases h with | g h=>exact fun a ha=> .clo (h a ha), .g⟩
theorem ail :lo m (.tup l)=loL m l:=propext ⟨fun h=>by
 cases h with
 | tup h=>exact h
 | clo h=>cases h with | tup h=>exact fun a ha=> .clo (h a ha), .tup⟩
theorem alV {f:Fn} {l1 l2:List AV}:lo m (.fn f l1 l2)=(loL m l1∧loL m l2):=propext ⟨fun h=>by
 cases h with
 | fn h1 h2=>exact ⟨h1,h2⟩
 | clo h=>cases h with | fn h1 h2=>exact ⟨fun a ha=> .clo (h1 a ha),fun a ha=> .clo (h2 a ha)⟩,fun h=> .fn h.1 h.2⟩
theorem ain :lo m (.ifc T a)=lo m a:=propext ⟨fun h=>by
 cases h with
 | ifc h=>exact h
 | clo h=>cases h with | ifc h=>exact .clo h, .ifc⟩
theorem alW {es:List (Value × AV)}:lo m (.tm es)=loL m (es.map (·.2)):=by
 refine propext ⟨fun h=>?_,fun h=> .tm fun p hp=>h _ (List.mem_map.2 ⟨p,hp,rfl⟩)⟩;cases h with
 | tm h=>exact fun a ha=>by obtain ⟨p,hp,rfl⟩:=List.mem_map.1 ha;exact h p hp
 | clo h=>cases h
theorem ad3 :loE m []=True:=Eq.trans rfl rfl
theorem YK {d:Nat}  {r:Ev}:loE m ((d,a)::r)=(lo m a∧loE m r):=Eq.trans rfl rfl
theorem ad4 :loL m []=True:=eq_true fun a h=>by cases h
theorem YL :loL m (b::l)=(lo m b∧loL m l):=propext ⟨fun h=>⟨h b (List.mem_cons_self ..),fun a ha=>h a (List.mem_cons_of_mem _ ha)⟩,fun h a ha=>by
 rcases List.mem_cons.1 ha with rfl | ha
 ·exact h.1
 ·exact h.2 a ha⟩
theorem ad5 {f:Nat→AV}:loL m (tab n f)= ∀ i,i<n→lo m (f i):=propext ⟨fun h i hi=>h _ (List.mem_map.2 ⟨i,List.mem_range.2 hi,rfl⟩),fun h a ha=>by
 obtain ⟨i,hi,rfl⟩:=List.mem_map.1 ha;exact h i (List.mem_range.1 hi)⟩
theorem ad6 :loH m []=True:=Eq.trans rfl rfl
variable {r:Hp}
theorem YM :loH m (none::r)=loH m r:=Eq.trans rfl rfl
theorem ad7 :loH m (some (.blk l)::r)=(loL m l∧loH m r):=Eq.trans rfl rfl
theorem ad8 {fz:Nat}   :loH m (some (.arr T s l fz)::r)=(loL m l∧loH m r):=Eq.trans rfl rfl
theorem ad9 {es:List (Value × AV)} :loH m (some (.map es)::r)=(loL m (es.map (·.2))∧loH m r):=Eq.trans rfl rfl
theorem aea {α:Type}  {l:List α} {f:α→AV}:loL m (l.map f)= ∀ x,x∈l→lo m (f x):=propext ⟨fun h x hx=>h _ (List.mem_map.2 ⟨x,hx,rfl⟩),fun h a ha=>by
 obtain ⟨x,hx,rfl⟩:=List.mem_map.1 ha;exact h x hx⟩
theorem Qu : ∀ {e:Ev} (h:loE m e) (d:Nat),lo m (aO e d)
 | [],_,d=> .clo .none
 | (k,a)::r,h,d=>by
  show lo m (if k=d then a else aO r d);split
  ·exact h.1
  ·exact Qu h.2 d
theorem qc      {m : Nat} : ∀ {h : Hp} (hl : loH m h) (i : Nat), (∀ cells, h[i]? = some (some (.blk cells)) → loL m cells) ∧ (∀ T s cells fz, h[i]? = some (some (.arr T s cells fz)) → loL m cells) ∧ (∀ es, h[i]? = some (some (.map es)) → loL m (es.map (·.2)))
  | [], _, i => ⟨fun _ hh => by simp at hh, fun _ _ _ _ hh => by simp at hh, fun _ hh => by simp at hh⟩
  | o :: r, hl, 0 => ⟨fun c hh => by
      simp at hh; subst hh; exact hl.1, fun T s c f hh => by
      simp at hh; subst hh; exact hl.1, fun es hh => by
      simp at hh; subst hh; exact hl.1⟩
  | o :: r, hl, i + 1 => by
    have hr : loH m r := by
      cases o with
      | none => exact hl
      | some o => cases o <;> exact hl.2
    have := qc      hr i;exact ⟨fun c hh => this.1 c (by simpa using hh), fun T s c f hh => this.2.1 T s c f (by simpa using hh), fun es hh => this.2.2 es (by simpa using hh)⟩
theorem Rep.cut (h:Rep X a x) (hl:lo m a):Rep ⟨X.w,X.m,X.h.take m,X.bad,X.ds⟩ a x:=by
 have look: ∀ id,id<m→(X.h.take m)[id]? =X.h[id]? :=fun id hi=>by rw [List.getElem?_take,if_pos hi]
 induction hl generalizing x with
 | clo hc=>exact h.clo hc fun b o u hu hb=>⟨hu,hb⟩
 | own hl=>
  cases h with
  | own hid hh=>
  refine .own (by rw [List.length_take];exact Nat.lt_min.2 ⟨hl,hid⟩) fun T s c f q=>hh T s c f ?_
  rw [←look _ hl];exact q
 | ptr hl=>
  cases h with
  | ptr hid hh=>
  refine .ptr (by rw [List.length_take];exact Nat.lt_min.2 ⟨hl,hid⟩) fun c q=>hh c ?_
  rw [←look _ hl];exact q
 | ap hl=>
  cases h with
  | ap hid hh=>
  refine .ap (by rw [List.length_take];exact Nat.lt_min.2 ⟨hl,hid⟩) fun T s c f q=>hh T s c f ?_
  rw [←look _ hl];exact q
 | mp hl=>
  cases h with
  | mp hid hh=>
  refine .mp (by rw [List.length_take];exact Nat.lt_min.2 ⟨hl,hid⟩) fun es q=>hh es ?_
  rw [←look _ hl];exact q
 | g hl ih=>cases h with | g hc hr=>exact .g hc fun i a x h1 h2=>ih a (List.mem_of_getElem? h1) (hr i a x h1 h2)
 | tup hl ih=>cases h with | tup hc hr=>exact .tup hc fun i a x h1 h2=>ih a (List.mem_of_getElem? h1) (hr i a x h1 h2)
 | fn q1 q2 ih1 ih2=>cases h with | fn h1 h2 r1 r2=>exact .fn h1 h2 (fun i a x k1 k2=>ih1 a (List.mem_of_getElem? k1) (r1 i a x k1 k2)) (fun i a x k1 k2=>ih2 a (List.mem_of_getElem? k1) (r2 i a x k1 k2))
 | ifc hl ih=>cases h with | ifc h=>exact .ifc (ih h)
 | tm hl ih=>
  cases h with
  | tm hb hn hl hk hr=>
  refine .tm hb (fun ⟨i,⟨o,ho⟩,he⟩=>hn ⟨i,⟨o,?_⟩,he⟩) hl hk fun i p e h1 h2=>ih p (List.mem_of_getElem? h1) (hr i p e h1 h2)
  simp only at ho;rw [List.getElem?_take] at ho;split at ho
  ·exact ho
  ·cases ho
theorem Ent.cut {e':Ev}  (m:Nat) (hm:n0≤m) (hf:wJ e' e) (he:loE m e') (hh:loH m (h.take m)):Ent n0 N e h e' (h.take m):=fun X a hX0 hn hX hE=>by
 subst hX0;have sub: ∀ (i:Nat) (o:Option Ob),(X.h.take m)[i]? =some o→i<m∧X.h[i]? =some o:=fun i o q=>by
  rw [List.getElem?_take] at q;split at q
  ·next hi=>exact ⟨hi,q⟩
  ·cases q
 refine ⟨⟨X.w,X.m,X.h.take m,X.bad,X.ds⟩,rfl,rfl,?_,?_,hE.defers,hE.size,fun d=>?_⟩
 ·refine ⟨rfl,rfl,rfl,Nat.le_refl _,fun _ _ _=>rfl,fun _ _ _ h1 h2=>⟨h1,h2⟩,(by simp;exact Nat.le_min.2 ⟨hm,hn⟩),fun i T s c f _ hi=>⟨c,f,(sub i _ hi).2,Nat.le_refl _,fun _=>rfl⟩,fun i c _ hi=>⟨c,(sub i _ hi).2,rfl⟩,fun b hb=>?_,fun _ _ hb=> .inl hb,fun i c _ hi=>⟨c,(sub i _ hi).2,rfl⟩,rfl⟩
  ·obtain ⟨i,⟨o,ho⟩,hb⟩:=hb;exact .inr ⟨i,⟨o,(sub i _ ho).2⟩,hb⟩
 ·refine ⟨fun id cells hi=>?_,fun id T' s cells fz hi=>?_,fun i j b hi hj=>?_,hX.eX,fun id es hi=>?_⟩
  ·obtain ⟨b,cvs,T',h1,h2,h3,h4,h5⟩:=hX.blk id cells (sub id _ hi).2;exact ⟨b,cvs,T',h1,h2,h3,h4,fun j a x q1 q2=>Rep.cut (h5 j a x q1 q2) ((qc hh id).1 cells hi a (List.mem_of_getElem? q1))⟩
  ·obtain ⟨g1,g2,n,g3,g4⟩:=hX.arr id T' s cells fz (sub id _ hi).2;refine ⟨g1,g2,n,g3,?_⟩;rcases g4 with g4 | ⟨b,cvs,g4⟩
   ·exact .inl g4
   ·exact .inr ⟨b,cvs,⟨g4.at_,g4.blk,g4.cap,g4.iU,g4.sz,g4.bad,fun j a x q1 q2=>Rep.cut (g4.rep j a x q1 q2) ((qc hh id).2.1 T' s cells fz hi a (List.mem_of_getElem? q1)),g4.good⟩⟩
  ·obtain ⟨o,ho⟩:=hi;obtain ⟨o',ho'⟩:=hj;exact hX.inj i j b ⟨o,(sub i _ ho).2⟩ ⟨o',(sub j _ ho').2⟩
  ·obtain ⟨b,ents,clock,h1,h2,h3,h4⟩:=hX.map id es (sub id _ hi).2;exact ⟨b,ents,clock,h1,h2,h3,fun j p e q1 q2=>⟨(h4 j p e q1 q2).1,Rep.cut (h4 j p e q1 q2).2 ((qc hh id).2.2 es hi _ (List.mem_map.2 ⟨p,List.mem_of_getElem? q1,rfl⟩))⟩⟩
 ·rcases wK hf d with q | q
  ·have:=hE.rep d;rw [←q] at this;exact Rep.cut this (Qu he d)
  ·rw [q];exact .none _
theorem iw {ks:List (Nat × Nat)}  {σ:Type} {env:σ→Ev} {hp:σ→Hp} {inv:σ→Prop} {ms:σ→Nat}  {Q:dw}   (s:σ) (m:Nat) (hb:base ks≤m) (hi:inv s) (hm:ms s<n) (hh:h.take m=hp s) (he:wJ (env s) e) (hl:loE m (env s)) (hL:loH m (hp s)):KF ks N env hp inv ms n Q .normal e h:=
 Oe s (hh▸Ent.cut m hb he hl (hh▸hL)) hi hm
variable {K p₀:AV→Hp→Prop}{cap fst:List AV}{fid:FuncId}
theorem aJ {R p:AV→Hp→Prop} (T:HTP P fid (fst++args++cap) h R p) (hK: ∀ av h',R av h'→K av h') (hp: ∀ av h',p av h'→p₀ av h'):Dc P p₀ K h (.fn (.func fid) fst cap) args:=
 ⟨fid,fst,cap,rfl,T.mono hK hp⟩
theorem aC {R:AV→Hp→Prop} (T:HT P fid (fst++args++cap) h R) (hK: ∀ av h',R av h'→K av h'):Dc P p₀ K h (.fn (.func fid) fst cap) args:=
 ⟨fid,fst,cap,rfl,(T.toP p₀).mono hK fun _ _ q=>q⟩
theorem ak {h':Hp}   {res:AV} (T:TC P fid args' res) (hcl:closeWith fC h args=some (args',h')) (hc: ∀ (a:AV),a∈args'→Clo a) (hres:Clo res) (hK:K res h'):Dc P p₀ K h (.fn (.func fid) [] []) args:=by
 refine aC (R:=fun r h2=>r=res∧h2=h') ?_ ?_
 ·rw [List.nil_append,List.append_nil];exact HT.Qq T hcl hc hres
 ·rintro av h2 ⟨rfl,rfl⟩;exact hK
def sCl (args':List AV) (K:Hp→Prop) (o:Option (List AV × Hp)):Prop:= ∃ a h,o=some (a,h)∧a=args'∧K h
theorem jk {a:List AV} {K:Hp→Prop}  (ha:a=args') (hK:K h):sCl args' K (some (a,h)):=⟨a,h,rfl,ha,hK⟩
theorem kW {res:AV} (T:TC P fid args' res) (hc: ∀ (a:AV),a∈args'→Clo a) (hres:Clo res) (hcl:sCl args' (K res) (closeWith fC h args)):Dc P p₀ K h (.fn (.func fid) [] []) args:=by
 obtain ⟨a,h',e,rfl,hK⟩:=hcl;exact ak T e hc hres hK
theorem aeb {h':Hp}  {args2:List AV} {res:AV} (T:TC P fid args' res) (hcl:closeWith fC h args=some (args2,h')) (hw:WkL args2 args') (hc: ∀ (a:AV),a∈args2→Clo a) (hres:Clo res) (hK:K res h'):Dc P p₀ K h (.fn (.func fid) [] []) args:=
 ak (T.wk hw (Wk.refl _)) hcl hc hres hK
theorem dn {K:AV→Prop}    {res:AV} {p:AV→Hp→Prop} (T:HTP P fid (fst++args++cap) h (fun r h'=>r=res∧h'=h) p) (hK:K res) (hp: ∀ av h',p av h'→p₀ av h'):Qr P p₀ K h (.fn (.func fid) fst cap) args:=
 ⟨fid,fst,cap,rfl,res,T.mono (fun _ _ q=>q) hp,hK⟩
theorem zI {a':AV} (hv:CV h a=some a') (hc:Clo a'):fF h a=some (a',h):=by
 unfold CV at hv;split at hv
 ·next id n=>
  split at hv
  ·next T s cells fz hh=>
   split at hv
   ·next hcond=>
    injection hv with hv;subst hv;unfold fF;simp only [hh,hcond.1,if_true];rw [vZ (by rw [hh,hcond.2,hcond.1])]
   ·cases hv
  ·cases hv
 ·next hne=>
  injection hv with hv;subst hv;cases hc<;>rfl
theorem sU {f:Hp→AV→Option (AV × Hp)} {g:AV→Option AV} {h:Hp} (hf: ∀ a a',g a=some a'→Clo a'→f h a=some (a',h)): ∀ (l l':List AV),EN g l=some l'→(∀ (a:AV),a∈l'→Clo a)→closeWith f h l=some (l',h)
 | [],l',hm,_=>by
  simp only [EN] at hm;injection hm with hm;subst hm;rfl
 | a::r,l',hm,hc=>by
  simp only [EN] at hm;split at hm
  ·next a' r' h1 h2=>
   injection hm with hm;subst hm;have i1:=hf a a' h1 (hc a' (List.mem_cons_self ..));have i2:=sU hf r r' h2 fun b hb=>hc b (List.mem_cons_of_mem _ hb)
   simp only [closeWith,i1,i2]
  ·cases hm
theorem zJ {a':AV} (hv:uF h a=some a') (hc:Clo a'):fC h a=some (a',h):=by
 unfold uF at hv;split at hv
 ·next l=>
  cases hl:EN (CV h) l with
  | none=>rw [hl] at hv;cases hv
  | some l'=>
   rw [hl] at hv;injection hv with hv;subst hv;cases hc with
   | g hc=>
   unfold fC;simp only [sU (f:=fF) (g:=CV h) (h:=h) (fun a a'=>zI) l l' hl hc,Option.map_some]
 ·next hne=>
  have:=zI hv hc;unfold fC;split
  ·next l=>exact absurd rfl (hne l)
  ·exact this
theorem dZ {K:AV→Prop}    {res:AV} (T:TC P fid args' res) (hv:J7 h args=some args') (hc: ∀ (a:AV),a∈args'→Clo a) (hres:Clo res) (hK:K res):Qr P p₀ K h (.fn (.func fid) [] []) args:=by
 refine dn (p:=fun _ _=>False) ?_ hK (fun _ _ q=>q.elim);rw [List.nil_append,List.append_nil];exact (HT.Qq T (sU (f:=fC) (g:=uF h) (fun a a'=>zJ) args args' hv hc) hc hres).toP _
theorem TC.calls {res:AV} (T:TC P f args res) {w:World} {vs:List Value} (hr:fJ ⟨w,fun _=>(none,0),[],fun _ _=>False,[]⟩ args vs):
  Calls P f vs.toArray w fun e w'=> ∃ v,e= .returned v∧Below w.heap.size w w'∧Rep ⟨w',fun _=>(none,0),[],fun _ _=>False,[]⟩ res v:=by
 refine (T.2 ⟨w,fun _=>(none,0),[],fun _ _=>False,[]⟩ vs rfl (fun _ _ h=>h.elim) hr).mono ?_;rintro e w' ⟨v,h1,h2,h3⟩;exact ⟨v,h1,h2,h3 _⟩
end
section
open Go.RowKit
theorem aec {X:Cx} {m:Nat} (hX:Ok X) (hm:m≤X.h.length) (hh:loH m (X.h.take m)): ∃ Y,Y.w=X.w∧Y.h=X.h.take m∧aS m X Y∧Ok Y∧ ∀ (a:AV) (x:Value),lo m a→Rep X a x→Rep Y a x:=by
 have hE:aN X 0 [] {tmps:= #[],defers:=X.ds}:=⟨rfl,rfl,fun d=> .none _⟩
 have:=Ent.cut (n0:=m) (N:=0) (e:=[]) (e':=[]) (h:=X.h) m (Nat.le_refl _) trivial trivial hh X _ rfl hm hX hE;obtain ⟨Y,y1,y2,y3,y4,y5⟩:=this;refine ⟨⟨X.w,X.m,X.h.take m,X.bad,X.ds⟩,rfl,rfl,?_,?_,fun a x hl hr=>hr.cut hl⟩
 ·have sub: ∀ (i:Nat) (o:Option Ob),(X.h.take m)[i]? =some o→i<m∧X.h[i]? =some o:=fun i o q=>by
   rw [List.getElem?_take] at q;split at q
   ·next hi=>exact ⟨hi,q⟩
   ·cases q
  refine ⟨rfl,rfl,rfl,Nat.le_refl _,fun _ _ _=>rfl,fun _ _ _ h1 h2=>⟨h1,h2⟩,(by simp;omega),fun i T s c f _ hi=>⟨c,f,(sub i _ hi).2,Nat.le_refl _,fun _=>rfl⟩,fun i c _ hi=>⟨c,(sub i _ hi).2,rfl⟩,fun b hb=>?_,fun _ _ hb=> .inl hb,fun i c _ hi=>⟨c,(sub i _ hi).2,rfl⟩,rfl⟩;obtain ⟨i,⟨o,ho⟩,hb⟩:=hb;exact .inr ⟨i,⟨o,(sub i _ ho).2⟩,hb⟩
 ·have sub: ∀ (i:Nat) (o:Option Ob),(X.h.take m)[i]? =some o→i<m∧X.h[i]? =some o:=fun i o q=>by
   rw [List.getElem?_take] at q;split at q
   ·next hi=>exact ⟨hi,q⟩
   ·cases q
  refine ⟨fun id cells hi=>?_,fun id T' s cells fz hi=>?_,fun i j b hi hj=>?_,hX.eX,fun id es hi=>?_⟩
  ·obtain ⟨b,cvs,T',h1,h2,h3,h4,h5⟩:=hX.blk id cells (sub id _ hi).2;exact ⟨b,cvs,T',h1,h2,h3,h4,fun j a x q1 q2=>Rep.cut (h5 j a x q1 q2) ((qc hh id).1 cells hi a (List.mem_of_getElem? q1))⟩
  ·obtain ⟨g1,g2,n,g3,g4⟩:=hX.arr id T' s cells fz (sub id _ hi).2;refine ⟨g1,g2,n,g3,?_⟩;rcases g4 with g4 | ⟨b,cvs,g4⟩
   ·exact .inl g4
   ·exact .inr ⟨b,cvs,⟨g4.at_,g4.blk,g4.cap,g4.iU,g4.sz,g4.bad,fun j a x q1 q2=>Rep.cut (g4.rep j a x q1 q2) ((qc hh id).2.1 T' s cells fz hi a (List.mem_of_getElem? q1)),g4.good⟩⟩
  ·obtain ⟨o,ho⟩:=hi;obtain ⟨o',ho'⟩:=hj;exact hX.inj i j b ⟨o,(sub i _ ho).2⟩ ⟨o',(sub j _ ho').2⟩
  ·obtain ⟨b,ents,clock,h1,h2,h3,h4⟩:=hX.map id es (sub id _ hi).2;exact ⟨b,ents,clock,h1,h2,h3,fun j p e q1 q2=>⟨(h4 j p e q1 q2).1,Rep.cut (h4 j p e q1 q2).2 ((qc hh id).2.2 es hi _ (List.mem_map.2 ⟨p,List.mem_of_getElem? q1,rfl⟩))⟩⟩
variable {P:Program}{args:List AV}{f:FuncId}{h:Hp}
theorem HTP.cut {R p:AV→Hp→Prop} (T:HTP P f args h R p) (hR: ∀ r h',R r h'→lo h.length r∧loH h.length (h'.take h.length)) (hp: ∀ r h',p r h'→lo h.length r∧loH h.length (h'.take h.length)):
  HTP P f args h (fun r h2=> ∃ h',R r h'∧h2=h'.take h.length) (fun r h2=> ∃ h',p r h'∧h2=h'.take h.length):=by
 refine ⟨T.1,fun X vs hX hh hr=>(T.2 X vs hX hh hr).mono ?_⟩;subst hh;rintro e w' ⟨v,Y,av,rfl,S,hY,hv,hq⟩;have key:lo X.h.length av→loH X.h.length (Y.h.take X.h.length)→ ∃ Z:Cx,Z.w=Y.w∧Step X Z∧Ok Z∧Rep Z av v∧Z.h=Y.h.take X.h.length:=fun h1 h2=>by
  obtain ⟨Z,z1,z2,z3,z4,z5⟩:=aec hY S.len h2;have S2:aS X.h.length X Z:=(S.toN (Nat.le_refl _)).trans hX z3;exact ⟨Z,z1,S2.full,z4,z5 _ _ h1 hv,z2⟩
 rcases hq with ⟨rfl,hq⟩ | ⟨rfl,hq⟩
 ·obtain ⟨Z,z1,z2,z3,z4,z5⟩:=key (hR _ _ hq).1 (hR _ _ hq).2;exact ⟨v,Z,av,z1,z2,z3,z4, .inl ⟨rfl,Y.h,hq,z5⟩⟩
 ·obtain ⟨Z,z1,z2,z3,z4,z5⟩:=key (hp _ _ hq).1 (hp _ _ hq).2;exact ⟨v,Z,av,z1,z2,z3,z4, .inr ⟨rfl,Y.h,hq,z5⟩⟩
def RD (P:Program) (f:FuncId) (args:List AV) (h:Hp) (R p:AV→Prop):Prop:=HTP P f args h (fun r h'=>R r∧h'=h) (fun r h'=>p r∧h'=h)
theorem RD.of {R p:AV→Prop} (T:HTP P f args h (fun r h'=>R r∧h'.take h.length=h) (fun r h'=>p r∧h'.take h.length=h)) (hR: ∀ r,R r→lo h.length r) (hp: ∀ r,p r→lo h.length r) (hh:loH h.length h):RD P f args h R p:=by
 refine (T.cut (fun r h' q=>⟨hR r q.1,by rw [q.2];exact hh⟩) (fun r h' q=>⟨hp r q.1,by rw [q.2];exact hh⟩)).mono ?_ ?_
 ·rintro r h2 ⟨h',⟨q1,q2⟩,rfl⟩;exact ⟨q1,q2⟩
 ·rintro r h2 ⟨h',⟨q1,q2⟩,rfl⟩;exact ⟨q1,q2⟩
inductive Rn (σ:Nat→Nat) (n:Nat):AV→AV→Prop
 | clo {a:AV} (h:Clo a):Rn σ n a a
 | own {id k:Nat} (h:id<n):Rn σ n (.own id k) (.own (σ id) k)
 | ptr {id o:Nat} (h:id<n):Rn σ n (.ptr id o) (.ptr (σ id) o)
 | ap {id k o:Nat} (h:id<n):Rn σ n (.ap id k o) (.ap (σ id) k o)
 | mp {id:Nat} (h:id<n):Rn σ n (.mp id) (.mp (σ id))
 | g {l l':List AV} (hl:l.length=l'.length) (h: ∀ (i:Nat) (a b:AV),l[i]? =some a→l'[i]? =some b→Rn σ n a b):Rn σ n (.g l) (.g l')
 | fn {f:Fn} {l l' k k':List AV} (hl:l.length=l'.length) (hk:k.length=k'.length) (h1: ∀ (i:Nat) (a b:AV),l[i]? =some a→l'[i]? =some b→Rn σ n a b) (h2: ∀ (i:Nat) (a b:AV),k[i]? =some a→k'[i]? =some b→Rn σ n a b):Rn σ n (.fn f l k) (.fn f l' k')
def RnL (σ:Nat→Nat) (n:Nat):List AV→List AV→Prop
 | [],[]=>True
 | a::l,b::l'=>Rn σ n a b∧RnL σ n l l'
 | _,_=>False
variable {n:Nat}{σ:Nat→Nat}
theorem RnL.len : ∀ {l l':List AV},RnL σ n l l'→l.length=l'.length
 | [],[],_=>rfl
 | _::_,_::_,h=>by simp [RnL.len h.2]
 | [],_::_,h=>h.elim
 | _::_,[],h=>h.elim
theorem RnL.get : ∀ {l l':List AV} (h:RnL σ n l l') (i:Nat) (a b:AV),l[i]? =some a→l'[i]? =some b→Rn σ n a b
 | _::_,_::_,h,0,a,b,h1,h2=>by simp at h1 h2;subst h1 h2;exact h.1
 | _::_,_::_,h,i+1,a,b,h1,h2=>RnL.get h.2 i a b (by simpa using h1) (by simpa using h2)
 | [],[],_,_,_,_,h1,_=>by simp at h1
 | [],_::_,h,_,_,_,_,_=>h.elim
 | _::_,[],h,_,_,_,_,_=>h.elim
theorem RnL.clo : ∀ {l:List AV},(∀ (a:AV),a∈l→Clo a)→RnL σ n l l
 | [],_=>trivial
 | a::r,h=>⟨.clo (h a (List.mem_cons_self ..)),RnL.clo fun b hb=>h b (List.mem_cons_of_mem _ hb)⟩
def RnO (σ:Nat→Nat) (n:Nat):Ob→Ob→Prop
 | .blk c, .blk c'=>RnL σ n c c'
 | .arr T s c fz, .arr T' s' c' fz'=>T=T'∧s=s'∧fz=fz'∧RnL σ n c c'
 | .map es, .map es'=>es.map (·.1)=es'.map (·.1)∧RnL σ n (es.map (·.2)) (es'.map (·.2))
 | _,_=>False
structure Br (σ:Nat→Nat) (A B:Cx):Prop where
 w:A.w=B.w
 bad:A.bad=B.bad
 inj: ∀ i j,i<A.h.length→j<A.h.length→σ i=σ j→i=j
 lt: ∀ i,i<A.h.length→σ i<B.h.length
 obj: ∀ i o,A.h[i]? =some (some o)→ ∃ o',B.h[σ i]? =some (some o')∧RnO σ A.h.length o o'
 bk: ∀ i o',i<A.h.length→B.h[σ i]? =some (some o')→ ∃ o,A.h[i]? =some (some o)
 fst: ∀ i,A.live i→(A.m i).1=(B.m (σ i)).1
 arr: ∀ i T s c fz,A.h[i]? =some (some (.arr T s c fz))→A.m i=B.m (σ i)
variable {A:Cx}
theorem Br.mine {B:Cx} (h:Br σ A B) {b:Nat} (hb:A.mine b):B.mine b:=by
 obtain ⟨i,⟨o,ho⟩,he⟩:=hb;obtain ⟨o',h1,_⟩:=h.obj i o ho;exact ⟨σ i,⟨o',h1⟩,by rw [←h.fst i ⟨o,ho⟩];exact he⟩
variable {a:AV}
theorem Br.down {B:Cx} (h:Br σ A B) {b:AV} {v:Value} (hn:Rn σ A.h.length a b) (hr:Rep B b v):Rep A a v:=by
 induction hn generalizing v with
 | clo hc=>exact hr.clo hc fun c o u hu hb=>⟨by rw [h.w];exact hu,by rw [h.bad];exact hb⟩
 | own hid=>
  cases hr with
  | own EL k=>
  refine .own hid fun T s c fz hh=>?_
  obtain ⟨o',h1,h2⟩:=h.obj _ _ hh;cases o'<;>simp only [RnO] at h2<;>try exact h2.elim
  obtain ⟨rfl,rfl,rfl,h2⟩:=h2;obtain ⟨k1,k2⟩:=k _ _ _ _ h1;rw [h.arr _ _ _ _ _ hh,h2.len];exact ⟨k1,k2⟩
 | ptr hid=>
  cases hr with
  | ptr EL k=>
  refine .ptr hid fun c hh=>?_
  obtain ⟨o',h1,h2⟩:=h.obj _ _ hh;cases o'<;>simp only [RnO] at h2<;>try exact h2.elim
  rw [h.fst _ ⟨_,hh⟩];exact k _ h1
 | ap hid=>
  cases hr with
  | ap EL k=>
  refine .ap hid fun T s c fz hh=>?_
  obtain ⟨o',h1,h2⟩:=h.obj _ _ hh;cases o'<;>simp only [RnO] at h2<;>try exact h2.elim
  obtain ⟨rfl,rfl,rfl,h2⟩:=h2;obtain ⟨k1,k2⟩:=k _ _ _ _ h1;rw [h.arr _ _ _ _ _ hh,h2.len];exact ⟨k1,k2⟩
 | mp hid=>
  cases hr with
  | mp EL k=>
  refine .mp hid fun c hh=>?_
  obtain ⟨o',h1,h2⟩:=h.obj _ _ hh;cases o'<;>simp only [RnO] at h2<;>try exact h2.elim
  rw [h.fst _ ⟨_,hh⟩];exact k _ h1
 | @g l l' hl hh ih=>
  cases hr with
  | g hc hr=>
  refine .g (by omega) fun i a x h1 h2=>?_
  obtain ⟨b,hb⟩: ∃ b,l'[i]? =some b:=⟨_,List.getElem?_eq_getElem (by have:=(List.getElem?_eq_some_iff.1 h1).1;omega)⟩
  exact ih i a b h1 hb (hr i b x hb h2)
 | @fn f l l' k k' hl hk h1 h2 ih1 ih2=>
  cases hr with
  | fn q1 q2 r1 r2=>
  refine .fn (by omega) (by omega) (fun i a x e1 e2=>?_) (fun i a x e1 e2=>?_)
  ·obtain ⟨b,hb⟩: ∃ b,l'[i]? =some b:=⟨_,List.getElem?_eq_getElem (by have:=(List.getElem?_eq_some_iff.1 e1).1;omega)⟩
   exact ih1 i a b e1 hb (r1 i b x hb e2)
  ·obtain ⟨b,hb⟩: ∃ b,k'[i]? =some b:=⟨_,List.getElem?_eq_getElem (by have:=(List.getElem?_eq_some_iff.1 e1).1;omega)⟩
   exact ih2 i a b e1 hb (r2 i b x hb e2)
theorem Br.up {B:Cx} (h:Br σ A B) {b:AV} {v:Value} (hn:Rn σ A.h.length a b) (hr:Rep A a v):Rep B b v:=by
 induction hn generalizing v with
 | clo hc=>exact hr.clo hc fun c o u hu hb=>⟨by rw [←h.w];exact hu,by rw [←h.bad];exact hb⟩
 | own hid=>
  cases hr with
  | own EL k=>
  refine .own (h.lt _ hid) fun T s c fz hh=>?_
  obtain ⟨o,ho⟩:=h.bk _ _ hid hh;obtain ⟨o',h1,h2⟩:=h.obj _ _ ho;rw [hh] at h1;injection h1 with h1;injection h1 with h1;subst h1;cases o<;>simp only [RnO] at h2<;>try exact h2.elim
  obtain ⟨rfl,rfl,rfl,h2⟩:=h2;obtain ⟨k1,k2⟩:=k _ _ _ _ ho;rw [←h.arr _ _ _ _ _ ho, ←h2.len];exact ⟨k1,k2⟩
 | ptr hid=>
  cases hr with
  | ptr EL k=>
  refine .ptr (h.lt _ hid) fun c hh=>?_
  obtain ⟨o,ho⟩:=h.bk _ _ hid hh;obtain ⟨o',h1,h2⟩:=h.obj _ _ ho;rw [hh] at h1;injection h1 with h1;injection h1 with h1;subst h1;cases o<;>simp only [RnO] at h2<;>try exact h2.elim
  rw [←h.fst _ ⟨_,ho⟩];exact k _ ho
 | ap hid=>
  cases hr with
  | ap EL k=>
  refine .ap (h.lt _ hid) fun T s c fz hh=>?_
  obtain ⟨o,ho⟩:=h.bk _ _ hid hh;obtain ⟨o',h1,h2⟩:=h.obj _ _ ho;rw [hh] at h1;injection h1 with h1;injection h1 with h1;subst h1;cases o<;>simp only [RnO] at h2<;>try exact h2.elim
  obtain ⟨rfl,rfl,rfl,h2⟩:=h2;obtain ⟨k1,k2⟩:=k _ _ _ _ ho;rw [←h.arr _ _ _ _ _ ho, ←h2.len];exact ⟨k1,k2⟩
 | mp hid=>
  cases hr with
  | mp EL k=>
  refine .mp (h.lt _ hid) fun c hh=>?_
  obtain ⟨o,ho⟩:=h.bk _ _ hid hh;obtain ⟨o',h1,h2⟩:=h.obj _ _ ho;rw [hh] at h1;injection h1 with h1;injection h1 with h1;subst h1;cases o<;>simp only [RnO] at h2<;>try exact h2.elim
  rw [←h.fst _ ⟨_,ho⟩];exact k _ ho
 | @g l l' hl hh ih=>
  cases hr with
  | g hc hr=>
  refine .g (by omega) fun i b x h1 h2=>?_
  obtain ⟨a,ha⟩: ∃ a,l[i]? =some a:=⟨_,List.getElem?_eq_getElem (by have:=(List.getElem?_eq_some_iff.1 h1).1;omega)⟩
  exact ih i a b ha h1 (hr i a x ha h2)
 | @fn f l l' k k' hl hk h1 h2 ih1 ih2=>
  cases hr with
  | fn q1 q2 r1 r2=>
  refine .fn (by omega) (by omega) (fun i b x e1 e2=>?_) (fun i b x e1 e2=>?_)
  ·obtain ⟨a,ha⟩: ∃ a,l[i]? =some a:=⟨_,List.getElem?_eq_getElem (by have:=(List.getElem?_eq_some_iff.1 e1).1;omega)⟩
   exact ih1 i a b ha e1 (r1 i a x ha e2)
  ·obtain ⟨a,ha⟩: ∃ a,k[i]? =some a:=⟨_,List.getElem?_eq_getElem (by have:=(List.getElem?_eq_some_iff.1 e1).1;omega)⟩
   exact ih2 i a b ha e1 (r2 i a x ha e2)
theorem Br.alX {B:Cx} (h:Br σ A B) {l l':List AV} {vs:List Value} (hn:RnL σ A.h.length l l') (hr:fJ B l' vs):fJ A l vs:=by
 refine ⟨by rw [hn.len];exact hr.1,fun i a x h1 h2=>?_⟩;obtain ⟨b,hb⟩: ∃ b,l'[i]? =some b:=⟨_,List.getElem?_eq_getElem (by have:=(List.getElem?_eq_some_iff.1 h1).1;have:=hn.len;omega)⟩
 exact h.down (hn.get i a b h1 hb) (hr.2 i b x hb h2)
theorem Ur {B:Cx} (h:Br σ A B) {es es':List (Value × AV)} {ents:Array MapEntry} (h1:es.map (·.1)=es'.map (·.1)) (h2:RnL σ A.h.length (es.map (·.2)) (es'.map (·.2))) (hE:oL B es' ents):oL A es ents:=by
 have hl:es.length=es'.length:=by simpa using congrArg List.length h1
 refine ⟨by rw [hE.1,hl],fun i p e q1 q2=>?_⟩;obtain ⟨p',hp'⟩: ∃ p',es'[i]? =some p':=⟨_,List.getElem?_eq_getElem (by have:=(List.getElem?_eq_some_iff.1 q1).1;omega)⟩
 obtain ⟨k1,k2⟩:=hE.2 i p' e hp' q2;have e1:p.1=p'.1:=by
  have:=congrArg (fun l=>l[i]?) h1;simp only [List.getElem?_map,q1,hp',Option.map_some,Option.some.injEq] at this;exact this
 exact ⟨k1.trans e1.symm,h.down (h2.get i _ _ (by rw [List.getElem?_map,q1];rfl) (by rw [List.getElem?_map,hp'];rfl)) k2⟩
theorem aed {B:Cx} (h:Br σ A B) {es es':List (Value × AV)} {ents:Array MapEntry} (h1:es.map (·.1)=es'.map (·.1)) (h2:RnL σ A.h.length (es.map (·.2)) (es'.map (·.2))) (hE:oL A es ents):oL B es' ents:=by
 have hl:es.length=es'.length:=by simpa using congrArg List.length h1
 refine ⟨by rw [hE.1,hl],fun i p' e q1 q2=>?_⟩;obtain ⟨p,hp⟩: ∃ p,es[i]? =some p:=⟨_,List.getElem?_eq_getElem (by have:=(List.getElem?_eq_some_iff.1 q1).1;omega)⟩
 obtain ⟨k1,k2⟩:=hE.2 i p e hp q2;have e1:p.1=p'.1:=by
  have:=congrArg (fun l=>l[i]?) h1;simp only [List.getElem?_map,q1,hp,Option.map_some,Option.some.injEq] at this;exact this
 exact ⟨k1.trans e1,h.up (h2.get i _ _ (by rw [List.getElem?_map,hp];rfl) (by rw [List.getElem?_map,q1];rfl)) k2⟩
theorem Br.ok {B:Cx} (h:Br σ A B) (hB:Ok B):Ok A:=by
 refine ⟨fun id c hh=>?_,fun id T s c fz hh=>?_,fun i j b hi hj ei ej=>?_,fun b o hb=>?_,fun id es hh=>?_⟩
 ·obtain ⟨o',h1,h2⟩:=h.obj _ _ hh;cases o' with
  | blk c'=>
   simp only [RnO] at h2;obtain ⟨b,cvs,T,k1,k2,k3,k4,k5⟩:=hB.blk _ _ h1;refine ⟨b,cvs,T,by rw [h.fst _ ⟨_,hh⟩];exact k1,by rw [h.w];exact k2,by rw [h2.len];exact k3,fun o=>by rw [h.bad];exact k4 o,fun i a x q1 q2=>?_⟩;obtain ⟨a',ha'⟩: ∃ a',c'[i]? =some a':=⟨_,List.getElem?_eq_getElem (by have:=(List.getElem?_eq_some_iff.1 q1).1;have:=h2.len;omega)⟩
   exact h.down (h2.get i a a' q1 ha') (k5 i a' x ha' q2)
  | _=>exact h2.elim
 ·obtain ⟨o',h1,h2⟩:=h.obj _ _ hh;cases o' with
  | arr T' s' c' fz'=>
   simp only [RnO] at h2;obtain ⟨rfl,rfl,rfl,h2⟩:=h2;obtain ⟨g1,g2,n,g3,g4⟩:=hB.arr _ _ _ _ _ h1;rw [←h2.len] at g1 g3;refine ⟨g1,g2,n,g3,?_⟩;rcases g4 with ⟨g4,g5⟩ | ⟨b,cvs,g4⟩
   ·exact .inl ⟨by rw [h.arr _ _ _ _ _ hh];exact g4,List.eq_nil_of_length_eq_zero (by rw [h2.len,g5];rfl)⟩
   ·refine .inr ⟨b,cvs,⟨by rw [h.arr _ _ _ _ _ hh];exact g4.at_,by rw [h.w];exact g4.blk,by rw [h.arr _ _ _ _ _ hh];exact g4.cap,by rw [h.arr _ _ _ _ _ hh];exact g4.iU,by rw [h.arr _ _ _ _ _ hh];exact g4.sz,fun o ho=>by rw [h.bad];exact g4.bad o ho,fun i a x q1 q2=>?_,fun o ho=>by rw [h.bad];exact g4.good o ho⟩⟩;obtain ⟨a',ha'⟩: ∃ a',c'[i]? =some a':=⟨_,List.getElem?_eq_getElem (by have:=(List.getElem?_eq_some_iff.1 q1).1;have:=h2.len;omega)⟩
    exact h.down (h2.get i a a' q1 ha') (g4.rep i a' x ha' q2)
  | _=>exact h2.elim
 ·obtain ⟨o,ho⟩:=hi;obtain ⟨o',ho'⟩:=hj;obtain ⟨q,h1,_⟩:=h.obj i o ho;obtain ⟨q',h1',_⟩:=h.obj j o' ho';exact h.inj i j (List.getElem?_eq_some_iff.1 ho).1 (List.getElem?_eq_some_iff.1 ho').1 (hB.inj _ _ b ⟨q,h1⟩ ⟨q',h1'⟩ (by rw [←h.fst i ⟨o,ho⟩];exact ei) (by rw [←h.fst j ⟨o',ho'⟩];exact ej))
 ·rw [h.bad] at hb;rw [h.w];exact hB.eX b o hb
 ·obtain ⟨o',h1,h2⟩:=h.obj _ _ hh;cases o' with
  | map es'=>
   simp only [RnO] at h2;obtain ⟨b,ents,clock,k1,k2,k3⟩:=hB.map _ _ h1;exact ⟨b,ents,clock,by rw [h.fst _ ⟨_,hh⟩];exact k1,by rw [h.w];exact k2,Ur h h2.1 h2.2 k3⟩
  | _=>exact h2.elim
structure Emb (σ:Nat→Nat) (h0 h:Hp):Prop where
 inj: ∀ i j,i<h0.length→j<h0.length→σ i=σ j→i=j
 obj: ∀ i o,h0[i]? =some o→ ∃ o' o2,o=some o'∧h[σ i]? =some (some o2)∧RnO σ h0.length o' o2
theorem RD.frame {KP:List AV} {h0:Hp} {R p:AV→Prop}  (T:RD P f KP h0 R p) (hE:Emb σ h0 h) (ha:RnL σ h0.length KP args) (hR: ∀ r,R r→Clo r) (hp: ∀ r,p r→Clo r):RD P f args h R p:=by
 refine ⟨T.1,fun X vs hX hh hr=>?_⟩;subst hh;have hlt: ∀ i,i<h0.length→σ i<X.h.length:=fun i hi=>by
  obtain ⟨o',o2,_,h2,_⟩:=hE.obj i _ (List.getElem?_eq_getElem hi);exact (List.getElem?_eq_some_iff.1 h2).1
 have Us: ∀ i o,h0[i]? =some (some o)→ ∃ o',X.h[σ i]? =some (some o')∧RnO σ h0.length o o':=fun i o ho=>by
  obtain ⟨o',o2,h1,h2,h3⟩:=hE.obj i _ ho;injection h1 with h1;subst h1;exact ⟨o2,h2,h3⟩
 have hbk: ∀ i o',i<h0.length→X.h[σ i]? =some (some o')→ ∃ o,h0[i]? =some (some o):=fun i o' hi _=>by
  obtain ⟨o,o2,h1,_⟩:=hE.obj i _ (List.getElem?_eq_getElem hi);exact ⟨o,by rw [List.getElem?_eq_getElem hi,h1]⟩
 have B:Br σ ⟨X.w,fun i=>X.m (σ i),h0,X.bad,X.ds⟩ X:=⟨rfl,rfl,hE.inj,hlt,Us,hbk,fun _ _=>rfl,fun _ _ _ _ _ _=>rfl⟩
 refine (T.2 ⟨X.w,fun i=>X.m (σ i),h0,X.bad,X.ds⟩ vs (B.ok hX) rfl (B.alX ha hr)).mono ?_;rintro e w' ⟨v,Y,av,rfl,S,hY,hv,hq⟩;have fin:Y.h=h0→Clo av→ ∃ Z:Cx,Z.w=Y.w∧Step X Z∧Ok Z∧Rep Z av v∧Z.h=X.h:=fun hYh hc=>by
  have fst: ∀ i,Y.live i→(Y.m i).1=(X.m (σ i)).1:=by
   intro i ⟨o',h⟩;have hx:=h;rw [hYh] at hx;have hi:i<h0.length:=(List.getElem?_eq_some_iff.1 hx).1;cases o' with
   | blk c=>exact (S.l7 i c hi h).elim fun _ q=>q.2
   | map es=>exact (S.omap i es hi h).elim fun _ q=>q.2
   | arr T s c fz=>
    obtain ⟨c',f',k1,_,k3⟩:=S.nV i T s c fz hi h;simp only at k1;rw [hx] at k1;injection k1 with k1;injection k1 with k1;injection k1 with e1 e2 e3 e4;subst e3;rw [k3 rfl]
  have arr: ∀ i T s c fz,Y.h[i]? =some (some (.arr T s c fz))→Y.m i=X.m (σ i):=by
   intro i T s c fz h;have hx:=h;rw [hYh] at hx;have hi:i<h0.length:=(List.getElem?_eq_some_iff.1 hx).1;obtain ⟨c',f',k1,_,k3⟩:=S.nV i T s c fz hi h;simp only at k1;rw [hx] at k1;injection k1 with k1;injection k1 with k1;injection k1 with e1 e2 e3 e4;subst e3;rw [k3 rfl]
  have BY:Br σ Y ⟨Y.w,X.m,X.h,Y.bad,X.ds⟩:=⟨rfl,rfl,by rw [hYh];exact hE.inj,by rw [hYh];exact hlt,by rw [hYh];exact Us,by rw [hYh];exact hbk,fst,arr⟩
  have hbl: ∀ b,b<X.w.heap.size→ ¬ Cx.mine ⟨X.w,fun i=>X.m (σ i),h0,X.bad,X.ds⟩ b→Y.w.heap[b]? =X.w.heap[b]? :=fun b hb hm=>S.block b hb hm
  have SZ:Step X ⟨Y.w,X.m,X.h,Y.bad,X.ds⟩:=
   ⟨S.os,S.tape,S.output,S.size,fun b hb hm=>hbl b hb fun q=>hm (B.mine q),S.keep,Nat.le_refl _,fun i T s c fz _ hi=>⟨c,fz,hi,Nat.le_refl _,fun _=>rfl⟩,fun i c _ hi=>⟨c,hi,rfl⟩,fun b hb=> .inr hb,fun b o hb=>(S.nX b o hb).imp id B.mine,fun i c _ hi=>⟨c,hi,rfl⟩,rfl⟩
  have other: ∀ j o,X.h[j]? =some (some o)→(∀ i,i<h0.length→σ i≠j)→ ∀ b,(X.m j).1=some b→Y.w.heap[b]? =X.w.heap[b]?∧ ¬ Cx.mine ⟨X.w,fun i=>X.m (σ i),h0,X.bad,X.ds⟩ b:=by
   intro j o hj hne b hb;have hnm: ¬ Cx.mine ⟨X.w,fun i=>X.m (σ i),h0,X.bad,X.ds⟩ b:=by
    rintro ⟨i,⟨q,hq⟩,he⟩;obtain ⟨q',h1,_⟩:=Us i q hq;exact hne i (List.getElem?_eq_some_iff.1 hq).1 (hX.inj _ _ b ⟨q',h1⟩ ⟨o,hj⟩ he hb)
   exact ⟨hbl b (hX.lt ⟨j,⟨o,hj⟩,hb⟩) hnm,hnm⟩
  have YN: ∀ b o,X.bad b o→ ¬ Cx.mine ⟨X.w,fun i=>X.m (σ i),h0,X.bad,X.ds⟩ b→Y.bad b o:=fun b o hb hm=>(S.nX b o hb).elim id fun q=>absurd q hm
  refine ⟨⟨Y.w,X.m,X.h,Y.bad,X.ds⟩,rfl,SZ,⟨fun id c hi=>?_,fun id T s c fz hi=>?_,hX.inj,hY.eX,fun id es hi=>?_⟩,hv.clo hc (fun b o u hu hb=>⟨hu,hb⟩),rfl⟩
  ·by_cases hin: ∃ i,i<h0.length∧σ i=id
   ·obtain ⟨i,hi0,rfl⟩:=hin;obtain ⟨o,ho⟩:=hbk i _ hi0 hi;obtain ⟨o',h1,h2⟩:=Us i o ho;simp only at hi;rw [hi] at h1;injection h1 with h1;injection h1 with h1;subst h1;cases o with
    | blk c0=>
     simp only [RnO] at h2;have hY0:Y.h[i]? =some (some (.blk c0)):=by rw [hYh];exact ho
     obtain ⟨b,cvs,T,k1,k2,k3,k4,k5⟩:=hY.blk i c0 hY0;refine ⟨b,cvs,T,by rw [←fst i ⟨_,hY0⟩];exact k1,k2,by rw [←h2.len];exact k3,k4,fun j a x q1 q2=>?_⟩;obtain ⟨a0,ha0⟩: ∃ a0,c0[j]? =some a0:=⟨_,List.getElem?_eq_getElem (by have:=(List.getElem?_eq_some_iff.1 q1).1;have:=h2.len;omega)⟩
     exact BY.up (by rw [hYh];exact h2.get j a0 a ha0 q1) (k5 j a0 x ha0 q2)
    | _=>exact h2.elim
   ·obtain ⟨b,cvs,T,k1,k2,k3,k4,k5⟩:=hX.blk id c hi;obtain ⟨q1,q2⟩:=other id _ hi (fun i hi0 e=>hin ⟨i,hi0,e⟩) b k1;exact ⟨b,cvs,T,k1,q1.trans k2,k3,fun o=>YN b o (k4 o) q2,fun j a x r1 r2=>(k5 j a x r1 r2).mono SZ⟩
  ·by_cases hin: ∃ i,i<h0.length∧σ i=id
   ·obtain ⟨i,hi0,rfl⟩:=hin;obtain ⟨o,ho⟩:=hbk i _ hi0 hi;obtain ⟨o',h1,h2⟩:=Us i o ho;simp only at hi;rw [hi] at h1;injection h1 with h1;injection h1 with h1;subst h1;cases o with
    | arr T0 s0 c0 fz0=>
     simp only [RnO] at h2;obtain ⟨rfl,rfl,rfl,h2⟩:=h2;have hY0:Y.h[i]? =some (some (.arr T0 s0 c0 fz0)):=by rw [hYh];exact ho
     obtain ⟨g1,g2,n,g3,g4⟩:=hY.arr i _ _ _ _ hY0;have hme:=arr i _ _ _ _ hY0;refine ⟨by rw [←h2.len];exact g1,g2,n,by rw [←h2.len];exact g3,?_⟩;rcases g4 with ⟨g4,g5⟩ | ⟨b,cvs,g4⟩
     ·exact .inl ⟨by rw [←hme];exact g4,List.eq_nil_of_length_eq_zero (by rw [←h2.len,g5];rfl)⟩
     ·refine .inr ⟨b,cvs,⟨by rw [←hme];exact g4.at_,g4.blk,by rw [←hme];exact g4.cap,by rw [←hme];exact g4.iU,by rw [←hme];exact g4.sz,g4.bad,fun j a x q1 q2=>?_,g4.good⟩⟩;obtain ⟨a0,ha0⟩: ∃ a0,c0[j]? =some a0:=⟨_,List.getElem?_eq_getElem (by have:=(List.getElem?_eq_some_iff.1 q1).1;have:=h2.len;omega)⟩
      exact BY.up (by rw [hYh];exact h2.get j a0 a ha0 q1) (g4.rep j a0 x ha0 q2)
    | _=>exact h2.elim
   ·obtain ⟨g1,g2,n,g3,g4⟩:=hX.arr id T s c fz hi;refine ⟨g1,g2,n,g3,?_⟩;rcases g4 with g4 | ⟨b,cvs,g4⟩
    ·exact .inl g4
    ·obtain ⟨q1,q2⟩:=other id _ hi (fun i hi0 e=>hin ⟨i,hi0,e⟩) b g4.at_;refine .inr ⟨b,cvs,⟨g4.at_,q1.trans g4.blk,g4.cap,g4.iU,g4.sz,fun o ho=>YN b o (g4.bad o ho) q2,fun j a x r1 r2=>(g4.rep j a x r1 r2).mono SZ,fun o ho hk=>?_⟩⟩;have hcell: ∃ u,cellAt X.w b o=some u:=by
      rw [bn g4.blk];exact ⟨_,Array.getElem?_eq_getElem (by rw [g4.sz];have:=Nat.mul_le_mul_right s g4.cap;omega)⟩
     obtain ⟨u,hu⟩:=hcell;exact (S.keep b o u hu (g4.good o ho)).2 hk
  ·by_cases hin: ∃ i,i<h0.length∧σ i=id
   ·obtain ⟨i,hi0,rfl⟩:=hin;obtain ⟨o,ho⟩:=hbk i _ hi0 hi;obtain ⟨o',h1,h2⟩:=Us i o ho;simp only at hi;rw [hi] at h1;injection h1 with h1;injection h1 with h1;subst h1;cases o with
    | map es0=>
     simp only [RnO] at h2;have hY0:Y.h[i]? =some (some (.map es0)):=by rw [hYh];exact ho
     obtain ⟨b,ents,clock,k1,k2,k3⟩:=hY.map i es0 hY0;exact ⟨b,ents,clock,by rw [←fst i ⟨_,hY0⟩];exact k1,k2,aed BY h2.1 (by rw [hYh];exact h2.2) k3⟩
    | _=>exact h2.elim
   ·obtain ⟨b,ents,clock,k1,k2,k3⟩:=hX.map id es hi;obtain ⟨q1,q2⟩:=other id _ hi (fun i hi0 e=>hin ⟨i,hi0,e⟩) b k1;exact ⟨b,ents,clock,k1,q1.trans k2,k3.mono SZ⟩
 rcases hq with ⟨rfl,h1,h2⟩ | ⟨rfl,h1,h2⟩
 ·obtain ⟨Z,z1,z2,z3,z4,z5⟩:=fin h2 (hR _ h1);exact ⟨v,Z,av,z1,z2,z3,z4, .inl ⟨rfl,h1,z5⟩⟩
 ·obtain ⟨Z,z1,z2,z3,z4,z5⟩:=fin h2 (hp _ h1);exact ⟨v,Z,av,z1,z2,z3,z4, .inr ⟨rfl,h1,z5⟩⟩
theorem Ut (hc:Clo a):CV h a=some a:=by cases hc<;>rfl
theorem Dh {f:AV→Option AV}: ∀ (l:List AV),(∀ (a:AV),a∈l→f a=some a)→EN f l=some l
 | [],_=>rfl
 | a::r,h=>by simp only [EN,h a (List.mem_cons_self ..),Dh r fun b hb=>h b (List.mem_cons_of_mem _ hb)]
theorem yh (hc:Clo a):uF h a=some a:=by
 cases hc with
 | g hc=>simp only [uF,Dh _ fun a ha=>Ut (hc a ha),Option.map_some]
 | _=>rfl
theorem TC.ht {res:AV} (T:TC P f args res) (hc: ∀ (a:AV),a∈args→Clo a) (hres:Clo res) (h:Hp):HT P f args h fun r h'=>r=res∧h'=h:=
 HT.Qq T (sU (f:=fC) (g:=uF h) (fun a a'=>zJ) args args (Dh _ fun a ha=>yh (hc a ha)) hc) hc hres
theorem TC.rd {res:AV} (T:TC P f args res) (hc: ∀ (a:AV),a∈args→Clo a) (hres:Clo res) (h:Hp) (p:AV→Hp→Prop):HTP P f args h (fun r h'=>r=res∧h'=h) p:=(T.ht hc hres h).toP p
def findF (p:Nat→Bool) (n:Nat):Option Nat:=(List.range n).find? p
variable {p:Nat→Bool}
theorem iy {i:Nat} (hi:i<n) (hp:p i=true) (hb: ∀ j,j<i→p j=false):findF p n=some i:=by
 unfold findF;rw [List.find?_eq_some_iff_getElem];refine ⟨hp,i,by simpa using hi,by simp,fun j hj=>?_⟩;simp [hb j hj]
theorem fZ (hb: ∀ j,j<n→p j=false):findF p n=none:=by
 unfold findF;rw [List.find?_eq_none];intro x hx;simp [hb x (List.mem_range.1 hx)]
def qW:Option Nat→Int
 | some i=>i
 | none=> -1
def aG (n:Nat) (p:Nat→Bool):Bool:=(List.range n).any p
theorem qX :decide (0≤qW (findF p n))=aG n p:=by
 unfold aG;cases hf:findF p n with
 | none=>
  unfold findF at hf;rw [List.find?_eq_none] at hf;have:(List.range n).any p=false:=by
   rw [List.any_eq_false];exact hf
  rw [this];rfl
 | some i=>
  unfold findF at hf;have h1:=List.find?_some hf;have h2:=List.mem_of_find?_eq_some hf;have:(List.range n).any p=true:=List.any_eq_true.2 ⟨i,h2,h1⟩;rw [this];simp [qW]
end
end Go.Proofs.YtljfgdlgmdcmfaaGreat.Wv
namespace Go.Proofs.YtljfgdlgmdcmfaaGreat
section
open Go.ChangeShapes Go.WideShapes Go.ChangeAt Go.RowKit Go.Deep Wv
inductive Sh (P:Program):TypeId→List AV→Prop
 | bool {t:TypeId} (ht:P.underlying t=some .bool) (b:Bool):Sh P t [.v (.bool b)]
 | int {t:TypeId} {k:IntKind} {z:Int} (ht:P.underlying t=some (.int k)) (hz:(Lit.int k z).wf=true):Sh P t [.v (.int k z)]
 | str {t:TypeId} {s:ByteArray} (ht:P.underlying t=some .string) (hs:s.size≤reachBytes):Sh P t [.v (.string s)]
 | slice {t e:TypeId} {n:Nat} {f:Nat→List AV} (ht:P.underlying t=some (.slice e)) (hn:n*P.bytesOf e≤reachBytes) (hl: ∀ i,i<n→(f i).length=P.cellsOf e) (hf: ∀ i,i<n→Sh P e (f i)):
   Sh P t [.t n (P.cellsOf e) ((List.range n).flatMap f)]
 | struct {t:TypeId} {fs:Array Field} {l:List AV} (ht:P.underlying t=some (.struct fs)) (hl:l.length=P.cellsOf t)
   (hf: ∀ (i:Nat) (f:Field),fs[i]? =some f→Sh P f.type ((l.drop f.offset).take (P.cellsOf f.type))):Sh P t l
def KQ (P:Program):Nat→List Field→Option Nat
 | o,[]=>some o
 | o,f::r=>if f.offset=o then KQ P (o+P.cellsOf f.type) r else none
def setB (P:Program) (S:List TypeId):Bool:=S.all fun t=>match P.underlying t with
 | some .bool=>true
 | some (.int _)=>true
 | some .string=>true
 | some (.slice e)=>S.contains e && decide (0<P.cellsOf e)
 | some (.struct fs)=>fs.toList.all (fun f=>S.contains f.type) && (KQ P 0 fs.toList==some (P.cellsOf t))
 | _=>false
theorem flat_get {α:Type} {m:Nat} {f:Nat→List α}: ∀ {n:Nat},(∀ i,i<n→(f i).length=m)→ ∀ q r,q<n→r<m→((List.range n).flatMap f)[q*m+r]? =(f q)[r]?
 | 0,h,q,r,hq,hr=>by omega
 | n+1,h,q,r,hq,hr=>by
  have hl: ∀ k,k≤n→((List.range k).flatMap f).length=k*m:=fun k hk=>by
   induction k with
   | zero=>simp
   | succ k ih=>rw [List.range_succ,List.flatMap_append,List.length_append,ih (by omega)];simp [h k (by omega),Nat.add_mul]
  rw [List.range_succ,List.flatMap_append];by_cases e:q=n
  ·subst e;rw [List.getElem?_append_right (by rw [hl q (Nat.le_refl _)];omega),hl q (Nat.le_refl _),Nat.add_sub_cancel_left];simp
  ·have:q*m+m≤n*m:=by rw [←Nat.succ_mul];exact Nat.mul_le_mul_right _ (by omega)
   rw [List.getElem?_append_left (by rw [hl n (Nat.le_refl _)];omega)];exact flat_get (fun i hi=>h i (by omega)) q r (by omega) hr
theorem oW {α:Type} {m:Nat} {f:Nat→List α}: ∀ {n:Nat},(∀ i,i<n→(f i).length=m)→((List.range n).flatMap f).length=n*m
 | 0,h=>by simp
 | n+1,h=>by rw [List.range_succ,List.flatMap_append,List.length_append,oW (n:=n) fun i hi=>h i (by omega)];simp [h n (by omega),Nat.add_mul]
section
variable {H:Type} {enc:TypeId × Value→H} {P:Program} {w:World} {base:Nat} {spare:Nat→Bool} {held:Bool}
def yj (P:Program) (t:TypeId) (d:DataW H):Prop:= ∀ n,n∈d.weights P t→n≤reachBytes
theorem Ii {e:TypeId} {ds:List (DataW H)} {d:DataW H} (hd:d∈ds): ∀ n,n∈d.weights P e→n∈DataW.weightsAll P e ds:=by
 induction ds with
 | nil=>cases hd
 | cons a r ih=>
  intro n hn;rw [DataW.weightsAll,List.mem_append];rcases List.mem_cons.1 hd with rfl | h
  ·exact .inl hn
  ·exact .inr (ih h n hn)
theorem oD: ∀ {ts:List TypeId} {ds:List (DataW H)} {i:Nat} {t:TypeId} {d:DataW H},ts[i]? =some t→ds[i]? =some d→ ∀ n,n∈d.weights P t→n∈DataW.weightsEach P ts ds
 | [],_,i,t,d,h1,_=>by simp at h1
 | _::_,[],i,t,d,_,h2=>by simp at h2
 | a::ts,b::ds,0,t,d,h1,h2=>by
  simp only [List.getElem?_cons_zero,Option.some.injEq] at h1 h2;subst h1 h2;intro n hn;rw [DataW.weightsEach];exact List.mem_append_left _ hn
 | a::ts,b::ds,i+1,t,d,h1,h2=>by
  intro n hn;rw [DataW.weightsEach];exact List.mem_append_right _ (oD (by simpa using h1) (by simpa using h2) n hn)
def zK (w:World):Cx:=⟨w,fun _=>(none,0),[],fun _ _=>False,[]⟩
theorem oQ {X:Cx} {l1 l2:List AV} {c1 c2:List Value} (h1:fJ X l1 c1) (h2:fJ X l2 c2):fJ X (l1++l2) (c1++c2):=by
 refine ⟨by simp [h1.1,h2.1],fun i a x ha hx=>?_⟩;by_cases hi:i<l1.length
 ·rw [List.getElem?_append_left hi] at ha;rw [List.getElem?_append_left (by rw [h1.1];exact hi)] at hx;exact h1.2 i a x ha hx
 ·rw [List.getElem?_append_right (by omega)] at ha;rw [List.getElem?_append_right (by rw [h1.1];omega)] at hx;rw [h1.1] at hx;exact h2.2 _ a x ha hx
def Ol (P:Program) (w:World) (t:TypeId) (cs:List Value):Prop:= ∃ l,Sh P t l∧fJ (zK w) l cs∧ ∀ a,a∈l→Clo a
theorem wL (t:TypeId): ∀ (fs:List Field) (o:Nat) (cs:List Value),KQ P o fs=some cs.length→o≤cs.length→(∀ (i:Nat) (f:Field),fs[i]? =some f→Ol P w f.type ((cs.drop f.offset).take (P.cellsOf f.type)))→
  ∃ l:List AV,fJ (zK w) l (cs.drop o)∧(∀ a,a∈l→Clo a)∧ ∀ (i:Nat) (f:Field),fs[i]? =some f→o≤f.offset∧Sh P f.type ((l.drop (f.offset - o)).take (P.cellsOf f.type))
 | [],o,cs,h,ho,_=>by
  simp only [KQ,Option.some.injEq] at h;subst h;refine ⟨[],?_,fun a h=>(List.not_mem_nil h).elim,fun i f h=>by simp at h⟩;rw [List.drop_length];exact ⟨rfl,fun i a x h=>by simp at h⟩
 | f::r,o,cs,h,ho,hf=>by
  simp only [KQ] at h;split at h
  ·next e=>
   subst e;have mono: ∀ (fs:List Field) (o n:Nat),KQ P o fs=some n→o≤n:=by
    intro fs;induction fs with
    | nil=>intro o n h;simp only [KQ,Option.some.injEq] at h;omega
    | cons f r ih=>
     intro o n h;simp only [KQ] at h;split at h
     ·have:=ih _ _ h;omega
     ·cases h
   have hle:=mono r _ _ h;obtain ⟨l1,s1,r1,c1⟩:=hf 0 f rfl;obtain ⟨l2,r2,c2,g2⟩:=wL t r (f.offset+P.cellsOf f.type) cs h hle fun i f' h'=>hf (i+1) f' (by simpa using h')
   have hl1:l1.length=P.cellsOf f.type:=by
    rw [←r1.1,List.length_take,List.length_drop];omega
   have split:cs.drop f.offset=(cs.drop f.offset).take (P.cellsOf f.type)++cs.drop (f.offset+P.cellsOf f.type):=by
    rw [←List.drop_drop];exact (List.take_append_drop _ _).symm
   refine ⟨l1++l2,?_,fun a ha=>?_,fun i f' h'=>?_⟩
   ·rw [split];exact oQ r1 r2
   ·rcases List.mem_append.1 ha with h | h
    ·exact c1 a h
    ·exact c2 a h
   ·cases i with
    | zero=>
     simp only [List.getElem?_cons_zero,Option.some.injEq] at h';subst h';refine ⟨Nat.le_refl _,?_⟩;rw [Nat.sub_self,List.drop_zero,List.take_append_of_le_length (by omega), ←hl1,List.take_length];exact s1
    | succ i=>
     obtain ⟨q1,q2⟩:=g2 i f' (by simpa using h');refine ⟨by omega,?_⟩;rw [show f'.offset - f.offset=l1.length+(f'.offset - (f.offset+P.cellsOf f.type)) by omega, ←List.drop_drop,List.drop_left];exact q2
  ·cases h
theorem reads {S:List TypeId} (hS:setB P S=true): ∀ (fuel:Nat) (t:TypeId) (cs:List Value) (x:DataW H × List MemPlace),t∈S→DataW.trod enc P w base spare held fuel t cs=some x→yj P t x.1→Ol P w t cs:=by
 intro fuel;induction fuel with
 | zero=>intro t cs x _ h;simp [DataW.trod] at h
 | succ fuel ih=>
  intro t cs x ht h hw;have hb:=List.all_eq_true.1 hS t ht;cases hu:P.underlying t with
  | none=>simp [hu] at hb
  | some u=>
  have one: ∀ {a:AV} {v:Value},Rep (zK w) a v→fJ (zK w) [a] [v]:=fun {a v} h=>⟨rfl,fun i b x h1 h2=>by
   cases i with
   | zero=>simp at h1 h2;subst h1 h2;exact h
   | succ i=>simp at h1⟩
  cases u with
  | bool=>
   obtain ⟨b,rfl,rfl⟩:=DataW.trod_bool hu h;exact ⟨_, .bool hu b,one (.v _),fun a ha=>by rw [List.mem_singleton] at ha;subst ha;exact .v _⟩
  | int k=>
   obtain ⟨z,rfl,rfl,hz⟩:=DataW.trod_int hu h;exact ⟨_, .int hu hz,one (.v _),fun a ha=>by rw [List.mem_singleton] at ha;subst ha;exact .v _⟩
  | string=>
   obtain ⟨s,rfl,rfl,hs⟩:=DataW.trod_string hu h;refine ⟨_, .str (s:=s) hu ?_,one (.v _),fun a ha=>by rw [List.mem_singleton] at ha;subst ha;exact .v _⟩;exact hw s.size (by show s.size∈[s.data.toList.length];rw [List.mem_singleton];rfl)
  | slice e=>
   simp only [hu,Bool.and_eq_true,decide_eq_true_eq,List.contains_iff_mem] at hb;obtain ⟨he,hc⟩:=hb;have mt: ∀ b,b∈[AV.t 0 (P.cellsOf e) ((List.range 0).flatMap fun _=>[])]→Clo b:=fun b hb=>by
    rw [List.mem_singleton] at hb;subst hb;exact .t fun b hb=>by simp at hb
   rcases DataW.trod_slice hu h with ⟨rfl,rfl⟩ | ⟨a,len,cap,elems,rest,n,e',rfl,rfl,_,hl,hcap,hlen,hel,_,_⟩
   ·exact ⟨[.t 0 (P.cellsOf e) ((List.range 0).flatMap fun _=>[])], .slice hu (by rw [Nat.zero_mul];exact Nat.zero_le _) (fun i hi=>by omega) (fun i hi=>by omega),one (.t (cvs:=[]) (by simp) rfl (Nat.le_refl _) (Nat.zero_le _) (fun h=>by omega) (fun i a x h=>by simp at h)),mt⟩
   ·obtain rfl:n=fuel:=by omega
    simp only [yj,DataW.weights,hu] at hw;have each: ∀ i,i<len→ ∃ q:List Value × List AV,w.cells? base (a.add (i*P.cellsOf e)) (P.cellsOf e)=some q.1∧Sh P e q.2∧fJ (zK w) q.2 q.1∧ ∀ a,a∈q.2→Clo a:=fun i hi=>by
     have h0:=hel i hi;rw [List.getElem?_eq_getElem (by omega)] at h0;obtain ⟨C,h1,h2⟩:=Option.bind_eq_some_iff.1 h0;obtain ⟨F,s1,s2,s3⟩:=ih e C _ he h2 fun q hq=>hw q (List.mem_cons_of_mem _ (List.mem_append_left _ (Ii (List.mem_map_of_mem (List.getElem_mem (by omega:i<elems.length))) q hq)))
     exact ⟨(C,F),h1,s1,s2,s3⟩
    obtain ⟨Q,hQ⟩:=choose_lt each;have hcl: ∀ i,i<len→(Q i).1.length=P.cellsOf e:=fun i hi=>(World.cells?_some (hQ i hi).1).2.1
    have hal: ∀ i,i<len→(Q i).2.length=P.cellsOf e:=fun i hi=>by rw [←(hQ i hi).2.2.1.1];exact hcl i hi
    have hcell: ∀ i,i<len→ ∀ j,j<P.cellsOf e→w.cell? ((a.add (i*P.cellsOf e)).add j)=(Q i).1[j]? :=fun i hi=>(World.cells?_some (hQ i hi).1).2.2
    have hsplit: ∀ j,j<len*P.cellsOf e→j / P.cellsOf e<len∧j % P.cellsOf e<P.cellsOf e∧j=j / P.cellsOf e*P.cellsOf e+j % P.cellsOf e:=fun j hj=>
     ⟨(Nat.div_lt_iff_lt_mul hc).2 hj,Nat.mod_lt _ hc,by rw [Nat.mul_comm];exact (Nat.div_add_mod _ _).symm⟩
    refine ⟨[.t len (P.cellsOf e) ((List.range len).flatMap fun i=>(Q i).2)], .slice hu ?_ hal fun i hi=>(hQ i hi).2.1,one (.t (cvs:=(List.range len).flatMap fun i=>(Q i).1) (oW hal) ?_ hl hcap ?_ ?_),fun b hb=>?_⟩
    ·have h1:=hw _ (List.mem_cons_self ..);simp only [List.length_map] at h1;refine Nat.le_trans (Nat.mul_le_mul_right _ ?_) h1;omega
    ·rw [oW hal,oW hcl]
    ·intro h0;have hs:=hcell 0 h0 0 hc;rw [List.getElem?_eq_getElem (by rw [hcl 0 h0];exact hc)] at hs;obtain ⟨b,off,spot⟩:=a;have hspot:spot=none:=by simpa [Addr.add] using World.cell?_spot hs
     subst hspot;refine ⟨b,off,rfl,fun j x hj=>⟨?_,fun h=>h⟩⟩;have hj':j<len*P.cellsOf e:=by
      have:=(List.getElem?_eq_some_iff.1 hj).1;rwa [oW hcl] at this
     obtain ⟨q1,q2,q3⟩:=hsplit j hj';rw [q3,flat_get hcl _ _ q1 q2] at hj;have:=hcell _ q1 _ q2;rw [Go.WideShapes.add_plain,Go.WideShapes.add_plain,hj,Nat.add_assoc, ←q3] at this;exact this
    ·intro j b x hb hx;have hj':j<len*P.cellsOf e:=by
      have:=(List.getElem?_eq_some_iff.1 hx).1;rwa [oW hcl] at this
     obtain ⟨q1,q2,q3⟩:=hsplit j hj';rw [q3,flat_get hcl _ _ q1 q2] at hx;rw [q3,flat_get hal _ _ q1 q2] at hb;exact (hQ _ q1).2.2.1.2 _ b x hb hx
    ·rw [List.mem_singleton] at hb;subst hb;refine .t fun b hb=>?_
     obtain ⟨i,h1,h2⟩:=List.mem_flatMap.1 hb;exact (hQ i (List.mem_range.1 h1)).2.2.2 b h2
  | struct fs=>
   simp only [hu,Bool.and_eq_true,List.all_eq_true,List.contains_iff_mem,beq_iff_eq] at hb;obtain ⟨hb1,hb2⟩:=hb;obtain ⟨xs,n,e,rfl,hcl,hlen,hf⟩:=DataW.trod_struct hu h;obtain rfl:n=fuel:=by omega
   have each: ∀ (i:Nat) (f:Field),fs.toList[i]? =some f→Ol P w f.type ((cs.drop f.offset).take (P.cellsOf f.type)):=fun i f hi=>by
    have hi':fs[i]? =some f:=by simpa using hi
    have hlt:i<xs.length:=by rw [hlen];exact (Array.getElem?_eq_some_iff.1 hi').1
    have h1:=hf i f hi';rw [List.getElem?_eq_getElem hlt] at h1;refine ih _ _ _ (hb1 f (List.mem_of_getElem? hi)) h1 fun q hq=>hw q ?_
    simp only [DataW.weights,hu];exact oD (i:=i) (t:=f.type) (d:=xs[i].1) (by rw [List.getElem?_map,hi];rfl) (by rw [List.getElem?_map,List.getElem?_eq_getElem hlt];rfl) q hq
   obtain ⟨l,r1,c1,g1⟩:=wL t fs.toList 0 cs (by rw [hb2,hcl]) (Nat.zero_le _) each;rw [List.drop_zero] at r1;refine ⟨l, .struct hu (by rw [←r1.1,hcl]) (fun i f hi=>?_),r1,c1⟩;have:=(g1 i f (by simpa using hi)).2;rwa [Nat.sub_zero] at this
  | _=>simp [hu] at hb
end
theorem af7 {f:FuncId} {args:List AV} {b:Bool} (T:TC Tryz.prog f args (.v (.bool b))) {w:World} {vs:List Value} (hr:fJ ⟨w,fun _=>(none,0),[],fun _ _=>False,[]⟩ args vs):
  Calls Tryz.prog f vs.toArray w fun e w'=>e= .returned (.bool b)∧Below w.heap.size w w':=by
 refine (T.calls hr).mono ?_;rintro e w' ⟨v,rfl,h1,h2⟩;cases h2;exact ⟨rfl,h1⟩
def alY (X:Cx):List AV→List Value→Prop
 | [],[]=>True
 | a::l,v::vs=>Rep X a v∧alY X l vs
 | _,_=>False
theorem Qd {X:Cx}: ∀ {l:List AV} {vs:List Value},alY X l vs→fJ X l vs
 | [],[],_=>⟨rfl,fun i a x h=>by simp at h⟩
 | [],_::_,h=>h.elim
 | _::_,[],h=>h.elim
 | a::l,v::vs,h=>by
  obtain ⟨h1,h2⟩:=Qd h.2;refine ⟨by simp [h1],fun i b x e1 e2=>?_⟩;cases i with
  | zero=>simp at e1 e2;subst e1 e2;exact h.1
  | succ i=>exact h2 i b x (by simpa using e1) (by simpa using e2)
end
section
open Go.ChangeShapes Go.WideShapes Go.ChangeAt Go.RowKit Go.Deep Wv
section
variable {P:Program} {t:TypeId} {l:List AV}
theorem aee (ht:P.underlying t=some .bool) (h:Sh P t l): ∃ b,l=[.v (.bool b)]:=by
 cases h with
 | bool _ b=>exact ⟨b,rfl⟩
 | _ h=>rw [ht] at h;cases h
theorem oG {k:IntKind} (ht:P.underlying t=some (.int k)) (h:Sh P t l): ∃ z,l=[.v (.int k z)]∧(Lit.int k z).wf=true:=by
 cases h with
 | int h hz=>rw [ht] at h;injection h with h;injection h with h;subst h;exact ⟨_,rfl,hz⟩
 | bool h=>rw [ht] at h;cases h
 | str h=>rw [ht] at h;cases h
 | slice h=>rw [ht] at h;cases h
 | struct h=>rw [ht] at h;cases h
theorem Ij (ht:P.underlying t=some .string) (h:Sh P t l): ∃ s:ByteArray,l=[.v (.string s)]∧s.size≤reachBytes:=by
 cases h with
 | str h hs=>exact ⟨_,rfl,hs⟩
 | bool h=>rw [ht] at h;cases h
 | int h=>rw [ht] at h;cases h
 | slice h=>rw [ht] at h;cases h
 | struct h=>rw [ht] at h;cases h
variable {e:TypeId}
theorem wM (ht:P.underlying t=some (.slice e)) (hb:1≤P.bytesOf e) (h:Sh P t l): ∃ (n:Nat) (f:Nat→List AV),l=[.t n (P.cellsOf e) ((List.range n).flatMap f)]∧n≤reachBytes∧ ∀ i,i<n→Sh P e (f i):=by
 cases h with
 | @slice _ e' n f h hn hl hf=>
  rw [ht] at h;injection h with h;injection h with h;subst h;exact ⟨n,f,rfl,Nat.le_trans (by have:=Nat.mul_le_mul_left n hb;omega) hn,hf⟩
 | bool h=>rw [ht] at h;cases h
 | int h=>rw [ht] at h;cases h
 | str h=>rw [ht] at h;cases h
 | struct h=>rw [ht] at h;cases h
theorem tq {fs:Array Field} (ht:P.underlying t=some (.struct fs)) (h:Sh P t l):l.length=P.cellsOf t∧ ∀ (i:Nat) (f:Field),fs[i]? =some f→Sh P f.type ((l.drop f.offset).take (P.cellsOf f.type)):=by
 cases h with
 | struct h hl hf=>rw [ht] at h;injection h with h;injection h with h;subst h;exact ⟨hl,hf⟩
 | bool h=>rw [ht] at h;cases h
 | int h=>rw [ht] at h;cases h
 | str h=>rw [ht] at h;cases h
 | slice h=>rw [ht] at h;cases h
theorem Di {α:Type} {n:Nat} {f:Nat→List α} {g:Nat→α} (h: ∀ i,i<n→f i=[g i]):(List.range n).flatMap f=(List.range n).map g:=by
 have: ∀ l:List Nat,(∀ i,i∈l→f i=[g i])→l.flatMap f=l.map g:=fun l=>by
  induction l with
  | nil=>intro _;rfl
  | cons a r ih=>intro h;rw [List.flatMap_cons,h a (List.mem_cons_self ..),ih fun i hi=>h i (List.mem_cons_of_mem _ hi)];rfl
 exact this _ fun i hi=>h i (List.mem_range.1 hi)
theorem Dj {α:Type} {n:Nat} {f g:Nat→List α} (h: ∀ i,i<n→f i=g i):(List.range n).flatMap f=(List.range n).flatMap g:=by
 have: ∀ l:List Nat,(∀ i,i∈l→f i=g i)→l.flatMap f=l.flatMap g:=fun l=>by
  induction l with
  | nil=>intro _;rfl
  | cons a r ih=>intro h;rw [List.flatMap_cons,List.flatMap_cons,h a (List.mem_cons_self ..),ih fun i hi=>h i (List.mem_cons_of_mem _ hi)]
 exact this _ fun i hi=>h i (List.mem_range.1 hi)
theorem Ik {k:IntKind} (ht:P.underlying t=some (.slice e)) (he:P.underlying e=some (.int k)) (hb:1≤P.bytesOf e) (hc:P.cellsOf e=1) (h:Sh P t l):
  ∃ (n:Nat) (f:Nat→Int),l=[.t n 1 (tab n fun i=> .v (.int k (f i)))]∧n≤reachBytes∧ ∀ i,i<n→(Lit.int k (f i)).wf=true:=by
 obtain ⟨n,f,rfl,hn,hf⟩:=wM ht hb h;obtain ⟨g,hg⟩:=choose_lt fun i hi=>oG he (hf i hi)
 exact ⟨n,g,by rw [hc,Di fun i hi=>(hg i hi).1];rfl,hn,fun i hi=>(hg i hi).2⟩
theorem Qv (ht:P.underlying t=some (.slice e)) (he:P.underlying e=some .string) (hb:1≤P.bytesOf e) (hc:P.cellsOf e=1) (h:Sh P t l):
  ∃ (n:Nat) (f:Nat→ByteArray),l=[.t n 1 (tab n fun i=> .v (.string (f i)))]∧n≤reachBytes∧ ∀ i,i<n→(f i).size≤reachBytes:=by
 obtain ⟨n,f,rfl,hn,hf⟩:=wM ht hb h;obtain ⟨g,hg⟩:=choose_lt (α:=ByteArray) fun i hi=>Ij he (hf i hi)
 exact ⟨n,g,by rw [hc,Di fun i hi=>(hg i hi).1];rfl,hn,fun i hi=>(hg i hi).2⟩
end
theorem uM {H:Type} {P:Program} {ts:List TypeId} {ds:List (DataW H)} (h:(DataW.weightsEach P ts ds).all (· ≤reachBytes)=true) {j:Nat} {t:TypeId} {d:DataW H} (ht:ts[j]? =some t) (hd:ds[j]? =some d):yj P t d:=
 fun n hn=>by simpa using List.all_eq_true.1 h n (oD ht hd n hn)
end
section
open Go.ChangeShapes Go.WideShapes Go.ChangeAt Go.RowKit Go.Deep Wv
instance:Inhabited (Nat × (Nat→Int)):=⟨(0,fun _=>0)⟩
theorem YO {z:Int} (h:(Lit.int .i64 z).wf=true): -9223372036854775808≤z∧z≤9223372036854775807:=by
 simp [Lit.wf,IntKind.min,IntKind.max,IntKind.bits,IntKind.signed] at h;omega
theorem aef {l:List AV} (h:Sh Tryz.prog 59 l): ∃ (m:Nat) (ln:Nat→Nat) (vs:Nat→Nat→Int),l=[.t m 1 (tab m fun i=> .t (ln i) 1 (tab (ln i) fun j=> .v (.int .i64 (vs i j))))]∧m≤140737488351232∧(∀ i,i<m→ln i≤140737488351232)∧ ∀ i,i<m→ ∀ j,j<ln i→ -9223372036854775808≤vs i j∧vs i j≤9223372036854775807:=by
 obtain ⟨m,f,rfl,hm,hf⟩:=wM Tryz.underlying59 (Nat.le_of_ble_eq_true (by kernel_rfl)) h;have hc:Tryz.prog.cellsOf 43=1:=by kernel_rfl
 have hr:reachBytes=140737488351232:=rfl;obtain ⟨L,hL⟩:=choose_lt (α:=Nat × (Nat→Int)) (p:=fun i q=>f i=[.t q.1 1 (tab q.1 fun j=> .v (.int .i64 (q.2 j)))]∧q.1≤140737488351232∧ ∀ j,j<q.1→ -9223372036854775808≤q.2 j∧q.2 j≤9223372036854775807) fun i hi=>by
  obtain ⟨n,g,e,w,o⟩:=Ik Tryz.underlying43 Tryz.underlying2 (Nat.le_of_ble_eq_true (by kernel_rfl)) (by kernel_rfl) (hf i hi);exact ⟨(n,g),e,by omega,fun j hj=>YO (o j hj)⟩
 refine ⟨m,fun i=>(L i).1,fun i=>(L i).2,?_,by omega,fun i hi=>(hL i hi).2.1,fun i hi=>(hL i hi).2.2⟩;rw [hc,Di fun i hi=>(hL i hi).1];rfl
end
end Go.Proofs.YtljfgdlgmdcmfaaGreat
namespace Go.Proofs.YtljfgdlgmdcmfaaGreat.Wv
section
open Go.RowKit
theorem WF0 (P:Go.Program) (h:P=Tryz.prog):(szP P 1=some 1)∧(aA P 1=some .nilFunc)∧(bg P 1=some false)∧(jQ P 1=true)∧(szP P 2=some 1)∧(bC P 2=some 8)∧(aA P 2=some (.int .i64 0))∧(bg P 2=some false)∧(bJ P 2=none)∧(l9 P 2=some .i64)∧((P.underlying 2).isSome=true)∧(kkP P 2=some (.int .i64))∧(bY P 2=true)∧(szP P 3=some 1)∧(bC P 3=some 8)∧(aA P 3=some (.int .i64 0))∧(bg P 3=some false)∧(bJ P 3=none)∧(l9 P 3=some .i64)∧((P.underlying 3).isSome=true)∧(kkP P 3=some (.int .i64))∧(bY P 3=true)∧(szP P 4=some 1)∧(bC P 4=some 1)∧(aA P 4=some (.bool false))∧(bg P 4=some false)∧(bJ P 4=none)∧(su P 4=true)∧((P.underlying 4).isSome=true)∧(bY P 4=true)∧(szP P 5=some 1)∧(bC P 5=some 1)∧(aA P 5=some (.int .u8 0))∧(bg P 5=some false)∧(bJ P 5=none)∧(l9 P 5=some .u8)∧((P.underlying 5).isSome=true)∧(kkP P 5=some (.int .u8))∧(bY P 5=true)∧(szP P 9=some 1)∧(bC P 9=some 16)∧(aA P 9=some (.string ⟨#[]⟩))∧(bg P 9=some false)∧(bJ P 9=none)∧(dI P 9=true)∧((P.underlying 9).isSome=true)∧(kkP P 9=some .str)∧(bY P 9=true)∧(szP P 12=some 1)∧(bC P 12=some 8)∧(aA P 12=some (.int .u64 0))∧(bg P 12=some false)∧(bJ P 12=none)∧(l9 P 12=some .u64)∧((P.underlying 12).isSome=true)∧(kkP P 12=some (.int .u64))∧(bY P 12=true)∧(szP P 13=some 2)∧(bC P 13=some 24)∧(aA P 13=some (.agg #[.string ⟨#[]⟩, .int .u64 0])):=by
 subst h;and_intros<;>kernel_rfl
theorem WF1 (P:Go.Program) (h:P=Tryz.prog):(bg P 13=some true)∧(bJ P 13=none)∧((P.underlying 13).isSome=true)∧(fsP P 13=some [(0,1),(1,1)])∧(bY P 13=true)∧(aZ P 13 0=some (0,9))∧(aZ P 13 1=some (1,12))∧(szP P 20=some 1)∧(bC P 20=some 16)∧(aA P 20=some .nilIface)∧(bg P 20=some false)∧(bJ P 20=none)∧((P.underlying 20).isSome=true)∧(szP P 21=some 1)∧(bC P 21=some 4)∧(aA P 21=some (.int .i32 0))∧(bg P 21=some false)∧(bJ P 21=none)∧(l9 P 21=some .i32)∧((P.underlying 21).isSome=true)∧(kkP P 21=some (.int .i32))∧(bY P 21=true)∧(szP P 22=some 1)∧(bC P 22=some 4)∧(aA P 22=some (.int .u32 0))∧(bg P 22=some false)∧(bJ P 22=none)∧(l9 P 22=some .u32)∧((P.underlying 22).isSome=true)∧(kkP P 22=some (.int .u32))∧(bY P 22=true)∧(szP P 23=some 1)∧(bC P 23=some 24)∧(aA P 23=some (.slice none 0 0))∧(bg P 23=some false)∧(aH P 23=some 22)∧(bJ P 23=none)∧((P.underlying 23).isSome=true)∧(bY P 23=true)∧(szP P 24=some 7)∧(bC P 24=some 72)∧(aA P 24=some (.agg #[.int .i64 0, .int .u32 0, .int .i64 0, .slice none 0 0, .int .u32 0, .int .i64 0, .int .u32 0]))∧(bg P 24=some true)∧(bJ P 24=none)∧((P.underlying 24).isSome=true)∧(fsP P 24=some [(0,1),(1,1),(2,1),(3,1),(4,1),(5,1),(6,1)])∧(bY P 24=true)∧(aZ P 24 0=some (0,3))∧(aZ P 24 1=some (1,22))∧(aZ P 24 2=some (2,3))∧(aZ P 24 3=some (3,23))∧(aZ P 24 4=some (4,22))∧(aZ P 24 5=some (5,3))∧(aZ P 24 6=some (6,22))∧(szP P 25=some 7)∧(bC P 25=some 72)∧(aA P 25=some (.agg #[.int .i64 0, .int .u32 0, .int .i64 0, .slice none 0 0, .int .u32 0, .int .i64 0, .int .u32 0]))∧(bg P 25=some true)∧(bJ P 25=none)∧((P.underlying 25).isSome=true):=by
 subst h;and_intros<;>kernel_rfl
theorem WF2 (P:Go.Program) (h:P=Tryz.prog):(fsP P 25=some [(0,1),(1,1),(2,1),(3,1),(4,1),(5,1),(6,1)])∧(bY P 25=true)∧(aZ P 25 0=some (0,3))∧(aZ P 25 1=some (1,22))∧(aZ P 25 2=some (2,3))∧(aZ P 25 3=some (3,23))∧(aZ P 25 4=some (4,22))∧(aZ P 25 5=some (5,3))∧(aZ P 25 6=some (6,22))∧(szP P 26=some 1)∧(bC P 26=some 24)∧(aA P 26=some (.slice none 0 0))∧(bg P 26=some false)∧(aH P 26=some 9)∧(bJ P 26=none)∧((P.underlying 26).isSome=true)∧(bY P 26=true)∧(szP P 27=some 1)∧(bC P 27=some 24)∧(aA P 27=some (.slice none 0 0))∧(bg P 27=some false)∧(aH P 27=some 49)∧(bJ P 27=none)∧((P.underlying 27).isSome=true)∧(bY P 27=true)∧(szP P 28=some 4)∧(bC P 28=some 88)∧(aA P 28=some (.agg #[.string ⟨#[]⟩, .slice none 0 0, .slice none 0 0, .slice none 0 0]))∧(bg P 28=some true)∧(bJ P 28=none)∧((P.underlying 28).isSome=true)∧(fsP P 28=some [(0,1),(1,1),(2,1),(3,1)])∧(bY P 28=true)∧(aZ P 28 0=some (0,9))∧(aZ P 28 1=some (1,26))∧(aZ P 28 2=some (2,27))∧(aZ P 28 3=some (3,26))∧(szP P 29=some 4)∧(bC P 29=some 88)∧(aA P 29=some (.agg #[.string ⟨#[]⟩, .slice none 0 0, .slice none 0 0, .slice none 0 0]))∧(bg P 29=some true)∧(bJ P 29=none)∧((P.underlying 29).isSome=true)∧(fsP P 29=some [(0,1),(1,1),(2,1),(3,1)])∧(bY P 29=true)∧(aZ P 29 0=some (0,9))∧(aZ P 29 1=some (1,26))∧(aZ P 29 2=some (2,27))∧(aZ P 29 3=some (3,26))∧(szP P 30=some 1)∧(aA P 30=some .nilFunc)∧(bg P 30=some false)∧(jQ P 30=true)∧(szP P 34=some 1)∧(bC P 34=some 24)∧(aA P 34=some (.slice none 0 0))∧(bg P 34=some false)∧(aH P 34=some 42)∧(bJ P 34=none)∧((P.underlying 34).isSome=true):=by
 subst h;and_intros<;>kernel_rfl
theorem WF3 (P:Go.Program) (h:P=Tryz.prog):(bY P 34=true)∧(szP P 35=some 1)∧(bC P 35=some 8)∧(aA P 35=some (.int .i64 0))∧(bg P 35=some false)∧(bJ P 35=none)∧(l9 P 35=some .i64)∧((P.underlying 35).isSome=true)∧(kkP P 35=some (.int .i64))∧(bY P 35=true)∧(szP P 41=some 2)∧(bC P 41=some 16)∧(aA P 41=some (.agg #[.bool false, .int .i64 0]))∧(bg P 41=some true)∧(bJ P 41=none)∧((P.underlying 41).isSome=true)∧(fsP P 41=some [(0,1),(1,1)])∧(bY P 41=true)∧(uz P 41=some [.b, .i])∧(aZ P 41 0=some (0,4))∧(aZ P 41 1=some (1,3))∧(szP P 42=some 2)∧(bC P 42=some 16)∧(aA P 42=some (.agg #[.bool false, .int .i64 0]))∧(bg P 42=some true)∧(bJ P 42=none)∧((P.underlying 42).isSome=true)∧(fsP P 42=some [(0,1),(1,1)])∧(bY P 42=true)∧(uz P 42=some [.b, .i])∧(aZ P 42 0=some (0,4))∧(aZ P 42 1=some (1,3))∧(szP P 43=some 1)∧(bC P 43=some 24)∧(aA P 43=some (.slice none 0 0))∧(bg P 43=some false)∧(aH P 43=some 2)∧(bJ P 43=none)∧((P.underlying 43).isSome=true)∧(bY P 43=true)∧(szP P 44=some 1)∧(bC P 44=some 24)∧(aA P 44=some (.slice none 0 0))∧(bg P 44=some false)∧(aH P 44=some 46)∧(bJ P 44=none)∧((P.underlying 44).isSome=true)∧(bY P 44=true)∧(szP P 45=some 5)∧(bC P 45=some 80)∧(aA P 45=some (.agg #[.int .i64 0, .string ⟨#[]⟩, .int .i64 0, .slice none 0 0, .slice none 0 0]))∧(bg P 45=some true)∧(bJ P 45=none)∧((P.underlying 45).isSome=true)∧(fsP P 45=some [(0,1),(1,1),(2,1),(3,1),(4,1)])∧(bY P 45=true)∧(aZ P 45 0=some (0,3))∧(aZ P 45 1=some (1,9))∧(aZ P 45 2=some (2,2))∧(aZ P 45 3=some (3,43)):=by
 subst h;and_intros<;>kernel_rfl
theorem WF4 (P:Go.Program) (h:P=Tryz.prog):(aZ P 45 4=some (4,44))∧(szP P 46=some 5)∧(bC P 46=some 80)∧(aA P 46=some (.agg #[.int .i64 0, .string ⟨#[]⟩, .int .i64 0, .slice none 0 0, .slice none 0 0]))∧(bg P 46=some true)∧(bJ P 46=none)∧((P.underlying 46).isSome=true)∧(fsP P 46=some [(0,1),(1,1),(2,1),(3,1),(4,1)])∧(bY P 46=true)∧(aZ P 46 0=some (0,3))∧(aZ P 46 1=some (1,9))∧(aZ P 46 2=some (2,2))∧(aZ P 46 3=some (3,43))∧(aZ P 46 4=some (4,44))∧(szP P 48=some 6)∧(bC P 48=some 96)∧(aA P 48=some (.agg #[.string ⟨#[]⟩, .int .i64 0, .string ⟨#[]⟩, .int .i64 0, .slice none 0 0, .slice none 0 0]))∧(bg P 48=some true)∧(bJ P 48=none)∧((P.underlying 48).isSome=true)∧(fsP P 48=some [(0,1),(1,5)])∧(bY P 48=true)∧(aZ P 48 0=some (0,9))∧(aZ P 48 1=some (1,46))∧(szP P 49=some 6)∧(bC P 49=some 96)∧(aA P 49=some (.agg #[.string ⟨#[]⟩, .int .i64 0, .string ⟨#[]⟩, .int .i64 0, .slice none 0 0, .slice none 0 0]))∧(bg P 49=some true)∧(bJ P 49=none)∧((P.underlying 49).isSome=true)∧(fsP P 49=some [(0,1),(1,5)])∧(bY P 49=true)∧(aZ P 49 0=some (0,9))∧(aZ P 49 1=some (1,46))∧(szP P 57=some 1)∧(aA P 57=some .nilFunc)∧(bg P 57=some false)∧(jQ P 57=true)∧(szP P 59=some 1)∧(bC P 59=some 24)∧(aA P 59=some (.slice none 0 0))∧(bg P 59=some false)∧(aH P 59=some 43)∧(bJ P 59=none)∧((P.underlying 59).isSome=true)∧(bY P 59=true)∧(szP P 73=some 3)∧(bC P 73=some 40)∧(aA P 73=some (.agg #[.slice none 0 0, .int .i64 0, .bool false]))∧(bg P 73=some true)∧(bJ P 73=none)∧((P.underlying 73).isSome=true)∧(fsP P 73=some [(0,1),(1,1),(2,1)])∧(bY P 73=true)∧(aZ P 73 0=some (0,59))∧(aZ P 73 1=some (1,3))∧(aZ P 73 2=some (2,4))∧(szP P 74=some 3)∧(bC P 74=some 40)∧(aA P 74=some (.agg #[.slice none 0 0, .int .i64 0, .bool false])):=by
 subst h;and_intros<;>kernel_rfl
theorem WF5 (P:Go.Program) (h:P=Tryz.prog):(bg P 74=some true)∧(bJ P 74=none)∧((P.underlying 74).isSome=true)∧(fsP P 74=some [(0,1),(1,1),(2,1)])∧(bY P 74=true)∧(aZ P 74 0=some (0,59))∧(aZ P 74 1=some (1,3))∧(aZ P 74 2=some (2,4))∧(szP P 80=some 1)∧(bC P 80=some 24)∧(aA P 80=some (.slice none 0 0))∧(bg P 80=some false)∧(aH P 80=some 3)∧(bJ P 80=none)∧((P.underlying 80).isSome=true)∧(bY P 80=true)∧(szP P 81=some 4)∧(bC P 81=some 64)∧(aA P 81=some (.agg #[.slice none 0 0, .slice none 0 0, .int .i64 0, .int .i64 0]))∧(bg P 81=some true)∧(bJ P 81=none)∧((P.underlying 81).isSome=true)∧(fsP P 81=some [(0,1),(1,1),(2,1),(3,1)])∧(bY P 81=true)∧(aZ P 81 0=some (0,59))∧(aZ P 81 1=some (1,80))∧(aZ P 81 2=some (2,3))∧(aZ P 81 3=some (3,3))∧(szP P 93=some 1)∧(aA P 93=some .nilFunc)∧(bg P 93=some false)∧(jQ P 93=true)∧(szP P 94=some 1)∧(aA P 94=some .nilFunc)∧(bg P 94=some false)∧(jQ P 94=true)∧(szP P 97=some 1)∧(bC P 97=some 8)∧(aA P 97=some (.agg #[.int .i64 0]))∧(bg P 97=some true)∧(bJ P 97=none)∧((P.underlying 97).isSome=true)∧(fsP P 97=some [(0,1)])∧(bY P 97=true)∧(uz P 97=some [.i])∧(aZ P 97 0=some (0,35))∧(szP P 98=some 1)∧(bC P 98=some 8)∧(aA P 98=some (.agg #[.int .i64 0]))∧(bg P 98=some true)∧(bJ P 98=none)∧((P.underlying 98).isSome=true)∧(fsP P 98=some [(0,1)])∧(bY P 98=true)∧(uz P 98=some [.i])∧(aZ P 98 0=some (0,35))∧(szP P 99=some 1)∧(bC P 99=some 8)∧(aA P 99=some (.pointer none))∧(bg P 99=some false):=by
 subst h;and_intros<;>kernel_rfl
theorem WF6 (P:Go.Program) (h:P=Tryz.prog):(bJ P 99=none)∧(kL P 99=true)∧((P.underlying 99).isSome=true)∧(bY P 99=true)∧(szP P 100=some 1)∧(bC P 100=some 8)∧(aA P 100=some (.map none))∧(bg P 100=some false)∧(bJ P 100=none)∧((P.underlying 100).isSome=true)∧(uT P 100=some (9,42))∧(bY P 100=true)∧(szP P 102=some 9)∧(bC P 102=some 88)∧(aA P 102=some (.agg #[.int .i64 0, .int .u32 0, .int .i64 0, .slice none 0 0, .int .u32 0, .int .i64 0, .int .u32 0, .int .i64 0, .map none]))∧(bg P 102=some true)∧(bJ P 102=none)∧((P.underlying 102).isSome=true)∧(fsP P 102=some [(0,7),(7,1),(8,1)])∧(bY P 102=true)∧(aZ P 102 0=some (0,25))∧(aZ P 102 1=some (7,2))∧(aZ P 102 2=some (8,100))∧(szP P 103=some 1)∧(aA P 103=some .nilFunc)∧(bg P 103=some false)∧(jQ P 103=true)∧(szP P 108=some 1)∧(bC P 108=some 8)∧(aA P 108=some (.pointer none))∧(bg P 108=some false)∧(bJ P 108=none)∧(kL P 108=true)∧((P.underlying 108).isSome=true)∧(bY P 108=true)∧(szP P 109=some 5)∧(bC P 109=some 72)∧(aA P 109=some (.agg #[.int .i64 0, .int .i64 0, .int .i64 0, .slice none 0 0, .slice none 0 0]))∧(bg P 109=some true)∧(bJ P 109=none)∧((P.underlying 109).isSome=true)∧(fsP P 109=some [(0,1),(1,1),(2,1),(3,1),(4,1)])∧(bY P 109=true)∧(aZ P 109 0=some (0,3))∧(aZ P 109 1=some (1,2))∧(aZ P 109 2=some (2,3))∧(aZ P 109 3=some (3,26))∧(aZ P 109 4=some (4,34))∧(szP P 110=some 5)∧(bC P 110=some 72)∧(aA P 110=some (.agg #[.int .i64 0, .int .i64 0, .int .i64 0, .slice none 0 0, .slice none 0 0]))∧(bg P 110=some true)∧(bJ P 110=none)∧((P.underlying 110).isSome=true)∧(fsP P 110=some [(0,1),(1,1),(2,1),(3,1),(4,1)])∧(bY P 110=true)∧(aZ P 110 0=some (0,3))∧(aZ P 110 1=some (1,2))∧(aZ P 110 2=some (2,3))∧(aZ P 110 3=some (3,26)):=by
 subst h;and_intros<;>kernel_rfl
theorem WF7 (P:Go.Program) (h:P=Tryz.prog):(aZ P 110 4=some (4,34))∧(szP P 122=some 1)∧(bC P 122=some 8)∧(aA P 122=some (.pointer none))∧(bg P 122=some false)∧(bJ P 122=none)∧(kL P 122=true)∧((P.underlying 122).isSome=true)∧(bY P 122=true)∧(szP P 123=some 1)∧(bC P 123=some 8)∧(aA P 123=some (.map none))∧(bg P 123=some false)∧(bJ P 123=none)∧((P.underlying 123).isSome=true)∧(uT P 123=some (9,43))∧(bY P 123=true)∧(szP P 125=some 3)∧(bC P 125=some 24)∧(aA P 125=some (.agg #[.int .i64 0, .int .i64 0, .map none]))∧(bg P 125=some true)∧(bJ P 125=none)∧((P.underlying 125).isSome=true)∧(fsP P 125=some [(0,1),(1,1),(2,1)])∧(bY P 125=true)∧(aZ P 125 0=some (0,3))∧(aZ P 125 1=some (1,2))∧(aZ P 125 2=some (2,123))∧(szP P 129=some 1)∧(bC P 129=some 8)∧(aA P 129=some (.pointer none))∧(bg P 129=some false)∧(bJ P 129=none)∧(kL P 129=true)∧((P.underlying 129).isSome=true)∧(bY P 129=true)∧(szP P 130=some 1)∧(bC P 130=some 24)∧(aA P 130=some (.slice none 0 0))∧(bg P 130=some false)∧(aH P 130=some 135)∧(bJ P 130=none)∧((P.underlying 130).isSome=true)∧(bY P 130=true)∧(szP P 131=some 3)∧(bC P 131=some 40)∧(aA P 131=some (.agg #[.int .i64 0, .int .i64 0, .slice none 0 0]))∧(bg P 131=some true)∧(bJ P 131=none)∧((P.underlying 131).isSome=true)∧(fsP P 131=some [(0,1),(1,1),(2,1)])∧(bY P 131=true)∧(aZ P 131 0=some (0,3))∧(aZ P 131 1=some (1,2))∧(aZ P 131 2=some (2,130))∧(szP P 132=some 3)∧(bC P 132=some 40)∧(aA P 132=some (.agg #[.int .i64 0, .int .i64 0, .slice none 0 0]))∧(bg P 132=some true)∧(bJ P 132=none):=by
 subst h;and_intros<;>kernel_rfl
theorem WF8 (P:Go.Program) (h:P=Tryz.prog):((P.underlying 132).isSome=true)∧(fsP P 132=some [(0,1),(1,1),(2,1)])∧(bY P 132=true)∧(aZ P 132 0=some (0,3))∧(aZ P 132 1=some (1,2))∧(aZ P 132 2=some (2,130))∧(szP P 134=some 2)∧(bC P 134=some 40)∧(aA P 134=some (.agg #[.string ⟨#[]⟩, .slice none 0 0]))∧(bg P 134=some true)∧(bJ P 134=none)∧((P.underlying 134).isSome=true)∧(fsP P 134=some [(0,1),(1,1)])∧(bY P 134=true)∧(aZ P 134 0=some (0,9))∧(aZ P 134 1=some (1,43))∧(szP P 135=some 2)∧(bC P 135=some 40)∧(aA P 135=some (.agg #[.string ⟨#[]⟩, .slice none 0 0]))∧(bg P 135=some true)∧(bJ P 135=none)∧((P.underlying 135).isSome=true)∧(fsP P 135=some [(0,1),(1,1)])∧(bY P 135=true)∧(aZ P 135 0=some (0,9))∧(aZ P 135 1=some (1,43))∧(szP P 141=some 1)∧(bC P 141=some 8)∧(aA P 141=some (.pointer none))∧(bg P 141=some false)∧(bJ P 141=none)∧(kL P 141=true)∧((P.underlying 141).isSome=true)∧(bY P 141=true)∧(szP P 147=some 1)∧(bC P 147=some 24)∧(aA P 147=some (.slice none 0 0))∧(bg P 147=some false)∧(aH P 147=some 149)∧(bJ P 147=none)∧((P.underlying 147).isSome=true)∧(bY P 147=true)∧(szP P 149=some 1)∧(bC P 149=some 4)∧(aA P 149=some (.int .u32 0))∧(bg P 149=some false)∧(bJ P 149=none)∧(l9 P 149=some .u32)∧((P.underlying 149).isSome=true)∧(kkP P 149=some (.int .u32))∧(bY P 149=true)∧(szP P 151=some 1)∧(aA P 151=some .nilFunc)∧(bg P 151=some false)∧(jQ P 151=true)∧(szP P 154=some 1)∧(aA P 154=some .nilFunc)∧(bg P 154=some false)∧(jQ P 154=true)∧(szP P 155=some 1):=by
 subst h;and_intros<;>kernel_rfl
theorem WF9 (P:Go.Program) (h:P=Tryz.prog):(bC P 155=some 8)∧(aA P 155=some (.map none))∧(bg P 155=some false)∧(bJ P 155=none)∧((P.underlying 155).isSome=true)∧(uT P 155=some (3,93))∧(bY P 155=true)∧(szP P 160=some 1)∧(bC P 160=some 8)∧(aA P 160=some (.pointer none))∧(bg P 160=some false)∧(bJ P 160=none)∧(kL P 160=true)∧((P.underlying 160).isSome=true)∧(bY P 160=true)∧(szP P 161=some 1)∧(aA P 161=some .nilFunc)∧(bg P 161=some false)∧(jQ P 161=true)∧(szP P 162=some 1)∧(bC P 162=some 8)∧(aA P 162=some (.int .u64 0))∧(bg P 162=some false)∧(bJ P 162=none)∧(l9 P 162=some .u64)∧((P.underlying 162).isSome=true)∧(kkP P 162=some (.int .u64))∧(bY P 162=true)∧(szP P 164=some 1)∧(aA P 164=some .nilFunc)∧(bg P 164=some false)∧(jQ P 164=true)∧(szP P 165=some 1)∧(aA P 165=some .nilFunc)∧(bg P 165=some false)∧(jQ P 165=true)∧(szP P 181=some 1)∧(bC P 181=some 8)∧(aA P 181=some (.map none))∧(bg P 181=some false)∧(bJ P 181=none)∧((P.underlying 181).isSome=true)∧(uT P 181=some (186,149))∧(bY P 181=true)∧(szP P 182=some 1)∧(bC P 182=some 8)∧(aA P 182=some (.map none))∧(bg P 182=some false)∧(bJ P 182=none)∧((P.underlying 182).isSome=true)∧(uT P 182=some (9,4))∧(bY P 182=true)∧(szP P 184=some 1)∧(bC P 184=some 24)∧(aA P 184=some (.slice none 0 0))∧(bg P 184=some false)∧(aH P 184=some 147)∧(bJ P 184=none)∧((P.underlying 184).isSome=true)∧(bY P 184=true):=by
 subst h;and_intros<;>kernel_rfl
theorem an2 (P:Go.Program) (h:P=Tryz.prog):(szP P 186=some 2)∧(bC P 186=some 24)∧(aA P 186=some (.agg #[.string ⟨#[]⟩, .int .i64 0]))∧(bg P 186=some true)∧(bJ P 186=none)∧((P.underlying 186).isSome=true)∧(fsP P 186=some [(0,1),(1,1)])∧(bY P 186=true)∧(uz P 186=some [.s, .i])∧(aZ P 186 0=some (0,9))∧(aZ P 186 1=some (1,3))∧(szP P 190=some 1)∧(bC P 190=some 24)∧(aA P 190=some (.slice none 0 0))∧(bg P 190=some false)∧(aH P 190=some 30)∧(bJ P 190=none)∧((P.underlying 190).isSome=true)∧(bY P 190=true)∧(szP P 191=some 16)∧(bC P 191=some 256)∧(aA P 191=some (.agg #[.string ⟨#[]⟩, .string ⟨#[]⟩, .string ⟨#[]⟩, .string ⟨#[]⟩, .string ⟨#[]⟩, .string ⟨#[]⟩, .string ⟨#[]⟩, .string ⟨#[]⟩, .string ⟨#[]⟩, .string ⟨#[]⟩, .string ⟨#[]⟩, .string ⟨#[]⟩, .string ⟨#[]⟩, .string ⟨#[]⟩, .string ⟨#[]⟩, .string ⟨#[]⟩]))∧(bg P 191=some true)∧(aH P 191=none)∧(bJ P 191=some (16,9))∧((P.underlying 191).isSome=true)∧(fsP P 191=some [(0,1),(1,1),(2,1),(3,1),(4,1),(5,1),(6,1),(7,1),(8,1),(9,1),(10,1),(11,1),(12,1),(13,1),(14,1),(15,1)])∧(bY P 191=true)∧(szP P 195=some 1)∧(bC P 195=some 24)∧(aA P 195=some (.slice none 0 0))∧(bg P 195=some false)∧(aH P 195=some 5)∧(bJ P 195=none)∧((P.underlying 195).isSome=true)∧(bY P 195=true)∧(szP P 199=some 3)∧(bC P 199=some 16)∧(aA P 199=some (.agg #[.int .i64 0, .bool false, .bool false]))∧(bg P 199=some true)∧(bJ P 199=none)∧((P.underlying 199).isSome=true)∧(fsP P 199=some [(0,1),(1,1),(2,1)])∧(bY P 199=true)∧(uz P 199=some [.i, .b, .b])∧(aZ P 199 0=some (0,3))∧(aZ P 199 1=some (1,4))∧(aZ P 199 2=some (2,4))∧(szP P 200=some 48)∧(bC P 200=some 256)∧(aA P 200=some (.agg #[.int .i64 0, .bool false, .bool false, .int .i64 0, .bool false, .bool false, .int .i64 0, .bool false, .bool false, .int .i64 0, .bool false, .bool false, .int .i64 0, .bool false, .bool false, .int .i64 0, .bool false, .bool false, .int .i64 0, .bool false, .bool false, .int .i64 0, .bool false, .bool false, .int .i64 0, .bool false, .bool false, .int .i64 0, .bool false, .bool false, .int .i64 0, .bool false, .bool false, .int .i64 0, .bool false, .bool false, .int .i64 0, .bool false, .bool false, .int .i64 0, .bool false, .bool false, .int .i64 0, .bool false, .bool false, .int .i64 0, .bool false, .bool false]))∧(bg P 200=some true)∧(aH P 200=none)∧(bJ P 200=some (16,199))∧((P.underlying 200).isSome=true)∧(fsP P 200=some [(0,3),(3,3),(6,3),(9,3),(12,3),(15,3),(18,3),(21,3),(24,3),(27,3),(30,3),(33,3),(36,3),(39,3),(42,3),(45,3)])∧(bY P 200=true)∧(szP P 202=some 1)∧(aA P 202=some .nilFunc)∧(bg P 202=some false):=by
 subst h;and_intros<;>kernel_rfl
theorem an3 (P:Go.Program) (h:P=Tryz.prog):(jQ P 202=true)∧(szP P 215=some 1)∧(bC P 215=some 8)∧(aA P 215=some (.int .u64 0))∧(bg P 215=some false)∧(bJ P 215=none)∧(l9 P 215=some .u64)∧((P.underlying 215).isSome=true)∧(kkP P 215=some (.int .u64))∧(bY P 215=true)∧(szP P 235=some 7)∧(bC P 235=some 28)∧(aA P 235=some (.agg #[.int .u32 0, .int .u32 0, .int .u32 0, .int .u32 0, .int .u32 0, .int .u32 0, .int .u32 0]))∧(bg P 235=some true)∧(aH P 235=none)∧(bJ P 235=some (7,22))∧((P.underlying 235).isSome=true)∧(fsP P 235=some [(0,1),(1,1),(2,1),(3,1),(4,1),(5,1),(6,1)])∧(bY P 235=true)∧(szP P 236=some 3)∧(bC P 236=some 12)∧(aA P 236=some (.agg #[.int .u32 0, .int .u32 0, .int .u32 0]))∧(bg P 236=some true)∧(aH P 236=none)∧(bJ P 236=some (3,22))∧((P.underlying 236).isSome=true)∧(fsP P 236=some [(0,1),(1,1),(2,1)])∧(bY P 236=true)∧(szP P 250=some 1)∧(bC P 250=some 8)∧(aA P 250=some (.int .i64 0))∧(bg P 250=some false)∧(bJ P 250=none)∧(l9 P 250=some .i64)∧((P.underlying 250).isSome=true)∧(kkP P 250=some (.int .i64))∧(bY P 250=true)∧(szP P 261=some 1)∧(bC P 261=some 8)∧(aA P 261=some (.int .u64 0))∧(bg P 261=some false)∧(bJ P 261=none)∧(l9 P 261=some .u64)∧((P.underlying 261).isSome=true)∧(kkP P 261=some (.int .u64))∧(bY P 261=true)∧(szP P 265=some 1)∧(bC P 265=some 8)∧(aA P 265=some (.pointer none))∧(bg P 265=some false)∧(bJ P 265=none)∧(kL P 265=true)∧((P.underlying 265).isSome=true)∧(bY P 265=true)∧(szP P 268=some 1)∧(bC P 268=some 8)∧(aA P 268=some .nilFunc)∧(bg P 268=some false)∧(bJ P 268=none)∧((P.underlying 268).isSome=true):=by
 subst h;and_intros<;>kernel_rfl
theorem an4 (P:Go.Program) (h:P=Tryz.prog):(bY P 268=true)∧(jQ P 268=true)∧(szP P 277=some 1)∧(bC P 277=some 8)∧(aA P 277=some (.pointer none))∧(bg P 277=some false)∧(bJ P 277=none)∧(kL P 277=true)∧((P.underlying 277).isSome=true)∧(bY P 277=true):=by
 subst h;and_intros<;>kernel_rfl
end
section
variable {p:Prop}
theorem bA {q:Prop} (h:p) (k:q):p∧q:=⟨h,k⟩
def Ba:=bA @List.map_cons.{0,0}<| bA @List.map_nil.{0,0}<| bA @List.getElem?_cons_zero.{0}<| bA @List.getElem?_cons_succ.{0}<| bA @List.getElem?_nil.{0}<| bA @List.nil_append.{0}<| bA @List.cons_append.{0}<| bA @List.append_nil.{0}<| bA @List.take_zero.{0}<| bA @List.take_succ_cons.{0}<| bA @List.take_nil.{0}<| bA @List.drop_zero.{0}<| bA @List.drop_succ_cons.{0}<| bA @List.drop_nil.{0}<| bA @List.length_cons.{0}<| bA @List.length_nil.{0}<| bA @List.all_cons.{0}<| bA @List.all_nil.{0}<| bA @List.set_cons_zero.{0}<| bA @List.set_cons_succ.{0}<| bA @List.set_nil.{0}<| bA @List.getElem?_drop.{0}<| bA @List.length_map.{0,0}<| bA @List.length_append.{0}<| bA @Option.map_some.{0,0}<| bA @Option.map_none.{0,0}<| bA @Option.bind_some.{0,0}<| bA @Option.bind_none.{0,0}<| bA @Bool.and_true<| bA @Bool.true_and<| bA @Bool.not_true<| bA @Bool.not_false<| bA @Bool.true_beq<| bA @Bool.false_beq<| bA @Nat.mul_one<| bA @Nat.sub_zero<| bA @Nat.sub_self<| bA @Nat.add_zero<| bA @Nat.zero_add<| bA @Int.toNat_natCast<| bA @Int.natCast_zero<| bA @Int.sub_zero<| bA @Int.add_zero<| bA @Int.zero_add<| bA @ne_eq.{1}<| bA @not_false_eq_true<| bA @true_and<| bA @and_true<| bA @decide_true<| bA @decide_false<| bA @eq_self.{1}<| bA @Option.isNone_none.{0}<| bA @Option.isNone_some.{0}<| bA @Option.isSome_some.{0}<| bA @Bool.false_and<| bA @Bool.and_false<| bA @cond_true.{1}<| bA @cond_false.{1}<| @List.size_toArray.{0}
def Bb:=bA @Wv.WJ<| bA @Wv.Tq<| bA @Wv.agm<| bA @Wv.akm<| bA @Wv.agn<| bA @Wv.abT<| bA @Wv.abU<| bA @Wv.akn<| bA @Wv.abV<| bA @Wv.agp<| bA @Wv.ako<| bA @Wv.agq<| bA @Wv.akp<| bA @Wv.agr<| bA @Wv.ags<| bA @Wv.agt<| bA @Wv.agu<| bA @Wv.agv<| bA @Wv.k_p<| bA @Wv.agw<| bA @Wv.agx<| bA @Wv.agy<| bA @Wv.agz<| bA @Wv.k_reg<| bA @Wv.abW<| bA @Wv.agB<| bA @Wv.k_o<| bA @Wv.k_r<| bA @Wv.k_h<| bA @Wv.agC<| bA @Wv.agD<| bA @Wv.agE<| bA @Wv.abX<| bA @Wv.abY<| bA @Wv.agF<| bA @Wv.akq<| bA @Wv.agG<| bA @Wv.agH<| bA @Wv.akr<| bA @Wv.abZ<| bA @Wv.agI<| bA @Wv.agJ<| bA @Wv.agK<| bA @Wv.WL<| bA @Wv.agL<| bA @Wv.ab1<| bA @Wv.agM<| bA @Wv.Og<| bA @Wv.ab2<| bA @Wv.agN<| bA @Wv.Tt<| bA @Wv.KG<| bA @Wv.ab3<| bA @Wv.Tv<| bA @Wv.aks<| bA @Wv.akt<| bA @Wv.WM<| bA @Wv.WO<| bA @Wv.Tz<| bA @Wv.KH<| bA @Wv.WQ<| bA @Wv.WR<| bA @Wv.ab4<| bA @Wv.agO<| bA @Wv.agP<| bA @Wv.WS<| bA @Wv.WT<| bA @Wv.agQ<| bA @Wv.agR<| @Wv.ab5
def Bc:=bA @Wv.ab6<| bA @Wv.agS<| bA @Wv.agT<| bA @Wv.Oh<| bA @Wv.Oi<| bA @Wv.ab7<| bA @Wv.ab8<| bA @Wv.agU<| bA @Wv.agV<| bA @Wv.TQ<| bA @Wv.TR<| bA @Wv.KI<| bA @Wv.KJ<| bA @Wv.ab9<| bA @Wv.acd<| bA @Wv.TU<| bA @Wv.TW<| bA @Wv.ace<| bA @Wv.acf<| bA @Wv.acg<| bA @Wv.KL<| bA @Wv.KN<| bA @Wv.KO<| bA @Wv.ach<| bA @Wv.aci<| bA @Wv.acj<| bA @Wv.agW<| bA @Wv.agX<| bA @Wv.agY<| bA @Wv.q_len<| bA @Wv.akv<| bA @Wv.akw<| bA @Wv.akx<| bA @Wv.aky<| bA @Wv.akz<| bA @Wv.WU<| bA @Wv.agZ<| bA @Wv.ag0<| bA @Wv.ag1<| bA @Wv.akA<| bA @Wv.WV<| bA @Wv.akB<| bA @Wv.acn<| bA @Wv.akC<| bA @Wv.aco<| bA @Wv.ag2<| bA @Wv.acp<| bA @Wv.acr<| bA @Wv.acs<| bA @Wv.Qs<| bA @Wv.acu<| bA @Wv.acv<| bA @Wv.acw<| bA @Wv.acy<| bA @Wv.acz<| bA @Wv.acA<| bA @Wv.WW<| bA @Wv.acB<| bA @Wv.WX<| bA @Wv.WY<| bA @Wv.acC<| bA @Wv.acD<| bA @Wv.ag3<| bA @Wv.ag4<| bA @Wv.ag5<| bA @Wv.ag6<| bA @Wv.WZ<| bA @Wv.W9<| bA @Wv.Xa<| @Wv.Xb
def Bd:=bA @Wv.acE<| bA @Wv.acF<| bA @Wv.acG<| bA @Wv.acH<| bA @Wv.acI<| bA @Wv.acJ<| bA @Wv.acK<| bA @Wv.acL<| bA @Wv.akD<| bA @Wv.akE<| bA @Wv.Xc<| bA @Wv.Xd<| bA @Wv.Xe<| bA @Wv.Xf<| bA @Wv.acM<| bA @Wv.acN<| bA @Wv.acO<| bA @Wv.acP<| bA @Wv.acQ<| bA @Wv.acR<| bA @Wv.acS<| bA @Wv.acT<| bA @Wv.ag7<| bA @Wv.ag8<| bA @Wv.ag9<| bA @Wv.aha<| bA @Wv.acU<| bA @Wv.afI<| bA @Wv.akF<| bA @Wv.akG<| bA @Wv.fin0<| bA @Wv.fin1<| bA @Wv.acW<| bA @Wv.akH<| bA @Wv.akI<| bA @Wv.akJ<| bA @Wv.Xg<| bA @Wv.Xh<| bA @Wv.TY<| bA @Wv.akK<| bA @Wv.anJ<| bA @Wv.akL<| bA @Wv.anK<| bA @Wv.Ua<| bA @Wv.Xi<| bA @Wv.Xj<| bA @Wv.get_nil<| bA @Wv.Xk<| bA @Wv.ahc<| bA @Wv.Xl<| bA @Wv.acX<| bA @Wv.Ub<| bA @Wv.Xm<| bA @Wv.Uc<| bA @Wv.Xn<| bA @Wv.acY<| bA @Wv.Xo<| bA @Wv.acZ<| bA @Wv.Xp<| bA @Wv.ahd<| bA @Wv.ac0<| bA @Wv.Xq<| bA @Wv.ac1<| bA @Wv.ac2<| bA @Wv.ac3<| bA @Wv.ahe<| bA @Wv.ahf<| bA @Wv.akM<| bA @Wv.akN<| @Wv.akO
def Be:=bA @Wv.akP<| bA @Wv.akQ<| bA @Wv.akR<| bA @Wv.akS<| bA @Wv.akT<| bA @Wv.anL<| bA @Wv.akU<| bA @Wv.akV<| bA @Wv.akW<| bA @Wv.akX<| bA @Wv.akY<| bA @Wv.akZ<| bA @Wv.ak0<| bA @Wv.ak1<| bA @Wv.ak2<| bA @Wv.ak3<| bA @Wv.ak4<| bA @Wv.ak5<| bA @Wv.ahg<| bA @Wv.ahh<| bA @Wv.ahi<| bA @Wv.w64<| bA @Wv.anM<| bA @Wv.wu64<| bA @Wv.wu8<| bA @Wv.Xr<| bA @Wv.Xt<| bA @Wv.Xu<| bA @Wv.ac4<| bA @Wv.iJ<| bA @Wv.jq<| bA @Wv.dA<| bA @Wv.Xv<| bA @Wv.ld<| bA @Wv.ahk<| bA @Wv.Ud<| bA @Wv.ak6<| bA @Wv.ak7<| bA @Wv.Ue<| bA @Wv.ak8<| bA @Wv.qV<| bA @Wv.afJ<| bA @Wv.Xx<| bA @Wv.FV<| bA @Wv.FW<| bA @Wv.ahm<| bA @Wv.ac6<| bA @Wv.ahn<| bA @Wv.ac7<| bA @Wv.ac8<| bA @Wv.anN<| bA @Wv.anO<| bA @Wv.ak9<| bA @Wv.ala<| bA @Wv.uX<| bA @Wv.aho<| bA @Wv.anP<| bA @Wv.ahp<| bA @Wv.ac9<| bA @Wv.ahq<| bA @Wv.Xy<| bA @Wv.ahr<| bA @Wv.anQ<| bA @Wv.alb<| bA @Wv.alc<| bA @Wv.ahs<| bA @Wv.aht<| bA @Wv.st<| bA @Wv.ahu<| @Wv.ald
def Bf:=bA @Wv.Xz<| bA @Wv.ada<| bA @Wv.XA<| bA @Wv.Uf<| bA @Wv.Oj<| bA @Wv.anR<| bA @Wv.XB<| bA @Wv.Ug<| bA @Wv.XD<| bA @Wv.XE<| bA @Wv.adb<| bA @Wv.ahv<| bA @Wv.ale<| bA @Wv.alf<| bA @Wv.anS<| bA @Wv.ade<| bA @Wv.ahw<| bA @Wv.XF<| bA @Wv.XG<| bA @Wv.alg<| bA @Wv.adf<| bA @Wv.alh<| bA @Wv.XH<| bA @Wv.adg<| bA @Wv.XI<| bA @Wv.ali<| bA @Wv.alj<| bA @Wv.alk<| bA @Wv.Uh<| bA @Wv.adh<| bA @Wv.XJ<| bA @Wv.XK<| bA @Wv.XL<| bA @Wv.adi<| bA @Wv.XM<| bA @Wv.ahx<| bA @Wv.XO<| bA @Wv.adk<| bA @Wv.XP<| bA @Wv.XQ<| bA @Wv.tk<| bA @Wv.adl<| bA @Wv.adn<| bA @Wv.ix<| bA @Wv.alm<| bA @Wv.aln<| bA @Wv.alo<| bA @Wv.ado<| bA @Wv.XT<| bA @Wv.XU<| bA @Wv.sh<| bA @Wv.ahy<| bA @Wv.alp<| bA @Wv.alq<| bA @Wv.afK<| bA @Wv.len<| bA @Wv.adp<| bA @Wv.ahz<| bA @Wv.alr<| bA @Wv.len_nil<| bA @Wv.adq<| bA @Wv.Uj<| bA @Wv.adr<| bA @Wv.XV<| bA @Wv.ap<| bA @Wv.XW<| bA @Wv.ads<| bA @Wv.adt<| bA @Wv.XY<| @Wv.adu
def Bg:=bA @Wv.adv<| bA @Wv.cp<| bA @Wv.XZ<| bA @Wv.adw<| bA @Wv.X3<| bA @Wv.adx<| bA @Wv.at_<| bA @Wv.X4<| bA @Wv.X5<| bA @Wv.ahA<| bA @Wv.ady<| bA @Wv.als<| bA @Wv.alu<| bA @Wv.ahB<| bA @Wv.ahC<| bA @Wv.ahD<| bA @Wv.sr<| bA @Wv.anT<| bA @Wv.X6<| bA @Wv.ahE<| bA @Wv.X7<| bA @Wv.adz<| bA @Wv.ahF<| bA @Wv.ahG<| bA @Wv.X8<| bA @Wv.adA<| bA @Wv.alv<| bA @Wv.alx<| bA @Wv.ahH<| bA @Wv.ahI<| bA @Wv.X9<| bA @Wv.adB<| bA @Wv.adC<| bA @Wv.aly<| bA @Wv.alz<| bA @Wv.ahJ<| bA @Wv.ahK<| bA @Wv.Ya<| bA @Wv.adD<| bA @Wv.adE<| bA @Wv.alA<| bA @Wv.alB<| bA @Wv.ahL<| bA @Wv.ahM<| bA @Wv.Yb<| bA @Wv.adF<| bA @Wv.adG<| bA @Wv.alC<| bA @Wv.alD<| bA @Wv.adH<| bA @Wv.ahN<| bA @Wv.adI<| bA @Wv.Yc<| bA @Wv.Yd<| bA @Wv.lt<| bA @Wv.Ye<| bA @Wv.Yf<| bA @Wv.ahO<| bA @Wv.adJ<| bA @Wv.Yg<| bA @Wv.mk<| bA @Wv.Yh<| bA @Wv.Yi<| bA @Wv.Yj<| bA @Wv.Uk<| bA @Wv.Yk<| bA @Wv.fd<| bA @Wv.Yl<| bA @Wv.Ym<| @Wv.fl
def Bh:=bA @Wv.Yn<| bA @Wv.Yo<| bA @Wv.anU<| bA @Wv.ahP<| bA @Wv.ahQ<| bA @Wv.bdx<| bA @Wv.Yp<| bA @Wv.ahR<| bA @Wv.adK<| bA @Wv.Yq<| bA @Wv.adL<| bA @Wv.adM<| bA @Wv.adN<| bA @Wv.Yr<| bA @Wv.alE<| bA @Wv.anV<| bA @Wv.anW<| bA @Wv.Yt<| bA @Wv.Yu<| bA @Wv.alF<| bA @Wv.anX<| bA @Wv.Yv<| bA @Wv.Yw<| bA @Wv.Yx<| bA @Wv.adO<| bA @Wv.adQ<| bA @Wv.ahS<| bA @Wv.Yy<| bA @Wv.ahT<| bA @Wv.anY<| bA @Wv.ahU<| bA @Wv.ahV<| bA @Wv.Yz<| bA @Wv.YA<| bA @Wv.ahW<| bA @Wv.Ul<| bA @Wv.Um<| bA @Wv.lk<| bA @Wv.YB<| bA @Wv.ahX<| bA @Wv.ahY<| bA @Wv.YC<| bA @Wv.ahZ<| bA @Wv.ah0<| bA @Wv.ah1<| bA @Wv.ah2<| bA @Wv.ah3<| bA @Wv.ah4<| bA @Wv.ah5<| bA @Wv.adR<| bA @Wv.ah6<| bA @Wv.adS<| bA @Wv.ah7<| bA @Wv.Df<| bA @Wv.ah8<| bA @Wv.adT<| bA @Wv.up<| bA @Wv.YD<| bA @Wv.YE<| bA @Wv.YF<| bA @Wv.YG<| bA @Wv.alG<| bA @Wv.alH<| bA @Wv.ah9<| bA @Wv.alI<| bA @Wv.alJ<| bA @Wv.alL<| bA @Wv.Un<| bA @Wv.alM<| @Wv.alN
def Bi:=bA @Wv.aia<| bA @Wv.aib<| bA @Wv.aic<| bA @Wv.Uo<| bA @Wv.adU<| @Wv.aie
def Bz:=bA (Wv.WF0 _ rfl)<| bA (Wv.WF1 _ rfl)<| bA (Wv.WF2 _ rfl)<| bA (Wv.WF3 _ rfl)<| bA (Wv.WF4 _ rfl)<| bA (Wv.WF5 _ rfl)<| bA (Wv.WF6 _ rfl)<| bA (Wv.WF7 _ rfl)<| bA (Wv.WF8 _ rfl)<| bA (Wv.WF9 _ rfl)<| bA (Wv.an2 _ rfl)<| bA (Wv.an3 _ rfl)<| Wv.an4 _ rfl
theorem Bv:(∀ k z,Value.cells (.int k z)= #[.int k z])∧(∀ b,Value.cells (.bool b)= #[.bool b])∧(∀ s,Value.cells (.string s)= #[.string s])∧(∀ a,Value.cells (.pointer a)= #[.pointer a])∧(∀ a n c,Value.cells (.slice a n c)= #[.slice a n c])∧(∀ r,Value.cells (.map r)= #[.map r])∧(∀ f a c,Value.cells (.func f a c)= #[.func f a c])∧(Value.cells .nilFunc= #[.nilFunc])∧(∀ T v,Value.cells (.iface T v)= #[.iface T v])∧(Value.cells .nilIface= #[.nilIface])∧(∀ l,Value.cells (.agg l)=l)∧(∀ z,fV z=z.cells.toList.map .v)∧(∀ o:Oper,aB o=(o.guard.isNone && match o.op with | .alloc _=>true | _=>false)):=
 ⟨fun _ _=>rfl,fun _=>rfl,fun _=>rfl,fun _=>rfl,fun _ _ _=>rfl,fun _=>rfl,fun _ _ _=>rfl,rfl,fun _ _=>rfl,rfl,fun _=>rfl,fun _=>rfl,fun _=>rfl⟩
theorem Bw:(∀ T s cells z,froze (some (.arr T s cells z))=some (.arr T s cells cells.length))∧(∀ c,froze (some (.blk c))=some (.blk c))∧(∀ c,froze (some (.map c))=some (.map c))∧(froze none=none):=
 ⟨fun _ _ _ _=>rfl,fun _=>rfl,fun _=>rfl,rfl⟩
def Bx0:=bA @Wv.qV<| bA @Wv.Xx<| bA @Wv.afJ<| bA @Wv.FV<| bA @Wv.FW<| bA @Wv.iJ<| bA @Wv.afK<| bA @Nat.mul_one<| bA @Nat.zero_add<| bA @List.size_toArray.{0}<| bA @decide_true<| bA @List.getElem?_cons_zero.{0}<| bA @List.getElem?_cons_succ.{0}<| bA @List.length_cons.{0}<| bA @List.length_nil.{0}<| bA @List.length_append.{0}<| bA @Option.isNone_none.{0}<| bA @Option.isNone_some.{0}<| bA @Bool.true_and<| bA @Bool.and_false<| @Bool.false_and
def Bx:=bA Bx0 Bv
def B:=bA Ba<| bA Bb<| bA Bc<| bA Bd<| bA Be<| bA Bf<| bA Bg<| bA Bh<| bA Bi<| bA Bz<| bA Bv<| bA Bw<| @Option.some.injEq.{0}
def BC:=bA @implies_true.{0}<| bA @implies_true.{1}<| bA @Wv.alP<| bA @Wv.YH<| bA @Wv.aif<| bA @Wv.alQ<| bA @Wv.alR<| bA @Wv.adV<| bA @Wv.aii<| bA @Wv.adW<| bA @Wv.adX<| bA @Wv.YI<| bA @Wv.adY<| bA @Wv.adZ<| bA @and_self<| bA @true_and<| @and_true
theorem BK0:(∀ ks,base ks=kOf ks 1000000)∧(∀ d,kOf [] d=0)∧(∀ i k r d,kOf ((i,k)::r) d=if i=d then k else kOf r d):=⟨fun _=>rfl,fun _=>rfl,fun _ _ _ _=>rfl⟩
def BK:=bA BK0<| bA BC<| bA @Wv.aij<| bA @Wv.aik<| bA @Wv.alS<| bA @Wv.alT<| bA @Wv.alV<| bA @Wv.ain<| bA @Wv.alW<| bA @Wv.aea<| bA @Wv.ad9<| bA @Wv.anZ<| bA @Wv.ad2<| bA @Wv.alU<| bA @Wv.an0<| bA @Wv.an1<| bA @Wv.ail<| bA @Wv.ad3<| bA @Wv.YK<| bA @Wv.ad4<| bA @Wv.YL<| bA @Wv.ad5<| bA @Wv.ad6<| bA @Wv.YM<| bA @Wv.ad7<| @Wv.ad8
def BL:=bA @BK<| bA @List.take_zero.{0}<| bA @List.take_succ_cons.{0}<| bA @List.take_nil.{0}<| bA @Nat.zero_lt_succ<| bA @Nat.lt_add_one<| bA @Nat.lt_one_iff<| @Nat.one_lt_two
theorem D (h:p:=by first | omega | assumption | (simp only [Wv.Bx,simprocAttr]<;>omega) | fail):p:=h
theorem V (h:p:=by simp (maxSteps:=2000000) (disch:=first|exact Wv.D|fail) only [Wv.B,simprocAttr]):p:=h
theorem V2 (h:p:=by simp (maxSteps:=2000000) (disch:=first|exact Wv.D|fail) only [Wv.B,simprocAttr,Int.natCast_add,Int.natCast_one]):p:=h
variable {P Q:Prop}
theorem W (h:Q) (e:P=Q:=by simp (maxSteps:=2000000) (disch:=first|exact Wv.D|fail) only [Wv.B,simprocAttr]<;>rfl):P:=e▸h
variable {F:Prop}
theorem W1 (f:F) (h:Q) (e:F→P=Q:=by intro f;simp (maxSteps:=2000000) (disch:=first|exact Wv.D|fail) only [Wv.B,simprocAttr,f]<;>rfl):P:=e f▸h
theorem V1 (f:F) (e:F→P:=by intro f;simp (maxSteps:=2000000) (disch:=first|exact Wv.D|fail) only [Wv.B,simprocAttr,f]):P:=e f
variable {G:Prop}
theorem W2 (f:F) (g:G) (h:Q) (e:F→G→P=Q:=by intro f g;simp (maxSteps:=2000000) (disch:=first|exact Wv.D|fail) only [Wv.B,simprocAttr,f,g]<;>rfl):P:=e f g▸h
theorem V2f (f:F) (g:G) (e:F→G→P:=by intro f g;simp (maxSteps:=2000000) (disch:=first|exact Wv.D|fail) only [Wv.B,simprocAttr,f,g]):P:=e f g
theorem W3 {K:Prop} (f:F) (g:G) (k:K) (h:Q) (e:F→G→K→P=Q:=by intro f g k;simp (maxSteps:=2000000) (disch:=first|exact Wv.D|fail) only [Wv.B,simprocAttr,f,g,k]<;>rfl):P:=e f g k▸h
theorem V3 {K:Prop} (f:F) (g:G) (k:K) (e:F→G→K→P:=by intro f g k;simp (maxSteps:=2000000) (disch:=first|exact Wv.D|fail) only [Wv.B,simprocAttr,f,g,k]):P:=e f g k
theorem c (h:p:=by simp only [Wv.BC]):p:=h
end
end Go.Proofs.YtljfgdlgmdcmfaaGreat.Wv
namespace Go.Proofs.YtljfgdlgmdcmfaaGreat
section
open Go.RowKit Wv
def yu (c:Int):Bool:=(decide (97≤c) && decide (c≤122)) || (decide (65≤c) && decide (c≤90))
def Om (c:Int):Bool:=decide (48≤c) && decide (c≤57)
def orP (c:Int):Int:=IntKind.u8.wrap (BitVec.ofInt IntKind.u8.bits c ||| BitVec.ofInt IntKind.u8.bits 32).toNat
theorem aeg: ∀ n:Fin 256,(decide (97≤orP n.val) && decide (orP n.val≤122))=yu n.val:=by decide+kernel
theorem an5 (c:Int) (h0:0≤c) (h1:c<256):(decide (97≤orP c) && decide (orP c≤122))=yu c:=by
 have:=aeg ⟨c.toNat,by omega⟩;simp only [Int.toNat_of_nonneg h0] at this;exact this
theorem Dk (c:Int) (h0:0≤c) (h1:c<256):TC Tryz.prog 152 [.v (.int .u8 c)] (.v (.bool (yu c))):=by
 have hl:=an5 c h0 h1;unfold orP at hl;refine Wv.TC.by 11 [0,2] [] [.tmp 2] Tryz.func152 rfl rfl rfl ?clo ?_
 case clo=>simp only [Wv.BC]
 by_cases hq:(97:Int)≤IntKind.u8.wrap (BitVec.ofInt IntKind.u8.bits c ||| BitVec.ofInt IntKind.u8.bits 32).toNat
 ·rw [ah hq,Bool.true_and] at hl;exact Wv.V1 hl
 ·rw [aj hq,Bool.false_and] at hl;simp (disch:=first|exact Wv.D|fail) only [Wv.B,simprocAttr, ←hl]
theorem Uu (c:Int):TC Tryz.prog 154 [.v (.int .u8 c)] (.v (.bool (Om c))):=by
 refine Wv.TC.by 9 [0,2] [] [.tmp 2] Tryz.func154 rfl rfl rfl ?clo ?_
 case clo=>simp only [Wv.BC]
 unfold Om;by_cases hq:48≤c
 ·exact Wv.V1 (ah hq)
 ·exact Wv.V1 (aj hq)
theorem Dl (c:Int):TC Tryz.prog 173 [.v (.int .u8 c)] (.v (.bool (yu c))):=by
 refine Wv.TC.by 17 [0,2] [] [.tmp 2] Tryz.func173 rfl rfl rfl ?clo ?_
 case clo=>simp only [Wv.BC]
 unfold yu;cases h1:decide (97≤c)<;>cases h2:decide (c≤122)<;>cases h3:decide (65≤c)<;>cases h4:decide (c≤90)<;>simp (disch:=first|exact Wv.D|fail) only [Wv.B,simprocAttr,h1,h2,h3,h4,Bool.true_or,Bool.false_or,Bool.or_false,Bool.or_true,Bool.and_false]
theorem Uw (c:Int):TC Tryz.prog 176 [.v (.int .u8 c)] (.v (.bool (Om c))):=by
 refine Wv.TC.by 9 [0,2] [] [.tmp 2] Tryz.func176 rfl rfl rfl ?clo ?_
 case clo=>simp only [Wv.BC]
 unfold Om;by_cases hq:48≤c
 ·exact Wv.V1 (ah hq)
 ·exact Wv.V1 (aj hq)
end
section
open Go.RowKit Wv
def bT (n:Nat) (f:Nat→ByteArray):AV:= .t n 1 (tab n fun i=> .v (.string (f i)))
theorem mP (n:Nat) (f:Nat→ByteArray):Clo (bT n f):=by unfold bT;simp only [Wv.BC]
theorem Ux (n:Nat) (f:Nat→ByteArray) (s:ByteArray) (hn:n≤140737488351232):TC Tryz.prog 209 [bT n f, .v (.string s)] (.v (.int .i64 (qW (findF (fun i=>decide (s=f i)) n)))):=by
 unfold bT;refine Wv.TC.by 19 [0,8,7,9,1,5,16,4] [] [.tmp 4] Tryz.func209 rfl rfl rfl ?clo ?_
 case clo=>simp only [Wv.BC]
 refine Wv.W ?_;refine aT (σ:=Nat) (fun i=>[(0,bT n f),(1, .v (.string s)),(7, .v (.int .i64 n)),(8, .v (.int .i64 i))]) (fun i=>[])
  (fun i=>i≤n∧ ∀ j,j<i→decide (s=f j)=false) (fun i=>n - i) 0 ⟨Nat.zero_le _,fun j hj=>by omega⟩ Wv.V (by simp (disch:=first|exact Wv.D|fail) only [Wv.B,simprocAttr,bT]) ?_
 rintro i ⟨hi,hb⟩;unfold bT;by_cases hlt:i<n
 ·have e1:(i:Int)<n:=by omega
  cases hq:decide (s=f i) with
  | true=>
   have hf:=iy (p:=fun i=>decide (s=f i)) hlt hq hb;simp (disch:=first|exact Wv.D|fail) only [Wv.B,simprocAttr,hq,hf,qW]
  | false=>
   refine Wv.W1 hq ?_;refine ay (i+1) ⟨by omega,fun j hj=>?_⟩ (by omega) Wv.V Wv.V2;by_cases e:j=i
   ·subst e;exact hq
   ·exact hb j (by omega)
 ·have hin:i=n:=by omega
  subst hin;have hf:=fZ (p:=fun i=>decide (s=f i)) hb;simp (disch:=first|exact Wv.D|fail) only [Wv.B,simprocAttr,hf,qW]
theorem wO (n:Nat) (f:Nat→ByteArray) (s:ByteArray) (hn:n≤140737488351232):TC Tryz.prog 153 [bT n f, .v (.string s)] (.v (.bool (aG n fun i=>decide (s=f i)))):=by
 refine Wv.TC.by 9 [0,1,4] [] [.tmp 4] Tryz.func153 rfl rfl rfl ?clo ?_
 case clo=>simp only [Wv.BC]
 refine Wv.W ?_;refine ak (Ux n f s hn) rfl (by simp only [Wv.BC,mP]) Wv.c ?_;exact Wv.V1 @qX
theorem Oo {h:Hp} (n:Nat) (f:Nat→ByteArray) (p:Nat→Bool) (fid:FuncId) (fst cap:List AV) (hn:n≤140737488351232) (hp: ∀ i,i<n→HT Tryz.prog fid (fst++[.v (.string (f i))]++cap) h (fun r h'=>r= .v (.bool (p i))∧h'=h)):
  HT Tryz.prog 155 [bT n f, .fn (.func fid) fst cap] h (fun r h'=>r= .v (.int .i64 (qW (findF p n)))∧h'=h):=by
 unfold bT;refine Wv.HT.by 19 [0,8,7,9,1,5,16,4] [(1000000,h.length)] [.tmp 4] Tryz.func155 rfl rfl rfl ?base ?_
 case base=>rfl
 refine Wv.W ?_;refine aT (σ:=Nat) (fun i=>[(0,bT n f),(1, .fn (.func fid) fst cap),(7, .v (.int .i64 n)),(8, .v (.int .i64 i))]) (fun i=>h)
  (fun i=>i≤n∧ ∀ j,j<i→p j=false) (fun i=>n - i) 0 ⟨Nat.zero_le _,fun j hj=>by omega⟩ rfl (by simp (disch:=first|exact Wv.D|fail) only [Wv.B,simprocAttr,bT]) ?_
 rintro i ⟨hi,hb⟩;unfold bT;by_cases hlt:i<n
 ·have e1:(i:Int)<n:=by omega
  refine Wv.W ?_;refine aC (hp i hlt) ?_;rintro av h' ⟨rfl,rfl⟩;cases hq:p i with
  | true=>
   have hf:=iy hlt hq hb;simp (disch:=first|exact Wv.D|fail) only [Wv.B,simprocAttr,hq,hf,qW]
  | false=>
   refine Wv.W1 hq ?_;refine ay (i+1) ⟨by omega,fun j hj=>?_⟩ (by omega) rfl Wv.V2;by_cases e:j=i
   ·subst e;exact hq
   ·exact hb j (by omega)
 ·have hin:i=n:=by omega
  subst hin;have hf:=fZ hb;simp (disch:=first|exact Wv.D|fail) only [Wv.B,simprocAttr,hf,qW]
end
end Go.Proofs.YtljfgdlgmdcmfaaGreat
