/- Parts of a proof. -/
import Derived.Orders
import Derived.Maps.AppendAt
import Derived.Laws.MakeOwn
import Derived.Deep.LoopGhost
import Derived.WalkKit
import Derived.Deep.AppendSrc
import Derived.Deep.MidRow
set_option linter.unusedVariables false
namespace Go.Proofs.YtljfgdlgmdcmfaaGreat
theorem ah {p:Prop} [Decidable p] (h:p):decide p=true:=decide_eq_true h
theorem aj {p:Prop} [Decidable p] (h: ¬p):decide p=false:=decide_eq_false h
end Go.Proofs.YtljfgdlgmdcmfaaGreat
namespace Go.Proofs.YtljfgdlgmdcmfaaGreat.Wv
section
open Go.RowKit
inductive AV where
 | v (x:Value)
 | t (n size:Nat) (cells:List AV)
 | g (cells:List AV)
 | tup (l:List AV)
 | own (id n:Nat)
 | ptr (id off:Nat)
 | ap (id n off:Nat)
 | mp (id:Nat)
 | tp (cells:List AV)
 | tm (es:List (Value × AV))
 | fn (f:Fn) (first captured:List AV)
 | ifc (T:TypeId) (x:AV)
 | e0
 | none
inductive Ob where
 | blk (cells:List AV)
 | arr (T:TypeId) (size:Nat) (cells:List AV) (fz:Nat)
 | map (es:List (Value × AV))
structure Cx where
 w:World
 m:Nat→Option Nat × Nat
 h:List (Option Ob)
 bad:Nat→Nat→Prop
 ds:List Deferred
abbrev Hp:=List (Option Ob)
abbrev Ev:=List (Nat × AV)
def cellAt (w:World) (b o:Nat):Option Value:=w.cell? ⟨b,o,none⟩
def aY (l:Option Nat × Nat) (n:Nat):Value:= .slice (l.1.map fun b=>⟨b,0,none⟩) n l.2
def Cx.live (X:Cx) (i:Nat):Prop:= ∃ o,X.h[i]? =some (some o)
def Cx.mine (X:Cx) (b:Nat):Prop:= ∃ i,X.live i∧(X.m i).1=some b
inductive Rep (X : Cx) : AV → Value → Prop
  | v (x : Value) : Rep X (.v x) x
  | none (x : Value) : Rep X .none x
  | t {n size : Nat} {cells : List AV} {p : Option Addr} {cap : Nat} {cvs : List Value} (hl : cells.length = n * size) (hc : cvs.length = cells.length) (hn : n ≤ cap) (hcap : cap ≤ maxLen)
      (hp : 0 < n → ∃ b off, p = some ⟨b, off, Option.none⟩ ∧ ∀ (i : Nat) (x : Value), cvs[i]? = some x → cellAt X.w b (off + i) = some x ∧ ¬ X.bad b (off + i))
      (hr : ∀ (i : Nat) (a : AV) (x : Value), cells[i]? = some a → cvs[i]? = some x → Rep X a x) : Rep X (.t n size cells) (.slice p n cap)
  | g {cells : List AV} {cvs : List Value} (hc : cvs.length = cells.length) (hr : ∀ (i : Nat) (a : AV) (x : Value), cells[i]? = some a → cvs[i]? = some x → Rep X a x) : Rep X (.g cells) (.agg cvs.toArray)
  | tup {cells : List AV} {cvs : List Value} (hc : cvs.length = cells.length) (hr : ∀ (i : Nat) (a : AV) (x : Value), cells[i]? = some a → cvs[i]? = some x → Rep X a x) : Rep X (.tup cells) (.tuple cvs.toArray)
  | tp {cells : List AV} {b off : Nat} {cvs : List Value} (hc : cvs.length = cells.length) (hp : ∀ (i : Nat) (x : Value), cvs[i]? = some x → cellAt X.w b (off + i) = some x ∧ ¬ X.bad b (off + i))
      (hr : ∀ (i : Nat) (a : AV) (x : Value), cells[i]? = some a → cvs[i]? = some x → Rep X a x) : Rep X (.tp cells) (.pointer (some ⟨b, off, Option.none⟩))
  | fn {f : Fn} {a1 a2 : List AV} {v1 v2 : List Value} (h1 : v1.length = a1.length) (h2 : v2.length = a2.length) (r1 : ∀ (i : Nat) (a : AV) (x : Value), a1[i]? = some a → v1[i]? = some x → Rep X a x)
      (r2 : ∀ (i : Nat) (a : AV) (x : Value), a2[i]? = some a → v2[i]? = some x → Rep X a x) : Rep X (.fn f a1 a2) (.func f v1.toArray v2.toArray)
  | ifc {T : TypeId} {a : AV} {x : Value} (h : Rep X a x) : Rep X (.ifc T a) (.iface T x)
  | e0 (b : Option Nat) : Rep X .e0 (aY       (b, 0) 0)
  | own {id n : Nat} {x : Value} (hid : id < X.h.length) (h : ∀ T size cells fz, X.h[id]? = some (some (.arr T size cells fz)) → n * size ≤ cells.length ∧ (cells.length = n * size → x = aY       (X.m id) n)) : Rep X (.own id n) x
  | ptr {id off : Nat} {x : Value} (hid : id < X.h.length) (h : ∀ cells, X.h[id]? = some (some (.blk cells)) → ∃ b, (X.m id).1 = some b ∧ x = .pointer (some ⟨b, off, Option.none⟩)) : Rep X (.ptr id off) x
  | ap {id n off : Nat} {x : Value} (hid : id < X.h.length) (h : ∀ T size cells fz, X.h[id]? = some (some (.arr T size cells fz)) → n * size ≤ cells.length ∧ (cells.length = n * size → ∃ b, (X.m id).1 = some b ∧ x = .pointer (some ⟨b, off, Option.none⟩))) : Rep X (.ap id n off) x
  | tm {es : List (Value × AV)} {b clock : Nat} {ents : Array MapEntry} (hb : X.w.heap[b]? = some (.map ents clock)) (hm : ¬ X.mine b) (hl : ents.size = es.length) (hk : ∀ (i : Nat) (p : Value × AV) (e : MapEntry), es[i]? = some p → ents[i]? = some e → e.key = p.1)
      (hr : ∀ (i : Nat) (p : Value × AV) (e : MapEntry), es[i]? = some p → ents[i]? = some e → Rep X p.2 e.val) : Rep X (.tm es) (.map (some b))
  | mp {id : Nat} {x : Value} (hid : id < X.h.length) (h : ∀ es, X.h[id]? = some (some (.map es)) → ∃ b, (X.m id).1 = some b ∧ x = .map (some b)) : Rep X (.mp id) x
def fJ (X:Cx) (as:List AV) (xs:List Value):Prop:=xs.length=as.length∧ ∀ (i:Nat) (a:AV) (x:Value),as[i]? =some a→xs[i]? =some x→Rep X a x
structure afg (X:Cx) (id:Nat) (T:TypeId) (size:Nat) (cells:List AV) (fz n:Nat) (b:Nat) (cvs:Array Value):Prop where
 at_:(X.m id).1=some b
 blk:X.w.heap[b]? =some (.cells cvs T (0,0))
 cap:n≤(X.m id).2
 iQ:(X.m id).2≤maxLen
 sz:cvs.size=(X.m id).2*size
 bad: ∀ o,fz≤o→X.bad b o
 rep: ∀ (i:Nat) (a:AV) (x:Value),cells[i]? =some a→cvs[i]? =some x→Rep X a x
 good: ∀ o,o<fz→ ¬ X.bad b o
def oO (X:Cx) (es:List (Value × AV)) (ents:Array MapEntry):Prop:=ents.size=es.length∧ ∀ (i:Nat) (p:Value × AV) (e:MapEntry),es[i]? =some p→ents[i]? =some e→e.key=p.1∧Rep X p.2 e.val
structure Ok (X:Cx):Prop where
 blk: ∀ id cells,X.h[id]? =some (some (.blk cells))→ ∃ b cvs T,(X.m id).1=some b∧X.w.heap[b]? =some (.cells cvs T (0,0))∧cvs.size=cells.length∧(∀ o,X.bad b o)∧
  ∀ (i:Nat) (a:AV) (x:Value),cells[i]? =some a→cvs[i]? =some x→Rep X a x
 arr: ∀ id T size cells fz,X.h[id]? =some (some (.arr T size cells fz))→fz≤cells.length∧0<size∧ ∃ n,cells.length=n*size∧
  ((X.m id=(none,0)∧cells=[])∨ ∃ b cvs,afg X id T size cells fz n b cvs)
 inj: ∀ i j b,X.live i→X.live j→(X.m i).1=some b→(X.m j).1=some b→i=j
 dX: ∀ b o,X.bad b o→b<X.w.heap.size
 map: ∀ id es,X.h[id]? =some (some (.map es))→ ∃ b ents clock,(X.m id).1=some b∧X.w.heap[b]? =some (.map ents clock)∧oO X es ents
structure Step (X Y:Cx):Prop where
 os:Y.w.os=X.w.os
 tape:Y.w.tape=X.w.tape
 output:Y.w.output=X.w.output
 size:X.w.heap.size≤Y.w.heap.size
 block: ∀ b,b<X.w.heap.size→ ¬ X.mine b→Y.w.heap[b]? =X.w.heap[b]?
 keep: ∀ b o x,cellAt X.w b o=some x→ ¬ X.bad b o→cellAt Y.w b o=some x∧ ¬ Y.bad b o
 len:X.h.length≤Y.h.length
 oh: ∀ i T size cells fz,i<X.h.length→Y.h[i]? =some (some (.arr T size cells fz))→ ∃ cells' fz',X.h[i]? =some (some (.arr T size cells' fz'))∧cells'.length≤cells.length∧(cells.length=cells'.length→Y.m i=X.m i)
 l7: ∀ i cells,i<X.h.length→Y.h[i]? =some (some (.blk cells))→ ∃ cells',X.h[i]? =some (some (.blk cells'))∧(Y.m i).1=(X.m i).1
 own: ∀ b,Y.mine b→X.w.heap.size≤b∨X.mine b
 nC: ∀ b o,X.bad b o→Y.bad b o∨X.mine b
 omap: ∀ i es,i<X.h.length→Y.h[i]? =some (some (.map es))→ ∃ es',X.h[i]? =some (some (.map es'))∧(Y.m i).1=(X.m i).1
 dse:Y.ds=X.ds
theorem Step.refl (X:Cx):Step X X:=
 ⟨rfl,rfl,rfl,Nat.le_refl _,fun _ _ _=>rfl,fun _ _ _ h k=>⟨h,k⟩,Nat.le_refl _,fun _ _ _ _ _ _ h=>⟨_,_,h,Nat.le_refl _,fun _=>rfl⟩,fun _ _ _ h=>⟨_,h,rfl⟩,fun _ h=> .inr h,fun _ _ h=> .inl h,fun _ _ _ h=>⟨_,h,rfl⟩,rfl⟩
variable {X Y:Cx}{x:Value}
theorem Rep.mono (S:Step X Y) {a:AV}  (h:Rep X a x):Rep Y a x:=by
 induction h with
 | v x=>exact .v x
 | none x=>exact .none x
 | t hl hc hn hcap hp hr ih=>
  refine .t hl hc hn hcap (fun h0=>?_) ih;obtain ⟨b,off,e,k⟩:=hp h0;exact ⟨b,off,e,fun i x hx=>S.keep _ _ _ (k i x hx).1 (k i x hx).2⟩
 | g hc hr ih=>exact .g hc ih
 | tup hc hr ih=>exact .tup hc ih
 | tp hc hp hr ih=>exact .tp hc (fun i x hx=>S.keep _ _ _ (hp i x hx).1 (hp i x hx).2) ih
 | fn h1 h2 r1 r2 ih1 ih2=>exact .fn h1 h2 ih1 ih2
 | ifc h ih=>exact .ifc ih
 | e0 b=>exact .e0 b
 | own hid h=>
  refine .own (Nat.lt_of_lt_of_le hid S.len) fun T size cells fz hh=>?_
  obtain ⟨c',f',h1,h2,h3⟩:=S.oh _ _ _ _ _ hid hh;obtain ⟨h4,h5⟩:=h _ _ _ _ h1;exact ⟨Nat.le_trans h4 h2,fun hl=>by rw [h3 (by omega)];exact h5 (by omega)⟩
 | ptr hid h=>
  refine .ptr (Nat.lt_of_lt_of_le hid S.len) fun cells hh=>?_
  obtain ⟨c',h1,h2⟩:=S.l7 _ _ hid hh;rw [h2];exact h _ h1
 | ap hid h=>
  refine .ap (Nat.lt_of_lt_of_le hid S.len) fun T size cells fz hh=>?_
  obtain ⟨c',f',h1,h2,h3⟩:=S.oh _ _ _ _ _ hid hh;obtain ⟨h4,h5⟩:=h _ _ _ _ h1;exact ⟨Nat.le_trans h4 h2,fun hl=>by rw [h3 (by omega)];exact h5 (by omega)⟩
 | mp hid h=>
  refine .mp (Nat.lt_of_lt_of_le hid S.len) fun es hh=>?_
  obtain ⟨c',h1,h2⟩:=S.omap _ _ hid hh;rw [h2];exact h _ h1
 | tm hb hm hl hk hr ih=>
  have hlt:=(Array.getElem?_eq_some_iff.1 hb).1;refine .tm (by rw [S.block _ hlt hm];exact hb) (fun hy=>?_) hl hk ih;rcases S.own _ hy with h | h
  ·omega
  ·exact hm h
theorem Step.trans {Z:Cx} (hX:Ok X) (S:Step X Y) (T:Step Y Z):Step X Z:=by
 have hno: ∀ b,b<X.w.heap.size→ ¬ X.mine b→ ¬ Y.mine b:=fun b hb hm hy=>by
  rcases S.own b hy with h | h
  ·omega
  ·exact hm h
 refine ⟨T.os.trans S.os,T.tape.trans S.tape,T.output.trans S.output,Nat.le_trans S.size T.size,fun b hb hm=>?_,fun b o x hx hb=>?_,Nat.le_trans S.len T.len,fun i U s c f hi h=>?_,fun i c hi h=>?_,fun b hb=>?_,fun b o hb=>?_,fun i c hi h=>?_,T.dse.trans S.dse⟩
 ·rw [T.block b (Nat.lt_of_lt_of_le hb S.size) (hno b hb hm),S.block b hb hm]
 ·obtain ⟨h1,h2⟩:=S.keep b o x hx hb;exact T.keep b o x h1 h2
 ·obtain ⟨c1,f1,h1,l1,e1⟩:=T.oh i U s c f (Nat.lt_of_lt_of_le hi S.len) h;obtain ⟨c2,f2,h2,l2,e2⟩:=S.oh i U s c1 f1 hi h1;exact ⟨c2,f2,h2,Nat.le_trans l2 l1,fun e=>by rw [e1 (by omega),e2 (by omega)]⟩
 ·obtain ⟨c1,h1,e1⟩:=T.l7 i c (Nat.lt_of_lt_of_le hi S.len) h;obtain ⟨c2,h2,e2⟩:=S.l7 i c1 hi h1;exact ⟨c2,h2,e1.trans e2⟩
 ·rcases T.own b hb with h | h
  ·left;exact Nat.le_trans S.size h
  ·exact S.own b h
 ·rcases S.nC b o hb with h | h
  ·rcases T.nC b o h with h | h
   ·exact .inl h
   ·rcases S.own b h with h | h
    ·exact absurd (hX.dX b o hb) (by omega)
    ·exact .inr h
  ·exact .inr h
 ·obtain ⟨c1,h1,e1⟩:=T.omap i c (Nat.lt_of_lt_of_le hi S.len) h;obtain ⟨c2,h2,e2⟩:=S.omap i c1 hi h1;exact ⟨c2,h2,e1.trans e2⟩
theorem oO.mono (S:Step X Y) {es:List (Value × AV)} {ents:Array MapEntry} (h:oO X es ents):oO Y es ents:=⟨h.1,fun i p e h1 h2=>⟨(h.2 i p e h1 h2).1,(h.2 i p e h1 h2).2.mono S⟩⟩
theorem Step.below (S:Step X Y) (h: ∀ b, ¬ X.mine b):Below X.w.heap.size X.w Y.w:=⟨S.os,S.tape,S.output,S.size,fun b hb=>S.block b hb (h b)⟩
inductive Clo:AV→Prop
 | v (x:Value):Clo (.v x)
 | none:Clo .none
 | t {n size:Nat} {cells:List AV} (h: ∀ (a:AV),a∈cells→Clo a):Clo (.t n size cells)
 | g {cells:List AV} (h: ∀ (a:AV),a∈cells→Clo a):Clo (.g cells)
 | tup {cells:List AV} (h: ∀ (a:AV),a∈cells→Clo a):Clo (.tup cells)
 | tp {cells:List AV} (h: ∀ (a:AV),a∈cells→Clo a):Clo (.tp cells)
 | fn {f:Fn} {a1 a2:List AV} (h1: ∀ (a:AV),a∈a1→Clo a) (h2: ∀ (a:AV),a∈a2→Clo a):Clo (.fn f a1 a2)
 | ifc {T:TypeId} {a:AV} (h:Clo a):Clo (.ifc T a)
 | e0:Clo .e0
theorem Rep.clo {a:AV}  (h:Rep X a x) (hc:Clo a) (K: ∀ b o u,cellAt X.w b o=some u→ ¬ X.bad b o→cellAt Y.w b o=some u∧ ¬ Y.bad b o):Rep Y a x:=by
 induction h with
 | v x=>exact .v x
 | none x=>exact .none x
 | t hl hc' hn hcap hp hr ih=>
  cases hc with
  | t h=>
  refine .t hl hc' hn hcap (fun h0=>?_) (fun i a x h1 h2=>ih i a x h1 h2 (h a (List.mem_of_getElem? h1)));obtain ⟨b,off,e,k⟩:=hp h0;exact ⟨b,off,e,fun i x hx=>K _ _ _ (k i x hx).1 (k i x hx).2⟩
 | g hc' hr ih=>cases hc with | g h=>exact .g hc' (fun i a x h1 h2=>ih i a x h1 h2 (h a (List.mem_of_getElem? h1)))
 | tup hc' hr ih=>cases hc with | tup h=>exact .tup hc' (fun i a x h1 h2=>ih i a x h1 h2 (h a (List.mem_of_getElem? h1)))
 | tp hc' hp hr ih=>cases hc with | tp h=>exact .tp hc' (fun i x hx=>K _ _ _ (hp i x hx).1 (hp i x hx).2) (fun i a x h1 h2=>ih i a x h1 h2 (h a (List.mem_of_getElem? h1)))
 | fn h1 h2 r1 r2 ih1 ih2=>cases hc with | fn k1 k2=>exact .fn h1 h2 (fun i a x h1 h2=>ih1 i a x h1 h2 (k1 a (List.mem_of_getElem? h1))) (fun i a x h1 h2=>ih2 i a x h1 h2 (k2 a (List.mem_of_getElem? h1)))
 | ifc h ih=>cases hc with | ifc k=>exact .ifc (ih k)
 | e0 b=>exact .e0 b
 | own hid h=>cases hc
 | ptr hid h=>cases hc
 | ap hid h=>cases hc
 | mp hid h=>cases hc
 | tm hb hm hl hk hr ih=>cases hc
theorem Ok.lt (h:Ok X) {b:Nat} (hm:X.mine b):b<X.w.heap.size:=by
 obtain ⟨i,⟨o,ho⟩,hb⟩:=hm;cases o with
 | blk cells=>
  obtain ⟨b',cvs,T,h1,h2,_⟩:=h.blk i cells ho;rw [h1] at hb;injection hb with hb;subst hb;exact (Array.getElem?_eq_some_iff.1 h2).1
 | arr T size cells fz=>
  obtain ⟨_,_,n,_,h1 | ⟨b',cvs,h1⟩⟩:=h.arr i T size cells fz ho
  ·rw [h1.1] at hb;cases hb
  ·have h2:=h1.at_;rw [h2] at hb;injection hb with hb;subst hb;exact (Array.getElem?_eq_some_iff.1 h1.blk).1
 | map es=>
  obtain ⟨b',ents,clock,h1,h2,_⟩:=h.map i es ho;rw [h1] at hb;injection hb with hb;subst hb;exact (Array.getElem?_eq_some_iff.1 h2).1
theorem eH {w:World} {b o:Nat}  (h:cellAt w b o=some x):b<w.heap.size:=World.block_lt_of_cell? w ⟨b,o,none⟩ h
def Cx.push (X:Cx) (o:Obj) (cap:Nat) (ob:Ob):Cx where
 w:=X.w.alloc o
 m:=fun i=>if i=X.h.length then (some X.w.heap.size,cap) else X.m i
 h:=X.h++[some ob]
 bad:=fun b o=>X.bad b o∨b=X.w.heap.size
 ds:=X.ds
theorem jr (X:Cx) (o:Obj) (cap:Nat) (ob:Ob):(X.push o cap ob).m X.h.length=(some X.w.heap.size,cap):=by simp [Cx.push]
variable {i:Nat}
theorem oq (X:Cx) (o:Obj) (cap:Nat) (ob:Ob)  (h:i<X.h.length):(X.push o cap ob).m i=X.m i:=by
 simp only [Cx.push];rw [if_neg (by omega)]
theorem uJ (X:Cx) (o:Obj) (cap:Nat) (ob:Ob)  (h:i<X.h.length):(X.push o cap ob).h[i]? =X.h[i]? :=by
 simp only [Cx.push];rw [List.getElem?_append_left h]
theorem vN (X:Cx) (o:Obj) (cap:Nat) (ob:Ob):(X.push o cap ob).h[X.h.length]? =some (some ob):=by
 simp [Cx.push]
theorem vP (h:X.live i):i<X.h.length:=by
 obtain ⟨o,ho⟩:=h;exact (List.getElem?_eq_some_iff.1 ho).1
variable {cap:Nat}{ob:Ob}
theorem rW {o:Obj}    (h:(X.push o cap ob).live i):i=X.h.length∨X.live i:=by
 have hl:=vP h;simp only [Cx.push,List.length_append,List.length_singleton] at hl;by_cases e:i=X.h.length
 ·exact .inl e
 ·right;obtain ⟨o',ho⟩:=h;rw [uJ X _ _ _ (by omega)] at ho;exact ⟨o',ho⟩
theorem Step.push (hX:Ok X) (o:Obj) (cap:Nat) (ob:Ob):Step X (X.push o cap ob):=by
 refine ⟨rfl,rfl,rfl,by simp [Cx.push],fun b hb _=>Below.heap_alloc _ _ _ hb,fun b o' x hx hb=>⟨?_,?_⟩,by simp [Cx.push],fun i T s c f hi h=>?_,fun i c hi h=>?_,fun b hb=>?_,fun b o' h=> .inl (.inl h),fun i c hi h=>?_,rfl⟩
 ·have:=eH hx;unfold cellAt at hx ⊢;rw [show (X.push o cap ob).w=X.w.alloc o from rfl,World.cell?_alloc_lt (h:=this)];exact hx
 ·rintro (h | h)
  ·exact hb h
  ·exact absurd (eH hx) (by omega)
 ·rw [uJ X _ _ _ hi] at h;exact ⟨c,f,h,Nat.le_refl _,fun _=>oq X _ _ _ hi⟩
 ·rw [uJ X _ _ _ hi] at h;exact ⟨c,h,by rw [oq X _ _ _ hi]⟩
 ·obtain ⟨i,hi,he⟩:=hb;rcases rW hi with rfl | hi
  ·rw [jr] at he;injection he with he;left;omega
  ·rw [oq X _ _ _ (vP hi)] at he;exact .inr ⟨i,hi,he⟩
 ·rw [uJ X _ _ _ hi] at h;exact ⟨c,h,by rw [oq X _ _ _ hi]⟩
theorem Ok.VL (hX:Ok X) {o:Obj}  
  (hb: ∀ cells,ob= .blk cells→ ∃ cvs T,o= .cells cvs T (0,0)∧cvs.size=cells.length∧ ∀ (i:Nat) (a:AV) (x:Value),cells[i]? =some a→cvs[i]? =some x→Rep X a x)
  (ha: ∀ T size cells fz,ob= .arr T size cells fz→fz=0∧ ∃ cvs n,o= .cells cvs T (0,0)∧0<size∧cells.length=n*size∧n≤cap∧cap≤maxLen∧cvs.size=cap*size∧ ∀ (i:Nat) (a:AV) (x:Value),cells[i]? =some a→cvs[i]? =some x→Rep X a x)
  (hm: ∀ es,ob= .map es→ ∃ ents clock,o= .map ents clock∧oO X es ents):
  Ok (X.push o cap ob):=by
 have S:=Step.push hX o cap ob;have hnew:(X.push o cap ob).w.heap[X.w.heap.size]? =some o:=heap_alloc_new _ _;have hold: ∀ id, ¬ id=X.h.length→ ∀ q,(X.push o cap ob).h[id]? =some q→id<X.h.length:=by
  intro id e q hh;have:=(List.getElem?_eq_some_iff.1 hh).1;simp only [Cx.push,List.length_append,List.length_singleton] at this;omega
 have hheap: ∀ b,X.mine b→(X.push o cap ob).w.heap[b]? =X.w.heap[b]? :=fun b h=>by
  rw [show (X.push o cap ob).w=X.w.alloc o from rfl,Below.heap_alloc _ _ _ (hX.lt h)]
 refine ⟨fun id cells hh=>?_,fun id U size cells fz hh=>?_,fun i j b hi hj ei ej=>?_,fun b o hb=>?_,fun id es hh=>?_⟩
 ·by_cases e:id=X.h.length
  ·subst e;rw [vN] at hh;injection hh with hh;injection hh with hh;obtain ⟨cvs,T,rfl,h1,h2⟩:=hb _ hh;exact ⟨X.w.heap.size,cvs,T,by rw [jr],hnew,h1,fun o=> .inr rfl,fun i a x h3 h4=>(h2 i a x h3 h4).mono S⟩
  ·have hl:=hold id e _ hh;rw [uJ X _ _ _ hl] at hh;obtain ⟨b,c2,T2,h1,h2,h3,h4,h5⟩:=hX.blk id cells hh;exact ⟨b,c2,T2,by rw [oq X _ _ _ hl];exact h1,by rw [hheap b ⟨id,⟨_,hh⟩,h1⟩];exact h2,h3,fun o=> .inl (h4 o),fun i a x h6 h7=>(h5 i a x h6 h7).mono S⟩
 ·by_cases e:id=X.h.length
  ·subst e;rw [vN] at hh;injection hh with hh;injection hh with hh;obtain ⟨rfl,cvs,n,rfl,h0,h1,h2,h3,h4,h5⟩:=ha _ _ _ _ hh;refine ⟨Nat.zero_le _,h0,n,h1, .inr ⟨X.w.heap.size,cvs,?_⟩⟩;exact ⟨by rw [jr],hnew,by rw [jr];exact h2,by rw [jr];exact h3,by rw [jr];exact h4,fun o _=> .inr rfl,fun i a x h6 h7=>(h5 i a x h6 h7).mono S,fun o ho=>absurd ho (Nat.not_lt_zero o)⟩
  ·have hl:=hold id e _ hh;have hm:=oq X o cap ob hl;rw [uJ X _ _ _ hl] at hh;obtain ⟨h1,h2,n,h3,h4⟩:=hX.arr id U size cells fz hh;refine ⟨h1,h2,n,h3,?_⟩;rcases h4 with ⟨h4,h5⟩ | ⟨b,c2,h4⟩
   ·exact .inl ⟨by rw [hm];exact h4,h5⟩
   ·exact .inr ⟨b,c2,⟨by rw [hm];exact h4.at_,by rw [hheap b ⟨id,⟨_,hh⟩,h4.at_⟩];exact h4.blk,by rw [hm];exact h4.cap,by rw [hm];exact h4.iQ,by rw [hm];exact h4.sz,fun o ho=> .inl (h4.bad o ho),fun i a x h6 h7=>(h4.rep i a x h6 h7).mono S,fun o ho hk=>hk.elim (h4.good o ho) (fun e=>absurd (hX.lt ⟨id,⟨_,hh⟩,h4.at_⟩) (by omega))⟩⟩
 ·rcases rW hi with rfl | hi
  ·rw [jr] at ei;injection ei with ei;rcases rW hj with rfl | hj
   ·rfl
   ·rw [oq X _ _ _ (vP hj)] at ej;exact absurd (hX.lt ⟨j,hj,ej⟩) (by omega)
  ·rw [oq X _ _ _ (vP hi)] at ei;rcases rW hj with rfl | hj
   ·rw [jr] at ej;injection ej with ej;exact absurd (hX.lt ⟨i,hi,ei⟩) (by omega)
   ·rw [oq X _ _ _ (vP hj)] at ej;exact hX.inj i j b hi hj ei ej
 ·rcases hb with hb | hb
  ·exact Nat.lt_of_lt_of_le (hX.dX b o hb) S.size
  ·subst hb;simp [Cx.push]
 ·by_cases e:id=X.h.length
  ·subst e;rw [vN] at hh;injection hh with hh;injection hh with hh;obtain ⟨ents,clock,rfl,h2⟩:=hm _ hh;exact ⟨X.w.heap.size,ents,clock,by rw [jr],hnew,h2.mono S⟩
  ·have hl:=hold id e _ hh;rw [uJ X _ _ _ hl] at hh;obtain ⟨b,ents,clock,h1,h2,h3⟩:=hX.map id es hh;exact ⟨b,ents,clock,by rw [oq X _ _ _ hl];exact h1,by rw [hheap b ⟨id,⟨_,hh⟩,h1⟩];exact h2,h3.mono S⟩
theorem Ok.push (hX:Ok X) {cvs:Array Value} {T:TypeId}  
  (h:(∃ cells,ob= .blk cells∧cvs.size=cells.length∧ ∀ (i:Nat) (a:AV) (x:Value),cells[i]? =some a→cvs[i]? =some x→Rep X a x)∨
   (∃ size cells n,ob= .arr T size cells 0∧0<size∧cells.length=n*size∧n≤cap∧cap≤maxLen∧cvs.size=cap*size∧ ∀ (i:Nat) (a:AV) (x:Value),cells[i]? =some a→cvs[i]? =some x→Rep X a x)):
  Ok (X.push (.cells cvs T) cap ob):=by
 rcases h with ⟨c,rfl,h1,h2⟩ | ⟨s,c,n,rfl,h0,h1,h2,h3,h4,h5⟩
 ·exact Ok.VL hX (fun cells e=>by injection e with e;subst e;exact ⟨cvs,T,rfl,h1,h2⟩) (fun _ _ _ _ e=>by cases e) (fun _ e=>by cases e)
 ·exact Ok.VL hX (fun cells e=>by cases e) (fun T' s' c' fz e=>by injection e with e1 e2 e3 e4;subst e1 e2 e3 e4;exact ⟨rfl,cvs,n,rfl,h0,h1,h2,h3,h4,h5⟩) (fun _ e=>by cases e)
end
section
open Go.RowKit
variable {T:TypeId}{b off:Nat}
theorem ou {w:World}  {c:Array Value}  {fr:Nat × Nat} (h:w.heap[b]? =some (.cells c T fr)) (x:Value):
  (w.setCell ⟨b,off,none⟩ x).heap[b]? =some (.cells (c.setIfInBounds off x) T fr):=by
 simp [World.setCell,Array.getElem?_modify,h]
theorem aZ {w:World}  {c:Array Value}  {fr:Nat × Nat} (h:w.heap[b]? =some (.cells c T fr)):cellAt w b off=c[off]? :=by
 simp [cellAt,World.cell?,h]
def Ob.set (o:Ob) (off:Nat) (a:AV):Ob:=match o with
 | .blk cells=> .blk (cells.set off a)
 | .arr T s cells fz=> .arr T s (cells.set off a) fz
 | .map es=> .map es
def Ob.wr (o:Ob) (off:Nat):Prop:=match o with
 | .blk _=>True
 | .arr _ _ _ fz=>fz≤off
 | .map _=>False
def Ob.cells (o:Ob):List AV:=match o with
 | .blk cells=>cells
 | .arr _ _ cells _=>cells
 | .map _=>[]
def Cx.put (X:Cx) (id b off:Nat) (x:Value) (o:Ob) (a:AV):Cx:={X with w:=X.w.setCell ⟨b,off,none⟩ x,h:=X.h.set id (some (o.set off a))}
variable {X:Cx}{id:Nat}{o:Ob}
theorem Ok.obj (hX:Ok X)   (h:X.h[id]? =some (some o))  (hoff:off<o.cells.length):
  ∃ b cvs T,(X.m id).1=some b∧X.w.heap[b]? =some (.cells cvs T (0,0))∧o.cells.length≤cvs.size∧(∀ off,o.wr off→X.bad b off)∧
   ∀ (i:Nat) (a:AV) (x:Value),o.cells[i]? =some a→cvs[i]? =some x→Rep X a x:=by
 cases o with
 | blk cells=>
  obtain ⟨b,cvs,T,h1,h2,h3,h4,h5⟩:=hX.blk id cells h;exact ⟨b,cvs,T,h1,h2,by rw [h3];exact Nat.le_refl _,fun off _=>h4 off,h5⟩
 | arr T s cells fz=>
  obtain ⟨_,hs,n,hn,h1 | ⟨b,cvs,h1⟩⟩:=hX.arr id T s cells fz h
  ·rw [h1.2] at hoff;simp [Ob.cells] at hoff
  ·exact ⟨b,cvs,T,h1.at_,h1.blk,by rw [h1.sz];simp only [Ob.cells];rw [hn];exact Nat.mul_le_mul_right _ h1.cap,fun off ho=>h1.bad off ho,h1.rep⟩
 | map es=>simp [Ob.cells] at hoff
variable {i:Nat}
theorem cu {o:Option Ob}  (h:i≠id):(X.h.set id o)[i]? =X.h[i]? :=by rw [List.getElem?_set_ne (by omega)]
theorem Step.put (x:Value) (a:AV) (hX:Ok X) (h:X.h[id]? =some (some o)) (hb:(X.m id).1=some b) (hoff:off<o.cells.length) (hw:o.wr off):Step X (X.put id b off x o a):=by
 obtain ⟨b',cvs,T,e1,h2,h3,h4,h5⟩:=hX.obj h hoff;rw [hb] at e1;injection e1 with e1;subst e1;have hid:id<X.h.length:=(List.getElem?_eq_some_iff.1 h).1;refine ⟨rfl,rfl,rfl,by simp [Cx.put,World.setCell],fun c hc hm=>?_,fun c o' y hy hbad=>⟨?_,hbad⟩,by simp [Cx.put],fun i U s c f hi hh=>?_,fun i c hi hh=>?_,fun c hc=>?_,fun _ _ h=> .inl h,fun i c hi hh=>?_,rfl⟩
 ·exact Below.heap_setCell _ _ _ _ (fun e=>hm ⟨id,⟨o,h⟩,by rw [hb];exact congrArg some e.symm⟩)
 ·have hne:(⟨b,off,none⟩:Addr)≠⟨c,o',none⟩:=by
   intro e;injection e with e1 e2;subst e1 e2;exact hbad (h4 off hw)
  unfold cellAt at hy ⊢;rw [show (X.put id b off x o a).w=X.w.setCell ⟨b,off,none⟩ x from rfl,World.cell?_setCell_other (h:=hne)];exact hy
 ·by_cases e:i=id
  ·subst e;simp only [Cx.put] at hh;rw [List.getElem?_set_self hid] at hh;injection hh with hh;injection hh with hh;cases o with
   | blk cells=>cases hh
   | arr T' s' cells fz=>
    injection hh with e1 e2 e3 e4;subst e1 e2 e3 e4;exact ⟨cells,fz,h,by simp,fun _=>rfl⟩
   | map es=>cases hh
  ·simp only [Cx.put] at hh;rw [cu e] at hh;exact ⟨c,f,hh,Nat.le_refl _,fun _=>rfl⟩
 ·by_cases e:i=id
  ·subst e;simp only [Cx.put] at hh;rw [List.getElem?_set_self hid] at hh;injection hh with hh;injection hh with hh;cases o with
   | blk cells=>exact ⟨cells,h,rfl⟩
   | arr T' s' cells fz=>cases hh
   | map es=>cases hh
  ·simp only [Cx.put] at hh;rw [cu e] at hh;exact ⟨c,hh,rfl⟩
 ·obtain ⟨i,⟨o',ho⟩,he⟩:=hc;right;by_cases e:i=id
  ·subst e;exact ⟨i,⟨o,h⟩,he⟩
  ·simp only [Cx.put] at ho;rw [cu e] at ho;exact ⟨i,⟨o',ho⟩,he⟩
 ·by_cases e:i=id
  ·subst e;simp only [Cx.put] at hh;rw [List.getElem?_set_self hid] at hh;injection hh with hh;injection hh with hh;cases o with
   | map es=>exact ⟨es,h,rfl⟩
   | _=>cases hh
  ·simp only [Cx.put] at hh;rw [cu e] at hh;exact ⟨c,hh,rfl⟩
theorem getSet {l:List AV}  {a b:AV} (h:(l.set off b)[i]? =some a):(i=off∧a=b)∨(i≠off∧l[i]? =some a):=by
 rw [List.getElem?_set] at h;split at h
 ·next e=>subst e;split at h<;>simp_all
 ·next e=>exact .inr ⟨fun e'=>e e'.symm,h⟩
theorem rX {l:Array Value}  {a b:Value} (h:(l.setIfInBounds off b)[i]? =some a):(i=off∧a=b)∨(i≠off∧l[i]? =some a):=by
 rw [Array.getElem?_setIfInBounds] at h;split at h
 ·next e=>subst e;split at h<;>simp_all
 ·next e=>exact .inr ⟨fun e'=>e e'.symm,h⟩
theorem Ok.put {x:Value} {a:AV} (hX:Ok X) (h:X.h[id]? =some (some o)) (hb:(X.m id).1=some b) (hoff:off<o.cells.length) (hw:o.wr off) (hr:Rep X a x):Ok (X.put id b off x o a):=by
 have S:=Step.put x a hX h hb hoff hw;have hid:id<X.h.length:=(List.getElem?_eq_some_iff.1 h).1;have hlive: ∀ i,(X.put id b off x o a).live i→X.live i:=by
  intro i ⟨o',ho⟩;by_cases e:i=id
  ·subst e;exact ⟨o,h⟩
  ·simp only [Cx.put] at ho;rw [cu e] at ho;exact ⟨o',ho⟩
 have vS: ∀ i c,i≠id→X.live i→(X.m i).1=some c→c≠b:=fun i c hi hl hc e=>hi (hX.inj i id b hl ⟨o,h⟩ (by rw [hc,e]) hb)
 refine ⟨fun i cells hh=>?_,fun i U s cells fz hh=>?_,fun i j c hi hj=>hX.inj i j c (hlive i hi) (hlive j hj),fun c o' hc=>Nat.lt_of_lt_of_le (hX.dX c o' hc) S.size,fun i es hh=>?_⟩
 ·by_cases e:i=id
  ·subst e;simp only [Cx.put] at hh;rw [List.getElem?_set_self hid] at hh;injection hh with hh;injection hh with hh;cases o with
   | arr T' s' cells' fz=>cases hh
   | map es=>cases hh
   | blk cells'=>
    injection hh with hh;subst hh;obtain ⟨b',cvs,T,h1,h2,h3,h4,h5⟩:=hX.blk i cells' h;rw [hb] at h1;injection h1 with h1;subst h1;refine ⟨b,cvs.setIfInBounds off x,T,hb,ou h2 x,by simp [h3],h4,fun j a' y h6 h7=>?_⟩;rcases getSet h6 with ⟨e1,e2⟩ | ⟨e1,e2⟩
    ·rcases rX h7 with ⟨e3,e4⟩ | ⟨e3,e4⟩
     ·rw [e2,e4];exact hr.mono S
     ·exact absurd e1 e3
    ·rcases rX h7 with ⟨e3,e4⟩ | ⟨e3,e4⟩
     ·exact absurd e3 e1
     ·exact (h5 j a' y e2 e4).mono S
  ·simp only [Cx.put] at hh;rw [cu e] at hh;obtain ⟨b',cvs,T,h1,h2,h3,h4,h5⟩:=hX.blk i cells hh;refine ⟨b',cvs,T,h1,?_,h3,h4,fun j a' y h6 h7=>(h5 j a' y h6 h7).mono S⟩;rw [show (X.put id b off x o a).w=X.w.setCell ⟨b,off,none⟩ x from rfl,Below.heap_setCell _ _ _ _ (vS i b' e ⟨_,hh⟩ h1)];exact h2
 ·by_cases e:i=id
  ·subst e;simp only [Cx.put] at hh;rw [List.getElem?_set_self hid] at hh;injection hh with hh;injection hh with hh;cases o with
   | blk cells'=>cases hh
   | map es=>cases hh
   | arr T' s' cells' fz'=>
    injection hh with e1 e2 e3 e4;subst e1 e2 e3 e4;obtain ⟨g1,g2,n,g3,g4⟩:=hX.arr i T' s' cells' fz' h;refine ⟨by simpa using g1,g2,n,by simpa using g3,?_⟩;rcases g4 with ⟨g4,g5⟩ | ⟨b',cvs,g4⟩
    ·rw [g5] at hoff;simp [Ob.cells] at hoff
    ·have h1:=g4.at_;rw [hb] at h1;injection h1 with h1;subst h1;refine .inr ⟨b,cvs.setIfInBounds off x,⟨hb,ou g4.blk x,g4.cap,g4.iQ,by simp [Cx.put,g4.sz],g4.bad,fun j a' y h6 h7=>?_,g4.good⟩⟩;rcases getSet h6 with ⟨e1,e2⟩ | ⟨e1,e2⟩
     ·rcases rX h7 with ⟨e3,e4⟩ | ⟨e3,e4⟩
      ·rw [e2,e4];exact hr.mono S
      ·exact absurd e1 e3
     ·rcases rX h7 with ⟨e3,e4⟩ | ⟨e3,e4⟩
      ·exact absurd e3 e1
      ·exact (g4.rep j a' y e2 e4).mono S
  ·simp only [Cx.put] at hh;rw [cu e] at hh;obtain ⟨g1,g2,n,g3,g4⟩:=hX.arr i U s cells fz hh;refine ⟨g1,g2,n,g3,?_⟩;rcases g4 with g4 | ⟨b',cvs,g4⟩
   ·exact .inl g4
   ·refine .inr ⟨b',cvs,⟨g4.at_,?_,g4.cap,g4.iQ,g4.sz,g4.bad,fun j a' y h6 h7=>(g4.rep j a' y h6 h7).mono S,g4.good⟩⟩;rw [show (X.put id b off x o a).w=X.w.setCell ⟨b,off,none⟩ x from rfl,Below.heap_setCell _ _ _ _ (vS i b' e ⟨_,hh⟩ g4.at_)];exact g4.blk
 ·by_cases e:i=id
  ·subst e;cases o with
   | map es'=>exact hw.elim
   | _=>
    simp only [Cx.put] at hh;rw [List.getElem?_set_self hid] at hh;injection hh with hh;injection hh with hh;cases hh
  ·simp only [Cx.put] at hh;rw [cu e] at hh;obtain ⟨b',ents,clock,h1,h2,h3⟩:=hX.map i es hh;refine ⟨b',ents,clock,h1,?_,h3.mono S⟩;rw [show (X.put id b off x o a).w=X.w.setCell ⟨b,off,none⟩ x from rfl,Below.heap_setCell _ _ _ _ (vS i b' e ⟨_,hh⟩ h1)];exact h2
def Cx.jh (X:Cx) (id:Nat) (T:TypeId) (s:Nat) (cells:List AV) (k:Nat):Cx:=
 {X with h:=X.h.set id (some (.arr T s cells k)),bad:=fun b o=>X.bad b o∧ ¬ ((X.m id).1=some b∧o<k)}
variable {fz s:Nat}
theorem Step.jh {cells:List AV}  (k:Nat) (h:X.h[id]? =some (some (.arr T s cells fz))):Step X (X.jh id T s cells k):=by
 have hid:id<X.h.length:=(List.getElem?_eq_some_iff.1 h).1;have hlive: ∀ i,(X.jh id T s cells k).live i→X.live i:=by
  intro i ⟨o',ho⟩;by_cases e:i=id
  ·subst e;exact ⟨_,h⟩
  ·simp only [Cx.jh] at ho;rw [cu e] at ho;exact ⟨o',ho⟩
 refine ⟨rfl,rfl,rfl,Nat.le_refl _,fun _ _ _=>rfl,fun c o' y hy hbad=>⟨hy,fun hk=>hbad hk.1⟩,by simp [Cx.jh],fun i U s' c f hi hh=>?_,fun i c hi hh=>?_,fun c hc=>?_,fun c o' hb=>?_,fun i c hi hh=>?_,rfl⟩
 ·by_cases e:i=id
  ·subst e;simp only [Cx.jh] at hh;rw [List.getElem?_set_self hid] at hh;injection hh with hh;injection hh with hh;injection hh with e1 e2 e3 e4;subst e1 e2 e3 e4;exact ⟨cells,fz,h,Nat.le_refl _,fun _=>rfl⟩
  ·simp only [Cx.jh] at hh;rw [cu e] at hh;exact ⟨c,f,hh,Nat.le_refl _,fun _=>rfl⟩
 ·by_cases e:i=id
  ·subst e;simp only [Cx.jh] at hh;rw [List.getElem?_set_self hid] at hh;injection hh with hh;cases hh
  ·simp only [Cx.jh] at hh;rw [cu e] at hh;exact ⟨c,hh,rfl⟩
 ·obtain ⟨i,hi,he⟩:=hc;exact .inr ⟨i,hlive i hi,he⟩
 ·by_cases e:(X.m id).1=some c
  ·exact .inr ⟨id,⟨_,h⟩,e⟩
  ·exact .inl ⟨hb,fun hk=>e hk.1⟩
 ·by_cases e:i=id
  ·subst e;simp only [Cx.jh] at hh;rw [List.getElem?_set_self hid] at hh;injection hh with hh;cases hh
  ·simp only [Cx.jh] at hh;rw [cu e] at hh;exact ⟨c,hh,rfl⟩
theorem Ok.jh {cells:List AV} {k:Nat} (hX:Ok X) (h:X.h[id]? =some (some (.arr T s cells fz))) (h1:fz≤k) (h2:k≤cells.length):Ok (X.jh id T s cells k):=by
 have S:=Step.jh k h;have hid:id<X.h.length:=(List.getElem?_eq_some_iff.1 h).1;have hlive: ∀ i,(X.jh id T s cells k).live i→X.live i:=by
  intro i ⟨o',ho⟩;by_cases e:i=id
  ·subst e;exact ⟨_,h⟩
  ·simp only [Cx.jh] at ho;rw [cu e] at ho;exact ⟨o',ho⟩
 have vS: ∀ i c,i≠id→X.live i→(X.m i).1=some c→ ¬ (X.m id).1=some c:=fun i c hi hl hc e=>hi (hX.inj i id c hl ⟨_,h⟩ hc e)
 refine ⟨fun i c hh=>?_,fun i U s' c f hh=>?_,fun i j c hi hj=>hX.inj i j c (hlive i hi) (hlive j hj),fun c o' hc=>hX.dX c o' hc.1,fun i es hh=>?_⟩
 ·by_cases e:i=id
  ·subst e;simp only [Cx.jh] at hh;rw [List.getElem?_set_self hid] at hh;injection hh with hh;cases hh
  ·simp only [Cx.jh] at hh;rw [cu e] at hh;obtain ⟨b',cvs,T',h1,h2,h3,h4,h5⟩:=hX.blk i c hh;exact ⟨b',cvs,T',h1,h2,h3,fun o=>⟨h4 o,fun hk=>vS i b' e ⟨_,hh⟩ h1 hk.1⟩,fun j a' y h6 h7=>(h5 j a' y h6 h7).mono S⟩
 ·by_cases e:i=id
  ·subst e;simp only [Cx.jh] at hh;rw [List.getElem?_set_self hid] at hh;injection hh with hh;injection hh with hh;injection hh with e1 e2 e3 e4;subst e1 e2 e3 e4;obtain ⟨g1,g2,n,g3,g4⟩:=hX.arr i T s cells fz h;refine ⟨h2,g2,n,g3,?_⟩;rcases g4 with g4 | ⟨b',cvs,g4⟩
   ·exact .inl g4
   ·exact .inr ⟨b',cvs,⟨g4.at_,g4.blk,g4.cap,g4.iQ,g4.sz,fun o ho=>⟨g4.bad o (by omega),fun hk=>by omega⟩,fun j a' y h6 h7=>(g4.rep j a' y h6 h7).mono S,fun o ho hk=>hk.2 ⟨g4.at_,ho⟩⟩⟩
  ·simp only [Cx.jh] at hh;rw [cu e] at hh;obtain ⟨g1,g2,n,g3,g4⟩:=hX.arr i U s' c f hh;refine ⟨g1,g2,n,g3,?_⟩;rcases g4 with g4 | ⟨b',cvs,g4⟩
   ·exact .inl g4
   ·exact .inr ⟨b',cvs,⟨g4.at_,g4.blk,g4.cap,g4.iQ,g4.sz,fun o ho=>⟨g4.bad o ho,fun hk=>vS i b' e ⟨_,hh⟩ g4.at_ hk.1⟩,fun j a' y h6 h7=>(g4.rep j a' y h6 h7).mono S,fun o ho hk=>g4.good o ho hk.1⟩⟩
 ·by_cases e:i=id
  ·subst e;simp only [Cx.jh] at hh;rw [List.getElem?_set_self hid] at hh;injection hh with hh;cases hh
  ·simp only [Cx.jh] at hh;rw [cu e] at hh;obtain ⟨b',ents,clock,h1,h2,h3⟩:=hX.map i es hh;exact ⟨b',ents,clock,h1,h2,h3.mono S⟩
abbrev Cx.frz (X:Cx) (id:Nat) (T:TypeId) (s:Nat) (cells:List AV):Cx:=X.jh id T s cells cells.length
theorem Step.frz {cells:List AV}  (h:X.h[id]? =some (some (.arr T s cells fz))):Step X (X.frz id T s cells):=Step.jh _ h
theorem Ok.frz {cells:List AV}  (hX:Ok X) (h:X.h[id]? =some (some (.arr T s cells fz))):Ok (X.frz id T s cells):=hX.jh h (hX.arr id T s cells fz h).1 (Nat.le_refl _)
theorem Rep.frozen {n:Nat}   {cells:List AV} {x:Value} (hX:Ok X) (h:X.h[id]? =some (some (.arr T s cells cells.length))) (hbad: ∀ b,(X.m id).1=some b→ ∀ o,o<cells.length→ ¬ X.bad b o) (hn:cells.length=n*s) (hr:Rep X (.own id n) x):Rep X (.t n s cells) x:=by
 cases hr with
 | own hid hh=>
 obtain ⟨_,e⟩:=hh _ _ _ _ h;rw [e hn];obtain ⟨g1,g2,n',g3,g4⟩:=hX.arr id T s cells _ h;have hnn:n'=n:=Nat.eq_of_mul_eq_mul_right g2 (by rw [←g3, ←hn]);subst hnn;rcases g4 with ⟨g4,g5⟩ | ⟨b',cvs,g4⟩
 ·subst g5;have hn0:n'=0:=by
   rcases Nat.mul_eq_zero.1 hn.symm with h0 | h0
   ·exact h0
   ·omega
  subst hn0;rw [g4];exact Rep.t (p:=Option.none) (cap:=0) (cvs:=[]) (by simp) rfl (Nat.le_refl _) (Nat.zero_le _) (fun h=>absurd h (by omega)) (fun i a x h1 h2=>by simp at h2)
 ·have hle:cells.length≤cvs.size:=by rw [g4.sz,g3];exact Nat.mul_le_mul_right _ g4.cap
  refine Rep.t (cvs:=cvs.toList.take cells.length) hn (by simp;omega) g4.cap g4.iQ (fun _=>⟨b',0,by rw [g4.at_];rfl,fun i x hx=>?_⟩) (fun i a x h1 h2=>?_)
  ·rw [List.getElem?_take] at hx;split at hx
   ·next hi=>
    rw [Nat.zero_add];exact ⟨by rw [aZ g4.blk];simpa using hx,hbad _ g4.at_ _ hi⟩
   ·cases hx
  ·rw [List.getElem?_take] at h2;split at h2
   ·exact g4.rep i a x h1 (by simpa using h2)
   ·cases h2
end
section
open Go.RowKit
def splice (c:Array Value):Nat→List Value→Array Value
 | _,[]=>c
 | o,v::r=>splice (c.setIfInBounds o v) (o+1) r
theorem kY: ∀ (vs:List Value) (o:Nat) (c:Array Value),(splice c o vs).size=c.size
 | [],_,_=>rfl
 | v::r,o,c=>by unfold splice;rw [kY r];simp
theorem pR: ∀ (vs:List Value) (o:Nat) (c:Array Value) (i:Nat),o+vs.length≤c.size→(splice c o vs)[i]? =if o≤i∧i<o+vs.length then vs[i - o]? else c[i]?
 | [],o,c,i,_=>by
  unfold splice;rw [if_neg (by simp only [List.length_nil];omega)]
 | v::r,o,c,i,h=>by
  simp only [List.length_cons] at h;unfold splice;rw [pR r (o+1) _ i (by simp;omega)];simp only [List.length_cons];by_cases e:i=o
  ·subst e;rw [if_neg (by omega),if_pos (by omega),Array.getElem?_setIfInBounds_self,if_pos (by omega)];simp
  ·by_cases h1:o+1≤i∧i<o+1+r.length
   ·rw [if_pos h1,if_pos (by omega),show i - o=(i - (o+1))+1 by omega,List.getElem?_cons_succ]
   ·rw [if_neg h1,if_neg (by omega),Array.getElem?_setIfInBounds_ne (by omega)]
variable {T:TypeId}{b:Nat}
theorem oz {fr:Nat × Nat}: ∀ (vs:List Value) (o:Nat) (w:World) (c:Array Value),w.heap[b]? =some (.cells c T fr)→(w.setCells b o vs).heap[b]? =some (.cells (splice c o vs) T fr)
 | [],_,_,_,h=>h
 | v::r,o,w,c,h=>oz r (o+1) _ _ (ou h v)
theorem jP {k:Nat} (hk:k≠b): ∀ (vs:List Value) (o:Nat) (w:World),(w.setCells b o vs).heap[k]? =w.heap[k]?
 | [],_,_=>rfl
 | v::r,o,w=>by
  rw [World.setCells,jP hk r,Below.heap_setCell _ _ _ _ hk]
theorem size_setCells : ∀ (vs:List Value) (o:Nat) (w:World),(w.setCells b o vs).heap.size=w.heap.size
 | [],_,_=>rfl
 | v::r,o,w=>by rw [World.setCells,size_setCells r];simp [World.setCell]
theorem qC : ∀ (vs:List Value) (o:Nat) (w:World),(w.setCells b o vs).os=w.os∧(w.setCells b o vs).tape=w.tape∧(w.setCells b o vs).output=w.output
 | [],_,_=>⟨rfl,rfl,rfl⟩
 | v::r,o,w=>by rw [World.setCells];exact qC r _ _
variable {X:Cx}{cap fz id m n s:Nat}{jL:List AV}
theorem grow_step (hX:Ok X)   {g:Nat} {cells:List AV} (h:X.h[id]? =some (some (.arr T s cells fz))) (hn:cells.length=n*s) (hm:jL.length=m*s) (hm0:0<m)
  (w':World) (hos:w'.os=X.w.os) (htape:w'.tape=X.w.tape) (hout:w'.output=X.w.output) (hsize:X.w.heap.size≤w'.heap.size)
  (hblk: ∀ k,k<X.w.heap.size→(X.m id).1≠some k→w'.heap[k]? =X.w.heap[k]?)
  (hkeep: ∀ b o x,(X.m id).1=some b→cellAt X.w b o=some x→ ¬ X.bad b o→cellAt w' b o=some x)
  (hg:((X.m id)=(some g,cap)∧fz≤cells.length)∨(X.w.heap.size≤g∧g<w'.heap.size)):
  ∃ Y:Cx,Y.w=w'∧Y.m id=(some g,cap)∧Y.h=X.h.set id (some (.arr T s (cells++jL) fz))∧(∀ b o,Y.bad b o↔X.bad b o∨((X.w.heap.size≤g)∧b=g∧fz≤o))∧(∀ i,i≠id→Y.m i=X.m i)∧Step X Y:=by
 have hid:id<X.h.length:=(List.getElem?_eq_some_iff.1 h).1;refine ⟨⟨w',fun i=>if i=id then (some g,cap) else X.m i,X.h.set id (some (.arr T s (cells++jL) fz)),fun b o=>X.bad b o∨(X.w.heap.size≤g∧b=g∧fz≤o),X.ds⟩,rfl,by simp,rfl,fun _ _=>Iff.rfl,fun i hi=>by simp [hi],?_⟩;refine ⟨hos,htape,hout,hsize,fun b hb Jr=>?_,fun b o x hx hb=>⟨?_,?_⟩,by simp,fun i U s' c f hi hh=>?_,fun i c hi hh=>?_,fun c hc=>?_,fun c o' hb=> .inl (.inl hb),fun i c hi hh=>?_,rfl⟩
 ·exact hblk b hb fun e=>Jr ⟨id,⟨_,h⟩,e⟩
 ·by_cases e:(X.m id).1=some b
  ·exact hkeep b o x e hx hb
  ·unfold cellAt at hx ⊢;rw [World.cell?_of_block (w:=X.w) (hblk b (eH hx) e)];exact hx
 ·rintro (hk | ⟨hk,rfl,_⟩)
  ·exact hb hk
  ·exact absurd (eH hx) (by omega)
 ·by_cases e:i=id
  ·subst e;simp only at hh;rw [List.getElem?_set_self hid] at hh;injection hh with hh;injection hh with hh;injection hh with e1 e2 e3 e4;subst e1 e2 e3 e4;have hs0:=(hX.arr i T s cells fz h).2.1;refine ⟨cells,fz,h,by simp,fun el=>?_⟩;rw [List.length_append] at el;have:jL.length=0:=by omega
   rw [hm] at this;rcases Nat.mul_eq_zero.1 this with h0 | h0<;>omega
  ·simp only at hh;rw [cu e] at hh;exact ⟨c,f,hh,Nat.le_refl _,fun _=>by simp [e]⟩
 ·by_cases e:i=id
  ·subst e;simp only at hh;rw [List.getElem?_set_self hid] at hh;injection hh with hh;cases hh
  ·simp only at hh;rw [cu e] at hh;exact ⟨c,hh,by simp [e]⟩
 ·obtain ⟨i,⟨o',ho⟩,he⟩:=hc;by_cases e:i=id
  ·subst e;simp only [if_true] at he;injection he with he;subst he;rcases hg with hg | hg
   ·exact .inr ⟨i,⟨_,h⟩,by rw [hg.1]⟩
   ·exact .inl hg.1
  ·simp only at ho he;rw [cu e] at ho;rw [if_neg e] at he;exact .inr ⟨i,⟨o',ho⟩,he⟩
 ·by_cases e:i=id
  ·subst e;simp only at hh;rw [List.getElem?_set_self hid] at hh;injection hh with hh;cases hh
  ·simp only at hh;rw [cu e] at hh;exact ⟨c,hh,by simp [e]⟩
theorem PI {Y:Cx} (hX:Ok X)   {g:Nat} {cells:List AV} {cvs:Array Value} (h:X.h[id]? =some (some (.arr T s cells fz))) (hn:cells.length=n*s) (hm:jL.length=m*s)
  (e1:Y.m id=(some g,cap)) (e2:Y.h=X.h.set id (some (.arr T s (cells++jL) fz))) (e3: ∀ b o,Y.bad b o↔X.bad b o∨((X.w.heap.size≤g)∧b=g∧fz≤o)) (e4: ∀ i,i≠id→Y.m i=X.m i) (S:Step X Y)
  (hblk: ∀ k,k<X.w.heap.size→(X.m id).1≠some k→Y.w.heap[k]? =X.w.heap[k]?)
  (hg:((X.m id)=(some g,cap)∧fz≤cells.length)∨(X.w.heap.size≤g∧g<Y.w.heap.size))
  (hc1:Y.w.heap[g]? =some (.cells cvs T (0,0))) (hc2:n+m≤cap) (hc3:cap≤maxLen) (hc4:cvs.size=cap*s) (hrep: ∀ (i:Nat) (a:AV) (x:Value),(cells++jL)[i]? =some a→cvs[i]? =some x→Rep X a x):Ok Y:=by
 have hid:id<X.h.length:=(List.getElem?_eq_some_iff.1 h).1;have hlive: ∀ i,Y.live i→X.live i:=by
  intro i ⟨o',ho⟩;by_cases e:i=id
  ·subst e;exact ⟨_,h⟩
  ·rw [e2,cu e] at ho;exact ⟨o',ho⟩
 have vS: ∀ i c,i≠id→X.live i→(X.m i).1=some c→ ¬ (X.m id).1=some c:=fun i c hi hl hc e=>hi (hX.inj i id c hl ⟨_,h⟩ hc e)
 have ajC: ∀ k c',k≠id→X.live k→(X.m k).1=some c'→c'≠g:=by
  intro k c' hk hl he eg;rcases hg with hg | hg
  ·exact hk (hX.inj k id c' hl ⟨_,h⟩ he (by rw [hg.1,eg]))
  ·exact absurd (hX.lt ⟨k,hl,he⟩) (by omega)
 refine ⟨fun i c hh=>?_,fun i U s' c f hh=>?_,fun i j c hi hj ei ej=>?_,fun c o' hc=>?_,fun i es hh=>?_⟩
 ·by_cases e:i=id
  ·subst e;rw [e2,List.getElem?_set_self hid] at hh;injection hh with hh;cases hh
  ·rw [e2,cu e] at hh;obtain ⟨b',amu,T',h1,h2,h3,h4,h5⟩:=hX.blk i c hh;refine ⟨b',amu,T',by rw [e4 i e];exact h1,?_,h3,fun o=>(e3 _ _).2 (.inl (h4 o)),fun j a' y h6 h7=>(h5 j a' y h6 h7).mono S⟩;rw [hblk b' (hX.lt ⟨i,⟨_,hh⟩,h1⟩) (vS i b' e ⟨_,hh⟩ h1)];exact h2
 ·by_cases e:i=id
  ·subst e;rw [e2,List.getElem?_set_self hid] at hh;injection hh with hh;injection hh with hh;injection hh with q1 q2 q3 q4;subst q1 q2 q3 q4;obtain ⟨g1,g2,n',g3,g4⟩:=hX.arr i T s cells fz h;refine ⟨by simp;omega,g2,n+m,by rw [List.length_append,hn,hm,Nat.add_mul], .inr ⟨g,cvs,⟨by rw [e1],hc1,by rw [e1];exact hc2,by rw [e1];exact hc3,by rw [e1];exact hc4,fun o ho=>?_,fun j a' y h6 h7=>(hrep j a' y h6 h7).mono S,fun o ho hk=>?_⟩⟩⟩;rcases hg with ⟨hg,_⟩ | hg
   ·rcases g4 with g4 | ⟨b',c2,g4⟩
    ·rw [g4.1] at hg;cases hg
    ·have:=g4.at_;rw [hg] at this;injection this with this;subst this;exact (e3 _ _).2 (.inl (g4.bad o ho))
   ·exact (e3 _ _).2 (.inr ⟨hg.1,rfl,ho⟩)
   ·rcases (e3 _ _).1 hk with hk | hk
    ·rcases hg with ⟨hg,_⟩ | hg
     ·rcases g4 with g4 | ⟨b',c2,g4⟩
      ·rw [g4.1] at hg;cases hg
      ·have:=g4.at_;rw [hg] at this;injection this with this;subst this;exact g4.good o ho hk
     ·exact absurd (hX.dX _ _ hk) (by omega)
    ·omega
  ·rw [e2,cu e] at hh;obtain ⟨g1,g2,n',g3,g4⟩:=hX.arr i U s' c f hh;refine ⟨g1,g2,n',g3,?_⟩;rcases g4 with g4 | ⟨b',c2,g4⟩
   ·exact .inl ⟨by rw [e4 i e];exact g4.1,g4.2⟩
   ·refine .inr ⟨b',c2,⟨by rw [e4 i e];exact g4.at_,?_,by rw [e4 i e];exact g4.cap,by rw [e4 i e];exact g4.iQ,by rw [e4 i e];exact g4.sz,fun o ho=>(e3 _ _).2 (.inl (g4.bad o ho)),fun j a' y h6 h7=>(g4.rep j a' y h6 h7).mono S,fun o ho hk=>((e3 _ _).1 hk).elim (g4.good o ho) (fun q=>ajC i b' e ⟨_,hh⟩ g4.at_ q.2.1)⟩⟩;rw [hblk b' (hX.lt ⟨i,⟨_,hh⟩,g4.at_⟩) (vS i b' e ⟨_,hh⟩ g4.at_)];exact g4.blk
 ·have hnew: ∀ k c',k≠id→Y.live k→(Y.m k).1=some c'→c'≠g:=by
   intro k c' hk hl he eg;rw [e4 k hk] at he;rcases hg with hg | hg
   ·exact hk (hX.inj k id c' (hlive k hl) ⟨_,h⟩ he (by rw [hg.1,eg]))
   ·exact absurd (hX.lt ⟨k,hlive k hl,he⟩) (by omega)
  by_cases ii:i=id
  ·subst ii;rw [e1] at ei;injection ei with ei;by_cases jj:j=i
   ·exact jj.symm
   ·exact absurd ei.symm (hnew j c jj hj ej)
  ·by_cases jj:j=id
   ·subst jj;rw [e1] at ej;injection ej with ej;exact absurd ej.symm (hnew i c ii hi ei)
   ·rw [e4 i ii] at ei;rw [e4 j jj] at ej;exact hX.inj i j c (hlive i hi) (hlive j hj) ei ej
 ·rcases (e3 _ _).1 hc with hc | ⟨hc,rfl,_⟩
  ·exact Nat.lt_of_lt_of_le (hX.dX c o' hc) S.size
  ·rcases hg with ⟨hg,_⟩ | hg
   ·exact absurd (hX.lt ⟨id,⟨_,h⟩,by rw [hg]⟩) (by omega)
   ·exact hg.2
 ·by_cases e:i=id
  ·subst e;rw [e2,List.getElem?_set_self hid] at hh;injection hh with hh;cases hh
  ·rw [e2,cu e] at hh;obtain ⟨b',ents,clock,h1,h2,h3⟩:=hX.map i es hh;refine ⟨b',ents,clock,by rw [e4 i e];exact h1,?_,h3.mono S⟩;rw [hblk b' (hX.lt ⟨i,⟨_,hh⟩,h1⟩) (vS i b' e ⟨_,hh⟩ h1)];exact h2
variable {P:Program}
theorem BJ {w:World}   {c:Array Value} {size:Nat} (h:w.heap[b]? =some (.cells c T (0,0))) (hle:n*size≤c.size):
  (Builtin.firstCells size n (.slice (some ⟨b,0,none⟩) n cap)).run P w= .ok (c.toList.take (n*size)).toArray w:=by
 refine run_firstCells_some w size n ⟨b,0,none⟩ n cap _ (by simp;omega) (fun j u hu=>?_);rw [List.getElem?_take] at hu;split at hu
 ·next hj=>
  have:w.cell? ⟨b,j,none⟩=c[j]? :=by simp [World.cell?,h]
  have e:(⟨b,0,none⟩:Addr).add j=⟨b,j,none⟩:=by
   unfold Addr.add;split
   ·next h0=>rw [h0]
   ·simp
  rw [e,this];simpa using hu
 ·cases hu
theorem vT {l:Hp} {i:Nat} {o:Option Ob} (h:l[i]? =some o):l.set i o=l:=by
 apply List.ext_getElem?;intro j;rw [List.getElem?_set];split
 ·next e=>subst e;split<;>simp_all
 ·rfl
theorem BM {need old:Nat} (h:old<need):Builtin.nextslicecap need old≤2*need:=by
 unfold Builtin.nextslicecap;split
 ·omega
 ·split
  ·omega
  ·have key: ∀ k c,c≤2*need→Builtin.growBy need k c≤2*need:=by
    intro k;induction k with
    | zero=>intro c hc;exact hc
    | succ k ih=>
     intro c hc;unfold Builtin.growBy;split
     ·exact hc
     ·exact ih _ (by omega)
   exact key 4 old (by omega)
theorem abd {c1 c2:List AV} {v1 v2:List Value} {rest:Array Value} (hl:c1.length=v1.length) (hl2:c2.length=v2.length) (h1: ∀ (i:Nat) (a:AV) (x:Value),c1[i]? =some a→v1[i]? =some x→Rep X a x)
  (h2: ∀ (i:Nat) (a:AV) (x:Value),c2[i]? =some a→v2[i]? =some x→Rep X a x): ∀ (i:Nat) (a:AV) (x:Value),(c1++c2)[i]? =some a→((v1++v2).toArray++rest)[i]? =some x→Rep X a x:=by
 intro i a x ha hx;have hi:=(List.getElem?_eq_some_iff.1 ha).1;rw [List.length_append] at hi;rw [Array.getElem?_append_left (by simp;omega)] at hx;rw [List.getElem?_toArray] at hx;by_cases e:i<c1.length
 ·rw [List.getElem?_append_left e] at ha;rw [List.getElem?_append_left (by omega)] at hx;exact h1 i a x ha hx
 ·rw [List.getElem?_append_right (by omega)] at ha;rw [List.getElem?_append_right (by omega), ←hl] at hx;exact h2 _ a x ha hx
theorem BN (hX:Ok X)  {t tx ty:TypeId} {cells:List AV} {olds news:List Value} {i:TypeInfo} {z x:Value}
  (h:X.h[id]? =some (some (.arr T i.size cells fz))) (hn:cells.length=n*i.size) (ht:P.underlying t=some (.slice T)) (hi:P.info? T=some i) (hz:i.zero=some z) (hzs:z.cells.size=i.size)
  (hsrc:Src P i.size tx x m news X.w) (hnl:jL.length=news.length) (hrep: ∀ (i:Nat) (a:AV) (x:Value),jL[i]? =some a→news[i]? =some x→Rep X a x)
  (h63:n+m≤maxLen) (hbytes:(n+m)*i.bytes≤140737488355328) (hm0:0<m) (hcap:(X.m id).2<n+m)
  (hold:(Builtin.firstCells i.size n (aY (X.m id) n)).run P X.w.drew= .ok olds.toArray X.w.drew) (hol:cells.length=olds.length) (ajD: ∀ (i:Nat) (a:AV) (x:Value),cells[i]? =some a→olds[i]? =some x→Rep X a x):
  ∃ v' Y,(Builtin.append_ #[t,tx] ty #[aY (X.m id) n,x]).run P X.w= .ok v' Y.w∧Step X Y∧Ok Y∧Y.h=X.h.set id (some (.arr T i.size (cells++jL) fz))∧Rep Y (.own id (n+m)) v':=by
 have hid:id<X.h.length:=(List.getElem?_eq_some_iff.1 h).1;have oP:jL.length=m*i.size:=by rw [hnl];exact hsrc.newsLen
 have hs0:=(hX.arr id T i.size cells fz h).2.1;have hle:=grownCap_ge X.w (n+m) (X.m id).2 T;have hmx:=grownCap_le_maxLen X.w (n+m) (X.m id).2 T h63;have hr:=run_append_grow_src (P:=P) X.w t tx ty T i z ht hi hz ((X.m id).1.map fun b=>⟨b,0,none⟩) n (X.m id).2 olds hold x m news hsrc hcap (by unfold maxLen at h63;omega)
  (Nat.le_trans (Nat.mul_le_mul_right _ (BM hcap)) (by rw [Nat.mul_assoc];omega))
 generalize hC:grownCap X.w (n+m) (X.m id).2 T=C at hr hle hmx;have hwl:X.w.heap.size<(X.w.drew.alloc (.cells ((olds++news).toArray++Builtin.zeroCells z.cells (C - (n+m))) T)).heap.size:=by simp
 obtain ⟨Y,e0,e1,e2,e3,e4,S⟩:=grow_step (g:=X.w.heap.size) (cap:=C) hX h hn oP hm0 (X.w.drew.alloc (.cells ((olds++news).toArray++Builtin.zeroCells z.cells (C - (n+m))) T)) rfl rfl rfl (by simp)
  (fun k hk _=>Below.heap_alloc X.w.drew _ k hk) (fun b o y hb hy _=>by
   have hb':=eH hy;unfold cellAt at hy ⊢;rw [World.cell?_alloc_lt (h:=hb')];exact hy) (.inr ⟨Nat.le_refl _,hwl⟩)
 have hOk:=PI hX h hn oP e1 e2 e3 e4 S (by rw [e0];exact fun k hk _=>Below.heap_alloc X.w.drew _ k hk) (.inr ⟨Nat.le_refl _,by rw [e0];exact hwl⟩) (by rw [e0];exact heap_alloc_new X.w.drew _) hle hmx
  (by rw [Array.size_append,size_zeroCells,hzs];simp only [List.size_toArray,List.length_append];rw [←hol,hn,hsrc.newsLen, ←Nat.add_mul, ←Nat.add_mul];congr 1;omega)
  (abd hol hnl ajD hrep)
 refine ⟨_,Y,by rw [e0];exact hr,S,hOk,e2, .own (by rw [e2];simpa using hid) fun U s' c f hh=>?_⟩;rw [e2,List.getElem?_set_self hid] at hh;injection hh with hh;injection hh with hh;injection hh with q1 q2 q3 q4;subst q1 q2 q3 q4;refine ⟨by rw [List.length_append,hn,oP, ←Nat.add_mul];exact Nat.le_refl _,fun _=>?_⟩;rw [e1];rfl
theorem EX (hX:Ok X)  {t tx ty:TypeId} {cells:List AV} {news:List Value} {i:TypeInfo} {z x v:Value}
  (h:X.h[id]? =some (some (.arr T s cells fz))) (hn:cells.length=n*s) (ht:P.underlying t=some (.slice T)) (hi:P.info? T=some i) (hz:i.zero=some z) (hs:i.size=s) (hzs:z.cells.size=s)
  (hsrc:Src P s tx x m news X.w) (hnl:jL.length=news.length) (hrep: ∀ (i:Nat) (a:AV) (x:Value),jL[i]? =some a→news[i]? =some x→Rep X a x)
  (h63:n+m≤maxLen) (hbytes:(n+m)*i.bytes≤140737488355328) (hv:Rep X (.own id n) v):
  ∃ v' Y,(Builtin.append_ #[t,tx] ty #[v,x]).run P X.w= .ok v' Y.w∧Step X Y∧Ok Y∧Y.h=X.h.set id (some (.arr T s (cells++jL) fz))∧Rep Y (.own id (n+m)) v':=by
 subst hs;have hid:id<X.h.length:=(List.getElem?_eq_some_iff.1 h).1;obtain ⟨g1,g2,n',g3,g4⟩:=hX.arr id T i.size cells fz h;have hnn:n'=n:=Nat.eq_of_mul_eq_mul_right g2 (by rw [←g3, ←hn]);subst hnn;have oP:jL.length=m*i.size:=by rw [hnl];exact hsrc.newsLen
 have hv':v=aY (X.m id) n':=by
  cases hv with
  | own _ hh=>exact (hh _ _ _ _ h).2 hn
 subst hv';rcases Nat.eq_zero_or_pos m with rfl | hm0
 ·have hn0:jL=[]:=List.eq_nil_of_length_eq_zero (by rw [oP];omega);have hw0:news=[]:=List.eq_nil_of_length_eq_zero (by rw [←hnl,oP];omega);subst hn0 hw0;refine ⟨aY (X.m id) n',X,?_,Step.refl X,hX,?_,hv⟩
  ·rcases g4 with ⟨g4,g5⟩ | ⟨b,cvs,g4⟩
   ·have hn0:n'=0:=by
     subst g5;rcases Nat.mul_eq_zero.1 hn.symm with h0 | h0
     ·exact h0
     ·omega
    subst hn0;rw [g4];rcases hsrc.kind with ⟨e',hk⟩ | hk<;>simp [aY,Builtin.append_,run_underlying ht,run_underlying hk,sizeOf,typeInfo,hi,hsrc.len,hsrc.cells]
   ·have hr:=run_append_room_src (P:=P) X.w t tx ty T i ht hi b 0 n' (X.m id).2 x 0 [] hsrc g4.cap (by intro j hj;simp at hj) (by intro j hj;simp at hj);rw [show aY (X.m id) n'= .slice (some ⟨b,0,none⟩) n' (X.m id).2 by unfold aY;rw [g4.at_];rfl];rw [hr];rfl
  ·rw [List.append_nil,vT h]
 ·rcases g4 with ⟨g4,g5⟩ | ⟨b,cvs,g4⟩
  ·have hn0:n'=0:=by
    subst g5;rcases Nat.mul_eq_zero.1 hn.symm with h0 | h0
    ·exact h0
    ·omega
   subst hn0;exact BN (olds:=[]) hX h hn ht hi hz hzs hsrc hnl hrep h63 hbytes hm0 (by rw [g4];simp;omega) (by rw [g4];exact run_firstCells_none X.w.drew i.size 0 0 0) (by rw [g5];rfl) (fun i a x _ h2=>by simp at h2)
  ·by_cases hroom:n'+m≤(X.m id).2
   ·have hlen:n'*i.size+news.length≤cvs.size:=by rw [g4.sz,hsrc.newsLen, ←Nat.add_mul];exact Nat.mul_le_mul_right _ hroom
    have hr:=run_append_room_src (P:=P) X.w t tx ty T i ht hi b 0 n' (X.m id).2 x m news hsrc hroom
     (fun j hj=>by
      have:X.w.cell? ⟨b,0+n'*i.size+j,none⟩=cvs[0+n'*i.size+j]? :=aZ g4.blk;rw [this,Array.getElem?_eq_getElem (by omega)];rfl)
     (fun j hj=>by simp [World.frozen?,g4.blk])
    rw [Nat.zero_add] at hr;obtain ⟨o1,o2,o3⟩:=qC (b:=b) news (n'*i.size) X.w;obtain ⟨Y,e0,e1,e2,e3,e4,S⟩:=grow_step (g:=b) (cap:=(X.m id).2) hX h hn oP hm0 (X.w.setCells b (n'*i.size) news) o1 o2 o3 (by rw [size_setCells];exact Nat.le_refl _)
     (fun k hk hne=>jP (fun e=>hne (by rw [g4.at_,e])) news _ _)
     (fun b' o y hb hy hbad=>by
      rw [g4.at_] at hb;injection hb with hb;subst hb;have hlt:o<fz:=Nat.lt_of_not_le fun ho=>hbad (g4.bad o ho)
      rw [aZ (oz news (n'*i.size) X.w cvs g4.blk),pR _ _ _ _ hlen,if_neg (by omega), ←aZ g4.blk];exact hy)
     (.inl ⟨by rw [←g4.at_],g1⟩)
    have hOk:=PI hX h hn oP e1 e2 e3 e4 S (by rw [e0];exact fun k hk hne=>jP (fun e=>hne (by rw [g4.at_,e])) news _ _) (.inl ⟨by rw [←g4.at_],g1⟩)
     (by rw [e0];exact oz news (n'*i.size) X.w cvs g4.blk) hroom g4.iQ (by rw [kY];exact g4.sz)
     (fun j a y ha hy=>by
      rw [pR _ _ _ _ hlen] at hy;by_cases e:j<cells.length
      ·rw [List.getElem?_append_left e] at ha;rw [if_neg (by omega)] at hy;exact g4.rep j a y ha hy
      ·have hj:=(List.getElem?_eq_some_iff.1 ha).1;rw [List.length_append] at hj;rw [List.getElem?_append_right (by omega)] at ha;rw [if_pos (by omega)] at hy;exact hrep _ a y ha (by rw [hn];exact hy))
    refine ⟨_,Y,by rw [e0,show aY (X.m id) n'= .slice (some ⟨b,0,none⟩) n' (X.m id).2 by unfold aY;rw [g4.at_];rfl];exact hr,S,hOk,e2, .own (by rw [e2];simpa using hid) fun U s' c f hh=>?_⟩;rw [e2,List.getElem?_set_self hid] at hh;injection hh with hh;injection hh with hh;injection hh with q1 q2 q3 q4;subst q1 q2 q3 q4;refine ⟨by rw [List.length_append,hn,oP, ←Nat.add_mul];exact Nat.le_refl _,fun _=>?_⟩;rw [e1];rfl
   ·have hle:cells.length≤cvs.size:=by rw [g4.sz,hn];exact Nat.mul_le_mul_right _ g4.cap
    refine BN (olds:=cvs.toList.take cells.length) hX h hn ht hi hz hzs hsrc hnl hrep h63 hbytes hm0 (by omega) ?_ (by simp;omega) (fun j a y h1 h2=>?_)
    ·rw [show aY (X.m id) n'= .slice (some ⟨b,0,none⟩) n' (X.m id).2 by unfold aY;rw [g4.at_];rfl,hn];exact BJ (w:=X.w.drew) g4.blk (by rw [←hn];exact hle)
    ·rw [List.getElem?_take] at h2;split at h2
     ·exact g4.rep j a y h1 (by simpa using h2)
     ·cases h2
end
section
open Go.RowKit
def szP (P:Program) (T:TypeId):Option Nat:=(P.info? T).map (·.size)
def bn (P:Program) (T:TypeId):Option Bool:=(P.underlying T).map (·.isRow)
def aA (P:Program) (T:TypeId):Option Value:=(P.info? T).bind (·.zero)
def aG (P:Program) (T:TypeId):Option TypeId:=(P.underlying T).bind fun | .slice e=>some e | _=>none
def bM (P:Program) (T:TypeId):Option (Nat × TypeId):=(P.underlying T).bind fun | .array n e=>some (n,e) | _=>none
def aV (P:Program) (S:TypeId) (f:Nat):Option (Nat × TypeId):=(P.underlying S).bind fun | .struct fs=>(fs[f]?).map (fun x=>(x.offset,x.type)) | _=>none
def dK (P:Program) (T:TypeId):Bool:=match P.underlying T with | some .string=>true | _=>false
def rY (P:Program) (T:TypeId):Bool:=match P.underlying T with | some .bool=>true | _=>false
def l9 (P:Program) (T:TypeId):Option IntKind:=(P.underlying T).bind fun | .int k=>some k | _=>none
variable {P:Program}{T:TypeId}
theorem dF {e:TypeId} (h:aG P T=some e):P.underlying T=some (.slice e):=by
 unfold aG at h;cases hu:P.underlying T with
 | none=>rw [hu] at h;cases h
 | some d=>rw [hu] at h;cases d<;>simp_all
theorem lK {s:Nat} (h:szP P T=some s): ∃ i,P.info? T=some i∧i.size=s:=by
 unfold szP at h;cases hi:P.info? T with
 | none=>rw [hi] at h;cases h
 | some i=>rw [hi] at h;injection h with h;exact ⟨i,rfl,h⟩
theorem VN {b:Bool} (h:bn P T=some b): ∃ d,P.underlying T=some d∧d.isRow=b:=by
 unfold bn at h;cases hu:P.underlying T with
 | none=>rw [hu] at h;cases h
 | some d=>rw [hu] at h;injection h with h;exact ⟨d,rfl,h⟩
theorem VO {S:TypeId} {f o:Nat}  (h:aV P S f=some (o,T)): ∃ fs x,P.underlying S=some (.struct fs)∧fs[f]? =some x∧x.offset=o∧x.type=T:=by
 unfold aV at h;cases hu:P.underlying S with
 | none=>rw [hu] at h;cases h
 | some d=>
  rw [hu] at h;cases d with
  | struct fs=>
   simp only [Option.bind_some] at h;cases hx:fs[f]? with
   | none=>rw [hx] at h;cases h
   | some x=>rw [hx] at h;simp at h;exact ⟨fs,x,rfl,hx,h.1,h.2⟩
  | _=>simp at h
variable {n:Nat}
theorem G7 {e:TypeId} (h:bM P T=some (n,e)):P.underlying T=some (.array n e):=by
 unfold bM at h;cases hu:P.underlying T with
 | none=>rw [hu] at h;cases h
 | some d=>rw [hu] at h;cases d<;>simp_all
def takeA (P:Program) (T:TypeId) (cells:List AV):Option AV:=
 match bn P T,szP P T with
 | some false,some _=>cells[0]?
 | some true,some s=>if s≤cells.length then some (.g (cells.take s)) else none
 | _,_=>none
theorem EY {d:TypeDesc} (h:P.underlying T=some d) (w:World):(isAgg T).run P w= .ok d.isRow w:=by
 cases d<;>simp [isAgg,run_underlying h,TypeDesc.isRow]
theorem pU (b off i:Nat):(⟨b,off,none⟩:Addr).add i=⟨b,off+i,none⟩:=by unfold Addr.add;split<;>simp_all
variable {X:Cx}{l:AV}{off:Nat}
theorem BO {cells:List AV}  {b:Nat} {cvs:List Value} (ht:takeA P T cells=some l) (hc:cvs.length=cells.length)
  (hp: ∀ (i:Nat) (x:Value),cvs[i]? =some x→cellAt X.w b (off+i)=some x) (hr: ∀ (i:Nat) (a:AV) (x:Value),cells[i]? =some a→cvs[i]? =some x→Rep X a x):
  ∃ v,(Instr.loadAt T (.pointer (some ⟨b,off,none⟩))).run P X.w= .ok v X.w∧Rep X l v:=by
 unfold takeA at ht;cases ha:bn P T with
 | none=>rw [ha] at ht;cases ht
 | some ab=>
  cases hs:szP P T with
  | none=>rw [ha,hs] at ht;cases ab<;>cases ht
  | some s=>
   obtain ⟨d,hu,hd⟩:=VN ha;rw [ha,hs] at ht;cases ab with
   | false=>
    simp only at ht;have h0:=(List.getElem?_eq_some_iff.1 ht).1;obtain ⟨x,hx⟩: ∃ x,cvs[0]? =some x:=⟨_,List.getElem?_eq_getElem (by omega)⟩
    refine ⟨x,?_,hr 0 l x ht hx⟩;have h1:=hp 0 x hx;unfold cellAt at h1;rw [Nat.add_zero] at h1;have h2:=EY hu X.w;rw [hd] at h2;simp only [Instr.loadAt,Instr.sureAddr,loadVar,Sem.run_bind,Sem.run_pure,Result.andThen_ok,h2];simp [load,Sem.run,h1]
   | true=>
    simp only at ht;split at ht
    ·next hle=>
     injection ht with ht;subst ht;refine ⟨.agg (cvs.take s).toArray,?_, .g (by simp;omega) (fun i a x h1 h2=>?_)⟩
     ·exact run_loadAt_mid X.w b off T (cvs.take s) d (fun j v hv=>by
       rw [List.getElem?_take] at hv;split at hv
       ·exact hp j v hv
       ·cases hv) hu hd (by
       obtain ⟨i,hi,hs'⟩:=lK hs;rw [hi];simp [hs'];omega)
     ·rw [List.getElem?_take] at h1 h2;split at h1
      ·next hi=>rw [if_pos hi] at h2;exact hr i a x h1 h2
      ·cases h1
    ·cases ht
def behind (h:Hp):AV→Option (List AV)
 | .ptr id off=>match h[id]? with
  | some (some (.blk cells))=>some (cells.drop off)
  | _=>none
 | .ap id n off=>match h[id]? with
  | some (some (.arr _ s cells _))=>if cells.length=n*s then some (cells.drop off) else none
  | _=>none
 | .tp cells=>some cells
 | _=>none
variable {a:AV}{x:Value}
theorem EZ {cells:List AV} (hX:Ok X) (hb:behind X.h a=some cells) (hr:Rep X a x) (h0:0<cells.length):
  ∃ (b off:Nat) (cvs:List Value),x= .pointer (some ⟨b,off,none⟩)∧cvs.length=cells.length∧(∀ (i:Nat) (y:Value),cvs[i]? =some y→cellAt X.w b (off+i)=some y)∧
   ∀ (i:Nat) (a:AV) (y:Value),cells[i]? =some a→cvs[i]? =some y→Rep X a y:=by
 cases a with
 | ptr id off=>
  simp only [behind] at hb;split at hb
  ·next cs hh=>
   injection hb with hb;subst hb;obtain ⟨b,cvs,T,h1,h2,h3,h4,h5⟩:=hX.blk id cs hh;cases hr with
   | ptr hid k=>
   obtain ⟨b',e1,e2⟩:=k cs hh;rw [h1] at e1;injection e1 with e1;subst e1;refine ⟨b,off,cvs.toList.drop off,e2,by simp [h3],fun i y hy=>?_,fun i a y h6 h7=>?_⟩
   ·rw [aZ h2];simpa using hy
   ·rw [List.getElem?_drop] at h6 h7;exact h5 _ a y h6 (by simpa using h7)
  ·cases hb
 | ap id n off=>
  simp only [behind] at hb;split at hb
  ·next T s cs fz hh=>
   split at hb
   ·next hl=>
    injection hb with hb;subst hb;cases hr with
    | ap hid k=>
    obtain ⟨_,k⟩:=k T s cs fz hh;obtain ⟨b',e1,e2⟩:=k hl;obtain ⟨g1,g2,n',g3,g4⟩:=hX.arr id T s cs fz hh;rcases g4 with g4 | ⟨b,cvs,g4⟩
    ·rw [g4.1] at e1;cases e1
    ·rw [g4.at_] at e1;injection e1 with e1;subst e1;have hle:cs.length≤cvs.size:=by rw [g4.sz,g3];exact Nat.mul_le_mul_right _ g4.cap
     refine ⟨b,off,(cvs.toList.take cs.length).drop off,e2,by simp;omega,fun i y hy=>?_,fun i a y h6 h7=>?_⟩
     ·rw [List.getElem?_drop,List.getElem?_take] at hy;split at hy
      ·rw [aZ g4.blk];simpa using hy
      ·cases hy
     ·rw [List.getElem?_drop] at h6 h7;rw [List.getElem?_take] at h7;split at h7
      ·exact g4.rep _ a y h6 (by simpa using h7)
      ·cases h7
   ·cases hb
  ·cases hb
 | tp cs=>
  simp only [behind] at hb;injection hb with hb;subst hb;cases hr with
  | tp hc hp k=>exact ⟨_,_,_,rfl,hc,fun i y hy=>(hp i y hy).1,k⟩
 | _=>cases hb
def qE (P:Program) (h:Hp) (T:TypeId) (a:AV):Option AV:=(behind h a).bind (takeA P T)
theorem E5 {cells:List AV}  (h:takeA P T cells=some l) (hs:szP P T≠some 0):0<cells.length:=by
 unfold takeA at h;split at h
 ·exact (List.getElem?_eq_some_iff.1 h).1
 ·next s e1 e2=>
  split at h
  ·next hle=>
   rcases Nat.eq_zero_or_pos s with h0 | h0
   ·rw [h0] at e2;exact absurd e2 hs
   ·omega
  ·cases h
 ·cases h
theorem VP (hX:Ok X) (h:qE P X.h T a=some l) (hs:szP P T≠some 0) (hr:Rep X a x): ∃ v,(Instr.loadAt T x).run P X.w= .ok v X.w∧Rep X l v:=by
 unfold qE at h;cases hb:behind X.h a with
 | none=>rw [hb] at h;cases h
 | some cells=>
  rw [hb] at h;obtain ⟨b,off,cvs,rfl,h1,h2,h3⟩:=EZ hX hb hr (E5 h hs);exact BO h h1 h2 h3
def bQ (h:Hp):AV→Bool
 | .own id n=>match h[id]? with
  | some (some (.arr _ s cells _))=>decide (cells.length=n*s)
  | _=>false
 | .ap id n _=>match h[id]? with
  | some (some (.arr _ s cells _))=>decide (cells.length=n*s)
  | _=>false
 | .ptr id _=>match h[id]? with
  | some (some (.blk _))=>true
  | _=>false
 | .mp id=>match h[id]? with
  | some (some (.map _))=>true
  | _=>false
 | _=>true
variable {id:Nat}
theorem qF (h:bQ X.h (.own id n)=true) (hr:Rep X (.own id n) x):x=aY (X.m id) n:=by
 simp only [bQ] at h;split at h
 ·next T s cells fz hh=>
  cases hr with
  | own hid k=>exact (k _ _ _ _ hh).2 (of_decide_eq_true h)
 ·cases h
theorem BP (h:bQ X.h (.ptr id off)=true) (hr:Rep X (.ptr id off) x): ∃ b,x= .pointer (some ⟨b,off,none⟩):=by
 simp only [bQ] at h;split at h
 ·next cells hh=>
  cases hr with
  | ptr hid k=>obtain ⟨b,_,e⟩:=k _ hh;exact ⟨b,e⟩
 ·cases h
theorem G8 (h:bQ X.h (.ap id n off)=true) (hr:Rep X (.ap id n off) x): ∃ b,x= .pointer (some ⟨b,off,none⟩):=by
 simp only [bQ] at h;split at h
 ·next T s cells fz hh=>
  cases hr with
  | ap hid k=>obtain ⟨b,_,e⟩:=(k _ _ _ _ hh).2 (of_decide_eq_true h);exact ⟨b,e⟩
 ·cases h
theorem PK (h:bQ X.h (.mp id)=true) (hr:Rep X (.mp id) x): ∃ b,x= .map (some b):=by
 simp only [bQ] at h;split at h
 ·next es hh=>
  cases hr with
  | mp hid k=>obtain ⟨b,_,e⟩:=k _ hh;exact ⟨b,e⟩
 ·cases h
def cellsA (h:Hp):AV→Option (List AV)
 | .g l=>some l
 | .v (.agg cs)=>some (cs.toList.map .v)
 | .none | .tup _=>none
 | a=>if bQ h a then some [a] else none
theorem iT (h:Rep X a x) (hx:x.cells= #[x]):fJ X [a] x.cells.toList:=by
 rw [hx];refine ⟨rfl,fun i a' y h1 h2=>?_⟩;cases i with
 | zero=>simp at h1 h2;subst h1 h2;exact h
 | succ i=>simp at h1
theorem rZ {l:List AV}  (h:cellsA X.h a=some l) (hr:Rep X a x):fJ X l x.cells.toList:=by
 have hr':=hr;cases hr with
 | v x=>
  cases x with
  | agg cs=>
   simp only [cellsA] at h;injection h with h;subst h;refine ⟨by simp [Value.cells],fun i a y h1 h2=>?_⟩;simp only [Value.cells] at h2;rw [List.getElem?_map,h2] at h1;injection h1 with h1;subst h1;exact .v y
  | _=>
   simp only [cellsA,bQ,if_true] at h;injection h with h;subst h;exact iT hr' rfl
 | none x=>cases h
 | tup hc hr=>cases h
 | g hc hr=>
  simp only [cellsA] at h;injection h with h;subst h;exact ⟨by simp [Value.cells,hc],fun i a y h1 h2=>hr i a y h1 (by simpa [Value.cells] using h2)⟩
 | t hl hc hn hcap hp hr=>
  simp only [cellsA,bQ,if_true] at h;injection h with h;subst h;exact iT hr' rfl
 | tp hc hp hr=>
  simp only [cellsA,bQ,if_true] at h;injection h with h;subst h;exact iT hr' rfl
 | fn h1 h2 r1 r2=>
  simp only [cellsA,bQ,if_true] at h;injection h with h;subst h;exact iT hr' rfl
 | ifc k=>
  simp only [cellsA,bQ,if_true] at h;injection h with h;subst h;exact iT hr' rfl
 | e0 b=>
  simp only [cellsA,bQ,if_true] at h;injection h with h;subst h;exact iT hr' rfl
 | @own id n x hid k=>
  simp only [cellsA] at h;split at h
  ·next hl=>
   injection h with h;subst h;have e:=qF hl hr';subst e;exact iT hr' rfl
  ·cases h
 | @ptr id off x hid k=>
  simp only [cellsA] at h;split at h
  ·next hl=>
   injection h with h;subst h;obtain ⟨b,e⟩:=BP hl hr';subst e;exact iT hr' rfl
  ·cases h
 | @ap id n off x hid k=>
  simp only [cellsA] at h;split at h
  ·next hl=>
   injection h with h;subst h;obtain ⟨b,e⟩:=G8 hl hr';subst e;exact iT hr' rfl
  ·cases h
 | @mp id x hid k=>
  simp only [cellsA] at h;split at h
  ·next hl=>
   injection h with h;subst h;obtain ⟨b,e⟩:=PK hl hr';subst e;exact iT hr' rfl
  ·cases h
 | tm hb hm hl hk k=>
  simp only [cellsA,bQ,if_true] at h;injection h with h;subst h;exact iT hr' rfl
end
section
open Go.RowKit
def dW (l:List AV):Nat→List AV→List AV
 | _,[]=>l
 | o,a::r=>dW (l.set o a) (o+1) r
def Ob.Js (o:Ob):Nat→List AV→Ob
 | _,[]=>o
 | off,a::r=>(o.set off a).Js (off+1) r
theorem Jt: ∀ (l:List AV) (cells:List AV) (off:Nat),(Ob.blk cells).Js off l= .blk (dW cells off l)
 | [],_,_=>rfl
 | a::r,cells,off=>by rw [Ob.Js,dW];exact Jt r _ _
theorem BQ (T:TypeId) (s fz:Nat): ∀ (l:List AV) (cells:List AV) (off:Nat),(Ob.arr T s cells fz).Js off l= .arr T s (dW cells off l) fz
 | [],_,_=>rfl
 | a::r,cells,off=>by rw [Ob.Js,dW];exact BQ T s fz r _ _
theorem RP (o:Ob) (off:Nat) (a:AV):(o.set off a).cells.length=o.cells.length:=by cases o<;>simp [Ob.set,Ob.cells]
theorem afE (o:Ob) (off k:Nat) (a:AV) (h:o.wr k):(o.set off a).wr k:=by cases o<;>exact h
theorem Ok.abe {id b:Nat}: ∀ (xs:List Value) (as:List AV) (off:Nat) (X:Cx) (o:Ob),Ok X→X.h[id]? =some (some o)→(X.m id).1=some b→off+xs.length≤o.cells.length→(∀ k,off≤k→o.wr k)→fJ X as xs→
  ∃ Y:Cx,Y.w=X.w.setCells b off xs∧Y.h=X.h.set id (some (o.Js off as))∧Step X Y∧Ok Y
 | [],as,off,X,o,hX,h,hb,hl,hw,hr=>by
  have:as=[]:=List.eq_nil_of_length_eq_zero (by have:=hr.1;simp at this;omega);subst this;exact ⟨X,rfl,by rw [Ob.Js,vT h],Step.refl X,hX⟩
 | x::xs,[],off,X,o,hX,h,hb,hl,hw,hr=>by have:=hr.1;simp at this
 | x::xs,a::as,off,X,o,hX,h,hb,hl,hw,hr=>by
  simp only [List.length_cons] at hl;have hid:id<X.h.length:=(List.getElem?_eq_some_iff.1 h).1;have hra:Rep X a x:=hr.2 0 a x rfl rfl;have S:=Step.put x a hX h hb (by omega) (hw off (Nat.le_refl _));have K:=Ok.put hX h hb (by omega) (hw off (Nat.le_refl _)) hra;obtain ⟨Y,e1,e2,S2,K2⟩:=Ok.abe xs as (off+1) (X.put id b off x o a) (o.set off a) K (by simp only [Cx.put];rw [List.getElem?_set_self hid]) hb (by rw [RP];omega) (fun k hk=>afE _ _ _ _ (hw k (by omega)))
   ⟨by have:=hr.1;simp at this;omega,fun i a' y h1 h2=>(hr.2 (i+1) a' y (by simpa using h1) (by simpa using h2)).mono S⟩
  refine ⟨Y,e1,?_,S.trans hX S2,K2⟩;rw [e2,Ob.Js];simp only [Cx.put,List.set_set]
def kE (h:Hp):AV→Bool
 | .v x=>x.oneCell'
 | .g _ | .tup _ | .none=>false
 | a=>bQ h a
variable {X:Cx}{a:AV}
theorem abf {x:Value} (h:kE X.h a=true) (hr:Rep X a x):x.oneCell'=true:=by
 have hr':=hr;cases hr with
 | v x=>exact h
 | none x=>cases h
 | tup hc hr=>cases h
 | g hc hr=>cases h
 | own hid k=>rw [qF h hr'];rfl
 | ptr hid k=>obtain ⟨b,e⟩:=BP h hr';rw [e];rfl
 | ap hid k=>obtain ⟨b,e⟩:=G8 h hr';rw [e];rfl
 | mp hid k=>obtain ⟨b,e⟩:=PK h hr';rw [e];rfl
 | _=>rfl
def uK (P:Program) (h:Hp) (T:TypeId) (a x:AV):Option Hp:=
 (cellsA h x).bind fun l=>
  if szP P T=some l.length∧l.all (kE h)=true then
   match a with
   | .ptr id off=>match h[id]? with
    | some (some (.blk cells))=>if off+l.length≤cells.length then some (h.set id (some (.blk (dW cells off l)))) else none
    | _=>none
   | .ap id n off=>match h[id]? with
    | some (some (.arr T s cells fz))=>if cells.length=n*s∧fz≤off∧off+l.length≤cells.length then some (h.set id (some (.arr T s (dW cells off l) fz))) else none
    | _=>none
   | _=>none
  else none
variable {P:Program}{T:TypeId}{v:Value}
theorem E8 {w:World}  {b off:Nat}  {cvs:Array Value} {T2:TypeId} (hs:szP P T=some v.cells.toList.length) (hb:w.heap[b]? =some (.cells cvs T2 (0,0))) (hl:off+v.cells.toList.length≤cvs.size)
  (h1: ∀ u∈v.cells.toList,u.oneCell'=true):(Instr.storeAt T (.pointer (some ⟨b,off,none⟩)) v).run P w= .ok () (w.setCells b off v.cells.toList):=by
 obtain ⟨i,hi,hsi⟩:=lK hs;have hst:=run_storeCells_cells (P:=P) b off v.cells.toList 0 w (fun j hj=>by
   have:w.cell? ⟨b,off+0+j,none⟩=cvs[off+0+j]? :=aZ hb;rw [this,Array.getElem?_eq_getElem (by omega)];rfl) (fun j hj=>by simp [World.frozen?,hb]) h1
 rw [Nat.add_zero] at hst;simp only [Array.length_toList] at hsi;simp only [Instr.storeAt,Instr.sureAddr,storeVar,Sem.run_bind,Sem.run_pure,Result.andThen_ok,sizeOf,typeInfo];simp [hi,hsi,hst]
theorem Ju {l:List AV} {xs:List Value} (h:l.all (kE X.h)=true) (hr:fJ X l xs): ∀ u∈xs,u.oneCell'=true:=by
 intro u hu;obtain ⟨i,hi,e⟩:=List.mem_iff_getElem.1 hu;have h1:i<l.length:=by rw [←hr.1];exact hi
 exact abf (List.all_eq_true.1 h l[i] (List.getElem_mem h1)) (hr.2 i l[i] u (List.getElem?_eq_getElem h1) (by rw [List.getElem?_eq_getElem hi,e]))
variable {p:Value}
theorem RQ {x:AV}  {h':Hp} (hX:Ok X) (h:uK P X.h T a x=some h') (ha:Rep X a p) (hx:Rep X x v):
  ∃ Y,(Instr.storeAt T p v).run P X.w= .ok () Y.w∧Step X Y∧Ok Y∧Y.h=h':=by
 unfold uK at h;cases hc:cellsA X.h x with
 | none=>rw [hc] at h;cases h
 | some l=>
  rw [hc] at h;simp only [Option.bind_some] at h;split at h
  ·next hcond=>
   obtain ⟨hsz,hall⟩:=hcond;have hR:=rZ hc hx;have hone:=Ju hall hR;have hlen:v.cells.toList.length=l.length:=hR.1;cases a with
   | ptr id off=>
    simp only at h;split at h
    ·next cells hh=>
     split at h
     ·next hle=>
      injection h with h;subst h;obtain ⟨b,cvs,T2,h1,h2,h3,h4,h5⟩:=hX.blk id cells hh;cases ha with
      | ptr hid k=>
      obtain ⟨b',e1,e2⟩:=k _ hh;rw [h1] at e1;injection e1 with e1;subst e1;obtain ⟨Y,y1,y2,y3,y4⟩:=Ok.abe (id:=id) (b:=b) v.cells.toList l off X (.blk cells) hX hh h1 (by simp only [Ob.cells];omega) (fun k _=>trivial) hR;refine ⟨Y,?_,y3,y4,by rw [y2,Jt]⟩;rw [y1,e2];exact E8 (by rw [hsz,hlen]) h2 (by omega) hone
     ·cases h
    ·cases h
   | ap id n off=>
    simp only at h;split at h
    ·next T' s cells fz hh=>
     split at h
     ·next hle=>
      injection h with h;subst h;obtain ⟨g1,g2,n',g3,g4⟩:=hX.arr id T' s cells fz hh;cases ha with
      | ap hid k=>
      obtain ⟨b',e1,e2⟩:=(k _ _ _ _ hh).2 hle.1;rcases g4 with g4 | ⟨b,cvs,g4⟩
      ·rw [g4.1] at e1;cases e1
      ·rw [g4.at_] at e1;injection e1 with e1;subst e1;have hle2:cells.length≤cvs.size:=by rw [g4.sz,g3];exact Nat.mul_le_mul_right _ g4.cap
       obtain ⟨Y,y1,y2,y3,y4⟩:=Ok.abe (id:=id) (b:=b) v.cells.toList l off X (.arr T' s cells fz) hX hh g4.at_ (by simp only [Ob.cells];omega) (fun k hk=>by show fz≤k;omega) hR;refine ⟨Y,?_,y3,y4,by rw [y2,BQ]⟩;rw [y1,e2];exact E8 (by rw [hsz,hlen]) g4.blk (by omega) hone
     ·cases h
    ·cases h
   | _=>cases h
  ·cases h
def oC (h:Hp) (a:AV) (o:Nat):Option AV:=if bQ h a then
 match a with
 | .ptr id off=>some (.ptr id (off+o))
 | .ap id n off=>some (.ap id n (off+o))
 | .tp cells=>some (.tp (cells.drop o))
 | _=>none
 else none
variable {r:AV}
theorem Fa {o:Nat}  (h:oC X.h a o=some r) (hr:Rep X a p): ∃ b off,p= .pointer (some ⟨b,off,none⟩)∧Rep X r (.pointer (some ⟨b,off+o,none⟩)):=by
 unfold oC at h;split at h
 ·next hl=>
  cases a with
  | ptr id off=>
   injection h with h;subst h;have hl2:=hl;simp only [bQ] at hl2;split at hl2
   ·next cells hh=>
    cases hr with
    | ptr hid k=>
    obtain ⟨b,e1,e2⟩:=k _ hh;exact ⟨b,off,e2, .ptr hid fun c hc=>⟨b,e1,rfl⟩⟩
   ·cases hl2
  | ap id n off=>
   injection h with h;subst h;have hl2:=hl;simp only [bQ] at hl2;split at hl2
   ·next T s cells fz hh=>
    cases hr with
    | ap hid k=>
    obtain ⟨b,e1,e2⟩:=(k _ _ _ _ hh).2 (of_decide_eq_true hl2);refine ⟨b,off,e2, .ap hid fun T' s' c f hc=>?_⟩;obtain ⟨q1,q2⟩:=k _ _ _ _ hc;exact ⟨q1,fun hn=>⟨b,e1,rfl⟩⟩
   ·cases hl2
  | tp cells=>
   injection h with h;subst h;cases hr with
   | @tp _ b off cvs hc hp k=>
   refine ⟨b,off,rfl, .tp (cvs:=cvs.drop o) (by simp [hc]) (fun i x hx=>?_) (fun i a x h1 h2=>?_)⟩
   ·rw [List.getElem?_drop] at hx;rw [Nat.add_assoc];exact hp _ x hx
   ·rw [List.getElem?_drop] at h1 h2;exact k _ a x h1 h2
  | _=>cases h
 ·cases h
def uM (P:Program) (h:Hp) (S:TypeId) (a:AV) (f:Nat):Option AV:=(aV P S f).bind fun ot=>if szP P ot.2=some 0 then none else (szP P ot.2).bind fun _=>oC h a ot.1
theorem RS {S:TypeId}  {f:Nat}  (h:uM P X.h S a f=some r) (hr:Rep X a p): ∃ v,(Instr.fieldAt S p f).run P X.w= .ok v X.w∧Rep X r v:=by
 unfold uM at h;cases hf:aV P S f with
 | none=>rw [hf] at h;cases h
 | some ot=>
  obtain ⟨o,T⟩:=ot;rw [hf] at h;simp only [Option.bind_some] at h;split at h
  ·cases h
  ·next h0=>
   cases hs:szP P T with
   | none=>rw [hs] at h;cases h
   | some s=>
    rw [hs] at h h0;simp only [Option.bind_some] at h;obtain ⟨b,off,rfl,hr2⟩:=Fa h hr;obtain ⟨fs,x,hu,hx,e1,e2⟩:=VO hf;obtain ⟨i,hi,hsi⟩:=lK hs;have hi0: ¬ i.size=0:=fun e=>h0 (by rw [hsi] at e;rw [e])
    refine ⟨_,?_,hr2⟩;subst e1 e2;simp [Instr.fieldAt,run_underlying hu,hx,Instr.sureAddr,fieldPlace,sizeOf,typeInfo,hi,hi0,pU]
def qB:AV→Option Int
 | .v (.int _ z)=>some z
 | _=>none
theorem Am {z:Int}  (h:qB a=some z) (hr:Rep X a v): ∃ k,v= .int k z:=by
 cases a with
 | v x=>
  cases hr with
  | v _=>
   cases v<;>simp [qB] at h;exact ⟨_,by rw [h]⟩
 | _=>cases h
def G9 (P:Program) (h:Hp) (T:TypeId) (a:AV) (z:Int):Option AV:=
 match aG P T with
 | some e=>(szP P e).bind fun s=>match a with
  | .t n s' cells=>if s'=s∧0≤z∧z<n then some (.tp (cells.drop (z.toNat*s))) else none
  | .own id n=>if bQ h (.own id n)∧0≤z∧z<n then some (.ap id n (z.toNat*s)) else none
  | _=>none
 | none=>match bM P T with
  | some (n,e)=>(szP P e).bind fun s=>if 0≤z∧z<n then oC h a (z.toNat*s) else none
  | none=>none
theorem abg {ia:AV} {z:Int} {iv:Value} (hX:Ok X) (h:G9 P X.h T a z=some r) (hr:Rep X a p) (hi:qB ia=some z) (hri:Rep X ia iv):
  ∃ v,(Instr.indexAt T p iv).run P X.w= .ok v X.w∧Rep X r v:=by
 obtain ⟨k,rfl⟩:=Am hi hri;unfold G9 at h;split at h
 ·next e he=>
  have hu:=dF he;cases hs:szP P e with
  | none=>rw [hs] at h;cases h
  | some s=>
   obtain ⟨i,hii,hsi⟩:=lK hs;rw [hs] at h;simp only [Option.bind_some] at h;cases a with
   | t n s' cells=>
    simp only at h;split at h
    ·next hc=>
     obtain ⟨rfl,h0,h1⟩:=hc;injection h with h;subst h;cases hr with
     | @t _ _ _ pa cap cvs hl hc hn hcap hp hrr=>
     obtain ⟨b,off,e1,hq⟩:=hp (by omega);subst e1;refine ⟨.pointer (some ⟨b,off+z.toNat*s',none⟩),?_, .tp (cvs:=cvs.drop (z.toNat*s')) (by simp [hc]) (fun j x hx=>?_) (fun j a x q1 q2=>?_)⟩
     ·simp [Instr.indexAt,asIntOf,run_underlying hu,h0,h1,sizeOf,typeInfo,hii,hsi,pU]
     ·rw [List.getElem?_drop] at hx;rw [Nat.add_assoc];exact hq _ x hx
     ·rw [List.getElem?_drop] at q1 q2;exact hrr _ a x q1 q2
    ·cases h
   | own id n=>
    simp only at h;split at h
    ·next hc=>
     obtain ⟨hl,h0,h1⟩:=hc;injection h with h;subst h;have e2:=qF hl hr;simp only [bQ] at hl;split at hl
     ·next T' s' cells fz hh=>
      have hn:=of_decide_eq_true hl;obtain ⟨g1,g2,n',g3,g4⟩:=hX.arr id T' s' cells fz hh;have hnn:n'=n:=Nat.eq_of_mul_eq_mul_right g2 (by rw [←g3, ←hn]);subst hnn;rcases g4 with ⟨_,g4⟩ | ⟨b,cvs,g4⟩
      ·rw [g4] at hn;rcases Nat.mul_eq_zero.1 hn.symm with q | q<;>omega
      ·cases hr with
       | own hid kk=>
       refine ⟨.pointer (some ⟨b,z.toNat*s,none⟩),?_, .ap hid fun T2 s2 c2 f2 hc2=>⟨(kk _ _ _ _ hc2).1,fun hn2=>⟨b,g4.at_,rfl⟩⟩⟩;rw [e2];simp [aY,g4.at_,Instr.indexAt,asIntOf,run_underlying hu,h0,h1,sizeOf,typeInfo,hii,hsi,pU]
     ·cases hl
    ·cases h
   | _=>cases h
 ·split at h
  ·next n e ha=>
   have hu:=G7 ha;cases hs:szP P e with
   | none=>rw [hs] at h;cases h
   | some s=>
    obtain ⟨i,hii,hsi⟩:=lK hs;rw [hs] at h;simp only [Option.bind_some] at h;split at h
    ·next hc=>
     obtain ⟨b,off,rfl,hr2⟩:=Fa h hr;refine ⟨_,?_,hr2⟩;simp [Instr.indexAt,asIntOf,run_underlying hu,Instr.sureAddr,hc.1,hc.2,sizeOf,typeInfo,hii,hsi,pU]
    ·cases h
  ·cases h
end
end Go.Proofs.YtljfgdlgmdcmfaaGreat.Wv
