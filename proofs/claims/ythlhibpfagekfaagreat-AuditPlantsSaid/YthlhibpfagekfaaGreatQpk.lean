/- Parts of a proof. -/
import Derived.Test.YthlhibpfagekfaaGreatQpd
import Derived.TacticsIn
import Derived.OrdersIn
import Derived.Test.YthlhibpfagekfaaGreatQpf
import Derived.Test.YthlhibpfagekfaaGreatQpj
import Derived.Recover
import Derived.Deep.RegionHeldLaw
set_option linter.unusedVariables false
set_option linter.unusedSimpArgs false
set_option maxHeartbeats 3200000
set_option maxRecDepth 100000
namespace Go.Proofs.YthlhibpfagekfaaGreat.Wv
section
open Go.RowKit
abbrev Rnd (l:Nat):Fence:=Fence.wide.inRound l
def noD (o:Oper):Bool:=match o.op with
 | .defer _=>false
 | _=>true
def inB:Code→Bool
 | .region _ ops _=>ops.toList.all noD
 | .seq a b=>inB a && inB b
 | .cond _ a b=>inB a && inB b
 | .block _ b=>inB b
 | .loop b=>inB b
 | .scope _=>false
 | .rangeFunc .. =>false
 | _=>true
theorem noD_ne {o:Oper} (h:noD o=true): ∀ c,o.op≠ .defer c:=fun c e=>by unfold noD at h;rw [e] at h;cases h
theorem op_in {P : Program} {o : Oper} {a : Act} {w : World} {next : Act → World → Prop} {Q : Exit → Act → World → Prop} {l n : Nat} (hd : ∀ c, o.op ≠ .defer c) (h : o.wp P a w next Q) : o.wpIn (Rnd l) n P a w next Q := by
  refine ⟨fun _ _ => trivial, ?_⟩;rw [Oper.semAt_eq _ _ _ hd];unfold Oper.wp at h;revert h;cases (execOp a.eval o).run P w with
  | ok x w' =>
    cases x <;> simp only [Oper.upon, Oper.uponIn] <;> intro h <;> first
      | exact h
      | exact h.elim
      | exact And.intro (fun e => by cases e) ((((callsIn_wide (n := n - 1)).2 h).inRound l).mono (fun e w'' q => by cases e <;> exact q))
      | (refine And.intro (fun e => by cases e) (fun c cs _ => ?_)
         obtain ⟨v, w', r, s⟩ := h c cs;exact ⟨v, w', r, stepsIn_wide.2 s⟩)
  | halt x w' => cases x <;> simp only [Oper.upon, Oper.uponIn] <;> intro h <;> first | exact h | exact h.elim
theorem ops_in {P:Program} {ops:Array Oper} {Q:Exit→Act→World→Prop} {r n:Nat} (hd:ops.toList.all noD=true) (hQ: ¬ LetsOut Q): ∀ (l:List Nat) (a:Act) (w:World),wpOps P ops Q l a w→wpOpsIn (Rnd r) n P ops Q l a w
 | [],a,w,h=>h
 | i::l,a,w,h=>by
  rw [wpOps_cons] at h;rw [wpOpsIn_cons];unfold wpOp at h;unfold wpOpIn;split at h
  ·next ho=>simp only [ho];exact ops_in hd hQ l a w h
  ·next o ho=>
   simp only [ho];split at h
   ·next hw=>
    rw [if_pos hw];rcases h with h | h
    ·refine op_in (noD_ne (List.all_eq_true.1 hd o (List.mem_of_getElem? (i:=i) (by rw [Array.getElem?_toList];exact ho)))) ?_;exact Oper.wp_mono (fun a w q=>ops_in hd hQ l a w q) h
    ·exact absurd h.2 hQ
   ·next hw=>rw [if_neg hw];exact ⟨fun _ _=>trivial,ops_in hd hQ l _ w h⟩
theorem any_in {P:Program} {ops:Array Oper} {Q:Exit→Act→World→Prop} {r n:Nat} (hd:ops.toList.all noD=true) (hQ: ¬ LetsOut Q): ∀ (f:Nat) (listed:Array Bool) (a:Act) (w:World),wpAny P .any ops Q f listed a w→wpAnyIn (Rnd r) n P .any ops Q f listed a w
 | 0,listed,a,w,h=>h
 | f+1,listed,a,w,h=>by
  refine ⟨h.1,fun i hi=>?_⟩;have h:=h.2 i hi;unfold wpOp at h;unfold wpOpIn;split at h
  ·next ho=>simp only [ho];exact any_in hd hQ f _ a w h
  ·next o ho=>
   simp only [ho];split at h
   ·next hw=>
    rw [if_pos hw];rcases h with h | h
    ·refine op_in (noD_ne (List.all_eq_true.1 hd o (List.mem_of_getElem? (i:=i) (by rw [Array.getElem?_toList];exact ho)))) ?_;exact Oper.wp_mono (fun a w q=>any_in hd hQ f _ a w q) h
    ·exact absurd h.2 hQ
   ·next hw=>rw [if_neg hw];exact ⟨fun _ _=>trivial,any_in hd hQ f _ _ w h⟩
theorem least {p:Nat→Prop} (h: ∃ n,p n): ∃ n,p n∧ ∀ m,m<n→ ¬ p m:=by
 obtain ⟨n,hn⟩:=h;induction n using Nat.strongRecOn with
 | _ n ih=>
  by_cases hq: ∃ m,m<n∧p m
  ·obtain ⟨m,h1,h2⟩:=hq;exact ih m h1 h2
  ·exact ⟨n,hn,fun m hm hp=>hq ⟨m,hm,hp⟩⟩
theorem wpIn_loop_some {F:Fence} {n:Nat} {P:Program} {Q:Exit→Act→World→Prop} {a:Act} {w:World} {c:Code} (J:Nat→Act→World→Prop) (m:Nat) (h0:J m a w)
  (hr: ∀ m a w,J m a w→c.wpIn F n P (Exit.then (fun a' w'=> ∃ m',m'<m∧J m' a' w') Q) a w):(Code.loop c).wpIn F n P Q a w:=by
 classical
 obtain ⟨μ,hμ⟩: ∃ μ :Act→World→Nat, ∀ a w,(∃ m,J m a w)→J (μ a w) a w∧ ∀ m,m< μ a w→ ¬ J m a w:=
  ⟨fun a w=>if h: ∃ m,J m a w then Classical.choose (least h) else 0,fun a w h=>by simp only [dif_pos h];exact Classical.choose_spec (least h)⟩
 refine wpIn_loop (fun a w=> ∃ m,J m a w) μ ⟨m,h0⟩ fun a w hI=>?_
 refine wpIn_mono (hr _ a w (hμ a w hI).1) fun e a' w' q=>?_
 cases e with
 | normal=>
  obtain ⟨m',h1,h2⟩:=q;refine ⟨⟨m',h2⟩,?_⟩;apply Nat.lt_of_not_le;intro hle;exact (hμ a' w' ⟨m',h2⟩).2 m' (by omega) h2
 | _=>exact q
theorem postOf_in {n0:Nat} {X:Cx} {N:Nat} {Q:PostW}: ¬ LetsOut (PostOf n0 X N Q):=fun ⟨_,_,h⟩=>h
theorem code_in {P:Program} (hmix:P.follows .mixedOrders=true) {N:Nat} {L:List Nat} {ks:List (Nat × Nat)} {r n:Nat} (hes: ∀ id,kOf ks id≠1000000): ∀ (c:Code) (Q:PostW) (X:Cx) (e:Ev) (a:Act),okCode N ks c=true→inB c=true→base ks≤X.h.length→Ok X→EnvOk X N e a→wCode P N L ks c Q e X.h→c.wpIn (Rnd r) n P (PostOf (base ks) X N Q) a X.w
 | .skip,Q,X,e,a,_,_,hn,hX,hE,h=>wpIn_skip ((PostOf.intro ((Step.refl X).toN hn) hX hE).1 h)
 | .ret,Q,X,e,a,_,_,hn,hX,hE,h=>wpIn_ret ((PostOf.intro ((Step.refl X).toN hn) hX hE).2.2 h)
 | .exit id,Q,X,e,a,_,_,hn,hX,hE,h=>wpIn_exit ((PostOf.intro ((Step.refl X).toN hn) hX hE).2.1 id h)
 | .label l,Q,X,e,a,_,_,hn,hX,hE,h=>wpIn_label ((PostOf.intro ((Step.refl X).toN hn) hX hE).1 h)
 | .scope b,Q,X,e,a,hk,hi,hn,hX,hE,h=>by cases hi
 | .rangeFunc f ps ag b,Q,X,e,a,hk,hi,hn,hX,hE,h=>by cases hi
 | .region id ops false,Q,X,e,a,hk,hi,hn,hX,hE,h=>by
  refine wpIn_region (ops_in hi postOf_in _ _ _ ?_);have:=wOps_wp (P:=P) (Q:=PostOf (base ks) X N Q) (ops:=ops) (e1:=delE ops.toList e) (fun o ho=>delE_out ho e) hk ops.toList 0 X e a _ (fun i=>by rw [List.drop_zero]) hX hE (hE.del _) h
   (fun Y av v a' S hY hEY hr hp=>⟨v,av,Y,_,rfl,rfl,S.toN hn,hY,hEY,hr,hp⟩) (fun Y e' a' S hY hEY hq=>(PostOf.intro (S.toN hn) hY (hEY.keep L)).1 hq)
  rw [Array.length_toList, ←List.range_eq_range'] at this;exact this
 | .region id ops true,Q,X,e,a,hk,hi,hn,hX,hE,h=>by
  refine wpIn_region_any hmix (any_in hi postOf_in _ _ _ _ ?_);have h':wDraw (kOf ks id) (escE P N ks id ops Q e X.h) _:=h;unfold wDraw at h';rw [if_neg (hes id)] at h';have hk':drawB N (kOf ks id) ops=true:=by
   have h0:(drawB N (kOf ks id) ops || decide (kOf ks id=1000000))=true:=hk;rw [alB (hes id),Bool.or_false] at h0;exact h0
  exact draw_pre (id:=id) hmix _ _ hk' hX hE h' (fun Y av v a' S hY hEY hr hp=>⟨v,av,Y,_,rfl,rfl,S.toN hn,hY,hEY,hr,hp⟩) fun Y e' a' S hY hEY hq=>(PostOf.intro (S.toN hn) hY (hEY.keep L)).1 hq
 | .seq x y,Q,X,e,a,hk,hi,hn,hX,hE,h=>by
  simp only [okCode,Bool.and_eq_true] at hk;simp only [inB,Bool.and_eq_true] at hi;refine wpIn_seq (wpIn_mono (code_in hmix hes x _ X e a hk.1 hi.1 hn hX hE h) ?_);intro ex a' w' hp;have:=hp.elim;cases this with
  | ok z ex Y e' a' S hY hEY hq hx=>
   rcases hx with ⟨rfl,rfl⟩ | ⟨i,rfl,rfl⟩ | ⟨rfl,rfl⟩ | ⟨v,av,rfl,rfl,hr⟩
   ·exact wpIn_mono (code_in hmix hes y Q Y e' a' hk.2 hi.2 S.len hY hEY hq) fun ex a2 w2 hp2=>hp2.map hX S fun _ _ _ q=>q
   ·exact (PostOf.intro S hY hEY).2.1 i hq
   ·exact (PostOf.intro S hY hEY).2.2 hq
   ·exact ⟨v,av,Y,e',rfl,rfl,S,hY,hEY,hr,hq⟩
 | .cond c x y,Q,X,e,a,hk,hi,hn,hX,hE,h=>by
  simp only [okCode,Bool.and_eq_true] at hk;simp only [inB,Bool.and_eq_true] at hi;obtain ⟨t,ht,h⟩:=h;have hr:=hE.opnd c;rw [ht] at hr;have hv:a.eval c= .bool t:=by cases h1:a.eval c<;>rw [h1] at hr<;>cases hr;rfl
  refine wpIn_cond hv ?_;cases t
  ·exact code_in hmix hes y Q X e a hk.2 hi.2 hn hX hE (by simpa using h)
  ·exact code_in hmix hes x Q X e a hk.1 hi.1 hn hX hE (by simpa using h)
 | .block id b,Q,X,e,a,hk,hi,hn,hX,hE,h=>by
  refine wpIn_block (wpIn_mono (code_in hmix hes b _ X e a hk hi hn hX hE h) ?_);intro ex a' w' hp;have:=hp.elim;cases this with
  | ok z ex Y e' a' S hY hEY hq hx=>
   rcases hx with ⟨rfl,rfl⟩ | ⟨i,rfl,rfl⟩ | ⟨rfl,rfl⟩ | ⟨v,av,rfl,rfl,hr⟩
   ·exact (PostOf.intro S hY hEY).1 hq
   ·simp only at hq;show (if i=id then PostOf (base ks) X N Q .normal a' Y.w else PostOf (base ks) X N Q (.exit i) a' Y.w);split at hq
    ·next ei=>rw [if_pos ei];exact (PostOf.intro S hY hEY).1 hq
    ·next ei=>rw [if_neg ei];exact (PostOf.intro S hY hEY).2.1 i hq
   ·exact (PostOf.intro S hY hEY).2.2 hq
   ·exact ⟨v,av,Y,e',rfl,rfl,S,hY,hEY,hr,hq⟩
 | .loop b,Q,X,e,a,hk,hi,hn,hX,hE,h=>by
  obtain ⟨I,n₀,e₀,h₀,hent,hI,hround⟩:=h;obtain ⟨Y₀,y1,y2,y3,y4,y5⟩:=hent X a rfl hn hX hE;rw [←y1];refine wpIn_loop_some (fun n a' w'=> ∃ Y e',Y.w=w'∧StepN (base ks) X Y∧Ok Y∧EnvOk Y N e' a'∧I n e' Y.h) n₀ ⟨Y₀,e₀,rfl,y3,y4,y5,by rw [y2];exact hI⟩ ?_;rintro n a' w' ⟨Y,e',rfl,S,hY,hEY,hIY⟩;refine wpIn_mono (code_in hmix hes b _ Y e' a' hk hi S.len hY hEY (hround n e' Y.h hIY)) ?_;intro ex a2 w2 hp;have:=hp.elim;cases this with
  | ok z ex Z e2 a2 S2 hZ hEZ hq hx=>
   rcases hx with ⟨rfl,rfl⟩ | ⟨i,rfl,rfl⟩ | ⟨rfl,rfl⟩ | ⟨v,av,rfl,rfl,hr⟩
   ·obtain ⟨n',e₁,h₁,hent2,hlt,hI2⟩:=hq;obtain ⟨V,v1,v2,v3,v4,v5⟩:=hent2 Z a2 rfl S2.len hZ hEZ;exact ⟨n',hlt,V,e₁,v1,(S.trans hX S2).trans hX v3,v4,v5,by rw [v2];exact hI2⟩
   ·exact (PostOf.intro (S.trans hX S2) hZ hEZ).2.1 i hq
   ·exact (PostOf.intro (S.trans hX S2) hZ hEZ).2.2 hq
   ·exact ⟨v,av,Z,e2,rfl,rfl,S.trans hX S2,hZ,hEZ,hr,hq⟩
 | .goto _,_,_,_,_,_,_,_,_,_,h=>h.elim
 | .refuse _,_,_,_,_,_,_,_,_,_,h=>h.elim
end
section
open Go.RowKit
inductive nt:AV→Prop
 | clo {a:AV} (h:Clo a):nt a
 | own {id n:Nat}:nt (.own id n)
 | ptr {id n:Nat}:nt (.ptr id n)
 | ap {id n o:Nat}:nt (.ap id n o)
 | mp {id:Nat}:nt (.mp id)
 | g {l:List AV} (h: ∀ (a:AV),a∈l→nt a):nt (.g l)
 | tup {l:List AV} (h: ∀ (a:AV),a∈l→nt a):nt (.tup l)
 | fn {f:Fn} {l1 l2:List AV} (h1: ∀ (a:AV),a∈l1→nt a) (h2: ∀ (a:AV),a∈l2→nt a):nt (.fn f l1 l2)
 | ifc {T:TypeId} {a:AV} (h:nt a):nt (.ifc T a)
def ntL (l:List AV):Prop:= ∀ (a:AV),a∈l→nt a
def ntH (m:Nat):Nat→Hp→Prop
 | _,[]=>True
 | k,none::r=>ntH m (k+1) r
 | k,some (.blk c)::r=>ntL c∧ntH m (k+1) r
 | k,some (.arr _ _ c _)::r=>ntL c∧ntH m (k+1) r
 | k,some (.map es)::r=>k<m∧ntL (es.map (·.2))∧ntH m (k+1) r
theorem ntH_get {m:Nat}: ∀ {h:Hp} {k:Nat} (hn:ntH m k h) (i:Nat),(∀ c,h[i]? =some (some (.blk c))→ntL c)∧(∀ T s c fz,h[i]? =some (some (.arr T s c fz))→ntL c)∧(∀ es,h[i]? =some (some (.map es))→k+i<m∧ntL (es.map (·.2)))
 | [],k,_,i=>⟨fun c h=>by simp at h,fun T s c fz h=>by simp at h,fun es h=>by simp at h⟩
 | o::r,k,hn,0=>by
  refine ⟨fun c h=>?_,fun T s c fz h=>?_,fun es h=>?_⟩<;>simp at h<;>subst h
  ·exact hn.1
  ·exact hn.1
  ·exact ⟨hn.1,hn.2.1⟩
 | o::r,k,hn,i+1=>by
  have hr:ntH m (k+1) r:=by
   cases o with
   | none=>exact hn
   | some o=>cases o with
    | blk c=>exact hn.2
    | arr T s c fz=>exact hn.2
    | map es=>exact hn.2.2
  have ih:=ntH_get hr i;refine ⟨fun c h=>ih.1 c (by simpa using h),fun T s c fz h=>ih.2.1 T s c fz (by simpa using h),fun es h=>?_⟩;have:=ih.2.2 es (by simpa using h);exact ⟨by omega,this.2⟩
section
variable {X:Cx} {W':World} {row:Option Nat}
theorem cell_far (hg:X.w.grownBy W' row) (hr: ∀ r,row=some r→ ∃ o:Obj,X.w.heap[r]? =some o∧o.isCells=false) {b off:Nat} {x:Value} (hx:cellAt X.w b off=some x):cellAt W' b off=some x:=by
 have hb:=cellAt_lt hx;have hne:some b≠row:=fun e=>by
  obtain ⟨o,h1,h2⟩:=hr b e.symm;unfold cellAt World.cell? at hx;simp only [h1] at hx;cases o<;>first | (cases h2;done) | simp at hx
 unfold cellAt World.cell? at hx ⊢;rw [hg.block b hb hne];exact hx
theorem Rep.far (hg:X.w.grownBy W' row) (hr: ∀ r,row=some r→ ∃ o:Obj,X.w.heap[r]? =some o∧o.isCells=false) {a:AV} {x:Value} (h:Rep X a x) (hn:nt a):Rep ⟨W',X.m,X.h,X.bad,X.ds⟩ a x:=by
 have K: ∀ b o u,cellAt X.w b o=some u→ ¬ X.bad b o→cellAt W' b o=some u∧ ¬ X.bad b o:=fun b o u h1 h2=>⟨cell_far hg hr h1,h2⟩
 induction h with
 | v x=>exact .v x
 | none x=>exact .none x
 | t hl hc hn' hcap hp hr' ih=>cases hn with | clo h=>exact Rep.clo (Y:=⟨W',X.m,X.h,X.bad,X.ds⟩) (.t hl hc hn' hcap hp hr') h K
 | g hc hr' ih=>
  cases hn with
  | clo h=>exact Rep.clo (Y:=⟨W',X.m,X.h,X.bad,X.ds⟩) (.g hc hr') h K
  | g h=>exact .g hc fun i a x h1 h2=>ih i a x h1 h2 (h a (List.mem_of_getElem? h1))
 | tup hc hr' ih=>
  cases hn with
  | clo h=>exact Rep.clo (Y:=⟨W',X.m,X.h,X.bad,X.ds⟩) (.tup hc hr') h K
  | tup h=>exact .tup hc fun i a x h1 h2=>ih i a x h1 h2 (h a (List.mem_of_getElem? h1))
 | tp hc hp hr' ih=>cases hn with | clo h=>exact Rep.clo (Y:=⟨W',X.m,X.h,X.bad,X.ds⟩) (.tp hc hp hr') h K
 | fn h1 h2 r1 r2 ih1 ih2=>
  cases hn with
  | clo h=>exact Rep.clo (Y:=⟨W',X.m,X.h,X.bad,X.ds⟩) (.fn h1 h2 r1 r2) h K
  | fn q1 q2=>exact .fn h1 h2 (fun i a x g1 g2=>ih1 i a x g1 g2 (q1 a (List.mem_of_getElem? g1))) (fun i a x g1 g2=>ih2 i a x g1 g2 (q2 a (List.mem_of_getElem? g1)))
 | ifc h ih=>
  cases hn with
  | clo h'=>exact Rep.clo (Y:=⟨W',X.m,X.h,X.bad,X.ds⟩) (.ifc h) h' K
  | ifc h'=>exact .ifc (ih h')
 | e0 b=>exact .e0 b
 | own hid h=>exact .own hid h
 | ptr hid h=>exact .ptr hid h
 | ap hid h=>exact .ap hid h
 | mp hid h=>exact .mp hid h
 | tm hb hm hl hk hr' ih=>cases hn with | clo h=>cases h
theorem Ok.far (hX:Ok X) (hg:X.w.grownBy W' row) (hr: ∀ r,row=some r→ ∃ o:Obj,X.w.heap[r]? =some o∧o.isCells=false) {m:Nat} (hn:ntH m 0 X.h) (hm: ∀ id es,X.h[id]? =some (some (.map es))→ ∀ b,(X.m id).1=some b→some b≠row):Ok ⟨W',X.m,X.h,X.bad,X.ds⟩:=by
 have other: ∀ {b:Nat} {cvs:Array Value} {T:TypeId} {fr:Nat × Nat},X.w.heap[b]? =some (.cells cvs T fr)→W'.heap[b]? =some (.cells cvs T fr):=fun {b cvs T fr} h1=>by
  rw [hg.block b (Array.getElem?_eq_some_iff.1 h1).1 (fun e=>by obtain ⟨o,h2,h3⟩:=hr b e.symm;rw [h1] at h2;injection h2 with h2;subst h2;cases h3)];exact h1
 refine ⟨fun id cells hh=>?_,fun id T size cells fz hh=>?_,fun i j b hi hj=>hX.inj i j b hi hj,fun b o hb=>Nat.lt_of_lt_of_le (hX.badlt b o hb) hg.size,fun id es hh=>?_⟩
 ·obtain ⟨b,cvs,T,h1,h2,h3,h4,h5⟩:=hX.blk id cells hh;exact ⟨b,cvs,T,h1,other h2,h3,h4,fun i a x g1 g2=>(h5 i a x g1 g2).far hg hr ((ntH_get hn id).1 cells hh a (List.mem_of_getElem? g1))⟩
 ·obtain ⟨g1,g2,n,g3,g4⟩:=hX.arr id T size cells fz hh;refine ⟨g1,g2,n,g3,?_⟩;rcases g4 with g4 | ⟨b,cvs,g4⟩
  ·exact .inl g4
  ·exact .inr ⟨b,cvs,⟨g4.at_,other g4.blk,g4.cap,g4.capm,g4.sz,g4.bad,fun i a x q1 q2=>(g4.rep i a x q1 q2).far hg hr ((ntH_get hn id).2.1 T size cells fz hh a (List.mem_of_getElem? q1)),g4.good⟩⟩
 ·obtain ⟨b,ents,clock,h1,h2,h3,h4⟩:=hX.map id es hh;refine ⟨b,ents,clock,h1,?_,h3,fun i p e q1 q2=>⟨(h4 i p e q1 q2).1,(h4 i p e q1 q2).2.far hg hr (((ntH_get hn id).2.2 es hh).2 p.2 (List.mem_map.2 ⟨p,List.mem_of_getElem? q1,rfl⟩))⟩⟩;show W'.heap[b]? =_;rw [hg.block b (Array.getElem?_eq_some_iff.1 h2).1 (hm id es hh b h1)];exact h2
end
variable {X:Cx}
theorem StepN.less {m n:Nat} {Y:Cx} (S:StepN m X Y) (h:n≤m):StepN n X Y:=
 ⟨S.os,S.tape,S.output,S.size,S.block,S.keep,Nat.le_trans h S.len,fun i T s c f hi=>S.oarr i T s c f (Nat.lt_of_lt_of_le hi h),fun i c hi=>S.oblk i c (Nat.lt_of_lt_of_le hi h),S.own,S.badk,fun i es hi=>S.omap i es (Nat.lt_of_lt_of_le hi h),S.dse⟩
def RI (X:Cx) (H:Hp→Prop) (W:World):Prop:= ∃ Y,Y.w=W∧StepN X.h.length (X.def_ []) Y∧Ok Y∧H Y.h
theorem RI.own {α:Type}  (hX:Ok X) {H:α→Hp→Prop} (hn: ∀ s h,H s h→ntH X.h.length 0 h):OwnFrom X.w.heap.size (fun s W=>RI X (H s) W):=by
 rintro s W W' row ⟨Y,rfl,S,hY,hH⟩ hg hr;have hr2: ∀ r,row=some r→ ∃ o:Obj,Y.w.heap[r]? =some o∧o.isCells=false:=fun r e=>(hr r e).2
 have hnt:=hn s _ hH;refine ⟨⟨W',Y.m,Y.h,Y.bad,Y.ds⟩,rfl,?_,?_,hH⟩
 ·refine ⟨hg.os.trans S.os,hg.tape.trans S.tape,hg.output.trans S.output,Nat.le_trans S.size hg.size,fun b hb hm=>?_,fun b o x hx hb=>⟨cell_far hg hr2 (S.keep b o x hx hb).1,(S.keep b o x hx hb).2⟩,S.len,S.oarr,S.oblk,S.own,S.badk,S.omap,S.dse⟩;show W'.heap[b]? =_;rw [hg.block b (Nat.lt_of_lt_of_le hb S.size) (fun e=>by have:=(hr b e.symm).1;exact absurd hb (Nat.not_lt_of_le this))];exact S.block b hb hm
 ·refine Ok.far hY hg hr2 hnt fun id es hh b hb e=>?_
  have hid:=((ntH_get hnt id).2.2 es hh).1;rw [Nat.zero_add] at hid;obtain ⟨es',h1,h2⟩:=S.omap id es hid hh;rw [h2] at hb;have hlt:b<X.w.heap.size:=(hX.def_ (d:=[])).lt ⟨id,⟨_,h1⟩,hb⟩;have:=(hr b e.symm).1;omega
def KpI (X:Cx) (ids:List Nat) (W W':World):Prop:= ∀ i,i∈ids→ ∀ b,(X.m i).1=some b→ ∀ o,W'.cell? ⟨b,o,none⟩=W.cell? ⟨b,o,none⟩
theorem blk_exact (hX:Ok X) {i b:Nat} {l:List Value} (h:X.h[i]? =some (some (.blk (l.map .v)))) (hb:(X.m i).1=some b): ∀ o,X.w.cell? ⟨b,o,none⟩=l[o]? :=by
 obtain ⟨b',cvs,T,h1,h2,h3,h4,h5⟩:=hX.blk i _ h;rw [hb] at h1;injection h1 with h1;subst h1;intro o;have:=cellAt_blk (off:=o) h2;unfold cellAt at this;rw [this];rw [List.length_map] at h3;by_cases ho:o<l.length
 ·have ho2:o<cvs.size:=by omega
  have:=h5 o (.v l[o]) cvs[o] (by simp [ho]) (by simp [ho2]);generalize hq:cvs[o]=q at this;cases this;rw [Array.getElem?_eq_getElem ho2,List.getElem?_eq_getElem ho,hq]
 ·rw [Array.getElem?_eq_none (by omega),List.getElem?_eq_none (by omega)]
theorem map_v_inj: ∀ (l m:List Value),l.map AV.v=m.map AV.v→l=m
 | [],[],_=>rfl
 | [],_::_,h=>by simp at h
 | _::_,[],h=>by simp at h
 | a::l,b::m,h=>by
  simp only [List.map_cons,List.cons.injEq,AV.v.injEq] at h;rw [h.1,map_v_inj l m h.2]
def IterC (P:Program) (gf:FuncId) (caps:List AV) (h:Hp) {α:Type} (encs:α→Array Value) (ids:List Nat) (S Sp:List α→Prop) (Nb:Nat):Prop:=
 ∀ (X:Cx) (vs:List Value),Ok X→X.h=h→RepL X caps vs→SeqStopsK Fence.wide 8 P gf vs.toArray encs (KpI X ids) S Sp Nb X.w
def RPost (n0 N:Nat) (H:Hp→Prop) (Hx:Code→Hp→Prop):PostW:=fun ex e h=>match ex with
 | .normal=> ∃ e1 h1,Ent n0 N e h e1 h1∧H h1
 | .ret=>Hx .ret h
 | .exit i=>Hx (.exit i) h
 | .panic _=>False
def Exx (Q:PostW) (e:Ev) (h:Hp):Code→Prop
 | .ret=>Q .ret e h
 | .exit i=>Q (.exit i) e h
 | _=>False
def escB (ks:List (Nat × Nat)):Bool:=ks.all fun p=>!Nat.beq p.2 1000000
theorem escB_ok: ∀ {ks:List (Nat × Nat)},escB ks=true→ ∀ id,kOf ks id≠1000000
 | [],_,id=>by show (0:Nat)≠1000000;decide
 | (i,k)::r,h,id=>by
  have h':(!Nat.beq k 1000000 && escB r)=true:=h;rw [Bool.and_eq_true] at h';show (if i=id then k else kOf r id)≠1000000;split
  ·intro e;subst e;cases h'.1
  ·exact escB_ok h'.2 id
theorem wRange {P:Program} (hmix:P.follows .mixedOrders=true) {N:Nat} {L:List Nat} {ks ks':List (Nat × Nat)} {f:Operand} {ps:Array Tmp} {ag b:Code} {Q:PostW} {e:Ev} {h:Hp} {α:Type} {encs:α→Array Value} {ids:List Nat} {S Sp:List α→Prop} {Nb:Nat} {gf:FuncId} {caps:List AV}
  (hf:opnd e f= .fn (.func gf) [] caps) (hbd:bodyP P gf=true) (hit:IterC P gf caps h encs ids S Sp Nb) (hps: ∀ x,(encs x).size=ps.size) (hok:okCode N ks' b=true) (hin:inB b=true) (hes:escB ks'=true) (hb:base ks'=h.length)
  (e1:α→Ev) (a₁:Act→α→Act)
  (hassign: ∀ (a:Act) (l:Nat) (x:α) (W:World) (K:Act→World→Prop),a.tmps.size=N→K (a₁ a x) W→ag.wpIn (Rnd l) 7 P (Exit.then K (fun _ _ _=>False)) {tmps:=(ps.zip (encs x)).foldl (fun t (p,v)=>t.setIfInBounds p v) a.tmps,defers:=[]} W)
  (hrel: ∀ (a:Act) (x:α),a.tmps.size=N→(a₁ a x).defers=[]∧(a₁ a x).tmps.size=N∧ ∀ d,getE (e1 x) d= .none∨(∃ v,getE (e1 x) d= .v v∧(a₁ a x).tmps.getD d undef=v)∨(getE (e1 x) d=getE e d∧(a₁ a x).tmps.getD d undef=a.tmps.getD d undef))
  (Hs:List α→Hp→Prop) (Hx:Code→List α→Hp→Prop) (hnt: ∀ pre h',Hs pre h'→ntH h.length 0 h') (hntx: ∀ c pre h',Hx c pre h'→ntH h.length 0 h')
  (hids: ∀ i,i∈ids→i<h.length∧ ∃ l:List Value, ∀ pre h',Hs pre h'→h'[i]? =some (some (.blk (l.map .v)))) (h0:Hs [] h)
  (hbody: ∀ pre x h',Hs pre h'→pre.length<Nb→h.length≤h'.length→wCode P N L ks' b (RPost h.length N (Hs (pre++[x])) fun c=>Hx c (pre++[x])) (e1 x) h')
  (hdone: ∀ xs h',S xs→Hs xs h'→Q .normal e h') (hstop: ∀ c pre h',Sp pre→Hx c pre h'→Exx Q e h' c):
  ∀ (X:Cx) (a:Act),base ks≤X.h.length→X.h=h→Ok X→EnvOk X N e a→(Code.rangeFunc f ps ag b).wp P (PostL (base ks) X N Q) a X.w:=by
 intro X a hbs hh hX hE;subst hh;have hX0:Ok (X.def_ []):=hX.def_;have hfr:=hE.opnd f;rw [hf] at hfr;obtain ⟨lb,hg,hlb⟩: ∃ lb:List Value,a.eval f= .func (.func gf) #[] lb.toArray∧RepL X caps lb:=by
  generalize a.eval f=q at hfr;cases hfr with
  | @fn _ _ _ v1 v2 h1 h2 r1 r2=>
   have:v1=[]:=List.eq_nil_of_length_eq_zero h1;subst this;exact ⟨v2,rfl,h2,r2⟩
 have fullS: ∀ {Y:Cx},StepN X.h.length (X.def_ []) Y→Step (X.def_ []) Y:=fun S=>StepN.full S
 have ids_at: ∀ {pre:List α} {Y:Cx},StepN X.h.length (X.def_ []) Y→Ok Y→Hs pre Y.h→ ∀ i,i∈ids→ ∀ b,(X.m i).1=some b→ ∃ l:List Value,(∀ pre h',Hs pre h'→h'[i]? =some (some (.blk (l.map .v))))∧ ∀ o,Y.w.cell? ⟨b,o,none⟩=l[o]? :=by
  intro pre Y S hY hH i hi b hb;obtain ⟨hlt,l,hl⟩:=hids i hi;have h1:=hl pre _ hH;obtain ⟨c',_,h3⟩:=S.oblk i _ hlt h1;exact ⟨l,hl,blk_exact hY h1 (by rw [h3];exact hb)⟩
 have close: ∀ {x:Ex} {ex:Exit} {Y:Cx} {D:Nat},StepN X.h.length (X.def_ []) Y→Ok Y→X.w.heap.size≤D→Y.w.heap[D]? =some (.deferred (some []))→Q x e Y.h→((x= .normal∧ex= .normal)∨(∃ i,x= .exit i∧ex= .exit i)∨(x= .ret∧ex= .ret))→PostL (base ks) X N Q ex {a with defers:={target:= .collected D,args:= #[]}::a.defers} Y.w:=by
  intro x ex Y D S hY hD hd hq hx;have S2:StepN (base ks) X (Y.def_ X.ds):=(StepN.re (X:=X) (d:=[]) (d2:=X.ds) S).less hbs;refine PostL.close (Y:=Y.def_ X.ds) (e:=e) (l:=[D]) ?_ ⟨by simp,fun D' h'=>by rw [List.mem_singleton] at h';subst h';exact ⟨hD,hd⟩⟩ S2 hY.def_ ⟨rfl,hE.size,fun d=>?_⟩ hq ?_
  ·show _::a.defers=_;rw [hE.defers];rfl
  ·have h1:Rep (X.def_ []) (getE e d) (a.tmps.getD d undef):=(hE.rep d).def_;exact (h1.mono (fullS S)).def_
  ·rcases hx with h | h | h
   ·exact .inl h
   ·exact .inr (.inl h)
   ·exact .inr (.inr (.inl h))
 refine wpIn_wide.1 (wpIn_rangeFunc_ownG (F:=Fence.wide) (n:=9) (Kp:=KpI X ids) rfl (by decide) hg trivial (fun args w=>callFunc_run hbd args w) (hit X lb hX rfl hlb) ?_ ?_ (Below.refl _ _) hps (fun pre W=>RI X (Hs pre) W) (fun c pre W=>RI X (Hx c pre) W) (RI.own hX hnt) (fun c=>RI.own hX (hntx c)) ⟨X.def_ [],rfl,(Step.refl _).toN (Nat.le_refl _),hX0,h0⟩ (a₁ a) (fun l x W K hK=>hassign a l x W K hE.size hK) ?_ ?_ ?_)
 ·intro A B C h1 h2 i hi b hb o;rw [h2 i hi b hb o,h1 i hi b hb o]
 ·intro W l o o' hl hlo hc hw i hi b hb off;obtain ⟨hlt,lv,hlv⟩:=hids i hi;have h1:=hlv [] _ h0;have hbl:b<X.w.heap.size:=hX.lt ⟨i,⟨_,h1⟩,hb⟩;unfold World.cell?;rw [World.putObj_heap_other (by show b≠l;omega)]
 ·rintro l pre x W ⟨Y,rfl,S,hY,hH⟩ hlt;obtain ⟨r1,r2,r3⟩:=hrel a x hE.size;have hEY:EnvOk Y N (e1 x) (a₁ a x):=by
   refine ⟨r1.trans S.dse.symm,r2,fun d=>?_⟩;rcases r3 d with q | ⟨v,q1,q2⟩ | ⟨q1,q2⟩
   ·rw [q];exact .none _
   ·rw [q1,q2];exact .v v
   ·rw [q1,q2];have h1:Rep (X.def_ []) (getE e d) (a.tmps.getD d undef):=(hE.rep d).def_;exact h1.mono (fullS S)
  have hw:=hbody pre x Y.h hH hlt S.len;refine wpIn_mono (code_in hmix (escB_ok hes) b _ Y (e1 x) (a₁ a x) hok hin (by rw [hb];exact S.len) hY hEY hw) ?_;intro ex a' w' hp;have:=hp.elim;cases this with
  | ok z ex Z e2 a2 T hZ hEZ hq hx=>
   rw [hb] at T;have keep:KeepsFrom X.w.heap.size Y.w Z.w:=⟨T.size,fun k o hk ho hc=>by
    rw [T.block k (Array.getElem?_eq_some_iff.1 ho).1 ?_];exact ho;rintro ⟨i,⟨ob,hi⟩,he⟩;cases ob with
    | blk cells=>
     obtain ⟨b',cvs,U,q1,q2,_⟩:=hY.blk i cells hi;rw [q1] at he;injection he with he;subst he;rw [ho] at q2;injection q2 with q2;subst q2;cases hc
    | arr U s cells fz=>
     obtain ⟨_,_,n',_,q1 | ⟨b',cvs,q1⟩⟩:=hY.arr i U s cells fz hi
     ·rw [q1.1] at he;cases he
     ·have q2:=q1.at_;rw [q2] at he;injection he with he;subst he;have:=q1.blk;rw [ho] at this;injection this with this;subst this;cases hc
    | map es=>
     have hid:=((ntH_get (hnt _ _ hH) i).2.2 es hi).1;rw [Nat.zero_add] at hid;obtain ⟨es',g1,g2⟩:=S.omap i es hid hi;rw [g2] at he;have:=hX0.lt ⟨i,⟨_,g1⟩,he⟩;exact absurd hk (by show ¬ X.w.heap.size≤k;exact Nat.not_le_of_lt this)⟩
   rcases hx with ⟨rfl,rfl⟩ | ⟨i,rfl,rfl⟩ | ⟨rfl,rfl⟩ | ⟨v,av,rfl,rfl,hr⟩
   ·obtain ⟨e3,h3,hent,hH3⟩:=hq;obtain ⟨V,v1,v2,v3,v4,v5⟩:=hent Z _ rfl T.len hZ hEZ;have SV:StepN X.h.length (X.def_ []) V:=(S.trans hX0 T).trans hX0 v3;refine ⟨keep,fun i hi b hb o=>?_,V,v1,SV,v4,by rw [v2];exact hH3⟩;obtain ⟨l1,q1,q2⟩:=ids_at S hY hH i hi b hb;obtain ⟨l2,q3,q4⟩:=ids_at SV v4 (by rw [v2];exact hH3) i hi b hb;have e4:=q1 _ _ hH;rw [q3 _ _ hH] at e4;have e5:l2=l1:=by
     injection e4 with e4;injection e4 with e4;injection e4 with e4;exact map_v_inj _ _ e4
    rw [q2, ←v1,q4,e5]
   ·exact ⟨keep,Z,rfl,S.trans hX0 T,hZ,hq⟩
   ·exact ⟨keep,Z,rfl,S.trans hX0 T,hZ,hq⟩
   ·exact hq.elim
 ·rintro D xs W hD hS ⟨Y,rfl,S,hY,hH⟩ hd;exact close S hY hD hd (hdone xs _ hS hH) (.inl ⟨rfl,rfl⟩)
 ·rintro D c pre W hD hS ⟨Y,rfl,S,hY,hH⟩ hd;have hs:=hstop c pre _ hS hH;cases c with
  | ret=>exact wpIn_ret (close S hY hD hd hs (.inr (.inr ⟨rfl,rfl⟩)))
  | exit i=>exact wpIn_exit (close S hY hD hd hs (.inr (.inl ⟨i,rfl,rfl⟩)))
  | _=>exact hs.elim
end
section
open Go.RowKit
variable {P:Program}{a:Act}
theorem assign_in {F:Fence} {n:Nat}  {id:Nat} {d t:Tmp} {o:Oper} {Q:Exit→Act→World→Prop}  {w:World}
  (ho:o.op= .assign (.tmp t)) (hd:o.dst=some d) (hg:o.guard=none) (h:Q .normal {a with tmps:=a.tmps.setIfInBounds d (a.tmps.getD t undef)} w):(Code.region id #[o] false).wpIn F n P Q a w:=by
 obtain ⟨dst,op,ty,pos,af,g⟩:=o;simp only at ho hd hg;subst ho hd hg;refine wpIn_region ?_;show wpOpsIn F n P _ Q [0] a w;simp only [wpOpsIn,Region.wanted,List.getElem?_toArray,List.getElem?_cons_zero,if_true];refine ⟨?_,?_⟩
 ·intro f hf;cases hf
 ·rw [Oper.semAt_eq _ _ _ (fun c hc=>by cases hc)];exact h
theorem getE_in: ∀ (e:Ev) (d:Nat),getE e d= .none∨ ∃ p,p∈e∧p.1=d∧getE e d=p.2
 | [],d=> .inl rfl
 | (k,a)::r,d=>by
  by_cases h:k=d
  ·exact .inr ⟨(k,a),List.mem_cons_self ..,h,if_pos h⟩
  ·rcases getE_in r d with q | ⟨p,q1,q2,q3⟩
   ·exact .inl (by show (if k=d then a else getE r d)=_;rw [if_neg h];exact q)
   ·exact .inr ⟨p,List.mem_cons_of_mem _ q1,q2,by show (if k=d then a else getE r d)=_;rw [if_neg h];exact q3⟩
theorem getD_set {T:Array Value} {i j:Nat} {v:Value}:(T.setIfInBounds i v).getD j undef=if i=j∧j<T.size then v else T.getD j undef:=by
 simp only [Array.getD_eq_getD_getElem?,Array.getElem?_setIfInBounds];by_cases h:i=j
 ·subst h;by_cases hs:i<T.size
  ·simp [hs]
  ·simp [hs]
 ·simp [h]
def act2 (p q d1 d2:Tmp) (v1 v2:Value) (a:Act):Act:={tmps:=(((a.tmps.setIfInBounds p v1).setIfInBounds q v2).setIfInBounds d1 v1).setIfInBounds d2 v2,defers:=[]}
variable {N:Nat}
theorem assign2 {F:Fence} {n:Nat}  {i1 i2:Nat} {p q d1 d2:Tmp} {o1 o2:Oper} {K:Act→World→Prop}  {W:World} {v1 v2:Value}  (h1:o1.op= .assign (.tmp p)) (h1':o1.dst=some d1) (h1'':o1.guard=none) (h2:o2.op= .assign (.tmp q)) (h2':o2.dst=some d2) (h2'':o2.guard=none)
  (hN:a.tmps.size=N) (hp:p<N) (hq:q<N) (hpq:p≠q) (hdq:d1≠q) (hK:K (act2 p q d1 d2 v1 v2 a) W):
  ((Code.region i1 #[o1] false).seq (Code.region i2 #[o2] false)).wpIn F n P (Exit.then K (fun _ _ _=>False)) {tmps:=(#[p,q].zip #[v1,v2]).foldl (fun t (x:Tmp × Value)=>t.setIfInBounds x.1 x.2) a.tmps,defers:=[]} W:=by
 refine wpIn_seq (assign_in h1 h1' h1'' (assign_in h2 h2' h2'' ?_));have e:((#[p,q].zip #[v1,v2]).foldl (fun (t:Array Value) (x:Tmp × Value)=>t.setIfInBounds x.1 x.2) a.tmps)=(a.tmps.setIfInBounds p v1).setIfInBounds q v2:=by simp
 rw [e];have e3:((a.tmps.setIfInBounds p v1).setIfInBounds q v2).getD p undef=v1:=by
  rw [getD_set,if_neg (fun h=>hpq h.1.symm),getD_set,if_pos ⟨rfl,by rw [hN];exact hp⟩]
 rw [e3];have e4:(((a.tmps.setIfInBounds p v1).setIfInBounds q v2).setIfInBounds d1 v1).getD q undef=v2:=by
  rw [getD_set,if_neg (fun h=>hdq h.1),getD_set,if_pos ⟨rfl,by rw [Array.size_setIfInBounds,hN];exact hq⟩]
 rw [e4];exact hK
variable {e:Ev}
theorem rel2 {e0:Ev} {p q d1 d2:Tmp} {v1 v2:Value}   (hN:a.tmps.size=N) (hd1:d1<N) (hd2:d2<N) (h12:d1≠d2)
  (hsub: ∀ x,x∈e0→getE e x.1=x.2∧x.1≠p∧x.1≠q∧x.1≠d1∧x.1≠d2):
  (act2 p q d1 d2 v1 v2 a).defers=[]∧(act2 p q d1 d2 v1 v2 a).tmps.size=N∧ ∀ d,getE ((d1, .v v1)::(d2, .v v2)::e0) d= .none∨(∃ v,getE ((d1, .v v1)::(d2, .v v2)::e0) d= .v v∧(act2 p q d1 d2 v1 v2 a).tmps.getD d undef=v)∨
   (getE ((d1, .v v1)::(d2, .v v2)::e0) d=getE e d∧(act2 p q d1 d2 v1 v2 a).tmps.getD d undef=a.tmps.getD d undef):=by
 refine ⟨rfl,by simp [act2,hN],fun d=>?_⟩;have hg:getE ((d1, .v v1)::(d2, .v v2)::e0) d=if d1=d then .v v1 else if d2=d then .v v2 else getE e0 d:=rfl
 rw [hg];unfold act2;simp only [getD_set,Array.size_setIfInBounds,hN];by_cases c1:d1=d
 ·subst c1;refine .inr (.inl ⟨v1,if_pos rfl,?_⟩);rw [if_neg (fun h=>h12 h.1.symm),if_pos ⟨rfl,hd1⟩]
 ·rw [if_neg c1];by_cases c2:d2=d
  ·subst c2;refine .inr (.inl ⟨v2,if_pos rfl,?_⟩);rw [if_pos ⟨rfl,hd2⟩]
  ·rw [if_neg c2];rcases getE_in e0 d with q' | ⟨x,q1,q2,q3⟩
   ·exact .inl q'
   ·obtain ⟨g1,g2,g3,g4,g5⟩:=hsub x q1;subst q2;refine .inr (.inr ⟨by rw [q3,g1],?_⟩);rw [if_neg (fun h=>g5 h.1.symm),if_neg (fun h=>g4 h.1.symm),if_neg (fun h=>g3 h.1.symm),if_neg (fun h=>g2 h.1.symm)]
variable {h:Hp}{n0:Nat}
theorem Ent.close (d:Nat) (a a':AV) (h':Hp) (ha:getE e d=a) (hc:close1 h a=some (a',h')):Ent n0 N e h ((d,a')::e) h':=fun X act hh hn hX hE=>by
 subst hh;have hv:=hE.rep d;rw [ha] at hv;obtain ⟨Y,y1,y2,y3,y4,y5⟩:=close1_ok X a a' h' _ hX hc hv;have hE2:=hE.mono y2;refine ⟨Y,y1,y4,y2.toN hn,y3,hE2.defers,hE2.size,fun d'=>?_⟩;show Rep Y (if d=d' then a' else getE e d') _;by_cases q:d=d'
 ·subst q;rw [if_pos rfl];exact y5
 ·rw [if_neg q];exact hE2.rep d'
def FinO (P:Program) (rs:Array ResultVar) (R:AV→Hp→Prop):PostW:=fun x e h=>match x with
 | .exit _=>False
 | .panic _=>False
 | _=> ∃ r,resA P h e rs=some r∧R r h
variable {R:AV→Hp→Prop}
theorem finO0 {rs:Array ResultVar}   :FinO P rs R .normal e h=sA (fun r=>R r h) (resA P h e rs):=Eq.trans rfl rfl
theorem finO1 {rs:Array ResultVar}   :FinO P rs R .ret e h=sA (fun r=>R r h) (resA P h e rs):=Eq.trans rfl rfl
theorem HT.byO {f:FuncId} {fn:Func} {body:Code} {args:List AV}   (N:Nat) (L:List Nat) (ks:List (Nat × Nat)) (rs:List ResultVar) (hf:P.funcs[f]? =some fn) (hb:fn.body=some body) (hn:fn.ntmps=N) (hr:fn.results=rs.toArray) (hbs:base ks=h.length)
  (hw:wCode P N L ks body (FinO P rs.toArray R) (argE 0 args) h) (hmix:P.follows .mixedOrders=true:=by kernel_rfl) (hp:bodyP P f=true:=by kernel_rfl) (hk:okCode N ks body=true:=by kernel_rfl) (hN:args.length≤N:=by exact Nat.le_of_ble_eq_true rfl):HT P f args h R:=by
 subst hn;rw [←hr] at hw;refine ⟨hp,fun X vs hX hh hr=>?_⟩;subst hh;have hX':Ok (X.def_ []):=hX.def_;have hr':RepL (X.def_ []) args vs:=⟨hr.1,fun i a x h1 h2=>(hr.2 i a x h1 h2).def_⟩
 refine (callsIn_wide (n:=0)).1 (callsIn_of_wp_marks hf hb trivial (wpIn_wide.2 (wp_mono (code_soundL hmix body _ (X.def_ []) _ _ hk (by rw [hbs];exact Nat.le_refl _) hX' (enter_ok rfl hr' hN) hw) ?_)) rfl);intro ex a' w' hpost;obtain ⟨z,Y,e',l,rfl,e1,M,SN,hY,hEY,_,hq,hx⟩:=hpost.open;rw [hbs] at SN;have hd:a'.defers=l.map markD:=by rw [e1];exact List.append_nil _
 obtain ⟨Z,z1,z2,z3,z4,z5,z6⟩:=shut_ctx l Y SN hY M;have S:=StepN.full (X:=X.def_ []) z4;have hEZ:EnvOk Z fn.ntmps e' {a' with defers:=[]}:=⟨by rw [z3];exact hEY.defers,hEY.size,fun d=>z6 _ _ (hEY.rep d)⟩
 have key:(∃ r,resA P Y.h e' fn.results=some r∧R r Y.h)→LeavesIn Fence.wide 0 P fn a'.tmps (fun e w'=> ∃ v V av,e= .returned v∧V.w=w'∧Step X V∧Ok V∧Rep V av v∧R av V.h) [] .returning (shut Y.w l):=by
  rintro ⟨r,h1,h3⟩;rw [←z2] at h1 h3;obtain ⟨v,q1,q2⟩:=resA_ok (fn:=fn) z5 hEZ h1;rw [←z1];exact ⟨v,q1,v,Z.def_ X.ds,r,rfl,rfl,S.undef,z5.def_,q2.def_,h3⟩
 rcases hx with ⟨rfl,rfl⟩ | ⟨i,rfl,rfl⟩ | ⟨rfl,rfl⟩ | ⟨v,av,rfl,rfl,hrv⟩
 ·show LeavesInM Fence.wide 0 P fn a'.tmps _ a'.defers .returning Y.w;rw [hd];exact leaves_marks (by simp) l _ M (key hq)
 ·exact hq.elim
 ·show LeavesInM Fence.wide 0 P fn a'.tmps _ a'.defers .returning Y.w;rw [hd];exact leaves_marks (by simp) l _ M (key hq)
 ·exact hq.elim
theorem Ent.frzK (id:Nat) (T:TypeId) (s:Nat) (cells:List AV) (fz k:Nat) (hg:h[id]? =some (some (.arr T s cells fz))) (h1:fz≤k) (h2:k≤cells.length):Ent n0 N e h e (h.set id (some (.arr T s cells k))):=fun X act hh hn hX hE=>by
 subst hh;have hE2:=hE.mono (Step.frzK k hg);exact ⟨X.frzK id T s cells k,rfl,rfl,(Step.frzK k hg).toN hn,hX.frzK hg h1 h2,hE2.defers,hE2.size,hE2.rep⟩
theorem Ent.wk (d:Nat) (a b:AV) (ha:getE e d=a) (hw:Wk a b):Ent n0 N e h ((d,b)::e) h:=fun X act hh hn hX hE=>by
 refine ⟨X,rfl,hh,(Step.refl X).toN (hh▸hn),hX,hE.defers,hE.size,fun d'=>?_⟩;show Rep X (if d=d' then b else getE e d') _;by_cases q:d=d'
 ·subst q;rw [if_pos rfl];have hv:=hE.rep d;rw [ha] at hv;exact hw _ _ hv
 ·rw [if_neg q];exact hE.rep d'
end
section
open Go.RowKit
def posN:List Nat→Nat→Nat
 | [],_=>0
 | a::r,j=>if a=j then 0 else posN r j+1
structure PermOk (σ:List Nat) (ops:Array Oper):Prop where
 len:σ.length=ops.size
 inv: ∀ i,i<ops.size→posN σ i<ops.size∧σ.getD (posN σ i) 0=i
 fwd: ∀ p,p<ops.size→σ.getD p 0<ops.size∧posN σ (σ.getD p 0)=p
 aft: ∀ (i:Nat) (o:Oper),ops[i]? =some o→ ∀ e,e∈o.after→e.on<ops.size
 grd: ∀ (i:Nat) (o:Oper),ops[i]? =some o→ ∀ g b,o.guard=some (g,b)→g<ops.size
section
variable {σ:List Nat} {ops:Array Oper}
def LsP (σ:List Nat) (ops:Array Oper) (l l':Array Bool):Prop:=l.size=ops.size∧l'.size=ops.size∧ ∀ i,i<ops.size→l'.getD (posN σ i) false=l.getD i false
theorem LsP.put (D:PermOk σ ops) {l l':Array Bool} (h:LsP σ ops l l') {i:Nat} (hi:i<ops.size):LsP σ ops (l.setIfInBounds i true) (l'.setIfInBounds (posN σ i) true):=by
 obtain ⟨h1,h2,h3⟩:=h;refine ⟨by simp [h1],by simp [h2],fun j hj=>?_⟩;have hp:=(D.inv i hi).1;have hq:=(D.inv j hj).1;have inj:posN σ i=posN σ j→i=j:=fun e=>by rw [←(D.inv i hi).2, ←(D.inv j hj).2,e]
 simp only [Array.getD_eq_getD_getElem?,Array.getElem?_setIfInBounds,h1,h2];have h3':=h3 j hj;simp only [Array.getD_eq_getD_getElem?] at h3';by_cases e:i=j
 ·subst e;simp [hi,hp]
 ·rw [if_neg e,if_neg (fun q=>e (inj q))];exact h3'
end
theorem wpOp_val {P:Program} {ops:Array Oper} {Q:Exit→Act→World→Prop} {i:Nat} {o:Oper} {v:Value} {K:Act→World→Prop} {a:Act} {w w':World} (hi:ops[i]? =some o) (hg:Region.wanted o (yielded ops a.tmps)=true)
  (hrun:(execOp a.eval o).run P w= .ok (.value v) w') (hK:K (a.put o.dst v) w'):wpOp P ops Q i K a w:=by
 unfold wpOp;rw [hi];simp only;rw [if_pos hg];refine .inl ?_;unfold Oper.wp;rw [hrun];exact hK
end
section
open Go.RowKit
theorem rearr {X:Cx} (hX:Ok X) {id off fz s:Nat} {T:TypeId} {cells:List AV} {b:AV} (h:X.h[id]? =some (some (.arr T s cells fz))) (hab: ∀ (bk n:Nat) (cvs:Array Value),ArrOk X id T s cells fz n bk cvs→ ∀ x,cvs[off]? =some x→Rep X b x):
  ∃ Y,Y.w=X.w∧Y.m=X.m∧Y.h=X.h.set id (some (.arr T s (cells.set off b) fz))∧Step X Y∧Ok Y:=by
 have hid:id<X.h.length:=(List.getElem?_eq_some_iff.1 h).1;have S:Step X ⟨X.w,X.m,X.h.set id (some (.arr T s (cells.set off b) fz)),X.bad,X.ds⟩:=by
  refine ⟨rfl,rfl,rfl,Nat.le_refl _,fun _ _ _=>rfl,fun _ _ _ h1 h2=>⟨h1,h2⟩,by simp,fun i T' s' c f _ hi=>?_,fun i c _ hi=>?_,fun c hc=>?_,fun _ _ hb=> .inl hb,fun i c _ hi=>?_,rfl⟩
  ·by_cases e:i=id
   ·subst e;simp only at hi;rw [List.getElem?_set_self hid] at hi;injection hi with hi;injection hi with hi;injection hi with e1 e2 e3 e4;subst e1 e2 e3 e4;exact ⟨cells,fz,h,by simp,fun _=>rfl⟩
   ·simp only at hi;rw [set_h e] at hi;exact ⟨c,f,hi,Nat.le_refl _,fun _=>rfl⟩
  ·by_cases e:i=id
   ·subst e;simp only at hi;rw [List.getElem?_set_self hid] at hi;injection hi with hi;cases hi
   ·simp only at hi;rw [set_h e] at hi;exact ⟨c,hi,rfl⟩
  ·obtain ⟨i,⟨o,ho⟩,hc⟩:=hc;by_cases e:i=id
   ·subst e;exact .inr ⟨i,⟨_,h⟩,hc⟩
   ·simp only at ho;rw [set_h e] at ho;exact .inr ⟨i,⟨o,ho⟩,hc⟩
  ·by_cases e:i=id
   ·subst e;simp only at hi;rw [List.getElem?_set_self hid] at hi;injection hi with hi;cases hi
   ·simp only at hi;rw [set_h e] at hi;exact ⟨c,hi,rfl⟩
 have live: ∀ i,Cx.live ⟨X.w,X.m,X.h.set id (some (.arr T s (cells.set off b) fz)),X.bad,X.ds⟩ i→X.live i:=fun i ⟨o,ho⟩=>by
  by_cases e:i=id
  ·subst e;exact ⟨_,h⟩
  ·simp only at ho;rw [set_h e] at ho;exact ⟨o,ho⟩
 refine ⟨⟨X.w,X.m,X.h.set id (some (.arr T s (cells.set off b) fz)),X.bad,X.ds⟩,rfl,rfl,rfl,S,fun i c hi=>?_,fun i T' s' c f hi=>?_,fun i j c hi hj=>hX.inj i j c (live i hi) (live j hj),hX.badlt,fun i es hi=>?_⟩
 ·by_cases e:i=id
  ·subst e;simp only at hi;rw [List.getElem?_set_self hid] at hi;injection hi with hi;cases hi
  ·simp only at hi;rw [set_h e] at hi;obtain ⟨g,cvs,T',h1,h2,h3,h4,h5⟩:=hX.blk i c hi;exact ⟨g,cvs,T',h1,h2,h3,h4,fun j a' x q1 q2=>(h5 j a' x q1 q2).mono S⟩
 ·by_cases e:i=id
  ·subst e;simp only at hi;rw [List.getElem?_set_self hid] at hi;injection hi with hi;injection hi with hi;injection hi with e1 e2 e3 e4;subst e1 e2 e3 e4;obtain ⟨g1,g2,n,g3,g4⟩:=hX.arr i T s cells fz h;refine ⟨by simpa using g1,g2,n,by simpa using g3,?_⟩;rcases g4 with ⟨g4,g5⟩ | ⟨g,cvs,g4⟩
   ·exact .inl ⟨g4,by rw [g5];rfl⟩
   ·refine .inr ⟨g,cvs,⟨g4.at_,g4.blk,g4.cap,g4.capm,g4.sz,g4.bad,fun j a' x q1 q2=>?_,g4.good⟩⟩;suffices hx:Rep X a' x from hx.mono S
    rw [List.getElem?_set] at q1;split at q1
    ·next hj=>
     subst hj;split at q1
     ·injection q1 with q1;subst q1;exact hab g n cvs g4 x q2
     ·cases q1
    ·exact g4.rep j a' x q1 q2
  ·simp only at hi;rw [set_h e] at hi;obtain ⟨g1,g2,n,g3,g4⟩:=hX.arr i T' s' c f hi;refine ⟨g1,g2,n,g3,?_⟩;rcases g4 with g4 | ⟨g,cvs,g4⟩
   ·exact .inl g4
   ·exact .inr ⟨g,cvs,⟨g4.at_,g4.blk,g4.cap,g4.capm,g4.sz,g4.bad,fun j a' x q1 q2=>(g4.rep j a' x q1 q2).mono S,g4.good⟩⟩
 ·by_cases e:i=id
  ·subst e;simp only at hi;rw [List.getElem?_set_self hid] at hi;injection hi with hi;cases hi
  ·simp only at hi;rw [set_h e] at hi;obtain ⟨g,ents,clock,h1,h2,h3⟩:=hX.map i es hi;exact ⟨g,ents,clock,h1,h2,h3.mono S⟩
theorem Ent.closeA {n0 N:Nat} {e:Ev} {h:Hp} (id off:Nat) {T:TypeId} {s fz:Nat} {cells:List AV} {a a':AV} {h':Hp} (hc:h[id]? =some (some (.arr T s cells fz))) (ha:cells[off]? =some a) (hcl:close1 h a=some (a',h')) (hk:h'[id]? =h[id]?):
  Ent n0 N e h e (h'.set id (some (.arr T s (cells.set off a') fz))):=fun X act hh hn hX hE=>by
 subst hh;obtain ⟨g1,g2,n,g3,g4⟩:=hX.arr id T s cells fz hc;have hoff:off<cells.length:=(List.getElem?_eq_some_iff.1 ha).1;rcases g4 with ⟨_,g5⟩ | ⟨bk,cvs,g4⟩
 ·rw [g5] at hoff;exact absurd hoff (Nat.not_lt_zero _)
 have hsz:off<cvs.size:=by
  have:=g4.sz;have h2:=Nat.mul_le_mul_right s g4.cap;omega
 have hv:=g4.rep off a cvs[off] ha (Array.getElem?_eq_getElem hsz);obtain ⟨Y,y1,y2,y3,y4,y5⟩:=close1_ok X a a' h' _ hX hcl hv;have hY:Y.h[id]? =some (some (.arr T s cells fz)):=by rw [y4,hk];exact hc
 have hid:id<X.h.length:=(List.getElem?_eq_some_iff.1 hc).1;obtain ⟨c2,f2,q1,q2,q3⟩:=y2.oarr id T s cells fz hid hY;rw [hc] at q1;injection q1 with q1;injection q1 with q1;injection q1 with _ _ e3 _;have hm:=q3 (by rw [e3]);obtain ⟨Z,z1,z2,z3,z4,z5⟩:=rearr y3 (id:=id) (off:=off) (b:=a') hY (fun b2 n2 cvs2 k x hx=>by
  have e1:bk=b2:=by
   have:=k.at_;rw [hm,g4.at_] at this;injection this
  subst e1;have e2:=k.blk;rw [y1,g4.blk] at e2;injection e2 with e2;injection e2 with e2;subst e2;rw [Array.getElem?_eq_getElem hsz] at hx;injection hx with hx;subst hx;exact y5)
 exact ⟨Z,z1.trans y1,by rw [z3,y4],(y2.trans hX z4).toN hn,z5,hE.mono (y2.trans hX z4)⟩
theorem Ent.cutE {n0 N:Nat} {e e':Ev} {h h2:Hp} (m:Nat) (hm:n0≤m) (hf:fitE e' e) (he:loE m e') (hh:h.take m=h2) (hl:loH m h2):Ent n0 N e h e' h2:=by
 subst hh;exact Ent.cut m hm hf he hl
end
end Go.Proofs.YthlhibpfagekfaaGreat.Wv
namespace Go.Proofs.YthlhibpfagekfaaGreat
section
open Go.RowKit Wv
def vcA (N:Nat) (f:Nat→Int):AV:= .t N 1 (tab N fun j=> .v (.int .i64 (f j)))
abbrev Env:=List (ByteArray × (Nat→Int))
def enE (N:Nat) (es:Env):List (Value × AV):=es.map fun p=>(.string p.1,vcA N p.2)
def evC (N:Nat) (t:Int):List AV:=[.v (.int .i64 N), .v (.int .i64 t), .mp 1]
def hV (N:Nat) (t:Int) (es:Env):Hp:=[some (.blk (evC N t)),some (.map (enE N es))]
theorem vcA_clo (N:Nat) (f:Nat→Int):Clo (vcA N f):=by unfold vcA;simp only [Wv.BC]
theorem enE_clo (N:Nat) (es:Env): ∀ a,a∈(enE N es).map (·.2)→Clo a:=by
 intro a ha;unfold enE at ha;rw [List.map_map] at ha;obtain ⟨p,_,rfl⟩:=List.mem_map.1 ha;exact vcA_clo _ _
theorem evC_rn (N:Nat) (t:Int):RnL id 2 (evC N t) (evC N t):=⟨.clo (.v _), .clo (.v _), .mp (by omega),trivial⟩
theorem hV_rn (N:Nat) (t:Int) (es:Env): ∀ (i:Nat) (o:Option Ob),(hV N t es)[i]? =some o→ ∃ o',o=some o'∧RnO id (hV N t es).length o' o':=by
 intro i o ho;unfold hV at ho ⊢;match i with
 | 0=>simp at ho;subst ho;exact ⟨_,rfl,evC_rn N t⟩
 | 1=>simp at ho;subst ho;exact ⟨_,rfl,rfl,RnL.clo (enE_clo N es)⟩
 | i+2=>simp at ho
theorem RD.hV {N:Nat} {t:Int} {es:Env} {f:FuncId} {args:List AV} {R p:AV→Prop} (T:RD Tryz.prog f (.ptr 0 0::args) (hV N t es) R p) (r:Hp) (ha: ∀ (a:AV),a∈args→Clo a) (hR: ∀ r,R r→Clo r) (hp: ∀ r,p r→Clo r):HTP Tryz.prog f (.ptr 0 0::args) (hV N t es++r) (fun q h'=>R q∧h'=hV N t es++r) (fun q h'=>p q∧h'=hV N t es++r):=
 RD.ext T r ⟨.ptr (by show 0<2;omega),RnL.clo ha⟩ (hV_rn N t es) hR hp
end
section
open Go.RowKit Wv
def hS (N:Nat) (t:Int) (es:Env) (k:Int) (s:ByteArray) (n:Int) (nl:Nat) (li:Nat→Int) (na:Nat) (L:List AV) (A:Nat→Nat→Int) (ls:Nat→Int):Hp:=
 [some (.blk [.v (.int .i64 N), .v (.int .i64 t), .mp 1]),some (.map (enE N es)),some (.blk [.ptr 0 0]),some (.blk [.v (.int .i64 k), .v (.string s), .v (.int .i64 n), .t nl 1 (tab nl fun i=> .v (.int .i64 (li i))), .t na 5 L]),
  some (.arr 54 1 (tab na fun i=> .t N 1 (tab N fun j=> .v (.int .i64 (A i j)))) 0),some (.blk [.own 4 na]),some (.blk [.v (.int .i64 (N / 2:Nat))]),some (.blk [.t N 1 (tab N fun j=> .v (.int .i64 (ls j)))]),some (.blk [.fn (.func 109) [] []]),some (.blk [.fn (.func 110) [] [.ptr 2 0]])]
end
section
open Go.RowKit Wv
def rulesE:List (Value × AV):=[(.int .i64 2, .fn (.func 137) [.ptr 0 0] []),(.int .i64 3, .fn (.func 138) [.ptr 0 0] []),(.int .i64 7, .fn (.func 139) [.ptr 0 0] []),(.int .i64 8, .fn (.func 140) [.ptr 0 0] []),(.int .i64 10, .fn (.func 141) [.ptr 0 0] []),(.int .i64 14, .fn (.func 142) [.ptr 0 0] []),(.int .i64 11, .fn (.func 143) [.ptr 0 0] []),(.int .i64 13, .fn (.func 144) [.ptr 0 0] []),(.int .i64 12, .fn (.func 145) [.ptr 0 0] [])]
theorem prules_rd {h:Hp} (h0:0<h.length) (hh:loH h.length h):RD Tryz.prog 107 [.ptr 0 0] h (fun r=>r= .tm rulesE) (fun _=>False):=by
 refine RD.of ?_ (by rintro r rfl;unfold rulesE;refine .tm fun p hp=>?_;simp only [List.mem_cons,List.not_mem_nil,or_false] at hp;rcases hp with rfl | rfl | rfl | rfl | rfl | rfl | rfl | rfl | rfl<;>exact .fn (by rintro a ha;rw [List.mem_singleton] at ha;subst ha;exact .ptr h0) (by rintro a ha;cases ha)) (fun r q=>q.elim) hh;refine Wv.HTP.by 23 [0,2] [(1000000,h.length)] [.tmp 2] Tryz.func107 rfl rfl rfl ?base ?_
 case base=>rfl
 have hget: ∀ o:Option Ob,(h++[o])[h.length]? =some o:=fun o=>List.getElem?_concat_length
 have hset: ∀ o o':Option Ob,(h++[o]).set h.length o'=h++[o']:=fun o o'=>by rw [List.set_append_right _ _ (Nat.le_refl _),Nat.sub_self];rfl
 simp (disch:=first|exact Wv.D|fail) only [Wv.B,simprocAttr,hget,hset];exact ⟨rfl,by rw [List.take_append_of_le_length (Nat.le_refl _),List.take_length]⟩
def findN:Nms→ByteArray→Option (Bool × Nat)
 | [],_=>none
 | p::r,s=>if s=p.1 then some p.2 else findN r s
theorem look_ns (s:ByteArray): ∀ ns:Nms,lookM (.string s) (nsE ns)=(findN ns s).map shA
 | []=>rfl
 | p::r=>by
  have ih:=look_ns s r;show (if keyE (.string s) (.string p.1)=true then some (shA p.2) else lookM (.string s) (nsE r))=_;rw [ih];show _=Option.map shA (if s=p.1 then some p.2 else findN r s);have:keyE (.string s) (.string p.1)=decide (s=p.1):=ke_str;rw [this];by_cases e:s=p.1
  ·rw [if_pos (alA e),if_pos e];rfl
  ·rw [if_neg (by simp [e]),if_neg e]
def foldE (f:Nat→Except Int (Bool × Nat)):Nat→Except Int (Bool × Nat × Nat)
 | 0=> .ok (true,0,0)
 | n+1=>match foldE f n with
  | .error e=> .error e
  | .ok (kn,d,u)=>match f n with
   | .error e=> .error e
   | .ok (k',d')=> .ok (kn && k',max d d',if k'=true then u else u+1)
def nameE:Option (Bool × Nat)→Except Int (Bool × Nat)
 | some r=> .ok r
 | none=> .error 230
def finE (kn:Bool) (d:Nat):Except Int Nat→Except Int (Bool × Nat)
 | .error e=> .error e
 | .ok m=>if (if kn=true then 0 else d+m)≤8 then .ok (kn,if kn=true then 0 else d+m) else .error 232
def nodeE (f:Nat→Except Int Nat):Except Int (Bool × Nat × Nat)→Except Int (Bool × Nat)
 | .error e=> .error e
 | .ok (kn,d,u)=>finE kn d (f u)
def shE (ns:Nms) (ru:Ex→Nat→Except Int Nat):Ex→Except Int (Bool × Nat)
 | .nil=> .error 0
 | .mk k s n nl li na ar=>if k=1 then nameE (findN ns s) else nodeE (ru (.mk k s n nl li na ar)) (foldE (fun i=>shE ns ru (ar i)) na)
def getO:Except Int (Bool × Nat × Nat)→Bool × Nat × Nat
 | .ok r=>r
 | .error _=>(true,0,0)
def flagR:Except Int Nat→Nat
 | .ok _=>0
 | .error _=>1
def flagE (f:Nat→Except Int Nat):Except Int (Bool × Nat × Nat)→Nat
 | .ok (_,_,u)=>flagR (f u)
 | .error _=>0
theorem foldE_err {f : Nat → Except Int (Bool × Nat)} {i : Nat} {e : Int} (h : foldE f i = .error e) : ∀ {n : Nat}, i ≤ n → foldE f n = .error e
  | 0, q => by have : i = 0 := by omega
               subst this; exact h
  | n + 1, q => by
    by_cases hq : i = n + 1
    · subst hq; exact h
    · have := foldE_err h (n := n) (by omega)
      simp only [foldE, this]
theorem shE_le {ns:Nms} {ru:Ex→Nat→Except Int Nat} (hn: ∀ s r,findN ns s=some r→r.2≤8) (x:Ex) {r:Bool × Nat} (h:shE ns ru x= .ok r):r.2≤8:=by
 rcases x with _ | ⟨k,s,n,nl,li,na,ar⟩
 ·cases h
 unfold shE at h;by_cases hk:k=1
 ·rw [if_pos hk] at h;cases hf:findN ns s with
  | none=>rw [hf] at h;cases h
  | some r'=>rw [hf] at h;simp only [nameE] at h;injection h with h;subst h;exact hn s _ hf
 ·rw [if_neg hk] at h;cases hf:foldE (fun i=>shE ns ru (ar i)) na with
  | error e=>rw [hf] at h;cases h
  | ok q=>
   obtain ⟨kn,d,u⟩:=q;rw [hf] at h;simp only [nodeE] at h;cases hr:ru (.mk k s n nl li na ar) u with
   | error e=>rw [hr] at h;cases h
   | ok m=>
    rw [hr] at h;simp only [finE] at h;by_cases hle:(if kn=true then 0 else d+m)≤8
    ·rw [if_pos hle] at h;injection h with h;subst h;exact hle
    ·rw [if_neg hle] at h;cases h
theorem foldE_le {f:Nat→Except Int (Bool × Nat)} (hf: ∀ i r,f i= .ok r→r.2≤8): ∀ {n:Nat} {r:Bool × Nat × Nat},foldE f n= .ok r→r.2.1≤8∧r.2.2≤n
 | 0,r,h=>by injection h with h;subst h;exact ⟨by show 0≤8;omega,Nat.le_refl _⟩
 | n+1,r,h=>by
  simp only [foldE] at h;split at h
  ·cases h
  ·next kn d u h1=>
   have ih:=foldE_le hf h1;split at h
   ·cases h
   ·next k' d' h2=>
    have:=hf _ _ h2;injection h with h;subst h;simp only at this ih ⊢;refine ⟨by omega,?_⟩;split<;>omega
def ruleF (k:Int):Option FuncId:=match k with | 2=>some 137 | 3=>some 138 | 7=>some 139 | 8=>some 140 | 10=>some 141 | 14=>some 142 | 11=>some 143 | 13=>some 144 | 12=>some 145 | _=>none
def RulesOk (x:Par) (t:Int) (ns:Nms) (ru:Ex→Nat→Except Int Nat) (ks:Ex→Prop):Prop:=
 ∀ e unk,ks e→okE e→formB e=true→unk≤2→(∀ m,ru e unk= .ok m→m≤4294967296)∧match ruleF e.kind with | some f=>RuleC x t ns f e unk (ru e unk) | none=>ru e unk= .ok 0
def allK (ks:Ex→Prop):Ex→Prop
 | .nil=>False
 | .mk k s n nl li na ar=>ks (.mk k s n nl li na ar)∧ ∀ i,i<na→allK ks (ar i)
theorem cloA2 {a b:AV} (h1:Clo a) (h2:Clo b): ∀ x,x∈[a,b]→Clo x:=by
 intro x hx;rcases List.mem_cons.1 hx with rfl | hx
 ·exact h1
 ·rw [List.mem_singleton] at hx;subst hx;exact h2
theorem kb_rules:keysB (.int .i64) rulesE=true:=rfl
theorem look_rules (k:Int) (h1:1≤k) (h2:k≤15):lookM (.int .i64 k) rulesE=(ruleF k).map fun f=> .fn (.func f) [.ptr 0 0] []:=by
 have:k=1∨k=2∨k=3∨k=4∨k=5∨k=6∨k=7∨k=8∨k=9∨k=10∨k=11∨k=12∨k=13∨k=14∨k=15:=by omega
 rcases this with rfl | rfl | rfl | rfl | rfl | rfl | rfl | rfl | rfl | rfl | rfl | rfl | rfl | rfl | rfl<;>rfl
theorem parL_clo (l:List Nat): ∀ a,a∈l.map (fun (c:Nat)=>AV.v (.int .u32 c))→Clo a:=by
 intro a ha;obtain ⟨c,_,rfl⟩:=List.mem_map.1 ha;exact .v _
theorem nsE_lo {m:Nat} (ns:Nms):(∀ x:Value × AV,x∈nsE ns→lo m x.2)=True:=eq_true fun a ha=> .clo (nsE_clo ns _ (List.mem_map_of_mem ha))
theorem parL_lo (l:List Nat):(∀ a,a∈l.map (fun (c:Nat)=>AV.v (.int .u32 c))→Clo a)=True:=eq_true (parL_clo l)
theorem kb_ns: ∀ ns:Nms,keysB .str (nsE ns)=true
 | []=>rfl
 | p::r=>kb_ns r
def ShC (x:Par) (t:Int) (ns:Nms) (e:Ex) (o:Except Int (Bool × Nat)):Prop:=
 RD Tryz.prog 66 [.ptr 0 0, .g (exC e)] (hT x t ns) (fun r=> ∃ s,o= .ok s∧r=shA s) (fun r=> ∃ e,o= .error e∧r=stopA e)
theorem formB_args {k:Int} {s:ByteArray} {n:Int} {nl:Nat} {li:Nat→Int} {na:Nat} {ar:Nat→Ex} (h:formB (.mk k s n nl li na ar)=true):(1≤k∧k≤15)∧na≤2∧ ∀ i,i<na→formB (ar i)=true:=by
 unfold formB at h;simp only [Bool.and_eq_true,Bool.not_eq_true',decide_eq_true_eq,decide_eq_false_iff_not] at h;obtain ⟨h1,h2,_,h4,_,_,_,_,h8⟩:=h;have hk: ∀ m:Nat,argN m≤2:=fun m=>by unfold argN;split<;>decide
 have:=hk k.toNat;refine ⟨⟨by omega,by omega⟩,by omega,fun i hi=>?_⟩;unfold anyN at h8;have h9:=List.any_eq_false.1 h8 i (List.mem_range.2 hi);simpa using h9
theorem pexp_rd (x:Par) (t:Int) (ns:Nms) (ru:Ex→Nat→Except Int Nat) (ks:Ex→Prop) (hns: ∀ s r,findN ns s=some r→r.2≤8) (hR:RulesOk x t ns ru ks) (e:Ex) (ho:okE e) (hf:formB e=true) (hk:allK ks e):ShC x t ns e (shE ns ru e):=by
 induction e with
 | nil=>exact ho.elim
 | mk k s n nl li na ar ih=>
 obtain ⟨hs,hnl,hna,hh⟩:=ho;have ⟨⟨hk1,hk2⟩,hna2,hfa⟩:=formB_args hf;refine RD.of ?_ (by rintro r ⟨s,_,rfl⟩;exact .clo (shA_clo s)) (by rintro r ⟨e,_,rfl⟩;exact .clo (stop_clo e)) (hT_lo x t ns);rw [exC_mk];unfold hT tyC;have hS:shE ns ru (.mk k s n nl li na ar)=if k=1 then nameE (findN ns s) else nodeE (ru (.mk k s n nl li na ar)) (foldE (fun i=>shE ns ru (ar i)) na):=rfl
 obtain ⟨c,hc⟩: ∃ c,c=flagE (ru (.mk k s n nl li na ar)) (foldE (fun i=>shE ns ru (ar i)) na):=⟨_,rfl⟩
 refine Wv.HTP.by 76 [1,3,15,0,6,5,4,33,32,34,31,10,7,11,48,8,12,59,69] [(2,11),(16,4),(18,6),(1000000,2),(4000018,c)] [.cell 4 120] Tryz.func66 rfl rfl rfl ?base ?_
 case base=>rfl
 by_cases hk1:k=1
 ·rw [if_pos hk1] at hS;cases hq:findN ns s with
  | none=>
   rw [hq] at hS;simp only [nameE] at hS;have hlm:=look_ns s ns;rw [hq] at hlm;simp only [Option.map_none] at hlm;simp (disch:=first|exact Wv.D|fail) only [Wv.B,simprocAttr,alA hk1,kb_ns,hlm];refine call_HTP (fst:=[]) (cap:=[]) (demand_rd false 230) (by rintro av h' ⟨hb,_⟩;cases hb) ?_;rintro av h' ⟨_,rfl,rfl⟩;simp (disch:=first|exact Wv.D|fail) only [Wv.B,simprocAttr,stop_close,hS];exact ⟨230,rfl,rfl⟩
  | some r=>
   rw [hq] at hS;simp only [nameE] at hS;have hlm:=look_ns s ns;rw [hq] at hlm;simp only [Option.map_some,shA] at hlm;simp (disch:=first|exact Wv.D|fail) only [Wv.B,simprocAttr,alA hk1,kb_ns,hlm];refine call_HTP (fst:=[]) (cap:=[]) (demand_rd true 230) ?_ (by rintro av h' ⟨hb,_⟩;cases hb);rintro av h' ⟨_,rfl,rfl⟩;simp (disch:=first|exact Wv.D|fail) only [Wv.B,simprocAttr,hS];exact ⟨r,rfl,rfl⟩
 ·rw [if_neg hk1] at hS;simp (disch:=first|exact Wv.D|fail) only [Wv.B,simprocAttr,alB hk1];generalize hfE:(fun i=>shE ns ru (ar i))=fE at hS hc;have hLc:=tabM_clo (n:=na) (f:=fun i=>exC (ar i)) fun i _=>exC_clo (ar i)
  have hdr: ∀ i,i<na→ ∃ r,List.drop (i*5) (tabM na fun i=>exC (ar i))=exC (ar i)++r:=fun i hi=>tabM_drop (f:=fun i=>exC (ar i)) (fun i=>exC_len (ar i)) hi
  generalize hL:(tabM na fun i=>exC (ar i))=L at hLc hdr ⊢;refine wfor (σ:=Nat) (fun i=>[(0, .ptr 0 0),(3, .ptr 2 0),(4, .ptr 3 0),(7, .ptr 4 0),(8, .v (.int .i64 (getO (foldE fE i)).2.2)),(31, .t na 5 L),(32, .v (.int .i64 na)),(33, .v (.int .i64 i))])
   (fun i=>[some (.blk [.v (.int .i64 x.n), .v (.int .u32 x.p), .v (.int .i64 x.r), .t x.ch.length 1 (x.ch.map fun (c:Nat)=> .v (.int .u32 c)), .v (.int .u32 x.sp), .v (.int .i64 x.wt), .v (.int .u32 x.er), .v (.int .i64 t), .mp 1]),some (.map (nsE ns)),
    some (.blk [.v (.int .i64 k), .v (.string s), .v (.int .i64 n), .t nl 1 (tab nl fun i=> .v (.int .i64 (li i))), .t na 5 L]),some (.blk [.v (.bool false), .v (.int .i64 0)]),some (.blk [.v (.bool (getO (foldE fE i)).1), .v (.int .i64 (getO (foldE fE i)).2.1)])])
   (fun i=>i≤na∧foldE fE i= .ok (getO (foldE fE i))) (fun i=>na - i) 0 ⟨Nat.zero_le _,rfl⟩ (by simp (disch:=first|exact Wv.D|fail) only [Wv.B,simprocAttr,foldE,getO]) (by simp (disch:=first|exact Wv.D|fail) only [Wv.B,simprocAttr,foldE,getO]) ?_
  rintro i ⟨hi,hfo⟩;obtain ⟨r,hr⟩: ∃ r,getO (foldE fE i)=r:=⟨_,rfl⟩
  rw [hr] at hfo;by_cases hlt:i<na
  ·have e1:(i:Int)<na:=by omega
   obtain ⟨r2,hd⟩:=hdr i hlt;have T:=ih i (hh i hlt) (hfa i hlt) (hk.2 i hlt);have hfi:fE i=shE ns ru (ar i):=by rw [←hfE]
   obtain ⟨kn,d,u⟩:=r;have hle: ∀ r,shE ns ru (ar i)= .ok r→r.2≤8:=fun r h=>shE_le hns (ar i) h
   have hbd:=foldE_le (f:=fE) (fun j r h=>by
    rw [←hfE] at h;exact shE_le hns (ar j) h) hfo
   simp only at hbd;have hG:=exG_clo (ar i);have hE:=RD.hT (x:=x) (t:=t) (ns:=ns) (args:=[.g (exC (ar i))]) T;generalize shE ns ru (ar i)=O at hE hfi hle;clear T;have hoy:=hh i hlt;generalize ar i=y at hd hE hG hoy;obtain ⟨k',s',n',nl',li',na',ar',rfl⟩:=ok_mk hoy;rw [exC_mk] at hd hE hG;simp only [List.cons_append,List.nil_append] at hd;unfold tyC at hE;simp (disch:=first|exact Wv.D|fail) only [Wv.B,simprocAttr,hd,hr];refine call_HTP (fst:=[]) (cap:=[]) (hE _ (cloA1 hG) (by rintro r ⟨s,_,rfl⟩;exact shA_clo s) (by rintro r ⟨e,_,rfl⟩;exact stop_clo e)) ?_ ?_
   ·rintro av h' ⟨⟨⟨k2,d2⟩,hO,rfl⟩,rfl⟩;subst hO;have hnx:foldE fE (i+1)= .ok (kn && k2,max d d2,if k2=true then u else u+1):=by simp only [foldE,hfo,hfi]
    have hng:getO (foldE fE (i+1))=(kn && k2,max d d2,if k2=true then u else u+1):=by rw [hnx];rfl
    have hd2:=hle _ rfl;simp only at hd2;have hmx:(if (d2:Int)>(d:Int) then (d2:Int) else (d:Int))=((max d d2:Nat):Int):=by split<;>omega
    unfold shA;cases k2 with
    | true=>
     simp (disch:=first|exact Wv.D|fail) only [Wv.B,simprocAttr,hmx];refine Wv.k_cut (i+1) 5 (by first | decide | exact Nat.le_of_ble_eq_true rfl) (⟨by omega,by rw [hnx];rfl⟩) (by omega) (by simp (disch:=first|exact Wv.D|fail) only [Wv.B,simprocAttr,tab_snoc,hng]) (by simp (disch:=first|exact Wv.D|fail) only [Wv.B,simprocAttr,Int.natCast_add,Int.natCast_one,hng]) (by simp only [Wv.BL, ↓reduceIte,Nat.reduceLeDiff,eq_true hLc,parL_lo,nsE_lo]<;>omega) (by simp only [Wv.BL, ↓reduceIte,Nat.reduceLeDiff,eq_true hLc,parL_lo,nsE_lo]<;>omega)
    | false=>
     simp (disch:=first|exact Wv.D|fail) only [Wv.B,simprocAttr,hmx];refine Wv.k_cut (i+1) 5 (by first | decide | exact Nat.le_of_ble_eq_true rfl) (⟨by omega,by rw [hnx];rfl⟩) (by omega) (by simp (disch:=first|exact Wv.D|fail) only [Wv.B,simprocAttr,tab_snoc,hng]) (by simp (disch:=first|exact Wv.D|fail) only [Wv.B,simprocAttr,Int.natCast_add,Int.natCast_one,hng]) (by simp only [Wv.BL, ↓reduceIte,Nat.reduceLeDiff,eq_true hLc,parL_lo,nsE_lo]<;>omega) (by simp only [Wv.BL, ↓reduceIte,Nat.reduceLeDiff,eq_true hLc,parL_lo,nsE_lo]<;>omega)
   ·rintro av h' ⟨⟨e,hO,rfl⟩,rfl⟩;subst hO;have hnx:foldE fE (i+1)= .error e:=by simp only [foldE,hfo,hfi]
    rw [foldE_err hnx (n:=na) (by omega)] at hS;simp only [nodeE] at hS;simp (disch:=first|exact Wv.D|fail) only [Wv.B,simprocAttr,stop_close,hS];exact ⟨e,rfl,rfl⟩
  ·have hin:i=na:=by omega
   subst hin;obtain ⟨kn,d,u⟩:=r;have hbd:=foldE_le (f:=fE) (fun j r h=>by
    rw [←hfE] at h;exact shE_le hns (ar j) h) hfo
   simp only at hbd;rw [hfo] at hS hc;simp only [nodeE] at hS;simp only [flagE] at hc;have hRu:=hR (.mk k s n nl li i ar) u hk.1 ⟨hs,hnl,hna,hh⟩ hf (by omega);generalize ru (.mk k s n nl li i ar) u=O at hS hRu hc;have hlr:=look_rules k (by omega) hk2;have hG:=exG_clo (.mk k s n nl li i ar);rw [exC_mk] at hG;obtain ⟨hm,hRf⟩:=hRu;unfold RuleC Ex.kind at hRf;rw [exC_mk] at hRf;rw [hL] at hG hRf;simp (disch:=first|exact Wv.D|fail) only [Wv.B,simprocAttr,hr];refine calm_HT (fst:=[]) (cap:=[]) (prules_rd (Nat.zero_lt_succ _) (by simp only [Wv.BL, ↓reduceIte,Nat.reduceLeDiff,nsE_lo,parL_lo,eq_true hLc,List.length_cons,List.length_nil,Nat.reduceAdd,Nat.reduceLT])) ?_ (by rintro av h' ⟨h,_⟩;exact h.elim);cases hq:ruleF k with
   | none=>
    rw [hq] at hlr hRf;simp only at hRf;simp only [Option.map_none] at hlr;subst hRf;cases kn with
    | true=>
     have hS1:finE true d (.ok 0)= .ok (true,0):=rfl;rw [hS1] at hS;simp (disch:=first|exact Wv.D|fail) only [Wv.B,simprocAttr,kb_rules,hlr];refine call_HTP (fst:=[]) (cap:=[]) (demand_rd true 232) ?_ (by rintro av h' ⟨hb,_⟩;cases hb);rintro av h' ⟨_,rfl,rfl⟩;simp (disch:=first|exact Wv.D|fail) only [Wv.B,simprocAttr,hS];exact ⟨_,rfl,rfl⟩
    | false=>
     have hS1:finE false d (.ok 0)= .ok (false,d):=if_pos (by show d+0≤8;omega);rw [hS1] at hS;have hd8:(d:Int)≤8:=by omega
     simp (disch:=first|exact Wv.D|fail) only [Wv.B,simprocAttr,kb_rules,hlr,alA hd8];refine call_HTP (fst:=[]) (cap:=[]) (demand_rd true 232) ?_ (by rintro av h' ⟨hb,_⟩;cases hb);rintro av h' ⟨_,rfl,rfl⟩;simp (disch:=first|exact Wv.D|fail) only [Wv.B,simprocAttr,hS];exact ⟨_,rfl,rfl⟩
   | some f=>
    rw [hq] at hlr hRf;simp only at hRf;simp only [Option.map_some] at hlr;have hE:=RD.hT (x:=x) (t:=t) (ns:=ns) (args:=[.g _, .v (.int .i64 u)]) hRf;unfold tyC at hE;simp (disch:=first|exact Wv.D|fail) only [Wv.B,simprocAttr,kb_rules,hlr];cases O with
    | error e=>
     have hc1:c=1:=hc;refine calm_HT (res:= .t 1 1 []) (fst:=[.ptr 0 0]) (cap:=[]) ((hE _ (cloA2 hG Wv.c) (by rintro r ⟨s,_,rfl⟩;exact .v _) (by rintro r ⟨e,_,rfl⟩;exact stop_clo e)).mono (by rintro r h' ⟨⟨_,q,_⟩,_⟩;cases q) (fun _ _ q=>q)) ?_ ?_
     ·simp (disch:=first|exact Wv.D|fail) only [Wv.B,simprocAttr,hc1];exact ⟨5,_,_,rfl,rfl,rfl,rfl,rfl⟩
     ·rintro av h' ⟨⟨e',q,rfl⟩,rfl⟩;injection q with q;subst q;have hS2:finE kn d (.error e)= .error e:=rfl;rw [hS2] at hS;simp (disch:=first|exact Wv.D|fail) only [Wv.B,simprocAttr,stop_close,hS];exact ⟨_,rfl,rfl⟩
    | ok m=>
     have hm':=hm m rfl;have hc1:c=0:=hc;refine calm_HT (res:= .v (.int .i64 m)) (fst:=[.ptr 0 0]) (cap:=[]) ((hE _ (cloA2 hG Wv.c) (by rintro r ⟨s,_,rfl⟩;exact .v _) (by rintro r ⟨e,_,rfl⟩;exact stop_clo e)).mono (by rintro r h' ⟨⟨_,q,rfl⟩,rfl⟩;injection q with q;subst q;exact ⟨rfl,rfl⟩) (fun _ _ q=>q)) ?_ (by rintro av h' ⟨⟨_,q,_⟩,_⟩;cases q);have hS2:finE kn d (.ok m)=if (if kn=true then 0 else d+m)≤8 then .ok (kn,if kn=true then 0 else d+m) else .error 232:=rfl
     rw [hS2] at hS;cases kn with
     | true=>
      simp only [if_true,Nat.zero_le] at hS;simp (disch:=first|exact Wv.D|fail) only [Wv.B,simprocAttr,hc1];refine call_HTP (fst:=[]) (cap:=[]) (demand_rd true 232) ?_ (by rintro av h' ⟨hb,_⟩;cases hb);rintro av h' ⟨_,rfl,rfl⟩;simp (disch:=first|exact Wv.D|fail) only [Wv.B,simprocAttr,hS];exact ⟨_,rfl,rfl⟩
     | false=>
      simp only [Bool.false_eq_true,if_false] at hS;by_cases h8:d+m≤8
      ·rw [if_pos h8] at hS;have hd8:(d:Int)+m≤8:=by omega
       simp (disch:=first|exact Wv.D|fail) only [Wv.B,simprocAttr,hc1,alA hd8];refine call_HTP (fst:=[]) (cap:=[]) (demand_rd true 232) ?_ (by rintro av h' ⟨hb,_⟩;cases hb);rintro av h' ⟨_,rfl,rfl⟩;simp (disch:=first|exact Wv.D|fail) only [Wv.B,simprocAttr,hS];exact ⟨_,rfl,by unfold shA;rw [Int.natCast_add]⟩
      ·rw [if_neg h8] at hS;have hd8: ¬ (d:Int)+m≤8:=by omega
       simp (disch:=first|exact Wv.D|fail) only [Wv.B,simprocAttr,hc1,alB hd8];refine call_HTP (fst:=[]) (cap:=[]) (demand_rd false 232) (by rintro av h' ⟨hb,_⟩;cases hb) ?_;rintro av h' ⟨_,rfl,rfl⟩;simp (disch:=first|exact Wv.D|fail) only [Wv.B,simprocAttr,stop_close,hS];exact ⟨_,rfl,rfl⟩
end
section
open Go.RowKit Wv
end
section
open Go.RowKit Wv
def mxN (f:Nat→Int):Nat→Int
 | 0=>f 0
 | i+1=>if f (i+1)>mxN f i then f (i+1) else mxN f i
def mnN (f:Nat→Int):Nat→Int
 | 0=>f 0
 | i+1=>if f (i+1)<mnN f i then f (i+1) else mnN f i
theorem mxN_le {f : Nat → Int} {h : Int} : ∀ n, mxN f n ≤ h ↔ ∀ i, i ≤ n → f i ≤ h
  | 0 => ⟨fun q i hi => by obtain rfl : i = 0 := by omega
                           exact q, fun q => q 0 (Nat.le_refl _)⟩
  | n + 1 => by
    have ih := mxN_le (f := f) (h := h) n;unfold mxN;constructor
    · intro q i hi
      by_cases e : i = n + 1
      · subst e; split at q <;> omega
      · exact ih.1 (by split at q <;> omega) i (by omega)
    · intro q
      have h1 := ih.2 fun i hi => q i (by omega)
      have h2 := q (n + 1) (Nat.le_refl _);split <;> omega
theorem mnN_ge {f : Nat → Int} {h : Int} : ∀ n, h ≤ mnN f n ↔ ∀ i, i ≤ n → h ≤ f i
  | 0 => ⟨fun q i hi => by obtain rfl : i = 0 := by omega
                           exact q, fun q => q 0 (Nat.le_refl _)⟩
  | n + 1 => by
    have ih := mnN_ge (f := f) (h := h) n;unfold mnN;constructor
    · intro q i hi
      by_cases e : i = n + 1
      · subst e; split at q <;> omega
      · exact ih.1 (by split at q <;> omega) i (by omega)
    · intro q
      have h1 := ih.2 fun i hi => q i (by omega)
      have h2 := q (n + 1) (Nat.le_refl _);split <;> omega
theorem pmax_tc (n:Nat) (f:Nat→Int) (h1:1≤n) (h2:n≤140737488351232):TC Tryz.prog 23 [vcA n f] (.v (.int .i64 (mxN f (n - 1)))):=by
 unfold vcA;refine Wv.TC.by 25 [0,7,4,15,3,2] [] [.tmp 2] Tryz.func23 rfl rfl rfl ?clo ?_
 case clo=>simp only [Wv.BC]
 refine Wv.W ?_;refine wfor (σ:=Nat) (fun i=>[(0, .t n 1 (tab n fun j=> .v (.int .i64 (f j)))),(3, .v (.int .i64 (mxN f i))),(4, .v (.int .i64 (i+1:Nat)))]) (fun _=>[]) (fun i=>i≤n - 1) (fun i=>n - i) 0 (Nat.zero_le _) Wv.V (by simp (disch:=first|exact Wv.D|fail) only [Wv.B,simprocAttr,mxN]) ?_;intro i hi;by_cases hlt:i+1<n
 ·have e1:((i+1:Nat):Int)<n:=by omega
  have hm:mxN f (i+1)=if f (i+1)>mxN f i then f (i+1) else mxN f i:=rfl
  simp (disch:=first|exact Wv.D|fail) only [Wv.B,simprocAttr,alA e1];refine k_next (i+1) (by omega) (by omega) rfl (by simp (disch:=first|exact Wv.D|fail) only [Wv.B,simprocAttr,hm,Int.natCast_add,Int.natCast_one])
 ·obtain rfl:i=n - 1:=by omega
  have e1: ¬ ((n - 1+1:Nat):Int)<n:=by omega
  simp (disch:=first|exact Wv.D|fail) only [Wv.B,simprocAttr,alB e1]
theorem pmin_tc (n:Nat) (f:Nat→Int) (h1:1≤n) (h2:n≤140737488351232):TC Tryz.prog 24 [vcA n f] (.v (.int .i64 (mnN f (n - 1)))):=by
 unfold vcA;refine Wv.TC.by 25 [0,7,4,15,3,2] [] [.tmp 2] Tryz.func24 rfl rfl rfl ?clo ?_
 case clo=>simp only [Wv.BC]
 refine Wv.W ?_;refine wfor (σ:=Nat) (fun i=>[(0, .t n 1 (tab n fun j=> .v (.int .i64 (f j)))),(3, .v (.int .i64 (mnN f i))),(4, .v (.int .i64 (i+1:Nat)))]) (fun _=>[]) (fun i=>i≤n - 1) (fun i=>n - i) 0 (Nat.zero_le _) Wv.V (by simp (disch:=first|exact Wv.D|fail) only [Wv.B,simprocAttr,mnN]) ?_;intro i hi;by_cases hlt:i+1<n
 ·have e1:((i+1:Nat):Int)<n:=by omega
  have hm:mnN f (i+1)=if f (i+1)<mnN f i then f (i+1) else mnN f i:=rfl
  simp (disch:=first|exact Wv.D|fail) only [Wv.B,simprocAttr,alA e1];refine k_next (i+1) (by omega) (by omega) rfl (by simp (disch:=first|exact Wv.D|fail) only [Wv.B,simprocAttr,hm,Int.natCast_add,Int.natCast_one])
 ·obtain rfl:i=n - 1:=by omega
  have e1: ¬ ((n - 1+1:Nat):Int)<n:=by omega
  simp (disch:=first|exact Wv.D|fail) only [Wv.B,simprocAttr,alB e1]
def putE:Env→ByteArray→(Nat→Int)→Env
 | [],s,f=>[(s,f)]
 | p::r,s,f=>if s=p.1 then (s,f)::r else p::putE r s f
end
section
open Go.RowKit
theorem tyd_ok (a0 a1 a2 a3:Addr) (w:World):
  CallsD Tryz.prog 63 #[.pointer (some a0), .pointer (some a1), .pointer (some a2), .pointer (some a3)] .returning w fun e u' w'=>u'= .returning∧(e= .returned (.tuple #[])∧w'=w):=by
 refine callsD_of_wpS Tryz.func63 rfl fun c₀ cs hu=>?_
 refine wpS_seq (wpS_region ?_);simp [wpOpsS,go_sem,recoverD,hu,Tryz.ntmps63,Exit.thenS];refine wpS_of_wp ?_;go_wp2
 cases c₀;simp_all [bodyPostS,results,Tryz.results63,Exit.inBlock,Exit.then]
theorem ty_assert (v:Value) (w:World):(Instr.typeAssert (.iface 113 v) 20 113 true).run Tryz.prog w= .ok (.tuple #[v, .bool true]) w:=by
 simp [Instr.typeAssert,go_sem]
theorem tyd_stop (b0 b1 b2 b3:Nat) (e pl:Int) (s0:Value) (i0 e0:Int) (w:World) (h0:w.cell? ⟨b0,0,none⟩=some (.int .i64 pl)) (h1:w.cell? ⟨b1,0,none⟩=some s0) (h2:w.cell? ⟨b2,0,none⟩=some (.int .i64 i0)) (h3:w.cell? ⟨b3,0,none⟩=some (.int .i64 e0)) (z1:w.frozen? ⟨b1,0,none⟩=false) (z2:w.frozen? ⟨b2,0,none⟩=false) (z3:w.frozen? ⟨b3,0,none⟩=false)
  (n01:b0≠b1) (n02:b0≠b2) (n03:b0≠b3) (n12:b1≠b2) (n13:b1≠b3) (n23:b2≠b3):
  CallsD Tryz.prog 63 #[.pointer (some ⟨b0,0,none⟩), .pointer (some ⟨b1,0,none⟩), .pointer (some ⟨b2,0,none⟩), .pointer (some ⟨b3,0,none⟩)] (.panicking [{v:= .iface 113 (.agg #[.int .i64 e]),recovered:=false}]) w fun r u' w'=>
   u'= .panicking [{v:= .iface 113 (.agg #[.int .i64 e]),recovered:=true}]∧(r= .returned (.tuple #[])∧w'=((((w.alloc (.cells #[.int .i64 e] 113)).setCell ⟨b1,0,none⟩ (.slice none 0 0)).setCell ⟨b2,0,none⟩ (.int .i64 pl)).setCell ⟨b3,0,none⟩ (.int .i64 e)).drew):=by
 have l0:=World.block_lt_of_cell? w _ h0;have l1:=World.block_lt_of_cell? w _ h1;have l2:=World.block_lt_of_cell? w _ h2;have l3:=World.block_lt_of_cell? w _ h3;simp only at l0 l1 l2 l3;have m0:w.heap.size≠b0:=by omega
 have m1:w.heap.size≠b1:=by omega
 have m2:w.heap.size≠b2:=by omega
 have m3:w.heap.size≠b3:=by omega
 have x0:(w.alloc (.cells #[.int .i64 e] 113)).cell? ⟨b0,0,none⟩=some (.int .i64 pl):=by simp [go_sem,l0,h0]
 have x1:(w.alloc (.cells #[.int .i64 e] 113)).cell? ⟨b1,0,none⟩=some s0:=by simp [go_sem,l1,h1]
 have x2:(w.alloc (.cells #[.int .i64 e] 113)).cell? ⟨b2,0,none⟩=some (.int .i64 i0):=by simp [go_sem,l2,h2]
 have x3:(w.alloc (.cells #[.int .i64 e] 113)).cell? ⟨b3,0,none⟩=some (.int .i64 e0):=by simp [go_sem,l3,h3]
 have x4:(w.alloc (.cells #[.int .i64 e] 113)).cell? ⟨w.heap.size,0,none⟩=some (.int .i64 e):=by simp [go_sem]
 have y1:(w.alloc (.cells #[.int .i64 e] 113)).frozen? ⟨b1,0,none⟩=false:=by simp [go_sem,l1,z1]
 have y2:(w.alloc (.cells #[.int .i64 e] 113)).frozen? ⟨b2,0,none⟩=false:=by simp [go_sem,l2,z2]
 have y3:(w.alloc (.cells #[.int .i64 e] 113)).frozen? ⟨b3,0,none⟩=false:=by simp [go_sem,l3,z3]
 refine callsD_of_wpS Tryz.func63 rfl fun c₀ cs hu=>?_
 refine wpS_seq (wpS_region ?_);simp [wpOpsS,go_sem,recoverD,hu,Tryz.ntmps63,Exit.thenS];refine wpS_of_wp ?_;have hta:=ty_assert (.agg #[.int .i64 e]) w;go_wp2
 clear h0 h1 h2 h3 z1 z2 z3 hta l0 l1 l2 l3;generalize hW:w.alloc (.cells #[.int .i64 e] 113)=W at x0 x1 x2 x3 x4 y1 y2 y3 ⊢;generalize w.heap.size=b4 at m0 m1 m2 m3 x4 ⊢;go_region
 all_goals
  clear x0 x1 x2 x3 x4 y1 y2 y3 m0 m1 m2 m3 n01 n02 n03 n12 n13 n23;go_wp2
  cases c₀;simp_all [bodyPostS,results,Tryz.results63]
end
section
open Go.RowKit Wv
theorem pfresh_rd (x:Par) (t:Int) (ns:Nms) (s:ByteArray):RD Tryz.prog 64 [.ptr 0 0, .v (.string s)] (hT x t ns) (fun r=>findN ns s=none∧r= .tup []) (fun r=>findN ns s≠none∧r=stopA 230):=by
 refine RD.of ?_ (by rintro r ⟨_,rfl⟩;exact .clo Wv.c) (by rintro r ⟨_,rfl⟩;exact .clo (stop_clo 230)) (hT_lo x t ns);have hlm:=look_ns s ns;unfold hT tyC;refine Wv.HTP.by 18 [0,1,5] [(1000000,2)] [] Tryz.func64 rfl rfl rfl ?base ?_
 case base=>rfl
 cases hq:findN ns s with
 | none=>
  rw [hq] at hlm;simp only [Option.map_none] at hlm;simp (disch:=first|exact Wv.D|fail) only [Wv.B,simprocAttr,kb_ns,hlm];refine call_HTP (fst:=[]) (cap:=[]) (demand_rd true 230) ?_ (by rintro av h' ⟨hb,_⟩;cases hb);rintro av h' ⟨_,rfl,rfl⟩;simp (disch:=first|exact Wv.D|fail) only [Wv.B,simprocAttr,hq]
 | some r=>
  rw [hq] at hlm;simp only [Option.map_some,shA] at hlm;simp (disch:=first|exact Wv.D|fail) only [Wv.B,simprocAttr,kb_ns,hlm];refine call_HTP (fst:=[]) (cap:=[]) (demand_rd false 230) (by rintro av h' ⟨hb,_⟩;cases hb) ?_;rintro av h' ⟨_,rfl,rfl⟩;simp (disch:=first|exact Wv.D|fail) only [Wv.B,simprocAttr,stop_close,hq]
theorem put_ns (s:ByteArray) (r:Bool × Nat): ∀ ns:Nms,findN ns s=none→putM (.string s) (shA r) (nsE ns)=nsE (ns++[(s,r)])
 | [],_=>rfl
 | p::q,h=>by
  unfold findN at h;by_cases e:s=p.1
  ·rw [if_pos e] at h;cases h
  ·rw [if_neg e] at h;have ih:=put_ns s r q h;show (if keyE (.string s) (.string p.1)=true then _ else _)=_;have:keyE (.string s) (.string p.1)=decide (s=p.1):=ke_str;rw [this,if_neg (by simp [e])];show (Value.string p.1,shA p.2)::putM (.string s) (shA r) (nsE q)=_;rw [ih];rfl
theorem loH_fr {m:Nat}: ∀ {h:Hp},loH m h→loH m (h.map froze)
 | [],q=>q
 | none::r,q=>loH_fr (h:=r) q
 | some (.blk c)::r,q=>⟨q.1,loH_fr q.2⟩
 | some (.arr T s c fz)::r,q=>⟨q.1,loH_fr q.2⟩
 | some (.map es)::r,q=>⟨q.1,loH_fr q.2⟩
theorem loH_app {m:Nat}: ∀ {a b:Hp},loH m (a++b)=(loH m a∧loH m b)
 | [],b=>by show loH m b=(True∧loH m b);rw [true_and]
 | none::r,b=>loH_app (a:=r)
 | some (.blk c)::r,b=>by show (loL m c∧loH m (r++b))=((loL m c∧loH m r)∧loH m b);rw [loH_app,and_assoc]
 | some (.arr T s c fz)::r,b=>by show (loL m c∧loH m (r++b))=((loL m c∧loH m r)∧loH m b);rw [loH_app,and_assoc]
 | some (.map es)::r,b=>by show (loL m (es.map (·.2))∧loH m (r++b))=((loL m (es.map (·.2))∧loH m r)∧loH m b);rw [loH_app,and_assoc]
theorem pdefine_ht (o0 o1 o2 o3 o4 o5:Option Ob) (r0:Hp) (P:List AV) (hP:P.length=8) (ns:Nms) (s:ByteArray) (r:Bool × Nat) (hn:findN ns s=none) (hlo:loH (r0.length+8) (o0::o1::o2::o3::o4::o5::some (.map (nsE ns))::some (.blk (P++[.mp 6]))::r0)):
  HT Tryz.prog 65 [.ptr 7 0, .v (.string s),shA r] (o0::o1::o2::o3::o4::o5::some (.map (nsE ns))::some (.blk (P++[.mp 6]))::r0)
   (fun q h'=>q= .tup []∧h'=froze o0::froze o1::froze o2::froze o3::froze o4::froze o5::some (.map (nsE (ns++[(s,r)])))::some (.blk (P++[.mp 6]))::r0.map froze):=by
 have hput:=put_ns s r ns hn;unfold shA at hput ⊢;match P,hP with
 | [p0,p1,p2,p3,p4,p5,p6,p7],_=>
 simp only [List.cons_append,List.nil_append] at hlo ⊢;have T:HT Tryz.prog 65 [.ptr 7 0, .v (.string s), .g [.v (.bool r.1), .v (.int .i64 r.2)]] (o0::o1::o2::o3::o4::o5::some (.map (nsE ns))::some (.blk [p0,p1,p2,p3,p4,p5,p6,p7, .mp 6])::r0)
   (fun q h'=>q= .tup []∧h'.take (r0.length+8)=froze o0::froze o1::froze o2::froze o3::froze o4::froze o5::some (.map (nsE (ns++[(s,r)])))::some (.blk [p0,p1,p2,p3,p4,p5,p6,p7, .mp 6])::r0.map froze):=by
  refine Wv.HT.by 12 [2,0,1,5] [(1,6),(1000000,r0.length+8)] [] Tryz.func65 rfl rfl rfl ?base ?_
  case base=>rfl
  have hget: ∀ o:Option Ob,(List.map froze (r0++[o]))[r0.length]? =some (froze o):=fun o=>by rw [List.getElem?_map,List.getElem?_concat_length];rfl
  have hend: ∀ o:Option Ob,List.take r0.length (List.map froze (r0++[o]))=List.map froze r0:=fun o=>by
   rw [List.map_append,List.take_append_of_le_length (by rw [List.length_map];exact Nat.le_refl _),List.take_of_length_le (by rw [List.length_map];exact Nat.le_refl _)]
  simp (disch:=first|exact Wv.D|fail) only [Wv.B,simprocAttr,kb_ns,hput,hget,hend,List.length_cons]
 have hfin:loH (r0.length+8) (froze o0::froze o1::froze o2::froze o3::froze o4::froze o5::some (.map (nsE (ns++[(s,r)])))::some (.blk [p0,p1,p2,p3,p4,p5,p6,p7, .mp 6])::r0.map froze):=by
  have h1:=loH_fr hlo;have e1: ∀ es:List (Value × AV),List.map froze (o0::o1::o2::o3::o4::o5::some (.map es)::some (.blk [p0,p1,p2,p3,p4,p5,p6,p7, .mp 6])::r0)=[froze o0,froze o1,froze o2,froze o3,froze o4,froze o5]++some (.map es)::some (.blk [p0,p1,p2,p3,p4,p5,p6,p7, .mp 6])::r0.map froze:=fun es=>rfl
  rw [e1,loH_app] at h1;show loH _ ([froze o0,froze o1,froze o2,froze o3,froze o4,froze o5]++some (.map (nsE (ns++[(s,r)])))::some (.blk [p0,p1,p2,p3,p4,p5,p6,p7, .mp 6])::r0.map froze);rw [loH_app];exact ⟨h1.1,fun a ha=> .clo (nsE_clo _ a ha),h1.2.2⟩
 refine (((T.toP fun _ _=>False).cut (fun q h' e=>?_) (fun _ _ e=>e.elim)).mono ?_ ?_).toT fun _ _ e=>e
 ·obtain ⟨rfl,e⟩:=e;refine ⟨.clo Wv.c,?_⟩;simp only [List.length_cons];rw [e];exact hfin
 ·rintro q h2 ⟨h',⟨rfl,e⟩,rfl⟩;refine ⟨rfl,?_⟩;simp only [List.length_cons];exact e
 ·rintro q h2 ⟨_,e,_⟩;exact e.elim
def tyP (x:Par) (t:Int):List AV:=[.v (.int .i64 x.n), .v (.int .u32 x.p), .v (.int .i64 x.r), .t x.ch.length 1 (x.ch.map fun (c:Nat)=> .v (.int .u32 c)), .v (.int .u32 x.sp), .v (.int .i64 x.wt), .v (.int .u32 x.er), .v (.int .i64 t)]
theorem tyP_clo (x:Par) (t:Int): ∀ a,a∈tyP x t→Clo a:=by
 have h:=parC_clo x;simp only [parC,List.mem_cons,List.not_mem_nil,or_false,forall_eq_or_imp,forall_eq] at h;obtain ⟨h1,h2,h3,h4,h5,h6,h7⟩:=h;unfold tyP;simp only [List.mem_cons,List.not_mem_nil,or_false,forall_eq_or_imp,forall_eq];exact ⟨h1,h2,h3,h4,h5,h6,h7, .v _⟩
theorem rdT7 {x:Par} {t:Int} {ns:Nms} {f:FuncId} {args:List AV} {R p:AV→Prop} (T:RD Tryz.prog f (.ptr 0 0::args) (hT x t ns) R p) (o0 o1 o2 o3 o4 o5:Option Ob) (r:Hp) (ha: ∀ (a:AV),a∈args→Clo a) (hR: ∀ r,R r→Clo r) (hp: ∀ r,p r→Clo r):
  RD Tryz.prog f (.ptr 7 0::args) (o0::o1::o2::o3::o4::o5::some (.map (nsE ns))::some (.blk (tyP x t++[.mp 6]))::r) R p:=by
 have h:=parC_clo x;simp only [parC,List.mem_cons,List.not_mem_nil,or_false,forall_eq_or_imp,forall_eq] at h;obtain ⟨h1,h2,h3,h4,h5,h6,h7⟩:=h;refine RD.frame (σ:=fun i=>if i=0 then 7 else 6) T ⟨fun i j hi hj e=>?_,fun i o ho=>?_⟩ ⟨.ptr (by show 0<2;omega),RnL.clo ha⟩ hR hp
 ·have hi':i<2:=hi;have hj':j<2:=hj;have e':(if i=0 then 7 else 6)=(if j=0 then 7 else 6):=e;split at e'<;>split at e'<;>omega
 ·unfold hT at ho ⊢;match i with
  | 0=>
   simp at ho;subst ho;exact ⟨_,_,rfl,rfl, .clo h1, .clo h2, .clo h3, .clo h4, .clo h5, .clo h6, .clo h7, .clo (.v _), .mp (by show 1<2;omega),trivial⟩
  | 1=>
   simp at ho;subst ho;exact ⟨_,_,rfl,rfl,rfl,RnL.clo (nsE_clo ns)⟩
  | i+2=>simp at ho
end
section
open Go.RowKit Wv
def insT (f:Nat→ByteArray):Nat→Option Nms
 | 0=>some []
 | n+1=>(insT f n).bind fun ns=>match findN ns (f n) with
  | some _=>none
  | none=>some (ns++[(f n,false,0)])
theorem insT_none {f:Nat→ByteArray} {i:Nat} (h:insT f i=none): ∀ {n:Nat},i≤n→insT f n=none
 | 0,q=>by
  have:i=0:=by omega
  subst this;exact h
 | n+1,q=>by
  by_cases e:i=n+1
  ·subst e;exact h
  ·have:=insT_none h (n:=n) (by omega);simp only [insT,this,Option.bind_none]
theorem findN_app {s:ByteArray} {r r':Bool × Nat} {s':ByteArray}: ∀ {ns:Nms},findN (ns++[(s',r')]) s=some r→findN ns s=some r∨r=r'
 | [],h=>by
  unfold findN at h;simp only [List.nil_append] at h;split at h
  ·injection h with h;exact .inr h.symm
  ·cases h
 | p::q,h=>by
  have h':(if s=p.1 then some p.2 else findN (q++[(s',r')]) s)=some r:=h;show (if s=p.1 then some p.2 else findN q s)=some r∨_;by_cases e:s=p.1
  ·rw [if_pos e] at h' ⊢;exact .inl h'
  ·rw [if_neg e] at h' ⊢;exact findN_app h'
theorem insT_le {f:Nat→ByteArray}: ∀ {n:Nat} {ns:Nms} {s:ByteArray} {r:Bool × Nat},insT f n=some ns→findN ns s=some r→r.2≤8
 | 0,ns,s,r,h,h2=>by injection h with h;subst h;cases h2
 | n+1,ns,s,r,h,h2=>by
  cases hq:insT f n with
  | none=>simp only [insT,hq,Option.bind_none] at h;cases h
  | some ns'=>
   simp only [insT,hq,Option.bind_some] at h;cases hf:findN ns' (f n) with
   | some _=>rw [hf] at h;cases h
   | none=>
    rw [hf] at h;injection h with h;subst h;rcases findN_app h2 with q | q
    ·exact insT_le hq q
    ·subst q;exact Nat.zero_le _
def getL:Except (Nat × Int) (Nms × List (Bool × Nat))→Nms × List (Bool × Nat)
 | .ok q=>q
 | .error _=>([],[])
def letS (ns:Nms) (ss:List (Bool × Nat)) (i:Nat) (s:ByteArray):Except Int (Bool × Nat)→Except (Nat × Int) (Nms × List (Bool × Nat))
 | .error e=> .error (i,e)
 | .ok r=> .ok (ns++[(s,r)],ss++[r])
def letR (ln:Nat→ByteArray) (sh:Nms→Nat→Except Int (Bool × Nat)) (i:Nat):Except (Nat × Int) (Nms × List (Bool × Nat))→Except (Nat × Int) (Nms × List (Bool × Nat))
 | .error e=> .error e
 | .ok (ns,ss)=>if (findN ns (ln i)).isSome=true then .error (i,230) else letS ns ss i (ln i) (sh ns i)
def letT (ns0:Nms) (ln:Nat→ByteArray) (sh:Nms→Nat→Except Int (Bool × Nat)):Nat→Except (Nat × Int) (Nms × List (Bool × Nat))
 | 0=> .ok (ns0,[])
 | i+1=>letR ln sh i (letT ns0 ln sh i)
def outR:Option (Bool × Nat)→Option Int
 | none=>some 230
 | some r=>if r.1=true then some 234 else none
def outT (ns:Nms) (fo:Nat→ByteArray):Nat→Option Int
 | 0=>none
 | i+1=>match outT ns fo i with
  | some e=>some e
  | none=>outR (findN ns (fo i))
theorem outT_some {ns:Nms} {fo:Nat→ByteArray} {i:Nat} {e:Int} (h:outT ns fo i=some e): ∀ {n:Nat},i≤n→outT ns fo n=some e
 | 0,q=>by
  have:i=0:=by omega
  subst this;exact h
 | n+1,q=>by
  by_cases e2:i=n+1
  ·subst e2;exact h
  ·have:=outT_some h (n:=n) (by omega);simp only [outT,this]
theorem letT_err {ns0:Nms} {ln:Nat→ByteArray} {sh:Nms→Nat→Except Int (Bool × Nat)} {i:Nat} {q:Nat × Int} (h:letT ns0 ln sh i= .error q): ∀ {n:Nat},i≤n→letT ns0 ln sh n= .error q
 | 0,e=>by
  have:i=0:=by omega
  subst this;exact h
 | n+1,e=>by
  by_cases e2:i=n+1
  ·subst e2;exact h
  ·have:=letT_err h (n:=n) (by omega);show letR ln sh n (letT ns0 ln sh n)=_;rw [this];rfl
theorem check_few {c:Ci} (h:checkI c=0):c.nl≤60:=by
 unfold checkI at h;split at h
 ·cases h
 ·next h1=>
  have h2:fewB c=true:=by
   cases hf:fewB c with
   | true=>rfl
   | false=>exact absurd (by rw [hf];simp) h1
  unfold fewB at h2;simp only [Bool.and_eq_true,decide_eq_true_eq] at h2;omega
theorem check_form {c:Ci} (h:checkI c=0) {i:Nat} (hi:i<c.nl):formB (c.le i)=true:=by
 unfold checkI at h;split at h
 ·cases h
 ·split at h
  ·cases h
  ·next h2=>
   cases hf:formB (c.le i) with
   | true=>rfl
   | false=>
    refine absurd ?_ h2;unfold anyN;refine List.any_eq_true.2 ⟨i,List.mem_range.2 hi,?_⟩;rw [hf];simp
def lastT (ss:List (Bool × Nat)) (nl:Nat):Option Int→List (Bool × Nat) × Int × Int
 | some e=>([],nl,e)
 | none=>(ss,0,0)
def midT (c:Ci):Except (Nat × Int) (Nms × List (Bool × Nat))→List (Bool × Nat) × Int × Int
 | .error (i,e)=>([],i,e)
 | .ok (ns,ss)=>lastT ss c.nl (outT ns c.fo c.no)
def typeT (c:Ci) (ru:Ex→Nat→Except Int Nat):List (Bool × Nat) × Int × Int:=match insT c.fi c.ni with
 | none=>([], -1,230)
 | some ns=>midT c (letT ns c.ln (fun ns i=>shE ns ru (c.le i)) c.nl)
def shL (ss:List (Bool × Nat)):List AV:=ss.flatMap fun r=>[.v (.bool r.1), .v (.int .i64 r.2)]
theorem shL_clo (ss:List (Bool × Nat)): ∀ a,a∈shL ss→Clo a:=by
 intro a ha;obtain ⟨r,_,h⟩:=List.mem_flatMap.1 ha;simp only [List.mem_cons,List.not_mem_nil,or_false] at h;rcases h with rfl | rfl
 ·exact .v _
 ·exact .v _
theorem shL_len (ss:List (Bool × Nat)):(shL ss).length=ss.length*2:=by
 induction ss with
 | nil=>rfl
 | cons r q ih=>
  show (_::_::shL q).length=_;rw [List.length_cons,List.length_cons,ih,List.length_cons];omega
theorem shL_app (ss:List (Bool × Nat)) (r:Bool × Nat):shL (ss++[r])=shL ss++[.v (.bool r.1), .v (.int .i64 r.2)]:=by
 unfold shL;rw [List.flatMap_append];rfl
def typeA (q:List (Bool × Nat) × Int × Int):AV:= .tup [.t q.1.length 2 (shL q.1), .v (.int .i64 q.2.1), .v (.int .i64 q.2.2)]
def typeQ (me:Int) (c:Ci) (ru:Ex→Nat→Except Int Nat):List (Bool × Nat) × Int × Int:=
 if me≠0 then ([],0,2) else if checkI c≠0 then ([],0,checkI c) else typeT c ru
variable {X:Cx}
theorem StepN.weak {n:Nat} {Y:Cx} (S:StepN n X Y):StepN 0 X Y:=
 ⟨S.os,S.tape,S.output,S.size,S.block,S.keep,Nat.zero_le _,fun _ _ _ _ _ h=>absurd h (Nat.not_lt_zero _),fun _ _ h=>absurd h (Nat.not_lt_zero _),S.own,S.badk,fun _ _ h=>absurd h (Nat.not_lt_zero _),S.dse⟩
theorem StepN.defs {n:Nat} {Y:Cx} {d d2:List Deferred} (S:StepN n (X.def_ d2) Y):StepN n (X.def_ d) (Y.def_ d):=
 ⟨S.os,S.tape,S.output,S.size,S.block,S.keep,S.len,S.oarr,S.oblk,S.own,S.badk,S.omap,rfl⟩
theorem rep_v {x y:Value} (h:Rep X (.v x) y):y=x:=by cases h;rfl
theorem stop_rep {e:Int} {v:Value} (h:Rep X (stopA e) v):v= .iface 113 (.agg #[.int .i64 e]):=by
 unfold stopA at h;cases h with
 | ifc h=>
  cases h with
  | @g _ cvs hc hr=>
   match cvs,hc with
   | [c0],_=>rw [rep_v (hr 0 _ c0 rfl rfl)]
theorem blk_cell (hX:Ok X) {id b:Nat} {a:AV} (h:X.h[id]? =some (some (.blk [a]))) (hb:(X.m id).1=some b): ∃ x,X.w.cell? ⟨b,0,none⟩=some x∧X.w.frozen? ⟨b,0,none⟩=false∧Rep X a x:=by
 obtain ⟨b',cvs,T,h1,h2,h3,_,h5⟩:=hX.blk id _ h;rw [hb] at h1;injection h1 with h1;subst h1;have hs:0<cvs.size:=by rw [h3];exact Nat.one_pos
 refine ⟨cvs[0],?_,?_,h5 0 a _ rfl (Array.getElem?_eq_getElem hs)⟩
 ·simp [World.cell?,h2,Array.getElem?_eq_getElem hs]
 ·simp [World.frozen?,h2]
theorem ptr_rep {id off:Nat} {v:Value} {c:List AV} (h:Rep X (.ptr id off) v) (hc:X.h[id]? =some (some (.blk c))): ∃ b,(X.m id).1=some b∧v= .pointer (some ⟨b,off,none⟩):=by
 cases h with
 | ptr hid h=>exact h c hc
def tyL:List Nat:=[0,1,2,6,28,4,5,3,8,32,9,7,43,42,44,41,10,12,58,57,59,56,13,14,15,88,87,89,86,17,19,18]
def errA (i e:Int):AV:= .tup [.v (.slice none 0 0), .v (.int .i64 i), .v (.int .i64 e)]
def tyRs:Array ResultVar:= #[.cell 4 78, .cell 5 3, .cell 6 37]
def midH (x:Par) (c:Ci):Hp:=[some (.blk (parC x)),some (.blk (ciC c)),some (.blk [.v (.slice none 0 0)]),some (.blk [.v (.int .i64 0)]),some (.blk [.v (.int .i64 0)]),some (.blk [.v (.int .i64 (-1))])]
def midE (t:Int):Ev:=[(2, .ptr 0 0),(3, .ptr 1 0),(4, .ptr 2 0),(5, .ptr 3 0),(6, .ptr 4 0),(9, .ptr 5 0),(7, .v (.int .i64 t))]
def MidP (mv:Nat) (me:Int) (x:Par) (c:Ci) (e:Ev) (h:Hp):Prop:=fitE (midE mv) e∧h=midH x c∧me=0∧checkI c=0
def tyQA (mv:Nat) (me:Int) (x:Par) (c:Ci) (q:List (Bool × Nat) × Int × Int):PostW:=fun ex e h=>match ex with
 | .normal=>MidP mv me x c e h
 | .ret=>FinP Tryz.prog tyRs (fun r _=> ∃ i e,q=([],i,e)∧r=errA i e) (fun _ _=>False) .ret e h
 | _=>False
variable {e:Ev}{h:Hp}{q:List (Bool × Nat) × Int × Int}{x:Par}
theorem tyQA_n {mv:Nat} {me:Int}  {c:Ci}   :tyQA mv me x c q .normal e h=MidP mv me x c e h:=rfl
theorem tyQA_r {mv:Nat} {me:Int}  {c:Ci}   :tyQA mv me x c q .ret e h=FinP Tryz.prog tyRs (fun r _=> ∃ i e,q=([],i,e)∧r=errA i e) (fun _ _=>False) .ret e h:=rfl
def tyQB (x:Par) (c:Ci) (q:List (Bool × Nat) × Int × Int):PostW:=fun ex e_ h=>match ex with
 | .ret=>FinP Tryz.prog tyRs (fun r _=>q.2=(0,0)∧r=typeA q) (fun _ _=>False) .ret e_ h
 | .panic av=> ∃ i e s0 i0 e0,q=([],i,e)∧av=stopA e∧h[2]? =some (some (.blk [s0]))∧h[3]? =some (some (.blk [.v (.int .i64 i0)]))∧h[4]? =some (some (.blk [.v (.int .i64 e0)]))∧h[5]? =some (some (.blk [.v (.int .i64 i)]))∧getE e_ 4= .ptr 2 0∧getE e_ 5= .ptr 3 0∧getE e_ 6= .ptr 4 0
 | _=>False
theorem tyQB_r {c:Ci}   :tyQB x c q .ret e h=FinP Tryz.prog tyRs (fun r _=>q.2=(0,0)∧r=typeA q) (fun _ _=>False) .ret e h:=rfl
theorem tyQB_p {c:Ci}  {av:AV} {e_:Ev} :tyQB x c q (.panic av) e_ h= ∃ i e s0 i0 e0,q=([],i,e)∧av=stopA e∧h[2]? =some (some (.blk [s0]))∧h[3]? =some (some (.blk [.v (.int .i64 i0)]))∧h[4]? =some (some (.blk [.v (.int .i64 e0)]))∧h[5]? =some (some (.blk [.v (.int .i64 i)]))∧getE e_ 4= .ptr 2 0∧getE e_ 5= .ptr 3 0∧getE e_ 6= .ptr 4 0:=rfl
theorem ptype_tc (x:Par) (c:Ci) (ru:Ex→Nat→Except Int Nat) (ks:Ex→Prop) (mv:Nat) (me:Int) (T1:TC Tryz.prog 21 [.g (parC x), .v (.int .i64 x.r)] (.tup [.v (.int .i64 mv), .v (.int .i64 me)])) (hc:okC c)
  (hR:me=0→ ∀ ns,RulesOk x mv ns ru ks) (hks: ∀ i,i<c.nl→allK ks (c.le i)):
  TC Tryz.prog 37 [.g (parC x), .g (ciC c)] (typeA (typeQ me c ru)):=by
 refine TC.of_HT ⟨by kernel_rfl,fun X0 vs hX0 hh hr=>?_⟩ ?_
 case refine_2=>unfold typeA;simp only [Wv.BC];exact shL_clo _
 refine calls_of_wp_defers Tryz.func37 rfl ?_;show (seqs [_,_,_,_] (.seq _ (.seq _ _))).wp _ _ _ _;have hX1:Ok (X0.def_ []):=hX0.def_;have hr1:RepL (X0.def_ []) [.g (parC x), .g (ciC c)] vs:=⟨hr.1,fun i a x h1 h2=>(hr.2 i a x h1 h2).def_⟩
 have hE1:=enter_ok (N:=109) rfl hr1 (by show 2≤109;omega);refine seqs_sound (N:=109) (L:=tyL) (ks:=[]) (by kernel_rfl) (QA:=tyQA mv me x c (typeQ me c ru)) (fun i e h q=>q) (fun av e h q=>q) [_,_,_,_] (X0.def_ []) _ _ ?_ (by kernel_rfl) (Nat.zero_le _) hX1 hE1 ?_ ?_ ?_
 ·kernel_rfl
 ·show wCode Tryz.prog 109 tyL [] _ _ _ X0.h;rw [hh];have T2:=pcheckC_tc c hc;have hQ:typeQ me c ru=if me≠0 then ([],0,2) else if checkI c≠0 then ([],0,checkI c) else typeT c ru:=rfl
  have hM: ∀ e h,MidP mv me x c e h=(fitE (midE mv) e∧h=midH x c∧me=0∧checkI c=0):=fun _ _=>rfl
  have hG1:Clo (.g (parC x)):=by simp only [Wv.BC];exact parC_clo x
  have hG2:=ciG_clo c;generalize me=e1 at*;generalize mv=t1 at*;generalize checkI c=e2 at*;unfold midH at hM;simp only [parC,ciC,strsA] at T1 T2 hG1 hG2 hM ⊢;generalize c.lets=L at*;simp only [seqs];simp (disch:=first|exact Wv.D|fail) only [Wv.B,simprocAttr,tyL,argE];refine call_TC T1 rfl (cloA2 hG1 Wv.c) Wv.c ?_;by_cases h1:e1=0
  ·subst h1;simp (disch:=first|exact Wv.D|fail) only [Wv.B,simprocAttr,decide_true];refine call_TC T2 rfl (cloA1 hG2) Wv.c ?_;by_cases h2:e2=0
   ·subst h2;simp (disch:=first|exact Wv.D|fail) only [Wv.B,simprocAttr,tyQA_n,hM];simp (disch:=first|exact Wv.D|fail) only [Wv.B,simprocAttr,midE]
   ·rw [if_neg (by simp),if_pos h2] at hQ;simp (disch:=first|exact Wv.D|fail) only [Wv.B,simprocAttr,alB h2,tyQA_r,tyRs,hQ];exact ⟨_,_,rfl,rfl⟩
  ·rw [if_pos h1] at hQ;simp (disch:=first|exact Wv.D|fail) only [Wv.B,simprocAttr,alB h1,tyQA_r,tyRs,hQ];exact ⟨_,_,rfl,rfl⟩
 ·intro Y e a S hY hE hmid;obtain ⟨hfit,hh2,hm0,hck⟩:=hmid;have hEm:EnvOk Y 109 (midE mv) a:=⟨hE.defers,hE.size,fun d=>by
   rcases fitE_get hfit d with q | q
   ·rw [q];exact hE.rep d
   ·rw [q];exact .none _⟩
  have hds:a.defers=[]:=hE.defers.trans S.dse;refine wp_seq (defer_region (by rw [hE.size];decide) ?_);rw [hds];generalize hcv:Array.map a.eval _=cv;generalize hd:Deferred.mk _ _=d;show Code.wp _ _ _ _ _;have hY2:Ok (Y.def_ [d]):=hY.def_;have hE2:EnvOk (Y.def_ [d]) 109 (midE mv) {tmps:=a.tmps.setIfInBounds 34 (.func (.func 63) #[] cv),defers:=[d]}:=by
   have h1:=(hEm.any (dst:=some 34) (v:= .func (.func 63) #[] cv) (fun d hd=>by injection hd with hd;subst hd;rfl))
   exact ⟨rfl,h1.size,fun d=>(h1.rep d).def_⟩
  refine wp_mono (code_sound (by kernel_rfl) (L:=tyL) (ks:=[(1000000,6)]) _ (tyQB x c (typeQ me c ru)) (Y.def_ [d]) (midE mv) _ ?_ (by kernel_rfl) ?_ hY2 hE2 ?_) ?_
  ·kernel_rfl
  ·show 6≤Y.h.length;rw [hh2];exact Nat.le_refl 6
  ·show wCode _ _ _ _ _ _ _ Y.h;rw [hh2];have hQ:typeQ me c ru=typeT c ru:=by unfold typeQ;rw [if_neg (by simp [hm0]),if_neg (by simp [hck])]
   have hT0:typeT c ru=match insT c.fi c.ni with
    | none=>([], -1,230)
    | some ns=>midT c (letT ns c.ln (fun ns i=>shE ns ru (c.le i)) c.nl):=rfl
   rw [hQ];have hLc:=lets_clo c;have hdr: ∀ i,i<c.nl→ ∃ r,List.drop (i*6) c.lets=letC (c.ln i) (c.le i)++r:=fun i hi=>tabM_drop (f:=fun i=>letC (c.ln i) (c.le i)) (fun i=>letC_len _ _) hi
   generalize hQQ:typeT c ru=QQ at hT0 ⊢;have hR1:=hR hm0;clear hR;generalize ht:((mv:Nat):Int)=t at hR1 ⊢;have hcc:=ciC_clo c;have hpc:=parC_clo x;simp only [ciC,strsA] at hcc;simp only [parC] at hpc;generalize hL:c.lets=L at*;have hlo8: ∀ (s0:AV) (pl:Int) (ns:Nms) (r:Hp) (m:Nat),8≤m→lo m s0→loH m r→loH m (some (.blk [.v (.int .i64 x.n), .v (.int .u32 x.p), .v (.int .i64 x.r), .t x.ch.length 1 (x.ch.map fun (c:Nat)=> .v (.int .u32 c)), .v (.int .u32 x.sp), .v (.int .i64 x.wt), .v (.int .u32 x.er)])::
     some (.blk [.v (.string c.name), .t c.ni 1 (tab c.ni fun i=> .v (.string (c.fi i))), .t c.nl 6 L, .t c.no 1 (tab c.no fun i=> .v (.string (c.fo i)))])::
     some (.blk [s0])::some (.blk [.v (.int .i64 0)])::some (.blk [.v (.int .i64 0)])::some (.blk [.v (.int .i64 pl)])::some (.map (nsE ns))::some (.blk (tyP x t++[.mp 6]))::r):=fun s0 pl ns r m hm hs0 hr=>by
    have h1: ∀ v:AV,lo m v→loL m [v]:=fun v hv a ha=>by rw [List.mem_singleton] at ha;subst ha;exact hv
    refine ⟨fun a ha=> .clo (hpc a ha),fun a ha=> .clo (hcc a ha),h1 _ hs0,h1 _ (.clo (.v _)),h1 _ (.clo (.v _)),h1 _ (.clo (.v _)),fun a ha=> .clo (nsE_clo ns a ha),fun a ha=>?_,hr⟩;rcases List.mem_append.1 ha with h | h
    ·exact .clo (tyP_clo x t a h)
    ·rw [List.mem_singleton] at h;subst h;exact .mp (by omega)
   simp only [midE,midH,parC,ciC,strsA,hL];simp (disch:=first|exact Wv.D|fail) only [Wv.B,simprocAttr,tyL];refine wfor (σ:=Nat) (fun i=>[(3, .ptr 1 0),(4, .ptr 2 0),(5, .ptr 3 0),(6, .ptr 4 0),(9, .ptr 5 0),(10, .ptr 7 0),(41, .t c.ni 1 (tab c.ni fun i=> .v (.string (c.fi i)))),(42, .v (.int .i64 c.ni)),(43, .v (.int .i64 i))])
    (fun i=>[some (.blk [.v (.int .i64 x.n), .v (.int .u32 x.p), .v (.int .i64 x.r), .t x.ch.length 1 (x.ch.map fun (c:Nat)=> .v (.int .u32 c)), .v (.int .u32 x.sp), .v (.int .i64 x.wt), .v (.int .u32 x.er)]),
     some (.blk [.v (.string c.name), .t c.ni 1 (tab c.ni fun i=> .v (.string (c.fi i))), .t c.nl 6 L, .t c.no 1 (tab c.no fun i=> .v (.string (c.fo i)))]),
     some (.blk [.v (.slice none 0 0)]),some (.blk [.v (.int .i64 0)]),some (.blk [.v (.int .i64 0)]),some (.blk [.v (.int .i64 (-1))]),some (.map (nsE ((insT c.fi i).getD []))),some (.blk (tyP x t++[.mp 6]))])
    (fun i=>i≤c.ni∧insT c.fi i=some ((insT c.fi i).getD [])) (fun i=>c.ni - i) 0 ⟨Nat.zero_le _,rfl⟩ (by simp (disch:=first|exact Wv.D|fail) only [Wv.B,simprocAttr,insT,Option.getD_some,nsE,tyP]) Wv.V ?_
   rintro i ⟨hi,hns⟩;have hni:=hc.ni;by_cases hlt:i<c.ni
   ·have e1:(i:Int)<c.ni:=by omega
    obtain ⟨ns,hq⟩: ∃ ns,insT c.fi i=some ns:=⟨_,hns⟩
    have hgd:(insT c.fi i).getD []=ns:=by rw [hq];rfl
    have hP:(tyP x t).length=8:=rfl;have hPl: ∀ a,a∈tyP x t→Clo a:=fun a ha=>tyP_clo x t a ha
    simp (disch:=first|exact Wv.D|fail) only [Wv.B,simprocAttr,hgd];refine call_HTP (fst:=[]) (cap:=[]) (rdT7 (pfresh_rd x t ns (c.fi i)) _ _ _ _ _ _ [] (cloA1 Wv.c) (by rintro r ⟨_,rfl⟩;simp only [Wv.BC]) (by rintro r ⟨_,rfl⟩;exact stop_clo 230)) ?_ ?_
    ·rintro av h' ⟨⟨hfn,rfl⟩,rfl⟩;refine Wv.W ?_;refine call_HT (fst:=[]) (cap:=[]) (pdefine_ht _ _ _ _ _ _ [] (tyP x t) hP ns (c.fi i) (false,0) hfn ?_) ?_
     ·exact hlo8 (.v (.slice none 0 0)) (-1) ns [] 8 (Nat.le_refl _) (.clo (.v _)) trivial
     ·rintro av h' ⟨rfl,rfl⟩;have hnx:insT c.fi (i+1)=some (ns++[(c.fi i,false,0)]):=by
       simp only [insT,hq,Option.bind_some,hfn]
      have hgn:(insT c.fi (i+1)).getD []=ns++[(c.fi i,false,0)]:=by rw [hnx];rfl
      simp (disch:=first|exact Wv.D|fail) only [Wv.B,simprocAttr,froze];refine k_next (i+1) ⟨by omega,by rw [hnx];rfl⟩ (by omega) (by rw [hgn]) Wv.V2
    ·rintro av h' ⟨⟨hfn,rfl⟩,rfl⟩;have hnx:insT c.fi c.ni=none:=insT_none (i:=i+1) (by
      cases hf:findN ns (c.fi i) with
      | none=>exact absurd hf hfn
      | some r=>simp only [insT,hq,Option.bind_some,hf]) (by omega)
     rw [hnx] at hT0;simp only at hT0;simp (disch:=first|exact Wv.D|fail) only [Wv.B,simprocAttr,tyQB_p];exact ⟨_,_,_,_,_,hT0,rfl,rfl,rfl,rfl,rfl,rfl,rfl,rfl⟩
   ·have hin:i=c.ni:=by omega
    subst hin;obtain ⟨ns,hq⟩: ∃ ns,insT c.fi c.ni=some ns:=⟨_,hns⟩
    have hgd:(insT c.fi c.ni).getD []=ns:=by rw [hq];rfl
    have hnb: ∀ s r,findN ns s=some r→r.2≤8:=fun s r h=>insT_le hq h
    rw [hq] at hT0;simp only at hT0;simp (disch:=first|exact Wv.D|fail) only [Wv.B,simprocAttr,hgd];clear hgd hns hi hlt hq;generalize hsh:(fun (ns:Nms) (i:Nat)=>shE ns ru (c.le i))=sh at hT0;refine wforE (σ:=Nat) (fun i=>[(3, .ptr 1 0),(4, .ptr 2 0),(5, .ptr 3 0),(6, .ptr 4 0),(9, .ptr 5 0),(10, .ptr 7 0),(56, .t c.nl 6 L),(57, .v (.int .i64 c.nl)),(58, .v (.int .i64 i))])
     (fun i=>[some (.blk [.v (.int .i64 x.n), .v (.int .u32 x.p), .v (.int .i64 x.r), .t x.ch.length 1 (x.ch.map fun (c:Nat)=> .v (.int .u32 c)), .v (.int .u32 x.sp), .v (.int .i64 x.wt), .v (.int .u32 x.er)]),
      some (.blk [.v (.string c.name), .t c.ni 1 (tab c.ni fun i=> .v (.string (c.fi i))), .t c.nl 6 L, .t c.no 1 (tab c.no fun i=> .v (.string (c.fo i)))]),
      some (.blk [.own 8 i]),some (.blk [.v (.int .i64 0)]),some (.blk [.v (.int .i64 0)]),some (.blk [.v (.int .i64 ((i:Int) - 1))]),some (.map (nsE (getL (letT ns c.ln sh i)).1)),some (.blk (tyP x t++[.mp 6])),some (.arr 120 2 (shL (getL (letT ns c.ln sh i)).2) (2*(i - 1)))])
     (fun i=>i≤c.nl∧letT ns c.ln sh i= .ok (getL (letT ns c.ln sh i))∧(getL (letT ns c.ln sh i)).2.length=i∧ ∀ s r,findN (getL (letT ns c.ln sh i)).1 s=some r→r.2≤8) (fun i=>c.nl - i) 0 ⟨Nat.zero_le _,rfl,rfl,hnb⟩ ?_ ?_
    ·refine Ent.trans (Ent.nilc 2 0 120 2 [.v (.slice none 0 0)] (by omega) rfl rfl) (Ent.fit ?_);exact Wv.V
    rintro i ⟨hi,hok,hsl,hb⟩;obtain ⟨⟨ns1,ss⟩,hg⟩: ∃ q,getL (letT ns c.ln sh i)=q:=⟨_,rfl⟩
    rw [hg] at hok hsl hb;simp only at hsl hb;have hnl:=hc.nl;by_cases hlt:i<c.nl
    ·have e1:(i:Int)<c.nl:=by omega
     obtain ⟨r,hd⟩:=hdr i hlt;have hform:formB (c.le i)=true:=check_form hck hlt;have TE:=pexp_rd x t ns1 ru ks hb (hR1 ns1) (c.le i) (hc.le i hlt).1 hform (hks i hlt);have hshi:sh ns1 i=shE ns1 ru (c.le i):=by rw [←hsh]
     have hG:=exG_clo (c.le i);have hGl:=letC_clo (c.ln i) (c.le i);unfold ShC at TE;have hns8: ∀ r,shE ns1 ru (c.le i)= .ok r→r.2≤8:=fun r h=>shE_le hb (c.le i) h
     generalize shE ns1 ru (c.le i)=O at TE hshi hns8;have hoy:=(hc.le i hlt).1;generalize c.le i=y at hd TE hG hGl hoy;obtain ⟨k',s',n',nl',li',na',ar',rfl⟩:=ok_mk hoy;unfold letC at hd hGl;rw [exC_mk] at hd TE hG hGl;simp only [List.cons_append,List.nil_append] at hd;have hnx0:letT ns c.ln sh (i+1)=letR c.ln sh i (.ok (ns1,ss)):=by show letR c.ln sh i (letT ns c.ln sh i)=_;rw [hok]
     simp (disch:=first|exact Wv.D|fail) only [Wv.B,simprocAttr,hg,hd];refine call_HTP (fst:=[]) (cap:=[]) (rdT7 (pfresh_rd x t ns1 (c.ln i)) _ _ _ _ _ _ [_,_] (cloA1 Wv.c) (by rintro r ⟨_,rfl⟩;simp only [Wv.BC]) (by rintro r ⟨_,rfl⟩;exact stop_clo 230)) ?_ ?_
     ·rintro av h' ⟨⟨hfn,rfl⟩,rfl⟩;refine Wv.W ?_;refine call_HTP (fst:=[]) (cap:=[]) (rdT7 (args:=[.g _]) TE _ _ _ _ _ _ [_,_] (cloA1 hG) (by rintro r ⟨s,_,rfl⟩;exact shA_clo s) (by rintro r ⟨e,_,rfl⟩;exact stop_clo e)) ?_ ?_
      ·rintro av h' ⟨⟨⟨k2,d2⟩,hO,rfl⟩,rfl⟩;have hnx:letT ns c.ln sh (i+1)= .ok (ns1++[(c.ln i,k2,d2)],ss++[(k2,d2)]):=by
        rw [hnx0];simp only [letR,hfn,Option.isSome_none,Bool.false_eq_true,if_false,hshi,hO,letS]
       have hgn:getL (letT ns c.ln sh (i+1))=(ns1++[(c.ln i,k2,d2)],ss++[(k2,d2)]):=by rw [hnx];rfl
       simp (disch:=first|exact Wv.D|fail) only [Wv.B,simprocAttr,shA];refine call_HT (fst:=[]) (cap:=[]) (pdefine_ht _ _ _ _ _ _ [_,_,_] (tyP x t) rfl ns1 (c.ln i) (k2,d2) hfn ?_) ?_
       ·exact hlo8 (.own 8 i) i ns1 _ 11 (by omega) (.own (by omega)) ⟨fun a ha=> .clo (shL_clo ss a ha),fun a ha=> .clo (hGl a ha),fun a ha=> .clo (by
         simp only [List.mem_cons,List.not_mem_nil,or_false] at ha;rcases ha with rfl | rfl
         ·exact .v _
         ·exact .v _),trivial⟩
       ·rintro av h' ⟨rfl,rfl⟩;have hnl60:=check_few hck;have hsz:=shL_len ss;rw [hsl] at hsz;have hca: ∀ (a0 a1 a2 a3 a4 a5 a6 a7:Option Ob) (r:Hp) (fz:Nat),cellsA (a0::a1::a2::a3::a4::a5::a6::a7::some (.arr 120 2 (shL ss++[.v (.bool k2), .v (.int .i64 d2)]) fz)::r) (.own 8 (i+1))=some [.own 8 (i+1)]:=fun a0 a1 a2 a3 a4 a5 a6 a7 r fz=>by
         have:liveA (a0::a1::a2::a3::a4::a5::a6::a7::some (.arr 120 2 (shL ss++[.v (.bool k2), .v (.int .i64 d2)]) fz)::r) (.own 8 (i+1))=true:=by
          show decide ((shL ss++[AV.v (.bool k2),AV.v (.int .i64 d2)]).length=(i+1)*2)=true;rw [List.length_append,hsz];exact alA (by show i*2+2=_;omega)
         exact if_pos this
        have hdc:decide (i*2+2=(i+1)*2)=true:=alA (by omega);simp (disch:=first|exact Wv.D|fail) only [Wv.B,simprocAttr,froze,hsz,hca,hdc];have hpl:(i:Int)+1 - 1=i:=by omega
        have hfz:2*(i+1 - 1)=i*2:=by omega
        refine Wv.k_cut (i+1) 9 (by first | decide | exact Nat.le_of_ble_eq_true rfl) ⟨by omega,by rw [hnx];rfl,by rw [hgn];simp [hsl],?_⟩ (by omega) (by simp (disch:=first|exact Wv.D|fail) only [Wv.B,simprocAttr,hgn,hpl,hfz,Nat.mul_comm 2 i,shL_app,Int.natCast_add,Int.natCast_one]) Wv.V2 (by simp only [Wv.BL, ↓reduceIte,Nat.reduceLeDiff,eq_true hLc]<;>omega) ?_
        ·rw [hgn];intro s r h;rcases findN_app h with q | q
         ·exact hb s r q
         ·subst q;exact hns8 _ hO
        ·rw [hgn];exact hlo8 (.own 8 (i+1)) _ _ _ 9 (by omega) (.own (by omega)) ⟨fun a ha=> .clo (shL_clo _ a ha),trivial⟩
      ·rintro av h' ⟨⟨e,hO,rfl⟩,rfl⟩;have hnx:letT ns c.ln sh (i+1)= .error (i,e):=by
        rw [hnx0];simp only [letR,hfn,Option.isSome_none,Bool.false_eq_true,if_false,hshi,hO,letS]
       rw [letT_err hnx (n:=c.nl) (by omega)] at hT0;simp only [midT] at hT0;simp (disch:=first|exact Wv.D|fail) only [Wv.B,simprocAttr,tyQB_p];exact ⟨_,_,_,_,_,hT0,rfl,rfl,rfl,rfl,rfl,rfl,rfl,rfl⟩
     ·rintro av h' ⟨⟨hfn,rfl⟩,rfl⟩;have hnx:letT ns c.ln sh (i+1)= .error (i,230):=by
       rw [hnx0];cases hf:findN ns1 (c.ln i) with
       | none=>exact absurd hf hfn
       | some r=>simp only [letR,hf,Option.isSome_some,if_true]
      rw [letT_err hnx (n:=c.nl) (by omega)] at hT0;simp only [midT] at hT0;simp (disch:=first|exact Wv.D|fail) only [Wv.B,simprocAttr,tyQB_p];exact ⟨_,_,_,_,_,hT0,rfl,rfl,rfl,rfl,rfl,rfl,rfl,rfl⟩
    ·have hin:i=c.nl:=by omega
     subst hin;rw [hok] at hT0;have hT1:QQ=lastT ss c.nl (outT ns1 c.fo c.no):=hT0;simp (disch:=first|exact Wv.D|fail) only [Wv.B,simprocAttr,hg];have hno:=hc.no;refine wfor (σ:=Nat) (fun i=>[(3, .ptr 1 0),(4, .ptr 2 0),(5, .ptr 3 0),(6, .ptr 4 0),(9, .ptr 5 0),(10, .ptr 7 0),(86, .t c.no 1 (tab c.no fun i=> .v (.string (c.fo i)))),(87, .v (.int .i64 c.no)),(88, .v (.int .i64 i))])
      (fun i=>[some (.blk [.v (.int .i64 x.n), .v (.int .u32 x.p), .v (.int .i64 x.r), .t x.ch.length 1 (x.ch.map fun (c:Nat)=> .v (.int .u32 c)), .v (.int .u32 x.sp), .v (.int .i64 x.wt), .v (.int .u32 x.er)]),
       some (.blk [.v (.string c.name), .t c.ni 1 (tab c.ni fun i=> .v (.string (c.fi i))), .t c.nl 6 L, .t c.no 1 (tab c.no fun i=> .v (.string (c.fo i)))]),
       some (.blk [.own 8 c.nl]),some (.blk [.v (.int .i64 0)]),some (.blk [.v (.int .i64 0)]),some (.blk [.v (.int .i64 c.nl)]),some (.map (nsE ns1)),some (.blk (tyP x t++[.mp 6])),some (.arr 120 2 (shL ss) (2*(c.nl - 1)))])
      (fun i=>i≤c.no∧outT ns1 c.fo i=none) (fun i=>c.no - i) 0 ⟨Nat.zero_le _,rfl⟩ Wv.V Wv.V ?_
     rintro i ⟨hi,hout⟩;have hout1:outT ns1 c.fo (i+1)=outR (findN ns1 (c.fo i)):=by simp only [outT,hout]
     by_cases hlt:i<c.no
     ·have e1:(i:Int)<c.no:=by omega
      have hlm:=look_ns (c.fo i) ns1;have htyP:tyP x t++[.mp 6]=[.v (.int .i64 x.n), .v (.int .u32 x.p), .v (.int .i64 x.r), .t x.ch.length 1 (x.ch.map fun (c:Nat)=> .v (.int .u32 c)), .v (.int .u32 x.sp), .v (.int .i64 x.wt), .v (.int .u32 x.er), .v (.int .i64 t), .mp 6]:=rfl;cases hq2:findN ns1 (c.fo i) with
      | none=>
       rw [hq2] at hlm hout1;simp only [Option.map_none] at hlm;simp only [outR] at hout1;simp (disch:=first|exact Wv.D|fail) only [Wv.B,simprocAttr,kb_ns,hlm,htyP];refine call_HTP (fst:=[]) (cap:=[]) (demand_rd false 230) (by rintro av h' ⟨hb,_⟩;cases hb) ?_;rintro av h' ⟨_,rfl,rfl⟩;rw [outT_some hout1 (n:=c.no) (by omega)] at hT1;simp only [lastT] at hT1;simp (disch:=first|exact Wv.D|fail) only [Wv.B,simprocAttr,tyQB_p];exact ⟨_,_,_,_,_,hT1,rfl,rfl,rfl,rfl,rfl,rfl,rfl,rfl⟩
      | some r=>
       obtain ⟨k2,d2⟩:=r;rw [hq2] at hlm hout1;simp only [Option.map_some,shA] at hlm;simp only [outR] at hout1;simp (disch:=first|exact Wv.D|fail) only [Wv.B,simprocAttr,kb_ns,hlm,htyP];refine call_HTP (fst:=[]) (cap:=[]) (demand_rd true 230) ?_ (by rintro av h' ⟨hb,_⟩;cases hb);rintro av h' ⟨_,rfl,rfl⟩;refine Wv.W ?_;refine call_HTP (fst:=[]) (cap:=[]) (demand_rd (!k2) 234) ?_ ?_
       ·rintro av h' ⟨hk,rfl,rfl⟩;have hk2:k2=false:=by simpa using hk
        subst hk2;simp only [Bool.false_eq_true,if_false] at hout1;refine Wv.W ?_;refine Wv.k_cut (i+1) 9 (by first | decide | exact Nat.le_of_ble_eq_true rfl) ⟨by omega,hout1⟩ (by omega) (by simp (disch:=first|exact Wv.D|fail) only [Wv.B,simprocAttr,htyP]) Wv.V2 (by simp only [Wv.BL, ↓reduceIte,Nat.reduceLeDiff,eq_true hLc]<;>omega) ?_;exact hlo8 (.own 8 c.nl) _ _ _ 9 (by omega) (.own (by omega)) ⟨fun a ha=> .clo (shL_clo _ a ha),trivial⟩
       ·rintro av h' ⟨hk,rfl,rfl⟩;have hk2:k2=true:=by simpa using hk
        subst hk2;simp only [if_true] at hout1;rw [outT_some hout1 (n:=c.no) (by omega)] at hT1;simp only [lastT] at hT1;simp (disch:=first|exact Wv.D|fail) only [Wv.B,simprocAttr,tyQB_p];exact ⟨_,_,_,_,_,hT1,rfl,rfl,rfl,rfl,rfl,rfl,rfl,rfl⟩
     ·have hin:i=c.no:=by omega
      subst hin;rw [hout] at hT1;simp only [lastT] at hT1;have hsz:=shL_len ss;rw [hsl] at hsz;have hca: ∀ (a0 a1 a2 a3 a4 a5 a6 a7:Option Ob) (r:Hp) (fz:Nat),cellsA (a0::a1::a2::a3::a4::a5::a6::a7::some (.arr 120 2 (shL ss) fz)::r) (.own 8 c.nl)=some [.own 8 c.nl]:=fun a0 a1 a2 a3 a4 a5 a6 a7 r fz=>by
       have:liveA (a0::a1::a2::a3::a4::a5::a6::a7::some (.arr 120 2 (shL ss) fz)::r) (.own 8 c.nl)=true:=by
        show decide ((shL ss).length=c.nl*2)=true;rw [hsz];exact alA rfl
       exact if_pos this
      simp (disch:=first|exact Wv.D|fail) only [Wv.B,simprocAttr,tyQB_r,tyRs,hca,hsz];rw [hT1];exact ⟨rfl,by unfold typeA;rw [hsl]⟩
  ·intro ex a' w' hpost;have:=hpost.elim;cases this with
   | ok z ex Z e2 a2 S2 hZ hEZ h hx=>
    have hS6:StepN 0 (X0.def_ []) Y:=S;rcases hx with ⟨rfl,rfl⟩ | ⟨i,rfl,rfl⟩ | ⟨rfl,rfl⟩ | ⟨v,av,rfl,rfl,hrv⟩
    ·exact False.elim h
    ·exact False.elim h
    ·have hd2:a'.defers=[d]:=hEZ.defers.trans S2.dse;show Leaves _ _ _ _ a'.defers .returning Z.w;rw [hd2, ←hd];refine leaves_cons (f:=63) (args:=cv) (by simp) (by simp [go_sem]) ?_;obtain ⟨b5,g5⟩:=ptr_rep (hEm.rep 9) (by rw [hh2];rfl);obtain ⟨b2,g2⟩:=ptr_rep (hEm.rep 4) (by rw [hh2];rfl);obtain ⟨b3,g3⟩:=ptr_rep (hEm.rep 5) (by rw [hh2];rfl);obtain ⟨b4,g4⟩:=ptr_rep (hEm.rep 6) (by rw [hh2];rfl);have hcv2:cv= #[.pointer (some ⟨b5,0,none⟩), .pointer (some ⟨b2,0,none⟩), .pointer (some ⟨b3,0,none⟩), .pointer (some ⟨b4,0,none⟩)]:=by
      rw [←hcv];simp [Act.eval,g5.2,g2.2,g3.2,g4.2]
     rw [hcv2];refine (tyd_ok _ _ _ _ Z.w).mono ?_;rintro e3 u' w'' ⟨rfl,rfl,rfl⟩;obtain ⟨r,r',h',h1,h2,hq0,rfl⟩:=h;obtain ⟨v,q1,q2⟩:=resA_ok (fn:=Tryz.f37) hZ hEZ (by rw [Tryz.results37];exact h1);obtain ⟨V,z1,z2,z3,z4,z5⟩:=close3_ok Z r _ h' v hZ h2 q2;have SS:Step (X0.def_ [d]) Z:=StepN.full (by show StepN X0.h.length _ _;rw [hh];exact StepN.trans hX0.def_ (StepN.defs S) (StepN.weak S2));exact ⟨v,q1,v,V.def_ X0.ds,_,rfl,z1,(SS.trans hX0.def_ z2).undef,z3.def_,z5.def_,rfl⟩
    ·have hd2:a'.defers=[d]:=hEZ.defers.trans S2.dse;obtain ⟨i,e',s0,i0,e0,hq,rfl,t2,t3,t4,t5,u4,u5,u6⟩:=h;have hv:=stop_rep hrv;subst hv;show Leaves _ _ _ _ a'.defers (.panicking _) Z.w;rw [hd2, ←hd];refine leaves_cons (f:=63) (args:=cv) (by simp) (by simp [go_sem]) ?_;obtain ⟨b5,g5⟩:=ptr_rep (hEm.rep 9) (by rw [hh2];rfl);obtain ⟨b2,g2⟩:=ptr_rep (hEm.rep 4) (by rw [hh2];rfl);obtain ⟨b3,g3⟩:=ptr_rep (hEm.rep 5) (by rw [hh2];rfl);obtain ⟨b4,g4⟩:=ptr_rep (hEm.rep 6) (by rw [hh2];rfl);have hcv2:cv= #[.pointer (some ⟨b5,0,none⟩), .pointer (some ⟨b2,0,none⟩), .pointer (some ⟨b3,0,none⟩), .pointer (some ⟨b4,0,none⟩)]:=by
      rw [←hcv];simp [Act.eval,g5.2,g2.2,g3.2,g4.2]
     rw [hcv2];have k2:(Z.m 2).1=some b2:=(S2.oblk 2 _ (by decide) t2).elim fun _ q=>q.2.trans g2.1
     have k3:(Z.m 3).1=some b3:=(S2.oblk 3 _ (by decide) t3).elim fun _ q=>q.2.trans g3.1
     have k4:(Z.m 4).1=some b4:=(S2.oblk 4 _ (by decide) t4).elim fun _ q=>q.2.trans g4.1
     have k5:(Z.m 5).1=some b5:=(S2.oblk 5 _ (by decide) t5).elim fun _ q=>q.2.trans g5.1
     obtain ⟨x2,c2,f2,_⟩:=blk_cell hZ t2 k2;obtain ⟨x3,c3,f3,r3⟩:=blk_cell hZ t3 k3;obtain ⟨x4,c4,f4,r4⟩:=blk_cell hZ t4 k4;obtain ⟨x5,c5,f5,r5⟩:=blk_cell hZ t5 k5;have y3:=rep_v r3;have y4:=rep_v r4;have y5:=rep_v r5;subst y3 y4 y5;have nn: ∀ {i j bi bj:Nat} {ci cj:List AV},Z.h[i]? =some (some (.blk ci))→Z.h[j]? =some (some (.blk cj))→(Z.m i).1=some bi→(Z.m j).1=some bj→i≠j→bi≠bj:=fun h1 h2 h3 h4 hn he=>hn (hZ.inj _ _ _ ⟨_,h1⟩ ⟨_,h2⟩ h3 (he▸h4))
     have n52:=nn t5 t2 k5 k2 (by decide);have n53:=nn t5 t3 k5 k3 (by decide);have n54:=nn t5 t4 k5 k4 (by decide);have n23:=nn t2 t3 k2 k3 (by decide);have n24:=nn t2 t4 k2 k4 (by decide);have n34:=nn t3 t4 k3 k4 (by decide);refine (tyd_stop b5 b2 b3 b4 e' i x2 i0 e0 Z.w c5 c2 c3 c4 f2 f3 f4 n52 n53 n54 n23 n24 n34).mono ?_;rintro e3 u' w'' ⟨rfl,rfl,hw⟩;have SS:Step (X0.def_ [d]) Z:=StepN.full (by show StepN X0.h.length _ _;rw [hh];exact StepN.trans hX0.def_ (StepN.defs S) (StepN.weak S2));have hnm: ∀ b, ¬ (X0.def_ [d]).mine b:=fun b ⟨i,⟨o,ho⟩,_⟩=>by
      have ho':X0.h[i]? =some (some o):=ho;rw [hh] at ho';simp at ho'
     have hB:Below X0.w.heap.size X0.w Z.w:=SS.below hnm;have ge: ∀ {i b:Nat} {c:List AV},Z.h[i]? =some (some (.blk c))→(Z.m i).1=some b→X0.w.heap.size≤b:=fun h1 h2=>(SS.own _ ⟨_,⟨_,h1⟩,h2⟩).elim id fun q=>absurd q (hnm _)
     have l2:=World.block_lt_of_cell? Z.w _ c2;have l3:=World.block_lt_of_cell? Z.w _ c3;have l4:=World.block_lt_of_cell? Z.w _ c4;simp only at l2 l3 l4;have hbel:Below X0.w.heap.size X0.w w'':=by
      rw [hw];exact ((((hB.alloc hB.size _).setCell (ge t2 k2) _).setCell (ge t3 k3) _).setCell (ge t4 k4) _).drew
     have p2:w''.cell? ⟨b2,0,none⟩=some (.slice none 0 0):=by
      rw [hw];show World.cell? (World.setCell (World.setCell (World.setCell _ _ _) _ _) _ _) _=_;rw [World.cell?_setCell_far _ _ _ _ (fun q=>n24 q.symm),World.cell?_setCell_far _ _ _ _ (fun q=>n23 q.symm)];exact World.cell?_setCell_same _ _ _ (by simp [go_sem,l2];exact c2)
     have p3:w''.cell? ⟨b3,0,none⟩=some (.int .i64 i):=by
      rw [hw];show World.cell? (World.setCell (World.setCell (World.setCell _ _ _) _ _) _ _) _=_;rw [World.cell?_setCell_far _ _ _ _ (fun q=>n34 q.symm)];exact World.cell?_setCell_same _ _ _ ((World.cell?_setCell_far _ _ _ _ n23).trans (by simp [go_sem,l3];exact c3))
     have p4:w''.cell? ⟨b4,0,none⟩=some (.int .i64 e'):=by
      rw [hw];show World.cell? (World.setCell (World.setCell (World.setCell _ _ _) _ _) _ _) _=_;exact World.cell?_setCell_same _ _ _ ((World.cell?_setCell_far _ _ _ _ n34).trans ((World.cell?_setCell_far _ _ _ _ n24).trans (by simp [go_sem,l4];exact c4)))
     have q4:=hEZ.rep 4;have q5:=hEZ.rep 5;have q6:=hEZ.rep 6;rw [u4] at q4;rw [u5] at q5;rw [u6] at q6;obtain ⟨d4,m4,w4⟩:=ptr_rep q4 t2;obtain ⟨d5,m5,w5⟩:=ptr_rep q5 t3;obtain ⟨d6,m6,w6⟩:=ptr_rep q6 t4;rw [k2] at m4;injection m4 with m4;subst m4;rw [k3] at m5;injection m5 with m5;subst m5;rw [k4] at m6;injection m6 with m6;subst m6;show Leaves _ _ _ _ [] (settle _) w'';refine ⟨.tuple #[.slice none 0 0, .int .i64 i, .int .i64 e'],?_,_,⟨w'',fun _=>(none,0),[],X0.bad,X0.ds⟩,typeA (typeQ me c ru),rfl,rfl,?_,?_,?_,rfl⟩
     ·rw [Array.getD_eq_getD_getElem?] at w4 w5 w6;simp [results,Tryz.results37,go_sem,w4,w5,w6,p2,p3,p4]
     ·have hlen0:X0.h.length=0:=by rw [hh];rfl
      refine ⟨hbel.os,hbel.tape,hbel.output,hbel.size,fun b hb _=>hbel.block b hb,fun b o y h1 h2=>⟨?_,h2⟩,by rw [hlen0];exact Nat.zero_le _,fun i _ _ _ _ hi=>by omega,fun i _ hi=>by omega,fun b ⟨j,⟨o,ho⟩,_⟩=>by simp at ho,fun b o h=> .inl h,fun i _ hi=>by omega,rfl⟩;have hlt:=cellAt_lt h1;unfold cellAt World.cell? at h1 ⊢;rw [hbel.block b hlt];exact h1
     ·exact ok_empty rfl fun b o h=>Nat.lt_of_lt_of_le (hX0.badlt b o h) hbel.size
     ·rw [hq];exact (show Wk (errA i e') (typeA ([],i,e')) from Wk.tup ⟨Wk.nil 2,Wk.refl _,Wk.refl _,trivial⟩) _ _ (.tup (cells:=[.v (.slice none 0 0), .v (.int .i64 i), .v (.int .i64 e')]) (cvs:=[_,_,_]) rfl (fun j a y h1 h2=>by
       match j with
       | 0=>simp at h1 h2;subst h1 h2;exact .v _
       | 1=>simp at h1 h2;subst h1 h2;exact .v _
       | 2=>simp at h1 h2;subst h1 h2;exact .v _
       | j+3=>simp at h1))
 ·intro Y e a S hY hE hq;have hds:a.defers=[]:=hE.defers.trans S.dse;have S0:Step (X0.def_ []) Y:=StepN.full (by show StepN X0.h.length _ _;rw [hh];exact S);show Leaves _ _ _ _ a.defers .returning Y.w;rw [hds];obtain ⟨r,r',h',h1,h2,i,e',hq2,rfl⟩:=hq;obtain ⟨v,q1,q2⟩:=resA_ok (fn:=Tryz.f37) hY hE (by rw [Tryz.results37];exact h1);obtain ⟨Z,z1,z2,z3,z4,z5⟩:=close3_ok Y r _ h' v hY h2 q2;refine ⟨v,q1,v,Z.def_ X0.ds,_,rfl,z1,(S0.trans hX1 z2).undef,z3.def_,(show Wk (errA i e') (typeA (typeQ me c ru)) from ?_) _ _ z5.def_,rfl⟩;rw [hq2];exact Wk.tup ⟨Wk.nil 2,Wk.refl _,Wk.refl _,trivial⟩
end
section
open Go.RowKit Wv
def vsA (m:Nat) (ln:Nat→Nat) (vs:Nat→Nat→Int):AV:= .t m 1 (tab m fun i=>vcA (ln i) (vs i))
def badV (N:Nat) (t:Int) (n:Nat) (f:Nat→Int):Bool:=!decide ((n:Int)=N) || (decide (mxN f (n - 1)>(t - 1) / 2) || decide (mnN f (n - 1)< -((t - 1) / 2)))
theorem bad_in {N:Nat} {t:Int} {n:Nat} {f:Nat→Int} (h:badV N t n f=false) (h4:4≤N):n=N∧ ∀ j,j<N→ -((t - 1) / 2)≤f j∧f j≤(t - 1) / 2:=by
 unfold badV at h;simp only [Bool.or_eq_false_iff,decide_eq_false_iff_not,Bool.not_eq_false',decide_eq_true_eq] at h;obtain ⟨h1,h2,h3⟩:=h;have h1':n=N:=by omega
 subst h1';refine ⟨rfl,fun j hj=>⟨?_,?_⟩⟩
 ·exact (mnN_ge (f:=f) (h:= -((t - 1) / 2)) (n - 1)).1 (by omega) j (by omega)
 ·exact (mxN_le (f:=f) (h:=(t - 1) / 2) (n - 1)).1 (by omega) j (by omega)
end
end Go.Proofs.YthlhibpfagekfaaGreat
