/- Parts of a proof. -/
import Derived.Test.YtljfgdlgmdcmfaaGreatQva
import Derived.Lib.OwnBridge
import Derived.Laws.BytesString
import Derived.ChangeKeysEq
import Derived.MapKept
set_option linter.unusedVariables false
namespace Go.Proofs.YtljfgdlgmdcmfaaGreat.Wv
section
open Go.RowKit
def fZ (z:Value):List AV:=z.cells.toList.map .v
variable {X:Cx}
theorem uN (z:Value): ∀ (i:Nat) (a:AV) (x:Value),(fZ z)[i]? =some a→z.cells[i]? =some x→Rep X a x:=by
 intro i a x h1 h2;unfold fZ at h1;rw [List.getElem?_map,Array.getElem?_toList,h2] at h1;injection h1 with h1;subst h1;exact .v x
variable {P:Program}{T:TypeId}
theorem nI {z:Value} (h:aA P T=some z): ∃ i,P.info? T=some i∧i.zero=some z:=by
 unfold aA at h;cases hi:P.info? T with
 | none=>rw [hi] at h;cases h
 | some i=>rw [hi] at h;exact ⟨i,rfl,h⟩
theorem Jv (o:Obj) (cap:Nat) (cells:List AV):Rep (X.push o cap (.blk cells)) (.ptr X.h.length 0) (.pointer (some ⟨X.w.heap.size,0,none⟩)):=by
 refine .ptr (by simp [Cx.push]) fun c hc=>⟨X.w.heap.size,by rw [jr],rfl⟩
theorem Jw (o:Obj) (cap n:Nat) (T:TypeId) (s fz:Nat) (cells:List AV) (hl:cells.length=n*s):Rep (X.push o cap (.arr T s cells fz)) (.own X.h.length n) (.slice (some ⟨X.w.heap.size,0,none⟩) n cap):=by
 refine .own (by simp [Cx.push]) fun T2 s2 c2 f2 hc=>?_
 rw [vN] at hc;injection hc with hc;injection hc with hc;injection hc with e1 e2 e3 e4;subst e1 e2 e3 e4;exact ⟨by omega,fun _=>by rw [jr];rfl⟩
theorem VQ {z:Value} (hX:Ok X) (h:aA P T=some z):
  ∃ v Y,(Instr.alloc T true (.tuple #[])).run P X.w= .ok v Y.w∧Step X Y∧Ok Y∧Rep Y (.ptr X.h.length 0) v∧Y.h=X.h++[some (.blk (fZ z))]:=by
 obtain ⟨i,hi,hz⟩:=nI h;refine ⟨.pointer (some ⟨X.w.heap.size,0,none⟩),X.push (.cells z.cells T) 0 (.blk (fZ z)),?_,Step.push hX _ _ _,Ok.push hX (.inl ⟨_,rfl,by simp [fZ],uN z⟩),Jv _ _ _,rfl⟩;simp [Instr.alloc,zeroValue,typeInfo,hi,hz,newVar,newRow,Cx.push]
theorem afF {a:AV} {l:List AV} {v:Value} (hX:Ok X) (h:cellsA X.h a=some l) (hr:Rep X a v):
  ∃ u Y,(Instr.box T v).run P X.w= .ok u Y.w∧Step X Y∧Ok Y∧Rep Y (.ptr X.h.length 0) u∧Y.h=X.h++[some (.blk l)]:=by
 have hR:=rZ h hr;refine ⟨.pointer (some ⟨X.w.heap.size,0,none⟩),X.push (.cells v.cells T) 0 (.blk l),?_,Step.push hX _ _ _,Ok.push hX (.inl ⟨_,rfl,by have:=hR.1;simpa using this,fun i a x h1 h2=>hR.2 i a x h1 (by simpa using h2)⟩),Jv _ _ _,rfl⟩;simp [Instr.box,newVar,newRow,Cx.push]
def nJ (h:Hp) (place:Nat→Option (Nat × Nat)):List AV→List (Nat × AV)→Option (List AV)
 | cells,[]=>some cells
 | cells,(i,a)::r=>match place i,cellsA h a with
  | some (o,n),some l=>if l.length=n∧o+n≤cells.length then nJ h place (dW cells o l) r else none
  | _,_=>none
theorem Fb: ∀ (l cells:List AV) (o:Nat),(dW cells o l).length=cells.length
 | [],_,_=>rfl
 | a::r,cells,o=>by rw [dW,Fb r];simp
theorem Fe {X:Cx}: ∀ (xs:List Value) (l cells:List AV) (o:Nat) (c:Array Value),fJ X l xs→(∀ (i:Nat) (a:AV) (x:Value),cells[i]? =some a→c[i]? =some x→Rep X a x)→
  ∀ (i:Nat) (a:AV) (x:Value),(dW cells o l)[i]? =some a→(splice c o xs)[i]? =some x→Rep X a x
 | [],[],_,_,_,_,h=>h
 | x::xs,[],_,_,_,hr,_=>by have:=hr.1;simp at this
 | [],a::l,_,_,_,hr,_=>by have:=hr.1;simp at this
 | x::xs,a::l,cells,o,c,hr,h=>by
  refine Fe xs l _ (o+1) _ ⟨by have:=hr.1;simp at this;omega,fun i a' y h1 h2=>hr.2 (i+1) a' y (by simpa using h1) (by simpa using h2)⟩ (fun i a' y h1 h2=>?_);rcases getSet h1 with ⟨e1,e2⟩ | ⟨e1,e2⟩
  ·rcases rX h2 with ⟨e3,e4⟩ | ⟨e3,e4⟩
   ·rw [e2,e4];exact hr.2 0 a x rfl rfl
   ·exact absurd e1 e3
  ·rcases rX h2 with ⟨e3,e4⟩ | ⟨e3,e4⟩
   ·exact absurd e3 e1
   ·exact h i a' y e2 e4
theorem qG: ∀ (xs:List Value) (k o:Nat) (c:Array Value),(xs.zipIdx k).foldl (fun cs (p:Value × Nat)=>cs.setIfInBounds (o+p.2) p.1) c=splice c (o+k) xs
 | [],_,_,_=>rfl
 | x::xs,k,o,c=>by
  rw [List.zipIdx_cons,List.foldl_cons,splice,qG xs (k+1) o];rfl
theorem Jy {X:Cx} {place:Nat→Option (Nat × Nat)}: ∀ (parts:List (Nat × AV)) (vs:List (Nat × Value)) (cells:List AV) (c:Array Value) (l:List AV),nJ X.h place cells parts=some l→c.size=cells.length→
  vs.length=parts.length→(∀ (i:Nat) (p:Nat × AV) (q:Nat × Value),parts[i]? =some p→vs[i]? =some q→p.1=q.1∧Rep X p.2 q.2)→(∀ (i:Nat) (a:AV) (x:Value),cells[i]? =some a→c[i]? =some x→Rep X a x)→
  ∃ c':Array Value,Instr.fill place c vs=some c'∧c'.size=l.length∧ ∀ (i:Nat) (a:AV) (x:Value),l[i]? =some a→c'[i]? =some x→Rep X a x
 | [],[],cells,c,l,h,hs,_,_,hc=>by
  simp only [nJ] at h;injection h with h;subst h;exact ⟨c,rfl,hs,hc⟩
 | [],q::vs,_,_,_,_,_,hl,_,_=>by simp at hl
 | p::parts,[],_,_,_,_,_,hl,_,_=>by simp at hl
 | (j,a)::parts,(j',v)::vs,cells,c,l,h,hs,hl,hp,hc=>by
  obtain ⟨e,hr⟩:=hp 0 (j,a) (j',v) rfl rfl;simp only at e;subst e;simp only [nJ] at h;split at h
  ·next o n la e1 e2=>
   split at h
   ·next hcond=>
    have hR:=rZ e2 hr;have hvl:v.cells.size=n:=by have:=hR.1;simp at this;omega
    have hsz:(splice c o v.cells.toList).size=(dW cells o la).length:=by rw [kY,Fb,hs]
    obtain ⟨c',h1,h2,h3⟩:=Jy parts vs (dW cells o la) (splice c o v.cells.toList) l h hsz (by simpa using hl)
     (fun i p q h1 h2=>hp (i+1) p q (by simpa using h1) (by simpa using h2)) (Fe v.cells.toList la cells o c hR hc)
    refine ⟨c',?_,h2,h3⟩;simp only [Instr.fill,e1];rw [if_neg (by simp [hvl];omega)];have hz:(v.cells.zipIdx.foldl (fun cs (p:Value × Nat)=>cs.setIfInBounds (o+p.2) p.1) c)=splice c o v.cells.toList:=by
     rw [←Array.foldl_toList,Array.toList_zipIdx,qG,Nat.add_zero]
    rw [hz];exact h1
   ·cases h
  ·cases h
theorem Jz {P:Program} {α β:Type} (f:α→Sem β) (g:α→β) (w:World): ∀ (l:List α),(∀ a∈l,(f a).run P w= .ok (g a) w)→(l.mapM f).run P w= .ok (l.map g) w
 | [],_=>by simp [Sem.run_pure]
 | a::l,h=>by
  rw [List.mapM_cons];have h1:=h a (List.mem_cons_self ..);have h2:=Jz f g w l (fun b hb=>h b (List.mem_cons_of_mem _ hb));simp [Sem.run_bind,h1,h2,Result.andThen]
def Ap (P:Program) (T:TypeId):Option (Nat→Option (Nat × Nat)):=
 match P.underlying T with
 | some (.struct fs)=>if fs.toList.all (fun f=>(P.info? f.type).isSome) then some (fun i=>(fs[i]?).map fun f=>(f.offset,((P.info? f.type).map (·.size)).getD 0)) else none
 | some (.array n e)=>(szP P e).map fun s=>fun i=>((List.range n).map fun i=>(i*s,s))[i]?
 | _=>none
def oD (P:Program) (h:Hp) (T:TypeId) (parts:List (Nat × AV)):Option (List AV):=
 match aA P T,Ap P T with
 | some z,some pl=>nJ h pl (fZ z) parts
 | _,_=>none
theorem Fg {pl pl':Nat→Option (Nat × Nat)} (hp: ∀ i x,pl i=some x→pl' i=some x): ∀ (vs:List (Nat × Value)) (c l:Array Value),Instr.fill pl c vs=some l→Instr.fill pl' c vs=some l
 | [],c,l,q=>q
 | (i,a)::r,c,l,q=>by
  simp only [Instr.fill] at q ⊢;cases e:pl i with
  | none=>rw [e] at q;cases q
  | some x=>
   rw [e] at q;rw [hp i x e];revert q;simp only;split
   ·exact id
   ·exact Fg hp r _ l
theorem RU {parts:List (Nat × AV)} {vs:Array (Nat × Value)} {l:List AV} (h:oD P X.h T parts=some l) (hl:vs.size=parts.length)
  (hp: ∀ (i:Nat) (p:Nat × AV) (q:Nat × Value),parts[i]? =some p→vs.toList[i]? =some q→p.1=q.1∧Rep X p.2 q.2): ∃ v,(Instr.build T vs).run P X.w= .ok v X.w∧Rep X (.g l) v:=by
 unfold oD at h;split at h
 ·next z pl hz hpl=>
  obtain ⟨i,hi,hzi⟩:=nI hz;obtain ⟨c',h1,h2,h3⟩:=Jy parts vs.toList (fZ z) z.cells l h (by simp [fZ]) (by simpa using hl) hp (uN z);refine ⟨.agg c',?_,?_⟩
  ·unfold Ap at hpl;split at hpl
   ·next fs hu=>
    split at hpl
    ·next hall=>
     injection hpl with hpl;subst hpl;have hm:(fs.mapM fun f=>(do pure (f.offset, ←sizeOf f.type):Sem (Nat × Nat))).run P X.w= .ok (fs.map fun f=>(f.offset,((P.info? f.type).map (·.size)).getD 0)) X.w:=by
      rw [Array.mapM_eq_mapM_toList];have:=Jz (P:=P) (fun f:Field=>(do pure (f.offset, ←sizeOf f.type):Sem (Nat × Nat))) (fun f=>(f.offset,((P.info? f.type).map (·.size)).getD 0)) X.w fs.toList (fun f hf=>by
       obtain ⟨fi,hfi⟩:=Option.isSome_iff_exists.1 (List.all_eq_true.1 hall f hf);simp [sizeOf,typeInfo,hfi])
      rw [map_eq_pure_bind];simp only [Sem.run_bind,this,Result.andThen_ok,Sem.run_pure];congr 1;apply Array.ext';simp
     simp only [Instr.build,zeroValue,typeInfo,Sem.run_bind,run_underlying hu,Result.andThen_ok];simp only [program,Sem.run,hi,Sem.run_pure,Result.andThen_ok,hzi,hm];have e:(fun (x:Nat)=>(fs.map fun (f:Field)=>(f.offset,((P.info? f.type).map (·.size)).getD 0))[x]?)=fun (i:Nat)=>(fs[i]?).map fun (f:Field)=>(f.offset,((P.info? f.type).map (·.size)).getD 0):=by
      funext x;simp
     rw [e,h1];rfl
    ·cases hpl
   ·next n e hu=>
    cases hs:szP P e with
    | none=>rw [hs] at hpl;cases hpl
    | some s=>
     rw [hs] at hpl;injection hpl with hpl;subst hpl;obtain ⟨ei,hei,hsi⟩:=lK hs;have h4:=Fg (pl':=fun i=>some (i*s,s)) (fun i x q=>by
      simp only [List.getElem?_map] at q;by_cases hin:i<n
      ·rw [List.getElem?_range hin] at q;exact q
      ·rw [List.getElem?_eq_none (by simp;omega)] at q;cases q) _ _ _ h1
     simp only [Instr.build,zeroValue,typeInfo,Sem.run_bind,run_underlying hu,Result.andThen_ok,Sem.run_pure,sizeOf];simp only [program,Sem.run,hi,hei,hsi,Sem.run_pure,Result.andThen_ok,hzi];rw [h4];rfl
   ·cases hpl
  ·have:=Rep.g (X:=X) (cells:=l) (cvs:=c'.toList) (by simpa using h2) (fun i a x q1 q2=>h3 i a x q1 (by simpa using q2));simpa using this
 ·cases h
end
section
open Go.RowKit
def bD (P:Program) (T:TypeId):Option Nat:=(P.info? T).map (·.bytes)
def rowA (h:Hp) (s:Nat):Nat→List (Nat × AV)→Option (List AV)
 | _,[]=>some []
 | k,(j,a)::r=>match cellsA h a,rowA h s (k+1) r with
  | some l,some L=>if j=k∧l.length=s then some (l++L) else none
  | _,_=>none
theorem BR {X:Cx} {s:Nat}: ∀ (parts:List (Nat × AV)) (vs:List (Nat × Value)) (k:Nat) (c:Array Value) (L:List AV),rowA X.h s k parts=some L→vs.length=parts.length→
  (∀ (i:Nat) (p:Nat × AV) (q:Nat × Value),parts[i]? =some p→vs[i]? =some q→p.1=q.1∧Rep X p.2 q.2)→c.size=(k+parts.length)*s→
  ∃ c':Array Value,Instr.fill (fun i=>some (i*s,s)) c vs=some c'∧c'.size=c.size∧(∀ idx,idx<k*s→c'[idx]? =c[idx]?)∧(∀ (i:Nat) (a:AV) (x:Value),L[i]? =some a→c'[k*s+i]? =some x→Rep X a x)∧L.length=parts.length*s
 | [],[],k,c,L,h,_,_,_=>by
  simp only [rowA] at h;injection h with h;subst h;exact ⟨c,rfl,rfl,fun _ _=>rfl,fun i a x h1=>by simp at h1,by simp⟩
 | [],q::vs,_,_,_,_,hl,_,_=>by simp at hl
 | p::parts,[],_,_,_,_,hl,_,_=>by simp at hl
 | (j,a)::parts,(j',v)::vs,k,c,L,h,hl,hp,hc=>by
  obtain ⟨e,hr⟩:=hp 0 (j,a) (j',v) rfl rfl;simp only at e;subst e;simp only [rowA] at h;split at h
  ·next l L' e1 e2=>
   split at h
   ·next hcond=>
    obtain ⟨rfl,hls⟩:=hcond;injection h with h;subst h;have hR:=rZ e1 hr;have hvl:v.cells.size=s:=by have:=hR.1;simp at this;omega
    have hks:j*s+s≤c.size:=by
     rw [hc,List.length_cons,show j+(parts.length+1)=(j+1)+parts.length by omega,Nat.add_mul,Nat.succ_mul];omega
    have hsp: ∀ idx,(splice c (j*s) v.cells.toList)[idx]? =if j*s≤idx∧idx<j*s+s then v.cells.toList[idx - j*s]? else c[idx]? :=fun idx=>by
     rw [pR _ _ _ _ (by rw [Array.length_toList,hvl];exact hks),Array.length_toList,hvl]
    obtain ⟨c',h1,h2,h3,h4,h5⟩:=BR parts vs (j+1) (splice c (j*s) v.cells.toList) L' e2 (by simpa using hl) (fun i p q h1 h2=>hp (i+1) p q (by simpa using h1) (by simpa using h2))
     (by rw [kY,hc,List.length_cons];congr 1;omega)
    have hj1:(j+1)*s=j*s+s:=Nat.succ_mul j s;refine ⟨c',?_,by rw [h2,kY],fun idx hi=>?_,fun i b x q1 q2=>?_,by rw [List.length_append,h5,hls,List.length_cons,Nat.succ_mul];omega⟩
    ·simp only [Instr.fill];rw [if_neg (by simp [hvl];omega)];have hz:(v.cells.zipIdx.foldl (fun cs (p:Value × Nat)=>cs.setIfInBounds (j*s+p.2) p.1) c)=splice c (j*s) v.cells.toList:=by
      rw [←Array.foldl_toList,Array.toList_zipIdx,qG,Nat.add_zero]
     rw [hz];exact h1
    ·rw [h3 idx (by omega),hsp,if_neg (by omega)]
    ·by_cases hi:i<s
     ·rw [List.getElem?_append_left (by omega)] at q1;rw [h3 _ (by omega),hsp,if_pos (by omega),show j*s+i - j*s=i by omega] at q2;exact hR.2 i b x q1 q2
     ·rw [List.getElem?_append_right (by omega)] at q1;refine h4 (i - s) b x (by rw [←hls];exact q1) ?_;rw [hj1,show j*s+s+(i - s)=j*s+i by omega];exact q2
   ·cases h
  ·cases h
variable {P:Program}{T e:TypeId}{s:Nat}
theorem qH {w:World}  {len:Nat} {z:Value} {vs:Array (Nat × Value)} {c':Array Value} (he:aG P T=some e) (hs:szP P e=some s) (hz:aA P e=some z) (h24:len*s≤16777216)
  (hf: ∀ c:Array Value,c.size=len*s→ ∃ c',Instr.fill (fun i=>some (i*s,s)) c vs.toList=some c'):
  ∃ c' c:Array Value,c.size=len*s∧Instr.fill (fun i=>some (i*s,s)) c vs.toList=some c'∧(Instr.buildSlice T len vs).run P w= .ok (.slice (some ⟨w.heap.size,0,none⟩) len len) (w.alloc (.cells c' e)):=by
 obtain ⟨i,hi,hsi⟩:=lK hs;obtain ⟨i2,hi2,hz2⟩:=nI hz;have hii:i2=i:=by rw [hi] at hi2;injection hi2 with e;exact e.symm
 subst hii;have hu:=dF he;have hn: ¬ (len*s>2 ^ 24):=by simp;omega
 have hn2: ¬ (16777216<len*s):=by omega
 by_cases h0:len*s=0
 ·obtain ⟨c',hc'⟩:=hf ((Array.range (len*s)).map (#[][· % 0]!)) (by simp);refine ⟨c',_,by simp,hc',?_⟩;simp only [h0] at hc';rw [Array.range_zero',Array.map_empty] at hc';simp [Instr.buildSlice,run_underlying hu,sizeOf,typeInfo,hi,hsi,h0,newRow,hc',Array.range_zero']
 ·obtain ⟨c',hc'⟩:=hf ((Array.range (len*s)).map (z.cells[· % z.cells.size]!)) (by simp);refine ⟨c',_,by simp,hc',?_⟩;simp [Instr.buildSlice,run_underlying hu,sizeOf,typeInfo,hi,hsi,h0,newRow,hc',hn2,zeroValue,hz2]
def zZ (P:Program) (h:Hp) (T:TypeId) (len:Nat) (parts:List (Nat × AV)):Option (TypeId × Nat × List AV):=
 (aG P T).bind fun e=>(szP P e).bind fun s=>(aA P e).bind fun _=>(rowA h s 0 parts).bind fun L=>
  if parts.length=len∧0<s∧len*s≤16777216 then some (e,s,L) else none
variable {L:List AV}
theorem pV {h:Hp}  {len:Nat} {parts:List (Nat × AV)}  (hh:zZ P h T len parts=some (e,s,L)):
  aG P T=some e∧szP P e=some s∧(∃ z,aA P e=some z)∧rowA h s 0 parts=some L∧parts.length=len∧0<s∧len*s≤16777216:=by
 unfold zZ at hh;cases h1:aG P T with
 | none=>rw [h1] at hh;cases hh
 | some e'=>
  rw [h1] at hh;simp only [Option.bind_some] at hh;cases h2:szP P e' with
  | none=>rw [h2] at hh;cases hh
  | some s'=>
   rw [h2] at hh;simp only [Option.bind_some] at hh;cases h3:aA P e' with
   | none=>rw [h3] at hh;cases hh
   | some z=>
    rw [h3] at hh;simp only [Option.bind_some] at hh;cases h4:rowA h s' 0 parts with
    | none=>rw [h4] at hh;cases hh
    | some L'=>
     rw [h4] at hh;simp only [Option.bind_some] at hh;split at hh
     ·next hc=>
      injection hh with hh;injection hh with e1 e2;injection e2 with e2 e3;subst e1 e2 e3;exact ⟨rfl,h2,⟨z,h3⟩,h4,hc⟩
     ·cases hh
variable {X:Cx}
theorem afG {len:Nat} {parts:List (Nat × AV)}  {vs:Array (Nat × Value)} (hX:Ok X) (hh:zZ P X.h T len parts=some (e,s,L)) (hl:vs.size=parts.length)
  (hp: ∀ (i:Nat) (p:Nat × AV) (q:Nat × Value),parts[i]? =some p→vs.toList[i]? =some q→p.1=q.1∧Rep X p.2 q.2) (hmax:len≤maxLen):
  ∃ v Y,(Instr.buildSlice T len vs).run P X.w= .ok v Y.w∧Step X Y∧Ok Y∧Rep Y (.own X.h.length len) v∧Y.h=X.h++[some (.arr e s L 0)]:=by
 obtain ⟨h1,h2,⟨z,h3⟩,h4,h5,h6,h7⟩:=pV hh;have hf:=fun (c:Array Value) (hc:c.size=len*s)=>BR parts vs.toList 0 c L h4 (by simpa using hl) hp (by rw [hc,h5,Nat.zero_add])
 obtain ⟨c',c,hc,hfc,hrun⟩:=qH (P:=P) (w:=X.w) (c':= #[]) h1 h2 h3 h7 (fun c hc=>by obtain ⟨c',q,_⟩:=hf c hc;exact ⟨c',q⟩);obtain ⟨c2,q1,q2,q3,q4,q5⟩:=hf c hc;rw [hfc] at q1;injection q1 with q1;subst q1;have hrep: ∀ (i:Nat) (a:AV) (x:Value),L[i]? =some a→c'[i]? =some x→Rep X a x:=fun i a x r1 r2=>q4 i a x r1 (by simpa using r2)
 refine ⟨_,X.push (.cells c' e) len (.arr e s L 0),hrun,Step.push hX _ _ _,Ok.push hX (.inr ⟨s,L,len,rfl,h6,by rw [q5,h5],Nat.le_refl _,hmax,by rw [q2,hc],hrep⟩),Jw _ _ _ _ _ _ _ (by rw [q5,h5]),rfl⟩
def qI (z:Value) (k:Nat):List AV:=if z.cells.size=1 then List.replicate k (.v z.cells[0]!) else (List.range k).map fun i=> .v (z.cells[i % z.cells.size]!)
theorem Fh (z:Value) (k:Nat):(qI z k).length=k:=by unfold qI;split<;>simp
theorem RV (z:Value) (k m:Nat): ∀ (i:Nat) (a:AV) (x:Value),(qI z k)[i]? =some a→(madeCells z.cells m)[i]? =some x→Rep X a x:=by
 intro i a x h1 h2;have hx:x=z.cells[i % z.cells.size]! :=by
  unfold madeCells at h2;rw [Array.getElem?_map] at h2;cases hr:(Array.range m)[i]? with
  | none=>rw [hr] at h2;cases h2
  | some j=>
   rw [hr] at h2;have hj:j=i:=by
    have:=Array.getElem?_eq_some_iff.1 hr;obtain ⟨q,e⟩:=this;simpa using e.symm
   subst hj;injection h2 with h2;exact h2.symm
 unfold qI at h1;split at h1
 ·next hs=>
  rw [List.getElem?_replicate] at h1;split at h1
  ·injection h1 with h1;subst h1;rw [hx,hs,Nat.mod_one];exact .v _
  ·cases h1
 ·rw [List.getElem?_map] at h1;cases hr:(List.range k)[i]? with
  | none=>rw [hr] at h1;cases h1
  | some j=>
   rw [hr] at h1;have hj:j=i:=by
    have:=List.getElem?_eq_some_iff.1 hr;obtain ⟨q,e⟩:=this;simpa using e.symm
   subst hj;injection h1 with h1;subst h1;rw [hx];exact .v _
def vU (P:Program) (T:TypeId) (zl zc:Int):Option (TypeId × Nat × List AV):=
 (aG P T).bind fun e=>(szP P e).bind fun s=>(aA P e).bind fun z=>(bD P e).bind fun by_=>
  if 0<s∧0≤zl∧zl≤zc∧zc≤9223372036854775807∧(by_:Int)*zc≤140737488355328 then some (e,s,qI z (zl.toNat*s)) else none
theorem PL {zl zc:Int}  {kl kc:IntKind} (hX:Ok X) (hh:vU P T zl zc=some (e,s,L)):
  ∃ v Y,(Instr.makeSlice T (.int kl zl) (.int kc zc)).run P X.w= .ok v Y.w∧Step X Y∧Ok Y∧Rep Y (.own X.h.length zl.toNat) v∧Y.h=X.h++[some (.arr e s L 0)]:=by
 unfold vU at hh;cases h1:aG P T with
 | none=>rw [h1] at hh;cases hh
 | some e'=>
  rw [h1] at hh;simp only [Option.bind_some] at hh;cases h2:szP P e' with
  | none=>rw [h2] at hh;cases hh
  | some s'=>
   rw [h2] at hh;simp only [Option.bind_some] at hh;cases h3:aA P e' with
   | none=>rw [h3] at hh;cases hh
   | some z=>
    rw [h3] at hh;simp only [Option.bind_some] at hh;cases h4:bD P e' with
    | none=>rw [h4] at hh;cases hh
    | some by_=>
     rw [h4] at hh;simp only [Option.bind_some] at hh;split at hh
     ·next hc=>
      obtain ⟨c0,c1,c2,c3,c4⟩:=hc;injection hh with hh;injection hh with e1 e2;injection e2 with e2 e3;subst e1 e2 e3;obtain ⟨i,hi,hsi⟩:=lK h2;obtain ⟨i2,hi2,hz⟩:=nI h3;have hii:i2=i:=by rw [hi] at hi2;injection hi2 with e;exact e.symm
      subst hii;have hb:i2.bytes=by_:=by
       unfold bD at h4;rw [hi] at h4;injection h4
      have hr:=run_make (P:=P) X.w T e' i2 z (dF h1) hi hz kl kc zl zc c1 c2 (by rw [hb];omega) c3;rw [hsi] at hr;refine ⟨_,X.push (.cells (madeCells z.cells (zc.toNat*s')) e') zc.toNat (.arr e' s' (qI z (zl.toNat*s')) 0),hr,Step.push hX _ _ _,
       Ok.push hX (.inr ⟨s',_,zl.toNat,rfl,c0,Fh _ _,by omega,by unfold maxLen;omega,size_madeCells _ _,RV _ _ _⟩),Jw _ _ _ _ _ _ _ (Fh _ _),rfl⟩
     ·cases hh
end
section
open Go.RowKit
def aU (o:Option AV) (d:Nat):Option Nat:=match o with
 | .none=>some d
 | some (.v (.int _ z))=>if 0≤z then some z.toNat else .none
 | _=> .none
def vV (X:Cx) (a:Option AV) (v:Option Value):Prop:=match a,v with
 | .none, .none=>True
 | some a,some v=>Rep X a v
 | _,_=>False
variable {P:Program}{X:Cx}{a b:Nat}{hi:Option AV}{vhi vlo:Option Value}
theorem oQ {lo:Option AV}  {isS:Bool} {len cap:Nat} (hl:vV X lo vlo) (hh:vV X hi vhi) (h1:aU lo 0=some a) (h2:aU hi len=some b) (hab:a≤b) (hb:b≤len) (hc:len≤cap):
  (Instr.sliceBounds isS len cap vlo vhi none).run P X.w= .ok (a,b,cap) X.w:=by
 have hhi:vhi=none∧b=len∨ ∃ k z,vhi=some (.int k z)∧0≤z∧z.toNat=b:=by
  cases hi with
  | none=>
   cases vhi with
   | none=>simp only [aU] at h2;injection h2 with h2;exact .inl ⟨rfl,h2.symm⟩
   | some v=>exact hh.elim
  | some x=>
   cases vhi with
   | none=>exact hh.elim
   | some v=>
    have hh':Rep X x v:=hh;cases x with
    | v y=>
     cases y with
     | int k z=>
      simp only [aU] at h2;split at h2
      ·next h0=>injection h2 with h2;cases hh';exact .inr ⟨k,z,rfl,h0,h2⟩
      ·cases h2
     | _=>simp [aU] at h2
    | _=>simp [aU] at h2
 have hlo:vlo=none∧a=0∨ ∃ k z,vlo=some (.int k z)∧0≤z∧z.toNat=a:=by
  cases lo with
  | none=>
   cases vlo with
   | none=>simp only [aU] at h1;injection h1 with h1;exact .inl ⟨rfl,h1.symm⟩
   | some v=>exact hl.elim
  | some x=>
   cases vlo with
   | none=>exact hl.elim
   | some v=>
    have hl':Rep X x v:=hl;cases x with
    | v y=>
     cases y with
     | int k z=>
      simp only [aU] at h1;split at h1
      ·next h0=>injection h1 with h1;cases hl';exact .inr ⟨k,z,rfl,h0,h1⟩
      ·cases h1
     | _=>simp [aU] at h1
    | _=>simp [aU] at h1
 rcases hhi with ⟨rfl,rfl⟩ | ⟨k,z,rfl,hz0,rfl⟩
 ·rcases hlo with ⟨rfl,rfl⟩ | ⟨k,z,rfl,hz0,rfl⟩
  ·simp [Instr.sliceBounds]
  ·simp [Instr.sliceBounds,run_sliceBound (P:=P) X.w k z b _ hz0 (by omega)]
 ·rcases hlo with ⟨rfl,rfl⟩ | ⟨k2,z2,rfl,hz2,rfl⟩
  ·cases isS<;>simp [Instr.sliceBounds,run_sliceBound (P:=P) X.w k z cap _ hz0 (by omega)]
  ·cases isS<;>simp [Instr.sliceBounds,run_sliceBound (P:=P) X.w k z cap _ hz0 (by omega),run_sliceBound (P:=P) X.w k2 z2 z.toNat _ hz2 (by omega)]
variable {T e:TypeId}
theorem oG (hu:P.underlying T=some (.slice e)) (x:Value) (lo hi mx:Option Value) (w:World):(Instr.sliceAt T x lo hi mx).run P w=(Instr.slice T x lo hi mx).run P w:=by
 simp [Instr.sliceAt,run_underlying hu]
theorem zu (hu:P.underlying T=some .string) (x:Value) (lo hi mx:Option Value) (w:World):(Instr.sliceAt T x lo hi mx).run P w=(Instr.slice T x lo hi mx).run P w:=by
 simp [Instr.sliceAt,run_underlying hu]
variable {n s:Nat}{v:Value}
theorem He {cells:List AV}  {lo:Option AV}  (hr:Rep X (.t n s cells) v) (he:aG P T=some e) (hs:szP P e=some s)
  (hl:vV X lo vlo) (hh:vV X hi vhi) (h1:aU lo 0=some a) (h2:aU hi n=some b) (hab:a≤b) (hb:b≤n):
  ∃ u,(Instr.sliceAt T v vlo vhi none).run P X.w= .ok u X.w∧Rep X (.t (b - a) s ((cells.take (b*s)).drop (a*s))) u:=by
 obtain ⟨i,hi,hsi⟩:=lK hs;cases hr with
 | @t _ _ _ p cap cvs hlen hc hn hcap hp hrr=>
 have hbd:=oQ (P:=P) (isS:=true) hl hh h1 h2 hab hb hn;have hbs:b*s≤n*s:=Nat.mul_le_mul_right _ hb;have has:a*s≤b*s:=Nat.mul_le_mul_right _ hab;refine ⟨.slice (if cap=a then p else p.map (·.add (a*s))) (b - a) (cap - a),?_, .t (cvs:=(cvs.take (b*s)).drop (a*s)) ?_ ?_ (by omega) (by omega) (fun h0=>?_) (fun j c x q1 q2=>?_)⟩
 ·rw [oG (dF he)];simp [Instr.slice,run_underlying (dF he),hbd,sizeOf,typeInfo,hi,hsi]
 ·rw [List.length_drop,List.length_take,hlen,Nat.min_eq_left hbs,Nat.sub_mul]
 ·simp [hc]
 ·obtain ⟨bb,off,e1,hq⟩:=hp (by omega);subst e1;rw [if_neg (by omega)];refine ⟨bb,off+a*s,by simp [pU],fun j x hx=>?_⟩;rw [List.getElem?_drop,List.getElem?_take] at hx;split at hx
  ·rw [Nat.add_assoc];exact hq _ x hx
  ·cases hx
 ·rw [List.getElem?_drop,List.getElem?_take] at q1 q2;split at q1
  ·next hlt=>rw [if_pos hlt] at q2;exact hrr _ c x q1 q2
  ·cases q1
variable {id:Nat}
theorem JA {T':TypeId} {fz:Nat} {cells:List AV}  {lo:Option AV}  (hX:Ok X) (h:X.h[id]? =some (some (.arr T' s cells fz))) (hln:cells.length=n*s) (hr:Rep X (.own id n) v) (he:aG P T=some e) (hs:szP P e=some s)
  (hl:vV X lo vlo) (hh:vV X hi vhi) (h1:aU lo 0=some a) (h2:aU hi n=some b) (hab:a≤b) (hb:b≤n) (hf:b*s≤fz):
  ∃ u,(Instr.sliceAt T v vlo vhi none).run P X.w= .ok u X.w∧Rep X (.t (b - a) s ((cells.take (b*s)).drop (a*s))) u:=by
 obtain ⟨i,hi,hsi⟩:=lK hs;cases hr with
 | own hid hq=>
 have e1:=(hq _ _ _ _ h).2 hln;subst e1;obtain ⟨g1,g2,n',g3,g4⟩:=hX.arr id T' s cells fz h;have hnn:n'=n:=Nat.eq_of_mul_eq_mul_right g2 (by rw [←g3, ←hln]);subst hnn;have hbs:b*s≤n'*s:=Nat.mul_le_mul_right _ hb;have has:a*s≤b*s:=Nat.mul_le_mul_right _ hab;rcases g4 with ⟨g4,g5⟩ | ⟨b',cvs,g4⟩
 ·subst g5;have hn0:n'=0:=by
   rcases Nat.mul_eq_zero.1 hln.symm with h0 | h0
   ·exact h0
   ·omega
  subst hn0;obtain rfl:b=0:=by omega
  obtain rfl:a=0:=by omega
  rw [g4];have hbd:=oQ (P:=P) (isS:=true) (len:=0) (cap:=0) hl hh h1 h2 (Nat.le_refl _) (Nat.le_refl _) (Nat.le_refl _);refine ⟨.slice none 0 0,?_, .t (p:=none) (cap:=0) (cvs:=[]) (by simp) (by simp) (Nat.le_refl _) (Nat.zero_le _) (fun h=>by omega) fun i a x q=>by simp at q⟩;unfold aY;rw [oG (dF he)];simp [Instr.slice,run_underlying (dF he),hbd,sizeOf,typeInfo,hi]
 ·have hcap:=g4.cap;have hsv:aY (X.m id) n'= .slice (some ⟨b',0,none⟩) n' (X.m id).2:=by unfold aY;rw [g4.at_];rfl
  have hbd:=oQ (P:=P) (isS:=true) (len:=n') (cap:=(X.m id).2) hl hh h1 h2 hab hb hcap;have hcv:b*s≤cvs.size:=by rw [g4.sz];exact Nat.mul_le_mul_right _ (by omega)
  refine ⟨.slice (if (X.m id).2=a then some ⟨b',0,none⟩ else (some (⟨b',0,none⟩:Addr)).map (·.add (a*s))) (b - a) ((X.m id).2 - a),?_, .t (cvs:=(cvs.toList.take (b*s)).drop (a*s)) ?_ ?_ (by omega) (by have:=g4.iQ;omega) (fun h0=>?_) (fun j c x q1 q2=>?_)⟩
  ·rw [hsv,oG (dF he)];simp [Instr.slice,run_underlying (dF he),hbd,sizeOf,typeInfo,hi,hsi]
  ·rw [List.length_drop,List.length_take,hln,Nat.min_eq_left hbs,Nat.sub_mul]
  ·rw [List.length_drop,List.length_take,List.length_drop,List.length_take,Array.length_toList,hln,Nat.min_eq_left hbs,Nat.min_eq_left hcv]
  ·rw [if_neg (by omega)];refine ⟨b',0+a*s,by simp [pU],fun j x hx=>?_⟩;rw [List.getElem?_drop,List.getElem?_take] at hx;split at hx
   ·next hj=>
    rw [Nat.zero_add];exact ⟨by rw [aZ g4.blk];simpa using hx,g4.good _ (by omega)⟩
   ·cases hx
  ·rw [List.getElem?_drop,List.getElem?_take] at q1 q2;split at q1
   ·next hlt=>rw [if_pos hlt] at q2;exact g4.rep _ c x q1 (by simpa using q2)
   ·cases q1
def Aq (h:Hp) (id:Nat) (cells:List AV) (n:Nat):Option Nat→Option (AV × Hp)
 | some s=>if cells.length=n*s∧n≤1000000 then some (.t n s cells,h.set id none) else none
 | none=>none
def vW (P:Program) (h:Hp) (id:Nat):Option (Option Ob)→Option (Nat × TypeId)→Option (AV × Hp)
 | some (some (.blk cells)),some ne=>Aq h id cells ne.1 (szP P ne.2)
 | _,_=>none
def iK (P:Program) (h:Hp) (T:TypeId) (x:AV) (lo hi:Option AV):Option (AV × Hp):=
 match x with
 | .v (.string s)=>if dK P T then
   match aU lo 0,aU hi s.size with
   | some a,some b=>if a≤b∧b≤s.size then some (.v (.string (s.extract a b)),h) else none
   | _,_=>none
  else none
 | .t n s cells=>match aU lo 0,aU hi n with
  | some a,some b=>if (aG P T).bind (szP P)=some s∧a≤b∧b≤n then some (.t (b - a) s ((cells.take (b*s)).drop (a*s)),h) else none
  | _,_=>none
 | .own id n=>match h[id]? with
  | some (some (.arr T' s cells fz))=>match aU lo 0,aU hi n with
   | some a,some b=>if (aG P T).bind (szP P)=some s∧cells.length=n*s∧a≤b∧b≤n then some (.t (b - a) s ((cells.take (b*s)).drop (a*s)),h.set id (some (.arr T' s cells cells.length))) else none
   | _,_=>none
  | _=>none
 | .ptr id off=>if off=0∧lo.isNone=true∧hi.isNone=true then vW P h id h[id]? (bM P T) else none
 | _=>none
theorem Hf (h:(aG P T).bind (szP P)=some s): ∃ e,aG P T=some e∧szP P e=some s:=by
 cases he:aG P T with
 | none=>rw [he] at h;cases h
 | some e=>rw [he] at h;exact ⟨e,rfl,h⟩
theorem vV.mono {Y:Cx} (S:Step X Y) {a:Option AV} {v:Option Value} (h:vV X a v):vV Y a v:=by
 cases a<;>cases v
 ·trivial
 ·exact h.elim
 ·exact h.elim
 ·exact Rep.mono S h
theorem JB {fz:Nat} {cells:List AV}  (hX:Ok X) (h:X.h[id]? =some (some (.arr T s cells fz))) (hn:cells.length=n*s) (hr:Rep X (.own id n) v):
  ∃ Y,Y.w=X.w∧Step X Y∧Ok Y∧Y.h=X.h.set id (some (.arr T s cells cells.length))∧Rep Y (.t n s cells) v:=by
 have S:=Step.frz h;have hid:id<X.h.length:=(List.getElem?_eq_some_iff.1 h).1;refine ⟨X.frz id T s cells,rfl,S,Ok.frz hX h,rfl,?_⟩;exact Rep.frozen (Ok.frz hX h) (T:=T) (by simp only [Cx.frz,Cx.jh];rw [List.getElem?_set_self hid]) (fun b hb o ho hk=>hk.2 ⟨hb,ho⟩) hn (hr.mono S)
theorem VR {cells:List AV}  (hX:Ok X) (h:X.h[id]? =some (some (.blk cells))) (hn:cells.length=n*s) (hm:n≤1000000) (hr:Rep X (.ptr id 0) v):
  ∃ Y b,Y.w=X.w∧Step X Y∧Ok Y∧Y.h=X.h.set id none∧v= .pointer (some ⟨b,0,none⟩)∧Rep Y (.t n s cells) (.slice (some ⟨b,0,none⟩) n n):=by
 have hid:id<X.h.length:=(List.getElem?_eq_some_iff.1 h).1;obtain ⟨b,cvs,T,h1,h2,h3,h4,h5⟩:=hX.blk id cells h;have hY: ∃ Y:Cx,Y.w=X.w∧Y.m=X.m∧Y.h=X.h.set id none∧Y.ds=X.ds∧(Y.bad=fun c o=>X.bad c o∧c≠b):=⟨⟨X.w,X.m,X.h.set id none,fun c o=>X.bad c o∧c≠b,X.ds⟩,rfl,rfl,rfl,rfl,rfl⟩
 obtain ⟨Y,y1,y2,y3,y5,y4⟩:=hY;have get: ∀ i o,Y.h[i]? =some (some o)→i≠id∧X.h[i]? =some (some o):=by
  intro i o ho;by_cases e:i=id
  ·subst e;rw [y3,List.getElem?_set_self hid] at ho;injection ho with ho;cases ho
  ·rw [y3,cu e] at ho;exact ⟨e,ho⟩
 have S:Step X Y:=by
  refine ⟨by rw [y1],by rw [y1],by rw [y1],by rw [y1];exact Nat.le_refl _,fun _ _ _=>by rw [y1],fun c o x k1 k2=>by rw [y1,y4];exact ⟨k1,fun q=>k2 q.1⟩,by rw [y3];simp,fun i T s c f _ hi=>⟨c,f,(get i _ hi).2,Nat.le_refl _,fun _=>by rw [y2]⟩,fun i c _ hi=>⟨c,(get i _ hi).2,by rw [y2]⟩,fun c hc=>?_,fun c o hc=>?_,fun i c _ hi=>⟨c,(get i _ hi).2,by rw [y2]⟩,y5⟩
  ·obtain ⟨i,⟨o,ho⟩,he⟩:=hc;rw [y2] at he;exact .inr ⟨i,⟨o,(get i o ho).2⟩,he⟩
  ·rw [y4];by_cases e:c=b
   ·exact .inr ⟨id,⟨_,h⟩,by rw [h1,e]⟩
   ·exact .inl ⟨hc,e⟩
 have far: ∀ i o c,Y.h[i]? =some (some o)→(X.m i).1=some c→c≠b:=fun i o c ho hc e=>(get i o ho).1 (hX.inj i id c ⟨o,(get i o ho).2⟩ ⟨_,h⟩ hc (by rw [h1,e]))
 refine ⟨Y,b,y1,S,⟨fun i c hi=>?_,fun i T s c fz hi=>?_,fun i j c hi hj=>?_,fun c o hc=>by rw [y4] at hc;rw [y1];exact hX.dX c o hc.1,fun i q hi=>?_⟩,y3,?_,?_⟩
 ·obtain ⟨g,cv,T',k1,k2,k3,k4,k5⟩:=hX.blk i c (get i _ hi).2;exact ⟨g,cv,T',by rw [y2];exact k1,by rw [y1];exact k2,k3,fun o=>by rw [y4];exact ⟨k4 o,far i _ g hi k1⟩,fun j a x q1 q2=>(k5 j a x q1 q2).mono S⟩
 ·obtain ⟨g1,g2,n,g3,g4⟩:=hX.arr i T s c fz (get i _ hi).2;refine ⟨g1,g2,n,g3,?_⟩;rcases g4 with g4 | ⟨g,cv,g4⟩
  ·exact .inl (by rw [y2];exact g4)
  ·exact .inr ⟨g,cv,⟨by rw [y2];exact g4.at_,by rw [y1];exact g4.blk,by rw [y2];exact g4.cap,by rw [y2];exact g4.iQ,by rw [y2];exact g4.sz,fun o ho=>by rw [y4];exact ⟨g4.bad o ho,far i _ g hi g4.at_⟩,fun j a x q1 q2=>(g4.rep j a x q1 q2).mono S,fun o ho=>by rw [y4];exact fun q=>g4.good o ho q.1⟩⟩
 ·obtain ⟨o,ho⟩:=hi;obtain ⟨o',ho'⟩:=hj;rw [y2];exact hX.inj i j c ⟨o,(get i o ho).2⟩ ⟨o',(get j o' ho').2⟩
 ·obtain ⟨g,en,cl,k1,k2,k3⟩:=hX.map i q (get i _ hi).2;exact ⟨g,en,cl,by rw [y2];exact k1,by rw [y1];exact k2,k3.mono S⟩
 ·cases hr with
  | ptr EF kk=>
  obtain ⟨b',e1,e2⟩:=kk cells h;rw [h1] at e1;injection e1 with e1;subst e1;exact e2
 ·refine .t (cvs:=cvs.toList) hn (by simpa using h3) (Nat.le_refl _) (by unfold maxLen;omega) (fun _=>⟨b,0,rfl,fun i x hx=>?_⟩) (fun i a x q1 q2=>(h5 i a x q1 (by simpa using q2)).mono S);rw [y1,y4,Nat.zero_add,aZ h2];exact ⟨by simpa using hx,fun q=>q.2 rfl⟩
theorem RX {x r:AV} {lo:Option AV}   {h':Hp} (hX:Ok X) (h:iK P X.h T x lo hi=some (r,h')) (hr:Rep X x v) (hl:vV X lo vlo) (hh:vV X hi vhi):
  ∃ u Y,(Instr.sliceAt T v vlo vhi none).run P X.w= .ok u Y.w∧Step X Y∧Ok Y∧Rep Y r u∧Y.h=h':=by
 unfold iK at h;cases x with
 | v y=>
  cases y with
  | string s=>
   simp only at h;split at h
   ·next hs=>
    split at h
    ·next a b h1 h2=>
     split at h
     ·next hc=>
      injection h with h;injection h with e1 e2;subst e1 e2;cases hr;have hu:P.underlying T=some .string:=by
       unfold dK at hs;split at hs
       ·assumption
       ·cases hs
      have hbd:=oQ (P:=P) (isS:=false) (len:=s.size) (cap:=s.size) hl hh h1 h2 hc.1 hc.2 (Nat.le_refl _);refine ⟨.string (s.extract a b),X,?_,Step.refl X,hX, .v _,rfl⟩;rw [zu hu];simp [Instr.slice,run_underlying hu,hbd]
     ·cases h
    ·cases h
   ·cases h
  | _=>cases h
 | t n s cells=>
  simp only at h;split at h
  ·next a b h1 h2=>
   split at h
   ·next hc=>
    injection h with h;injection h with e1 e2;subst e1 e2;obtain ⟨e,he,hs⟩:=Hf hc.1;obtain ⟨u,q1,q2⟩:=He hr he hs hl hh h1 h2 hc.2.1 hc.2.2;exact ⟨u,X,q1,Step.refl X,hX,q2,rfl⟩
   ·cases h
  ·cases h
 | own id n=>
  simp only at h;split at h
  ·next T' s cells fz hid=>
   split at h
   ·next a b h1 h2=>
    split at h
    ·next hc=>
     injection h with h;injection h with e1 e2;subst e1 e2;obtain ⟨e,he,hs⟩:=Hf hc.1;obtain ⟨Y,y1,y2,y3,y4,y5⟩:=JB hX hid hc.2.1 hr;obtain ⟨u,q1,q2⟩:=He (P:=P) y5 he hs (hl.mono y2) (hh.mono y2) h1 h2 hc.2.2.1 hc.2.2.2;exact ⟨u,Y,by rw [y1] at q1 ⊢;exact q1,y2,y3,q2,y4⟩
    ·cases h
   ·cases h
  ·cases h
 | ptr id off=>
  simp only at h;split at h
  ·next hc=>
   obtain ⟨rfl,hl0,hh0⟩:=hc;unfold vW at h;split at h
   ·next cells ne hid ha=>
    obtain ⟨n,e⟩:=ne;have hu:=G7 ha;unfold Aq at h;split at h
    ·next s hs=>
     obtain ⟨i,hii,hsi⟩:=lK hs;split at h
     ·next hcond=>
      injection h with h;injection h with e1 e2;subst e1 e2;obtain ⟨Y,b,y1,y2,y3,y4,rfl,y5⟩:=VR hX hid hcond.1 hcond.2 hr;cases lo with
      | some _=>cases hl0
      | none=>
      cases hi with
      | some _=>cases hh0
      | none=>
      cases vlo with
      | some _=>exact hl.elim
      | none=>
      cases vhi with
      | some _=>exact hh.elim
      | none=>
      refine ⟨_,Y,?_,y2,y3,y5,y4⟩;rw [y1];simp [Instr.sliceAt,run_underlying hu,Instr.sureAddr,Instr.sliceBounds,sizeOf,typeInfo,hii,pU]
     ·cases h
    ·cases h
   ·cases h
  ·cases h
 | _=>cases h
def EG (P:Program) (h:Hp) (T:TypeId) (x:AV):Option Nat:=
 match bM P T with
 | some (n,_)=>some n
 | none=>match x with
  | .v (.string s)=>if dK P T then some s.size else none
  | .t n _ _=>(aG P T).map fun _=>n
  | .own id n=>if bQ h (.own id n) then (aG P T).map fun _=>n else none
  | .v (.slice _ n _)=>(aG P T).map fun _=>n
  | _=>none
theorem abh {ty:TypeId} {x:AV}   {ts:Array TypeId} (h:EG P X.h T x=some n) (hr:Rep X x v) (ht:ts[0]? =some T):(Builtin.len_ ts ty #[v]).run P X.w= .ok (.int .i64 n) X.w:=by
 unfold EG at h;split at h
 ·next m e ha=>
  injection h with h;subst h;simp [Builtin.len_,ht,run_underlying (G7 ha),goInt]
 ·next ha=>
  split at h
  ·next s=>
   split at h
   ·next hs=>
    injection h with h;subst h;have hu:P.underlying T=some .string:=by
     unfold dK at hs;split at hs
     ·assumption
     ·cases hs
    cases hr;simp [Builtin.len_,ht,run_underlying hu,goInt]
   ·cases h
  ·cases he:aG P T with
   | none=>rw [he] at h;cases h
   | some e=>
    rw [he] at h;injection h with h;subst h;cases hr;simp [Builtin.len_,ht,run_underlying (dF he),goInt]
  ·split at h
   ·next hl=>
    cases he:aG P T with
    | none=>rw [he] at h;cases h
    | some e=>
     rw [he] at h;injection h with h;subst h;rw [qF hl hr];simp [aY,Builtin.len_,ht,run_underlying (dF he),goInt]
   ·cases h
  ·cases he:aG P T with
   | none=>rw [he] at h;cases h
   | some e=>
    rw [he] at h;injection h with h;subst h;cases hr;simp [Builtin.len_,ht,run_underlying (dF he),goInt]
  ·cases h
def jQ (op:BinOp):Value→Value→Option Value
 | .int k a, .int k' b=>match op with
  | .shl=>if 0≤b then some (.int k (k.wrap (a*2 ^ (min b.toNat k.bits)))) else none
  | .shr=>if 0≤b then some (.int k (a.fdiv (2 ^ (min b.toNat k.bits)))) else none
  | .add=>if k=k' then some (.int k (k.wrap (a+b))) else none
  | .sub=>if k=k' then some (.int k (k.wrap (a - b))) else none
  | .mul=>if k=k' then some (.int k (k.wrap (a*b))) else none
  | .quo=>if k=k'∧b≠0 then some (.int k (k.wrap (a.tdiv b))) else none
  | .rem=>if k=k'∧b≠0 then some (.int k (a.tmod b)) else none
  | .and=>if k=k' then some (.int k (k.wrap (BitVec.ofInt k.bits a &&& BitVec.ofInt k.bits b).toNat)) else none
  | .or=>if k=k' then some (.int k (k.wrap (BitVec.ofInt k.bits a ||| BitVec.ofInt k.bits b).toNat)) else none
  | .xor=>if k=k' then some (.int k (k.wrap (BitVec.ofInt k.bits a ^^^ BitVec.ofInt k.bits b).toNat)) else none
  | .andNot=>if k=k' then some (.int k (k.wrap (BitVec.ofInt k.bits a &&& ~~~(BitVec.ofInt k.bits b)).toNat)) else none
  | .eql=>if k=k' then some (.bool (decide (a=b))) else none
  | .neq=>if k=k' then some (.bool (!decide (a=b))) else none
  | .lss=>if k=k' then some (.bool (decide (a<b))) else none
  | .leq=>if k=k' then some (.bool (decide (a≤b))) else none
  | .gtr=>if k=k' then some (.bool (decide (b<a))) else none
  | .geq=>if k=k' then some (.bool (decide (b≤a))) else none
 | .string a, .string b=>match op with
  | .add=>if a.size+b.size≤9223372036854775807 then some (.string (a++b)) else none
  | .eql=>some (.bool (decide (a=b)))
  | .neq=>some (.bool (!decide (a=b)))
  | _=>none
 | _,_=>none
theorem str_eq (a b:ByteArray):(a.toList==b.toList)=decide (a=b):=by
 rw [ByteArray.toList_eq,ByteArray.toList_eq];by_cases h:a=b
 ·subst h;simp
 ·rw [aj h,beq_eq_false_iff_ne];intro e;apply h;cases a;cases b;congr;exact Array.ext' e
theorem PN (a b:Int):(a==b)=decide (a=b):=by by_cases h:a=b<;>simp [h]
theorem PO      {op : BinOp}  {x y : Operand} {a b r : Value} (h : jQ   op a b = some r) (w : World) : (do eqGuard op T x y a b; binOp op T a b : Sem Value).run P w = .ok r w := by
  cases a with
  | int k a =>
    cases b with
    | int k' b =>
      cases op <;> simp only [jQ  ] at h
      case shl =>
        split at h
        · next h0 => injection h with h; subst h; have : ¬ b < 0 := by omega
                     simp [eqGuard, binOp, Op.shift, this]
        · cases h
      case shr =>
        split at h
        · next h0 => injection h with h; subst h; have : ¬ b < 0 := by omega
                     simp [eqGuard, binOp, Op.shift, this]
        · cases h
      case quo =>
        split at h
        · next h0 => injection h with h; subst h; obtain ⟨rfl, h1⟩ := h0; simp [eqGuard, binOp, Op.intDiv, h1]
        · cases h
      case rem =>
        split at h
        · next h0 => injection h with h; subst h; obtain ⟨rfl, h1⟩ := h0; simp [eqGuard, binOp, Op.intDiv, h1]
        · cases h
      case eql =>
        split at h
        · next h0 => injection h with h; subst h; subst h0; simp [eqGuard, binOp, Op.intCmp, PN     ]
        · cases h
      case neq =>
        split at h
        · next h0 => injection h with h; subst h; subst h0; simp [eqGuard, binOp, Op.intCmp, bne, PN     ]
        · cases h
      all_goals
        split at h
        · next h0 =>
          injection h with h; subst h; subst h0;first
            | (simp [eqGuard, binOp, Op.intArith]; done)
            | (simp [eqGuard, binOp, Op.intBits]; done)
            | (simp [eqGuard, binOp, Op.intCmp]; done)
        · cases h
    | _ => simp [jQ  ] at h
  | string a =>
    cases b with
    | string b =>
      cases op <;> simp only [jQ  ] at h
      case add =>
        split at h
        · next h0 =>
          injection h with h; subst h;have : ¬ (9223372036854775807 < (a.size : Int) + (b.size : Int)) := by omega
          simp [eqGuard, binOp, Op.stringOp, this]
        · cases h
      case eql => injection h with h; subst h; simp [eqGuard, binOp, Op.stringOp, str_eq]
      case neq => injection h with h; subst h; simp [eqGuard, binOp, Op.stringOp, str_eq]
      all_goals cases h
    | _ => simp [jQ  ] at h
  | _ => simp [jQ  ] at h
end
section
open Go.RowKit
def kL (P:Program) (T:TypeId):Bool:=match P.underlying T with | some (.pointer _)=>true | _=>false
def mg (h:Hp):AV→Option Bool
 | .v (.pointer p)=>some p.isNone
 | .ptr id off=>if bQ h (.ptr id off) then some false else none
 | .ap id n off=>if bQ h (.ap id n off) then some false else none
 | .tp _=>some false
 | _=>none
def zx (h:Hp):AV→Option Bool
 | .v (.slice p _ _)=>some p.isNone
 | .t n s cells=>if 0<n then some false else none
 | _=>none
variable {X:Cx}{b:Bool}{v:Value}{x:AV}
theorem JC (h:mg X.h x=some b) (hr:Rep X x v): ∃ p,v= .pointer p∧b=p.isNone:=by
 cases x with
 | v y=>
  cases y with
  | pointer p=>simp only [mg] at h;injection h with h;cases hr;exact ⟨p,rfl,h.symm⟩
  | _=>cases h
 | ptr id off=>
  simp only [mg] at h;split at h
  ·next hl=>injection h with h;obtain ⟨b',e⟩:=BP hl hr;exact ⟨_,e,h.symm⟩
  ·cases h
 | ap id n off=>
  simp only [mg] at h;split at h
  ·next hl=>injection h with h;obtain ⟨b',e⟩:=G8 hl hr;exact ⟨_,e,h.symm⟩
  ·cases h
 | tp cells=>simp only [mg] at h;injection h with h;cases hr;exact ⟨_,rfl,h.symm⟩
 | _=>cases h
theorem VT (h:zx X.h x=some b) (hr:Rep X x v): ∃ p n c,v= .slice p n c∧b=p.isNone:=by
 cases x with
 | v y=>
  cases y with
  | slice p n c=>simp only [zx] at h;injection h with h;cases hr;exact ⟨p,n,c,rfl,h.symm⟩
  | _=>cases h
 | t n s cells=>
  simp only [zx] at h;split at h
  ·next h0=>
   injection h with h;cases hr with
   | t hl hc hn hcap hp hrr=>
   obtain ⟨b',off,e,_⟩:=hp h0;exact ⟨_,_,_,rfl,by rw [e];exact h.symm⟩
  ·cases h
 | _=>cases h
def jR (P:Program) (T:TypeId):Bool:=match P.underlying T with | some (.func _ _ _)=>true | _=>false
def vX:AV→Option Bool
 | .v .nilFunc=>some true
 | .fn _ _ _=>some false
 | _=>none
theorem VU (h:vX x=some b) (hr:Rep X x v):(v= .nilFunc∧b=true)∨((∃ f a c,v= .func f a c)∧b=false):=by
 unfold vX at h;split at h
 ·injection h with h;cases hr;exact .inl ⟨rfl,h.symm⟩
 ·injection h with h;cases hr;exact .inr ⟨⟨_,_,_,rfl⟩,h.symm⟩
 ·cases h
def pW (op:BinOp) (b:Bool):Option Value:=match op with
 | .eql=>some (.bool b)
 | .neq=>some (.bool (!b))
 | _=>none
def cellsOf (x:AV):Option (List AV):=match x with
 | .g l=>some l
 | .v (.agg cs)=>some (cs.toList.map .v)
 | _=>none
inductive FK where
 | i
 | b
 | s
def fkP (P:Program) (T:TypeId):Option FK:=match P.underlying T with
 | some (.int _)=>some .i
 | some .bool=>some .b
 | some .string=>some .s
 | _=>none
def PS (P:Program):Nat→List Field→Option (List FK)
 | _,[]=>some []
 | o,f::r=>if (f.name != "_")=true∧f.offset=o then match fkP P f.type,PS P (o+1) r with
  | some k,some l=>some (k::l)
  | _,_=>none
  else none
def uq (P:Program) (T:TypeId):Option (List FK):=match P.underlying T with
 | some (.struct fs)=>if (!P.stoodInHeld T && !P.eqGuardType P.depth T)=true then PS P 0 fs.toList else none
 | _=>none
def eqC:FK→AV→AV→Option Bool
 | .i, .v (.int k a), .v (.int k' b)=>if k=k' then some (decide (a=b)) else none
 | .b, .v (.bool a), .v (.bool b)=>some (a==b)
 | .s, .v (.string a), .v (.string b)=>some (decide (a=b))
 | _,_,_=>none
def afH:Option Bool→Option Bool→Option Bool
 | some p,some q=>some (p && q)
 | _,_=>none
def eqL:List FK→List AV→List AV→Option Bool
 | [],[],[]=>some true
 | k::ks,a::l,b::m=>afH (eqC k a b) (eqL ks l m)
 | _,_,_=>none
def eqG (P:Program) (op:BinOp) (T:TypeId) (l m:Option (List AV)):Option Value:=match uq P T,l,m with
 | some ks,some l,some m=>(eqL ks l m).bind (pW op)
 | _,_,_=>none
variable {P:Program}{T:TypeId}
theorem RY {k:FK} (h:fkP P T=some k):P.plainKey T=true:=by
 unfold fkP at h;unfold Program.plainKey;split at h
 ·next hu=>rw [hu]
 ·next hu=>rw [hu]
 ·next hu=>rw [hu]
 ·cases h
variable {a:AV}{u:Value}
theorem abj {k:FK} {b:AV}  {r:Bool} (d:Nat) (hk:fkP P T=some k) (h:eqC k a b=some r) (ha:Rep X a u) (hb:Rep X b v):(Op.equalIn (d+1) T u v).run P X.w= .ok r X.w:=by
 unfold eqC at h;split at h
 ·split at h
  ·next e=>
   subst e;injection h with h;subst h;cases ha;cases hb;unfold fkP at hk;split at hk
   ·next hu=>rw [run_equalIn_int X.w d T _ _ _ _ hu];rfl
   all_goals cases hk
  ·cases h
 ·injection h with h;subst h;cases ha;cases hb;unfold fkP at hk;split at hk
  ·cases hk
  ·next hu=>exact run_equalIn_bool X.w d T _ _ hu
  all_goals cases hk
 ·injection h with h;subst h;cases ha;cases hb;unfold fkP at hk;split at hk
  ·cases hk
  ·cases hk
  ·next hu=>
   rw [run_equalIn_string X.w d T _ _ hu, ←beq_toListBytes];refine congrArg (fun z=>Result.ok z X.w) ?_;rename_i a b _;rw [Bool.eq_iff_iff,beq_toListBytes,ByteArray.toList_eq,ByteArray.toList_eq,decide_eq_true_iff,beq_iff_eq];exact ⟨fun h=>by cases a;cases b;simp only [ByteArray.mk.injEq];exact Array.toList_inj.1 h,fun h=>by rw [h]⟩
  ·cases hk
 ·cases h
theorem PU {P:Program} {X:Cx} {xs ys:Array Value} (d:Nat): ∀ (fs:List Field) (o:Nat) (ks:List FK) (l m:List AV) (r:Bool),PS P o fs=some ks→eqL ks l m=some r→
  (∀ (i:Nat) (a:AV),l[i]? =some a→ ∃ x,xs[o+i]? =some x∧Rep X a x)→(∀ (i:Nat) (a:AV),m[i]? =some a→ ∃ x,ys[o+i]? =some x∧Rep X a x)→(Op.eqFields (d+1) xs ys fs).run P X.w= .ok r X.w
 | [],o,ks,l,m,r,hf,h,hx,hy=>by
  injection hf with hf;subst hf;cases l<;>cases m<;>simp only [eqL] at h<;>cases h;rfl
 | f::fs,o,ks,l,m,r,hf,h,hx,hy=>by
  simp only [PS] at hf;split at hf
  ·next hc=>
   split at hf
   ·next k ks' hk hks=>
    injection hf with hf;subst hf;cases l with
    | nil=>cases m<;>cases h
    | cons a l=>
    cases m with
    | nil=>cases h
    | cons b m=>
    simp only [eqL] at h;cases h1:eqC k a b with
    | none=>rw [h1] at h;cases h
    | some p=>
    cases h2:eqL ks' l m with
    | none=>rw [h1,h2] at h;cases h
    | some q=>
    rw [h1,h2] at h;injection h with h;subst h;obtain ⟨u,hu,ru⟩:=hx 0 a rfl;obtain ⟨v,hv,rv⟩:=hy 0 b rfl;have hpl:=RY hk;have ih:=PU d fs (o+1) ks' l m q hks h2 (fun i a' hi=>by
     obtain ⟨x,e1,e2⟩:=hx (i+1) a' hi;exact ⟨x,by rw [Nat.add_assoc,Nat.add_comm 1];exact e1,e2⟩) (fun i a' hi=>by
     obtain ⟨x,e1,e2⟩:=hy (i+1) a' hi;exact ⟨x,by rw [Nat.add_assoc,Nat.add_comm 1];exact e1,e2⟩)
    have hne:f.name≠ "_" :=by simpa using hc.1
    rw [Nat.add_zero] at hu hv;simp only [Op.eqFields,if_pos hne,Sem.run_bind,run_part_plain X.w hpl (hc.2▸hu),run_part_plain X.w hpl (hc.2▸hv),abj d hk h1 ru rv,Result.andThen_ok];cases p
    ·simp
    ·simpa using ih
   ·cases hf
  ·cases hf
variable {l:List AV}
theorem JD (h:cellsOf a=some l) (hr:Rep X a v): ∃ cs:Array Value,v= .agg cs∧ ∀ (i:Nat) (b:AV),l[i]? =some b→ ∃ x,cs[0+i]? =some x∧Rep X b x:=by
 unfold cellsOf at h;split at h
 ·injection h with h;subst h;cases hr with
  | @g _ cvs hc hr=>
   refine ⟨_,rfl,fun i b hb=>?_⟩;have hi:=(List.getElem?_eq_some_iff.1 hb).1;have hi2:i<cvs.length:=by omega
   exact ⟨cvs[i],by simp [hi2],hr i b _ hb (List.getElem?_eq_getElem hi2)⟩
 ·next cs=>
  injection h with h;subst h;cases hr;refine ⟨_,rfl,fun i b hb=>?_⟩;rw [List.getElem?_map] at hb;simp only [Array.getElem?_toList] at hb;cases hq:cs[i]? with
  | none=>rw [hq] at hb;cases hb
  | some y=>
   rw [hq] at hb;injection hb with hb;subst hb;exact ⟨y,by simpa using hq, .v y⟩
 ·cases h
def qJ (P:Program) (h:Hp) (op:BinOp) (T:TypeId) (x y:AV):Option Value:=
 match y with
 | .v (.bool b)=>match x with
  | .v (.bool a)=>if rY P T then pW op (a==b) else none
  | _=>none
 | .v (.int k' b)=>match x with
  | .v (.int k a)=>jQ op (.int k a) (.int k' b)
  | _=>none
 | .v (.string b)=>match x with
  | .v (.string a)=>jQ op (.string a) (.string b)
  | _=>none
 | .v (.pointer none)=>if kL P T then (mg h x).bind (pW op) else none
 | .v (.slice none 0 0)=>if (aG P T).isSome then (zx h x).bind (pW op) else none
 | .v .nilFunc=>if jR P T then (vX x).bind (pW op) else none
 | .t 1 1 []=>some (.int .i64 0)
 | .g m=>eqG P op T (cellsOf x) (some m)
 | .v (.agg cs)=>eqG P op T (cellsOf x) (some (cs.toList.map .v))
 | _=>none
def VW:AV→Bool
 | .t 1 1 []=>true
 | _=>false
theorem afh (h:VW a=true) (hr:Rep X a v):False:=by
 unfold VW at h;split at h
 ·cases hr with | t hl hc hn hcap hp hr=>simp at hl
 ·cases h
theorem BU {w:World}    (h: ∀ d:Nat,(Op.equalIn (d+1) T u v).run P w= .ok b w):(Op.equal T u v).run P w= .ok b w:=h 9999
variable {op:BinOp}{r:Value}
theorem kZ {w:World}     (h:pW op b=some r) (he:(Op.equal T u v).run P w= .ok b w)
  (h1:binOp .eql T u v=do pure (.bool (←Op.equal T u v))) (h2:binOp .neq T u v=do pure (.bool (!(←Op.equal T u v)))):(binOp op T u v).run P w= .ok r w:=by
 cases op<;>simp only [pW] at h
 case eql=>injection h with h;subst h;rw [h1];simp [he]
 case neq=>injection h with h;subst h;rw [h2];simp [he]
 all_goals cases h
theorem PV {x y:Operand} {m:AV}  (h:eqG P op T (cellsOf a) (cellsOf m)=some r) (ha:Rep X a u) (hb:Rep X m v):
  (do eqGuard op T x y u v;binOp op T u v:Sem Value).run P X.w= .ok r X.w:=by
 unfold eqG at h;split at h
 ·next ks l m' hk hl hm=>
  obtain ⟨xs,rfl,hx⟩:=JD hl ha;obtain ⟨ys,rfl,hy⟩:=JD hm hb;unfold uq at hk;split at hk
  ·next fs hu=>
   split at hk
   ·next hc=>
    rw [Bool.and_eq_true,Bool.not_eq_true',Bool.not_eq_true'] at hc;have hfs:P.fieldsOf T=fs:=by simp [Program.fieldsOf,hu]
    cases hq:eqL ks l m' with
    | none=>rw [hq] at h;cases h
    | some b=>
     rw [hq] at h;have h1: ∀ d:Nat,(Op.equalIn (d+1+1) T (.agg xs) (.agg ys)).run P X.w= .ok b X.w:=fun d=>by
      rw [run_equalIn_struct X.w (d+1) T xs ys (by rw [hfs];exact hu) hc.1,hfs];exact PU d _ 0 ks l m' b hk hq hx hy
     have h2:(Op.equal T (.agg xs) (.agg ys)).run P X.w= .ok b X.w:=h1 9998;have h3:=kZ (P:=P) (w:=X.w) (T:=T) (u:= .agg xs) (v:= .agg ys) h h2 rfl rfl;simp only [Sem.run_bind,run_eqGuard_agg X.w op T x y xs ys hc.2,Result.andThen_ok,h3]
   ·cases hk
  ·cases hk
 ·cases h
theorem abk {x y:Operand} {b:AV}  (h:qJ P X.h op T a b=some r) (ha:Rep X a u) (hb:Rep X b v):
  (do eqGuard op T x y u v;binOp op T u v:Sem Value).run P X.w= .ok r X.w:=by
 unfold qJ at h;split at h
 ·next q=>
  split at h
  ·next p=>
   split at h
   ·next hB=>
    have hu:P.underlying T=some .bool:=by
     unfold rY at hB;split at hB
     ·assumption
     ·cases hB
    cases ha;cases hb;have:=kZ (P:=P) (w:=X.w) (T:=T) (u:= .bool p) (v:= .bool q) h (BU fun d=>by simp [Op.equalIn,run_underlying hu]) rfl rfl;simp [eqGuard,this]
   ·cases h
  ·cases h
 ·next k' q=>
  split at h
  ·cases ha;cases hb;exact PO h X.w
  ·cases h
 ·next q=>
  split at h
  ·cases ha;cases hb;exact PO h X.w
  ·cases h
 ·split at h
  ·next hB=>
   have hu: ∃ e,P.underlying T=some (.pointer e):=by
    unfold kL at hB;split at hB
    ·exact ⟨_,by assumption⟩
    ·cases hB
   obtain ⟨e,hu⟩:=hu;cases hb;cases hn:mg X.h a with
   | none=>rw [hn] at h;cases h
   | some bb=>
    rw [hn] at h;obtain ⟨p,rfl,rfl⟩:=JC hn ha;cases p with
    | none=>
     have:=kZ (P:=P) (w:=X.w) (T:=T) (u:= .pointer none) (v:= .pointer none) h (BU fun d=>by simp [Op.equalIn,run_underlying hu]) rfl rfl;simp [eqGuard,this]
    | some ad=>
     have:=kZ (P:=P) (w:=X.w) (T:=T) (u:= .pointer (some ad)) (v:= .pointer none) h (BU fun d=>by simp [Op.equalIn,run_underlying hu]) rfl rfl;simp [eqGuard,this]
  ·cases h
 ·split at h
  ·next hB=>
   obtain ⟨e,he⟩:=Option.isSome_iff_exists.1 hB;have hu:=dF he;cases hb;cases hn:zx X.h a with
   | none=>rw [hn] at h;cases h
   | some bb=>
    rw [hn] at h;obtain ⟨p,n,c,rfl,rfl⟩:=VT hn ha;cases p with
    | none=>
     have:=kZ (P:=P) (w:=X.w) (T:=T) (u:= .slice none n c) (v:= .slice none 0 0) h (BU fun d=>by simp [Op.equalIn,run_underlying hu]) rfl rfl;simp [eqGuard,this]
    | some ad=>
     have:=kZ (P:=P) (w:=X.w) (T:=T) (u:= .slice (some ad) n c) (v:= .slice none 0 0) h (BU fun d=>by simp [Op.equalIn,run_underlying hu]) rfl rfl;simp [eqGuard,this]
  ·cases h
 ·split at h
  ·next hB=>
   have hu: ∃ e1 e2 e3,P.underlying T=some (.func e1 e2 e3):=by
    unfold jR at hB;split at hB
    ·exact ⟨_,_,_,by assumption⟩
    ·cases hB
   obtain ⟨e1,e2,e3,hu⟩:=hu;cases hb;cases hn:vX a with
   | none=>rw [hn] at h;cases h
   | some bb=>
    rw [hn] at h;rcases VU hn ha with ⟨rfl,rfl⟩ | ⟨⟨f,c1,c2,rfl⟩,rfl⟩
    ·have:=kZ (P:=P) (w:=X.w) (T:=T) (u:= .nilFunc) (v:= .nilFunc) h (BU fun d=>by simp [Op.equalIn,run_underlying hu]) rfl rfl;simp [eqGuard,this]
    ·have:=kZ (P:=P) (w:=X.w) (T:=T) (u:= .func f c1 c2) (v:= .nilFunc) h (BU fun d=>by simp [Op.equalIn,run_underlying hu]) rfl rfl;simp [eqGuard,this]
  ·cases h
 ·exact (afh rfl hb).elim
 ·next m=>exact PV (m:= .g m) h ha hb
 ·next cs=>exact PV (m:= .v (.agg cs)) h ha hb
 ·cases h
def unA (op:UnOp) (x:AV):Option Value:=match op,x with
 | .not, .v (.bool b)=>some (.bool (!b))
 | .neg, .v (.int k n)=>some (.int k (k.wrap (0 - n)))
 | _,_=>none
theorem afI {op:UnOp}   (h:unA op x=some r) (hr:Rep X x v):(Op.unary op v).run P X.w= .ok r X.w:=by
 unfold unA at h;split at h
 ·injection h with h;subst h;cases hr;simp [Op.unary]
 ·injection h with h;subst h;cases hr;simp [Op.unary,Op.intArith]
 ·cases h
theorem Nw {k:IntKind} (h:l9 P T=some k):P.underlying T=some (.int k):=by
 unfold l9 at h;cases hu:P.underlying T with
 | none=>rw [hu] at h;cases h
 | some d=>rw [hu] at h;cases d<;>simp_all
def intsOf:List AV→Option (List Int)
 | []=>some []
 | .v (.int .u8 z)::r=>(intsOf r).map fun l=>z::l
 | _=>none
def strOf (ns:List Int):ByteArray:=ns.foldl (fun r n=>r.push (UInt8.ofNat n.toNat)) ByteArray.empty
def Hg (P:Program) (src dst:TypeId) (s:Nat) (cells:List AV):Option Value:=
 if s=1∧(aG P src).bind (l9 P)=some .u8∧dK P dst=true then (intsOf cells).map fun ns=> .string (strOf ns) else none
def iM (P:Program) (h:Hp) (src dst:TypeId) (x:AV):Option Value:=match x with
 | .v (.int _ n)=>if (P.underlying src).isSome then (l9 P dst).map fun k=> .int k (k.wrap n) else none
 | .v (.string s)=>if dK P src=true∧dK P dst=true then some (.string s) else none
 | .t n s cells=>if cells.length=n*s then Hg P src dst s cells else none
 | .own id n=>match h[id]? with
  | some (some (.arr _ s cells _))=>if cells.length=n*s then Hg P src dst s cells else none
  | _=>none
 | _=>none
theorem BX (h:dK P T=true):P.underlying T=some .string:=by
 unfold dK at h;split at h
 ·assumption
 ·cases h
theorem Fj {X:Cx}: ∀ (cells:List AV) (ns:List Int) (cvs:List Value),intsOf cells=some ns→fJ X cells cvs→cvs=ns.map (Value.int .u8)
 | [],ns,cvs,h,hr=>by
  simp only [intsOf] at h;injection h with h;subst h;exact List.eq_nil_of_length_eq_zero hr.1
 | a::r,ns,[],h,hr=>by have:=hr.1;simp at this
 | a::r,ns,x::cvs,h,hr=>by
  unfold intsOf at h;split at h
  ·rename_i heq;cases heq
  ·rename_i z r' heq;injection heq with e1 e2;subst e1 e2;cases hi:intsOf r with
   | none=>rw [hi] at h;cases h
   | some l=>
    rw [hi] at h;injection h with h;subst h;have hx:=hr.2 0 _ x rfl rfl;cases hx;rw [List.map_cons,Fj r l cvs hi ⟨by have:=hr.1;simp at this;omega,fun i b y q1 q2=>hr.2 (i+1) b y (by simpa using q1) (by simpa using q2)⟩]
  ·cases h
theorem abl (b off j:Nat):(⟨b,off,none⟩:Addr).add j=⟨b,off+j,none⟩:=by
 unfold Addr.add;split
 ·next h0=>rw [h0];rfl
 ·rfl
variable {dst src:TypeId}
theorem Hl {s n cap:Nat} {cells:List AV} {cvs:List Value} {p:Option Addr}  (h:Hg P src dst s cells=some r) (hl:cells.length=n*s) (hr:fJ X cells cvs)
  (hp:0<n→ ∃ b off,p=some ⟨b,off,none⟩∧ ∀ (i:Nat) (x:Value),cvs[i]? =some x→cellAt X.w b (off+i)=some x):(convert src dst (.slice p n cap)).run P X.w= .ok r X.w:=by
 unfold Hg at h;split at h
 ·next hc=>
  obtain ⟨rfl,he,hd⟩:=hc;rw [Nat.mul_one] at hl;cases hE:aG P src with
  | none=>rw [hE] at he;cases he
  | some e=>
   rw [hE] at he;cases hi:intsOf cells with
   | none=>rw [hi] at h;cases h
   | some ns=>
    rw [hi] at h;injection h with h;subst h;have hcv:=Fj cells ns cvs hi hr;have hlen:ns.length=n:=by have:=hr.1;rw [hcv,List.length_map] at this;omega
    rw [run_convert_bytes_string X.w src dst e p n cap (dF hE) (Nw he) (BX hd)];cases p with
    | none=>
     have hn:n=0:=by
      rcases Nat.eq_zero_or_pos n with h0 | h0
      ·exact h0
      ·obtain ⟨b,off,q,_⟩:=hp h0;cases q
     subst hn;have:ns=[]:=List.eq_nil_of_length_eq_zero hlen;subst this;simp [Conv.bytesToString,strOf]
    | some a=>
     refine run_bytesToString X.w a n cap ns ?_;have:=run_loadCells_list (P:=P) X.w a (ns.map (Value.int .u8)) fun j v hv=>by
      have hj:=(List.getElem?_eq_some_iff.1 hv).1;rw [List.length_map] at hj;obtain ⟨b,off,q,hq⟩:=hp (by omega);injection q with q;subst q;rw [abl];exact hq j v (by rw [hcv];exact hv)
     rw [List.length_map,hlen] at this;exact this
 ·cases h
theorem JE (hX:Ok X) (h:iM P X.h src dst x=some r) (hr:Rep X x v):(convert src dst v).run P X.w= .ok r X.w:=by
 unfold iM at h;split at h
 ·next k n=>
  split at h
  ·next hs=>
   obtain ⟨d,hd⟩:=Option.isSome_iff_exists.1 hs;cases hk:l9 P dst with
   | none=>rw [hk] at h;cases h
   | some k2=>
    rw [hk] at h;injection h with h;subst h;cases hr;simp [convert,run_underlying hd,run_underlying (Nw hk),Conv.intToInt]
  ·cases h
 ·next s=>
  split at h
  ·next hc=>
   injection h with h;subst h;cases hr;simp [convert,run_underlying (BX hc.1),run_underlying (BX hc.2)]
  ·cases h
 ·next n s cells=>
  split at h
  ·next hl=>
   cases hr with
   | t hl' hc hn hcap hp hr=>
    refine Hl h hl ⟨hc,hr⟩ fun h0=>?_
    obtain ⟨b,off,q1,q2⟩:=hp h0;exact ⟨b,off,q1,fun i x hx=>(q2 i x hx).1⟩
  ·cases h
 ·next id n=>
  split at h
  ·next T s cells fz hid=>
   split at h
   ·next hl=>
    cases hr with
    | own EF hh=>
     rw [(hh _ _ _ _ hid).2 hl];obtain ⟨g1,g2,n',g3,g4⟩:=hX.arr id T s cells fz hid;rcases g4 with ⟨g4,g5⟩ | ⟨b,cvs,g4⟩
     ·rw [g4];have hn0:n=0:=by
       rw [g5] at hl;rcases Nat.mul_eq_zero.1 hl.symm with h0 | h0
       ·exact h0
       ·omega
      subst hn0;exact Hl (cvs:=[]) h hl ⟨by rw [g5];rfl,fun i a x q1=>by rw [g5] at q1;simp at q1⟩ (fun h0=>absurd h0 (Nat.lt_irrefl _))
     ·have hle:cells.length≤cvs.size:=by
       rw [g4.sz,g3];exact Nat.mul_le_mul_right _ g4.cap
      refine Hl (cvs:=cvs.toList.take cells.length) h hl ⟨by simp;omega,fun i a x q1 q2=>?_⟩ fun _=>⟨b,0,by rw [g4.at_];rfl,fun i x hx=>?_⟩
      ·rw [List.getElem?_take] at q2;split at q2
       ·exact g4.rep i a x q1 (by simpa using q2)
       ·cases q2
      ·rw [List.getElem?_take] at hx;split at hx
       ·rw [Nat.zero_add,aZ g4.blk];simpa using hx
       ·cases hx
   ·cases h
  ·cases h
 ·cases h
theorem Fp (h:Hp) (hc:iM P [] src dst x=some r):iM P h src dst x=some r:=by
 unfold iM at hc ⊢;split at hc<;>first | exact hc | (simp at hc)
def Fq (x:AV) (i:Nat):Option AV:=match x with
 | .tup l=>l[i]?
 | _=>none
theorem VX {r:AV} {i:Nat}  (h:Fq x i=some r) (hr:Rep X x v): ∃ u,(Instr.extract v i).run P X.w= .ok u X.w∧Rep X r u:=by
 cases x with
 | tup l=>
  simp only [Fq] at h;cases hr with
  | @tup _ cvs hc hrr=>
  have hi:=(List.getElem?_eq_some_iff.1 h).1;obtain ⟨u,hu⟩: ∃ u,cvs[i]? =some u:=⟨_,List.getElem?_eq_getElem (by omega)⟩
  exact ⟨u,by simp [Instr.extract,hu],hrr i r u h hu⟩
 | _=>cases h
theorem PW {r:AV} {o:Nat} {cvs:List Value} (h:takeA P T (l.drop o)=some r) (hc:cvs.length=l.length) (hr: ∀ (i:Nat) (a:AV) (x:Value),l[i]? =some a→cvs[i]? =some x→Rep X a x):
  ∃ u,(part T cvs.toArray o).run P X.w= .ok u X.w∧Rep X r u:=by
 unfold takeA at h;cases ha:bn P T with
 | none=>rw [ha] at h;cases h
 | some ab=>
  cases hs:szP P T with
  | none=>rw [ha,hs] at h;cases ab<;>cases h
  | some s=>
   obtain ⟨d,hu,hd⟩:=VN ha;obtain ⟨i,hi,hsi⟩:=lK hs;have h2:=EY hu X.w;rw [hd] at h2;rw [ha,hs] at h;cases ab with
   | false=>
    simp only at h;rw [List.getElem?_drop] at h;have h0:=(List.getElem?_eq_some_iff.1 h).1;obtain ⟨x,hx⟩: ∃ x,cvs[o+0]? =some x:=⟨_,List.getElem?_eq_getElem (by omega)⟩
    refine ⟨x,?_,hr _ r x h hx⟩;rw [Nat.add_zero] at hx;simp [part,h2,hx]
   | true=>
    simp only at h;split at h
    ·next hle=>
     injection h with h;subst h;rw [List.length_drop] at hle;refine ⟨.agg (cvs.toArray.extract o (o+s)),?_,?_⟩
     ·simp [part,h2,sizeOf,typeInfo,hi,hsi]
     ·have:=Rep.g (X:=X) (cells:=(l.drop o).take s) (cvs:=(cvs.drop o).take s) (by simp;omega) (fun j a x q1 q2=>by
       rw [List.getElem?_take] at q1 q2;split at q1
       ·next hj=>
        rw [if_pos hj] at q2;rw [List.getElem?_drop] at q1 q2;exact hr _ a x q1 q2
       ·cases q1)
      have e:(cvs.toArray.extract o (o+s))=((cvs.drop o).take s).toArray:=by
       apply Array.ext';simp
      rw [e];exact this
    ·cases h
theorem BZ (h:cellsOf x=some l) (hr:Rep X x v): ∃ cvs:List Value,v= .agg cvs.toArray∧cvs.length=l.length∧ ∀ (i:Nat) (a:AV) (x:Value),l[i]? =some a→cvs[i]? =some x→Rep X a x:=by
 cases x with
 | g l'=>
  simp only [cellsOf] at h;injection h with h;subst h;cases hr with
  | g hc hrr=>exact ⟨_,rfl,hc,hrr⟩
 | v y=>
  cases y with
  | agg cs=>
   simp only [cellsOf] at h;injection h with h;subst h;cases hr;refine ⟨cs.toList,by simp,by simp,fun i a x h1 h2=>?_⟩;rw [List.getElem?_map,h2] at h1;injection h1 with h1;subst h1;exact .v x
  | _=>cases h
 | _=>cases h
def uO (P:Program) (S:TypeId) (x:AV) (f:Nat):Option AV:=(aV P S f).bind fun ot=>(cellsOf x).bind fun l=>takeA P ot.2 (l.drop ot.1)
theorem RZ {S:TypeId} {r:AV} {f:Nat}  (h:uO P S x f=some r) (hr:Rep X x v): ∃ u,(Instr.field S v f).run P X.w= .ok u X.w∧Rep X r u:=by
 unfold uO at h;cases hf:aV P S f with
 | none=>rw [hf] at h;cases h
 | some ot=>
  obtain ⟨o,T⟩:=ot;rw [hf] at h;simp only [Option.bind_some] at h;cases hl:cellsOf x with
  | none=>rw [hl] at h;cases h
  | some l=>
   rw [hl] at h;simp only [Option.bind_some] at h;obtain ⟨cvs,rfl,hc,hrr⟩:=BZ hl hr;obtain ⟨fs,y,hu,hy,e1,e2⟩:=VO hf;obtain ⟨u,h1,h2⟩:=PW (P:=P) h hc hrr;refine ⟨u,?_,h2⟩;subst e1 e2;simp [Instr.field,run_underlying hu,hy,asAgg,h1]
def mD (P:Program) (T:TypeId) (x:AV) (z:Int):Option AV:=match x with
 | .v (.string s)=>if dK P T∧0≤z then (s[z.toNat]?).map fun b=> .v (.int .u8 b.toNat) else none
 | x=>match bM P T with
  | some (n,e)=>(szP P e).bind fun s=>if 0≤z∧z<n then (cellsOf x).bind fun l=>takeA P e (l.drop (z.toNat*s)) else none
  | none=>none
theorem Si {r ia:AV} {z:Int} {iv:Value} (h:mD P T x z=some r) (hr:Rep X x v) (hi:qB ia=some z) (hri:Rep X ia iv): ∃ u,(Instr.index T v iv).run P X.w= .ok u X.w∧Rep X r u:=by
 obtain ⟨k,rfl⟩:=Am hi hri;unfold mD at h;split at h
 ·next s=>
  split at h
  ·next hc=>
   have hu:P.underlying T=some .string:=by
    have:=hc.1;unfold dK at this;split at this
    ·assumption
    ·cases this
   cases hr;cases hb:s[z.toNat]? with
   | none=>rw [hb] at h;cases h
   | some b=>
    rw [hb] at h;injection h with h;subst h;refine ⟨.int .u8 b.toNat,?_, .v _⟩;simp [Instr.index,asIntOf,run_underlying hu,hc.2,hb]
  ·cases h
 ·split at h
  ·next n e ha=>
   cases hs:szP P e with
   | none=>rw [hs] at h;cases h
   | some s=>
    obtain ⟨i,hii,hsi⟩:=lK hs;rw [hs] at h;simp only [Option.bind_some] at h;split at h
    ·next hc=>
     cases hl:cellsOf x with
     | none=>rw [hl] at h;cases h
     | some l=>
      rw [hl] at h;simp only [Option.bind_some] at h;obtain ⟨cvs,rfl,hcl,hrr⟩:=BZ hl hr;obtain ⟨u,h1,h2⟩:=PW (P:=P) h hcl hrr;refine ⟨u,?_,h2⟩;simp [Instr.index,asIntOf,run_underlying (G7 ha),hc.1,hc.2,sizeOf,typeInfo,hii,hsi,h1]
    ·cases h
  ·cases h
end
section
open Go.RowKit
def uP (P:Program) (T:TypeId):Option (TypeId × TypeId):=(P.underlying T).bind fun | .map k e=>some (k,e) | _=>none
variable {K T:TypeId}{P:Program}
theorem VY {E:TypeId} (h:uP P T=some (K,E)):P.underlying T=some (.map K E):=by
 unfold uP at h;cases hu:P.underlying T with
 | none=>rw [hu] at h;cases h
 | some d=>rw [hu] at h;cases d<;>simp_all
inductive KK where
 | int (q:IntKind)
 | str
 | flat (l:List (Option IntKind))
deriving DecidableEq
def kcP (P:Program) (T:TypeId):Option (Option IntKind):=match P.underlying T with
 | some (.int q)=>some (some q)
 | some .string=>some none
 | _=>none
def flatK (P:Program):Nat→List Field→Option (List (Option IntKind))
 | _,[]=>some []
 | o,f::r=>if (f.name != "_")=true∧f.offset=o then match kcP P f.type,flatK P (o+1) r with
  | some k,some l=>some (k::l)
  | _,_=>none
  else none
def kkP (P:Program) (K:TypeId):Option KK:=match P.underlying K with
 | some (.int q)=>some (.int q)
 | some .string=>some .str
 | some (.struct fs)=>if (!P.stoodInHeld K)=true then (flatK P 0 fs.toList).map .flat else none
 | _=>none
def key1:Option IntKind→Value→Bool
 | some q, .int q' _=>decide (q'=q)
 | none, .string _=>true
 | _,_=>false
def jf:List (Option IntKind)→List Value→Bool
 | [],[]=>true
 | k::ks,x::xs=>key1 k x && jf ks xs
 | _,_=>false
def fO:KK→Value→Bool
 | .int q, .int q' _=>decide (q'=q)
 | .str, .string _=>true
 | .flat ks, .agg cs=>jf ks cs.toList
 | _,_=>false
def key2:Value→Value→Bool
 | .int _ a, .int _ b=>decide (a=b)
 | .string a, .string b=>decide (a=b)
 | _,_=>false
def zy:List Value→List Value→Bool
 | [],[]=>true
 | x::l,y::m=>key2 x y && zy l m
 | _,_=>false
def keyE:Value→Value→Bool
 | .int _ a, .int _ b=>decide (a=b)
 | .string a, .string b=>decide (a=b)
 | .agg a, .agg b=>zy a.toList b.toList
 | _,_=>false
def eP (k:Value):List (Value × AV)→Option AV
 | []=>none
 | p::r=>if keyE k p.1=true then some p.2 else eP k r
def kF (k:Value) (a:AV):List (Value × AV)→List (Value × AV)
 | []=>[(k,a)]
 | p::r=>if keyE k p.1=true then (k,a)::r else p::kF k a r
def keysB (q:KK) (es:List (Value × AV)):Bool:=es.all fun p=>fO q p.1
theorem ba_eq (a b:ByteArray):(a==b)=decide (a=b):=by
 by_cases h:a=b
 ·subst h;simp;cases a;rename_i d;show (d==d)=true;simp
 ·rw [aj h];cases a;cases b;rename_i d e;show (d==e)=false;rw [beq_eq_false_iff_ne];intro he;apply h;rw [he]
variable {clock:Nat}{w:World}
theorem vY {r:Nat} {es:Array MapEntry}  (hb:w.heap[r]? =some (.map es clock)):(getObj r).run P w= .ok (.map es clock) w:=by
 simp [getObj,Sem.run,hb]
theorem VZ {r:Nat} {es:Array MapEntry}  (hb:w.heap[r]? =some (.map es clock)) (o:Obj):(setObj r o).run P w= .ok () {w with heap:=w.heap.setIfInBounds r o}:=by
 simp [setObj,Sem.run,hb]
variable {x y:Value}
theorem abm {k:Option IntKind}  (h:key1 k x=true) (h':key1 k y=true) (he:key2 x y=true):x=y:=by
 cases k<;>cases x<;>simp [key1] at h<;>cases y<;>simp [key1] at h'<;>simp [key2] at he<;>simp_all
theorem JF: ∀ {ks:List (Option IntKind)} {l m:List Value},jf ks l=true→jf ks m=true→zy l m=true→l=m
 | [],[],[],_,_,_=>rfl
 | k::ks,x::l,y::m,h,h',he=>by
  simp only [jf,zy,Bool.and_eq_true] at h h' he;rw [abm h.1 h'.1 he.1,JF h.2 h'.2 he.2]
 | [],_::_,_,h,_,_=>by simp [jf] at h
 | [],[],_::_,_,h,_=>by simp [jf] at h
 | _::_,[],_,h,_,_=>by simp [jf] at h
 | _::_,_::_,[],_,h,_=>by simp [jf] at h
variable {k k':Value}{q:KK}
theorem abn (h:fO q k=true) (h':fO q k'=true) (he:keyE k k'=true):k=k':=by
 cases q with
 | flat ks=>
  cases k<;>simp only [fO] at h<;>first | (cases h;done) | skip
  cases k'<;>simp only [fO] at h'<;>first | (cases h';done) | skip
  simp only [keyE] at he;rw [Array.toList_inj.1 (JF h h' he)]
 | int q=>cases k<;>simp [fO] at h<;>cases k'<;>simp [fO] at h'<;>simp [keyE] at he<;>simp_all
 | str=>cases k<;>simp [fO] at h<;>cases k'<;>simp [fO] at h'<;>simp [keyE] at he<;>simp_all
theorem Fv {k:Option IntKind} (h:kcP P T=some k):P.plainKey T=true:=by
 unfold kcP at h;unfold Program.plainKey;split at h
 ·next hu=>rw [hu]
 ·next hu=>rw [hu]
 ·cases h
theorem V6 {k:Option IntKind}  (d:Nat) (hk:kcP P T=some k) (h:key1 k x=true) (h':key1 k y=true) (w:World):(Op.equalIn (d+1) T x y).run P w= .ok (key2 x y) w:=by
 unfold kcP at hk;split at hk
 ·next q hu=>
  injection hk with hk;subst hk;cases x<;>simp [key1] at h;cases y<;>simp [key1] at h';subst h h';rw [run_equalIn_int w d T _ _ _ _ hu];rfl
 ·next hu=>
  injection hk with hk;subst hk;cases x<;>simp [key1] at h;cases y<;>simp [key1] at h';rw [run_equalIn_string w d T _ _ hu, ←beq_toListBytes];refine congrArg (fun z=>Result.ok z w) ?_;rename_i a b;show _=decide (a=b);rw [Bool.eq_iff_iff,beq_toListBytes,ByteArray.toList_eq,ByteArray.toList_eq,decide_eq_true_iff,beq_iff_eq];exact ⟨fun h=>by cases a;cases b;simp only [ByteArray.mk.injEq];exact Array.toList_inj.1 h,fun h=>by rw [h]⟩
 ·cases hk
theorem Fz {P:Program} {w:World} {xs ys:Array Value} (d:Nat): ∀ (fs:List Field) (o:Nat) (ks:List (Option IntKind)) (l m:List Value),flatK P o fs=some ks→jf ks l=true→jf ks m=true→
  (∀ i:Nat,i<l.length→xs[o+i]? =l[i]?)→(∀ i:Nat,i<m.length→ys[o+i]? =m[i]?)→(Op.eqFields (d+1) xs ys fs).run P w= .ok (zy l m) w
 | [],o,ks,l,m,hf,h,h',hx,hy=>by
  injection hf with hf;subst hf;cases l<;>simp only [jf] at h<;>first | (cases h;done) | skip
  cases m<;>simp only [jf] at h'<;>first | (cases h';done) | skip
  rfl
 | f::fs,o,ks,l,m,hf,h,h',hx,hy=>by
  simp only [flatK] at hf;split at hf
  ·next hc=>
   split at hf
   ·next k ks' hk hks=>
    injection hf with hf;subst hf;cases l with
    | nil=>cases h
    | cons a l=>
    cases m with
    | nil=>cases h'
    | cons b m=>
    simp only [jf,Bool.and_eq_true] at h h';have hu:xs[o]? =some a:=hx 0 (Nat.zero_lt_succ _);have hv:ys[o]? =some b:=hy 0 (Nat.zero_lt_succ _);have hpl:=Fv hk;have ih:=Fz (w:=w) d fs (o+1) ks' l m hks h.2 h'.2 (fun i hi=>by
     have:=hx (i+1) (Nat.succ_lt_succ hi);rw [Nat.add_assoc,Nat.add_comm 1];exact this) (fun i hi=>by
     have:=hy (i+1) (Nat.succ_lt_succ hi);rw [Nat.add_assoc,Nat.add_comm 1];exact this)
    have hne:f.name≠ "_" :=by simpa using hc.1
    simp only [Op.eqFields,if_pos hne,Sem.run_bind,run_part_plain w hpl (hc.2▸hu),run_part_plain w hpl (hc.2▸hv),V6 d hk h.1 h'.1 w,Result.andThen_ok];cases hp:key2 a b
    ·simp [zy,hp]
    ·simpa [zy,hp] using ih
   ·cases hf
  ·cases hf
theorem Cb {ks:List (Option IntKind)} (hk:kkP P K=some (.flat ks)): ∃ fs,P.underlying K=some (.struct fs)∧P.stoodInHeld K=false∧flatK P 0 fs.toList=some ks:=by
 unfold kkP at hk;split at hk
 ·cases hk
 ·cases hk
 ·next fs hu=>
  split at hk
  ·next hc=>
   obtain ⟨l,e1,e2⟩:=Option.map_eq_some_iff.1 hk;injection e2 with e2;subst e2;exact ⟨fs,hu,by simpa using hc,e1⟩
  ·cases hk
 ·cases hk
theorem Sj {ks:List (Option IntKind)}  (hk:kkP P K=some (.flat ks)) (h:fO (.flat ks) k=true) (h':fO (.flat ks) k'=true) (w:World):(Op.equal K k k').run P w= .ok (keyE k k') w:=by
 obtain ⟨fs,hu,hs,hf⟩:=Cb hk;cases k<;>simp only [fO] at h<;>first | (cases h;done) | skip
 cases k'<;>simp only [fO] at h'<;>first | (cases h';done) | skip
 rename_i a b;have hfs:P.fieldsOf K=fs:=by simp [Program.fieldsOf,hu]
 have h1: ∀ d:Nat,(Op.equalIn (d+1+1) K (.agg a) (.agg b)).run P w= .ok (zy a.toList b.toList) w:=fun d=>by
  rw [run_equalIn_struct w (d+1) K a b (by rw [hfs];exact hu) hs,hfs];exact Fz d _ 0 ks _ _ hf h h' (fun i _=>by simp) (fun i _=>by simp)
 exact h1 9998
theorem JG {d:TypeDesc}   (hq: ∀ ks,q≠ .flat ks) (hu:P.underlying K=some d) (hk:kkP P K=some q) (h:fO q k=true) (h':fO q k'=true):Instr.sameNow d k k'=some (keyE k k'):=by
 unfold kkP at hk;rw [hu] at hk;split at hk
 ·next e=>
  injection e with e;subst e;injection hk with hk;subst hk;cases k<;>simp [fO] at h;cases k'<;>simp [fO] at h';simp [Instr.sameNow,keyE,h,h',Bool.beq_eq_decide_eq]
 ·next e=>
  injection e with e;subst e;injection hk with hk;subst hk;cases k<;>simp [fO] at h;cases k'<;>simp [fO] at h';simp only [Instr.sameNow,keyE,ba_eq]
 ·split at hk
  ·obtain ⟨l,_,e2⟩:=Option.map_eq_some_iff.1 hk;exact absurd e2.symm (hq l)
  ·cases hk
 ·cases hk
theorem JH {b:Bool}  (h: ∀ n,(Instr.checkKey b (n+2) K k).run P w= .ok () w):(Instr.checkKey b 10000 K k).run P w= .ok () w:=h 9998
theorem pX (b:Bool) (hk:kkP P K=some q) (h:fO q k=true) (w:World):(Instr.checkKey b 10000 K k).run P w= .ok () w:=by
 refine JH fun n=>?_
 cases q with
 | flat ks=>
  obtain ⟨fs,hu,hs,hf⟩:=Cb hk;cases k<;>simp only [fO] at h<;>first | (cases h;done) | skip
  rename_i cs;rw [show n+2=(n+1)+1 from rfl,Instr.checkKey];simp only [Sem.run_bind,run_underlying hu,Result.andThen_ok];rw [←Array.forIn_toList];obtain ⟨o,ho⟩: ∃ o:Nat,0=o:=⟨0,rfl⟩
  have hx: ∀ i:Nat,i<cs.toList.length→cs[o+i]? =cs.toList[i]? :=fun i _=>by subst ho;simp
  rw [ho] at hf;clear ho hu hk hs;generalize cs.toList=l at h hx;generalize fs.toList=L at hf ⊢;induction L generalizing o ks l with
  | nil=>simp
  | cons f L ih=>
   simp only [flatK] at hf;split at hf
   ·next hc=>
    split at hf
    ·next k ks' hk hks=>
     injection hf with hf;subst hf;cases l with
     | nil=>cases h
     | cons a l=>
     simp only [jf,Bool.and_eq_true] at h;have hu:cs[o]? =some a:=hx 0 (Nat.zero_lt_succ _);have hpl:=Fv hk;have hne:f.name≠ "_" :=by simpa using hc.1
     have hck:(Instr.checkKey b (n+1) f.type a).run P w= .ok () w:=by
      unfold kcP at hk;split at hk
      ·next hu'=>
       injection hk with hk;subst hk;have h1:=h.1;cases a<;>simp [key1] at h1;simp [Instr.checkKey,run_underlying hu']
      ·next hu'=>
       injection hk with hk;subst hk;have h1:=h.1;cases a<;>simp [key1] at h1;simp [Instr.checkKey,run_underlying hu']
      ·cases hk
     simp only [List.forIn_cons,Sem.run_bind,hne,ne_eq,not_false_eq_true,if_true,Result.andThen_ok,run_part_plain w hpl (hc.2▸hu),hck,Sem.run_pure];exact ih ks' (o+1) l h.2 (fun i hi=>by
      have:=hx (i+1) (Nat.succ_lt_succ hi);rw [Nat.add_assoc,Nat.add_comm 1];exact this) hks
    ·cases hf
   ·cases hf
 | int q0=>
  unfold kkP at hk;split at hk
  ·next q' hu=>
   injection hk with hk;injection hk with hk;subst hk;cases k<;>simp [fO] at h;simp [Instr.checkKey,run_underlying hu]
  ·cases hk
  ·split at hk
   ·obtain ⟨l,_,e2⟩:=Option.map_eq_some_iff.1 hk;cases e2
   ·cases hk
  ·cases hk
 | str=>
  unfold kkP at hk;split at hk
  ·cases hk
  ·next hu=>
   cases k<;>simp [fO] at h;simp [Instr.checkKey,run_underlying hu]
  ·split at hk
   ·obtain ⟨l,_,e2⟩:=Option.map_eq_some_iff.1 hk;cases e2
   ·cases hk
  ·cases hk
def dV (k:Value):List (Value × AV)→Nat→Option Nat
 | [],_=>none
 | p::r,i=>if keyE k p.1=true then some i else dV k r (i+1)
theorem qK {P:Program} {K:TypeId} {d:TypeDesc} {q:KK} {k:Value} (hq0: ∀ ks,q≠ .flat ks) (hu:P.underlying K=some d) (hk:kkP P K=some q) (h:fO q k=true): ∀ (es:List (Value × AV)) (L:List MapEntry) (i:Nat),keysB q es=true→L.map (·.key)=es.map (·.1)→
  Instr.findNow d k L i=some ((dV k es i).bind fun j=>(L[j - i]?).map fun e=>(j,e.val))
 | [],[],i,_,_=>rfl
 | [],_::_,_,_,h2=>by simp at h2
 | _::_,[],_,_,h2=>by simp at h2
 | p::es,e::L,i,hb,h2=>by
  simp only [List.map_cons,List.cons.injEq] at h2;simp only [keysB,List.all_cons,Bool.and_eq_true] at hb;have hs:=JG hq0 hu hk h (k':=e.key) (by rw [h2.1];exact hb.1);rw [Instr.findNow,hs,h2.1];by_cases hq:keyE k p.1=true
  ·simp [hq,dV]
  ·have hq':keyE k p.1=false:=by simpa using hq
   simp only [hq',dV,Bool.false_eq_true,if_false];rw [qK hq0 hu hk h es L (i+1) hb.2 h2.2];congr 1;have hge: ∀ (es:List (Value × AV)) (i j:Nat),dV k es i=some j→i≤j:=by
    intro es;induction es with
    | nil=>intro i j hj;cases hj
    | cons p r ih=>
     intro i j hj;unfold dV at hj;split at hj
     ·injection hj with hj;omega
     ·have:=ih _ _ hj;omega
   cases hp:dV k es (i+1) with
   | none=>rfl
   | some j=>
    have:=hge _ _ _ hp;simp only [Option.bind_some];rw [show j - i=(j - (i+1))+1 by omega,List.getElem?_cons_succ]
theorem FB (k:Value): ∀ (es:List (Value × AV)) (i j:Nat),dV k es i=some j→i≤j
 | [],_,_,h=>by cases h
 | p::r,i,j,h=>by
  unfold dV at h;split at h
  ·injection h with h;omega
  ·have:=FB k r (i+1) j h;omega
theorem zA {P:Program} {K:TypeId} {ks:List (Option IntKind)} {k:Value} (w:World) (hk:kkP P K=some (.flat ks)) (h:fO (.flat ks) k=true): ∀ (es:List (Value × AV)) (L:List MapEntry) (i:Nat),keysB (.flat ks) es=true→L.map (·.key)=es.map (·.1)→
  (Instr.findAsking K k L i).run P w= .ok ((dV k es i).bind fun j=>(L[j - i]?).map fun e=>(j,e.val)) w
 | [],[],i,_,_=>by simp [Instr.findAsking,dV]
 | [],_::_,_,_,h2=>by simp at h2
 | _::_,[],_,_,h2=>by simp at h2
 | p::es,e::L,i,hb,h2=>by
  simp only [List.map_cons,List.cons.injEq] at h2;simp only [keysB,List.all_cons,Bool.and_eq_true] at hb;have hs:=Sj hk h (k':=e.key) (by rw [h2.1];exact hb.1) w;rw [h2.1] at hs;rw [Instr.findAsking];simp only [Sem.run_bind,h2.1,hs,Result.andThen_ok];by_cases hq:keyE k p.1=true
  ·simp [hq,dV]
  ·have hq':keyE k p.1=false:=by simpa using hq
   have ih:=zA w hk h es L (i+1) hb.2 h2.2;simp only [hq',dV,Bool.false_eq_true,if_false];rw [ih];congr 1;cases hp:dV k es (i+1) with
   | none=>rfl
   | some j=>
    have:=FB k es _ _ hp;simp only [Option.bind_some];rw [show j - i=(j - (i+1))+1 by omega,List.getElem?_cons_succ]
theorem zB (w:World) (hk:kkP P K=some q) (h:fO q k=true) (es:List (Value × AV)) (L:List MapEntry) (hb:keysB q es=true) (h2:L.map (·.key)=es.map (·.1)):
  (Instr.findKey K k L).run P w= .ok ((dV k es 0).bind fun j=>(L[j]?).map fun e=>(j,e.val)) w:=by
 cases q with
 | flat ks=>
  obtain ⟨fs,hu,_,_⟩:=Cb hk;have ha:=zA w hk h es L 0 hb h2;simp only [Nat.sub_zero] at ha;cases L with
  | nil=>
   cases es with
   | nil=>simp [Instr.findKey,run_underlying hu,Instr.findNow,dV]
   | cons p r=>simp at h2
  | cons e L=>
   have hn:Instr.findNow (.struct fs) k (e::L) 0=none:=by simp [Instr.findNow,Instr.sameNow]
   simp only [Instr.findKey,Sem.run_bind,run_underlying hu,Result.andThen_ok,hn];exact ha
 | int q0=>
  obtain ⟨d,hu⟩: ∃ d,P.underlying K=some d:=by
   unfold kkP at hk;cases hu:P.underlying K with
   | none=>rw [hu] at hk;cases hk
   | some d=>exact ⟨d,rfl⟩
  have hf:=qK (fun ks e=>by cases e) hu hk h es L 0 hb h2;simp only [Nat.sub_zero] at hf;simp [Instr.findKey,run_underlying hu,hf]
 | str=>
  obtain ⟨d,hu⟩: ∃ d,P.underlying K=some d:=by
   unfold kkP at hk;cases hu:P.underlying K with
   | none=>rw [hu] at hk;cases hk
   | some d=>exact ⟨d,rfl⟩
  have hf:=qK (fun ks e=>by cases e) hu hk h es L 0 hb h2;simp only [Nat.sub_zero] at hf;simp [Instr.findKey,run_underlying hu,hf]
theorem Cc (k:Value): ∀ (es:List (Value × AV)) (i:Nat),(dV k es i=none∧eP k es=none)∨ ∃ j p,dV k es i=some (i+j)∧es[j]? =some p∧keyE k p.1=true∧eP k es=some p.2
 | [],i=> .inl ⟨rfl,rfl⟩
 | p::r,i=>by
  by_cases h:keyE k p.1=true
  ·exact .inr ⟨0,p,by simp [dV,h],rfl,h,by simp [eP,h]⟩
  ·rcases Cc k r (i+1) with ⟨h1,h2⟩ | ⟨j,p',h1,h2,h3,h4⟩
   ·exact .inl ⟨by simp [dV,h,h1],by simp [eP,h,h2]⟩
   ·exact .inr ⟨j+1,p',by simp [dV,h,h1];omega,by simpa using h2,h3,by simp [eP,h,h4]⟩
variable {X:Cx}{ents:Array MapEntry}{es:List (Value × AV)}
theorem V7 (h:oO X es ents):ents.toList.map (·.key)=es.map (·.1):=by
 apply List.ext_getElem?;intro i;rw [List.getElem?_map,List.getElem?_map];rcases Nat.lt_or_ge i es.length with hi | hi
 ·have h1:ents.toList[i]? =some (ents[i]'(by rw [h.1];exact hi)):=by simp [h.1,hi]
  have h2:es[i]? =some es[i]:=List.getElem?_eq_getElem hi;rw [h1,h2];have:=(h.2 i _ (ents[i]'(by rw [h.1];exact hi)) h2 (by simp)).1;simp [this]
 ·rw [List.getElem?_eq_none hi,List.getElem?_eq_none (by simp [h.1];exact hi)];rfl
theorem zC (hk:kkP P K=some q) (h:fO q k=true) (hb:keysB q es=true) (hE:oO X es ents) (w:World):
  (eP k es=none∧dV k es 0=none∧(Instr.findKey K k ents.toList).run P w= .ok none w)∨
  ∃ j a e p,eP k es=some a∧dV k es 0=some j∧ents[j]? =some e∧es[j]? =some p∧e.key=k∧p.2=a∧Rep X a e.val∧(Instr.findKey K k ents.toList).run P w= .ok (some (j,e.val)) w:=by
 have hf:=zB w hk h es ents.toList hb (V7 hE);rcases Cc k es 0 with ⟨h1,h2⟩ | ⟨j,p,h1,h2,h3,h4⟩
 ·left;refine ⟨h2,h1,?_⟩;rw [h1] at hf;exact hf
 ·right;have hj:j<ents.size:=by rw [hE.1];exact (List.getElem?_eq_some_iff.1 h2).1
  obtain ⟨q1,q2⟩:=hE.2 j p ents[j] h2 (by simp [hj]);refine ⟨j,p.2,ents[j],p,h4,by rw [h1,Nat.zero_add],by simp [hj],h2,?_,rfl,q2,?_⟩
  ·rw [q1];exact (abn h (List.all_eq_true.1 hb p (List.mem_of_getElem? h2)) h3).symm
  ·rw [h1,Nat.zero_add] at hf;simp [hj] at hf;exact hf
def valsOf:List AV→Option (List Value)
 | []=>some []
 | .v x::r=>match valsOf r with
  | some l=>some (x::l)
  | none=>none
 | _=>none
def abo:AV→Option Value
 | .v kv=>some kv
 | .g l=>match valsOf l with
  | some vs=>some (.agg vs.toArray)
  | none=>none
 | _=>none
theorem Ce {X:Cx}: ∀ {l:List AV} {vs us:List Value},valsOf l=some vs→l.length=us.length→(∀ (i:Nat) (a:AV) (x:Value),l[i]? =some a→us[i]? =some x→Rep X a x)→us=vs
 | [],vs,us,h,hl,hr=>by
  injection h with h;subst h;cases us with
  | nil=>rfl
  | cons _ _=>simp at hl
 | a::r,vs,us,h,hl,hr=>by
  cases us with
  | nil=>simp at hl
  | cons u us=>
  cases a<;>simp only [valsOf] at h<;>first | (cases h;done) | skip
  split at h
  ·next l hl'=>
   injection h with h;subst h;have h0:=hr 0 _ u rfl rfl;cases h0;rw [Ce hl' (by simpa using hl) fun i a x h1 h2=>hr (i+1) a x h1 h2]
  ·cases h
variable {u:Value}
theorem JI {k:AV} {kv:Value} (h:abo k=some kv) (hr:Rep X k u):u=kv:=by
 cases k<;>simp only [abo] at h<;>first | (cases h;done) | skip
 ·injection h with h;subst h;cases hr;rfl
 ·split at h
  ·next vs hv=>
   injection h with h;subst h;cases hr with
   | g hc hrr=>rw [Ce hv hc.symm hrr]
  ·cases h
def nK (ok:Bool) (z:Value):Option AV→AV
 | some a=>if ok=true then .tup [a, .v (.bool true)] else a
 | none=>if ok=true then .tup [.v z, .v (.bool false)] else .v z
def nM (P:Program) (h:Hp) (T:TypeId) (x k:AV) (ok:Bool):Option AV:=
 (uP P T).bind fun KE=>(kkP P KE.1).bind fun q=>(aA P KE.2).bind fun z=>match abo k with
  | some kv=>if fO q kv=true then match x with
   | .mp id=>match h[id]? with
    | some (some (.map es))=>if keysB q es=true then some (nK ok z (eP kv es)) else none
    | _=>none
   | .tm es=>if keysB q es=true then some (nK ok z (eP kv es)) else none
   | .v (.map none)=>some (nK ok z none)
   | _=>none
   else none
  | none=>none
theorem Cj {a b:AV}  (h1:Rep X a x) (h2:Rep X b y):Rep X (.tup [a,b]) (.tuple #[x,y]):=by
 refine Rep.tup (cvs:=[x,y]) rfl fun i a' x' q1 q2=>?_
 match i with
 | 0=>simp at q1 q2;subst q1 q2;exact h1
 | 1=>simp at q1 q2;subst q1 q2;exact h2
 | n+2=>simp at q1
variable {b:Nat}
theorem JJ {E:TypeId}  {z:Value} {zi:TypeInfo}  {ok:Bool}    (hu:P.underlying T=some (.map K E)) (hq:kkP P K=some q) (hi:P.info? E=some zi) (hzi:zi.zero=some z) (hkk:fO q u=true) (hkb:keysB q es=true) (h2:X.w.heap[b]? =some (.map ents clock)) (h3:oO X es ents):
  ∃ y,(Instr.lookup T (.map (some b)) u ok).run P X.w= .ok y X.w∧Rep X (nK ok z (eP u es)) y:=by
 have hck:=fun bb=>pX (P:=P) (b:=bb) hq hkk X.w
 rcases zC hq hkk hkb h3 X.w with ⟨q1,_,q3⟩ | ⟨j,a,e,p,q1,_,q3,q4,q5,q6,q7,q8⟩
 ·refine ⟨if ok then .tuple #[z, .bool false] else z,?_,?_⟩
  ·simp [Instr.lookup,run_underlying hu,vY h2,hck,q3,zeroValue,typeInfo,hi,hzi]
  ·rw [q1];cases ok
   ·exact .v z
   ·exact Cj (.v z) (.v _)
 ·refine ⟨if ok then .tuple #[e.val, .bool true] else e.val,?_,?_⟩
  ·simp [Instr.lookup,run_underlying hu,vY h2,hck,q8]
  ·rw [q1];cases ok
   ·exact q7
   ·exact Cj q7 (.v _)
theorem Ny {x k r:AV} {ok:Bool} {v:Value} (hX:Ok X) (h:nM P X.h T x k ok=some r) (hr:Rep X x v) (hk:Rep X k u): ∃ y,(Instr.lookup T v u ok).run P X.w= .ok y X.w∧Rep X r y:=by
 unfold nM at h;cases hm:uP P T with
 | none=>rw [hm] at h;cases h
 | some KE=>
 obtain ⟨K,E⟩:=KE;have hu:=VY hm;rw [hm] at h;simp only [Option.bind_some] at h;cases hq:kkP P K with
 | none=>rw [hq] at h;cases h
 | some q=>
 rw [hq] at h;simp only [Option.bind_some] at h;cases hz:aA P E with
 | none=>rw [hz] at h;cases h
 | some z=>
 rw [hz] at h;simp only [Option.bind_some] at h;obtain ⟨zi,hi,hzi⟩:=nI hz;split at h
 ·next kv hkv=>
  obtain rfl:=JI hkv hk;split at h
  ·next hkk=>
   split at h
   ·next id=>
    split at h
    ·next es hh=>
     split at h
     ·next hkb=>
      injection h with h;subst h;obtain ⟨b,ents,clock,h1,h2,h3⟩:=hX.map id es hh;cases hr with
      | mp hid kk=>
      obtain ⟨b',e1,e2⟩:=kk es hh;rw [h1] at e1;injection e1 with e1;subst e1;subst e2;exact JJ hu hq hi hzi hkk hkb h2 h3
     ·cases h
    ·cases h
   ·next es=>
    split at h
    ·next hkb=>
     injection h with h;subst h;cases hr with
     | tm hb hm hl hk hr=>exact JJ hu hq hi hzi hkk hkb hb ⟨hl,fun i p e h1 h2=>⟨hk i p e h1 h2,hr i p e h1 h2⟩⟩
    ·cases h
   ·injection h with h;subst h;cases hr;have hck:=fun bb=>pX (P:=P) (b:=bb) hq hkk X.w
    have hf:(Instr.findKey K u []).run P X.w= .ok none X.w:=zB X.w hq hkk [] [] rfl rfl;refine ⟨if ok then .tuple #[z, .bool false] else z,?_,?_⟩
    ·simp [Instr.lookup,run_underlying hu,hck,hf,zeroValue,typeInfo,hi,hzi]
    ·cases ok
     ·exact .v z
     ·exact Cj (.v z) (.v _)
   ·cases h
  ·cases h
 ·cases h
def Cx.jl (X:Cx) (id b:Nat) (o:Obj) (es:List (Value × AV)):Cx:={X with w:={X.w with heap:=X.w.heap.setIfInBounds b o},h:=X.h.set id (some (.map es))}
theorem oU (X:Cx) (id b:Nat) (o:Obj) (es:List (Value × AV)) {c:Nat} (h:c≠b):(X.jl id b o es).w.heap[c]? =X.w.heap[c]? :=by
 simp only [Cx.jl];rw [Array.getElem?_setIfInBounds_ne (fun e=>h e.symm)]
theorem Step.jl {id:Nat} {es':List (Value × AV)}   (o:Obj) (h:X.h[id]? =some (some (.map es))) (hb:(X.m id).1=some b) (h2:X.w.heap[b]? =some (.map ents clock)):Step X (X.jl id b o es'):=by
 have hid:id<X.h.length:=(List.getElem?_eq_some_iff.1 h).1;refine ⟨rfl,rfl,rfl,by simp [Cx.jl],fun c hc hm=>?_,fun c q y hy hbad=>⟨?_,hbad⟩,by simp [Cx.jl],fun i U s c f hi hh=>?_,fun i c hi hh=>?_,fun c hc=>?_,fun _ _ h=> .inl h,fun i c hi hh=>?_,rfl⟩
 ·exact oU _ _ _ _ _ fun e=>hm ⟨id,⟨_,h⟩,by rw [hb,e]⟩
 ·have hne:c≠b:=by
   rintro rfl;unfold cellAt World.cell? at hy;rw [h2] at hy;cases hy
  unfold cellAt at hy ⊢;rw [World.cell?_of_block (w:=X.w) (oU X id b o es' hne)];exact hy
 ·by_cases e:i=id
  ·subst e;simp only [Cx.jl] at hh;rw [List.getElem?_set_self hid] at hh;injection hh with hh;cases hh
  ·simp only [Cx.jl] at hh;rw [cu e] at hh;exact ⟨c,f,hh,Nat.le_refl _,fun _=>rfl⟩
 ·by_cases e:i=id
  ·subst e;simp only [Cx.jl] at hh;rw [List.getElem?_set_self hid] at hh;injection hh with hh;cases hh
  ·simp only [Cx.jl] at hh;rw [cu e] at hh;exact ⟨c,hh,rfl⟩
 ·obtain ⟨i,⟨o',ho⟩,he⟩:=hc;right;by_cases e:i=id
  ·subst e;exact ⟨i,⟨_,h⟩,he⟩
  ·simp only [Cx.jl] at ho;rw [cu e] at ho;exact ⟨i,⟨o',ho⟩,he⟩
 ·by_cases e:i=id
  ·subst e;exact ⟨es,h,rfl⟩
  ·simp only [Cx.jl] at hh;rw [cu e] at hh;exact ⟨c,hh,rfl⟩
theorem Ok.jl {id:Nat} {es':List (Value × AV)} {JK:Array MapEntry} {clock':Nat} (hX:Ok X) (h:X.h[id]? =some (some (.map es))) (hb:(X.m id).1=some b) (h2:X.w.heap[b]? =some (.map ents clock)) (hE:oO X es' JK):
  Ok (X.jl id b (.map JK clock') es'):=by
 have S:=Step.jl (es':=es') (.map JK clock') h hb h2;have hid:id<X.h.length:=(List.getElem?_eq_some_iff.1 h).1;have hbl:=(Array.getElem?_eq_some_iff.1 h2).1;have hlive: ∀ i,(X.jl id b (.map JK clock') es').live i→X.live i:=by
  intro i ⟨o',ho⟩;by_cases e:i=id
  ·subst e;exact ⟨_,h⟩
  ·simp only [Cx.jl] at ho;rw [cu e] at ho;exact ⟨o',ho⟩
 have vS: ∀ i c,i≠id→X.live i→(X.m i).1=some c→c≠b:=fun i c hi hl hc e=>hi (hX.inj i id b hl ⟨_,h⟩ (by rw [hc,e]) hb)
 refine ⟨fun i cells hh=>?_,fun i U s cells fz hh=>?_,fun i j c hi hj=>hX.inj i j c (hlive i hi) (hlive j hj),fun c o' hc=>Nat.lt_of_lt_of_le (hX.dX c o' hc) S.size,fun i q hh=>?_⟩
 ·by_cases e:i=id
  ·subst e;simp only [Cx.jl] at hh;rw [List.getElem?_set_self hid] at hh;injection hh with hh;cases hh
  ·simp only [Cx.jl] at hh;rw [cu e] at hh;obtain ⟨b',cvs,T,h1,h3,h4,h5,h6⟩:=hX.blk i cells hh;exact ⟨b',cvs,T,h1,by rw [oU _ _ _ _ _ (vS i b' e ⟨_,hh⟩ h1)];exact h3,h4,h5,fun j a' y h7 h8=>(h6 j a' y h7 h8).mono S⟩
 ·by_cases e:i=id
  ·subst e;simp only [Cx.jl] at hh;rw [List.getElem?_set_self hid] at hh;injection hh with hh;cases hh
  ·simp only [Cx.jl] at hh;rw [cu e] at hh;obtain ⟨g1,g2,n,g3,g4⟩:=hX.arr i U s cells fz hh;refine ⟨g1,g2,n,g3,?_⟩;rcases g4 with g4 | ⟨b',cvs,g4⟩
   ·exact .inl g4
   ·exact .inr ⟨b',cvs,⟨g4.at_,by rw [oU _ _ _ _ _ (vS i b' e ⟨_,hh⟩ g4.at_)];exact g4.blk,g4.cap,g4.iQ,g4.sz,g4.bad,fun j a' y h6 h7=>(g4.rep j a' y h6 h7).mono S,g4.good⟩⟩
 ·by_cases e:i=id
  ·subst e;simp only [Cx.jl] at hh;rw [List.getElem?_set_self hid] at hh;injection hh with hh;injection hh with hh;injection hh with hh;subst hh;exact ⟨b,JK,clock',hb,by simp [Cx.jl,hbl],hE.mono S⟩
  ·simp only [Cx.jl] at hh;rw [cu e] at hh;obtain ⟨b',en,cl,h1,h3,h4⟩:=hX.map i q hh;exact ⟨b',en,cl,h1,by rw [oU _ _ _ _ _ (vS i b' e ⟨_,hh⟩ h1)];exact h3,h4.mono S⟩
def kW (P:Program) (h:Hp) (T:TypeId) (x k a:AV):Option Hp:=
 (uP P T).bind fun KE=>(kkP P KE.1).bind fun q=>match abo k with
  | some kv=>if fO q kv=true then match x with
   | .mp id=>match h[id]? with
    | some (some (.map es))=>if keysB q es=true then some (h.set id (some (.map (kF kv a es)))) else none
    | _=>none
   | _=>none
   else none
  | none=>none
theorem FC (k:Value) (a:AV): ∀ (es:List (Value × AV)) (i:Nat),dV k es i=none→kF k a es=es++[(k,a)]
 | [],_,_=>rfl
 | p::r,i,h=>by
  unfold dV at h;split at h
  ·cases h
  ·next hn=>simp [kF,hn,FC k a r (i+1) h]
theorem FD (k:Value) (a:AV): ∀ (es:List (Value × AV)) (i j:Nat),dV k es i=some j→i≤j∧kF k a es=es.set (j - i) (k,a)
 | [],_,_,h=>by cases h
 | p::r,i,j,h=>by
  unfold dV at h;split at h
  ·next hn=>
   injection h with h;subst h;exact ⟨Nat.le_refl _,by simp [kF,hn]⟩
  ·next hn=>
   obtain ⟨h1,h2⟩:=FD k a r (i+1) j h;refine ⟨by omega,?_⟩;simp only [kF,hn,if_false,h2,Bool.false_eq_true];rw [show j - i=(j - (i+1))+1 by omega,List.set_cons_succ]
theorem V8 (h:fO q k=true) (w:World):(Instr.keyThatStays k k).run P w= .ok k w:=by
 cases q with
 | int q=>cases k<;>simp [fO] at h<;>simp [Instr.keyThatStays,Instr.sameBits]
 | str=>cases k<;>simp [fO] at h<;>simp [Instr.keyThatStays,Instr.sameBits,ba_eq]
 | flat ks=>
  cases k<;>simp only [fO] at h<;>first | (cases h;done) | skip
  rename_i cs;have hz: ∀ (n:Nat) {ks:List (Option IntKind)} {l:List Value},jf ks l=true→((l.zip l).all fun (x,y)=>Instr.sameBits n x y)=true:=by
   intro n ks l;induction l generalizing ks with
   | nil=>intro _;rfl
   | cons x l ih=>
    intro h;cases ks with
    | nil=>simp [jf] at h
    | cons k ks=>
     simp only [jf,Bool.and_eq_true] at h;have h1:=h.1;have:Instr.sameBits n x x=true:=by cases k<;>cases x<;>simp [key1] at h1<;>cases n<;>simp [Instr.sameBits,ba_eq]
     simp only [List.zip_cons_cons,List.all_cons,this,Bool.true_and];exact ih h.2
  have hat: ∀ n:Nat,Instr.sameBits (n+1) (.agg cs) (.agg cs)=true:=fun n=>by simp only [Instr.sameBits,beq_self_eq_true,Bool.true_and];exact hz n h
  have h2:Instr.sameBits 10000 (.agg cs) (.agg cs)=true:=hat 9999;simp [Instr.keyThatStays,h2]
theorem Cm {x k a:AV} {v:Value} {h':Hp} (hX:Ok X) (h:kW P X.h T x k a=some h') (hr:Rep X x v) (hk:Rep X k u) (ha:Rep X a y):
  ∃ Y,(Instr.mapUpdate T v u y).run P X.w= .ok () Y.w∧Step X Y∧Ok Y∧Y.h=h':=by
 unfold kW at h;cases hm:uP P T with
 | none=>rw [hm] at h;cases h
 | some KE=>
 obtain ⟨K,E⟩:=KE;have hu:=VY hm;rw [hm] at h;simp only [Option.bind_some] at h;cases hq:kkP P K with
 | none=>rw [hq] at h;cases h
 | some q=>
 rw [hq] at h;simp only [Option.bind_some] at h;split at h
 ·next kv hkv=>
  obtain rfl:=JI hkv hk;split at h
  ·next hkk=>
   split at h
   ·next id=>
    split at h
    ·next es hh=>
     split at h
     ·next hkb=>
      injection h with h;subst h;obtain ⟨b,ents,clock,h1,h2,h3⟩:=hX.map id es hh;cases hr with
      | mp hid kk=>
      obtain ⟨b',e1,e2⟩:=kk es hh;rw [h1] at e1;injection e1 with e1;subst e1;subst e2;have hck:=fun bb=>pX (P:=P) (b:=bb) hq hkk X.w
      have hset:=fun o=>VZ (P:=P) h2 o
      rcases zC hq hkk hkb h3 X.w with ⟨q1,q2,q3⟩ | ⟨j,a',e,p,q1,q2,q3,q4,q5,q6,q7,q8⟩
      ·refine ⟨X.jl id b (.map (ents.push {key:=u,val:=y,born:=clock}) (clock+1)) (kF u a es),?_,Step.jl _ hh h1 h2,Ok.jl hX hh h1 h2 ?_,rfl⟩
       ·simp [Instr.mapUpdate,run_underlying hu,vY h2,hck,q3,hset,Cx.jl]
       ·rw [FC u a es 0 q2];refine ⟨by simp [h3.1],fun i p e g1 g2=>?_⟩;by_cases hi:i<es.length
        ·rw [List.getElem?_append_left hi] at g1;rw [Array.getElem?_push_lt (by rw [h3.1];exact hi)] at g2;exact h3.2 i p e g1 (by rw [Array.getElem?_eq_getElem (by rw [h3.1];exact hi)];exact g2)
        ·have hil:=(List.getElem?_eq_some_iff.1 g1).1;simp at hil;have hie:i=es.length:=by omega
         subst hie;rw [←h3.1,Array.getElem?_push_size] at g2;simp at g1 g2;subst g1 g2;exact ⟨rfl,ha⟩
      ·obtain ⟨_,hps⟩:=FD u a es 0 j q2;have hj:=(Array.getElem?_eq_some_iff.1 q3).1;refine ⟨X.jl id b (.map (ents.modify j fun e=>{e with key:=u,val:=y}) clock) (kF u a es),?_,Step.jl _ hh h1 h2,Ok.jl hX hh h1 h2 ?_,rfl⟩
       ·have hks:=V8 (P:=P) hkk X.w;simp [Instr.mapUpdate,run_underlying hu,vY h2,hck,q8,hset,Cx.jl,q3,q5,hks]
       ·rw [hps,Nat.sub_zero];refine ⟨by simp [h3.1],fun i p e g1 g2=>?_⟩;rw [List.getElem?_set] at g1;rw [Array.getElem?_modify] at g2;by_cases hi:j=i
        ·subst hi;rw [if_pos rfl] at g1 g2;rw [q3] at g2;simp at g2;split at g1
         ·injection g1 with g1;subst g1 g2;exact ⟨rfl,ha⟩
         ·cases g1
        ·rw [if_neg hi] at g1 g2;exact h3.2 i p e g1 g2
     ·cases h
    ·cases h
   ·cases h
  ·cases h
 ·cases h
theorem V9 (T:TypeId) (hX:Ok X): ∃ v Y,(Instr.makeMap T none).run P X.w= .ok v Y.w∧Step X Y∧Ok Y∧Rep Y (.mp X.h.length) v∧Y.h=X.h++[some (.map [])]:=by
 refine ⟨.map (some X.w.heap.size),X.push (.map #[] 0) 0 (.map []),by simp [Instr.makeMap,Cx.push],Step.push hX _ _ _,Ok.VL hX (fun _ e=>by cases e) (fun _ _ _ _ e=>by cases e) (fun es e=>by injection e with e;subst e;exact ⟨#[],0,rfl,rfl,fun i p e h=>by simp at h⟩),?_,rfl⟩;exact .mp (by simp [Cx.push]) fun es hes=>⟨X.w.heap.size,by rw [jr],rfl⟩
def bW (P:Program) (T:TypeId):Bool:=match P.underlying T with
 | some (.interface _)=>false
 | some _=>true
 | none=>false
theorem abp (h:bW P T=true) (x:Value) (w:World):(Instr.makeInterface T x).run P w= .ok (.iface T x) w:=by
 unfold bW at h;cases hu:P.underlying T with
 | none=>rw [hu] at h;cases h
 | some d=>rw [hu] at h;cases d<;>simp at h<;>simp [Instr.makeInterface,run_underlying hu]
end
end Go.Proofs.YtljfgdlgmdcmfaaGreat.Wv
