/- Parts of a proof. -/
import Derived.Shelf.Small.Bits
import Derived.Shelf.Strconv.Itoa0
import Derived.Ground.SlgnProg
import Derived.Shelf.SlicesE.Index
import Derived.Shelf.SlicesE.Equal
import Derived.Shelf.SlicesE.Compact
import Derived.Shelf.SlicesE.Clone
import Derived.Ground.SlgfProg
import Derived.Shelf.SlicesE.IndexFunc
import Derived.Test.YtljfgdlgmdcmfaaGreatProg
import Derived.Test.YtljfgdlgmdcmfaaGreatQrh
import Derived.Test.YtljfgdlgmdcmfaaGreatQri
import Derived.Lib.OwnBridge
import Derived.Deep.RegionWith
import Derived.Laws.EntriesVeiled
import Derived.Test.YtljfgdlgmdcmfaaGreatQrg
import Derived.Test.YtljfgdlgmdcmfaaGreatQrf
import Derived.ProofKit
import Derived.SizedLaws
import Derived.Deep.Fields
import Derived.Recover
import Derived.Deep.RegionHeldLaw
set_option linter.unusedVariables false
set_option linter.unusedSimpArgs false
set_option maxHeartbeats 1600000
set_option maxRecDepth 100000
namespace Go.Proofs
open Go.Shelf
def Tryz.lays129_ren:Go.Shelf.Ren:=⟨fun | 129=>226 | n=>n,fun | 53=>162 | 3=>3 | 4=>4 | 46=>215 | 5=>5 | 9=>9 | n=>n,fun | n=>n⟩
theorem Tryz.lays129:Go.Proofs.Lays.n129 Tryz.prog Tryz.lays129_ren:={
 mixed:=by kernel_rfl
 f129:=Tryz.func226.trans (congrArg some (by kernel_rfl))
 t3:=Tryz.underlying3
 a3:=Tryz.isAgg3
 z3:=Tryz.sizeOf3
 v3:=Tryz.zeroValue3
 t4:=Tryz.underlying4
 a4:=Tryz.isAgg4
 z4:=Tryz.sizeOf4
 v4:=Tryz.zeroValue4
 t5:=Tryz.underlying5
 a5:=Tryz.isAgg5
 z5:=Tryz.sizeOf5
 v5:=Tryz.zeroValue5
 t9:=Tryz.underlying9
 a9:=Tryz.isAgg9
 z9:=Tryz.sizeOf9
 v9:=Tryz.zeroValue9
 t46:=Tryz.underlying215
 a46:=Tryz.isAgg215
 z46:=Tryz.sizeOf215
 v46:=Tryz.zeroValue215
 t53:=Tryz.underlying162
 a53:=Tryz.isAgg162
 z53:=Tryz.sizeOf162
 v53:=Tryz.zeroValue162}
theorem Tryz.bits_Len64 (x:Int) (w:World) (h0:0≤x) (h1:x≤18446744073709551615):
  Calls Tryz.prog 226 #[.int .u64 x] w fun e w'=>e= .returned (.int .i64 (Lib.bitLen x.toNat))∧w'=w:=Any.bits_Len64 Tryz.lays129 x w h0 h1
def Tryz.laysSlE43_f150_ren:Go.Shelf.Ren:=⟨fun | 43=>150 | n=>n,fun | 22=>23 | 23=>22 | 3=>3 | 4=>4 | 0=>0 | n=>n,fun | n=>n⟩
theorem Tryz.laysSlE43_f150:Go.Proofs.SlLaysE.n43 Tryz.prog Tryz.laysSlE43_f150_ren:={
 mixed:=by kernel_rfl
 f43:=⟨Tryz.f150.name,by decide,Tryz.func150.trans (congrArg some (by kernel_rfl))⟩
 t0:=Tryz.underlying0
 a0:=Tryz.isAgg0
 z0:=Tryz.sizeOf0
 v0:=Tryz.zeroValue0
 t3:=Tryz.underlying3
 a3:=Tryz.isAgg3
 z3:=Tryz.sizeOf3
 v3:=Tryz.zeroValue3
 t4:=Tryz.underlying4
 a4:=Tryz.isAgg4
 z4:=Tryz.sizeOf4
 v4:=Tryz.zeroValue4
 t22:=Tryz.underlying23
 a22:=Tryz.isAgg23
 z22:=Tryz.sizeOf23
 v22:=Tryz.zeroValue23
 a23:=Tryz.isAgg22
 z23:=Tryz.sizeOf22}
open Go.RowKit Go.Lib Go.Sort in
theorem Tryz.slices_Compact {α:Type} [Inhabited α] [DecidableEq α] (enc:α→Value) (hO:OneCell enc) (heq:EqlAt Tryz.prog 22 enc (fun x y=>decide (x=y))) (hne:NeqAt Tryz.prog 22 enc (fun x y=>decide (x=y))) (zr:α) (v23: ∀ w,(zeroValue 22).run Tryz.prog w= .ok (enc zr) w) (blk off cap:Nat) (d:Array α) (w:World) (hH:Holds enc w blk off d) (hsz:d.size≤9223372036854775807) (hcap:d.size≤cap):
  Calls Tryz.prog 150 #[.slice (some ⟨blk,off,none⟩) d.size cap] w fun e w'=>e= .returned (.slice (some ⟨blk,off,none⟩) (compactUpTo d d.size).length cap)∧ ∃ q,w'=putRow enc (Sort.ahead w q) blk off (compactUpTo d d.size++List.replicate (d.size - (compactUpTo d d.size).length) zr).toArray:=AnyE.slices_Compact Tryz.laysSlE43_f150 enc hO heq hne zr v23 blk off cap d w hH hsz hcap
def Tryz.laysSlE041_f148_ren:Go.Shelf.Ren:=⟨fun | 41=>148 | n=>n,fun | 22=>23 | 23=>22 | 4=>4 | n=>n,fun | n=>n⟩
theorem Tryz.laysSlE041_f148:Go.Proofs.SlLaysE0.n41 Tryz.prog Tryz.laysSlE041_f148_ren:={
 mixed:=by kernel_rfl
 f41:=⟨Tryz.f148.name,by decide,Tryz.func148.trans (congrArg some (by kernel_rfl))⟩
 t4:=Tryz.underlying4
 a4:=Tryz.isAgg4
 z4:=Tryz.sizeOf4
 v4:=Tryz.zeroValue4
 t22:=Tryz.underlying23
 a22:=Tryz.isAgg23
 z22:=Tryz.sizeOf23
 v22:=Tryz.zeroValue23}
open Go.RowKit Go.Lib in
theorem Tryz.slices_Clone (i0:TypeInfo) (z:Value) (size bytes:Nat) (hi:Tryz.prog.info? 22=some i0) (hz0:i0.zero=some z) (hz1:i0.size=size) (hz2:i0.bytes=bytes) (hzs:z.cells.size=size) (hsz:0<size) (z23: ∀ w,(Go.sizeOf 22).run Tryz.prog w= .ok size w) (b off n c:Nat) (news:List Value) (w:World) (hl:news.length=n*size) (hn:n≤maxLen) (hbig:n*bytes≤140737488355328) (hc: ∀ j u,news[j]? =some u→w.cell? ⟨b,off+j,none⟩=some u) (h1: ∀ u∈news,u.oneCell'=true):
  Calls Tryz.prog 148 #[.slice (some ⟨b,off,none⟩) n c] w fun e w'=> ∃ v',e= .returned v'∧w'.ownsRow w.heap.size 22 size v' n news∧v'≠ .slice none 0 0∧Below w.heap.size w w':=AnyE.slices_Clone Tryz.laysSlE041_f148 i0 z size bytes hi hz0 hz1 hz2 hzs hsz z23 b off n c news w hl hn hbig hc h1
end Go.Proofs
namespace Go.Proofs.YtljfgdlgmdcmfaaGreat
section
open Go.RowKit Go.Lib Go.Sort
theorem Qn (s:List Int) (hs:s.Pairwise (fun a b=>a≤b)) (h: ∀ j (hj:j<s.length),j=0∨s[j]≠s[j - 1]):s.Nodup:=by
 rw [List.Nodup,List.pairwise_iff_getElem];intro i j hi hj hij he;rcases h j hj with h0 | h0
 ·omega
 ·apply h0;have a1:s[i]≤s[j - 1]:=by
   by_cases e:i=j - 1
   ·subst e;exact Int.le_refl _
   ·exact (List.pairwise_iff_getElem.1 hs) i (j - 1) hi (by omega) (by omega)
  have a2:s[j - 1]≤s[j]:=(List.pairwise_iff_getElem.1 hs) (j - 1) j (by omega) hj (by omega);omega
theorem Qo (s:List Int) (hs:s.Nodup): ∀ j (hj:j<s.length),j=0∨s[j]≠s[j - 1]:=by
 intro j hj;by_cases h0:j=0
 ·exact .inl h0
 ·right;have h:=(List.pairwise_iff_getElem.1 hs) (j - 1) j (by omega) hj (by omega);exact fun e=>h e.symm
theorem FB (d:Array Int):(compactUpTo d d.size).length=d.size↔ ∀ j (hj:j<d.toList.length),j=0∨d.toList[j]≠d.toList[j - 1]:=by
 unfold compactUpTo;rw [List.length_map];have e:((List.range d.size).filter (keeps d)).length=d.size↔((List.range d.size).filter (keeps d)).length=(List.range d.size).length:=by rw [List.length_range]
 rw [e,List.length_filter_eq_length_iff];constructor
 ·intro h j hj;have hj':j<d.size:=by simpa using hj
  have hk:=h j (List.mem_range.2 hj');simp only [keeps,decide_eq_true_eq] at hk;rw [getElem!_pos d j hj',getElem!_pos d (j - 1) (by omega)] at hk;simpa using hk
 ·intro h j hj;have hj':j<d.size:=List.mem_range.1 hj;have hk:=h j (by simpa using hj');simp only [keeps,decide_eq_true_eq];rw [getElem!_pos d j hj',getElem!_pos d (j - 1) (by omega)];simpa using hk
def ints (l:List Nat):List Int:=l.map Int.ofNat
def sorted (l:List Nat):List Int:=(ints l).mergeSort fun x y=>decide (x≤y)
theorem mW (l:List Nat):(sorted l).length=l.length:=by unfold sorted ints;rw [List.length_mergeSort,List.length_map]
theorem CX (l:List Nat):(compactUpTo (sorted l).toArray (sorted l).toArray.size).length=l.length↔l.Nodup:=by
 have hlen:=mW l;have hp:(sorted l).Perm (ints l):=List.mergeSort_perm _ _;have hnd:(sorted l).Nodup↔l.Nodup:=by
  rw [hp.nodup_iff];unfold ints List.Nodup;rw [List.pairwise_map];constructor
  ·intro h;exact h.imp (fun hab e=>hab (congrArg Int.ofNat e))
  ·intro h;exact h.imp (fun hab e=>hab (Int.ofNat.inj e))
 have hs:(sorted l).Pairwise (fun a b=>a≤b):=by
  have:=List.pairwise_mergeSort (le:=fun x y:Int=>decide (x≤y)) (by intro a b c;simp;omega) (by intro a b;simp;omega) (ints l);exact this.imp (by intro a b h;simpa using h)
 have e1:(compactUpTo (sorted l).toArray (sorted l).toArray.size).length=l.length↔(compactUpTo (sorted l).toArray (sorted l).toArray.size).length=(sorted l).toArray.size:=by
  rw [List.size_toArray,hlen]
 rw [e1,FB, ←hnd];exact ⟨Qn _ hs,Qo _⟩
theorem afz (m n:Nat):((m:Int)==(n:Int))=decide (m=n):=by rw [Bool.eq_iff_iff,beq_iff_eq,decide_eq_true_eq];omega
theorem abh:(Tryz.prog.info? 22).map (fun i=>(i.zero,i.size,i.bytes))=some (some (.int .u32 0),1,4):=by kernel_rfl
theorem clone_any (b off cap:Nat) (l:List Nat) (w:World) (hl:rO w b off l) (hlen:l.length≤35184372088832):
  Calls Tryz.prog 148 #[.slice (some ⟨b,off,none⟩) l.length cap] w fun e w'=> ∃ g cap',e= .returned (.slice (some ⟨g,0,none⟩) l.length cap')∧w.heap.size≤g∧g<w'.heap.size∧l.length≤cap'∧cap'≤maxLen∧Holds (Value.int .u32) w' g 0 (ints l).toArray∧Below w.heap.size w w':=by
 obtain ⟨i0,hi,hz0,hz1,hz2⟩:=info_parts abh;refine (Tryz.slices_Clone i0 (.int .u32 0) 1 4 hi hz0 hz1 hz2 rfl (by decide) Tryz.sizeOf22 b off l.length cap ((ints l).map (Value.int .u32)) w (by simp [ints]) (by unfold maxLen;omega) (by omega) ?_ ?_).mono ?_
 ·intro j u hj;rw [List.getElem?_map] at hj;unfold ints at hj;rw [List.getElem?_map] at hj;by_cases h:j<l.length
  ·rw [List.getElem?_eq_getElem h] at hj;simp at hj;subst hj;exact hl.cell j h
  ·rw [List.getElem?_eq_none (by omega)] at hj;simp at hj
 ·intro u hu;obtain ⟨z,_,rfl⟩:=List.mem_map.1 hu;rfl
 ·rintro e w' ⟨v',rfl,hown,hne,hb⟩;obtain ⟨g,cap',rfl,h1,h2,h3,h4,h5,h6⟩:=holds_of_ownsRow hown hne;exact ⟨g,cap',rfl,h1,h2,h3,h4,h6,hb⟩
theorem I9 {B:Nat} {a w:World} (h:RowKit.Below B a w) (hB:B≤w.heap.size) (os:Array Obj):RowKit.Below B a (grow w os):=
 h.trans ⟨rfl,rfl,rfl,by simp [grow],fun k hk=>by show (w.heap++os)[k]? =_;rw [Array.getElem?_append_left (by omega)]⟩
theorem Qp (g cap:Nat) (l:List Nat) (w:World) (hH:Holds (Value.int .u32) w g 0 (ints l).toArray) (hg:g<w.heap.size) (hlen:l.length≤24):
  Calls Tryz.prog 149 #[.slice (some ⟨g,0,none⟩) l.length cap] w fun e w'=>e= .returned (.tuple #[])∧Holds (Value.int .u32) w' g 0 (sorted l).toArray∧RowKit.Below g w w':=by
 have hz:(ints l).length=l.length:=by unfold ints;rw [List.length_map]
 have h:=V9 g 0 cap (ints l) w hH hg (by omega);rw [hz] at h;refine h.mono ?_;rintro e w' ⟨he,n,os,rfl⟩;have hs:(sorted l).toArray.size=(ints l).toArray.size:=by rw [List.size_toArray,List.size_toArray,mW,hz]
 have hsz:(putRow (Value.int .u32) (Sort.ahead w n) g 0 (sorted l).toArray).heap.size=w.heap.size:=by simp [putRow,mapBlock,Sort.ahead]
 refine ⟨he,?_,?_⟩
 ·exact holds_grow _ _ _ _ _ _ (by rw [show ((ints l).mergeSort fun x y=>decide (x≤y))=sorted l from rfl,hsz];exact hg) (holds_putRow _ _ _ _ _ _ (holds_ahead _ _ n _ _ _ hH) hs)
 ·exact I9 (below_putRow (RowKit.Below.refl g w) (Nat.le_refl _)) (by rw [show ((ints l).mergeSort fun x y=>decide (x≤y))=sorted l from rfl,hsz];omega) os
theorem FC (g cap:Nat) (l:List Nat) (w:World) (hH:Holds (Value.int .u32) w g 0 (sorted l).toArray) (hlen:l.length≤24) (hcap:l.length≤cap):
  Calls Tryz.prog 150 #[.slice (some ⟨g,0,none⟩) l.length cap] w fun e w'=> ∃ m:Nat,e= .returned (.slice (some ⟨g,0,none⟩) m cap)∧Hid (decide (m=l.length)=decide l.Nodup)∧m≤24∧RowKit.Below g w w':=by
 have hs:(sorted l).toArray.size=l.length:=by rw [List.size_toArray,mW]
 have h:=Tryz.slices_Compact (Value.int .u32) (fun _=>rfl) (EqlAt.intD _ _ _) (NeqAt.intD _ _ _) 0 Tryz.zeroValue22 g 0 cap (sorted l).toArray w hH (by omega) (by omega);rw [hs] at h;refine h.mono ?_;rintro e w' ⟨he,q,rfl⟩;have hc:=CX l;rw [hs] at hc;have hle:(compactUpTo (sorted l).toArray l.length).length≤l.length:=by
  unfold compactUpTo;rw [List.length_map];exact Nat.le_trans (List.length_filter_le _ _) (by rw [List.length_range];exact Nat.le_refl _)
 exact ⟨_,he,by show _=_;rw [decide_eq_decide];exact hc,by omega,below_putRow (RowKit.Below.refl g w) (Nat.le_refl _)⟩
theorem abj (b off cap a:Nat) (l:List Nat) (w:World) (hl:rO w b off l) (hlen:l.length≤24)
  (ha:w.cell? ⟨a,3,none⟩=some (.slice (some ⟨b,off,none⟩) l.length cap)) (haw:a<w.heap.size):
  Calls Tryz.prog 147 #[.pointer (some ⟨a,0,none⟩)] w fun r w'=>r= .returned (.bool (decide l.Nodup))∧RowKit.Below w.heap.size w w':=by
 go_enter Tryz.func147,Tryz.ntmps147
 go_wp2_with fail
 refine (clone_any _ _ _ _ _ hl (by omega)).mono ?_;rintro e w1 ⟨g,cap',rfl,hg,hg1,hc1,hc2,hH,hb1⟩;have hH0:=Lib.hid hH;clear hH;have hc:Hid (l.length≤cap'):=hc1;go_wp2_with fail
 refine (Qp _ _ _ _ hH0.out hg1 hlen).mono ?_;rintro e w2 ⟨rfl,hH2,hb2⟩;have hH3:=Lib.hid hH2;clear hH2 hH0;have ha2: ∀ wx,RowKit.Below g w2 wx→wx.cell? ⟨a,3,none⟩=some (.slice (some ⟨b,off,none⟩) l.length cap):=fun wx h=>by
  rw [h.cell (p:=⟨a,3,none⟩) (show a<g by omega),hb2.cell (p:=⟨a,3,none⟩) (show a<g by omega),hb1.cell (p:=⟨a,3,none⟩) haw];exact ha
 have akT:=Lib.hid ha2;have aln:=ha2 w2 (RowKit.Below.refl _ _);clear ha2;go_wp2_with fail
 go_region_with (go_at_call 150;refine (FC _ _ _ _ (by exact hH3.out) hlen hc.out).mono ?_;rintro e w3 ⟨m,rfl,hm,alo,hb3⟩;have ha3:=akT.out w3 ((RowKit.Below.refl g w2).drew.trans hb3))
 all_goals go_wp2
 all_goals go_ret
 all_goals refine ⟨ay ?_,(hb1.trans (hb2.mono hg)).trans (((RowKit.Below.refl _ w2).drew.trans (by assumption)).mono hg)⟩
 all_goals rw [←hm.out]
 all_goals exact afz m l.length
end
section
open Go.RowKit
theorem Wh (b off cap a f c:Nat) (l:List Nat) (s:Nat) (x:Par) (cv:Value) (w:World) (hl:rO w b off l) (hlen:l.length≤140737488351232) (hB:tH w a x cv) (ha:a<w.heap.size) (hs0:0<s) (hs1:s≤137438953408)
  (hf:w.cell? ⟨f,0,none⟩=some (.func (.func 138) #[] #[.pointer (some ⟨c,0,none⟩)])) (hfw:f<w.heap.size) (hc:w.cell? ⟨c,0,none⟩=some (.int .i64 s)) (hcw:c<w.heap.size):
  Calls Tryz.prog 145 #[.slice (some ⟨b,off,none⟩) l.length cap, .func (.func 146) #[] #[.pointer (some ⟨a,0,none⟩), .pointer (some ⟨f,0,none⟩)]] w fun r w'=>
   r= .returned (.bool (l.any (jf ak s x.sp)))∧Below w.heap.size w w':=by
 have hB':=Lib.hid hB;have hf':=Lib.hid hf;have hc':=Lib.hid hc;clear hB hf hc;go_enter Tryz.func145,Tryz.ntmps145
 go_wp2_with (go_at_call 206;refine (V8 _ _ _ _ _ _ _ _ _ _ _ hl hlen hB'.out ha hs0 hs1 hf'.out hfw hc'.out hcw).mono ?_;rintro e w1 ⟨rfl,hb1⟩)
 go_ret
 exact ⟨ay (Fz _ _),hb1⟩
theorem abk (b off cap a f c:Nat) (l:List Nat) (s:Nat) (x:Par) (w:World) (hl:rO w b off l) (hlen:l.length≤140737488351232) (hB:tH w a x (.slice (some ⟨b,off,none⟩) l.length cap)) (ha:a<w.heap.size) (hs0:0<s) (hs1:s≤137438953408)
  (hf:w.cell? ⟨f,0,none⟩=some (.func (.func 138) #[] #[.pointer (some ⟨c,0,none⟩)])) (hfw:f<w.heap.size) (hc:w.cell? ⟨c,0,none⟩=some (.int .i64 s)) (hcw:c<w.heap.size):
  Calls Tryz.prog 144 #[.pointer (some ⟨a,0,none⟩), .pointer (some ⟨f,0,none⟩)] w fun r w'=>
   r= .returned (.bool (!(l.any (jf ak s x.sp))))∧Below w.heap.size w w':=by
 have hB':=Lib.hid hB;have hf':=Lib.hid hf;have hc':=Lib.hid hc;have l3:=hB.ch;clear hB hf hc;generalize hany:l.any (jf ak s x.sp)=r0;have aiU:=Lib.hid hany;clear hany;go_enter Tryz.func144,Tryz.ntmps144
 go_wp2_with (go_at_call 145;refine (Wh _ _ _ _ _ _ _ _ _ _ _ hl hlen hB'.out ha hs0 hs1 hf'.out hfw hc'.out hcw).mono ?_;rintro e w1 ⟨rfl,hb1⟩;rw [aiU.out])
 go_ret
 exact ⟨rfl,hb1⟩
def SliceAt (w:World) (v:Value) (l:List Nat):Prop:=
 ∃ (p:Option Addr) (cap:Nat),v= .slice p l.length cap∧l.length≤cap∧l.length≤140737488351232∧(l≠[]→ ∃ b off,p=some ⟨b,off,none⟩∧rO w b off l)
structure nM (x:Par):Prop where
 n0: -9223372036854775808≤x.n
 n1:x.n≤9223372036854775807
 p1:x.p<4294967296
 r0: -9223372036854775808≤x.r
 r1:x.r≤9223372036854775807
 sp1:x.sp<4294967296
def Par.val (x:Par) (cv:Value):Value:= .agg #[.int .i64 x.n, .int .u32 x.p, .int .i64 x.r,cv, .int .u32 x.sp, .int .i64 x.wt, .int .u32 x.er]
def conds (pr:Nat→Bool) (x:Par):List Bool:=
 [decide (0<x.t pr),mQ x.ch.length,wtB x,dD pr (stepOf pr x) x.sp,!(x.ch.any (jf pr (stepOf pr x) x.sp)),decide x.ch.Nodup]
theorem lg (pr:Nat→Bool) (x:Par):okB pr x=(iC x.n && (conds pr x).all id):=by
 unfold okB conds;simp
variable {pr:Nat→Bool}{x:Par}
theorem jR {k:Nat} {b:Bool} (h: ∀ c,c∈(conds pr x).take k→c=true) (hk:(conds pr x)[k]? =some b) (hb:b=true): ∀ c,c∈(conds pr x).take (k+1)→c=true:=by
 intro c hc;rw [List.take_add_one] at hc;rcases List.mem_append.1 hc with h1 | h1
 ·exact h c h1
 ·rw [hk] at h1;simp at h1;rw [h1];exact hb
theorem nN {k:Nat} (hk:(conds pr x)[k]? =some false):chk pr x=2:=by
 have:okB pr x=false:=by
  rw [lg];have:(conds pr x).all id=false:=by
   rw [List.all_eq_false];exact ⟨false,List.mem_of_getElem? hk,by simp⟩
  rw [this,Bool.and_false]
 unfold chk;rw [this];rfl
theorem Qq (hd:iC x.n=true) (h: ∀ c,c∈(conds pr x).take 6→c=true):chk pr x=0:=by
 have:okB pr x=true:=by
  rw [lg,hd,Bool.true_and,List.all_eq_true];intro c hc;exact h c hc
 unfold chk;rw [this];rfl
structure abl (wr:World) (A T:Nat) (x:Par) (cv:Value) (t s:Nat):Prop where
 size:T+4≤wr.heap.size
 box:tH wr A x cv
 ct:wr.cell? ⟨T,0,none⟩=some (.int .i64 t)
 cs:wr.cell? ⟨T+1,0,none⟩=some (.int .i64 s)
 cf:wr.cell? ⟨T+1+1,0,none⟩=some (.func (.func 138) #[] #[.pointer (some ⟨T+1,0,none⟩)])
 c0:wr.cell? ⟨T+1+1+1,0,none⟩=some (.func (.func 140) #[] #[.pointer (some ⟨T,0,none⟩)])
 c1:wr.cell? ⟨T+1+1+1,1,none⟩=some (.func (.func 141) #[] #[.pointer (some ⟨A,0,none⟩)])
 c2:wr.cell? ⟨T+1+1+1,2,none⟩=some (.func (.func 142) #[] #[.pointer (some ⟨A,0,none⟩)])
 c3:wr.cell? ⟨T+1+1+1,3,none⟩=some (.func (.func 143) #[] #[.pointer (some ⟨T+1+1,0,none⟩), .pointer (some ⟨A,0,none⟩)])
 c4:wr.cell? ⟨T+1+1+1,4,none⟩=some (.func (.func 144) #[] #[.pointer (some ⟨A,0,none⟩), .pointer (some ⟨T+1+1,0,none⟩)])
 c5:wr.cell? ⟨T+1+1+1,5,none⟩=some (.func (.func 147) #[] #[.pointer (some ⟨A,0,none⟩)])
theorem abl.below {w w':World} {A T:Nat}  {cv:Value} {t s:Nat} (h:abl w A T x cv t s) (hA:A<T) (hb:Below w.heap.size w w'):abl w' A T x cv t s:=by
 have hs:=h.size;refine ⟨Nat.le_trans h.size hb.size,h.box.below hb (by omega),?_,?_,?_,?_,?_,?_,?_,?_,?_⟩
 ·rw [hb.cell (p:=⟨_,_,none⟩) (by show T<_;omega)];exact h.ct
 ·rw [hb.cell (p:=⟨_,_,none⟩) (by show T+1<_;omega)];exact h.cs
 ·rw [hb.cell (p:=⟨_,_,none⟩) (by show T+1+1<_;omega)];exact h.cf
 all_goals rw [hb.cell (p:=⟨_,_,none⟩) (by show T+1+1+1<_;omega)]
 ·exact h.c0
 ·exact h.c1
 ·exact h.c2
 ·exact h.c3
 ·exact h.c4
 ·exact h.c5
theorem oI (x:Par) (cv:Value) (w:World) (hx:nM x) (hcv:SliceAt w cv x.ch):
  Calls Tryz.prog 100 #[x.val cv] w fun r w'=>r= .returned (.int .i64 (chk ak x))∧Below w.heap.size w w':=by
 obtain ⟨p,cap,rfl,hcap,hcap2,hrow⟩:=hcv;unfold Par.val;have hn0:=hx.n0;have hn1:=hx.n1;cases hd:iC x.n with
 | false=>
  have hR:Hid (chk ak x=2):=by show _=_;unfold chk okB;rw [hd];rfl
  go_enter Tryz.func100,Tryz.ntmps100
  go_wp2_with fail
  refine (I5 _ _ hn0 hn1).mono ?_;rintro e w1 ⟨rfl,rfl⟩;rw [hd];go_wp2_with fail
  go_ret
  exact ⟨aX (by rw [hR.out]),(Below.refl _ _).alloc (Nat.le_refl _) _⟩
 | true=>
  have hn4:4≤x.n∧x.n≤32:=by have:=lW hd;omega
  obtain ⟨hn4,hn32⟩:=hn4;go_enter Tryz.func100,Tryz.ntmps100
  go_wp2_with fail
  refine (I5 _ _ hn0 hn1).mono ?_;rintro e w1 ⟨rfl,rfl⟩;rw [hd];go_wp2_with fail
  refine (AX _ _ _ _ hn4 hn32 hx.p1 hx.r0 hx.r1).mono ?_;rintro e w1 ⟨rfl,hb1⟩;have htl:=Fp ak x.n x.p x.r;have hT:Hid (x.t ak=gJ ak x.n x.p x.r):=rfl;generalize gJ ak x.n x.p x.r=t at htl hT ⊢;have hm0:(0:Int)≤2*x.n*(t:Int):=Int.mul_nonneg (by omega) (by omega);have hm1:2*x.n*(t:Int)≤64*2147483647:=Int.mul_le_mul (by omega) (by omega) (by omega) (by omega);have hB:tH w1 w.heap.size x (.slice p x.ch.length cap):=by
   refine tH.below (w:=w.alloc (.cells #[.int .i64 x.n, .int .u32 x.p, .int .i64 x.r, .slice p x.ch.length cap, .int .u32 x.sp, .int .i64 x.wt, .int .u32 x.er] 25)) ?_ hb1 (by simp);constructor<;>simp [go_sem]
  have hB':=Lib.hid hB;clear hB;have hsz:w.heap.size+1≤w1.heap.size:=by have:=hb1.size;simpa using this
  have hlt:w.heap.size<w1.heap.size:=by omega
  have hbw:Below w.heap.size w w1:=((Below.refl _ _).alloc (Nat.le_refl _) _).trans (hb1.mono (by simp));clear hb1;have l0:=hB'.out.n;go_wp2_with fail
  have hst:Hid (stepOf ak x=(2*x.n).toNat*t):=by show _=_;unfold stepOf;rw [hT.out]
  obtain ⟨s,hs⟩: ∃ s:Nat,s=(2*x.n).toNat*t:=⟨_,rfl⟩
  have hsi:(s:Int)=2*x.n*(t:Int):=by rw [hs,Int.natCast_mul,Int.toNat_of_nonneg (by omega)]
  have hs2:Hid (stepOf ak x=s):=by show _=_;rw [hst.out,hs]
  have afA:0<t→0<s:=fun h=>by rw [hs];exact Nat.mul_pos (by omega) h
  have hs1:s≤137438953408:=by omega
  clear hst hs;go_loopw [8,35] (fun _ vk wr=> ∃ k:Nat,vk= .int .i64 k∧k≤6∧Hid (∀ c,c∈(conds ak x).take k→c=true)∧abl wr w.heap.size w1.heap.size x (.slice p x.ch.length cap) t s∧Below w.heap.size w wr) (fun _ vk _=>6 - (intOf vk).toNat)
  case atStart=>
   refine ⟨0,rfl,by omega,by intro c hc;simp at hc,?_,?_⟩
   ·have hbx:Below w1.heap.size w1 ((((w1.alloc (.cells #[.int .i64 t] 2)).alloc (.cells #[.int .i64 (2*x.n*t)] 2)).alloc (.cells #[.func (.func 138) #[] #[.pointer (some ⟨w1.heap.size+1,0,none⟩)]] 161)).alloc (.cells #[.func (.func 140) #[] #[.pointer (some ⟨w1.heap.size,0,none⟩)], .func (.func 141) #[] #[.pointer (some ⟨w.heap.size,0,none⟩)], .func (.func 142) #[] #[.pointer (some ⟨w.heap.size,0,none⟩)], .func (.func 143) #[] #[.pointer (some ⟨w1.heap.size+1+1,0,none⟩), .pointer (some ⟨w.heap.size,0,none⟩)], .func (.func 144) #[] #[.pointer (some ⟨w.heap.size,0,none⟩), .pointer (some ⟨w1.heap.size+1+1,0,none⟩)], .func (.func 147) #[] #[.pointer (some ⟨w.heap.size,0,none⟩)]] 30)):=by
     go_grown
    refine ⟨by simp,hB'.out.below hbx hlt,?_,?_,?_,?_,?_,?_,?_,?_,?_⟩;all_goals simp [go_sem]
    exact hsi.symm
   ·go_grown
  case round=>
   obtain ⟨k,rfl,hk,hall,hW,hbel⟩:=hrel;have hsz2:=hbel.size;have hA:w.heap.size<wr.heap.size:=by have:=hW.size;omega
   have hT1:w1.heap.size<wr.heap.size:=by have:=hW.size;omega
   have hT2:w1.heap.size+1<wr.heap.size:=by have:=hW.size;omega
   have hT3:w1.heap.size+1+1<wr.heap.size:=by have:=hW.size;omega
   have HW:=Lib.hid hW;rcases (show k=0∨k=1∨k=2∨k=3∨k=4∨k=5∨k=6 by omega) with rfl | rfl | rfl | rfl | rfl | rfl | rfl
   ·have hck:=hW.c0;have hval:(conds ak x)[0]? =some (decide (0<t)):=by show some (decide (0<x.t ak))=_;rw [hT.out]
    have HC:=Lib.hid (abb t _ _ hW.ct);generalize hv:(decide (0<t))=v at hval HC;clear hW hv;cases v with
    | true=>
     have hall':=Lib.hid (jR hall.out hval rfl);clear hall;go_wp2_with (go_at_call 140;refine (HC.out).mono ?_;rintro e w2 ⟨rfl,rfl⟩)
     go_roundw
     case rel=>exact ⟨1,rfl,by omega,hall'.out,HW.out,hbel⟩
     case measure=>simp [intOf]
    | false=>
     have hR:Hid (chk ak x=2):=nN hval;go_wp2_with (go_at_call 140;refine (HC.out).mono ?_;rintro e w2 ⟨rfl,rfl⟩)
     go_ret
     exact ⟨aX (by rw [hR.out]),hbel⟩
   ·have hck:=hW.c1;have hval:(conds ak x)[1]? =some (mQ x.ch.length):=rfl;have HC:=Lib.hid (abd _ _ _ _ _ hW.box.ch);generalize hv:(mQ x.ch.length)=v at hval HC;clear hW hv;cases v with
    | true=>
     have hall':=Lib.hid (jR hall.out hval rfl);clear hall;go_wp2_with (go_at_call 141;refine (HC.out).mono ?_;rintro e w2 ⟨rfl,rfl⟩)
     go_roundw
     case rel=>exact ⟨2,rfl,by omega,hall'.out,HW.out,hbel⟩
     case measure=>simp [intOf]
    | false=>
     have hR:Hid (chk ak x=2):=nN hval;go_wp2_with (go_at_call 141;refine (HC.out).mono ?_;rintro e w2 ⟨rfl,rfl⟩)
     go_ret
     exact ⟨aX (by rw [hR.out]),hbel⟩
   ·have hck:=hW.c2;have hval:(conds ak x)[2]? =some (wtB x):=rfl;have HC:=Lib.hid (abe _ _ _ _ hW.box);generalize hv:(wtB x)=v at hval HC;clear hW hv;cases v with
    | true=>
     have hall':=Lib.hid (jR hall.out hval rfl);clear hall;go_wp2_with (go_at_call 142;refine (HC.out).mono ?_;rintro e w2 ⟨rfl,rfl⟩)
     go_roundw
     case rel=>exact ⟨3,rfl,by omega,hall'.out,HW.out,hbel⟩
     case measure=>simp [intOf]
    | false=>
     have hR:Hid (chk ak x=2):=nN hval;go_wp2_with (go_at_call 142;refine (HC.out).mono ?_;rintro e w2 ⟨rfl,rfl⟩)
     go_ret
     exact ⟨aX (by rw [hR.out]),hbel⟩
   ·have hck:=hW.c3;have hs0:0<s:=afA (by have:=hall.out (decide (0<x.t ak)) (by simp [conds]);rw [hT.out] at this;exact of_decide_eq_true this);have hval:(conds ak x)[3]? =some (dD ak s x.sp):=by show some (dD ak (stepOf ak x) x.sp)=_;rw [hs2.out]
    have HC:=Lib.hid (abf _ _ _ s _ _ _ hW.box hx.sp1 hs0 hs1 hW.cf hW.cs);generalize hv:(dD ak s x.sp)=v at hval HC;clear hW hv;cases v with
    | true=>
     have hall':=Lib.hid (jR hall.out hval rfl);clear hall;go_wp2_with (go_at_call 143;refine (HC.out).mono ?_;rintro e w2 ⟨rfl,hb2⟩)
     go_roundw
     case rel=>exact ⟨4,rfl,by omega,hall'.out,HW.out.below hlt hb2,hbel.trans (hb2.mono hsz2)⟩
     case measure=>simp [intOf]
    | false=>
     have hR:Hid (chk ak x=2):=nN hval;go_wp2_with (go_at_call 143;refine (HC.out).mono ?_;rintro e w2 ⟨rfl,hb2⟩)
     go_ret
     exact ⟨aX (by rw [hR.out]),hbel.trans (hb2.mono hsz2)⟩
   ·have hck:=hW.c4;have hs0:0<s:=afA (by have:=hall.out (decide (0<x.t ak)) (by simp [conds]);rw [hT.out] at this;exact of_decide_eq_true this);have hlb:1≤x.ch.length∧x.ch.length≤24:=by have:=hall.out (mQ x.ch.length) (by simp [conds]);exact of_decide_eq_true this
    have aiV:=hlb.2;have hlen:x.ch.length≤140737488351232:=by omega
    obtain ⟨b,off,rfl,hr0⟩:=hrow (by intro h;rw [h] at hlb;simp at hlb);have hr:=hr0.below hbel hr0.blk;have hval:(conds ak x)[4]? =some (!(x.ch.any (jf ak s x.sp))):=by show some (!(x.ch.any (jf ak (stepOf ak x) x.sp)))=_;rw [hs2.out]
    have HC:=Lib.hid (abk _ _ _ _ _ _ x.ch s _ _ hr hlen hW.box hA hs0 hs1 hW.cf hT3 hW.cs hT2);generalize hv:(!(x.ch.any (jf ak s x.sp)))=v at hval HC;clear hW hv;clear hr hr0 hlb hrow;cases v with
    | true=>
     have hall':=Lib.hid (jR hall.out hval rfl);clear hall;go_wp2_with (go_at_call 144;refine (HC.out).mono ?_;rintro e w2 ⟨rfl,hb2⟩)
     go_roundw
     case rel=>exact ⟨5,rfl,by omega,hall'.out,HW.out.below hlt hb2,hbel.trans (hb2.mono hsz2)⟩
     case measure=>simp [intOf]
    | false=>
     have hR:Hid (chk ak x=2):=nN hval;go_wp2_with (go_at_call 144;refine (HC.out).mono ?_;rintro e w2 ⟨rfl,hb2⟩)
     go_ret
     exact ⟨aX (by rw [hR.out]),hbel.trans (hb2.mono hsz2)⟩
   ·have hck:=hW.c5;have hs0:0<s:=afA (by have:=hall.out (decide (0<x.t ak)) (by simp [conds]);rw [hT.out] at this;exact of_decide_eq_true this);have hlb:1≤x.ch.length∧x.ch.length≤24:=by have:=hall.out (mQ x.ch.length) (by simp [conds]);exact of_decide_eq_true this
    have aiV:=hlb.2;have hlen:x.ch.length≤140737488351232:=by omega
    obtain ⟨b,off,rfl,hr0⟩:=hrow (by intro h;rw [h] at hlb;simp at hlb);have hr:=hr0.below hbel hr0.blk;have hval:(conds ak x)[5]? =some (decide x.ch.Nodup):=rfl;have HC:=Lib.hid (abj _ _ _ _ x.ch _ hr aiV hW.box.ch hA);generalize hv:(decide x.ch.Nodup)=v at hval HC;clear hW hv;clear hr hr0 hlb hrow;cases v with
    | true=>
     have hall':=Lib.hid (jR hall.out hval rfl);clear hall;go_wp2_with (go_at_call 147;refine (HC.out).mono ?_;rintro e w2 ⟨rfl,hb2⟩)
     go_roundw
     case rel=>exact ⟨6,rfl,by omega,hall'.out,HW.out.below hlt hb2,hbel.trans (hb2.mono hsz2)⟩
     case measure=>simp [intOf]
    | false=>
     have hR:Hid (chk ak x=2):=nN hval;go_wp2_with (go_at_call 147;refine (HC.out).mono ?_;rintro e w2 ⟨rfl,hb2⟩)
     go_ret
     exact ⟨aX (by rw [hR.out]),hbel.trans (hb2.mono hsz2)⟩
   ·have hR:Hid (chk ak x=0):=Qq hd hall.out;clear hall;go_wp2_with fail
    go_ret
    exact ⟨aX (by rw [hR.out]),hbel⟩
end
section
open Go.RowKit Wv
theorem TC.akU {P:Program} {f:FuncId} {xs:List Value} {r:Value} (hb:kS P f=true) (T: ∀ w,Calls P f xs.toArray w fun e w'=>e= .returned r∧Below w.heap.size w w'):TC P f (xs.map .v) (.v r):=by
 refine ⟨hb,fun X vs hX hbad hr=>?_⟩;have e:vs=xs:=by
  apply List.ext_getElem?;intro i;by_cases hi:i<xs.length
  ·have hi':i<vs.length:=by have:=hr.1;simp at this;omega
   have h:=hr.2 i (.v xs[i]) vs[i] (by simp [hi]) (by simp [hi']);generalize hq:vs[i]=q at h;cases h;rw [List.getElem?_eq_getElem hi',List.getElem?_eq_getElem hi,hq]
  ·have hi': ¬ i<vs.length:=by have:=hr.1;simp at this;omega
   rw [List.getElem?_eq_none (by omega),List.getElem?_eq_none (by omega)]
 subst e;refine (T X.w).mono ?_;rintro e w' ⟨h1,h2⟩;exact ⟨r,h1,h2,fun m=> .v r⟩
theorem Wi (x:Int) (h0:0≤x) (h1:x≤18446744073709551615):TC Tryz.prog 226 [.v (.int .u64 x)] (.v (.int .i64 (Lib.bitLen x.toNat))):=
 TC.akU (xs:=[.int .u64 x]) (by kernel_rfl) fun w=>(Tryz.bits_Len64 x w h0 h1).mono fun e w' h=>⟨h.1,h.2▸Below.refl _ _⟩
def jS (n:Int):Nat:=if n≤1 then 0 else Lib.bitLen (n - 1).toNat
theorem qM (n:Int) (h1:n≤9223372036854775807):TC Tryz.prog 215 [.v (.int .i64 n)] (.v (.int .i64 (jS n))):=by
 refine Wv.TC.by 9 [0,4,2] [] [.tmp 2] Tryz.func215 rfl rfl rfl ?clo ?_
 case clo=>simp only [Wv.BC]
 have hN:jS n=if n≤1 then 0 else Lib.bitLen (n - 1).toNat:=rfl
 by_cases h:n≤1
 ·rw [if_pos h] at hN;simp (disch:=first|exact Wv.D|fail) only [Wv.B,simprocAttr,ah h,hN]
 ·rw [if_neg h] at hN;simp (disch:=first|exact Wv.D|fail) only [Wv.B,simprocAttr,aj h];refine aA (Wi (n - 1) (by omega) (by omega)) rfl Wv.c Wv.c ?_;simp (disch:=first|exact Wv.D|fail) only [Wv.B,simprocAttr,hN]
def kJ (e:Int):AV:= .ifc 98 (.g [.v (.int .i64 e)])
theorem gU (e:Int):Clo (kJ e):=by unfold kJ;simp only [Wv.BC]
theorem bg {h:Hp} (b:Bool) (e:Int):HTP Tryz.prog 66 [.v (.bool b), .v (.int .i64 e)] h (fun r h'=>b=true∧r= .tup []∧h'=h) (fun r h'=>b=false∧r=kJ e∧h'=h):=by
 refine Wv.HTP.by 9 [0,5,1] [(1000000,h.length)] [] Tryz.func66 rfl rfl rfl ?base ?_
 case base=>rfl
 unfold kJ;cases b with
 | true=>simp (disch:=first|exact Wv.D|fail) only [Wv.B,simprocAttr]
 | false=>simp (disch:=first|exact Wv.D|fail) only [Wv.B,simprocAttr]
end
section
open Go.RowKit Wv
theorem Rn.refl {n:Nat} {a:AV} (h:lo n a) (ht: ∀ l,a≠ .tup l) (hi: ∀ T x,a≠ .ifc T x) (hm: ∀ es,a≠ .tm es) (hg: ∀ l,a= .g l→ ∀ x,x∈l→Rn id n x x) (hf: ∀ f l k,a= .fn f l k→(∀ x,x∈l→Rn id n x x)∧ ∀ x,x∈k→Rn id n x x):Rn id n a a:=by
 have same: ∀ (l:List AV),(∀ x,x∈l→Rn id n x x)→ ∀ (i:Nat) (a b:AV),l[i]? =some a→l[i]? =some b→Rn id n a b:=fun l h i a b h1 h2=>by
  rw [h1] at h2;injection h2 with h2;subst h2;exact h a (List.mem_of_getElem? h1)
 cases h with
 | clo h=>exact .clo h
 | own h=>exact .own h
 | ptr h=>exact .ptr h
 | ap h=>exact .ap h
 | mp h=>exact .mp h
 | g h=>exact .g rfl (same _ (hg _ rfl))
 | tup h=>exact absurd rfl (ht _)
 | fn h1 h2=>exact .fn rfl rfl (same _ (hf _ _ _ rfl).1) (same _ (hf _ _ _ rfl).2)
 | ifc h=>exact absurd rfl (hi _ _)
 | tm h=>exact absurd rfl (hm _)
theorem RD.ext {P:Program} {f:FuncId} {args:List AV} {h0:Hp} {R p:AV→Prop} (T:RD P f args h0 R p) (r:Hp) (ha:RnL id h0.length args args) (hh: ∀ (i:Nat) (o:Option Ob),h0[i]? =some o→ ∃ o',o=some o'∧RnO id h0.length o' o') (hR: ∀ r,R r→Clo r) (hp: ∀ r,p r→Clo r):RD P f args (h0++r) R p:=
 RD.frame (σ:=id) T ⟨fun i j _ _ e=>e,fun i o ho=>by
  obtain ⟨o',e,q⟩:=hh i o ho;subst e;exact ⟨o',o',rfl,by rw [id,List.getElem?_append_left (List.getElem?_eq_some_iff.1 ho).1];exact ho,q⟩⟩ ha hR hp
def dA (x:Par):List AV:=[.v (.int .i64 x.n), .v (.int .u32 x.p), .v (.int .i64 x.r), .t x.ch.length 1 (x.ch.map fun (c:Nat)=> .v (.int .u32 c)), .v (.int .u32 x.sp), .v (.int .i64 x.wt), .v (.int .u32 x.er)]
theorem dY (x:Par): ∀ a,a∈dA x→Clo a:=by
 unfold dA;simp only [Wv.BC]
def tyC (x:Par) (t:Int):List AV:=[.v (.int .i64 x.n), .v (.int .u32 x.p), .v (.int .i64 x.r), .t x.ch.length 1 (x.ch.map fun (c:Nat)=> .v (.int .u32 c)), .v (.int .u32 x.sp), .v (.int .i64 x.wt), .v (.int .u32 x.er), .v (.int .i64 t), .mp 1]
abbrev Nms:=List (ByteArray × Bool × Nat)
def shA (r:Bool × Nat):AV:= .g [.v (.bool r.1), .v (.int .i64 r.2)]
theorem yU (r:Bool × Nat):Clo (shA r):=by unfold shA;simp only [Wv.BC]
def nsE (ns:Nms):List (Value × AV):=ns.map fun p=>(.string p.1,shA p.2)
def hT (x:Par) (t:Int) (ns:Nms):Hp:=[some (.blk (tyC x t)),some (.map (nsE ns))]
theorem afB (x:Par) (t:Int):RnL id 2 (tyC x t) (tyC x t):=by
 have h:=dY x;unfold dA at h;simp only [List.mem_cons,List.not_mem_nil,or_false,forall_eq_or_imp,forall_eq] at h;obtain ⟨h1,h2,h3,h4,h5,h6,h7⟩:=h;exact ⟨.clo h1, .clo h2, .clo h3, .clo h4, .clo h5, .clo h6, .clo h7, .clo (.v _), .mp (by omega),trivial⟩
theorem qN (ns:Nms): ∀ a,a∈(nsE ns).map (·.2)→Clo a:=by
 intro a ha;unfold nsE at ha;rw [List.map_map] at ha;obtain ⟨p,_,rfl⟩:=List.mem_map.1 ha;exact yU _
theorem aiW (x:Par) (t:Int) (ns:Nms): ∀ (i:Nat) (o:Option Ob),(hT x t ns)[i]? =some o→ ∃ o',o=some o'∧RnO id (hT x t ns).length o' o':=by
 intro i o ho;unfold hT at ho ⊢;match i with
 | 0=>simp at ho;subst ho;exact ⟨_,rfl,afB x t⟩
 | 1=>simp at ho;subst ho;exact ⟨_,rfl,rfl,RnL.clo (qN ns)⟩
 | i+2=>simp at ho
theorem afC (x:Par) (t:Int):loL 2 (tyC x t):=by
 have h:=dY x;unfold dA at h;unfold loL tyC;simp only [List.mem_cons,List.not_mem_nil,or_false,forall_eq_or_imp,forall_eq] at h ⊢;obtain ⟨h1,h2,h3,h4,h5,h6,h7⟩:=h;exact ⟨.clo h1, .clo h2, .clo h3, .clo h4, .clo h5, .clo h6, .clo h7, .clo (.v _), .mp (by omega)⟩
theorem Ja (x:Par) (t:Int) (ns:Nms):loH (hT x t ns).length (hT x t ns):=⟨afC x t,fun a ha=> .clo (qN ns a ha),trivial⟩
def vw (t n:Int):Bool:=decide ((if 0 - n>n then 0 - n else n)≤(t - 1) / 2)
theorem NQ (x:Par) (t:Int) (ns:Nms) (n:Int) (hn:inB n=true) (ht:1≤t) (ht':t≤4611686018427387904):RD Tryz.prog 212 [.ptr 0 0, .v (.int .i64 n)] (hT x t ns) (fun r=>r= .v (.bool (vw t n))) (fun _=>False):=by
 have hn': -4294967295≤n∧n≤4294967295:=by
  unfold inB at hn;rw [Bool.and_eq_true] at hn;exact ⟨of_decide_eq_true hn.1,of_decide_eq_true hn.2⟩
 refine RD.of ?_ (fun r q=>q▸ .clo Wv.c) (fun r q=>q.elim) (Ja x t ns);unfold hT tyC;refine Wv.HTP.by 16 [1,0,4] [(1000000,2)] [.tmp 4] Tryz.func212 rfl rfl rfl ?base ?_
 case base=>rfl
 have hq:(t - 1).tdiv 2=(t - 1) / 2:=Int.tdiv_eq_ediv_of_nonneg (by omega);simp (disch:=first|exact Wv.D|fail) only [Wv.B,simprocAttr,vw,hq]
def iJ (x:Par) (t:Int) (ns:Nms) (fid:FuncId) (e:Ex) (unk:Nat) (o:Except Int Nat):Prop:=
 RD Tryz.prog fid [.ptr 0 0, .g (exC e), .v (.int .i64 unk)] (hT x t ns) (fun r=> ∃ d:Nat,o= .ok d∧r= .v (.int .i64 d)) (fun r=> ∃ e,o= .error e∧r=kJ e)
theorem iJ.of {x:Par} {t:Int} {ns:Nms} {fid:FuncId} {e:Ex} {unk:Nat} {o:Except Int Nat}
  (T:HTP Tryz.prog fid [.ptr 0 0, .g (exC e), .v (.int .i64 unk)] (hT x t ns) (fun r h'=>(∃ d:Nat,o= .ok d∧r= .v (.int .i64 d))∧h'.take 2=hT x t ns) (fun r h'=>(∃ e,o= .error e∧r=kJ e)∧h'.take 2=hT x t ns)):iJ x t ns fid e unk o:=
 RD.of T (by rintro r ⟨d,_,rfl⟩;exact .clo (.v _)) (by rintro r ⟨e,_,rfl⟩;exact .clo (gU e)) (Ja x t ns)
theorem RD.hT {x:Par} {t:Int} {ns:Nms} {f:FuncId} {args:List AV} {R p:AV→Prop} (T:RD Tryz.prog f (.ptr 0 0::args) (hT x t ns) R p) (r:Hp) (ha: ∀ (a:AV),a∈args→Clo a) (hR: ∀ r,R r→Clo r) (hp: ∀ r,p r→Clo r):HTP Tryz.prog f (.ptr 0 0::args) (some (.blk (tyC x t))::some (.map (nsE ns))::r) (fun q h'=>R q∧h'=some (.blk (tyC x t))::some (.map (nsE ns))::r) (fun q h'=>p q∧h'=some (.blk (tyC x t))::some (.map (nsE ns))::r):=
 RD.ext T r ⟨.ptr (by show 0<2;omega),RnL.clo ha⟩ (aiW x t ns) hR hp
theorem bI {h:Hp} {e:Int}:dL h (kJ e)=some (kJ e,h):=rfl
theorem FD (x:Par) (t:Int) (ns:Nms) (k:Int) (s:ByteArray) (n:Int) (nl:Nat) (li:Nat→Int) (na:Nat) (ar:Nat→Ex) (unk:Nat) (hn:inB n=true) (ht:1≤t) (ht':t≤4611686018427387904):
  iJ x t ns 164 (.mk k s n nl li na ar) unk (if vw t n=true then .ok 0 else .error 233):=by
 refine iJ.of ?_;have T:=NQ x t ns n hn ht ht';generalize hb:vw t n=b at*;rw [dJ];have hE:=RD.hT T;unfold hT tyC at*;refine Wv.HTP.by 12 [1,0,4,6] [(1000000,2)] [.tmp 6] Tryz.func164 rfl rfl rfl ?base ?_
 case base=>rfl
 refine Wv.W ?_;refine aI (fst:=[]) (cap:=[]) (hE _ Wv.c (by rintro r rfl;simp only [Wv.BC]) (by rintro r h;exact h.elim)) ?_ (by rintro av h' ⟨h,_⟩;exact h.elim);rintro av h' ⟨rfl,rfl⟩;refine Wv.W ?_;refine aI (fst:=[]) (cap:=[]) (bg b 233) ?_ ?_
 ·rintro av h' ⟨hb,rfl,rfl⟩;subst hb;refine Wv.W ?_;exact ⟨0,rfl,rfl⟩
 ·rintro av h' ⟨hb,rfl,rfl⟩;subst hb;simp (disch:=first|exact Wv.D|fail) only [Wv.B,simprocAttr,bI];exact ⟨233,rfl,rfl⟩
theorem CY (x:Par) (t:Int) (ns:Nms) (e:Ex) (he:okE e) (unk:Nat):
  iJ x t ns 166 e unk (.ok (if unk<2 then 0 else 1)):=by
 refine iJ.of ?_;obtain ⟨k,s,n,nl,li,na,ar,rfl⟩:=kU he;rw [dJ];unfold hT tyC at*;refine Wv.HTP.by 9 [1,2,8,6] [(1000000,2)] [.tmp 6] Tryz.func166 rfl rfl rfl ?base ?_
 case base=>rfl
 by_cases h:unk<2
 ·have h':(unk:Int)<2:=by omega
  simp (disch:=first|exact Wv.D|fail) only [Wv.B,simprocAttr,ah h',if_pos h];exact ⟨0,rfl,rfl⟩
 ·have h': ¬ (unk:Int)<2:=by omega
  simp (disch:=first|exact Wv.D|fail) only [Wv.B,simprocAttr,aj h',if_neg h];exact ⟨1,rfl,rfl⟩
def Qr (n:Int):Bool:=decide (1≤n) && decide (n≤64)
theorem Jb (x : Par) (t : Int) (ns : Nms) (k : Int) (s : ByteArray) (n : Int) (nl : Nat) (li : Nat → Int) (na : Nat) (ar : Nat → Ex) (unk : Nat) :
    iJ x t ns 169 (.mk k s n nl li na ar) unk (if Qr n = true then .ok (jS n) else .error 233) := by
  refine iJ.of ?_;rw [dJ];unfold hT tyC at *;have hp : Qr n = (decide (1 ≤ n) && decide (n ≤ 64)) := rfl;generalize Qr n = b at *;refine Wv.HTP.by 19 [1, 4, 6] [(1000000, 2)] [.tmp 6] Tryz.func169 rfl rfl rfl ?base ?_
  case base => rfl
  have fin : ∀ (K : AV → Hp → Prop), K (.v (.bool b)) [] → K (.v (.bool b)) [] := fun _ h => h
  cases h1 : decide (1 ≤ n) <;> cases h2 : decide (n ≤ 64);all_goals
    rw [h1, h2] at hp;simp (disch:=first|exact Wv.D|fail) only [Wv.B, simprocAttr, h1, h2];refine aI (fst := []) (cap := []) (bg _ 233) ?_ ?_
    · rintro av h' ⟨hb, rfl, rfl⟩
      first
      | exact absurd hb (by decide)
      | (have h3 := of_decide_eq_true h2
         refine Wv.W ?_;refine aA (qM n (by omega)) rfl Wv.c Wv.c ?_;simp (disch:=first|exact Wv.D|fail) only [Wv.B, simprocAttr, hp];exact ⟨_, rfl, rfl⟩)
    · rintro av h' ⟨hb, rfl, rfl⟩
      first
      | exact absurd hb (by decide)
      | (subst hp
         simp (disch:=first|exact Wv.D|fail) only [Wv.B, simprocAttr, bI];exact ⟨233, rfl, rfl⟩)
end
section
open Go.ChangeShapes Go.WideShapes Go.ChangeAt Go.RowKit Go.Deep Wv
theorem akV {α:Type} {l:List α} (h:l.length=7): ∃ a b c d e f g,l=[a,b,c,d,e,f,g]:=by
 match l,h with
 | [a,b,c,d,e,f,g],_=>exact ⟨a,b,c,d,e,f,g,rfl⟩
theorem AZ {z:Int} (h:(Lit.int .u32 z).wf=true):0≤z∧z<4294967296:=by
 simp [Lit.wf,IntKind.min,IntKind.max,IntKind.bits,IntKind.signed] at h;omega
theorem Wj {z:Int} (h:(Lit.int .i64 z).wf=true): -9223372036854775808≤z∧z≤9223372036854775807:=by
 simp [Lit.wf,IntKind.min,IntKind.max,IntKind.bits,IntKind.signed] at h;omega
def aiX:List TypeId:=[3,22,23,25]
theorem abm:setB Tryz.prog aiX=true:=by kernel_rfl
theorem afD {l:List AV} (h:Sh Tryz.prog 25 l): ∃ x:Par,nM x∧x.ch.length≤140737488351232∧(∀ q,q∈x.ch→q<4294967296)∧l=dA x:=by
 obtain ⟨hl,hf⟩:=qK Tryz.underlying25 h;have hc:Tryz.prog.cellsOf 25=7:=by kernel_rfl
 rw [hc] at hl;obtain ⟨a,b,c,d,e,f,g,rfl⟩:=akV hl;have c1:Tryz.prog.cellsOf 3=1:=by kernel_rfl
 have c2:Tryz.prog.cellsOf 22=1:=by kernel_rfl
 have c3:Tryz.prog.cellsOf 23=1:=by kernel_rfl
 have h0:Sh Tryz.prog 3 (([a,b,c,d,e,f,g].drop 0).take (Tryz.prog.cellsOf 3)):=hf 0 _ rfl;have h1:Sh Tryz.prog 22 (([a,b,c,d,e,f,g].drop 1).take (Tryz.prog.cellsOf 22)):=hf 1 _ rfl;have h2:Sh Tryz.prog 3 (([a,b,c,d,e,f,g].drop 2).take (Tryz.prog.cellsOf 3)):=hf 2 _ rfl;have h3:Sh Tryz.prog 23 (([a,b,c,d,e,f,g].drop 3).take (Tryz.prog.cellsOf 23)):=hf 3 _ rfl;have h4:Sh Tryz.prog 22 (([a,b,c,d,e,f,g].drop 4).take (Tryz.prog.cellsOf 22)):=hf 4 _ rfl;have h5:Sh Tryz.prog 3 (([a,b,c,d,e,f,g].drop 5).take (Tryz.prog.cellsOf 3)):=hf 5 _ rfl;have h6:Sh Tryz.prog 22 (([a,b,c,d,e,f,g].drop 6).take (Tryz.prog.cellsOf 22)):=hf 6 _ rfl;rw [c1] at h0 h2 h5;rw [c2] at h1 h4 h6;rw [c3] at h3;obtain ⟨z0,e0,w0⟩:=lJ Tryz.underlying3 h0;obtain ⟨z1,e1,w1⟩:=lJ Tryz.underlying22 h1;obtain ⟨z2,e2,w2⟩:=lJ Tryz.underlying3 h2;obtain ⟨n3,f3,e3,w3,o3⟩:=yP Tryz.underlying23 Tryz.underlying22 (Nat.le_of_ble_eq_true (by kernel_rfl)) (by kernel_rfl) h3;obtain ⟨z4,e4,w4⟩:=lJ Tryz.underlying22 h4;obtain ⟨z5,e5,w5⟩:=lJ Tryz.underlying3 h5;obtain ⟨z6,e6,w6⟩:=lJ Tryz.underlying22 h6;have q0:[a]=[AV.v (.int .i64 z0)]:=e0;have q1:[b]=[AV.v (.int .u32 z1)]:=e1;have q2:[c]=[AV.v (.int .i64 z2)]:=e2;have q3:[d]=[AV.t n3 1 (tab n3 fun i=> .v (.int .u32 (f3 i)))]:=e3;have q4:[e]=[AV.v (.int .u32 z4)]:=e4;have q5:[f]=[AV.v (.int .i64 z5)]:=e5;have q6:[g]=[AV.v (.int .u32 z6)]:=e6;simp only [List.cons.injEq,and_true] at q0 q1 q2 q3 q4 q5 q6;subst q0 q1 q2 q3 q4 q5 q6;have b0:=Wj w0;have b1:=AZ w1;have b2:=Wj w2;have b4:=AZ w4;have b6:=AZ w6;have hr:reachBytes=140737488351232:=rfl;obtain ⟨p1,rfl⟩: ∃ n:Nat,z1=n:=⟨z1.toNat,by omega⟩
 obtain ⟨p4,rfl⟩: ∃ n:Nat,z4=n:=⟨z4.toNat,by omega⟩
 obtain ⟨p6,rfl⟩: ∃ n:Nat,z6=n:=⟨z6.toNat,by omega⟩
 have hch:((List.range n3).map fun i=>(f3 i).toNat).length=n3:=by rw [List.length_map,List.length_range]
 have hcl:(((List.range n3).map fun i=>(f3 i).toNat).map fun (c:Nat)=>AV.v (.int .u32 c))=tab n3 fun i=> .v (.int .u32 (f3 i)):=by
  rw [List.map_map];refine List.map_congr_left fun i hi=>?_
  have:=AZ (o3 i (List.mem_range.1 hi));show AV.v (.int .u32 ((f3 i).toNat:Int))=_;rw [Int.toNat_of_nonneg this.1]
 refine ⟨{n:=z0,p:=p1,r:=z2,ch:=(List.range n3).map fun i=>(f3 i).toNat,sp:=p4,wt:=z5,er:=p6},⟨b0.1,b0.2,by show p1<_;omega,b2.1,b2.2,by show p4<_;omega⟩,by rw [hch];omega,fun q hq=>?_,?_⟩
 ·obtain ⟨i,hi,rfl⟩:=List.mem_map.1 hq;have:=AZ (o3 i (List.mem_range.1 hi));omega
 ·unfold dA;simp only;rw [hch,hcl]
theorem Ym {H:Type} {enc:TypeId × Value→H} {w:World} {base b0:Nat} {spare:Nat→Bool} {held:Bool} {r:Reach} {v:Value} {d:DataW H} {p:List MemPlace}
  (hv:Value.okWide Tryz.prog w r b0 25 v) (h:DataW.Trod enc Tryz.prog w base spare held 25 v d p) (hl:wC Tryz.prog 25 d): ∃ x:Par,nM x∧x.ch.length≤140737488351232∧(∀ q,q∈x.ch→q<4294967296)∧Rep (xY w) (.g (dA x)) v:=by
 simp only [Value.okWide,Tryz.underlying25] at hv;obtain ⟨cs,rfl,_,_⟩:=hv;obtain ⟨fuel,hf⟩:=h;obtain ⟨l,s1,s2,s3⟩:=reads abm fuel _ _ _ (by unfold aiX;simp) hf hl;obtain ⟨x,h1,h2,h3,rfl⟩:=afD s1;refine ⟨x,h1,h2,h3,?_⟩;have e:(Value.agg cs)= .agg cs.toList.toArray:=by simp
 rw [e];exact .g s2.1 s2.2
end
section
end
section
open Go.RowKit Wv
def roA (n:Nat) (f:Nat→Int):AV:= .t n 1 (tab n fun j=> .v (.int .i64 (f j)))
theorem jW (n:Nat) (f:Nat→Int):Clo (roA n f):=by unfold roA;simp only [Wv.BC]
def yF (N:Int) (f:Nat→Int) (i:Nat):Bool:=decide (f i<0) || (decide (f i≥N) || (decide ((i:Int)>0) && decide (f i≤f (i - 1))))
def wO (N:Int) (n:Nat) (f:Nat→Int):Bool:=!bf n (yF N f)
theorem abn (N:Int) (n:Nat) (f:Nat→Int) (hn:n≤140737488351232):TC Tryz.prog 97 [.v (.int .i64 N),roA n f] (.v (.bool (wO N n f))):=by
 have hA:wO N n f=!bf n (yF N f):=rfl;generalize wO N n f=B at*;unfold roA;refine Wv.TC.by 35 [1,9,8,10,7,6,0,5,33,4] [] [.tmp 4] Tryz.func97 rfl rfl rfl ?clo ?_
 case clo=>simp only [Wv.BC]
 refine Wv.W ?_;refine dI (σ:=Nat) (fun i=>[(0, .v (.int .i64 N)),(1, .t n 1 (tab n fun j=> .v (.int .i64 (f j)))),(7, .t n 1 (tab n fun j=> .v (.int .i64 (f j)))),(8, .v (.int .i64 n)),(9, .v (.int .i64 i))]) (fun _=>[]) (fun i=>i≤n∧ ∀ a,a<i→yF N f a=false) (fun i=>n - i) 0 ⟨Nat.zero_le _,fun a h=>absurd h (Nat.not_lt_zero a)⟩ Wv.V Wv.V ?_;rintro i ⟨hi,hg⟩;by_cases hlt:i<n
 ·have e1:(i:Int)<n:=by omega
  have hw:yF N f i=(decide (f i<0) || (decide (f i≥N) || (decide ((i:Int)>0) && decide (f i≤f (i - 1))))):=rfl;have hbad:yF N f i=true→B=false:=fun h=>by
   rw [hA];have:bf n (yF N f)=true:=by unfold bf;exact List.any_eq_true.2 ⟨i,List.mem_range.2 hlt,h⟩
   rw [this];rfl
  have hgood:yF N f i=false→ ∀ a,a<i+1→yF N f a=false:=fun h a ha=>by
   by_cases q:a=i
   ·exact q▸h
   ·exact hg a (by omega)
  generalize yF N f i=w at*;by_cases h0:f i<0
  ·rw [ah h0,Bool.true_or] at hw;have hb:=hbad hw;simp (disch:=first|exact Wv.D|fail) only [Wv.B,simprocAttr,ah e1,ah h0];rw [hb]
  rw [aj h0,Bool.false_or] at hw;by_cases h1:f i≥N
  ·rw [ah h1,Bool.true_or] at hw;have hb:=hbad hw;simp (disch:=first|exact Wv.D|fail) only [Wv.B,simprocAttr,ah e1,aj h0,ah h1];rw [hb]
  rw [aj h1,Bool.false_or] at hw;by_cases h2:i=0
  ·subst h2;have h2': ¬ ((0:Nat):Int)>0:=by omega
   rw [aj h2',Bool.false_and] at hw;have hg':=hgood hw;simp (disch:=first|exact Wv.D|fail) only [Wv.B,simprocAttr,ah e1,aj h0,aj h1,aj h2'];refine aJ 1 ⟨by omega,hg'⟩ (by omega) rfl Wv.V2
  ·have h2':(i:Int)>0:=by omega
   have e3:((i:Int) - 1).toNat=i - 1:=by omega
   rw [ah h2',Bool.true_and] at hw;by_cases h3:f i≤f (i - 1)
   ·rw [ah h3] at hw;have hb:=hbad hw;simp (disch:=first|exact Wv.D|fail) only [Wv.B,simprocAttr,ah e1,aj h0,aj h1,ah h2',e3,ah h3];rw [hb]
   ·rw [aj h3] at hw;have hg':=hgood hw;simp (disch:=first|exact Wv.D|fail) only [Wv.B,simprocAttr,ah e1,aj h0,aj h1,ah h2',e3,aj h3];refine aJ (i+1) ⟨by omega,hg'⟩ (by omega) rfl Wv.V2
 ·obtain rfl:i=n:=by omega
  have hB:B=true:=by
   rw [hA];have:bf i (yF N f)=false:=by
    unfold bf;refine List.any_eq_false.2 fun a ha=>?_
    rw [hg a (List.mem_range.1 ha)];decide
   rw [this];rfl
  simp (disch:=first|exact Wv.D|fail) only [Wv.B,simprocAttr,Int.lt_irrefl,decide_false];rw [hB]
def inN (m:Nat) (g:Nat→Int) (z:Int):Bool:=bf m fun k=>decide (z=g k)
def lsN (S:Nat):Nat→List Nat
 | 0=>[]
 | n+1=>if S.testBit n=true then lsN S n++[n] else lsN S n
def lsL (S:Nat) (n:Nat):List AV:=(lsN S n).map fun (j:Nat)=> .v (.int .i64 j)
theorem NR (S n:Nat): ∀ a,a∈lsL S n→Clo a:=fun a h=>by
 unfold lsL at h;obtain ⟨j,_,rfl⟩:=List.mem_map.1 h;exact .v _
theorem Lc (S:Nat): ∀ n,(lsN S n).length≤n
 | 0=>Nat.le_refl _
 | n+1=>by
  have:=Lc S n;unfold lsN;split
  ·rw [List.length_append];show _+1≤_;omega
  ·omega
theorem NS (S n:Nat):(lsL S n).length=(lsN S n).length:=List.length_map _
theorem FH (k S n:Nat):loL k (lsL S n)=True:=eq_true fun a ha=> .clo (NR S n a ha)
theorem aiY (S i:Nat) (hS:S<4294967296) (hi:i<32):IntKind.u32.wrap ((BitVec.ofInt IntKind.u32.bits ((S:Int).fdiv (2 ^ min i 32)) &&& BitVec.ofInt IntKind.u32.bits 1).toNat:Int)=if S.testBit i=true then 1 else 0:=by
 rw [Nat.min_eq_left (by omega)];have h2:(2:Int) ^ i=((2 ^ i:Nat):Int):=by rw [Int.natCast_pow];rfl
 have h3:(S:Int).fdiv (2 ^ i)=((S / 2 ^ i:Nat):Int):=by
  rw [Int.fdiv_eq_ediv_of_nonneg _ (by rw [h2];exact Int.natCast_nonneg _),h2];rfl
 rw [h3];have h4:S / 2 ^ i<4294967296:=Nat.lt_of_le_of_lt (Nat.div_le_self _ _) hS;have h5:(BitVec.ofInt IntKind.u32.bits ((S / 2 ^ i:Nat):Int) &&& BitVec.ofInt IntKind.u32.bits 1).toNat=S / 2 ^ i % 2:=by
  show (BitVec.ofInt 32 ((S / 2 ^ i:Nat):Int) &&& BitVec.ofInt 32 1).toNat=S / 2 ^ i % 2;rw [BitVec.toNat_and,BitVec.ofInt_natCast,BitVec.toNat_ofNat,Nat.mod_eq_of_lt (by omega)];exact Nat.and_one_is_mod _
 rw [h5,Nat.testBit_eq_decide_div_mod_eq];have h6:S / 2 ^ i % 2=0∨S / 2 ^ i % 2=1:=by omega
 rcases h6 with h | h<;>rw [h]<;>rfl
theorem Wn (S:Nat) (hS:S<4294967296):TC Tryz.prog 99 [.v (.int .u32 S)] (.t (lsL S 32).length 1 (lsL S 32)):=by
 refine Wv.TC.by 18 [4,5,0,3,11,2] [] [.tmp 2] Tryz.func99 rfl rfl rfl ?clo ?_
 case clo=>simp only [Wv.BC];exact NR _ _
 refine Wv.W ?_;refine Ag (σ:=Nat) (fun i=>[(0, .v (.int .u32 S)),(2, .own 0 (lsL S i).length),(4, .v (.int .i64 i))])
  (fun i=>[some (.arr 3 1 (lsL S i) 0)]) (fun i=>i≤32) (fun i=>32 - i) 0 (Nat.zero_le _) ?_ ?_
 ·refine Ent.trans (Ent.nil 2 3 1 (by omega) rfl) (Ent.fit ?_);simp (disch:=first|exact Wv.D|fail) only [Wv.B,simprocAttr,lsL,lsN,List.map_nil,List.length_nil]
 intro i hi;by_cases hlt:i<32
 ·have e1:(i:Int)<32:=by omega
  have hle:(lsL S i).length≤i:=by rw [NS];exact Lc S i
  have hb:=aiY S i hS hlt;cases hq:S.testBit i with
  | true=>
   have hj:lsL S (i+1)=lsL S i++[.v (.int .i64 i)]:=by
    show List.map _ (if S.testBit i=true then _ else _)=_;rw [if_pos hq,List.map_append];rfl
   rw [hq,if_pos rfl] at hb;simp (disch:=first|exact Wv.D|fail) only [Wv.B,simprocAttr,ah e1,hb];refine Wv.lI (i+1) 1 (by first | decide | exact Nat.le_of_ble_eq_true rfl) (show i+1≤32 by omega) (by omega) (by simp (disch:=first|exact Wv.D|fail) only [Wv.B,simprocAttr,dN,hj,List.length_append,List.length_cons,List.length_nil]) (by simp (disch:=first|exact Wv.D|fail) only [Wv.B,simprocAttr,Int.natCast_add,Int.natCast_one,hj,List.length_append,List.length_cons,List.length_nil]) (by simp only [Wv.BL, ↓reduceIte,Nat.reduceLeDiff,FH]<;>omega) (by simp only [Wv.BL, ↓reduceIte,Nat.reduceLeDiff,FH]<;>omega)
  | false=>
   have hj:lsL S (i+1)=lsL S i:=by
    show List.map _ (if S.testBit i=true then _ else _)=_;rw [if_neg (by rw [hq];decide)];rfl
   rw [hq,if_neg (by decide)] at hb;simp (disch:=first|exact Wv.D|fail) only [Wv.B,simprocAttr,ah e1,hb];refine Wv.lI (i+1) 1 (by first | decide | exact Nat.le_of_ble_eq_true rfl) (show i+1≤32 by omega) (by omega) (by simp (disch:=first|exact Wv.D|fail) only [Wv.B,simprocAttr,dN,hj]) (by simp (disch:=first|exact Wv.D|fail) only [Wv.B,simprocAttr,Int.natCast_add,Int.natCast_one,hj]) (by simp only [Wv.BL, ↓reduceIte,Nat.reduceLeDiff,FH]<;>omega) (by simp only [Wv.BL, ↓reduceIte,Nat.reduceLeDiff,FH]<;>omega)
 ·obtain rfl:i=32:=by omega
  simp (disch:=first|exact Wv.D|fail) only [Wv.B,simprocAttr,Int.lt_irrefl,decide_false]
end
section
open Go.RowKit Wv
def FM:List (Value × AV):=[(.int .i64 2, .fn (.func 164) [.ptr 0 0] []),(.int .i64 3, .fn (.func 165) [.ptr 0 0] []),(.int .i64 7, .fn (.func 166) [.ptr 0 0] []),(.int .i64 8, .fn (.func 167) [.ptr 0 0] []),(.int .i64 10, .fn (.func 168) [.ptr 0 0] []),(.int .i64 14, .fn (.func 169) [.ptr 0 0] []),(.int .i64 11, .fn (.func 170) [.ptr 0 0] []),(.int .i64 13, .fn (.func 171) [.ptr 0 0] []),(.int .i64 12, .fn (.func 172) [.ptr 0 0] [])]
theorem Qs {h:Hp} (h0:0<h.length) (hh:loH h.length h):RD Tryz.prog 110 [.ptr 0 0] h (fun r=>r= .tm FM) (fun _=>False):=by
 refine RD.of ?_ (by rintro r rfl;unfold FM;refine .tm fun p hp=>?_;simp only [List.mem_cons,List.not_mem_nil,or_false] at hp;rcases hp with rfl | rfl | rfl | rfl | rfl | rfl | rfl | rfl | rfl<;>exact .fn (by rintro a ha;rw [List.mem_singleton] at ha;subst ha;exact .ptr h0) (by rintro a ha;cases ha)) (fun r q=>q.elim) hh;refine Wv.HTP.by 23 [0,2] [(1000000,h.length)] [.tmp 2] Tryz.func110 rfl rfl rfl ?base ?_
 case base=>rfl
 have hget: ∀ o:Option Ob,(h++[o])[h.length]? =some o:=fun o=>List.getElem?_concat_length
 have hset: ∀ o o':Option Ob,(h++[o]).set h.length o'=h++[o']:=fun o o'=>by rw [List.set_append_right _ _ (Nat.le_refl _),Nat.sub_self];rfl
 simp (disch:=first|exact Wv.D|fail) only [Wv.B,simprocAttr,hget,hset];exact ⟨rfl,by rw [List.take_append_of_le_length (Nat.le_refl _),List.take_length]⟩
def aW:Nms→ByteArray→Option (Bool × Nat)
 | [],_=>none
 | p::r,s=>if s=p.1 then some p.2 else aW r s
theorem vC (s:ByteArray): ∀ ns:Nms,dB (.string s) (nsE ns)=(aW ns s).map shA
 | []=>rfl
 | p::r=>by
  have ih:=vC s r;show (if keyE (.string s) (.string p.1)=true then some (shA p.2) else dB (.string s) (nsE r))=_;rw [ih];show _=Option.map shA (if s=p.1 then some p.2 else aW r s);have:keyE (.string s) (.string p.1)=decide (s=p.1):=sQ;rw [this];by_cases e:s=p.1
  ·rw [if_pos (ah e),if_pos e];rfl
  ·rw [if_neg (by simp [e]),if_neg e]
def bW (f:Nat→Except Int (Bool × Nat)):Nat→Except Int (Bool × Nat × Nat)
 | 0=> .ok (true,0,0)
 | n+1=>match bW f n with
  | .error e=> .error e
  | .ok (kn,d,u)=>match f n with
   | .error e=> .error e
   | .ok (k',d')=> .ok (kn && k',max d d',if k'=true then u else u+1)
def D7:Option (Bool × Nat)→Except Int (Bool × Nat)
 | some r=> .ok r
 | none=> .error 230
def A8 (kn:Bool) (d:Nat):Except Int Nat→Except Int (Bool × Nat)
 | .error e=> .error e
 | .ok m=>if (if kn=true then 0 else d+m)≤8 then .ok (kn,if kn=true then 0 else d+m) else .error 232
def D8 (f:Nat→Except Int Nat):Except Int (Bool × Nat × Nat)→Except Int (Bool × Nat)
 | .error e=> .error e
 | .ok (kn,d,u)=>A8 kn d (f u)
def shE (ns:Nms) (ru:Ex→Nat→Except Int Nat):Ex→Except Int (Bool × Nat)
 | .nil=> .error 0
 | .mk k s n nl li na ar=>if k=1 then D7 (aW ns s) else D8 (ru (.mk k s n nl li na ar)) (bW (fun i=>shE ns ru (ar i)) na)
def Jc:Except Int (Bool × Nat × Nat)→Bool × Nat × Nat
 | .ok r=>r
 | .error _=>(true,0,0)
def aiZ:Except Int Nat→Nat
 | .ok _=>0
 | .error _=>1
def acC (f:Nat→Except Int Nat):Except Int (Bool × Nat × Nat)→Nat
 | .ok (_,_,u)=>aiZ (f u)
 | .error _=>0
theorem D9        {f : Nat → Except Int (Bool × Nat)} {i : Nat} {e : Int} (h : bW    f i = .error e) : ∀ {n : Nat}, i ≤ n → bW    f n = .error e
  | 0, q => by have : i = 0 := by omega
               subst this; exact h
  | n + 1, q => by
    by_cases hq : i = n + 1
    · subst hq; exact h
    · have := D9        h (n := n) (by omega)
      simp only [bW   , this]
theorem FN {ns:Nms} {ru:Ex→Nat→Except Int Nat} (hn: ∀ s r,aW ns s=some r→r.2≤8) (x:Ex) {r:Bool × Nat} (h:shE ns ru x= .ok r):r.2≤8:=by
 rcases x with _ | ⟨k,s,n,nl,li,na,ar⟩
 ·cases h
 unfold shE at h;by_cases hk:k=1
 ·rw [if_pos hk] at h;cases hf:aW ns s with
  | none=>rw [hf] at h;cases h
  | some r'=>rw [hf] at h;simp only [D7] at h;injection h with h;subst h;exact hn s _ hf
 ·rw [if_neg hk] at h;cases hf:bW (fun i=>shE ns ru (ar i)) na with
  | error e=>rw [hf] at h;cases h
  | ok q=>
   obtain ⟨kn,d,u⟩:=q;rw [hf] at h;simp only [D8] at h;cases hr:ru (.mk k s n nl li na ar) u with
   | error e=>rw [hr] at h;cases h
   | ok m=>
    rw [hr] at h;simp only [A8] at h;by_cases hle:(if kn=true then 0 else d+m)≤8
    ·rw [if_pos hle] at h;injection h with h;subst h;exact hle
    ·rw [if_neg hle] at h;cases h
theorem Bj {f:Nat→Except Int (Bool × Nat)} (hf: ∀ i r,f i= .ok r→r.2≤8): ∀ {n:Nat} {r:Bool × Nat × Nat},bW f n= .ok r→r.2.1≤8∧r.2.2≤n
 | 0,r,h=>by injection h with h;subst h;exact ⟨by show 0≤8;omega,Nat.le_refl _⟩
 | n+1,r,h=>by
  simp only [bW] at h;split at h
  ·cases h
  ·next kn d u h1=>
   have ih:=Bj hf h1;split at h
   ·cases h
   ·next k' d' h2=>
    have:=hf _ _ h2;injection h with h;subst h;simp only at this ih ⊢;refine ⟨by omega,?_⟩;split<;>omega
def Wp (k:Int):Option FuncId:=match k with | 2=>some 164 | 3=>some 165 | 7=>some 166 | 8=>some 167 | 10=>some 168 | 14=>some 169 | 11=>some 170 | 13=>some 171 | 12=>some 172 | _=>none
def FP (x:Par) (t:Int) (ns:Nms) (ru:Ex→Nat→Except Int Nat) (ks:Ex→Prop):Prop:=
 ∀ e unk,ks e→okE e→dn e=true→unk≤2→(∀ m,ru e unk= .ok m→m≤4294967296)∧match Wp e.kind with | some f=>iJ x t ns f e unk (ru e unk) | none=>ru e unk= .ok 0
def abo (ks:Ex→Prop):Ex→Prop
 | .nil=>False
 | .mk k s n nl li na ar=>ks (.mk k s n nl li na ar)∧ ∀ i,i<na→abo ks (ar i)
theorem vF {a b:AV} (h1:Clo a) (h2:Clo b): ∀ x,x∈[a,b]→Clo x:=by
 intro x hx;rcases List.mem_cons.1 hx with rfl | hx
 ·exact h1
 ·rw [List.mem_singleton] at hx;subst hx;exact h2
theorem Bl:keysB (.int .i64) FM=true:=rfl
theorem Ld (k:Int) (h1:1≤k) (h2:k≤15):dB (.int .i64 k) FM=(Wp k).map fun f=> .fn (.func f) [.ptr 0 0] []:=by
 have:k=1∨k=2∨k=3∨k=4∨k=5∨k=6∨k=7∨k=8∨k=9∨k=10∨k=11∨k=12∨k=13∨k=14∨k=15:=by omega
 rcases this with rfl | rfl | rfl | rfl | rfl | rfl | rfl | rfl | rfl | rfl | rfl | rfl | rfl | rfl | rfl<;>rfl
theorem Wq (l:List Nat): ∀ a,a∈l.map (fun (c:Nat)=>AV.v (.int .u32 c))→Clo a:=by
 intro a ha;obtain ⟨c,_,rfl⟩:=List.mem_map.1 ha;exact .v _
theorem Bo {m:Nat} (ns:Nms):(∀ x:Value × AV,x∈nsE ns→lo m x.2)=True:=eq_true fun a ha=> .clo (qN ns _ (List.mem_map_of_mem ha))
theorem kW (l:List Nat):(∀ a,a∈l.map (fun (c:Nat)=>AV.v (.int .u32 c))→Clo a)=True:=eq_true (Wq l)
theorem yg: ∀ ns:Nms,keysB .str (nsE ns)=true
 | []=>rfl
 | p::r=>yg r
def ShC (x:Par) (t:Int) (ns:Nms) (e:Ex) (o:Except Int (Bool × Nat)):Prop:=
 RD Tryz.prog 65 [.ptr 0 0, .g (exC e)] (hT x t ns) (fun r=> ∃ s,o= .ok s∧r=shA s) (fun r=> ∃ e,o= .error e∧r=kJ e)
theorem jh {k:Int} {s:ByteArray} {n:Int} {nl:Nat} {li:Nat→Int} {na:Nat} {ar:Nat→Ex} (h:dn (.mk k s n nl li na ar)=true):(1≤k∧k≤15)∧na≤2∧ ∀ i,i<na→dn (ar i)=true:=by
 unfold dn at h;simp only [Bool.and_eq_true,Bool.not_eq_true',decide_eq_true_eq,decide_eq_false_iff_not] at h;obtain ⟨h1,h2,_,h4,_,_,_,_,h8⟩:=h;have hk: ∀ m:Nat,argN m≤2:=fun m=>by unfold argN;split<;>decide
 have:=hk k.toNat;refine ⟨⟨by omega,by omega⟩,by omega,fun i hi=>?_⟩;unfold bf at h8;have h9:=List.any_eq_false.1 h8 i (List.mem_range.2 hi);simpa using h9
theorem abp (x:Par) (t:Int) (ns:Nms) (ru:Ex→Nat→Except Int Nat) (ks:Ex→Prop) (hns: ∀ s r,aW ns s=some r→r.2≤8) (hR:FP x t ns ru ks) (e:Ex) (ho:okE e) (hf:dn e=true) (hk:abo ks e):ShC x t ns e (shE ns ru e):=by
 induction e with
 | nil=>exact ho.elim
 | mk k s n nl li na ar ih=>
 obtain ⟨hs,hnl,hna,hh⟩:=ho;have ⟨⟨hk1,hk2⟩,ai0,hfa⟩:=jh hf;refine RD.of ?_ (by rintro r ⟨s,_,rfl⟩;exact .clo (yU s)) (by rintro r ⟨e,_,rfl⟩;exact .clo (gU e)) (Ja x t ns);rw [dJ];unfold hT tyC;have hS:shE ns ru (.mk k s n nl li na ar)=if k=1 then D7 (aW ns s) else D8 (ru (.mk k s n nl li na ar)) (bW (fun i=>shE ns ru (ar i)) na):=rfl
 obtain ⟨c,hc⟩: ∃ c,c=acC (ru (.mk k s n nl li na ar)) (bW (fun i=>shE ns ru (ar i)) na):=⟨_,rfl⟩
 refine Wv.HTP.by 76 [1,3,15,0,6,5,4,33,32,34,31,10,7,11,48,8,12,59,69] [(2,11),(16,4),(18,6),(1000000,2),(4000018,c)] [.cell 4 42] Tryz.func65 rfl rfl rfl ?base ?_
 case base=>rfl
 by_cases hk1:k=1
 ·rw [if_pos hk1] at hS;cases hq:aW ns s with
  | none=>
   rw [hq] at hS;simp only [D7] at hS;have hlm:=vC s ns;rw [hq] at hlm;simp only [Option.map_none] at hlm;simp (disch:=first|exact Wv.D|fail) only [Wv.B,simprocAttr,ah hk1,yg,hlm];refine aI (fst:=[]) (cap:=[]) (bg false 230) (by rintro av h' ⟨hb,_⟩;cases hb) ?_;rintro av h' ⟨_,rfl,rfl⟩;simp (disch:=first|exact Wv.D|fail) only [Wv.B,simprocAttr,bI,hS];exact ⟨230,rfl,rfl⟩
  | some r=>
   rw [hq] at hS;simp only [D7] at hS;have hlm:=vC s ns;rw [hq] at hlm;simp only [Option.map_some,shA] at hlm;simp (disch:=first|exact Wv.D|fail) only [Wv.B,simprocAttr,ah hk1,yg,hlm];refine aI (fst:=[]) (cap:=[]) (bg true 230) ?_ (by rintro av h' ⟨hb,_⟩;cases hb);rintro av h' ⟨_,rfl,rfl⟩;simp (disch:=first|exact Wv.D|fail) only [Wv.B,simprocAttr,hS];exact ⟨r,rfl,rfl⟩
 ·rw [if_neg hk1] at hS;simp (disch:=first|exact Wv.D|fail) only [Wv.B,simprocAttr,aj hk1];generalize hfE:(fun i=>shE ns ru (ar i))=fE at hS hc;have hLc:=eX (n:=na) (f:=fun i=>exC (ar i)) fun i _=>gZ (ar i)
  have hdr: ∀ i,i<na→ ∃ r,List.drop (i*5) (gI na fun i=>exC (ar i))=exC (ar i)++r:=fun i hi=>eH (f:=fun i=>exC (ar i)) (fun i=>lV (ar i)) hi
  generalize hL:(gI na fun i=>exC (ar i))=L at hLc hdr ⊢;refine dI (σ:=Nat) (fun i=>[(0, .ptr 0 0),(3, .ptr 2 0),(4, .ptr 3 0),(7, .ptr 4 0),(8, .v (.int .i64 (Jc (bW fE i)).2.2)),(31, .t na 5 L),(32, .v (.int .i64 na)),(33, .v (.int .i64 i))])
   (fun i=>[some (.blk [.v (.int .i64 x.n), .v (.int .u32 x.p), .v (.int .i64 x.r), .t x.ch.length 1 (x.ch.map fun (c:Nat)=> .v (.int .u32 c)), .v (.int .u32 x.sp), .v (.int .i64 x.wt), .v (.int .u32 x.er), .v (.int .i64 t), .mp 1]),some (.map (nsE ns)),
    some (.blk [.v (.int .i64 k), .v (.string s), .v (.int .i64 n), .t nl 1 (tab nl fun i=> .v (.int .i64 (li i))), .t na 5 L]),some (.blk [.v (.bool false), .v (.int .i64 0)]),some (.blk [.v (.bool (Jc (bW fE i)).1), .v (.int .i64 (Jc (bW fE i)).2.1)])])
   (fun i=>i≤na∧bW fE i= .ok (Jc (bW fE i))) (fun i=>na - i) 0 ⟨Nat.zero_le _,rfl⟩ (by simp (disch:=first|exact Wv.D|fail) only [Wv.B,simprocAttr,bW,Jc]) (by simp (disch:=first|exact Wv.D|fail) only [Wv.B,simprocAttr,bW,Jc]) ?_
  rintro i ⟨hi,hfo⟩;obtain ⟨r,hr⟩: ∃ r,Jc (bW fE i)=r:=⟨_,rfl⟩
  rw [hr] at hfo;by_cases hlt:i<na
  ·have e1:(i:Int)<na:=by omega
   obtain ⟨r2,hd⟩:=hdr i hlt;have T:=ih i (hh i hlt) (hfa i hlt) (hk.2 i hlt);have hfi:fE i=shE ns ru (ar i):=by rw [←hfE]
   obtain ⟨kn,d,u⟩:=r;have hle: ∀ r,shE ns ru (ar i)= .ok r→r.2≤8:=fun r h=>FN hns (ar i) h
   have hbd:=Bj (f:=fE) (fun j r h=>by
    rw [←hfE] at h;exact FN hns (ar j) h) hfo
   simp only at hbd;have hG:=eY (ar i);have hE:=RD.hT (x:=x) (t:=t) (ns:=ns) (args:=[.g (exC (ar i))]) T;generalize shE ns ru (ar i)=O at hE hfi hle;clear T;have hoy:=hh i hlt;generalize ar i=y at hd hE hG hoy;obtain ⟨k',s',n',nl',li',na',ar',rfl⟩:=kU hoy;rw [dJ] at hd hE hG;simp only [List.cons_append,List.nil_append] at hd;unfold tyC at hE;simp (disch:=first|exact Wv.D|fail) only [Wv.B,simprocAttr,hd,hr];refine aI (fst:=[]) (cap:=[]) (hE _ (gY hG) (by rintro r ⟨s,_,rfl⟩;exact yU s) (by rintro r ⟨e,_,rfl⟩;exact gU e)) ?_ ?_
   ·rintro av h' ⟨⟨⟨k2,d2⟩,hO,rfl⟩,rfl⟩;subst hO;have hnx:bW fE (i+1)= .ok (kn && k2,max d d2,if k2=true then u else u+1):=by simp only [bW,hfo,hfi]
    have hng:Jc (bW fE (i+1))=(kn && k2,max d d2,if k2=true then u else u+1):=by rw [hnx];rfl
    have hd2:=hle _ rfl;simp only at hd2;have hmx:(if (d2:Int)>(d:Int) then (d2:Int) else (d:Int))=((max d d2:Nat):Int):=by split<;>omega
    unfold shA;cases k2 with
    | true=>
     simp (disch:=first|exact Wv.D|fail) only [Wv.B,simprocAttr,hmx];refine Wv.lI (i+1) 5 (by first | decide | exact Nat.le_of_ble_eq_true rfl) (⟨by omega,by rw [hnx];rfl⟩) (by omega) (by simp (disch:=first|exact Wv.D|fail) only [Wv.B,simprocAttr,dN,hng]) (by simp (disch:=first|exact Wv.D|fail) only [Wv.B,simprocAttr,Int.natCast_add,Int.natCast_one,hng]) (by simp only [Wv.BL, ↓reduceIte,Nat.reduceLeDiff,eq_true hLc,kW,Bo]<;>omega) (by simp only [Wv.BL, ↓reduceIte,Nat.reduceLeDiff,eq_true hLc,kW,Bo]<;>omega)
    | false=>
     simp (disch:=first|exact Wv.D|fail) only [Wv.B,simprocAttr,hmx];refine Wv.lI (i+1) 5 (by first | decide | exact Nat.le_of_ble_eq_true rfl) (⟨by omega,by rw [hnx];rfl⟩) (by omega) (by simp (disch:=first|exact Wv.D|fail) only [Wv.B,simprocAttr,dN,hng]) (by simp (disch:=first|exact Wv.D|fail) only [Wv.B,simprocAttr,Int.natCast_add,Int.natCast_one,hng]) (by simp only [Wv.BL, ↓reduceIte,Nat.reduceLeDiff,eq_true hLc,kW,Bo]<;>omega) (by simp only [Wv.BL, ↓reduceIte,Nat.reduceLeDiff,eq_true hLc,kW,Bo]<;>omega)
   ·rintro av h' ⟨⟨e,hO,rfl⟩,rfl⟩;subst hO;have hnx:bW fE (i+1)= .error e:=by simp only [bW,hfo,hfi]
    rw [D9 hnx (n:=na) (by omega)] at hS;simp only [D8] at hS;simp (disch:=first|exact Wv.D|fail) only [Wv.B,simprocAttr,bI,hS];exact ⟨e,rfl,rfl⟩
  ·have hin:i=na:=by omega
   subst hin;obtain ⟨kn,d,u⟩:=r;have hbd:=Bj (f:=fE) (fun j r h=>by
    rw [←hfE] at h;exact FN hns (ar j) h) hfo
   simp only at hbd;rw [hfo] at hS hc;simp only [D8] at hS;simp only [acC] at hc;have hRu:=hR (.mk k s n nl li i ar) u hk.1 ⟨hs,hnl,hna,hh⟩ hf (by omega);generalize ru (.mk k s n nl li i ar) u=O at hS hRu hc;have hlr:=Ld k (by omega) hk2;have hG:=eY (.mk k s n nl li i ar);rw [dJ] at hG;obtain ⟨hm,hRf⟩:=hRu;unfold iJ Ex.kind at hRf;rw [dJ] at hRf;rw [hL] at hG hRf;simp (disch:=first|exact Wv.D|fail) only [Wv.B,simprocAttr,hr];refine bU (fst:=[]) (cap:=[]) (Qs (Nat.zero_lt_succ _) (by simp only [Wv.BL, ↓reduceIte,Nat.reduceLeDiff,Bo,kW,eq_true hLc,List.length_cons,List.length_nil,Nat.reduceAdd,Nat.reduceLT])) ?_ (by rintro av h' ⟨h,_⟩;exact h.elim);cases hq:Wp k with
   | none=>
    rw [hq] at hlr hRf;simp only at hRf;simp only [Option.map_none] at hlr;subst hRf;cases kn with
    | true=>
     have hS1:A8 true d (.ok 0)= .ok (true,0):=rfl;rw [hS1] at hS;simp (disch:=first|exact Wv.D|fail) only [Wv.B,simprocAttr,Bl,hlr];refine aI (fst:=[]) (cap:=[]) (bg true 232) ?_ (by rintro av h' ⟨hb,_⟩;cases hb);rintro av h' ⟨_,rfl,rfl⟩;simp (disch:=first|exact Wv.D|fail) only [Wv.B,simprocAttr,hS];exact ⟨_,rfl,rfl⟩
    | false=>
     have hS1:A8 false d (.ok 0)= .ok (false,d):=if_pos (by show d+0≤8;omega);rw [hS1] at hS;have hd8:(d:Int)≤8:=by omega
     simp (disch:=first|exact Wv.D|fail) only [Wv.B,simprocAttr,Bl,hlr,ah hd8];refine aI (fst:=[]) (cap:=[]) (bg true 232) ?_ (by rintro av h' ⟨hb,_⟩;cases hb);rintro av h' ⟨_,rfl,rfl⟩;simp (disch:=first|exact Wv.D|fail) only [Wv.B,simprocAttr,hS];exact ⟨_,rfl,rfl⟩
   | some f=>
    rw [hq] at hlr hRf;simp only at hRf;simp only [Option.map_some] at hlr;have hE:=RD.hT (x:=x) (t:=t) (ns:=ns) (args:=[.g _, .v (.int .i64 u)]) hRf;unfold tyC at hE;simp (disch:=first|exact Wv.D|fail) only [Wv.B,simprocAttr,Bl,hlr];cases O with
    | error e=>
     have hc1:c=1:=hc;refine bU (res:= .t 1 1 []) (fst:=[.ptr 0 0]) (cap:=[]) ((hE _ (vF hG Wv.c) (by rintro r ⟨s,_,rfl⟩;exact .v _) (by rintro r ⟨e,_,rfl⟩;exact gU e)).mono (by rintro r h' ⟨⟨_,q,_⟩,_⟩;cases q) (fun _ _ q=>q)) ?_ ?_
     ·simp (disch:=first|exact Wv.D|fail) only [Wv.B,simprocAttr,hc1];exact ⟨5,_,_,rfl,rfl,rfl,rfl,rfl⟩
     ·rintro av h' ⟨⟨e',q,rfl⟩,rfl⟩;injection q with q;subst q;have hS2:A8 kn d (.error e)= .error e:=rfl;rw [hS2] at hS;simp (disch:=first|exact Wv.D|fail) only [Wv.B,simprocAttr,bI,hS];exact ⟨_,rfl,rfl⟩
    | ok m=>
     have hm':=hm m rfl;have hc1:c=0:=hc;refine bU (res:= .v (.int .i64 m)) (fst:=[.ptr 0 0]) (cap:=[]) ((hE _ (vF hG Wv.c) (by rintro r ⟨s,_,rfl⟩;exact .v _) (by rintro r ⟨e,_,rfl⟩;exact gU e)).mono (by rintro r h' ⟨⟨_,q,rfl⟩,rfl⟩;injection q with q;subst q;exact ⟨rfl,rfl⟩) (fun _ _ q=>q)) ?_ (by rintro av h' ⟨⟨_,q,_⟩,_⟩;cases q);have hS2:A8 kn d (.ok m)=if (if kn=true then 0 else d+m)≤8 then .ok (kn,if kn=true then 0 else d+m) else .error 232:=rfl
     rw [hS2] at hS;cases kn with
     | true=>
      simp only [if_true,Nat.zero_le] at hS;simp (disch:=first|exact Wv.D|fail) only [Wv.B,simprocAttr,hc1];refine aI (fst:=[]) (cap:=[]) (bg true 232) ?_ (by rintro av h' ⟨hb,_⟩;cases hb);rintro av h' ⟨_,rfl,rfl⟩;simp (disch:=first|exact Wv.D|fail) only [Wv.B,simprocAttr,hS];exact ⟨_,rfl,rfl⟩
     | false=>
      simp only [Bool.false_eq_true,if_false] at hS;by_cases h8:d+m≤8
      ·rw [if_pos h8] at hS;have hd8:(d:Int)+m≤8:=by omega
       simp (disch:=first|exact Wv.D|fail) only [Wv.B,simprocAttr,hc1,ah hd8];refine aI (fst:=[]) (cap:=[]) (bg true 232) ?_ (by rintro av h' ⟨hb,_⟩;cases hb);rintro av h' ⟨_,rfl,rfl⟩;simp (disch:=first|exact Wv.D|fail) only [Wv.B,simprocAttr,hS];exact ⟨_,rfl,by unfold shA;rw [Int.natCast_add]⟩
      ·rw [if_neg h8] at hS;have hd8: ¬ (d:Int)+m≤8:=by omega
       simp (disch:=first|exact Wv.D|fail) only [Wv.B,simprocAttr,hc1,aj hd8];refine aI (fst:=[]) (cap:=[]) (bg false 232) (by rintro av h' ⟨hb,_⟩;cases hb) ?_;rintro av h' ⟨_,rfl,rfl⟩;simp (disch:=first|exact Wv.D|fail) only [Wv.B,simprocAttr,bI,hS];exact ⟨_,rfl,rfl⟩
end
section
open Go.RowKit Wv
def seA (N:Nat) (f:Nat→Nat):AV:= .t N 1 (tab N fun j=> .v (.int .u32 (f j)))
theorem yV (N:Nat) (f:Nat→Nat):Clo (seA N f):=by unfold seA;simp only [Wv.BC]
abbrev mX:=List (ByteArray × (Nat→Nat))
def jF:mX→ByteArray→Option (Nat→Nat)
 | [],_=>none
 | p::r,s=>if s=p.1 then some p.2 else jF r s
def FQ:mX→ByteArray→(Nat→Nat)→mX
 | [],s,f=>[(s,f)]
 | p::r,s,f=>if s=p.1 then (s,f)::r else p::FQ r s f
def nmE (es:mX):List (Value × AV):=es.map fun p=>(.string p.1, .v (.bool true))
theorem qO (s s':ByteArray) (f:Nat→Nat): ∀ es:mX,jF (FQ es s f) s'=if s'=s then some f else jF es s'
 | []=>rfl
 | p::q=>by
  have ih:=qO s s' f q;unfold FQ;by_cases e:s=p.1
  ·rw [if_pos e];show (if s'=s then some f else jF q s')=if s'=s then some f else (if s'=p.1 then some p.2 else jF q s')
   by_cases e2:s'=s
   ·rw [if_pos e2,if_pos e2]
   ·rw [if_neg e2,if_neg e2,if_neg (by rw [←e];exact e2)]
  ·rw [if_neg e];show (if s'=p.1 then some p.2 else jF (FQ q s f) s')=if s'=s then some f else (if s'=p.1 then some p.2 else jF q s')
   rw [ih];by_cases e2:s'=p.1
   ·rw [if_pos e2,if_neg (by rw [e2];exact fun h=>e h.symm),if_pos e2]
   ·rw [if_neg e2,if_neg e2]
theorem NT (s:ByteArray): ∀ es:mX,dB (.string s) (nmE es)=(jF es s).map fun _=> .v (.bool true)
 | []=>rfl
 | p::r=>by
  have ih:=NT s r;show (if keyE (.string s) (.string p.1)=true then some (AV.v (.bool true)) else dB (.string s) (nmE r))=Option.map _ (if s=p.1 then some p.2 else jF r s);rw [ih,show keyE (.string s) (.string p.1)=decide (s=p.1) from sQ];by_cases e:s=p.1
  ·rw [if_pos (ah e),if_pos e];rfl
  ·rw [if_neg (by simp [e]),if_neg e]
theorem Ws (s:ByteArray) (f:Nat→Nat): ∀ es:mX,iP (.string s) (.v (.bool true)) (nmE es)=nmE (FQ es s f)
 | []=>rfl
 | p::q=>by
  have ih:=Ws s f q;show (if keyE (.string s) (.string p.1)=true then _ else (Value.string p.1,AV.v (.bool true))::iP (.string s) (.v (.bool true)) (nmE q))=nmE (if s=p.1 then _ else _);rw [ih,show keyE (.string s) (.string p.1)=decide (s=p.1) from sQ];by_cases e:s=p.1
  ·rw [if_pos (ah e),if_pos e,e];rfl
  ·rw [if_neg (by simp [e]),if_neg e];rfl
theorem NU: ∀ es:mX,keysB .str (nmE es)=true
 | []=>rfl
 | p::r=>NU r
theorem FT (es:mX): ∀ a,a∈(nmE es).map (·.2)→Clo a:=by
 intro a ha;unfold nmE at ha;rw [List.map_map] at ha;obtain ⟨p,_,rfl⟩:=List.mem_map.1 ha;exact .v _
def pkV (s:ByteArray) (j:Nat):Value:= .agg #[.string s, .int .i64 j]
abbrev kkF:KK:= .flat [none,some .i64]
theorem Jd:kkP Tryz.prog 186=some kkF:=by kernel_rfl
theorem Wu (s:ByteArray) (j:Nat):eu kkF (pkV s j)=true:=rfl
theorem acD (s s':ByteArray) (j j':Nat):keyE (pkV s j) (pkV s' j')=decide (s=s'∧j=j'):=by
 show (decide (s=s') && (decide ((j:Int)=j') && true))=_;rw [Bool.and_true,show decide ((j:Int)=j')=decide (j=j') from decide_eq_decide.2 (by omega)];simp
theorem Je:qY Tryz.prog 181=some (186,149):=by kernel_rfl
theorem ai1:au Tryz.prog 149=some (.int .u32 0):=by kernel_rfl
variable {M:List (Value × AV)}
theorem Qu (hk:keysB kkF M=true) (s:ByteArray) (j:Nat) (o0 o1:Option Ob) (r:Hp):jV Tryz.prog (o0::o1::some (.map M)::r) 181 (.mp 2) (.g [.v (.string s), .v (.int .i64 j)]) false=some (ku false (.int .u32 0) (dB (pkV s j) M)):=by
 simp only [jV,Je,Jd,ai1,Option.bind_some];show (if eu kkF (pkV s j)=true then (if keysB kkF M=true then some (ku false (.int .u32 0) (dB (pkV s j) M)) else none) else none)=_;rw [if_pos (Wu s j),if_pos hk]
theorem acE (j:Nat) (hj:j<32):IntKind.u32.wrap ((1:Int)*2 ^ min j 32)=((2 ^ j:Nat):Int):=by
 rw [Nat.min_eq_left (by omega),Int.one_mul];have h2:(2:Int) ^ j=((2 ^ j:Nat):Int):=by rw [Int.natCast_pow];rfl
 rw [h2];have:2 ^ j<2 ^ 32:=Nat.pow_lt_pow_right (by omega) hj;generalize 2 ^ j=q at*;show ((q:Int) % 4294967296)=_;omega
structure Qv (N:Nat) (es:mX) (M:List (Value × AV)):Prop where
 kb:keysB kkF M=true
 clo: ∀ a,a∈M.map (·.2)→Clo a
 get: ∀ s f,jF es s=some f→ ∀ j,j<N→dB (pkV s j) M=some (.v (.int .u32 (f j)))
 lt: ∀ s f,jF es s=some f→ ∀ j,j<N→f j<2 ^ N
def whS (w:Nat) (f:Nat→Nat):Nat→Nat
 | 0=>w
 | j+1=>whS w f j ||| f j
def whL (A:Nat→Nat→Nat) (N:Nat):Nat→Nat
 | 0=>0
 | i+1=>whS (whL A N i) (A i) N
variable {N:Nat}{f:Nat→Nat}
theorem wP {w m:Nat}  (hw:w<2 ^ N):(∀ j,j<m→f j<2 ^ N)→whS w f m<2 ^ N:=by
 induction m with
 | zero=>exact fun _=>hw
 | succ m ih=>exact fun h=>Nat.or_lt_two_pow (ih fun j hj=>h j (by omega)) (h m (by omega))
theorem Le {A:Nat→Nat→Nat} {m:Nat}:(∀ i,i<m→ ∀ j,j<N→A i j<2 ^ N)→whL A N m<2 ^ N:=by
 induction m with
 | zero=>exact fun _=>Nat.two_pow_pos N
 | succ m ih=>exact fun h=>wP (ih fun i hi=>h i (by omega)) (h m (by omega))
def Wx (N:Nat) (n:Int) (j:Nat):Nat:=j / (N / 2)*(N / 2)+(j % (N / 2)+n.toNat) % (N / 2)
theorem FU {n:Int} {j:Nat} (hN:4≤N) (h2:N % 2=0) (hj:j<N):Wx N n j<N:=by
 unfold Wx;have b3:=Nat.mod_lt (j % (N / 2)+n.toNat) (show N / 2>0 by omega);have:j / (N / 2)<2:=Nat.div_lt_of_lt_mul (by omega);have:j / (N / 2)=0∨j / (N / 2)=1:=(show ∀ q:Nat,q<2→q=0∨q=1 by omega) _ this;rcases this with q | q<;>rw [q]<;>omega
def nsS (N:Nat) (k n:Int) (nl:Nat) (li:Nat→Int) (na:Nat) (A:Nat→Nat→Nat) (j:Nat):Nat:=
 if k=8 then A 0 (Wx N n j) else if k=9 then A 0 ((j+N / 2) % N) else if k=10 then (if j<nl∧li j=1 then A 0 j else 0) else if k=15 then whL A N na else whS 0 (fun i=>A i j) na
def nsX (N:Nat) (es:mX):Ex→Nat→Nat
 | .nil=>fun _=>0
 | .mk k s n nl li na ar=>if k=1 then (jF es s).getD (fun j=>2 ^ j) else nsS N k n nl li na (fun i=>nsX N es (ar i))
def goS:Ex→Prop
 | .nil=>False
 | .mk k s n nl li na ar=>(1≤k∧k≤15)∧(na:Int)=argN k.toNat∧(-4294967295≤n∧n≤4294967295)∧(k=8→0≤n)∧ ∀ i,i<na→goS (ar i)
variable {es:mX}
theorem FV (hN:4≤N) (hN3:N % 2=0) (hes: ∀ s f,jF es s=some f→ ∀ j,j<N→f j<2 ^ N): ∀ (e:Ex),goS e→ ∀ j,j<N→nsX N es e j<2 ^ N:=by
 intro e;induction e with
 | nil=>exact fun h=>h.elim
 | mk k s n nl li na ar ih=>
  intro hg j hj;have hna:=hg.2.1;have hA: ∀ i,i<na→ ∀ j,j<N→nsX N es (ar i) j<2 ^ N:=fun i hi=>ih i (hg.2.2.2.2 i hi)
  show (if k=1 then (jF es s).getD (fun j=>2 ^ j) else nsS N k n nl li na fun i=>nsX N es (ar i)) j<2 ^ N;split
  ·cases hq:jF es s with
   | none=>exact Nat.pow_lt_pow_right (by omega) hj
   | some f=>exact hes s f hq j hj
  ·unfold nsS;split
   ·next h=>subst h;have:argN (8:Int).toNat=1:=rfl;exact hA 0 (by omega) _ (FU hN hN3 hj)
   split
   ·next h=>subst h;have:argN (9:Int).toNat=1:=rfl;exact hA 0 (by omega) _ (Nat.mod_lt _ (by omega))
   split
   ·next h=>
    subst h;have:argN (10:Int).toNat=1:=rfl;split
    ·exact hA 0 (by omega) _ hj
    ·exact Nat.two_pow_pos N
   split
   ·exact Le hA
   ·exact wP (Nat.two_pow_pos N) fun i hi=>hA i hi j hj
theorem Wy (a b:Nat) (ha:a<4294967296) (hb:b<4294967296):IntKind.u32.wrap ((BitVec.ofInt IntKind.u32.bits (a:Int) ||| BitVec.ofInt IntKind.u32.bits (b:Int)).toNat:Int)=((a ||| b:Nat):Int):=by
 have h5:(BitVec.ofInt IntKind.u32.bits (a:Int) ||| BitVec.ofInt IntKind.u32.bits (b:Int)).toNat=a ||| b:=by
  show (BitVec.ofInt 32 (a:Int) ||| BitVec.ofInt 32 (b:Int)).toNat=a ||| b
  rw [BitVec.toNat_or,BitVec.ofInt_natCast,BitVec.ofInt_natCast,BitVec.toNat_ofNat,BitVec.toNat_ofNat,Nat.mod_eq_of_lt (by omega),Nat.mod_eq_of_lt (by omega)]
 rw [h5];have:a ||| b<2 ^ 32:=Nat.or_lt_two_pow (by omega) (by omega)
 show (((a ||| b:Nat):Int) % 4294967296)=_;omega
abbrev nO:List AV:=[.ptr 7 0, .ptr 0 0, .ptr 5 0, .ptr 3 0, .ptr 6 0]
def hN (N:Nat) (C:List AV) (es:mX) (M:List (Value × AV)):Hp:=
 [some (.blk [.v (.int .i64 N)]),some (.blk C),some (.map M),some (.blk [.mp 2]),some (.map (nmE es)),some (.blk [.mp 4]),some (.blk [.v (.int .i64 (N / 2:Nat))]),some (.blk [.fn (.func 136) [] nO])]
theorem afE:RnL id 8 nO nO:=⟨.ptr (by omega), .ptr (by omega), .ptr (by omega), .ptr (by omega), .ptr (by omega),trivial⟩
theorem ai2   (N : Nat) {C : List AV} (es : mX  )  (hC : ∀ a, a ∈ C → Clo a) (hM : ∀ a, a ∈ M.map (·.2) → Clo a) : ∀ (i : Nat) (o : Option Ob), (hN N C es M)[i]? = some o → ∃ o', o = some o' ∧ RnO id 8 o' o' := by
  intro i o ho;unfold hN at ho;match i with
  | 0 => simp at ho; subst ho; exact ⟨_, rfl, .clo (.v _), trivial⟩
  | 1 => simp at ho; subst ho; exact ⟨_, rfl, RnL.clo hC⟩
  | 2 => simp at ho; subst ho; exact ⟨_, rfl, rfl, RnL.clo hM⟩
  | 3 => simp at ho; subst ho; exact ⟨_, rfl, .mp (by omega), trivial⟩
  | 4 => simp at ho; subst ho; exact ⟨_, rfl, rfl, RnL.clo (FT      es)⟩
  | 5 => simp at ho; subst ho; exact ⟨_, rfl, .mp (by omega), trivial⟩
  | 6 => simp at ho; subst ho; exact ⟨_, rfl, .clo (.v _), trivial⟩
  | 7 => simp at ho; subst ho; exact ⟨_, rfl, .fn rfl rfl (by simp) (fun i a b h1 h2 => by
      match i with
      | 0 => simp at h1 h2; subst h1 h2; exact .ptr (by omega)
      | 1 => simp at h1 h2; subst h1 h2; exact .ptr (by omega)
      | 2 => simp at h1 h2; subst h1 h2; exact .ptr (by omega)
      | 3 => simp at h1 h2; subst h1 h2; exact .ptr (by omega)
      | 4 => simp at h1 h2; subst h1 h2; exact .ptr (by omega)
      | i + 5 => simp at h1), trivial⟩
  | i + 8 => simp at ho
theorem ai3 (N:Nat) {C:List AV} (es:mX)  (hC: ∀ a,a∈C→Clo a) (hM: ∀ a,a∈M.map (·.2)→Clo a):loH 8 (hN N C es M):=by
 unfold hN;have h1:=FT es;refine ⟨?_,fun a ha=> .clo (hC a ha),fun a ha=> .clo (hM a ha),?_,fun a ha=> .clo (h1 a ha),?_⟩<;>simp only [Wv.BL, ↓reduceIte,Nat.reduceLeDiff]<;>omega
theorem RD.hN {C:List AV}   {a:AV} {R p:AV→Prop} (hC: ∀ a,a∈C→Clo a) (hM: ∀ a,a∈M.map (·.2)→Clo a) (T:RD Tryz.prog 136 (a::nO) (hN N C es M) R p) (r:Hp) (ha:Clo a) (hR: ∀ r,R r→Clo r) (hp: ∀ r,p r→Clo r):HTP Tryz.prog 136 (a::nO) (hN N C es M++r) (fun q h'=>R q∧h'=hN N C es M++r) (fun q h'=>p q∧h'=hN N C es M++r):=
 RD.ext T r ⟨.clo ha,afE⟩ (ai2 N es hC hM) hR hp
theorem _root_.Go.Proofs.YtljfgdlgmdcmfaaGreat.Wv.HTP.wk {P:Program} {f:FuncId} {args args':List AV} {h:Hp} {R p:AV→Hp→Prop} (T:HTP P f args' h R p) (ha:WkL args args'):HTP P f args h R p:=
 ⟨T.1,fun X vs hX hh q=>T.2 X vs hX hh (q.wk ha)⟩
theorem Qw (hk:keysB kkF M=true) (s:ByteArray) (j:Nat) (a:AV) (o0 o1:Option Ob) (r:Hp):iW Tryz.prog (o0::o1::some (.map M)::r) 181 (.mp 2) (.g [.v (.string s), .v (.int .i64 j)]) a=some (o0::o1::some (.map (iP (pkV s j) a M))::r):=by
 simp only [iW,Je,Jd,Option.bind_some];show (if eu kkF (pkV s j)=true then (if keysB kkF M=true then some (o0::o1::some (.map (iP (pkV s j) a M))::r) else none) else none)=_;rw [if_pos (Wu s j),if_pos hk]
theorem abq {v:Value} (h:eu kkF v=true): ∃ (x:ByteArray) (z:Int),v= .agg #[.string x, .int .i64 z]:=by
 cases v<;>try (cases h;done)
 rename_i a;obtain ⟨l⟩:=a;have h:iI [none,some .i64] l=true:=h;match l with
 | []=>cases h
 | [_]=>simp [iI] at h
 | x::y::z::r=>simp [iI] at h
 | [x,y]=>
  simp only [iI,Bool.and_true,Bool.and_eq_true] at h;obtain ⟨h1,h2⟩:=h;cases x<;>simp [key1] at h1;cases y<;>simp [key1] at h2;subst h2;exact ⟨_,_,rfl⟩
theorem abr (s s':ByteArray) (j j':Nat) (a:AV):keysB kkF M=true→dB (pkV s' j') (iP (pkV s j) a M)=if s'=s∧j'=j then some a else dB (pkV s' j') M:=by
 induction M with
 | nil=>
  intro _;show (if keyE (pkV s' j') (pkV s j)=true then some a else none)=_;rw [acD];by_cases e:s'=s∧j'=j
  ·rw [if_pos (ah e),if_pos e]
  ·rw [if_neg (by simpa using e),if_neg e];rfl
 | cons p r ih=>
  intro h;unfold keysB at h ih;rw [List.all_cons,Bool.and_eq_true] at h;obtain ⟨x,z,hp⟩:=abq h.1;have ih:=ih h.2;have hk: ∀ (s:ByteArray) (j:Nat),keyE (pkV s j) p.1=decide (s=x∧(j:Int)=z):=fun s j=>by
   rw [hp];show (decide (s=x) && (decide ((j:Int)=z) && true))=_;simp
  have e0: ∀ (s:ByteArray) (j:Nat),dB (pkV s j) (p::r)=if keyE (pkV s j) p.1=true then some p.2 else dB (pkV s j) r:=fun _ _=>rfl
  have e1:iP (pkV s j) a (p::r)=if keyE (pkV s j) p.1=true then (pkV s j,a)::r else p::iP (pkV s j) a r:=rfl
  rw [e0,e1,hk,hk];by_cases q:s=x∧(j:Int)=z
  ·rw [if_pos (ah q)];show (if keyE (pkV s' j') (pkV s j)=true then some a else dB (pkV s' j') r)=_;rw [acD];by_cases e:s'=s∧j'=j
   ·rw [if_pos (ah e),if_pos e]
   ·rw [if_neg (by simpa using e),if_neg e,if_neg];rw [decide_eq_true_eq];rintro ⟨u1,u2⟩;exact e ⟨u1.trans q.1.symm,by omega⟩
  ·rw [if_neg (by rw [decide_eq_true_eq];exact q)];show (if keyE (pkV s' j') p.1=true then some p.2 else dB (pkV s' j') (iP (pkV s j) a r))=_;rw [hk,ih];by_cases e:s'=s∧j'=j
   ·rw [if_pos e,if_pos e,if_neg];rw [decide_eq_true_eq,e.1,e.2];exact q
   ·rw [if_neg e,if_neg e]
theorem ai4 (s:ByteArray) (j:Nat) (a:AV):keysB kkF M=true→keysB kkF (iP (pkV s j) a M)=true:=by
 induction M with
 | nil=>exact fun _=>rfl
 | cons p r ih=>
  intro h;unfold keysB at h ih ⊢;rw [List.all_cons,Bool.and_eq_true] at h;show List.all (if keyE (pkV s j) p.1=true then (pkV s j,a)::r else p::iP (pkV s j) a r) _=true;split
  ·rw [List.all_cons,Bool.and_eq_true];exact ⟨Wu s j,h.2⟩
  ·rw [List.all_cons,Bool.and_eq_true];exact ⟨h.1,ih h.2⟩
theorem afF (k:Value) (a:AV) (ha:Clo a):(∀ b,b∈M.map (·.2)→Clo b)→ ∀ b,b∈(iP k a M).map (·.2)→Clo b:=by
 induction M with
 | nil=>intro _ b hb;rcases List.mem_cons.1 hb with rfl | h;exact ha;cases h
 | cons p r ih=>
  intro h b hb;have hb:b∈(if keyE k p.1=true then (k,a)::r else p::iP k a r).map (·.2):=hb;split at hb
  ·rcases List.mem_cons.1 hb with rfl | h'
   ·exact ha
   ·exact h b (List.mem_cons_of_mem _ h')
  ·rcases List.mem_cons.1 hb with rfl | h'
   ·exact h _ (List.mem_cons_self ..)
   ·exact ih (fun b hb=>h b (List.mem_cons_of_mem _ hb)) b h'
def ltP (M:List (Value × AV)) (s:ByteArray) (f:Nat→Nat):Nat→List (Value × AV)
 | 0=>M
 | j+1=>iP (pkV s j) (.v (.int .u32 (f j))) (ltP M s f j)
variable {s:ByteArray}
theorem FW (h:keysB kkF M=true): ∀ m,keysB kkF (ltP M s f m)=true
 | 0=>h
 | m+1=>ai4 _ _ _ (FW h m)
theorem FX (h: ∀ b,b∈M.map (·.2)→Clo b): ∀ m b,b∈(ltP M s f m).map (·.2)→Clo b
 | 0=>h
 | m+1=>afF _ _ (.v _) (FX h m)
theorem Jf (h:keysB kkF M=true) (s':ByteArray) (j':Nat): ∀ m,dB (pkV s' j') (ltP M s f m)=if s'=s∧j'<m then some (.v (.int .u32 (f j'))) else dB (pkV s' j') M
 | 0=>by rw [if_neg (by omega)];rfl
 | m+1=>by
  show dB (pkV s' j') (iP (pkV s m) _ (ltP M s f m))=_;rw [abr _ _ _ _ _ (FW h m),Jf h s' j' m];by_cases e:s'=s∧j'=m
  ·rw [if_pos e,if_pos ⟨e.1,by omega⟩,e.2]
  ·rw [if_neg e];by_cases q:s'=s∧j'<m
   ·rw [if_pos q,if_pos ⟨q.1,by omega⟩]
   ·rw [if_neg q,if_neg];rintro ⟨u,v⟩;by_cases w:j'=m
    ·exact e ⟨u,w⟩
    ·exact q ⟨u,by omega⟩
theorem Qv.put (h:Qv N es M) (s:ByteArray) (f:Nat→Nat) (hf: ∀ j,j<N→f j<2 ^ N):Qv N (FQ es s f) (ltP M s f N) where
 kb:=FW h.kb N
 clo:=FX h.clo N
 get:=fun s' f' e j hj=>by
  rw [Jf h.kb];rw [qO] at e;by_cases q:s'=s
  ·rw [if_pos q] at e;injection e with e;rw [if_pos ⟨q,hj⟩,e]
  ·rw [if_neg q] at e;rw [if_neg (fun w=>q w.1)];exact h.get s' f' e j hj
 lt:=fun s' f' e j hj=>by
  rw [qO] at e;by_cases q:s'=s
  ·rw [if_pos q] at e;injection e with e;rw [←e];exact hf j hj
  ·rw [if_neg q] at e;exact h.lt s' f' e j hj
end
section
open Go.RowKit Wv
theorem NV:szP Tryz.prog 183=some 1:=by kernel_rfl
theorem abt:au Tryz.prog 183=some .nilFunc:=by kernel_rfl
theorem NW:aK Tryz.prog 183=some false:=by kernel_rfl
theorem abu:fV Tryz.prog 183=true:=by kernel_rfl
theorem WA {N j:Nat} {V:Nat→Nat} (z:Nat):(tab N fun a=>if a=j then AV.v (.int .u32 (V j)) else if a<j then AV.v (.int .u32 (V a)) else .v (.int .u32 0))=tab N fun a=>if a<j+1 then AV.v (.int .u32 (V a)) else .v (.int .u32 0):=aC fun a ha=>by
 by_cases q:a=j
 ·subst q;rw [if_pos rfl,if_pos (by omega)]
 ·by_cases q2:a<j
  ·rw [if_neg q,if_pos q2,if_pos (by omega)]
  ·rw [if_neg q,if_neg q2,if_neg (by omega)]
theorem ai5 (N:Nat) (C:List AV) (es:mX) (M:List (Value × AV)) (hN4:4≤N) (hN2:N≤32) (hN3:N % 2=0) (hC: ∀ a,a∈C→Clo a) (hM:Qv N es M) (e:Ex) (ho:okE e) (hg:goS e):
  RD Tryz.prog 136 (.g (exC e)::nO) (hN N C es M) (fun r=>r=seA N (nsX N es e)) (fun _=>False):=by
 induction e with
 | nil=>exact ho.elim
 | mk k s n nl li na ar ih=>
 obtain ⟨hs,hnl,hna,hh⟩:=ho;have ⟨⟨hk1,hk2⟩,akW,hnm,hg8,hga⟩:=hg;have ai0:na≤2:=by have:argN k.toNat≤2:=(by unfold argN;split<;>decide);omega
 have hlt:=FV hN4 hN3 hM.lt;refine RD.of ?_ (by rintro r rfl;exact .clo (yV _ _)) (fun r q=>q.elim) (ai3 N es hC hM.clo);rw [dJ];have hSp:nsX N es (.mk k s n nl li na ar)=if k=1 then (jF es s).getD (fun j=>2 ^ j) else nsS N k n nl li na (fun i=>nsX N es (ar i)):=rfl
 generalize nsX N es (.mk k s n nl li na ar)=V at hSp ⊢;unfold hN;refine Wv.HTP.by 168 [0,6,24,23,25,8,10,1,42,41,43,40,9,12,2,13,55,54,56,59,77,14,3,87,4,97,5,121,136,150,160,62,61,63,60,16,7] [(6,8),(28,19),(30,10),(21,8),(1000000,8),(3000006,512),(3000028,1536),(3000030,1536),(3000021,1536)] [.tmp 7] Tryz.func136 rfl rfl rfl ?base ?_
 case base=>rfl
 have hkb:=hM.kb;have ai6:2 ^ N≤4294967296:=Nat.pow_le_pow_right (n:=2) (by omega) hN2;have hLc:=eX (n:=na) (f:=fun i=>exC (ar i)) fun i _=>gZ (ar i)
 have hdr: ∀ i,i<na→ ∃ r,List.drop (i*5) (gI na fun i=>exC (ar i))=exC (ar i)++r:=fun i hi=>eH (f:=fun i=>exC (ar i)) (fun i=>lV (ar i)) hi
 have hRD:=fun (e:AV) (R:AV→Prop) (T:RD Tryz.prog 136 (e::nO) (hN N C es M) R (fun _=>False)) r ha hR=>RD.hN hC hM.clo T r ha hR (fun _ h=>h.elim)
 obtain ⟨A,hAe⟩: ∃ A:Nat→Nat→Nat,A=fun a=>nsX N es (ar a):=⟨_,rfl⟩
 have hA: ∀ a,a<na→ ∀ j,j<N→A a j<2 ^ N:=fun a ha=>by rw [hAe];exact hlt (ar a) (hga a ha)
 rw [←hAe] at hSp;generalize hL:(gI na fun i=>exC (ar i))=L at hLc hdr ⊢;refine Wv.W ?_;refine dI (σ:=Nat) (fun i=>[(1, .ptr 7 0),(2, .ptr 0 0),(3, .ptr 5 0),(4, .ptr 3 0),(5, .ptr 6 0),(6, .ptr 8 0),(8, .own 9 na),(9, .v (.int .u32 (whL A N i))),(23, .v (.int .i64 na)),(24, .v (.int .i64 i))])
  (fun i=>[some (.blk [.v (.int .i64 N)]),some (.blk C),some (.map M),some (.blk [.mp 2]),some (.map (nmE es)),some (.blk [.mp 4]),some (.blk [.v (.int .i64 (N / 2:Nat))]),some (.blk [.fn (.func 136) [] nO]),some (.blk [.v (.int .i64 k), .v (.string s), .v (.int .i64 n), .t nl 1 (tab nl fun i=> .v (.int .i64 (li i))), .t na 5 L]),some (.arr 147 1 (tab na fun a=>if a<i then AV.t N 1 (tab N fun j=> .v (.int .u32 (A a j))) else .v (.slice none 0 0)) 0)])
  (fun i=>i≤na) (fun i=>na - i) 0 (Nat.zero_le _) (by simp (disch:=first|exact Wv.D|fail) only [Wv.B,simprocAttr,Nat.not_lt_zero,if_false]) (by simp (disch:=first|exact Wv.D|fail) only [Wv.B,simprocAttr,whL,Int.natCast_zero]) ?_
 intro i hi;by_cases Qx:i<na
 ·have e1:(i:Int)<na:=by omega
  obtain ⟨r2,hd⟩:=hdr i Qx;have hE:=hRD _ _ (ih i (hh i Qx) (hga i Qx));have hG:=eY (ar i);obtain ⟨k',s',n',nl',li',na',ar',hy⟩:=kU (hh i Qx);have hy2:exC (ar i)=_:=(congrArg exC hy).trans (dJ k' s' n' nl' li' na' ar');have hAi:nsX N es (ar i)=A i:=by rw [hAe]
  rw [hAi] at hE;rw [hy2] at hd hE hG;simp only [List.cons_append,List.nil_append] at hd;have h8:(tab na fun a=>if a=i then AV.t N 1 (tab N fun j=> .v (.int .u32 (A i j))) else if a<i then AV.t N 1 (tab N fun j=> .v (.int .u32 (A a j))) else AV.v (.slice none 0 0))=tab na fun a=>if a<i+1 then AV.t N 1 (tab N fun j=> .v (.int .u32 (A a j))) else AV.v (.slice none 0 0):=aC fun a ha=>by
   by_cases q:a=i
   ·subst q;rw [if_pos rfl,if_pos (by omega)]
   ·by_cases q2:a<i
    ·rw [if_neg q,if_pos q2,if_pos (by omega)]
    ·rw [if_neg q,if_neg q2,if_neg (by omega)]
  have hsc:Clo (.t N 1 (tab N fun j=> .v (.int .u32 (A i j)))):=yV N (A i);unfold hN seA at hE;simp (disch:=first|exact Wv.D|fail) only [Wv.B,simprocAttr,ah e1,hd,NV,abt,NW,abu];refine aI (fst:=[]) (cap:=nO) (hE _ hG (by rintro r rfl;exact hsc)) ?_ (by rintro av h' ⟨h,_⟩;exact h.elim);rintro av h' ⟨rfl,rfl⟩;simp (disch:=first|exact Wv.D|fail) only [Wv.B,simprocAttr,dF,h8,Nat.lt_succ_self,if_true];refine dI (σ:=Nat) (fun q=>[(1, .ptr 7 0),(2, .ptr 0 0),(3, .ptr 5 0),(4, .ptr 3 0),(5, .ptr 6 0),(6, .ptr 8 0),(8, .own 9 na),(9, .v (.int .u32 (whS (whL A N i) (A i) q))),(23, .v (.int .i64 na)),(24, .v (.int .i64 i)),(40, .t N 1 (tab N fun j=> .v (.int .u32 (A i j)))),(41, .v (.int .i64 N)),(42, .v (.int .i64 q))])
   (fun q=>[some (.blk [.v (.int .i64 N)]),some (.blk C),some (.map M),some (.blk [.mp 2]),some (.map (nmE es)),some (.blk [.mp 4]),some (.blk [.v (.int .i64 (N / 2:Nat))]),some (.blk [.fn (.func 136) [] nO]),some (.blk [.v (.int .i64 k), .v (.string s), .v (.int .i64 n), .t nl 1 (tab nl fun i=> .v (.int .i64 (li i))), .t na 5 L]),some (.arr 147 1 (tab na fun a=>if a<i+1 then AV.t N 1 (tab N fun j=> .v (.int .u32 (A a j))) else .v (.slice none 0 0)) 0)])
   (fun q=>q≤N) (fun q=>N - q) 0 (Nat.zero_le _) Wv.V (by simp (disch:=first|exact Wv.D|fail) only [Wv.B,simprocAttr,whS]) ?_
  intro q hq;have hw0:whL A N i<2 ^ N:=Le fun a ha=>hA a (by omega)
  by_cases Qy:q<N
  ·have e2:(q:Int)<N:=by omega
   have hwq:whS (whL A N i) (A i) q<2 ^ N:=wP hw0 fun j hj=>hA i Qx j (by omega)
   have haq:=hA i Qx q Qy;have ho:=Wy (whS (whL A N i) (A i) q) (A i q) (by omega) (by omega);simp (disch:=first|exact Wv.D|fail) only [Wv.B,simprocAttr,ah e2,ho];refine aJ (q+1) (by omega) (by omega) Wv.V (by simp (disch:=first|exact Wv.D|fail) only [Wv.B,simprocAttr,whS,Int.natCast_add,Int.natCast_one])
  ·obtain rfl:q=N:=by omega
   simp (disch:=first|exact Wv.D|fail) only [Wv.B,simprocAttr,Int.lt_irrefl,decide_false];refine aJ (i+1) (by omega) (by omega) rfl (by simp (disch:=first|exact Wv.D|fail) only [Wv.B,simprocAttr,whL,Int.natCast_add,Int.natCast_one])
 ·obtain rfl:i=na:=by omega
  have h9:(tab i fun a=>if a<i then AV.t N 1 (tab N fun j=> .v (.int .u32 (A a j))) else .v (.slice none 0 0))=tab i fun a=>AV.t N 1 (tab N fun j=> .v (.int .u32 (A a j))):=aC fun a ha=>by rw [if_pos ha]
  have hW:whL A N i<2 ^ N:=Le hA;rw [h9];clear h9 hAe hdr ih hlt hRD;simp (disch:=first|exact Wv.D|fail) only [Wv.B,simprocAttr,Int.lt_irrefl,decide_false];have h0:(tab N fun a=>if a<0 then AV.v (.int .u32 (V a)) else .v (.int .u32 0))=tab N fun _=> .v (.int .u32 0):=aC fun a _=>if_neg (Nat.not_lt_zero a)
  refine dI (σ:=Nat) (fun j=>[(2, .ptr 0 0),(3, .ptr 5 0),(4, .ptr 3 0),(5, .ptr 6 0),(6, .ptr 8 0),(8, .own 9 i),(9, .v (.int .u32 (whL A N i))),(13, .own 10 N),(54, .v (.int .i64 N)),(55, .v (.int .i64 j))])
   (fun j=>[some (.blk [.v (.int .i64 N)]),some (.blk C),some (.map M),some (.blk [.mp 2]),some (.map (nmE es)),some (.blk [.mp 4]),some (.blk [.v (.int .i64 (N / 2:Nat))]),some (.blk [.fn (.func 136) [] nO]),some (.blk [.v (.int .i64 k), .v (.string s), .v (.int .i64 n), .t nl 1 (tab nl fun i=> .v (.int .i64 (li i))), .t i 5 L]),some (.arr 147 1 (tab i fun a=>AV.t N 1 (tab N fun j=> .v (.int .u32 (A a j)))) 0),some (.arr 149 1 (tab N fun a=>if a<j then .v (.int .u32 (V a)) else .v (.int .u32 0)) 0)])
   (fun j=>j≤N) (fun j=>N - j) 0 (Nat.zero_le _) (by simp (disch:=first|exact Wv.D|fail) only [Wv.B,simprocAttr,h0]) Wv.V ?_
  intro j hj;by_cases Jg:j<N
  ·have e1:(j:Int)<N:=by omega
   have h8:=WA (N:=N) (j:=j) (V:=V) 0;have hna':=akW;by_cases k1:k=1
   ·rw [if_pos k1] at hSp;have hsh:=acE j (by omega);have hlm:=NT s es;cases hq:jF es s with
    | none=>
     rw [hq,Option.map_none] at hlm;have hVj:V j=2 ^ j:=by rw [hSp,hq];rfl
     rw [←hVj] at hsh;simp (disch:=first|exact Wv.D|fail) only [Wv.B,simprocAttr,ah e1,ah k1,hsh,NU,hlm,dF,h8];refine aJ (j+1) (by omega) (by omega) rfl Wv.V2
    | some f=>
     rw [hq,Option.map_some] at hlm;have hVj:V j=f j:=by rw [hSp,hq];rfl
     have hg:=hM.get s f hq j Jg;rw [←hVj] at hg;have hlk:=Qu hkb s j;simp only [hg,ku,Bool.false_eq_true,if_false] at hlk;have h8': ∀ z:AV,(tab N fun a=>if a=j then AV.v (.int .u32 (V j)) else if a=j then z else if a<j then AV.v (.int .u32 (V a)) else .v (.int .u32 0))=tab N fun a=>if a<j+1 then AV.v (.int .u32 (V a)) else .v (.int .u32 0):=fun z=>by
      rw [←h8];refine aC fun a ha=>?_
      by_cases q:a=j
      ·rw [if_pos q,if_pos q]
      ·rw [if_neg q,if_neg q,if_neg q]
     simp (disch:=first|exact Wv.D|fail) only [Wv.B,simprocAttr,ah e1,ah k1,hsh,NU,hlm,dF,hlk,h8'];refine aJ (j+1) (by omega) (by omega) rfl Wv.V2
   rw [if_neg k1] at hSp;have hVj:V j=nsS N k n nl li i A j:=congrFun hSp j;clear hSp;unfold nsS at hVj;by_cases k8:k=8
   ·subst k8;obtain rfl:i=1:=by have:argN (8:Int).toNat=1:=rfl;omega
    obtain ⟨m,rfl⟩:=Int.eq_ofNat_of_zero_le (hg8 rfl);have e0:((m:Int)).toNat=m:=rfl;have b4:=FU (n:=(m:Int)) hN4 hN3 Jg;rw [if_pos rfl] at hVj;unfold Wx at hVj b4;rw [e0] at hVj b4;generalize hh:N / 2=h at*;have hp:0<h:=by omega
    have f1:(j:Int).tdiv (h:Int)=((j / h:Nat):Int):=rfl;have f2:(j:Int).tmod (h:Int)=((j % h:Nat):Int):=rfl;have f3:(((j % h:Nat):Int)+(m:Int)).tmod (h:Int)=(((j % h+m) % h:Nat):Int):=rfl;have f4:((j / h:Nat):Int)*(h:Int)=((j / h*h:Nat):Int):=(Int.natCast_mul _ _).symm;have f5:((j / h*h:Nat):Int)+(((j % h+m) % h:Nat):Int)=((j / h*h+(j % h+m) % h:Nat):Int):=(Int.natCast_add _ _).symm;have b1:j / h*h≤j:=Nat.div_mul_le_self j h;have b2:=Nat.mod_lt j hp;have b3:=Nat.mod_lt (j % h+m) hp;have b5:j / h≤j:=Nat.div_le_self j h;generalize (j % h+m) % h=q3 at*;generalize j % h=q2 at*;generalize j / h=q1 at*;generalize q1*h=q4 at*;simp (disch:=first|exact Wv.D|fail) only [Wv.B,simprocAttr,ah e1,f1,f2,f3,f4,f5, ←hVj,dF,h8];refine aJ (j+1) (by omega) (by omega) rfl Wv.V2
   rw [if_neg k8] at hVj;by_cases k9:k=9
   ·subst k9;obtain rfl:i=1:=by have:argN (9:Int).toNat=1:=rfl;omega
    rw [if_pos rfl] at hVj;have f1:((j:Int)+((N / 2:Nat):Int)).tmod (N:Int)=(((j+N / 2) % N:Nat):Int):=rfl;have b1:=Nat.mod_lt (j+N / 2) (show N>0 by omega);simp (disch:=first|exact Wv.D|fail) only [Wv.B,simprocAttr,ah e1,f1, ←hVj,dF,h8];refine aJ (j+1) (by omega) (by omega) rfl Wv.V2
   rw [if_neg k9] at hVj;have hzero:V j=0→(tab N fun a=>if a<j then AV.v (.int .u32 (V a)) else .v (.int .u32 0))=tab N fun a=>if a<j+1 then AV.v (.int .u32 (V a)) else .v (.int .u32 0):=fun h=>by
    rw [←h8];refine aC fun a ha=>?_
    by_cases q:a=j
    ·rw [if_pos q,if_neg (by omega),h];rfl
    ·rw [if_neg q]
   by_cases k10:k=10
   ·subst k10;obtain rfl:i=1:=by have:argN (10:Int).toNat=1:=rfl;omega
    rw [if_pos rfl] at hVj;by_cases q1:j<nl
    ·have g1:(j:Int)<nl:=by omega
     by_cases q2:li j=1
     ·rw [if_pos ⟨q1,q2⟩] at hVj;simp (disch:=first|exact Wv.D|fail) only [Wv.B,simprocAttr,ah e1,ah g1,ah q2, ←hVj,dF,h8];refine aJ (j+1) (by omega) (by omega) rfl Wv.V2
     ·rw [if_neg (fun h=>q2 h.2)] at hVj;have hz:=hzero hVj;simp (disch:=first|exact Wv.D|fail) only [Wv.B,simprocAttr,ah e1,ah g1,aj q2];refine aJ (j+1) (by omega) (by omega) (by simp (disch:=first|exact Wv.D|fail) only [Wv.B,simprocAttr,hz]) Wv.V2
    ·have g1: ¬ (j:Int)<nl:=by omega
     rw [if_neg (fun h=>q1 h.1)] at hVj;have hz:=hzero hVj;simp (disch:=first|exact Wv.D|fail) only [Wv.B,simprocAttr,ah e1,aj g1];refine aJ (j+1) (by omega) (by omega) (by simp (disch:=first|exact Wv.D|fail) only [Wv.B,simprocAttr,hz]) Wv.V2
   rw [if_neg k10] at hVj;by_cases k15:k=15
   ·subst k15;rw [if_pos rfl] at hVj;simp (disch:=first|exact Wv.D|fail) only [Wv.B,simprocAttr,ah e1, ←hVj,dF,h8];refine aJ (j+1) (by omega) (by omega) rfl Wv.V2
   rw [if_neg k15] at hVj;simp (disch:=first|exact Wv.D|fail) only [Wv.B,simprocAttr,ah e1,aj k1,aj k8,aj k9,aj k10,aj k15];have hr0:(tab N fun a=>if a=j then AV.v (.int .u32 (whS 0 (fun i=>A i j) 0)) else if a<j then AV.v (.int .u32 (V a)) else .v (.int .u32 0))=tab N fun a=>if a<j then AV.v (.int .u32 (V a)) else .v (.int .u32 0):=aC fun a ha=>by
    by_cases q:a=j
    ·rw [if_pos q,if_neg (by omega)];rfl
    ·rw [if_neg q]
   refine dI (σ:=Nat) (fun q=>[(2, .ptr 0 0),(3, .ptr 5 0),(4, .ptr 3 0),(5, .ptr 6 0),(6, .ptr 8 0),(8, .own 9 i),(9, .v (.int .u32 (whL A N i))),(13, .own 10 N),(14, .v (.int .i64 j)),(54, .v (.int .i64 N)),(55, .v (.int .i64 j)),(60, .own 9 i),(61, .v (.int .i64 i)),(62, .v (.int .i64 q))])
    (fun q=>[some (.blk [.v (.int .i64 N)]),some (.blk C),some (.map M),some (.blk [.mp 2]),some (.map (nmE es)),some (.blk [.mp 4]),some (.blk [.v (.int .i64 (N / 2:Nat))]),some (.blk [.fn (.func 136) [] nO]),some (.blk [.v (.int .i64 k), .v (.string s), .v (.int .i64 n), .t nl 1 (tab nl fun i=> .v (.int .i64 (li i))), .t i 5 L]),some (.arr 147 1 (tab i fun a=>AV.t N 1 (tab N fun j=> .v (.int .u32 (A a j)))) 0),some (.arr 149 1 (tab N fun a=>if a=j then AV.v (.int .u32 (whS 0 (fun i=>A i j) q)) else if a<j then .v (.int .u32 (V a)) else .v (.int .u32 0)) 0)])
    (fun q=>q≤i) (fun q=>i - q) 0 (Nat.zero_le _) (by simp (disch:=first|exact Wv.D|fail) only [Wv.B,simprocAttr,hr0]) Wv.V ?_
   intro q hq;by_cases Qy:q<i
   ·have e2:(q:Int)<i:=by omega
    have hwq:whS 0 (fun i=>A i j) q<2 ^ N:=wP (Nat.two_pow_pos N) fun a ha=>hA a (by omega) j Jg
    have haq:=hA q Qy j Jg;have ho:=Wy (whS 0 (fun i=>A i j) q) (A q j) (by omega) (by omega);have hws:whS 0 (fun i=>A i j) (q+1)=whS 0 (fun i=>A i j) q ||| A q j:=rfl
    rw [←hws] at ho;have hr: ∀ z:AV,(tab N fun a=>if a=j then z else if a=j then AV.v (.int .u32 (whS 0 (fun i=>A i j) q)) else if a<j then AV.v (.int .u32 (V a)) else .v (.int .u32 0))=tab N fun a=>if a=j then z else if a<j then AV.v (.int .u32 (V a)) else .v (.int .u32 0):=fun z=>aC fun a ha=>by
     by_cases q:a=j
     ·rw [if_pos q,if_pos q]
     ·rw [if_neg q,if_neg q,if_neg q]
    simp (disch:=first|exact Wv.D|fail) only [Wv.B,simprocAttr,ah e2,ho,dF,hr];refine aJ (q+1) (by omega) (by omega) rfl Wv.V2
   ·obtain rfl:q=i:=by omega
    have akX:(tab N fun a=>if a=j then AV.v (.int .u32 (whS 0 (fun i=>A i j) q)) else if a<j then AV.v (.int .u32 (V a)) else .v (.int .u32 0))=tab N fun a=>if a<j+1 then AV.v (.int .u32 (V a)) else .v (.int .u32 0):=by rw [←h8,hVj]
    simp (disch:=first|exact Wv.D|fail) only [Wv.B,simprocAttr,Int.lt_irrefl,decide_false,akX];refine aJ (j+1) (by omega) (by omega) rfl Wv.V2
  ·obtain rfl:j=N:=by omega
   have h9:(tab j fun a=>if a<j then AV.v (.int .u32 (V a)) else .v (.int .u32 0))=tab j fun a=> .v (.int .u32 (V a)):=aC fun a ha=>if_pos ha
   simp (disch:=first|exact Wv.D|fail) only [Wv.B,simprocAttr,Int.lt_irrefl,decide_false,h9,seA]
end
section
open Go.RowKit
theorem afG (a0 a1 a2 a3:Addr) (w:World):
  CallsD Tryz.prog 62 #[.pointer (some a0), .pointer (some a1), .pointer (some a2), .pointer (some a3)] .returning w fun e u' w'=>u'= .returning∧(e= .returned (.tuple #[])∧w'=w):=by
 refine callsD_of_wpS Tryz.func62 rfl fun c₀ cs hu=>?_
 refine wpS_seq (wpS_region ?_);simp [wpOpsS,go_sem,recoverD,hu,Tryz.ntmps62,Exit.thenS];refine wpS_of_wp ?_;go_wp2
 cases c₀;simp_all [bodyPostS,results,Tryz.results62,Exit.inBlock,Exit.then]
theorem Qz (v:Value) (w:World):(Instr.typeAssert (.iface 98 v) 20 98 true).run Tryz.prog w= .ok (.tuple #[v, .bool true]) w:=by
 simp [Instr.typeAssert,go_sem]
theorem WB (b0 b1 b2 b3:Nat) (e pl:Int) (s0:Value) (i0 e0:Int) (w:World) (h0:w.cell? ⟨b0,0,none⟩=some (.int .i64 pl)) (h1:w.cell? ⟨b1,0,none⟩=some s0) (h2:w.cell? ⟨b2,0,none⟩=some (.int .i64 i0)) (h3:w.cell? ⟨b3,0,none⟩=some (.int .i64 e0)) (z1:w.frozen? ⟨b1,0,none⟩=false) (z2:w.frozen? ⟨b2,0,none⟩=false) (z3:w.frozen? ⟨b3,0,none⟩=false)
  (n01:b0≠b1) (n02:b0≠b2) (n03:b0≠b3) (n12:b1≠b2) (n13:b1≠b3) (n23:b2≠b3):
  CallsD Tryz.prog 62 #[.pointer (some ⟨b0,0,none⟩), .pointer (some ⟨b1,0,none⟩), .pointer (some ⟨b2,0,none⟩), .pointer (some ⟨b3,0,none⟩)] (.panicking [{v:= .iface 98 (.agg #[.int .i64 e]),recovered:=false}]) w fun r u' w'=>
   u'= .panicking [{v:= .iface 98 (.agg #[.int .i64 e]),recovered:=true}]∧(r= .returned (.tuple #[])∧w'=((((w.alloc (.cells #[.int .i64 e] 98)).setCell ⟨b1,0,none⟩ (.slice none 0 0)).setCell ⟨b2,0,none⟩ (.int .i64 pl)).setCell ⟨b3,0,none⟩ (.int .i64 e)).drew):=by
 have l0:=World.block_lt_of_cell? w _ h0;have l1:=World.block_lt_of_cell? w _ h1;have l2:=World.block_lt_of_cell? w _ h2;have l3:=World.block_lt_of_cell? w _ h3;simp only at l0 l1 l2 l3;have m0:w.heap.size≠b0:=by omega
 have m1:w.heap.size≠b1:=by omega
 have m2:w.heap.size≠b2:=by omega
 have m3:w.heap.size≠b3:=by omega
 have x0:(w.alloc (.cells #[.int .i64 e] 98)).cell? ⟨b0,0,none⟩=some (.int .i64 pl):=by simp [go_sem,l0,h0]
 have x1:(w.alloc (.cells #[.int .i64 e] 98)).cell? ⟨b1,0,none⟩=some s0:=by simp [go_sem,l1,h1]
 have x2:(w.alloc (.cells #[.int .i64 e] 98)).cell? ⟨b2,0,none⟩=some (.int .i64 i0):=by simp [go_sem,l2,h2]
 have x3:(w.alloc (.cells #[.int .i64 e] 98)).cell? ⟨b3,0,none⟩=some (.int .i64 e0):=by simp [go_sem,l3,h3]
 have x4:(w.alloc (.cells #[.int .i64 e] 98)).cell? ⟨w.heap.size,0,none⟩=some (.int .i64 e):=by simp [go_sem]
 have y1:(w.alloc (.cells #[.int .i64 e] 98)).frozen? ⟨b1,0,none⟩=false:=by simp [go_sem,l1,z1]
 have y2:(w.alloc (.cells #[.int .i64 e] 98)).frozen? ⟨b2,0,none⟩=false:=by simp [go_sem,l2,z2]
 have y3:(w.alloc (.cells #[.int .i64 e] 98)).frozen? ⟨b3,0,none⟩=false:=by simp [go_sem,l3,z3]
 refine callsD_of_wpS Tryz.func62 rfl fun c₀ cs hu=>?_
 refine wpS_seq (wpS_region ?_);simp [wpOpsS,go_sem,recoverD,hu,Tryz.ntmps62,Exit.thenS];refine wpS_of_wp ?_;have hta:=Qz (.agg #[.int .i64 e]) w;go_wp2
 clear h0 h1 h2 h3 z1 z2 z3 hta l0 l1 l2 l3;generalize hW:w.alloc (.cells #[.int .i64 e] 98)=W at x0 x1 x2 x3 x4 y1 y2 y3 ⊢;generalize w.heap.size=b4 at m0 m1 m2 m3 x4 ⊢;go_region
 all_goals
  clear x0 x1 x2 x3 x4 y1 y2 y3 m0 m1 m2 m3 n01 n02 n03 n12 n13 n23;go_wp2
  cases c₀;simp_all [bodyPostS,results,Tryz.results62]
end
section
open Go.RowKit Wv
theorem Ea (x:Par) (t:Int) (ns:Nms) (s:ByteArray):RD Tryz.prog 63 [.ptr 0 0, .v (.string s)] (hT x t ns) (fun r=>aW ns s=none∧r= .tup []) (fun r=>aW ns s≠none∧r=kJ 230):=by
 refine RD.of ?_ (by rintro r ⟨_,rfl⟩;exact .clo Wv.c) (by rintro r ⟨_,rfl⟩;exact .clo (gU 230)) (Ja x t ns);have hlm:=vC s ns;unfold hT tyC;refine Wv.HTP.by 18 [0,1,5] [(1000000,2)] [] Tryz.func63 rfl rfl rfl ?base ?_
 case base=>rfl
 cases hq:aW ns s with
 | none=>
  rw [hq] at hlm;simp only [Option.map_none] at hlm;simp (disch:=first|exact Wv.D|fail) only [Wv.B,simprocAttr,yg,hlm];refine aI (fst:=[]) (cap:=[]) (bg true 230) ?_ (by rintro av h' ⟨hb,_⟩;cases hb);rintro av h' ⟨_,rfl,rfl⟩;simp (disch:=first|exact Wv.D|fail) only [Wv.B,simprocAttr,hq]
 | some r=>
  rw [hq] at hlm;simp only [Option.map_some,shA] at hlm;simp (disch:=first|exact Wv.D|fail) only [Wv.B,simprocAttr,yg,hlm];refine aI (fst:=[]) (cap:=[]) (bg false 230) (by rintro av h' ⟨hb,_⟩;cases hb) ?_;rintro av h' ⟨_,rfl,rfl⟩;simp (disch:=first|exact Wv.D|fail) only [Wv.B,simprocAttr,bI,hq]
theorem WC (s:ByteArray) (r:Bool × Nat): ∀ ns:Nms,aW ns s=none→iP (.string s) (shA r) (nsE ns)=nsE (ns++[(s,r)])
 | [],_=>rfl
 | p::q,h=>by
  unfold aW at h;by_cases e:s=p.1
  ·rw [if_pos e] at h;cases h
  ·rw [if_neg e] at h;have ih:=WC s r q h;show (if keyE (.string s) (.string p.1)=true then _ else _)=_;have:keyE (.string s) (.string p.1)=decide (s=p.1):=sQ;rw [this,if_neg (by simp [e])];show (Value.string p.1,shA p.2)::iP (.string s) (shA r) (nsE q)=_;rw [ih];rfl
theorem Bq {m:Nat}: ∀ {h:Hp},loH m h→loH m (h.map froze)
 | [],q=>q
 | none::r,q=>Bq (h:=r) q
 | some (.blk c)::r,q=>⟨q.1,Bq q.2⟩
 | some (.arr T s c fz)::r,q=>⟨q.1,Bq q.2⟩
 | some (.map es)::r,q=>⟨q.1,Bq q.2⟩
theorem qP {m:Nat}: ∀ {a b:Hp},loH m (a++b)=(loH m a∧loH m b)
 | [],b=>by show loH m b=(True∧loH m b);rw [true_and]
 | none::r,b=>qP (a:=r)
 | some (.blk c)::r,b=>by show (loL m c∧loH m (r++b))=((loL m c∧loH m r)∧loH m b);rw [qP,and_assoc]
 | some (.arr T s c fz)::r,b=>by show (loL m c∧loH m (r++b))=((loL m c∧loH m r)∧loH m b);rw [qP,and_assoc]
 | some (.map es)::r,b=>by show (loL m (es.map (·.2))∧loH m (r++b))=((loL m (es.map (·.2))∧loH m r)∧loH m b);rw [qP,and_assoc]
theorem BA (o0 o1 o2 o3 o4 o5:Option Ob) (r0:Hp) (P:List AV) (hP:P.length=8) (ns:Nms) (s:ByteArray) (r:Bool × Nat) (hn:aW ns s=none) (hlo:loH (r0.length+8) (o0::o1::o2::o3::o4::o5::some (.map (nsE ns))::some (.blk (P++[.mp 6]))::r0)):
  HT Tryz.prog 64 [.ptr 7 0, .v (.string s),shA r] (o0::o1::o2::o3::o4::o5::some (.map (nsE ns))::some (.blk (P++[.mp 6]))::r0)
   (fun q h'=>q= .tup []∧h'=froze o0::froze o1::froze o2::froze o3::froze o4::froze o5::some (.map (nsE (ns++[(s,r)])))::some (.blk (P++[.mp 6]))::r0.map froze):=by
 have hput:=WC s r ns hn;unfold shA at hput ⊢;match P,hP with
 | [p0,p1,p2,p3,p4,p5,p6,p7],_=>
 simp only [List.cons_append,List.nil_append] at hlo ⊢;have T:HT Tryz.prog 64 [.ptr 7 0, .v (.string s), .g [.v (.bool r.1), .v (.int .i64 r.2)]] (o0::o1::o2::o3::o4::o5::some (.map (nsE ns))::some (.blk [p0,p1,p2,p3,p4,p5,p6,p7, .mp 6])::r0)
   (fun q h'=>q= .tup []∧h'.take (r0.length+8)=froze o0::froze o1::froze o2::froze o3::froze o4::froze o5::some (.map (nsE (ns++[(s,r)])))::some (.blk [p0,p1,p2,p3,p4,p5,p6,p7, .mp 6])::r0.map froze):=by
  refine Wv.HT.by 12 [2,0,1,5] [(1,6),(1000000,r0.length+8)] [] Tryz.func64 rfl rfl rfl ?base ?_
  case base=>rfl
  have hget: ∀ o:Option Ob,(List.map froze (r0++[o]))[r0.length]? =some (froze o):=fun o=>by rw [List.getElem?_map,List.getElem?_concat_length];rfl
  have hend: ∀ o:Option Ob,List.take r0.length (List.map froze (r0++[o]))=List.map froze r0:=fun o=>by
   rw [List.map_append,List.take_append_of_le_length (by rw [List.length_map];exact Nat.le_refl _),List.take_of_length_le (by rw [List.length_map];exact Nat.le_refl _)]
  simp (disch:=first|exact Wv.D|fail) only [Wv.B,simprocAttr,yg,hput,hget,hend,List.length_cons]
 have hfin:loH (r0.length+8) (froze o0::froze o1::froze o2::froze o3::froze o4::froze o5::some (.map (nsE (ns++[(s,r)])))::some (.blk [p0,p1,p2,p3,p4,p5,p6,p7, .mp 6])::r0.map froze):=by
  have h1:=Bq hlo;have e1: ∀ es:List (Value × AV),List.map froze (o0::o1::o2::o3::o4::o5::some (.map es)::some (.blk [p0,p1,p2,p3,p4,p5,p6,p7, .mp 6])::r0)=[froze o0,froze o1,froze o2,froze o3,froze o4,froze o5]++some (.map es)::some (.blk [p0,p1,p2,p3,p4,p5,p6,p7, .mp 6])::r0.map froze:=fun es=>rfl
  rw [e1,qP] at h1;show loH _ ([froze o0,froze o1,froze o2,froze o3,froze o4,froze o5]++some (.map (nsE (ns++[(s,r)])))::some (.blk [p0,p1,p2,p3,p4,p5,p6,p7, .mp 6])::r0.map froze);rw [qP];exact ⟨h1.1,fun a ha=> .clo (qN _ a ha),h1.2.2⟩
 refine (((T.toP fun _ _=>False).cut (fun q h' e=>?_) (fun _ _ e=>e.elim)).mono ?_ ?_).toT fun _ _ e=>e
 ·obtain ⟨rfl,e⟩:=e;refine ⟨.clo Wv.c,?_⟩;simp only [List.length_cons];rw [e];exact hfin
 ·rintro q h2 ⟨h',⟨rfl,e⟩,rfl⟩;refine ⟨rfl,?_⟩;simp only [List.length_cons];exact e
 ·rintro q h2 ⟨_,e,_⟩;exact e.elim
def tyP (x:Par) (t:Int):List AV:=[.v (.int .i64 x.n), .v (.int .u32 x.p), .v (.int .i64 x.r), .t x.ch.length 1 (x.ch.map fun (c:Nat)=> .v (.int .u32 c)), .v (.int .u32 x.sp), .v (.int .i64 x.wt), .v (.int .u32 x.er), .v (.int .i64 t)]
theorem NY (x:Par) (t:Int): ∀ a,a∈tyP x t→Clo a:=by
 have h:=dY x;simp only [dA,List.mem_cons,List.not_mem_nil,or_false,forall_eq_or_imp,forall_eq] at h;obtain ⟨h1,h2,h3,h4,h5,h6,h7⟩:=h;unfold tyP;simp only [List.mem_cons,List.not_mem_nil,or_false,forall_eq_or_imp,forall_eq];exact ⟨h1,h2,h3,h4,h5,h6,h7, .v _⟩
theorem afH {x:Par} {t:Int} {ns:Nms} {f:FuncId} {args:List AV} {R p:AV→Prop} (T:RD Tryz.prog f (.ptr 0 0::args) (hT x t ns) R p) (o0 o1 o2 o3 o4 o5:Option Ob) (r:Hp) (ha: ∀ (a:AV),a∈args→Clo a) (hR: ∀ r,R r→Clo r) (hp: ∀ r,p r→Clo r):
  RD Tryz.prog f (.ptr 7 0::args) (o0::o1::o2::o3::o4::o5::some (.map (nsE ns))::some (.blk (tyP x t++[.mp 6]))::r) R p:=by
 have h:=dY x;simp only [dA,List.mem_cons,List.not_mem_nil,or_false,forall_eq_or_imp,forall_eq] at h;obtain ⟨h1,h2,h3,h4,h5,h6,h7⟩:=h;refine RD.frame (σ:=fun i=>if i=0 then 7 else 6) T ⟨fun i j hi hj e=>?_,fun i o ho=>?_⟩ ⟨.ptr (by show 0<2;omega),RnL.clo ha⟩ hR hp
 ·have hi':i<2:=hi;have hj':j<2:=hj;have e':(if i=0 then 7 else 6)=(if j=0 then 7 else 6):=e;split at e'<;>split at e'<;>omega
 ·unfold hT at ho ⊢;match i with
  | 0=>
   simp at ho;subst ho;exact ⟨_,_,rfl,rfl, .clo h1, .clo h2, .clo h3, .clo h4, .clo h5, .clo h6, .clo h7, .clo (.v _), .mp (by show 1<2;omega),trivial⟩
  | 1=>
   simp at ho;subst ho;exact ⟨_,_,rfl,rfl,rfl,RnL.clo (qN ns)⟩
  | i+2=>simp at ho
end
end Go.Proofs.YtljfgdlgmdcmfaaGreat
