/- Parts of a proof. -/
import Derived.Shelf.Small.Bits
import Derived.Shelf.Strconv.Itoa0
import Derived.Ground.SlgnProg
import Derived.Shelf.SlicesE.Index
import Derived.Shelf.SlicesE.Equal
import Derived.Shelf.SlicesE.Compact
import Derived.Shelf.SlicesE.Clone
import Derived.Ground.SlgfProg
import Derived.Shelf.SlicesE.IndexFunc
import Derived.Test.YthlhibpfagekfaaGreatProg
import Derived.Test.YthlhibpfagekfaaGreatQpg
import Derived.Test.YthlhibpfagekfaaGreatQph
import Derived.Lib.OwnBridge
import Derived.Deep.RegionWith
import Derived.Laws.EntriesVeiled
import Derived.Test.YthlhibpfagekfaaGreatQpe
import Derived.Test.YthlhibpfagekfaaGreatQpf
set_option linter.unusedVariables false
set_option linter.defProp false
set_option linter.unusedSimpArgs false
set_option maxHeartbeats 1000000
set_option maxRecDepth 100000
namespace Go.Proofs
open Go.Shelf
def Tryz.lays129_ren:Go.Shelf.Ren:=⟨fun | 129=>86 | n=>n,fun | 53=>67 | 3=>3 | 4=>4 | 46=>162 | 5=>5 | 9=>9 | n=>n,fun | n=>n⟩
theorem Tryz.lays129:Go.Proofs.Lays.n129 Tryz.prog Tryz.lays129_ren:={
 mixed:=by kernel_rfl
 f129:=Tryz.func86.trans (congrArg some (by kernel_rfl))
 t3:=Tryz.underlying3
 a3:=Tryz.isAgg3
 z3:=Tryz.sizeOf3
 v3:=Tryz.zeroValue3
 t4:=Tryz.underlying4
 a4:=Tryz.isAgg4
 z4:=Tryz.sizeOf4
 v4:=Tryz.zeroValue4
 t5:=Tryz.underlying5
 a5:=Tryz.isAgg5
 z5:=Tryz.sizeOf5
 v5:=Tryz.zeroValue5
 t9:=Tryz.underlying9
 a9:=Tryz.isAgg9
 z9:=Tryz.sizeOf9
 v9:=Tryz.zeroValue9
 t46:=Tryz.underlying162
 a46:=Tryz.isAgg162
 z46:=Tryz.sizeOf162
 v46:=Tryz.zeroValue162
 t53:=Tryz.underlying67
 a53:=Tryz.isAgg67
 z53:=Tryz.sizeOf67
 v53:=Tryz.zeroValue67}
theorem Tryz.bits_Len64 (x:Int) (w:World) (h0:0≤x) (h1:x≤18446744073709551615):
  Calls Tryz.prog 86 #[.int .u64 x] w fun e w'=>e= .returned (.int .i64 (Lib.bitLen x.toNat))∧w'=w:=Any.bits_Len64 Tryz.lays129 x w h0 h1
def Tryz.laysSlE43_f84_ren:Go.Shelf.Ren:=⟨fun | 43=>84 | n=>n,fun | 22=>23 | 23=>22 | 3=>3 | 4=>4 | 0=>0 | n=>n,fun | n=>n⟩
theorem Tryz.laysSlE43_f84:Go.Proofs.SlLaysE.n43 Tryz.prog Tryz.laysSlE43_f84_ren:={
 mixed:=by kernel_rfl
 f43:=⟨Tryz.f84.name,by decide,Tryz.func84.trans (congrArg some (by kernel_rfl))⟩
 t0:=Tryz.underlying0
 a0:=Tryz.isAgg0
 z0:=Tryz.sizeOf0
 v0:=Tryz.zeroValue0
 t3:=Tryz.underlying3
 a3:=Tryz.isAgg3
 z3:=Tryz.sizeOf3
 v3:=Tryz.zeroValue3
 t4:=Tryz.underlying4
 a4:=Tryz.isAgg4
 z4:=Tryz.sizeOf4
 v4:=Tryz.zeroValue4
 t22:=Tryz.underlying23
 a22:=Tryz.isAgg23
 z22:=Tryz.sizeOf23
 v22:=Tryz.zeroValue23
 a23:=Tryz.isAgg22
 z23:=Tryz.sizeOf22}
open Go.RowKit Go.Lib Go.Sort in
theorem Tryz.slices_Compact {α:Type} [Inhabited α] [DecidableEq α] (enc:α→Value) (hO:OneCell enc) (heq:EqlAt Tryz.prog 22 enc (fun x y=>decide (x=y))) (hne:NeqAt Tryz.prog 22 enc (fun x y=>decide (x=y))) (zr:α) (v23: ∀ w,(zeroValue 22).run Tryz.prog w= .ok (enc zr) w) (blk off cap:Nat) (d:Array α) (w:World) (hH:Holds enc w blk off d) (hsz:d.size≤9223372036854775807) (hcap:d.size≤cap):
  Calls Tryz.prog 84 #[.slice (some ⟨blk,off,none⟩) d.size cap] w fun e w'=>e= .returned (.slice (some ⟨blk,off,none⟩) (compactUpTo d d.size).length cap)∧ ∃ q,w'=putRow enc (Sort.ahead w q) blk off (compactUpTo d d.size++List.replicate (d.size - (compactUpTo d d.size).length) zr).toArray:=AnyE.slices_Compact Tryz.laysSlE43_f84 enc hO heq hne zr v23 blk off cap d w hH hsz hcap
def Tryz.laysSlE041_f82_ren:Go.Shelf.Ren:=⟨fun | 41=>82 | n=>n,fun | 22=>23 | 23=>22 | 4=>4 | n=>n,fun | n=>n⟩
theorem Tryz.laysSlE041_f82:Go.Proofs.SlLaysE0.n41 Tryz.prog Tryz.laysSlE041_f82_ren:={
 mixed:=by kernel_rfl
 f41:=⟨Tryz.f82.name,by decide,Tryz.func82.trans (congrArg some (by kernel_rfl))⟩
 t4:=Tryz.underlying4
 a4:=Tryz.isAgg4
 z4:=Tryz.sizeOf4
 v4:=Tryz.zeroValue4
 t22:=Tryz.underlying23
 a22:=Tryz.isAgg23
 z22:=Tryz.sizeOf23
 v22:=Tryz.zeroValue23}
open Go.RowKit Go.Lib in
theorem Tryz.slices_Clone (i0:TypeInfo) (z:Value) (size bytes:Nat) (hi:Tryz.prog.info? 22=some i0) (hz0:i0.zero=some z) (hz1:i0.size=size) (hz2:i0.bytes=bytes) (hzs:z.cells.size=size) (hsz:0<size) (z23: ∀ w,(Go.sizeOf 22).run Tryz.prog w= .ok size w) (b off n c:Nat) (news:List Value) (w:World) (hl:news.length=n*size) (hn:n≤maxLen) (hbig:n*bytes≤140737488355328) (hc: ∀ j u,news[j]? =some u→w.cell? ⟨b,off+j,none⟩=some u) (h1: ∀ u∈news,u.oneCell'=true):
  Calls Tryz.prog 82 #[.slice (some ⟨b,off,none⟩) n c] w fun e w'=> ∃ v',e= .returned v'∧w'.ownsRow w.heap.size 22 size v' n news∧v'≠ .slice none 0 0∧Below w.heap.size w w':=AnyE.slices_Clone Tryz.laysSlE041_f82 i0 z size bytes hi hz0 hz1 hz2 hzs hsz z23 b off n c news w hl hn hbig hc h1
end Go.Proofs
namespace Go.Proofs.YthlhibpfagekfaaGreat
section
open Go.RowKit Go.Lib Go.Sort
theorem adj_nodup (s:List Int) (hs:s.Pairwise (fun a b=>a≤b)) (h: ∀ j (hj:j<s.length),j=0∨s[j]≠s[j - 1]):s.Nodup:=by
 rw [List.Nodup,List.pairwise_iff_getElem];intro i j hi hj hij he;rcases h j hj with h0 | h0
 ·omega
 ·apply h0;have a1:s[i]≤s[j - 1]:=by
   by_cases e:i=j - 1
   ·subst e;exact Int.le_refl _
   ·exact (List.pairwise_iff_getElem.1 hs) i (j - 1) hi (by omega) (by omega)
  have a2:s[j - 1]≤s[j]:=(List.pairwise_iff_getElem.1 hs) (j - 1) j (by omega) hj (by omega);omega
theorem nodup_adj (s:List Int) (hs:s.Nodup): ∀ j (hj:j<s.length),j=0∨s[j]≠s[j - 1]:=by
 intro j hj;by_cases h0:j=0
 ·exact .inl h0
 ·right;have h:=(List.pairwise_iff_getElem.1 hs) (j - 1) j (by omega) hj (by omega);exact fun e=>h e.symm
theorem compact_full (d:Array Int):(compactUpTo d d.size).length=d.size↔ ∀ j (hj:j<d.toList.length),j=0∨d.toList[j]≠d.toList[j - 1]:=by
 unfold compactUpTo;rw [List.length_map];have e:((List.range d.size).filter (keeps d)).length=d.size↔((List.range d.size).filter (keeps d)).length=(List.range d.size).length:=by rw [List.length_range]
 rw [e,List.length_filter_eq_length_iff];constructor
 ·intro h j hj;have hj':j<d.size:=by simpa using hj
  have hk:=h j (List.mem_range.2 hj');simp only [keeps,decide_eq_true_eq] at hk;rw [getElem!_pos d j hj',getElem!_pos d (j - 1) (by omega)] at hk;simpa using hk
 ·intro h j hj;have hj':j<d.size:=List.mem_range.1 hj;have hk:=h j (by simpa using hj');simp only [keeps,decide_eq_true_eq];rw [getElem!_pos d j hj',getElem!_pos d (j - 1) (by omega)];simpa using hk
def ints (l:List Nat):List Int:=l.map Int.ofNat
def sorted (l:List Nat):List Int:=(ints l).mergeSort fun x y=>decide (x≤y)
theorem sorted_length (l:List Nat):(sorted l).length=l.length:=by unfold sorted ints;rw [List.length_mergeSort,List.length_map]
theorem compact_nodup (l:List Nat):(compactUpTo (sorted l).toArray (sorted l).toArray.size).length=l.length↔l.Nodup:=by
 have hlen:=sorted_length l;have hp:(sorted l).Perm (ints l):=List.mergeSort_perm _ _;have hnd:(sorted l).Nodup↔l.Nodup:=by
  rw [hp.nodup_iff];unfold ints List.Nodup;rw [List.pairwise_map];constructor
  ·intro h;exact h.imp (fun hab e=>hab (congrArg Int.ofNat e))
  ·intro h;exact h.imp (fun hab e=>hab (Int.ofNat.inj e))
 have hs:(sorted l).Pairwise (fun a b=>a≤b):=by
  have:=List.pairwise_mergeSort (le:=fun x y:Int=>decide (x≤y)) (by intro a b c;simp;omega) (by intro a b;simp;omega) (ints l);exact this.imp (by intro a b h;simpa using h)
 have e1:(compactUpTo (sorted l).toArray (sorted l).toArray.size).length=l.length↔(compactUpTo (sorted l).toArray (sorted l).toArray.size).length=(sorted l).toArray.size:=by
  rw [List.size_toArray,hlen]
 rw [e1,compact_full, ←hnd];exact ⟨adj_nodup _ hs,nodup_adj _⟩
theorem natbeq (m n:Nat):((m:Int)==(n:Int))=decide (m=n):=by rw [Bool.eq_iff_iff,beq_iff_eq,decide_eq_true_eq];omega
theorem infoU32:(Tryz.prog.info? 22).map (fun i=>(i.zero,i.size,i.bytes))=some (some (.int .u32 0),1,4):=by kernel_rfl
theorem clone_any (b off cap:Nat) (l:List Nat) (w:World) (hl:RowAt w b off l) (hlen:l.length≤35184372088832):
  Calls Tryz.prog 82 #[.slice (some ⟨b,off,none⟩) l.length cap] w fun e w'=> ∃ g cap',e= .returned (.slice (some ⟨g,0,none⟩) l.length cap')∧w.heap.size≤g∧g<w'.heap.size∧l.length≤cap'∧cap'≤maxLen∧Holds (Value.int .u32) w' g 0 (ints l).toArray∧Below w.heap.size w w':=by
 obtain ⟨i0,hi,hz0,hz1,hz2⟩:=info_parts infoU32;refine (Tryz.slices_Clone i0 (.int .u32 0) 1 4 hi hz0 hz1 hz2 rfl (by decide) Tryz.sizeOf22 b off l.length cap ((ints l).map (Value.int .u32)) w (by simp [ints]) (by unfold maxLen;omega) (by omega) ?_ ?_).mono ?_
 ·intro j u hj;rw [List.getElem?_map] at hj;unfold ints at hj;rw [List.getElem?_map] at hj;by_cases h:j<l.length
  ·rw [List.getElem?_eq_getElem h] at hj;simp at hj;subst hj;exact hl.cell j h
  ·rw [List.getElem?_eq_none (by omega)] at hj;simp at hj
 ·intro u hu;obtain ⟨z,_,rfl⟩:=List.mem_map.1 hu;rfl
 ·rintro e w' ⟨v',rfl,hown,hne,hb⟩;obtain ⟨g,cap',rfl,h1,h2,h3,h4,h5,h6⟩:=holds_of_ownsRow hown hne;exact ⟨g,cap',rfl,h1,h2,h3,h4,h6,hb⟩
theorem below_grow0 {B:Nat} {a w:World} (h:RowKit.Below B a w) (hB:B≤w.heap.size) (os:Array Obj):RowKit.Below B a (grow w os):=
 h.trans ⟨rfl,rfl,rfl,by simp [grow],fun k hk=>by show (w.heap++os)[k]? =_;rw [Array.getElem?_append_left (by omega)]⟩
theorem sortl_any (g cap:Nat) (l:List Nat) (w:World) (hH:Holds (Value.int .u32) w g 0 (ints l).toArray) (hg:g<w.heap.size) (hlen:l.length≤24):
  Calls Tryz.prog 83 #[.slice (some ⟨g,0,none⟩) l.length cap] w fun e w'=>e= .returned (.tuple #[])∧Holds (Value.int .u32) w' g 0 (sorted l).toArray∧RowKit.Below g w w':=by
 have hz:(ints l).length=l.length:=by unfold ints;rw [List.length_map]
 have h:=sort_any g 0 cap (ints l) w hH hg (by omega);rw [hz] at h;refine h.mono ?_;rintro e w' ⟨he,n,os,rfl⟩;have hs:(sorted l).toArray.size=(ints l).toArray.size:=by rw [List.size_toArray,List.size_toArray,sorted_length,hz]
 have hsz:(putRow (Value.int .u32) (Sort.ahead w n) g 0 (sorted l).toArray).heap.size=w.heap.size:=by simp [putRow,mapBlock,Sort.ahead]
 refine ⟨he,?_,?_⟩
 ·exact holds_grow _ _ _ _ _ _ (by rw [show ((ints l).mergeSort fun x y=>decide (x≤y))=sorted l from rfl,hsz];exact hg) (holds_putRow _ _ _ _ _ _ (holds_ahead _ _ n _ _ _ hH) hs)
 ·exact below_grow0 (below_putRow (RowKit.Below.refl g w) (Nat.le_refl _)) (by rw [show ((ints l).mergeSort fun x y=>decide (x≤y))=sorted l from rfl,hsz];omega) os
theorem compactl_any (g cap:Nat) (l:List Nat) (w:World) (hH:Holds (Value.int .u32) w g 0 (sorted l).toArray) (hlen:l.length≤24) (hcap:l.length≤cap):
  Calls Tryz.prog 84 #[.slice (some ⟨g,0,none⟩) l.length cap] w fun e w'=> ∃ m:Nat,e= .returned (.slice (some ⟨g,0,none⟩) m cap)∧Hid (decide (m=l.length)=decide l.Nodup)∧m≤24∧RowKit.Below g w w':=by
 have hs:(sorted l).toArray.size=l.length:=by rw [List.size_toArray,sorted_length]
 have h:=Tryz.slices_Compact (Value.int .u32) (fun _=>rfl) (EqlAt.intD _ _ _) (NeqAt.intD _ _ _) 0 Tryz.zeroValue22 g 0 cap (sorted l).toArray w hH (by omega) (by omega);rw [hs] at h;refine h.mono ?_;rintro e w' ⟨he,q,rfl⟩;have hc:=compact_nodup l;rw [hs] at hc;have hle:(compactUpTo (sorted l).toArray l.length).length≤l.length:=by
  unfold compactUpTo;rw [List.length_map];exact Nat.le_trans (List.length_filter_le _ _) (by rw [List.length_range];exact Nat.le_refl _)
 exact ⟨_,he,by show _=_;rw [decide_eq_decide];exact hc,by omega,below_putRow (RowKit.Below.refl g w) (Nat.le_refl _)⟩
theorem pc7_any (b off cap a:Nat) (l:List Nat) (w:World) (hl:RowAt w b off l) (hlen:l.length≤24)
  (ha:w.cell? ⟨a,3,none⟩=some (.slice (some ⟨b,off,none⟩) l.length cap)) (haw:a<w.heap.size):
  Calls Tryz.prog 81 #[.pointer (some ⟨a,0,none⟩)] w fun r w'=>r= .returned (.bool (decide l.Nodup))∧RowKit.Below w.heap.size w w':=by
 go_enter Tryz.func81,Tryz.ntmps81
 go_wp2_with fail
 refine (clone_any _ _ _ _ _ hl (by omega)).mono ?_;rintro e w1 ⟨g,cap',rfl,hg,hg1,hc1,hc2,hH,hb1⟩;have hH0:=Lib.hid hH;clear hH;have hc:Hid (l.length≤cap'):=hc1;go_wp2_with fail
 refine (sortl_any _ _ _ _ hH0.out hg1 hlen).mono ?_;rintro e w2 ⟨rfl,hH2,hb2⟩;have hH3:=Lib.hid hH2;clear hH2 hH0;have ha2: ∀ wx,RowKit.Below g w2 wx→wx.cell? ⟨a,3,none⟩=some (.slice (some ⟨b,off,none⟩) l.length cap):=fun wx h=>by
  rw [h.cell (p:=⟨a,3,none⟩) (show a<g by omega),hb2.cell (p:=⟨a,3,none⟩) (show a<g by omega),hb1.cell (p:=⟨a,3,none⟩) haw];exact ha
 have ha2':=Lib.hid ha2;have haw2:=ha2 w2 (RowKit.Below.refl _ _);clear ha2;go_wp2_with fail
 go_region_with (go_at_call 84;refine (compactl_any _ _ _ _ (by exact hH3.out) hlen hc.out).mono ?_;rintro e w3 ⟨m,rfl,hm,hm24,hb3⟩;have ha3:=ha2'.out w3 ((RowKit.Below.refl g w2).drew.trans hb3))
 all_goals go_wp2
 all_goals go_ret
 all_goals refine ⟨ret_bool ?_,(hb1.trans (hb2.mono hg)).trans (((RowKit.Below.refl _ w2).drew.trans (by assumption)).mono hg)⟩
 all_goals rw [←hm.out]
 all_goals exact natbeq m l.length
end
section
open Go.RowKit
theorem pcon_any (b off cap a f c:Nat) (l:List Nat) (s:Nat) (x:Par) (cv:Value) (w:World) (hl:RowAt w b off l) (hlen:l.length≤140737488351232) (hB:BoxP w a x cv) (ha:a<w.heap.size) (hs0:0<s) (hs1:s≤137438953408)
  (hf:w.cell? ⟨f,0,none⟩=some (.func (.func 72) #[] #[.pointer (some ⟨c,0,none⟩)])) (hfw:f<w.heap.size) (hc:w.cell? ⟨c,0,none⟩=some (.int .i64 s)) (hcw:c<w.heap.size):
  Calls Tryz.prog 79 #[.slice (some ⟨b,off,none⟩) l.length cap, .func (.func 80) #[] #[.pointer (some ⟨a,0,none⟩), .pointer (some ⟨f,0,none⟩)]] w fun r w'=>
   r= .returned (.bool (l.any (badB mPrime s x.sp)))∧Below w.heap.size w w':=by
 have hB':=Lib.hid hB;have hf':=Lib.hid hf;have hc':=Lib.hid hc;clear hB hf hc;go_enter Tryz.func79,Tryz.ntmps79
 go_wp2_with (go_at_call 115;refine (pidx_any _ _ _ _ _ _ _ _ _ _ _ hl hlen hB'.out ha hs0 hs1 hf'.out hfw hc'.out hcw).mono ?_;rintro e w1 ⟨rfl,hb1⟩)
 go_ret
 exact ⟨ret_bool (idxOf_nonneg _ _),hb1⟩
theorem pc6_any (b off cap a f c:Nat) (l:List Nat) (s:Nat) (x:Par) (w:World) (hl:RowAt w b off l) (hlen:l.length≤140737488351232) (hB:BoxP w a x (.slice (some ⟨b,off,none⟩) l.length cap)) (ha:a<w.heap.size) (hs0:0<s) (hs1:s≤137438953408)
  (hf:w.cell? ⟨f,0,none⟩=some (.func (.func 72) #[] #[.pointer (some ⟨c,0,none⟩)])) (hfw:f<w.heap.size) (hc:w.cell? ⟨c,0,none⟩=some (.int .i64 s)) (hcw:c<w.heap.size):
  Calls Tryz.prog 78 #[.pointer (some ⟨a,0,none⟩), .pointer (some ⟨f,0,none⟩)] w fun r w'=>
   r= .returned (.bool (!(l.any (badB mPrime s x.sp))))∧Below w.heap.size w w':=by
 have hB':=Lib.hid hB;have hf':=Lib.hid hf;have hc':=Lib.hid hc;have l3:=hB.ch;clear hB hf hc;generalize hany:l.any (badB mPrime s x.sp)=r0;have hany':=Lib.hid hany;clear hany;go_enter Tryz.func78,Tryz.ntmps78
 go_wp2_with (go_at_call 79;refine (pcon_any _ _ _ _ _ _ _ _ _ _ _ hl hlen hB'.out ha hs0 hs1 hf'.out hfw hc'.out hcw).mono ?_;rintro e w1 ⟨rfl,hb1⟩;rw [hany'.out])
 go_ret
 exact ⟨rfl,hb1⟩
def SliceAt (w:World) (v:Value) (l:List Nat):Prop:=
 ∃ (p:Option Addr) (cap:Nat),v= .slice p l.length cap∧l.length≤cap∧l.length≤140737488351232∧(l≠[]→ ∃ b off,p=some ⟨b,off,none⟩∧RowAt w b off l)
structure ParOk (x:Par):Prop where
 n0: -9223372036854775808≤x.n
 n1:x.n≤9223372036854775807
 p1:x.p<4294967296
 r0: -9223372036854775808≤x.r
 r1:x.r≤9223372036854775807
 sp1:x.sp<4294967296
def Par.val (x:Par) (cv:Value):Value:= .agg #[.int .i64 x.n, .int .u32 x.p, .int .i64 x.r,cv, .int .u32 x.sp, .int .i64 x.wt, .int .u32 x.er]
def conds (pr:Nat→Bool) (x:Par):List Bool:=
 [decide (0<x.t pr),lenB x.ch.length,wtB x,goodS pr (stepOf pr x) x.sp,!(x.ch.any (badB pr (stepOf pr x) x.sp)),decide x.ch.Nodup]
theorem okB_conds (pr:Nat→Bool) (x:Par):okB pr x=(isDim x.n && (conds pr x).all id):=by
 unfold okB conds;simp
variable {pr:Nat→Bool}{x:Par}
theorem conds_step {k:Nat} {b:Bool} (h: ∀ c,c∈(conds pr x).take k→c=true) (hk:(conds pr x)[k]? =some b) (hb:b=true): ∀ c,c∈(conds pr x).take (k+1)→c=true:=by
 intro c hc;rw [List.take_add_one] at hc;rcases List.mem_append.1 hc with h1 | h1
 ·exact h c h1
 ·rw [hk] at h1;simp at h1;rw [h1];exact hb
theorem conds_no {k:Nat} (hk:(conds pr x)[k]? =some false):chk pr x=2:=by
 have:okB pr x=false:=by
  rw [okB_conds];have:(conds pr x).all id=false:=by
   rw [List.all_eq_false];exact ⟨false,List.mem_of_getElem? hk,by simp⟩
  rw [this,Bool.and_false]
 unfold chk;rw [this];rfl
theorem conds_yes (hd:isDim x.n=true) (h: ∀ c,c∈(conds pr x).take 6→c=true):chk pr x=0:=by
 have:okB pr x=true:=by
  rw [okB_conds,hd,Bool.true_and,List.all_eq_true];intro c hc;exact h c hc
 unfold chk;rw [this];rfl
structure ChkW (wr:World) (A T:Nat) (x:Par) (cv:Value) (t s:Nat):Prop where
 size:T+4≤wr.heap.size
 box:BoxP wr A x cv
 ct:wr.cell? ⟨T,0,none⟩=some (.int .i64 t)
 cs:wr.cell? ⟨T+1,0,none⟩=some (.int .i64 s)
 cf:wr.cell? ⟨T+1+1,0,none⟩=some (.func (.func 72) #[] #[.pointer (some ⟨T+1,0,none⟩)])
 c0:wr.cell? ⟨T+1+1+1,0,none⟩=some (.func (.func 74) #[] #[.pointer (some ⟨T,0,none⟩)])
 c1:wr.cell? ⟨T+1+1+1,1,none⟩=some (.func (.func 75) #[] #[.pointer (some ⟨A,0,none⟩)])
 c2:wr.cell? ⟨T+1+1+1,2,none⟩=some (.func (.func 76) #[] #[.pointer (some ⟨A,0,none⟩)])
 c3:wr.cell? ⟨T+1+1+1,3,none⟩=some (.func (.func 77) #[] #[.pointer (some ⟨T+1+1,0,none⟩), .pointer (some ⟨A,0,none⟩)])
 c4:wr.cell? ⟨T+1+1+1,4,none⟩=some (.func (.func 78) #[] #[.pointer (some ⟨A,0,none⟩), .pointer (some ⟨T+1+1,0,none⟩)])
 c5:wr.cell? ⟨T+1+1+1,5,none⟩=some (.func (.func 81) #[] #[.pointer (some ⟨A,0,none⟩)])
theorem ChkW.below {w w':World} {A T:Nat}  {cv:Value} {t s:Nat} (h:ChkW w A T x cv t s) (hA:A<T) (hb:Below w.heap.size w w'):ChkW w' A T x cv t s:=by
 have hs:=h.size;refine ⟨Nat.le_trans h.size hb.size,h.box.below hb (by omega),?_,?_,?_,?_,?_,?_,?_,?_,?_⟩
 ·rw [hb.cell (p:=⟨_,_,none⟩) (by show T<_;omega)];exact h.ct
 ·rw [hb.cell (p:=⟨_,_,none⟩) (by show T+1<_;omega)];exact h.cs
 ·rw [hb.cell (p:=⟨_,_,none⟩) (by show T+1+1<_;omega)];exact h.cf
 all_goals rw [hb.cell (p:=⟨_,_,none⟩) (by show T+1+1+1<_;omega)]
 ·exact h.c0
 ·exact h.c1
 ·exact h.c2
 ·exact h.c3
 ·exact h.c4
 ·exact h.c5
theorem pcheck_any (x:Par) (cv:Value) (w:World) (hx:ParOk x) (hcv:SliceAt w cv x.ch):
  Calls Tryz.prog 45 #[x.val cv] w fun r w'=>r= .returned (.int .i64 (chk mPrime x))∧Below w.heap.size w w':=by
 obtain ⟨p,cap,rfl,hcap,hcap2,hrow⟩:=hcv;unfold Par.val;have hn0:=hx.n0;have hn1:=hx.n1;cases hd:isDim x.n with
 | false=>
  have hR:Hid (chk mPrime x=2):=by show _=_;unfold chk okB;rw [hd];rfl
  go_enter Tryz.func45,Tryz.ntmps45
  go_wp2_with fail
  refine (pdim_any _ _ hn0 hn1).mono ?_;rintro e w1 ⟨rfl,rfl⟩;rw [hd];go_wp2_with fail
  go_ret
  exact ⟨ret_int (by rw [hR.out]),(Below.refl _ _).alloc (Nat.le_refl _) _⟩
 | true=>
  have hn4:4≤x.n∧x.n≤32:=by have:=isDim_cases hd;omega
  obtain ⟨hn4,hn32⟩:=hn4;go_enter Tryz.func45,Tryz.ntmps45
  go_wp2_with fail
  refine (pdim_any _ _ hn0 hn1).mono ?_;rintro e w1 ⟨rfl,rfl⟩;rw [hd];go_wp2_with fail
  refine (ppower_any _ _ _ _ hn4 hn32 hx.p1 hx.r0 hx.r1).mono ?_;rintro e w1 ⟨rfl,hb1⟩;have htl:=powv_le mPrime x.n x.p x.r;have hT:Hid (x.t mPrime=powv mPrime x.n x.p x.r):=rfl;generalize powv mPrime x.n x.p x.r=t at htl hT ⊢;have hm0:(0:Int)≤2*x.n*(t:Int):=Int.mul_nonneg (by omega) (by omega);have hm1:2*x.n*(t:Int)≤64*2147483647:=Int.mul_le_mul (by omega) (by omega) (by omega) (by omega);have hB:BoxP w1 w.heap.size x (.slice p x.ch.length cap):=by
   refine BoxP.below (w:=w.alloc (.cells #[.int .i64 x.n, .int .u32 x.p, .int .i64 x.r, .slice p x.ch.length cap, .int .u32 x.sp, .int .i64 x.wt, .int .u32 x.er] 25)) ?_ hb1 (by simp);constructor<;>simp [go_sem]
  have hB':=Lib.hid hB;clear hB;have hsz:w.heap.size+1≤w1.heap.size:=by have:=hb1.size;simpa using this
  have hlt:w.heap.size<w1.heap.size:=by omega
  have hbw:Below w.heap.size w w1:=((Below.refl _ _).alloc (Nat.le_refl _) _).trans (hb1.mono (by simp));clear hb1;have l0:=hB'.out.n;go_wp2_with fail
  have hst:Hid (stepOf mPrime x=(2*x.n).toNat*t):=by show _=_;unfold stepOf;rw [hT.out]
  obtain ⟨s,hs⟩: ∃ s:Nat,s=(2*x.n).toNat*t:=⟨_,rfl⟩
  have hsi:(s:Int)=2*x.n*(t:Int):=by rw [hs,Int.natCast_mul,Int.toNat_of_nonneg (by omega)]
  have hs2:Hid (stepOf mPrime x=s):=by show _=_;rw [hst.out,hs]
  have hst0:0<t→0<s:=fun h=>by rw [hs];exact Nat.mul_pos (by omega) h
  have hs1:s≤137438953408:=by omega
  clear hst hs;go_loopw [8,35] (fun _ vk wr=> ∃ k:Nat,vk= .int .i64 k∧k≤6∧Hid (∀ c,c∈(conds mPrime x).take k→c=true)∧ChkW wr w.heap.size w1.heap.size x (.slice p x.ch.length cap) t s∧Below w.heap.size w wr) (fun _ vk _=>6 - (intOf vk).toNat)
  case atStart=>
   refine ⟨0,rfl,by omega,by intro c hc;simp at hc,?_,?_⟩
   ·have hbx:Below w1.heap.size w1 ((((w1.alloc (.cells #[.int .i64 t] 2)).alloc (.cells #[.int .i64 (2*x.n*t)] 2)).alloc (.cells #[.func (.func 72) #[] #[.pointer (some ⟨w1.heap.size+1,0,none⟩)]] 92)).alloc (.cells #[.func (.func 74) #[] #[.pointer (some ⟨w1.heap.size,0,none⟩)], .func (.func 75) #[] #[.pointer (some ⟨w.heap.size,0,none⟩)], .func (.func 76) #[] #[.pointer (some ⟨w.heap.size,0,none⟩)], .func (.func 77) #[] #[.pointer (some ⟨w1.heap.size+1+1,0,none⟩), .pointer (some ⟨w.heap.size,0,none⟩)], .func (.func 78) #[] #[.pointer (some ⟨w.heap.size,0,none⟩), .pointer (some ⟨w1.heap.size+1+1,0,none⟩)], .func (.func 81) #[] #[.pointer (some ⟨w.heap.size,0,none⟩)]] 30)):=by
     go_grown
    refine ⟨by simp,hB'.out.below hbx hlt,?_,?_,?_,?_,?_,?_,?_,?_,?_⟩;all_goals simp [go_sem]
    exact hsi.symm
   ·go_grown
  case round=>
   obtain ⟨k,rfl,hk,hall,hW,hbel⟩:=hrel;have hsz2:=hbel.size;have hA:w.heap.size<wr.heap.size:=by have:=hW.size;omega
   have hT1:w1.heap.size<wr.heap.size:=by have:=hW.size;omega
   have hT2:w1.heap.size+1<wr.heap.size:=by have:=hW.size;omega
   have hT3:w1.heap.size+1+1<wr.heap.size:=by have:=hW.size;omega
   have HW:=Lib.hid hW;rcases (show k=0∨k=1∨k=2∨k=3∨k=4∨k=5∨k=6 by omega) with rfl | rfl | rfl | rfl | rfl | rfl | rfl
   ·have hck:=hW.c0;have hval:(conds mPrime x)[0]? =some (decide (0<t)):=by show some (decide (0<x.t mPrime))=_;rw [hT.out]
    have HC:=Lib.hid (pc2_any t _ _ hW.ct);generalize hv:(decide (0<t))=v at hval HC;clear hW hv;cases v with
    | true=>
     have hall':=Lib.hid (conds_step hall.out hval rfl);clear hall;go_wp2_with (go_at_call 74;refine (HC.out).mono ?_;rintro e w2 ⟨rfl,rfl⟩)
     go_roundw
     case rel=>exact ⟨1,rfl,by omega,hall'.out,HW.out,hbel⟩
     case measure=>simp [intOf]
    | false=>
     have hR:Hid (chk mPrime x=2):=conds_no hval;go_wp2_with (go_at_call 74;refine (HC.out).mono ?_;rintro e w2 ⟨rfl,rfl⟩)
     go_ret
     exact ⟨ret_int (by rw [hR.out]),hbel⟩
   ·have hck:=hW.c1;have hval:(conds mPrime x)[1]? =some (lenB x.ch.length):=rfl;have HC:=Lib.hid (pc3_any _ _ _ _ _ hW.box.ch);generalize hv:(lenB x.ch.length)=v at hval HC;clear hW hv;cases v with
    | true=>
     have hall':=Lib.hid (conds_step hall.out hval rfl);clear hall;go_wp2_with (go_at_call 75;refine (HC.out).mono ?_;rintro e w2 ⟨rfl,rfl⟩)
     go_roundw
     case rel=>exact ⟨2,rfl,by omega,hall'.out,HW.out,hbel⟩
     case measure=>simp [intOf]
    | false=>
     have hR:Hid (chk mPrime x=2):=conds_no hval;go_wp2_with (go_at_call 75;refine (HC.out).mono ?_;rintro e w2 ⟨rfl,rfl⟩)
     go_ret
     exact ⟨ret_int (by rw [hR.out]),hbel⟩
   ·have hck:=hW.c2;have hval:(conds mPrime x)[2]? =some (wtB x):=rfl;have HC:=Lib.hid (pc4_any _ _ _ _ hW.box);generalize hv:(wtB x)=v at hval HC;clear hW hv;cases v with
    | true=>
     have hall':=Lib.hid (conds_step hall.out hval rfl);clear hall;go_wp2_with (go_at_call 76;refine (HC.out).mono ?_;rintro e w2 ⟨rfl,rfl⟩)
     go_roundw
     case rel=>exact ⟨3,rfl,by omega,hall'.out,HW.out,hbel⟩
     case measure=>simp [intOf]
    | false=>
     have hR:Hid (chk mPrime x=2):=conds_no hval;go_wp2_with (go_at_call 76;refine (HC.out).mono ?_;rintro e w2 ⟨rfl,rfl⟩)
     go_ret
     exact ⟨ret_int (by rw [hR.out]),hbel⟩
   ·have hck:=hW.c3;have hs0:0<s:=hst0 (by have:=hall.out (decide (0<x.t mPrime)) (by simp [conds]);rw [hT.out] at this;exact of_decide_eq_true this);have hval:(conds mPrime x)[3]? =some (goodS mPrime s x.sp):=by show some (goodS mPrime (stepOf mPrime x) x.sp)=_;rw [hs2.out]
    have HC:=Lib.hid (pc5_any _ _ _ s _ _ _ hW.box hx.sp1 hs0 hs1 hW.cf hW.cs);generalize hv:(goodS mPrime s x.sp)=v at hval HC;clear hW hv;cases v with
    | true=>
     have hall':=Lib.hid (conds_step hall.out hval rfl);clear hall;go_wp2_with (go_at_call 77;refine (HC.out).mono ?_;rintro e w2 ⟨rfl,hb2⟩)
     go_roundw
     case rel=>exact ⟨4,rfl,by omega,hall'.out,HW.out.below hlt hb2,hbel.trans (hb2.mono hsz2)⟩
     case measure=>simp [intOf]
    | false=>
     have hR:Hid (chk mPrime x=2):=conds_no hval;go_wp2_with (go_at_call 77;refine (HC.out).mono ?_;rintro e w2 ⟨rfl,hb2⟩)
     go_ret
     exact ⟨ret_int (by rw [hR.out]),hbel.trans (hb2.mono hsz2)⟩
   ·have hck:=hW.c4;have hs0:0<s:=hst0 (by have:=hall.out (decide (0<x.t mPrime)) (by simp [conds]);rw [hT.out] at this;exact of_decide_eq_true this);have hlb:1≤x.ch.length∧x.ch.length≤24:=by have:=hall.out (lenB x.ch.length) (by simp [conds]);exact of_decide_eq_true this
    have hl24:=hlb.2;have hlen:x.ch.length≤140737488351232:=by omega
    obtain ⟨b,off,rfl,hr0⟩:=hrow (by intro h;rw [h] at hlb;simp at hlb);have hr:=hr0.below hbel hr0.blk;have hval:(conds mPrime x)[4]? =some (!(x.ch.any (badB mPrime s x.sp))):=by show some (!(x.ch.any (badB mPrime (stepOf mPrime x) x.sp)))=_;rw [hs2.out]
    have HC:=Lib.hid (pc6_any _ _ _ _ _ _ x.ch s _ _ hr hlen hW.box hA hs0 hs1 hW.cf hT3 hW.cs hT2);generalize hv:(!(x.ch.any (badB mPrime s x.sp)))=v at hval HC;clear hW hv;clear hr hr0 hlb hrow;cases v with
    | true=>
     have hall':=Lib.hid (conds_step hall.out hval rfl);clear hall;go_wp2_with (go_at_call 78;refine (HC.out).mono ?_;rintro e w2 ⟨rfl,hb2⟩)
     go_roundw
     case rel=>exact ⟨5,rfl,by omega,hall'.out,HW.out.below hlt hb2,hbel.trans (hb2.mono hsz2)⟩
     case measure=>simp [intOf]
    | false=>
     have hR:Hid (chk mPrime x=2):=conds_no hval;go_wp2_with (go_at_call 78;refine (HC.out).mono ?_;rintro e w2 ⟨rfl,hb2⟩)
     go_ret
     exact ⟨ret_int (by rw [hR.out]),hbel.trans (hb2.mono hsz2)⟩
   ·have hck:=hW.c5;have hs0:0<s:=hst0 (by have:=hall.out (decide (0<x.t mPrime)) (by simp [conds]);rw [hT.out] at this;exact of_decide_eq_true this);have hlb:1≤x.ch.length∧x.ch.length≤24:=by have:=hall.out (lenB x.ch.length) (by simp [conds]);exact of_decide_eq_true this
    have hl24:=hlb.2;have hlen:x.ch.length≤140737488351232:=by omega
    obtain ⟨b,off,rfl,hr0⟩:=hrow (by intro h;rw [h] at hlb;simp at hlb);have hr:=hr0.below hbel hr0.blk;have hval:(conds mPrime x)[5]? =some (decide x.ch.Nodup):=rfl;have HC:=Lib.hid (pc7_any _ _ _ _ x.ch _ hr hl24 hW.box.ch hA);generalize hv:(decide x.ch.Nodup)=v at hval HC;clear hW hv;clear hr hr0 hlb hrow;cases v with
    | true=>
     have hall':=Lib.hid (conds_step hall.out hval rfl);clear hall;go_wp2_with (go_at_call 81;refine (HC.out).mono ?_;rintro e w2 ⟨rfl,hb2⟩)
     go_roundw
     case rel=>exact ⟨6,rfl,by omega,hall'.out,HW.out.below hlt hb2,hbel.trans (hb2.mono hsz2)⟩
     case measure=>simp [intOf]
    | false=>
     have hR:Hid (chk mPrime x=2):=conds_no hval;go_wp2_with (go_at_call 81;refine (HC.out).mono ?_;rintro e w2 ⟨rfl,hb2⟩)
     go_ret
     exact ⟨ret_int (by rw [hR.out]),hbel.trans (hb2.mono hsz2)⟩
   ·have hR:Hid (chk mPrime x=0):=conds_yes hd hall.out;clear hall;go_wp2_with fail
    go_ret
    exact ⟨ret_int (by rw [hR.out]),hbel⟩
end
end Go.Proofs.YthlhibpfagekfaaGreat
namespace Go.Proofs.YthlhibpfagekfaaGreat.Wv
section
open Go.RowKit
theorem WF0 (P:Go.Program) (h:P=Tryz.prog):(szP P 1=some 1)∧(zeroP P 1=some .nilFunc)∧(aggP P 1=some false)∧(isFnP P 1=true)∧(szP P 2=some 1)∧(bytP P 2=some 8)∧(zeroP P 2=some (.int .i64 0))∧(aggP P 2=some false)∧(arrP P 2=none)∧(intP P 2=some .i64)∧((P.underlying 2).isSome=true)∧(kkP P 2=some (.int .i64))∧(ifcP P 2=true)∧(szP P 3=some 1)∧(bytP P 3=some 8)∧(zeroP P 3=some (.int .i64 0))∧(aggP P 3=some false)∧(arrP P 3=none)∧(intP P 3=some .i64)∧((P.underlying 3).isSome=true)∧(kkP P 3=some (.int .i64))∧(ifcP P 3=true)∧(szP P 4=some 1)∧(bytP P 4=some 1)∧(zeroP P 4=some (.bool false))∧(aggP P 4=some false)∧(arrP P 4=none)∧(isBoolP P 4=true)∧((P.underlying 4).isSome=true)∧(ifcP P 4=true)∧(szP P 5=some 1)∧(bytP P 5=some 1)∧(zeroP P 5=some (.int .u8 0))∧(aggP P 5=some false)∧(arrP P 5=none)∧(intP P 5=some .u8)∧((P.underlying 5).isSome=true)∧(kkP P 5=some (.int .u8))∧(ifcP P 5=true)∧(szP P 9=some 1)∧(bytP P 9=some 16)∧(zeroP P 9=some (.string ⟨#[]⟩))∧(aggP P 9=some false)∧(arrP P 9=none)∧(isStrP P 9=true)∧((P.underlying 9).isSome=true)∧(kkP P 9=some .str)∧(ifcP P 9=true)∧(szP P 12=some 1)∧(bytP P 12=some 8)∧(zeroP P 12=some (.int .u64 0))∧(aggP P 12=some false)∧(arrP P 12=none)∧(intP P 12=some .u64)∧((P.underlying 12).isSome=true)∧(kkP P 12=some (.int .u64))∧(ifcP P 12=true)∧(szP P 13=some 2)∧(bytP P 13=some 24)∧(zeroP P 13=some (.agg #[.string ⟨#[]⟩, .int .u64 0])):=by
 subst h;and_intros<;>kernel_rfl
theorem WF1 (P:Go.Program) (h:P=Tryz.prog):(aggP P 13=some true)∧(arrP P 13=none)∧((P.underlying 13).isSome=true)∧(fsP P 13=some [(0,1),(1,1)])∧(ifcP P 13=true)∧(fldP P 13 0=some (0,9))∧(fldP P 13 1=some (1,12))∧(szP P 20=some 1)∧(bytP P 20=some 16)∧(zeroP P 20=some .nilIface)∧(aggP P 20=some false)∧(arrP P 20=none)∧((P.underlying 20).isSome=true)∧(szP P 21=some 1)∧(bytP P 21=some 4)∧(zeroP P 21=some (.int .i32 0))∧(aggP P 21=some false)∧(arrP P 21=none)∧(intP P 21=some .i32)∧((P.underlying 21).isSome=true)∧(kkP P 21=some (.int .i32))∧(ifcP P 21=true)∧(szP P 22=some 1)∧(bytP P 22=some 4)∧(zeroP P 22=some (.int .u32 0))∧(aggP P 22=some false)∧(arrP P 22=none)∧(intP P 22=some .u32)∧((P.underlying 22).isSome=true)∧(kkP P 22=some (.int .u32))∧(ifcP P 22=true)∧(szP P 23=some 1)∧(bytP P 23=some 24)∧(zeroP P 23=some (.slice none 0 0))∧(aggP P 23=some false)∧(elemP P 23=some 22)∧(arrP P 23=none)∧((P.underlying 23).isSome=true)∧(ifcP P 23=true)∧(szP P 24=some 7)∧(bytP P 24=some 72)∧(zeroP P 24=some (.agg #[.int .i64 0, .int .u32 0, .int .i64 0, .slice none 0 0, .int .u32 0, .int .i64 0, .int .u32 0]))∧(aggP P 24=some true)∧(arrP P 24=none)∧((P.underlying 24).isSome=true)∧(fsP P 24=some [(0,1),(1,1),(2,1),(3,1),(4,1),(5,1),(6,1)])∧(ifcP P 24=true)∧(fldP P 24 0=some (0,3))∧(fldP P 24 1=some (1,22))∧(fldP P 24 2=some (2,3))∧(fldP P 24 3=some (3,23))∧(fldP P 24 4=some (4,22))∧(fldP P 24 5=some (5,3))∧(fldP P 24 6=some (6,22))∧(szP P 25=some 7)∧(bytP P 25=some 72)∧(zeroP P 25=some (.agg #[.int .i64 0, .int .u32 0, .int .i64 0, .slice none 0 0, .int .u32 0, .int .i64 0, .int .u32 0]))∧(aggP P 25=some true)∧(arrP P 25=none)∧((P.underlying 25).isSome=true):=by
 subst h;and_intros<;>kernel_rfl
theorem WF2 (P:Go.Program) (h:P=Tryz.prog):(fsP P 25=some [(0,1),(1,1),(2,1),(3,1),(4,1),(5,1),(6,1)])∧(ifcP P 25=true)∧(fldP P 25 0=some (0,3))∧(fldP P 25 1=some (1,22))∧(fldP P 25 2=some (2,3))∧(fldP P 25 3=some (3,23))∧(fldP P 25 4=some (4,22))∧(fldP P 25 5=some (5,3))∧(fldP P 25 6=some (6,22))∧(szP P 26=some 1)∧(bytP P 26=some 24)∧(zeroP P 26=some (.slice none 0 0))∧(aggP P 26=some false)∧(elemP P 26=some 54)∧(arrP P 26=none)∧((P.underlying 26).isSome=true)∧(ifcP P 26=true)∧(szP P 27=some 1)∧(bytP P 27=some 24)∧(zeroP P 27=some (.slice none 0 0))∧(aggP P 27=some false)∧(elemP P 27=some 3)∧(arrP P 27=none)∧((P.underlying 27).isSome=true)∧(ifcP P 27=true)∧(szP P 28=some 2)∧(bytP P 28=some 40)∧(zeroP P 28=some (.agg #[.slice none 0 0, .string ⟨#[]⟩]))∧(aggP P 28=some true)∧(arrP P 28=none)∧((P.underlying 28).isSome=true)∧(fsP P 28=some [(0,1),(1,1)])∧(ifcP P 28=true)∧(fldP P 28 0=some (0,27))∧(fldP P 28 1=some (1,9))∧(szP P 29=some 2)∧(bytP P 29=some 40)∧(zeroP P 29=some (.agg #[.slice none 0 0, .string ⟨#[]⟩]))∧(aggP P 29=some true)∧(arrP P 29=none)∧((P.underlying 29).isSome=true)∧(fsP P 29=some [(0,1),(1,1)])∧(ifcP P 29=true)∧(fldP P 29 0=some (0,27))∧(fldP P 29 1=some (1,9))∧(szP P 30=some 1)∧(zeroP P 30=some .nilFunc)∧(aggP P 30=some false)∧(isFnP P 30=true)∧(szP P 32=some 1)∧(bytP P 32=some 8)∧(zeroP P 32=some (.pointer none))∧(aggP P 32=some false)∧(arrP P 32=none)∧(isPtrP P 32=true)∧((P.underlying 32).isSome=true)∧(ifcP P 32=true)∧(szP P 34=some 1)∧(bytP P 34=some 8)∧(zeroP P 34=some (.pointer none)):=by
 subst h;and_intros<;>kernel_rfl
theorem WF3 (P:Go.Program) (h:P=Tryz.prog):(aggP P 34=some false)∧(arrP P 34=none)∧(isPtrP P 34=true)∧((P.underlying 34).isSome=true)∧(ifcP P 34=true)∧(szP P 37=some 1)∧(bytP P 37=some 8)∧(zeroP P 37=some (.int .i64 0))∧(aggP P 37=some false)∧(arrP P 37=none)∧(intP P 37=some .i64)∧((P.underlying 37).isSome=true)∧(kkP P 37=some (.int .i64))∧(ifcP P 37=true)∧(szP P 42=some 1)∧(zeroP P 42=some .nilFunc)∧(aggP P 42=some false)∧(isFnP P 42=true)∧(szP P 46=some 1)∧(bytP P 46=some 24)∧(zeroP P 46=some (.slice none 0 0))∧(aggP P 46=some false)∧(elemP P 46=some 9)∧(arrP P 46=none)∧((P.underlying 46).isSome=true)∧(ifcP P 46=true)∧(szP P 47=some 1)∧(bytP P 47=some 24)∧(zeroP P 47=some (.slice none 0 0))∧(aggP P 47=some false)∧(elemP P 47=some 107)∧(arrP P 47=none)∧((P.underlying 47).isSome=true)∧(ifcP P 47=true)∧(szP P 48=some 4)∧(bytP P 48=some 88)∧(zeroP P 48=some (.agg #[.string ⟨#[]⟩, .slice none 0 0, .slice none 0 0, .slice none 0 0]))∧(aggP P 48=some true)∧(arrP P 48=none)∧((P.underlying 48).isSome=true)∧(fsP P 48=some [(0,1),(1,1),(2,1),(3,1)])∧(ifcP P 48=true)∧(fldP P 48 0=some (0,9))∧(fldP P 48 1=some (1,46))∧(fldP P 48 2=some (2,47))∧(fldP P 48 3=some (3,46))∧(szP P 49=some 4)∧(bytP P 49=some 88)∧(zeroP P 49=some (.agg #[.string ⟨#[]⟩, .slice none 0 0, .slice none 0 0, .slice none 0 0]))∧(aggP P 49=some true)∧(arrP P 49=none)∧((P.underlying 49).isSome=true)∧(fsP P 49=some [(0,1),(1,1),(2,1),(3,1)])∧(ifcP P 49=true)∧(fldP P 49 0=some (0,9))∧(fldP P 49 1=some (1,46))∧(fldP P 49 2=some (2,47))∧(fldP P 49 3=some (3,46))∧(szP P 54=some 1)∧(bytP P 54=some 24):=by
 subst h;and_intros<;>kernel_rfl
theorem WF4 (P:Go.Program) (h:P=Tryz.prog):(zeroP P 54=some (.slice none 0 0))∧(aggP P 54=some false)∧(elemP P 54=some 2)∧(arrP P 54=none)∧((P.underlying 54).isSome=true)∧(ifcP P 54=true)∧(szP P 58=some 3)∧(bytP P 58=some 32)∧(zeroP P 58=some (.agg #[.string ⟨#[]⟩, .int .i64 0, .bool false]))∧(aggP P 58=some true)∧(arrP P 58=none)∧((P.underlying 58).isSome=true)∧(fsP P 58=some [(0,1),(1,1),(2,1)])∧(ifcP P 58=true)∧(flatP P 58=some [.s, .i, .b])∧(fldP P 58 0=some (0,9))∧(fldP P 58 1=some (1,3))∧(fldP P 58 2=some (2,4))∧(szP P 59=some 3)∧(bytP P 59=some 32)∧(zeroP P 59=some (.agg #[.string ⟨#[]⟩, .int .i64 0, .bool false]))∧(aggP P 59=some true)∧(arrP P 59=none)∧((P.underlying 59).isSome=true)∧(fsP P 59=some [(0,1),(1,1),(2,1)])∧(ifcP P 59=true)∧(flatP P 59=some [.s, .i, .b])∧(fldP P 59 0=some (0,9))∧(fldP P 59 1=some (1,3))∧(fldP P 59 2=some (2,4))∧(szP P 60=some 2)∧(bytP P 60=some 24)∧(zeroP P 60=some (.agg #[.string ⟨#[]⟩, .int .i64 0]))∧(aggP P 60=some true)∧(arrP P 60=none)∧((P.underlying 60).isSome=true)∧(fsP P 60=some [(0,1),(1,1)])∧(kkP P 60=some (.flat [none,some .i64]))∧(ifcP P 60=true)∧(flatP P 60=some [.s, .i])∧(fldP P 60 0=some (0,9))∧(fldP P 60 1=some (1,3))∧(szP P 61=some 2)∧(bytP P 61=some 24)∧(zeroP P 61=some (.agg #[.string ⟨#[]⟩, .int .i64 0]))∧(aggP P 61=some true)∧(arrP P 61=none)∧((P.underlying 61).isSome=true)∧(fsP P 61=some [(0,1),(1,1)])∧(kkP P 61=some (.flat [none,some .i64]))∧(ifcP P 61=true)∧(flatP P 61=some [.s, .i])∧(fldP P 61 0=some (0,9))∧(fldP P 61 1=some (1,3))∧(szP P 67=some 1)∧(bytP P 67=some 8)∧(zeroP P 67=some (.int .u64 0))∧(aggP P 67=some false)∧(arrP P 67=none)∧(intP P 67=some .u64):=by
 subst h;and_intros<;>kernel_rfl
theorem WF5 (P:Go.Program) (h:P=Tryz.prog):((P.underlying 67).isSome=true)∧(kkP P 67=some (.int .u64))∧(ifcP P 67=true)∧(szP P 72=some 1)∧(zeroP P 72=some .nilFunc)∧(aggP P 72=some false)∧(isFnP P 72=true)∧(szP P 78=some 1)∧(bytP P 78=some 24)∧(zeroP P 78=some (.slice none 0 0))∧(aggP P 78=some false)∧(elemP P 78=some 120)∧(arrP P 78=none)∧((P.underlying 78).isSome=true)∧(ifcP P 78=true)∧(szP P 81=some 1)∧(bytP P 81=some 4)∧(zeroP P 81=some (.int .u32 0))∧(aggP P 81=some false)∧(arrP P 81=none)∧(intP P 81=some .u32)∧((P.underlying 81).isSome=true)∧(kkP P 81=some (.int .u32))∧(ifcP P 81=true)∧(szP P 82=some 1)∧(bytP P 82=some 24)∧(zeroP P 82=some (.slice none 0 0))∧(aggP P 82=some false)∧(elemP P 82=some 81)∧(arrP P 82=none)∧((P.underlying 82).isSome=true)∧(ifcP P 82=true)∧(szP P 92=some 1)∧(zeroP P 92=some .nilFunc)∧(aggP P 92=some false)∧(isFnP P 92=true)∧(szP P 93=some 1)∧(bytP P 93=some 8)∧(zeroP P 93=some (.pointer none))∧(aggP P 93=some false)∧(arrP P 93=none)∧(isPtrP P 93=true)∧((P.underlying 93).isSome=true)∧(ifcP P 93=true)∧(szP P 94=some 1)∧(bytP P 94=some 24)∧(zeroP P 94=some (.slice none 0 0))∧(aggP P 94=some false)∧(elemP P 94=some 109)∧(arrP P 94=none)∧((P.underlying 94).isSome=true)∧(ifcP P 94=true)∧(szP P 96=some 2)∧(bytP P 96=some 32)∧(zeroP P 96=some (.agg #[.slice none 0 0, .bool false]))∧(aggP P 96=some true)∧(arrP P 96=none)∧((P.underlying 96).isSome=true)∧(fsP P 96=some [(0,1),(1,1)])∧(ifcP P 96=true):=by
 subst h;and_intros<;>kernel_rfl
theorem WF6 (P:Go.Program) (h:P=Tryz.prog):(fldP P 96 0=some (0,94))∧(fldP P 96 1=some (1,4))∧(szP P 97=some 2)∧(bytP P 97=some 32)∧(zeroP P 97=some (.agg #[.slice none 0 0, .bool false]))∧(aggP P 97=some true)∧(arrP P 97=none)∧((P.underlying 97).isSome=true)∧(fsP P 97=some [(0,1),(1,1)])∧(ifcP P 97=true)∧(fldP P 97 0=some (0,94))∧(fldP P 97 1=some (1,4))∧(szP P 98=some 1)∧(zeroP P 98=some .nilFunc)∧(aggP P 98=some false)∧(isFnP P 98=true)∧(szP P 100=some 1)∧(zeroP P 100=some .nilFunc)∧(aggP P 100=some false)∧(isFnP P 100=true)∧(szP P 102=some 1)∧(bytP P 102=some 24)∧(zeroP P 102=some (.slice none 0 0))∧(aggP P 102=some false)∧(elemP P 102=some 104)∧(arrP P 102=none)∧((P.underlying 102).isSome=true)∧(ifcP P 102=true)∧(szP P 103=some 5)∧(bytP P 103=some 80)∧(zeroP P 103=some (.agg #[.int .i64 0, .string ⟨#[]⟩, .int .i64 0, .slice none 0 0, .slice none 0 0]))∧(aggP P 103=some true)∧(arrP P 103=none)∧((P.underlying 103).isSome=true)∧(fsP P 103=some [(0,1),(1,1),(2,1),(3,1),(4,1)])∧(ifcP P 103=true)∧(fldP P 103 0=some (0,3))∧(fldP P 103 1=some (1,9))∧(fldP P 103 2=some (2,2))∧(fldP P 103 3=some (3,54))∧(fldP P 103 4=some (4,102))∧(szP P 104=some 5)∧(bytP P 104=some 80)∧(zeroP P 104=some (.agg #[.int .i64 0, .string ⟨#[]⟩, .int .i64 0, .slice none 0 0, .slice none 0 0]))∧(aggP P 104=some true)∧(arrP P 104=none)∧((P.underlying 104).isSome=true)∧(fsP P 104=some [(0,1),(1,1),(2,1),(3,1),(4,1)])∧(ifcP P 104=true)∧(fldP P 104 0=some (0,3))∧(fldP P 104 1=some (1,9))∧(fldP P 104 2=some (2,2))∧(fldP P 104 3=some (3,54))∧(fldP P 104 4=some (4,102))∧(szP P 106=some 6)∧(bytP P 106=some 96)∧(zeroP P 106=some (.agg #[.string ⟨#[]⟩, .int .i64 0, .string ⟨#[]⟩, .int .i64 0, .slice none 0 0, .slice none 0 0]))∧(aggP P 106=some true)∧(arrP P 106=none)∧((P.underlying 106).isSome=true):=by
 subst h;and_intros<;>kernel_rfl
theorem WF7 (P:Go.Program) (h:P=Tryz.prog):(fsP P 106=some [(0,1),(1,5)])∧(ifcP P 106=true)∧(fldP P 106 0=some (0,9))∧(fldP P 106 1=some (1,104))∧(szP P 107=some 6)∧(bytP P 107=some 96)∧(zeroP P 107=some (.agg #[.string ⟨#[]⟩, .int .i64 0, .string ⟨#[]⟩, .int .i64 0, .slice none 0 0, .slice none 0 0]))∧(aggP P 107=some true)∧(arrP P 107=none)∧((P.underlying 107).isSome=true)∧(fsP P 107=some [(0,1),(1,5)])∧(ifcP P 107=true)∧(fldP P 107 0=some (0,9))∧(fldP P 107 1=some (1,104))∧(szP P 108=some 3)∧(bytP P 108=some 32)∧(zeroP P 108=some (.agg #[.int .u8 0, .string ⟨#[]⟩, .int .i64 0]))∧(aggP P 108=some true)∧(arrP P 108=none)∧((P.underlying 108).isSome=true)∧(fsP P 108=some [(0,1),(1,1),(2,1)])∧(kkP P 108=some (.flat [some .u8,none,some .i64]))∧(ifcP P 108=true)∧(flatP P 108=some [.i, .s, .i])∧(fldP P 108 0=some (0,5))∧(fldP P 108 1=some (1,9))∧(fldP P 108 2=some (2,3))∧(szP P 109=some 3)∧(bytP P 109=some 32)∧(zeroP P 109=some (.agg #[.int .u8 0, .string ⟨#[]⟩, .int .i64 0]))∧(aggP P 109=some true)∧(arrP P 109=none)∧((P.underlying 109).isSome=true)∧(fsP P 109=some [(0,1),(1,1),(2,1)])∧(kkP P 109=some (.flat [some .u8,none,some .i64]))∧(ifcP P 109=true)∧(flatP P 109=some [.i, .s, .i])∧(fldP P 109 0=some (0,5))∧(fldP P 109 1=some (1,9))∧(fldP P 109 2=some (2,3))∧(szP P 112=some 1)∧(bytP P 112=some 8)∧(zeroP P 112=some (.agg #[.int .i64 0]))∧(aggP P 112=some true)∧(arrP P 112=none)∧((P.underlying 112).isSome=true)∧(fsP P 112=some [(0,1)])∧(kkP P 112=some (.flat [some .i64]))∧(ifcP P 112=true)∧(flatP P 112=some [.i])∧(fldP P 112 0=some (0,37))∧(szP P 113=some 1)∧(bytP P 113=some 8)∧(zeroP P 113=some (.agg #[.int .i64 0]))∧(aggP P 113=some true)∧(arrP P 113=none)∧((P.underlying 113).isSome=true)∧(fsP P 113=some [(0,1)])∧(kkP P 113=some (.flat [some .i64]))∧(ifcP P 113=true):=by
 subst h;and_intros<;>kernel_rfl
theorem WF8 (P:Go.Program) (h:P=Tryz.prog):(flatP P 113=some [.i])∧(fldP P 113 0=some (0,37))∧(szP P 114=some 1)∧(bytP P 114=some 8)∧(zeroP P 114=some (.pointer none))∧(aggP P 114=some false)∧(arrP P 114=none)∧(isPtrP P 114=true)∧((P.underlying 114).isSome=true)∧(ifcP P 114=true)∧(szP P 115=some 1)∧(bytP P 115=some 8)∧(zeroP P 115=some (.map none))∧(aggP P 115=some false)∧(arrP P 115=none)∧((P.underlying 115).isSome=true)∧(mapP P 115=some (9,120))∧(ifcP P 115=true)∧(szP P 116=some 9)∧(bytP P 116=some 88)∧(zeroP P 116=some (.agg #[.int .i64 0, .int .u32 0, .int .i64 0, .slice none 0 0, .int .u32 0, .int .i64 0, .int .u32 0, .int .i64 0, .map none]))∧(aggP P 116=some true)∧(arrP P 116=none)∧((P.underlying 116).isSome=true)∧(fsP P 116=some [(0,7),(7,1),(8,1)])∧(ifcP P 116=true)∧(fldP P 116 0=some (0,25))∧(fldP P 116 1=some (7,2))∧(fldP P 116 2=some (8,115))∧(szP P 117=some 9)∧(bytP P 117=some 88)∧(zeroP P 117=some (.agg #[.int .i64 0, .int .u32 0, .int .i64 0, .slice none 0 0, .int .u32 0, .int .i64 0, .int .u32 0, .int .i64 0, .map none]))∧(aggP P 117=some true)∧(arrP P 117=none)∧((P.underlying 117).isSome=true)∧(fsP P 117=some [(0,7),(7,1),(8,1)])∧(ifcP P 117=true)∧(fldP P 117 0=some (0,25))∧(fldP P 117 1=some (7,2))∧(fldP P 117 2=some (8,115))∧(szP P 119=some 2)∧(bytP P 119=some 16)∧(zeroP P 119=some (.agg #[.bool false, .int .i64 0]))∧(aggP P 119=some true)∧(arrP P 119=none)∧((P.underlying 119).isSome=true)∧(fsP P 119=some [(0,1),(1,1)])∧(ifcP P 119=true)∧(flatP P 119=some [.b, .i])∧(fldP P 119 0=some (0,4))∧(fldP P 119 1=some (1,3))∧(szP P 120=some 2)∧(bytP P 120=some 16)∧(zeroP P 120=some (.agg #[.bool false, .int .i64 0]))∧(aggP P 120=some true)∧(arrP P 120=none)∧((P.underlying 120).isSome=true)∧(fsP P 120=some [(0,1),(1,1)])∧(ifcP P 120=true)∧(flatP P 120=some [.b, .i]):=by
 subst h;and_intros<;>kernel_rfl
theorem WF9 (P:Go.Program) (h:P=Tryz.prog):(fldP P 120 0=some (0,4))∧(fldP P 120 1=some (1,3))∧(szP P 124=some 1)∧(bytP P 124=some 8)∧(zeroP P 124=some (.map none))∧(aggP P 124=some false)∧(arrP P 124=none)∧((P.underlying 124).isSome=true)∧(mapP P 124=some (129,81))∧(ifcP P 124=true)∧(szP P 125=some 1)∧(bytP P 125=some 8)∧(zeroP P 125=some (.map none))∧(aggP P 125=some false)∧(arrP P 125=none)∧((P.underlying 125).isSome=true)∧(mapP P 125=some (9,4))∧(ifcP P 125=true)∧(szP P 127=some 1)∧(bytP P 127=some 24)∧(zeroP P 127=some (.slice none 0 0))∧(aggP P 127=some false)∧(elemP P 127=some 82)∧(arrP P 127=none)∧((P.underlying 127).isSome=true)∧(ifcP P 127=true)∧(szP P 128=some 2)∧(bytP P 128=some 24)∧(zeroP P 128=some (.agg #[.string ⟨#[]⟩, .int .i64 0]))∧(aggP P 128=some true)∧(arrP P 128=none)∧((P.underlying 128).isSome=true)∧(fsP P 128=some [(0,1),(1,1)])∧(kkP P 128=some (.flat [none,some .i64]))∧(ifcP P 128=true)∧(flatP P 128=some [.s, .i])∧(fldP P 128 0=some (0,9))∧(fldP P 128 1=some (1,3))∧(szP P 129=some 2)∧(bytP P 129=some 24)∧(zeroP P 129=some (.agg #[.string ⟨#[]⟩, .int .i64 0]))∧(aggP P 129=some true)∧(arrP P 129=none)∧((P.underlying 129).isSome=true)∧(fsP P 129=some [(0,1),(1,1)])∧(kkP P 129=some (.flat [none,some .i64]))∧(ifcP P 129=true)∧(flatP P 129=some [.s, .i])∧(fldP P 129 0=some (0,9))∧(fldP P 129 1=some (1,3))∧(szP P 130=some 1)∧(bytP P 130=some 8)∧(zeroP P 130=some (.pointer none))∧(aggP P 130=some false)∧(arrP P 130=none)∧(isPtrP P 130=true)∧((P.underlying 130).isSome=true)∧(ifcP P 130=true)∧(szP P 131=some 1)∧(bytP P 131=some 8):=by
 subst h;and_intros<;>kernel_rfl
theorem WF10 (P:Go.Program) (h:P=Tryz.prog):(zeroP P 131=some (.map none))∧(aggP P 131=some false)∧(arrP P 131=none)∧((P.underlying 131).isSome=true)∧(mapP P 131=some (9,54))∧(ifcP P 131=true)∧(szP P 132=some 3)∧(bytP P 132=some 24)∧(zeroP P 132=some (.agg #[.int .i64 0, .int .i64 0, .map none]))∧(aggP P 132=some true)∧(arrP P 132=none)∧((P.underlying 132).isSome=true)∧(fsP P 132=some [(0,1),(1,1),(2,1)])∧(ifcP P 132=true)∧(fldP P 132 0=some (0,3))∧(fldP P 132 1=some (1,2))∧(fldP P 132 2=some (2,131))∧(szP P 133=some 3)∧(bytP P 133=some 24)∧(zeroP P 133=some (.agg #[.int .i64 0, .int .i64 0, .map none]))∧(aggP P 133=some true)∧(arrP P 133=none)∧((P.underlying 133).isSome=true)∧(fsP P 133=some [(0,1),(1,1),(2,1)])∧(ifcP P 133=true)∧(fldP P 133 0=some (0,3))∧(fldP P 133 1=some (1,2))∧(fldP P 133 2=some (2,131))∧(szP P 139=some 1)∧(bytP P 139=some 24)∧(zeroP P 139=some (.slice none 0 0))∧(aggP P 139=some false)∧(elemP P 139=some 30)∧(arrP P 139=none)∧((P.underlying 139).isSome=true)∧(ifcP P 139=true)∧(szP P 145=some 1)∧(zeroP P 145=some .nilFunc)∧(aggP P 145=some false)∧(isFnP P 145=true)∧(szP P 146=some 1)∧(zeroP P 146=some .nilFunc)∧(aggP P 146=some false)∧(isFnP P 146=true)∧(szP P 149=some 1)∧(zeroP P 149=some .nilFunc)∧(aggP P 149=some false)∧(isFnP P 149=true)∧(szP P 150=some 1)∧(zeroP P 150=some .nilFunc)∧(aggP P 150=some false)∧(isFnP P 150=true)∧(szP P 151=some 1)∧(bytP P 151=some 8)∧(zeroP P 151=some (.map none))∧(aggP P 151=some false)∧(arrP P 151=none)∧((P.underlying 151).isSome=true)∧(mapP P 151=some (3,150))∧(ifcP P 151=true):=by
 subst h;and_intros<;>kernel_rfl
theorem WF11 (P:Go.Program) (h:P=Tryz.prog):(szP P 154=some 1)∧(zeroP P 154=some .nilFunc)∧(aggP P 154=some false)∧(isFnP P 154=true)∧(szP P 156=some 1)∧(zeroP P 156=some .nilFunc)∧(aggP P 156=some false)∧(isFnP P 156=true)∧(szP P 157=some 7)∧(bytP P 157=some 28)∧(zeroP P 157=some (.agg #[.int .u32 0, .int .u32 0, .int .u32 0, .int .u32 0, .int .u32 0, .int .u32 0, .int .u32 0]))∧(aggP P 157=some true)∧(elemP P 157=none)∧(arrP P 157=some (7,22))∧((P.underlying 157).isSome=true)∧(fsP P 157=some [(0,1),(1,1),(2,1),(3,1),(4,1),(5,1),(6,1)])∧(ifcP P 157=true)∧(szP P 158=some 3)∧(bytP P 158=some 12)∧(zeroP P 158=some (.agg #[.int .u32 0, .int .u32 0, .int .u32 0]))∧(aggP P 158=some true)∧(elemP P 158=none)∧(arrP P 158=some (3,22))∧((P.underlying 158).isSome=true)∧(fsP P 158=some [(0,1),(1,1),(2,1)])∧(ifcP P 158=true)∧(szP P 162=some 1)∧(bytP P 162=some 8)∧(zeroP P 162=some (.int .u64 0))∧(aggP P 162=some false)∧(arrP P 162=none)∧(intP P 162=some .u64)∧((P.underlying 162).isSome=true)∧(kkP P 162=some (.int .u64))∧(ifcP P 162=true)∧(szP P 167=some 16)∧(bytP P 167=some 256)∧(zeroP P 167=some (.agg #[.string ⟨#[]⟩, .string ⟨#[]⟩, .string ⟨#[]⟩, .string ⟨#[]⟩, .string ⟨#[]⟩, .string ⟨#[]⟩, .string ⟨#[]⟩, .string ⟨#[]⟩, .string ⟨#[]⟩, .string ⟨#[]⟩, .string ⟨#[]⟩, .string ⟨#[]⟩, .string ⟨#[]⟩, .string ⟨#[]⟩, .string ⟨#[]⟩, .string ⟨#[]⟩]))∧(aggP P 167=some true)∧(elemP P 167=none)∧(arrP P 167=some (16,9))∧((P.underlying 167).isSome=true)∧(fsP P 167=some [(0,1),(1,1),(2,1),(3,1),(4,1),(5,1),(6,1),(7,1),(8,1),(9,1),(10,1),(11,1),(12,1),(13,1),(14,1),(15,1)])∧(ifcP P 167=true)∧(szP P 169=some 1)∧(bytP P 169=some 24)∧(zeroP P 169=some (.slice none 0 0))∧(aggP P 169=some false)∧(elemP P 169=some 5)∧(arrP P 169=none)∧((P.underlying 169).isSome=true)∧(ifcP P 169=true)∧(szP P 172=some 3)∧(bytP P 172=some 16)∧(zeroP P 172=some (.agg #[.int .i64 0, .bool false, .bool false]))∧(aggP P 172=some true)∧(arrP P 172=none)∧((P.underlying 172).isSome=true)∧(fsP P 172=some [(0,1),(1,1),(2,1)])∧(ifcP P 172=true):=by
 subst h;and_intros<;>kernel_rfl
theorem WF12 (P:Go.Program) (h:P=Tryz.prog):(flatP P 172=some [.i, .b, .b])∧(fldP P 172 0=some (0,3))∧(fldP P 172 1=some (1,4))∧(fldP P 172 2=some (2,4))∧(szP P 173=some 3)∧(bytP P 173=some 16)∧(zeroP P 173=some (.agg #[.int .i64 0, .bool false, .bool false]))∧(aggP P 173=some true)∧(arrP P 173=none)∧((P.underlying 173).isSome=true)∧(fsP P 173=some [(0,1),(1,1),(2,1)])∧(ifcP P 173=true)∧(flatP P 173=some [.i, .b, .b])∧(fldP P 173 0=some (0,3))∧(fldP P 173 1=some (1,4))∧(fldP P 173 2=some (2,4))∧(szP P 174=some 48)∧(bytP P 174=some 256)∧(zeroP P 174=some (.agg #[.int .i64 0, .bool false, .bool false, .int .i64 0, .bool false, .bool false, .int .i64 0, .bool false, .bool false, .int .i64 0, .bool false, .bool false, .int .i64 0, .bool false, .bool false, .int .i64 0, .bool false, .bool false, .int .i64 0, .bool false, .bool false, .int .i64 0, .bool false, .bool false, .int .i64 0, .bool false, .bool false, .int .i64 0, .bool false, .bool false, .int .i64 0, .bool false, .bool false, .int .i64 0, .bool false, .bool false, .int .i64 0, .bool false, .bool false, .int .i64 0, .bool false, .bool false, .int .i64 0, .bool false, .bool false, .int .i64 0, .bool false, .bool false]))∧(aggP P 174=some true)∧(elemP P 174=none)∧(arrP P 174=some (16,173))∧((P.underlying 174).isSome=true)∧(fsP P 174=some [(0,3),(3,3),(6,3),(9,3),(12,3),(15,3),(18,3),(21,3),(24,3),(27,3),(30,3),(33,3),(36,3),(39,3),(42,3),(45,3)])∧(ifcP P 174=true)∧(szP P 176=some 1)∧(zeroP P 176=some .nilFunc)∧(aggP P 176=some false)∧(isFnP P 176=true)∧(szP P 182=some 1)∧(bytP P 182=some 8)∧(zeroP P 182=some (.int .i64 0))∧(aggP P 182=some false)∧(arrP P 182=none)∧(intP P 182=some .i64)∧((P.underlying 182).isSome=true)∧(kkP P 182=some (.int .i64))∧(ifcP P 182=true)∧(szP P 189=some 1)∧(zeroP P 189=some .nilFunc)∧(aggP P 189=some false)∧(isFnP P 189=true)∧(szP P 194=some 1)∧(zeroP P 194=some .nilFunc)∧(aggP P 194=some false)∧(isFnP P 194=true)∧(szP P 198=some 1)∧(bytP P 198=some 8)∧(zeroP P 198=some (.int .u64 0))∧(aggP P 198=some false)∧(arrP P 198=none)∧(intP P 198=some .u64)∧((P.underlying 198).isSome=true)∧(kkP P 198=some (.int .u64))∧(ifcP P 198=true)∧(szP P 202=some 1)∧(bytP P 202=some 8)∧(zeroP P 202=some (.pointer none))∧(aggP P 202=some false)∧(arrP P 202=none):=by
 subst h;and_intros<;>kernel_rfl
theorem WF13 (P:Go.Program) (h:P=Tryz.prog):(isPtrP P 202=true)∧((P.underlying 202).isSome=true)∧(ifcP P 202=true)∧(szP P 207=some 1)∧(bytP P 207=some 8)∧(zeroP P 207=some (.pointer none))∧(aggP P 207=some false)∧(arrP P 207=none)∧(isPtrP P 207=true)∧((P.underlying 207).isSome=true)∧(ifcP P 207=true)∧(szP P 210=some 1)∧(zeroP P 210=some .nilFunc)∧(aggP P 210=some false)∧(isFnP P 210=true)∧(szP P 212=some 1)∧(bytP P 212=some 8)∧(zeroP P 212=some .nilFunc)∧(aggP P 212=some false)∧(arrP P 212=none)∧((P.underlying 212).isSome=true)∧(ifcP P 212=true)∧(isFnP P 212=true)∧(szP P 229=some 1)∧(bytP P 229=some 8)∧(zeroP P 229=some (.pointer none))∧(aggP P 229=some false)∧(arrP P 229=none)∧(isPtrP P 229=true)∧((P.underlying 229).isSome=true)∧(ifcP P 229=true)∧(szP P 234=some 1)∧(bytP P 234=some 8)∧(zeroP P 234=some (.pointer none))∧(aggP P 234=some false)∧(arrP P 234=none)∧((P.underlying 234).isSome=true)∧(ifcP P 234=true):=by
 subst h;and_intros<;>kernel_rfl
end
section
variable {p:Prop}
theorem bA {q:Prop} (h:p) (k:q):p∧q:=⟨h,k⟩
def Ba:=bA @List.map_cons.{0,0}<| bA @List.map_nil.{0,0}<| bA @List.getElem?_cons_zero.{0}<| bA @List.getElem?_cons_succ.{0}<| bA @List.getElem?_nil.{0}<| bA @List.nil_append.{0}<| bA @List.cons_append.{0}<| bA @List.append_nil.{0}<| bA @List.take_zero.{0}<| bA @List.take_succ_cons.{0}<| bA @List.take_nil.{0}<| bA @List.drop_zero.{0}<| bA @List.drop_succ_cons.{0}<| bA @List.drop_nil.{0}<| bA @List.length_cons.{0}<| bA @List.length_nil.{0}<| bA @List.all_cons.{0}<| bA @List.all_nil.{0}<| bA @List.set_cons_zero.{0}<| bA @List.set_cons_succ.{0}<| bA @List.set_nil.{0}<| bA @List.getElem?_drop.{0}<| bA @List.length_map.{0,0}<| bA @List.length_append.{0}<| bA @Option.map_some.{0,0}<| bA @Option.map_none.{0,0}<| bA @Option.bind_some.{0,0}<| bA @Option.bind_none.{0,0}<| bA @Bool.and_true<| bA @Bool.true_and<| bA @Bool.not_true<| bA @Bool.not_false<| bA @Bool.true_beq<| bA @Bool.false_beq<| bA @Nat.mul_one<| bA @Nat.sub_zero<| bA @Nat.sub_self<| bA @Nat.add_zero<| bA @Nat.zero_add<| bA @Int.toNat_natCast<| bA @Int.natCast_zero<| bA @Int.sub_zero<| bA @Int.add_zero<| bA @Int.zero_add<| bA @ne_eq.{1}<| bA @not_false_eq_true<| bA @true_and<| bA @and_true<| bA @decide_true<| bA @decide_false<| bA @eq_self.{1}<| bA @Option.isNone_none.{0}<| bA @Option.isNone_some.{0}<| bA @Option.isSome_some.{0}<| bA @Bool.false_and<| bA @Bool.and_false<| bA @cond_true.{1}<| bA @cond_false.{1}<| @List.size_toArray.{0}
def Bb:=bA @Wv.fitE_nil<| bA @Wv.fitE_cons<| bA @Wv.c_skip<| bA @Wv.c_ret<| bA @Wv.c_exit<| bA @Wv.c_label<| bA @Wv.c_scope<| bA @Wv.c_seq<| bA @Wv.c_block<| bA @Wv.c_cond<| bA @Wv.c_reg<| bA @Wv.c_draw<| bA @Wv.wd_no<| bA @Wv.wd_esc<| bA @Wv.k_seq0<| bA @Wv.k_seq1<| bA @Wv.k_seq2<| bA @Wv.k_seq3<| bA @Wv.k_p<| bA @Wv.k_blk0<| bA @Wv.k_blk1<| bA @Wv.k_blk2<| bA @Wv.k_blk3<| bA @Wv.k_reg<| bA @Wv.k_tail1<| bA @Wv.k_tail<| bA @Wv.k_o<| bA @Wv.k_r<| bA @Wv.k_h<| bA @Wv.k_for1<| bA @Wv.k_for2<| bA @Wv.k_for3<| bA @Wv.fz_zero<| bA @Wv.fz_cons<| bA @Wv.fz_nil<| bA @Wv.o_nil<| bA @Wv.o_cons<| bA @Wv.o_when<| bA @Wv.h_nil<| bA @Wv.h_alloc<| bA @Wv.h_cons<| bA @Wv.h_when<| bA @Wv.r_move<| bA @Wv.r_assign<| bA @Wv.r_pick<| bA @Wv.r_build<| bA @Wv.r_load<| bA @Wv.r_nilCheck<| bA @Wv.r_binOp<| bA @Wv.r_unOp<| bA @Wv.r_convert<| bA @Wv.r_fieldAddr<| bA @Wv.r_field<| bA @Wv.r_extract<| bA @Wv.w_ifc<| bA @Wv.q_ifc<| bA @Wv.w_lookup<| bA @Wv.q_lookup<| bA @Wv.w_makeMap<| bA @Wv.w_mapUpdate<| bA @Wv.w_insert<| bA @Wv.sPan_ifc<| bA @Wv.w_panic<| bA @Wv.w_move<| bA @Wv.q_move<| bA @Wv.w_assign<| bA @Wv.q_assign<| bA @Wv.w_pick<| bA @Wv.q_pick<| @Wv.w_build
def Bc:=bA @Wv.q_build<| bA @Wv.w_load<| bA @Wv.q_load<| bA @Wv.w_nilCheck<| bA @Wv.q_nilCheck<| bA @Wv.w_binOp<| bA @Wv.q_binOp<| bA @Wv.w_unOp<| bA @Wv.q_unOp<| bA @Wv.w_convert<| bA @Wv.q_convert<| bA @Wv.w_fieldAddr<| bA @Wv.q_fieldAddr<| bA @Wv.w_field<| bA @Wv.q_field<| bA @Wv.w_extract<| bA @Wv.q_extract<| bA @Wv.r_slice<| bA @Wv.q_slice<| bA @Wv.w_slice<| bA @Wv.r_indexAddr<| bA @Wv.q_indexAddr<| bA @Wv.w_indexAddr<| bA @Wv.r_index<| bA @Wv.q_index<| bA @Wv.w_index<| bA @Wv.r_func<| bA @Wv.q_func<| bA @Wv.w_func<| bA @Wv.q_len<| bA @Wv.w_len<| bA @Wv.q_max<| bA @Wv.w_max<| bA @Wv.q_min<| bA @Wv.w_min<| bA @Wv.w_append<| bA @Wv.w_copy<| bA @Wv.w_call<| bA @Wv.q_call<| bA @Wv.q_lit<| bA @Wv.q_append<| bA @Wv.w_lit<| bA @Wv.w_alloc<| bA @Wv.w_box<| bA @Wv.w_store<| bA @Wv.w_make<| bA @Wv.sV_some<| bA @Wv.sA_some<| bA @Wv.sG_some<| bA @Wv.sO_some<| bA @Wv.sE_some<| bA @Wv.sH_some<| bA @Wv.sZ_some<| bA @Wv.sB_some<| bA @Wv.sS_some<| bA @Wv.sT_some<| bA @Wv.sT0_some<| bA @Wv.sI_some<| bA @Wv.sX1_some<| bA @Wv.sX2_some<| bA @Wv.sN_some<| bA @Wv.sL_some<| bA @Wv.sP_t<| bA @Wv.sP_f<| bA @Wv.sC_t<| bA @Wv.sC_f<| bA @Wv.sW_tt<| bA @Wv.sW_tf<| bA @Wv.sW_ft<| @Wv.sW_ff
def Bd:=bA @Wv.sW_dt00<| bA @Wv.sW_dt01<| bA @Wv.sW_dt10<| bA @Wv.sW_dt11<| bA @Wv.sW_df00<| bA @Wv.sW_df01<| bA @Wv.sW_df10<| bA @Wv.sW_df11<| bA @Wv.sW_un<| bA @Wv.sY_un<| bA @Wv.sY_tt<| bA @Wv.sY_tf<| bA @Wv.sY_ft<| bA @Wv.sY_ff<| bA @Wv.sY_dt00<| bA @Wv.sY_dt01<| bA @Wv.sY_dt10<| bA @Wv.sY_dt11<| bA @Wv.sY_df00<| bA @Wv.sY_df01<| bA @Wv.sY_df10<| bA @Wv.sY_df11<| bA @Wv.sP_d00<| bA @Wv.sP_d01<| bA @Wv.sP_d10<| bA @Wv.sP_d11<| bA @Wv.sF_some<| bA @Wv.finP0<| bA @Wv.finP1<| bA @Wv.finP2<| bA @Wv.fin0<| bA @Wv.fin1<| bA @Wv.resA_eq<| bA @Wv.resB1<| bA @Wv.resB0<| bA @Wv.resB2<| bA @Wv.resL_nil<| bA @Wv.resL_tmp<| bA @Wv.resC_some<| bA @Wv.yes_c<| bA @Wv.no_c<| bA @Wv.yes_n<| bA @Wv.no_n<| bA @Wv.gGet_some<| bA @Wv.put_some<| bA @Wv.put_none<| bA @Wv.get_nil<| bA @Wv.get_cons<| bA @Wv.op_tmp<| bA @Wv.op_const<| bA @Wv.op_func<| bA @Wv.op_global<| bA @Wv.keep_nil<| bA @Wv.keep_cons<| bA @Wv.kof_cons<| bA @Wv.kof_nil<| bA @Wv.arr_list<| bA @Wv.arg_nil<| bA @Wv.arg_cons<| bA @Wv.al_nil<| bA @Wv.al_cons<| bA @Wv.blkOf_eq<| bA @Wv.int_int<| bA @Wv.bin_int<| bA @Wv.bin_str<| bA @Wv.eq_eql<| bA @Wv.eq_neq<| bA @Wv.b_add<| bA @Wv.b_sub<| @Wv.b_mul
def Be:=bA @Wv.b_quo<| bA @Wv.b_rem<| bA @Wv.b_shl<| bA @Wv.b_shr<| bA @Wv.b_and<| bA @Wv.b_or<| bA @Wv.b_xor<| bA @Wv.b_eql<| bA @Wv.b_neq<| bA @Wv.b_lss<| bA @Wv.b_leq<| bA @Wv.b_gtr<| bA @Wv.b_geq<| bA @Wv.b_cat<| bA @Wv.b_seq<| bA @Wv.b_sne<| bA @Wv.u_not<| bA @Wv.u_neg<| bA @Wv.ex_tup<| bA @Wv.mm_max<| bA @Wv.mm_min<| bA @Wv.w64<| bA @Wv.wu32<| bA @Wv.wu64<| bA @Wv.wu8<| bA @Wv.bits_u32<| bA @Wv.bits_u64<| bA @Wv.bits_i64<| bA @Wv.bits_u8<| bA @Wv.tab_len<| bA @Wv.tab_get<| bA @Wv.tab_set<| bA @Wv.ints_tab<| bA @Wv.ld<| bA @Wv.bh_ptr<| bA @Wv.bBlk_some<| bA @Wv.bh_ap<| bA @Wv.bArr1<| bA @Wv.bArr_some<| bA @Wv.bh_tp<| bA @Wv.lv_own<| bA @Wv.lv_ap<| bA @Wv.lv_ptr<| bA @Wv.lArr_some<| bA @Wv.lBlk_some<| bA @Wv.cl_int<| bA @Wv.cl_bool<| bA @Wv.cl_str<| bA @Wv.cl_nils<| bA @Wv.cl_nilp<| bA @Wv.cl_t<| bA @Wv.cl_g<| bA @Wv.cl_tp<| bA @Wv.cl_fn<| bA @Wv.cl_own<| bA @Wv.cl_ptr<| bA @Wv.on_v<| bA @Wv.oc_int<| bA @Wv.oc_bool<| bA @Wv.oc_str<| bA @Wv.oc_slice<| bA @Wv.oc_ptr<| bA @Wv.on_t<| bA @Wv.on_tp<| bA @Wv.on_fn<| bA @Wv.on_own<| bA @Wv.on_ptr<| bA @Wv.st<| bA @Wv.st_ptr<| @Wv.st_ap
def Bf:=bA @Wv.stP_some<| bA @Wv.stQ_one<| bA @Wv.stQ_some<| bA @Wv.setLA_nil<| bA @Wv.setLA_cons<| bA @Wv.sD_z<| bA @Wv.sDz_some<| bA @Wv.resL_cell<| bA @Wv.rsB_some<| bA @Wv.bin_bool<| bA @Wv.bB_true<| bA @Wv.np_ptr<| bA @Wv.np_ap<| bA @Wv.np_tp<| bA @Wv.np_v<| bA @Wv.nP_true<| bA @Wv.bin_pz<| bA @Wv.bin_nilp<| bA @Wv.bin_nils<| bA @Wv.bin_g<| bA @Wv.bin_agg<| bA @Wv.eqG_h<| bA @Wv.eqH_some<| bA @Wv.eqL_nil<| bA @Wv.eqL_cons<| bA @Wv.eqC_i<| bA @Wv.eqC_b<| bA @Wv.eqC_s<| bA @Wv.andO_some<| bA @Wv.bN_true<| bA @Wv.conv_int<| bA @Wv.conv_str<| bA @Wv.cvS_true<| bA @Wv.str_one<| bA @Wv.stD_some<| bA @Wv.conv_t<| bA @Wv.conv_own<| bA @Wv.cvO_one<| bA @Wv.ints_nil<| bA @Wv.cvB_some<| bA @Wv.tk<| bA @Wv.tkB_one<| bA @Wv.tkB_agg<| bA @Wv.ix<| bA @Wv.ixB_s<| bA @Wv.ixB_a<| bA @Wv.ixC_t<| bA @Wv.ixC_own<| bA @Wv.ixD_true<| bA @Wv.ixE_some<| bA @Wv.sh<| bA @Wv.sh_ptr<| bA @Wv.sh_ap<| bA @Wv.sh_tp<| bA @Wv.lv_tp<| bA @Wv.len<| bA @Wv.len_arr<| bA @Wv.len_no<| bA @Wv.len_t<| bA @Wv.len_nil<| bA @Wv.len_own<| bA @Wv.lenD_true<| bA @Wv.len_str<| bA @Wv.stA_some<| bA @Wv.ap<| bA @Wv.apA_some<| bA @Wv.apB_one<| bA @Wv.apE_own<| bA @Wv.apF_some<| @Wv.apF_one
def Bg:=bA @Wv.apE_nil<| bA @Wv.cp<| bA @Wv.cpA_some<| bA @Wv.cpB_own<| bA @Wv.cpE_some<| bA @Wv.cpE_one<| bA @Wv.at_<| bA @Wv.atA_some<| bA @Wv.atB_some<| bA @Wv.atE_e0<| bA @Wv.atE_nil<| bA @Wv.cl_e0<| bA @Wv.on_e0<| bA @Wv.cs1_e0<| bA @Wv.cs2_e0<| bA @Wv.cs3_e0<| bA @Wv.sr<| bA @Wv.sr_t<| bA @Wv.srC_true<| bA @Wv.sr_own<| bA @Wv.srD_some<| bA @Wv.srD_one<| bA @Wv.sr_nil<| bA @Wv.sr_str<| bA @Wv.clB_some<| bA @Wv.clB_one<| bA @Wv.cs1_v<| bA @Wv.cs1_t<| bA @Wv.cs1_tp<| bA @Wv.cs1_fn<| bA @Wv.cs1_none<| bA @Wv.cs1_ptr<| bA @Wv.cs1_own<| bA @Wv.cs2_v<| bA @Wv.cs2_t<| bA @Wv.cs2_tp<| bA @Wv.cs2_fn<| bA @Wv.cs2_none<| bA @Wv.cs2_ptr<| bA @Wv.cs2_own<| bA @Wv.cs3_v<| bA @Wv.cs3_t<| bA @Wv.cs3_tp<| bA @Wv.cs3_fn<| bA @Wv.cs3_none<| bA @Wv.cs3_ptr<| bA @Wv.cs3_own<| bA @Wv.cs2_g<| bA @Wv.cs3_g<| bA @Wv.cs3_tup<| bA @Wv.cw_nil<| bA @Wv.cw_cons<| bA @Wv.cwB_some<| bA @Wv.cwC_some<| bA @Wv.lt<| bA @Wv.ltA_some<| bA @Wv.ltB_some<| bA @Wv.rw_nil<| bA @Wv.rw_cons<| bA @Wv.rwB_some<| bA @Wv.mk<| bA @Wv.mkA_some<| bA @Wv.mkB_some<| bA @Wv.zrow_int<| bA @Wv.zrow_bool<| bA @Wv.zrow_nil<| bA @Wv.fd<| bA @Wv.fdA_some<| bA @Wv.fdB_some<| @Wv.fl
def Bh:=bA @Wv.flA_some<| bA @Wv.flB_some<| bA @Wv.co_g<| bA @Wv.co_agg<| bA @Wv.cl_agg<| bA @Wv.bdx<| bA @Wv.bdX_some<| bA @Wv.fi_nil<| bA @Wv.fi_cons<| bA @Wv.fiB_some<| bA @Wv.bo_none<| bA @Wv.bo_some<| bA @Wv.hx_some<| bA @Wv.szE_some<| bA @Wv.sl_t<| bA @Wv.st_t<| bA @Wv.st_o<| bA @Wv.slO_some<| bA @Wv.slT_some<| bA @Wv.sl_s<| bA @Wv.st_s<| bA @Wv.slS_some<| bA @Wv.tab_take<| bA @Wv.tab_drop<| bA @Wv.tab_nil<| bA @Wv.tab_one<| bA @Wv.ix_str<| bA @Wv.isB_true<| bA @Wv.cv_int<| bA @Wv.cv_t<| bA @Wv.cv_own<| bA @Wv.cv_str<| bA @Wv.cvX_none<| bA @Wv.cvX_u8<| bA @Wv.sl_ptr<| bA @Wv.slP1_some<| bA @Wv.slP2_some<| bA @Wv.lk<| bA @Wv.lkA_some<| bA @Wv.lkB_mp<| bA @Wv.lkB_tm<| bA @Wv.lkD_some<| bA @Wv.lkR_tt<| bA @Wv.lkR_tn<| bA @Wv.lkR_ft<| bA @Wv.lkR_fn<| bA @Wv.kk_int<| bA @Wv.kk_str<| bA @Wv.kb_nil<| bA @Wv.kb_cons<| bA @Wv.lm_nil<| bA @Wv.lm_cons<| bA @Wv.ke_int<| bA @Wv.ke_str<| bA @Wv.pm_nil<| bA @Wv.pm_cons<| bA @Wv.up<| bA @Wv.upA_some<| bA @Wv.upB_some<| bA @Wv.upD_some<| bA @Wv.bin_nilf<| bA @Wv.bF_eq<| bA @Wv.bF_ne<| bA @Wv.nf_nil<| bA @Wv.nf_fn<| bA @Wv.ca_mp<| bA @Wv.lv_mp<| bA @Wv.lMap_some<| bA @Wv.on_mp<| @Wv.ca_fn
def Bi:=bA @Wv.ca_ifc<| bA @Wv.on_ifc<| bA @Wv.cl3_mp<| bA @Wv.cl1M_some<| bA @Wv.cl3_ifc<| @Wv.cl3_fn
def Bz:=bA (Wv.WF0 _ rfl)<| bA (Wv.WF1 _ rfl)<| bA (Wv.WF2 _ rfl)<| bA (Wv.WF3 _ rfl)<| bA (Wv.WF4 _ rfl)<| bA (Wv.WF5 _ rfl)<| bA (Wv.WF6 _ rfl)<| bA (Wv.WF7 _ rfl)<| bA (Wv.WF8 _ rfl)<| bA (Wv.WF9 _ rfl)<| bA (Wv.WF10 _ rfl)<| bA (Wv.WF11 _ rfl)<| bA (Wv.WF12 _ rfl)<| Wv.WF13 _ rfl
theorem Bv:(∀ k z,Value.cells (.int k z)= #[.int k z])∧(∀ b,Value.cells (.bool b)= #[.bool b])∧(∀ s,Value.cells (.string s)= #[.string s])∧(∀ a,Value.cells (.pointer a)= #[.pointer a])∧(∀ a n c,Value.cells (.slice a n c)= #[.slice a n c])∧(∀ r,Value.cells (.map r)= #[.map r])∧(∀ f a c,Value.cells (.func f a c)= #[.func f a c])∧(Value.cells .nilFunc= #[.nilFunc])∧(∀ T v,Value.cells (.iface T v)= #[.iface T v])∧(Value.cells .nilIface= #[.nilIface])∧(∀ l,Value.cells (.agg l)=l)∧(∀ z,vcells z=z.cells.toList.map .v)∧(∀ o:Oper,isAlloc o=(o.guard.isNone && match o.op with | .alloc _=>true | _=>false)):=
 ⟨fun _ _=>rfl,fun _=>rfl,fun _=>rfl,fun _=>rfl,fun _ _ _=>rfl,fun _=>rfl,fun _ _ _=>rfl,rfl,fun _ _=>rfl,rfl,fun _=>rfl,fun _=>rfl,fun _=>rfl⟩
theorem Bw:(∀ T s cells z,froze (some (.arr T s cells z))=some (.arr T s cells cells.length))∧(∀ c,froze (some (.blk c))=some (.blk c))∧(∀ c,froze (some (.map c))=some (.map c))∧(froze none=none):=
 ⟨fun _ _ _ _=>rfl,fun _=>rfl,fun _=>rfl,rfl⟩
def Bx0:=bA @Wv.lv_own<| bA @Wv.lv_ptr<| bA @Wv.lv_ap<| bA @Wv.lArr_some<| bA @Wv.lBlk_some<| bA @Wv.tab_len<| bA @Wv.lv_tp<| bA @Nat.mul_one<| bA @Nat.zero_add<| bA @List.size_toArray.{0}<| bA @decide_true<| bA @List.getElem?_cons_zero.{0}<| bA @List.getElem?_cons_succ.{0}<| bA @List.length_cons.{0}<| bA @List.length_nil.{0}<| bA @List.length_append.{0}<| bA @Option.isNone_none.{0}<| bA @Option.isNone_some.{0}<| bA @Bool.true_and<| bA @Bool.and_false<| @Bool.false_and
def Bx:=bA Bx0 Bv
def B:=bA Ba<| bA Bb<| bA Bc<| bA Bd<| bA Be<| bA Bf<| bA Bg<| bA Bh<| bA Bi<| bA Bz<| bA Bv<| bA Bw<| @Option.some.injEq.{0}
def BC:=bA @implies_true.{0}<| bA @implies_true.{1}<| bA @Wv.clo_v<| bA @Wv.clo_none<| bA @Wv.clo_e0<| bA @Wv.clo_t<| bA @Wv.clo_g<| bA @Wv.clo_tup<| bA @Wv.clo_fn<| bA @Wv.clo_ifc<| bA @Wv.clo_nil<| bA @Wv.clo_cons<| bA @Wv.clo_tab<| bA @Wv.clo_map<| bA @and_self<| bA @true_and<| @and_true
theorem BK0:(∀ ks,base ks=kOf ks 1000000)∧(∀ d,kOf [] d=0)∧(∀ i k r d,kOf ((i,k)::r) d=if i=d then k else kOf r d):=⟨fun _=>rfl,fun _=>rfl,fun _ _ _ _=>rfl⟩
def BK:=bA BK0<| bA BC<| bA @Wv.lo_own<| bA @Wv.lo_ptr<| bA @Wv.lo_ap<| bA @Wv.lo_mp<| bA @Wv.lo_fn<| bA @Wv.lo_ifc<| bA @Wv.lo_tm<| bA @Wv.loL_map<| bA @Wv.loH_map<| bA @Wv.lo_v<| bA @Wv.lo_none<| bA @Wv.lo_e0<| bA @Wv.lo_t<| bA @Wv.lo_g<| bA @Wv.lo_tup<| bA @Wv.loE_nil<| bA @Wv.loE_cons<| bA @Wv.loL_nil<| bA @Wv.loL_cons<| bA @Wv.loL_tab<| bA @Wv.loH_nil<| bA @Wv.loH_none<| bA @Wv.loH_blk<| @Wv.loH_arr
def BL:=bA @BK<| bA @List.take_zero.{0}<| bA @List.take_succ_cons.{0}<| bA @List.take_nil.{0}<| bA @Nat.zero_lt_succ<| bA @Nat.lt_add_one<| bA @Nat.lt_one_iff<| @Nat.one_lt_two
theorem D (h:p:=by first | omega | assumption | (simp only [Wv.Bx,simprocAttr]<;>omega) | fail):p:=h
theorem V (h:p:=by simp (maxSteps:=2000000) (disch:=first|exact Wv.D|fail) only [Wv.B,simprocAttr]):p:=h
theorem V2 (h:p:=by simp (maxSteps:=2000000) (disch:=first|exact Wv.D|fail) only [Wv.B,simprocAttr,Int.natCast_add,Int.natCast_one]):p:=h
theorem W {P Q:Prop} (h:Q) (e:P=Q:=by simp (maxSteps:=2000000) (disch:=first|exact Wv.D|fail) only [Wv.B,simprocAttr]<;>rfl):P:=e▸h
theorem c (h:p:=by simp only [Wv.BC]):p:=h
end
end Go.Proofs.YthlhibpfagekfaaGreat.Wv
namespace Go.Proofs.YthlhibpfagekfaaGreat
section
open Go.RowKit Wv
def letB (c:Int):Bool:=(decide (97≤c) && decide (c≤122)) || (decide (65≤c) && decide (c≤90))
def digB (c:Int):Bool:=decide (48≤c) && decide (c≤57)
def orP (c:Int):Int:=IntKind.u8.wrap (BitVec.ofInt IntKind.u8.bits c ||| BitVec.ofInt IntKind.u8.bits 32).toNat
theorem orP_let: ∀ n:Fin 256,(decide (97≤orP n.val) && decide (orP n.val≤122))=letB n.val:=by decide+kernel
theorem letP (c:Int) (h0:0≤c) (h1:c<256):(decide (97≤orP c) && decide (orP c≤122))=letB c:=by
 have:=orP_let ⟨c.toNat,by omega⟩;simp only [Int.toNat_of_nonneg h0] at this;exact this
theorem pletter_tc (c:Int) (h0:0≤c) (h1:c<256):TC Tryz.prog 125 [.v (.int .u8 c)] (.v (.bool (letB c))):=by
 have hl:=letP c h0 h1;unfold orP at hl;refine Wv.TC.by 11 [0,2] [] [.tmp 2] Tryz.func125 rfl rfl rfl ?clo ?_
 case clo=>simp only [Wv.BC]
 by_cases hq:(97:Int)≤IntKind.u8.wrap (BitVec.ofInt IntKind.u8.bits c ||| BitVec.ofInt IntKind.u8.bits 32).toNat
 ·rw [alA hq,Bool.true_and] at hl;simp (disch:=first|exact Wv.D|fail) only [Wv.B,simprocAttr,hl]
 ·rw [alB hq,Bool.false_and] at hl;simp (disch:=first|exact Wv.D|fail) only [Wv.B,simprocAttr, ←hl]
theorem pdigit_tc (c:Int):TC Tryz.prog 127 [.v (.int .u8 c)] (.v (.bool (digB c))):=by
 refine Wv.TC.by 9 [0,2] [] [.tmp 2] Tryz.func127 rfl rfl rfl ?clo ?_
 case clo=>simp only [Wv.BC]
 unfold digB;by_cases hq:48≤c
 ·simp (disch:=first|exact Wv.D|fail) only [Wv.B,simprocAttr,alA hq]
 ·simp (disch:=first|exact Wv.D|fail) only [Wv.B,simprocAttr,alB hq]
end
section
open Go.RowKit Wv
def strsA (n:Nat) (f:Nat→ByteArray):AV:= .t n 1 (tab n fun i=> .v (.string (f i)))
theorem strs_clo (n:Nat) (f:Nat→ByteArray):Clo (strsA n f):=by unfold strsA;simp only [Wv.BC]
theorem sindex_tc (n:Nat) (f:Nat→ByteArray) (s:ByteArray) (hn:n≤140737488351232):TC Tryz.prog 159 [strsA n f, .v (.string s)] (.v (.int .i64 (idxO (findF (fun i=>decide (s=f i)) n)))):=by
 unfold strsA;refine Wv.TC.by 19 [0,8,7,9,1,5,16,4] [] [.tmp 4] Tryz.func159 rfl rfl rfl ?clo ?_
 case clo=>simp only [Wv.BC]
 refine Wv.W ?_;refine wfor (σ:=Nat) (fun i=>[(0,strsA n f),(1, .v (.string s)),(7, .v (.int .i64 n)),(8, .v (.int .i64 i))]) (fun i=>[])
  (fun i=>i≤n∧ ∀ j,j<i→decide (s=f j)=false) (fun i=>n - i) 0 ⟨Nat.zero_le _,fun j hj=>by omega⟩ Wv.V (by simp (disch:=first|exact Wv.D|fail) only [Wv.B,simprocAttr,strsA]) ?_
 rintro i ⟨hi,hb⟩;unfold strsA;by_cases hlt:i<n
 ·have e1:(i:Int)<n:=by omega
  cases hq:decide (s=f i) with
  | true=>
   have hf:=findF_at (p:=fun i=>decide (s=f i)) hlt hq hb;simp (disch:=first|exact Wv.D|fail) only [Wv.B,simprocAttr,hq,hf,idxO]
  | false=>
   simp (disch:=first|exact Wv.D|fail) only [Wv.B,simprocAttr,hq];refine k_next (i+1) ⟨by omega,fun j hj=>?_⟩ (by omega) Wv.V Wv.V2;by_cases e:j=i
   ·subst e;exact hq
   ·exact hb j (by omega)
 ·have hin:i=n:=by omega
  subst hin;have hf:=findF_none (p:=fun i=>decide (s=f i)) hb;simp (disch:=first|exact Wv.D|fail) only [Wv.B,simprocAttr,hf,idxO]
theorem scontains_tc (n:Nat) (f:Nat→ByteArray) (s:ByteArray) (hn:n≤140737488351232):TC Tryz.prog 126 [strsA n f, .v (.string s)] (.v (.bool (anyN n fun i=>decide (s=f i)))):=by
 refine Wv.TC.by 9 [0,1,4] [] [.tmp 4] Tryz.func126 rfl rfl rfl ?clo ?_
 case clo=>simp only [Wv.BC]
 refine Wv.W ?_;refine call_TC (sindex_tc n f s hn) rfl (by simp only [Wv.BC,strs_clo]) Wv.c ?_;simp (disch:=first|exact Wv.D|fail) only [Wv.B,simprocAttr,idxO_any]
theorem sindexf_ht {h:Hp} (n:Nat) (f:Nat→ByteArray) (p:Nat→Bool) (fid:FuncId) (fst cap:List AV) (hn:n≤140737488351232) (hp: ∀ i,i<n→HT Tryz.prog fid (fst++[.v (.string (f i))]++cap) h (fun r h'=>r= .v (.bool (p i))∧h'=h)):
  HT Tryz.prog 128 [strsA n f, .fn (.func fid) fst cap] h (fun r h'=>r= .v (.int .i64 (idxO (findF p n)))∧h'=h):=by
 unfold strsA;refine Wv.HT.by 19 [0,8,7,9,1,5,16,4] [(1000000,h.length)] [.tmp 4] Tryz.func128 rfl rfl rfl ?base ?_
 case base=>rfl
 refine Wv.W ?_;refine wfor (σ:=Nat) (fun i=>[(0,strsA n f),(1, .fn (.func fid) fst cap),(7, .v (.int .i64 n)),(8, .v (.int .i64 i))]) (fun i=>h)
  (fun i=>i≤n∧ ∀ j,j<i→p j=false) (fun i=>n - i) 0 ⟨Nat.zero_le _,fun j hj=>by omega⟩ rfl (by simp (disch:=first|exact Wv.D|fail) only [Wv.B,simprocAttr,strsA]) ?_
 rintro i ⟨hi,hb⟩;unfold strsA;by_cases hlt:i<n
 ·have e1:(i:Int)<n:=by omega
  refine Wv.W ?_;refine call_HT (hp i hlt) ?_;rintro av h' ⟨rfl,rfl⟩;cases hq:p i with
  | true=>
   have hf:=findF_at hlt hq hb;simp (disch:=first|exact Wv.D|fail) only [Wv.B,simprocAttr,hq,hf,idxO]
  | false=>
   simp (disch:=first|exact Wv.D|fail) only [Wv.B,simprocAttr,hq];refine k_next (i+1) ⟨by omega,fun j hj=>?_⟩ (by omega) rfl Wv.V2;by_cases e:j=i
   ·subst e;exact hq
   ·exact hb j (by omega)
 ·have hin:i=n:=by omega
  subst hin;have hf:=findF_none hb;simp (disch:=first|exact Wv.D|fail) only [Wv.B,simprocAttr,hf,idxO]
end
section
open Go.RowKit Wv
variable {h:Hp}
theorem zindexf_ht (n:Nat) (f:Nat→Int) (p:Nat→Bool) (fid:FuncId) (fst cap:List AV) (hn:n≤140737488351232) (hp: ∀ i,i<n→HT Tryz.prog fid (fst++[.v (.int .i64 (f i))]++cap) h (fun r h'=>r= .v (.bool (p i))∧h'=h)):
  HT Tryz.prog 160 [.t n 1 (tab n fun i=> .v (.int .i64 (f i))), .fn (.func fid) fst cap] h (fun r h'=>r= .v (.int .i64 (idxO (findF p n)))∧h'=h):=by
 refine Wv.HT.by 19 [0,8,7,9,1,5,16,4] [(1000000,h.length)] [.tmp 4] Tryz.func160 rfl rfl rfl ?base ?_
 case base=>rfl
 refine Wv.W ?_;refine wfor (σ:=Nat) (fun i=>[(0, .t n 1 (tab n fun i=> .v (.int .i64 (f i)))),(1, .fn (.func fid) fst cap),(7, .v (.int .i64 n)),(8, .v (.int .i64 i))]) (fun i=>h)
  (fun i=>i≤n∧ ∀ j,j<i→p j=false) (fun i=>n - i) 0 ⟨Nat.zero_le _,fun j hj=>by omega⟩ rfl Wv.V ?_
 rintro i ⟨hi,hb⟩;by_cases hlt:i<n
 ·have e1:(i:Int)<n:=by omega
  refine Wv.W ?_;refine call_HT (hp i hlt) ?_;rintro av h' ⟨rfl,rfl⟩;cases hq:p i with
  | true=>
   have hf:=findF_at hlt hq hb;simp (disch:=first|exact Wv.D|fail) only [Wv.B,simprocAttr,hq,hf,idxO]
  | false=>
   simp (disch:=first|exact Wv.D|fail) only [Wv.B,simprocAttr,hq];refine k_next (i+1) ⟨by omega,fun j hj=>?_⟩ (by omega) rfl Wv.V2;by_cases e:j=i
   ·subst e;exact hq
   ·exact hb j (by omega)
 ·have hin:i=n:=by omega
  subst hin;have hf:=findF_none hb;simp (disch:=first|exact Wv.D|fail) only [Wv.B,simprocAttr,hf,idxO]
theorem zcontf_ht (n:Nat) (f:Nat→Int) (p:Nat→Bool) (fid:FuncId) (fst cap:List AV) (hn:n≤140737488351232) (hp: ∀ i,i<n→HT Tryz.prog fid (fst++[.v (.int .i64 (f i))]++cap) h (fun r h'=>r= .v (.bool (p i))∧h'=h)):
  HT Tryz.prog 132 [.t n 1 (tab n fun i=> .v (.int .i64 (f i))), .fn (.func fid) fst cap] h (fun r h'=>r= .v (.bool (anyN n p))∧h'=h):=by
 refine Wv.HT.by 9 [0,1,4] [(1000000,h.length)] [.tmp 4] Tryz.func132 rfl rfl rfl ?base ?_
 case base=>rfl
 refine Wv.W ?_;refine call_HT (fst:=[]) (cap:=[]) (zindexf_ht n f p fid fst cap hn hp) ?_;rintro av h' ⟨rfl,rfl⟩;simp (disch:=first|exact Wv.D|fail) only [Wv.B,simprocAttr,idxO_any]
theorem xindexf_ht (n:Nat) (cells:List AV) (ec:Nat→List AV) (hl:cells.length=n*5) (hel: ∀ i,i<n→List.take 5 (List.drop (i*5) cells)=ec i) (p:Nat→Bool) (fid:FuncId) (fst cap:List AV) (hn:n≤140737488351232) (hp: ∀ i,i<n→HT Tryz.prog fid (fst++[.g (ec i)]++cap) h (fun r h'=>r= .v (.bool (p i))∧h'=h)):
  HT Tryz.prog 161 [.t n 5 cells, .fn (.func fid) fst cap] h (fun r h'=>r= .v (.int .i64 (idxO (findF p n)))∧h'=h):=by
 refine Wv.HT.by 19 [0,8,7,9,1,5,16,4] [(1000000,h.length)] [.tmp 4] Tryz.func161 rfl rfl rfl ?base ?_
 case base=>rfl
 refine Wv.W ?_;refine wfor (σ:=Nat) (fun i=>[(0, .t n 5 cells),(1, .fn (.func fid) fst cap),(7, .v (.int .i64 n)),(8, .v (.int .i64 i))]) (fun i=>h)
  (fun i=>i≤n∧ ∀ j,j<i→p j=false) (fun i=>n - i) 0 ⟨Nat.zero_le _,fun j hj=>by omega⟩ rfl Wv.V ?_
 rintro i ⟨hi,hb⟩;by_cases hlt:i<n
 ·have e1:(i:Int)<n:=by omega
  have hi2:=hel i hlt;have hlen:5≤(List.drop (i*5) cells).length:=by rw [List.length_drop,hl];omega
  simp (disch:=first|exact Wv.D|fail) only [Wv.B,simprocAttr,hi2];refine call_HT (hp i hlt) ?_;rintro av h' ⟨rfl,rfl⟩;cases hq:p i with
  | true=>
   have hf:=findF_at hlt hq hb;simp (disch:=first|exact Wv.D|fail) only [Wv.B,simprocAttr,hq,hf,idxO]
  | false=>
   simp (disch:=first|exact Wv.D|fail) only [Wv.B,simprocAttr,hq];refine k_next (i+1) ⟨by omega,fun j hj=>?_⟩ (by omega) rfl Wv.V2;by_cases e:j=i
   ·subst e;exact hq
   ·exact hb j (by omega)
 ·have hin:i=n:=by omega
  subst hin;have hf:=findF_none hb;simp (disch:=first|exact Wv.D|fail) only [Wv.B,simprocAttr,hf,idxO]
theorem xcontf_ht (n:Nat) (cells:List AV) (ec:Nat→List AV) (hl:cells.length=n*5) (hel: ∀ i,i<n→List.take 5 (List.drop (i*5) cells)=ec i) (p:Nat→Bool) (fid:FuncId) (fst cap:List AV) (hn:n≤140737488351232) (hp: ∀ i,i<n→HT Tryz.prog fid (fst++[.g (ec i)]++cap) h (fun r h'=>r= .v (.bool (p i))∧h'=h)):
  HT Tryz.prog 134 [.t n 5 cells, .fn (.func fid) fst cap] h (fun r h'=>r= .v (.bool (anyN n p))∧h'=h):=by
 refine Wv.HT.by 9 [0,1,4] [(1000000,h.length)] [.tmp 4] Tryz.func134 rfl rfl rfl ?base ?_
 case base=>rfl
 refine Wv.W ?_;refine call_HT (fst:=[]) (cap:=[]) (xindexf_ht n cells ec hl hel p fid fst cap hn hp) ?_;rintro av h' ⟨rfl,rfl⟩;simp (disch:=first|exact Wv.D|fail) only [Wv.B,simprocAttr,idxO_any]
theorem lindexf_ht (n:Nat) (cells:List AV) (ec:Nat→List AV) (hl:cells.length=n*6) (hel: ∀ i,i<n→List.take 6 (List.drop (i*6) cells)=ec i) (p:Nat→Bool) (fid:FuncId) (fst cap:List AV) (hn:n≤140737488351232) (hp: ∀ i,i<n→HT Tryz.prog fid (fst++[.g (ec i)]++cap) h (fun r h'=>r= .v (.bool (p i))∧h'=h)):
  HT Tryz.prog 129 [.t n 6 cells, .fn (.func fid) fst cap] h (fun r h'=>r= .v (.int .i64 (idxO (findF p n)))∧h'=h):=by
 refine Wv.HT.by 19 [0,8,7,9,1,5,16,4] [(1000000,h.length)] [.tmp 4] Tryz.func129 rfl rfl rfl ?base ?_
 case base=>rfl
 refine Wv.W ?_;refine wfor (σ:=Nat) (fun i=>[(0, .t n 6 cells),(1, .fn (.func fid) fst cap),(7, .v (.int .i64 n)),(8, .v (.int .i64 i))]) (fun i=>h)
  (fun i=>i≤n∧ ∀ j,j<i→p j=false) (fun i=>n - i) 0 ⟨Nat.zero_le _,fun j hj=>by omega⟩ rfl Wv.V ?_
 rintro i ⟨hi,hb⟩;by_cases hlt:i<n
 ·have e1:(i:Int)<n:=by omega
  have hi2:=hel i hlt;have hlen:6≤(List.drop (i*6) cells).length:=by rw [List.length_drop,hl];omega
  simp (disch:=first|exact Wv.D|fail) only [Wv.B,simprocAttr,hi2];refine call_HT (hp i hlt) ?_;rintro av h' ⟨rfl,rfl⟩;cases hq:p i with
  | true=>
   have hf:=findF_at hlt hq hb;simp (disch:=first|exact Wv.D|fail) only [Wv.B,simprocAttr,hq,hf,idxO]
  | false=>
   simp (disch:=first|exact Wv.D|fail) only [Wv.B,simprocAttr,hq];refine k_next (i+1) ⟨by omega,fun j hj=>?_⟩ (by omega) rfl Wv.V2;by_cases e:j=i
   ·subst e;exact hq
   ·exact hb j (by omega)
 ·have hin:i=n:=by omega
  subst hin;have hf:=findF_none hb;simp (disch:=first|exact Wv.D|fail) only [Wv.B,simprocAttr,hf,idxO]
theorem lcontf_ht (n:Nat) (cells:List AV) (ec:Nat→List AV) (hl:cells.length=n*6) (hel: ∀ i,i<n→List.take 6 (List.drop (i*6) cells)=ec i) (p:Nat→Bool) (fid:FuncId) (fst cap:List AV) (hn:n≤140737488351232) (hp: ∀ i,i<n→HT Tryz.prog fid (fst++[.g (ec i)]++cap) h (fun r h'=>r= .v (.bool (p i))∧h'=h)):
  HT Tryz.prog 103 [.t n 6 cells, .fn (.func fid) fst cap] h (fun r h'=>r= .v (.bool (anyN n p))∧h'=h):=by
 refine Wv.HT.by 9 [0,1,4] [(1000000,h.length)] [.tmp 4] Tryz.func103 rfl rfl rfl ?base ?_
 case base=>rfl
 refine Wv.W ?_;refine call_HT (fst:=[]) (cap:=[]) (lindexf_ht n cells ec hl hel p fid fst cap hn hp) ?_;rintro av h' ⟨rfl,rfl⟩;simp (disch:=first|exact Wv.D|fail) only [Wv.B,simprocAttr,idxO_any]
theorem scontf_ht (n:Nat) (f:Nat→ByteArray) (p:Nat→Bool) (fid:FuncId) (fst cap:List AV) (hn:n≤140737488351232) (hp: ∀ i,i<n→HT Tryz.prog fid (fst++[.v (.string (f i))]++cap) h (fun r h'=>r= .v (.bool (p i))∧h'=h)):
  HT Tryz.prog 101 [strsA n f, .fn (.func fid) fst cap] h (fun r h'=>r= .v (.bool (anyN n p))∧h'=h):=by
 unfold strsA;refine Wv.HT.by 9 [0,1,4] [(1000000,h.length)] [.tmp 4] Tryz.func101 rfl rfl rfl ?base ?_
 case base=>rfl
 refine Wv.W ?_;refine call_HT (fst:=[]) (cap:=[]) (sindexf_ht n f p fid fst cap hn hp) ?_;rintro av h' ⟨rfl,rfl⟩;simp (disch:=first|exact Wv.D|fail) only [Wv.B,simprocAttr,idxO_any]
end
section
open Go.RowKit Wv
def byt (b:ByteArray) (i:Nat):Int:=((b[i]?).map fun c=>(c.toNat:Int)).getD 0
theorem byt_at {b:ByteArray} {i:Nat} (h:i<b.size): ∃ c:UInt8,b[i]? =some c∧(c.toNat:Int)=byt b i:=by
 refine ⟨b[i],getElem?_pos b i h,?_⟩;unfold byt;rw [getElem?_pos b i h];rfl
theorem byt_ge (b:ByteArray) (i:Nat):0≤byt b i∧byt b i<256:=by
 unfold byt;cases b[i]? with
 | none=>exact ⟨Int.le_refl 0,by decide⟩
 | some c=>
  have h:c.toNat<256:=c.toNat_lt;show 0≤((c.toNat:Nat):Int)∧((c.toNat:Nat):Int)<256;exact ⟨Int.natCast_nonneg _,Int.ofNat_lt.2 h⟩
theorem bytA_tab (b:ByteArray):bytA b=tab b.size fun i=> .v (.int .u8 (byt b i)):=by
 apply List.ext_getElem
 ·unfold bytA tab;rw [List.length_map,List.length_map,List.length_range];rfl
 ·intro i h1 h2;have hi:i<b.size:=by simpa [bytA] using h1
  obtain ⟨c,hc,hb⟩:=byt_at hi;have hc':b.data[i]'hi=c:=by
   rw [getElem?_pos b i hi] at hc;exact Option.some.inj hc
  simp [bytA,tab, ←hb,hc']
def w4 (i:Nat):ByteArray:=match i with | 0=>⟨#[99,105,114,99,117,105,116]⟩ | 1=>⟨#[105,110,112,117,116]⟩ | 2=>⟨#[108,101,116]⟩ | _=>⟨#[111,117,116,112,117,116]⟩
def w8 (i:Nat):ByteArray:=match i with | 0=>⟨#[114,111,116]⟩ | 1=>⟨#[115,119,97,112]⟩ | 2=>⟨#[109,97,115,107]⟩ | 3=>⟨#[116,97,98,108,101]⟩ | 4=>⟨#[101,113]⟩ | 5=>⟨#[108,101,115,115]⟩ | 6=>⟨#[112,111,119]⟩ | _=>⟨#[115,117,109]⟩
def w16 (i:Nat):ByteArray:=if i<8 then ⟨#[]⟩ else w8 (i - 8)
def wordB (s:ByteArray) (i:Nat):Bool:=letB (byt s i) || (digB (byt s i) || decide (byt s i=95))
def nameB (s:ByteArray):Bool:=!(decide (s=⟨#[]⟩) || (decide (16<s.size) || (!letB (byt s 0) || (anyN 4 (fun i=>decide (s=w4 i)) || anyN 16 (fun i=>decide (s=w16 i)))))) && !anyN s.size fun i=>!wordB s i
theorem und_str:(Tryz.prog.underlying 9).isSome=true:=by kernel_rfl
theorem calls_tc:TC Tryz.prog 124 [] (.g [.v (.string ⟨#[]⟩), .v (.string ⟨#[]⟩), .v (.string ⟨#[]⟩), .v (.string ⟨#[]⟩), .v (.string ⟨#[]⟩), .v (.string ⟨#[]⟩), .v (.string ⟨#[]⟩), .v (.string ⟨#[]⟩), .v (.string ⟨#[114,111,116]⟩), .v (.string ⟨#[115,119,97,112]⟩), .v (.string ⟨#[109,97,115,107]⟩), .v (.string ⟨#[116,97,98,108,101]⟩), .v (.string ⟨#[101,113]⟩), .v (.string ⟨#[108,101,115,115]⟩), .v (.string ⟨#[112,111,119]⟩), .v (.string ⟨#[115,117,109]⟩)]):=by
 refine Wv.TC.by 2 [0] [] [.cell 0 167] Tryz.func124 rfl rfl rfl ?clo ?_
 case clo=>simp only [Wv.BC]
 exact Wv.V
theorem pname_tc (s:ByteArray) (hs:s.size≤140737488351232):TC Tryz.prog 100 [.v (.string s)] (.v (.bool (nameB s))):=by
 refine Wv.TC.by 50 [0,3,29,33,32,34,31,5,48,2] [] [.tmp 2] Tryz.func100 rfl rfl rfl ?clo ?_
 case clo=>simp only [Wv.BC]
 refine Wv.W ?_;refine call_TC calls_tc rfl Wv.c Wv.c ?_;have hN:nameB s=(!(decide (s=⟨#[]⟩) || (decide (16<s.size) || (!letB (byt s 0) || (anyN 4 (fun i=>decide (s=w4 i)) || anyN 16 (fun i=>decide (s=w16 i)))))) && !anyN s.size fun i=>!wordB s i):=rfl;cases h1:decide (s=⟨#[]⟩) with
 | true=>
  rw [h1,Bool.true_or,Bool.not_true,Bool.false_and] at hN;simp (disch:=first|exact Wv.D|fail) only [Wv.B,simprocAttr,h1,hN]
 | false=>
  cases h2:decide (16<s.size) with
  | true=>
   have h2':(16:Int)<s.size:=by have:=of_decide_eq_true h2;omega
   rw [h1,h2,Bool.false_or,Bool.true_or,Bool.not_true,Bool.false_and] at hN;simp (disch:=first|exact Wv.D|fail) only [Wv.B,simprocAttr,h1,h2,alA h2',hN]
  | false=>
   have h2': ¬ (16:Int)<s.size:=by have:=of_decide_eq_false h2;omega
   have hsz:s.size≠0:=fun e=>of_decide_eq_false h1 (by cases s with | mk d=>simp [ByteArray.size] at e;rw [e])
   obtain ⟨c,hc,hb⟩:=byt_at (b:=s) (i:=0) (by omega);have hg:=byt_ge s 0;simp (disch:=first|exact Wv.D|fail) only [Wv.B,simprocAttr,h1,h2,alB h2',hc,hb];refine call_TC (pletter_tc (byt s 0) hg.1 hg.2) rfl Wv.c Wv.c ?_;cases h3:letB (byt s 0) with
   | false=>
    rw [h1,h2,h3,Bool.false_or,Bool.false_or,Bool.not_false,Bool.true_or,Bool.not_true,Bool.false_and] at hN;simp (disch:=first|exact Wv.D|fail) only [Wv.B,simprocAttr,hN]
   | true=>
    refine Wv.W ?_;refine call_TC (scontains_tc 4 w4 s (by omega)) rfl (by simp only [Wv.BC,strs_clo]) Wv.c ?_;cases h4:anyN 4 (fun i=>decide (s=w4 i)) with
    | true=>
     rw [h1,h2,h3,h4,Bool.false_or,Bool.false_or,Bool.not_true,Bool.false_or,Bool.true_or,Bool.not_true,Bool.false_and] at hN;simp (disch:=first|exact Wv.D|fail) only [Wv.B,simprocAttr,hN]
    | false=>
     refine Wv.W ?_;refine call_TC (scontains_tc 16 w16 s (by omega)) rfl (by simp only [Wv.BC,strs_clo]) Wv.c ?_;cases h5:anyN 16 (fun i=>decide (s=w16 i)) with
     | true=>
      rw [h1,h2,h3,h4,h5,Bool.false_or,Bool.false_or,Bool.not_true,Bool.false_or,Bool.false_or,Bool.not_true,Bool.false_and] at hN;simp (disch:=first|exact Wv.D|fail) only [Wv.B,simprocAttr,hN]
     | false=>
      rw [h1,h2,h3,h4,h5,Bool.false_or,Bool.false_or,Bool.not_true,Bool.false_or,Bool.false_or,Bool.not_false,Bool.true_and] at hN;clear h1 h2 h3 h4 h5 hc hb hg;simp (disch:=first|exact Wv.D|fail) only [Wv.B,simprocAttr,Wv.cvX_u8 und_str hs,bytA_tab];refine wfor (σ:=Nat) (fun i=>[(0, .v (.string s)),(31, .t s.size 1 (tab s.size fun i=> .v (.int .u8 (byt s i)))),(32, .v (.int .i64 s.size)),(33, .v (.int .i64 i))]) (fun i=>[none,some (.arr 9 1 [.v (.string ⟨#[99,105,114,99,117,105,116]⟩), .v (.string ⟨#[105,110,112,117,116]⟩), .v (.string ⟨#[108,101,116]⟩), .v (.string ⟨#[111,117,116,112,117,116]⟩)] 4)])
       (fun i=>i≤s.size∧ ∀ j,j<i→wordB s j=true) (fun i=>s.size - i) 0 ⟨Nat.zero_le _,fun j hj=>by omega⟩ Wv.V Wv.V ?_
      rintro i ⟨hi,hj⟩;by_cases hlt:i<s.size
      ·have e1:(i:Int)<s.size:=by omega
       have hg:=byt_ge s i;refine Wv.W ?_;refine call_TC (pletter_tc (byt s i) hg.1 hg.2) rfl Wv.c Wv.c ?_;cases h3:letB (byt s i) with
       | true=>
        refine Wv.W ?_;refine k_next (i+1) ⟨by omega,fun j q=>?_⟩ (by omega) Wv.V Wv.V2;by_cases e:j=i
        ·subst e;unfold wordB;rw [h3];rfl
        ·exact hj j (by omega)
       | false=>
        refine Wv.W ?_;refine call_TC (pdigit_tc (byt s i)) rfl Wv.c Wv.c ?_;cases h4:digB (byt s i) with
        | true=>
         refine Wv.W ?_;refine k_next (i+1) ⟨by omega,fun j q=>?_⟩ (by omega) Wv.V Wv.V2;by_cases e:j=i
         ·subst e;unfold wordB;rw [h3,h4];rfl
         ·exact hj j (by omega)
        | false=>
         cases h5:decide (byt s i=95) with
         | true=>
          simp (disch:=first|exact Wv.D|fail) only [Wv.B,simprocAttr,h5];refine k_next (i+1) ⟨by omega,fun j q=>?_⟩ (by omega) Wv.V Wv.V2;by_cases e:j=i
          ·subst e;unfold wordB;rw [h3,h4,h5];rfl
          ·exact hj j (by omega)
         | false=>
          have:nameB s=false:=by
           rw [hN];have:anyN s.size (fun i=>!wordB s i)=true:=by
            unfold anyN;refine List.any_eq_true.2 ⟨i,List.mem_range.2 hlt,?_⟩;unfold wordB;rw [h3,h4,h5];rfl
           rw [this];rfl
          simp (disch:=first|exact Wv.D|fail) only [Wv.B,simprocAttr,h5,this]
      ·have hin:i=s.size:=by omega
       subst hin;have:nameB s=true:=by
        rw [hN];have:anyN s.size (fun i=>!wordB s i)=false:=by
         unfold anyN;refine List.any_eq_false.2 fun i hi=>?_
         rw [hj i (List.mem_range.1 hi)];decide
        rw [this];rfl
       simp (disch:=first|exact Wv.D|fail) only [Wv.B,simprocAttr,this]
end
section
open Go.RowKit Wv
inductive Ex where
 | nil
 | mk (k:Int) (s:ByteArray) (n:Int) (nl:Nat) (li:Nat→Int) (na:Nat) (ar:Nat→Ex)
def tabM (n:Nat) (f:Nat→List AV):List AV:=(List.range n).flatMap f
theorem tabM_succ (n:Nat) (f:Nat→List AV):tabM (n+1) f=tabM n f++f n:=by
 unfold tabM;rw [List.range_succ,List.flatMap_append];simp
theorem tabM_len {m:Nat}: ∀ {n:Nat} {f:Nat→List AV},(∀ i,(f i).length=m)→(tabM n f).length=n*m
 | 0,f,h=>by simp [tabM]
 | n+1,f,h=>by rw [tabM_succ,List.length_append,tabM_len h,h n,Nat.add_mul,Nat.one_mul]
theorem tabM_at {m:Nat}: ∀ {n:Nat} {f:Nat→List AV},(∀ i,(f i).length=m)→ ∀ i,i<n→List.take m (List.drop (i*m) (tabM n f))=f i
 | 0,f,h,i,hi=>by omega
 | n+1,f,h,i,hi=>by
  rw [tabM_succ];have hl:=tabM_len (n:=n) h;by_cases e:i=n
  ·subst e;rw [←hl,List.drop_left, ←h i,List.take_length]
  ·have hi':i<n:=by omega
   have:i*m+m≤n*m:=by rw [←Nat.succ_mul];exact Nat.mul_le_mul_right _ (by omega)
   rw [List.drop_append_of_le_length (by omega),List.take_append_of_le_length (by rw [List.length_drop];omega)];exact tabM_at h i hi'
theorem tabM_drop {m n:Nat} {f:Nat→List AV} (h: ∀ i,(f i).length=m) {i:Nat} (hi:i<n): ∃ r,List.drop (i*m) (tabM n f)=f i++r:=by
 refine ⟨List.drop m (List.drop (i*m) (tabM n f)),?_⟩;have:=tabM_at h i hi;rw [←this];exact (List.take_append_drop m _).symm
theorem tabM_clo {n:Nat} {f:Nat→List AV} (h: ∀ i,i<n→ ∀ a,a∈f i→Clo a): ∀ a,a∈tabM n f→Clo a:=by
 intro a ha;unfold tabM at ha;obtain ⟨i,h1,h2⟩:=List.mem_flatMap.1 ha;exact h i (List.mem_range.1 h1) a h2
theorem cloA1 {a:AV} (h1:Clo a): ∀ x,x∈[a]→Clo x:=by simp only [Wv.BC];exact h1
def Ex.kind:Ex→Int
 | .nil=>0
 | .mk k .. =>k
def exC:Ex→List AV
 | .nil=>[.v (.int .i64 0), .v (.string ⟨#[]⟩), .v (.int .i64 0), .t 0 1 [], .t 0 5 []]
 | .mk k s n nl li na ar=>[.v (.int .i64 k), .v (.string s), .v (.int .i64 n), .t nl 1 (tab nl fun i=> .v (.int .i64 (li i))), .t na 5 (tabM na fun i=>exC (ar i))]
theorem exC_mk (k:Int) (s:ByteArray) (n:Int) (nl:Nat) (li:Nat→Int) (na:Nat) (ar:Nat→Ex):exC (.mk k s n nl li na ar)=[.v (.int .i64 k), .v (.string s), .v (.int .i64 n), .t nl 1 (tab nl fun i=> .v (.int .i64 (li i))), .t na 5 (tabM na fun i=>exC (ar i))]:=rfl
theorem exC_len (x:Ex):(exC x).length=5:=by cases x<;>rfl
theorem exC_clo: ∀ (x:Ex) a,a∈exC x→Clo a:=by
 intro x;induction x with
 | nil=>unfold exC;simp only [Wv.BC]
 | mk k s n nl li na ar ih=>
  unfold exC;have h:=tabM_clo (n:=na) (f:=fun i=>exC (ar i)) fun i _=>ih i
  intro a ha;simp only [List.mem_cons,List.not_mem_nil,or_false] at ha;rcases ha with rfl | rfl | rfl | rfl | rfl
  ·simp only [Wv.BC]
  ·simp only [Wv.BC]
  ·simp only [Wv.BC]
  ·simp only [Wv.BC]
  ·simp only [Wv.BC];exact h
theorem exG_clo (x:Ex):Clo (.g (exC x)):=by simp only [Wv.BC];exact exC_clo x
def okE:Ex→Prop
 | .nil=>False
 | .mk k s n nl li na ar=>s.size≤140737488351232∧nl≤140737488351232∧na≤140737488351232∧ ∀ i,i<na→okE (ar i)
theorem ok_mk {x:Ex} (h:okE x): ∃ k s n nl li na ar,x= .mk k s n nl li na ar:=by
 cases x with
 | nil=>exact h.elim
 | mk k s n nl li na ar=>exact ⟨k,s,n,nl,li,na,ar,rfl⟩
def inB (n:Int):Bool:=decide (-4294967295≤n) && decide (n≤4294967295)
def argN (k:Nat):Int:=match k with | 4=>2 | 5=>2 | 6=>1 | 7=>2 | 8=>1 | 9=>1 | 10=>1 | 11=>1 | 12=>2 | 13=>1 | 14=>1 | 15=>1 | _=>0
def numK (k:Nat):Bool:=match k with | 2=>true | 8=>true | 13=>true | 14=>true | _=>false
def lisK (k:Nat):Bool:=match k with | 3=>true | 10=>true | 11=>true | _=>false
def formB:Ex→Bool
 | .nil=>false
 | .mk k s n nl li na ar=>!decide (k<1) && (!decide (15<k) && ((if k=1 then nameB s else decide (s=⟨#[]⟩)) && (decide ((na:Int)=argN k.toNat) && ((numK k.toNat || decide (n=0)) && ((lisK k.toNat || decide ((nl:Int)=0)) && (inB n && (!anyN nl (fun i=>!inB (li i)) && !anyN na fun i=>!formB (ar i))))))))
theorem pinside_tc (n:Int):TC Tryz.prog 131 [.v (.int .i64 n)] (.v (.bool (inB n))):=by
 refine Wv.TC.by 9 [0,2] [] [.tmp 2] Tryz.func131 rfl rfl rfl ?clo ?_
 case clo=>simp only [Wv.BC]
 unfold inB;by_cases hq: -4294967295≤n
 ·simp (disch:=first|exact Wv.D|fail) only [Wv.B,simprocAttr,alA hq]
 ·simp (disch:=first|exact Wv.D|fail) only [Wv.B,simprocAttr,alB hq]
theorem pformed1_tc (n:Int):TC Tryz.prog 133 [.v (.int .i64 n)] (.v (.bool (!inB n))):=by
 refine Wv.TC.by 6 [0,2] [] [.tmp 2] Tryz.func133 rfl rfl rfl ?clo ?_
 case clo=>simp only [Wv.BC]
 refine Wv.W ?_;refine call_TC (pinside_tc n) rfl Wv.c Wv.c ?_;exact Wv.V
def formL:List AV:= .v (.int .i64 0):: .v (.bool false):: .v (.bool false):: .v (.int .i64 0):: .v (.bool false):: .v (.bool false):: .v (.int .i64 0):: .v (.bool true):: .v (.bool false):: .v (.int .i64 0):: .v (.bool false):: .v (.bool true):: .v (.int .i64 2):: .v (.bool false):: .v (.bool false):: .v (.int .i64 2):: .v (.bool false):: .v (.bool false):: .v (.int .i64 1):: .v (.bool false):: .v (.bool false):: .v (.int .i64 2):: .v (.bool false):: .v (.bool false):: .v (.int .i64 1):: .v (.bool true):: .v (.bool false):: .v (.int .i64 1):: .v (.bool false):: .v (.bool false):: .v (.int .i64 1):: .v (.bool false):: .v (.bool true):: .v (.int .i64 1):: .v (.bool false):: .v (.bool true):: .v (.int .i64 2):: .v (.bool false):: .v (.bool false):: .v (.int .i64 1):: .v (.bool true):: .v (.bool false):: .v (.int .i64 1):: .v (.bool true):: .v (.bool false):: .v (.int .i64 1):: .v (.bool false):: .v (.bool false)::[]
theorem formL_at: ∀ m:Nat,m<16→ ∃ r,List.drop (m*3) formL= .v (.int .i64 (argN m)):: .v (.bool (numK m)):: .v (.bool (lisK m))::r
 | 0,_=>⟨_,rfl⟩ | 1,_=>⟨_,rfl⟩ | 2,_=>⟨_,rfl⟩ | 3,_=>⟨_,rfl⟩ | 4,_=>⟨_,rfl⟩ | 5,_=>⟨_,rfl⟩ | 6,_=>⟨_,rfl⟩ | 7,_=>⟨_,rfl⟩ | 8,_=>⟨_,rfl⟩ | 9,_=>⟨_,rfl⟩ | 10,_=>⟨_,rfl⟩ | 11,_=>⟨_,rfl⟩ | 12,_=>⟨_,rfl⟩ | 13,_=>⟨_,rfl⟩ | 14,_=>⟨_,rfl⟩ | 15,_=>⟨_,rfl⟩
 | n+16,h=>by omega
theorem forms_tc:TC Tryz.prog 130 [] (.g formL):=by
 refine Wv.TC.by 17 [0] [] [.cell 0 174] Tryz.func130 rfl rfl rfl ?clo ?_
 case clo=>unfold formL;simp only [Wv.BC]
 simp (disch:=first|exact Wv.D|fail) only [Wv.B,simprocAttr,formL]
theorem pformed2_tc (x:Ex) (hx:okE x) (b:Bool) (T:TC Tryz.prog 105 [.g (exC x)] (.v (.bool b))):TC Tryz.prog 135 [.g (exC x)] (.v (.bool (!b))):=by
 refine Wv.TC.by 6 [0,1,2] [] [.tmp 2] Tryz.func135 rfl rfl rfl ?clo ?_
 case clo=>simp only [Wv.BC]
 obtain ⟨k,s,n,nl,li,na,ar,rfl⟩:=ok_mk hx;have hG:=exG_clo (.mk k s n nl li na ar);unfold exC at T hG ⊢;refine Wv.W ?_;refine call_TC T rfl (cloA1 hG) Wv.c ?_;exact Wv.V
theorem pformed_tc (x:Ex) (h:okE x):TC Tryz.prog 105 [.g (exC x)] (.v (.bool (formB x))):=by
 induction x with
 | nil=>exact h.elim
 | mk k s n nl li na ar ih=>
 obtain ⟨hs,hnl,hna,hh⟩:=h;refine Wv.TC.by 73 [0,1,14,3,24,5,4,2] [] [.tmp 2] Tryz.func105 rfl rfl rfl ?clo ?_
 case clo=>simp only [Wv.BC]
 unfold exC;refine Wv.W ?_;refine call_TC forms_tc rfl Wv.c (by unfold formL;simp only [Wv.BC]) ?_;have hN:formB (.mk k s n nl li na ar)=(!decide (k<1) && (!decide (15<k) && ((if k=1 then nameB s else decide (s=⟨#[]⟩)) && (decide ((na:Int)=argN k.toNat) && ((numK k.toNat || decide (n=0)) && ((lisK k.toNat || decide ((nl:Int)=0)) && (inB n && (!anyN nl (fun i=>!inB (li i)) && !anyN na fun i=>!formB (ar i))))))))):=rfl;by_cases h1:k<1
 ·rw [alA h1,Bool.not_true,Bool.false_and] at hN;simp (disch:=first|exact Wv.D|fail) only [Wv.B,simprocAttr,formL,alA h1,hN]
 by_cases h2:15<k
 ·rw [alB h1,alA h2,Bool.not_true,Bool.false_and,Bool.not_false,Bool.true_and] at hN;simp (disch:=first|exact Wv.D|fail) only [Wv.B,simprocAttr,formL,alB h1,alA h2,hN]
 rw [alB h1,alB h2,Bool.not_false,Bool.true_and,Bool.true_and] at hN;have hk0:0≤k:=by omega
 obtain ⟨lr,hf⟩:=formL_at k.toNat (by omega);unfold formL at hf;have hz: ∃ b:Bool,(if k=1 then nameB s else decide (s=⟨#[]⟩))=b:=⟨_,rfl⟩
 obtain ⟨b3,h3⟩:=hz;rw [h3] at hN;simp (disch:=first|exact Wv.D|fail) only [Wv.B,simprocAttr,formL,alB h1,alB h2,hf];clear hf;by_cases hk1:k=1;all_goals first | rw [if_pos hk1] at h3 | rw [if_neg hk1] at h3
 rotate_left
 simp (disch:=first|exact Wv.D|fail) only [Wv.B,simprocAttr,alB hk1,h3];rotate_left
 simp (disch:=first|exact Wv.D|fail) only [Wv.B,simprocAttr,alA hk1];refine call_TC (pname_tc s hs) rfl Wv.c Wv.c ?_;simp (disch:=first|exact Wv.D|fail) only [Wv.B,simprocAttr,h3];all_goals
  cases b3 with
  | false=>rw [Bool.false_and] at hN;simp (disch:=first|exact Wv.D|fail) only [Wv.B,simprocAttr,hN]
  | true=>
  rw [Bool.true_and] at hN;cases h4:decide ((na:Int)=argN k.toNat) with
  | false=>rw [h4,Bool.false_and] at hN;simp (disch:=first|exact Wv.D|fail) only [Wv.B,simprocAttr,h4,hN]
  | true=>
  rw [h4,Bool.true_and] at hN;cases h56:(numK k.toNat || decide (n=0)) with
  | false=>
   rw [h56,Bool.false_and] at hN;have h5:=(Bool.or_eq_false_iff.1 h56).1;have h6:=(Bool.or_eq_false_iff.1 h56).2;simp (disch:=first|exact Wv.D|fail) only [Wv.B,simprocAttr,h4,h5,h6,hN]
  | true=>
  have e5:(numK k.toNat=true∧(0:Nat)=0)∨(numK k.toNat=false∧decide (n=0)=true):=by
   cases q:numK k.toNat with
   | true=>exact .inl ⟨rfl,rfl⟩
   | false=>rw [q,Bool.false_or] at h56;exact .inr ⟨rfl,h56⟩
  rw [h56,Bool.true_and] at hN;cases h78:(lisK k.toNat || decide ((nl:Int)=0)) with
  | false=>
   rw [h78,Bool.false_and] at hN;have h7:=(Bool.or_eq_false_iff.1 h78).1;have h8:=(Bool.or_eq_false_iff.1 h78).2;rcases e5 with ⟨h5,h6⟩ | ⟨h5,h6⟩<;>simp (disch:=first|exact Wv.D|fail) only [Wv.B,simprocAttr,h4,h5,h6,h7,h8,hN]
  | true=>
  have e7:(lisK k.toNat=true∧(0:Nat)=0)∨(lisK k.toNat=false∧decide ((nl:Int)=0)=true):=by
   cases q:lisK k.toNat with
   | true=>exact .inl ⟨rfl,rfl⟩
   | false=>rw [q,Bool.false_or] at h78;exact .inr ⟨rfl,h78⟩
  rw [h78,Bool.true_and] at hN;rcases e5 with ⟨h5,h6⟩ | ⟨h5,h6⟩<;>rcases e7 with ⟨h7,h8⟩ | ⟨h7,h8⟩;all_goals
   simp (disch:=first|exact Wv.D|fail) only [Wv.B,simprocAttr,h4,h5,h6,h7,h8];clear h56 h78 h4;refine call_TC (pinside_tc n) rfl Wv.c Wv.c ?_;cases h9:inB n with
   | false=>rw [h9,Bool.false_and] at hN;simp (disch:=first|exact Wv.D|fail) only [Wv.B,simprocAttr,hN]
   | true=>
   rw [h9,Bool.true_and] at hN;refine Wv.W ?_;refine call_HT (fst:=[]) (cap:=[]) (zcontf_ht nl li (fun i=>!inB (li i)) _ [] [] hnl fun i hi=>(pformed1_tc (li i)).ht (cloA1 Wv.c) Wv.c _) ?_;rintro av h' ⟨rfl,rfl⟩;cases h10:anyN nl (fun i=>!inB (li i)) with
   | true=>rw [h10,Bool.not_true,Bool.false_and] at hN;simp (disch:=first|exact Wv.D|fail) only [Wv.B,simprocAttr,hN]
   | false=>
   rw [h10,Bool.not_false,Bool.true_and] at hN;refine Wv.W ?_;refine call_HT (fst:=[]) (cap:=[]) (xcontf_ht na (tabM na fun i=>exC (ar i)) (fun i=>exC (ar i)) (tabM_len fun i=>exC_len _) (tabM_at fun i=>exC_len _) (fun i=>!formB (ar i)) _ [] [] hna fun i hi=>(pformed2_tc (ar i) (hh i hi) _ (ih i (hh i hi))).ht (cloA1 (exG_clo (ar i))) Wv.c _) ?_;rintro av h' ⟨rfl,rfl⟩;simp (disch:=first|exact Wv.D|fail) only [Wv.B,simprocAttr,hN]
end
section
open Go.RowKit Wv
theorem tab_snoc {n:Nat} {f:Nat→AV}:tab (n+1) f=tab n f++[f n]:=by unfold tab;rw [List.range_succ,List.map_append];rfl
def accS (b:Nat) (f:Nat→Nat):Nat→Nat
 | 0=>b
 | n+1=>accS b f n+f n
def accX (f:Nat→Nat):Nat→Nat
 | 0=>0
 | n+1=>max (accX f n) (f n)
def accO (b:Bool) (f:Nat→Bool):Nat→Bool
 | 0=>b
 | n+1=>accO b f n || f n
theorem accS_le (b:Nat) (f:Nat→Nat): ∀ {i n:Nat},i≤n→accS b f i≤accS b f n
 | i,0,h=>by
  have:i=0:=by omega
  subst this;exact Nat.le_refl _
 | i,n+1,h=>by
  by_cases e:i=n+1
  ·subst e;exact Nat.le_refl _
  ·exact Nat.le_trans (accS_le b f (by omega)) (Nat.le_add_right _ _)
theorem accS_base (b:Nat) (f:Nat→Nat) (n:Nat):b≤accS b f n:=accS_le b f (i:=0) (Nat.zero_le n)
theorem accS_one (b:Nat) (f:Nat→Nat) {i n:Nat} (h:i<n):accS b f i+f i≤accS b f n:=accS_le b f (i:=i+1) h
theorem accX_le (f g:Nat→Nat) (b:Nat) (h: ∀ i,f i≤g i): ∀ n,accX f n≤accS b g n
 | 0=>Nat.zero_le _
 | n+1=>by
  show max (accX f n) (f n)≤accS b g n+g n;have:=accX_le f g b h n;have:=h n;omega
def cntE:Ex→Nat
 | .nil=>1
 | .mk k s n nl li na ar=>accS 1 (fun i=>cntE (ar i)) na
def depE:Ex→Nat
 | .nil=>1
 | .mk k s n nl li na ar=>accX (fun i=>depE (ar i)) na+1
def lonE:Ex→Bool
 | .nil=>false
 | .mk k s n nl li na ar=>accO (decide (600<(nl:Int))) (fun i=>lonE (ar i)) na
theorem dep_cnt (x:Ex):depE x≤cntE x:=by
 induction x with
 | nil=>exact Nat.le_refl 1
 | mk k s n nl li na ar ih=>
  show accX (fun i=>depE (ar i)) na+1≤accS 1 (fun i=>cntE (ar i)) na;have:=accX_le (fun i=>depE (ar i)) (fun i=>cntE (ar i)) 0 ih na;have h2: ∀ n,accS 1 (fun i=>cntE (ar i)) n=accS 0 (fun i=>cntE (ar i)) n+1:=fun n=>by
   induction n with
   | zero=>rfl
   | succ n h=>show accS 1 _ n+_=accS 0 _ n+_+1;rw [h];omega
  rw [h2];omega
theorem psize_tc (x:Ex) (h:okE x) (hc:cntE x≤4611686018427387904):TC Tryz.prog 136 [.g (exC x)] (.tup [.v (.int .i64 (cntE x)), .v (.int .i64 (depE x)), .v (.bool (lonE x))]):=by
 induction x with
 | nil=>exact h.elim
 | mk k s n nl li na ar ih=>
 obtain ⟨hs,hnl,hna,hh⟩:=h;have hcn:accS 1 (fun i=>cntE (ar i)) na≤4611686018427387904:=hc;refine Wv.TC.by 42 [0,1,17,16,18,15,6,2,7,3,8,4,9] [(1,5)] [.tmp 2, .tmp 3, .tmp 4] Tryz.func136 rfl rfl rfl ?clo ?_
 case clo=>simp only [Wv.BC]
 unfold exC;refine Wv.W ?_;refine wfor (σ:=Nat) (fun i=>[(1, .ptr 0 0),(2, .v (.int .i64 (accS 1 (fun i=>cntE (ar i)) i:Nat))),(3, .v (.int .i64 (accX (fun i=>depE (ar i)) i:Nat))),(4, .v (.bool (accO (decide (600<(nl:Int))) (fun i=>lonE (ar i)) i))),(15, .t na 5 (tabM na fun i=>exC (ar i))),(16, .v (.int .i64 na)),(17, .v (.int .i64 i))])
  (fun i=>[some (.blk [.v (.int .i64 k), .v (.string s), .v (.int .i64 n), .t nl 1 (tab nl fun i=> .v (.int .i64 (li i))), .t na 5 (tabM na fun i=>exC (ar i))])])
  (fun i=>i≤na) (fun i=>na - i) 0 (Nat.zero_le _) Wv.V (by simp (disch:=first|exact Wv.D|fail) only [Wv.B,simprocAttr,accS,accX,accO,Int.natCast_one]) ?_
 rintro i hi;by_cases hlt:i<na
 ·have e1:(i:Int)<na:=by omega
  have q1:=accS_one 1 (fun i=>cntE (ar i)) hlt;have q2:=accS_base 1 (fun i=>cntE (ar i)) i;have q3:=dep_cnt (ar i);obtain ⟨r,hd⟩:=tabM_drop (f:=fun i=>exC (ar i)) (fun i=>exC_len (ar i)) hlt;have T:=ih i (hh i hlt) (by omega);have hG:=exG_clo (ar i);have hL:=tabM_clo (n:=na) (f:=fun i=>exC (ar i)) fun i _=>exC_clo (ar i)
  revert hd T hG hL;generalize hf:(tabM na fun i=>exC (ar i))=L;generalize hc1:cntE (ar i)=c1 at*;generalize hc2:depE (ar i)=c2 at*;generalize hc3:lonE (ar i)=c3;have hoy:=hh i hlt;generalize ar i=y at hoy ⊢;obtain ⟨k',s',n',nl',li',na',ar',rfl⟩:=ok_mk hoy;rw [exC_mk];intro hd T hG hL;simp only [List.cons_append,List.nil_append] at hd;simp (disch:=first|exact Wv.D|fail) only [Wv.B,simprocAttr,hd];refine call_TC T rfl (cloA1 hG) Wv.c ?_;refine Wv.W ?_;have hmx:(if (c2:Int)>((accX (fun i=>depE (ar i)) i:Nat):Int) then (c2:Int) else ((accX (fun i=>depE (ar i)) i:Nat):Int))=((accX (fun i=>depE (ar i)) (i+1):Nat):Int):=by
   show _=((max (accX (fun i=>depE (ar i)) i) (depE (ar i)):Nat):Int);rw [hc2];split<;>omega
  have hsx:((accS 1 (fun i=>cntE (ar i)) i:Nat):Int)+c1=((accS 1 (fun i=>cntE (ar i)) (i+1):Nat):Int):=by
   show _=((accS 1 (fun i=>cntE (ar i)) i+cntE (ar i):Nat):Int);rw [hc1];omega
  have hox:accO (decide (600<(nl:Int))) (fun i=>lonE (ar i)) (i+1)=(accO (decide (600<(nl:Int))) (fun i=>lonE (ar i)) i || c3):=by
   show (_ || lonE (ar i))=_;rw [hc3]
  cases ho:accO (decide (600<(nl:Int))) (fun i=>lonE (ar i)) i with
  | true=>
   rw [ho,Bool.true_or] at hox;simp (disch:=first|exact Wv.D|fail) only [Wv.B,simprocAttr,hmx,hsx];refine Wv.k_cut (i+1) 1 (by first | decide | exact Nat.le_of_ble_eq_true rfl) (by omega) (by omega) (by simp (disch:=first|exact Wv.D|fail) only [Wv.B,simprocAttr,tab_snoc,hox]) (by simp (disch:=first|exact Wv.D|fail) only [Wv.B,simprocAttr,Int.natCast_add,Int.natCast_one,hox]) (by simp only [Wv.BL, ↓reduceIte,Nat.reduceLeDiff,hL]<;>omega) (by simp only [Wv.BL, ↓reduceIte,Nat.reduceLeDiff,hL]<;>omega)
  | false=>
   rw [ho,Bool.false_or] at hox;simp (disch:=first|exact Wv.D|fail) only [Wv.B,simprocAttr,hmx,hsx];refine Wv.k_cut (i+1) 1 (by first | decide | exact Nat.le_of_ble_eq_true rfl) (by omega) (by omega) (by simp (disch:=first|exact Wv.D|fail) only [Wv.B,simprocAttr,tab_snoc,hox]) (by simp (disch:=first|exact Wv.D|fail) only [Wv.B,simprocAttr,Int.natCast_add,Int.natCast_one,hox]) (by simp only [Wv.BL, ↓reduceIte,Nat.reduceLeDiff,hL]<;>omega) (by simp only [Wv.BL, ↓reduceIte,Nat.reduceLeDiff,hL]<;>omega)
 ·have hin:i=na:=by omega
  subst hin;have h1:cntE (.mk k s n nl li i ar)=accS 1 (fun i=>cntE (ar i)) i:=rfl;have h2:((depE (.mk k s n nl li i ar):Nat):Int)=((accX (fun i=>depE (ar i)) i:Nat):Int)+1:=by
   show ((accX (fun i=>depE (ar i)) i+1:Nat):Int)=_;omega
  have h3:lonE (.mk k s n nl li i ar)=accO (decide (600<(nl:Int))) (fun i=>lonE (ar i)) i:=rfl;have h4:=dep_cnt (.mk k s n nl li i ar);simp (disch:=first|exact Wv.D|fail) only [Wv.B,simprocAttr,h1,h2,h3]
end
end Go.Proofs.YthlhibpfagekfaaGreat
