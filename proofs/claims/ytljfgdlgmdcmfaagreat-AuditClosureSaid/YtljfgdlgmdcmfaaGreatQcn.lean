/- Parts of a proof: Audit: what Needs and Closed return. The machine of abstract values, run: a table of functions (printed by wip/xtab.py). What the laws of Audit show of themselves, for the calls of Needs, Closed, Plant, Expect and Judge in it. Audit: what is judged wrong (the program's side). Audit: what is judged wrong (the reference's side); lists of numbers that are the same; what is great. Audit: the law AuditClosure. -/
import Derived.Test.YtljfgdlgmdcmfaaGreatQcm
import Derived.Test.YtljfgdlgmdcmfaaGreatProg
import Derived.Test.YtljfgdlgmdcmfaaGreatQcl
import Derived.Test.YtljfgdlgmdcmfaaGreatQcg
import Derived.Test.YtljfgdlgmdcmfaaGreatQcf
import Derived.Test.YtljfgdlgmdcmfaaGreatQcj
set_option linter.unusedVariables false
set_option linter.unusedSimpArgs false
set_option maxHeartbeats 1600000
set_option maxRecDepth 100000
namespace Go.Proofs.YtljfgdlgmdcmfaaGreat
section
open Go.RowKit Wv
theorem plist2_tc (S:Nat) (hS:S<4294967296):TC Tryz.prog 99 [.v (.int .u32 S)] (roA (lsN S 32).length (lsF S)):=by
 have T:=plist_tc S hS
 rw [lsL_len,lsL_tab] at T
 exact T
theorem lsn_le (S:Nat):(lsN S 32).length≤32:=lsN_le S 32
theorem aneeds_tc (x:Par) (c:Ci) (N:Nat) (at_:Int) (ss:List (Bool × Nat)) (hx:x.n=N) (hN:N≤32) (V:Nat→Nat) (hV: ∀ j,j<N→V j<2 ^ N)
  (TT:TC Tryz.prog 19 [.g (parC x), .g (ciC c)] (typeA (ss,at_,0))) (TN:TC Tryz.prog 98 [.v (.int .i64 N), .g (ciC c)] (seA N V)) (s:Nat) (hs:s<N):
  TC Tryz.prog 55 [.g (parC x), .g (ciC c), .v (.int .i64 s)] (.tup [roA (lsN (V s) 32).length (lsF (V s)), .v (.int .i64 0)]):=by
 have hP:=parC_clo x
 have hcc:=ciC_clo c
 have hR:=roA_clo (lsN (V s) 32).length (lsF (V s))
 have hp32:2 ^ N≤4294967296:=Nat.pow_le_pow_right (n:=2) (by omega) hN
 have hVs:=hV s hs
 have PL:=plist2_tc (V s) (by omega)
 unfold parC ciC strsA at*
 rw [hx] at*
 unfold seA at TN
 unfold roA at PL hR ⊢
 generalize (lsN (V s) 32).length=m at*
 generalize lsF (V s)=g at*
 refine Wv.TC.by 37 [0,1,3,4,10,19,2,28,6,7] [] [.tmp 6, .tmp 7] Tryz.func55 rfl rfl rfl ?clo ?_
 case clo=>exact .tup (List.forall_mem_cons.2 ⟨hR,List.forall_mem_cons.2 ⟨.v _,fun _ h=>by cases h⟩⟩)
 unfold typeA at TT
 refine Wv.W ?_
 refine call_TC TT rfl (cloA2 (.g hP) (.g hcc)) (by simp only [Wv.BC];exact shL_clo _) ?_
 simp (disch:=first|exact Wv.D|fail) only [Wv.B,simprocAttr,decide_eq_false (show ¬ (s:Int)<0 by omega),decide_eq_false (show ¬ (s:Int)≥N by omega)]
 refine call_TC TN rfl (cloA2 (.v _) (.g hcc)) Wv.c ?_
 refine Wv.W ?_
 refine call_TC PL rfl Wv.c hR ?_
 exact Wv.V
theorem aclosed_err (x:Par) (c:Ci) (e at_:Int) (ss:List (Bool × Nat)) (he:e≠0)
  (TT:TC Tryz.prog 19 [.g (parC x), .g (ciC c)] (typeA (ss,at_,e))) (n:Nat) (f:Nat→Int):
  TC Tryz.prog 53 [.g (parC x), .g (ciC c),roA n f] (.tup [.v (.slice none 0 0), .v (.int .i64 e)]):=by
 have hP:=parC_clo x
 have hcc:=ciC_clo c
 have hR:=roA_clo n f
 unfold parC ciC strsA at*
 refine Wv.TC.by 68 [0,1,3,4,10,26,2,32,39,38,40,37,12,15,13,50,55,54,56,53,11,17,6,7] [] [.tmp 6, .tmp 7] Tryz.func53 rfl rfl rfl ?clo ?_
 case clo=>simp only [Wv.BC]
 unfold typeA at TT
 refine Wv.W ?_
 refine call_TC TT rfl (cloA2 (.g hP) (.g hcc)) (by simp only [Wv.BC];exact shL_clo _) ?_
 simp (disch:=first|exact Wv.D|fail) only [Wv.B,simprocAttr,decide_eq_false he]
def acA (A:Nat) (b:Bool):AV:= .tup [if b=true then roA (lsN A 32).length (lsF A) else .v (.slice none 0 0), .v (.int .i64 (if b=true then 0 else 2))]
theorem aclosed_tc (x:Par) (c:Ci) (N:Nat) (at_:Int) (ss:List (Bool × Nat)) (hx:x.n=N) (hN:N≤32) (V:Nat→Nat) (hV: ∀ j,j<N→V j<2 ^ N)
  (TT:TC Tryz.prog 19 [.g (parC x), .g (ciC c)] (typeA (ss,at_,0))) (TN:TC Tryz.prog 98 [.v (.int .i64 N), .g (ciC c)] (seA N V)) (n:Nat) (f:Nat→Int) (hn:n≤140737488351232) (A:Nat) (hA:ascB N n f=true→IsClo V N (sF f n) A):
  TC Tryz.prog 53 [.g (parC x), .g (ciC c),roA n f] (acA A (ascB N n f)):=by
 have hP:=parC_clo x
 have hcc:=ciC_clo c
 have hp32:2 ^ N≤4294967296:=Nat.pow_le_pow_right (n:=2) (by omega) hN
 have TA:=pasc_tc N n f hn
 have hasc:= @asc_get N n f
 have hclo:Clo (acA A (ascB N n f)):=by
  unfold acA
  refine .tup (List.forall_mem_cons.2 ⟨?_,List.forall_mem_cons.2 ⟨.v _,fun _ h=>by cases h⟩⟩)
  split
  ·exact roA_clo _ _
  ·exact .v _
 generalize ascB N n f=b at*
 unfold parC ciC strsA at*
 rw [hx] at*
 unfold seA at TN
 refine Wv.TC.by 68 [0,1,3,4,10,26,2,32,39,38,40,37,12,15,13,50,55,54,56,53,11,17,6,7] [] [.tmp 6, .tmp 7] Tryz.func53 rfl rfl rfl ?clo ?_
 case clo=>exact hclo
 unfold typeA at TT
 unfold roA at TA ⊢
 refine Wv.W ?_
 refine call_TC TT rfl (cloA2 (.g hP) (.g hcc)) (by simp only [Wv.BC];exact shL_clo _) ?_
 refine Wv.W ?_
 refine call_TC TA rfl Wv.c Wv.c ?_
 cases b with
 | false=>simp (disch:=first|exact Wv.D|fail) only [Wv.B,simprocAttr,acA]
 | true=>
 obtain ⟨a1,a2,a3,a4⟩:=hA rfl
 have hr:=fun i (hi:i<n)=>hasc rfl hi
 have hS: ∀ i,i≤n→sF f i<2 ^ N:=fun i hi=>sF_lt fun a ha=>hr a (by omega)
 refine Wv.W ?_
 refine call_TC TN rfl (cloA2 (.v _) (.g hcc)) Wv.c ?_
 refine Wv.W ?_
 refine wfor (σ:=Nat) (fun i=>[(11, .t N 1 (tab N fun j=> .v (.int .u32 (V j)))),(12, .v (.int .u32 (sF f i))),(13, .v (.int .u32 0)),(37, .t n 1 (tab n fun j=> .v (.int .i64 (f j)))),(38, .v (.int .i64 n)),(39, .v (.int .i64 i))])
  (fun _=>[some (.blk [.v (.int .i64 N), .v (.int .u32 x.p), .v (.int .i64 x.r), .t x.ch.length 1 (x.ch.map fun (c:Nat)=> .v (.int .u32 c)), .v (.int .u32 x.sp), .v (.int .i64 x.wt), .v (.int .u32 x.er)]),some (.blk [.v (.string c.name), .t c.ni 1 (tab c.ni fun i=> .v (.string (c.fi i))), .t c.nl 6 c.lets, .t c.no 1 (tab c.no fun i=> .v (.string (c.fo i)))])])
  (fun i=>i≤n) (fun i=>n - i) 0 (Nat.zero_le _) rfl (by simp (disch:=first|exact Wv.D|fail) only [Wv.B,simprocAttr,sF]) ?_
 intro i hi
 by_cases hlt:i<n
 ·have e1:(i:Int)<n:=by omega
  obtain ⟨k,hk⟩: ∃ k:Nat,f i=k:=⟨(f i).toNat,by have:=hr i hlt;omega⟩
  have hk32:k<32:=by have:=hr i hlt;omega
  have hs:=shl32 k hk32
  have hp:2 ^ k<2 ^ 32:=Nat.pow_lt_pow_right (by omega) hk32
  have hSi:=hS i hi
  have ho:=or32 (sF f i) (2 ^ k) (by omega) (by omega)
  have hws:sF f (i+1)=sF f i ||| 2 ^ k:=by show sF f i ||| 2 ^ (f i).toNat=_;rw [hk];rfl
  rw [←hws] at ho
  simp (disch:=first|exact Wv.D|fail) only [Wv.B,simprocAttr,decide_eq_true e1,hk,Int.toNat_natCast,hs,ho]
  refine k_next (i+1) (by omega) (by omega) rfl Wv.V2
 obtain rfl:i=n:=by omega
 clear hlt
 have hSn:=hS i (Nat.le_refl _)
 generalize sF f i=S at*
 simp (disch:=first|exact Wv.D|fail) only [Wv.B,simprocAttr,Int.lt_irrefl,decide_false]
 refine wfor (σ:=Nat × Nat) (fun q=>[(11, .t N 1 (tab N fun j=> .v (.int .u32 (V j)))),(12, .v (.int .u32 q.1)),(13, .v (.int .u32 q.2))])
  (fun _=>[some (.blk [.v (.int .i64 N), .v (.int .u32 x.p), .v (.int .i64 x.r), .t x.ch.length 1 (x.ch.map fun (c:Nat)=> .v (.int .u32 c)), .v (.int .u32 x.sp), .v (.int .i64 x.wt), .v (.int .u32 x.er)]),some (.blk [.v (.string c.name), .t c.ni 1 (tab c.ni fun i=> .v (.string (c.fi i))), .t c.nl 6 c.lets, .t c.no 1 (tab c.no fun i=> .v (.string (c.fo i)))])])
  (fun q=>q.1<2 ^ N∧SubN S q.1∧SubN q.1 A∧SubN q.2 q.1∧ ∀ j,q.2.testBit j=true→SubN (V j) q.1) (fun q=>2 ^ N - q.2) (S,0) ⟨hSn,fun _ h=>h,a1,SubN.zero _,fun j h=>by rw [Nat.zero_testBit] at h;cases h⟩ rfl Wv.V ?_
 rintro ⟨s,h⟩ ⟨i1,i2,i3,i4,i5⟩
 simp only at i1 i2 i3 i4 i5 ⊢
 by_cases hq:s=h
 ·subst hq
  obtain rfl:s=A:=SubN.eq i3 (a4 s i2 i5)
  have PL:=plist2_tc s (by omega)
  have hR:=roA_clo (lsN s 32).length (lsF s)
  refine Wv.W ?_
  refine call_TC PL rfl Wv.c hR ?_
  simp (disch:=first|exact Wv.D|fail) only [Wv.B,simprocAttr,acA,if_true,roA]
 ·have hle:=i4.le
  have PL:=plist2_tc s (by omega)
  have hm:=lsn_le s
  have hR:=roA_clo (lsN s 32).length (lsF s)
  have hget:=fun i (hi:i<(lsN s 32).length)=>lsF_get hi
  have hex:=fun j (hj:j<32)=> @lsF_ex s j hj
  unfold roA at PL hR
  generalize (lsN s 32).length=m at*
  generalize lsF s=g at*
  simp (disch:=first|exact Wv.D|fail) only [Wv.B,simprocAttr,decide_eq_false (show ¬ (s:Int)=h by omega)]
  refine call_TC PL rfl Wv.c hR ?_
  refine Wv.W ?_
  refine wfor (σ:=Nat × Nat) (fun q=>[(11, .t N 1 (tab N fun j=> .v (.int .u32 (V j)))),(12, .v (.int .u32 q.2)),(13, .v (.int .u32 s)),(53, .t m 1 (tab m fun j=> .v (.int .i64 (g j)))),(54, .v (.int .i64 m)),(55, .v (.int .i64 q.1))])
   (fun _=>[some (.blk [.v (.int .i64 N), .v (.int .u32 x.p), .v (.int .i64 x.r), .t x.ch.length 1 (x.ch.map fun (c:Nat)=> .v (.int .u32 c)), .v (.int .u32 x.sp), .v (.int .i64 x.wt), .v (.int .u32 x.er)]),some (.blk [.v (.string c.name), .t c.ni 1 (tab c.ni fun i=> .v (.string (c.fi i))), .t c.nl 6 c.lets, .t c.no 1 (tab c.no fun i=> .v (.string (c.fo i)))])])
   (fun q=>q.1≤m∧q.2<2 ^ N∧SubN s q.2∧SubN q.2 A∧ ∀ a,a<q.1→ ∀ j:Nat,g a=j→SubN (V j) q.2) (fun q=>m - q.1) (0,s) ⟨Nat.zero_le _,i1,fun _ h=>h,i3,fun a h=>absurd h (Nat.not_lt_zero a)⟩ rfl Wv.V ?_
  rintro ⟨i,s'⟩ ⟨j0,j1,j2,j3,j4⟩
  simp only at j0 j1 j2 j3 j4 ⊢
  by_cases hlt:i<m
  ·have e1:(i:Int)<m:=by omega
   obtain ⟨j,hj,hj32,hjb⟩:=hget i hlt
   have hjN:=bit_lt i1 hjb
   have hVj:=hV j hjN
   have ho:=or32 s' (V j) (by omega) (by omega)
   simp (disch:=first|exact Wv.D|fail) only [Wv.B,simprocAttr,decide_eq_true e1,hj,ho]
   refine k_next (i+1,s' ||| V j) ⟨by simp only;omega,Nat.or_lt_two_pow j1 hVj,j2.trans (SubN.left _ _),j3.or (a2 j (i3 j hjb)),fun a ha k hk=>?_⟩ (by simp only;omega) rfl Wv.V2
   by_cases q:a=i
   ·subst q
    obtain rfl:k=j:=by omega
    exact SubN.right _ _
   ·exact (j4 a (by simp only at ha;omega) k hk).trans (SubN.left _ _)
  ·obtain rfl:i=m:=by omega
   simp (disch:=first|exact Wv.D|fail) only [Wv.B,simprocAttr,Int.lt_irrefl,decide_false]
   refine k_next (s',s) ⟨j1,i2.trans j2,j3,j2,fun j hj=>?_⟩ (by simp only;omega) rfl Wv.V
   obtain ⟨a,ha,e⟩:=hex j (by have:=bit_lt i1 hj;omega) hj
   exact j4 a ha j e
end
end Go.Proofs.YtljfgdlgmdcmfaaGreat
namespace Go.Proofs.YtljfgdlgmdcmfaaGreat.Wv
section
def tbAud:List (FuncId × FI):=[
 (22,⟨[0,1,2,3,35,5,40,71,4],[(6,26),(3000006,msk)]⟩),
 (33,⟨[0,1,3,4,10,29,2,43,11,52,51,53,50,15,78,13,14,93,92,94,91,17,111,110,112,109,18,20,6,7],[(13,10),(3000013,msk),(18,10),(3000018,msk)]⟩),
 (35,⟨[5,0,1,15,27,4],[(4,8)]⟩),
 (45,⟨[0,1,10,5,14,25,4],[(6,8),(3000006,msk)]⟩),
 (46,⟨[1,3,5,7,9,11,13,15,4,6,8,12,14,0],[(5,7),(7,1000000),(5000007,8003)]⟩),
 (48,⟨[0,1,4,5,2,11,24,3,13,12,40,14,8,9],[(7,9),(3000007,msk)]⟩),
 (50,⟨[0,1,10,5,14,25,4],[(6,8),(3000006,msk)]⟩),
 (51,⟨[1,0,12,11,13,10,8,4,7,2,9,26,6],[]⟩),
 (53,⟨[0,1,3,4,10,26,2,32,39,38,40,37,12,15,13,50,55,54,56,53,11,17,6,7],[]⟩),
 (55,⟨[0,1,3,4,10,19,2,28,6,7],[]⟩),
 (67,⟨[0,1,30,3,35,55,58,2],[]⟩),
 (70,⟨[5,0,1,15,26,4],[(4,8),(3000004,msk)]⟩),
 (71,⟨[0,1,2,3,41,5,46,60,4],[(6,10),(3000006,msk)]⟩),
 (77,⟨[0,7,4,15,3,2],[]⟩),
 (78,⟨[0,7,4,15,3,2],[]⟩),
 (79,⟨[0,1,3,16,2,31,30,32,5,6,59,8,7,10,9,75,74,76,12,13,11,4],[(2,6),(3000002,msk),(7,9),(3000007,msk),(20,6),(3000020,msk)]⟩),
 (80,⟨[0,4,2],[]⟩),
 (88,⟨[0,3,2],[]⟩),
 (89,⟨[0,4,11,1,2,43,10,49,48,50,47,14,12,70,74,73,75,72,17,82,81,83,80,3,22,94,18,20,21,15,8,9],[]⟩),
 (90,⟨[0,5,2],[]⟩),
 (91,⟨[0,1,10,13,12,14,5,24,4],[(6,8),(3000006,msk)]⟩),
 (92,⟨[0,12,11,13,10,6,1,21,20,22,19,7,9,4],[]⟩),
 (95,⟨[0,1,2,3,5],[(1,29),(3000001,msk)]⟩),
 (96,⟨[0,1,4],[]⟩),
 (97,⟨[1,9,8,10,7,6,0,5,33,4],[]⟩),
 (98,⟨[0,1,2,8,6,5,7,3,27,26,28,25,10,11,37,36,38,35,12,13,58,57,59,56,16,67,66,68,65,14,17,18,4],[]⟩),
 (99,⟨[4,5,0,3,11,2],[]⟩),
 (104,⟨[0,1,4],[]⟩),
 (106,⟨[0,1,4],[]⟩),
 (111,⟨[0,21,3,25,45,2],[]⟩),
 (112,⟨[3,0,7,15,2],[]⟩),
 (113,⟨[0,1,2],[]⟩),
 (114,⟨[0,1,40,59,3,64,73,4,78,87,2],[(1,34),(3000001,msk)]⟩),
 (115,⟨[0,4,1,9,3,38,2],[]⟩),
 (117,⟨[5,0,1,15,26,4],[(4,8),(3000004,msk)]⟩),
 (120,⟨[0,5,1,4],[]⟩),
 (121,⟨[0,3,2],[]⟩),
 (122,⟨[0,1,3],[(1,10),(3000001,msk)]⟩),
 (123,⟨[1,14,15,19,2,0,25,3,40,55,64,79,4,100,5,115,128,6,142,7,159,174,190,189,191,188,10,12,9],[(7,12),(3000007,msk),(9,12),(3000009,msk),(13,12),(3000013,msk),(15,17),(3000015,msk),(17,11),(3000017,msk),(19,10),(3000019,msk),(21,10),(3000021,msk),(23,14),(3000023,msk),(25,12),(3000025,msk),(27,9),(3000027,msk)]⟩),
 (124,⟨[2,9,14,0,7,1,6],[]⟩),
 (125,⟨[1,0,5,18,28,4],[]⟩),
 (128,⟨[0,10,2,5,6,22,30,7,62,78,3,4],[(8,1000000),(3000008,msk),(12,1000000),(3000012,msk),(16,1000000),(3000016,msk),(5000008,4003),(5000012,7004)]⟩),
 (135,⟨[0,8,7,9,1,5,16,4],[]⟩),
 (136,⟨[0,6,24,23,25,8,10,1,42,41,43,40,9,12,2,13,55,54,56,59,77,14,3,87,4,97,5,121,136,150,160,62,61,63,60,16,7],[(6,8),(3000006,msk),(28,19),(3000028,msk),(30,10),(3000030,msk),(21,8),(3000021,msk)]⟩),
 (145,⟨[0,1,4],[]⟩),
 (148,⟨[0,4,2],[]⟩),
 (155,⟨[0,8,7,9,1,5,16,4],[]⟩),
 (156,⟨[0,8,7,9,1,5,16,4],[]⟩),
 (159,⟨[0,1,4],[]⟩),
 (161,⟨[0,1,4],[]⟩),
 (173,⟨[0,2],[]⟩),
 (174,⟨[5,0,9,1,17,4],[]⟩),
 (175,⟨[0],[]⟩),
 (176,⟨[0,2],[]⟩),
 (177,⟨[0,3,4,8,17,2],[]⟩),
 (178,⟨[0,2],[]⟩),
 (179,⟨[0,2],[]⟩),
 (180,⟨[0,2],[]⟩),
 (181,⟨[0,4,1,9,3,2],[]⟩),
 (182,⟨[0,4,1,9,3,2],[]⟩),
 (183,⟨[0,3,1,8,17,2],[]⟩),
 (194,⟨[4,0,41,45,55,63,3,83,109,112,126,7,74,5,82,6,140,2],[(16,5),(3000016,msk)]⟩),
 (195,⟨[0,1,7],[]⟩),
 (196,⟨[0,28,3,2],[]⟩),
 (197,⟨[0,1,8,4],[]⟩),
 (198,⟨[0,8,3,2],[]⟩),
 (199,⟨[0,19,21,4,3,2],[(7,4),(3000007,msk)]⟩),
 (206,⟨[0,8,7,9,1,5,16,4],[]⟩),
 (210,⟨[0,8,7,9,1,5,16,4],[]⟩),
 (211,⟨[0,8,7,9,1,5,16,4],[]⟩),
 (223,⟨[0,1,4],[]⟩),
 (224,⟨[0,7,3,2],[(3,3),(3000003,msk)]⟩),
 (242,⟨[0,5,2,22],[]⟩),
 (260,⟨[0,10,2,12,24,30,3,6,4,43,51,5],[]⟩),
 (261,⟨[0,21,7,5,6,39,1,68,80,4],[]⟩),
 (267,⟨[0,7,3,15,2],[]⟩),
 (268,⟨[0,1,13,5,25,33,4],[(5,5),(3000005,msk)]⟩),
 (269,⟨[0,2],[]⟩)]
theorem tbAud_ok:tbB Tryz.prog tbAud=true:=by kernel_rfl
end
end Go.Proofs.YtljfgdlgmdcmfaaGreat.Wv
namespace Go.Proofs.YtljfgdlgmdcmfaaGreat
section
open Go.RowKit Wv
def auX:ByteArray:=⟨#[120]⟩
def auA:ByteArray:=⟨#[97]⟩
def auN:Ex:= .mk 1 auX 0 0 (fun _=>0) 0 (fun _=> .nil)
def auR:Ex:= .mk 8 ⟨#[]⟩ 1 0 (fun _=>0) 1 (fun _=>auN)
def auM:Ex:= .mk 10 ⟨#[]⟩ 0 1 (fun _=>1) 1 (fun _=>auR)
def auC (e:Ex):Ci:={name:=⟨#[99]⟩,ni:=1,fi:=fun _=>auX,nl:=1,ln:=fun _=>auA,le:=fun _=>e,no:=1,fo:=fun _=>auA}
theorem auN_ok:okE auN:=⟨by decide,by omega,by omega,fun i hi=>absurd hi (Nat.not_lt_zero i)⟩
theorem auR_ok:okE auR:=⟨by decide,by omega,by omega,fun _ _=>auN_ok⟩
theorem auM_ok:okE auM:=⟨by decide,by omega,by omega,fun _ _=>auR_ok⟩
theorem auC_ok {e:Ex} (h:okE e) (hc:cntE e≤4611686018427387904):okC (auC e) where
 name:=show 1≤_ by decide
 ni:=show 1≤_ by decide
 nl:=show 1≤_ by decide
 no:=show 1≤_ by decide
 fi:=fun _ _=>show 1≤_ by decide
 fo:=fun _ _=>show 1≤_ by decide
 ln:=fun _ _=>show 1≤_ by decide
 le:=fun _ _=>⟨h,hc⟩
theorem ptype_au {e:Ex} (h:okE e) (hc:cntE e≤4611686018427387904):TC Tryz.prog 19 [.g (parC plnP), .g (ciC (auC e))] (typeA (typeQ 0 (auC e) (ruA plnP 17))):=
 ptype_tc plnP (auC e) (ruA plnP 17) ksA 17 0 pmod_pln (auC_ok h hc) (fun _ ns=>rulesA plnP 17 ns (by omega) (by omega) (by decide) (by decide)) (fun _ _=>allK_A _ h)
theorem default_au:TC Tryz.prog 28 [.v (.int .i64 8), .v (.int .u32 17), .v (.int .i64 1), .v (.int .i64 1)] (.tup [.g (parC plnP), .v (.int .i64 0)]):=
 TC.reck (by kernel_rfl) 1000 100 tbTyp_ok (orcL_ok (l:=[]) fun q h=>by cases h) (by kernel_rfl)
def auT:List (FuncId × List AV × AV):=[(19,[.g (parC plnP), .g (ciC (auC auR))],typeA (typeQ 0 (auC auR) (ruA plnP 17))),(19,[.g (parC plnP), .g (ciC (auC auM))],typeA (typeQ 0 (auC auM) (ruA plnP 17))),
 (60,[.g (parC plnP), .v (.int .i64 1)], .tup [.v (.int .i64 17), .v (.int .i64 0)])]
theorem typeA_cloA (q:List (Bool × Nat) × Int × Int):Clo (typeA q):=by
 unfold typeA
 simp only [Wv.BC]
 exact shL_clo _
theorem auT_all: ∀ q,q∈auT→TC Tryz.prog q.1 q.2.1 q.2.2∧Clo q.2.2:=fun q h=>by
 simp only [auT,List.mem_cons,List.not_mem_nil,or_false] at h
 rcases h with rfl | rfl | rfl
 ·exact ⟨ptype_au auR_ok (by decide),typeA_cloA _⟩
 ·exact ⟨ptype_au auM_ok (by decide),typeA_cloA _⟩
 ·exact ⟨pmod_pln,cloB_ok _ rfl⟩
def auRow (l:List Int):AV:= .t 8 1 (l.map fun z=> .v (.int .i64 z))
def auSl:AV:= .t 4 1 [.v (.int .i64 4), .v (.int .i64 5), .v (.int .i64 6), .v (.int .i64 7)]
theorem expect_au:TC Tryz.prog 48 [.g (parC plnP), .g (ciC (auC auR)), .t 1 1 [auRow [1,2,3,4,5,6,7,8]],auSl] (.tup [.t 1 1 [auRow [0,0,0,0,6,7,8,5]], .v (.int .i64 0)]):=
 TC.reckU (by kernel_rfl) 1000 100 tbAud_ok (orcL_ok auT_all) (by kernel_rfl)
def auO:List (FuncId × List AV × AV):=(48,[.g (parC plnP), .g (ciC (auC auR)), .t 1 1 [auRow [1,2,3,4,5,6,7,8]],auSl], .tup [.t 1 1 [auRow [0,0,0,0,6,7,8,5]], .v (.int .i64 0)])::(28,[.v (.int .i64 8), .v (.int .u32 17), .v (.int .i64 1), .v (.int .i64 1)], .tup [.g (parC plnP), .v (.int .i64 0)])::auT
theorem auO_all: ∀ q,q∈auO→TC Tryz.prog q.1 q.2.1 q.2.2∧Clo q.2.2:=fun q h=>by
 rcases List.mem_cons.1 h with rfl | h
 ·exact ⟨expect_au,cloB_ok _ rfl⟩
 rcases List.mem_cons.1 h with rfl | h
 ·exact ⟨default_au, .tup (List.forall_mem_cons.2 ⟨.g (parC_clo plnP),List.forall_mem_cons.2 ⟨.v _,fun _ h=>by cases h⟩⟩)⟩
 ·exact auT_all q h
theorem shown38_tc:TC Tryz.prog 46 [] (.v (.bool true)):=
 TC.reck (by kernel_rfl) 1000 100 tbAud_ok (orcL_ok auO_all) (by kernel_rfl)
end
section
open Go.RowKit Wv
end
section
open Go.RowKit Wv
theorem lsints_tc (n:Nat) (f:Nat→Int) (hn:n≤140737488351232):TC Tryz.prog 50 [roA n f,roA n f] (.v (.bool true)):=by
 unfold roA
 refine Wv.TC.by 26 [0,1,10,5,14,25,4] [(6,8)] [.tmp 4] Tryz.func50 rfl rfl rfl ?clo ?_
 case clo=>simp only [Wv.BC]
 refine Wv.W ?_
 refine wfor (σ:=Nat) (fun i=>[(0, .t n 1 (tab n fun j=> .v (.int .i64 (f j)))),(1, .t n 1 (tab n fun j=> .v (.int .i64 (f j)))),(5, .v (.int .i64 i))]) (fun _=>[]) (fun i=>i≤n) (fun i=>n - i) 0 (Nat.zero_le _) Wv.V Wv.V ?_
 intro i hi
 by_cases hlt:i<n
 ·have e1:(i:Int)<n:=by omega
  simp (disch:=first|exact Wv.D|fail) only [Wv.B,simprocAttr,decide_eq_true e1]
  refine k_next (i+1) (by omega) (by omega) rfl Wv.V2
 ·obtain rfl:i=n:=by omega
  simp (disch:=first|exact Wv.D|fail) only [Wv.B,simprocAttr,Int.lt_irrefl,decide_false]
end
section
open Go.RowKit Wv
def b38 (x:Par) (c:Ci) (n:Nat):Bool:=decide ((x.ch.length:Int)>100) || (beyB c 10000 || (heavB x.p c || decide ((n:Int)>100)))
theorem lbey38_tc (x:Par) (hx:ParOk x) (c:Ci) (h:okC0 c) (n:Nat) (f:Nat→Int) (hn:n≤140737488351232):TC Tryz.prog 47 [.g (parC x), .g (ciC c),roA n f] (.v (.bool (b38 x c n))):=by
 have TB:=lbeyond_tc c h 10000 (by omega) (by omega)
 have hCg:=ciG_clo c
 have hPg:Clo (.g (parC x)):= .g (parC_clo x)
 have hpp:=hx.p1
 obtain ⟨CH,hCH⟩: ∃ CH,CH=x.ch.map fun (c:Nat)=>AV.v (.int .u32 c):=⟨_,rfl⟩
 have hP7:parC x=[.v (.int .i64 x.n), .v (.int .u32 x.p), .v (.int .i64 x.r), .t x.ch.length 1 CH, .v (.int .u32 x.sp), .v (.int .i64 x.wt), .v (.int .u32 x.er)]:=by rw [hCH];rfl
 have hB:b38 x c n=(decide ((x.ch.length:Int)>100) || (beyB c 10000 || (heavB x.p c || decide ((n:Int)>100)))):=rfl
 have TH:=fun (hb:beyB c 10000=false)=>by
  obtain ⟨hok,hnl,hcn⟩:=okC_of h (by omega) (by omega) hb
  exact lheavy_tc (parC x) (parC_clo x) x.p _ _ _ _ _ _ hP7 (by omega) c h hnl fun i hi=>by have:=hcn i hi;omega
 generalize b38 x c n=B at*
 refine Wv.TC.by 25 [0,1,3,4,2,6] [] [.tmp 6] Tryz.func47 rfl rfl rfl ?clo ?_
 case clo=>simp only [Wv.BC]
 rw [hP7] at hPg TH ⊢
 unfold ciC strsA roA at*
 by_cases h100:(x.ch.length:Int)>100
 ·rw [decide_eq_true h100,Bool.true_or] at hB
  subst hB
  simp (disch:=first|exact Wv.D|fail) only [Wv.B,simprocAttr,decide_eq_true h100]
 rw [decide_eq_false h100,Bool.false_or] at hB
 simp (disch:=first|exact Wv.D|fail) only [Wv.B,simprocAttr,decide_eq_false h100]
 refine call_TC TB rfl (clB2 hCg (.v _)) Wv.c ?_
 cases hb:beyB c 10000 with
 | true=>
  rw [hb,Bool.true_or] at hB
  subst hB
  exact Wv.V
 | false=>
 rw [hb,Bool.false_or] at hB
 have TH:=TH hb
 generalize heavB x.p c=hv at*
 refine Wv.W ?_
 refine call_TC TH rfl (clB2 hPg hCg) Wv.c ?_
 cases hv with
 | true=>
  rw [Bool.true_or] at hB
  subst hB
  exact Wv.V
 | false=>
 rw [Bool.false_or] at hB
 by_cases hn1:(n:Int)>100
 ·rw [decide_eq_true hn1] at hB
  subst hB
  simp (disch:=first|exact Wv.D|fail) only [Wv.B,simprocAttr,decide_eq_true hn1]
 ·rw [decide_eq_false hn1] at hB
  subst hB
  simp (disch:=first|exact Wv.D|fail) only [Wv.B,simprocAttr,decide_eq_false hn1]
theorem ndF_lt {N:Nat} {c:Ci} (hN:4≤N) (h2:N % 2=0) (hg:goD c) (j:Nat) (hj:j<N):ndF N c j<2 ^ N:=
 whS_lt (Nat.two_pow_pos N) fun q _=>nsX_lt hN h2 (ltS_ok hN h2 c.nl fun i hi=>(hg.1 i hi).2).lt (naX _) (naX_go _) j hj
theorem clo_self {V:Nat→Nat} {N S A:Nat} (h:IsClo V N S A) (hN:N≤32):IsClo V N (sF (lsF A) (lsN A 32).length) A:=by
 rw [sF_ls hN h.lt]
 exact ⟨fun _ h=>h,h.clo,h.lt,fun B h _=>h⟩
theorem clo_nil {V:Nat→Nat} {N A:Nat} {f:Nat→Int} (h:IsClo V N (sF f 0) A):(lsN A 32).length=0:=by
 have h0:A=0:=Nat.le_antisymm (h.min 0 (SubN.zero _) fun j hj=>(by rw [Nat.zero_testBit] at hj;cases hj)).le (Nat.zero_le _)
 subst h0
 exact (by decide+kernel:(lsN 0 32).length=0)
theorem aclosure_tc (x:Par) (hx:ParOk x) (hlen:x.ch.length≤140737488351232) (hrng: ∀ q,q∈x.ch→q<4294967296) (c:Ci) (h:okC0 c) (n:Nat) (f:Nat→Int) (hn:n≤140737488351232):TC Tryz.prog 14 [.g (parC x), .g (ciC c),roA n f] (.v (.bool true)):=by
 have hCg:=ciG_clo c
 have hPg:Clo (.g (parC x)):= .g (parC_clo x)
 have hFg:=roA_clo n f
 have TB:=lbey38_tc x hx c h n f hn
 have hB:b38 x c n=(decide ((x.ch.length:Int)>100) || (beyB c 10000 || (heavB x.p c || decide ((n:Int)>100)))):=rfl
 obtain ⟨CH,hCH⟩: ∃ CH,CH=x.ch.map fun (c:Nat)=>AV.v (.int .u32 c):=⟨_,rfl⟩
 have hP7:parC x=[.v (.int .i64 x.n), .v (.int .u32 x.p), .v (.int .i64 x.r), .t x.ch.length 1 CH, .v (.int .u32 x.sp), .v (.int .i64 x.wt), .v (.int .u32 x.er)]:=by rw [hCH];rfl
 generalize b38 x c n=B at*
 refine Wv.TC.by 100 [0,1,17,3,4,2,21,8,30,7,10,9,54,11,58,13,12,78,81,15,14,6] [(14,10),(19,8)] [.tmp 6] Tryz.func14 rfl rfl rfl ?clo ?_
 case clo=>simp only [Wv.BC]
 refine Wv.W ?_
 refine call_TC shown38_tc rfl Wv.c Wv.c ?_
 cases B with
 | true=>
  rw [hP7] at TB hPg ⊢
  unfold ciC strsA roA at*
  refine Wv.W ?_
  refine call_TC TB rfl (clB3 hPg hCg hFg) Wv.c ?_
  exact Wv.V
 | false=>
 obtain ⟨_,hb,_,hn1⟩: ¬ ((x.ch.length:Int)>100)∧beyB c 10000=false∧heavB x.p c=false∧ ¬ ((n:Int)>100):=by
  have hB:=hB.symm
  simp only [Bool.or_eq_false_iff,decide_eq_false_iff_not] at hB
  exact hB
 obtain ⟨hok,hnl,hcn⟩:=okC_of h (by omega) (by omega) hb
 have TT:=ptype_any x hx hlen hrng c hok
 have hqO:=typeQ_ok (me:=modErr mPrime x x.r) (c:=c) (ru:=ruA x (modVal mPrime x x.r))
 have hgD:=goD_of (x:=x) (me:=modErr mPrime x x.r) (t:=modVal mPrime x x.r) hok
 generalize typeQ (modErr mPrime x x.r) c (ruA x (modVal mPrime x x.r))=q at*
 obtain ⟨s1,at1,e1⟩:=q
 by_cases he:e1=0
 rotate_left
 ·have C:=aclosed_err x c e1 at1 s1 he TT n f
  rw [hP7] at TB hPg C ⊢
  unfold ciC strsA roA at*
  refine Wv.W ?_
  refine call_TC TB rfl (clB3 hPg hCg hFg) Wv.c ?_
  refine Wv.W ?_
  refine call_TC C rfl (clB3 hPg hCg hFg) Wv.c ?_
  simp (disch:=first|exact Wv.D|fail) only [Wv.B,simprocAttr,decide_eq_false he]
 subst he
 have hgD:=hgD rfl
 obtain ⟨N,hxN,hN4,hN32,hN2⟩:=mod_even (hqO rfl).1
 have TN:=pneeds_tc N c hN4 hN32 hN2 hok hgD
 have hV:=ndF_lt hN4 hN2 hgD
 generalize ndF N c=V at*
 have CC:=fun n f hn A hA=>aclosed_tc x c N at1 s1 hxN hN32 V hV TT TN n f hn A hA
 have NN:=aneeds_tc x c N at1 s1 hxN hN32 V hV TT TN
 cases hasc:ascB N n f with
 | false=>
  have C:=CC n f hn 0 fun q=>by rw [hasc] at q;cases q
  rw [hasc] at C
  unfold acA at C
  rw [if_neg (by decide),if_neg (by decide)] at C
  rw [hP7] at TB hPg C ⊢
  unfold ciC strsA roA at*
  refine Wv.W ?_
  refine call_TC TB rfl (clB3 hPg hCg hFg) Wv.c ?_
  refine Wv.W ?_
  refine call_TC C rfl (clB3 hPg hCg hFg) Wv.c ?_
  exact Wv.V
 | true=>
 have hr:=fun i (hi:i<n)=>asc_get hasc hi
 obtain ⟨A,hA⟩:=clo_ex hV (2 ^ N) (sF f n) (sF_lt hr) (Nat.sub_le _ _)
 have C1:=CC n f hn A fun _=>hA
 have hm:=lsn_le A
 have hasc2:=lsF_asc hA.lt
 have C2:=CC (lsN A 32).length (lsF A) (by omega) A fun _=>clo_self hA hN32
 have S2:=lsints_tc (lsN A 32).length (lsF A) (by omega)
 have W1:=lwithin_tc n f (lsN A 32).length (lsF A) hn (by omega)
 rw [with_ls hN32 hA.lt (fun i hi=>(hr i hi).1) hA.sub] at W1
 have hget:=fun i (hi:i<(lsN A 32).length)=>lsF_get hi
 have hnil:=fun (h0:n=0)=>clo_nil (f:=f) (h0▸hA)
 have WW:=fun (B:Nat) (hB:B<2 ^ N) (hs:SubN B A)=>by
  have W:=lwithin_tc (lsN B 32).length (lsF B) (lsN A 32).length (lsF A) (by have:=lsn_le B;omega) (by omega)
  rw [with_ls hN32 hA.lt (fun i hi=>(asc_get (lsF_asc hB) hi).1) (by rw [sF_ls hN32 hB];exact hs)] at W
  exact W
 obtain ⟨A3,hA3⟩:=clo_ex hV (2 ^ N) (sF (fun i=>f (i+1)) (n - 1)) (sF_lt fun i hi=>hr (i+1) (by omega)) (Nat.sub_le _ _)
 have C3:=CC (n - 1) (fun i=>f (i+1)) (by omega) A3 fun _=>hA3
 have W3:=WW A3 hA3.lt (hA3.min A (fun k hk=>hA.sub k (sF_tail (fun i hi=>(hr i hi).1) k hk)) hA.clo)
 rw [hasc] at C1
 rw [hasc2] at C2
 rw [asc_tail hasc] at C3
 unfold acA at C1 C2 C3
 rw [if_pos rfl,if_pos rfl] at C1 C2 C3
 have hLs:=fun j=>roA_clo (lsN (V j) 32).length (lsF (V j))
 have hL1:=roA_clo (lsN A 32).length (lsF A)
 have hL3:=roA_clo (lsN A3 32).length (lsF A3)
 generalize (lsN A 32).length=m at*
 generalize lsF A=g at*
 rw [hP7] at TB hPg C1 C2 C3 NN ⊢
 unfold ciC strsA roA at*
 refine Wv.W ?_
 refine call_TC TB rfl (clB3 hPg hCg hFg) Wv.c ?_
 refine Wv.W ?_
 refine call_TC C1 rfl (clB3 hPg hCg hFg) Wv.c ?_
 refine Wv.W ?_
 refine call_TC C2 rfl (clB3 hPg hCg hL1) Wv.c ?_
 refine Wv.W ?_
 refine call_TC S2 rfl (clB2 hL1 hL1) Wv.c ?_
 refine Wv.W ?_
 refine call_TC W1 rfl (clB2 hFg hL1) Wv.c ?_
 refine Wv.W ?_
 refine wfor (σ:=Nat) (fun i=>[(2, .t n 1 (tab n fun j=> .v (.int .i64 (f j)))),(3, .ptr 0 0),(4, .ptr 1 0),(7, .t m 1 (tab m fun j=> .v (.int .i64 (g j)))),(11, .v (.int .i64 i))])
  (fun _=>[some (.blk [.v (.int .i64 x.n), .v (.int .u32 x.p), .v (.int .i64 x.r), .t x.ch.length 1 CH, .v (.int .u32 x.sp), .v (.int .i64 x.wt), .v (.int .u32 x.er)]),some (.blk [.v (.string c.name), .t c.ni 1 (tab c.ni fun i=> .v (.string (c.fi i))), .t c.nl 6 c.lets, .t c.no 1 (tab c.no fun i=> .v (.string (c.fo i)))])])
  (fun i=>i≤m) (fun i=>m - i) 0 (Nat.zero_le _) rfl Wv.V ?_
 intro i hi
 by_cases hlt:i<m
 ·have e1:(i:Int)<m:=by omega
  obtain ⟨j,hj,_,hjb⟩:=hget i hlt
  have hjN:=bit_lt hA.lt hjb
  have NJ:=NN j hjN
  have WJ:=WW (V j) (hV j hjN) (hA.clo j hjb)
  have hLj:=hLs j
  generalize (lsN (V j) 32).length=mj at*
  generalize lsF (V j)=gj at*
  simp (disch:=first|exact Wv.D|fail) only [Wv.B,simprocAttr,decide_eq_true e1,hj]
  refine calm_TC NJ (viewL_cons (view2_clo hPg) (viewL_cons (view2_clo hCg) (viewL_cons rfl viewL_nil))) (clB3 hPg hCg (.v _)) Wv.c ?_
  refine Wv.W ?_
  refine call_TC WJ rfl (clB2 hLj hL1) Wv.c ?_
  refine Wv.W ?_
  refine k_next (i+1) (by omega) (by omega) rfl Wv.V2
 obtain rfl:i=m:=by omega
 simp (disch:=first|exact Wv.D|fail) only [Wv.B,simprocAttr,Int.lt_irrefl,decide_false]
 by_cases h0:n=0
 ·have h1:=hnil h0
  simp (disch:=first|exact Wv.D|fail) only [Wv.B,simprocAttr,decide_eq_true (show (n:Int)=0 by omega),decide_eq_true (show (i:Int)=0 by omega)]
 simp (disch:=first|exact Wv.D|fail) only [Wv.B,simprocAttr,decide_eq_false (show ¬ (n:Int)=0 by omega)]
 refine calm_TC C3 (viewL_cons (view2_clo hPg) (viewL_cons (view2_clo hCg) (viewL_cons rfl viewL_nil))) (clB3 hPg hCg Wv.c) Wv.c ?_
 refine Wv.W ?_
 refine call_TC W3 rfl (clB2 hL3 hL1) Wv.c ?_
 exact Wv.V
end
end Go.Proofs.YtljfgdlgmdcmfaaGreat
