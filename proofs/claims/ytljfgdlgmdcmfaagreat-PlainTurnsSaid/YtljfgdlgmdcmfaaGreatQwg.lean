/- Parts of a proof. -/
import Derived.Test.YtljfgdlgmdcmfaaGreatQwf
import Derived.ProofKit
import Derived.Lib.SlicesCompact
import Derived.Shelf.Small.Bits
import Derived.Shelf.Strconv.Itoa0
import Derived.Ground.SlgnProg
import Derived.Shelf.SlicesE.Index
import Derived.Shelf.SlicesE.Equal
import Derived.Shelf.SlicesE.Compact
import Derived.Shelf.SlicesE.Clone
import Derived.Ground.SlgfProg
import Derived.Shelf.SlicesE.IndexFunc
import Derived.Test.YtljfgdlgmdcmfaaGreatProg
set_option linter.unusedVariables false
set_option linter.unusedSimpArgs false
set_option maxHeartbeats 1600000
set_option maxRecDepth 100000
namespace Go.Proofs.YtljfgdlgmdcmfaaGreat
section
open Go.RowKit Wv
variable {h:Hp}
theorem Oq (n:Nat) (f:Nat→Int) (p:Nat→Bool) (fid:FuncId) (fst cap:List AV) (hn:n≤140737488351232) (hp: ∀ i,i<n→HT Tryz.prog fid (fst++[.v (.int .i64 (f i))]++cap) h (fun r h'=>r= .v (.bool (p i))∧h'=h)):
  HT Tryz.prog 210 [.t n 1 (tab n fun i=> .v (.int .i64 (f i))), .fn (.func fid) fst cap] h (fun r h'=>r= .v (.int .i64 (qW (findF p n)))∧h'=h):=by
 refine Wv.HT.by 19 [0,8,7,9,1,5,16,4] [(1000000,h.length)] [.tmp 4] Tryz.func210 rfl rfl rfl ?base ?_
 case base=>rfl
 refine Wv.W ?_;refine aT (σ:=Nat) (fun i=>[(0, .t n 1 (tab n fun i=> .v (.int .i64 (f i)))),(1, .fn (.func fid) fst cap),(7, .v (.int .i64 n)),(8, .v (.int .i64 i))]) (fun i=>h)
  (fun i=>i≤n∧ ∀ j,j<i→p j=false) (fun i=>n - i) 0 ⟨Nat.zero_le _,fun j hj=>by omega⟩ rfl Wv.V ?_
 rintro i ⟨hi,hb⟩;by_cases hlt:i<n
 ·have e1:(i:Int)<n:=by omega
  refine Wv.W ?_;refine aC (hp i hlt) ?_;rintro av h' ⟨rfl,rfl⟩;cases hq:p i with
  | true=>
   have hf:=iy hlt hq hb;simp (disch:=first|exact Wv.D|fail) only [Wv.B,simprocAttr,hq,hf,qW]
  | false=>
   refine Wv.W1 hq ?_;refine ay (i+1) ⟨by omega,fun j hj=>?_⟩ (by omega) rfl Wv.V2;by_cases e:j=i
   ·subst e;exact hq
   ·exact hb j (by omega)
 ·have hin:i=n:=by omega
  subst hin;have hf:=fZ hb;simp (disch:=first|exact Wv.D|fail) only [Wv.B,simprocAttr,hf,qW]
theorem yw (n:Nat) (f:Nat→Int) (p:Nat→Bool) (fid:FuncId) (fst cap:List AV) (hn:n≤140737488351232) (hp: ∀ i,i<n→HT Tryz.prog fid (fst++[.v (.int .i64 (f i))]++cap) h (fun r h'=>r= .v (.bool (p i))∧h'=h)):
  HT Tryz.prog 159 [.t n 1 (tab n fun i=> .v (.int .i64 (f i))), .fn (.func fid) fst cap] h (fun r h'=>r= .v (.bool (aG n p))∧h'=h):=by
 refine Wv.HT.by 9 [0,1,4] [(1000000,h.length)] [.tmp 4] Tryz.func159 rfl rfl rfl ?base ?_
 case base=>rfl
 refine Wv.W ?_;refine aC (fst:=[]) (cap:=[]) (Oq n f p fid fst cap hn hp) ?_;rintro av h' ⟨rfl,rfl⟩;exact Wv.V1 @qX
theorem Ot (n:Nat) (cells:List AV) (ec:Nat→List AV) (hl:cells.length=n*5) (hel: ∀ i,i<n→List.take 5 (List.drop (i*5) cells)=ec i) (p:Nat→Bool) (fid:FuncId) (fst cap:List AV) (hn:n≤140737488351232) (hp: ∀ i,i<n→HT Tryz.prog fid (fst++[.g (ec i)]++cap) h (fun r h'=>r= .v (.bool (p i))∧h'=h)):
  HT Tryz.prog 211 [.t n 5 cells, .fn (.func fid) fst cap] h (fun r h'=>r= .v (.int .i64 (qW (findF p n)))∧h'=h):=by
 refine Wv.HT.by 19 [0,8,7,9,1,5,16,4] [(1000000,h.length)] [.tmp 4] Tryz.func211 rfl rfl rfl ?base ?_
 case base=>rfl
 refine Wv.W ?_;refine aT (σ:=Nat) (fun i=>[(0, .t n 5 cells),(1, .fn (.func fid) fst cap),(7, .v (.int .i64 n)),(8, .v (.int .i64 i))]) (fun i=>h)
  (fun i=>i≤n∧ ∀ j,j<i→p j=false) (fun i=>n - i) 0 ⟨Nat.zero_le _,fun j hj=>by omega⟩ rfl Wv.V ?_
 rintro i ⟨hi,hb⟩;by_cases hlt:i<n
 ·have e1:(i:Int)<n:=by omega
  have hi2:=hel i hlt;have hlen:5≤(List.drop (i*5) cells).length:=by rw [List.length_drop,hl];omega
  refine Wv.W1 hi2 ?_;refine aC (hp i hlt) ?_;rintro av h' ⟨rfl,rfl⟩;cases hq:p i with
  | true=>
   have hf:=iy hlt hq hb;simp (disch:=first|exact Wv.D|fail) only [Wv.B,simprocAttr,hq,hf,qW]
  | false=>
   refine Wv.W1 hq ?_;refine ay (i+1) ⟨by omega,fun j hj=>?_⟩ (by omega) rfl Wv.V2;by_cases e:j=i
   ·subst e;exact hq
   ·exact hb j (by omega)
 ·have hin:i=n:=by omega
  subst hin;have hf:=fZ hb;simp (disch:=first|exact Wv.D|fail) only [Wv.B,simprocAttr,hf,qW]
theorem Uy (n:Nat) (cells:List AV) (ec:Nat→List AV) (hl:cells.length=n*5) (hel: ∀ i,i<n→List.take 5 (List.drop (i*5) cells)=ec i) (p:Nat→Bool) (fid:FuncId) (fst cap:List AV) (hn:n≤140737488351232) (hp: ∀ i,i<n→HT Tryz.prog fid (fst++[.g (ec i)]++cap) h (fun r h'=>r= .v (.bool (p i))∧h'=h)):
  HT Tryz.prog 161 [.t n 5 cells, .fn (.func fid) fst cap] h (fun r h'=>r= .v (.bool (aG n p))∧h'=h):=by
 refine Wv.HT.by 9 [0,1,4] [(1000000,h.length)] [.tmp 4] Tryz.func161 rfl rfl rfl ?base ?_
 case base=>rfl
 refine Wv.W ?_;refine aC (fst:=[]) (cap:=[]) (Ot n cells ec hl hel p fid fst cap hn hp) ?_;rintro av h' ⟨rfl,rfl⟩;exact Wv.V1 @qX
theorem Ou (n:Nat) (cells:List AV) (ec:Nat→List AV) (hl:cells.length=n*6) (hel: ∀ i,i<n→List.take 6 (List.drop (i*6) cells)=ec i) (p:Nat→Bool) (fid:FuncId) (fst cap:List AV) (hn:n≤140737488351232) (hp: ∀ i,i<n→HT Tryz.prog fid (fst++[.g (ec i)]++cap) h (fun r h'=>r= .v (.bool (p i))∧h'=h)):
  HT Tryz.prog 156 [.t n 6 cells, .fn (.func fid) fst cap] h (fun r h'=>r= .v (.int .i64 (qW (findF p n)))∧h'=h):=by
 refine Wv.HT.by 19 [0,8,7,9,1,5,16,4] [(1000000,h.length)] [.tmp 4] Tryz.func156 rfl rfl rfl ?base ?_
 case base=>rfl
 refine Wv.W ?_;refine aT (σ:=Nat) (fun i=>[(0, .t n 6 cells),(1, .fn (.func fid) fst cap),(7, .v (.int .i64 n)),(8, .v (.int .i64 i))]) (fun i=>h)
  (fun i=>i≤n∧ ∀ j,j<i→p j=false) (fun i=>n - i) 0 ⟨Nat.zero_le _,fun j hj=>by omega⟩ rfl Wv.V ?_
 rintro i ⟨hi,hb⟩;by_cases hlt:i<n
 ·have e1:(i:Int)<n:=by omega
  have hi2:=hel i hlt;have hlen:6≤(List.drop (i*6) cells).length:=by rw [List.length_drop,hl];omega
  refine Wv.W1 hi2 ?_;refine aC (hp i hlt) ?_;rintro av h' ⟨rfl,rfl⟩;cases hq:p i with
  | true=>
   have hf:=iy hlt hq hb;simp (disch:=first|exact Wv.D|fail) only [Wv.B,simprocAttr,hq,hf,qW]
  | false=>
   refine Wv.W1 hq ?_;refine ay (i+1) ⟨by omega,fun j hj=>?_⟩ (by omega) rfl Wv.V2;by_cases e:j=i
   ·subst e;exact hq
   ·exact hb j (by omega)
 ·have hin:i=n:=by omega
  subst hin;have hf:=fZ hb;simp (disch:=first|exact Wv.D|fail) only [Wv.B,simprocAttr,hf,qW]
theorem Uz (n:Nat) (cells:List AV) (ec:Nat→List AV) (hl:cells.length=n*6) (hel: ∀ i,i<n→List.take 6 (List.drop (i*6) cells)=ec i) (p:Nat→Bool) (fid:FuncId) (fst cap:List AV) (hn:n≤140737488351232) (hp: ∀ i,i<n→HT Tryz.prog fid (fst++[.g (ec i)]++cap) h (fun r h'=>r= .v (.bool (p i))∧h'=h)):
  HT Tryz.prog 106 [.t n 6 cells, .fn (.func fid) fst cap] h (fun r h'=>r= .v (.bool (aG n p))∧h'=h):=by
 refine Wv.HT.by 9 [0,1,4] [(1000000,h.length)] [.tmp 4] Tryz.func106 rfl rfl rfl ?base ?_
 case base=>rfl
 refine Wv.W ?_;refine aC (fst:=[]) (cap:=[]) (Ou n cells ec hl hel p fid fst cap hn hp) ?_;rintro av h' ⟨rfl,rfl⟩;exact Wv.V1 @qX
theorem FX (n:Nat) (f:Nat→ByteArray) (p:Nat→Bool) (fid:FuncId) (fst cap:List AV) (hn:n≤140737488351232) (hp: ∀ i,i<n→HT Tryz.prog fid (fst++[.v (.string (f i))]++cap) h (fun r h'=>r= .v (.bool (p i))∧h'=h)):
  HT Tryz.prog 104 [bT n f, .fn (.func fid) fst cap] h (fun r h'=>r= .v (.bool (aG n p))∧h'=h):=by
 unfold bT;refine Wv.HT.by 9 [0,1,4] [(1000000,h.length)] [.tmp 4] Tryz.func104 rfl rfl rfl ?base ?_
 case base=>rfl
 refine Wv.W ?_;refine aC (fst:=[]) (cap:=[]) (Oo n f p fid fst cap hn hp) ?_;rintro av h' ⟨rfl,rfl⟩;exact Wv.V1 @qX
end
section
open Go.RowKit Wv
def byt (b:ByteArray) (i:Nat):Int:=((b[i]?).map fun c=>(c.toNat:Int)).getD 0
theorem Il {b:ByteArray} {i:Nat} (h:i<b.size): ∃ c:UInt8,b[i]? =some c∧(c.toNat:Int)=byt b i:=by
 refine ⟨b[i],getElem?_pos b i h,?_⟩;unfold byt;rw [getElem?_pos b i h];rfl
theorem YP (b:ByteArray) (i:Nat):0≤byt b i∧byt b i<256:=by
 unfold byt;cases b[i]? with
 | none=>exact ⟨Int.le_refl 0,by decide⟩
 | some c=>
  have h:c.toNat<256:=c.toNat_lt;show 0≤((c.toNat:Nat):Int)∧((c.toNat:Nat):Int)<256;exact ⟨Int.natCast_nonneg _,Int.ofNat_lt.2 h⟩
theorem YQ (b:ByteArray):H9 b=tab b.size fun i=> .v (.int .u8 (byt b i)):=by
 apply List.ext_getElem
 ·unfold H9 tab;rw [List.length_map,List.length_map,List.length_range];rfl
 ·intro i h1 h2;have hi:i<b.size:=by simpa [H9] using h1
  obtain ⟨c,hc,hb⟩:=Il hi;have hc':b.data[i]'hi=c:=by
   rw [getElem?_pos b i hi] at hc;exact Option.some.inj hc
  simp [H9,tab, ←hb,hc']
def w4 (i:Nat):ByteArray:=match i with | 0=>⟨#[99,105,114,99,117,105,116]⟩ | 1=>⟨#[105,110,112,117,116]⟩ | 2=>⟨#[108,101,116]⟩ | _=>⟨#[111,117,116,112,117,116]⟩
def w8 (i:Nat):ByteArray:=match i with | 0=>⟨#[114,111,116]⟩ | 1=>⟨#[115,119,97,112]⟩ | 2=>⟨#[109,97,115,107]⟩ | 3=>⟨#[116,97,98,108,101]⟩ | 4=>⟨#[101,113]⟩ | 5=>⟨#[108,101,115,115]⟩ | 6=>⟨#[112,111,119]⟩ | _=>⟨#[115,117,109]⟩
def w16 (i:Nat):ByteArray:=if i<8 then ⟨#[]⟩ else w8 (i - 8)
def w12 (i:Nat):ByteArray:=if i<4 then w4 i else w8 (i - 4)
def kF (s:ByteArray) (i:Nat):Bool:=yu (byt s i) || (Om (byt s i) || decide (byt s i=95))
def nameB (s:ByteArray):Bool:=!(decide (s=⟨#[]⟩) || (decide (16<s.size) || (!yu (byt s 0) || (aG 4 (fun i=>decide (s=w4 i)) || aG 16 (fun i=>decide (s=w16 i)))))) && !aG s.size fun i=>!kF s i
theorem Ov (s:ByteArray) (h:s≠⟨#[]⟩):(aG 4 (fun i=>decide (s=w4 i)) || aG 16 (fun i=>decide (s=w16 i)))=aG 12 (fun i=>decide (s=w12 i)):=by
 simp [aG,List.range,List.range.loop,w16,w12,h,Bool.or_assoc]
theorem aeh:(Tryz.prog.underlying 9).isSome=true:=by kernel_rfl
theorem YR:TC Tryz.prog 151 [] (.g [.v (.string ⟨#[]⟩), .v (.string ⟨#[]⟩), .v (.string ⟨#[]⟩), .v (.string ⟨#[]⟩), .v (.string ⟨#[]⟩), .v (.string ⟨#[]⟩), .v (.string ⟨#[]⟩), .v (.string ⟨#[]⟩), .v (.string ⟨#[114,111,116]⟩), .v (.string ⟨#[115,119,97,112]⟩), .v (.string ⟨#[109,97,115,107]⟩), .v (.string ⟨#[116,97,98,108,101]⟩), .v (.string ⟨#[101,113]⟩), .v (.string ⟨#[108,101,115,115]⟩), .v (.string ⟨#[112,111,119]⟩), .v (.string ⟨#[115,117,109]⟩)]):=by
 refine Wv.TC.by 2 [0] [] [.cell 0 191] Tryz.func151 rfl rfl rfl ?clo ?_
 case clo=>simp only [Wv.BC]
 exact Wv.V
theorem KR (s:ByteArray) (hs:s.size≤140737488351232):TC Tryz.prog 103 [.v (.string s)] (.v (.bool (nameB s))):=by
 refine Wv.TC.by 50 [0,3,29,33,32,34,31,5,48,2] [] [.tmp 2] Tryz.func103 rfl rfl rfl ?clo ?_
 case clo=>simp only [Wv.BC]
 refine Wv.W ?_;refine ak YR rfl Wv.c Wv.c ?_;have hN:nameB s=(!(decide (s=⟨#[]⟩) || (decide (16<s.size) || (!yu (byt s 0) || (aG 4 (fun i=>decide (s=w4 i)) || aG 16 (fun i=>decide (s=w16 i)))))) && !aG s.size fun i=>!kF s i):=rfl;cases h1:decide (s=⟨#[]⟩) with
 | true=>
  rw [h1,Bool.true_or,Bool.not_true,Bool.false_and] at hN;simp (disch:=first|exact Wv.D|fail) only [Wv.B,simprocAttr,h1,hN]
 | false=>
  cases h2:decide (16<s.size) with
  | true=>
   have h2':(16:Int)<s.size:=by have:=of_decide_eq_true h2;omega
   rw [h1,h2,Bool.false_or,Bool.true_or,Bool.not_true,Bool.false_and] at hN;simp (disch:=first|exact Wv.D|fail) only [Wv.B,simprocAttr,h1,h2,ah h2',hN]
  | false=>
   have h2': ¬ (16:Int)<s.size:=by have:=of_decide_eq_false h2;omega
   have hsz:s.size≠0:=fun e=>of_decide_eq_false h1 (by cases s with | mk d=>simp [ByteArray.size] at e;rw [e])
   obtain ⟨c,hc,hb⟩:=Il (b:=s) (i:=0) (by omega);have hg:=YP s 0;simp (disch:=first|exact Wv.D|fail) only [Wv.B,simprocAttr,h1,h2,aj h2',hc,hb];refine ak (Dk (byt s 0) hg.1 hg.2) rfl Wv.c Wv.c ?_;cases h3:yu (byt s 0) with
   | false=>
    rw [h1,h2,h3,Bool.false_or,Bool.false_or,Bool.not_false,Bool.true_or,Bool.not_true,Bool.false_and] at hN;simp (disch:=first|exact Wv.D|fail) only [Wv.B,simprocAttr,hN]
   | true=>
    refine Wv.W ?_;refine ak (wO 4 w4 s (by omega)) rfl (by simp only [Wv.BC,mP]) Wv.c ?_;cases h4:aG 4 (fun i=>decide (s=w4 i)) with
    | true=>
     rw [h1,h2,h3,h4,Bool.false_or,Bool.false_or,Bool.not_true,Bool.false_or,Bool.true_or,Bool.not_true,Bool.false_and] at hN;simp (disch:=first|exact Wv.D|fail) only [Wv.B,simprocAttr,hN]
    | false=>
     refine Wv.W ?_;refine ak (wO 16 w16 s (by omega)) rfl (by simp only [Wv.BC,mP]) Wv.c ?_;cases h5:aG 16 (fun i=>decide (s=w16 i)) with
     | true=>
      rw [h1,h2,h3,h4,h5,Bool.false_or,Bool.false_or,Bool.not_true,Bool.false_or,Bool.false_or,Bool.not_true,Bool.false_and] at hN;simp (disch:=first|exact Wv.D|fail) only [Wv.B,simprocAttr,hN]
     | false=>
      rw [h1,h2,h3,h4,h5,Bool.false_or,Bool.false_or,Bool.not_true,Bool.false_or,Bool.false_or,Bool.not_false,Bool.true_and] at hN;clear h1 h2 h3 h4 h5 hc hb hg;simp (disch:=first|exact Wv.D|fail) only [Wv.B,simprocAttr,Wv.YA aeh hs,YQ];refine aT (σ:=Nat) (fun i=>[(0, .v (.string s)),(31, .t s.size 1 (tab s.size fun i=> .v (.int .u8 (byt s i)))),(32, .v (.int .i64 s.size)),(33, .v (.int .i64 i))]) (fun i=>[none,some (.arr 9 1 [.v (.string ⟨#[99,105,114,99,117,105,116]⟩), .v (.string ⟨#[105,110,112,117,116]⟩), .v (.string ⟨#[108,101,116]⟩), .v (.string ⟨#[111,117,116,112,117,116]⟩)] 4)])
       (fun i=>i≤s.size∧ ∀ j,j<i→kF s j=true) (fun i=>s.size - i) 0 ⟨Nat.zero_le _,fun j hj=>by omega⟩ Wv.V Wv.V ?_
      rintro i ⟨hi,hj⟩;by_cases hlt:i<s.size
      ·have e1:(i:Int)<s.size:=by omega
       have hg:=YP s i;refine Wv.W ?_;refine ak (Dk (byt s i) hg.1 hg.2) rfl Wv.c Wv.c ?_;cases h3:yu (byt s i) with
       | true=>
        refine Wv.W ?_;refine ay (i+1) ⟨by omega,fun j q=>?_⟩ (by omega) Wv.V Wv.V2;by_cases e:j=i
        ·subst e;unfold kF;rw [h3];rfl
        ·exact hj j (by omega)
       | false=>
        refine Wv.W ?_;refine ak (Uu (byt s i)) rfl Wv.c Wv.c ?_;cases h4:Om (byt s i) with
        | true=>
         refine Wv.W ?_;refine ay (i+1) ⟨by omega,fun j q=>?_⟩ (by omega) Wv.V Wv.V2;by_cases e:j=i
         ·subst e;unfold kF;rw [h3,h4];rfl
         ·exact hj j (by omega)
        | false=>
         cases h5:decide (byt s i=95) with
         | true=>
          refine Wv.W1 h5 ?_;refine ay (i+1) ⟨by omega,fun j q=>?_⟩ (by omega) Wv.V Wv.V2;by_cases e:j=i
          ·subst e;unfold kF;rw [h3,h4,h5];rfl
          ·exact hj j (by omega)
         | false=>
          have:nameB s=false:=by
           rw [hN];have:aG s.size (fun i=>!kF s i)=true:=by
            unfold aG;refine List.any_eq_true.2 ⟨i,List.mem_range.2 hlt,?_⟩;unfold kF;rw [h3,h4,h5];rfl
           rw [this];rfl
          simp (disch:=first|exact Wv.D|fail) only [Wv.B,simprocAttr,h5,this]
      ·have hin:i=s.size:=by omega
       subst hin;have:nameB s=true:=by
        rw [hN];have:aG s.size (fun i=>!kF s i)=false:=by
         unfold aG;refine List.any_eq_false.2 fun i hi=>?_
         rw [hj i (List.mem_range.1 hi)];decide
        rw [this];rfl
       simp (disch:=first|exact Wv.D|fail) only [Wv.B,simprocAttr,this]
end
section
open Go.RowKit Wv
inductive Ex where
 | nil
 | mk (k:Int) (s:ByteArray) (n:Int) (nl:Nat) (li:Nat→Int) (na:Nat) (ar:Nat→Ex)
def dH (n:Nat) (f:Nat→List AV):List AV:=(List.range n).flatMap f
theorem oZ (n:Nat) (f:Nat→List AV):dH (n+1) f=dH n f++f n:=by
 unfold dH;rw [List.range_succ,List.flatMap_append];simp
theorem qY {m:Nat}: ∀ {n:Nat} {f:Nat→List AV},(∀ i,(f i).length=m)→(dH n f).length=n*m
 | 0,f,h=>by simp [dH]
 | n+1,f,h=>by rw [oZ,List.length_append,qY h,h n,Nat.add_mul,Nat.one_mul]
theorem Az {m:Nat}: ∀ {n:Nat} {f:Nat→List AV},(∀ i,(f i).length=m)→ ∀ i,i<n→List.take m (List.drop (i*m) (dH n f))=f i
 | 0,f,h,i,hi=>by omega
 | n+1,f,h,i,hi=>by
  rw [oZ];have hl:=qY (n:=n) h;by_cases e:i=n
  ·subst e;rw [←hl,List.drop_left, ←h i,List.take_length]
  ·have hi':i<n:=by omega
   have:i*m+m≤n*m:=by rw [←Nat.succ_mul];exact Nat.mul_le_mul_right _ (by omega)
   rw [List.drop_append_of_le_length (by omega),List.take_append_of_le_length (by rw [List.length_drop];omega)];exact Az h i hi'
theorem bM {m n:Nat} {f:Nat→List AV} (h: ∀ i,(f i).length=m) {i:Nat} (hi:i<n): ∃ r,List.drop (i*m) (dH n f)=f i++r:=by
 refine ⟨List.drop m (List.drop (i*m) (dH n f)),?_⟩;have:=Az h i hi;rw [←this];exact (List.take_append_drop m _).symm
theorem dB {n:Nat} {f:Nat→List AV} (h: ∀ i,i<n→ ∀ a,a∈f i→Clo a): ∀ a,a∈dH n f→Clo a:=by
 intro a ha;unfold dH at ha;obtain ⟨i,h1,h2⟩:=List.mem_flatMap.1 ha;exact h i (List.mem_range.1 h1) a h2
theorem dM {a:AV} (h1:Clo a): ∀ x,x∈[a]→Clo x:=by simp only [Wv.BC];exact h1
def Ex.kind:Ex→Int
 | .nil=>0
 | .mk k .. =>k
def exC:Ex→List AV
 | .nil=>[.v (.int .i64 0), .v (.string ⟨#[]⟩), .v (.int .i64 0), .t 0 1 [], .t 0 5 []]
 | .mk k s n nl li na ar=>[.v (.int .i64 k), .v (.string s), .v (.int .i64 n), .t nl 1 (tab nl fun i=> .v (.int .i64 (li i))), .t na 5 (dH na fun i=>exC (ar i))]
theorem cO (k:Int) (s:ByteArray) (n:Int) (nl:Nat) (li:Nat→Int) (na:Nat) (ar:Nat→Ex):exC (.mk k s n nl li na ar)=[.v (.int .i64 k), .v (.string s), .v (.int .i64 n), .t nl 1 (tab nl fun i=> .v (.int .i64 (li i))), .t na 5 (dH na fun i=>exC (ar i))]:=rfl
theorem iK (x:Ex):(exC x).length=5:=by cases x<;>rfl
theorem eU: ∀ (x:Ex) a,a∈exC x→Clo a:=by
 intro x;induction x with
 | nil=>unfold exC;simp only [Wv.BC]
 | mk k s n nl li na ar ih=>
  unfold exC;have h:=dB (n:=na) (f:=fun i=>exC (ar i)) fun i _=>ih i
  intro a ha;simp only [List.mem_cons,List.not_mem_nil,or_false] at ha;rcases ha with rfl | rfl | rfl | rfl | rfl
  ·simp only [Wv.BC]
  ·simp only [Wv.BC]
  ·simp only [Wv.BC]
  ·simp only [Wv.BC]
  ·simp only [Wv.BC];exact h
theorem dh (x:Ex):Clo (.g (exC x)):=by simp only [Wv.BC];exact eU x
def okE:Ex→Prop
 | .nil=>False
 | .mk k s n nl li na ar=>s.size≤140737488351232∧nl≤140737488351232∧na≤140737488351232∧ ∀ i,i<na→okE (ar i)
theorem kG {x:Ex} (h:okE x): ∃ k s n nl li na ar,x= .mk k s n nl li na ar:=by
 cases x with
 | nil=>exact h.elim
 | mk k s n nl li na ar=>exact ⟨k,s,n,nl,li,na,ar,rfl⟩
def inB (n:Int):Bool:=decide (-4294967295≤n) && decide (n≤4294967295)
def argN (k:Nat):Int:=match k with | 4=>2 | 5=>2 | 6=>1 | 7=>2 | 8=>1 | 9=>1 | 10=>1 | 11=>1 | 12=>2 | 13=>1 | 14=>1 | 15=>1 | _=>0
def Dn (k:Nat):Bool:=match k with | 2=>true | 8=>true | 13=>true | 14=>true | _=>false
def Dp (k:Nat):Bool:=match k with | 3=>true | 10=>true | 11=>true | _=>false
def aW:Ex→Bool
 | .nil=>false
 | .mk k s n nl li na ar=>!decide (k<1) && (!decide (15<k) && ((if k=1 then nameB s else decide (s=⟨#[]⟩)) && (decide ((na:Int)=argN k.toNat) && ((Dn k.toNat || decide (n=0)) && ((Dp k.toNat || decide ((nl:Int)=0)) && (inB n && (!aG nl (fun i=>!inB (li i)) && !aG na fun i=>!aW (ar i))))))))
theorem Dq (n:Int):TC Tryz.prog 158 [.v (.int .i64 n)] (.v (.bool (inB n))):=by
 refine Wv.TC.by 9 [0,2] [] [.tmp 2] Tryz.func158 rfl rfl rfl ?clo ?_
 case clo=>simp only [Wv.BC]
 unfold inB;by_cases hq: -4294967295≤n
 ·exact Wv.V1 (ah hq)
 ·exact Wv.V1 (aj hq)
theorem KT (n:Int):TC Tryz.prog 160 [.v (.int .i64 n)] (.v (.bool (!inB n))):=by
 refine Wv.TC.by 6 [0,2] [] [.tmp 2] Tryz.func160 rfl rfl rfl ?clo ?_
 case clo=>simp only [Wv.BC]
 refine Wv.W ?_;refine ak (Dq n) rfl Wv.c Wv.c ?_;exact Wv.V
def wP:List AV:= .v (.int .i64 0):: .v (.bool false):: .v (.bool false):: .v (.int .i64 0):: .v (.bool false):: .v (.bool false):: .v (.int .i64 0):: .v (.bool true):: .v (.bool false):: .v (.int .i64 0):: .v (.bool false):: .v (.bool true):: .v (.int .i64 2):: .v (.bool false):: .v (.bool false):: .v (.int .i64 2):: .v (.bool false):: .v (.bool false):: .v (.int .i64 1):: .v (.bool false):: .v (.bool false):: .v (.int .i64 2):: .v (.bool false):: .v (.bool false):: .v (.int .i64 1):: .v (.bool true):: .v (.bool false):: .v (.int .i64 1):: .v (.bool false):: .v (.bool false):: .v (.int .i64 1):: .v (.bool false):: .v (.bool true):: .v (.int .i64 1):: .v (.bool false):: .v (.bool true):: .v (.int .i64 2):: .v (.bool false):: .v (.bool false):: .v (.int .i64 1):: .v (.bool true):: .v (.bool false):: .v (.int .i64 1):: .v (.bool true):: .v (.bool false):: .v (.int .i64 1):: .v (.bool false):: .v (.bool false)::[]
theorem YS: ∀ m:Nat,m<16→ ∃ r,List.drop (m*3) wP= .v (.int .i64 (argN m)):: .v (.bool (Dn m)):: .v (.bool (Dp m))::r
 | 0,_=>⟨_,rfl⟩ | 1,_=>⟨_,rfl⟩ | 2,_=>⟨_,rfl⟩ | 3,_=>⟨_,rfl⟩ | 4,_=>⟨_,rfl⟩ | 5,_=>⟨_,rfl⟩ | 6,_=>⟨_,rfl⟩ | 7,_=>⟨_,rfl⟩ | 8,_=>⟨_,rfl⟩ | 9,_=>⟨_,rfl⟩ | 10,_=>⟨_,rfl⟩ | 11,_=>⟨_,rfl⟩ | 12,_=>⟨_,rfl⟩ | 13,_=>⟨_,rfl⟩ | 14,_=>⟨_,rfl⟩ | 15,_=>⟨_,rfl⟩
 | n+16,h=>by omega
theorem YT:TC Tryz.prog 157 [] (.g wP):=by
 refine Wv.TC.by 17 [0] [] [.cell 0 200] Tryz.func157 rfl rfl rfl ?clo ?_
 case clo=>unfold wP;simp only [Wv.BC]
 simp (disch:=first|exact Wv.D|fail) only [Wv.B,simprocAttr,wP]
theorem KU (x:Ex) (hx:okE x) (b:Bool) (T:TC Tryz.prog 108 [.g (exC x)] (.v (.bool b))):TC Tryz.prog 162 [.g (exC x)] (.v (.bool (!b))):=by
 refine Wv.TC.by 6 [0,1,2] [] [.tmp 2] Tryz.func162 rfl rfl rfl ?clo ?_
 case clo=>simp only [Wv.BC]
 obtain ⟨k,s,n,nl,li,na,ar,rfl⟩:=kG hx;have hG:=dh (.mk k s n nl li na ar);unfold exC at T hG ⊢;refine Wv.W ?_;refine ak T rfl (dM hG) Wv.c ?_;exact Wv.V
theorem Ox (x:Ex) (h:okE x):TC Tryz.prog 108 [.g (exC x)] (.v (.bool (aW x))):=by
 induction x with
 | nil=>exact h.elim
 | mk k s n nl li na ar ih=>
 obtain ⟨hs,hnl,hna,hh⟩:=h;refine Wv.TC.by 73 [0,1,14,3,24,5,4,2] [] [.tmp 2] Tryz.func108 rfl rfl rfl ?clo ?_
 case clo=>simp only [Wv.BC]
 unfold exC;refine Wv.W ?_;refine ak YT rfl Wv.c (by unfold wP;simp only [Wv.BC]) ?_;have hN:aW (.mk k s n nl li na ar)=(!decide (k<1) && (!decide (15<k) && ((if k=1 then nameB s else decide (s=⟨#[]⟩)) && (decide ((na:Int)=argN k.toNat) && ((Dn k.toNat || decide (n=0)) && ((Dp k.toNat || decide ((nl:Int)=0)) && (inB n && (!aG nl (fun i=>!inB (li i)) && !aG na fun i=>!aW (ar i))))))))):=rfl;by_cases h1:k<1
 ·rw [ah h1,Bool.not_true,Bool.false_and] at hN;simp (disch:=first|exact Wv.D|fail) only [Wv.B,simprocAttr,wP,ah h1,hN]
 by_cases h2:15<k
 ·rw [aj h1,ah h2,Bool.not_true,Bool.false_and,Bool.not_false,Bool.true_and] at hN;simp (disch:=first|exact Wv.D|fail) only [Wv.B,simprocAttr,wP,aj h1,ah h2,hN]
 rw [aj h1,aj h2,Bool.not_false,Bool.true_and,Bool.true_and] at hN;have hk0:0≤k:=by omega
 obtain ⟨lr,hf⟩:=YS k.toNat (by omega);unfold wP at hf;have hz: ∃ b:Bool,(if k=1 then nameB s else decide (s=⟨#[]⟩))=b:=⟨_,rfl⟩
 obtain ⟨b3,h3⟩:=hz;rw [h3] at hN;simp (disch:=first|exact Wv.D|fail) only [Wv.B,simprocAttr,wP,aj h1,aj h2,hf];clear hf;by_cases hk1:k=1;all_goals first | rw [if_pos hk1] at h3 | rw [if_neg hk1] at h3
 rotate_left
 refine Wv.W2 (aj hk1) h3 ?_;rotate_left
 refine Wv.W1 (ah hk1) ?_;refine ak (KR s hs) rfl Wv.c Wv.c ?_;simp (disch:=first|exact Wv.D|fail) only [Wv.B,simprocAttr,h3];all_goals
  cases b3 with
  | false=>rw [Bool.false_and] at hN;simp (disch:=first|exact Wv.D|fail) only [Wv.B,simprocAttr,hN]
  | true=>
  rw [Bool.true_and] at hN;cases h4:decide ((na:Int)=argN k.toNat) with
  | false=>rw [h4,Bool.false_and] at hN;simp (disch:=first|exact Wv.D|fail) only [Wv.B,simprocAttr,h4,hN]
  | true=>
  rw [h4,Bool.true_and] at hN;cases h56:(Dn k.toNat || decide (n=0)) with
  | false=>
   rw [h56,Bool.false_and] at hN;have h5:=(Bool.or_eq_false_iff.1 h56).1;have h6:=(Bool.or_eq_false_iff.1 h56).2;simp (disch:=first|exact Wv.D|fail) only [Wv.B,simprocAttr,h4,h5,h6,hN]
  | true=>
  have e5:(Dn k.toNat=true∧(0:Nat)=0)∨(Dn k.toNat=false∧decide (n=0)=true):=by
   cases q:Dn k.toNat with
   | true=>exact .inl ⟨rfl,rfl⟩
   | false=>rw [q,Bool.false_or] at h56;exact .inr ⟨rfl,h56⟩
  rw [h56,Bool.true_and] at hN;cases h78:(Dp k.toNat || decide ((nl:Int)=0)) with
  | false=>
   rw [h78,Bool.false_and] at hN;have h7:=(Bool.or_eq_false_iff.1 h78).1;have h8:=(Bool.or_eq_false_iff.1 h78).2;rcases e5 with ⟨h5,h6⟩ | ⟨h5,h6⟩<;>simp (disch:=first|exact Wv.D|fail) only [Wv.B,simprocAttr,h4,h5,h6,h7,h8,hN]
  | true=>
  have e7:(Dp k.toNat=true∧(0:Nat)=0)∨(Dp k.toNat=false∧decide ((nl:Int)=0)=true):=by
   cases q:Dp k.toNat with
   | true=>exact .inl ⟨rfl,rfl⟩
   | false=>rw [q,Bool.false_or] at h78;exact .inr ⟨rfl,h78⟩
  rw [h78,Bool.true_and] at hN;rcases e5 with ⟨h5,h6⟩ | ⟨h5,h6⟩<;>rcases e7 with ⟨h7,h8⟩ | ⟨h7,h8⟩;all_goals
   simp (disch:=first|exact Wv.D|fail) only [Wv.B,simprocAttr,h4,h5,h6,h7,h8];clear h56 h78 h4;refine ak (Dq n) rfl Wv.c Wv.c ?_;cases h9:inB n with
   | false=>rw [h9,Bool.false_and] at hN;simp (disch:=first|exact Wv.D|fail) only [Wv.B,simprocAttr,hN]
   | true=>
   rw [h9,Bool.true_and] at hN;refine Wv.W ?_;refine aC (fst:=[]) (cap:=[]) (yw nl li (fun i=>!inB (li i)) _ [] [] hnl fun i hi=>(KT (li i)).ht (dM Wv.c) Wv.c _) ?_;rintro av h' ⟨rfl,rfl⟩;cases h10:aG nl (fun i=>!inB (li i)) with
   | true=>rw [h10,Bool.not_true,Bool.false_and] at hN;simp (disch:=first|exact Wv.D|fail) only [Wv.B,simprocAttr,hN]
   | false=>
   rw [h10,Bool.not_false,Bool.true_and] at hN;refine Wv.W ?_;refine aC (fst:=[]) (cap:=[]) (Uy na (dH na fun i=>exC (ar i)) (fun i=>exC (ar i)) (qY fun i=>iK _) (Az fun i=>iK _) (fun i=>!aW (ar i)) _ [] [] hna fun i hi=>(KU (ar i) (hh i hi) _ (ih i (hh i hi))).ht (dM (dh (ar i))) Wv.c _) ?_;rintro av h' ⟨rfl,rfl⟩;simp (disch:=first|exact Wv.D|fail) only [Wv.B,simprocAttr,hN]
end
section
open Go.RowKit Wv
theorem bG {n:Nat} {f:Nat→AV}:tab (n+1) f=tab n f++[f n]:=by unfold tab;rw [List.range_succ,List.map_append];rfl
def dU (b:Nat) (f:Nat→Nat):Nat→Nat
 | 0=>b
 | n+1=>dU b f n+f n
def jS (f:Nat→Nat):Nat→Nat
 | 0=>0
 | n+1=>max (jS f n) (f n)
def yA (b:Bool) (f:Nat→Bool):Nat→Bool
 | 0=>b
 | n+1=>yA b f n || f n
theorem wQ (b:Nat) (f:Nat→Nat): ∀ {i n:Nat},i≤n→dU b f i≤dU b f n
 | i,0,h=>by
  have:i=0:=by omega
  subst this;exact Nat.le_refl _
 | i,n+1,h=>by
  by_cases e:i=n+1
  ·subst e;exact Nat.le_refl _
  ·exact Nat.le_trans (wQ b f (by omega)) (Nat.le_add_right _ _)
theorem FY (b:Nat) (f:Nat→Nat) (n:Nat):b≤dU b f n:=wQ b f (i:=0) (Nat.zero_le n)
theorem wR (b:Nat) (f:Nat→Nat) {i n:Nat} (h:i<n):dU b f i+f i≤dU b f n:=wQ b f (i:=i+1) h
theorem Qw (f g:Nat→Nat) (b:Nat) (h: ∀ i,f i≤g i): ∀ n,jS f n≤dU b g n
 | 0=>Nat.zero_le _
 | n+1=>by
  show max (jS f n) (f n)≤dU b g n+g n;have:=Qw f g b h n;have:=h n;omega
def bV:Ex→Nat
 | .nil=>1
 | .mk k s n nl li na ar=>dU 1 (fun i=>bV (ar i)) na
def fK:Ex→Nat
 | .nil=>1
 | .mk k s n nl li na ar=>jS (fun i=>fK (ar i)) na+1
def lI:Ex→Bool
 | .nil=>false
 | .mk k s n nl li na ar=>yA (decide (600<(nl:Int))) (fun i=>lI (ar i)) na
theorem AA (x:Ex):fK x≤bV x:=by
 induction x with
 | nil=>exact Nat.le_refl 1
 | mk k s n nl li na ar ih=>
  show jS (fun i=>fK (ar i)) na+1≤dU 1 (fun i=>bV (ar i)) na;have:=Qw (fun i=>fK (ar i)) (fun i=>bV (ar i)) 0 ih na;have h2: ∀ n,dU 1 (fun i=>bV (ar i)) n=dU 0 (fun i=>bV (ar i)) n+1:=fun n=>by
   induction n with
   | zero=>rfl
   | succ n h=>show dU 1 _ n+_=dU 0 _ n+_+1;rw [h];omega
  rw [h2];omega
theorem YU (x:Ex) (h:okE x) (hc:bV x≤4611686018427387904):TC Tryz.prog 163 [.g (exC x)] (.tup [.v (.int .i64 (bV x)), .v (.int .i64 (fK x)), .v (.bool (lI x))]):=by
 induction x with
 | nil=>exact h.elim
 | mk k s n nl li na ar ih=>
 obtain ⟨hs,hnl,hna,hh⟩:=h;have hcn:dU 1 (fun i=>bV (ar i)) na≤4611686018427387904:=hc;refine Wv.TC.by 42 [0,1,17,16,18,15,6,2,7,3,8,4,9] [(1,5)] [.tmp 2, .tmp 3, .tmp 4] Tryz.func163 rfl rfl rfl ?clo ?_
 case clo=>simp only [Wv.BC]
 unfold exC;refine Wv.W ?_;refine aT (σ:=Nat) (fun i=>[(1, .ptr 0 0),(2, .v (.int .i64 (dU 1 (fun i=>bV (ar i)) i:Nat))),(3, .v (.int .i64 (jS (fun i=>fK (ar i)) i:Nat))),(4, .v (.bool (yA (decide (600<(nl:Int))) (fun i=>lI (ar i)) i))),(15, .t na 5 (dH na fun i=>exC (ar i))),(16, .v (.int .i64 na)),(17, .v (.int .i64 i))])
  (fun i=>[some (.blk [.v (.int .i64 k), .v (.string s), .v (.int .i64 n), .t nl 1 (tab nl fun i=> .v (.int .i64 (li i))), .t na 5 (dH na fun i=>exC (ar i))])])
  (fun i=>i≤na) (fun i=>na - i) 0 (Nat.zero_le _) Wv.V (by simp (disch:=first|exact Wv.D|fail) only [Wv.B,simprocAttr,dU,jS,yA,Int.natCast_one]) ?_
 rintro i hi;by_cases hlt:i<na
 ·have e1:(i:Int)<na:=by omega
  have q1:=wR 1 (fun i=>bV (ar i)) hlt;have q2:=FY 1 (fun i=>bV (ar i)) i;have q3:=AA (ar i);obtain ⟨r,hd⟩:=bM (f:=fun i=>exC (ar i)) (fun i=>iK (ar i)) hlt;have T:=ih i (hh i hlt) (by omega);have hG:=dh (ar i);have hL:=dB (n:=na) (f:=fun i=>exC (ar i)) fun i _=>eU (ar i)
  revert hd T hG hL;generalize hf:(dH na fun i=>exC (ar i))=L;generalize hc1:bV (ar i)=c1 at*;generalize hc2:fK (ar i)=c2 at*;generalize hc3:lI (ar i)=c3;have hoy:=hh i hlt;generalize ar i=y at hoy ⊢;obtain ⟨k',s',n',nl',li',na',ar',rfl⟩:=kG hoy;rw [cO];intro hd T hG hL;simp only [List.cons_append,List.nil_append] at hd;refine Wv.W1 hd ?_;refine ak T rfl (dM hG) Wv.c ?_;refine Wv.W ?_;have hmx:(if (c2:Int)>((jS (fun i=>fK (ar i)) i:Nat):Int) then (c2:Int) else ((jS (fun i=>fK (ar i)) i:Nat):Int))=((jS (fun i=>fK (ar i)) (i+1):Nat):Int):=by
   show _=((max (jS (fun i=>fK (ar i)) i) (fK (ar i)):Nat):Int);rw [hc2];split<;>omega
  have hsx:((dU 1 (fun i=>bV (ar i)) i:Nat):Int)+c1=((dU 1 (fun i=>bV (ar i)) (i+1):Nat):Int):=by
   show _=((dU 1 (fun i=>bV (ar i)) i+bV (ar i):Nat):Int);rw [hc1];omega
  have hox:yA (decide (600<(nl:Int))) (fun i=>lI (ar i)) (i+1)=(yA (decide (600<(nl:Int))) (fun i=>lI (ar i)) i || c3):=by
   show (_ || lI (ar i))=_;rw [hc3]
  cases ho:yA (decide (600<(nl:Int))) (fun i=>lI (ar i)) i with
  | true=>
   rw [ho,Bool.true_or] at hox;refine Wv.W2 hmx hsx ?_;refine Wv.iw (i+1) 1 (by first | decide | exact Nat.le_of_ble_eq_true rfl) (by omega) (by omega) (Wv.V2f @bG hox) (Wv.V3 @Int.natCast_add @Int.natCast_one hox) (by simp only [Wv.BL, ↓reduceIte,Nat.reduceLeDiff,hL]<;>omega) (by simp only [Wv.BL, ↓reduceIte,Nat.reduceLeDiff,hL]<;>omega)
  | false=>
   rw [ho,Bool.false_or] at hox;refine Wv.W2 hmx hsx ?_;refine Wv.iw (i+1) 1 (by first | decide | exact Nat.le_of_ble_eq_true rfl) (by omega) (by omega) (Wv.V2f @bG hox) (Wv.V3 @Int.natCast_add @Int.natCast_one hox) (by simp only [Wv.BL, ↓reduceIte,Nat.reduceLeDiff,hL]<;>omega) (by simp only [Wv.BL, ↓reduceIte,Nat.reduceLeDiff,hL]<;>omega)
 ·have hin:i=na:=by omega
  subst hin;have h1:bV (.mk k s n nl li i ar)=dU 1 (fun i=>bV (ar i)) i:=rfl;have h2:((fK (.mk k s n nl li i ar):Nat):Int)=((jS (fun i=>fK (ar i)) i:Nat):Int)+1:=by
   show ((jS (fun i=>fK (ar i)) i+1:Nat):Int)=_;omega
  have h3:lI (.mk k s n nl li i ar)=yA (decide (600<(nl:Int))) (fun i=>lI (ar i)) i:=rfl;have h4:=AA (.mk k s n nl li i ar);exact Wv.V3 h1 h2 h3
end
section
open Go.RowKit Wv
structure Ci where
 name:ByteArray
 ni:Nat
 fi:Nat→ByteArray
 nl:Nat
 ln:Nat→ByteArray
 le:Nat→Ex
 no:Nat
 fo:Nat→ByteArray
def jg (s:ByteArray) (x:Ex):List AV:= .v (.string s)::exC x
theorem iQ (s:ByteArray) (x:Ex):(jg s x).length=6:=by cases x<;>rfl
theorem wS (s:ByteArray) (x:Ex): ∀ a,a∈jg s x→Clo a:=by
 intro a ha;rcases List.mem_cons.1 ha with rfl | h
 ·simp only [Wv.BC]
 ·exact eU x a h
def Ci.lets (c:Ci):List AV:=dH c.nl fun i=>jg (c.ln i) (c.le i)
def ciC (c:Ci):List AV:=[.v (.string c.name),bT c.ni c.fi, .t c.nl 6 c.lets,bT c.no c.fo]
theorem iR (c:Ci): ∀ a,a∈c.lets→Clo a:=dB fun i _=>wS _ _
theorem Dt (c:Ci):c.lets.length=c.nl*6:=qY fun i=>iQ _ _
theorem tu (c:Ci): ∀ a,a∈ciC c→Clo a:=by
 unfold ciC;simp only [Wv.BC,mP];exact iR c
theorem wU (c:Ci):Clo (.g (ciC c)):=by simp only [Wv.BC];exact tu c
structure okC (c:Ci):Prop where
 name:c.name.size≤140737488351232
 ni:c.ni≤140737488351232
 nl:c.nl≤140737488351232
 no:c.no≤140737488351232
 fi: ∀ i,i<c.ni→(c.fi i).size≤140737488351232
 fo: ∀ i,i<c.no→(c.fo i).size≤140737488351232
 ln: ∀ i,i<c.nl→(c.ln i).size≤140737488351232
 le: ∀ i,i<c.nl→okE (c.le i)∧bV (c.le i)≤4611686018427387904
def Ci.sum (c:Ci) (i:Nat):Nat:=dU 0 (fun i=>bV (c.le i)) i
def Ci.big (c:Ci) (i:Nat):Bool:=decide (400<((c.sum (i+1):Nat):Int)) || (decide (40<((fK (c.le i):Nat):Int)) || lI (c.le i))
def jB (c:Ci):Bool:=!aG c.nl c.big
def qZ (c:Ci):Bool:=decide ((c.ni:Int)≤8) && (decide ((c.nl:Int)≤60) && decide ((c.no:Int)≤8))
def dN (c:Ci):Int:=
 if (!nameB c.name || (aG c.ni (fun i=>!nameB (c.fi i)) || (aG c.no (fun i=>!nameB (c.fo i)) || (decide ((c.no:Int)=0) || !qZ c))))=true then 2
 else if aG c.nl (fun i=>!nameB (c.ln i) || !aW (c.le i))=true then 2 else if jB c=true then 0 else 3
theorem UA (c:Ci) (h:okC c):TC Tryz.prog 109 [.g (ciC c)] (.v (.bool (jB c))):=by
 refine Wv.TC.by 36 [0,1,12,11,13,10,5,3,6,7,8,34,2] [] [.tmp 2] Tryz.func109 rfl rfl rfl ?clo ?_
 case clo=>simp only [Wv.BC]
 unfold ciC bT;refine Wv.W ?_;refine aT (σ:=Nat) (fun i=>[(1, .ptr 0 0),(3, .v (.int .i64 (c.sum i:Nat))),(10, .t c.nl 6 c.lets),(11, .v (.int .i64 c.nl)),(12, .v (.int .i64 i))])
  (fun i=>[some (.blk [.v (.string c.name), .t c.ni 1 (tab c.ni fun i=> .v (.string (c.fi i))), .t c.nl 6 c.lets, .t c.no 1 (tab c.no fun i=> .v (.string (c.fo i)))])])
  (fun i=>i≤c.nl∧((c.sum i:Nat):Int)≤400∧ ∀ j,j<i→c.big j=false) (fun i=>c.nl - i) 0 ⟨Nat.zero_le _,by show ((0:Nat):Int)≤400;omega,fun j hj=>by omega⟩ Wv.V (by simp (disch:=first|exact Wv.D|fail) only [Wv.B,simprocAttr,Ci.sum,dU]) ?_
 rintro i ⟨hi,hsum,hb⟩;by_cases hlt:i<c.nl
 ·have e1:(i:Int)<c.nl:=by omega
  have hnl:=h.nl;have hL:=iR c;obtain ⟨r,hd⟩:=bM (f:=fun i=>jg (c.ln i) (c.le i)) (fun i=>iQ _ _) hlt;have T:=YU (c.le i) (h.le i hlt).1 (h.le i hlt).2;have hc1':=(h.le i hlt).2;have hG:=dh (c.le i);have hbig:c.big i=(decide (400<((c.sum (i+1):Nat):Int)) || (decide (40<((fK (c.le i):Nat):Int)) || lI (c.le i))):=rfl;have hs1:((c.sum (i+1):Nat):Int)=((c.sum i:Nat):Int)+((bV (c.le i):Nat):Int):=by
   show ((dU 0 (fun i=>bV (c.le i)) i+bV (c.le i):Nat):Int)=_;exact Int.natCast_add _ _
  change List.drop (i*6) c.lets=jg (c.ln i) (c.le i)++r at hd;generalize hle:c.le i=x at hd T hc1' hG hbig hs1;generalize c.lets=L at*;generalize bV x=c1 at*;generalize fK x=c2 at*;generalize lI x=c3 at*;have hoy:=(h.le i hlt).1;rw [hle] at hoy;obtain ⟨k',s',n',nl',li',na',ar',rfl⟩:=kG hoy;unfold jg at hd;rw [cO] at hd T hG;simp only [List.cons_append,List.nil_append] at hd;refine Wv.W1 hd ?_;refine ak T rfl (dM hG) Wv.c ?_;refine Wv.W ?_;have hbad:c.big i=true→jB c=false:=fun hq=>by
   unfold jB;have:aG c.nl c.big=true:=by
    unfold aG;exact List.any_eq_true.2 ⟨i,List.mem_range.2 hlt,hq⟩
   rw [this];rfl
  cases d1:decide (400<((c.sum i:Nat):Int)+(c1:Int)) with
  | true=>
   have hsm:=hbad (by rw [hbig,hs1,d1];rfl);simp (disch:=first|exact Wv.D|fail) only [Wv.B,simprocAttr,d1,hsm]
  | false=>
  cases d2:decide (40<(c2:Int)) with
  | true=>
   have hsm:=hbad (by rw [hbig,hs1,d1,d2];rfl);simp (disch:=first|exact Wv.D|fail) only [Wv.B,simprocAttr,d1,d2,hsm]
  | false=>
  cases c3 with
  | true=>
   have hsm:=hbad (by rw [hbig,hs1,d1,d2];rfl);simp (disch:=first|exact Wv.D|fail) only [Wv.B,simprocAttr,d1,d2,hsm]
  | false=>
   have hbf:c.big i=false:=by rw [hbig,hs1,d1,d2];rfl
   have aoI:=of_decide_eq_false d1;refine Wv.W2 d1 d2 ?_;refine Wv.iw (i+1) 1 (by first | decide | exact Nat.le_of_ble_eq_true rfl) (⟨by omega,by omega,fun j hj=>by by_cases e:j=i;exact e▸hbf;exact hb j (by omega)⟩) (by omega) (Wv.V2f @bG hs1) (Wv.V3 @Int.natCast_add @Int.natCast_one hs1) (by simp only [Wv.BL, ↓reduceIte,Nat.reduceLeDiff,hL]<;>omega) (by simp only [Wv.BL, ↓reduceIte,Nat.reduceLeDiff,hL]<;>omega)
 ·have hin:i=c.nl:=by omega
  have:jB c=true:=by
   unfold jB;have:aG c.nl c.big=false:=by
    unfold aG;refine List.any_eq_false.2 fun j hj=>?_
    rw [hb j (by have:=List.mem_range.1 hj;omega)];decide
   rw [this];rfl
  simp (disch:=first|exact Wv.D|fail) only [Wv.B,simprocAttr,this,hin]
theorem aei (c:Ci):TC Tryz.prog 105 [.g (ciC c)] (.v (.bool (qZ c))):=by
 refine Wv.TC.by 19 [0,1,2] [] [.tmp 2] Tryz.func105 rfl rfl rfl ?clo ?_
 case clo=>simp only [Wv.BC]
 unfold ciC bT;have hN:qZ c=(decide ((c.ni:Int)≤8) && (decide ((c.nl:Int)≤60) && decide ((c.no:Int)≤8))):=rfl;cases h1:decide ((c.ni:Int)≤8) with
 | false=>rw [h1,Bool.false_and] at hN;simp (disch:=first|exact Wv.D|fail) only [Wv.B,simprocAttr,h1,hN]
 | true=>
 cases h2:decide ((c.nl:Int)≤60) with
 | false=>rw [h1,h2,Bool.false_and,Bool.and_false] at hN;simp (disch:=first|exact Wv.D|fail) only [Wv.B,simprocAttr,h1,h2,hN]
 | true=>rw [h1,h2,Bool.true_and,Bool.true_and] at hN;simp (disch:=first|exact Wv.D|fail) only [Wv.B,simprocAttr,h1,h2,hN]
theorem AB (s:ByteArray) (hs:s.size≤140737488351232):TC Tryz.prog 102 [.v (.string s)] (.v (.bool (!nameB s))):=by
 refine Wv.TC.by 6 [0,2] [] [.tmp 2] Tryz.func102 rfl rfl rfl ?clo ?_
 case clo=>simp only [Wv.BC]
 refine Wv.W ?_;refine ak (KR s hs) rfl Wv.c Wv.c ?_;exact Wv.V
theorem HT.rd {P:Program} {f:FuncId} {args:List AV} {h:Hp} {res:AV} (T:HT P f args h fun r h'=>r=res∧h'.take h.length=h) (hr:lo h.length res) (hh:loH h.length h):HT P f args h fun r h'=>r=res∧h'=h:=
 (RD.of (R:=fun r=>r=res) (p:=fun _=>False) (T.toP _) (fun r q=>q▸hr) (fun r q=>q.elim) hh).toT fun _ _ q=>q.1
theorem YV {C:List AV} (hC: ∀ a,a∈C→Clo a) (s:ByteArray) (x:Ex) (hs:s.size≤140737488351232) (hx:okE x):HT Tryz.prog 107 [.g (jg s x), .ptr 1 0] [some (.blk C),some (.blk [.fn (.func 102) [] []])] (fun r h'=>r= .v (.bool (!nameB s || !aW x))∧h'=[some (.blk C),some (.blk [.fn (.func 102) [] []])]):=by
 have T:=Ox x hx;have hG:=dh x;generalize aW x=b at*;obtain ⟨k',s',n',nl',li',na',ar',rfl⟩:=kG hx;unfold jg;rw [cO] at*;refine HT.rd ?_ (by simp only [Wv.BL, ↓reduceIte,Nat.reduceLeDiff]) (by simp only [Wv.BL, ↓reduceIte,Nat.reduceLeDiff];exact fun a ha=> .clo (hC a ha));refine Wv.HT.by 14 [0,1,2,3] [(1000000,2)] [.tmp 3] Tryz.func107 rfl rfl rfl ?base ?_
 case base=>rfl
 refine Wv.W ?_;refine ak (AB s hs) rfl Wv.c Wv.c ?_;cases h1:nameB s with
 | false=>exact Wv.V1 @Bool.true_or
 | true=>
  refine Wv.W ?_;refine ak T rfl (dM hG) Wv.c ?_;simp (disch:=first|exact Wv.D|fail) only [Wv.B,simprocAttr,Bool.false_or]
theorem Oy (c:Ci) (h:okC c):TC Tryz.prog 61 [.g (ciC c)] (.v (.int .i64 (dN c))):=by
 have hcl:=wU c;have hll:=Dt c;have hla: ∀ i,i<c.nl→List.take 6 (List.drop (i*6) c.lets)=jg (c.ln i) (c.le i):=Az fun i=>iQ _ _
 have Tf:=aei c;have Ts:=UA c h;have hN:dN c=if (!nameB c.name || (aG c.ni (fun i=>!nameB (c.fi i)) || (aG c.no (fun i=>!nameB (c.fo i)) || (decide ((c.no:Int)=0) || !qZ c))))=true then 2
  else if aG c.nl (fun i=>!nameB (c.ln i) || !aW (c.le i))=true then 2 else if jB c=true then 0 else 3:=rfl
 unfold ciC bT at Tf Ts hcl ⊢;refine Wv.TC.by 38 [0,3,1,30,34,37,2] [] [.tmp 2] Tryz.func61 rfl rfl rfl ?clo ?_
 case clo=>simp only [Wv.BC]
 refine Wv.W ?_;refine ak (AB c.name h.name) rfl Wv.c Wv.c ?_;cases h1:nameB c.name with
 | false=>rw [h1] at hN;simp only [Bool.not_false,Bool.true_or,if_true] at hN;simp (disch:=first|exact Wv.D|fail) only [Wv.B,simprocAttr,hN]
 | true=>
 refine Wv.W ?_;refine aC (fst:=[]) (cap:=[]) (FX c.ni c.fi (fun i=>!nameB (c.fi i)) _ [] [] h.ni fun i hi=>(AB (c.fi i) (h.fi i hi)).ht (dM Wv.c) Wv.c _) ?_;rintro av h' ⟨rfl,rfl⟩;cases h2:aG c.ni (fun i=>!nameB (c.fi i)) with
 | true=>rw [h1,h2] at hN;simp only [Bool.not_true,Bool.false_or,Bool.true_or,if_true] at hN;simp (disch:=first|exact Wv.D|fail) only [Wv.B,simprocAttr,hN]
 | false=>
 refine Wv.W ?_;refine aC (fst:=[]) (cap:=[]) (FX c.no c.fo (fun i=>!nameB (c.fo i)) _ [] [] h.no fun i hi=>(AB (c.fo i) (h.fo i hi)).ht (dM Wv.c) Wv.c _) ?_;rintro av h' ⟨rfl,rfl⟩;cases h3:aG c.no (fun i=>!nameB (c.fo i)) with
 | true=>rw [h1,h2,h3] at hN;simp only [Bool.not_true,Bool.false_or,Bool.true_or,if_true] at hN;simp (disch:=first|exact Wv.D|fail) only [Wv.B,simprocAttr,hN]
 | false=>
 cases h4:decide ((c.no:Int)=0) with
 | true=>rw [h1,h2,h3,h4] at hN;simp only [Bool.not_true,Bool.false_or,Bool.true_or,if_true] at hN;simp (disch:=first|exact Wv.D|fail) only [Wv.B,simprocAttr,h4,hN]
 | false=>
 refine Wv.W1 h4 ?_;refine ak Tf rfl (dM hcl) Wv.c ?_;cases h5:qZ c with
 | false=>rw [h1,h2,h3,h4,h5] at hN;simp only [Bool.not_true,Bool.not_false,Bool.false_or,Bool.true_or,if_true] at hN;simp (disch:=first|exact Wv.D|fail) only [Wv.B,simprocAttr,hN]
 | true=>
 rw [h1,h2,h3,h4,h5] at hN;simp only [Bool.not_true,Bool.not_false,Bool.false_or,Bool.true_or,if_true,Bool.false_eq_true,if_false] at hN;refine Wv.W ?_;refine aC (fst:=[]) (cap:=[]) (Uz c.nl c.lets (fun i=>jg (c.ln i) (c.le i)) hll hla (fun i=>!nameB (c.ln i) || !aW (c.le i)) _ [] [.ptr 1 0] h.nl fun i hi=>YV (by simp only [Wv.BC];exact iR c) (c.ln i) (c.le i) (h.ln i hi) (h.le i hi).1) ?_;rintro av h' ⟨rfl,rfl⟩;cases h6:aG c.nl (fun i=>!nameB (c.ln i) || !aW (c.le i)) with
 | true=>rw [h6] at hN;simp only [if_true] at hN;simp (disch:=first|exact Wv.D|fail) only [Wv.B,simprocAttr,hN]
 | false=>
 rw [h6] at hN;simp only [Bool.false_eq_true,if_false] at hN;refine Wv.W ?_;refine ak Ts rfl (dM hcl) Wv.c ?_;cases h7:jB c with
 | true=>rw [h7] at hN;simp only [if_true] at hN;simp (disch:=first|exact Wv.D|fail) only [Wv.B,simprocAttr,hN]
 | false=>rw [h7] at hN;simp only [Bool.false_eq_true,if_false] at hN;simp (disch:=first|exact Wv.D|fail) only [Wv.B,simprocAttr,hN]
end
section
open Go.RowKit Wv
def gK (f:Nat→Int→Int) (l:Int):Nat→Int
 | 0=>l
 | i+1=>if gK f l i<0 then gK f l i else f i (gK f l i)
theorem yB        {f : Nat → Int → Int} {l : Int} {i : Nat} (h : gK   f l i < 0) : ∀ {n : Nat}, i ≤ n → gK   f l n = gK   f l i
  | 0, q => by have : i = 0 := by omega
               subst this; rfl
  | n + 1, q => by
    by_cases e : i = n + 1
    · subst e; rfl
    · have ih := yB        h (n := n) (by omega)
      show (if gK   f l n < 0 then gK   f l n else f n (gK   f l n)) = _;rw [ih, if_pos h]
def fD:Ex→Int→Int
 | .nil,l=>l
 | .mk k s n nl li na ar,l=>gK (fun i x=>fD (ar i) x) (l - 1 - nl - s.size) na
theorem Du (k:Int) (s:ByteArray) (n:Int) (nl:Nat) (li:Nat→Int) (na:Nat) (ar:Nat→Ex) (l:Int):fD (.mk k s n nl li na ar) l=gK (fun i x=>fD (ar i) x) (l - 1 - nl - s.size) na:=rfl
theorem wV {f:Nat→Int→Int} {B:Int} {l:Int} (hl:l≤B) (hl': -1000000000000000≤l): ∀ n,(∀ i,i<n→ ∀ x,0≤x→x≤B→f i x≤B∧ -1000000000000000≤f i x)→gK f l n≤B∧ -1000000000000000≤gK f l n
 | 0,_=>⟨hl,hl'⟩
 | n+1,hf=>by
  have ih:=wV hl hl' n fun i hi=>hf i (by omega)
  show (if gK f l n<0 then gK f l n else f n (gK f l n))≤B∧ -1000000000000000≤(if gK f l n<0 then gK f l n else f n (gK f l n));by_cases h:gK f l n<0
  ·rw [if_pos h];exact ih
  ·rw [if_neg h];exact hf n (by omega) _ (by omega) ih.1
theorem wW: ∀ (e:Ex),okE e→ ∀ (l B:Int), -150000000000000≤l→l≤B→0≤B→B≤1000000→fD e l≤B∧ -1000000000000000≤fD e l:=by
 intro e;induction e with
 | nil=>intro h;exact h.elim
 | mk k s n nl li na ar ih=>
  rintro ⟨h1,h2,h3,h4⟩ l B h5 h6 h8 h7;rw [Du];exact wV (by omega) (by omega) na fun i hi x q1 q2=>ih i (h4 i hi) x B (by omega) q2 h8 h7
theorem UC: ∀ (e:Ex),okE e→ ∀ (l:Int),0≤fD e l→(bV e:Int)≤l - fD e l:=by
 intro e;induction e with
 | nil=>intro h;exact h.elim
 | mk k s n nl li na ar ih=>
  rintro ⟨h1,h2,h3,h4⟩ l h;rw [Du] at h ⊢;have key: ∀ m,m≤na→0≤gK (fun i x=>fD (ar i) x) (l - 1 - nl - s.size) m→(dU 1 (fun i=>bV (ar i)) m:Int)≤1+(l - 1 - nl - s.size) - gK (fun i x=>fD (ar i) x) (l - 1 - nl - s.size) m:=by
   intro m;induction m with
   | zero=>intro _ _;show ((1:Nat):Int)≤1+(l - 1 - nl - s.size) - (l - 1 - nl - s.size);omega
   | succ m ihm=>
    intro hm hq;have e1:gK (fun i x=>fD (ar i) x) (l - 1 - nl - s.size) (m+1)=if gK (fun i x=>fD (ar i) x) (l - 1 - nl - s.size) m<0 then gK (fun i x=>fD (ar i) x) (l - 1 - nl - s.size) m else fD (ar m) (gK (fun i x=>fD (ar i) x) (l - 1 - nl - s.size) m):=rfl
    by_cases hn:gK (fun i x=>fD (ar i) x) (l - 1 - nl - s.size) m<0
    ·rw [e1,if_pos hn] at hq;omega
    ·rw [e1,if_neg hn] at hq ⊢;have g1:=ihm (by omega) (by omega);have g2:=ih m (h4 m (by omega)) _ hq;have e2:dU 1 (fun i=>bV (ar i)) (m+1)=dU 1 (fun i=>bV (ar i)) m+bV (ar m):=rfl;rw [e2,Int.natCast_add];omega
  have hk:=key na (Nat.le_refl _) h;have e3:bV (.mk k s n nl li na ar)=dU 1 (fun i=>bV (ar i)) na:=rfl;rw [e3];omega
theorem UD {a b:AV} (h1:Clo a) (h2:Clo b): ∀ x,x∈[a,b]→Clo x:=by simp only [Wv.BC];exact ⟨h1,h2⟩
theorem Oz {n i:Nat} {p:Nat→Bool} (hi:i<n) (h:p i=true):aG n p=true:=by
 unfold aG;exact List.any_eq_true.2 ⟨i,List.mem_range.2 hi,h⟩
theorem any_none {n:Nat} {p:Nat→Bool} (h: ∀ i,i<n→p i=false):aG n p=false:=by
 unfold aG;exact List.any_eq_false.2 fun i hi=>by rw [h i (List.mem_range.1 hi)];exact Bool.noConfusion
def yD (f:Nat→ByteArray):Nat→Nat
 | 0=>0
 | i+1=>yD f i+(f i).size+1
def rC (n:Nat) (f:Nat→ByteArray) (most:Int):Bool:=aG n fun i=>decide (most - yD f i≤((f i).size:Int))
theorem FZ (f:Nat→ByteArray) (i:Nat):yD f (i+1)=yD f i+(f i).size+1:=rfl
theorem KW (n:Nat) (f:Nat→ByteArray) (most:Int) (hn:n≤140737488351232) (h0: -1000000≤most) (h1:most≤1000000):TC Tryz.prog 56 [bT n f, .v (.int .i64 most)] (.v (.bool (rC n f most))):=by
 unfold bT;refine Wv.TC.by 27 [5,0,9,1,18,4] [] [.tmp 4] Tryz.func56 rfl rfl rfl ?clo ?_
 case clo=>simp only [Wv.BC]
 refine Wv.W ?_;refine aT (σ:=Nat) (fun i=>[(0, .t n 1 (tab n fun i=> .v (.string (f i)))),(1, .v (.int .i64 (most - yD f i))),(5, .v (.int .i64 i))]) (fun i=>[]) (fun i=>i≤n∧(yD f i:Int)≤2000000∧ ∀ j,j<i→decide (most - yD f j≤((f j).size:Int))=false) (fun i=>n - i) 0 ⟨Nat.zero_le _,by show ((0:Nat):Int)≤_;omega,fun j hj=>by omega⟩ Wv.V (by simp (disch:=first|exact Wv.D|fail) only [Wv.B,simprocAttr,yD,Int.natCast_zero,Int.sub_zero]) ?_;rintro i ⟨hi,hs,hb⟩;by_cases hlt:i<n
 ·have e1:(i:Int)<(n:Int):=by omega
  by_cases hq:most - yD f i≤((f i).size:Int)
  ·have hL:rC n f most=true:=Oz hlt (ah hq);exact Wv.V3 (ah e1) (ah hq) hL
  ·have hss:=FZ f i;have e5:most - (yD f i:Int) - ((f i).size:Int) - 1=most - ((yD f (i+1):Nat):Int):=by rw [hss];omega
   refine Wv.W2 (ah e1) (aj hq) ?_;refine ay (i+1) ⟨by omega,by omega,fun j hj=>?_⟩ (by omega) rfl (Wv.V3 e5 @Int.natCast_add @Int.natCast_one);by_cases e:j=i
   ·subst e;exact aj hq
   ·exact hb j (by omega)
 ·obtain rfl:n=i:=by omega
  have hL:rC n f most=false:=any_none hb;exact Wv.V3 @Int.lt_irrefl @decide_false hL
theorem UE (e:Ex) (h:okE e) (l:Int) (h0: -150000000000000≤l) (h1:l≤1000000):TC Tryz.prog 57 [.g (exC e), .v (.int .i64 l)] (.v (.int .i64 (fD e l))):=by
 induction e generalizing l with
 | nil=>exact h.elim
 | mk k s n nl li na ar ih=>
 have hle:=fun m=>wW (.mk k s n nl li na ar) h l 1000000 h0 h1 (by omega) (by omega)
 obtain ⟨hs,hnl,hna,hh⟩:=h;have hacc: ∀ m,m≤na→gK (fun i x=>fD (ar i) x) (l - 1 - nl - s.size) m≤1000000∧ -1000000000000000≤gK (fun i x=>fD (ar i) x) (l - 1 - nl - s.size) m:=fun m hm=>
  wV (by omega) (by omega) m fun i hi x q1 q2=>wW (ar i) (hh i (by omega)) x 1000000 (by omega) q2 (by omega) (by omega)
 rw [Du];clear hle;refine Wv.TC.by 35 [0,1,2,5,24,4] [] [.tmp 4] Tryz.func57 rfl rfl rfl ?clo ?_
 case clo=>simp only [Wv.BC]
 unfold exC;refine Wv.W ?_;refine aT (σ:=Nat) (fun i=>[(1, .v (.int .i64 (gK (fun i x=>fD (ar i) x) (l - 1 - nl - s.size) i))),(2, .ptr 0 0),(5, .v (.int .i64 i))])
  (fun i=>[some (.blk [.v (.int .i64 k), .v (.string s), .v (.int .i64 n), .t nl 1 (tab nl fun i=> .v (.int .i64 (li i))), .t na 5 (dH na fun i=>exC (ar i))])])
  (fun i=>i≤na) (fun i=>na - i) 0 (Nat.zero_le _) Wv.V (by simp (disch:=first|exact Wv.D|fail) only [Wv.B,simprocAttr,gK]) ?_
 intro i hi;have hai:=hacc i hi;have hst:gK (fun i x=>fD (ar i) x) (l - 1 - nl - s.size) i<0→gK (fun i x=>fD (ar i) x) (l - 1 - nl - s.size) na=gK (fun i x=>fD (ar i) x) (l - 1 - nl - s.size) i:=fun q=>yB q hi
 have hsu:gK (fun i x=>fD (ar i) x) (l - 1 - nl - s.size) (i+1)=if gK (fun i x=>fD (ar i) x) (l - 1 - nl - s.size) i<0 then gK (fun i x=>fD (ar i) x) (l - 1 - nl - s.size) i else fD (ar i) (gK (fun i x=>fD (ar i) x) (l - 1 - nl - s.size) i):=rfl
 by_cases hlt:i<na
 ·have e1:(i:Int)<na:=by omega
  generalize hA:gK (fun i x=>fD (ar i) x) (l - 1 - nl - s.size) i=A at*;by_cases hneg:A<0
  ·have e2: ¬ 0≤A:=by omega
   have e3:=hst hneg;exact Wv.V3 (ah e1) (aj e2) e3
  ·have e2:0≤A:=by omega
   rw [if_neg hneg] at hsu;have T:=ih i (hh i hlt) A (by omega) hai.1;have hP:=wW (ar i) (hh i hlt) A 1000000 (by omega) hai.1 (by omega) (by omega);have hG:=dh (ar i);have hoy:=hh i hlt;have hL:=dB (n:=na) (f:=fun i=>exC (ar i)) fun i _=>eU (ar i)
   obtain ⟨r,hd⟩: ∃ r,List.drop (i*5) (dH na fun i=>exC (ar i))=exC (ar i)++r:=bM (f:=fun i=>exC (ar i)) (fun i=>iK (ar i)) hlt;revert hd T hG hL hsu;generalize (dH na fun i=>exC (ar i))=L;generalize fD (ar i) A=pa at hP ⊢;generalize ar i=y at hoy ⊢;obtain ⟨k',s',n',nl',li',na',ar',rfl⟩:=kG hoy;rw [cO];intro hsu T hG hL hd;simp only [List.cons_append,List.nil_append] at hd;refine Wv.W3 (ah e1) (ah e2) hd ?_;refine ak T rfl (UD hG (.v _)) Wv.c ?_;refine Wv.W ?_;refine ay (i+1) (by omega) (by omega) rfl (Wv.V3 hsu @Int.natCast_add @Int.natCast_one)
 ·obtain rfl:i=na:=by omega
  exact Wv.V2f @Int.lt_irrefl @decide_false
def yE:Ex→Nat
 | .nil=>0
 | .mk k s n nl li na ar=>dU (if k=11∨k=13 then 1 else 0) (fun i=>yE (ar i)) na
theorem Dv {a b:Nat} {f g:Nat→Nat}: ∀ {n:Nat},a≤b→(∀ i,i<n→f i≤g i)→dU a f n≤dU b g n
 | 0,h,_=>h
 | n+1,h,hf=>by
  have h1:=Dv (n:=n) h fun i hi=>hf i (by omega)
  have h2:=hf n (by omega);show dU a f n+f n≤dU b g n+g n;omega
theorem AL: ∀ (e:Ex),yE e≤bV e:=by
 intro e;induction e with
 | nil=>exact Nat.zero_le _
 | mk k s n nl li na ar ih=>exact Dv (by split<;>omega) fun i _=>ih i
theorem OA (e : Ex) (h : okE e) (hc : bV e ≤ 1000000) : TC Tryz.prog 58 [.g (exC e)] (.v (.int .i64 (yE e))) := by
  induction e with
  | nil => exact h.elim
  | mk k s n nl li na ar ih =>
  obtain ⟨hs, hnl, hna, hh⟩ := h;have hcn : dU 1 (fun i => bV (ar i)) na ≤ 1000000 := hc;have hfin : yE (.mk k s n nl li na ar) = dU (if k = 11 ∨ k = 13 then 1 else 0) (fun i => yE (ar i)) na := rfl;rw [hfin];refine Wv.TC.by 29 [0, 1, 12, 4, 17, 3, 2] [] [.tmp 2] Tryz.func58 rfl rfl rfl ?clo ?_
  case clo => simp only [Wv.BC]
  unfold exC;generalize hb : (if k = 11 ∨ k = 13 then 1 else 0 : Nat) = b0 at *;have hb1 : b0 ≤ 1 := by rw [← hb]; split <;> omega
  by_cases k11 : k = 11;rotate_left
  by_cases k13 : k = 13;rotate_left
  all_goals
    first
    | (have hb0 : b0 = 1 := by rw [← hb]; exact if_pos (by omega)
       simp (disch:=first|exact Wv.D|fail) only [Wv.B, simprocAttr, ah k11])
    | (have hb0 : b0 = 1 := by rw [← hb]; exact if_pos (by omega)
       simp (disch:=first|exact Wv.D|fail) only [Wv.B, simprocAttr, aj k11, ah k13])
    | (have hb0 : b0 = 0 := by rw [← hb]; exact if_neg (by omega)
       simp (disch:=first|exact Wv.D|fail) only [Wv.B, simprocAttr, aj k11, aj k13])
    clear hb hfin;refine aT (σ := Nat) (fun i => [(1, .ptr 0 0), (3, .v (.int .i64 (dU b0 (fun i => yE (ar i)) i : Nat))), (4, .v (.int .i64 i))])
      (fun i => [some (.blk [.v (.int .i64 k), .v (.string s), .v (.int .i64 n), .t nl 1 (tab nl fun i => .v (.int .i64 (li i))), .t na 5 (dH na fun i => exC (ar i))])])
      (fun i => i ≤ na) (fun i => na - i) 0 (Nat.zero_le _) Wv.V (by simp (disch:=first|exact Wv.D|fail) only [Wv.B, simprocAttr, dU, hb0, Int.natCast_one, Int.natCast_zero]) ?_
    clear hb0;intro i hi;by_cases hlt : i < na
    · have e1 : (i : Int) < na := by omega
      have q1 := wR 1 (fun i => bV (ar i)) hlt;have hqi := Dv (n := i) (f := fun i => yE (ar i)) (g := fun i => bV (ar i)) hb1 fun j _ => AL (ar j)
      have hqm : dU 1 (fun i => bV (ar i)) i ≤ dU 1 (fun i => bV (ar i)) na := wQ 1 _ hi;have q3 := AL (ar i);have T := ih i (hh i hlt) (by omega);have hG := dh (ar i);have hoy := hh i hlt;have hL := dB (n := na) (f := fun i => exC (ar i)) fun i _ => eU (ar i)
      obtain ⟨r, hd⟩ : ∃ r, List.drop (i * 5) (dH na fun i => exC (ar i)) = exC (ar i) ++ r := bM (f := fun i => exC (ar i)) (fun i => iK (ar i)) hlt;revert T hG hL hd;generalize (dH na fun i => exC (ar i)) = L;generalize hc2 : yE (ar i) = c2 at *;generalize hcc : bV (ar i) = cc at *;generalize ar i = y at hoy ⊢;obtain ⟨k', s', n', nl', li', na', ar', rfl⟩ := kG hoy;rw [cO];intro T hG hL hd;simp only [List.cons_append, List.nil_append] at hd;refine Wv.W2 (ah e1) hd ?_;refine ak T rfl (dM hG) Wv.c ?_;refine Wv.W ?_;refine ay (i + 1) (by omega) (by omega) rfl (by simp (disch:=first|exact Wv.D|fail) only [Wv.B, simprocAttr, dU, hc2, Int.natCast_add, Int.natCast_one])
    · obtain rfl : i = na := by omega
      exact Wv.V2f @Int.lt_irrefl @decide_false
structure Io (c:Ci):Prop where
 name:c.name.size≤140737488351232
 ni:c.ni≤140737488351232
 nl:c.nl≤140737488351232
 no:c.no≤140737488351232
 fi: ∀ i,i<c.ni→(c.fi i).size≤140737488351232
 fo: ∀ i,i<c.no→(c.fo i).size≤140737488351232
 ln: ∀ i,i<c.nl→(c.ln i).size≤140737488351232
 le: ∀ i,i<c.nl→okE (c.le i)
def lq (c:Ci) (most:Int) (i:Nat):Int:=gK (fun i x=>fD (c.le i) (x - (c.ln i).size)) (most - c.name.size) i
def OB (c:Ci) (most:Int):Bool:=rC c.ni c.fi most || (rC c.no c.fo most || (decide (most<(c.nl:Int)) || decide (lq c most c.nl<0)))
theorem Dw (c:Ci) (most:Int) (i:Nat):lq c most (i+1)=if lq c most i<0 then lq c most i else fD (c.le i) (lq c most i - (c.ln i).size):=rfl
variable {most:Int}
theorem YW {c:Ci} (h:Io c)  (h0:0≤most) (h1:most≤1000000): ∀ i,i≤c.nl→lq c most i≤1000000∧ -1000000000000000≤lq c most i:=fun i hi=>by
 have:=h.name;exact wV (by omega) (by omega) i fun j hj x q1 q2=>by
  have:=h.ln j (by omega);exact wW _ (h.le j (by omega)) _ 1000000 (by omega) (by omega) (by omega) (by omega)
theorem YX {c:Ci} (h:Io c)  (h0:0≤most): ∀ i,i≤c.nl→0≤lq c most i→lq c most i≤most∧ ∀ j,j<i→(bV (c.le j):Int)≤most:=by
 intro i;induction i with
 | zero=>exact fun _ q=>⟨by show most - c.name.size≤most;omega,fun j hj=>by omega⟩
 | succ i ih=>
  intro hi hq;rw [Dw] at hq ⊢;by_cases hn:lq c most i<0
  ·rw [if_pos hn] at hq;omega
  ·rw [if_neg hn] at hq ⊢;obtain ⟨g1,g2⟩:=ih (by omega) (by omega);have g3:=UC (c.le i) (h.le i (by omega)) _ hq;have g4:1≤bV (c.le i):=by cases c.le i with
    | nil=>exact Nat.le_refl _
    | mk k s n nl li na ar=>exact FY 1 _ _
   refine ⟨by omega,fun j hj=>?_⟩;by_cases e:j=i
   ·subst e;omega
   ·exact g2 j (by omega)
theorem aio {c:Ci} (h:Io c)  (h0:0≤most) (h1:most≤1000000) (hb:OB c most=false):okC c∧c.nl≤1000000∧ ∀ i,i<c.nl→(bV (c.le i):Int)≤most:=by
 unfold OB at hb;simp only [Bool.or_eq_false_iff,decide_eq_false_iff_not] at hb;obtain ⟨_,_,b3,b4⟩:=hb;have hl:=(YX h h0 c.nl (Nat.le_refl _) (by omega)).2;exact ⟨⟨h.name,h.ni,h.nl,h.no,h.fi,h.fo,h.ln,fun i hi=>⟨h.le i hi,by have:=hl i hi;omega⟩⟩,by omega,hl⟩
theorem OC (c:Ci) (h:Io c) (most:Int) (h0:0≤most) (h1:most≤1000000):TC Tryz.prog 16 [.g (ciC c), .v (.int .i64 most)] (.v (.bool (OB c most))):=by
 have hli:=YW h h0 h1;have hB:OB c most=(rC c.ni c.fi most || (rC c.no c.fo most || (decide (most<(c.nl:Int)) || decide (lq c most c.nl<0)))):=rfl;have T1:=KW c.ni c.fi most h.ni (by omega) h1;have T2:=KW c.no c.fo most h.no (by omega) h1;have hnm:=h.name;generalize rC c.ni c.fi most=b1 at*;generalize rC c.no c.fo most=b2 at*;generalize OB c most=B at*;refine Wv.TC.by 58 [0,1,2,28,6,5,37,4] [(7,16)] [.tmp 4] Tryz.func16 rfl rfl rfl ?clo ?_
 case clo=>simp only [Wv.BC]
 unfold ciC bT at*;refine Wv.W ?_;refine ak T1 rfl (UD Wv.c (.v _)) Wv.c ?_;cases b1 with
 | true=>exact Wv.V2f hB @Bool.true_or
 | false=>
 refine Wv.W ?_;refine ak T2 rfl (UD Wv.c (.v _)) Wv.c ?_;cases b2 with
 | true=>exact Wv.V3 hB @Bool.true_or @Bool.false_or
 | false=>
 by_cases h3:most<(c.nl:Int)
 ·rw [ah h3] at hB;simp (disch:=first|exact Wv.D|fail) only [Wv.B,simprocAttr,ah h3,hB,Bool.true_or,Bool.false_or]
 rw [aj h3,Bool.false_or,Bool.false_or,Bool.false_or] at hB;refine Wv.W1 (aj h3) ?_;refine aT (σ:=Nat) (fun i=>[(2, .ptr 0 0),(5, .v (.int .i64 (lq c most i))),(6, .v (.int .i64 i))])
  (fun i=>[some (.blk [.v (.string c.name), .t c.ni 1 (tab c.ni fun i=> .v (.string (c.fi i))), .t c.nl 6 c.lets, .t c.no 1 (tab c.no fun i=> .v (.string (c.fo i)))])])
  (fun i=>i≤c.nl) (fun i=>c.nl - i) 0 (Nat.zero_le _) rfl (by simp (disch:=first|exact Wv.D|fail) only [Wv.B,simprocAttr,lq,gK]) ?_
 intro i hi;have hai:=hli i hi;have hsu:=Dw c most i;have hst:lq c most i<0→lq c most c.nl=lq c most i:=fun q=>yB q hi
 by_cases hlt:i<c.nl
 ·have e1:(i:Int)<(c.nl:Int):=by omega
  generalize lq c most i=A at*;by_cases hneg:A<0
  ·have e2: ¬ 0≤A:=by omega
   have e3:=hst hneg;rw [e3] at hB;exact Wv.V3 (ah e1) (aj e2) hB
  ·have e2:0≤A:=by omega
   rw [if_neg hneg] at hsu;have hln:=h.ln i hlt;have T:=UE (c.le i) (h.le i hlt) (A - (c.ln i).size) (by omega) (by omega);have hG:=dh (c.le i);have hoy:=h.le i hlt;have hL:=iR c;obtain ⟨r,hd⟩: ∃ r,List.drop (i*6) c.lets=jg (c.ln i) (c.le i)++r:=bM (f:=fun i=>jg (c.ln i) (c.le i)) (fun i=>iQ _ _) hlt;unfold jg at hd;generalize hA':fD (c.le i) (A - (c.ln i).size)=A' at*;generalize hle:c.le i=y at*;obtain ⟨k',s',n',nl',li',na',ar',rfl⟩:=kG hoy;rw [cO] at T hG hd;simp only [List.cons_append,List.nil_append] at hd;refine Wv.W3 (ah e1) (ah e2) hd ?_;refine dZ T rfl (UD hG (.v _)) Wv.c ?_;refine Wv.W ?_;refine ay (i+1) (by omega) (by omega) rfl (Wv.V3 hsu @Int.natCast_add @Int.natCast_one)
 ·obtain rfl:i=c.nl:=by omega
  exact Wv.V3 @Int.lt_irrefl @decide_false hB
def yF (c:Ci) (i:Nat):Nat:=dU 0 (fun i=>yE (c.le i)) i
def Qx (p:Nat) (c:Ci):Bool:=decide ((0:Int)<(yF c c.nl:Nat)) && decide ((1000:Int)<((yF c c.nl:Nat):Int)*(if (600:Int)<(p:Int) then (600:Int) else (p:Int)))
theorem aej {c:Ci} (hc: ∀ i,i<c.nl→yE (c.le i)≤1000000): ∀ i,i≤c.nl→yF c i≤i*1000000:=by
 intro i;induction i with
 | zero=>
  intro _;have h3:yF c 0=0:=rfl;omega
 | succ i ih=>
  intro hi;have h1:=ih (by omega);have h2:=hc i (by omega);have h3:yF c (i+1)=yF c i+yE (c.le i):=rfl;rw [h3,Nat.add_mul,Nat.one_mul];exact Nat.add_le_add h1 h2
theorem UF (x:List AV) (hx: ∀ a,a∈x→Clo a) (p:Nat) (A0 A2 A3 A4 A5 A6:AV) (hxe:x=[A0, .v (.int .u32 p),A2,A3,A4,A5,A6]) (hp:p≤4294967295) (c:Ci) (h:Io c) (hnl:c.nl≤1000000) (hcn: ∀ i,i<c.nl→bV (c.le i)≤1000000):TC Tryz.prog 17 [.g x, .g (ciC c)] (.v (.bool (Qx p c))):=by
 subst hxe;have hle:=aej (c:=c) fun i hi=>Nat.le_trans (AL _) (hcn i hi)
 have hB:Qx p c=(decide ((0:Int)<(yF c c.nl:Nat)) && decide ((1000:Int)<((yF c c.nl:Nat):Int)*(if (600:Int)<(p:Int) then (600:Int) else (p:Int)))):=rfl;have hn2:c.nl*1000000≤1000000000000:=by omega
 generalize Qx p c=B at*;refine Wv.TC.by 34 [0,1,6,3,11,5,2,4] [] [.tmp 4] Tryz.func17 rfl rfl rfl ?clo ?_
 case clo=>simp only [Wv.BC]
 unfold ciC bT at*;refine Wv.W ?_;refine aT (σ:=Nat) (fun i=>[(2, .ptr 0 0),(3, .ptr 1 0),(5, .v (.int .i64 (yF c i:Nat))),(6, .v (.int .i64 i))])
  (fun i=>[some (.blk [A0, .v (.int .u32 p),A2,A3,A4,A5,A6]),some (.blk [.v (.string c.name), .t c.ni 1 (tab c.ni fun i=> .v (.string (c.fi i))), .t c.nl 6 c.lets, .t c.no 1 (tab c.no fun i=> .v (.string (c.fo i)))])])
  (fun i=>i≤c.nl) (fun i=>c.nl - i) 0 (Nat.zero_le _) rfl (by simp (disch:=first|exact Wv.D|fail) only [Wv.B,simprocAttr,yF,dU,Int.natCast_zero]) ?_
 intro i hi;have hai:=hle i hi;have hin:i*1000000≤1000000000000:=Nat.le_trans (Nat.mul_le_mul_right _ hi) hn2;have hsu:yF c (i+1)=yF c i+yE (c.le i):=rfl;by_cases hlt:i<c.nl
 ·have e1:(i:Int)<(c.nl:Int):=by omega
  have q3:=Nat.le_trans (AL (c.le i)) (hcn i hlt);have T:=OA (c.le i) (h.le i hlt) (hcn i hlt);have hG:=dh (c.le i);have hoy:=h.le i hlt;have hL:=iR c;obtain ⟨r,hd⟩: ∃ r,List.drop (i*6) c.lets=jg (c.ln i) (c.le i)++r:=bM (f:=fun i=>jg (c.ln i) (c.le i)) (fun i=>iQ _ _) hlt;unfold jg at hd;generalize yE (c.le i)=tt at*;generalize hle:c.le i=y at*;obtain ⟨k',s',n',nl',li',na',ar',rfl⟩:=kG hoy;rw [cO] at T hG hd;simp only [List.cons_append,List.nil_append] at hd;refine Wv.W2 (ah e1) hd ?_;refine ak T rfl (dM hG) Wv.c ?_;refine Wv.W ?_;refine ay (i+1) (by omega) (by omega) rfl (Wv.V3 hsu @Int.natCast_add @Int.natCast_one)
 ·obtain rfl:i=c.nl:=by omega
  generalize yF c c.nl=m at*;have hm:m≤1000000000000:=by omega
  by_cases h0:(0:Int)<(m:Int)
  ·have hmul:((m:Nat):Int)*(if (600:Int)<(p:Int) then (600:Int) else (p:Int))≤1000000000000*600:=Int.mul_le_mul (by omega) (by split<;>omega) (by split<;>omega) (by omega);have aoJ:0≤((m:Nat):Int)*(if (600:Int)<(p:Int) then (600:Int) else (p:Int)):=Int.mul_nonneg (by omega) (by split<;>omega);rw [ah h0,Bool.true_and] at hB;simp (disch:=first|exact Wv.D|fail) only [Wv.B,simprocAttr,Int.lt_irrefl,decide_false,ah h0,hB]
  ·rw [aj h0,Bool.false_and] at hB;simp (disch:=first|exact Wv.D|fail) only [Wv.B,simprocAttr,Int.lt_irrefl,decide_false,aj h0,hB]
end
section
open Go.ChangeShapes Go.WideShapes Go.ChangeAt Go.RowKit Go.Deep Wv
instance:Inhabited Ex:=⟨.nil⟩
instance:Inhabited ByteArray:=⟨⟨#[]⟩⟩
variable {α:Type}
theorem an6 {l:List α} (h:l.length=5): ∃ a b c d e,l=[a,b,c,d,e]:=by
 match l,h with
 | [a,b,c,d,e],_=>exact ⟨a,b,c,d,e,rfl⟩
theorem an7 {l:List α} (h:l.length=6): ∃ a b c d e f,l=[a,b,c,d,e,f]:=by
 match l,h with
 | [a,b,c,d,e,f],_=>exact ⟨a,b,c,d,e,f,rfl⟩
theorem an8 {l:List α} (h:l.length=4): ∃ a b c d,l=[a,b,c,d]:=by
 match l,h with
 | [a,b,c,d],_=>exact ⟨a,b,c,d,rfl⟩
variable {l:List AV}
theorem alZ {t:TypeId}  (h:Sh Tryz.prog t l):(t=46→ ∃ e,okE e∧l=exC e):=by
 have key:(t=46→ ∃ e,okE e∧l=exC e)∧(t=44→ ∃ (n:Nat) (f:Nat→Ex),n≤140737488351232∧(∀ i,i<n→okE (f i))∧l=[.t n 5 (dH n fun i=>exC (f i))]):=by
  induction h with
  | bool h=>exact ⟨fun e=>(by subst e;cases Tryz.underlying46.symm.trans h),fun e=>(by subst e;cases Tryz.underlying44.symm.trans h)⟩
  | int h=>exact ⟨fun e=>(by subst e;cases Tryz.underlying46.symm.trans h),fun e=>(by subst e;cases Tryz.underlying44.symm.trans h)⟩
  | str h=>exact ⟨fun e=>(by subst e;cases Tryz.underlying46.symm.trans h),fun e=>(by subst e;cases Tryz.underlying44.symm.trans h)⟩
  | @slice t e n f h hn hl hf ih=>
   refine ⟨fun e=>(by subst e;cases Tryz.underlying46.symm.trans h),fun e=>?_⟩;subst e;have:=Tryz.underlying44.symm.trans h;injection this with this;injection this with this;subst this;have hc:Tryz.prog.cellsOf 46=5:=by kernel_rfl
   have hb:1≤Tryz.prog.bytesOf 46:=Nat.le_of_ble_eq_true (by kernel_rfl);obtain ⟨g,hg⟩:=choose_lt (α:=Ex) fun i hi=>(ih i hi).1 rfl
   rw [hc];refine ⟨n,g,?_,fun i hi=>(hg i hi).1,?_⟩
   ·have h1:=Nat.mul_le_mul_left n hb;have h2:reachBytes=140737488351232:=rfl;omega
   ·rw [Dj fun i hi=>(hg i hi).2];rfl
  | @struct t fs l h hl hf ih=>
   refine ⟨fun e=>?_,fun e=>(by subst e;cases Tryz.underlying44.symm.trans h)⟩;subst e;have:=Tryz.underlying46.symm.trans h;injection this with this;injection this with this;subst this;have hc:Tryz.prog.cellsOf 46=5:=by kernel_rfl
   rw [hc] at hl;obtain ⟨a,b,c,d,e,rfl⟩:=an6 hl;have c1:Tryz.prog.cellsOf 3=1:=by kernel_rfl
   have c2:Tryz.prog.cellsOf 9=1:=by kernel_rfl
   have c3:Tryz.prog.cellsOf 2=1:=by kernel_rfl
   have c4:Tryz.prog.cellsOf 43=1:=by kernel_rfl
   have c5:Tryz.prog.cellsOf 44=1:=by kernel_rfl
   have h0:Sh Tryz.prog 3 (([a,b,c,d,e].drop 0).take (Tryz.prog.cellsOf 3)):=hf 0 _ rfl;have h1:Sh Tryz.prog 9 (([a,b,c,d,e].drop 1).take (Tryz.prog.cellsOf 9)):=hf 1 _ rfl;have h2:Sh Tryz.prog 2 (([a,b,c,d,e].drop 2).take (Tryz.prog.cellsOf 2)):=hf 2 _ rfl;have h3:Sh Tryz.prog 43 (([a,b,c,d,e].drop 3).take (Tryz.prog.cellsOf 43)):=hf 3 _ rfl;have h4:=(ih 4 _ rfl).2 rfl;have h4': ∃ (n:Nat) (f:Nat→Ex),n≤140737488351232∧(∀ i,i<n→okE (f i))∧([a,b,c,d,e].drop 4).take (Tryz.prog.cellsOf 44)=[.t n 5 (dH n fun i=>exC (f i))]:=h4;rw [c1] at h0;rw [c2] at h1;rw [c3] at h2;rw [c4] at h3;rw [c5] at h4';obtain ⟨z0,e0,_⟩:=oG Tryz.underlying3 h0;obtain ⟨s1,e1,w1⟩:=Ij Tryz.underlying9 h1;obtain ⟨z2,e2,_⟩:=oG Tryz.underlying2 h2;obtain ⟨n3,f3,e3,w3,_⟩:=Ik Tryz.underlying43 Tryz.underlying2 (Nat.le_of_ble_eq_true (by kernel_rfl)) (by kernel_rfl) h3;obtain ⟨n4,f4,w4,o4,e4⟩:=h4';have f0:[a]=[AV.v (.int .i64 z0)]:=e0;have f1:[b]=[AV.v (.string s1)]:=e1;have f2:[c]=[AV.v (.int .i64 z2)]:=e2;have f3':[d]=[AV.t n3 1 (tab n3 fun i=> .v (.int .i64 (f3 i)))]:=e3;have f4':[e]=[AV.t n4 5 (dH n4 fun i=>exC (f4 i))]:=e4;simp only [List.cons.injEq,and_true] at f0 f1 f2 f3' f4';subst f0 f1 f2 f3' f4';have hr:reachBytes=140737488351232:=rfl;exact ⟨.mk z0 s1 z2 n3 f3 n4 f4,⟨by omega,by omega,w4,o4⟩,rfl⟩
 exact key.1
def al0:List TypeId:=[3,2,9,43,26,46,44,49,27,29]
theorem aek:setB Tryz.prog al0=true:=by kernel_rfl
theorem aip (h:Sh Tryz.prog 49 l): ∃ s e,s.size≤140737488351232∧okE e∧l=jg s e:=by
 obtain ⟨hl,hf⟩:=tq Tryz.underlying49 h;have hc:Tryz.prog.cellsOf 49=6:=by kernel_rfl
 rw [hc] at hl;obtain ⟨a,b,c,d,e,f,rfl⟩:=an7 hl;have c2:Tryz.prog.cellsOf 9=1:=by kernel_rfl
 have c3:Tryz.prog.cellsOf 46=5:=by kernel_rfl
 have h0:Sh Tryz.prog 9 (([a,b,c,d,e,f].drop 0).take (Tryz.prog.cellsOf 9)):=hf 0 _ rfl;have h1:Sh Tryz.prog 46 (([a,b,c,d,e,f].drop 1).take (Tryz.prog.cellsOf 46)):=hf 1 _ rfl;rw [c2] at h0;rw [c3] at h1;obtain ⟨s,e0,w0⟩:=Ij Tryz.underlying9 h0;obtain ⟨x,o1,e1⟩:=alZ h1 rfl;have f0:[a]=[AV.v (.string s)]:=e0;have f1:[b,c,d,e,f]=exC x:=e1;simp only [List.cons.injEq,and_true] at f0;subst f0;have hr:reachBytes=140737488351232:=rfl;exact ⟨s,x,by omega,o1,by rw [f1];rfl⟩
theorem al5 (h:Sh Tryz.prog 29 l): ∃ c,Io c∧l=ciC c:=by
 obtain ⟨hl,hf⟩:=tq Tryz.underlying29 h;have hc:Tryz.prog.cellsOf 29=4:=by kernel_rfl
 rw [hc] at hl;obtain ⟨a,b,c,d,rfl⟩:=an8 hl;have c2:Tryz.prog.cellsOf 9=1:=by kernel_rfl
 have c3:Tryz.prog.cellsOf 26=1:=by kernel_rfl
 have c4:Tryz.prog.cellsOf 27=1:=by kernel_rfl
 have c5:Tryz.prog.cellsOf 49=6:=by kernel_rfl
 have h0:Sh Tryz.prog 9 (([a,b,c,d].drop 0).take (Tryz.prog.cellsOf 9)):=hf 0 _ rfl;have h1:Sh Tryz.prog 26 (([a,b,c,d].drop 1).take (Tryz.prog.cellsOf 26)):=hf 1 _ rfl;have h2:Sh Tryz.prog 27 (([a,b,c,d].drop 2).take (Tryz.prog.cellsOf 27)):=hf 2 _ rfl;have h3:Sh Tryz.prog 26 (([a,b,c,d].drop 3).take (Tryz.prog.cellsOf 26)):=hf 3 _ rfl;rw [c2] at h0;rw [c3] at h1 h3;rw [c4] at h2;obtain ⟨s,e0,w0⟩:=Ij Tryz.underlying9 h0;obtain ⟨n1,g1,e1,w1,w1'⟩:=Qv Tryz.underlying26 Tryz.underlying9 (Nat.le_of_ble_eq_true (by kernel_rfl)) (by kernel_rfl) h1;obtain ⟨n2,g2,e2,w2,q2⟩:=wM Tryz.underlying27 (Nat.le_of_ble_eq_true (by kernel_rfl)) h2;obtain ⟨n3,g3,e3,w3,w3'⟩:=Qv Tryz.underlying26 Tryz.underlying9 (Nat.le_of_ble_eq_true (by kernel_rfl)) (by kernel_rfl) h3;obtain ⟨L,hL⟩:=choose_lt (α:=ByteArray × Ex) (p:=fun i q=>q.1.size≤140737488351232∧okE q.2∧g2 i=jg q.1 q.2) fun i hi=>by
  obtain ⟨s,e,k1,k2,k3⟩:=aip (q2 i hi);exact ⟨(s,e),(⟨k1,k2,k3⟩:s.size≤140737488351232∧okE e∧g2 i=jg s e)⟩
 have f0:[a]=[AV.v (.string s)]:=e0;have f1:[b]=[AV.t n1 1 (tab n1 fun i=> .v (.string (g1 i)))]:=e1;have f2:[c]=[AV.t n2 (Tryz.prog.cellsOf 49) ((List.range n2).flatMap g2)]:=e2;have f3:[d]=[AV.t n3 1 (tab n3 fun i=> .v (.string (g3 i)))]:=e3;rw [c5,Dj fun i hi=>(hL i hi).2.2] at f2;simp only [List.cons.injEq,and_true] at f0 f1 f2 f3;subst f0 f1 f2 f3;have hr:reachBytes=140737488351232:=rfl;exact ⟨{name:=s,ni:=n1,fi:=g1,nl:=n2,ln:=fun i=>(L i).1,le:=fun i=>(L i).2,no:=n3,fo:=g3},
  ⟨by show s.size≤_;omega,by show n1≤_;omega,by show n2≤_;omega,by show n3≤_;omega,fun i hi=>by have:=w1' i hi;show (g1 i).size≤_;omega,fun i hi=>by have:=w3' i hi;show (g3 i).size≤_;omega,fun i hi=>(hL i hi).1,fun i hi=>(hL i hi).2.1⟩,rfl⟩
theorem abz {H:Type} {enc:TypeId × Value→H} {w:World} {base b0:Nat} {spare:Nat→Bool} {held:Bool} {r:Reach} {v:Value} {d:DataW H} {p:List MemPlace}
  (hv:Value.okWide Tryz.prog w r b0 29 v) (h:DataW.Trod enc Tryz.prog w base spare held 29 v d p) (hl:yj Tryz.prog 29 d): ∃ c,Io c∧Rep (zK w) (.g (ciC c)) v:=by
 simp only [Value.okWide,Tryz.underlying29] at hv;obtain ⟨cs,rfl,_,_⟩:=hv;obtain ⟨fuel,hf⟩:=h;obtain ⟨l,s1,s2,s3⟩:=reads aek fuel _ _ _ (by unfold al0;simp) hf hl;obtain ⟨c,hc,rfl⟩:=al5 s1;refine ⟨c,hc,?_⟩;have e:(Value.agg cs)= .agg cs.toList.toArray:=by simp
 rw [e];exact .g s2.1 s2.2
end
section
open Go.ChangeShapes Go.WideShapes Go.ChangeAt Go.RowKit Go.Deep Wv
def al6:List TypeId:=[3,4,2,43,59,74]
theorem ael:setB Tryz.prog al6=true:=by kernel_rfl
theorem aem {l:List AV} (h:Sh Tryz.prog 74 l): ∃ (m:Nat) (ln:Nat→Nat) (vs:Nat→Nat→Int) (a:Int) (b:Bool),l=[.t m 1 (tab m fun i=> .t (ln i) 1 (tab (ln i) fun j=> .v (.int .i64 (vs i j)))), .v (.int .i64 a), .v (.bool b)]∧
  m≤140737488351232∧(∀ i,i<m→ln i≤140737488351232)∧(-9223372036854775808≤a∧a≤9223372036854775807):=by
 obtain ⟨hl,hf⟩:=tq Tryz.underlying74 h;have hc:Tryz.prog.cellsOf 74=3:=by kernel_rfl
 rw [hc] at hl;obtain ⟨a,b,c,rfl⟩: ∃ a b c,l=[a,b,c]:=by
  match l,hl with
  | [a,b,c],_=>exact ⟨a,b,c,rfl⟩
 have c1:Tryz.prog.cellsOf 3=1:=by kernel_rfl
 have c2:Tryz.prog.cellsOf 4=1:=by kernel_rfl
 have c3:Tryz.prog.cellsOf 59=1:=by kernel_rfl
 have h0:Sh Tryz.prog 59 (([a,b,c].drop 0).take (Tryz.prog.cellsOf 59)):=hf 0 _ rfl;have h1:Sh Tryz.prog 3 (([a,b,c].drop 1).take (Tryz.prog.cellsOf 3)):=hf 1 _ rfl;have h2:Sh Tryz.prog 4 (([a,b,c].drop 2).take (Tryz.prog.cellsOf 4)):=hf 2 _ rfl;rw [c3] at h0;rw [c1] at h1;rw [c2] at h2;obtain ⟨m,ln,vs,e0,w0,w0',_⟩:=aef h0;obtain ⟨z1,e1,w1⟩:=oG Tryz.underlying3 h1;obtain ⟨z2,e2⟩:=aee Tryz.underlying4 h2;have f0:[a]=_:=e0;have f1:[b]=[AV.v (.int .i64 z1)]:=e1;have f2:[c]=[AV.v (.bool z2)]:=e2;simp only [List.cons.injEq,and_true] at f0 f1 f2;subst f0 f1 f2;exact ⟨m,ln,vs,z1,z2,rfl,w0,w0',YO w1⟩
theorem abA {H:Type} {enc:TypeId × Value→H} {w:World} {base b0:Nat} {spare:Nat→Bool} {held:Bool} {r:Reach} {v:Value} {d:DataW H} {p:List MemPlace}
  (hv:Value.okWide Tryz.prog w r b0 74 v) (h:DataW.Trod enc Tryz.prog w base spare held 74 v d p) (hl:yj Tryz.prog 74 d):
  ∃ (m:Nat) (ln:Nat→Nat) (vs:Nat→Nat→Int) (a:Int) (b:Bool),Rep (zK w) (.g [.t m 1 (tab m fun i=> .t (ln i) 1 (tab (ln i) fun j=> .v (.int .i64 (vs i j)))), .v (.int .i64 a), .v (.bool b)]) v∧
  m≤140737488351232∧(∀ i,i<m→ln i≤140737488351232)∧(-9223372036854775808≤a∧a≤9223372036854775807):=by
 simp only [Value.okWide,Tryz.underlying74] at hv;obtain ⟨cs,rfl,_,_⟩:=hv;obtain ⟨fuel,hf⟩:=h;obtain ⟨l,s1,s2,s3⟩:=reads ael fuel _ _ _ (by unfold al6;simp) hf hl;obtain ⟨m,ln,vs,a,b,rfl,hb⟩:=aem s1;refine ⟨m,ln,vs,a,b,?_,hb⟩;have e:(Value.agg cs)= .agg cs.toList.toArray:=by simp
 rw [e];exact .g s2.1 s2.2
end
section
structure Par where
 n:Int
 p:Nat
 r:Int
 ch:List Nat
 sp:Nat
 wt:Int
 er:Nat
end
section
def v2f:Nat→Nat→Nat
 | 0,_=>0
 | f+1,m=>if m % 2=0 then v2f f (m / 2)+1 else 0
def wX (m:Nat):Nat:=v2f 32 m
def iW (m:Nat):Nat:=m / 2 ^ wX m
theorem aiq: ∀ (f t d:Nat),t<f→d % 2=1→v2f f (d*2 ^ t)=t:=by
 intro f;induction f with
 | zero=>intro t d h;omega
 | succ f ih=>
  intro t d h hd;cases t with
  | zero=>simp [v2f,hd]
  | succ t=>
   have h1:d*2 ^ (t+1)=2*(d*2 ^ t):=by rw [Nat.pow_succ];rw [←Nat.mul_assoc,Nat.mul_comm]
   have h2:d*2 ^ (t+1) % 2=0:=by rw [h1];omega
   have h3:d*2 ^ (t+1) / 2=d*2 ^ t:=by rw [h1];omega
   rw [v2f,if_pos h2,h3,ih t d (by omega) hd]
variable {d:Nat}
theorem KX {m t:Nat} (ht:t<32) (hd:d % 2=1) (h:d*2 ^ t=m):wX m=t∧iW m=d:=by
 have h1:wX m=t:=by rw [←h];exact aiq 32 t d ht hd
 refine ⟨h1,?_⟩;unfold iW;rw [h1, ←h,Nat.mul_div_cancel _ (Nat.pow_pos (by omega))]
def lu (n:Nat):Nat→Nat→Bool
 | _,0=>false
 | x,k+1=>x==n - 1 || lu n (x*x % n) k
def uY (a e n:Nat):Nat:=a ^ e % n
def SP (a n:Nat):Bool:=uY (a % n) (iW (n - 1)) n==1 || lu n (uY (a % n) (iW (n - 1)) n) (wX (n - 1))
variable {n x:Nat}
theorem afL {a t:Nat} (ht:t<32) (hd:d % 2=1) (h:d*2 ^ t=n - 1) (hx:x=uY (a % n) d n):SP a n=(x==1 || lu n x t):=by
 obtain ⟨h1,h2⟩:=KX ht hd h;unfold SP;rw [h1,h2,hx]
theorem yG {k:Nat} (h:x=n - 1):lu n x (k+1)=true:=by simp [lu,h]
theorem uZ {k:Nat} (h:x≠n - 1):lu n x (k+1)=lu n (x*x % n) k:=by simp [lu,h]
theorem Dx {t m:Nat} (hm:m<4294967296) (hd:0<d) (h:d*2 ^ t=m):t<32:=by
 apply Classical.byContradiction;intro hc;have h1:2 ^ 32≤2 ^ t:=Nat.pow_le_pow_right (by omega) (by omega);have h2:1*2 ^ t≤d*2 ^ t:=Nat.mul_le_mul_right _ hd;have h3:(2:Nat) ^ 32=4294967296:=by decide
 omega
def smalls:List Nat:=[2,3,5,7,11,13,61]
def au (n:Nat):Bool:=
 if n<2 then false else match smalls.find? (fun p=>n % p==0) with
  | some p=>n==p
  | none=>SP 2 n && (SP 7 n && SP 61 n)
def aI (n:Nat):Bool:=
 n==2 || n==7 || n==61 || (decide (2<n) && decide (n % 2=1) && decide (0<n % 7) && decide (0<n % 61) && SP 2 n && SP 7 n && SP 61 n)
end
section
def jl (n:Int):Bool:=n==4 || n==8 || n==16 || n==32
variable {n:Int}
theorem nO (h:jl n=true):n=4∨n=8∨n=16∨n=32:=by
 unfold jl at h;simp at h;omega
def iH (pr:Nat→Bool) (n:Int) (p:Nat) (e:Int):Nat:=
 if 3≤p∧p<65536∧pr p=true∧p % (2*n).toNat=1∧1≤e∧p ^ e.toNat≤2147483647 then p ^ e.toNat else 0
theorem Ip (pr:Nat→Bool) (n:Int) (p:Nat) (e:Int):iH pr n p e≤2147483647:=by
 unfold iH;split
 ·rename_i h;exact h.2.2.2.2.2
 ·omega
variable {e:Int}{p:Nat}{pr:Nat→Bool}
theorem jr (h: ¬ (3≤p∧p<65536∧pr p=true∧p % (2*n).toNat=1∧1≤e)):iH pr n p e=0:=by
 unfold iH;rw [if_neg];intro hc;exact h ⟨hc.1,hc.2.1,hc.2.2.1,hc.2.2.2.1,hc.2.2.2.2.1⟩
theorem KY {k:Nat} (hp:3≤p) (hk:(k:Int)≤e) (h:2147483647<p ^ k):iH pr n p e=0:=by
 unfold iH;rw [if_neg];intro hc;have:p ^ k≤p ^ e.toNat:=Nat.pow_le_pow_right (by omega) (by omega);omega
theorem KZ {k:Nat} (h:3≤p∧p<65536∧pr p=true∧p % (2*n).toNat=1∧1≤e) (hk:(k:Int)=e) (hb:p ^ k≤2147483647):iH pr n p e=p ^ k:=by
 have:e.toNat=k:=by omega
 unfold iH;rw [this,if_pos ⟨h.1,h.2.1,h.2.2.1,h.2.2.2.1,h.2.2.2.2,hb⟩]
def jE (pr:Nat→Bool) (s q:Nat):Bool:=
 decide (1073741824<q) && (decide (q≤2147483647) && (decide (q % s=1) && pr q))
def Par.t (pr:Nat→Bool) (x:Par):Nat:=iH pr x.n x.p x.r
def wtB (x:Par):Bool:=decide (1≤x.wt∧x.wt≤x.n∧x.er≤64)
def pY (n:Nat):Bool:=decide (1≤n∧n≤24)
def ng (pr:Nat→Bool) (s sp q:Nat):Bool:=!(decide (q<sp) && jE pr s q)
def stepOf (pr:Nat→Bool) (x:Par):Nat:=(2*x.n).toNat*x.t pr
def okB (pr:Nat→Bool) (x:Par):Bool:=
 jl x.n && (decide (0<x.t pr) && (pY x.ch.length && (wtB x && (jE pr (stepOf pr x) x.sp && (!(x.ch.any (ng pr (stepOf pr x) x.sp)) && decide x.ch.Nodup)))))
def chk (pr:Nat→Bool) (x:Par):Int:=if okB pr x then 0 else 2
end
section
theorem OD (x k:Nat):(x==k)=Nat.beq x k:=by
 rw [Bool.eq_iff_iff,beq_iff_eq,Nat.beq_eq]
def force {α:Type} (n:Nat) (f:Nat→α):α:=Nat.rec (f 0) (fun k _=>f (k+1)) n
theorem force_eq {α:Type} (n:Nat) (f:Nat→α):force n f=f n:=by cases n<;>rfl
def pwk (n:Nat) (fuel:Nat):Nat→Nat→Nat→Nat:=
 Nat.rec (fun _ _ out=>out) (fun _ ih a e out=>cond (Nat.beq e 0) out
  (force (a*a % n) fun a2=>force (e / 2) fun e2=>force (cond (Nat.beq (e % 2) 1) (out*a % n) out) fun o2=>ih a2 e2 o2)) fuel
theorem air (n:Nat): ∀ (fuel a e out:Nat),e<2 ^ fuel→out<n→pwk n fuel a e out=out*a ^ e % n:=by
 intro fuel;induction fuel with
 | zero=>
  intro a e out he ho;have:e=0:=by simpa using he
  subst this;show out=_;rw [Nat.pow_zero,Nat.mul_one,Nat.mod_eq_of_lt ho]
 | succ f ih=>
  intro a e out he ho;have e1:pwk n (f+1) a e out=cond (Nat.beq e 0) out (pwk n f (a*a % n) (e / 2) (cond (Nat.beq (e % 2) 1) (out*a % n) out)):=by
   show cond _ _ (force _ _)=_;rw [force_eq,force_eq,force_eq];rfl
  rw [e1];cases h0:Nat.beq e 0 with
  | true=>
   have:e=0:=Nat.eq_of_beq_eq_true h0;subst this;show out=_;rw [Nat.pow_zero,Nat.mul_one,Nat.mod_eq_of_lt ho]
  | false=>
   have he2:e / 2<2 ^ f:=by rw [Nat.pow_succ] at he;omega
   show pwk n f (a*a % n) (e / 2) _=_;cases h1:Nat.beq (e % 2) 1 with
   | true=>
    have h:e % 2=1:=Nat.eq_of_beq_eq_true h1;show pwk n f (a*a % n) (e / 2) (out*a % n)=_;rw [ih _ _ _ he2 (Nat.mod_lt _ (by omega))];have h2:a ^ e=a*(a*a) ^ (e / 2):=by
     conv=>lhs;rw [show e=2*(e / 2)+1 by omega]
     rw [Nat.pow_succ,Nat.pow_mul,Nat.pow_two,Nat.mul_comm]
    rw [h2, ←Nat.mul_assoc];simp [Nat.mul_mod,Nat.pow_mod]
   | false=>
    have h:e % 2=0:=by have:=Nat.ne_of_beq_eq_false h1;omega
    show pwk n f (a*a % n) (e / 2) out=_;rw [ih _ _ _ he2 ho];have h2:a ^ e=(a*a) ^ (e / 2):=by
     conv=>lhs;rw [show e=2*(e / 2) by omega]
     rw [Nat.pow_mul,Nat.pow_two]
    rw [h2];simp [Nat.mul_mod,Nat.pow_mod]
def aen (n fuel:Nat):Nat→Bool:=
 Nat.rec (fun _=>false) (fun _ ih x=>cond (Nat.beq x (n - 1)) true (force (x*x % n) fun y=>ih y)) fuel
theorem aeo (n:Nat): ∀ (k x:Nat),aen n k x=lu n x k:=by
 intro k;induction k with
 | zero=>intro x;rfl
 | succ k ih=>
  intro x;have e1:aen n (k+1) x=cond (Nat.beq x (n - 1)) true (aen n k (x*x % n)):=by
   show cond _ _ (force _ _)=_;rw [force_eq];rfl
  rw [e1,ih,lu];rw [OD];cases Nat.beq x (n - 1)<;>rfl
def SPk (a n:Nat):Bool:=
 force (wX (n - 1)) fun t=>force ((n - 1) / 2 ^ t) fun d=>force (pwk n 32 (a % n) d 1) fun x=>cond (Nat.beq x 1) true (aen n t x)
theorem yH (a n:Nat) (hn:2≤n) (hn2:n<4294967296):SP a n=SPk a n:=by
 unfold SPk;rw [force_eq,force_eq,force_eq,aeo];have hd:(n - 1) / 2 ^ wX (n - 1)=iW (n - 1):=rfl;have hlt:iW (n - 1)<2 ^ 32:=by
  rw [←hd];have:=Nat.div_le_self (n - 1) (2 ^ wX (n - 1));have h3:(2:Nat) ^ 32=4294967296:=by decide
  omega
 rw [hd,air n 32 (a % n) _ 1 hlt (by omega),Nat.one_mul];unfold SP uY;rw [OD];cases Nat.beq ((a % n) ^ iW (n - 1) % n) 1<;>rfl
def Qy (n:Nat):Bool:=
 cond (Nat.beq n 2) true (cond (Nat.beq n 7) true (cond (Nat.beq n 61) true
  (cond (Nat.ble n 2) false (cond (Nat.beq (n % 2) 0) false (cond (Nat.beq (n % 7) 0) false (cond (Nat.beq (n % 61) 0) false (cond (SPk 2 n) (cond (SPk 7 n) (SPk 61 n) false) false)))))))
theorem OE (n:Nat) (hn2:n<4294967296):aI n=Qy n:=by
 unfold aI Qy;by_cases h:2<n
 ·rw [yH 2 n (by omega) hn2,yH 7 n (by omega) hn2,yH 61 n (by omega) hn2];rw [OD,OD,OD];have e1:Nat.ble n 2=false:=by
   cases hb:Nat.ble n 2 with
   | false=>rfl
   | true=>have:=Nat.le_of_ble_eq_true hb;omega
  have m2:decide (n % 2=1)=!(Nat.beq (n % 2) 0):=by
   have e:Nat.beq (n % 2) 0=decide (n % 2=0):=by rw [←OD,Bool.eq_iff_iff,beq_iff_eq,decide_eq_true_eq]
   rw [e,Bool.eq_iff_iff,decide_eq_true_eq,Bool.not_eq_true',decide_eq_false_iff_not];omega
  have mk: ∀ k:Nat,decide (0<n % k)=!(Nat.beq (n % k) 0):=by
   intro k;have e:Nat.beq (n % k) 0=decide (n % k=0):=by rw [←OD,Bool.eq_iff_iff,beq_iff_eq,decide_eq_true_eq]
   rw [e,Bool.eq_iff_iff,decide_eq_true_eq,Bool.not_eq_true',decide_eq_false_iff_not];omega
  rw [e1,m2,mk,mk,ah h];cases Nat.beq n 2<;>cases Nat.beq n 7<;>cases Nat.beq n 61<;>cases Nat.beq (n % 2) 0<;>cases Nat.beq (n % 7) 0<;>cases Nat.beq (n % 61) 0<;>cases SPk 2 n<;>cases SPk 7 n<;>cases SPk 61 n<;>rfl
 ·have e1:Nat.ble n 2=true:=Nat.ble_eq_true_of_le (by omega);rcases (show n=0∨n=1∨n=2 by omega) with rfl | rfl | rfl<;>rfl
end
section
def Pr (p:Nat):Prop:=2≤p∧ ∀ m,m∣p→m=1∨m=p
theorem F5: ∀ n,2≤n→ ∃ p,Pr p∧p∣n:=by
 intro n;induction n using Nat.strongRecOn with
 | ind n ih=>
  intro h;by_cases hp:Pr n
  ·exact ⟨n,hp,Nat.dvd_refl n⟩
  ·have: ∃ m,m∣n∧m≠1∧m≠n:=by
    apply Classical.byContradiction;intro hc;apply hp;refine ⟨h,fun m hm=>?_⟩;apply Classical.byContradiction;intro hc2;exact hc ⟨m,hm,fun e=>hc2 (.inl e),fun e=>hc2 (.inr e)⟩
   obtain ⟨m,hm,h1,h2⟩:=this;have hle:=Nat.le_of_dvd (by omega) hm;have h0:m≠0:=by intro e;subst e;have:=Nat.eq_zero_of_zero_dvd hm;omega
   obtain ⟨p,hpp,hpm⟩:=ih m (by omega) (by omega);exact ⟨p,hpp,Nat.dvd_trans hpm hm⟩
variable {a p:Nat}
theorem Pr.coprime (hp:Pr p) (h: ¬ p∣a):Nat.gcd p a=1:=by
 rcases hp.2 _ (Nat.gcd_dvd_left p a) with h1 | h1
 ·exact h1
 ·exact absurd (h1▸Nat.gcd_dvd_right p a) h
theorem Pr.vg {b:Nat} (hp:Pr p) (h:p∣a*b) (ha: ¬ p∣a):p∣b:=by
 have:Nat.Coprime p a:=hp.coprime ha;exact this.dvd_of_dvd_mul_left h
def C:Nat→Nat→Nat
 | _,0=>1
 | 0,_+1=>0
 | n+1,k+1=>C n k+C n (k+1)
theorem Dy (n:Nat):C n 0=1:=by cases n<;>rfl
theorem aep: ∀ n k,n<k→C n k=0:=by
 intro n;induction n with
 | zero=>intro k h;cases k with
  | zero=>omega
  | succ k=>rfl
 | succ n ih=>intro k h;cases k with
  | zero=>omega
  | succ k=>rw [C,ih k (by omega),ih (k+1) (by omega)]
theorem ais: ∀ n,C n n=1:=by
 intro n;induction n with
 | zero=>rfl
 | succ n ih=>rw [C,ih,aep n (n+1) (by omega)]
theorem YZ: ∀ n k,(k+1)*C (n+1) (k+1)=(n+1)*C n k:=by
 intro n;induction n with
 | zero=>intro k;cases k with
  | zero=>rfl
  | succ k=>rw [aep 0 (k+1) (by omega),aep (0+1) (k+1+1) (by omega)];simp
 | succ n ih=>intro k;cases k with
  | zero=>
   have:=ih 0;have e:C (n+1+1) (0+1)=C (n+1) 0+C (n+1) (0+1):=rfl;rw [e,Dy];rw [Dy] at this;omega
  | succ j=>
   have h1:=ih j;have h2:=ih (j+1);rw [C,Nat.mul_add,h2];have h3:C (n+1) (j+1)=C n j+C n (j+1):=rfl;have e1:(j+1+1)*C (n+1) (j+1)=(n+1)*C n j+C (n+1) (j+1):=by rw [Nat.succ_mul,h1]
   rw [e1,h3,show (n+1+1)*(C n j+C n (j+1))=(n+1)*(C n j+C n (j+1))+(C n j+C n (j+1)) from Nat.succ_mul _ _,Nat.mul_add];omega
def S (n x:Nat):Nat→Nat
 | 0=>0
 | m+1=>S n x m+C n m*x ^ m
theorem al7 (n x:Nat): ∀ m,S (n+1) x (m+1)=S n x (m+1)+x*S n x m:=by
 intro m;induction m with
 | zero=>simp [S,Dy]
 | succ m ih=>
  have e1:S (n+1) x (m+1+1)=S (n+1) x (m+1)+C (n+1) (m+1)*x ^ (m+1):=rfl;have e2:S n x (m+1+1)=S n x (m+1)+C n (m+1)*x ^ (m+1):=rfl;have e3:S n x (m+1)=S n x m+C n m*x ^ m:=rfl;have e4:C (n+1) (m+1)=C n m+C n (m+1):=rfl;have e5:x*(C n m*x ^ m)=C n m*x ^ (m+1):=by rw [Nat.pow_succ,Nat.mul_left_comm,Nat.mul_comm x (x ^ m)]
  rw [e1,ih,e2,e4,Nat.add_mul];conv=>rhs;rw [e3,Nat.mul_add,e5]
  rw [e3];omega
theorem al8 (x:Nat): ∀ n,(x+1) ^ n=S n x (n+1):=by
 intro n;induction n with
 | zero=>simp [S,Dy]
 | succ n ih=>
  have e:S n x (n+1+1)=S n x (n+1):=by
   show S n x (n+1)+C n (n+1)*x ^ (n+1)=_;rw [aep n (n+1) (by omega)];omega
  rw [al7,e,Nat.pow_succ,ih,Nat.mul_add,Nat.mul_one,Nat.mul_comm x];omega
theorem Pr.al9 (hp:Pr p) {k:Nat} (h0:0<k) (h1:k<p):p∣C p k:=by
 obtain ⟨n,rfl⟩: ∃ n,p=n+1:=⟨p - 1,by omega⟩
 obtain ⟨j,rfl⟩: ∃ j,k=j+1:=⟨k - 1,by omega⟩
 have h:=YZ n j;have hd:n+1∣(j+1)*C (n+1) (j+1):=by rw [h];exact Nat.dvd_mul_right _ _
 refine hp.vg hd ?_;intro hc;have:=Nat.le_of_dvd (by omega) hc;omega
theorem Pr.ama (hp:Pr p) (x:Nat): ∀ m,m+1≤p→S p x (m+1) % p=1 % p:=by
 intro m;induction m with
 | zero=>intro _;simp [S,Dy]
 | succ m ih=>
  intro h;show (S p x (m+1)+C p (m+1)*x ^ (m+1)) % p=_;obtain ⟨c,hc⟩:=hp.al9 (k:=m+1) (by omega) (by omega);rw [hc,Nat.mul_assoc,Nat.add_mul_mod_self_left,ih (by omega)]
theorem Pr.Y1 (hp:Pr p) (x:Nat):(x+1) ^ p % p=(x ^ p+1) % p:=by
 rw [al8];show (S p x p+C p p*x ^ p) % p=_;obtain ⟨m,hm⟩: ∃ m,p=m+1:=⟨p - 1,by have:=hp.1;omega⟩
 have h:=hp.ama x m (by omega);rw [←hm] at h;rw [ais,Nat.one_mul,Nat.add_mod,h, ←Nat.add_mod,Nat.add_comm]
theorem Pr.little (hp:Pr p): ∀ a,a ^ p % p=a % p:=by
 intro a;induction a with
 | zero=>rw [Nat.zero_pow (by have:=hp.1;omega)]
 | succ a ih=>rw [hp.Y1,Nat.add_mod,ih, ←Nat.add_mod]
variable {m x:Nat}
theorem Dz (hm:2≤m) (hx:1≤x) (h:m∣x - 1):x % m=1:=by
 obtain ⟨c,hc⟩:=h;have:x=1+m*c:=by omega
 rw [this,Nat.add_mul_mod_self_left];exact Nat.mod_eq_of_lt (by omega)
theorem DC (h:x % m=1):m∣x - 1:=by
 have h2:=Nat.div_add_mod x m;rw [h] at h2;exact ⟨x / m,by omega⟩
theorem Pr.Y2 (hp:Pr p)  (ha: ¬ p∣a):a ^ (p - 1) % p=1:=by
 have h2:=hp.1;have ha0:0<a:=by
  rcases Nat.eq_zero_or_pos a with h | h
  ·subst h;exact absurd (Nat.dvd_zero p) ha
  ·exact h
 have h1:1≤a ^ (p - 1):=Nat.pow_pos ha0;apply Dz h2 h1;refine hp.vg (a:=a) ?_ ha;have e:a*(a ^ (p - 1) - 1)=a ^ p - a:=by
  rw [Nat.mul_sub,Nat.mul_one];congr 1;rw [Nat.mul_comm, ←Nat.pow_succ];congr 1;omega
 rw [e];exact Nat.dvd_of_mod_eq_zero (Nat.sub_mod_eq_zero_of_mod_eq (hp.little a))
theorem gX (hm:2≤m) (h:a ^ x % m=1) (c:Nat):a ^ (x*c) % m=1:=by
 rw [Nat.pow_mul,Nat.pow_mod,h,Nat.one_pow];exact Nat.mod_eq_of_lt (by omega)
variable {y:Nat}
theorem jF (hm:2≤m) (h:a ^ x % m=1) (hd:x∣y):a ^ y % m=1:=by
 obtain ⟨c,rfl⟩:=hd;exact gX hm h c
theorem zL (h:a ^ x % m=1) (h2:a ^ (x+y) % m=1):a ^ y % m=1:=by
 rw [Nat.pow_add,Nat.mul_mod,h,Nat.one_mul,Nat.mod_mod] at h2;exact h2
theorem tC (hm:2≤m) (x y:Nat):a ^ x % m=1→a ^ y % m=1→a ^ Nat.gcd x y % m=1:=by
 induction x,y using Nat.gcd.induction with
 | H0 n=>intro _ h;rw [Nat.gcd_zero_left];exact h
 | H1 x y hx ih=>
  intro h1 h2;rw [Nat.gcd_rec];refine ih ?_ h1;have e:y=x*(y / x)+y % x:=(Nat.div_add_mod y x).symm;rw [e] at h2;exact zL (gX hm h1 _) h2
theorem Y3: ∀ f m,0<m→m<2 ^ f→ ∃ d,d % 2=1∧d*2 ^ v2f f m=m∧v2f f m<f:=by
 intro f;induction f with
 | zero=>intro m h0 h1;simp at h1;omega
 | succ f ih=>
  intro m h0 h1;by_cases hev:m % 2=0
  ·obtain ⟨d,hd,he,hlt⟩:=ih (m / 2) (by omega) (by rw [Nat.pow_succ] at h1;omega);have hv:v2f (f+1) m=v2f f (m / 2)+1:=by rw [v2f,if_pos hev]
   refine ⟨d,hd,?_,by omega⟩;rw [hv,Nat.pow_succ, ←Nat.mul_assoc,he];omega
  ·have hv:v2f (f+1) m=0:=by rw [v2f,if_neg hev]
   exact ⟨m,by omega,by rw [hv];simp,by omega⟩
theorem DF       (h0 : 0 < m) (h1 : m < 4294967296) : iW   m % 2 = 1 ∧ iW   m * 2 ^ wX   m = m := by
  obtain ⟨d, hd, he, hlt⟩ := Y3       32 m h0 (by have : (2 : Nat) ^ 32 = 4294967296 := by decide
                                                  omega)
  obtain ⟨h1, h2⟩ := KX       (show v2f 32 m < 32 from hlt) hd he;rw [h2];exact ⟨hd, by rw [h1]; exact he⟩
variable {n:Nat}
theorem OG {e:Nat}: ∀ k,lu n (a ^ e % n) k=true→ ∃ i,i<k∧a ^ (e*2 ^ i) % n=n - 1:=by
 intro k;induction k generalizing e with
 | zero=>intro h;simp [lu] at h
 | succ k ih=>
  intro h;simp only [lu,Bool.or_eq_true,beq_iff_eq] at h;rcases h with h | h
  ·exact ⟨0,by omega,by simpa using h⟩
  ·have e2:(a ^ e % n)*(a ^ e % n) % n=a ^ (e*2) % n:=by
    rw [←Nat.mul_mod, ←Nat.pow_add,show e+e=e*2 by omega]
   rw [e2] at h;obtain ⟨i,hi,hh⟩:=ih h;exact ⟨i+1,by omega,by rw [Nat.pow_succ,Nat.mul_comm (2 ^ i) 2, ←Nat.mul_assoc];exact hh⟩
theorem wY (h:SP a n=true):a ^ iW (n - 1) % n=1∨ ∃ i,i<wX (n - 1)∧a ^ (iW (n - 1)*2 ^ i) % n=n - 1:=by
 unfold SP uY at h;rw [←Nat.pow_mod] at h;simp only [Bool.or_eq_true,beq_iff_eq] at h;rcases h with h | h
 ·exact .inl h
 ·exact .inr (OG _ h)
variable {q:Nat}
theorem rD (hq:2≤q) (hd:q∣n) (h:x % n=1):x % q=1:=by
 have h1:x % n % q=x % q:=Nat.mod_mod_of_dvd x hd;rw [h] at h1;rw [←h1];exact Nat.mod_eq_of_lt (by omega)
theorem rE (hq:2≤q) (hd:q∣n) (hn:0<n) (h:x % n=n - 1):x % q=q - 1:=by
 have h1:x % n % q=x % q:=Nat.mod_mod_of_dvd x hd;rw [h] at h1;rw [←h1];obtain ⟨k,rfl⟩:=hd;have hk:0<k:=Nat.pos_of_mul_pos_left hn;have e:q*k - 1=q - 1+q*(k - 1):=by
  obtain ⟨j,rfl⟩: ∃ j,k=j+1:=⟨k - 1,by omega⟩
  rw [Nat.mul_add,Nat.mul_one,Nat.add_sub_cancel];omega
 rw [e,Nat.add_mul_mod_self_left];exact Nat.mod_eq_of_lt (by omega)
def sg (neg:Bool) (q:Nat):Nat:=cond neg (q - 1) 1
theorem Iq {neg:Bool} (hq:2≤q) (hd:q∣n) (hn:0<n) (h:x % n=sg neg n):x % q=sg neg q:=by
 cases neg with
 | true=>exact rE hq hd hn h
 | false=>exact rD hq hd h
theorem DI (hq:2≤q) (h:x % q=q - 1):x*x % q=1:=by
 rw [Nat.mul_mod,h];obtain ⟨j,rfl⟩: ∃ j,q=j+2:=⟨q - 2,by omega⟩
 have e:(j+2 - 1)*(j+2 - 1)=1+(j+2)*j:=by
  show (j+1)*(j+1)=_;rw [Nat.add_mul,Nat.mul_add];simp [Nat.mul_add,Nat.add_mul];omega
 rw [e,Nat.add_mul_mod_self_left];exact Nat.mod_eq_of_lt (by omega)
theorem aer {o:Nat} (hq:2≤q) (h:x % q=q - 1) (ho:o % 2=1):x ^ o % q=q - 1:=by
 have e:o=2*(o / 2)+1:=by omega
 rw [e,Nat.pow_succ,Nat.pow_mul,Nat.pow_two,Nat.mul_mod,Nat.pow_mod,DI hq h,Nat.one_pow,h,Nat.mod_eq_of_lt (show 1<q by omega),Nat.one_mul];exact Nat.mod_eq_of_lt (by omega)
theorem transfer {b d o s:Nat} {neg:Bool} (hp:Pr q) (hq:3≤q) (hd:d % 2=1) (ho:o % 2=1) (hy:o*2 ^ s=y) (h1:b ^ d % q=sg neg q) (h2:b ^ y % q=1):b ^ o % q=sg neg q:=by
 have hq2:2≤q:=hp.1;have hdvd:Nat.gcd y d∣o:=by
  rw [←hy];have hg:=Nat.gcd_mul_right_dvd_mul_gcd d o (2 ^ s);have h3:Nat.gcd d (2 ^ s)=1:=by
   have:Nat.Coprime d (2 ^ s):=Nat.Coprime.pow_right s (by
    have:Nat.gcd 2 d=1:=by
     rw [Nat.gcd_rec,hd];rfl
    show Nat.gcd d 2=1;rw [Nat.gcd_comm];exact this)
   exact this
  rw [h3,Nat.mul_one] at hg;rw [Nat.gcd_comm];exact Nat.dvd_trans hg (Nat.gcd_dvd_right d o)
 cases neg with
 | false=>exact jF hq2 (tC hq2 y d h2 h1) hdvd
 | true=>
  have h1':b ^ d % q=q - 1:=h1;have hdd:b ^ (d*2) % q=1:=by
   rw [Nat.pow_mul,Nat.pow_two];exact DI hq2 h1'
  have amb:Nat.gcd y (d*2)∣o*2:=by
   have hg:=Nat.gcd_mul_right_dvd_mul_gcd y d 2;exact Nat.dvd_trans hg (Nat.mul_dvd_mul hdvd (Nat.gcd_dvd_right y 2))
  have h4:b ^ (o*2) % q=1:=jF hq2 (tC hq2 y (d*2) h2 hdd) amb;show b ^ o % q=q - 1;have hne:b ^ o % q≠1:=by
   intro hc;have h5:b ^ (o*d) % q=1:=gX hq2 hc d;rw [Nat.mul_comm,Nat.pow_mul] at h5;have h6:=aer hq2 h1' ho;omega
  have hpos:1≤b ^ o:=by
   rcases Nat.eq_zero_or_pos (b ^ o) with h | h
   ·rw [Nat.pow_mul,h] at h4;simp at h4
   ·exact h
  have hdv:q∣(b ^ o - 1)*(b ^ o+1):=by
   have h5:=DC h4;have e:b ^ (o*2) - 1=(b ^ o - 1)*(b ^ o+1):=by
    rw [Nat.pow_mul,Nat.pow_two];obtain ⟨z,hz⟩: ∃ z,b ^ o=z+1:=⟨b ^ o - 1,by omega⟩
    rw [hz];simp [Nat.mul_add,Nat.add_mul]
   rwa [←e]
  have hn1: ¬ q∣b ^ o - 1:=fun hc=>hne (Dz hq2 hpos hc)
  obtain ⟨c,hc⟩:=hp.vg hdv hn1;have hc0:0<c:=by
   rcases Nat.eq_zero_or_pos c with h | h
   ·rw [h] at hc;simp at hc
   ·exact h
  obtain ⟨j,rfl⟩: ∃ j,c=j+1:=⟨c - 1,by omega⟩
  have e:b ^ o=q - 1+q*j:=by rw [Nat.mul_add,Nat.mul_one] at hc;omega
  rw [e,Nat.add_mul_mod_self_left];exact Nat.mod_eq_of_lt (by omega)
end
section
theorem Ir {pr:Nat→Bool} {x:Par} (h:okB pr x=false):chk pr x=2:=by unfold chk;rw [h];rfl
theorem Y4 {pr:Nat→Bool} {x:Par} (h:okB pr x=true):chk pr x=0:=by unfold chk;rw [h];rfl
end
section
def Bd (M:Int) (l:List Int):Prop:= ∀ z,z∈l→ -M≤z∧z≤M
variable {M:Int}{l:List Int}
theorem Bd.mono {M':Int}  (h:Bd M l) (hM:M≤M'):Bd M' l:=fun z hz=>by have:=h z hz;omega
theorem Bd.getD (h:Bd M l) (hM:0≤M) (i:Nat): -M≤l.getD i 0∧l.getD i 0≤M:=by
 rw [List.getD_eq_getElem?_getD];by_cases hi:i<l.length
 ·rw [List.getElem?_eq_getElem hi];exact h _ (List.getElem_mem hi)
 ·rw [List.getElem?_eq_none (by omega)];show -M≤0∧0≤M;omega
theorem Bd.set (h:Bd M l) (i:Nat) {v:Int} (hv: -M≤v∧v≤M):Bd M (l.set i v):=fun z hz=>by
 rcases List.mem_or_eq_of_mem_set hz with h1 | h1
 ·exact h z h1
 ·rw [h1];exact hv
end
section
open Go.RowKit Go.Lib
theorem UG (s:List Int) (hs:s.Pairwise (fun a b=>a≤b)) (h: ∀ j (hj:j<s.length),j=0∨s[j]≠s[j - 1]):s.Nodup:=by
 rw [List.Nodup,List.pairwise_iff_getElem];intro i j hi hj hij he;rcases h j hj with h0 | h0
 ·omega
 ·apply h0;have a1:s[i]≤s[j - 1]:=by
   by_cases e:i=j - 1
   ·subst e;exact Int.le_refl _
   ·exact (List.pairwise_iff_getElem.1 hs) i (j - 1) hi (by omega) (by omega)
  have a2:s[j - 1]≤s[j]:=(List.pairwise_iff_getElem.1 hs) (j - 1) j (by omega) hj (by omega);omega
theorem UH (s:List Int) (hs:s.Nodup): ∀ j (hj:j<s.length),j=0∨s[j]≠s[j - 1]:=by
 intro j hj;by_cases h0:j=0
 ·exact .inl h0
 ·right;have h:=(List.pairwise_iff_getElem.1 hs) (j - 1) j (by omega) hj (by omega);exact fun e=>h e.symm
theorem Iu (d:Array Int):(compactUpTo d d.size).length=d.size↔ ∀ j (hj:j<d.toList.length),j=0∨d.toList[j]≠d.toList[j - 1]:=by
 unfold compactUpTo;rw [List.length_map];have e:((List.range d.size).filter (keeps d)).length=d.size↔((List.range d.size).filter (keeps d)).length=(List.range d.size).length:=by rw [List.length_range]
 rw [e,List.length_filter_eq_length_iff];constructor
 ·intro h j hj;have hj':j<d.size:=by simpa using hj
  have hk:=h j (List.mem_range.2 hj');simp only [keeps,decide_eq_true_eq] at hk;rw [getElem!_pos d j hj',getElem!_pos d (j - 1) (by omega)] at hk;simpa using hk
 ·intro h j hj;have hj':j<d.size:=List.mem_range.1 hj;have hk:=h j (by simpa using hj');simp only [keeps,decide_eq_true_eq];rw [getElem!_pos d j hj',getElem!_pos d (j - 1) (by omega)];simpa using hk
def ints (l:List Nat):List Int:=l.map Int.ofNat
def sorted (l:List Nat):List Int:=(ints l).mergeSort fun x y=>decide (x≤y)
theorem oH (l:List Nat):(sorted l).length=l.length:=by unfold sorted ints;rw [List.length_mergeSort,List.length_map]
theorem ER (l:List Nat):(compactUpTo (sorted l).toArray (sorted l).toArray.size).length=l.length↔l.Nodup:=by
 have hlen:=oH l;have hp:(sorted l).Perm (ints l):=List.mergeSort_perm _ _;have hnd:(sorted l).Nodup↔l.Nodup:=by
  rw [hp.nodup_iff];unfold ints List.Nodup;rw [List.pairwise_map];constructor
  ·intro h;exact h.imp (fun hab e=>hab (congrArg Int.ofNat e))
  ·intro h;exact h.imp (fun hab e=>hab (Int.ofNat.inj e))
 have hs:(sorted l).Pairwise (fun a b=>a≤b):=by
  have:=List.pairwise_mergeSort (le:=fun x y:Int=>decide (x≤y)) (by intro a b c;simp;omega) (by intro a b;simp;omega) (ints l);exact this.imp (by intro a b h;simpa using h)
 have e1:(compactUpTo (sorted l).toArray (sorted l).toArray.size).length=l.length↔(compactUpTo (sorted l).toArray (sorted l).toArray.size).length=(sorted l).toArray.size:=by
  rw [List.size_toArray,hlen]
 rw [e1,Iu, ←hnd];exact ⟨UG _ hs,UH _⟩
def conds (pr:Nat→Bool) (x:Par):List Bool:=
 [decide (0<x.t pr),pY x.ch.length,wtB x,jE pr (stepOf pr x) x.sp,!(x.ch.any (ng pr (stepOf pr x) x.sp)),decide x.ch.Nodup]
theorem kN (pr:Nat→Bool) (x:Par):okB pr x=(jl x.n && (conds pr x).all id):=by
 unfold okB conds;simp
variable {pr:Nat→Bool}{x:Par}
theorem kQ {k:Nat} {b:Bool} (h: ∀ c,c∈(conds pr x).take k→c=true) (hk:(conds pr x)[k]? =some b) (hb:b=true): ∀ c,c∈(conds pr x).take (k+1)→c=true:=by
 intro c hc;rw [List.take_add_one] at hc;rcases List.mem_append.1 hc with h1 | h1
 ·exact h c h1
 ·rw [hk] at h1;simp at h1;rw [h1];exact hb
theorem o7 {k:Nat} (hk:(conds pr x)[k]? =some false):chk pr x=2:=by
 have:okB pr x=false:=by
  rw [kN];have:(conds pr x).all id=false:=by
   rw [List.all_eq_false];exact ⟨false,List.mem_of_getElem? hk,by simp⟩
  rw [this,Bool.and_false]
 unfold chk;rw [this];rfl
theorem UJ (hd:jl x.n=true) (h: ∀ c,c∈(conds pr x).take 6→c=true):chk pr x=0:=by
 have:okB pr x=true:=by
  rw [kN,hd,Bool.true_and,List.all_eq_true];intro c hc;exact h c hc
 unfold chk;rw [this];rfl
structure qA (x:Par):Prop where
 n0: -9223372036854775808≤x.n
 n1:x.n≤9223372036854775807
 p1:x.p<4294967296
 r0: -9223372036854775808≤x.r
 r1:x.r≤9223372036854775807
 sp1:x.sp<4294967296
theorem Iw (h:okB pr x=true):4≤x.n∧x.n≤32:=by
 have hd:jl x.n=true:=by rw [kN] at h;simp only [Bool.and_eq_true] at h;exact h.1
 have:=nO hd;omega
def kS (pr:Nat→Bool) (x:Par) (k:Int):Bool:=okB pr x && (decide (1≤k) && decide (k≤x.r))
def dX (pr:Nat→Bool) (x:Par) (k:Int):Int:=if kS pr x k then 0 else 2
def bI (pr:Nat→Bool) (x:Par) (k:Int):Nat:=if kS pr x k then iH pr x.n x.p k else 0
theorem yI {k:Int} (h:kS pr x k=false):dX pr x k=2∧bI pr x k=0:=by unfold dX bI;rw [h];exact ⟨rfl,rfl⟩
theorem Iy {k:Int} (h:kS pr x k=true):dX pr x k=0∧bI pr x k=iH pr x.n x.p k:=by unfold dX bI;rw [h];exact ⟨rfl,rfl⟩
theorem ait (h:jl x.n=false∨pY x.ch.length=false∨wtB x=false∨ ¬ 0<x.t pr∨jE pr (stepOf pr x) x.sp=false∨(∃ q,q∈x.ch∧ng pr (stepOf pr x) x.sp q=true)∨ ¬ x.ch.Nodup):chk pr x=2:=by
 have:okB pr x=false:=by
  rw [kN];rcases h with h | h | h | h | h | ⟨q,hq,h⟩ | h
  ·rw [h];rfl
  ·unfold conds;rw [h];simp
  ·unfold conds;rw [h];simp
  ·unfold conds;rw [aj h];simp
  ·unfold conds;rw [h];simp
  ·have:x.ch.any (ng pr (stepOf pr x) x.sp)=true:=List.any_eq_true.2 ⟨q,hq,h⟩;unfold conds;rw [this];simp
  ·unfold conds;rw [aj h];simp
 unfold chk;rw [this];rfl
theorem aes (h1:jl x.n=true) (h2:pY x.ch.length=true) (h3:wtB x=true) (h4:0<x.t pr) (h5:jE pr (stepOf pr x) x.sp=true)
  (h6: ∀ q,q∈x.ch→ng pr (stepOf pr x) x.sp q=false) (h7:x.ch.Nodup):chk pr x=0:=by
 have:okB pr x=true:=by
  have hb:x.ch.any (ng pr (stepOf pr x) x.sp)=false:=by
   rw [List.any_eq_false];intro q hq;rw [h6 q hq];simp
  rw [kN,h1];unfold conds;rw [h2,h3,h5,hb,ah h4,ah h7];rfl
 unfold chk;rw [this];rfl
theorem OH {l:List Nat} {i:Nat} (hi:i<l.length) (h:(l.take i).Nodup) (hne: ∀ j (hj:j<i),l[j]'(by omega)≠l[i]):(l.take (i+1)).Nodup:=by
 rw [List.take_succ_eq_append_getElem hi,List.nodup_append];refine ⟨h,by simp,?_⟩;intro a ha b hb;simp at hb;subst hb;obtain ⟨j,hj,rfl⟩:=List.mem_iff_getElem.1 ha;rw [List.getElem_take];exact hne j (by simp at hj;omega)
theorem aiu {l:List Nat} {i j:Nat} (hi:i<l.length) (hj:j<i) (h:l[j]'(by omega)=l[i]): ¬ l.Nodup:=by
 intro hn;exact (List.pairwise_iff_getElem.1 hn) j i (by omega) hi hj h
end
end Go.Proofs.YtljfgdlgmdcmfaaGreat
namespace Go.Proofs
open Go.Shelf
def Tryz.lays129_ren:Go.Shelf.Ren:=⟨fun | 129=>226 | n=>n,fun | 53=>162 | 3=>3 | 4=>4 | 46=>215 | 5=>5 | 9=>9 | n=>n,fun | n=>n⟩
theorem Tryz.lays129:Go.Proofs.Lays.n129 Tryz.prog Tryz.lays129_ren:={
 mixed:=by kernel_rfl
 f129:=Tryz.func226.trans (congrArg some (by kernel_rfl))
 t3:=Tryz.underlying3
 a3:=Tryz.isAgg3
 z3:=Tryz.sizeOf3
 v3:=Tryz.zeroValue3
 t4:=Tryz.underlying4
 a4:=Tryz.isAgg4
 z4:=Tryz.sizeOf4
 v4:=Tryz.zeroValue4
 t5:=Tryz.underlying5
 a5:=Tryz.isAgg5
 z5:=Tryz.sizeOf5
 v5:=Tryz.zeroValue5
 t9:=Tryz.underlying9
 a9:=Tryz.isAgg9
 z9:=Tryz.sizeOf9
 v9:=Tryz.zeroValue9
 t46:=Tryz.underlying215
 a46:=Tryz.isAgg215
 z46:=Tryz.sizeOf215
 v46:=Tryz.zeroValue215
 t53:=Tryz.underlying162
 a53:=Tryz.isAgg162
 z53:=Tryz.sizeOf162
 v53:=Tryz.zeroValue162}
theorem Tryz.bits_Len64 (x:Int) (w:World) (h0:0≤x) (h1:x≤18446744073709551615):
  Calls Tryz.prog 226 #[.int .u64 x] w fun e w'=>e= .returned (.int .i64 (Lib.bitLen x.toNat))∧w'=w:=Any.bits_Len64 Tryz.lays129 x w h0 h1
def Tryz.laysSlE43_f150_ren:Go.Shelf.Ren:=⟨fun | 43=>150 | n=>n,fun | 22=>23 | 23=>22 | 3=>3 | 4=>4 | 0=>0 | n=>n,fun | n=>n⟩
theorem Tryz.laysSlE43_f150:Go.Proofs.SlLaysE.n43 Tryz.prog Tryz.laysSlE43_f150_ren:={
 mixed:=by kernel_rfl
 f43:=⟨Tryz.f150.name,by decide,Tryz.func150.trans (congrArg some (by kernel_rfl))⟩
 t0:=Tryz.underlying0
 a0:=Tryz.isAgg0
 z0:=Tryz.sizeOf0
 v0:=Tryz.zeroValue0
 t3:=Tryz.underlying3
 a3:=Tryz.isAgg3
 z3:=Tryz.sizeOf3
 v3:=Tryz.zeroValue3
 t4:=Tryz.underlying4
 a4:=Tryz.isAgg4
 z4:=Tryz.sizeOf4
 v4:=Tryz.zeroValue4
 t22:=Tryz.underlying23
 a22:=Tryz.isAgg23
 z22:=Tryz.sizeOf23
 v22:=Tryz.zeroValue23
 a23:=Tryz.isAgg22
 z23:=Tryz.sizeOf22}
open Go.RowKit Go.Lib Go.Sort in
theorem Tryz.slices_Compact {α:Type} [Inhabited α] [DecidableEq α] (enc:α→Value) (hO:OneCell enc) (heq:EqlAt Tryz.prog 22 enc (fun x y=>decide (x=y))) (hne:NeqAt Tryz.prog 22 enc (fun x y=>decide (x=y))) (zr:α) (v23: ∀ w,(zeroValue 22).run Tryz.prog w= .ok (enc zr) w) (blk off cap:Nat) (d:Array α) (w:World) (hH:Holds enc w blk off d) (hsz:d.size≤9223372036854775807) (hcap:d.size≤cap):
  Calls Tryz.prog 150 #[.slice (some ⟨blk,off,none⟩) d.size cap] w fun e w'=>e= .returned (.slice (some ⟨blk,off,none⟩) (compactUpTo d d.size).length cap)∧ ∃ q,w'=putRow enc (Sort.ahead w q) blk off (compactUpTo d d.size++List.replicate (d.size - (compactUpTo d d.size).length) zr).toArray:=AnyE.slices_Compact Tryz.laysSlE43_f150 enc hO heq hne zr v23 blk off cap d w hH hsz hcap
end Go.Proofs
