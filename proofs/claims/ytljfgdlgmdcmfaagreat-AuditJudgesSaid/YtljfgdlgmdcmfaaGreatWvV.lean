/- The machine of abstract values: rules of literals, fields, parts of slices. -/
import Derived.Test.YtljfgdlgmdcmfaaGreatWvU
namespace Go.Proofs.YtljfgdlgmdcmfaaGreat.Wv
open Go.RowKit
set_option linter.unusedVariables false
set_option autoImplicit false

section
variable {P : Program} {p₀ : AV → Hp → Prop}
def ltB (e n m : Nat) : Option Nat → Option Value → Option (List AV) → Option (TypeId × Nat × List AV)
  | some s, some _, some L => if m = n ∧ 0 < s ∧ n * s ≤ 16777216 then some (e, s, L) else none
  | _, _, _ => none
def ltA (P : Program) (h : Hp) (n : Nat) (parts : List (Nat × AV)) : Option TypeId → Option (TypeId × Nat × List AV)
  | some e => ltB e n parts.length (szP P e) (zeroP P e) ((szP P e).bind fun s => rowA h s 0 parts)
  | none => none
theorem lt {h : Hp} {T : TypeId} {n : Nat} {parts : List (Nat × AV)} : litA P h T n parts = ltA P h n parts (elemP P T) := by
  unfold litA ltA
  cases elemP P T with
  | none => rfl
  | some e =>
    simp only [Option.bind_some]
    cases szP P e with
    | none => rfl
    | some s =>
      simp only [Option.bind_some]
      cases zeroP P e with
      | none => rfl
      | some z =>
        simp only [Option.bind_some]
        cases rowA h s 0 parts <;> rfl
theorem ltA_some {h : Hp} {n : Nat} {parts : List (Nat × AV)} {e : TypeId} : ltA P h n parts (some e) = ltB e n parts.length (szP P e) (zeroP P e) ((szP P e).bind fun s => rowA h s 0 parts) := Eq.trans rfl rfl
theorem ltB_some {e n m s : Nat} {z : Value} {L : List AV} (h1 : m = n) (h2 : 0 < s) (h3 : n * s ≤ 16777216) : ltB e n m (some s) (some z) (some L) = some (e, s, L) := if_pos ⟨h1, h2, h3⟩
def rwB (j k s : Nat) : Option (List AV) → Option (List AV) → Option (List AV)
  | some l, some L => if j = k ∧ l.length = s then some (l ++ L) else none
  | _, _ => none
theorem rw_nil {h : Hp} {s k : Nat} : rowA h s k [] = some [] := Eq.trans rfl rfl
theorem rw_cons {h : Hp} {s k j : Nat} {a : AV} {r : List (Nat × AV)} : rowA h s k ((j, a) :: r) = rwB j k s (cellsA h a) (rowA h s (k + 1) r) := by
  simp only [rowA]
  cases cellsA h a <;> cases rowA h s (k + 1) r <;> rfl
theorem rwB_some {j k s : Nat} {l L : List AV} (h1 : j = k) (h2 : l.length = s) : rwB j k s (some l) (some L) = some (l ++ L) := if_pos ⟨h1, h2⟩

def mkB (e : Nat) (zl zc : Int) : Option Nat → Option Value → Option Nat → Option (TypeId × Nat × List AV)
  | some s, some z, some by_ => if 0 < s ∧ 0 ≤ zl ∧ zl ≤ zc ∧ zc ≤ 9223372036854775807 ∧ (by_ : Int) * zc ≤ 140737488355328 then some (e, s, zrowA z (zl.toNat * s)) else none
  | _, _, _ => none
def mkA (P : Program) (zl zc : Int) : Option TypeId → Option (TypeId × Nat × List AV)
  | some e => mkB e zl zc (szP P e) (zeroP P e) (bytP P e)
  | none => none
theorem mk {T : TypeId} {zl zc : Int} : makeA P T zl zc = mkA P zl zc (elemP P T) := by
  unfold makeA mkA
  cases elemP P T with
  | none => rfl
  | some e =>
    simp only [Option.bind_some]
    cases szP P e with
    | none => rfl
    | some s =>
      simp only [Option.bind_some]
      cases zeroP P e with
      | none => rfl
      | some z =>
        simp only [Option.bind_some]
        cases bytP P e <;> rfl
theorem mkA_some {zl zc : Int} {e : TypeId} : mkA P zl zc (some e) = mkB e zl zc (szP P e) (zeroP P e) (bytP P e) := Eq.trans rfl rfl
theorem mkB_some {e : Nat} {zl zc : Int} {s by_ : Nat} {z : Value} (h1 : 0 < s) (h2 : 0 ≤ zl) (h3 : zl ≤ zc) (h4 : zc ≤ 9223372036854775807) (h5 : (by_ : Int) * zc ≤ 140737488355328) : mkB e zl zc (some s) (some z) (some by_) = some (e, s, zrowA z (zl.toNat * s)) := if_pos ⟨h1, h2, h3, h4, h5⟩
theorem zrow_int {k : IntKind} {n : Nat} : zrowA (.int k 0) n = tab n (fun _ => .v (.int k 0)) := by
  show (if (1 : Nat) = 1 then List.replicate n (AV.v (.int k 0)) else _) = _
  rw [if_pos rfl]
  apply List.ext_getElem?
  intro i
  by_cases hi : i < n
  · rw [tab_get hi]; simp [hi]
  · simp [tab, hi]
theorem zrow_bool {n : Nat} : zrowA (.bool false) n = tab n (fun _ => .v (.bool false)) := by
  show (if (1 : Nat) = 1 then List.replicate n (AV.v (.bool false)) else _) = _
  rw [if_pos rfl]
  apply List.ext_getElem?
  intro i
  by_cases hi : i < n
  · rw [tab_get hi]; simp [hi]
  · simp [tab, hi]
theorem zrow_nil {n : Nat} : zrowA (.slice none 0 0) n = tab n (fun _ => .v (.slice none 0 0)) := by
  show (if (1 : Nat) = 1 then List.replicate n (AV.v (.slice none 0 0)) else _) = _
  rw [if_pos rfl]
  apply List.ext_getElem?
  intro i
  by_cases hi : i < n
  · rw [tab_get hi]; simp [hi]
  · simp [tab, hi]

def fdB (h : Hp) (a : AV) (o : Nat) : Option Nat → Option AV
  | some s => if s = 0 then none else shiftA h a o
  | none => none
def fdA (P : Program) (h : Hp) (a : AV) : Option (Nat × TypeId) → Option AV
  | some (o, T) => fdB h a o (szP P T)
  | none => none
theorem fd {h : Hp} {S : TypeId} {a : AV} {f : Nat} : faddrA P h S a f = fdA P h a (fldP P S f) := by
  unfold faddrA fdA
  cases fldP P S f with
  | none => rfl
  | some ot =>
    obtain ⟨o, T⟩ := ot
    simp only [Option.bind_some]
    cases hs : szP P T with
    | none => simp only [reduceCtorEq, if_false, Option.bind_none]; rfl
    | some s =>
      simp only [Option.bind_some, Option.some.injEq, fdB]
theorem fdA_some {h : Hp} {a : AV} {o : Nat} {T : TypeId} : fdA P h a (some (o, T)) = fdB h a o (szP P T) := Eq.trans rfl rfl
theorem fdB_some {h : Hp} {a : AV} {o s : Nat} (hs : s ≠ 0) : fdB h a o (some s) = shiftA h a o := if_neg hs
def flB (P : Program) (T : TypeId) (o : Nat) : Option (List AV) → Option AV
  | some l => takeA P T (l.drop o)
  | none => none
def flA (P : Program) (x : AV) : Option (Nat × TypeId) → Option AV
  | some (o, T) => flB P T o (cellsOf x)
  | none => none
theorem fl {S : TypeId} {x : AV} {f : Nat} : fieldA P S x f = flA P x (fldP P S f) := by
  unfold fieldA flA
  cases fldP P S f with
  | none => rfl
  | some ot =>
    obtain ⟨o, T⟩ := ot
    simp only [Option.bind_some]
    cases cellsOf x <;> rfl
theorem flA_some {x : AV} {o : Nat} {T : TypeId} : flA P x (some (o, T)) = flB P T o (cellsOf x) := Eq.trans rfl rfl
theorem flB_some {T : TypeId} {o : Nat} {l : List AV} : flB P T o (some l) = takeA P T (l.drop o) := Eq.trans rfl rfl
theorem co_g {l : List AV} : cellsOf (.g l) = some l := Eq.trans rfl rfl
theorem co_agg {l : List Value} : cellsOf (.v (.agg l.toArray)) = some (l.map .v) := Eq.trans rfl rfl
theorem cl_agg {h : Hp} {l : List Value} : cellsA h (.v (.agg l.toArray)) = some (l.map .v) := Eq.trans rfl rfl

/-- Where the fields of a struct lie, and how long they are. -/
def fsP (P : Program) (T : TypeId) : Option (List (Nat × Nat)) := match P.underlying T with
  | some (.struct fs) => if fs.toList.all (fun f => (P.info? f.type).isSome) then some (fs.toList.map fun f => (f.offset, ((P.info? f.type).map (·.size)).getD 0)) else none
  | some (.array n e) => if n ≤ 64 then (szP P e).map fun s => (List.range n).map fun i => (i * s, s) else none
  | _ => none
def bdA (h : Hp) (parts : List (Nat × AV)) : Option Value → Option (List (Nat × Nat)) → Option (List AV) → Option (List AV)
  | some z, some l, _ => fillA h (fun i => l[i]?) (vcells z) parts
  | _, _, o => o
theorem bd {h : Hp} {T : TypeId} {parts : List (Nat × AV)} : buildA P h T parts = bdA h parts (zeroP P T) (fsP P T) (buildA P h T parts) := by
  cases hz : zeroP P T with
  | none => rfl
  | some z =>
    cases hf : fsP P T with
    | none => rfl
    | some l =>
      show _ = fillA h (fun i => l[i]?) (vcells z) parts
      unfold buildA
      have : placesP P T = some (fun i => l[i]?) := by
        unfold fsP at hf
        unfold placesP
        split at hf
        · next fs hu =>
          rw [hu]
          simp only
          split at hf
          · next hall =>
            rw [if_pos hall]
            injection hf with hf
            subst hf
            congr 1
            funext i
            rw [List.getElem?_map, Array.getElem?_toList]
          · cases hf
        · next n e hu =>
          rw [hu]
          simp only
          split at hf
          · cases hs : szP P e with
            | none => rw [hs] at hf; cases hf
            | some s => rw [hs] at hf; injection hf with hf; subst hf; rfl
          · cases hf
        · cases hf
      rw [hz, this]
def fiB (h : Hp) (pl : List (Nat × Nat)) (cells : List AV) (r : List (Nat × AV)) : Option (Nat × Nat) → Option (List AV) → Option (List AV)
  | some (o, n), some l => if l.length = n ∧ o + n ≤ cells.length then fillA h (fun i => pl[i]?) (setLA cells o l) r else none
  | _, _ => none
def bdX (P : Program) (h : Hp) (T : TypeId) (parts : List (Nat × AV)) : Option Value → Option (List (Nat × Nat)) → Option (List AV)
  | some z, some l => fillA h (fun i => l[i]?) (vcells z) parts
  | _, _ => buildA P h T parts
theorem bdx {h : Hp} {T : TypeId} {parts : List (Nat × AV)} {K : AV → Prop} : sG K (buildA P h T parts) = sG K (bdX P h T parts (zeroP P T) (fsP P T)) := by
  congr 1
  cases hz : zeroP P T with
  | none => rfl
  | some z =>
    cases hf : fsP P T with
    | none => rfl
    | some l =>
      rw [bd, hz, hf]; rfl
theorem bdX_some {h : Hp} {T : TypeId} {parts : List (Nat × AV)} {z : Value} {l : List (Nat × Nat)} : bdX P h T parts (some z) (some l) = fillA h (fun i => l[i]?) (vcells z) parts := Eq.trans rfl rfl
theorem fi_nil {h : Hp} {pl : Nat → Option (Nat × Nat)} {cells : List AV} : fillA h pl cells [] = some cells := Eq.trans rfl rfl
theorem fi_cons {h : Hp} {pl : List (Nat × Nat)} {cells : List AV} {i : Nat} {a : AV} {r : List (Nat × AV)} : fillA h (fun i => pl[i]?) cells ((i, a) :: r) = fiB h pl cells r pl[i]? (cellsA h a) := by
  simp only [fillA]
  cases pl[i]? with
  | none => rfl
  | some on => obtain ⟨o, n⟩ := on; cases cellsA h a <;> rfl
theorem fiB_some {h : Hp} {pl : List (Nat × Nat)} {cells l : List AV} {r : List (Nat × AV)} {o n : Nat} (h1 : l.length = n) (h2 : o + n ≤ cells.length) : fiB h pl cells r (some (o, n)) (some l) = fillA h (fun i => pl[i]?) (setLA cells o l) r := if_pos ⟨h1, h2⟩

theorem bo_none {d : Nat} : boundA none d = some d := Eq.trans rfl rfl
theorem bo_some {k : IntKind} {z : Int} {d : Nat} (hz : 0 ≤ z) : boundA (some (.v (.int k z))) d = some z.toNat := if_pos hz
def slT (n s : Nat) (cells : List AV) : Option Nat → Option Nat → Option Nat → Option AV
  | some a, some b, some s' => if s' = s ∧ a ≤ b ∧ b ≤ n then some (.t (b - a) s ((cells.take (b * s)).drop (a * s))) else none
  | _, _, _ => none
def hx (h : Hp) : Option AV → Option (AV × Hp)
  | some a => some (a, h)
  | none => none
theorem hx_some {h : Hp} {a : AV} : hx h (some a) = some (a, h) := Eq.trans rfl rfl
def szE (P : Program) : Option TypeId → Option Nat
  | some e => szP P e
  | none => none
theorem szE_some {e : TypeId} : szE P (some e) = szP P e := Eq.trans rfl rfl
theorem sl_t {h : Hp} {T : TypeId} {n s : Nat} {cells : List AV} {lo hi : Option AV} : sliceA P h T (.t n s cells) lo hi = hx h (slT n s cells (boundA lo 0) (boundA hi n) (szE P (elemP P T))) := by
  simp only [sliceA]
  have : (elemP P T).bind (szP P) = szE P (elemP P T) := by cases elemP P T <;> rfl
  rw [this]
  cases boundA lo 0 with
  | none => rfl
  | some a =>
    cases boundA hi n with
    | none => rfl
    | some b =>
      simp only [slT]
      cases szE P (elemP P T) with
      | none => simp; rfl
      | some s' =>
        simp only [Option.some.injEq]
        split <;> rfl
theorem st_t {h : Hp} {T : TypeId} {n s : Nat} {cells : List AV} {lo hi : Option AV} : sliceT P h T (.t n s cells) lo hi = slT n s cells (boundA lo 0) (boundA hi n) (szE P (elemP P T)) := by
  show (sliceA P [] T (.t n s cells) lo hi).map (·.1) = _
  rw [sl_t]
  cases slT n s cells (boundA lo 0) (boundA hi n) (szE P (elemP P T)) <;> rfl
def slO (n : Nat) : Option Nat → Option Nat → Option Nat → Option (Option Ob) → Option AV
  | some a, some b, some s', some (some (.arr _ s cells fz)) => if s' = s ∧ cells.length = n * s ∧ a ≤ b ∧ b ≤ n ∧ b * s ≤ fz then some (.t (b - a) s ((cells.take (b * s)).drop (a * s))) else none
  | _, _, _, _ => none
theorem st_o {h : Hp} {T : TypeId} {id n : Nat} {lo hi : Option AV} : sliceT P h T (.own id n) lo hi = slO n (boundA lo 0) (boundA hi n) (szE P (elemP P T)) h[id]? := by
  simp only [sliceT]
  have : (elemP P T).bind (szP P) = szE P (elemP P T) := by cases elemP P T <;> rfl
  rw [this]
  cases h[id]? with
  | none => unfold slO; split <;> first | rfl | simp_all
  | some o =>
    cases o with
    | none => unfold slO; split <;> first | rfl | simp_all
    | some o =>
      cases o with
      | arr T' s cells fz =>
        cases boundA lo 0 with
        | none => rfl
        | some a =>
          cases boundA hi n with
          | none => rfl
          | some b =>
            simp only [slO]
            cases szE P (elemP P T) with
            | none => simp
            | some s' => simp only [Option.some.injEq]
      | _ => unfold slO; split <;> first | rfl | simp_all
theorem slO_some {n s a b fz : Nat} {T : TypeId} {cells : List AV} (h0 : cells.length = n * s) (h1 : a ≤ b) (h2 : b ≤ n) (h3 : b * s ≤ fz) : slO n (some a) (some b) (some s) (some (some (.arr T s cells fz))) = some (.t (b - a) s ((cells.take (b * s)).drop (a * s))) := if_pos ⟨rfl, h0, h1, h2, h3⟩
theorem slT_some {n s a b : Nat} {cells : List AV} (h1 : a ≤ b) (h2 : b ≤ n) : slT n s cells (some a) (some b) (some s) = some (.t (b - a) s ((cells.take (b * s)).drop (a * s))) := if_pos ⟨rfl, h1, h2⟩
def slS (x : ByteArray) : Option Nat → Option Nat → Bool → Option AV
  | some a, some b, true => if a ≤ b ∧ b ≤ x.size then some (.v (.string (x.extract a b))) else none
  | _, _, _ => none
theorem sl_s {h : Hp} {T : TypeId} {x : ByteArray} {lo hi : Option AV} : sliceA P h T (.v (.string x)) lo hi = hx h (slS x (boundA lo 0) (boundA hi x.size) (isStrP P T)) := by
  simp only [sliceA]
  cases isStrP P T with
  | false => cases boundA lo 0 <;> cases boundA hi x.size <;> rfl
  | true =>
    cases boundA lo 0 with
    | none => rfl
    | some a =>
      cases boundA hi x.size with
      | none => rfl
      | some b =>
        simp only [slS, if_true]
        split <;> rfl
theorem st_s {h : Hp} {T : TypeId} {x : ByteArray} {lo hi : Option AV} : sliceT P h T (.v (.string x)) lo hi = slS x (boundA lo 0) (boundA hi x.size) (isStrP P T) := by
  show (sliceA P [] T (.v (.string x)) lo hi).map (·.1) = _
  rw [sl_s]
  cases slS x (boundA lo 0) (boundA hi x.size) (isStrP P T) <;> rfl
theorem slS_some {x : ByteArray} {a b : Nat} (h1 : a ≤ b) (h2 : b ≤ x.size) : slS x (some a) (some b) true = some (.v (.string (x.extract a b))) := if_pos ⟨h1, h2⟩
theorem tab_take {n k : Nat} {f : Nat → AV} (hk : k ≤ n) : (tab n f).take k = tab k f := by
  apply List.ext_getElem?
  intro i
  rw [List.getElem?_take]
  by_cases hi : i < k
  · rw [if_pos hi, tab_get (by omega), tab_get hi]
  · rw [if_neg hi]; simp [tab, hi]
theorem tab_drop {n k : Nat} {f : Nat → AV} : (tab n f).drop k = tab (n - k) (fun i => f (i + k)) := by
  apply List.ext_getElem?
  intro i
  rw [List.getElem?_drop]
  by_cases hi : i < n - k
  · rw [tab_get (by omega), tab_get hi, Nat.add_comm]
  · simp [tab, hi, show ¬ k + i < n by omega]
theorem tab_nil {f : Nat → AV} : tab 0 f = [] := Eq.trans rfl rfl
theorem tab_all {n : Nat} {f : Nat → AV} {g : AV → Bool} (h : ∀ i, i < n → g (f i) = true) : (tab n f).all g = true := by
  rw [List.all_eq_true]
  intro a ha
  obtain ⟨i, hi, rfl⟩ := List.mem_map.1 ha
  exact h i (List.mem_range.1 hi)
theorem tab_one {n : Nat} {h : Hp} {k : IntKind} {f : Nat → Int} : (tab n fun i => .v (.int k (f i))).all (oneA h) = true := tab_all fun _ _ => rfl
theorem tab_empty {f : Nat → AV} {n : Nat} (hn : n = 0) : tab n f = [] := by subst hn; rfl
def isB (x : ByteArray) (z : Int) : Bool → Option AV
  | true => if 0 ≤ z then (x[z.toNat]?).map fun b => .v (.int .u8 b.toNat) else none
  | false => none
theorem ix_str {T : TypeId} {x : ByteArray} {z : Int} : indexA P T (.v (.string x)) z = isB x z (isStrP P T) := by
  unfold indexA isB
  cases isStrP P T with
  | false => simp
  | true => simp
theorem isB_true {x : ByteArray} {z : Int} (hz : 0 ≤ z) : isB x z true = (x[z.toNat]?).map fun b => .v (.int .u8 b.toNat) := if_pos hz
end

section
variable {P : Program} {p₀ : AV → Hp → Prop}
theorem cv_int {h : Hp} {s u : TypeId} {k : IntKind} {z : Int} : cvA P h s u (.v (.int k z)) = (convA P h s u (.v (.int k z))).map .v := Eq.trans rfl rfl
theorem cv_t {h : Hp} {s u : TypeId} {n sz : Nat} {cells : List AV} : cvA P h s u (.t n sz cells) = (convA P h s u (.t n sz cells)).map .v := Eq.trans rfl rfl
theorem cv_own {h : Hp} {s u : TypeId} {id n : Nat} : cvA P h s u (.own id n) = (convA P h s u (.own id n)).map .v := Eq.trans rfl rfl
theorem cv_str {h : Hp} {s u : TypeId} {b : ByteArray} : cvA P h s u (.v (.string b)) = cvX P h s u b ((elemP P u).bind (intP P)) := Eq.trans rfl rfl
theorem cvX_none {h : Hp} {s u : TypeId} {b : ByteArray} : cvX P h s u b none = (convA P h s u (.v (.string b))).map .v := Eq.trans rfl rfl
theorem cvX_u8 {h : Hp} {s u : TypeId} {b : ByteArray} (h1 : (P.underlying s).isSome = true) (h2 : b.size ≤ 140737488351232) : cvX P h s u b (some .u8) = some (.t b.size 1 (bytA b)) := if_pos ⟨h1, h2⟩
theorem sl_ptr {h : Hp} {T : TypeId} {id : Nat} : sliceA P h T (.ptr id 0) none none = sliceP1 P h id h[id]? (arrP P T) := by
  unfold sliceA; simp
theorem slP1_some {h : Hp} {id n : Nat} {e : TypeId} {cells : List AV} : sliceP1 P h id (some (some (.blk cells))) (some (n, e)) = sliceP2 h id cells n (szP P e) := Eq.trans rfl rfl
theorem slP2_some {h : Hp} {id n s : Nat} {cells : List AV} (h1 : cells.length = n * s) (h2 : n ≤ 1000000) : sliceP2 h id cells n (some s) = some (.t n s cells, h.set id none) := if_pos ⟨h1, h2⟩

def lkB (h : Hp) (x : AV) (kv : Value) (ok : Bool) : Option KK → Option Value → Option AV
  | some q, some z => if keyK q kv = true then match x with
      | .mp id => match h[id]? with
        | some (some (.map es)) => if keysB q es = true then some (lkRes ok z (lookM kv es)) else none
        | _ => none
      | .tm es => if keysB q es = true then some (lkRes ok z (lookM kv es)) else none
      | .v (.map none) => some (lkRes ok z none)
      | _ => none
      else none
  | _, _ => none
def lkD (kv : Value) (ok : Bool) (q : KK) (z : Value) : Option (Option Ob) → Option AV
  | some (some (.map es)) => if keysB q es = true then some (lkRes ok z (lookM kv es)) else none
  | _ => none
def lkA (P : Program) (h : Hp) (x : AV) (kv : Value) (ok : Bool) : Option (TypeId × TypeId) → Option AV
  | some (K, E) => lkB h x kv ok (kkP P K) (zeroP P E)
  | none => none
theorem lk {h : Hp} {T : TypeId} {x : AV} {kv : Value} {ok : Bool} : lookupA P h T x (.v kv) ok = lkA P h x kv ok (mapP P T) := by
  unfold lookupA lkA
  cases mapP P T with
  | none => rfl
  | some KE =>
    obtain ⟨K, E⟩ := KE
    simp only [Option.bind_some]
    cases kkP P K with
    | none => cases zeroP P E <;> rfl
    | some q =>
      simp only [Option.bind_some]
      cases zeroP P E with
      | none => rfl
      | some z => rfl
theorem lkA_some {h : Hp} {x : AV} {kv : Value} {ok : Bool} {K E : TypeId} : lkA P h x kv ok (some (K, E)) = lkB h x kv ok (kkP P K) (zeroP P E) := Eq.trans rfl rfl
theorem lkB_mp {h : Hp} {id : Nat} {kv : Value} {ok : Bool} {q : KK} {z : Value} : lkB h (.mp id) kv ok (some q) (some z) = if keyK q kv = true then lkD kv ok q z h[id]? else none := Eq.trans rfl rfl
theorem lkB_tm {h : Hp} {es : List (Value × AV)} {kv : Value} {ok : Bool} {q : KK} {z : Value} : lkB h (.tm es) kv ok (some q) (some z) = if keyK q kv = true then (if keysB q es = true then some (lkRes ok z (lookM kv es)) else none) else none := Eq.trans rfl rfl
theorem lkD_some {es : List (Value × AV)} {kv : Value} {ok : Bool} {q : KK} {z : Value} : lkD kv ok q z (some (some (.map es))) = if keysB q es = true then some (lkRes ok z (lookM kv es)) else none := Eq.trans rfl rfl
theorem lkR_tt {z : Value} {a : AV} : lkRes true z (some a) = .tup [a, .v (.bool true)] := Eq.trans rfl rfl
theorem lkR_tn {z : Value} : lkRes true z none = .tup [.v z, .v (.bool false)] := Eq.trans rfl rfl
theorem lkR_ft {z : Value} {a : AV} : lkRes false z (some a) = a := Eq.trans rfl rfl
theorem lkR_fn {z : Value} : lkRes false z none = .v z := Eq.trans rfl rfl
theorem kk_int {q : IntKind} {n : Int} : keyK (.int q) (.int q n) = true := decide_eq_true rfl
theorem kk_str {s : ByteArray} : keyK .str (.string s) = true := Eq.trans rfl rfl
theorem kb_nil {q : KK} : keysB q [] = true := Eq.trans rfl rfl
theorem kb_cons {q : KK} {p : Value × AV} {r : List (Value × AV)} : keysB q (p :: r) = (keyK q p.1 && keysB q r) := Eq.trans rfl rfl
theorem lm_nil {k : Value} : lookM k [] = none := Eq.trans rfl rfl
theorem lm_cons {k k' : Value} {a : AV} {r : List (Value × AV)} : lookM k ((k', a) :: r) = if keyE k k' = true then some a else lookM k r := Eq.trans rfl rfl
theorem ke_int {q q' : IntKind} {a b : Int} : keyE (.int q a) (.int q' b) = decide (a = b) := Eq.trans rfl rfl
theorem ke_str {a b : ByteArray} : keyE (.string a) (.string b) = decide (a = b) := Eq.trans rfl rfl
theorem pm_nil {k : Value} {a : AV} : putM k a [] = [(k, a)] := Eq.trans rfl rfl
theorem pm_cons {k k' : Value} {a a' : AV} {r : List (Value × AV)} : putM k a ((k', a') :: r) = if keyE k k' = true then (k, a) :: r else (k', a') :: putM k a r := Eq.trans rfl rfl
def upD (h : Hp) (id : Nat) (kv : Value) (a : AV) (q : KK) : Option (Option Ob) → Option Hp
  | some (some (.map es)) => if keysB q es = true then some (h.set id (some (.map (putM kv a es)))) else none
  | _ => none
def upB (h : Hp) (id : Nat) (kv : Value) (a : AV) : Option KK → Option Hp
  | some q => if keyK q kv = true then upD h id kv a q h[id]? else none
  | none => none
def upA (P : Program) (h : Hp) (id : Nat) (kv : Value) (a : AV) : Option (TypeId × TypeId) → Option Hp
  | some (K, _) => upB h id kv a (kkP P K)
  | none => none
theorem up {h : Hp} {T : TypeId} {id : Nat} {kv : Value} {a : AV} : updateA P h T (.mp id) (.v kv) a = upA P h id kv a (mapP P T) := by
  unfold updateA upA
  cases mapP P T with
  | none => rfl
  | some KE =>
    obtain ⟨K, E⟩ := KE
    simp only [Option.bind_some]
    cases kkP P K with
    | none => rfl
    | some q => rfl
theorem upA_some {h : Hp} {id : Nat} {kv : Value} {a : AV} {K E : TypeId} : upA P h id kv a (some (K, E)) = upB h id kv a (kkP P K) := Eq.trans rfl rfl
theorem upB_some {h : Hp} {id : Nat} {kv : Value} {a : AV} {q : KK} : upB h id kv a (some q) = if keyK q kv = true then upD h id kv a q h[id]? else none := Eq.trans rfl rfl
theorem upD_some {h : Hp} {id : Nat} {kv : Value} {a : AV} {q : KK} {es : List (Value × AV)} : upD h id kv a q (some (some (.map es))) = if keysB q es = true then some (h.set id (some (.map (putM kv a es)))) else none := Eq.trans rfl rfl
def bF (op : BinOp) : Option Bool → Bool → Option Value
  | some b, true => eqOp op b
  | _, _ => none
theorem bin_nilf {h : Hp} {op : BinOp} {T : TypeId} {x : AV} : binA P h op T x (.v .nilFunc) = bF op (nilFA x) (isFnP P T) := by
  show (if isFnP P T = true then (nilFA x).bind (eqOp op) else none) = _
  cases isFnP P T <;> cases nilFA x <;> rfl
theorem bF_eq {b : Bool} : bF .eql (some b) true = some (.bool b) := Eq.trans rfl rfl
theorem bF_ne {b : Bool} : bF .neq (some b) true = some (.bool (!b)) := Eq.trans rfl rfl
theorem nf_nil : nilFA (.v .nilFunc) = some true := Eq.trans rfl rfl
theorem nf_fn {f : Fn} {a b : List AV} : nilFA (.fn f a b) = some false := Eq.trans rfl rfl
theorem ca_mp {h : Hp} {id : Nat} : cellsA h (.mp id) = if liveA h (.mp id) = true then some [.mp id] else none := Eq.trans rfl rfl
def lMap : Option (Option Ob) → Bool
  | some (some (.map _)) => true
  | _ => false
theorem lv_mp {h : Hp} {id : Nat} : liveA h (.mp id) = lMap h[id]? := Eq.trans rfl rfl
theorem lMap_some {es : List (Value × AV)} : lMap (some (some (.map es))) = true := Eq.trans rfl rfl
theorem on_mp {h : Hp} {id : Nat} : oneA h (.mp id) = liveA h (.mp id) := Eq.trans rfl rfl
theorem ca_fn {h : Hp} {f : Fn} {a b : List AV} : cellsA h (.fn f a b) = some [.fn f a b] := Eq.trans rfl rfl
theorem ca_ifc {h : Hp} {T : TypeId} {a : AV} : cellsA h (.ifc T a) = some [.ifc T a] := Eq.trans rfl rfl
theorem on_ifc {h : Hp} {T : TypeId} {a : AV} : oneA h (.ifc T a) = true := Eq.trans rfl rfl
def cl1M (h : Hp) (id : Nat) : Option (Option Ob) → Option (AV × Hp)
  | some (some (.map es)) => some (.tm es, h.set id none)
  | _ => none
theorem cl3_mp {h : Hp} {id : Nat} : close3 h (.mp id) = cl1M h id h[id]? := Eq.trans rfl rfl
theorem cl1M_some {h : Hp} {id : Nat} {es : List (Value × AV)} : cl1M h id (some (some (.map es))) = some (.tm es, h.set id none) := Eq.trans rfl rfl
theorem cl3_ifc {h : Hp} {T : TypeId} {a : AV} : close3 h (.ifc T a) = some (.ifc T a, h) := Eq.trans rfl rfl
theorem cl3_fn {h : Hp} {f : Fn} {a b : List AV} : close3 h (.fn f a b) = some (.fn f a b, h) := Eq.trans rfl rfl
end
end Go.Proofs.YtljfgdlgmdcmfaaGreat.Wv
