/- The machine of abstract values: tests, parts of values, contracts. -/
import Derived.Test.YtljfgdlgmdcmfaaGreatWvH
import Derived.Laws.BytesString
import Derived.ChangeKeysEq
namespace Go.Proofs.YtljfgdlgmdcmfaaGreat.Wv
open Go.RowKit
set_option linter.unusedVariables false
set_option autoImplicit false

def isPtrP (P : Program) (T : TypeId) : Bool := match P.underlying T with | some (.pointer _) => true | _ => false
/-- Is a pointer none? -/
def nilPA (h : Hp) : AV → Option Bool
  | .v (.pointer p) => some p.isNone
  | .ptr id off => if liveA h (.ptr id off) then some false else none
  | .ap id n off => if liveA h (.ap id n off) then some false else none
  | .tp _ => some false
  | _ => none
/-- Is a slice none? -/
def nilSA (h : Hp) : AV → Option Bool
  | .v (.slice p _ _) => some p.isNone
  | .t n s cells => if 0 < n then some false else none
  | _ => none

theorem nilPA_ok {X : Cx} {x : AV} {b : Bool} {v : Value} (h : nilPA X.h x = some b) (hr : Rep X x v) : ∃ p, v = .pointer p ∧ b = p.isNone := by
  cases x with
  | v y =>
    cases y with
    | pointer p => simp only [nilPA] at h; injection h with h; cases hr; exact ⟨p, rfl, h.symm⟩
    | _ => cases h
  | ptr id off =>
    simp only [nilPA] at h
    split at h
    · next hl => injection h with h; obtain ⟨b', e⟩ := live_ptr hl hr; exact ⟨_, e, h.symm⟩
    · cases h
  | ap id n off =>
    simp only [nilPA] at h
    split at h
    · next hl => injection h with h; obtain ⟨b', e⟩ := live_ap hl hr; exact ⟨_, e, h.symm⟩
    · cases h
  | tp cells => simp only [nilPA] at h; injection h with h; cases hr; exact ⟨_, rfl, h.symm⟩
  | _ => cases h
theorem nilSA_ok {X : Cx} {x : AV} {b : Bool} {v : Value} (h : nilSA X.h x = some b) (hr : Rep X x v) : ∃ p n c, v = .slice p n c ∧ b = p.isNone := by
  cases x with
  | v y =>
    cases y with
    | slice p n c => simp only [nilSA] at h; injection h with h; cases hr; exact ⟨p, n, c, rfl, h.symm⟩
    | _ => cases h
  | t n s cells =>
    simp only [nilSA] at h
    split at h
    · next h0 =>
      injection h with h
      cases hr with
      | t hl hc hn hcap hp hrr =>
      obtain ⟨b', off, e, _⟩ := hp h0
      exact ⟨_, _, _, rfl, by rw [e]; exact h.symm⟩
    · cases h
  | _ => cases h

def isFnP (P : Program) (T : TypeId) : Bool := match P.underlying T with | some (.func _ _ _) => true | _ => false
/-- Is a function none? -/
def nilFA : AV → Option Bool
  | .v .nilFunc => some true
  | .fn _ _ _ => some false
  | _ => none
theorem nilFA_ok {X : Cx} {x : AV} {b : Bool} {v : Value} (h : nilFA x = some b) (hr : Rep X x v) : (v = .nilFunc ∧ b = true) ∨ ((∃ f a c, v = .func f a c) ∧ b = false) := by
  unfold nilFA at h
  split at h
  · injection h with h; cases hr; exact .inl ⟨rfl, h.symm⟩
  · injection h with h; cases hr; exact .inr ⟨⟨_, _, _, rfl⟩, h.symm⟩
  · cases h
/-- What a test of equality says. -/
def eqOp (op : BinOp) (b : Bool) : Option Value := match op with
  | .eql => some (.bool b)
  | .neq => some (.bool (!b))
  | _ => none

def cellsOf (x : AV) : Option (List AV) := match x with
  | .g l => some l
  | .v (.agg cs) => some (cs.toList.map .v)
  | _ => none
/-- Kinds of cells that can be compared. -/
inductive FK where
  | i
  | b
  | s
def fkP (P : Program) (T : TypeId) : Option FK := match P.underlying T with
  | some (.int _) => some .i
  | some .bool => some .b
  | some .string => some .s
  | _ => none
def flatF (P : Program) : Nat → List Field → Option (List FK)
  | _, [] => some []
  | o, f :: r => if (f.name != "_") = true ∧ f.offset = o then match fkP P f.type, flatF P (o + 1) r with
    | some k, some l => some (k :: l)
    | _, _ => none
    else none
/-- The cells of a struct type whose fields are plain, if it can be compared by ==. -/
def flatP (P : Program) (T : TypeId) : Option (List FK) := match P.underlying T with
  | some (.struct fs) => if (!P.stoodInHeld T && !P.eqGuardType P.depth T) = true then flatF P 0 fs.toList else none
  | _ => none
def eqC : FK → AV → AV → Option Bool
  | .i, .v (.int k a), .v (.int k' b) => if k = k' then some (decide (a = b)) else none
  | .b, .v (.bool a), .v (.bool b) => some (a == b)
  | .s, .v (.string a), .v (.string b) => some (decide (a = b))
  | _, _, _ => none
def andO : Option Bool → Option Bool → Option Bool
  | some p, some q => some (p && q)
  | _, _ => none
def eqL : List FK → List AV → List AV → Option Bool
  | [], [], [] => some true
  | k :: ks, a :: l, b :: m => andO (eqC k a b) (eqL ks l m)
  | _, _, _ => none
def eqG (P : Program) (op : BinOp) (T : TypeId) (l m : Option (List AV)) : Option Value := match flatP P T, l, m with
  | some ks, some l, some m => (eqL ks l m).bind (eqOp op)
  | _, _, _ => none
theorem fkP_plain {P : Program} {T : TypeId} {k : FK} (h : fkP P T = some k) : P.plainKey T = true := by
  unfold fkP at h
  unfold Program.plainKey
  split at h
  · next hu => rw [hu]
  · next hu => rw [hu]
  · next hu => rw [hu]
  · cases h
theorem eqC_run {P : Program} {X : Cx} {T : TypeId} {k : FK} {a b : AV} {u v : Value} {r : Bool} (d : Nat) (hk : fkP P T = some k) (h : eqC k a b = some r) (ha : Rep X a u) (hb : Rep X b v) : (Op.equalIn (d + 1) T u v).run P X.w = .ok r X.w := by
  unfold eqC at h
  split at h
  · split at h
    · next e =>
      subst e
      injection h with h; subst h
      cases ha; cases hb
      unfold fkP at hk
      split at hk
      · next hu => rw [run_equalIn_int X.w d T _ _ _ _ hu]; rfl
      all_goals cases hk
    · cases h
  · injection h with h; subst h
    cases ha; cases hb
    unfold fkP at hk
    split at hk
    · cases hk
    · next hu => exact run_equalIn_bool X.w d T _ _ hu
    all_goals cases hk
  · injection h with h; subst h
    cases ha; cases hb
    unfold fkP at hk
    split at hk
    · cases hk
    · cases hk
    · next hu =>
      rw [run_equalIn_string X.w d T _ _ hu, ← beq_toListBytes]
      refine congrArg (fun z => Result.ok z X.w) ?_
      rename_i a b _
      rw [Bool.eq_iff_iff, beq_toListBytes, ByteArray.toList_eq, ByteArray.toList_eq, decide_eq_true_iff, beq_iff_eq]
      exact ⟨fun h => by cases a; cases b; simp only [ByteArray.mk.injEq]; exact Array.toList_inj.1 h, fun h => by rw [h]⟩
    · cases hk
  · cases h
theorem eqL_run {P : Program} {X : Cx} {xs ys : Array Value} (d : Nat) : ∀ (fs : List Field) (o : Nat) (ks : List FK) (l m : List AV) (r : Bool), flatF P o fs = some ks → eqL ks l m = some r →
    (∀ (i : Nat) (a : AV), l[i]? = some a → ∃ x, xs[o + i]? = some x ∧ Rep X a x) → (∀ (i : Nat) (a : AV), m[i]? = some a → ∃ x, ys[o + i]? = some x ∧ Rep X a x) → (Op.eqFields (d + 1) xs ys fs).run P X.w = .ok r X.w
  | [], o, ks, l, m, r, hf, h, hx, hy => by
    injection hf with hf; subst hf
    cases l <;> cases m <;> simp only [eqL] at h <;> cases h
    rfl
  | f :: fs, o, ks, l, m, r, hf, h, hx, hy => by
    simp only [flatF] at hf
    split at hf
    · next hc =>
      split at hf
      · next k ks' hk hks =>
        injection hf with hf; subst hf
        cases l with
        | nil => cases m <;> cases h
        | cons a l =>
        cases m with
        | nil => cases h
        | cons b m =>
        simp only [eqL] at h
        cases h1 : eqC k a b with
        | none => rw [h1] at h; cases h
        | some p =>
        cases h2 : eqL ks' l m with
        | none => rw [h1, h2] at h; cases h
        | some q =>
        rw [h1, h2] at h
        injection h with h; subst h
        obtain ⟨u, hu, ru⟩ := hx 0 a rfl
        obtain ⟨v, hv, rv⟩ := hy 0 b rfl
        have hpl := fkP_plain hk
        have ih := eqL_run d fs (o + 1) ks' l m q hks h2 (fun i a' hi => by
          obtain ⟨x, e1, e2⟩ := hx (i + 1) a' hi
          exact ⟨x, by rw [Nat.add_assoc, Nat.add_comm 1]; exact e1, e2⟩) (fun i a' hi => by
          obtain ⟨x, e1, e2⟩ := hy (i + 1) a' hi
          exact ⟨x, by rw [Nat.add_assoc, Nat.add_comm 1]; exact e1, e2⟩)
        have hne : f.name ≠ "_" := by simpa using hc.1
        rw [Nat.add_zero] at hu hv
        simp only [Op.eqFields, if_pos hne, Sem.run_bind, run_part_plain X.w hpl (hc.2 ▸ hu), run_part_plain X.w hpl (hc.2 ▸ hv), eqC_run d hk h1 ru rv, Result.andThen_ok]
        cases p
        · simp
        · simpa using ih
      · cases hf
    · cases hf
theorem cells_of {X : Cx} {a : AV} {l : List AV} {v : Value} (h : cellsOf a = some l) (hr : Rep X a v) : ∃ cs : Array Value, v = .agg cs ∧ ∀ (i : Nat) (b : AV), l[i]? = some b → ∃ x, cs[0 + i]? = some x ∧ Rep X b x := by
  unfold cellsOf at h
  split at h
  · injection h with h; subst h
    cases hr with
    | @g _ cvs hc hr =>
      refine ⟨_, rfl, fun i b hb => ?_⟩
      have hi := (List.getElem?_eq_some_iff.1 hb).1
      have hi2 : i < cvs.length := by omega
      exact ⟨cvs[i], by simp [hi2], hr i b _ hb (List.getElem?_eq_getElem hi2)⟩
  · next cs =>
    injection h with h; subst h
    cases hr
    refine ⟨_, rfl, fun i b hb => ?_⟩
    rw [List.getElem?_map] at hb
    simp only [Array.getElem?_toList] at hb
    cases hq : cs[i]? with
    | none => rw [hq] at hb; cases hb
    | some y =>
      rw [hq] at hb
      injection hb with hb; subst hb
      exact ⟨y, by simpa using hq, .v y⟩
  · cases h
def binA (P : Program) (h : Hp) (op : BinOp) (T : TypeId) (x y : AV) : Option Value :=
  match y with
  | .v (.bool b) => match x with
    | .v (.bool a) => if isBoolP P T then eqOp op (a == b) else none
    | _ => none
  | .v (.int k' b) => match x with
    | .v (.int k a) => binV op (.int k a) (.int k' b)
    | _ => none
  | .v (.string b) => match x with
    | .v (.string a) => binV op (.string a) (.string b)
    | _ => none
  | .v (.pointer none) => if isPtrP P T then (nilPA h x).bind (eqOp op) else none
  | .v (.slice none 0 0) => if (elemP P T).isSome then (nilSA h x).bind (eqOp op) else none
  | .v .nilFunc => if isFnP P T then (nilFA x).bind (eqOp op) else none
  | .t 1 1 [] => some (.int .i64 0)
  | .g m => eqG P op T (cellsOf x) (some m)
  | .v (.agg cs) => eqG P op T (cellsOf x) (some (cs.toList.map .v))
  | _ => none

/-- What no value is: the answer of a call that never returns. -/
def isPz : AV → Bool
  | .t 1 1 [] => true
  | _ => false
theorem pz_no {X : Cx} {a : AV} {v : Value} (h : isPz a = true) (hr : Rep X a v) : False := by
  unfold isPz at h
  split at h
  · cases hr with | t hl hc hn hcap hp hr => simp at hl
  · cases h
theorem eq_at {P : Program} {w : World} {T : TypeId} {u v : Value} {b : Bool} (h : ∀ d : Nat, (Op.equalIn (d + 1) T u v).run P w = .ok b w) : (Op.equal T u v).run P w = .ok b w := h 9999
theorem eqOp_run {P : Program} {w : World} {op : BinOp} {T : TypeId} {u v r : Value} {b : Bool} (h : eqOp op b = some r) (he : (Op.equal T u v).run P w = .ok b w)
    (h1 : binOp .eql T u v = do pure (.bool (← Op.equal T u v))) (h2 : binOp .neq T u v = do pure (.bool (!(← Op.equal T u v)))) : (binOp op T u v).run P w = .ok r w := by
  cases op <;> simp only [eqOp] at h
  case eql => injection h with h; subst h; rw [h1]; simp [he]
  case neq => injection h with h; subst h; rw [h2]; simp [he]
  all_goals cases h

theorem eqG_run {P : Program} {X : Cx} {op : BinOp} {T : TypeId} {x y : Operand} {a m : AV} {u v r : Value} (h : eqG P op T (cellsOf a) (cellsOf m) = some r) (ha : Rep X a u) (hb : Rep X m v) :
    (do eqGuard op T x y u v; binOp op T u v : Sem Value).run P X.w = .ok r X.w := by
  unfold eqG at h
  split at h
  · next ks l m' hk hl hm =>
    obtain ⟨xs, rfl, hx⟩ := cells_of hl ha
    obtain ⟨ys, rfl, hy⟩ := cells_of hm hb
    unfold flatP at hk
    split at hk
    · next fs hu =>
      split at hk
      · next hc =>
        rw [Bool.and_eq_true, Bool.not_eq_true', Bool.not_eq_true'] at hc
        have hfs : P.fieldsOf T = fs := by simp [Program.fieldsOf, hu]
        cases hq : eqL ks l m' with
        | none => rw [hq] at h; cases h
        | some b =>
          rw [hq] at h
          have h1 : ∀ d : Nat, (Op.equalIn (d + 1 + 1) T (.agg xs) (.agg ys)).run P X.w = .ok b X.w := fun d => by
            rw [run_equalIn_struct X.w (d + 1) T xs ys (by rw [hfs]; exact hu) hc.1, hfs]
            exact eqL_run d _ 0 ks l m' b hk hq hx hy
          have h2 : (Op.equal T (.agg xs) (.agg ys)).run P X.w = .ok b X.w := h1 9998
          have h3 := eqOp_run (P := P) (w := X.w) (T := T) (u := .agg xs) (v := .agg ys) h h2 rfl rfl
          simp only [Sem.run_bind, run_eqGuard_agg X.w op T x y xs ys hc.2, Result.andThen_ok, h3]
      · cases hk
    · cases hk
  · cases h
theorem binA_ok {P : Program} {X : Cx} {op : BinOp} {T : TypeId} {x y : Operand} {a b : AV} {u v r : Value} (h : binA P X.h op T a b = some r) (ha : Rep X a u) (hb : Rep X b v) :
    (do eqGuard op T x y u v; binOp op T u v : Sem Value).run P X.w = .ok r X.w := by
  unfold binA at h
  split at h
  · next q =>
    split at h
    · next p =>
      split at h
      · next hB =>
        have hu : P.underlying T = some .bool := by
          unfold isBoolP at hB
          split at hB
          · assumption
          · cases hB
        cases ha; cases hb
        have := eqOp_run (P := P) (w := X.w) (T := T) (u := .bool p) (v := .bool q) h (eq_at fun d => by simp [Op.equalIn, run_underlying hu]) rfl rfl
        simp [eqGuard, this]
      · cases h
    · cases h
  · next k' q =>
    split at h
    · cases ha; cases hb; exact binV_ok h X.w
    · cases h
  · next q =>
    split at h
    · cases ha; cases hb; exact binV_ok h X.w
    · cases h
  · split at h
    · next hB =>
      have hu : ∃ e, P.underlying T = some (.pointer e) := by
        unfold isPtrP at hB
        split at hB
        · exact ⟨_, by assumption⟩
        · cases hB
      obtain ⟨e, hu⟩ := hu
      cases hb
      cases hn : nilPA X.h a with
      | none => rw [hn] at h; cases h
      | some bb =>
        rw [hn] at h
        obtain ⟨p, rfl, rfl⟩ := nilPA_ok hn ha
        cases p with
        | none =>
          have := eqOp_run (P := P) (w := X.w) (T := T) (u := .pointer none) (v := .pointer none) h (eq_at fun d => by simp [Op.equalIn, run_underlying hu]) rfl rfl
          simp [eqGuard, this]
        | some ad =>
          have := eqOp_run (P := P) (w := X.w) (T := T) (u := .pointer (some ad)) (v := .pointer none) h (eq_at fun d => by simp [Op.equalIn, run_underlying hu]) rfl rfl
          simp [eqGuard, this]
    · cases h
  · split at h
    · next hB =>
      obtain ⟨e, he⟩ := Option.isSome_iff_exists.1 hB
      have hu := elemP_u he
      cases hb
      cases hn : nilSA X.h a with
      | none => rw [hn] at h; cases h
      | some bb =>
        rw [hn] at h
        obtain ⟨p, n, c, rfl, rfl⟩ := nilSA_ok hn ha
        cases p with
        | none =>
          have := eqOp_run (P := P) (w := X.w) (T := T) (u := .slice none n c) (v := .slice none 0 0) h (eq_at fun d => by simp [Op.equalIn, run_underlying hu]) rfl rfl
          simp [eqGuard, this]
        | some ad =>
          have := eqOp_run (P := P) (w := X.w) (T := T) (u := .slice (some ad) n c) (v := .slice none 0 0) h (eq_at fun d => by simp [Op.equalIn, run_underlying hu]) rfl rfl
          simp [eqGuard, this]
    · cases h
  · split at h
    · next hB =>
      have hu : ∃ e1 e2 e3, P.underlying T = some (.func e1 e2 e3) := by
        unfold isFnP at hB
        split at hB
        · exact ⟨_, _, _, by assumption⟩
        · cases hB
      obtain ⟨e1, e2, e3, hu⟩ := hu
      cases hb
      cases hn : nilFA a with
      | none => rw [hn] at h; cases h
      | some bb =>
        rw [hn] at h
        rcases nilFA_ok hn ha with ⟨rfl, rfl⟩ | ⟨⟨f, c1, c2, rfl⟩, rfl⟩
        · have := eqOp_run (P := P) (w := X.w) (T := T) (u := .nilFunc) (v := .nilFunc) h (eq_at fun d => by simp [Op.equalIn, run_underlying hu]) rfl rfl
          simp [eqGuard, this]
        · have := eqOp_run (P := P) (w := X.w) (T := T) (u := .func f c1 c2) (v := .nilFunc) h (eq_at fun d => by simp [Op.equalIn, run_underlying hu]) rfl rfl
          simp [eqGuard, this]
    · cases h
  · exact (pz_no rfl hb).elim
  · next m => exact eqG_run (m := .g m) h ha hb
  · next cs => exact eqG_run (m := .v (.agg cs)) h ha hb
  · cases h

def unA (op : UnOp) (x : AV) : Option Value := match op, x with
  | .not, .v (.bool b) => some (.bool (!b))
  | .neg, .v (.int k n) => some (.int k (k.wrap (0 - n)))
  | _, _ => none
theorem unA_ok {P : Program} {X : Cx} {op : UnOp} {x : AV} {v r : Value} (h : unA op x = some r) (hr : Rep X x v) : (Op.unary op v).run P X.w = .ok r X.w := by
  unfold unA at h
  split at h
  · injection h with h; subst h; cases hr; simp [Op.unary]
  · injection h with h; subst h; cases hr; simp [Op.unary, Op.intArith]
  · cases h

theorem intP_u {P : Program} {T : TypeId} {k : IntKind} (h : intP P T = some k) : P.underlying T = some (.int k) := by
  unfold intP at h
  cases hu : P.underlying T with
  | none => rw [hu] at h; cases h
  | some d => rw [hu] at h; cases d <;> simp_all
def intsOf : List AV → Option (List Int)
  | [] => some []
  | .v (.int .u8 z) :: r => (intsOf r).map fun l => z :: l
  | _ => none
def strOf (ns : List Int) : ByteArray := ns.foldl (fun r n => r.push (UInt8.ofNat n.toNat)) ByteArray.empty
def strA (P : Program) (src dst : TypeId) (s : Nat) (cells : List AV) : Option Value :=
  if s = 1 ∧ (elemP P src).bind (intP P) = some .u8 ∧ isStrP P dst = true then (intsOf cells).map fun ns => .string (strOf ns) else none
def convA (P : Program) (h : Hp) (src dst : TypeId) (x : AV) : Option Value := match x with
  | .v (.int _ n) => if (P.underlying src).isSome then (intP P dst).map fun k => .int k (k.wrap n) else none
  | .v (.string s) => if isStrP P src = true ∧ isStrP P dst = true then some (.string s) else none
  | .t n s cells => if cells.length = n * s then strA P src dst s cells else none
  | .own id n => match h[id]? with
    | some (some (.arr _ s cells _)) => if cells.length = n * s then strA P src dst s cells else none
    | _ => none
  | _ => none
theorem isStrP_u {P : Program} {T : TypeId} (h : isStrP P T = true) : P.underlying T = some .string := by
  unfold isStrP at h
  split at h
  · assumption
  · cases h
theorem intsOf_ok {X : Cx} : ∀ (cells : List AV) (ns : List Int) (cvs : List Value), intsOf cells = some ns → RepL X cells cvs → cvs = ns.map (Value.int .u8)
  | [], ns, cvs, h, hr => by
    simp only [intsOf] at h; injection h with h; subst h
    exact List.eq_nil_of_length_eq_zero hr.1
  | a :: r, ns, [], h, hr => by have := hr.1; simp at this
  | a :: r, ns, x :: cvs, h, hr => by
    unfold intsOf at h
    split at h
    · rename_i heq; cases heq
    · rename_i z r' heq
      injection heq with e1 e2; subst e1 e2
      cases hi : intsOf r with
      | none => rw [hi] at h; cases h
      | some l =>
        rw [hi] at h; injection h with h; subst h
        have hx := hr.2 0 _ x rfl rfl
        cases hx
        rw [List.map_cons, intsOf_ok r l cvs hi ⟨by have := hr.1; simp at this; omega, fun i b y q1 q2 => hr.2 (i + 1) b y (by simpa using q1) (by simpa using q2)⟩]
    · cases h
theorem add_off (b off j : Nat) : (⟨b, off, none⟩ : Addr).add j = ⟨b, off + j, none⟩ := by
  unfold Addr.add
  split
  · next h0 => rw [h0]; rfl
  · rfl
theorem str_run {P : Program} {X : Cx} {src dst : TypeId} {s n cap : Nat} {cells : List AV} {cvs : List Value} {p : Option Addr} {r : Value} (h : strA P src dst s cells = some r) (hl : cells.length = n * s) (hr : RepL X cells cvs)
    (hp : 0 < n → ∃ b off, p = some ⟨b, off, none⟩ ∧ ∀ (i : Nat) (x : Value), cvs[i]? = some x → cellAt X.w b (off + i) = some x) : (convert src dst (.slice p n cap)).run P X.w = .ok r X.w := by
  unfold strA at h
  split at h
  · next hc =>
    obtain ⟨rfl, he, hd⟩ := hc
    rw [Nat.mul_one] at hl
    cases hE : elemP P src with
    | none => rw [hE] at he; cases he
    | some e =>
      rw [hE] at he
      cases hi : intsOf cells with
      | none => rw [hi] at h; cases h
      | some ns =>
        rw [hi] at h; injection h with h; subst h
        have hcv := intsOf_ok cells ns cvs hi hr
        have hlen : ns.length = n := by have := hr.1; rw [hcv, List.length_map] at this; omega
        rw [run_convert_bytes_string X.w src dst e p n cap (elemP_u hE) (intP_u he) (isStrP_u hd)]
        cases p with
        | none =>
          have hn : n = 0 := by
            rcases Nat.eq_zero_or_pos n with h0 | h0
            · exact h0
            · obtain ⟨b, off, q, _⟩ := hp h0; cases q
          subst hn
          have : ns = [] := List.eq_nil_of_length_eq_zero hlen
          subst this
          simp [Conv.bytesToString, strOf]
        | some a =>
          refine run_bytesToString X.w a n cap ns ?_
          have := run_loadCells_list (P := P) X.w a (ns.map (Value.int .u8)) fun j v hv => by
            have hj := (List.getElem?_eq_some_iff.1 hv).1
            rw [List.length_map] at hj
            obtain ⟨b, off, q, hq⟩ := hp (by omega)
            injection q with q; subst q
            rw [add_off]
            exact hq j v (by rw [hcv]; exact hv)
          rw [List.length_map, hlen] at this
          exact this
  · cases h
theorem convA_ok {P : Program} {X : Cx} {src dst : TypeId} {x : AV} {v r : Value} (hX : Ok X) (h : convA P X.h src dst x = some r) (hr : Rep X x v) : (convert src dst v).run P X.w = .ok r X.w := by
  unfold convA at h
  split at h
  · next k n =>
    split at h
    · next hs =>
      obtain ⟨d, hd⟩ := Option.isSome_iff_exists.1 hs
      cases hk : intP P dst with
      | none => rw [hk] at h; cases h
      | some k2 =>
        rw [hk] at h; injection h with h; subst h
        cases hr
        simp [convert, run_underlying hd, run_underlying (intP_u hk), Conv.intToInt]
    · cases h
  · next s =>
    split at h
    · next hc =>
      injection h with h; subst h
      cases hr
      simp [convert, run_underlying (isStrP_u hc.1), run_underlying (isStrP_u hc.2)]
    · cases h
  · next n s cells =>
    split at h
    · next hl =>
      cases hr with
      | t hl' hc hn hcap hp hr =>
        refine str_run h hl ⟨hc, hr⟩ fun h0 => ?_
        obtain ⟨b, off, q1, q2⟩ := hp h0
        exact ⟨b, off, q1, fun i x hx => (q2 i x hx).1⟩
    · cases h
  · next id n =>
    split at h
    · next T s cells fz hid =>
      split at h
      · next hl =>
        cases hr with
        | own hid' hh =>
          rw [(hh _ _ _ _ hid).2 hl]
          obtain ⟨g1, g2, n', g3, g4⟩ := hX.arr id T s cells fz hid
          rcases g4 with ⟨g4, g5⟩ | ⟨b, cvs, g4⟩
          · rw [g4]
            have hn0 : n = 0 := by
              rw [g5] at hl
              rcases Nat.mul_eq_zero.1 hl.symm with h0 | h0
              · exact h0
              · omega
            subst hn0
            exact str_run (cvs := []) h hl ⟨by rw [g5]; rfl, fun i a x q1 => by rw [g5] at q1; simp at q1⟩ (fun h0 => absurd h0 (Nat.lt_irrefl _))
          · have hle : cells.length ≤ cvs.size := by
              rw [g4.sz, g3]; exact Nat.mul_le_mul_right _ g4.cap
            refine str_run (cvs := cvs.toList.take cells.length) h hl ⟨by simp; omega, fun i a x q1 q2 => ?_⟩ fun _ => ⟨b, 0, by rw [g4.at_]; rfl, fun i x hx => ?_⟩
            · rw [List.getElem?_take] at q2
              split at q2
              · exact g4.rep i a x q1 (by simpa using q2)
              · cases q2
            · rw [List.getElem?_take] at hx
              split at hx
              · rw [Nat.zero_add, cellAt_blk g4.blk]; simpa using hx
              · cases hx
      · cases h
    · cases h
  · cases h

theorem convA_any {P : Program} {src dst : TypeId} {x : AV} {r : Value} (h : Hp) (hc : convA P [] src dst x = some r) : convA P h src dst x = some r := by
  unfold convA at hc ⊢
  split at hc <;> first | exact hc | (simp at hc)

def extrA (x : AV) (i : Nat) : Option AV := match x with
  | .tup l => l[i]?
  | _ => none
theorem extrA_ok {P : Program} {X : Cx} {x r : AV} {i : Nat} {v : Value} (h : extrA x i = some r) (hr : Rep X x v) : ∃ u, (Instr.extract v i).run P X.w = .ok u X.w ∧ Rep X r u := by
  cases x with
  | tup l =>
    simp only [extrA] at h
    cases hr with
    | @tup _ cvs hc hrr =>
    have hi := (List.getElem?_eq_some_iff.1 h).1
    obtain ⟨u, hu⟩ : ∃ u, cvs[i]? = some u := ⟨_, List.getElem?_eq_getElem (by omega)⟩
    exact ⟨u, by simp [Instr.extract, hu], hrr i r u h hu⟩
  | _ => cases h

/-- A part of a struct or an array. -/
theorem part_ok {P : Program} {X : Cx} {T : TypeId} {l : List AV} {r : AV} {o : Nat} {cvs : List Value} (h : takeA P T (l.drop o) = some r) (hc : cvs.length = l.length) (hr : ∀ (i : Nat) (a : AV) (x : Value), l[i]? = some a → cvs[i]? = some x → Rep X a x) :
    ∃ u, (part T cvs.toArray o).run P X.w = .ok u X.w ∧ Rep X r u := by
  unfold takeA at h
  cases ha : aggP P T with
  | none => rw [ha] at h; cases h
  | some ab =>
    cases hs : szP P T with
    | none => rw [ha, hs] at h; cases ab <;> cases h
    | some s =>
      obtain ⟨d, hu, hd⟩ := aggP_u ha
      obtain ⟨i, hi, hsi⟩ := szP_i hs
      have h2 := isRow_agg hu X.w
      rw [hd] at h2
      rw [ha, hs] at h
      cases ab with
      | false =>
        simp only at h
        rw [List.getElem?_drop] at h
        have h0 := (List.getElem?_eq_some_iff.1 h).1
        obtain ⟨x, hx⟩ : ∃ x, cvs[o + 0]? = some x := ⟨_, List.getElem?_eq_getElem (by omega)⟩
        refine ⟨x, ?_, hr _ r x h hx⟩
        rw [Nat.add_zero] at hx
        simp [part, h2, hx]
      | true =>
        simp only at h
        split at h
        · next hle =>
          injection h with h; subst h
          rw [List.length_drop] at hle
          refine ⟨.agg (cvs.toArray.extract o (o + s)), ?_, ?_⟩
          · simp [part, h2, sizeOf, typeInfo, hi, hsi]
          · have := Rep.g (X := X) (cells := (l.drop o).take s) (cvs := (cvs.drop o).take s) (by simp; omega) (fun j a x q1 q2 => by
              rw [List.getElem?_take] at q1 q2
              split at q1
              · next hj =>
                rw [if_pos hj] at q2
                rw [List.getElem?_drop] at q1 q2
                exact hr _ a x q1 q2
              · cases q1)
            have e : (cvs.toArray.extract o (o + s)) = ((cvs.drop o).take s).toArray := by
              apply Array.ext'
              simp
            rw [e]; exact this
        · cases h

theorem cellsOf_ok {X : Cx} {x : AV} {l : List AV} {v : Value} (h : cellsOf x = some l) (hr : Rep X x v) : ∃ cvs : List Value, v = .agg cvs.toArray ∧ cvs.length = l.length ∧ ∀ (i : Nat) (a : AV) (x : Value), l[i]? = some a → cvs[i]? = some x → Rep X a x := by
  cases x with
  | g l' =>
    simp only [cellsOf] at h; injection h with h; subst h
    cases hr with
    | g hc hrr => exact ⟨_, rfl, hc, hrr⟩
  | v y =>
    cases y with
    | agg cs =>
      simp only [cellsOf] at h; injection h with h; subst h
      cases hr
      refine ⟨cs.toList, by simp, by simp, fun i a x h1 h2 => ?_⟩
      rw [List.getElem?_map, h2] at h1
      injection h1 with h1; subst h1
      exact .v x
    | _ => cases h
  | _ => cases h

def fieldA (P : Program) (S : TypeId) (x : AV) (f : Nat) : Option AV := (fldP P S f).bind fun ot => (cellsOf x).bind fun l => takeA P ot.2 (l.drop ot.1)
theorem fieldA_ok {P : Program} {X : Cx} {S : TypeId} {x r : AV} {f : Nat} {v : Value} (h : fieldA P S x f = some r) (hr : Rep X x v) : ∃ u, (Instr.field S v f).run P X.w = .ok u X.w ∧ Rep X r u := by
  unfold fieldA at h
  cases hf : fldP P S f with
  | none => rw [hf] at h; cases h
  | some ot =>
    obtain ⟨o, T⟩ := ot
    rw [hf] at h
    simp only [Option.bind_some] at h
    cases hl : cellsOf x with
    | none => rw [hl] at h; cases h
    | some l =>
      rw [hl] at h
      simp only [Option.bind_some] at h
      obtain ⟨cvs, rfl, hc, hrr⟩ := cellsOf_ok hl hr
      obtain ⟨fs, y, hu, hy, e1, e2⟩ := fldP_u hf
      obtain ⟨u, h1, h2⟩ := part_ok (P := P) h hc hrr
      refine ⟨u, ?_, h2⟩
      subst e1 e2
      simp [Instr.field, run_underlying hu, hy, asAgg, h1]

def indexA (P : Program) (T : TypeId) (x : AV) (z : Int) : Option AV := match x with
  | .v (.string s) => if isStrP P T ∧ 0 ≤ z then (s[z.toNat]?).map fun b => .v (.int .u8 b.toNat) else none
  | x => match arrP P T with
    | some (n, e) => (szP P e).bind fun s => if 0 ≤ z ∧ z < n then (cellsOf x).bind fun l => takeA P e (l.drop (z.toNat * s)) else none
    | none => none
theorem indexA_ok {P : Program} {X : Cx} {T : TypeId} {x r ia : AV} {z : Int} {v iv : Value} (h : indexA P T x z = some r) (hr : Rep X x v) (hi : intA ia = some z) (hri : Rep X ia iv) : ∃ u, (Instr.index T v iv).run P X.w = .ok u X.w ∧ Rep X r u := by
  obtain ⟨k, rfl⟩ := intA_ok hi hri
  unfold indexA at h
  split at h
  · next s =>
    split at h
    · next hc =>
      have hu : P.underlying T = some .string := by
        have := hc.1
        unfold isStrP at this
        split at this
        · assumption
        · cases this
      cases hr
      cases hb : s[z.toNat]? with
      | none => rw [hb] at h; cases h
      | some b =>
        rw [hb] at h; injection h with h; subst h
        refine ⟨.int .u8 b.toNat, ?_, .v _⟩
        simp [Instr.index, asIntOf, run_underlying hu, hc.2, hb]
    · cases h
  · split at h
    · next n e ha =>
      cases hs : szP P e with
      | none => rw [hs] at h; cases h
      | some s =>
        obtain ⟨i, hii, hsi⟩ := szP_i hs
        rw [hs] at h
        simp only [Option.bind_some] at h
        split at h
        · next hc =>
          cases hl : cellsOf x with
          | none => rw [hl] at h; cases h
          | some l =>
            rw [hl] at h
            simp only [Option.bind_some] at h
            obtain ⟨cvs, rfl, hcl, hrr⟩ := cellsOf_ok hl hr
            obtain ⟨u, h1, h2⟩ := part_ok (P := P) h hcl hrr
            refine ⟨u, ?_, h2⟩
            simp [Instr.index, asIntOf, run_underlying (arrP_u ha), hc.1, hc.2, sizeOf, typeInfo, hii, hsi, h1]
        · cases h
    · cases h
end Go.Proofs.YtljfgdlgmdcmfaaGreat.Wv
