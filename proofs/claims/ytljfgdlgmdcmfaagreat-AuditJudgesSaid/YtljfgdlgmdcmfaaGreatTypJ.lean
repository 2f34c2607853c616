/- Typing: the shape of an expression (the program's side). -/
import Derived.Test.YtljfgdlgmdcmfaaGreatTypI
namespace Go.Proofs.YtljfgdlgmdcmfaaGreat
open Go.RowKit Wv
set_option linter.unusedVariables false
set_option linter.unusedSimpArgs false

def rulesE : List (Value × AV) := [(.int .i64 2, .fn (.func 164) [.ptr 0 0] []), (.int .i64 3, .fn (.func 165) [.ptr 0 0] []), (.int .i64 7, .fn (.func 166) [.ptr 0 0] []), (.int .i64 8, .fn (.func 167) [.ptr 0 0] []), (.int .i64 10, .fn (.func 168) [.ptr 0 0] []), (.int .i64 14, .fn (.func 169) [.ptr 0 0] []), (.int .i64 11, .fn (.func 170) [.ptr 0 0] []), (.int .i64 13, .fn (.func 171) [.ptr 0 0] []), (.int .i64 12, .fn (.func 172) [.ptr 0 0] [])]
set_option maxHeartbeats 400000 in
set_option maxRecDepth 100000 in
theorem prules_rd {h : Hp} (h0 : 0 < h.length) (hh : loH h.length h) : RD Tryz.prog 110 [.ptr 0 0] h (fun r => r = .tm rulesE) (fun _ => False) := by
  refine RD.of ?_ (by rintro r rfl; unfold rulesE; refine .tm fun p hp => ?_; simp only [List.mem_cons, List.not_mem_nil, or_false] at hp; rcases hp with rfl | rfl | rfl | rfl | rfl | rfl | rfl | rfl | rfl <;> exact .fn (by rintro a ha; rw [List.mem_singleton] at ha; subst ha; exact .ptr h0) (by rintro a ha; cases ha)) (fun r q => q.elim) hh
  refine Wv.HTP.by 23 [0, 2] [(1000000, h.length)] [.tmp 2] Tryz.func110 rfl rfl rfl ?base ?_
  case base => rfl
  have hget : ∀ o : Option Ob, (h ++ [o])[h.length]? = some o := fun o => List.getElem?_concat_length
  have hset : ∀ o o' : Option Ob, (h ++ [o]).set h.length o' = h ++ [o'] := fun o o' => by rw [List.set_append_right _ _ (Nat.le_refl _), Nat.sub_self]; rfl
  simp (disch := first | assumption | exact Wv.D | fail) only [Wv.B, simprocAttr, hget, hset]
  exact ⟨rfl, by rw [List.take_append_of_le_length (Nat.le_refl _), List.take_length]⟩

def findN : Nms → ByteArray → Option (Bool × Nat)
  | [], _ => none
  | p :: r, s => if s = p.1 then some p.2 else findN r s
theorem look_ns (s : ByteArray) : ∀ ns : Nms, lookM (.string s) (nsE ns) = (findN ns s).map shA
  | [] => rfl
  | p :: r => by
    have ih := look_ns s r
    show (if keyE (.string s) (.string p.1) = true then some (shA p.2) else lookM (.string s) (nsE r)) = _
    rw [ih]
    show _ = Option.map shA (if s = p.1 then some p.2 else findN r s)
    have : keyE (.string s) (.string p.1) = decide (s = p.1) := ke_str
    rw [this]
    by_cases e : s = p.1
    · rw [if_pos (decide_eq_true e), if_pos e]; rfl
    · rw [if_neg (by simp [e]), if_neg e]
/-- All parts: are they known, how deep, how many are not known. -/
def foldE (f : Nat → Except Int (Bool × Nat)) : Nat → Except Int (Bool × Nat × Nat)
  | 0 => .ok (true, 0, 0)
  | n + 1 => match foldE f n with
    | .error e => .error e
    | .ok (kn, d, u) => match f n with
      | .error e => .error e
      | .ok (k', d') => .ok (kn && k', max d d', if k' = true then u else u + 1)
def nameE : Option (Bool × Nat) → Except Int (Bool × Nat)
  | some r => .ok r
  | none => .error 230
def finE (kn : Bool) (d : Nat) : Except Int Nat → Except Int (Bool × Nat)
  | .error e => .error e
  | .ok m => if (if kn = true then 0 else d + m) ≤ 8 then .ok (kn, if kn = true then 0 else d + m) else .error 232
def nodeE (f : Nat → Except Int Nat) : Except Int (Bool × Nat × Nat) → Except Int (Bool × Nat)
  | .error e => .error e
  | .ok (kn, d, u) => finE kn d (f u)
/-- The shape of an expression. -/
def shE (ns : Nms) (ru : Ex → Nat → Except Int Nat) : Ex → Except Int (Bool × Nat)
  | .nil => .error 0
  | .mk k s n nl li na ar => if k = 1 then nameE (findN ns s) else nodeE (ru (.mk k s n nl li na ar)) (foldE (fun i => shE ns ru (ar i)) na)
def getO : Except Int (Bool × Nat × Nat) → Bool × Nat × Nat
  | .ok r => r
  | .error _ => (true, 0, 0)
def flagR : Except Int Nat → Nat
  | .ok _ => 0
  | .error _ => 1
/-- Does the rule throw? -/
def flagE (f : Nat → Except Int Nat) : Except Int (Bool × Nat × Nat) → Nat
  | .ok (_, _, u) => flagR (f u)
  | .error _ => 0
theorem foldE_err {f : Nat → Except Int (Bool × Nat)} {i : Nat} {e : Int} (h : foldE f i = .error e) : ∀ {n : Nat}, i ≤ n → foldE f n = .error e
  | 0, q => by have : i = 0 := by omega
               subst this; exact h
  | n + 1, q => by
    by_cases hq : i = n + 1
    · subst hq; exact h
    · have := foldE_err h (n := n) (by omega)
      simp only [foldE, this]
theorem shE_le {ns : Nms} {ru : Ex → Nat → Except Int Nat} (hn : ∀ s r, findN ns s = some r → r.2 ≤ 8) (x : Ex) {r : Bool × Nat} (h : shE ns ru x = .ok r) : r.2 ≤ 8 := by
  rcases x with _ | ⟨k, s, n, nl, li, na, ar⟩
  · cases h
  unfold shE at h
  by_cases hk : k = 1
  · rw [if_pos hk] at h
    cases hf : findN ns s with
    | none => rw [hf] at h; cases h
    | some r' => rw [hf] at h; simp only [nameE] at h; injection h with h; subst h; exact hn s _ hf
  · rw [if_neg hk] at h
    cases hf : foldE (fun i => shE ns ru (ar i)) na with
    | error e => rw [hf] at h; cases h
    | ok q =>
      obtain ⟨kn, d, u⟩ := q
      rw [hf] at h
      simp only [nodeE] at h
      cases hr : ru (.mk k s n nl li na ar) u with
      | error e => rw [hr] at h; cases h
      | ok m =>
        rw [hr] at h
        simp only [finE] at h
        by_cases hle : (if kn = true then 0 else d + m) ≤ 8
        · rw [if_pos hle] at h; injection h with h; subst h; exact hle
        · rw [if_neg hle] at h; cases h
theorem foldE_le {f : Nat → Except Int (Bool × Nat)} (hf : ∀ i r, f i = .ok r → r.2 ≤ 8) : ∀ {n : Nat} {r : Bool × Nat × Nat}, foldE f n = .ok r → r.2.1 ≤ 8 ∧ r.2.2 ≤ n
  | 0, r, h => by injection h with h; subst h; exact ⟨by show 0 ≤ 8; omega, Nat.le_refl _⟩
  | n + 1, r, h => by
    simp only [foldE] at h
    split at h
    · cases h
    · next kn d u h1 =>
      have ih := foldE_le hf h1
      split at h
      · cases h
      · next k' d' h2 =>
        have := hf _ _ h2
        injection h with h; subst h
        simp only at this ih ⊢
        refine ⟨by omega, ?_⟩
        split <;> omega
/-- The rule of a kind. -/
def ruleF (k : Int) : Option FuncId := match k with | 2 => some 164 | 3 => some 165 | 7 => some 166 | 8 => some 167 | 10 => some 168 | 14 => some 169 | 11 => some 170 | 13 => some 171 | 12 => some 172 | _ => none
/-- What the rules of an expression's parts have to answer. -/
def RulesOk (x : Par) (t : Int) (ns : Nms) (ru : Ex → Nat → Except Int Nat) (ks : Ex → Prop) : Prop :=
  ∀ e unk, ks e → okE e → formB e = true → unk ≤ 2 → (∀ m, ru e unk = .ok m → m ≤ 4294967296) ∧ match ruleF e.kind with | some f => RuleC x t ns f e unk (ru e unk) | none => ru e unk = .ok 0
/-- All parts of an expression are such. -/
def allK (ks : Ex → Prop) : Ex → Prop
  | .nil => False
  | .mk k s n nl li na ar => ks (.mk k s n nl li na ar) ∧ ∀ i, i < na → allK ks (ar i)
theorem cloA2 {a b : AV} (h1 : Clo a) (h2 : Clo b) : ∀ x, x ∈ [a, b] → Clo x := by
  intro x hx
  rcases List.mem_cons.1 hx with rfl | hx
  · exact h1
  · rw [List.mem_singleton] at hx; subst hx; exact h2
theorem kb_rules : keysB (.int .i64) rulesE = true := rfl
theorem look_rules (k : Int) (h1 : 1 ≤ k) (h2 : k ≤ 15) : lookM (.int .i64 k) rulesE = (ruleF k).map fun f => .fn (.func f) [.ptr 0 0] [] := by
  have : k = 1 ∨ k = 2 ∨ k = 3 ∨ k = 4 ∨ k = 5 ∨ k = 6 ∨ k = 7 ∨ k = 8 ∨ k = 9 ∨ k = 10 ∨ k = 11 ∨ k = 12 ∨ k = 13 ∨ k = 14 ∨ k = 15 := by omega
  rcases this with rfl | rfl | rfl | rfl | rfl | rfl | rfl | rfl | rfl | rfl | rfl | rfl | rfl | rfl | rfl <;> rfl
theorem parL_clo (l : List Nat) : ∀ a, a ∈ l.map (fun (c : Nat) => AV.v (.int .u32 c)) → Clo a := by
  intro a ha
  obtain ⟨c, _, rfl⟩ := List.mem_map.1 ha
  exact .v _
theorem nsE_lo {m : Nat} (ns : Nms) : (∀ x : Value × AV, x ∈ nsE ns → lo m x.2) = True := eq_true fun a ha => .clo (nsE_clo ns _ (List.mem_map_of_mem ha))
theorem parL_lo (l : List Nat) : (∀ a, a ∈ l.map (fun (c : Nat) => AV.v (.int .u32 c)) → Clo a) = True := eq_true (parL_clo l)
theorem kb_ns : ∀ ns : Nms, keysB .str (nsE ns) = true
  | [] => rfl
  | p :: r => kb_ns r
def ShC (x : Par) (t : Int) (ns : Nms) (e : Ex) (o : Except Int (Bool × Nat)) : Prop :=
  RD Tryz.prog 65 [.ptr 0 0, .g (exC e)] (hT x t ns) (fun r => ∃ s, o = .ok s ∧ r = shA s) (fun r => ∃ e, o = .error e ∧ r = stopA e)
theorem formB_args {k : Int} {s : ByteArray} {n : Int} {nl : Nat} {li : Nat → Int} {na : Nat} {ar : Nat → Ex} (h : formB (.mk k s n nl li na ar) = true) : (1 ≤ k ∧ k ≤ 15) ∧ na ≤ 2 ∧ ∀ i, i < na → formB (ar i) = true := by
  unfold formB at h
  simp only [Bool.and_eq_true, Bool.not_eq_true', decide_eq_true_eq, decide_eq_false_iff_not] at h
  obtain ⟨h1, h2, _, h4, _, _, _, _, h8⟩ := h
  have hk : ∀ m : Nat, argN m ≤ 2 := fun m => by unfold argN; split <;> decide
  have := hk k.toNat
  refine ⟨⟨by omega, by omega⟩, by omega, fun i hi => ?_⟩
  unfold anyN at h8
  have h9 := List.any_eq_false.1 h8 i (List.mem_range.2 hi)
  simpa using h9
set_option maxHeartbeats 1600000 in
set_option maxRecDepth 100000 in
theorem pexp_rd (x : Par) (t : Int) (ns : Nms) (ru : Ex → Nat → Except Int Nat) (ks : Ex → Prop) (hns : ∀ s r, findN ns s = some r → r.2 ≤ 8) (hR : RulesOk x t ns ru ks) (e : Ex) (ho : okE e) (hf : formB e = true) (hk : allK ks e) : ShC x t ns e (shE ns ru e) := by
  induction e with
  | nil => exact ho.elim
  | mk k s n nl li na ar ih =>
  obtain ⟨hs, hnl, hna, hh⟩ := ho
  have ⟨⟨hk1, hk2⟩, hna2, hfa⟩ := formB_args hf
  refine RD.of ?_ (by rintro r ⟨s, _, rfl⟩; exact .clo (shA_clo s)) (by rintro r ⟨e, _, rfl⟩; exact .clo (stop_clo e)) (hT_lo x t ns)
  rw [exC_mk]
  unfold hT tyC
  have hS : shE ns ru (.mk k s n nl li na ar) = if k = 1 then nameE (findN ns s) else nodeE (ru (.mk k s n nl li na ar)) (foldE (fun i => shE ns ru (ar i)) na) := rfl
  obtain ⟨c, hc⟩ : ∃ c, c = flagE (ru (.mk k s n nl li na ar)) (foldE (fun i => shE ns ru (ar i)) na) := ⟨_, rfl⟩
  refine Wv.HTP.by 76 [1, 3, 15, 0, 6, 5, 4, 33, 32, 34, 31, 10, 7, 11, 48, 8, 12, 59, 69] [(2, 11), (16, 4), (18, 6), (1000000, 2), (4000018, c)] [.cell 4 42] Tryz.func65 rfl rfl rfl ?base ?_
  case base => rfl
  by_cases hk1 : k = 1
  · rw [if_pos hk1] at hS
    cases hq : findN ns s with
    | none =>
      rw [hq] at hS
      simp only [nameE] at hS
      have hlm := look_ns s ns
      rw [hq] at hlm
      simp only [Option.map_none] at hlm
      simp (disch := first | assumption | exact Wv.D | fail) only [Wv.B, simprocAttr, decide_eq_true hk1, kb_ns, hlm]
      refine call_HTP (fst := []) (cap := []) (demand_rd false 230) (by rintro av h' ⟨hb, _⟩; cases hb) ?_
      rintro av h' ⟨_, rfl, rfl⟩
      simp (disch := first | assumption | exact Wv.D | fail) only [Wv.B, simprocAttr, stop_close, hS]
      exact ⟨230, rfl, rfl⟩
    | some r =>
      rw [hq] at hS
      simp only [nameE] at hS
      have hlm := look_ns s ns
      rw [hq] at hlm
      simp only [Option.map_some, shA] at hlm
      simp (disch := first | assumption | exact Wv.D | fail) only [Wv.B, simprocAttr, decide_eq_true hk1, kb_ns, hlm]
      refine call_HTP (fst := []) (cap := []) (demand_rd true 230) ?_ (by rintro av h' ⟨hb, _⟩; cases hb)
      rintro av h' ⟨_, rfl, rfl⟩
      simp (disch := first | assumption | exact Wv.D | fail) only [Wv.B, simprocAttr, hS]
      exact ⟨r, rfl, rfl⟩
  · rw [if_neg hk1] at hS
    simp (disch := first | assumption | exact Wv.D | fail) only [Wv.B, simprocAttr, decide_eq_false hk1]
    generalize hfE : (fun i => shE ns ru (ar i)) = fE at hS hc
    have hLc := tabM_clo (n := na) (f := fun i => exC (ar i)) fun i _ => exC_clo (ar i)
    have hdr : ∀ i, i < na → ∃ r, List.drop (i * 5) (tabM na fun i => exC (ar i)) = exC (ar i) ++ r := fun i hi => tabM_drop (f := fun i => exC (ar i)) (fun i => exC_len (ar i)) hi
    generalize hL : (tabM na fun i => exC (ar i)) = L at hLc hdr ⊢
    refine wfor (σ := Nat) (fun i => [(0, .ptr 0 0), (3, .ptr 2 0), (4, .ptr 3 0), (7, .ptr 4 0), (8, .v (.int .i64 (getO (foldE fE i)).2.2)), (31, .t na 5 L), (32, .v (.int .i64 na)), (33, .v (.int .i64 i))])
      (fun i => [some (.blk [.v (.int .i64 x.n), .v (.int .u32 x.p), .v (.int .i64 x.r), .t x.ch.length 1 (x.ch.map fun (c : Nat) => .v (.int .u32 c)), .v (.int .u32 x.sp), .v (.int .i64 x.wt), .v (.int .u32 x.er), .v (.int .i64 t), .mp 1]), some (.map (nsE ns)),
        some (.blk [.v (.int .i64 k), .v (.string s), .v (.int .i64 n), .t nl 1 (tab nl fun i => .v (.int .i64 (li i))), .t na 5 L]), some (.blk [.v (.bool false), .v (.int .i64 0)]), some (.blk [.v (.bool (getO (foldE fE i)).1), .v (.int .i64 (getO (foldE fE i)).2.1)])])
      (fun i => i ≤ na ∧ foldE fE i = .ok (getO (foldE fE i))) (fun i => na - i) 0 ⟨Nat.zero_le _, rfl⟩ (by simp (disch := first | assumption | exact Wv.D | fail) only [Wv.B, simprocAttr, foldE, getO]) (by simp (disch := first | assumption | exact Wv.D | fail) only [Wv.B, simprocAttr, foldE, getO]) ?_
    rintro i ⟨hi, hfo⟩
    obtain ⟨r, hr⟩ : ∃ r, getO (foldE fE i) = r := ⟨_, rfl⟩
    rw [hr] at hfo
    by_cases hlt : i < na
    · have e1 : (i : Int) < na := by omega
      obtain ⟨r2, hd⟩ := hdr i hlt
      have T := ih i (hh i hlt) (hfa i hlt) (hk.2 i hlt)
      have hfi : fE i = shE ns ru (ar i) := by rw [← hfE]
      obtain ⟨kn, d, u⟩ := r
      have hle : ∀ r, shE ns ru (ar i) = .ok r → r.2 ≤ 8 := fun r h => shE_le hns (ar i) h
      have hbd := foldE_le (f := fE) (fun j r h => by
        rw [← hfE] at h
        exact shE_le hns (ar j) h) hfo
      simp only at hbd
      have hG := exG_clo (ar i)
      have hE := RD.hT (x := x) (t := t) (ns := ns) (args := [.g (exC (ar i))]) T
      generalize shE ns ru (ar i) = O at hE hfi hle
      clear T
      have hoy := hh i hlt
      generalize ar i = y at hd hE hG hoy
      obtain ⟨k', s', n', nl', li', na', ar', rfl⟩ := ok_mk hoy
      rw [exC_mk] at hd hE hG
      simp only [List.cons_append, List.nil_append] at hd
      unfold tyC at hE
      simp (disch := first | assumption | exact Wv.D | fail) only [Wv.B, simprocAttr, hd, hr]
      refine call_HTP (fst := []) (cap := []) (hE _ (cloA1 hG) (by rintro r ⟨s, _, rfl⟩; exact shA_clo s) (by rintro r ⟨e, _, rfl⟩; exact stop_clo e)) ?_ ?_
      · rintro av h' ⟨⟨⟨k2, d2⟩, hO, rfl⟩, rfl⟩
        subst hO
        have hnx : foldE fE (i + 1) = .ok (kn && k2, max d d2, if k2 = true then u else u + 1) := by simp only [foldE, hfo, hfi]
        have hng : getO (foldE fE (i + 1)) = (kn && k2, max d d2, if k2 = true then u else u + 1) := by rw [hnx]; rfl
        have hd2 := hle _ rfl
        simp only at hd2
        have hmx : (if (d2 : Int) > (d : Int) then (d2 : Int) else (d : Int)) = ((max d d2 : Nat) : Int) := by split <;> omega
        unfold shA
        cases k2 with
        | true =>
          simp (disch := first | assumption | exact Wv.D | fail) only [Wv.B, simprocAttr, hmx]
          refine Wv.k_cut (i + 1) 5 (by first | decide | exact Nat.le_of_ble_eq_true rfl) (⟨by omega, by rw [hnx]; rfl⟩) (by omega) (by simp (disch := first | assumption | exact Wv.D | fail) only [Wv.B, simprocAttr, tab_snoc, hng]) (by simp (disch := first | assumption | exact Wv.D | fail) only [Wv.B, simprocAttr, Int.natCast_add, Int.natCast_one, hng]) (by simp only [Wv.BL, ↓reduceIte, Nat.reduceLeDiff, eq_true hLc, parL_lo, nsE_lo] <;> omega) (by simp only [Wv.BL, ↓reduceIte, Nat.reduceLeDiff, eq_true hLc, parL_lo, nsE_lo] <;> omega)
        | false =>
          simp (disch := first | assumption | exact Wv.D | fail) only [Wv.B, simprocAttr, hmx]
          refine Wv.k_cut (i + 1) 5 (by first | decide | exact Nat.le_of_ble_eq_true rfl) (⟨by omega, by rw [hnx]; rfl⟩) (by omega) (by simp (disch := first | assumption | exact Wv.D | fail) only [Wv.B, simprocAttr, tab_snoc, hng]) (by simp (disch := first | assumption | exact Wv.D | fail) only [Wv.B, simprocAttr, Int.natCast_add, Int.natCast_one, hng]) (by simp only [Wv.BL, ↓reduceIte, Nat.reduceLeDiff, eq_true hLc, parL_lo, nsE_lo] <;> omega) (by simp only [Wv.BL, ↓reduceIte, Nat.reduceLeDiff, eq_true hLc, parL_lo, nsE_lo] <;> omega)
      · rintro av h' ⟨⟨e, hO, rfl⟩, rfl⟩
        subst hO
        have hnx : foldE fE (i + 1) = .error e := by simp only [foldE, hfo, hfi]
        rw [foldE_err hnx (n := na) (by omega)] at hS
        simp only [nodeE] at hS
        simp (disch := first | assumption | exact Wv.D | fail) only [Wv.B, simprocAttr, stop_close, hS]
        exact ⟨e, rfl, rfl⟩
    · have hin : i = na := by omega
      subst hin
      obtain ⟨kn, d, u⟩ := r
      have hbd := foldE_le (f := fE) (fun j r h => by
        rw [← hfE] at h
        exact shE_le hns (ar j) h) hfo
      simp only at hbd
      rw [hfo] at hS hc
      simp only [nodeE] at hS
      simp only [flagE] at hc
      have hRu := hR (.mk k s n nl li i ar) u hk.1 ⟨hs, hnl, hna, hh⟩ hf (by omega)
      generalize ru (.mk k s n nl li i ar) u = O at hS hRu hc
      have hlr := look_rules k (by omega) hk2
      have hG := exG_clo (.mk k s n nl li i ar)
      rw [exC_mk] at hG
      obtain ⟨hm, hRf⟩ := hRu
      unfold RuleC Ex.kind at hRf
      rw [exC_mk] at hRf
      rw [hL] at hG hRf
      simp (disch := first | assumption | exact Wv.D | fail) only [Wv.B, simprocAttr, hr]
      refine calm_HT (fst := []) (cap := []) (prules_rd (Nat.zero_lt_succ _) (by simp only [Wv.BL, ↓reduceIte, Nat.reduceLeDiff, nsE_lo, parL_lo, eq_true hLc, List.length_cons, List.length_nil, Nat.reduceAdd, Nat.reduceLT])) ?_ (by rintro av h' ⟨h, _⟩; exact h.elim)
      cases hq : ruleF k with
      | none =>
        rw [hq] at hlr hRf
        simp only at hRf
        simp only [Option.map_none] at hlr
        subst hRf
        cases kn with
        | true =>
          have hS1 : finE true d (.ok 0) = .ok (true, 0) := rfl
          rw [hS1] at hS
          simp (disch := first | assumption | exact Wv.D | fail) only [Wv.B, simprocAttr, kb_rules, hlr]
          refine call_HTP (fst := []) (cap := []) (demand_rd true 232) ?_ (by rintro av h' ⟨hb, _⟩; cases hb)
          rintro av h' ⟨_, rfl, rfl⟩
          simp (disch := first | assumption | exact Wv.D | fail) only [Wv.B, simprocAttr, hS]
          exact ⟨_, rfl, rfl⟩
        | false =>
          have hS1 : finE false d (.ok 0) = .ok (false, d) := if_pos (by show d + 0 ≤ 8; omega)
          rw [hS1] at hS
          have hd8 : (d : Int) ≤ 8 := by omega
          simp (disch := first | assumption | exact Wv.D | fail) only [Wv.B, simprocAttr, kb_rules, hlr, decide_eq_true hd8]
          refine call_HTP (fst := []) (cap := []) (demand_rd true 232) ?_ (by rintro av h' ⟨hb, _⟩; cases hb)
          rintro av h' ⟨_, rfl, rfl⟩
          simp (disch := first | assumption | exact Wv.D | fail) only [Wv.B, simprocAttr, hS]
          exact ⟨_, rfl, rfl⟩
      | some f =>
        rw [hq] at hlr hRf
        simp only at hRf
        simp only [Option.map_some] at hlr
        have hE := RD.hT (x := x) (t := t) (ns := ns) (args := [.g _, .v (.int .i64 u)]) hRf
        unfold tyC at hE
        simp (disch := first | assumption | exact Wv.D | fail) only [Wv.B, simprocAttr, kb_rules, hlr]
        cases O with
        | error e =>
          have hc1 : c = 1 := hc
          refine calm_HT (res := .t 1 1 []) (fst := [.ptr 0 0]) (cap := []) ((hE _ (cloA2 hG (by simp only [Wv.BC])) (by rintro r ⟨s, _, rfl⟩; exact .v _) (by rintro r ⟨e, _, rfl⟩; exact stop_clo e)).mono (by rintro r h' ⟨⟨_, q, _⟩, _⟩; cases q) (fun _ _ q => q)) ?_ ?_
          · simp (disch := first | assumption | exact Wv.D | fail) only [Wv.B, simprocAttr, hc1]
            exact ⟨5, _, _, rfl, rfl, rfl, rfl, rfl⟩
          · rintro av h' ⟨⟨e', q, rfl⟩, rfl⟩
            injection q with q
            subst q
            have hS2 : finE kn d (.error e) = .error e := rfl
            rw [hS2] at hS
            simp (disch := first | assumption | exact Wv.D | fail) only [Wv.B, simprocAttr, stop_close, hS]
            exact ⟨_, rfl, rfl⟩
        | ok m =>
          have hm' := hm m rfl
          have hc1 : c = 0 := hc
          refine calm_HT (res := .v (.int .i64 m)) (fst := [.ptr 0 0]) (cap := []) ((hE _ (cloA2 hG (by simp only [Wv.BC])) (by rintro r ⟨s, _, rfl⟩; exact .v _) (by rintro r ⟨e, _, rfl⟩; exact stop_clo e)).mono (by rintro r h' ⟨⟨_, q, rfl⟩, rfl⟩; injection q with q; subst q; exact ⟨rfl, rfl⟩) (fun _ _ q => q)) ?_ (by rintro av h' ⟨⟨_, q, _⟩, _⟩; cases q)
          have hS2 : finE kn d (.ok m) = if (if kn = true then 0 else d + m) ≤ 8 then .ok (kn, if kn = true then 0 else d + m) else .error 232 := rfl
          rw [hS2] at hS
          cases kn with
          | true =>
            simp only [if_true, Nat.zero_le] at hS
            simp (disch := first | assumption | exact Wv.D | fail) only [Wv.B, simprocAttr, hc1]
            refine call_HTP (fst := []) (cap := []) (demand_rd true 232) ?_ (by rintro av h' ⟨hb, _⟩; cases hb)
            rintro av h' ⟨_, rfl, rfl⟩
            simp (disch := first | assumption | exact Wv.D | fail) only [Wv.B, simprocAttr, hS]
            exact ⟨_, rfl, rfl⟩
          | false =>
            simp only [Bool.false_eq_true, if_false] at hS
            by_cases h8 : d + m ≤ 8
            · rw [if_pos h8] at hS
              have hd8 : (d : Int) + m ≤ 8 := by omega
              simp (disch := first | assumption | exact Wv.D | fail) only [Wv.B, simprocAttr, hc1, decide_eq_true hd8]
              refine call_HTP (fst := []) (cap := []) (demand_rd true 232) ?_ (by rintro av h' ⟨hb, _⟩; cases hb)
              rintro av h' ⟨_, rfl, rfl⟩
              simp (disch := first | assumption | exact Wv.D | fail) only [Wv.B, simprocAttr, hS]
              exact ⟨_, rfl, by unfold shA; rw [Int.natCast_add]⟩
            · rw [if_neg h8] at hS
              have hd8 : ¬ (d : Int) + m ≤ 8 := by omega
              simp (disch := first | assumption | exact Wv.D | fail) only [Wv.B, simprocAttr, hc1, decide_eq_false hd8]
              refine call_HTP (fst := []) (cap := []) (demand_rd false 232) (by rintro av h' ⟨hb, _⟩; cases hb) ?_
              rintro av h' ⟨_, rfl, rfl⟩
              simp (disch := first | assumption | exact Wv.D | fail) only [Wv.B, simprocAttr, stop_close, hS]
              exact ⟨_, rfl, rfl⟩
end Go.Proofs.YtljfgdlgmdcmfaaGreat
