/- Plain values: expressions. -/
import Derived.Test.YtljfgdlgmdcmfaaGreatPlnB
import Derived.Test.YtljfgdlgmdcmfaaGreatTypJ
namespace Go.Proofs.YtljfgdlgmdcmfaaGreat
open Go.RowKit Wv
set_option linter.unusedVariables false
set_option linter.unusedSimpArgs false

theorem hS_lo (N : Nat) (t : Int) (es : Env) (k : Int) (s : ByteArray) (n : Int) (nl : Nat) (li : Nat → Int) (na : Nat) (L : List AV) (A : Nat → Nat → Int) (ls : Nat → Int) (hL : ∀ a, a ∈ L → Clo a) : loH 10 (hS N t es k s n nl li na L A ls) := by
  unfold hS
  have h1 : ∀ a, a ∈ (enE N es).map (·.2) → Clo a := enE_clo N es
  refine ⟨?_, fun a ha => .clo (h1 a ha), ?_⟩
  · simp only [↓reduceIte, List.take_zero, List.take_succ_cons, List.take_nil, Wv.BK, Nat.zero_lt_succ, Nat.lt_add_one, Nat.reduceLeDiff, Nat.lt_one_iff, Nat.one_lt_two]
    omega
  · simp only [↓reduceIte, List.take_zero, List.take_succ_cons, List.take_nil, Wv.BK, Nat.zero_lt_succ, Nat.lt_add_one, Nat.reduceLeDiff, Nat.lt_one_iff, Nat.one_lt_two, eq_true hL]
    omega
theorem hS_rn (N : Nat) (t : Int) (es : Env) (k : Int) (s : ByteArray) (n : Int) (nl : Nat) (li : Nat → Int) (na : Nat) (L : List AV) (A : Nat → Nat → Int) (ls : Nat → Int) (hL : ∀ a, a ∈ L → Clo a) : ∀ (i : Nat) (o : Option Ob), (hS N t es k s n nl li na L A ls)[i]? = some o → ∃ o', o = some o' ∧ RnO id 10 o' o' := by
  intro i o ho
  unfold hS at ho
  match i with
  | 0 => simp at ho; subst ho; exact ⟨_, rfl, .clo (.v _), .clo (.v _), .mp (by omega), trivial⟩
  | 1 => simp at ho; subst ho; exact ⟨_, rfl, rfl, RnL.clo (enE_clo N es)⟩
  | 2 => simp at ho; subst ho; exact ⟨_, rfl, .ptr (by omega), trivial⟩
  | 3 => simp at ho; subst ho; exact ⟨_, rfl, .clo (.v _), .clo (.v _), .clo (.v _), .clo (by simp only [Wv.BC]), .clo (by simp only [Wv.BC]; exact hL), trivial⟩
  | 4 => simp at ho; subst ho; exact ⟨_, rfl, rfl, rfl, rfl, RnL.clo (by simp only [Wv.BC])⟩
  | 5 => simp at ho; subst ho; exact ⟨_, rfl, .own (by omega), trivial⟩
  | 6 => simp at ho; subst ho; exact ⟨_, rfl, .clo (.v _), trivial⟩
  | 7 => simp at ho; subst ho; exact ⟨_, rfl, .clo (by simp only [Wv.BC]), trivial⟩
  | 8 => simp at ho; subst ho; exact ⟨_, rfl, .clo (by simp only [Wv.BC]), trivial⟩
  | 9 => simp at ho; subst ho; exact ⟨_, rfl, .fn rfl rfl (by simp) (fun i a b h1 h2 => by
      match i with
      | 0 => simp at h1 h2; subst h1 h2; exact .ptr (by omega)
      | i + 1 => simp at h1), trivial⟩
  | i + 10 => simp at ho
/-- A name's value. -/
def lookN : Env → ByteArray → Option (Nat → Int)
  | [], _ => none
  | p :: r, s => if s = p.1 then some p.2 else lookN r s
theorem look_en (N : Nat) (s : ByteArray) : ∀ es : Env, lookM (.string s) (enE N es) = (lookN es s).map (vcA N)
  | [] => rfl
  | p :: r => by
    have ih := look_en N s r
    show (if keyE (.string s) (.string p.1) = true then some (vcA N p.2) else lookM (.string s) (enE N r)) = _
    rw [ih]
    show _ = Option.map (vcA N) (if s = p.1 then some p.2 else lookN r s)
    have : keyE (.string s) (.string p.1) = decide (s = p.1) := ke_str
    rw [this]
    by_cases e : s = p.1
    · rw [if_pos (decide_eq_true e), if_pos e]; rfl
    · rw [if_neg (by simp [e]), if_neg e]
theorem kb_en (N : Nat) : ∀ es : Env, keysB .str (enE N es) = true
  | [] => rfl
  | p :: r => kb_en N r
theorem enE_lo {m N : Nat} (es : Env) : (∀ x : Value × AV, x ∈ enE N es → lo m x.2) = True := eq_true fun a ha => .clo (enE_clo N es _ (List.mem_map_of_mem ha))
/-- The list that an expression's slots take from. -/
def lsF (k : Int) (nl : Nat) (li : Nat → Int) : Nat → Int := if k = 3 ∨ k = 10 then padN nl li else zeroF
/-- The value of an expression. -/
def evX (N : Nat) (t : Int) (es : Env) : Ex → Nat → Int
  | .nil => fun _ => 0
  | .mk k s n nl li na ar => if k = 1 then (lookN es s).getD (fun _ => 0) else fun j => balN t (slZ N t k n li (lsF k nl li) (fun i => evX N t es (ar i)) j)
/-- May it be evaluated? -/
def goE (N : Nat) (t : Int) (es : Env) : Ex → Prop
  | .nil => False
  | .mk k s n nl li na ar => (k = 1 → (lookN es s).isSome = true) ∧ (k = 8 → 0 ≤ n) ∧ (k = 11 → t ≤ nl) ∧ (k = 14 → 0 ≤ n) ∧ (k = 3 ∨ k = 10 → nl ≤ N) ∧ ∀ i, i < na → goE N t es (ar i)
/-- All values are balanced. -/
def okV (N : Nat) (t : Int) (es : Env) : Prop := ∀ s f, lookN es s = some f → ∀ j, j < N → -((t - 1) / 2) ≤ f j ∧ f j ≤ (t - 1) / 2
theorem evX_in {N : Nat} {t : Int} {es : Env} (ht : 3 ≤ t) (ho : t % 2 = 1) (hvv : okV N t es) (e : Ex) (hg : goE N t es e) : ∀ j, j < N → -((t - 1) / 2) ≤ evX N t es e j ∧ evX N t es e j ≤ (t - 1) / 2 := by
  intro j hj
  cases e with
  | nil => exact hg.elim
  | mk k s n nl li na ar =>
  unfold evX
  by_cases h : k = 1
  · rw [if_pos h]
    have := hg.1 h
    cases hq : lookN es s with
    | none => rw [hq] at this; cases this
    | some f => exact hvv s f hq j hj
  · rw [if_neg h]
    exact balN_le ht ho
theorem form_li {k : Int} {s : ByteArray} {n : Int} {nl : Nat} {li : Nat → Int} {na : Nat} {ar : Nat → Ex} (h : formB (.mk k s n nl li na ar) = true) : ∀ i, i < nl → inB (li i) = true := by
  unfold formB at h
  simp only [Bool.and_eq_true] at h
  intro i hi
  have h9 := h.2.2.2.2.2.2.2.1
  simp only [Bool.not_eq_true'] at h9
  unfold anyN at h9
  have := List.any_eq_false.1 h9 i (List.mem_range.2 hi)
  simpa using this
theorem form_na {k : Int} {s : ByteArray} {n : Int} {nl : Nat} {li : Nat → Int} {na : Nat} {ar : Nat → Ex} (h : formB (.mk k s n nl li na ar) = true) : (na : Int) = argN k.toNat := by
  unfold formB at h
  simp only [Bool.and_eq_true, decide_eq_true_eq] at h
  exact h.2.2.2.1
theorem form_in' {k : Int} {s : ByteArray} {n : Int} {nl : Nat} {li : Nat → Int} {na : Nat} {ar : Nat → Ex} (h : formB (.mk k s n nl li na ar) = true) : inB n = true := by
  unfold formB at h
  simp only [Bool.and_eq_true] at h
  exact h.2.2.2.2.2.2.1
theorem pad_in {nl : Nat} {li : Nat → Int} (N : Nat) (h : ∀ i, i < nl → inB (li i) = true) : ∀ j, j < N → inB (padN nl li j) = true := by
  intro j _
  unfold padN
  split
  · next q => exact h j q
  · rfl
theorem inB_in {n : Int} (h : inB n = true) : -4294967295 ≤ n ∧ n ≤ 4294967295 := by
  unfold inB at h
  rw [Bool.and_eq_true] at h
  exact ⟨of_decide_eq_true h.1, of_decide_eq_true h.2⟩
theorem rot_lt {N : Nat} {n : Int} {j : Nat} (hN : 4 ≤ N) (h2 : N % 2 = 0) (hj : j < N) : rotN N n j < N := by
  unfold rotN
  have b3 := Nat.mod_lt (j % (N / 2) + n.toNat) (show N / 2 > 0 by omega)
  have : j / (N / 2) < 2 := Nat.div_lt_of_lt_mul (by omega)
  have : j / (N / 2) = 0 ∨ j / (N / 2) = 1 := (show ∀ q : Nat, q < 2 → q = 0 ∨ q = 1 by omega) _ this
  rcases this with q | q <;> rw [q] <;> omega
theorem powG_in {t : Int} (ht : 3 ≤ t) (ho : t % 2 = 1) : ∀ (f : Nat) (o a k : Int), (-((t - 1) / 2) ≤ o ∧ o ≤ (t - 1) / 2) → -((t - 1) / 2) ≤ powG t f o a k ∧ powG t f o a k ≤ (t - 1) / 2
  | 0, o, a, k, h => h
  | f + 1, o, a, k, h => by
    unfold powG
    split
    · refine powG_in ht ho f _ _ _ ?_
      split
      · exact balN_le ht ho
      · exact h
    · exact h
theorem pow_in {t a k : Int} (ht : 3 ≤ t) (ho : t % 2 = 1) : -((t - 1) / 2) ≤ powZ t a k ∧ powZ t a k ≤ (t - 1) / 2 := powG_in ht ho 64 1 a k ⟨by show _ ≤ (1 : Int); omega, by show (1 : Int) ≤ _; omega⟩
/-- A slot is a number of 64 bits. -/
theorem slZ_in {N : Nat} {t k n : Int} {nl na : Nat} {li ls : Nat → Int} {A : Nat → Nat → Int} {j : Nat} (ht : 3 ≤ t) (ho : t % 2 = 1) (ht' : t ≤ 2147483647) (hN : 4 ≤ N) (hN2 : N ≤ 32) (hN3 : N % 2 = 0) (hn : inB n = true) (hli : ∀ i, i < nl → inB (li i) = true) (hna : (na : Int) = argN k.toNat) (hk : 2 ≤ k ∧ k ≤ 15)
    (hA : ∀ a, a < na → ∀ j, j < N → -((t - 1) / 2) ≤ A a j ∧ A a j ≤ (t - 1) / 2) (h8 : k = 8 → 0 ≤ n) (h11 : k = 11 → t ≤ nl) (h14 : k = 14 → 0 ≤ n) (hls : ∀ j, j < N → inB (ls j) = true) (hj : j < N) : -9223372036854775807 ≤ slZ N t k n li ls A j ∧ slZ N t k n li ls A j ≤ 9223372036854775807 := by
  have hn' := inB_in hn
  have h0 : 0 < na → -1073741824 ≤ A 0 j ∧ A 0 j ≤ 1073741824 := fun q => by have := hA 0 q j hj; omega
  have hkk : k = 2 ∨ k = 3 ∨ k = 4 ∨ k = 5 ∨ k = 6 ∨ k = 7 ∨ k = 8 ∨ k = 9 ∨ k = 10 ∨ k = 11 ∨ k = 12 ∨ k = 13 ∨ k = 14 ∨ k = 15 := by omega
  unfold slZ
  have hl := inB_in (hls j hj)
  rcases hkk with rfl | rfl | rfl | rfl | rfl | rfl | rfl | rfl | rfl | rfl | rfl | rfl | rfl | rfl <;> simp only [Int.reduceEq, ↓reduceIte]
  · omega
  · omega
  · have : argN (4 : Int).toNat = 2 := rfl
    have := hA 0 (by omega) j hj
    have := hA 1 (by omega) j hj
    omega
  · have : argN (5 : Int).toNat = 2 := rfl
    have := hA 0 (by omega) j hj
    have := hA 1 (by omega) j hj
    omega
  · have : argN (6 : Int).toNat = 1 := rfl
    have := hA 0 (by omega) j hj
    omega
  · have : argN (7 : Int).toNat = 2 := rfl
    have := mul_in ht' (hA 0 (by omega) j hj) (hA 1 (by omega) j hj)
    omega
  · have : argN (8 : Int).toNat = 1 := rfl
    have := hA 0 (by omega) (rotN N n j) (rot_lt hN hN3 hj)
    omega
  · have : argN (9 : Int).toNat = 1 := rfl
    have := hA 0 (by omega) ((j + N / 2) % N) (Nat.mod_lt _ (by omega))
    omega
  · have : argN (10 : Int).toNat = 1 := rfl
    have := lsm (hls j hj) ht' (hA 0 (by omega) j hj)
    omega
  · have : argN (11 : Int).toNat = 1 := rfl
    have h1 := res_in ht (hA 0 (by omega) j hj)
    have h2 := h11 rfl
    have := inB_in (hli (resN t (A 0 j)).toNat (by omega))
    omega
  · split <;> omega
  · split <;> omega
  · have := pow_in (t := t) (a := A 0 j) (k := n) ht ho
    omega
  · have : argN (15 : Int).toNat = 1 := rfl
    have := sum_in (f := A 0) ht' (hA 0 (by omega)) N (Nat.le_refl _)
    omega
theorem pslot_rd (N : Nat) (t : Int) (es : Env) (k : Int) (s : ByteArray) (n : Int) (nl : Nat) (li : Nat → Int) (na : Nat) (L : List AV) (A : Nat → Nat → Int) (ls : Nat → Int) (j : Nat) (ht : 3 ≤ t) (ho : t % 2 = 1) (ht' : t ≤ 2147483647) (hN : 4 ≤ N) (hN2 : N ≤ 32) (hN3 : N % 2 = 0) (hj : j < N)
    (hA : ∀ i, i < na → ∀ j, j < N → -((t - 1) / 2) ≤ A i j ∧ A i j ≤ (t - 1) / 2) (hk : 2 ≤ k ∧ k ≤ 15) (hna : (na : Int) = argN k.toNat) (hn : inB n = true) (hls : ∀ j, j < N → inB (ls j) = true) (h8 : k = 8 → 0 ≤ n) (h11 : k = 11 → t ≤ nl) (h14 : k = 14 → 0 ≤ n) (hL : ∀ a, a ∈ L → Clo a) (r : Hp) :
    HTP Tryz.prog 123 [.v (.int .i64 j), .ptr 3 0, .ptr 7 0, .ptr 5 0, .ptr 6 0, .ptr 2 0, .ptr 9 0, .ptr 8 0] (hS N t es k s n nl li na L A ls ++ r) (fun q h' => q = .v (.int .i64 (slZ N t k n li ls A j)) ∧ h' = hS N t es k s n nl li na L A ls ++ r) (fun q h' => False ∧ h' = hS N t es k s n nl li na L A ls ++ r) := by
  have hl : (hS N t es k s n nl li na L A ls).length = 10 := rfl
  have T : RD Tryz.prog 123 [.v (.int .i64 j), .ptr 3 0, .ptr 7 0, .ptr 5 0, .ptr 6 0, .ptr 2 0, .ptr 9 0, .ptr 8 0] (hS N t es k s n nl li na L A ls) (fun q => q = .v (.int .i64 (slZ N t k n li ls A j))) (fun _ => False) :=
    RD.of (((pslot_ht N t es k s n nl li na L A ls j ht ho ht' hN hN2 hN3 hj hA hk hna hn hls h8 h11 h14).toP fun _ _ => False).mono (fun _ _ q => ⟨q.1, by rw [q.2, List.take_length]⟩) (fun _ _ q => q.elim)) (fun r q => q ▸ .clo (.v _)) (fun r q => q.elim) (by rw [hl]; exact hS_lo N t es k s n nl li na L A ls hL)
  exact RD.ext T r (by rw [hl]; exact ⟨.clo (.v _), .ptr (by omega), .ptr (by omega), .ptr (by omega), .ptr (by omega), .ptr (by omega), .ptr (by omega), .ptr (by omega), trivial⟩) (by rw [hl]; exact hS_rn N t es k s n nl li na L A ls hL) (fun r q => q ▸ .v _) (fun r q => q.elim)
set_option maxHeartbeats 1600000 in
set_option maxRecDepth 100000 in
theorem pev_rd (N : Nat) (t : Int) (es : Env) (ht : 3 ≤ t) (hodd : t % 2 = 1) (ht' : t ≤ 2147483647) (hN : 4 ≤ N) (hN2 : N ≤ 32) (hN3 : N % 2 = 0) (hvv : okV N t es) (e : Ex) (ho : okE e) (hf : formB e = true) (hg : goE N t es e) : RD Tryz.prog 79 [.ptr 0 0, .g (exC e)] (hV N t es) (fun r => r = vcA N (evX N t es e)) (fun _ => False) := by
  induction e with
  | nil => exact ho.elim
  | mk k s n nl li na ar ih =>
  obtain ⟨hs, hnl, hna, hh⟩ := ho
  have hev := evX_in ht hodd hvv
  have ⟨⟨hk1, hk2⟩, hna2, hfa⟩ := formB_args hf
  refine RD.of ?_ (by rintro r rfl; exact .clo (vcA_clo _ _)) (fun r q => q.elim) (hV_lo N t es)
  rw [exC_mk]
  have hSp : evX N t es (.mk k s n nl li na ar) = if k = 1 then (lookN es s).getD (fun _ => 0) else fun j => balN t (slZ N t k n li (lsF k nl li) (fun i => evX N t es (ar i)) j) := rfl
  generalize evX N t es (.mk k s n nl li na ar) = V at hSp ⊢
  unfold hV evC
  refine Wv.HTP.by 88 [0, 1, 3, 16, 2, 31, 30, 32, 5, 6, 59, 8, 7, 10, 9, 75, 74, 76, 12, 13, 11, 4] [(2, 7), (7, 9), (20, 6), (1000000, 2), (3000007, 16), (3000020, 1040)] [.tmp 4] (by kernel_rfl) Tryz.func79 rfl rfl rfl (by kernel_rfl) (by kernel_rfl) (Nat.le_of_ble_eq_true rfl) ?base ?_
  case base => rfl
  by_cases hk1 : k = 1
  · rw [if_pos hk1] at hSp
    have hq := hg.1 hk1
    have hlm := look_en N s es
    cases hq2 : lookN es s with
    | none => rw [hq2] at hq; cases hq
    | some f =>
      rw [hq2] at hSp hlm
      simp only [Option.map_some, Option.getD_some, vcA] at hlm hSp
      subst hSp
      simp (maxSteps := 2000000) (disch := first | omega | assumption | (simp only [Wv.Bx, simprocAttr] <;> omega) | fail) only [Wv.B, simprocAttr, decide_eq_true hk1, kb_en, hlm, vcA]
  · rw [if_neg hk1] at hSp
    simp (maxSteps := 2000000) (disch := first | omega | assumption | (simp only [Wv.Bx, simprocAttr] <;> omega) | fail) only [Wv.B, simprocAttr, decide_eq_false hk1]
    have hLc := tabM_clo (n := na) (f := fun i => exC (ar i)) fun i _ => exC_clo (ar i)
    have hdr : ∀ i, i < na → ∃ r, List.drop (i * 5) (tabM na fun i => exC (ar i)) = exC (ar i) ++ r := fun i hi => tabM_drop (f := fun i => exC (ar i)) (fun i => exC_len (ar i)) hi
    generalize hL : (tabM na fun i => exC (ar i)) = L at hLc hdr ⊢
    refine wfor (σ := Nat) (fun i => [(2, .ptr 2 0), (3, .ptr 3 0), (5, .ptr 5 0), (30, .v (.int .i64 na)), (31, .v (.int .i64 i))])
      (fun i => [some (.blk [.v (.int .i64 N), .v (.int .i64 t), .mp 1]), some (.map (enE N es)), some (.blk [.ptr 0 0]), some (.blk [.v (.int .i64 k), .v (.string s), .v (.int .i64 n), .t nl 1 (tab nl fun i => .v (.int .i64 (li i))), .t na 5 L]), some (.arr 43 1 (tab na fun a => if a < i then .t N 1 (tab N fun j => .v (.int .i64 (evX N t es (ar a) j))) else .v (.slice none 0 0)) 0), some (.blk [.own 4 na])])
      (fun i => i ≤ na) (fun i => na - i) 0 (Nat.zero_le _) (by simp (maxSteps := 2000000) (disch := first | omega | assumption | (simp only [Wv.Bx, simprocAttr] <;> omega) | fail) only [Wv.B, simprocAttr, Nat.not_lt_zero, if_false]) (by simp (maxSteps := 2000000) (disch := first | omega | assumption | (simp only [Wv.Bx, simprocAttr] <;> omega) | fail) only [Wv.B, simprocAttr]) ?_
    intro i hi
    by_cases hlt : i < na
    · have e1 : (i : Int) < na := by omega
      obtain ⟨r2, hd⟩ := hdr i hlt
      have hE := RD.hV (ih i (hh i hlt) (hfa i hlt) (hg.2.2.2.2.2 i hlt))
      have hG := exG_clo (ar i)
      obtain ⟨k', s', n', nl', li', na', ar', hy⟩ := ok_mk (hh i hlt)
      have hy2 : exC (ar i) = _ := (congrArg exC hy).trans (exC_mk k' s' n' nl' li' na' ar')
      rw [hy2] at hd hE hG
      simp only [List.cons_append, List.nil_append] at hd
      have h8 : (tab na fun a => if a = i then AV.t N 1 (tab N fun j => .v (.int .i64 (evX N t es (ar i) j))) else if a < i then AV.t N 1 (tab N fun j => .v (.int .i64 (evX N t es (ar a) j))) else .v (.slice none 0 0)) = tab na fun a => if a < i + 1 then AV.t N 1 (tab N fun j => .v (.int .i64 (evX N t es (ar a) j))) else .v (.slice none 0 0) := tab_congr fun a ha => by
        by_cases q : a = i
        · subst q; rw [if_pos rfl, if_pos (by omega)]
        · by_cases q2 : a < i
          · rw [if_neg q, if_pos q2, if_pos (by omega)]
          · rw [if_neg q, if_neg q2, if_neg (by omega)]
      unfold hV evC vcA at hE
      simp (maxSteps := 2000000) (disch := first | omega | assumption | (simp only [Wv.Bx, simprocAttr] <;> omega) | fail) only [Wv.B, simprocAttr, decide_eq_true e1, hd]
      refine calm_HT (fst := []) (cap := []) (hE _ (cloA1 hG) (by rintro r rfl; simp only [Wv.BC]) (by rintro r h; exact h.elim)) ?_ (by rintro av h' ⟨h, _⟩; exact h.elim)
      simp (maxSteps := 2000000) (disch := first | omega | assumption | (simp only [Wv.Bx, simprocAttr] <;> omega) | fail) only [Wv.B, simprocAttr, tab_set, h8]
      refine k_next (i + 1) (by omega) (by omega) rfl (by simp (maxSteps := 2000000) (disch := first | omega | assumption | (simp only [Wv.Bx, simprocAttr] <;> omega) | fail) only [Wv.B, simprocAttr, Int.natCast_add, Int.natCast_one])
    · obtain rfl : i = na := by omega
      obtain ⟨A, hAe⟩ : ∃ A : Nat → Nat → Int, A = fun a => evX N t es (ar a) := ⟨_, rfl⟩
      have h9 : (tab i fun a => if a < i then AV.t N 1 (tab N fun j => .v (.int .i64 (evX N t es (ar a) j))) else .v (.slice none 0 0)) = tab i fun a => AV.t N 1 (tab N fun j => .v (.int .i64 (A a j))) := tab_congr fun a ha => by rw [if_pos ha, hAe]
      have hA : ∀ a, a < i → ∀ j, j < N → -((t - 1) / 2) ≤ A a j ∧ A a j ≤ (t - 1) / 2 := fun a ha => by rw [hAe]; exact hev (ar a) (hg.2.2.2.2.2 a ha)
      rw [h9]
      rw [← hAe] at hSp
      clear h9 hAe hdr ih hev
      have hin := form_in' hf
      have hli := form_li hf
      have hE0 := RD.hV (pvec0_rd N t es hN2)
      have hE1 := fun q => RD.hV (pvec_rd N t es nl li hN2 q)
      have hB := fun n h1 h2 => RD.hV (pbaln_rd N t es n ht ht' h1 h2)
      have hna' := form_na hf
      obtain ⟨h3, h8, h11, h14, h310, _⟩ := hg
      have hP := fun (ls : Nat → Int) hls j hj => pslot_rd N t es k s n nl li i L A ls j ht hodd ht' hN hN2 hN3 hj hA ⟨by omega, hk2⟩ hna' hin hls h8 h11 h14 hLc
      have hsb := fun (ls : Nat → Int) hls (j : Nat) hj => slZ_in (n := n) (k := k) (li := li) (ls := ls) (N := N) (A := A) (j := j) ht hodd ht' hN hN2 hN3 hin hli hna' ⟨by omega, hk2⟩ hA h8 h11 h14 hls hj
      have half : (N : Int).tdiv 2 = ((N / 2 : Nat) : Int) := rfl
      unfold hV evC vcA at *
      unfold Go.Proofs.YtljfgdlgmdcmfaaGreat.hS at hP
      simp (maxSteps := 2000000) (disch := first | omega | assumption | (simp only [Wv.Bx, simprocAttr] <;> omega) | fail) only [Wv.B, simprocAttr, Int.lt_irrefl, decide_false, half]
      refine call_HTP (fst := []) (cap := []) (hE0 _ (by simp only [Wv.BC]) (by rintro r rfl; simp only [Wv.BC]) (by rintro r h; exact h.elim)) ?_ (by rintro av h' ⟨h, _⟩; exact h.elim)
      rintro av h' ⟨rfl, rfl⟩
      by_cases k3 : k = 3
      · have hle : lsF k nl li = padN nl li := if_pos (.inl k3)
        have hls := pad_in N hli
        rw [hle] at hSp
        simp (maxSteps := 2000000) (disch := first | omega | assumption | (simp only [Wv.Bx, simprocAttr] <;> omega) | fail) only [Wv.B, simprocAttr, decide_eq_true k3, t1_sz, t1_z, t1_ag, t1_f]
        refine call_HTP (fst := []) (cap := []) (hE1 (h310 (.inl k3)) _ (by simp only [Wv.BC]) (by rintro r rfl; simp only [Wv.BC]) (by rintro r h; exact h.elim)) ?_ (by rintro av h' ⟨h, _⟩; exact h.elim)
        rintro av h' ⟨rfl, rfl⟩
        generalize padN nl li = ls at hls hSp ⊢
        simp (maxSteps := 2000000) (disch := first | omega | assumption | (simp only [Wv.Bx, simprocAttr] <;> omega) | fail) only [Wv.B, simprocAttr, t1_sz, t1_z, t1_ag, t1_f]
        have hPl := hP ls hls
        have hsl := hsb ls hls
        have h0 : (tab N fun a => if a < 0 then AV.v (.int .i64 (V a)) else .v (.int .i64 0)) = tab N fun _ => .v (.int .i64 0) := tab_congr fun a _ => if_neg (Nat.not_lt_zero a)
        refine wfor (σ := Nat) (fun j => [(2, .ptr 2 0), (11, .fn (.func 123) [] [.ptr 3 0, .ptr 7 0, .ptr 5 0, .ptr 6 0, .ptr 2 0, .ptr 9 0, .ptr 8 0]), (12, .own 10 N), (74, .v (.int .i64 N)), (75, .v (.int .i64 j))])
          (fun j => [some (.blk [.v (.int .i64 N), .v (.int .i64 t), .mp 1]), some (.map (enE N es)), some (.blk [.ptr 0 0]), some (.blk [.v (.int .i64 k), .v (.string s), .v (.int .i64 n), .t nl 1 (tab nl fun i => .v (.int .i64 (li i))), .t i 5 L]),
            some (.arr 43 1 (tab i fun i => .t N 1 (tab N fun j => .v (.int .i64 (A i j)))) 0), some (.blk [.own 4 i]), some (.blk [.v (.int .i64 (N / 2 : Nat))]), some (.blk [.t N 1 (tab N fun j => .v (.int .i64 (ls j)))]), some (.blk [.fn (.func 121) [] []]), some (.blk [.fn (.func 122) [] [.ptr 2 0]]), some (.arr 2 1 (tab N fun a => if a < j then .v (.int .i64 (V a)) else .v (.int .i64 0)) 0)])
          (fun j => j ≤ N) (fun j => N - j) 0 (Nat.zero_le _) (by simp (maxSteps := 2000000) (disch := first | omega | assumption | (simp only [Wv.Bx, simprocAttr] <;> omega) | fail) only [Wv.B, simprocAttr, h0]) (by simp (maxSteps := 2000000) (disch := first | omega | assumption | (simp only [Wv.Bx, simprocAttr] <;> omega) | fail) only [Wv.B, simprocAttr]) ?_
        intro j hj
        by_cases hlt : j < N
        · have e1 : (j : Int) < N := by omega
          have hPj := hPl j hlt
          have hsj := hsl j hlt
          have hBj := hB (slZ N t k n li ls A j) hsj.1 hsj.2
          have hVj : V j = balN t (slZ N t k n li ls A j) := congrFun hSp j
          have h8 : (tab N fun a => if a = j then AV.v (.int .i64 (V j)) else if a < j then AV.v (.int .i64 (V a)) else .v (.int .i64 0)) = tab N fun a => if a < j + 1 then AV.v (.int .i64 (V a)) else .v (.int .i64 0) := tab_congr fun a ha => by
            by_cases q : a = j
            · subst q; rw [if_pos rfl, if_pos (by omega)]
            · by_cases q2 : a < j
              · rw [if_neg q, if_pos q2, if_pos (by omega)]
              · rw [if_neg q, if_neg q2, if_neg (by omega)]
          rw [← hVj] at hBj
          simp (maxSteps := 2000000) (disch := first | omega | assumption | (simp only [Wv.Bx, simprocAttr] <;> omega) | fail) only [Wv.B, simprocAttr, decide_eq_true e1]
          refine calm_HT (fst := []) (cap := [.ptr 3 0, .ptr 7 0, .ptr 5 0, .ptr 6 0, .ptr 2 0, .ptr 9 0, .ptr 8 0]) (hPj _) ?_ (by rintro av h' ⟨h, _⟩; exact h.elim)
          simp (maxSteps := 2000000) (disch := first | omega | assumption | (simp only [Wv.Bx, simprocAttr] <;> omega) | fail) only [Wv.B, simprocAttr]
          refine call_HTP (fst := []) (cap := []) (hBj _ (by simp only [Wv.BC]) (by rintro r rfl; simp only [Wv.BC]) (by rintro r h; exact h.elim)) ?_ (by rintro av h' ⟨h, _⟩; exact h.elim)
          rintro av h' ⟨rfl, rfl⟩
          simp (maxSteps := 2000000) (disch := first | omega | assumption | (simp only [Wv.Bx, simprocAttr] <;> omega) | fail) only [Wv.B, simprocAttr, tab_set, h8]
          refine k_next (j + 1) (by omega) (by omega) rfl (by simp (maxSteps := 2000000) (disch := first | omega | assumption | (simp only [Wv.Bx, simprocAttr] <;> omega) | fail) only [Wv.B, simprocAttr, Int.natCast_add, Int.natCast_one])
        · obtain rfl : j = N := by omega
          have h9 : (tab j fun a => if a < j then AV.v (.int .i64 (V a)) else .v (.int .i64 0)) = tab j fun a => .v (.int .i64 (V a)) := tab_congr fun a ha => if_pos ha
          simp (maxSteps := 2000000) (disch := first | omega | assumption | (simp only [Wv.Bx, simprocAttr] <;> omega) | fail) only [Wv.B, simprocAttr, Int.lt_irrefl, decide_false, h9]
      · by_cases k10 : k = 10
        · have hle : lsF k nl li = padN nl li := if_pos (.inr k10)
          have hls := pad_in N hli
          rw [hle] at hSp
          simp (maxSteps := 2000000) (disch := first | omega | assumption | (simp only [Wv.Bx, simprocAttr] <;> omega) | fail) only [Wv.B, simprocAttr, decide_eq_false k3, decide_eq_true k10, t1_sz, t1_z, t1_ag, t1_f]
          refine call_HTP (fst := []) (cap := []) (hE1 (h310 (.inr k10)) _ (by simp only [Wv.BC]) (by rintro r rfl; simp only [Wv.BC]) (by rintro r h; exact h.elim)) ?_ (by rintro av h' ⟨h, _⟩; exact h.elim)
          rintro av h' ⟨rfl, rfl⟩
          generalize padN nl li = ls at hls hSp ⊢
          simp (maxSteps := 2000000) (disch := first | omega | assumption | (simp only [Wv.Bx, simprocAttr] <;> omega) | fail) only [Wv.B, simprocAttr, t1_sz, t1_z, t1_ag, t1_f]
          have hPl := hP ls hls
          have hsl := hsb ls hls
          have h0 : (tab N fun a => if a < 0 then AV.v (.int .i64 (V a)) else .v (.int .i64 0)) = tab N fun _ => .v (.int .i64 0) := tab_congr fun a _ => if_neg (Nat.not_lt_zero a)
          refine wfor (σ := Nat) (fun j => [(2, .ptr 2 0), (11, .fn (.func 123) [] [.ptr 3 0, .ptr 7 0, .ptr 5 0, .ptr 6 0, .ptr 2 0, .ptr 9 0, .ptr 8 0]), (12, .own 10 N), (74, .v (.int .i64 N)), (75, .v (.int .i64 j))])
            (fun j => [some (.blk [.v (.int .i64 N), .v (.int .i64 t), .mp 1]), some (.map (enE N es)), some (.blk [.ptr 0 0]), some (.blk [.v (.int .i64 k), .v (.string s), .v (.int .i64 n), .t nl 1 (tab nl fun i => .v (.int .i64 (li i))), .t i 5 L]),
              some (.arr 43 1 (tab i fun i => .t N 1 (tab N fun j => .v (.int .i64 (A i j)))) 0), some (.blk [.own 4 i]), some (.blk [.v (.int .i64 (N / 2 : Nat))]), some (.blk [.t N 1 (tab N fun j => .v (.int .i64 (ls j)))]), some (.blk [.fn (.func 121) [] []]), some (.blk [.fn (.func 122) [] [.ptr 2 0]]), some (.arr 2 1 (tab N fun a => if a < j then .v (.int .i64 (V a)) else .v (.int .i64 0)) 0)])
            (fun j => j ≤ N) (fun j => N - j) 0 (Nat.zero_le _) (by simp (maxSteps := 2000000) (disch := first | omega | assumption | (simp only [Wv.Bx, simprocAttr] <;> omega) | fail) only [Wv.B, simprocAttr, h0]) (by simp (maxSteps := 2000000) (disch := first | omega | assumption | (simp only [Wv.Bx, simprocAttr] <;> omega) | fail) only [Wv.B, simprocAttr]) ?_
          intro j hj
          by_cases hlt : j < N
          · have e1 : (j : Int) < N := by omega
            have hPj := hPl j hlt
            have hsj := hsl j hlt
            have hBj := hB (slZ N t k n li ls A j) hsj.1 hsj.2
            have hVj : V j = balN t (slZ N t k n li ls A j) := congrFun hSp j
            have h8 : (tab N fun a => if a = j then AV.v (.int .i64 (V j)) else if a < j then AV.v (.int .i64 (V a)) else .v (.int .i64 0)) = tab N fun a => if a < j + 1 then AV.v (.int .i64 (V a)) else .v (.int .i64 0) := tab_congr fun a ha => by
              by_cases q : a = j
              · subst q; rw [if_pos rfl, if_pos (by omega)]
              · by_cases q2 : a < j
                · rw [if_neg q, if_pos q2, if_pos (by omega)]
                · rw [if_neg q, if_neg q2, if_neg (by omega)]
            rw [← hVj] at hBj
            simp (maxSteps := 2000000) (disch := first | omega | assumption | (simp only [Wv.Bx, simprocAttr] <;> omega) | fail) only [Wv.B, simprocAttr, decide_eq_true e1]
            refine calm_HT (fst := []) (cap := [.ptr 3 0, .ptr 7 0, .ptr 5 0, .ptr 6 0, .ptr 2 0, .ptr 9 0, .ptr 8 0]) (hPj _) ?_ (by rintro av h' ⟨h, _⟩; exact h.elim)
            simp (maxSteps := 2000000) (disch := first | omega | assumption | (simp only [Wv.Bx, simprocAttr] <;> omega) | fail) only [Wv.B, simprocAttr]
            refine call_HTP (fst := []) (cap := []) (hBj _ (by simp only [Wv.BC]) (by rintro r rfl; simp only [Wv.BC]) (by rintro r h; exact h.elim)) ?_ (by rintro av h' ⟨h, _⟩; exact h.elim)
            rintro av h' ⟨rfl, rfl⟩
            simp (maxSteps := 2000000) (disch := first | omega | assumption | (simp only [Wv.Bx, simprocAttr] <;> omega) | fail) only [Wv.B, simprocAttr, tab_set, h8]
            refine k_next (j + 1) (by omega) (by omega) rfl (by simp (maxSteps := 2000000) (disch := first | omega | assumption | (simp only [Wv.Bx, simprocAttr] <;> omega) | fail) only [Wv.B, simprocAttr, Int.natCast_add, Int.natCast_one])
          · obtain rfl : j = N := by omega
            have h9 : (tab j fun a => if a < j then AV.v (.int .i64 (V a)) else .v (.int .i64 0)) = tab j fun a => .v (.int .i64 (V a)) := tab_congr fun a ha => if_pos ha
            simp (maxSteps := 2000000) (disch := first | omega | assumption | (simp only [Wv.Bx, simprocAttr] <;> omega) | fail) only [Wv.B, simprocAttr, Int.lt_irrefl, decide_false, h9]
        · have hle : lsF k nl li = zeroF := if_neg (fun h => h.elim k3 k10)
          have hls : ∀ j, j < N → inB (zeroF j) = true := fun _ _ => rfl
          rw [hle] at hSp
          generalize zeroF = ls at hls hSp ⊢
          simp (maxSteps := 2000000) (disch := first | omega | assumption | (simp only [Wv.Bx, simprocAttr] <;> omega) | fail) only [Wv.B, simprocAttr, decide_eq_false k3, decide_eq_false k10, t1_sz, t1_z, t1_ag, t1_f]
          have hPl := hP ls hls
          have hsl := hsb ls hls
          have h0 : (tab N fun a => if a < 0 then AV.v (.int .i64 (V a)) else .v (.int .i64 0)) = tab N fun _ => .v (.int .i64 0) := tab_congr fun a _ => if_neg (Nat.not_lt_zero a)
          refine wfor (σ := Nat) (fun j => [(2, .ptr 2 0), (11, .fn (.func 123) [] [.ptr 3 0, .ptr 7 0, .ptr 5 0, .ptr 6 0, .ptr 2 0, .ptr 9 0, .ptr 8 0]), (12, .own 10 N), (74, .v (.int .i64 N)), (75, .v (.int .i64 j))])
            (fun j => [some (.blk [.v (.int .i64 N), .v (.int .i64 t), .mp 1]), some (.map (enE N es)), some (.blk [.ptr 0 0]), some (.blk [.v (.int .i64 k), .v (.string s), .v (.int .i64 n), .t nl 1 (tab nl fun i => .v (.int .i64 (li i))), .t i 5 L]),
              some (.arr 43 1 (tab i fun i => .t N 1 (tab N fun j => .v (.int .i64 (A i j)))) 0), some (.blk [.own 4 i]), some (.blk [.v (.int .i64 (N / 2 : Nat))]), some (.blk [.t N 1 (tab N fun j => .v (.int .i64 (ls j)))]), some (.blk [.fn (.func 121) [] []]), some (.blk [.fn (.func 122) [] [.ptr 2 0]]), some (.arr 2 1 (tab N fun a => if a < j then .v (.int .i64 (V a)) else .v (.int .i64 0)) 0)])
            (fun j => j ≤ N) (fun j => N - j) 0 (Nat.zero_le _) (by simp (maxSteps := 2000000) (disch := first | omega | assumption | (simp only [Wv.Bx, simprocAttr] <;> omega) | fail) only [Wv.B, simprocAttr, h0]) (by simp (maxSteps := 2000000) (disch := first | omega | assumption | (simp only [Wv.Bx, simprocAttr] <;> omega) | fail) only [Wv.B, simprocAttr]) ?_
          intro j hj
          by_cases hlt : j < N
          · have e1 : (j : Int) < N := by omega
            have hPj := hPl j hlt
            have hsj := hsl j hlt
            have hBj := hB (slZ N t k n li ls A j) hsj.1 hsj.2
            have hVj : V j = balN t (slZ N t k n li ls A j) := congrFun hSp j
            have h8 : (tab N fun a => if a = j then AV.v (.int .i64 (V j)) else if a < j then AV.v (.int .i64 (V a)) else .v (.int .i64 0)) = tab N fun a => if a < j + 1 then AV.v (.int .i64 (V a)) else .v (.int .i64 0) := tab_congr fun a ha => by
              by_cases q : a = j
              · subst q; rw [if_pos rfl, if_pos (by omega)]
              · by_cases q2 : a < j
                · rw [if_neg q, if_pos q2, if_pos (by omega)]
                · rw [if_neg q, if_neg q2, if_neg (by omega)]
            rw [← hVj] at hBj
            simp (maxSteps := 2000000) (disch := first | omega | assumption | (simp only [Wv.Bx, simprocAttr] <;> omega) | fail) only [Wv.B, simprocAttr, decide_eq_true e1]
            refine calm_HT (fst := []) (cap := [.ptr 3 0, .ptr 7 0, .ptr 5 0, .ptr 6 0, .ptr 2 0, .ptr 9 0, .ptr 8 0]) (hPj _) ?_ (by rintro av h' ⟨h, _⟩; exact h.elim)
            simp (maxSteps := 2000000) (disch := first | omega | assumption | (simp only [Wv.Bx, simprocAttr] <;> omega) | fail) only [Wv.B, simprocAttr]
            refine call_HTP (fst := []) (cap := []) (hBj _ (by simp only [Wv.BC]) (by rintro r rfl; simp only [Wv.BC]) (by rintro r h; exact h.elim)) ?_ (by rintro av h' ⟨h, _⟩; exact h.elim)
            rintro av h' ⟨rfl, rfl⟩
            simp (maxSteps := 2000000) (disch := first | omega | assumption | (simp only [Wv.Bx, simprocAttr] <;> omega) | fail) only [Wv.B, simprocAttr, tab_set, h8]
            refine k_next (j + 1) (by omega) (by omega) rfl (by simp (maxSteps := 2000000) (disch := first | omega | assumption | (simp only [Wv.Bx, simprocAttr] <;> omega) | fail) only [Wv.B, simprocAttr, Int.natCast_add, Int.natCast_one])
          · obtain rfl : j = N := by omega
            have h9 : (tab j fun a => if a < j then AV.v (.int .i64 (V a)) else .v (.int .i64 0)) = tab j fun a => .v (.int .i64 (V a)) := tab_congr fun a ha => if_pos ha
            simp (maxSteps := 2000000) (disch := first | omega | assumption | (simp only [Wv.Bx, simprocAttr] <;> omega) | fail) only [Wv.B, simprocAttr, Int.lt_irrefl, decide_false, h9]
end Go.Proofs.YtljfgdlgmdcmfaaGreat
