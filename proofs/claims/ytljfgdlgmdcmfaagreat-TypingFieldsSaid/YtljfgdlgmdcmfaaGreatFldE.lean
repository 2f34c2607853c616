/- TypingFields: the plain law. TypingFields: the plain law of circuits. -/
import Derived.Test.YtljfgdlgmdcmfaaGreatFldD
namespace Go.Proofs.YtljfgdlgmdcmfaaGreat
open Go.RowKit Wv
set_option linter.unusedVariables false
set_option linter.unusedSimpArgs false

/-! TypingFields: the plain law. -/

theorem hasE_mk (k : Int) (s : ByteArray) (n : Int) (nl : Nat) (li : Nat → Int) (na : Nat) (ar : Nat → Ex) : hasE (.mk k s n nl li na ar) = (fieldK k || anyN na fun i => hasE (ar i)) := rfl
theorem any_false {n : Nat} {p : Nat → Bool} (h : anyN n p = false) {i : Nat} (hi : i < n) : p i = false := by
  cases hq : p i with
  | false => rfl
  | true => rw [any_at hi hq] at h; cases h
theorem name_args {k : Int} {s : ByteArray} {n : Int} {nl : Nat} {li : Nat → Int} {na : Nat} {ar : Nat → Ex} (h : formB (.mk k s n nl li na ar) = true) (hk : k = 1) : na = 0 := by
  unfold formB at h
  simp only [Bool.and_eq_true, decide_eq_true_eq] at h
  have h4 := h.2.2.2.1
  rw [hk] at h4
  have : argN (1 : Int).toNat = 0 := rfl
  rw [this] at h4
  omega
/-- The rules of both, where no field is asked for. -/
theorem ru_same {k : Int} {s : ByteArray} {n : Int} {nl : Nat} {li : Nat → Int} {na : Nat} {ar : Nat → Ex} {u m : Nat} (hk : fieldK k = false) (h : ruA plnP 17 (.mk k s n nl li na ar) u = .ok m) : ruA plnQ 289 (.mk k s n nl li na ar) u = .ok m := by
  unfold fieldK at hk
  simp only [Bool.or_eq_false_iff, decide_eq_false_iff_not] at hk
  obtain ⟨k11, k13, k12⟩ := hk
  have bal : ∀ z, balB (17 : Nat) z = true → balB (289 : Nat) z = true := fun z hz => by
    unfold balB at hz ⊢
    have := of_decide_eq_true hz
    refine decide_eq_true ?_
    split at this <;> split <;> omega
  have lst : lstB (17 : Nat) nl li 0 plnP.n = true → lstB (289 : Nat) nl li 0 plnQ.n = true := fun hz => by
    unfold lstB at hz ⊢
    simp only [Bool.and_eq_true, decide_eq_true_eq, Bool.not_eq_true'] at hz ⊢
    refine ⟨hz.1, hz.2.1, any_none fun i hi => ?_⟩
    have := any_false hz.2.2 hi
    simp only [Bool.not_eq_false'] at this ⊢
    exact bal _ this
  have iff : ∀ {b c : Bool} {v w : Nat} {er : Int}, (b = true → c = true) → (if b = true then Except.ok v else .error er) = (Except.ok w : Except Int Nat) → (if c = true then Except.ok v else .error er) = (Except.ok w : Except Int Nat) := fun {b c v w er} hbc hq => by
    split at hq
    · next hb => rw [if_pos (hbc hb)]; exact hq
    · cases hq
  unfold ruA at h ⊢
  simp only at h ⊢
  by_cases k2 : k = 2
  · rw [if_pos k2] at h ⊢; exact iff (bal n) h
  rw [if_neg k2] at h ⊢
  by_cases k3 : k = 3
  · rw [if_pos k3] at h ⊢; exact iff lst h
  rw [if_neg k3] at h ⊢
  by_cases k7 : k = 7
  · rw [if_pos k7] at h ⊢; exact h
  rw [if_neg k7] at h ⊢
  by_cases k8 : k = 8
  · rw [if_pos k8] at h ⊢; exact h
  rw [if_neg k8] at h ⊢
  by_cases k10 : k = 10
  · rw [if_pos k10] at h ⊢; exact h
  rw [if_neg k10] at h ⊢
  by_cases k14 : k = 14
  · rw [if_pos k14] at h ⊢; exact h
  rw [if_neg k14] at h ⊢
  rw [if_neg k11, if_neg k13, if_neg k12] at h ⊢
  exact h
theorem ru_back {k : Int} {s : ByteArray} {n : Int} {nl : Nat} {li : Nat → Int} {na : Nat} {ar : Nat → Ex} {u m : Nat} (h : ruA plnQ 289 (.mk k s n nl li na ar) u = .ok m) : fieldK k = false ∧ (ruA plnP 17 (.mk k s n nl li na ar) u = .ok m ∨ ruA plnP 17 (.mk k s n nl li na ar) u = .error 233) := by
  have fk : fieldK k = false := by
    cases hf : fieldK k with
    | false => rfl
    | true =>
      unfold fieldK at hf
      simp only [Bool.or_eq_true, decide_eq_true_eq] at hf
      rcases hf with rfl | rfl | rfl
      · have h' : tblR plnQ 289 nl li = .ok m := h
        have h2 : tblR plnQ 289 nl li = .error 231 := rfl
        rw [h2] at h'; cases h'
      · have h' : lesR plnQ 289 n = .ok m := h
        have h2 : lesR plnQ 289 n = .error 231 := rfl
        rw [h2] at h'; cases h'
      · have h' : (if plnQ.r = 1 then Except.ok (stepsN (((289 : Nat) : Int) - 1)) else .error 231) = (Except.ok m : Except Int Nat) := h
        rw [if_neg (by decide)] at h'; cases h'
  refine ⟨fk, ?_⟩
  cases hr : ruA plnP 17 (.mk k s n nl li na ar) u with
  | ok m' =>
    have := ru_same fk hr
    rw [h] at this
    injection this with this
    subst this
    exact .inl rfl
  | error e =>
    refine .inr ?_
    have iff : ∀ {b : Bool} {v : Nat}, (if b = true then Except.ok v else .error 233) = (Except.error e : Except Int Nat) → e = 233 := fun {b v} hq => by
      split at hq
      · cases hq
      · injection hq with hq; exact hq.symm
    unfold fieldK at fk
    simp only [Bool.or_eq_false_iff, decide_eq_false_iff_not] at fk
    obtain ⟨k11, k13, k12⟩ := fk
    unfold ruA at hr
    simp only at hr
    by_cases k2 : k = 2
    · rw [if_pos k2] at hr; rw [iff hr]
    rw [if_neg k2] at hr
    by_cases k3 : k = 3
    · rw [if_pos k3] at hr; rw [iff hr]
    rw [if_neg k3] at hr
    by_cases k7 : k = 7
    · rw [if_pos k7] at hr; cases hr
    rw [if_neg k7] at hr
    by_cases k8 : k = 8
    · rw [if_pos k8] at hr; rw [iff hr]
    rw [if_neg k8] at hr
    by_cases k10 : k = 10
    · rw [if_pos k10] at hr; rw [iff hr]
    rw [if_neg k10] at hr
    by_cases k14 : k = 14
    · rw [if_pos k14] at hr; rw [iff hr]
    rw [if_neg k14] at hr
    rw [if_neg k11, if_neg k13, if_neg k12] at hr
    cases hr

abbrev sh17 (ns : Nms) (x : Ex) : Except Int (Bool × Nat) := shE ns (ruA plnP 17) x
abbrev sh289 (ns : Nms) (x : Ex) : Except Int (Bool × Nat) := shE ns (ruA plnQ 289) x
theorem shE_node {ns : Nms} {ru : Ex → Nat → Except Int Nat} {k : Int} {s : ByteArray} {n : Int} {nl : Nat} {li : Nat → Int} {na : Nat} {ar : Nat → Ex} (hk : k ≠ 1) : shE ns ru (.mk k s n nl li na ar) = nodeE (ru (.mk k s n nl li na ar)) (foldE (fun i => shE ns ru (ar i)) na) := by
  show (if k = 1 then _ else _) = _
  rw [if_neg hk]
theorem shE_name {ns : Nms} {ru : Ex → Nat → Except Int Nat} {k : Int} {s : ByteArray} {n : Int} {nl : Nat} {li : Nat → Int} {na : Nat} {ar : Nat → Ex} (hk : k = 1) : shE ns ru (.mk k s n nl li na ar) = nameE (findN ns s) := by
  show (if k = 1 then _ else _) = _
  rw [if_pos hk]
theorem any_succ {n : Nat} {p : Nat → Bool} : anyN (n + 1) p = (anyN n p || p n) := by
  unfold anyN
  rw [List.range_succ, List.any_append]
  simp
theorem foldE_next (f : Nat → Except Int (Bool × Nat)) (n : Nat) : foldE f (n + 1) = match foldE f n with
    | .error e => .error e
    | .ok (kn, d, u) => match f n with
      | .error e => .error e
      | .ok (k', d') => .ok (kn && k', max d d', if k' = true then u else u + 1) := rfl
theorem fold_fwd {f g : Nat → Except Int (Bool × Nat)} {h : Nat → Bool} : ∀ {n : Nat}, (∀ i, i < n → ∀ r, f i = .ok r → if h i = true then g i = .error 231 else g i = .ok r) → ∀ {q}, foldE f n = .ok q → if anyN n h = true then foldE g n = .error 231 else foldE g n = .ok q
  | 0, _, q, hq => by
    have : anyN 0 h = false := rfl
    rw [this, if_neg (by decide)]; exact hq
  | n + 1, hf, q, hq => by
    rw [foldE_next] at hq
    cases h1 : foldE f n with
    | error e => rw [h1] at hq; cases hq
    | ok p =>
      obtain ⟨kn, d, u⟩ := p
      rw [h1] at hq
      simp only at hq
      cases h2 : f n with
      | error e => rw [h2] at hq; cases hq
      | ok r =>
        rw [h2] at hq
        have ih := fold_fwd (fun i hi => hf i (by omega)) h1
        have hn := hf n (by omega) r h2
        rw [any_succ, foldE_next]
        cases ha : anyN n h with
        | true =>
          rw [ha, if_pos rfl] at ih
          rw [Bool.true_or, if_pos rfl, ih]
        | false =>
          rw [ha, if_neg (by decide)] at ih
          rw [Bool.false_or, ih]
          cases hb : h n with
          | true =>
            rw [hb, if_pos rfl] at hn
            rw [if_pos rfl]
            simp only [hn]
          | false =>
            rw [hb, if_neg (by decide)] at hn
            rw [if_neg (by decide)]
            simp only [hn]
            exact hq
theorem fold_back {f g : Nat → Except Int (Bool × Nat)} {h : Nat → Bool} : ∀ {n : Nat}, (∀ i, i < n → ∀ r, g i = .ok r → h i = false ∧ (f i = .ok r ∨ f i = .error 233)) → ∀ {q}, foldE g n = .ok q → anyN n h = false ∧ (foldE f n = .ok q ∨ foldE f n = .error 233)
  | 0, _, q, hq => ⟨rfl, .inl hq⟩
  | n + 1, hf, q, hq => by
    rw [foldE_next] at hq
    cases h1 : foldE g n with
    | error e => rw [h1] at hq; cases hq
    | ok p =>
      obtain ⟨kn, d, u⟩ := p
      rw [h1] at hq
      simp only at hq
      cases h2 : g n with
      | error e => rw [h2] at hq; cases hq
      | ok r =>
        rw [h2] at hq
        obtain ⟨i1, i2⟩ := fold_back (fun i hi => hf i (by omega)) h1
        obtain ⟨n1, n2⟩ := hf n (by omega) r h2
        refine ⟨by rw [any_succ, i1, n1]; rfl, ?_⟩
        rw [foldE_next]
        rcases i2 with i2 | i2
        · rw [i2]
          rcases n2 with n2 | n2
          · simp only [n2]; exact .inl hq
          · simp only [n2]; first | exact .inr rfl | exact .inr trivial
        · rw [i2]; first | exact .inr rfl | exact .inr trivial
theorem sh_fwd (ns : Nms) : ∀ (x : Ex), formB x = true → ∀ r, sh17 ns x = .ok r → if hasE x = true then sh289 ns x = .error 231 else sh289 ns x = .ok r := by
  intro x
  induction x with
  | nil => intro h; cases h
  | mk k s n nl li na ar ih =>
    intro hf r hr
    obtain ⟨hk, hna, har⟩ := formB_args hf
    by_cases k1 : k = 1
    · rw [sh17, shE_name k1] at hr
      have h0 : hasE (.mk k s n nl li na ar) = false := by
        have e0 : na = 0 := name_args hf k1
        rw [hasE_mk, e0, k1]; rfl
      rw [h0, if_neg (by decide)]
      show sh289 ns _ = _
      rw [sh289, shE_name k1]; exact hr
    · rw [sh17, shE_node k1] at hr
      rw [sh289, shE_node k1]
      cases h1 : foldE (fun i => shE ns (ruA plnP 17) (ar i)) na with
      | error e => rw [h1] at hr; cases hr
      | ok q =>
        obtain ⟨kn, d, u⟩ := q
        rw [h1] at hr
        have hr' : finE kn d (ruA plnP 17 (.mk k s n nl li na ar) u) = .ok r := hr
        have hfw := fold_fwd (h := fun i => hasE (ar i)) (fun i hi r hr => ih i (har i hi) r hr) h1
        rw [hasE_mk]
        cases ha : anyN na (fun i => hasE (ar i)) with
        | true =>
          rw [ha, if_pos rfl] at hfw
          rw [Bool.or_true, if_pos rfl, hfw]; rfl
        | false =>
          rw [ha, if_neg (by decide)] at hfw
          rw [Bool.or_false, hfw]
          cases hu : ruA plnP 17 (.mk k s n nl li na ar) u with
          | error e => rw [hu] at hr'; cases hr'
          | ok m =>
            rw [hu] at hr'
            show if fieldK k = true then finE kn d (ruA plnQ 289 (.mk k s n nl li na ar) u) = .error 231 else finE kn d (ruA plnQ 289 (.mk k s n nl li na ar) u) = .ok r
            cases fk : fieldK k with
            | false => rw [if_neg (by decide), ru_same fk hu]; exact hr'
            | true =>
              rw [if_pos rfl]
              unfold fieldK at fk
              simp only [Bool.or_eq_true, decide_eq_true_eq] at fk
              rcases fk with rfl | rfl | rfl
              · rfl
              · rfl
              · rfl
theorem sh_back (ns : Nms) : ∀ (x : Ex), formB x = true → ∀ r, sh289 ns x = .ok r → hasE x = false ∧ (sh17 ns x = .ok r ∨ sh17 ns x = .error 233) := by
  intro x
  induction x with
  | nil => intro h; cases h
  | mk k s n nl li na ar ih =>
    intro hf r hr
    obtain ⟨hk, hna, har⟩ := formB_args hf
    by_cases k1 : k = 1
    · rw [sh289, shE_name k1] at hr
      have h0 : hasE (.mk k s n nl li na ar) = false := by
        have e0 : na = 0 := name_args hf k1
        rw [hasE_mk, e0, k1]; rfl
      exact ⟨h0, .inl (by rw [sh17, shE_name k1]; exact hr)⟩
    · rw [sh289, shE_node k1] at hr
      rw [sh17, shE_node k1]
      cases h1 : foldE (fun i => shE ns (ruA plnQ 289) (ar i)) na with
      | error e => rw [h1] at hr; cases hr
      | ok q =>
        obtain ⟨kn, d, u⟩ := q
        rw [h1] at hr
        have hr' : finE kn d (ruA plnQ 289 (.mk k s n nl li na ar) u) = .ok r := hr
        obtain ⟨b1, b2⟩ := fold_back (h := fun i => hasE (ar i)) (fun i hi r hr => ih i (har i hi) r hr) h1
        cases hu : ruA plnQ 289 (.mk k s n nl li na ar) u with
        | error e => rw [hu] at hr'; cases hr'
        | ok m =>
          rw [hu] at hr'
          obtain ⟨c1, c2⟩ := ru_back hu
          refine ⟨by rw [hasE_mk, c1, b1]; rfl, ?_⟩
          rcases b2 with b2 | b2
          · rw [b2]
            rcases c2 with c2 | c2
            · exact .inl (by show finE kn d (ruA plnP 17 _ u) = _; rw [c2]; exact hr')
            · exact .inr (by show finE kn d (ruA plnP 17 _ u) = _; rw [c2]; rfl)
          · rw [b2]; exact .inr rfl
/-- No error is 0. -/
theorem sh_ne {ns : Nms} {ru : Ex → Nat → Except Int Nat} (hru : ∀ x u er, ru x u = .error er → er ≠ 0) : ∀ (x : Ex), formB x = true → ∀ er, shE ns ru x = .error er → er ≠ 0 := by
  intro x
  induction x with
  | nil => intro h; cases h
  | mk k s n nl li na ar ih =>
    intro hf er hr
    obtain ⟨hk, hna, har⟩ := formB_args hf
    by_cases k1 : k = 1
    · rw [shE_name k1] at hr
      cases hq : findN ns s with
      | some p => rw [hq] at hr; cases hr
      | none => rw [hq] at hr; injection hr with hr; subst hr; decide
    · rw [shE_node k1] at hr
      have fold : ∀ m, m ≤ na → ∀ er, foldE (fun i => shE ns ru (ar i)) m = .error er → er ≠ 0 := by
        intro m
        induction m with
        | zero => intro _ er h; cases h
        | succ m ihm =>
          intro hm er h
          rw [foldE_next] at h
          cases h1 : foldE (fun i => shE ns ru (ar i)) m with
          | error e => rw [h1] at h; injection h with h; subst h; exact ihm (by omega) _ h1
          | ok q =>
            obtain ⟨kn, d, u⟩ := q
            rw [h1] at h
            simp only at h
            cases h2 : shE ns ru (ar m) with
            | error e => rw [h2] at h; injection h with h; subst h; exact ih m (har m (by omega)) _ h2
            | ok r => rw [h2] at h; cases h
      cases h1 : foldE (fun i => shE ns ru (ar i)) na with
      | error e => rw [h1] at hr; injection hr with hr; subst hr; exact fold na (Nat.le_refl _) _ h1
      | ok q =>
        obtain ⟨kn, d, u⟩ := q
        rw [h1] at hr
        have hr' : finE kn d (ru (.mk k s n nl li na ar) u) = .error er := hr
        cases hu : ru (.mk k s n nl li na ar) u with
        | error e => rw [hu] at hr'; injection hr' with hr'; subst hr'; exact hru _ _ _ hu
        | ok m =>
          rw [hu] at hr'
          have h8 : (if (if kn = true then 0 else d + m) ≤ 8 then Except.ok (kn, if kn = true then 0 else d + m) else .error 232) = (Except.error er : Except Int (Bool × Nat)) := hr'
          by_cases hle : (if kn = true then 0 else d + m) ≤ 8
          · rw [if_pos hle] at h8; cases h8
          · rw [if_neg hle] at h8; injection h8 with h8; subst h8; decide
theorem ruA_ne (x : Par) (t : Nat) : ∀ e u er, ruA x t e u = .error er → er ≠ 0 := by
  intro e u er h
  cases e with
  | nil => cases h
  | mk k s n nl li na ar =>
    have z : ∀ {b : Prop} [Decidable b] {v : Except Int Nat} {w : Int}, w ≠ 0 → (v = .error er → er ≠ 0) → (if b then v else .error w) = (Except.error er : Except Int Nat) → er ≠ 0 := fun {b _ v w} hw hv hq => by
      split at hq
      · exact hv hq
      · injection hq with hq; subst hq; exact hw
    have ok : ∀ {v : Nat}, (Except.ok v : Except Int Nat) = .error er → er ≠ 0 := fun h => by cases h
    unfold ruA at h
    simp only at h
    split at h
    · exact z (by decide) ok h
    split at h
    · exact z (by decide) ok h
    split at h
    · exact ok h
    split at h
    · exact z (by decide) ok h
    split at h
    · exact z (by decide) ok h
    split at h
    · exact z (by decide) ok h
    split at h
    · unfold tblR at h; exact z (by decide) (z (by decide) ok) h
    split at h
    · unfold lesR at h; exact z (by decide) (z (by decide) ok) h
    split at h
    · exact z (by decide) ok h
    · exact ok h

/-! TypingFields: the plain law of circuits. -/

section
variable {ln : Nat → ByteArray} {ns0 : Nms}
theorem letT_next (sh : Nms → Nat → Except Int (Bool × Nat)) (i : Nat) : letT ns0 ln sh (i + 1) = letR ln sh i (letT ns0 ln sh i) := rfl
theorem let_fwd {f g : Nms → Nat → Except Int (Bool × Nat)} {h : Nat → Bool} : ∀ {n : Nat}, (∀ i, i < n → ∀ ns r, f ns i = .ok r → if h i = true then g ns i = .error 231 else g ns i = .ok r) →
    ∀ {q}, letT ns0 ln f n = .ok q → if anyN n h = true then ∃ j, letT ns0 ln g n = .error (j, 231) else letT ns0 ln g n = .ok q
  | 0, _, q, hq => by
    have : anyN 0 h = false := rfl
    rw [this, if_neg (by decide)]; exact hq
  | n + 1, hf, q, hq => by
    rw [letT_next] at hq
    cases h1 : letT ns0 ln f n with
    | error e => rw [h1] at hq; cases hq
    | ok p =>
      obtain ⟨ns, ss⟩ := p
      rw [h1] at hq
      have hq' : (if (findN ns (ln n)).isSome = true then Except.error (n, 230) else letS ns ss n (ln n) (f ns n)) = (Except.ok q : Except (Nat × Int) (Nms × List (Bool × Nat))) := hq
      have ih := let_fwd (fun i hi => hf i (by omega)) h1
      rw [any_succ, letT_next]
      by_cases hs : (findN ns (ln n)).isSome = true
      · rw [if_pos hs] at hq'; cases hq'
      · rw [if_neg hs] at hq'
        cases h2 : f ns n with
        | error e => rw [h2] at hq'; cases hq'
        | ok r =>
          rw [h2] at hq'
          have hn := hf n (by omega) ns r h2
          cases ha : anyN n h with
          | true =>
            rw [ha, if_pos rfl] at ih
            obtain ⟨j, hj⟩ := ih
            rw [Bool.true_or, if_pos rfl, hj]
            exact ⟨j, rfl⟩
          | false =>
            rw [ha, if_neg (by decide)] at ih
            rw [Bool.false_or, ih]
            have e1 : letR ln g n (.ok (ns, ss)) = if (findN ns (ln n)).isSome = true then Except.error (n, 230) else letS ns ss n (ln n) (g ns n) := rfl
            rw [e1, if_neg hs]
            cases hb : h n with
            | true =>
              rw [hb, if_pos rfl] at hn
              rw [if_pos rfl, hn]
              exact ⟨n, rfl⟩
            | false =>
              rw [hb, if_neg (by decide)] at hn
              rw [if_neg (by decide), hn]
              exact hq'
theorem let_back {f g : Nms → Nat → Except Int (Bool × Nat)} {h : Nat → Bool} : ∀ {n : Nat}, (∀ i, i < n → ∀ ns r, g ns i = .ok r → h i = false ∧ (f ns i = .ok r ∨ f ns i = .error 233)) →
    ∀ {q}, letT ns0 ln g n = .ok q → anyN n h = false ∧ (letT ns0 ln f n = .ok q ∨ ∃ j, letT ns0 ln f n = .error (j, 233))
  | 0, _, q, hq => ⟨rfl, .inl hq⟩
  | n + 1, hf, q, hq => by
    rw [letT_next] at hq
    cases h1 : letT ns0 ln g n with
    | error e => rw [h1] at hq; cases hq
    | ok p =>
      obtain ⟨ns, ss⟩ := p
      rw [h1] at hq
      have hq' : (if (findN ns (ln n)).isSome = true then Except.error (n, 230) else letS ns ss n (ln n) (g ns n)) = (Except.ok q : Except (Nat × Int) (Nms × List (Bool × Nat))) := hq
      obtain ⟨i1, i2⟩ := let_back (fun i hi => hf i (by omega)) h1
      rw [any_succ, letT_next]
      by_cases hs : (findN ns (ln n)).isSome = true
      · rw [if_pos hs] at hq'; cases hq'
      · rw [if_neg hs] at hq'
        cases h2 : g ns n with
        | error e => rw [h2] at hq'; cases hq'
        | ok r =>
          rw [h2] at hq'
          obtain ⟨n1, n2⟩ := hf n (by omega) ns r h2
          refine ⟨by rw [i1, n1]; rfl, ?_⟩
          rcases i2 with i2 | ⟨j, i2⟩
          · rw [i2]
            have e1 : letR ln f n (.ok (ns, ss)) = if (findN ns (ln n)).isSome = true then Except.error (n, 230) else letS ns ss n (ln n) (f ns n) := rfl
            rw [e1, if_neg hs]
            rcases n2 with n2 | n2
            · rw [n2]; exact .inl hq'
            · rw [n2]; exact .inr ⟨n, rfl⟩
          · rw [i2]; exact .inr ⟨j, rfl⟩
theorem let_ne {f : Nms → Nat → Except Int (Bool × Nat)} : ∀ {n : Nat}, (∀ i, i < n → ∀ ns er, f ns i = .error er → er ≠ 0) → ∀ {j er}, letT ns0 ln f n = .error (j, er) → er ≠ 0
  | 0, _, j, er, hq => by cases hq
  | n + 1, hf, j, er, hq => by
    rw [letT_next] at hq
    cases h1 : letT ns0 ln f n with
    | error e =>
      rw [h1] at hq
      have hq' : (Except.error e : Except (Nat × Int) (Nms × List (Bool × Nat))) = .error (j, er) := hq
      injection hq' with hq'
      subst hq'
      exact let_ne (fun i hi => hf i (by omega)) h1
    | ok p =>
      obtain ⟨ns, ss⟩ := p
      rw [h1] at hq
      have hq' : (if (findN ns (ln n)).isSome = true then Except.error (n, 230) else letS ns ss n (ln n) (f ns n)) = (Except.error (j, er) : Except (Nat × Int) (Nms × List (Bool × Nat))) := hq
      by_cases hs : (findN ns (ln n)).isSome = true
      · rw [if_pos hs] at hq'
        injection hq' with hq'
        injection hq' with h3 h4
        subst h4; decide
      · rw [if_neg hs] at hq'
        cases h2 : f ns n with
        | ok r => rw [h2] at hq'; cases hq'
        | error e =>
          rw [h2] at hq'
          have hq2 : (Except.error (n, e) : Except (Nat × Int) (Nms × List (Bool × Nat))) = .error (j, er) := hq'
          injection hq2 with hq2
          injection hq2 with h3 h4
          subst h4
          exact hf n (by omega) ns _ h2
theorem out_ne {ns : Nms} {fo : Nat → ByteArray} : ∀ {n : Nat} {e : Int}, outT ns fo n = some e → e ≠ 0
  | 0, e, h => by cases h
  | n + 1, e, h => by
    have h' : (match outT ns fo n with | some e => some e | none => outR (findN ns (fo n))) = some e := h
    cases h1 : outT ns fo n with
    | some e' => rw [h1] at h'; injection h' with h'; subst h'; exact out_ne h1
    | none =>
      rw [h1] at h'
      simp only at h'
      cases h2 : findN ns (fo n) with
      | none => rw [h2] at h'; injection h' with h'; subst h'; decide
      | some r =>
        rw [h2] at h'
        have h3 : (if r.1 = true then some (234 : Int) else none) = some e := h'
        split at h3
        · injection h3 with h3; subst h3; decide
        · cases h3
end
/-- What the law says of two answers of Type. -/
structure FldOk (q r : List (Bool × Nat) × Int × Int) (fld : Bool) : Prop where
  same : q.2.2 = 0 → fld = false → r.2.2 = 0 ∧ q.1 = r.1
  field : q.2.2 = 0 → fld = true → r.2.2 = 231 ∧ 0 ≤ r.2.1
  other : q.2.2 ≠ 0 → r.2.2 = 0 → q.2.2 = 233 ∧ 0 ≤ q.2.1
theorem fld_law (c : Ci) : FldOk (typeQ 0 c (ruA plnP 17)) (typeQ 0 c (ruA plnQ 289)) (anyN c.nl fun i => hasE (c.le i)) := by
  have e0 : ∀ ru, typeQ 0 c ru = if checkI c ≠ 0 then ([], 0, checkI c) else typeT c ru := fun ru => by unfold typeQ; rw [if_neg (by simp)]
  rw [e0, e0]
  by_cases hc : checkI c = 0
  · rw [if_neg (by simp [hc]), if_neg (by simp [hc])]
    have hform : ∀ i, i < c.nl → formB (c.le i) = true := fun i hi => check_form hc hi
    have t1 : ∀ ru, typeT c ru = match insT c.fi c.ni with | none => ([], -1, 230) | some ns => midT c (letT ns c.ln (fun ns i => shE ns ru (c.le i)) c.nl) := fun _ => rfl
    rw [t1, t1]
    cases hi : insT c.fi c.ni with
    | none => exact ⟨fun h => (by cases h), fun h => (by cases h), fun _ h => (by cases h)⟩
    | some ns =>
      simp only
      cases h1 : letT ns c.ln (fun ns i => shE ns (ruA plnP 17) (c.le i)) c.nl with
      | ok q =>
        obtain ⟨ns1, ss⟩ := q
        have hw := let_fwd (h := fun i => hasE (c.le i)) (g := fun ns i => shE ns (ruA plnQ 289) (c.le i)) (fun i hi ns r hr => sh_fwd ns (c.le i) (hform i hi) r hr) h1
        have m1 : ∀ ns1 ss, midT c (.ok (ns1, ss)) = lastT ss c.nl (outT ns1 c.fo c.no) := fun _ _ => rfl
        rw [m1]
        cases ha : anyN c.nl (fun i => hasE (c.le i)) with
        | true =>
          rw [ha, if_pos rfl] at hw
          obtain ⟨j, hj⟩ := hw
          rw [hj]
          exact ⟨fun _ h => (by cases h), fun _ _ => ⟨rfl, (by show (0 : Int) ≤ (j : Int); omega)⟩, fun _ h => (by cases h)⟩
        | false =>
          rw [ha, if_neg (by decide)] at hw
          rw [hw, m1]
          cases ho : outT ns1 c.fo c.no with
          | none => exact ⟨fun _ _ => ⟨rfl, rfl⟩, fun _ h => (by cases h), fun h => absurd rfl h⟩
          | some e =>
            have := out_ne ho
            exact ⟨fun h => absurd h this, fun h => absurd h this, fun _ h => absurd h this⟩
      | error p =>
        obtain ⟨j, er⟩ := p
        have hne := let_ne (fun i hi ns er h => sh_ne (ruA_ne plnP 17) (c.le i) (hform i hi) er h) h1
        refine ⟨fun h => absurd h hne, fun h => absurd h hne, fun _ h => ?_⟩
        cases h2 : letT ns c.ln (fun ns i => shE ns (ruA plnQ 289) (c.le i)) c.nl with
        | error p2 =>
          obtain ⟨j2, er2⟩ := p2
          have hne2 := let_ne (fun i hi ns er h => sh_ne (ruA_ne plnQ 289) (c.le i) (hform i hi) er h) h2
          rw [h2] at h
          exact absurd h hne2
        | ok q =>
          obtain ⟨_, hb⟩ := let_back (h := fun i => hasE (c.le i)) (f := fun ns i => shE ns (ruA plnP 17) (c.le i)) (fun i hi ns r hr => sh_back ns (c.le i) (hform i hi) r hr) h2
          rw [h1] at hb
          rcases hb with hb | ⟨j', hb⟩
          · cases hb
          · injection hb with hb
            injection hb with h3 h4
            subst h3 h4
            exact ⟨rfl, by show (0 : Int) ≤ (j : Int); omega⟩
  · rw [if_pos (by simpa using hc), if_pos (by simpa using hc)]
    exact ⟨fun h => absurd h hc, fun h => absurd h hc, fun _ h => absurd h hc⟩
end Go.Proofs.YtljfgdlgmdcmfaaGreat
