/- A region whose order is drawn: each operation of its head is met once, from any world that meets S, with what is known of the values that it waits for; its values need not be the same in all orders. No program is named here. -/
import Derived.StillTail
import Derived.StillTactics
namespace Go.Proofs.YtljfgdlgmdcmfaaGreat
open Go
set_option linter.unusedVariables false

section
variable {P : Program} {ops : Array Oper}

def dstAt (ops : Array Oper) (i : Nat) : Option Tmp := (ops[i]?).bind (·.dst)
/-- The frame with the values of the first k operations, of those that have run. -/
def putH (ops : Array Oper) (V : Nat → Value) (L : Nat → Bool) (a0 : Act) : Nat → Act
  | 0 => a0
  | k + 1 => if L k = true then (putH ops V L a0 k).put (dstAt ops k) (V k) else putH ops V L a0 k
def updV (V : Nat → Value) (i : Nat) (v : Value) : Nat → Value := fun j => if j = i then v else V j
def updL (L : Nat → Bool) (i : Nat) : Nat → Bool := fun j => if j = i then true else L j

theorem putH_add {V : Nat → Value} {L : Nat → Bool} {a0 : Act} {i n : Nat} {v : Value} (hd : ∀ j, j < n → j ≠ i → ∀ d, dstAt ops i = some d → dstAt ops j ≠ some d) (hL : L i = false) :
    ∀ k, k ≤ n → putH ops (updV V i v) (updL L i) a0 k = if i < k then (putH ops V L a0 k).put (dstAt ops i) v else putH ops V L a0 k
  | 0, _ => by simp [putH]
  | k + 1, hk => by
    have ih := putH_add (a0 := a0) (v := v) (V := V) hd hL k (by omega)
    by_cases e : k = i
    · subst e
      have h1 : updL L k k = true := by simp [updL]
      have h2 : updV V k v k = v := by simp [updV]
      simp only [putH, h1, h2, hL, ih, Nat.lt_irrefl, if_false, if_true, Nat.lt_succ_self, Bool.false_eq_true]
    · have h1 : updL L i k = L k := by simp [updL, e]
      have h2 : updV V i v k = V k := by simp [updV, e]
      have h3 : (i < k + 1) = (i < k) := propext (by omega)
      simp only [putH, h1, h2, ih, h3]
      by_cases hl : L k = true
      · by_cases hik : i < k
        · simp only [hl, hik, if_true]
          exact Act.put_comm _ _ _ (fun d hdi => hd k (by omega) e d hdi)
        · simp only [hl, hik, if_true, if_false]
      · simp [hl]

theorem put_size (a : Act) (d : Option Tmp) (v : Value) : (a.put d v).tmps.size = a.tmps.size := by
  cases d <;> simp [Act.put]
theorem putH_size {V : Nat → Value} {L : Nat → Bool} {a0 : Act} : ∀ k, (putH ops V L a0 k).tmps.size = a0.tmps.size
  | 0 => rfl
  | k + 1 => by
    simp only [putH]
    split
    · rw [put_size]; exact putH_size k
    · exact putH_size k
theorem putH_eval {V : Nat → Value} {L : Nat → Bool} {a0 : Act} {i n : Nat} {x : Operand} (h : ∀ j t, j < n → dstAt ops j = some t → x = .tmp t → L j = true ∧ j < i) :
    ∀ k, k ≤ n → (putH ops V L a0 k).eval x = (putH ops V (fun j => decide (j < i)) a0 k).eval x
  | 0, _ => rfl
  | k + 1, hk => by
    have ih := putH_eval (V := V) (a0 := a0) h k (by omega)
    by_cases hr : ∃ t, dstAt ops k = some t ∧ x = .tmp t
    · obtain ⟨t, h1, rfl⟩ := hr
      obtain ⟨h2, h3⟩ := h k t (by omega) h1 rfl
      simp only [putH, h2, decide_eq_true h3, if_true, h1]
      have s1 := putH_size (ops := ops) (V := V) (L := L) (a0 := a0) k
      have s2 := putH_size (ops := ops) (V := V) (L := fun j => decide (j < i)) (a0 := a0) k
      simp only [Act.put, Act.eval, Array.getD_eq_getD_getElem?, Array.getElem?_setIfInBounds_self, s1, s2]
    · have hne : ∀ d, dstAt ops k = some d → x ≠ .tmp d := fun d hd e => hr ⟨d, hd, e⟩
      simp only [putH]
      split <;> split <;> simp only [Act.eval_put hne, ih]
theorem putH_upto {V : Nat → Value} {a0 : Act} {i : Nat} : ∀ k, putH ops V (fun j => decide (j < i)) a0 k = putH ops V (fun _ => true) a0 (min k i)
  | 0 => by rw [Nat.zero_min]; rfl
  | k + 1 => by
    have ih := putH_upto (V := V) (a0 := a0) (i := i) k
    by_cases h : k < i
    · rw [Nat.min_eq_left (by omega)]
      rw [Nat.min_eq_left (by omega)] at ih
      simp only [putH, decide_eq_true h, if_true, ih]
    · rw [Nat.min_eq_right (by omega)]
      rw [Nat.min_eq_right (by omega)] at ih
      simp only [putH, decide_eq_false h, Bool.false_eq_true, if_false, ih]
theorem putH_all {V : Nat → Value} {L : Nat → Bool} {a0 : Act} : ∀ k, (∀ j, j < k → L j = true) → putH ops V L a0 k = putH ops V (fun _ => true) a0 k
  | 0, _ => rfl
  | k + 1, h => by
    simp only [putH, h k (by omega), if_true]
    rw [putH_all k (fun j hj => h j (by omega))]

def cntH (L : Nat → Bool) : Nat → Nat
  | 0 => 0
  | k + 1 => cntH L k + (if L k = true then 0 else 1)
theorem cnt_add {L : Nat → Bool} {i : Nat} (hL : L i = false) : ∀ k, (i < k → cntH (updL L i) k + 1 = cntH L k) ∧ (k ≤ i → cntH (updL L i) k = cntH L k)
  | 0 => ⟨fun h => by omega, fun _ => rfl⟩
  | k + 1 => by
    obtain ⟨h1, h2⟩ := cnt_add hL k
    by_cases e : k = i
    · subst e
      have h3 : updL L k k = true := by simp [updL]
      refine ⟨fun _ => ?_, fun h => by omega⟩
      simp only [cntH, h3, hL, h2 (Nat.le_refl _), if_true, Bool.false_eq_true, if_false]
    · have h3 : updL L i k = L k := by simp [updL, e]
      refine ⟨fun h => ?_, fun h => ?_⟩
      · simp only [cntH, h3]; have := h1 (by omega); omega
      · simp only [cntH, h3]; rw [h2 (by omega)]
theorem cnt_zero {L : Nat → Bool} : ∀ k, cntH L k = 0 → ∀ j, j < k → L j = true
  | 0, _, j, h => by omega
  | k + 1, h, j, hj => by
    simp only [cntH] at h
    by_cases e : j = k
    · subst e
      by_cases hl : L j = true
      · exact hl
      · rw [if_neg hl] at h; omega
    · exact cnt_zero k (by omega) j (by omega)
theorem cnt_least {L : Nat → Bool} : ∀ k, cntH L k ≠ 0 → ∃ i, i < k ∧ L i = false ∧ ∀ j, j < i → L j = true
  | 0, h => absurd rfl h
  | k + 1, h => by
    by_cases h0 : cntH L k = 0
    · refine ⟨k, by omega, ?_, cnt_zero k h0⟩
      simp only [cntH, h0] at h
      cases hl : L k with
      | false => rfl
      | true => rw [if_pos hl] at h; omega
    · obtain ⟨i, h1, h2⟩ := cnt_least k h0
      exact ⟨i, by omega, h2⟩

def readsB (o : Oper) (t : Tmp) : Bool := o.op.operands.any fun x => match x with | .tmp d => d == t | _ => false
/-- What is asked of the head: each operation waits for its guard; each waits for those whose values it reads, which come before it; their places differ. -/
def relB (ops : Array Oper) (n : Nat) : Bool :=
  (List.range n).all fun i => match ops[i]? with
    | none => false
    | some o => (match o.guard with | none => true | some (g, _) => decide (g < i) && o.after.any fun e => Region.binds .any e && decide (e.on = g)) && (o.after.all fun e => decide (e.on < i)) && (List.range n).all fun j => match dstAt ops j with
      | none => true
      | some t => (decide (j = i) || decide (dstAt ops i ≠ some t)) && (!readsB o t || o.after.any fun e => Region.binds .any e && decide (e.on = j))
theorem relB_spec {n : Nat} (h : relB ops n = true) {i : Nat} (hi : i < n) : ∃ o, ops[i]? = some o ∧ (∀ g b, o.guard = some (g, b) → g < i ∧ ∃ e, e ∈ o.after ∧ Region.binds .any e = true ∧ e.on = g) ∧ (∀ e, e ∈ o.after → e.on < i) ∧
    ∀ j t, j < n → dstAt ops j = some t → (j ≠ i → dstAt ops i ≠ some t) ∧ (.tmp t ∈ o.op.operands → ∃ e, e ∈ o.after ∧ Region.binds .any e = true ∧ e.on = j) := by
  have h1 := List.all_eq_true.1 h i (List.mem_range.2 hi)
  cases ho : ops[i]? with
  | none => rw [ho] at h1; cases h1
  | some o =>
    rw [ho] at h1
    simp only [Bool.and_eq_true] at h1
    obtain ⟨⟨hg, ha⟩, hj⟩ := h1
    refine ⟨o, rfl, fun g b hgb => ?_, fun e he => ?_, fun j t hjn hdt => ?_⟩
    · rw [hgb] at hg
      simp only [Bool.and_eq_true, decide_eq_true_eq] at hg
      obtain ⟨e, he, h4⟩ := Array.any_eq_true'.1 hg.2
      simp only [Bool.and_eq_true, decide_eq_true_eq] at h4
      exact ⟨hg.1, e, he, h4.1, h4.2⟩
    · have := Array.all_eq_true_iff_forall_mem.1 ha e he
      exact of_decide_eq_true this
    · have h2 := List.all_eq_true.1 hj j (List.mem_range.2 hjn)
      rw [hdt] at h2
      simp only [Bool.and_eq_true, Bool.or_eq_true, decide_eq_true_eq] at h2
      refine ⟨fun hne => h2.1.resolve_left hne, fun hm => ?_⟩
      rcases h2.2 with h3 | h3
      · have : readsB o t = true := by
          unfold readsB
          exact Array.any_eq_true'.2 ⟨_, hm, by simp⟩
        rw [this] at h3; cases h3
      · obtain ⟨e, he, h4⟩ := Array.any_eq_true'.1 h3
        simp only [Bool.and_eq_true, decide_eq_true_eq] at h4
        exact ⟨e, he, h4.1, h4.2⟩

/-- A result that leaves a value and a world of which G holds. -/
def yieldsG (P : Program) (G : Value → World → Prop) : Result Next → Prop
  | .ok (.value v) w' => G v w'
  | .ok .skip w' => G undef w'
  | .ok (.enter f args) w' => Calls P f args w' (fun e w'' => ∃ v, e = .returned v ∧ G v w'')
  | _ => False

/-- A row of conditions on the values, one for each operation. -/
def rOf : List (Value → World → Prop) → Nat → Value → World → Prop
  | [], _ => fun _ _ => True
  | p :: _, 0 => p
  | _ :: l, i + 1 => rOf l i
def rMono (E : World → World → Prop) : List (Value → World → Prop) → Prop
  | [] => True
  | p :: l => (∀ v w w', E w w' → p v w → p v w') ∧ rMono E l
theorem rOf_mono {E : World → World → Prop} : ∀ (l : List (Value → World → Prop)), rMono E l → ∀ i v w w', E w w' → rOf l i v w → rOf l i v w'
  | [], _, _, _, _, _ => fun _ h => h
  | p :: _, h, 0, v, w, w' => h.1 v w w'
  | _ :: l, h, i + 1, v, w, w' => rOf_mono l h.2 i v w w'

variable (S : World → Prop) (R : Nat → Value → World → Prop) (D : Nat → Nat → Value → Value → Prop) (E : World → World → Prop)
/-- What an operation is to do, from any world that meets S. -/
def GoodG (i : Nat) (V : Nat → Value) (L : Nat → Prop) (w : World) (v : Value) (w' : World) : Prop := S w' ∧ R i v w' ∧ E w w' ∧ ∀ j, L j → D i j v (V j) ∧ D j i (V j) v
def StepG (P : Program) (ops : Array Oper) (i : Nat) (o : Oper) (a : (Nat → Value) → Act) : Prop :=
  ∀ (V : Nat → Value) (w : World) (L : Nat → Prop), S w → (∀ j, L j → R j (V j) w) → (∀ e, e ∈ o.after → Region.binds .any e = true → L e.on) →
    if Region.wanted o (yielded ops (a V).tmps) = true then yieldsG P (GoodG S R D E i V L w) ((execOp (a V).eval o).run P w) else GoodG S R D E i V L w undef w
def relGo (P : Program) (ops : Array Oper) : Nat → List Oper → ((Nat → Value) → Act) → Prop
  | _, [], _ => True
  | i, o :: rest, a => StepG S R D E P ops i o a ∧ relGo P ops (i + 1) rest (fun V => (a V).put o.dst (V i))
variable {S R D E}
theorem yields_val {i : Nat} {V : Nat → Value} {L : Nat → Prop} {w w' : World} {v : Value} (hS : S w') (hR : R i v w') (hE : E w w') (hD : ∀ j, L j → D i j v (V j) ∧ D j i (V j) v) : yieldsG P (GoodG S R D E i V L w) (.ok (.value v) w') := ⟨hS, hR, hE, hD⟩
theorem yields_skip {i : Nat} {V : Nat → Value} {L : Nat → Prop} {w w' : World} (hS : S w') (hR : R i undef w') (hE : E w w') (hD : ∀ j, L j → D i j undef (V j) ∧ D j i (V j) undef) : yieldsG P (GoodG S R D E i V L w) (.ok .skip w') := ⟨hS, hR, hE, hD⟩
theorem yields_call {i : Nat} {V : Nat → Value} {L : Nat → Prop} {w w' : World} {f : FuncId} {args : Array Value} (h : Calls P f args w' (fun e w'' => ∃ v, e = .returned v ∧ S w'' ∧ R i v w'' ∧ E w w'' ∧ ∀ j, L j → D i j v (V j) ∧ D j i (V j) v)) : yieldsG P (GoodG S R D E i V L w) (.ok (.enter f args) w') := h
theorem relGo_at {P : Program} {l : List Oper} {a0 : Act} : ∀ (h : List Oper) (k : Nat) (a : (Nat → Value) → Act), (∀ j, j < h.length → h[j]? = l.toArray[k + j]?) → (∀ V, a V = putH l.toArray V (fun _ => true) a0 k) →
    relGo S R D E P l.toArray k h a → ∀ i o, k ≤ i → i < k + h.length → l.toArray[i]? = some o → StepG S R D E P l.toArray i o (fun V => putH l.toArray V (fun _ => true) a0 i)
  | [], k, a, _, _, _, i, o, h1, h2, _ => by simp at h2; omega
  | o' :: rest, k, a, hl, ha, hg, i, o, h1, h2, ho => by
    have h0 : l.toArray[k]? = some o' := by simpa using (hl 0 (by simp)).symm
    by_cases e : i = k
    · subst e
      obtain rfl : o' = o := Option.some.inj (h0.symm.trans ho)
      have := hg.1
      rw [show a = fun V => putH l.toArray V (fun _ => true) a0 i from funext ha] at this
      exact this
    · refine relGo_at rest (k + 1) _ (fun j hj => ?_) (fun V => ?_) hg.2 i o (by omega) (by simp at h2; omega) ho
      · have := hl (j + 1) (by simp; omega)
        simpa [Nat.add_assoc, Nat.add_comm 1 j] using this
      · simp only [putH, if_true, ha V]
        have : dstAt l.toArray k = o'.dst := by unfold dstAt; rw [h0]; rfl
        rw [this]

theorem wpAny_rel {n g : Nat} {a0 : Act} {Q : Exit → Act → World → Prop} (hsel : Region.noSelect ops = true) (hrel : relB ops n = true) (hs : Region.sinkB .any ops n = true) (hc : Region.chainB .any ops n = true) (hn : n < ops.size)
    (hmono : ∀ i v w w', E w w' → R i v w → R i v w')
    (hstep : ∀ i o, i < n → ops[i]? = some o → StepG S R D E P ops i o (fun V => putH ops V (fun _ => true) a0 i))
    (htail : ∀ (V : Nat → Value) (w : World) (listed : Array Bool), listed = ((List.range ops.size).map (fun j => decide (j < n))).toArray → S w → (∀ j, j < n → R j (V j) w) → (∀ i j, i < n → j < n → i ≠ j → D i j (V i) (V j)) → wpAny P .any ops Q g listed (putH ops V (fun _ => true) a0 n) w) :
    ∀ (f : Nat) (listed : Array Bool) (V : Nat → Value) (w : World), HeadInv .any ops n listed → cntH (fun j => listed.getD j false) n = f → S w → (∀ j, j < n → listed.getD j false = true → R j (V j) w) →
      (∀ i j, i < n → j < n → i ≠ j → listed.getD i false = true → listed.getD j false = true → D i j (V i) (V j)) →
      wpAny P .any ops Q (f + g) listed (putH ops V (fun j => listed.getD j false) a0 n) w
  | 0, listed, V, w, inv, hcnt, hS, hR, hD => by
    have hall := cnt_zero n hcnt
    rw [Nat.zero_add, putH_all n hall]
    refine htail V w listed ?_ hS (fun j hj => hR j hj (hall j hj)) (fun i j hi hj hne => hD i j hi hj hne (hall i hi) (hall j hj))
    apply Array.ext
    · simp [inv.size]
    · intro j h1 h2
      have hj : j < ops.size := by rw [← inv.size]; exact h1
      rcases Nat.lt_or_ge j n with h | h
      · have := hall j h
        simp [h1] at this
        simp [this, h]
      · have := inv.tail j h hj
        simp [h1] at this
        simp [this]; omega
  | f + 1, listed, V, w, inv, hcnt, hS, hR, hD => by
    rw [show f + 1 + g = (f + g) + 1 by omega]
    obtain ⟨i0, hi0, hf0, hl0⟩ := cnt_least n (show cntH (fun j => listed.getD j false) n ≠ 0 by omega)
    have hun0 : listed.getD i0 true = false := getD_in (by rw [inv.size]; omega) hf0
    refine ⟨fun h0 => ?_, fun i hi => ?_⟩
    · obtain ⟨o, ho, _, haft, _⟩ := relB_spec hrel hi0
      have : i0 ∈ Region.ready .any ops listed := mem_ready.2 ⟨hun0, o, ho, fun e he _ => hl0 e.on (haft e he)⟩
      rw [h0] at this; cases this
    · have hin : i < n := by
        rcases Nat.lt_or_ge i n with h | h
        · exact h
        · exact absurd hi (tail_waits hs hc hn inv _ i0 rfl hi0 hun0 i h)
      obtain ⟨hun, o, ho, hall⟩ := mem_ready.1 hi
      obtain ⟨o', ho', hguard, haft, hrd⟩ := relB_spec hrel hin
      obtain rfl : o' = o := Option.some.inj (ho'.symm.trans ho)
      have hLi : listed.getD i false = false := getD_both hun
      have hex : execOp (putH ops V (fun j => listed.getD j false) a0 n).eval o' = execOp (putH ops V (fun _ => true) a0 i).eval o' := by
        refine execOp_congr o' (fun cs b => Region.noSelect_spec hsel i o' cs b ho) fun x hx => ?_
        rw [putH_eval (i := i) (n := n) (fun j t hj hdt hxt => by
          subst hxt
          obtain ⟨e, he, hb, rfl⟩ := (hrd j t hj hdt).2 hx
          exact ⟨hall e he hb, haft e he⟩) n (Nat.le_refl _), putH_upto, Nat.min_eq_right (by omega)]
      have hst := hstep i o' hin ho V w (fun j => j < n ∧ listed.getD j false = true) hS (fun j hj => hR j hj.1 hj.2) (fun e he hb => ⟨Nat.lt_trans (haft e he) hin, hall e he hb⟩)
      have hwant : Region.wanted o' (yielded ops (putH ops V (fun j => listed.getD j false) a0 n).tmps) = Region.wanted o' (yielded ops (putH ops V (fun _ => true) a0 i).tmps) := by
        unfold Region.wanted
        cases hg : o'.guard with
        | none => rfl
        | some gb =>
          obtain ⟨g', b'⟩ := gb
          obtain ⟨hgi, e, he, hb, heg⟩ := hguard g' b' hg
          have hy : yielded ops (putH ops V (fun j => listed.getD j false) a0 n).tmps g' = yielded ops (putH ops V (fun _ => true) a0 i).tmps g' := by
            unfold yielded
            cases ht : (ops[g']?).bind (·.dst) with
            | none => rfl
            | some t =>
              have hev : (putH ops V (fun j => listed.getD j false) a0 n).eval (.tmp t) = (putH ops V (fun _ => true) a0 i).eval (.tmp t) := by
                rw [putH_eval (i := i) (n := n) (fun j t' hj hdt hxt => by
                  injection hxt with hxt
                  subst hxt
                  have hjg : j = g' := by
                    apply Classical.byContradiction
                    intro hne
                    obtain ⟨_, _, _, _, hrg⟩ := relB_spec hrel (show g' < n by omega)
                    exact (hrg j t hj hdt).1 hne ht
                  subst hjg
                  subst heg
                  exact ⟨hall e he hb, hgi⟩) n (Nat.le_refl _), putH_upto, Nat.min_eq_right (by omega)]
              have s1 := putH_size (ops := ops) (V := V) (L := fun j => listed.getD j false) (a0 := a0) n
              have s2 := putH_size (ops := ops) (V := V) (L := fun _ => true) (a0 := a0) i
              generalize putH ops V (fun j => listed.getD j false) a0 n = A1 at hev s1 ⊢
              generalize putH ops V (fun _ => true) a0 i = A2 at hev s2 ⊢
              simp only [Act.eval, Array.getD_eq_getD_getElem?] at hev
              simp only [Option.bind_some]
              rcases Nat.lt_or_ge t a0.tmps.size with hlt | hge
              · rw [Array.getElem?_eq_getElem (by omega), Array.getElem?_eq_getElem (by omega)] at hev ⊢
                simp only [Option.getD_some] at hev
                rw [hev]
              · rw [Array.getElem?_eq_none (by omega), Array.getElem?_eq_none (by omega)]
          simp only [hy]
      have hdi : dstAt ops i = o'.dst := by unfold dstAt; rw [ho]; rfl
      have hL' : ∀ j, (listed.setIfInBounds i true).getD j false = updL (fun j => listed.getD j false) i j := by
        intro j
        by_cases e : j = i
        · subst e
          have hlt : j < listed.size := by rw [inv.size]; omega
          simp [updL, hlt]
        · rw [getD_set_ne false (fun h => e h.symm)]; simp [updL, e]
      have next : ∀ v w', GoodG S R D E i V (fun j => j < n ∧ listed.getD j false = true) w v w' →
          wpAny P .any ops Q (f + g) (listed.setIfInBounds i true) ((putH ops V (fun j => listed.getD j false) a0 n).put o'.dst v) w' := by
        rintro v w' ⟨h1, h2, h3, h4⟩
        have hadd := putH_add (a0 := a0) (v := v) (V := V) (L := fun j => listed.getD j false) (i := i) (n := n) (fun j hj hne d hd => by
          intro hdj
          exact ((hrd j d hj hdj).1 hne) hd) hLi n (Nat.le_refl _)
        rw [if_pos hin, hdi] at hadd
        rw [← hadd, show updL (fun j => listed.getD j false) i = fun j => (listed.setIfInBounds i true).getD j false from (funext hL').symm]
        refine wpAny_rel hsel hrel hs hc hn hmono hstep htail f _ (updV V i v) w' (inv.set hi hin) ?_ h1 (fun j hj hl => ?_) (fun p q hp hq hne hlp hlq => ?_)
        · rw [show (fun j => (listed.setIfInBounds i true).getD j false) = updL (fun j => listed.getD j false) i from funext hL']
          have := (cnt_add (L := fun j => listed.getD j false) (i := i) hLi n).1 hin
          omega
        · by_cases e : j = i
          · subst e; simp only [updV, if_true]; exact h2
          · simp only [updV, e, if_false]
            rw [hL'] at hl
            simp only [updL, e, if_false] at hl
            exact hmono j _ _ _ h3 (hR j hj hl)
        · rw [hL'] at hlp hlq
          by_cases e1 : p = i
          · subst e1
            have e2 : q ≠ p := fun h => hne h.symm
            simp only [updL, e2, if_false] at hlq
            simp only [updV, if_true, e2, if_false]
            exact (h4 q ⟨hq, hlq⟩).1
          · simp only [updL, e1, if_false] at hlp
            by_cases e2 : q = i
            · subst e2
              simp only [updV, if_true, e1, if_false]
              exact (h4 p ⟨hp, hlp⟩).2
            · simp only [updL, e2, if_false] at hlq
              simp only [updV, e1, e2, if_false]
              exact hD p q hp hq hne hlp hlq
      unfold Go.wpOp
      simp only [ho, hwant]
      by_cases hww : Region.wanted o' (yielded ops (putH ops V (fun _ => true) a0 i).tmps) = true
      · rw [if_pos hww] at hst
        simp only [hww, if_true]
        refine .inl ?_
        unfold Oper.wp
        rw [hex]
        generalize (execOp (putH ops V (fun _ => true) a0 i).eval o').run P w = r at hst ⊢
        cases r with
        | ok nx w' =>
          cases nx <;> simp only [yieldsG] at hst <;> simp only [Oper.upon]
          case value u => exact next _ _ hst
          case skip => exact next _ _ hst
          case enter fn args => exact hst.mono fun e w'' ⟨v, he, h⟩ => by subst he; exact next _ _ h
        | halt x w' => exact hst.elim
      · rw [if_neg hww] at hst
        rw [if_neg hww]
        exact next _ _ hst

/-- The frame behind the head, laid out. -/
def relFrame : List Oper → Nat → (Nat → Value) → Act → Act
  | [], _, _, a => a
  | o :: rest, i, V, a => relFrame rest (i + 1) V (a.put o.dst (V i))
theorem relFrame_eq {l : List Oper} {V : Nat → Value} {a0 : Act} : ∀ (h : List Oper) (k : Nat), (∀ j, j < h.length → h[j]? = l.toArray[k + j]?) → relFrame h k V (putH l.toArray V (fun _ => true) a0 k) = putH l.toArray V (fun _ => true) a0 (k + h.length)
  | [], k, _ => rfl
  | o :: rest, k, hl => by
    have h0 : l.toArray[k]? = some o := by simpa using (hl 0 (by simp)).symm
    have ih := relFrame_eq (V := V) (a0 := a0) rest (k + 1) (fun j hj => by
      have := hl (j + 1) (by simp; omega)
      simpa [Nat.add_assoc, Nat.add_comm 1 j] using this)
    have hd : dstAt l.toArray k = o.dst := by unfold dstAt; rw [h0]; rfl
    simp only [putH, if_true, hd] at ih
    simp only [relFrame, List.length_cons]
    rw [ih]
    congr 1
    omega

/-- The law: the head's operations, each from any world that meets S; then the tail, in the order of its text. -/
theorem wp_region_rel {id : Nat} {Q : Exit → Act → World → Prop} {a : Act} {w : World} {l : List Oper} (S : World → Prop) (R : Nat → Value → World → Prop) (D : Nat → Nat → Value → Value → Prop) (E : World → World → Prop) (n : Nat) (hm : P.follows .mixedOrders = true)
    (hB : (Region.noSelect l.toArray && relB l.toArray n && Region.sinkB .any l.toArray n && Region.chainB .any l.toArray n && decide (n < l.length) && Region.seqB .any l.toArray (l.length - n) n ((List.range l.length).map (fun j => decide (j < n))).toArray) = true)
    (hmono : ∀ i v w w', E w w' → R i v w → R i v w') (hS : S w.drew) (hgo : relGo S R D E P l.toArray 0 (l.take n) (fun _ => a))
    (htail : ∀ (V : Nat → Value) (w' : World), S w' → (∀ j, j < n → R j (V j) w') → (∀ i j, i < n → j < n → i ≠ j → D i j (V i) (V j)) → wpList P l.toArray Q (l.drop n) (relFrame (l.take n) 0 V a) w') :
    (Code.region id l.toArray true).wp P Q a w := by
  simp only [Bool.and_eq_true, decide_eq_true_eq] at hB
  obtain ⟨⟨⟨⟨⟨hsel, hrel⟩, hs⟩, hc⟩, hn⟩, hseq⟩ := hB
  have hn' : n < l.toArray.size := by simpa using hn
  have htl : (l.take n).length = n := by simp; omega
  refine wp_region_any hm ?_
  have inv0 : HeadInv .any l.toArray n (Array.replicate l.toArray.size false) :=
    ⟨by simp, fun j oj _ hl => (by rw [getD_replicate_false] at hl; cases hl), fun t _ ht => getD_in (by simpa using ht) (getD_replicate_false _ _)⟩
  have hL0 : (fun j => (Array.replicate l.toArray.size false).getD j false) = fun _ => false := funext fun j => getD_replicate_false _ _
  have hp0 : ∀ k, putH l.toArray (fun _ => undef) (fun _ => false) a k = a := by
    intro k
    induction k with
    | zero => rfl
    | succ k ih => simp only [putH, Bool.false_eq_true, if_false, ih]
  have hc0 : ∀ k, cntH (fun _ => false) k = k := by
    intro k
    induction k with
    | zero => rfl
    | succ k ih => simp only [cntH, Bool.false_eq_true, if_false, ih]
  have H := wpAny_rel (P := P) (Q := Q) (g := l.length - n) (a0 := a) hsel hrel hs hc hn' hmono
    (fun i o hi ho => relGo_at (l.take n) 0 (fun _ => a) (fun j hj => by
      rw [htl] at hj
      simp [hj]) (fun V => rfl) hgo i o (by omega) (by rw [htl]; omega) ho)
    (fun V w' listed he hS' hR' hD' => by
      subst he
      have h1 := wpAny_of_seq (P := P) (md := .any) (ops := l.toArray) (Q' := Q) (l.drop n) n (((List.range l.toArray.size).map (fun j => decide (j < n))).toArray) (putH l.toArray V (fun _ => true) a n) w' (fun j => by simp [List.getElem?_drop]) (by rw [show (l.drop n).length = l.length - n by simp, show l.toArray.size = l.length by simp]; exact hseq) (by
        have hf := relFrame_eq (l := l) (V := V) (a0 := a) (l.take n) 0 (fun j hj => by
          rw [htl] at hj
          simp [hj])
        rw [htl, Nat.zero_add] at hf
        rw [← hf]
        exact htail V w' hS' hR' hD')
      rwa [show (l.drop n).length = l.length - n by simp] at h1)
    n (Array.replicate l.toArray.size false) (fun _ => undef) w.drew inv0 (by rw [hL0]; exact hc0 n) hS (fun j _ hl => by rw [getD_replicate_false] at hl; cases hl) (fun i j _ _ _ hl => by rw [getD_replicate_false] at hl; cases hl)
  rw [hL0, hp0, show n + (l.length - n) = l.toArray.size by simp; omega] at H
  exact H
end
end Go.Proofs.YtljfgdlgmdcmfaaGreat
