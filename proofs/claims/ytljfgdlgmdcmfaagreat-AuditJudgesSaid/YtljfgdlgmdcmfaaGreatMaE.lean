/- The machine of abstract values: code within a round of a loop over a function. The machine of abstract values: loops over functions. The machine of abstract values: loops over functions whose rounds begin with the round's two variables. The machine of abstract values: regions whose text stands in another order than they are walked. -/
import Derived.Test.YtljfgdlgmdcmfaaGreatWvS
import Derived.TacticsIn
import Derived.OrdersIn
import Derived.Test.YtljfgdlgmdcmfaaGreatWvX
/-! The machine of abstract values: code within a round of a loop over a function. -/
namespace Go.Proofs.YtljfgdlgmdcmfaaGreat.Wv
open Go.RowKit
set_option linter.unusedVariables false
set_option autoImplicit false

abbrev Rnd (l : Nat) : Fence := Fence.wide.inRound l
def noD (o : Oper) : Bool := match o.op with
  | .defer _ => false
  | _ => true
/-- Is that code that may stand in a round: no defer, no such loop, no scope? -/
def inB : Code → Bool
  | .region _ ops _ => ops.toList.all noD
  | .seq a b => inB a && inB b
  | .cond _ a b => inB a && inB b
  | .block _ b => inB b
  | .loop b => inB b
  | .scope _ => false
  | .rangeFunc .. => false
  | _ => true
theorem noD_ne {o : Oper} (h : noD o = true) : ∀ c, o.op ≠ .defer c := fun c e => by unfold noD at h; rw [e] at h; cases h
theorem op_in {P : Program} {o : Oper} {a : Act} {w : World} {next : Act → World → Prop} {Q : Exit → Act → World → Prop} {l n : Nat} (hd : ∀ c, o.op ≠ .defer c) (h : o.wp P a w next Q) : o.wpIn (Rnd l) n P a w next Q := by
  refine ⟨fun _ _ => trivial, ?_⟩
  rw [Oper.semAt_eq _ _ _ hd]
  unfold Oper.wp at h
  revert h
  cases (execOp a.eval o).run P w with
  | ok x w' =>
    cases x <;> simp only [Oper.upon, Oper.uponIn] <;> intro h <;> first
      | exact h
      | exact h.elim
      | exact And.intro (fun e => by cases e) ((((callsIn_wide (n := n - 1)).2 h).inRound l).mono (fun e w'' q => by cases e <;> exact q))
      | (refine And.intro (fun e => by cases e) (fun c cs _ => ?_)
         obtain ⟨v, w', r, s⟩ := h c cs
         exact ⟨v, w', r, stepsIn_wide.2 s⟩)
  | halt x w' => cases x <;> simp only [Oper.upon, Oper.uponIn] <;> intro h <;> first | exact h | exact h.elim
theorem ops_in {P : Program} {ops : Array Oper} {Q : Exit → Act → World → Prop} {r n : Nat} (hd : ops.toList.all noD = true) (hQ : ¬ LetsOut Q) : ∀ (l : List Nat) (a : Act) (w : World), wpOps P ops Q l a w → wpOpsIn (Rnd r) n P ops Q l a w
  | [], a, w, h => h
  | i :: l, a, w, h => by
    rw [wpOps_cons] at h
    rw [wpOpsIn_cons]
    unfold wpOp at h
    unfold wpOpIn
    split at h
    · next ho => simp only [ho]; exact ops_in hd hQ l a w h
    · next o ho =>
      simp only [ho]
      split at h
      · next hw =>
        rw [if_pos hw]
        rcases h with h | h
        · refine op_in (noD_ne (List.all_eq_true.1 hd o (List.mem_of_getElem? (i := i) (by rw [Array.getElem?_toList]; exact ho)))) ?_
          exact Oper.wp_mono (fun a w q => ops_in hd hQ l a w q) h
        · exact absurd h.2 hQ
      · next hw => rw [if_neg hw]; exact ⟨fun _ _ => trivial, ops_in hd hQ l _ w h⟩
theorem any_in {P : Program} {ops : Array Oper} {Q : Exit → Act → World → Prop} {r n : Nat} (hd : ops.toList.all noD = true) (hQ : ¬ LetsOut Q) : ∀ (f : Nat) (listed : Array Bool) (a : Act) (w : World), wpAny P .any ops Q f listed a w → wpAnyIn (Rnd r) n P .any ops Q f listed a w
  | 0, listed, a, w, h => h
  | f + 1, listed, a, w, h => by
    refine ⟨h.1, fun i hi => ?_⟩
    have h := h.2 i hi
    unfold wpOp at h
    unfold wpOpIn
    split at h
    · next ho => simp only [ho]; exact any_in hd hQ f _ a w h
    · next o ho =>
      simp only [ho]
      split at h
      · next hw =>
        rw [if_pos hw]
        rcases h with h | h
        · refine op_in (noD_ne (List.all_eq_true.1 hd o (List.mem_of_getElem? (i := i) (by rw [Array.getElem?_toList]; exact ho)))) ?_
          exact Oper.wp_mono (fun a w q => any_in hd hQ f _ a w q) h
        · exact absurd h.2 hQ
      · next hw => rw [if_neg hw]; exact ⟨fun _ _ => trivial, any_in hd hQ f _ _ w h⟩
theorem least {p : Nat → Prop} (h : ∃ n, p n) : ∃ n, p n ∧ ∀ m, m < n → ¬ p m := by
  obtain ⟨n, hn⟩ := h
  induction n using Nat.strongRecOn with
  | _ n ih =>
    by_cases hq : ∃ m, m < n ∧ p m
    · obtain ⟨m, h1, h2⟩ := hq; exact ih m h1 h2
    · exact ⟨n, hn, fun m hm hp => hq ⟨m, hm, hp⟩⟩
theorem wpIn_loop_some {F : Fence} {n : Nat} {P : Program} {Q : Exit → Act → World → Prop} {a : Act} {w : World} {c : Code} (J : Nat → Act → World → Prop) (m : Nat) (h0 : J m a w)
    (hr : ∀ m a w, J m a w → c.wpIn F n P (Exit.then (fun a' w' => ∃ m', m' < m ∧ J m' a' w') Q) a w) : (Code.loop c).wpIn F n P Q a w := by
  classical
  obtain ⟨μ, hμ⟩ : ∃ μ : Act → World → Nat, ∀ a w, (∃ m, J m a w) → J (μ a w) a w ∧ ∀ m, m < μ a w → ¬ J m a w :=
    ⟨fun a w => if h : ∃ m, J m a w then Classical.choose (least h) else 0, fun a w h => by simp only [dif_pos h]; exact Classical.choose_spec (least h)⟩
  refine wpIn_loop (fun a w => ∃ m, J m a w) μ ⟨m, h0⟩ fun a w hI => ?_
  refine wpIn_mono (hr _ a w (hμ a w hI).1) fun e a' w' q => ?_
  cases e with
  | normal =>
    obtain ⟨m', h1, h2⟩ := q
    refine ⟨⟨m', h2⟩, ?_⟩
    apply Nat.lt_of_not_le
    intro hle
    exact (hμ a' w' ⟨m', h2⟩).2 m' (by omega) h2
  | _ => exact q
theorem postOf_in {n0 : Nat} {X : Cx} {N : Nat} {Q : PostW} : ¬ LetsOut (PostOf n0 X N Q) := fun ⟨_, _, h⟩ => h
theorem code_in {P : Program} (hmix : P.follows .mixedOrders = true) {N : Nat} {L : List Nat} {ks : List (Nat × Nat)} {r n : Nat} (hes : ∀ id, kOf ks id ≠ 1000000) : ∀ (c : Code) (Q : PostW) (X : Cx) (e : Ev) (a : Act), okCode N ks c = true → inB c = true → base ks ≤ X.h.length → Ok X → EnvOk X N e a → wCode P N L ks c Q e X.h → c.wpIn (Rnd r) n P (PostOf (base ks) X N Q) a X.w
  | .skip, Q, X, e, a, _, _, hn, hX, hE, h => wpIn_skip ((PostOf.intro ((Step.refl X).toN hn) hX hE).1 h)
  | .ret, Q, X, e, a, _, _, hn, hX, hE, h => wpIn_ret ((PostOf.intro ((Step.refl X).toN hn) hX hE).2.2 h)
  | .exit id, Q, X, e, a, _, _, hn, hX, hE, h => wpIn_exit ((PostOf.intro ((Step.refl X).toN hn) hX hE).2.1 id h)
  | .label l, Q, X, e, a, _, _, hn, hX, hE, h => wpIn_label ((PostOf.intro ((Step.refl X).toN hn) hX hE).1 h)
  | .scope b, Q, X, e, a, hk, hi, hn, hX, hE, h => by cases hi
  | .rangeFunc f ps ag b, Q, X, e, a, hk, hi, hn, hX, hE, h => by cases hi
  | .region id ops false, Q, X, e, a, hk, hi, hn, hX, hE, h => by
    refine wpIn_region (ops_in hi postOf_in _ _ _ ?_)
    have := wOps_wp (P := P) (Q := PostOf (base ks) X N Q) (ops := ops) (e1 := delE ops.toList e) (fun o ho => delE_out ho e) hk ops.toList 0 X e a _ (fun i => by rw [List.drop_zero]) hX hE (hE.del _) h
      (fun Y av v a' S hY hEY hr hp => ⟨v, av, Y, _, rfl, rfl, S.toN hn, hY, hEY, hr, hp⟩) (fun Y e' a' S hY hEY hq => (PostOf.intro (S.toN hn) hY (hEY.keep L)).1 hq)
    rw [Array.length_toList, ← List.range_eq_range'] at this
    exact this
  | .region id ops true, Q, X, e, a, hk, hi, hn, hX, hE, h => by
    refine wpIn_region_any hmix (any_in hi postOf_in _ _ _ _ ?_)
    have h' : wDraw (kOf ks id) (escE P N ks id ops Q e X.h) _ := h
    unfold wDraw at h'
    rw [if_neg (hes id)] at h'
    have hk' : drawB N (kOf ks id) ops = true := by
      have h0 : (drawB N (kOf ks id) ops || decide (kOf ks id = 1000000)) = true := hk
      rw [decide_eq_false (hes id), Bool.or_false] at h0; exact h0
    exact draw_pre (id := id) hmix _ _ hk' hX hE h' (fun Y av v a' S hY hEY hr hp => ⟨v, av, Y, _, rfl, rfl, S.toN hn, hY, hEY, hr, hp⟩) fun Y e' a' S hY hEY hq => (PostOf.intro (S.toN hn) hY (hEY.keep L)).1 hq
  | .seq x y, Q, X, e, a, hk, hi, hn, hX, hE, h => by
    simp only [okCode, Bool.and_eq_true] at hk
    simp only [inB, Bool.and_eq_true] at hi
    refine wpIn_seq (wpIn_mono (code_in hmix hes x _ X e a hk.1 hi.1 hn hX hE h) ?_)
    intro ex a' w' hp
    have := hp.elim
    cases this with
    | ok z ex Y e' a' S hY hEY hq hx =>
      rcases hx with ⟨rfl, rfl⟩ | ⟨i, rfl, rfl⟩ | ⟨rfl, rfl⟩ | ⟨v, av, rfl, rfl, hr⟩
      · exact wpIn_mono (code_in hmix hes y Q Y e' a' hk.2 hi.2 S.len hY hEY hq) fun ex a2 w2 hp2 => hp2.map hX S fun _ _ _ q => q
      · exact (PostOf.intro S hY hEY).2.1 i hq
      · exact (PostOf.intro S hY hEY).2.2 hq
      · exact ⟨v, av, Y, e', rfl, rfl, S, hY, hEY, hr, hq⟩
  | .cond c x y, Q, X, e, a, hk, hi, hn, hX, hE, h => by
    simp only [okCode, Bool.and_eq_true] at hk
    simp only [inB, Bool.and_eq_true] at hi
    obtain ⟨t, ht, h⟩ := h
    have hr := hE.opnd c
    rw [ht] at hr
    have hv : a.eval c = .bool t := by cases h1 : a.eval c <;> rw [h1] at hr <;> cases hr; rfl
    refine wpIn_cond hv ?_
    cases t
    · exact code_in hmix hes y Q X e a hk.2 hi.2 hn hX hE (by simpa using h)
    · exact code_in hmix hes x Q X e a hk.1 hi.1 hn hX hE (by simpa using h)
  | .block id b, Q, X, e, a, hk, hi, hn, hX, hE, h => by
    refine wpIn_block (wpIn_mono (code_in hmix hes b _ X e a hk hi hn hX hE h) ?_)
    intro ex a' w' hp
    have := hp.elim
    cases this with
    | ok z ex Y e' a' S hY hEY hq hx =>
      rcases hx with ⟨rfl, rfl⟩ | ⟨i, rfl, rfl⟩ | ⟨rfl, rfl⟩ | ⟨v, av, rfl, rfl, hr⟩
      · exact (PostOf.intro S hY hEY).1 hq
      · simp only at hq
        show (if i = id then PostOf (base ks) X N Q .normal a' Y.w else PostOf (base ks) X N Q (.exit i) a' Y.w)
        split at hq
        · next ei => rw [if_pos ei]; exact (PostOf.intro S hY hEY).1 hq
        · next ei => rw [if_neg ei]; exact (PostOf.intro S hY hEY).2.1 i hq
      · exact (PostOf.intro S hY hEY).2.2 hq
      · exact ⟨v, av, Y, e', rfl, rfl, S, hY, hEY, hr, hq⟩
  | .loop b, Q, X, e, a, hk, hi, hn, hX, hE, h => by
    obtain ⟨I, n₀, e₀, h₀, hent, hI, hround⟩ := h
    obtain ⟨Y₀, y1, y2, y3, y4, y5⟩ := hent X a rfl hn hX hE
    rw [← y1]
    refine wpIn_loop_some (fun n a' w' => ∃ Y e', Y.w = w' ∧ StepN (base ks) X Y ∧ Ok Y ∧ EnvOk Y N e' a' ∧ I n e' Y.h) n₀ ⟨Y₀, e₀, rfl, y3, y4, y5, by rw [y2]; exact hI⟩ ?_
    rintro n a' w' ⟨Y, e', rfl, S, hY, hEY, hIY⟩
    refine wpIn_mono (code_in hmix hes b _ Y e' a' hk hi S.len hY hEY (hround n e' Y.h hIY)) ?_
    intro ex a2 w2 hp
    have := hp.elim
    cases this with
    | ok z ex Z e2 a2 S2 hZ hEZ hq hx =>
      rcases hx with ⟨rfl, rfl⟩ | ⟨i, rfl, rfl⟩ | ⟨rfl, rfl⟩ | ⟨v, av, rfl, rfl, hr⟩
      · obtain ⟨n', e₁, h₁, hent2, hlt, hI2⟩ := hq
        obtain ⟨V, v1, v2, v3, v4, v5⟩ := hent2 Z a2 rfl S2.len hZ hEZ
        exact ⟨n', hlt, V, e₁, v1, (S.trans hX S2).trans hX v3, v4, v5, by rw [v2]; exact hI2⟩
      · exact (PostOf.intro (S.trans hX S2) hZ hEZ).2.1 i hq
      · exact (PostOf.intro (S.trans hX S2) hZ hEZ).2.2 hq
      · exact ⟨v, av, Z, e2, rfl, rfl, S.trans hX S2, hZ, hEZ, hr, hq⟩
  | .goto _, _, _, _, _, _, _, _, _, _, h => h.elim
  | .refuse _, _, _, _, _, _, _, _, _, _, h => h.elim
end Go.Proofs.YtljfgdlgmdcmfaaGreat.Wv

/-! The machine of abstract values: loops over functions. -/
namespace Go.Proofs.YtljfgdlgmdcmfaaGreat.Wv
open Go.RowKit
set_option linter.unusedVariables false
set_option autoImplicit false

/-- A value that holds no map that nobody writes. -/
inductive nt : AV → Prop
  | clo {a : AV} (h : Clo a) : nt a
  | own {id n : Nat} : nt (.own id n)
  | ptr {id n : Nat} : nt (.ptr id n)
  | ap {id n o : Nat} : nt (.ap id n o)
  | mp {id : Nat} : nt (.mp id)
  | g {l : List AV} (h : ∀ (a : AV), a ∈ l → nt a) : nt (.g l)
  | tup {l : List AV} (h : ∀ (a : AV), a ∈ l → nt a) : nt (.tup l)
  | fn {f : Fn} {l1 l2 : List AV} (h1 : ∀ (a : AV), a ∈ l1 → nt a) (h2 : ∀ (a : AV), a ∈ l2 → nt a) : nt (.fn f l1 l2)
  | ifc {T : TypeId} {a : AV} (h : nt a) : nt (.ifc T a)
def ntL (l : List AV) : Prop := ∀ (a : AV), a ∈ l → nt a
/-- What may lie there in a round: no map that was made in a round. -/
def ntH (m : Nat) : Nat → Hp → Prop
  | _, [] => True
  | k, none :: r => ntH m (k + 1) r
  | k, some (.blk c) :: r => ntL c ∧ ntH m (k + 1) r
  | k, some (.arr _ _ c _) :: r => ntL c ∧ ntH m (k + 1) r
  | k, some (.map es) :: r => k < m ∧ ntL (es.map (·.2)) ∧ ntH m (k + 1) r
theorem ntH_get {m : Nat} : ∀ {h : Hp} {k : Nat} (hn : ntH m k h) (i : Nat), (∀ c, h[i]? = some (some (.blk c)) → ntL c) ∧ (∀ T s c fz, h[i]? = some (some (.arr T s c fz)) → ntL c) ∧ (∀ es, h[i]? = some (some (.map es)) → k + i < m ∧ ntL (es.map (·.2)))
  | [], k, _, i => ⟨fun c h => by simp at h, fun T s c fz h => by simp at h, fun es h => by simp at h⟩
  | o :: r, k, hn, 0 => by
    refine ⟨fun c h => ?_, fun T s c fz h => ?_, fun es h => ?_⟩ <;> simp at h <;> subst h
    · exact hn.1
    · exact hn.1
    · exact ⟨hn.1, hn.2.1⟩
  | o :: r, k, hn, i + 1 => by
    have hr : ntH m (k + 1) r := by
      cases o with
      | none => exact hn
      | some o => cases o with
        | blk c => exact hn.2
        | arr T s c fz => exact hn.2
        | map es => exact hn.2.2
    have ih := ntH_get hr i
    refine ⟨fun c h => ih.1 c (by simpa using h), fun T s c fz h => ih.2.1 T s c fz (by simpa using h), fun es h => ?_⟩
    have := ih.2.2 es (by simpa using h)
    exact ⟨by omega, this.2⟩

section
variable {X : Cx} {W' : World} {row : Option Nat}
theorem cell_far (hg : X.w.grownBy W' row) (hr : ∀ r, row = some r → ∃ o : Obj, X.w.heap[r]? = some o ∧ o.isCells = false) {b off : Nat} {x : Value} (hx : cellAt X.w b off = some x) : cellAt W' b off = some x := by
  have hb := cellAt_lt hx
  have hne : some b ≠ row := fun e => by
    obtain ⟨o, h1, h2⟩ := hr b e.symm
    unfold cellAt World.cell? at hx
    simp only [h1] at hx
    cases o <;> first | (cases h2; done) | simp at hx
  unfold cellAt World.cell? at hx ⊢
  rw [hg.block b hb hne]; exact hx
theorem Rep.far (hg : X.w.grownBy W' row) (hr : ∀ r, row = some r → ∃ o : Obj, X.w.heap[r]? = some o ∧ o.isCells = false) {a : AV} {x : Value} (h : Rep X a x) (hn : nt a) : Rep ⟨W', X.m, X.h, X.bad, X.ds⟩ a x := by
  have K : ∀ b o u, cellAt X.w b o = some u → ¬ X.bad b o → cellAt W' b o = some u ∧ ¬ X.bad b o := fun b o u h1 h2 => ⟨cell_far hg hr h1, h2⟩
  induction h with
  | v x => exact .v x
  | none x => exact .none x
  | t hl hc hn' hcap hp hr' ih => cases hn with | clo h => exact Rep.clo (Y := ⟨W', X.m, X.h, X.bad, X.ds⟩) (.t hl hc hn' hcap hp hr') h K
  | g hc hr' ih =>
    cases hn with
    | clo h => exact Rep.clo (Y := ⟨W', X.m, X.h, X.bad, X.ds⟩) (.g hc hr') h K
    | g h => exact .g hc fun i a x h1 h2 => ih i a x h1 h2 (h a (List.mem_of_getElem? h1))
  | tup hc hr' ih =>
    cases hn with
    | clo h => exact Rep.clo (Y := ⟨W', X.m, X.h, X.bad, X.ds⟩) (.tup hc hr') h K
    | tup h => exact .tup hc fun i a x h1 h2 => ih i a x h1 h2 (h a (List.mem_of_getElem? h1))
  | tp hc hp hr' ih => cases hn with | clo h => exact Rep.clo (Y := ⟨W', X.m, X.h, X.bad, X.ds⟩) (.tp hc hp hr') h K
  | fn h1 h2 r1 r2 ih1 ih2 =>
    cases hn with
    | clo h => exact Rep.clo (Y := ⟨W', X.m, X.h, X.bad, X.ds⟩) (.fn h1 h2 r1 r2) h K
    | fn q1 q2 => exact .fn h1 h2 (fun i a x g1 g2 => ih1 i a x g1 g2 (q1 a (List.mem_of_getElem? g1))) (fun i a x g1 g2 => ih2 i a x g1 g2 (q2 a (List.mem_of_getElem? g1)))
  | ifc h ih =>
    cases hn with
    | clo h' => exact Rep.clo (Y := ⟨W', X.m, X.h, X.bad, X.ds⟩) (.ifc h) h' K
    | ifc h' => exact .ifc (ih h')
  | e0 b => exact .e0 b
  | own hid h => exact .own hid h
  | ptr hid h => exact .ptr hid h
  | ap hid h => exact .ap hid h
  | mp hid h => exact .mp hid h
  | tm hb hm hl hk hr' ih => cases hn with | clo h => cases h
theorem Ok.far (hX : Ok X) (hg : X.w.grownBy W' row) (hr : ∀ r, row = some r → ∃ o : Obj, X.w.heap[r]? = some o ∧ o.isCells = false) {m : Nat} (hn : ntH m 0 X.h) (hm : ∀ id es, X.h[id]? = some (some (.map es)) → ∀ b, (X.m id).1 = some b → some b ≠ row) : Ok ⟨W', X.m, X.h, X.bad, X.ds⟩ := by
  have other : ∀ {b : Nat} {cvs : Array Value} {T : TypeId} {fr : Nat × Nat}, X.w.heap[b]? = some (.cells cvs T fr) → W'.heap[b]? = some (.cells cvs T fr) := fun {b cvs T fr} h1 => by
    rw [hg.block b (Array.getElem?_eq_some_iff.1 h1).1 (fun e => by obtain ⟨o, h2, h3⟩ := hr b e.symm; rw [h1] at h2; injection h2 with h2; subst h2; cases h3)]; exact h1
  refine ⟨fun id cells hh => ?_, fun id T size cells fz hh => ?_, fun i j b hi hj => hX.inj i j b hi hj, fun b o hb => Nat.lt_of_lt_of_le (hX.badlt b o hb) hg.size, fun id es hh => ?_⟩
  · obtain ⟨b, cvs, T, h1, h2, h3, h4, h5⟩ := hX.blk id cells hh
    exact ⟨b, cvs, T, h1, other h2, h3, h4, fun i a x g1 g2 => (h5 i a x g1 g2).far hg hr ((ntH_get hn id).1 cells hh a (List.mem_of_getElem? g1))⟩
  · obtain ⟨g1, g2, n, g3, g4⟩ := hX.arr id T size cells fz hh
    refine ⟨g1, g2, n, g3, ?_⟩
    rcases g4 with g4 | ⟨b, cvs, g4⟩
    · exact .inl g4
    · exact .inr ⟨b, cvs, ⟨g4.at_, other g4.blk, g4.cap, g4.capm, g4.sz, g4.bad, fun i a x q1 q2 => (g4.rep i a x q1 q2).far hg hr ((ntH_get hn id).2.1 T size cells fz hh a (List.mem_of_getElem? q1)), g4.good⟩⟩
  · obtain ⟨b, ents, clock, h1, h2, h3, h4⟩ := hX.map id es hh
    refine ⟨b, ents, clock, h1, ?_, h3, fun i p e q1 q2 => ⟨(h4 i p e q1 q2).1, (h4 i p e q1 q2).2.far hg hr (((ntH_get hn id).2.2 es hh).2 p.2 (List.mem_map.2 ⟨p, List.mem_of_getElem? q1, rfl⟩))⟩⟩
    show W'.heap[b]? = _
    rw [hg.block b (Array.getElem?_eq_some_iff.1 h2).1 (hm id es hh b h1)]; exact h2
end
theorem StepN.less {m n : Nat} {X Y : Cx} (S : StepN m X Y) (h : n ≤ m) : StepN n X Y :=
  ⟨S.os, S.tape, S.output, S.size, S.block, S.keep, Nat.le_trans h S.len, fun i T s c f hi => S.oarr i T s c f (Nat.lt_of_lt_of_le hi h), fun i c hi => S.oblk i c (Nat.lt_of_lt_of_le hi h), S.own, S.badk, fun i es hi => S.omap i es (Nat.lt_of_lt_of_le hi h), S.dse⟩

/-- What holds of a world between two rounds. -/
def RI (X : Cx) (H : Hp → Prop) (W : World) : Prop := ∃ Y, Y.w = W ∧ StepN X.h.length (X.def_ []) Y ∧ Ok Y ∧ H Y.h
theorem RI.own {α : Type} {X : Cx} (hX : Ok X) {H : α → Hp → Prop} (hn : ∀ s h, H s h → ntH X.h.length 0 h) : OwnFrom X.w.heap.size (fun s W => RI X (H s) W) := by
  rintro s W W' row ⟨Y, rfl, S, hY, hH⟩ hg hr
  have hr2 : ∀ r, row = some r → ∃ o : Obj, Y.w.heap[r]? = some o ∧ o.isCells = false := fun r e => (hr r e).2
  have hnt := hn s _ hH
  refine ⟨⟨W', Y.m, Y.h, Y.bad, Y.ds⟩, rfl, ?_, ?_, hH⟩
  · refine ⟨hg.os.trans S.os, hg.tape.trans S.tape, hg.output.trans S.output, Nat.le_trans S.size hg.size, fun b hb hm => ?_, fun b o x hx hb => ⟨cell_far hg hr2 (S.keep b o x hx hb).1, (S.keep b o x hx hb).2⟩, S.len, S.oarr, S.oblk, S.own, S.badk, S.omap, S.dse⟩
    show W'.heap[b]? = _
    rw [hg.block b (Nat.lt_of_lt_of_le hb S.size) (fun e => by have := (hr b e.symm).1; exact absurd hb (Nat.not_lt_of_le this))]
    exact S.block b hb hm
  · refine Ok.far hY hg hr2 hnt fun id es hh b hb e => ?_
    have hid := ((ntH_get hnt id).2.2 es hh).1
    rw [Nat.zero_add] at hid
    obtain ⟨es', h1, h2⟩ := S.omap id es hid hh
    rw [h2] at hb
    have hlt : b < X.w.heap.size := (hX.def_ (d := [])).lt ⟨id, ⟨_, h1⟩, hb⟩
    have := (hr b e.symm).1
    omega
/-- What an iterator's contract asks the rounds to keep: cells of some variables. -/
def KpI (X : Cx) (ids : List Nat) (W W' : World) : Prop := ∀ i, i ∈ ids → ∀ b, (X.m i).1 = some b → ∀ o, W'.cell? ⟨b, o, none⟩ = W.cell? ⟨b, o, none⟩
theorem blk_exact {X : Cx} (hX : Ok X) {i b : Nat} {l : List Value} (h : X.h[i]? = some (some (.blk (l.map .v)))) (hb : (X.m i).1 = some b) : ∀ o, X.w.cell? ⟨b, o, none⟩ = l[o]? := by
  obtain ⟨b', cvs, T, h1, h2, h3, h4, h5⟩ := hX.blk i _ h
  rw [hb] at h1; injection h1 with h1; subst h1
  intro o
  have := cellAt_blk (off := o) h2
  unfold cellAt at this
  rw [this]
  rw [List.length_map] at h3
  by_cases ho : o < l.length
  · have ho2 : o < cvs.size := by omega
    have := h5 o (.v l[o]) cvs[o] (by simp [ho]) (by simp [ho2])
    generalize hq : cvs[o] = q at this
    cases this
    rw [Array.getElem?_eq_getElem ho2, List.getElem?_eq_getElem ho, hq]
  · rw [Array.getElem?_eq_none (by omega), List.getElem?_eq_none (by omega)]
theorem map_v_inj : ∀ (l m : List Value), l.map AV.v = m.map AV.v → l = m
  | [], [], _ => rfl
  | [], _ :: _, h => by simp at h
  | _ :: _, [], h => by simp at h
  | a :: l, b :: m, h => by
    simp only [List.map_cons, List.cons.injEq, AV.v.injEq] at h
    rw [h.1, map_v_inj l m h.2]
/-- An iterator's contract: what it hands over one after the other, and to the end. -/
def IterC (P : Program) (gf : FuncId) (caps : List AV) (h : Hp) {α : Type} (encs : α → Array Value) (ids : List Nat) (S Sp : List α → Prop) (Nb : Nat) : Prop :=
  ∀ (X : Cx) (vs : List Value), Ok X → X.h = h → RepL X caps vs → SeqStopsK Fence.wide 8 P gf vs.toArray encs (KpI X ids) S Sp Nb X.w
/-- How a round may end. -/
def RPost (n0 N : Nat) (H : Hp → Prop) (Hx : Code → Hp → Prop) : PostW := fun ex e h => match ex with
  | .normal => ∃ e1 h1, Ent n0 N e h e1 h1 ∧ H h1
  | .ret => Hx .ret h
  | .exit i => Hx (.exit i) h
  | .panic _ => False
def Exx (Q : PostW) (e : Ev) (h : Hp) : Code → Prop
  | .ret => Q .ret e h
  | .exit i => Q (.exit i) e h
  | _ => False
def escB (ks : List (Nat × Nat)) : Bool := ks.all fun p => !Nat.beq p.2 1000000
theorem escB_ok : ∀ {ks : List (Nat × Nat)}, escB ks = true → ∀ id, kOf ks id ≠ 1000000
  | [], _, id => by show (0 : Nat) ≠ 1000000; decide
  | (i, k) :: r, h, id => by
    have h' : (!Nat.beq k 1000000 && escB r) = true := h
    rw [Bool.and_eq_true] at h'
    show (if i = id then k else kOf r id) ≠ 1000000
    split
    · intro e
      subst e
      cases h'.1
    · exact escB_ok h'.2 id
theorem wRange {P : Program} (hmix : P.follows .mixedOrders = true) {N : Nat} {L : List Nat} {ks ks' : List (Nat × Nat)} {f : Operand} {ps : Array Tmp} {ag b : Code} {Q : PostW} {e : Ev} {h : Hp} {α : Type} {encs : α → Array Value} {ids : List Nat} {S Sp : List α → Prop} {Nb : Nat} {gf : FuncId} {caps : List AV}
    (hf : opnd e f = .fn (.func gf) [] caps) (hbd : bodyP P gf = true) (hit : IterC P gf caps h encs ids S Sp Nb) (hps : ∀ x, (encs x).size = ps.size) (hok : okCode N ks' b = true) (hin : inB b = true) (hes : escB ks' = true) (hb : base ks' = h.length)
    (e1 : α → Ev) (a₁ : Act → α → Act)
    (hassign : ∀ (a : Act) (l : Nat) (x : α) (W : World) (K : Act → World → Prop), a.tmps.size = N → K (a₁ a x) W → ag.wpIn (Rnd l) 7 P (Exit.then K (fun _ _ _ => False)) { tmps := (ps.zip (encs x)).foldl (fun t (p, v) => t.setIfInBounds p v) a.tmps, defers := [] } W)
    (hrel : ∀ (a : Act) (x : α), a.tmps.size = N → (a₁ a x).defers = [] ∧ (a₁ a x).tmps.size = N ∧ ∀ d, getE (e1 x) d = .none ∨ (∃ v, getE (e1 x) d = .v v ∧ (a₁ a x).tmps.getD d undef = v) ∨ (getE (e1 x) d = getE e d ∧ (a₁ a x).tmps.getD d undef = a.tmps.getD d undef))
    (Hs : List α → Hp → Prop) (Hx : Code → List α → Hp → Prop) (hnt : ∀ pre h', Hs pre h' → ntH h.length 0 h') (hntx : ∀ c pre h', Hx c pre h' → ntH h.length 0 h')
    (hids : ∀ i, i ∈ ids → i < h.length ∧ ∃ l : List Value, ∀ pre h', Hs pre h' → h'[i]? = some (some (.blk (l.map .v)))) (h0 : Hs [] h)
    (hbody : ∀ pre x h', Hs pre h' → pre.length < Nb → h.length ≤ h'.length → wCode P N L ks' b (RPost h.length N (Hs (pre ++ [x])) fun c => Hx c (pre ++ [x])) (e1 x) h')
    (hdone : ∀ xs h', S xs → Hs xs h' → Q .normal e h') (hstop : ∀ c pre h', Sp pre → Hx c pre h' → Exx Q e h' c) :
    ∀ (X : Cx) (a : Act), base ks ≤ X.h.length → X.h = h → Ok X → EnvOk X N e a → (Code.rangeFunc f ps ag b).wp P (PostL (base ks) X N Q) a X.w := by
  intro X a hbs hh hX hE
  subst hh
  have hX0 : Ok (X.def_ []) := hX.def_
  have hfr := hE.opnd f
  rw [hf] at hfr
  obtain ⟨lb, hg, hlb⟩ : ∃ lb : List Value, a.eval f = .func (.func gf) #[] lb.toArray ∧ RepL X caps lb := by
    generalize a.eval f = q at hfr
    cases hfr with
    | @fn _ _ _ v1 v2 h1 h2 r1 r2 =>
      have : v1 = [] := List.eq_nil_of_length_eq_zero h1
      subst this
      exact ⟨v2, rfl, h2, r2⟩
  have fullS : ∀ {Y : Cx}, StepN X.h.length (X.def_ []) Y → Step (X.def_ []) Y := fun S => StepN.full S
  have ids_at : ∀ {pre : List α} {Y : Cx}, StepN X.h.length (X.def_ []) Y → Ok Y → Hs pre Y.h → ∀ i, i ∈ ids → ∀ b, (X.m i).1 = some b → ∃ l : List Value, (∀ pre h', Hs pre h' → h'[i]? = some (some (.blk (l.map .v)))) ∧ ∀ o, Y.w.cell? ⟨b, o, none⟩ = l[o]? := by
    intro pre Y S hY hH i hi b hb
    obtain ⟨hlt, l, hl⟩ := hids i hi
    have h1 := hl pre _ hH
    obtain ⟨c', _, h3⟩ := S.oblk i _ hlt h1
    exact ⟨l, hl, blk_exact hY h1 (by rw [h3]; exact hb)⟩
  have close : ∀ {x : Ex} {ex : Exit} {Y : Cx} {D : Nat}, StepN X.h.length (X.def_ []) Y → Ok Y → X.w.heap.size ≤ D → Y.w.heap[D]? = some (.deferred (some [])) → Q x e Y.h → ((x = .normal ∧ ex = .normal) ∨ (∃ i, x = .exit i ∧ ex = .exit i) ∨ (x = .ret ∧ ex = .ret)) → PostL (base ks) X N Q ex { a with defers := { target := .collected D, args := #[] } :: a.defers } Y.w := by
    intro x ex Y D S hY hD hd hq hx
    have S2 : StepN (base ks) X (Y.def_ X.ds) := (StepN.re (X := X) (d := []) (d2 := X.ds) S).less hbs
    refine PostL.close (Y := Y.def_ X.ds) (e := e) (l := [D]) ?_ ⟨by simp, fun D' h' => by rw [List.mem_singleton] at h'; subst h'; exact ⟨hD, hd⟩⟩ S2 hY.def_ ⟨rfl, hE.size, fun d => ?_⟩ hq ?_
    · show _ :: a.defers = _
      rw [hE.defers]; rfl
    · have h1 : Rep (X.def_ []) (getE e d) (a.tmps.getD d undef) := (hE.rep d).def_
      exact (h1.mono (fullS S)).def_
    · rcases hx with h | h | h
      · exact .inl h
      · exact .inr (.inl h)
      · exact .inr (.inr (.inl h))
  refine wpIn_wide.1 (wpIn_rangeFunc_ownG (F := Fence.wide) (n := 9) (Kp := KpI X ids) rfl (by decide) hg trivial (fun args w => callFunc_run hbd args w) (hit X lb hX rfl hlb) ?_ ?_ (Below.refl _ _) hps (fun pre W => RI X (Hs pre) W) (fun c pre W => RI X (Hx c pre) W) (RI.own hX hnt) (fun c => RI.own hX (hntx c)) ⟨X.def_ [], rfl, (Step.refl _).toN (Nat.le_refl _), hX0, h0⟩ (a₁ a) (fun l x W K hK => hassign a l x W K hE.size hK) ?_ ?_ ?_)
  · intro A B C h1 h2 i hi b hb o
    rw [h2 i hi b hb o, h1 i hi b hb o]
  · intro W l o o' hl hlo hc hw i hi b hb off
    obtain ⟨hlt, lv, hlv⟩ := hids i hi
    have h1 := hlv [] _ h0
    have hbl : b < X.w.heap.size := hX.lt ⟨i, ⟨_, h1⟩, hb⟩
    unfold World.cell?
    rw [World.putObj_heap_other (by show b ≠ l; omega)]
  · rintro l pre x W ⟨Y, rfl, S, hY, hH⟩ hlt
    obtain ⟨r1, r2, r3⟩ := hrel a x hE.size
    have hEY : EnvOk Y N (e1 x) (a₁ a x) := by
      refine ⟨r1.trans S.dse.symm, r2, fun d => ?_⟩
      rcases r3 d with q | ⟨v, q1, q2⟩ | ⟨q1, q2⟩
      · rw [q]; exact .none _
      · rw [q1, q2]; exact .v v
      · rw [q1, q2]
        have h1 : Rep (X.def_ []) (getE e d) (a.tmps.getD d undef) := (hE.rep d).def_
        exact h1.mono (fullS S)
    have hw := hbody pre x Y.h hH hlt S.len
    refine wpIn_mono (code_in hmix (escB_ok hes) b _ Y (e1 x) (a₁ a x) hok hin (by rw [hb]; exact S.len) hY hEY hw) ?_
    intro ex a' w' hp
    have := hp.elim
    cases this with
    | ok z ex Z e2 a2 T hZ hEZ hq hx =>
      rw [hb] at T
      have keep : KeepsFrom X.w.heap.size Y.w Z.w := ⟨T.size, fun k o hk ho hc => by
        rw [T.block k (Array.getElem?_eq_some_iff.1 ho).1 ?_]; exact ho
        rintro ⟨i, ⟨ob, hi⟩, he⟩
        cases ob with
        | blk cells =>
          obtain ⟨b', cvs, U, q1, q2, _⟩ := hY.blk i cells hi
          rw [q1] at he; injection he with he; subst he; rw [ho] at q2; injection q2 with q2; subst q2; cases hc
        | arr U s cells fz =>
          obtain ⟨_, _, n', _, q1 | ⟨b', cvs, q1⟩⟩ := hY.arr i U s cells fz hi
          · rw [q1.1] at he; cases he
          · have q2 := q1.at_
            rw [q2] at he; injection he with he; subst he
            have := q1.blk; rw [ho] at this; injection this with this; subst this; cases hc
        | map es =>
          have hid := ((ntH_get (hnt _ _ hH) i).2.2 es hi).1
          rw [Nat.zero_add] at hid
          obtain ⟨es', g1, g2⟩ := S.omap i es hid hi
          rw [g2] at he
          have := hX0.lt ⟨i, ⟨_, g1⟩, he⟩
          exact absurd hk (by show ¬ X.w.heap.size ≤ k; exact Nat.not_le_of_lt this)⟩
      rcases hx with ⟨rfl, rfl⟩ | ⟨i, rfl, rfl⟩ | ⟨rfl, rfl⟩ | ⟨v, av, rfl, rfl, hr⟩
      · obtain ⟨e3, h3, hent, hH3⟩ := hq
        obtain ⟨V, v1, v2, v3, v4, v5⟩ := hent Z _ rfl T.len hZ hEZ
        have SV : StepN X.h.length (X.def_ []) V := (S.trans hX0 T).trans hX0 v3
        refine ⟨keep, fun i hi b hb o => ?_, V, v1, SV, v4, by rw [v2]; exact hH3⟩
        obtain ⟨l1, q1, q2⟩ := ids_at S hY hH i hi b hb
        obtain ⟨l2, q3, q4⟩ := ids_at SV v4 (by rw [v2]; exact hH3) i hi b hb
        have e4 := q1 _ _ hH
        rw [q3 _ _ hH] at e4
        have e5 : l2 = l1 := by
          injection e4 with e4; injection e4 with e4; injection e4 with e4
          exact map_v_inj _ _ e4
        rw [q2, ← v1, q4, e5]
      · exact ⟨keep, Z, rfl, S.trans hX0 T, hZ, hq⟩
      · exact ⟨keep, Z, rfl, S.trans hX0 T, hZ, hq⟩
      · exact hq.elim
  · rintro D xs W hD hS ⟨Y, rfl, S, hY, hH⟩ hd
    exact close S hY hD hd (hdone xs _ hS hH) (.inl ⟨rfl, rfl⟩)
  · rintro D c pre W hD hS ⟨Y, rfl, S, hY, hH⟩ hd
    have hs := hstop c pre _ hS hH
    cases c with
    | ret => exact wpIn_ret (close S hY hD hd hs (.inr (.inr ⟨rfl, rfl⟩)))
    | exit i => exact wpIn_exit (close S hY hD hd hs (.inr (.inl ⟨i, rfl, rfl⟩)))
    | _ => exact hs.elim
end Go.Proofs.YtljfgdlgmdcmfaaGreat.Wv

/-! The machine of abstract values: loops over functions whose rounds begin with the round's two variables. -/
namespace Go.Proofs.YtljfgdlgmdcmfaaGreat.Wv
open Go.RowKit
set_option linter.unusedVariables false

theorem assign_in {F : Fence} {n : Nat} {P : Program} {id : Nat} {d t : Tmp} {o : Oper} {Q : Exit → Act → World → Prop} {a : Act} {w : World}
    (ho : o.op = .assign (.tmp t)) (hd : o.dst = some d) (hg : o.guard = none) (h : Q .normal { a with tmps := a.tmps.setIfInBounds d (a.tmps.getD t undef) } w) : (Code.region id #[o] false).wpIn F n P Q a w := by
  obtain ⟨dst, op, ty, pos, af, g⟩ := o
  simp only at ho hd hg
  subst ho hd hg
  refine wpIn_region ?_
  show wpOpsIn F n P _ Q [0] a w
  simp only [wpOpsIn, Region.wanted, List.getElem?_toArray, List.getElem?_cons_zero, if_true]
  refine ⟨?_, ?_⟩
  · intro f hf
    cases hf
  · rw [Oper.semAt_eq _ _ _ (fun c hc => by cases hc)]
    exact h
theorem getE_in : ∀ (e : Ev) (d : Nat), getE e d = .none ∨ ∃ p, p ∈ e ∧ p.1 = d ∧ getE e d = p.2
  | [], d => .inl rfl
  | (k, a) :: r, d => by
    by_cases h : k = d
    · exact .inr ⟨(k, a), List.mem_cons_self .., h, if_pos h⟩
    · rcases getE_in r d with q | ⟨p, q1, q2, q3⟩
      · exact .inl (by show (if k = d then a else getE r d) = _; rw [if_neg h]; exact q)
      · exact .inr ⟨p, List.mem_cons_of_mem _ q1, q2, by show (if k = d then a else getE r d) = _; rw [if_neg h]; exact q3⟩
theorem getD_set {T : Array Value} {i j : Nat} {v : Value} : (T.setIfInBounds i v).getD j undef = if i = j ∧ j < T.size then v else T.getD j undef := by
  simp only [Array.getD_eq_getD_getElem?, Array.getElem?_setIfInBounds]
  by_cases h : i = j
  · subst h
    by_cases hs : i < T.size
    · simp [hs]
    · simp [hs]
  · simp [h]
/-- The activation in a round: two variables that the iterator hands over. -/
def act2 (p q d1 d2 : Tmp) (v1 v2 : Value) (a : Act) : Act := { tmps := (((a.tmps.setIfInBounds p v1).setIfInBounds q v2).setIfInBounds d1 v1).setIfInBounds d2 v2, defers := [] }
theorem assign2 {F : Fence} {n : Nat} {P : Program} {i1 i2 : Nat} {p q d1 d2 : Tmp} {o1 o2 : Oper} {K : Act → World → Prop} {a : Act} {W : World} {v1 v2 : Value} {N : Nat} (h1 : o1.op = .assign (.tmp p)) (h1' : o1.dst = some d1) (h1'' : o1.guard = none) (h2 : o2.op = .assign (.tmp q)) (h2' : o2.dst = some d2) (h2'' : o2.guard = none)
    (hN : a.tmps.size = N) (hp : p < N) (hq : q < N) (hpq : p ≠ q) (hdq : d1 ≠ q) (hK : K (act2 p q d1 d2 v1 v2 a) W) :
    ((Code.region i1 #[o1] false).seq (Code.region i2 #[o2] false)).wpIn F n P (Exit.then K (fun _ _ _ => False)) { tmps := (#[p, q].zip #[v1, v2]).foldl (fun t (x : Tmp × Value) => t.setIfInBounds x.1 x.2) a.tmps, defers := [] } W := by
  refine wpIn_seq (assign_in h1 h1' h1'' (assign_in h2 h2' h2'' ?_))
  have e : ((#[p, q].zip #[v1, v2]).foldl (fun (t : Array Value) (x : Tmp × Value) => t.setIfInBounds x.1 x.2) a.tmps) = (a.tmps.setIfInBounds p v1).setIfInBounds q v2 := by simp
  rw [e]
  have e3 : ((a.tmps.setIfInBounds p v1).setIfInBounds q v2).getD p undef = v1 := by
    rw [getD_set, if_neg (fun h => hpq h.1.symm), getD_set, if_pos ⟨rfl, by rw [hN]; exact hp⟩]
  rw [e3]
  have e4 : (((a.tmps.setIfInBounds p v1).setIfInBounds q v2).setIfInBounds d1 v1).getD q undef = v2 := by
    rw [getD_set, if_neg (fun h => hdq h.1), getD_set, if_pos ⟨rfl, by rw [Array.size_setIfInBounds, hN]; exact hq⟩]
  rw [e4]
  exact hK
theorem rel2 {e e0 : Ev} {p q d1 d2 : Tmp} {v1 v2 : Value} {N : Nat} {a : Act} (hN : a.tmps.size = N) (hd1 : d1 < N) (hd2 : d2 < N) (h12 : d1 ≠ d2)
    (hsub : ∀ x, x ∈ e0 → getE e x.1 = x.2 ∧ x.1 ≠ p ∧ x.1 ≠ q ∧ x.1 ≠ d1 ∧ x.1 ≠ d2) :
    (act2 p q d1 d2 v1 v2 a).defers = [] ∧ (act2 p q d1 d2 v1 v2 a).tmps.size = N ∧ ∀ d, getE ((d1, .v v1) :: (d2, .v v2) :: e0) d = .none ∨ (∃ v, getE ((d1, .v v1) :: (d2, .v v2) :: e0) d = .v v ∧ (act2 p q d1 d2 v1 v2 a).tmps.getD d undef = v) ∨
      (getE ((d1, .v v1) :: (d2, .v v2) :: e0) d = getE e d ∧ (act2 p q d1 d2 v1 v2 a).tmps.getD d undef = a.tmps.getD d undef) := by
  refine ⟨rfl, by simp [act2, hN], fun d => ?_⟩
  have hg : getE ((d1, .v v1) :: (d2, .v v2) :: e0) d = if d1 = d then .v v1 else if d2 = d then .v v2 else getE e0 d := rfl
  rw [hg]
  unfold act2
  simp only [getD_set, Array.size_setIfInBounds, hN]
  by_cases c1 : d1 = d
  · subst c1
    refine .inr (.inl ⟨v1, if_pos rfl, ?_⟩)
    rw [if_neg (fun h => h12 h.1.symm), if_pos ⟨rfl, hd1⟩]
  · rw [if_neg c1]
    by_cases c2 : d2 = d
    · subst c2
      refine .inr (.inl ⟨v2, if_pos rfl, ?_⟩)
      rw [if_pos ⟨rfl, hd2⟩]
    · rw [if_neg c2]
      rcases getE_in e0 d with q' | ⟨x, q1, q2, q3⟩
      · exact .inl q'
      · obtain ⟨g1, g2, g3, g4, g5⟩ := hsub x q1
        subst q2
        refine .inr (.inr ⟨by rw [q3, g1], ?_⟩)
        rw [if_neg (fun h => g5 h.1.symm), if_neg (fun h => g4 h.1.symm), if_neg (fun h => g3 h.1.symm), if_neg (fun h => g2 h.1.symm)]

/-- A row that is not written any more is read as a tree. -/
theorem Ent.close {n0 N : Nat} {e : Ev} {h : Hp} (d : Nat) (a a' : AV) (h' : Hp) (ha : getE e d = a) (hc : close1 h a = some (a', h')) : Ent n0 N e h ((d, a') :: e) h' := fun X act hh hn hX hE => by
  subst hh
  have hv := hE.rep d
  rw [ha] at hv
  obtain ⟨Y, y1, y2, y3, y4, y5⟩ := close1_ok X a a' h' _ hX hc hv
  have hE2 := hE.mono y2
  refine ⟨Y, y1, y4, y2.toN hn, y3, hE2.defers, hE2.size, fun d' => ?_⟩
  show Rep Y (if d = d' then a' else getE e d') _
  by_cases q : d = d'
  · subst q
    rw [if_pos rfl]; exact y5
  · rw [if_neg q]; exact hE2.rep d'
/-- A result that the caller goes on to own. -/
def FinO (P : Program) (rs : Array ResultVar) (R : AV → Hp → Prop) : PostW := fun x e h => match x with
  | .exit _ => False
  | .panic _ => False
  | _ => ∃ r, resA P h e rs = some r ∧ R r h
theorem finO0 {P : Program} {rs : Array ResultVar} {R : AV → Hp → Prop} {e : Ev} {h : Hp} : FinO P rs R .normal e h = sA (fun r => R r h) (resA P h e rs) := Eq.trans rfl rfl
theorem finO1 {P : Program} {rs : Array ResultVar} {R : AV → Hp → Prop} {e : Ev} {h : Hp} : FinO P rs R .ret e h = sA (fun r => R r h) (resA P h e rs) := Eq.trans rfl rfl
theorem HT.byO {P : Program} {f : FuncId} {fn : Func} {body : Code} {args : List AV} {h : Hp} {R : AV → Hp → Prop} (N : Nat) (L : List Nat) (ks : List (Nat × Nat)) (rs : List ResultVar) (hf : P.funcs[f]? = some fn) (hb : fn.body = some body) (hn : fn.ntmps = N) (hr : fn.results = rs.toArray) (hbs : base ks = h.length)
    (hw : wCode P N L ks body (FinO P rs.toArray R) (argE 0 args) h) (hmix : P.follows .mixedOrders = true := by kernel_rfl) (hp : bodyP P f = true := by kernel_rfl) (hk : okCode N ks body = true := by kernel_rfl) (hN : args.length ≤ N := by exact Nat.le_of_ble_eq_true rfl) : HT P f args h R := by
  subst hn
  rw [← hr] at hw
  refine ⟨hp, fun X vs hX hh hr => ?_⟩
  subst hh
  have hX' : Ok (X.def_ []) := hX.def_
  have hr' : RepL (X.def_ []) args vs := ⟨hr.1, fun i a x h1 h2 => (hr.2 i a x h1 h2).def_⟩
  refine (callsIn_wide (n := 0)).1 (callsIn_of_wp_marks hf hb trivial (wpIn_wide.2 (wp_mono (code_soundL hmix body _ (X.def_ []) _ _ hk (by rw [hbs]; exact Nat.le_refl _) hX' (enter_ok rfl hr' hN) hw) ?_)) rfl)
  intro ex a' w' hpost
  obtain ⟨z, Y, e', l, rfl, e1, M, SN, hY, hEY, _, hq, hx⟩ := hpost.open
  rw [hbs] at SN
  have hd : a'.defers = l.map markD := by rw [e1]; exact List.append_nil _
  obtain ⟨Z, z1, z2, z3, z4, z5, z6⟩ := shut_ctx l Y SN hY M
  have S := StepN.full (X := X.def_ []) z4
  have hEZ : EnvOk Z fn.ntmps e' { a' with defers := [] } := ⟨by rw [z3]; exact hEY.defers, hEY.size, fun d => z6 _ _ (hEY.rep d)⟩
  have key : (∃ r, resA P Y.h e' fn.results = some r ∧ R r Y.h) → LeavesIn Fence.wide 0 P fn a'.tmps (fun e w' => ∃ v V av, e = .returned v ∧ V.w = w' ∧ Step X V ∧ Ok V ∧ Rep V av v ∧ R av V.h) [] .returning (shut Y.w l) := by
    rintro ⟨r, h1, h3⟩
    rw [← z2] at h1 h3
    obtain ⟨v, q1, q2⟩ := resA_ok (fn := fn) z5 hEZ h1
    rw [← z1]
    exact ⟨v, q1, v, Z.def_ X.ds, r, rfl, rfl, S.undef, z5.def_, q2.def_, h3⟩
  rcases hx with ⟨rfl, rfl⟩ | ⟨i, rfl, rfl⟩ | ⟨rfl, rfl⟩ | ⟨v, av, rfl, rfl, hrv⟩
  · show LeavesInM Fence.wide 0 P fn a'.tmps _ a'.defers .returning Y.w
    rw [hd]; exact leaves_marks (by simp) l _ M (key hq)
  · exact hq.elim
  · show LeavesInM Fence.wide 0 P fn a'.tmps _ a'.defers .returning Y.w
    rw [hd]; exact leaves_marks (by simp) l _ M (key hq)
  · exact hq.elim
/-- A part of an array is not written any more. -/
theorem Ent.frzK {n0 N : Nat} {e : Ev} {h : Hp} (id : Nat) (T : TypeId) (s : Nat) (cells : List AV) (fz k : Nat) (hg : h[id]? = some (some (.arr T s cells fz))) (h1 : fz ≤ k) (h2 : k ≤ cells.length) : Ent n0 N e h e (h.set id (some (.arr T s cells k))) := fun X act hh hn hX hE => by
  subst hh
  have hE2 := hE.mono (Step.frzK k hg)
  exact ⟨X.frzK id T s cells k, rfl, rfl, (Step.frzK k hg).toN hn, hX.frzK hg h1 h2, hE2.defers, hE2.size, hE2.rep⟩
/-- A region that is answered for apart, from another state. -/
theorem esc_ent {P : Program} (hmix : P.follows .mixedOrders = true) {N : Nat} {L : List Nat} {ks ks' : List (Nat × Nat)} {id : Nat} {ops : Array Oper} {Q : PostW} {e e' : Ev} {h h' : Hp} (hE : Ent (base ks) N e h e' h') (hb : base ks' = base ks) (hl : h.length ≤ h'.length) (hok : okCode N ks' (.region id ops true) = true) (hw : wCode P N L ks' (.region id ops true) Q e' h') : escE P N ks id ops Q e h := by
  intro X a hn hh hX hEX
  obtain ⟨Y, y1, y2, y3, y4, y5⟩ := hE X a hh (hh ▸ hn) hX hEX
  subst y2
  have := code_sound hmix (.region id ops true) Q Y e' a hok rfl (by rw [hb]; rw [← hh] at hl; omega) y4 y5 hw
  rw [y1] at this
  rw [hb] at this
  exact wp_mono this fun ex a' w' q => PostOf.map hX y3 q fun _ _ _ q => q
theorem Ent.wk {n0 N : Nat} {e : Ev} {h : Hp} (d : Nat) (a b : AV) (ha : getE e d = a) (hw : Wk a b) : Ent n0 N e h ((d, b) :: e) h := fun X act hh hn hX hE => by
  refine ⟨X, rfl, hh, (Step.refl X).toN (hh ▸ hn), hX, hE.defers, hE.size, fun d' => ?_⟩
  show Rep X (if d = d' then b else getE e d') _
  by_cases q : d = d'
  · subst q
    rw [if_pos rfl]
    have hv := hE.rep d
    rw [ha] at hv
    exact hw _ _ hv
  · rw [if_neg q]; exact hE.rep d'
end Go.Proofs.YtljfgdlgmdcmfaaGreat.Wv

/-! The machine of abstract values: regions whose text stands in another order than they are walked. -/
namespace Go.Proofs.YtljfgdlgmdcmfaaGreat.Wv
open Go.RowKit
set_option linter.unusedVariables false

/-- The place of a number in a list. -/
def posN : List Nat → Nat → Nat
  | [], _ => 0
  | a :: r, j => if a = j then 0 else posN r j + 1
/-- The operations in another order. -/
def prOp (σ : List Nat) (o : Oper) : Oper := { o with after := o.after.map (fun e => { e with on := posN σ e.on }), guard := o.guard.map fun g => (posN σ g.1, g.2) }
def prO (σ : List Nat) (ops : Array Oper) : Array Oper := ((List.range ops.size).map fun p => prOp σ (ops.getD (σ.getD p 0) default)).toArray
/-- Is that an order? -/
def permB (σ : List Nat) (ops : Array Oper) : Bool := Nat.beq σ.length ops.size && ((List.range ops.size).all fun i => Nat.blt (posN σ i) ops.size && Nat.beq (σ.getD (posN σ i) ops.size) i && Nat.blt (σ.getD i ops.size) ops.size && Nat.beq (posN σ (σ.getD i ops.size)) i) &&
  ops.toList.all fun o => o.after.toList.all (fun e => Nat.blt e.on ops.size) && match o.guard with | none => true | some g => Nat.blt g.1 ops.size
structure PermOk (σ : List Nat) (ops : Array Oper) : Prop where
  len : σ.length = ops.size
  inv : ∀ i, i < ops.size → posN σ i < ops.size ∧ σ.getD (posN σ i) 0 = i
  fwd : ∀ p, p < ops.size → σ.getD p 0 < ops.size ∧ posN σ (σ.getD p 0) = p
  aft : ∀ (i : Nat) (o : Oper), ops[i]? = some o → ∀ e, e ∈ o.after → e.on < ops.size
  grd : ∀ (i : Nat) (o : Oper), ops[i]? = some o → ∀ g b, o.guard = some (g, b) → g < ops.size
theorem permB_ok {σ : List Nat} {ops : Array Oper} (h : permB σ ops = true) : PermOk σ ops := by
  unfold permB at h
  simp only [Bool.and_eq_true, List.all_eq_true] at h
  obtain ⟨⟨h1, h2⟩, h3⟩ := h
  have h1' := Nat.eq_of_beq_eq_true h1
  have lt : ∀ {a b : Nat}, Nat.blt a b = true → a < b := fun h => Nat.lt_of_lt_of_le (Nat.lt_succ_self _) (Nat.le_of_ble_eq_true h)
  have gd : ∀ p, p < ops.size → σ.getD p ops.size = σ.getD p 0 := fun p hp => by
    have : p < σ.length := by omega
    simp [this]
  refine ⟨h1', fun i hi => ?_, fun p hp => ?_, fun i o ho e he => ?_, fun i o ho g b hg => ?_⟩
  · obtain ⟨⟨⟨q1, q2⟩, _⟩, _⟩ := h2 i (List.mem_range.2 hi)
    have q1' := lt q1
    exact ⟨q1', by rw [← gd _ q1']; exact Nat.eq_of_beq_eq_true q2⟩
  · obtain ⟨⟨_, q3⟩, q4⟩ := h2 p (List.mem_range.2 hp)
    rw [gd p hp] at q3 q4
    exact ⟨lt q3, Nat.eq_of_beq_eq_true q4⟩
  · have hm : o ∈ ops.toList := by
      obtain ⟨hi, e1⟩ := Array.getElem?_eq_some_iff.1 ho
      rw [← e1]; exact Array.mem_toList_iff.2 (Array.getElem_mem hi)
    exact lt ((h3 o hm).1 e (Array.mem_toList_iff.2 he))
  · have hm : o ∈ ops.toList := by
      obtain ⟨hi, e1⟩ := Array.getElem?_eq_some_iff.1 ho
      rw [← e1]; exact Array.mem_toList_iff.2 (Array.getElem_mem hi)
    have := (h3 o hm).2
    rw [hg] at this
    exact lt this
section
variable {σ : List Nat} {ops : Array Oper}
theorem prO_size : (prO σ ops).size = ops.size := by simp [prO]
theorem prO_at (D : PermOk σ ops) {i : Nat} {o : Oper} (ho : ops[i]? = some o) : (prO σ ops)[posN σ i]? = some (prOp σ o) := by
  have hi := (Array.getElem?_eq_some_iff.1 ho).1
  obtain ⟨q1, q2⟩ := D.inv i hi
  unfold prO
  rw [List.getElem?_toArray, List.getElem?_map, List.getElem?_range q1]
  simp only [Option.map_some]
  rw [q2]
  congr 2
  rw [Array.getD_eq_getD_getElem?, ho]; rfl
theorem prO_none (D : PermOk σ ops) {i : Nat} (h : ops.size ≤ i) : ops[i]? = none := Array.getElem?_eq_none h
/-- What is listed, by the other places. -/
def LsP (σ : List Nat) (ops : Array Oper) (l l' : Array Bool) : Prop := l.size = ops.size ∧ l'.size = ops.size ∧ ∀ i, i < ops.size → l'.getD (posN σ i) false = l.getD i false
theorem LsP.put (D : PermOk σ ops) {l l' : Array Bool} (h : LsP σ ops l l') {i : Nat} (hi : i < ops.size) : LsP σ ops (l.setIfInBounds i true) (l'.setIfInBounds (posN σ i) true) := by
  obtain ⟨h1, h2, h3⟩ := h
  refine ⟨by simp [h1], by simp [h2], fun j hj => ?_⟩
  have hp := (D.inv i hi).1
  have hq := (D.inv j hj).1
  have inj : posN σ i = posN σ j → i = j := fun e => by rw [← (D.inv i hi).2, ← (D.inv j hj).2, e]
  simp only [Array.getD_eq_getD_getElem?, Array.getElem?_setIfInBounds, h1, h2]
  have h3' := h3 j hj
  simp only [Array.getD_eq_getD_getElem?] at h3'
  by_cases e : i = j
  · subst e; simp [hi, hp]
  · rw [if_neg e, if_neg (fun q => e (inj q))]; exact h3'
theorem ready_pr (D : PermOk σ ops) {md : Region.Mode} {l l' : Array Bool} (h : LsP σ ops l l') {i : Nat} (hi : i ∈ Region.ready md ops l) : posN σ i ∈ Region.ready md (prO σ ops) l' := by
  obtain ⟨q1, o, q2, q3⟩ := mem_ready.1 hi
  have hlt := (Array.getElem?_eq_some_iff.1 q2).1
  refine mem_ready.2 ⟨?_, prOp σ o, prO_at D q2, ?_⟩
  · have := h.2.2 i hlt
    have e1 := getD_both q1
    rw [e1] at this
    exact getD_in (by rw [h.2.1]; exact (D.inv i hlt).1) this
  · intro e he hb
    obtain ⟨e', he', rfl⟩ := Array.mem_map.1 he
    show l'.getD (posN σ e'.on) false = true
    rw [h.2.2 _ (D.aft i o q2 e' he')]
    exact q3 e' he' hb
theorem ready_back (D : PermOk σ ops) {md : Region.Mode} {l l' : Array Bool} (h : LsP σ ops l l') (h0 : Region.ready md ops l = []) : Region.ready md (prO σ ops) l' = [] := by
  apply List.eq_nil_iff_forall_not_mem.2
  intro p hp
  obtain ⟨q1, o', q2, q3⟩ := mem_ready.1 hp
  have hp' : p < ops.size := by have := (Array.getElem?_eq_some_iff.1 q2).1; rwa [prO_size] at this
  obtain ⟨g1, g2⟩ := D.fwd p hp'
  obtain ⟨o, ho⟩ : ∃ o, ops[σ.getD p 0]? = some o := ⟨_, Array.getElem?_eq_getElem g1⟩
  have h2 := prO_at D ho
  rw [g2, q2] at h2
  injection h2 with h2
  subst h2
  have : σ.getD p 0 ∈ Region.ready md ops l := by
    refine mem_ready.2 ⟨?_, o, ho, fun e he hb => ?_⟩
    · have := h.2.2 _ g1
      rw [g2, getD_both q1] at this
      exact getD_in (by rw [h.1]; exact g1) this.symm
    · have := q3 ⟨posN σ e.on, e.ground⟩ (Array.mem_map.2 ⟨e, he, rfl⟩) hb
      rw [← h.2.2 _ (D.aft _ o ho e he)]
      exact this
  rw [h0] at this
  cases this
theorem wpOp_pr (D : PermOk σ ops) {P : Program} {Q : Exit → Act → World → Prop} {i : Nat} (hi : i < ops.size) {K : Act → World → Prop} {a : Act} {w : World} (h : wpOp P (prO σ ops) Q (posN σ i) K a w) : wpOp P ops Q i K a w := by
  obtain ⟨o, ho⟩ : ∃ o, ops[i]? = some o := ⟨_, Array.getElem?_eq_getElem hi⟩
  unfold wpOp at h ⊢
  rw [prO_at D ho] at h
  rw [ho]
  simp only at h ⊢
  have hw : Region.wanted (prOp σ o) (yielded (prO σ ops) a.tmps) = Region.wanted o (yielded ops a.tmps) := by
    unfold Region.wanted prOp
    cases hg : o.guard with
    | none => rfl
    | some g =>
      have hlt := D.grd i o ho g.1 g.2 (by rw [hg])
      simp only [Option.map_some]
      have : yielded (prO σ ops) a.tmps (posN σ g.1) = yielded ops a.tmps g.1 := by
        unfold yielded
        obtain ⟨q, hq⟩ : ∃ q, ops[g.1]? = some q := ⟨_, Array.getElem?_eq_getElem hlt⟩
        rw [prO_at D hq, hq]
        rfl
      rw [this]
  rw [hw] at h
  exact h
/-- A region may be walked by another text. -/
theorem any_pr (D : PermOk σ ops) {P : Program} {md : Region.Mode} {Q : Exit → Act → World → Prop} : ∀ (n : Nat) (l l' : Array Bool) (a : Act) (w : World), LsP σ ops l l' → wpAny P md (prO σ ops) Q n l' a w → wpAny P md ops Q n l a w
  | 0, l, l', a, w, h, hw => by
    refine ⟨?_, hw.2⟩
    apply List.eq_nil_iff_forall_not_mem.2
    intro i hi
    have := ready_pr D h hi
    rw [hw.1] at this
    cases this
  | n + 1, l, l', a, w, h, hw => by
    refine ⟨fun h0 => hw.1 (ready_back D h h0), fun i hi => ?_⟩
    have hlt : i < ops.size := by
      obtain ⟨_, o, ho, _⟩ := mem_ready.1 hi
      exact (Array.getElem?_eq_some_iff.1 ho).1
    exact wpOp_pr D hlt (wpOp_mono (fun a' w' hk => any_pr D n _ _ a' w' (h.put D hlt) hk) (hw.2 _ (ready_pr D h hi)))
end

/-- An operation that yields a value. -/
theorem wpOp_val {P : Program} {ops : Array Oper} {Q : Exit → Act → World → Prop} {i : Nat} {o : Oper} {v : Value} {K : Act → World → Prop} {a : Act} {w w' : World} (hi : ops[i]? = some o) (hg : Region.wanted o (yielded ops a.tmps) = true)
    (hrun : (execOp a.eval o).run P w = .ok (.value v) w') (hK : K (a.put o.dst v) w') : wpOp P ops Q i K a w := by
  unfold wpOp
  rw [hi]
  simp only
  rw [if_pos hg]
  refine .inl ?_
  unfold Oper.wp
  rw [hrun]
  exact hK
end Go.Proofs.YtljfgdlgmdcmfaaGreat.Wv
