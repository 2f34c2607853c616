/- The machine of abstract values: a function that puts off one call. -/
import Derived.Test.YtljfgdlgmdcmfaaGreatWvZ
import Derived.Defers
namespace Go.Proofs.YtljfgdlgmdcmfaaGreat.Wv
open Go.RowKit
set_option linter.unusedVariables false
set_option linter.unusedSimpArgs false

/-- Some codes one after the other. -/
def seqs : List Code → Code → Code
  | [], c => c
  | a :: l, c => .seq a (seqs l c)

/-- The first codes of a body, and what follows them. -/
theorem seqs_sound {P : Program} (hmix : P.follows .mixedOrders = true) {N : Nat} {L : List Nat} {ks : List (Nat × Nat)} {QA : PostW} {Post : Exit → Act → World → Prop} {last rest : Code} (hx : ∀ i e h, ¬ QA (.exit i) e h) (hp : ∀ av e h, ¬ QA (.panic av) e h) :
    ∀ (l : List Code) (X : Cx) (e : Ev) (a : Act), okCode N ks (seqs l last) = true → noRF (seqs l last) = true → base ks ≤ X.h.length → Ok X → EnvOk X N e a → wCode P N L ks (seqs l last) QA e X.h →
      (∀ (Y : Cx) (e' : Ev) (a' : Act), StepN (base ks) X Y → Ok Y → EnvOk Y N e' a' → QA .normal e' Y.h → rest.wp P Post a' Y.w) →
      (∀ (Y : Cx) (e' : Ev) (a' : Act), StepN (base ks) X Y → Ok Y → EnvOk Y N e' a' → QA .ret e' Y.h → Post .ret a' Y.w) → (seqs l (.seq last rest)).wp P Post a X.w
  | [], X, e, a, hk, hf, hn, hX, hE, hw, hr, hq => by
    refine wp_seq (wp_mono (code_sound hmix last QA X e a hk hf hn hX hE hw) ?_)
    intro ex a' w' hpost
    have := hpost.elim
    cases this with
    | ok x ex Y e2 a2 S hY hE2 h hx2 =>
      rcases hx2 with ⟨rfl, rfl⟩ | ⟨i, rfl, rfl⟩ | ⟨rfl, rfl⟩ | ⟨v, av, rfl, rfl, hr2⟩
      · exact hr Y e2 _ S hY hE2 h
      · exact (hx _ _ _ h).elim
      · exact hq Y e2 _ S hY hE2 h
      · exact (hp _ _ _ h).elim
  | c :: l, X, e, a, hk, hf, hn, hX, hE, hw, hr, hq => by
    unfold seqs at hk hf hw ⊢
    simp only [okCode, Bool.and_eq_true] at hk
    simp only [noRF, Bool.and_eq_true] at hf
    refine wp_seq (wp_mono (code_sound hmix c _ X e a hk.1 hf.1 hn hX hE hw) ?_)
    intro ex a' w' hpost
    have := hpost.elim
    cases this with
    | ok x ex Y e2 a2 S hY hE2 h hx2 =>
      rcases hx2 with ⟨rfl, rfl⟩ | ⟨i, rfl, rfl⟩ | ⟨rfl, rfl⟩ | ⟨v, av, rfl, rfl, hr2⟩
      · exact seqs_sound hmix hx hp l Y e2 _ hk.2 hf.2 S.len hY hE2 h (fun Z e3 a3 S3 hZ hE3 q => hr Z e3 a3 (S.trans hX S3) hZ hE3 q) (fun Z e3 a3 S3 hZ hE3 q => hq Z e3 a3 (S.trans hX S3) hZ hE3 q)
      · exact (hx _ _ _ h).elim
      · exact hq Y e2 _ S hY hE2 h
      · exact (hp _ _ _ h).elim

/-- The region that puts a closure off. -/
theorem defer_region {P : Program} {id : Nat} {t : Tmp} {G : FuncId} {caps : Array Operand} {ty1 ty2 : TypeId} {p1 p2 : String} {e1 e2 : Array Edge} {Q : Exit → Act → World → Prop} {a : Act} {w : World} (ht : t < a.tmps.size)
    (h : Q .normal { tmps := a.tmps.setIfInBounds t (.func (.func G) #[] (caps.map a.eval)), defers := { target := .fn (.func G) (caps.map a.eval), args := #[] } :: a.defers } w) :
    (Code.region id #[⟨some t, .makeFunc (.func G) #[] caps, ty1, p1, e1, none⟩, ⟨none, .defer ⟨.value (.tmp t), #[], #[]⟩, ty2, p2, e2, none⟩] false).wp P Q a w := by
  refine wp_region ?_
  have hmf : ∀ (fn : Fn) (first cap : Array Value) (w : World), (Instr.makeFunc fn first cap).run P w = .ok (.func fn first cap) w := fun _ _ _ _ => rfl
  simp [wpOps, go_sem, hmf, Act.put, Act.eval, ht]
  exact .inl (.inl h)
end Go.Proofs.YtljfgdlgmdcmfaaGreat.Wv
