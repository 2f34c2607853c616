/- A region that draws its order, within a round: one walk, where its operations only read. -/
import Derived.Test.YtjpcljnojipdnaaGreatRngF
import Derived.Sort.QuietIn
namespace Go.Proofs.YtjpcljnojipdnaaGreat
open Go.RowKit

def noDefer (l : List Oper) : Bool := l.all (fun o => match o.op with | .defer _ => false | _ => true)
theorem noDefer_at {l : List Oper} (h : noDefer l = true) {i : Nat} {o : Oper} (ho : l.toArray[i]? = some o) : ∀ c, o.op ≠ .defer c := by
  intro c e
  have hm : o ∈ l := by
    have : l[i]? = some o := by simpa using ho
    exact List.mem_of_getElem? this
  have h1 := List.all_eq_true.1 h o hm
  rw [e] at h1
  cases h1

theorem uponIn_round {F : Fence} {n : Nat} {P : Program} {r : Nat} {o : Oper} {a : Act} {K : Act → World → Prop} {Q : Exit → Act → World → Prop} {res : Result Next}
    (h : o.uponIn F n P a K Q res) : o.uponIn (F.inRound r) n P a K Q res := by
  cases res with
  | ok x w' => cases x <;> exact h
  | halt x w' => cases x <;> exact h

theorem operIn_round {F : Fence} {n : Nat} {P : Program} {r : Nat} {o : Oper} {a : Act} {w : World} {K : Act → World → Prop} {Q : Exit → Act → World → Prop} (hd : ∀ c, o.op ≠ .defer c)
    (h : o.wpIn F n P a w K Q) : o.wpIn (F.inRound r) n P a w K Q := by
  refine ⟨h.1, ?_⟩
  have h2 := h.2
  rw [Oper.semAt_plain F _ o hd] at h2
  rw [Oper.semAt_plain (F.inRound r) _ o hd]
  exact uponIn_round h2

theorem wpAnyIn_round {F : Fence} {n : Nat} {P : Program} {md : Region.Mode} {l : List Oper} {Q : Exit → Act → World → Prop} (r : Nat) (hd : noDefer l = true) :
    ∀ (fuel : Nat) (listed : Array Bool) (a : Act) (w : World), wpAnyIn F n P md l.toArray Q fuel listed a w → wpAnyIn (F.inRound r) n P md l.toArray Q fuel listed a w := by
  intro fuel
  induction fuel with
  | zero => intro listed a w h; exact h
  | succ fuel ih =>
    intro listed a w h
    refine ⟨h.1, fun i hi => ?_⟩
    have h1 := h.2 i hi
    unfold wpOpIn at h1 ⊢
    cases ho : l.toArray[i]? with
    | none => simp only [ho] at h1 ⊢; exact ih _ _ _ h1
    | some o =>
      simp only [ho] at h1 ⊢
      split
      · rename_i hw
        rw [if_pos hw] at h1
        exact operIn_round (noDefer_at hd ho) (Oper.wpIn_mono (fun a w h => ih _ _ _ h) h1)
      · rename_i hw
        rw [if_neg hw] at h1
        exact ⟨h1.1, ih _ _ _ h1.2⟩

/-- A quiet region within a round. -/
theorem quiet_round {F : Fence} {n : Nat} {P : Program} {id r : Nat} {Q : Exit → Act → World → Prop} {a : Act} {w : World} {l : List Oper} (hro : F.round = none) (hd : noDefer l = true) (hm : P.follows .mixedOrders = true) (hB : Region.lexB .any l.toArray = true)
    (h : wpQuietIn F n P l.toArray (fun w' => ∃ n, w' = w.drewN n) (fun a' => ∀ w', (∃ n, w' = w.drewN n) → Q .normal a' w') l a) : (Code.region id l.toArray true).wpIn (F.inRound r) n P Q a w := by
  have hC : (fun w' => ∃ n, w' = w.drewN n) { w with drawn := w.drawn + 1 } := ⟨1, rfl⟩
  simp only [Region.lexB, Bool.and_eq_true] at hB
  refine wpIn_region_any hm (wpAnyIn_round r hd _ _ _ _ (wpAnyIn_of_quiet (C := fun w' => ∃ n, w' = w.drewN n) (Q := fun a' => ∀ w', (∃ n, w' = w.drewN n) → Q .normal a' w') hro (fun _ w' hw' h => h w' hw') _ _ _ _ hC ?_))
  have := wpAnyQIn_lex (F := F) (n := n) (C := fun w' => ∃ n, w' = w.drewN n) (md := .any) hB.1 l 0 (Array.replicate l.toArray.size false) a (by simp) (by simpa using hB.2) h
  simpa using this
end Go.Proofs.YtjpcljnojipdnaaGreat
