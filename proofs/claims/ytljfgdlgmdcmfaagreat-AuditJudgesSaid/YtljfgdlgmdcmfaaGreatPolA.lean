/- Interpolation: the iterator of pairs. -/
import Derived.Test.YtljfgdlgmdcmfaaGreatMaE
import Derived.Test.YtljfgdlgmdcmfaaGreatBnA
import Derived.ProofKit
import Derived.RangeFuncCalls
import Derived.Lib.Hide
import Derived.RangeFuncBound
import Derived.RangeFuncLeaves
import Derived.Shelf.Abstract
import Derived.Shelf.RegionOpen
import Derived.OwnWalkIn
import Derived.TacticsInMore
import Derived.LoopNIn
import Derived.LoopIn
import Derived.WalkMore
namespace Go.Proofs.YtljfgdlgmdcmfaaGreat
open Go.RowKit Wv
set_option linter.unusedVariables false
set_option linter.unusedSimpArgs false

def rowP (i k : Nat) : List (Nat × Nat) := (List.range k).map fun j => (i, j)
theorem rowP_succ (i k : Nat) : rowP i (k + 1) = rowP i k ++ [(i, k)] := by unfold rowP; rw [List.range_succ, List.map_append]; rfl
/-- All pairs of numbers below a number, the greater one first. -/
def prs : Nat → List (Nat × Nat)
  | 0 => []
  | i + 1 => prs i ++ rowP i i
theorem prs_le {i n : Nat} (h : i ≤ n) : prs i <+: prs n := by
  induction n with
  | zero => have : i = 0 := by omega
            subst this; exact List.prefix_refl _
  | succ n ih =>
    by_cases e : i = n + 1
    · subst e; exact List.prefix_refl _
    · exact (ih (by omega)).trans (List.prefix_append _ _)
theorem rowP_le {i j k : Nat} (h : j ≤ k) : rowP i j <+: rowP i k := by
  induction k with
  | zero => have : j = 0 := by omega
            subst this; exact List.prefix_refl _
  | succ k ih =>
    by_cases e : j = k + 1
    · subst e; exact List.prefix_refl _
    · rw [rowP_succ]; exact (ih (by omega)).trans (List.prefix_append _ _)
theorem prs_row {i k n : Nat} (h : i < n) (hk : k ≤ i) : prs i ++ rowP i k <+: prs n :=
  ((List.prefix_append_right_inj (prs i)).2 (rowP_le hk)).trans (prs_le (i := i + 1) h)
def encP (x : Nat × Nat) : Array Value := #[.int .i64 (x.1 : Nat), .int .i64 (x.2 : Nat)]
set_option maxHeartbeats 1000000 in
set_option maxRecDepth 100000 in
theorem pairs_in (F : Fence) (n : Nat) (hF : F.fn 264) (hro : F.round = none) (l B N : Nat) (J Jx : List (Nat × Nat) → World → Prop) (Kp : World → World → Prop)
    (hY : ∀ pre (x : Nat × Nat) W, x.1 < N → x.2 < x.1 → J pre W → pre.length < (prs N).length → YieldAt F (n - 1) Tryz.prog l (encP x) W fun e W' =>
      (e = .returned (.bool true) ∧ J (pre ++ [x]) W' ∧ Kp W W') ∨ (e = .returned (.bool false) ∧ Jx (pre ++ [x]) W'))
    (W : World) (hB : W.cell? ⟨B, 0, none⟩ = some (.int .i64 N)) (hN : N ≤ 4611686018427387904) (hn : 1 ≤ n) (h0 : J [] W) :
    CallsIn F n Tryz.prog 264 #[.func (.yield l) #[] #[], .pointer (some ⟨B, 0, none⟩)] W fun e W' => (∃ v, e = .returned v) ∧
      ((∃ ys, ys = prs N ∧ J ys W') ∨ (∃ pre, pre <+: prs N ∧ Jx pre W')) := by
  refine callsIn_of_wp Tryz.func264 rfl hF ?_ hro
  simp only [Tryz.ntmps264, List.size_toArray, List.length_cons, List.length_nil, Nat.reduceAdd, Nat.reduceSub, Array.replicate_succ, Array.replicate_zero, List.push_toArray, List.append_toArray, List.nil_append, List.cons_append]
  gi_wp2
  gi_loopw [6] (fun v6 wr => ∃ (i : Nat), v6 = .int .i64 i ∧ i ≤ N ∧ J (prs i) wr) (fun v6 _ => N - (intOf v6).toNat)
  case atStart => exact ⟨0, rfl, Nat.zero_le _, h0⟩
  case round =>
    obtain ⟨i, rfl, hi, hJ⟩ := hrel
    have HJ := Lib.hid hJ
    clear hJ
    by_cases hlt : i < N
    · have e1 : (i : Int) < (N : Int) := by omega
      gi_wp2
      gi_loopw [10] (fun v10 wr => ∃ (k : Nat), v10 = .int .i64 k ∧ k ≤ i ∧ J (prs i ++ rowP i k) wr) (fun v10 _ => i - (intOf v10).toNat)
      case atStart => exact ⟨0, rfl, Nat.zero_le _, by show J (prs i ++ []) _; rw [List.append_nil]; exact HJ.out⟩
      case round =>
        obtain ⟨k, rfl, hk, hJ⟩ := hrel
        by_cases hlt2 : k < i
        · have e2 : (k : Int) < (i : Int) := by omega
          have hpre : Hid (prs i ++ rowP i (k + 1) <+: prs N) := prs_row hlt hlt2
          have hlen : (prs i ++ rowP i k).length < (prs N).length := by
            have := hpre.out.length_le
            rw [rowP_succ, ← List.append_assoc, List.length_append, List.length_singleton] at this
            omega
          obtain ⟨fn, tmps, assign, body, hy, hR⟩ := hY (prs i ++ rowP i k) (i, k) _ hlt hlt2 hJ hlen
          simp only [encP] at hy
          clear hJ hlen
          gi_wp2
          refine hR.mono ?_
          clear hy hR
          rintro e W' (⟨rfl, hJ', hk'⟩ | ⟨rfl, hJx'⟩)
          · have HJ' := Lib.hid hJ'
            clear hJ' hk'
            gi_wp2
            go_roundw
            case rel => exact ⟨k + 1, by go_num, by omega, by rw [rowP_succ, ← List.append_assoc]; exact HJ'.out⟩
            case measure => simp [intOf]; omega
          · have HJ' := Lib.hid hJx'
            clear hJx'
            gi_wp2
            refine bodyPost_ret (results_none rfl _ _ _) rfl ?_
            exact ⟨⟨_, rfl⟩, .inr ⟨_, hpre.out, by rw [rowP_succ, ← List.append_assoc]; exact HJ'.out⟩⟩
        · have hki : k = i := by omega
          subst hki
          have HJ2 := Lib.hid hJ
          clear hJ
          gi_wp2
          go_roundw
          case rel => exact ⟨k + 1, by go_num, by omega, HJ2.out⟩
          case measure => simp [intOf]; omega
    · have hiN : i = N := by omega
      subst hiN
      gi_wp2
      go_end0
      exact ⟨⟨_, rfl⟩, .inl ⟨_, rfl, HJ.out⟩⟩
/-- Pairs below a number, the greater one first. -/
abbrev PrT (N : Nat) := {p : Nat × Nat // p.1 < N ∧ p.2 < p.1}
theorem pairs_iter {h : Hp} {id : Nat} (N : Nat) (hh : h[id]? = some (some (.blk [.v (.int .i64 N)]))) (hN : N ≤ 4611686018427387904) :
    IterC Tryz.prog 264 [.ptr id 0] h (fun (x : PrT N) => encP x.1) [id] (fun ys => ys.map (·.1) = prs N) (fun pre => pre.map (·.1) <+: prs N) (prs N).length := by
  intro X vs hX hXh hr l J Jx W hW _ _ hY h0
  subst hXh
  match vs, hr.1 with
  | [v0], _ =>
    have hv := hr.2 0 _ v0 rfl rfl
    cases hv with
    | ptr hid hp =>
    obtain ⟨b, hb, rfl⟩ := hp _ hh
    have hc := blk_exact (l := [.int .i64 N]) hX hh hb 0
    have hlt : b < X.w.heap.size := hX.lt ⟨id, ⟨_, hh⟩, hb⟩
    have K := pairs_in Fence.wide 8 trivial rfl l b N (fun q W => ∃ q' : List (PrT N), q'.map (·.1) = q ∧ J q' W) (fun q W => ∃ q' : List (PrT N), q'.map (·.1) = q ∧ Jx q' W) _ (fun pre x W x1 x2 ⟨q', e, hJ⟩ hl => by
        subst e
        obtain ⟨fn, tmps, assign, body, g1, g2⟩ := hY q' ⟨x, x1, x2⟩ W hJ (by simpa using hl)
        refine ⟨fn, tmps, assign, body, g1, g2.mono ?_⟩
        rintro e W' (⟨e1, e2, e3⟩ | ⟨e1, e2⟩)
        · exact .inl ⟨e1, ⟨_, by simp, e2⟩, e3⟩
        · exact .inr ⟨e1, ⟨_, by simp, e2⟩⟩) W ((hW.cell (p := ⟨b, 0, none⟩) hlt).trans hc) hN (by decide) ⟨[], rfl, h0⟩
    refine K.mono ?_
    rintro e W' ⟨he, ⟨ys, rfl, q', e1, e2⟩ | ⟨pre, e0, q', e1, e2⟩⟩
    · exact ⟨he, .inl ⟨q', e1, e2⟩⟩
    · exact ⟨he, .inr ⟨q', by show q'.map (·.1) <+: prs N; rw [e1]; exact e0, e2⟩⟩
end Go.Proofs.YtljfgdlgmdcmfaaGreat
