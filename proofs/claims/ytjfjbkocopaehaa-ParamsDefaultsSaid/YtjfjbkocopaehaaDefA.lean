/- primes.down's iterator; the list of the candidates. -/
import Derived.RangeFuncNested
import Derived.RangeFuncBound
import Derived.RangeFuncCalls
import Derived.RangeFuncLeaves
import Derived.Shelf.Abstract
import Derived.Shelf.RegionOpen
import Derived.OwnWalkIn
import Derived.TacticsInMore
import Derived.LoopNIn
import Derived.LoopIn
import Derived.Maps.AppendAt
import Derived.Test.YtjfjbkocopaehaaKeyI
namespace Go.Proofs.Ytjfjbkocopaehaa
open Go.RowKit Go.Shelf
attribute [local go_sem] Oper.semAt_some

/-- The candidates, from k down. -/
def downL (s : Nat) : Nat → List Nat
  | 0 => []
  | k + 1 => ((k + 1) * s + 1) :: downL s k

theorem downL_len (s k : Nat) : (downL s k).length = k := by
  induction k with
  | zero => rfl
  | succ k ih => simp [downL, ih]

/-- While no candidate has been too small, and fewer than c primes have come. -/
theorem chainGo_pre {pr : Nat → Bool} {s : Nat} : ∀ (pre rest : List Nat) (k c : Nat), pre ++ rest = downL s k → (∀ q, q ∈ pre → 1073741824 < q) → (pre.filter pr).length < c →
    ∃ j, rest = downL s j ∧ chainGo pr s k c = pre.filter pr ++ chainGo pr s j (c - (pre.filter pr).length) := by
  intro pre
  induction pre with
  | nil => intro rest k c h _ _; exact ⟨k, h, by simp⟩
  | cons q pre ih =>
    intro rest k c h hq hc
    cases k with
    | zero => simp [downL] at h
    | succ k =>
      simp only [downL, List.cons_append, List.cons.injEq] at h
      obtain ⟨rfl, h⟩ := h
      have h1 : 1073741824 < (k + 1) * s + 1 := hq _ (by simp)
      have hq' : ∀ q, q ∈ pre → 1073741824 < q := fun q hm => hq q (List.mem_cons_of_mem _ hm)
      cases hp : pr ((k + 1) * s + 1) with
      | true =>
        rw [List.filter_cons_of_pos hp] at hc ⊢
        simp only [List.length_cons] at hc ⊢
        obtain ⟨j, h3, h4⟩ := ih rest k (c - 1) h hq' (by omega)
        refine ⟨j, h3, ?_⟩
        rw [chainGo_yes h1 (by omega) hp, Nat.add_sub_cancel, h4, List.cons_append, show c - 1 - (pre.filter pr).length = c - ((pre.filter pr).length + 1) by omega]
      | false =>
        rw [List.filter_cons_of_neg (by rw [hp]; simp)] at hc ⊢
        obtain ⟨j, h3, h4⟩ := ih rest k c h hq' hc
        refine ⟨j, h3, ?_⟩
        rw [chainGo_no h1 (by omega) hp, Nat.add_sub_cancel, h4]

/-- A word. -/
abbrev Word := { q : Nat // q < 4294967296 }
def vals (l : List Word) : List Nat := l.map (fun x => x.1)
theorem vals_snoc (l : List Word) (x : Word) : vals (l ++ [x]) = vals l ++ [x.1] := by simp [vals]
def encW (x : Word) : Array Value := #[.int .u32 (x.1 : Nat)]
def keepS (Bs : Nat) (W W' : World) : Prop := W'.cell? ⟨Bs, 0, none⟩ = W.cell? ⟨Bs, 0, none⟩

set_option maxHeartbeats 1000000 in
set_option maxRecDepth 100000 in
theorem down_in (F : Fence) (n : Nat) (hF : F.fn 101) (hro : F.round = none) (l Bl Bs s K : Nat) (J Jx : List Word → World → Prop)
    (hY : ∀ pre (x : Word) W, J pre W → pre.length < K → YieldAt F (n - 1) Try.prog l (encW x) W fun e W' =>
      (e = .returned (.bool true) ∧ J (pre ++ [x]) W' ∧ keepS Bs W W') ∨ (e = .returned (.bool false) ∧ Jx (pre ++ [x]) W'))
    (W : World) (hl : W.cell? ⟨Bl, 0, none⟩ = some (.int .u64 2147483648)) (hs : W.cell? ⟨Bs, 0, none⟩ = some (.int .u64 s)) (hs0 : 0 < s) (hs1 : s ≤ 137438953472) (hK : K = 2147483646 / s) (hn : 1 ≤ n) (h0 : J [] W) :
    CallsIn F n Try.prog 101 #[.func (.yield l) #[] #[], .pointer (some ⟨Bl, 0, none⟩), .pointer (some ⟨Bs, 0, none⟩)] W fun e W' => (∃ v, e = .returned v) ∧
      ((∃ ys, vals ys = downL s K ∧ J ys W') ∨ (∃ pre, vals pre <+: downL s K ∧ Jx pre W')) := by
  have hk0 : K * s ≤ 2147483646 := by rw [hK]; exact Nat.div_mul_le_self _ _
  have hkI : (2147483646 : Int) / (s : Int) = (K : Int) := by rw [hK]; simp
  have hk1 : K ≤ 2147483646 := by rw [hK]; exact Nat.div_le_self _ _
  clear hK
  have HKI := Lib.hid hkI
  clear hkI
  refine callsIn_of_wp Try.func101 rfl hF ?_ hro
  simp only [Try.ntmps101, List.size_toArray, List.length_cons, List.length_nil, Nat.reduceAdd, Nat.reduceSub, Array.replicate_succ, Array.replicate_zero, List.push_toArray, List.append_toArray, List.nil_append, List.cons_append]
  gi_wp2
  gi_loopw [4] (fun vk wr => ∃ (k : Nat) (pre : List Word), vk = .int .u64 k ∧ k ≤ K ∧ Hid (vals pre ++ downL s k = downL s K) ∧ J pre wr ∧ wr.cell? ⟨Bs, 0, none⟩ = some (.int .u64 s)) (fun vk _ => (intOf vk).toNat)
  case atStart => exact ⟨K, [], congrArg _ HKI.out, Nat.le_refl _, by show _ = _; rfl, h0, hs⟩
  case round =>
    obtain ⟨k, pre, rfl, hk, htot, hJ, hsr⟩ := hrel
    have hpl : Hid (pre.length + k = K) := by
      show _ = _
      have := congrArg List.length htot.out
      rw [List.length_append, downL_len, downL_len] at this
      simpa [vals] using this
    rcases Nat.eq_zero_or_pos k with h | hk0'
    · subst h
      have HJ := Lib.hid hJ
      clear hJ
      gi_wp2
      go_end0
      exact ⟨⟨_, rfl⟩, .inl ⟨pre, by have := htot.out; simpa [downL] using this, HJ.out⟩⟩
    · have hks : k * s ≤ 2147483646 := Nat.le_trans (Nat.mul_le_mul_right _ hk) hk0
      have hksI : (k : Int) * (s : Int) ≤ 2147483646 := by rw [← Int.natCast_mul]; exact Int.ofNat_le.2 hks
      have hks0 : (0 : Int) ≤ (k : Int) * (s : Int) := by rw [← Int.natCast_mul]; exact Int.natCast_nonneg _
      have hkI : (0 : Int) < (k : Int) := by omega
      have hst : Hid (downL s k = (k * s + 1) :: downL s (k - 1)) := by
        show _ = _
        obtain ⟨j, rfl⟩ : ∃ j, k = j + 1 := ⟨k - 1, by omega⟩
        rfl
      have hw : k * s + 1 < 4294967296 := by omega
      obtain ⟨fn, tmps, assign, body, hy, hR⟩ := hY pre ⟨k * s + 1, hw⟩ wr hJ (by have := hpl.out; omega)
      simp only [encW, Int.natCast_add, Int.natCast_mul, Int.natCast_one] at hy
      gi_wp2
      refine hR.mono ?_
      clear hy hR hJ
      rintro e W' (⟨rfl, hJ', hk'⟩ | ⟨rfl, hJx'⟩)
      · have hs' : W'.cell? ⟨Bs, 0, none⟩ = some (.int .u64 s) := hk'.trans hsr
        have HJ' := Lib.hid hJ'
        clear hJ' hk' hsr
        gi_wp2
        go_roundw
        case rel => exact ⟨k - 1, pre ++ [⟨k * s + 1, hw⟩], by go_num, by omega, by show _ = _; rw [vals_snoc, ← htot.out, hst.out]; simp, HJ'.out, hs'⟩
        case measure => simp [intOf]; omega
      · have HJ' := Lib.hid hJx'
        clear hJx' hsr
        gi_wp2
        refine bodyPost_ret (results_none rfl _ _ _) rfl ?_
        exact ⟨⟨_, rfl⟩, .inr ⟨pre ++ [⟨k * s + 1, hw⟩], ⟨downL s (k - 1), by rw [vals_snoc, ← htot.out, hst.out]; simp⟩, HJ'.out⟩⟩

theorem down_stops (F : Fence) (n : Nat) (hF : F.fn 101) (hro : F.round = none) (hn : 1 ≤ n) (Bl Bs s K : Nat) (w : World) (hl : w.cell? ⟨Bl, 0, none⟩ = some (.int .u64 2147483648)) (hs : w.cell? ⟨Bs, 0, none⟩ = some (.int .u64 s))
    (hBl : Bl < w.heap.size) (hBs : Bs < w.heap.size) (hs0 : 0 < s) (hs1 : s ≤ 137438953472) (hK : K = 2147483646 / s) :
    SeqStopsK F n Try.prog 101 #[.pointer (some ⟨Bl, 0, none⟩), .pointer (some ⟨Bs, 0, none⟩)] encW (keepS Bs) (fun xs => vals xs = downL s K) (fun pre => vals pre <+: downL s K) K w :=
  fun l J Jx W hW _ _ hY h0 => down_in F n hF hro l Bl Bs s K J Jx hY W ((hW.cell (p := ⟨Bl, 0, none⟩) hBl).trans hl) ((hW.cell (p := ⟨Bs, 0, none⟩) hBs).trans hs) hs0 hs1 hK hn h0
theorem keepS_t {Bs : Nat} {A B C : World} (h : keepS Bs A B) (k : keepS Bs B C) : keepS Bs A C := k.trans h
theorem keepS_b {Bs : Nat} {w : World} (hB : Bs < w.heap.size) (W : World) (l : Nat) (o o' : Obj) (hl : w.heap.size ≤ l) (_ : W.heap[l]? = some o) (_ : o.isCells = false) (_ : o.isWalk = false) : keepS Bs W (W.putObj l o') := by
  unfold keepS
  have h := (grownBy_putObj' W l o').block
  simp only [World.cell?]
  by_cases hb : Bs < W.heap.size
  · rw [h Bs hb (by intro e; injection e with e; omega)]
  · have h1 : W.heap[Bs]? = none := by simp; omega
    have h2 : (W.putObj l o').heap[Bs]? = none := by simp [World.putObj]; omega
    rw [h1, h2]
end Go.Proofs.Ytjfjbkocopaehaa
