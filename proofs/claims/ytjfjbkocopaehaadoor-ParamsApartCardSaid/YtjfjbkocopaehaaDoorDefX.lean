/- primes.down's iterator; the list of the candidates. primes.Chain. params.Default. (Printed by gen_DefC.py.) -/
import Derived.RangeFuncNested
import Derived.RangeFuncBound
import Derived.RangeFuncCalls
import Derived.RangeFuncLeaves
import Derived.Shelf.Abstract
import Derived.Shelf.RegionOpen
import Derived.OwnWalkIn
import Derived.TacticsInMore
import Derived.LoopNIn
import Derived.LoopIn
import Derived.Maps.AppendAt
import Derived.Test.YtjfjbkocopaehaaDoorChnA
import Derived.WalkMore
/-! primes.down's iterator; the list of the candidates. -/
namespace Go.Proofs.YtjfjbkocopaehaaDoor
open Go.RowKit Go.Shelf
attribute [local go_sem] Oper.semAt_some

/-- The candidates, from k down. -/
def downL (s : Nat) : Nat → List Nat
  | 0 => []
  | k + 1 => ((k + 1) * s + 1) :: downL s k

theorem downL_len (s k : Nat) : (downL s k).length = k := by
  induction k with
  | zero => rfl
  | succ k ih => simp [downL, ih]

/-- While no candidate has been too small, and fewer than c primes have come. -/
theorem chainGo_pre {pr : Nat → Bool} {s : Nat} : ∀ (pre rest : List Nat) (k c : Nat), pre ++ rest = downL s k → (∀ q, q ∈ pre → 1073741824 < q) → (pre.filter pr).length < c →
    ∃ j, rest = downL s j ∧ chainGo pr s k c = pre.filter pr ++ chainGo pr s j (c - (pre.filter pr).length) := by
  intro pre
  induction pre with
  | nil => intro rest k c h _ _; exact ⟨k, h, by simp⟩
  | cons q pre ih =>
    intro rest k c h hq hc
    cases k with
    | zero => simp [downL] at h
    | succ k =>
      simp only [downL, List.cons_append, List.cons.injEq] at h
      obtain ⟨rfl, h⟩ := h
      have h1 : 1073741824 < (k + 1) * s + 1 := hq _ (by simp)
      have hq' : ∀ q, q ∈ pre → 1073741824 < q := fun q hm => hq q (List.mem_cons_of_mem _ hm)
      cases hp : pr ((k + 1) * s + 1) with
      | true =>
        rw [List.filter_cons_of_pos hp] at hc ⊢
        simp only [List.length_cons] at hc ⊢
        obtain ⟨j, h3, h4⟩ := ih rest k (c - 1) h hq' (by omega)
        refine ⟨j, h3, ?_⟩
        rw [chainGo_yes h1 (by omega) hp, Nat.add_sub_cancel, h4, List.cons_append, show c - 1 - (pre.filter pr).length = c - ((pre.filter pr).length + 1) by omega]
      | false =>
        rw [List.filter_cons_of_neg (by rw [hp]; simp)] at hc ⊢
        obtain ⟨j, h3, h4⟩ := ih rest k c h hq' hc
        refine ⟨j, h3, ?_⟩
        rw [chainGo_no h1 (by omega) hp, Nat.add_sub_cancel, h4]

/-- A word. -/
abbrev Word := { q : Nat // q < 4294967296 }
def vals (l : List Word) : List Nat := l.map (fun x => x.1)
theorem vals_snoc (l : List Word) (x : Word) : vals (l ++ [x]) = vals l ++ [x.1] := by simp [vals]
def encW (x : Word) : Array Value := #[.int .u32 (x.1 : Nat)]
def keepS (Bs : Nat) (W W' : World) : Prop := W'.cell? ⟨Bs, 0, none⟩ = W.cell? ⟨Bs, 0, none⟩

set_option maxHeartbeats 1000000 in
set_option maxRecDepth 100000 in
theorem down_in (F : Fence) (n : Nat) (hF : F.fn 64) (hro : F.round = none) (l Bl Bs s K : Nat) (J Jx : List Word → World → Prop)
    (hY : ∀ pre (x : Word) W, J pre W → pre.length < K → YieldAt F (n - 1) Tryd.prog l (encW x) W fun e W' =>
      (e = .returned (.bool true) ∧ J (pre ++ [x]) W' ∧ keepS Bs W W') ∨ (e = .returned (.bool false) ∧ Jx (pre ++ [x]) W'))
    (W : World) (hl : W.cell? ⟨Bl, 0, none⟩ = some (.int .u64 2147483648)) (hs : W.cell? ⟨Bs, 0, none⟩ = some (.int .u64 s)) (hs0 : 0 < s) (hs1 : s ≤ 137438953472) (hK : K = 2147483646 / s) (hn : 1 ≤ n) (h0 : J [] W) :
    CallsIn F n Tryd.prog 64 #[.func (.yield l) #[] #[], .pointer (some ⟨Bl, 0, none⟩), .pointer (some ⟨Bs, 0, none⟩)] W fun e W' => (∃ v, e = .returned v) ∧
      ((∃ ys, vals ys = downL s K ∧ J ys W') ∨ (∃ pre, vals pre <+: downL s K ∧ Jx pre W')) := by
  have hk0 : K * s ≤ 2147483646 := by rw [hK]; exact Nat.div_mul_le_self _ _
  have hkI : (2147483646 : Int) / (s : Int) = (K : Int) := by rw [hK]; simp
  have hk1 : K ≤ 2147483646 := by rw [hK]; exact Nat.div_le_self _ _
  clear hK
  have HKI := Lib.hid hkI
  clear hkI
  refine callsIn_of_wp Tryd.func64 rfl hF ?_ hro
  simp only [Tryd.ntmps64, List.size_toArray, List.length_cons, List.length_nil, Nat.reduceAdd, Nat.reduceSub, Array.replicate_succ, Array.replicate_zero, List.push_toArray, List.append_toArray, List.nil_append, List.cons_append]
  gi_wp2
  gi_loopw [4] (fun vk wr => ∃ (k : Nat) (pre : List Word), vk = .int .u64 k ∧ k ≤ K ∧ Hid (vals pre ++ downL s k = downL s K) ∧ J pre wr ∧ wr.cell? ⟨Bs, 0, none⟩ = some (.int .u64 s)) (fun vk _ => (intOf vk).toNat)
  case atStart => exact ⟨K, [], congrArg _ HKI.out, Nat.le_refl _, by show _ = _; rfl, h0, hs⟩
  case round =>
    obtain ⟨k, pre, rfl, hk, htot, hJ, hsr⟩ := hrel
    have hpl : Hid (pre.length + k = K) := by
      show _ = _
      have := congrArg List.length htot.out
      rw [List.length_append, downL_len, downL_len] at this
      simpa [vals] using this
    rcases Nat.eq_zero_or_pos k with h | hk0'
    · subst h
      have HJ := Lib.hid hJ
      clear hJ
      gi_wp2
      go_end0
      exact ⟨⟨_, rfl⟩, .inl ⟨pre, by have := htot.out; simpa [downL] using this, HJ.out⟩⟩
    · have hks : k * s ≤ 2147483646 := Nat.le_trans (Nat.mul_le_mul_right _ hk) hk0
      have hksI : (k : Int) * (s : Int) ≤ 2147483646 := by rw [← Int.natCast_mul]; exact Int.ofNat_le.2 hks
      have hks0 : (0 : Int) ≤ (k : Int) * (s : Int) := by rw [← Int.natCast_mul]; exact Int.natCast_nonneg _
      have hkI : (0 : Int) < (k : Int) := by omega
      have hst : Hid (downL s k = (k * s + 1) :: downL s (k - 1)) := by
        show _ = _
        obtain ⟨j, rfl⟩ : ∃ j, k = j + 1 := ⟨k - 1, by omega⟩
        rfl
      have hw : k * s + 1 < 4294967296 := by omega
      obtain ⟨fn, tmps, assign, body, hy, hR⟩ := hY pre ⟨k * s + 1, hw⟩ wr hJ (by have := hpl.out; omega)
      simp only [encW, Int.natCast_add, Int.natCast_mul, Int.natCast_one] at hy
      gi_wp2
      refine hR.mono ?_
      clear hy hR hJ
      rintro e W' (⟨rfl, hJ', hk'⟩ | ⟨rfl, hJx'⟩)
      · have hs' : W'.cell? ⟨Bs, 0, none⟩ = some (.int .u64 s) := hk'.trans hsr
        have HJ' := Lib.hid hJ'
        clear hJ' hk' hsr
        gi_wp2
        go_roundw
        case rel => exact ⟨k - 1, pre ++ [⟨k * s + 1, hw⟩], by go_num, by omega, by show _ = _; rw [vals_snoc, ← htot.out, hst.out]; simp, HJ'.out, hs'⟩
        case measure => simp [intOf]; omega
      · have HJ' := Lib.hid hJx'
        clear hJx' hsr
        gi_wp2
        refine bodyPost_ret (results_none rfl _ _ _) rfl ?_
        exact ⟨⟨_, rfl⟩, .inr ⟨pre ++ [⟨k * s + 1, hw⟩], ⟨downL s (k - 1), by rw [vals_snoc, ← htot.out, hst.out]; simp⟩, HJ'.out⟩⟩

theorem down_stops (F : Fence) (n : Nat) (hF : F.fn 64) (hro : F.round = none) (hn : 1 ≤ n) (Bl Bs s K : Nat) (w : World) (hl : w.cell? ⟨Bl, 0, none⟩ = some (.int .u64 2147483648)) (hs : w.cell? ⟨Bs, 0, none⟩ = some (.int .u64 s))
    (hBl : Bl < w.heap.size) (hBs : Bs < w.heap.size) (hs0 : 0 < s) (hs1 : s ≤ 137438953472) (hK : K = 2147483646 / s) :
    SeqStopsK F n Tryd.prog 64 #[.pointer (some ⟨Bl, 0, none⟩), .pointer (some ⟨Bs, 0, none⟩)] encW (keepS Bs) (fun xs => vals xs = downL s K) (fun pre => vals pre <+: downL s K) K w :=
  fun l J Jx W hW _ _ hY h0 => down_in F n hF hro l Bl Bs s K J Jx hY W ((hW.cell (p := ⟨Bl, 0, none⟩) hBl).trans hl) ((hW.cell (p := ⟨Bs, 0, none⟩) hBs).trans hs) hs0 hs1 hK hn h0
theorem keepS_t {Bs : Nat} {A B C : World} (h : keepS Bs A B) (k : keepS Bs B C) : keepS Bs A C := k.trans h
theorem keepS_b {Bs : Nat} {w : World} (hB : Bs < w.heap.size) (W : World) (l : Nat) (o o' : Obj) (hl : w.heap.size ≤ l) (_ : W.heap[l]? = some o) (_ : o.isCells = false) (_ : o.isWalk = false) : keepS Bs W (W.putObj l o') := by
  unfold keepS
  have h := (grownBy_putObj' W l o').block
  simp only [World.cell?]
  by_cases hb : Bs < W.heap.size
  · rw [h Bs hb (by intro e; injection e with e; omega)]
  · have h1 : W.heap[Bs]? = none := by simp; omega
    have h2 : (W.putObj l o').heap[Bs]? = none := by simp [World.putObj]; omega
    rw [h1, h2]
end Go.Proofs.YtjfjbkocopaehaaDoor

/-! primes.Chain. -/
namespace Go.Proofs.YtjfjbkocopaehaaDoor
open Go.RowKit Go.Shelf
attribute [local go_sem] Oper.semAt_some

theorem pdim3_any (n : Int) (w : World) :
    Calls Tryd.prog 46 #[.int .i64 n] w fun r w' => r = .returned (.bool (isDim n)) ∧ w = w' := by
  have hR : Hid (isDim n = (n == 4 || (n == 8 || (n == 16 || n == 32)))) := by show _ = _; unfold isDim; simp only [Bool.or_assoc]
  cases h4 : (n == 4) with
  | true =>
    go_enter Tryd.func46, Tryd.ntmps46
    go_wp2_with fail
    go_ret
    exact ⟨ret_bool (by rw [hR.out, h4]; rfl), rfl⟩
  | false =>
  cases h8 : (n == 8) with
  | true =>
    go_enter Tryd.func46, Tryd.ntmps46
    go_wp2_with fail
    go_ret
    exact ⟨ret_bool (by rw [hR.out, h4, h8]; rfl), rfl⟩
  | false =>
  cases h16 : (n == 16) with
  | true =>
    go_enter Tryd.func46, Tryd.ntmps46
    go_wp2_with fail
    go_ret
    exact ⟨ret_bool (by rw [hR.out, h4, h8, h16]; rfl), rfl⟩
  | false =>
  cases h32 : (n == 32) with
  | true =>
    go_enter Tryd.func46, Tryd.ntmps46
    go_wp2_with fail
    go_ret
    exact ⟨ret_bool (by rw [hR.out, h4, h8, h16, h32]; rfl), rfl⟩
  | false =>
    go_enter Tryd.func46, Tryd.ntmps46
    go_wp2_with fail
    go_ret
    exact ⟨ret_bool (by rw [hR.out, h4, h8, h16, h32]; rfl), rfl⟩

theorem down_any (l s : Nat) (w : World) :
    Calls Tryd.prog 47 #[.int .u64 l, .int .u64 s] w fun r w' => r = .returned (.func (.func 64) #[] #[.pointer (some ⟨w.heap.size, 0, none⟩), .pointer (some ⟨w.heap.size + 1, 0, none⟩)]) ∧ (w.alloc (.cells #[.int .u64 l] 68)).alloc (.cells #[.int .u64 s] 68) = w' := by
  go_enter Tryd.func47, Tryd.ntmps47
  go_wp2_with fail
  go_ret
  exact ⟨rfl, rfl⟩

/-! What the loop has seen. -/
def ChP (c : Nat) (l : List Nat) : Prop := (∀ q, q ∈ l → 1073741824 < q) ∧ (l.filter mPrime).length < c
def ChFail (c : Nat) (l : List Nat) : Prop := ∃ r q, l = r ++ [q] ∧ ChP c r ∧ q ≤ 1073741824
def ChRet (c : Nat) (l : List Nat) : Prop := ∃ r q, l = r ++ [q] ∧ ChP c r ∧ 1073741824 < q ∧ mPrime q = true ∧ (l.filter mPrime).length = c

theorem ch_done {s c K : Nat} {l : List Nat} (h : l = downL s K) (hp : ChP c l) : (chainGo mPrime s K c).length < c := by
  obtain ⟨j, h1, h2⟩ := chainGo_pre l [] K c (by simpa using h) hp.1 hp.2
  have : j = 0 := by have := congrArg List.length h1; rw [downL_len] at this; simpa using this.symm
  subst this
  rw [h2]; simp [chainGo]; exact hp.2
theorem ch_fail {s c K : Nat} {l : List Nat} (h : l <+: downL s K) (hp : ChFail c l) : (chainGo mPrime s K c).length < c := by
  obtain ⟨r, q, rfl, h1, h2⟩ := hp
  obtain ⟨e, he⟩ := h
  obtain ⟨j, h3, h4⟩ := chainGo_pre r (q :: e) K c (by rw [← he]; simp) h1.1 h1.2
  rw [h4]
  cases j with
  | zero => simp [downL] at h3
  | succ j =>
    simp only [downL, List.cons.injEq] at h3
    rw [chainGo_stop (by rw [← h3.1]; omega), List.append_nil]; exact h1.2
theorem ch_ret {s c K : Nat} {l : List Nat} (h : l <+: downL s K) (hp : ChRet c l) : chainGo mPrime s K c = l.filter mPrime ∧ (l.filter mPrime).length = c := by
  obtain ⟨r, q, rfl, h1, h2, h3, h4⟩ := hp
  obtain ⟨e, he⟩ := h
  obtain ⟨j, h5, h6⟩ := chainGo_pre r (q :: e) K c (by rw [← he]; simp) h1.1 h1.2
  refine ⟨?_, h4⟩
  rw [h6]
  rw [List.filter_append, List.filter_cons_of_pos h3] at h4 ⊢
  simp only [List.filter_nil, List.length_append, List.length_cons, List.length_nil] at h4
  cases j with
  | zero => simp [downL] at h5
  | succ j =>
    simp only [downL, List.cons.injEq] at h5
    rw [chainGo_yes (by rw [← h5.1]; exact h2) (by omega) (by rw [← h5.1]; exact h3), ← h5.1, chainGo_stop (by omega)]; rfl
theorem chp_snoc {c q : Nat} {l : List Nat} (h : ChP c l) (hq : 1073741824 < q) (hp : mPrime q = false) : ChP c (l ++ [q]) := by
  refine ⟨fun x hx => ?_, ?_⟩
  · rcases List.mem_append.1 hx with h1 | h1
    · exact h.1 x h1
    · simp at h1; subst h1; exact hq
  · rw [List.filter_append, List.filter_cons_of_neg (by rw [hp]; simp)]; simpa using h.2
theorem chp_snoc' {c q : Nat} {l : List Nat} (h : ChP c l) (hq : 1073741824 < q) (hp : mPrime q = true) (hc : (l.filter mPrime).length + 1 ≠ c) : ChP c (l ++ [q]) := by
  refine ⟨fun x hx => ?_, ?_⟩
  · rcases List.mem_append.1 hx with h1 | h1
    · exact h.1 x h1
    · simp at h1; subst h1; exact hq
  · have := h.2
    rw [List.filter_append, List.filter_cons_of_pos hp]; simp; omega
/-- The primes among what has come. -/
def mp (pre : List Word) : List Nat := (vals pre).filter mPrime
theorem mp_hit (pre : List Word) (x : Word) (h : mPrime x.1 = true) : mp (pre ++ [x]) = mp pre ++ [x.1] := by unfold mp; rw [vals_snoc, List.filter_append, List.filter_cons_of_pos h]; rfl
theorem mp_miss (pre : List Word) (x : Word) (h : mPrime x.1 = false) : mp (pre ++ [x]) = mp pre := by unfold mp; rw [vals_snoc, List.filter_append, List.filter_cons_of_neg (by rw [h]; simp)]; simp
theorem mp_lt {pre : List Word} : ∀ q, q ∈ mp pre → q < 4294967296 := by
  intro q hq
  obtain ⟨x, _, rfl⟩ := List.mem_map.1 (List.mem_filter.1 hq).1
  exact x.2

/-- The boxes that the loop reads, or leaves. -/
structure ChB (W : World) (b c s : Nat) : Prop where
  k : Boxed W b 3 (.int .i64 c)
  r : Boxed W (b + 1) 23 (.slice none 0 0)
  e : Boxed W (b + 1 + 1) 27 (.int .i64 0)
  s : Boxed W (b + 1 + 1 + 1 + 1 + 1) 68 (.int .u64 s)
theorem chB_own {β : Type} (b c s : Nat) : Own (fun (_ : β) W => ChB W b c s) := fun x W W' row h hg hr =>
  ⟨boxed_own (β := β) _ _ (fun _ => _) x W W' row h.k hg hr, boxed_own (β := β) _ _ (fun _ => _) x W W' row h.r hg hr, boxed_own (β := β) _ _ (fun _ => _) x W W' row h.e hg hr, boxed_own (β := β) _ _ (fun _ => _) x W W' row h.s hg hr⟩
/-- How the loop is left early. -/
def ChX (b c : Nat) (cd : Code) (pre : List Word) (W : World) : Prop :=
  (cd = .exit 0 ∧ ChFail c (vals pre) ∧ Boxed W (b + 1) 23 (.slice none 0 0) ∧ Boxed W (b + 1 + 1) 27 (.int .i64 0)) ∨
  (cd = .ret ∧ ChRet c (vals pre) ∧ (∃ v, Boxed W (b + 1) 23 v ∧ W.ownsRow b 22 1 v (mp pre).length (u32s (mp pre)) ∧ True) ∧ Boxed W (b + 1 + 1) 27 (.int .i64 0))
theorem chX_own (b c : Nat) (cd : Code) : Own (ChX b c cd) := by
  intro x W W' row h hg hr
  rcases h with ⟨h1, h2, h3, h4⟩ | ⟨h1, h2, h3, h4⟩
  · exact .inl ⟨h1, h2, boxed_own (β := List Word) _ _ (fun _ => _) x W W' row h3 hg hr, boxed_own (β := List Word) _ _ (fun _ => _) x W W' row h4 hg hr⟩
  · exact .inr ⟨h1, h2, holdsRow_own b (b + 1) 23 22 1 (fun pre => (mp pre).length) (fun pre => u32s (mp pre)) (fun _ _ => True) x W W' row h3 hg hr, boxed_own (β := List Word) _ _ (fun _ => _) x W W' row h4 hg hr⟩

theorem boxed_below {W w1 : World} {B : Nat} {t : TypeId} {v : Value} (h : Boxed W B t v) (hb : Below W.heap.size W w1) : Boxed w1 B t v := (hb.block B h.lt).trans h
theorem owns_below {W w1 : World} {base size n : Nat} {e : TypeId} {v : Value} {xs : List Value} (h : W.ownsRow base e size v n xs) (hb : Below W.heap.size W w1) : w1.ownsRow base e size v n xs := by
  refine ⟨h.1, ?_⟩
  rcases h.2 with ⟨rfl, h0⟩ | ⟨g, cap, cur, rfl, hg, hh, h5⟩
  · exact .inl ⟨rfl, h0⟩
  · exact .inr ⟨g, cap, cur, rfl, hg, (hb.block g (lt_of_block hh)).trans hh, h5⟩
theorem keeps_below {W w1 : World} (hb : Below W.heap.size W w1) : KeepsOthers W w1 :=
  ⟨hb.size, fun k _ hk _ => (hb.block k (Array.getElem?_eq_some_iff.1 hk).1).trans hk⟩
theorem ChB.below {W w1 : World} {b c s : Nat} (h : ChB W b c s) (hb : Below W.heap.size W w1) : ChB w1 b c s := ⟨boxed_below h.k hb, boxed_below h.r hb, boxed_below h.e hb, boxed_below h.s hb⟩
/-- A box beside an appended row. -/
theorem boxed_appended {W w1 : World} {n₀ B k : Nat} {t : TypeId} {v u : Value} {xs : List Value} {tmp : Obj} (hu : Boxed W B t u) (hte : t ≠ 22) (hrow : W.ownsRow n₀ 22 1 v k xs) (hgrow : (W.alloc tmp).grownBy w1 v.ownBlock) : Boxed w1 B t u :=
  (hu.alloc tmp).kept hgrow (hu.not_row hte hrow)
theorem owns_set {W : World} {n₀ B k : Nat} {t : TypeId} {v u u' : Value} {xs : List Value} (hu : Boxed W B t u) (hte : t ≠ 22) (hrow : W.ownsRow n₀ 22 1 v k xs) : (W.setCell ⟨B, 0, none⟩ u').ownsRow n₀ 22 1 v k xs :=
  hrow.kept (grownBy_setCell' W B u') (.inr (hu.not_row hte hrow).symm)

set_option maxHeartbeats 2000000 in
set_option maxRecDepth 100000 in
theorem chain_any (N t c s : Nat) (w : World) (hN : isDim (N : Int) = true) (hN4 : 4 ≤ N) (hN32 : N ≤ 32) (ht3 : 3 ≤ t) (ht : t ≤ 2147483647) (hodd : t % 2 = 1) (hc1 : 1 ≤ c) (hc2 : c ≤ 25) (hs : s = 2 * N * t) :
    Calls Tryd.prog 33 #[.int .i64 N, .int .u32 t, .int .i64 c] w fun r w' => chainRet w w' (chainOf mPrime s c) c r := by
  have d1 : decide ((t : Int) < 3) = false := decide_eq_false (by omega)
  have d2 : ((t : Int) % 2 == 0) = false := beq_eq_false_iff_ne.2 (by omega)
  have d3 : decide ((2147483647 : Int) < t) = false := decide_eq_false (by omega)
  have d4 : decide ((c : Int) < 1) = false := decide_eq_false (by omega)
  have d5 : decide ((25 : Int) < c) = false := decide_eq_false (by omega)
  have hNt : N * t ≤ 32 * 2147483647 := Nat.mul_le_mul hN32 ht
  have hNt0 : 4 * 3 ≤ N * t := Nat.mul_le_mul hN4 ht3
  have hs2 : s = 2 * (N * t) := by rw [hs, Nat.mul_assoc]
  have hs0 : 0 < s := by omega
  have hsb : s ≤ 137438953472 := by omega
  have hwr : IntKind.u64.wrap ((2 : Int) * (N : Int) * (t : Int)) = s := by
    rw [show (2 : Int) * (N : Int) * (t : Int) = s by rw [hs2, Int.mul_assoc]; simp]
    simp [IntKind.wrap, IntKind.bits, IntKind.signed]; omega
  have hS := Lib.hid hs
  have HS2 := Lib.hid hs2
  clear hs hs2
  obtain ⟨i0, hi0, hz0, hz1, hz2⟩ := info_parts infoU32
  have HN := Lib.hid hN
  clear hN
  obtain ⟨K, hK⟩ : ∃ K : Nat, K = 2147483646 / s := ⟨_, rfl⟩
  have HK := Lib.hid hK
  have HT : Hid (chainOf mPrime s c = chainGo mPrime s K c) := by show _ = _; unfold chainOf; rw [hK]
  clear hK
  have HLT : Hid (∀ q, q ∈ chainOf mPrime s c → 1073741824 < q ∧ q ≤ 2147483647 ∧ mPrime q = true ∧ ∃ j, q = j * s + 1) := fun q h => chainOf_lt h
  have HLL : Hid ((chainOf mPrime s c).length ≤ c) := chainGo_len _ _ _ _
  refine (callsIn_wide (n := 9)).1 ?_
  refine callsIn_of_wp_marks Tryd.func33 rfl trivial ?_ rfl
  simp only [Tryd.ntmps33, List.size_toArray, List.length_cons, List.length_nil, Nat.reduceAdd, Nat.reduceSub, Array.replicate_succ, Array.replicate_zero, List.push_toArray, List.append_toArray, List.nil_append, List.cons_append]
  gi_wp2
  refine wpIn_wide.2 (wp_scope_straight ((wpIn_wide (n := 9)).1 ?_))
  gi_wp2_with (first | (refine ⟨trivial, ?_⟩; gi_at_call 46; refine (callsIn_wide.2 (pdim3_any _ _)).mono ?_; rintro e w1 ⟨rfl, rfl⟩; rw [HN.out]) | exact wpIn_label ?_ | refine wpIn_label ?_ | (refine ⟨trivial, ?_⟩; gi_at_call 47; refine (callsIn_wide.2 (down_any 2147483648 s _)).mono ?_; rintro e w1 ⟨rfl, rfl⟩))
  have hsz0 : ((((((w.alloc (.cells #[.int .i64 c] 3)).alloc (.cells #[.slice none 0 0] 23)).alloc (.cells #[.int .i64 0] 27)).alloc (.cells #[.slice none 0 0] 23)).alloc (.cells #[.int .u64 2147483648] 68)).alloc (.cells #[.int .u64 s] 68)).heap.size = w.heap.size + 1 + 1 + 1 + 1 + 1 + 1 := by simp
  have hbel0 : Below w.heap.size w ((((((w.alloc (.cells #[.int .i64 c] 3)).alloc (.cells #[.slice none 0 0] 23)).alloc (.cells #[.int .i64 0] 27)).alloc (.cells #[.slice none 0 0] 23)).alloc (.cells #[.int .u64 2147483648] 68)).alloc (.cells #[.int .u64 s] 68)) := ((((((Below.refl _ w).alloc (Nat.le_refl _) _).alloc (by simp) _).alloc (by simp; omega) _).alloc (by simp; omega) _).alloc (by simp; omega) _).alloc (by simp; omega) _
  have hl0 : ((((((w.alloc (.cells #[.int .i64 c] 3)).alloc (.cells #[.slice none 0 0] 23)).alloc (.cells #[.int .i64 0] 27)).alloc (.cells #[.slice none 0 0] 23)).alloc (.cells #[.int .u64 2147483648] 68)).alloc (.cells #[.int .u64 s] 68)).cell? ⟨w.heap.size + 1 + 1 + 1 + 1, 0, none⟩ = some (.int .u64 2147483648) := by simp [go_sem]
  have hB0 : ChB ((((((w.alloc (.cells #[.int .i64 c] 3)).alloc (.cells #[.slice none 0 0] 23)).alloc (.cells #[.int .i64 0] 27)).alloc (.cells #[.slice none 0 0] 23)).alloc (.cells #[.int .u64 2147483648] 68)).alloc (.cells #[.int .u64 s] 68)) w.heap.size c s := by
    have z1 : (w.alloc (.cells #[.int .i64 c] 3)).heap.size = w.heap.size + 1 := by simp
    have z2 : ((w.alloc (.cells #[.int .i64 c] 3)).alloc (.cells #[.slice none 0 0] 23)).heap.size = w.heap.size + 1 + 1 := by simp
    have z5 : (((((w.alloc (.cells #[.int .i64 c] 3)).alloc (.cells #[.slice none 0 0] 23)).alloc (.cells #[.int .i64 0] 27)).alloc (.cells #[.slice none 0 0] 23)).alloc (.cells #[.int .u64 2147483648] 68)).heap.size = w.heap.size + 1 + 1 + 1 + 1 + 1 := by simp
    refine ⟨(((((Boxed.new w _ _).alloc _).alloc _).alloc _).alloc _).alloc _, ?_, ?_, ?_⟩
    · rw [← z1]; exact ((((Boxed.new _ _ _).alloc _).alloc _).alloc _).alloc _
    · rw [← z2]; exact (((Boxed.new _ _ _).alloc _).alloc _).alloc _
    · rw [← z5]; exact Boxed.new _ _ _
  have hO0 : Boxed ((((((w.alloc (.cells #[.int .i64 c] 3)).alloc (.cells #[.slice none 0 0] 23)).alloc (.cells #[.int .i64 0] 27)).alloc (.cells #[.slice none 0 0] 23)).alloc (.cells #[.int .u64 2147483648] 68)).alloc (.cells #[.int .u64 s] 68)) (w.heap.size + 1 + 1 + 1) 23 (.slice none 0 0) := by
    have z3 : (((w.alloc (.cells #[.int .i64 c] 3)).alloc (.cells #[.slice none 0 0] 23)).alloc (.cells #[.int .i64 0] 27)).heap.size = w.heap.size + 1 + 1 + 1 := by simp
    rw [← z3]; exact ((Boxed.new _ _ _).alloc _).alloc _
  generalize ((((((w.alloc (.cells #[.int .i64 c] 3)).alloc (.cells #[.slice none 0 0] 23)).alloc (.cells #[.int .i64 0] 27)).alloc (.cells #[.slice none 0 0] 23)).alloc (.cells #[.int .u64 2147483648] 68)).alloc (.cells #[.int .u64 s] 68)) = W0 at hsz0 hbel0 hl0 hB0 hO0 ⊢
  have HSZ := Lib.hid hsz0
  have hlt4 : w.heap.size + 1 + 1 + 1 + 1 < W0.heap.size := by omega
  have hlt5 : w.heap.size + 1 + 1 + 1 + 1 + 1 < W0.heap.size := by omega
  clear hsz0
  refine wpIn_rangeFunc_ownF rfl (by decide) (gf := 64) (lb := #[.pointer (some ⟨w.heap.size + 1 + 1 + 1 + 1, 0, none⟩), .pointer (some ⟨w.heap.size + 1 + 1 + 1 + 1 + 1, 0, none⟩)]) rfl trivial (enters_of Tryd.func64 (by kernel_rfl) rfl)
    (down_stops Fence.wide 8 trivial rfl (by decide) (w.heap.size + 1 + 1 + 1 + 1) (w.heap.size + 1 + 1 + 1 + 1 + 1) s K W0 hl0 hB0.s.cell hlt4 hlt5 hs0 hsb HK.out) keepS_t (keepS_b hlt5) (Below.refl _ _) (fun _ => rfl)
    (fun pre W => ((∃ v, Boxed W (w.heap.size + 1 + 1 + 1) 23 v ∧ W.ownsRow w.heap.size 22 1 v (mp pre).length (u32s (mp pre)) ∧ True) ∧ ChB W w.heap.size c s) ∧ (ChP c (vals pre) ∧ Below w.heap.size w W))
    (fun cd pre W => ChX w.heap.size c cd pre W ∧ Below w.heap.size w W)
    (OwnFrom.and (OwnFrom.and (Own.from (holdsRow_own w.heap.size (w.heap.size + 1 + 1 + 1) 23 22 1 (fun pre => (mp pre).length) (fun pre => u32s (mp pre)) (fun _ _ => True)) _) (Own.from (chB_own _ _ _) _)) (OwnFrom.and (ownFrom_pure _ _) (ownFrom_below (Nat.le_refl _) (by omega))))
    (fun cd => OwnFrom.and (Own.from (chX_own _ _ cd) _) (ownFrom_below (Nat.le_refl _) (by omega)))
    ⟨⟨⟨_, hO0, World.ownsRow_nil _ _ _ _, trivial⟩, hB0⟩, ⟨fun q hq => by simp [vals] at hq, by simp [vals]; omega⟩, hbel0⟩
    (fun x => { tmps := #[.int .i64 N, .int .u32 t, .int .i64 c, undef, undef, .pointer (some ⟨w.heap.size, 0, none⟩), .pointer (some ⟨w.heap.size + 1, 0, none⟩), .pointer (some ⟨w.heap.size + 1 + 1, 0, none⟩), .pointer (some ⟨w.heap.size + 1 + 1 + 1, 0, none⟩), .int .u32 (x.1 : Nat), .int .i64 N, .bool true, .bool false, .bool false, .int .u32 t, .bool false, .bool false, .bool false, .int .u32 t, .int .u32 ((t : Int) % 2), .bool false, .bool false, .bool false, .int .u32 t, .bool false, .bool false, .bool false, .int .i64 c, .bool false, .bool false, .bool false, .int .i64 c, .bool false, .bool false, .int .i64 N, .int .u64 N, .int .u64 (2 * (N : Int)), .int .u32 t, .int .u64 t, .int .u64 s, .func (.func 64) #[] #[.pointer (some ⟨w.heap.size + 1 + 1 + 1 + 1, 0, none⟩), .pointer (some ⟨w.heap.size + 1 + 1 + 1 + 1 + 1, 0, none⟩)], .int .u32 (x.1 : Nat), undef, undef, undef, undef, undef, undef, undef, undef, undef, undef, undef, undef, undef, undef, undef], defers := [] }) ?assign ?body ?done ?stop
  case assign =>
    intro l x W K hK
    unfold encW
    gi_wp2
    exact hK
  case body =>
    rintro l pre x W ⟨⟨⟨v, hv, hrow, _⟩, hB⟩, hP, hBl⟩ hlt
    have hxb := x.2
    obtain ⟨q, hq⟩ : ∃ q, x.1 = q := ⟨_, rfl⟩
    rw [hq] at hxb
    have hpc : (mp pre).length < c := hP.2
    have hck := hB.k.cell
    have hcs := hv.cell
    by_cases hb : q ≤ 1073741824
    · have hbI : (q : Int) ≤ 1073741824 := by omega
      rw [hq]
      have HX : Hid (ChX w.heap.size c (.exit 0) (pre ++ [x]) W ∧ Below w.heap.size w W) := ⟨.inl ⟨rfl, ⟨vals pre, q, by rw [vals_snoc, hq], hP, hb⟩, hB.r, hB.e⟩, hBl⟩
      clear hP hq
      gi_wp2
      exact ⟨KeepsOthers.refl _, HX.out⟩
    · have hbI : (1073741824 : Int) < (q : Int) := by omega
      rw [hq]
      cases hp : mPrime q with
      | false =>
        have HM := Lib.hid hp
        have HX : Hid (((∃ v, Boxed W (w.heap.size + 1 + 1 + 1) 23 v ∧ W.ownsRow w.heap.size 22 1 v (mp (pre ++ [x])).length (u32s (mp (pre ++ [x]))) ∧ True) ∧ ChB W w.heap.size c s) ∧ (ChP c (vals (pre ++ [x])) ∧ Below w.heap.size w W)) := by
          show _ ∧ _
          rw [mp_miss pre x (by rw [hq]; exact hp), vals_snoc, hq]
          exact ⟨⟨⟨v, hv, hrow, trivial⟩, hB⟩, chp_snoc hP (by omega) hp, hBl⟩
        clear hP hq hp
        gi_wp2_with (refine ⟨trivial, ?_⟩; gi_at_call 20; refine (CallsIn.inRound l (callsIn_wide.2 (mPrime_any _ _ hxb))).mono ?_; rintro e w1 ⟨rfl, hb1⟩; rw [HM.out])
        obtain ⟨⟨⟨v1, hv1, hrow1, _⟩, hB1⟩, hP1, hBl1⟩ := HX.out
        exact ⟨keeps_below hb1, (hb1.cell (p := ⟨_, 0, none⟩) hB1.s.lt), ⟨⟨v1, boxed_below hv1 hb1, owns_below hrow1 hb1, trivial⟩, hB1.below hb1⟩, hP1, hBl1.trans (hb1.mono hBl1.size)⟩
      | true =>
        have HM := Lib.hid hp
        have hmh : Hid (mp (pre ++ [x]) = mp pre ++ [q]) := by show _ = _; rw [mp_hit pre x (by rw [hq]; exact hp), hq]
        have hvs : Hid (vals (pre ++ [x]) = vals pre ++ [q]) := by show _ = _; rw [vals_snoc, hq]
        have HPP := Lib.hid hP
        have hq1 : 1073741824 < q := by omega
        have hBz := hBl.size
        clear hP hq hp hck hcs
        by_cases hfull : (mp pre).length + 1 = c
        case pos =>
          have he : (((mp pre).length : Int) + 1 == (c : Int)) = true := beq_iff_eq.2 (by omega)
          have HF := Lib.hid hfull
          clear hfull
          gi_wp2_with (first | (refine ⟨trivial, ?_⟩; gi_at_call 20; refine (CallsIn.inRound l (callsIn_wide.2 (mPrime_any _ _ hxb))).mono ?_; rintro e w1 ⟨rfl, hb1⟩; rw [HM.out]; have hv1 := boxed_below hv hb1; have hrow1 := owns_below hrow hb1; have hB1 := hB.below hb1; have hcs := hv1.cell; have hck := hB1.k.cell; have hsz1 : w.heap.size ≤ w1.heap.size := Nat.le_trans hBz hb1.size) | (gi_at_builtin; (refine wpListIn_append_own _ rfl _ _ 23 rfl w.heap.size 22 i0 (.int .u32 0) 1 4 Tryd.underlying23 hi0 hz0 hz1 hz2 rfl (by decide) _ _ _ rfl (hrow1.alloc _) ⟨w1.heap.size, 0, none⟩ 1 1 [.int .u32 (q : Nat)] rfl rfl (cell_one_new _ _ _) (by simp [Value.oneCell']) (by unfold maxLen; omega) (by omega) (by simp; omega) ?_; intro v' w2 hown' hgrow _; obtain ⟨g', cap', rfl⟩ := ownsRow_succ hown'; obtain ⟨hv2, hv3, hr3, hk3, hb3⟩ := hv1.appended (by decide) hrow1 hsz1 (by omega) hown' hgrow; have hc2 := hv2.cell; have hf2 := hv2.frozen; have bk := boxed_appended hB1.k (by decide) hrow1 hgrow; have br := boxed_appended hB1.r (by decide) hrow1 hgrow; have be := boxed_appended hB1.e (by decide) hrow1 hgrow; have bs := boxed_appended hB1.s (by decide) hrow1 hgrow; have k1 := bk.cell; have k2 := br.cell; have k3 := br.frozen; have k4 := be.cell; have k5 := be.frozen)))
          have br3 := br.other (by omega : w.heap.size + 1 ≠ w.heap.size + 1 + 1 + 1) (.slice (some ⟨g', 0, none⟩) ((mp pre).length + 1) cap')
          have be3 := be.other (by omega : w.heap.size + 1 + 1 ≠ w.heap.size + 1 + 1 + 1) (.slice (some ⟨g', 0, none⟩) ((mp pre).length + 1) cap')
          have hr4 := owns_set (u' := .slice (some ⟨g', 0, none⟩) ((mp pre).length + 1) cap') br3 (by decide) hr3
          have be4 := be3.other (by omega : w.heap.size + 1 + 1 ≠ w.heap.size + 1) (.slice (some ⟨g', 0, none⟩) ((mp pre).length + 1) cap')
          have hr5 := owns_set (u' := .int .i64 0) be4 (by decide) hr4
          have br5 := (br3.set (.slice (some ⟨g', 0, none⟩) ((mp pre).length + 1) cap')).other (by omega : w.heap.size + 1 ≠ w.heap.size + 1 + 1) (.int .i64 0)
          have be5 := be4.set (.int .i64 0)
          refine ⟨(keeps_below hb1).trans (hk3.trans ((KeepsOthers.setCell _ _ _).trans (KeepsOthers.setCell _ _ _))), .inr ⟨rfl, ⟨vals pre, q, hvs.out, HPP.out, hq1, HM.out, ?_⟩, ⟨_, br5, ?_, trivial⟩, be5⟩, ?_⟩
          · have h1 := congrArg List.length hmh.out
            have h2 := HF.out
            rw [List.length_append, List.length_singleton] at h1
            unfold mp at h1 h2
            omega
          · rw [hmh.out]; unfold u32s at hr5 ⊢; simpa using hr5
          · exact (((hBl.trans (hb1.mono hBz)).trans hb3).setCell (p := ⟨w.heap.size + 1, 0, none⟩) (by simp) _).setCell (p := ⟨w.heap.size + 1 + 1, 0, none⟩) (by show w.heap.size ≤ w.heap.size + 1 + 1; omega) _
        case neg =>
          have he : (((mp pre).length : Int) + 1 == (c : Int)) = false := beq_eq_false_iff_ne.2 (by omega)
          have hP2 : Hid (ChP c (vals (pre ++ [x]))) := by show ChP _ _; rw [hvs.out]; exact chp_snoc' HPP.out hq1 HM.out hfull
          have HF := Lib.hid hfull
          clear hfull
          gi_wp2_with (first | (refine ⟨trivial, ?_⟩; gi_at_call 20; refine (CallsIn.inRound l (callsIn_wide.2 (mPrime_any _ _ hxb))).mono ?_; rintro e w1 ⟨rfl, hb1⟩; rw [HM.out]; have hv1 := boxed_below hv hb1; have hrow1 := owns_below hrow hb1; have hB1 := hB.below hb1; have hcs := hv1.cell; have hck := hB1.k.cell; have hsz1 : w.heap.size ≤ w1.heap.size := Nat.le_trans hBz hb1.size) | (gi_at_builtin; (refine wpListIn_append_own _ rfl _ _ 23 rfl w.heap.size 22 i0 (.int .u32 0) 1 4 Tryd.underlying23 hi0 hz0 hz1 hz2 rfl (by decide) _ _ _ rfl (hrow1.alloc _) ⟨w1.heap.size, 0, none⟩ 1 1 [.int .u32 (q : Nat)] rfl rfl (cell_one_new _ _ _) (by simp [Value.oneCell']) (by unfold maxLen; omega) (by omega) (by simp; omega) ?_; intro v' w2 hown' hgrow _; obtain ⟨g', cap', rfl⟩ := ownsRow_succ hown'; obtain ⟨hv2, hv3, hr3, hk3, hb3⟩ := hv1.appended (by decide) hrow1 hsz1 (by omega) hown' hgrow; have hc2 := hv2.cell; have hf2 := hv2.frozen; have bk := boxed_appended hB1.k (by decide) hrow1 hgrow; have br := boxed_appended hB1.r (by decide) hrow1 hgrow; have be := boxed_appended hB1.e (by decide) hrow1 hgrow; have bs := boxed_appended hB1.s (by decide) hrow1 hgrow; have k1 := bk.cell; have k2 := br.cell; have k3 := br.frozen; have k4 := be.cell; have k5 := be.frozen)))
          have bk3 := bk.other (by omega : w.heap.size ≠ w.heap.size + 1 + 1 + 1) (.slice (some ⟨g', 0, none⟩) ((mp pre).length + 1) cap')
          have br3 := br.other (by omega : w.heap.size + 1 ≠ w.heap.size + 1 + 1 + 1) (.slice (some ⟨g', 0, none⟩) ((mp pre).length + 1) cap')
          have be3 := be.other (by omega : w.heap.size + 1 + 1 ≠ w.heap.size + 1 + 1 + 1) (.slice (some ⟨g', 0, none⟩) ((mp pre).length + 1) cap')
          have bs3 := bs.other (by omega : w.heap.size + 1 + 1 + 1 + 1 + 1 ≠ w.heap.size + 1 + 1 + 1) (.slice (some ⟨g', 0, none⟩) ((mp pre).length + 1) cap')
          refine ⟨(keeps_below hb1).trans hk3, bs3.cell.trans hB.s.cell.symm, ⟨⟨_, hv3, ?_, trivial⟩, ⟨bk3, br3, be3, bs3⟩⟩, hP2.out, (hBl.trans (hb1.mono hBz)).trans hb3⟩
          rw [hmh.out]; unfold u32s at hr3 ⊢; simpa using hr3
  case done =>
    rintro D ys W hD hys ⟨⟨⟨v, hv, hrow, _⟩, hB⟩, hP, hBl⟩ hK
    have hlen : Hid ((chainOf mPrime s c).length < c) := by show _ < _; rw [HT.out]; exact ch_done hys hP
    have c1 := hB.r.cell; have c2 := hB.r.frozen; have c3 := hB.e.cell; have c4 := hB.e.frozen
    have hr1 := hB.r.set (.slice none 0 0)
    have he1 := hB.e.other (by omega : w.heap.size + 1 + 1 ≠ w.heap.size + 1) (.slice none 0 0)
    have hr2 := hr1.other (by omega : w.heap.size + 1 ≠ w.heap.size + 1 + 1) (.int .i64 4)
    have he2 := he1.set (.int .i64 4)
    have hK' := ((KeepsOthers.setCell W ⟨w.heap.size + 1, 0, none⟩ (.slice none 0 0)).trans (KeepsOthers.setCell _ ⟨w.heap.size + 1 + 1, 0, none⟩ (.int .i64 4))).same D _ hK rfl
    have z1 := cell_kept hr2.cell (grownBy_putObj' _ D (.deferred none)) (fun r e => by cases e; exact ⟨_, hK', rfl⟩)
    have z2 := cell_kept he2.cell (grownBy_putObj' _ D (.deferred none)) (fun r e => by cases e; exact ⟨_, hK', rfl⟩)
    have hbF := (((hBl.setCell (p := ⟨w.heap.size + 1, 0, none⟩) (by simp) (.slice none 0 0)).setCell (p := ⟨w.heap.size + 1 + 1, 0, none⟩) (by show w.heap.size ≤ w.heap.size + 1 + 1; omega) (.int .i64 4))).trans (belowK_b (w := w) (Nat.le_refl _) _ D (.deferred (some [])) (.deferred none) (by have := HSZ.out; omega) hK' rfl rfl)
    have Z1 := Lib.hid z1; have Z2 := Lib.hid z2; have HK' := Lib.hid hK'; have HBF := Lib.hid hbF
    clear hys hP z1 z2 hK hK' hbF hr1 he1 hr2 he2 hBl hrow hv hB
    gi_wp2
    rw [Exit.noGoto_ret]
    refine ⟨by simp, .inl ⟨_, _, rfl, run_takeDeferred HK'.out, ?_⟩⟩
    refine ⟨.tuple #[.slice none 0 0, .int .i64 4], ?_, HBF.out, .inl ⟨hlen.out, rfl⟩⟩
    simp [results, Tryd.f33, go_sem, Z1.out, Z2.out]
  case stop =>
    rintro D cd pre W hD hpre ⟨h | h, hBl⟩ hK
    · obtain ⟨rfl, hf, hR, hE⟩ := h
      have hlen : Hid ((chainOf mPrime s c).length < c) := by show _ < _; rw [HT.out]; exact ch_fail hpre hf
      have c1 := hR.cell; have c2 := hR.frozen; have c3 := hE.cell; have c4 := hE.frozen
      have hr1 := hR.set (.slice none 0 0)
      have he1 := hE.other (by omega : w.heap.size + 1 + 1 ≠ w.heap.size + 1) (.slice none 0 0)
      have hr2 := hr1.other (by omega : w.heap.size + 1 ≠ w.heap.size + 1 + 1) (.int .i64 4)
      have he2 := he1.set (.int .i64 4)
      have hK' := ((KeepsOthers.setCell W ⟨w.heap.size + 1, 0, none⟩ (.slice none 0 0)).trans (KeepsOthers.setCell _ ⟨w.heap.size + 1 + 1, 0, none⟩ (.int .i64 4))).same D _ hK rfl
      have z1 := cell_kept hr2.cell (grownBy_putObj' _ D (.deferred none)) (fun r e => by cases e; exact ⟨_, hK', rfl⟩)
      have z2 := cell_kept he2.cell (grownBy_putObj' _ D (.deferred none)) (fun r e => by cases e; exact ⟨_, hK', rfl⟩)
      have hbF := (((hBl.setCell (p := ⟨w.heap.size + 1, 0, none⟩) (by simp) (.slice none 0 0)).setCell (p := ⟨w.heap.size + 1 + 1, 0, none⟩) (by show w.heap.size ≤ w.heap.size + 1 + 1; omega) (.int .i64 4))).trans (belowK_b (w := w) (Nat.le_refl _) _ D (.deferred (some [])) (.deferred none) (by have := HSZ.out; omega) hK' rfl rfl)
      have Z1 := Lib.hid z1; have Z2 := Lib.hid z2; have HK' := Lib.hid hK'; have HBF := Lib.hid hbF
      clear hpre hf z1 z2 hK hK' hbF hr1 he1 hr2 he2 hBl hR hE
      gi_wp2
      rw [Exit.noGoto_ret]
      refine ⟨by simp, .inl ⟨_, _, rfl, run_takeDeferred HK'.out, ?_⟩⟩
      refine ⟨.tuple #[.slice none 0 0, .int .i64 4], ?_, HBF.out, .inl ⟨hlen.out, rfl⟩⟩
      simp [results, Tryd.f33, go_sem, Z1.out, Z2.out]
    · obtain ⟨rfl, hf, ⟨v, hR, hrow, _⟩, hE⟩ := h
      have hres : Hid (chainOf mPrime s c = mp pre ∧ (mp pre).length = c) := by show _ ∧ _; rw [HT.out]; exact ch_ret hpre hf
      have z1 := cell_kept hR.cell (grownBy_putObj' _ D (.deferred none)) (fun r e => by cases e; exact ⟨_, hK, rfl⟩)
      have z2 := cell_kept hE.cell (grownBy_putObj' _ D (.deferred none)) (fun r e => by cases e; exact ⟨_, hK, rfl⟩)
      have hrF := ownsRow_putObj hrow (.deferred none) hK rfl
      have hbF := hBl.trans (belowK_b (w := w) (Nat.le_refl _) _ D (.deferred (some [])) (.deferred none) (by have := HSZ.out; omega) hK rfl rfl)
      have Z1 := Lib.hid z1; have Z2 := Lib.hid z2; have HK' := Lib.hid hK; have HBF := Lib.hid hbF; have HRF := Lib.hid hrF
      clear hpre hf z1 z2 hK hbF hBl hR hE hrow hrF
      gi_wp2
      rw [Exit.noGoto_ret]
      refine ⟨by simp, .inl ⟨_, _, rfl, run_takeDeferred HK'.out, ?_⟩⟩
      refine ⟨.tuple #[v, .int .i64 0], ?_, HBF.out, .inr ⟨by rw [hres.out.1]; exact hres.out.2, v, rfl, ?_⟩⟩
      · simp [results, Tryd.f33, go_sem, Z1.out, Z2.out]
      · rw [hres.out.1]
        exact SliceAt.ofOwns HRF.out (by have := hres.out.2; omega) mp_lt
end Go.Proofs.YtjfjbkocopaehaaDoor

/-! params.Default. (Printed by gen_DefC.py.) -/
namespace Go.Proofs.YtjfjbkocopaehaaDoor
open Go.RowKit

theorem def_zero' {pr : Nat → Bool} {w0 w' : World} {n : Int} {p : Nat} {e lv k : Int} {r : Ending} (hb : Below w0.heap.size w0 w') (hk : defErr pr n p e lv = k) (h0 : k ≠ 0)
    (hr : r = .returned (.tuple #[.agg #[.int .i64 0, .int .u32 0, .int .i64 0, .slice none 0 0, .int .u32 0, .int .i64 0, .int .u32 0], .int .i64 k])) : defRet w0 w' (defPar pr n p e lv) (defErr pr n p e lv) r := by
  rw [defPar_zero (by rw [hk]; exact h0), hk]
  refine ⟨hb, .slice none 0 0, hr, none, 0, rfl, Nat.le_refl _, by simp [zeroP], fun h => absurd rfl h⟩
theorem chain_big {pr : Nat → Bool} {s c : Nat} (h : 2147483647 < s) : chainOf pr s c = [] := by
  unfold chainOf
  rw [Nat.div_eq_of_lt (by omega)]; rfl

set_option maxHeartbeats 6000000 in
set_option maxRecDepth 100000 in
theorem default_any (n : Int) (p : Nat) (e lv : Int) (w : World) (hn0 : -9223372036854775808 ≤ n) (hn1 : n ≤ 9223372036854775807) (hp : p < 4294967296) (he0 : -9223372036854775808 ≤ e) (he1 : e ≤ 9223372036854775807) (hl0 : -9223372036854775808 ≤ lv) (hl1 : lv ≤ 9223372036854775807) :
    Calls Tryd.prog 10 #[.int .i64 n, .int .u32 p, .int .i64 e, .int .i64 lv] w fun r w' => defRet w w' (defPar mPrime n p e lv) (defErr mPrime n p e lv) r := by
  have hB : BoxP (w.alloc (.cells #[.int .i64 0, .int .u32 0, .int .i64 0, .slice none 0 0, .int .u32 0, .int .i64 0, .int .u32 0] 25)) w.heap.size zeroP (.slice none 0 0) := by constructor <;> simp [go_sem, zeroP]
  have hbW : Below w.heap.size w (w.alloc (.cells #[.int .i64 0, .int .u32 0, .int .i64 0, .slice none 0 0, .int .u32 0, .int .i64 0, .int .u32 0] 25)) := (Below.refl _ _).alloc (Nat.le_refl _) _
  have HB := Lib.hid hB
  have HBW := Lib.hid hbW
  clear hB hbW
  have fin0 : ∀ (W : World) (k : Int), W = w.alloc (.cells #[.int .i64 0, .int .u32 0, .int .i64 0, .slice none 0 0, .int .u32 0, .int .i64 0, .int .u32 0] 25) → defErr mPrime n p e lv = k → k ≠ 0 →
      W.cell? ⟨w.heap.size, 0, none⟩ = some (.int .i64 0) ∧ W.cell? ⟨w.heap.size, 1, none⟩ = some (.int .u32 0) ∧ W.cell? ⟨w.heap.size, 2, none⟩ = some (.int .i64 0) ∧ W.cell? ⟨w.heap.size, 3, none⟩ = some (.slice none 0 0) ∧ W.cell? ⟨w.heap.size, 4, none⟩ = some (.int .u32 0) ∧ W.cell? ⟨w.heap.size, 5, none⟩ = some (.int .i64 0) ∧ W.cell? ⟨w.heap.size, 6, none⟩ = some (.int .u32 0) := by
    rintro W k rfl _ _
    exact ⟨HB.out.n, HB.out.p, HB.out.r, HB.out.ch, HB.out.sp, HB.out.wt, HB.out.er⟩
  have FIN0 := Lib.hid fin0
  clear fin0
  cases hn : isDim n with
  | false =>
    have HN := Lib.hid hn
    have HK : Hid (defErr mPrime n p e lv = 2) := by show _ = _; unfold defErr; rw [if_pos (.inl hn)]
    clear hn
    go_enter Tryd.func10, Tryd.ntmps10
    go_wp2_with (go_at_call 17; refine (pdim_any _ _ hn0 hn1).mono ?_; rintro e w1 ⟨rfl, rfl⟩; rw [HN.out])
    obtain ⟨r0, r1, r2, r3, r4, r5, r6⟩ := FIN0.out _ _ rfl HK.out (by decide)
    refine bodyPost_ret (v := .tuple #[.agg #[.int .i64 0, .int .u32 0, .int .i64 0, .slice none 0 0, .int .u32 0, .int .i64 0, .int .u32 0], .int .i64 2]) (by simp [results, Tryd.results10, go_sem, r0, r1, r2, r3, r4, r5, r6]) rfl (def_zero' HBW.out HK.out (by decide) rfl)
  | true =>
  by_cases hlv : 1 ≤ lv ∧ lv ≤ 24
  case neg =>
    have HN := Lib.hid hn
    have HK : Hid (defErr mPrime n p e lv = 2) := by
      show _ = _; unfold defErr; rw [if_pos (by rcases Classical.em (lv < 1) with h | h; exact .inr (.inl h); exact .inr (.inr (.inl (by omega))))]
    clear hn
    by_cases h1 : lv < 1
    · have d1 : decide (lv < 1) = true := decide_eq_true h1
      go_enter Tryd.func10, Tryd.ntmps10
      go_wp2_with (go_at_call 17; refine (pdim_any _ _ hn0 hn1).mono ?_; rintro e w1 ⟨rfl, rfl⟩; rw [HN.out])
      obtain ⟨r0, r1, r2, r3, r4, r5, r6⟩ := FIN0.out _ _ rfl HK.out (by decide)
      refine bodyPost_ret (v := .tuple #[.agg #[.int .i64 0, .int .u32 0, .int .i64 0, .slice none 0 0, .int .u32 0, .int .i64 0, .int .u32 0], .int .i64 2]) (by simp [results, Tryd.results10, go_sem, r0, r1, r2, r3, r4, r5, r6]) rfl (def_zero' HBW.out HK.out (by decide) rfl)
    · have d1 : decide (lv < 1) = false := decide_eq_false h1
      have d2 : decide (24 < lv) = true := decide_eq_true (by omega)
      go_enter Tryd.func10, Tryd.ntmps10
      go_wp2_with (go_at_call 17; refine (pdim_any _ _ hn0 hn1).mono ?_; rintro e w1 ⟨rfl, rfl⟩; rw [HN.out])
      obtain ⟨r0, r1, r2, r3, r4, r5, r6⟩ := FIN0.out _ _ rfl HK.out (by decide)
      refine bodyPost_ret (v := .tuple #[.agg #[.int .i64 0, .int .u32 0, .int .i64 0, .slice none 0 0, .int .u32 0, .int .i64 0, .int .u32 0], .int .i64 2]) (by simp [results, Tryd.results10, go_sem, r0, r1, r2, r3, r4, r5, r6]) rfl (def_zero' HBW.out HK.out (by decide) rfl)
  obtain ⟨hlv1, hlv2⟩ := hlv
  obtain ⟨N, rfl⟩ : ∃ N : Nat, n = N := ⟨n.toNat, by have := isDim_cases hn; omega⟩
  obtain ⟨L, rfl⟩ : ∃ L : Nat, lv = L := ⟨lv.toNat, by omega⟩
  have hN4 : 4 ≤ N := by have := isDim_cases hn; omega
  have hN32 : N ≤ 32 := by have := isDim_cases hn; omega
  have HN := Lib.hid hn
  clear hn
  obtain ⟨t, ht⟩ : ∃ t : Nat, t = powv mPrime N p e := ⟨_, rfl⟩
  by_cases ht0 : t = 0
  · have HK : Hid (defErr mPrime N p e L = 2) := by
      show _ = _; unfold defErr; rw [if_pos (.inr (.inr (.inr (by rw [← ht]; exact ht0))))]
    have d1 : decide ((L : Int) < 1) = false := decide_eq_false (by omega)
    have d2 : decide ((24 : Int) < L) = false := decide_eq_false (by omega)
    have hpl := Lib.hid (ppower_any N p e (w.alloc (.cells #[.int .i64 0, .int .u32 0, .int .i64 0, .slice none 0 0, .int .u32 0, .int .i64 0, .int .u32 0] 25)) (by omega) (by omega) hp he0 he1)
    rw [← ht, ht0] at hpl
    clear ht
    go_enter Tryd.func10, Tryd.ntmps10
    go_wp2_with (go_at_call 17; refine (pdim_any _ _ hn0 hn1).mono ?_; rintro e w1 ⟨rfl, rfl⟩; rw [HN.out])
    refine hpl.out.mono ?_
    rintro r w1 ⟨rfl, hb1⟩
    have hbk : Blk w1 w.heap.size [.int .i64 0, .int .u32 0, .int .i64 0, .slice none 0 0, .int .u32 0, .int .i64 0, .int .u32 0] 25 := by
      have h := Blk.new w #[.int .i64 0, .int .u32 0, .int .i64 0, .slice none 0 0, .int .u32 0, .int .i64 0, .int .u32 0] 25
      exact Blk.below (by simpa using h) hb1 h.lt
    have HBB := Lib.hid (HBW.out.trans (hb1.mono HBW.out.size))
    have HBK := Lib.hid hbk
    clear hb1 hbk
    go_wp2_with (refine wpList_store_row rfl 25 _ _ rfl w.heap.size rfl 25 _ _ rfl HBK.out infoP rfl (by decide +kernel) ?_)
    have hR := BoxP.ofBlk (x := zeroP) (HBK.out.row [.int .i64 0, .int .u32 0, .int .i64 0, .slice none 0 0, .int .u32 0, .int .i64 0, .int .u32 0])
    have r0 := hR.n; have r1 := hR.p; have r2 := hR.r; have r3 := hR.ch; have r4 := hR.sp; have r5 := hR.wt; have r6 := hR.er
    refine bodyPost_ret (v := .tuple #[.agg #[.int .i64 0, .int .u32 0, .int .i64 0, .slice none 0 0, .int .u32 0, .int .i64 0, .int .u32 0], .int .i64 2]) (by simp [results, Tryd.results10, go_sem, r0, r1, r2, r3, r4, r5, r6, zeroP]) rfl (def_zero' (below_row HBB.out (Nat.le_refl _) _) HK.out (by decide) rfl)
  have ht1 : ((t : Int) == 0) = false := beq_eq_false_iff_ne.2 (by omega)
  have htb : 3 ≤ t ∧ t ≤ 2147483647 ∧ t % 2 = 1 := by
    have h1 := powv_le mPrime N p e
    have h2 := powv_odd (pr := mPrime) (n := N) (p := p) (e := e) (by omega) (by rw [← ht]; exact ht0)
    rw [← ht] at h1 h2
    exact ⟨h2.1, h1, h2.2.1⟩
  obtain ⟨ht3, htm, hto⟩ := htb
  have hNt : N * t ≤ 32 * 2147483647 := Nat.mul_le_mul hN32 htm
  obtain ⟨s, hs⟩ : ∃ s : Nat, s = 2 * N * t := ⟨_, rfl⟩
  have hs2 : s = 2 * (N * t) := by rw [hs, Nat.mul_assoc]
  have hsb : s ≤ 137438953472 := by omega
  have hs0 : 0 < s := by have : 4 * 3 ≤ N * t := Nat.mul_le_mul hN4 ht3; omega
  have hwt : IntKind.u32.wrap (t : Int) = t := by simp [IntKind.wrap, IntKind.bits, IntKind.signed]; omega
  have HS := Lib.hid hs
  have HT := Lib.hid ht
  clear hs hs2 ht
  have HNEG : Hid (¬ (isDim (N : Int) = false ∨ (L : Int) < 1 ∨ 24 < (L : Int) ∨ powv mPrime N p e = 0)) := by
    rintro (h | h | h | h)
    · rw [HN.out] at h; cases h
    · omega
    · omega
    · rw [← HT.out] at h; exact ht0 h
  have hpl := Lib.hid (ppower_any N p e (w.alloc (.cells #[.int .i64 0, .int .u32 0, .int .i64 0, .slice none 0 0, .int .u32 0, .int .i64 0, .int .u32 0] 25)) (by omega) (by omega) hp he0 he1)
  rw [← HT.out] at hpl
  have d1 : decide ((L : Int) < 1) = false := decide_eq_false (by omega)
  have d2 : decide ((24 : Int) < L) = false := decide_eq_false (by omega)
  go_enter Tryd.func10, Tryd.ntmps10
  go_wp2_with (go_at_call 17; refine (pdim_any _ _ hn0 hn1).mono ?_; rintro e w1 ⟨rfl, rfl⟩; rw [HN.out])
  refine hpl.out.mono ?_
  rintro r0 w1 ⟨rfl, hb1⟩
  have hbk1 : Hid (Blk w1 w.heap.size [.int .i64 0, .int .u32 0, .int .i64 0, .slice none 0 0, .int .u32 0, .int .i64 0, .int .u32 0] 25) := by
    have h := Blk.new w #[.int .i64 0, .int .u32 0, .int .i64 0, .slice none 0 0, .int .u32 0, .int .i64 0, .int .u32 0] 25
    exact Blk.below (by simpa using h) hb1 h.lt
  have hbw1 : Hid (Below w.heap.size w w1) := HBW.out.trans (hb1.mono HBW.out.size)
  clear hb1 HBW HB FIN0
  go_wp2_with fail
  rw [show ((L : Int) + 1) = ((L + 1 : Nat) : Int) by simp]
  refine (chain_any N t (L + 1) s _ HN.out hN4 hN32 ht3 htm hto (by omega) (by omega) HS.out).mono ?_
  rintro r W ⟨hb, ⟨hlen, rfl⟩ | ⟨hlen, v, rfl, hsl⟩⟩
  · have hK : Hid (defErr mPrime N p e L = 4) := by
      show _ = _
      unfold defErr
      rw [if_neg HNEG.out, if_pos (.inr (by unfold defStep; rw [← HT.out, Int.toNat_natCast, ← HS.out, Int.toNat_natCast]; exact hlen))]
    have hbk : Blk W w.heap.size [.int .i64 0, .int .u32 0, .int .i64 0, .slice none 0 0, .int .u32 0, .int .i64 0, .int .u32 0] 25 := by
      exact Blk.below hbk1.out hb hbk1.out.lt
    have HBB := Lib.hid (hbw1.out.trans (hb.mono hbw1.out.size))
    have HBK := Lib.hid hbk
    clear hb hlen hbk
    go_wp2_with (refine wpList_store_row rfl 25 _ _ rfl w.heap.size rfl 25 _ _ rfl HBK.out infoP rfl (by decide +kernel) ?_)
    have hR := BoxP.ofBlk (x := zeroP) (HBK.out.row [.int .i64 0, .int .u32 0, .int .i64 0, .slice none 0 0, .int .u32 0, .int .i64 0, .int .u32 0])
    have r0 := hR.n; have r1 := hR.p; have r2 := hR.r; have r3 := hR.ch; have r4 := hR.sp; have r5 := hR.wt; have r6 := hR.er
    refine bodyPost_ret (v := .tuple #[.agg #[.int .i64 0, .int .u32 0, .int .i64 0, .slice none 0 0, .int .u32 0, .int .i64 0, .int .u32 0], .int .i64 4]) (by simp [results, Tryd.results10, go_sem, r0, r1, r2, r3, r4, r5, r6, zeroP]) rfl (def_zero' (below_row HBB.out (Nat.le_refl _) _) hK.out (by decide) rfl)
  · have hK : Hid (defErr mPrime N p e L = 0) := by
      show _ = _
      unfold defErr
      rw [if_neg HNEG.out, if_neg (by
        unfold defStep; rw [← HT.out, Int.toNat_natCast, ← HS.out, Int.toNat_natCast]
        rintro (h | h)
        · rw [chain_big h] at hlen; simp at hlen
        · omega)]
    have hP : Hid (defPar mPrime N p e L = { n := N, p := p, r := e, ch := (chainOf mPrime s (L + 1)).tail, sp := (chainOf mPrime s (L + 1)).headD 0, wt := 4, er := 2 }) := by
      show _ = _
      unfold defPar
      rw [if_pos hK.out]
      unfold defStep
      rw [← HT.out, Int.toNat_natCast, ← HS.out, Int.toNat_natCast]
    have hbk : Blk W w.heap.size [.int .i64 0, .int .u32 0, .int .i64 0, .slice none 0 0, .int .u32 0, .int .i64 0, .int .u32 0] 25 := by
      exact Blk.below hbk1.out hb hbk1.out.lt
    have HBB := Lib.hid (hbw1.out.trans (hb.mono hbw1.out.size))
    have HBK := Lib.hid hbk
    obtain ⟨C, hC⟩ : ∃ C, C = chainOf mPrime s (L + 1) := ⟨_, rfl⟩
    rw [← hC] at hlen hsl hP
    have hlt := fun q (h : q ∈ C) => (show 1073741824 < q ∧ q < 4294967296 by rw [hC] at h; have := chainOf_lt h; omega)
    clear hC hb hbk
    obtain ⟨pa, cap, rfl, hcap, _, hrow⟩ := hsl
    rw [hlen] at hcap
    match C, hlen, hrow, hlt, hP with
    | q :: C', hlen, hrow, hlt, hP =>
      obtain ⟨b, off, rfl, hr⟩ := hrow (by simp)
      have hr0 := hr.cell 0 (by simp)
      rw [Nat.add_zero, List.getElem_cons_zero] at hr0
      have hq := (hlt q (by simp)).2
      have hbg : Hid (b ≠ w.heap.size) := by
        intro h
        rw [h, HBK.out.get off] at hr0
        have h1 := List.mem_of_getElem? hr0
        have h2 := (hlt q (by simp)).1
        simp at h1
        omega
      have hR := Lib.hid hr
      have HL := Lib.hid hlen
      have hlen2 : C'.length = L := by simpa using hlen
      have hl3 : (q :: C').length = L + 1 := hlen
      clear hr hrow hlt hlen
      subst hlen2
      go_wp2_with fail
      have z0 : W.cell? ⟨w.heap.size, 0, none⟩ = some (.int .i64 0) := HBK.out.cell 0 (by simp)
      have y0 : W.frozen? ⟨w.heap.size, 0, none⟩ = false := HBK.out.free 0
      have z1 : W.cell? ⟨w.heap.size, 1, none⟩ = some (.int .u32 0) := HBK.out.cell 1 (by simp)
      have y1 : W.frozen? ⟨w.heap.size, 1, none⟩ = false := HBK.out.free 1
      have z2 : W.cell? ⟨w.heap.size, 2, none⟩ = some (.int .i64 0) := HBK.out.cell 2 (by simp)
      have y2 : W.frozen? ⟨w.heap.size, 2, none⟩ = false := HBK.out.free 2
      have z3 : W.cell? ⟨w.heap.size, 3, none⟩ = some (.slice none 0 0) := HBK.out.cell 3 (by simp)
      have y3 : W.frozen? ⟨w.heap.size, 3, none⟩ = false := HBK.out.free 3
      have z4 : W.cell? ⟨w.heap.size, 4, none⟩ = some (.int .u32 0) := HBK.out.cell 4 (by simp)
      have y4 : W.frozen? ⟨w.heap.size, 4, none⟩ = false := HBK.out.free 4
      have z5 : W.cell? ⟨w.heap.size, 5, none⟩ = some (.int .i64 0) := HBK.out.cell 5 (by simp)
      have y5 : W.frozen? ⟨w.heap.size, 5, none⟩ = false := HBK.out.free 5
      have z6 : W.cell? ⟨w.heap.size, 6, none⟩ = some (.int .u32 0) := HBK.out.cell 6 (by simp)
      have y6 : W.frozen? ⟨w.heap.size, 6, none⟩ = false := HBK.out.free 6
      go_region
      have h7 := set7_ok HBK.out HBB.out (Nat.le_refl _) (.int .i64 (N : Int)) (.int .u32 (p : Nat)) (.int .i64 e) (.slice (some ⟨b, off + 1, none⟩) C'.length (cap - 1)) (.int .u32 (q : Nat)) (.int .i64 4) (.int .u32 2)
      generalize (((((((W.setCell ⟨w.heap.size, 0, none⟩ (.int .i64 (N : Int))).setCell ⟨w.heap.size, 1, none⟩ (.int .u32 (p : Nat))).setCell ⟨w.heap.size, 2, none⟩ (.int .i64 e)).setCell ⟨w.heap.size, 3, none⟩ (.slice (some ⟨b, off + 1, none⟩) C'.length (cap - 1))).setCell ⟨w.heap.size, 4, none⟩ (.int .u32 (q : Nat))).setCell ⟨w.heap.size, 5, none⟩ (.int .i64 4)).setCell ⟨w.heap.size, 6, none⟩ (.int .u32 2)).drew = W2 at h7 ⊢
      obtain ⟨hF, hbF, hsm⟩ := h7
      have hsame := Lib.hid (hsm b hbg.out)
      have HBF := Lib.hid hbF
      clear hsm hbF
      have hR7 : BoxP W2 w.heap.size { n := N, p := p, r := e, ch := C', sp := q, wt := 4, er := 2 } (.slice (some ⟨b, off + 1, none⟩) C'.length (cap - 1)) := BoxP.ofBlk hF
      have k0 : W2.cell? ⟨w.heap.size, 0, none⟩ = some (.int .i64 (N : Int)) := hR7.n
      have k1 : W2.cell? ⟨w.heap.size, 1, none⟩ = some (.int .u32 (p : Nat)) := hR7.p
      have k2 : W2.cell? ⟨w.heap.size, 2, none⟩ = some (.int .i64 e) := hR7.r
      have k3 : W2.cell? ⟨w.heap.size, 3, none⟩ = some (.slice (some ⟨b, off + 1, none⟩) C'.length (cap - 1)) := hR7.ch
      have k4 : W2.cell? ⟨w.heap.size, 4, none⟩ = some (.int .u32 (q : Nat)) := hR7.sp
      have k5 : W2.cell? ⟨w.heap.size, 5, none⟩ = some (.int .i64 4) := hR7.wt
      have k6 : W2.cell? ⟨w.heap.size, 6, none⟩ = some (.int .u32 2) := hR7.er
      clear hR7 hF
      go_wp2_with fail
      refine bodyPost_ret (v := .tuple #[.agg #[.int .i64 (N : Int), .int .u32 (p : Nat), .int .i64 e, .slice (some ⟨b, off + 1, none⟩) C'.length (cap - 1), .int .u32 (q : Nat), .int .i64 4, .int .u32 2], .int .i64 0]) (by simp [results, Tryd.results10, go_sem, k0, k1, k2, k3, k4, k5, k6]) rfl ?_
      refine ⟨HBF.out, .slice (some ⟨b, off + 1, none⟩) C'.length (cap - 1), ?_, ?_⟩
      · rw [hP.out, hK.out]; rfl
      · rw [hP.out]
        exact ⟨_, cap - 1, rfl, by show C'.length ≤ cap - 1; omega, by show C'.length ≤ 140737488351232; omega, fun _ => ⟨b, off + 1, rfl, (hR.out.tail).same hsame.out⟩⟩
end Go.Proofs.YtjfjbkocopaehaaDoor
