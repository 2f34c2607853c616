/- primes.Chain. -/
import Derived.Test.YtjfjbkocopaehaaDefA
import Derived.WalkMore
namespace Go.Proofs.Ytjfjbkocopaehaa
open Go.RowKit Go.Shelf
attribute [local go_sem] Oper.semAt_some

theorem pdim3_any (n : Int) (w : World) :
    Calls Try.prog 77 #[.int .i64 n] w fun r w' => r = .returned (.bool (isDim n)) ∧ w = w' := by
  have hR : Hid (isDim n = (n == 4 || (n == 8 || (n == 16 || n == 32)))) := by show _ = _; unfold isDim; simp only [Bool.or_assoc]
  cases h4 : (n == 4) with
  | true =>
    go_enter Try.func77, Try.ntmps77
    go_wp2_with fail
    go_ret
    exact ⟨ret_bool (by rw [hR.out, h4]; rfl), rfl⟩
  | false =>
  cases h8 : (n == 8) with
  | true =>
    go_enter Try.func77, Try.ntmps77
    go_wp2_with fail
    go_ret
    exact ⟨ret_bool (by rw [hR.out, h4, h8]; rfl), rfl⟩
  | false =>
  cases h16 : (n == 16) with
  | true =>
    go_enter Try.func77, Try.ntmps77
    go_wp2_with fail
    go_ret
    exact ⟨ret_bool (by rw [hR.out, h4, h8, h16]; rfl), rfl⟩
  | false =>
  cases h32 : (n == 32) with
  | true =>
    go_enter Try.func77, Try.ntmps77
    go_wp2_with fail
    go_ret
    exact ⟨ret_bool (by rw [hR.out, h4, h8, h16, h32]; rfl), rfl⟩
  | false =>
    go_enter Try.func77, Try.ntmps77
    go_wp2_with fail
    go_ret
    exact ⟨ret_bool (by rw [hR.out, h4, h8, h16, h32]; rfl), rfl⟩

theorem down_any (l s : Nat) (w : World) :
    Calls Try.prog 78 #[.int .u64 l, .int .u64 s] w fun r w' => r = .returned (.func (.func 101) #[] #[.pointer (some ⟨w.heap.size, 0, none⟩), .pointer (some ⟨w.heap.size + 1, 0, none⟩)]) ∧ (w.alloc (.cells #[.int .u64 l] 105)).alloc (.cells #[.int .u64 s] 105) = w' := by
  go_enter Try.func78, Try.ntmps78
  go_wp2_with fail
  go_ret
  exact ⟨rfl, rfl⟩

/-! What the loop has seen. -/
def ChP (c : Nat) (l : List Nat) : Prop := (∀ q, q ∈ l → 1073741824 < q) ∧ (l.filter mPrime).length < c
def ChFail (c : Nat) (l : List Nat) : Prop := ∃ r q, l = r ++ [q] ∧ ChP c r ∧ q ≤ 1073741824
def ChRet (c : Nat) (l : List Nat) : Prop := ∃ r q, l = r ++ [q] ∧ ChP c r ∧ 1073741824 < q ∧ mPrime q = true ∧ (l.filter mPrime).length = c

theorem ch_done {s c K : Nat} {l : List Nat} (h : l = downL s K) (hp : ChP c l) : (chainGo mPrime s K c).length < c := by
  obtain ⟨j, h1, h2⟩ := chainGo_pre l [] K c (by simpa using h) hp.1 hp.2
  have : j = 0 := by have := congrArg List.length h1; rw [downL_len] at this; simpa using this.symm
  subst this
  rw [h2]; simp [chainGo]; exact hp.2
theorem ch_fail {s c K : Nat} {l : List Nat} (h : l <+: downL s K) (hp : ChFail c l) : (chainGo mPrime s K c).length < c := by
  obtain ⟨r, q, rfl, h1, h2⟩ := hp
  obtain ⟨e, he⟩ := h
  obtain ⟨j, h3, h4⟩ := chainGo_pre r (q :: e) K c (by rw [← he]; simp) h1.1 h1.2
  rw [h4]
  cases j with
  | zero => simp [downL] at h3
  | succ j =>
    simp only [downL, List.cons.injEq] at h3
    rw [chainGo_stop (by rw [← h3.1]; omega), List.append_nil]; exact h1.2
theorem ch_ret {s c K : Nat} {l : List Nat} (h : l <+: downL s K) (hp : ChRet c l) : chainGo mPrime s K c = l.filter mPrime ∧ (l.filter mPrime).length = c := by
  obtain ⟨r, q, rfl, h1, h2, h3, h4⟩ := hp
  obtain ⟨e, he⟩ := h
  obtain ⟨j, h5, h6⟩ := chainGo_pre r (q :: e) K c (by rw [← he]; simp) h1.1 h1.2
  refine ⟨?_, h4⟩
  rw [h6]
  rw [List.filter_append, List.filter_cons_of_pos h3] at h4 ⊢
  simp only [List.filter_nil, List.length_append, List.length_cons, List.length_nil] at h4
  cases j with
  | zero => simp [downL] at h5
  | succ j =>
    simp only [downL, List.cons.injEq] at h5
    rw [chainGo_yes (by rw [← h5.1]; exact h2) (by omega) (by rw [← h5.1]; exact h3), ← h5.1, chainGo_stop (by omega)]; rfl
theorem chp_snoc {c q : Nat} {l : List Nat} (h : ChP c l) (hq : 1073741824 < q) (hp : mPrime q = false) : ChP c (l ++ [q]) := by
  refine ⟨fun x hx => ?_, ?_⟩
  · rcases List.mem_append.1 hx with h1 | h1
    · exact h.1 x h1
    · simp at h1; subst h1; exact hq
  · rw [List.filter_append, List.filter_cons_of_neg (by rw [hp]; simp)]; simpa using h.2
theorem chp_snoc' {c q : Nat} {l : List Nat} (h : ChP c l) (hq : 1073741824 < q) (hp : mPrime q = true) (hc : (l.filter mPrime).length + 1 ≠ c) : ChP c (l ++ [q]) := by
  refine ⟨fun x hx => ?_, ?_⟩
  · rcases List.mem_append.1 hx with h1 | h1
    · exact h.1 x h1
    · simp at h1; subst h1; exact hq
  · have := h.2
    rw [List.filter_append, List.filter_cons_of_pos hp]; simp; omega
/-- The primes among what has come. -/
def mp (pre : List Word) : List Nat := (vals pre).filter mPrime
theorem mp_hit (pre : List Word) (x : Word) (h : mPrime x.1 = true) : mp (pre ++ [x]) = mp pre ++ [x.1] := by unfold mp; rw [vals_snoc, List.filter_append, List.filter_cons_of_pos h]; rfl
theorem mp_miss (pre : List Word) (x : Word) (h : mPrime x.1 = false) : mp (pre ++ [x]) = mp pre := by unfold mp; rw [vals_snoc, List.filter_append, List.filter_cons_of_neg (by rw [h]; simp)]; simp
theorem mp_lt {pre : List Word} : ∀ q, q ∈ mp pre → q < 4294967296 := by
  intro q hq
  obtain ⟨x, _, rfl⟩ := List.mem_map.1 (List.mem_filter.1 hq).1
  exact x.2

/-- The boxes that the loop reads, or leaves. -/
structure ChB (W : World) (b c s : Nat) : Prop where
  k : Boxed W b 3 (.int .i64 c)
  r : Boxed W (b + 1) 23 (.slice none 0 0)
  e : Boxed W (b + 1 + 1) 30 (.int .i64 0)
  s : Boxed W (b + 1 + 1 + 1 + 1 + 1) 105 (.int .u64 s)
theorem chB_own {β : Type} (b c s : Nat) : Own (fun (_ : β) W => ChB W b c s) := fun x W W' row h hg hr =>
  ⟨boxed_own (β := β) _ _ (fun _ => _) x W W' row h.k hg hr, boxed_own (β := β) _ _ (fun _ => _) x W W' row h.r hg hr, boxed_own (β := β) _ _ (fun _ => _) x W W' row h.e hg hr, boxed_own (β := β) _ _ (fun _ => _) x W W' row h.s hg hr⟩
/-- How the loop is left early. -/
def ChX (b c : Nat) (cd : Code) (pre : List Word) (W : World) : Prop :=
  (cd = .exit 0 ∧ ChFail c (vals pre) ∧ Boxed W (b + 1) 23 (.slice none 0 0) ∧ Boxed W (b + 1 + 1) 30 (.int .i64 0)) ∨
  (cd = .ret ∧ ChRet c (vals pre) ∧ (∃ v, Boxed W (b + 1) 23 v ∧ W.ownsRow b 22 1 v (mp pre).length (u32s (mp pre)) ∧ True) ∧ Boxed W (b + 1 + 1) 30 (.int .i64 0))
theorem chX_own (b c : Nat) (cd : Code) : Own (ChX b c cd) := by
  intro x W W' row h hg hr
  rcases h with ⟨h1, h2, h3, h4⟩ | ⟨h1, h2, h3, h4⟩
  · exact .inl ⟨h1, h2, boxed_own (β := List Word) _ _ (fun _ => _) x W W' row h3 hg hr, boxed_own (β := List Word) _ _ (fun _ => _) x W W' row h4 hg hr⟩
  · exact .inr ⟨h1, h2, holdsRow_own b (b + 1) 23 22 1 (fun pre => (mp pre).length) (fun pre => u32s (mp pre)) (fun _ _ => True) x W W' row h3 hg hr, boxed_own (β := List Word) _ _ (fun _ => _) x W W' row h4 hg hr⟩

theorem boxed_below {W w1 : World} {B : Nat} {t : TypeId} {v : Value} (h : Boxed W B t v) (hb : Below W.heap.size W w1) : Boxed w1 B t v := (hb.block B h.lt).trans h
theorem owns_below {W w1 : World} {base size n : Nat} {e : TypeId} {v : Value} {xs : List Value} (h : W.ownsRow base e size v n xs) (hb : Below W.heap.size W w1) : w1.ownsRow base e size v n xs := by
  refine ⟨h.1, ?_⟩
  rcases h.2 with ⟨rfl, h0⟩ | ⟨g, cap, cur, rfl, hg, hh, h5⟩
  · exact .inl ⟨rfl, h0⟩
  · exact .inr ⟨g, cap, cur, rfl, hg, (hb.block g (lt_of_block hh)).trans hh, h5⟩
theorem keeps_below {W w1 : World} (hb : Below W.heap.size W w1) : KeepsOthers W w1 :=
  ⟨hb.size, fun k _ hk _ => (hb.block k (Array.getElem?_eq_some_iff.1 hk).1).trans hk⟩
theorem ChB.below {W w1 : World} {b c s : Nat} (h : ChB W b c s) (hb : Below W.heap.size W w1) : ChB w1 b c s := ⟨boxed_below h.k hb, boxed_below h.r hb, boxed_below h.e hb, boxed_below h.s hb⟩
/-- A box beside an appended row. -/
theorem boxed_appended {W w1 : World} {n₀ B k : Nat} {t : TypeId} {v u : Value} {xs : List Value} {tmp : Obj} (hu : Boxed W B t u) (hte : t ≠ 22) (hrow : W.ownsRow n₀ 22 1 v k xs) (hgrow : (W.alloc tmp).grownBy w1 v.ownBlock) : Boxed w1 B t u :=
  (hu.alloc tmp).kept hgrow (hu.not_row hte hrow)
theorem owns_set {W : World} {n₀ B k : Nat} {t : TypeId} {v u u' : Value} {xs : List Value} (hu : Boxed W B t u) (hte : t ≠ 22) (hrow : W.ownsRow n₀ 22 1 v k xs) : (W.setCell ⟨B, 0, none⟩ u').ownsRow n₀ 22 1 v k xs :=
  hrow.kept (grownBy_setCell' W B u') (.inr (hu.not_row hte hrow).symm)

set_option maxHeartbeats 2000000 in
set_option maxRecDepth 100000 in
theorem chain_any (N t c s : Nat) (w : World) (hN : isDim (N : Int) = true) (hN4 : 4 ≤ N) (hN32 : N ≤ 32) (ht3 : 3 ≤ t) (ht : t ≤ 2147483647) (hodd : t % 2 = 1) (hc1 : 1 ≤ c) (hc2 : c ≤ 25) (hs : s = 2 * N * t) :
    Calls Try.prog 51 #[.int .i64 N, .int .u32 t, .int .i64 c] w fun r w' => chainRet w w' (chainOf mPrime s c) c r := by
  have d1 : decide ((t : Int) < 3) = false := decide_eq_false (by omega)
  have d2 : ((t : Int) % 2 == 0) = false := beq_eq_false_iff_ne.2 (by omega)
  have d3 : decide ((2147483647 : Int) < t) = false := decide_eq_false (by omega)
  have d4 : decide ((c : Int) < 1) = false := decide_eq_false (by omega)
  have d5 : decide ((25 : Int) < c) = false := decide_eq_false (by omega)
  have hNt : N * t ≤ 32 * 2147483647 := Nat.mul_le_mul hN32 ht
  have hNt0 : 4 * 3 ≤ N * t := Nat.mul_le_mul hN4 ht3
  have hs2 : s = 2 * (N * t) := by rw [hs, Nat.mul_assoc]
  have hs0 : 0 < s := by omega
  have hsb : s ≤ 137438953472 := by omega
  have hwr : IntKind.u64.wrap ((2 : Int) * (N : Int) * (t : Int)) = s := by
    rw [show (2 : Int) * (N : Int) * (t : Int) = s by rw [hs2, Int.mul_assoc]; simp]
    simp [IntKind.wrap, IntKind.bits, IntKind.signed]; omega
  have hS := Lib.hid hs
  have HS2 := Lib.hid hs2
  clear hs hs2
  obtain ⟨i0, hi0, hz0, hz1, hz2⟩ := info_parts infoU32
  have HN := Lib.hid hN
  clear hN
  obtain ⟨K, hK⟩ : ∃ K : Nat, K = 2147483646 / s := ⟨_, rfl⟩
  have HK := Lib.hid hK
  have HT : Hid (chainOf mPrime s c = chainGo mPrime s K c) := by show _ = _; unfold chainOf; rw [hK]
  clear hK
  have HLT : Hid (∀ q, q ∈ chainOf mPrime s c → 1073741824 < q ∧ q ≤ 2147483647 ∧ mPrime q = true ∧ ∃ j, q = j * s + 1) := fun q h => chainOf_lt h
  have HLL : Hid ((chainOf mPrime s c).length ≤ c) := chainGo_len _ _ _ _
  refine (callsIn_wide (n := 9)).1 ?_
  refine callsIn_of_wp_marks Try.func51 rfl trivial ?_ rfl
  simp only [Try.ntmps51, List.size_toArray, List.length_cons, List.length_nil, Nat.reduceAdd, Nat.reduceSub, Array.replicate_succ, Array.replicate_zero, List.push_toArray, List.append_toArray, List.nil_append, List.cons_append]
  gi_wp2
  refine wpIn_wide.2 (wp_scope_straight ((wpIn_wide (n := 9)).1 ?_))
  gi_wp2_with (first | (refine ⟨trivial, ?_⟩; gi_at_call 77; refine (callsIn_wide.2 (pdim3_any _ _)).mono ?_; rintro e w1 ⟨rfl, rfl⟩; rw [HN.out]) | exact wpIn_label ?_ | refine wpIn_label ?_ | (refine ⟨trivial, ?_⟩; gi_at_call 78; refine (callsIn_wide.2 (down_any 2147483648 s _)).mono ?_; rintro e w1 ⟨rfl, rfl⟩))
  have hsz0 : ((((((w.alloc (.cells #[.int .i64 c] 3)).alloc (.cells #[.slice none 0 0] 23)).alloc (.cells #[.int .i64 0] 30)).alloc (.cells #[.slice none 0 0] 23)).alloc (.cells #[.int .u64 2147483648] 105)).alloc (.cells #[.int .u64 s] 105)).heap.size = w.heap.size + 1 + 1 + 1 + 1 + 1 + 1 := by simp
  have hbel0 : Below w.heap.size w ((((((w.alloc (.cells #[.int .i64 c] 3)).alloc (.cells #[.slice none 0 0] 23)).alloc (.cells #[.int .i64 0] 30)).alloc (.cells #[.slice none 0 0] 23)).alloc (.cells #[.int .u64 2147483648] 105)).alloc (.cells #[.int .u64 s] 105)) := ((((((Below.refl _ w).alloc (Nat.le_refl _) _).alloc (by simp) _).alloc (by simp; omega) _).alloc (by simp; omega) _).alloc (by simp; omega) _).alloc (by simp; omega) _
  have hl0 : ((((((w.alloc (.cells #[.int .i64 c] 3)).alloc (.cells #[.slice none 0 0] 23)).alloc (.cells #[.int .i64 0] 30)).alloc (.cells #[.slice none 0 0] 23)).alloc (.cells #[.int .u64 2147483648] 105)).alloc (.cells #[.int .u64 s] 105)).cell? ⟨w.heap.size + 1 + 1 + 1 + 1, 0, none⟩ = some (.int .u64 2147483648) := by simp [go_sem]
  have hB0 : ChB ((((((w.alloc (.cells #[.int .i64 c] 3)).alloc (.cells #[.slice none 0 0] 23)).alloc (.cells #[.int .i64 0] 30)).alloc (.cells #[.slice none 0 0] 23)).alloc (.cells #[.int .u64 2147483648] 105)).alloc (.cells #[.int .u64 s] 105)) w.heap.size c s := by
    have z1 : (w.alloc (.cells #[.int .i64 c] 3)).heap.size = w.heap.size + 1 := by simp
    have z2 : ((w.alloc (.cells #[.int .i64 c] 3)).alloc (.cells #[.slice none 0 0] 23)).heap.size = w.heap.size + 1 + 1 := by simp
    have z5 : (((((w.alloc (.cells #[.int .i64 c] 3)).alloc (.cells #[.slice none 0 0] 23)).alloc (.cells #[.int .i64 0] 30)).alloc (.cells #[.slice none 0 0] 23)).alloc (.cells #[.int .u64 2147483648] 105)).heap.size = w.heap.size + 1 + 1 + 1 + 1 + 1 := by simp
    refine ⟨(((((Boxed.new w _ _).alloc _).alloc _).alloc _).alloc _).alloc _, ?_, ?_, ?_⟩
    · rw [← z1]; exact ((((Boxed.new _ _ _).alloc _).alloc _).alloc _).alloc _
    · rw [← z2]; exact (((Boxed.new _ _ _).alloc _).alloc _).alloc _
    · rw [← z5]; exact Boxed.new _ _ _
  have hO0 : Boxed ((((((w.alloc (.cells #[.int .i64 c] 3)).alloc (.cells #[.slice none 0 0] 23)).alloc (.cells #[.int .i64 0] 30)).alloc (.cells #[.slice none 0 0] 23)).alloc (.cells #[.int .u64 2147483648] 105)).alloc (.cells #[.int .u64 s] 105)) (w.heap.size + 1 + 1 + 1) 23 (.slice none 0 0) := by
    have z3 : (((w.alloc (.cells #[.int .i64 c] 3)).alloc (.cells #[.slice none 0 0] 23)).alloc (.cells #[.int .i64 0] 30)).heap.size = w.heap.size + 1 + 1 + 1 := by simp
    rw [← z3]; exact ((Boxed.new _ _ _).alloc _).alloc _
  generalize ((((((w.alloc (.cells #[.int .i64 c] 3)).alloc (.cells #[.slice none 0 0] 23)).alloc (.cells #[.int .i64 0] 30)).alloc (.cells #[.slice none 0 0] 23)).alloc (.cells #[.int .u64 2147483648] 105)).alloc (.cells #[.int .u64 s] 105)) = W0 at hsz0 hbel0 hl0 hB0 hO0 ⊢
  have HSZ := Lib.hid hsz0
  have hlt4 : w.heap.size + 1 + 1 + 1 + 1 < W0.heap.size := by omega
  have hlt5 : w.heap.size + 1 + 1 + 1 + 1 + 1 < W0.heap.size := by omega
  clear hsz0
  refine wpIn_rangeFunc_ownF rfl (by decide) (gf := 101) (lb := #[.pointer (some ⟨w.heap.size + 1 + 1 + 1 + 1, 0, none⟩), .pointer (some ⟨w.heap.size + 1 + 1 + 1 + 1 + 1, 0, none⟩)]) rfl trivial (enters_of Try.func101 (by kernel_rfl) rfl)
    (down_stops Fence.wide 8 trivial rfl (by decide) (w.heap.size + 1 + 1 + 1 + 1) (w.heap.size + 1 + 1 + 1 + 1 + 1) s K W0 hl0 hB0.s.cell hlt4 hlt5 hs0 hsb HK.out) keepS_t (keepS_b hlt5) (Below.refl _ _) (fun _ => rfl)
    (fun pre W => ((∃ v, Boxed W (w.heap.size + 1 + 1 + 1) 23 v ∧ W.ownsRow w.heap.size 22 1 v (mp pre).length (u32s (mp pre)) ∧ True) ∧ ChB W w.heap.size c s) ∧ (ChP c (vals pre) ∧ Below w.heap.size w W))
    (fun cd pre W => ChX w.heap.size c cd pre W ∧ Below w.heap.size w W)
    (OwnFrom.and (OwnFrom.and (Own.from (holdsRow_own w.heap.size (w.heap.size + 1 + 1 + 1) 23 22 1 (fun pre => (mp pre).length) (fun pre => u32s (mp pre)) (fun _ _ => True)) _) (Own.from (chB_own _ _ _) _)) (OwnFrom.and (ownFrom_pure _ _) (ownFrom_below (Nat.le_refl _) (by omega))))
    (fun cd => OwnFrom.and (Own.from (chX_own _ _ cd) _) (ownFrom_below (Nat.le_refl _) (by omega)))
    ⟨⟨⟨_, hO0, World.ownsRow_nil _ _ _ _, trivial⟩, hB0⟩, ⟨fun q hq => by simp [vals] at hq, by simp [vals]; omega⟩, hbel0⟩
    (fun x => { tmps := #[.int .i64 N, .int .u32 t, .int .i64 c, undef, undef, .pointer (some ⟨w.heap.size, 0, none⟩), .pointer (some ⟨w.heap.size + 1, 0, none⟩), .pointer (some ⟨w.heap.size + 1 + 1, 0, none⟩), .pointer (some ⟨w.heap.size + 1 + 1 + 1, 0, none⟩), .int .u32 (x.1 : Nat), .int .i64 N, .bool true, .bool false, .bool false, .int .u32 t, .bool false, .bool false, .bool false, .int .u32 t, .int .u32 ((t : Int) % 2), .bool false, .bool false, .bool false, .int .u32 t, .bool false, .bool false, .bool false, .int .i64 c, .bool false, .bool false, .bool false, .int .i64 c, .bool false, .bool false, .int .i64 N, .int .u64 N, .int .u64 (2 * (N : Int)), .int .u32 t, .int .u64 t, .int .u64 s, .func (.func 101) #[] #[.pointer (some ⟨w.heap.size + 1 + 1 + 1 + 1, 0, none⟩), .pointer (some ⟨w.heap.size + 1 + 1 + 1 + 1 + 1, 0, none⟩)], .int .u32 (x.1 : Nat), undef, undef, undef, undef, undef, undef, undef, undef, undef, undef, undef, undef, undef, undef, undef], defers := [] }) ?assign ?body ?done ?stop
  case assign =>
    intro l x W K hK
    unfold encW
    gi_wp2
    exact hK
  case body =>
    rintro l pre x W ⟨⟨⟨v, hv, hrow, _⟩, hB⟩, hP, hBl⟩ hlt
    have hxb := x.2
    obtain ⟨q, hq⟩ : ∃ q, x.1 = q := ⟨_, rfl⟩
    rw [hq] at hxb
    have hpc : (mp pre).length < c := hP.2
    have hck := hB.k.cell
    have hcs := hv.cell
    by_cases hb : q ≤ 1073741824
    · have hbI : (q : Int) ≤ 1073741824 := by omega
      rw [hq]
      have HX : Hid (ChX w.heap.size c (.exit 0) (pre ++ [x]) W ∧ Below w.heap.size w W) := ⟨.inl ⟨rfl, ⟨vals pre, q, by rw [vals_snoc, hq], hP, hb⟩, hB.r, hB.e⟩, hBl⟩
      clear hP hq
      gi_wp2
      exact ⟨KeepsOthers.refl _, HX.out⟩
    · have hbI : (1073741824 : Int) < (q : Int) := by omega
      rw [hq]
      cases hp : mPrime q with
      | false =>
        have HM := Lib.hid hp
        have HX : Hid (((∃ v, Boxed W (w.heap.size + 1 + 1 + 1) 23 v ∧ W.ownsRow w.heap.size 22 1 v (mp (pre ++ [x])).length (u32s (mp (pre ++ [x]))) ∧ True) ∧ ChB W w.heap.size c s) ∧ (ChP c (vals (pre ++ [x])) ∧ Below w.heap.size w W)) := by
          show _ ∧ _
          rw [mp_miss pre x (by rw [hq]; exact hp), vals_snoc, hq]
          exact ⟨⟨⟨v, hv, hrow, trivial⟩, hB⟩, chp_snoc hP (by omega) hp, hBl⟩
        clear hP hq hp
        gi_wp2_with (refine ⟨trivial, ?_⟩; gi_at_call 64; refine (CallsIn.inRound l (callsIn_wide.2 (mPrime_any _ _ hxb))).mono ?_; rintro e w1 ⟨rfl, hb1⟩; rw [HM.out])
        obtain ⟨⟨⟨v1, hv1, hrow1, _⟩, hB1⟩, hP1, hBl1⟩ := HX.out
        exact ⟨keeps_below hb1, (hb1.cell (p := ⟨_, 0, none⟩) hB1.s.lt), ⟨⟨v1, boxed_below hv1 hb1, owns_below hrow1 hb1, trivial⟩, hB1.below hb1⟩, hP1, hBl1.trans (hb1.mono hBl1.size)⟩
      | true =>
        have HM := Lib.hid hp
        have hmh : Hid (mp (pre ++ [x]) = mp pre ++ [q]) := by show _ = _; rw [mp_hit pre x (by rw [hq]; exact hp), hq]
        have hvs : Hid (vals (pre ++ [x]) = vals pre ++ [q]) := by show _ = _; rw [vals_snoc, hq]
        have HPP := Lib.hid hP
        have hq1 : 1073741824 < q := by omega
        have hBz := hBl.size
        clear hP hq hp hck hcs
        by_cases hfull : (mp pre).length + 1 = c
        case pos =>
          have he : (((mp pre).length : Int) + 1 == (c : Int)) = true := beq_iff_eq.2 (by omega)
          have HF := Lib.hid hfull
          clear hfull
          gi_wp2_with (first | (refine ⟨trivial, ?_⟩; gi_at_call 64; refine (CallsIn.inRound l (callsIn_wide.2 (mPrime_any _ _ hxb))).mono ?_; rintro e w1 ⟨rfl, hb1⟩; rw [HM.out]; have hv1 := boxed_below hv hb1; have hrow1 := owns_below hrow hb1; have hB1 := hB.below hb1; have hcs := hv1.cell; have hck := hB1.k.cell; have hsz1 : w.heap.size ≤ w1.heap.size := Nat.le_trans hBz hb1.size) | (gi_at_builtin; (refine wpListIn_append_own _ rfl _ _ 23 rfl w.heap.size 22 i0 (.int .u32 0) 1 4 Try.underlying23 hi0 hz0 hz1 hz2 rfl (by decide) _ _ _ rfl (hrow1.alloc _) ⟨w1.heap.size, 0, none⟩ 1 1 [.int .u32 (q : Nat)] rfl rfl (cell_one_new _ _ _) (by simp [Value.oneCell']) (by unfold maxLen; omega) (by omega) (by simp; omega) ?_; intro v' w2 hown' hgrow _; obtain ⟨g', cap', rfl⟩ := ownsRow_succ hown'; obtain ⟨hv2, hv3, hr3, hk3, hb3⟩ := hv1.appended (by decide) hrow1 hsz1 (by omega) hown' hgrow; have hc2 := hv2.cell; have hf2 := hv2.frozen; have bk := boxed_appended hB1.k (by decide) hrow1 hgrow; have br := boxed_appended hB1.r (by decide) hrow1 hgrow; have be := boxed_appended hB1.e (by decide) hrow1 hgrow; have bs := boxed_appended hB1.s (by decide) hrow1 hgrow; have k1 := bk.cell; have k2 := br.cell; have k3 := br.frozen; have k4 := be.cell; have k5 := be.frozen)))
          have br3 := br.other (by omega : w.heap.size + 1 ≠ w.heap.size + 1 + 1 + 1) (.slice (some ⟨g', 0, none⟩) ((mp pre).length + 1) cap')
          have be3 := be.other (by omega : w.heap.size + 1 + 1 ≠ w.heap.size + 1 + 1 + 1) (.slice (some ⟨g', 0, none⟩) ((mp pre).length + 1) cap')
          have hr4 := owns_set (u' := .slice (some ⟨g', 0, none⟩) ((mp pre).length + 1) cap') br3 (by decide) hr3
          have be4 := be3.other (by omega : w.heap.size + 1 + 1 ≠ w.heap.size + 1) (.slice (some ⟨g', 0, none⟩) ((mp pre).length + 1) cap')
          have hr5 := owns_set (u' := .int .i64 0) be4 (by decide) hr4
          have br5 := (br3.set (.slice (some ⟨g', 0, none⟩) ((mp pre).length + 1) cap')).other (by omega : w.heap.size + 1 ≠ w.heap.size + 1 + 1) (.int .i64 0)
          have be5 := be4.set (.int .i64 0)
          refine ⟨(keeps_below hb1).trans (hk3.trans ((KeepsOthers.setCell _ _ _).trans (KeepsOthers.setCell _ _ _))), .inr ⟨rfl, ⟨vals pre, q, hvs.out, HPP.out, hq1, HM.out, ?_⟩, ⟨_, br5, ?_, trivial⟩, be5⟩, ?_⟩
          · have h1 := congrArg List.length hmh.out
            have h2 := HF.out
            rw [List.length_append, List.length_singleton] at h1
            unfold mp at h1 h2
            omega
          · rw [hmh.out]; unfold u32s at hr5 ⊢; simpa using hr5
          · exact (((hBl.trans (hb1.mono hBz)).trans hb3).setCell (p := ⟨w.heap.size + 1, 0, none⟩) (by simp) _).setCell (p := ⟨w.heap.size + 1 + 1, 0, none⟩) (by show w.heap.size ≤ w.heap.size + 1 + 1; omega) _
        case neg =>
          have he : (((mp pre).length : Int) + 1 == (c : Int)) = false := beq_eq_false_iff_ne.2 (by omega)
          have hP2 : Hid (ChP c (vals (pre ++ [x]))) := by show ChP _ _; rw [hvs.out]; exact chp_snoc' HPP.out hq1 HM.out hfull
          have HF := Lib.hid hfull
          clear hfull
          gi_wp2_with (first | (refine ⟨trivial, ?_⟩; gi_at_call 64; refine (CallsIn.inRound l (callsIn_wide.2 (mPrime_any _ _ hxb))).mono ?_; rintro e w1 ⟨rfl, hb1⟩; rw [HM.out]; have hv1 := boxed_below hv hb1; have hrow1 := owns_below hrow hb1; have hB1 := hB.below hb1; have hcs := hv1.cell; have hck := hB1.k.cell; have hsz1 : w.heap.size ≤ w1.heap.size := Nat.le_trans hBz hb1.size) | (gi_at_builtin; (refine wpListIn_append_own _ rfl _ _ 23 rfl w.heap.size 22 i0 (.int .u32 0) 1 4 Try.underlying23 hi0 hz0 hz1 hz2 rfl (by decide) _ _ _ rfl (hrow1.alloc _) ⟨w1.heap.size, 0, none⟩ 1 1 [.int .u32 (q : Nat)] rfl rfl (cell_one_new _ _ _) (by simp [Value.oneCell']) (by unfold maxLen; omega) (by omega) (by simp; omega) ?_; intro v' w2 hown' hgrow _; obtain ⟨g', cap', rfl⟩ := ownsRow_succ hown'; obtain ⟨hv2, hv3, hr3, hk3, hb3⟩ := hv1.appended (by decide) hrow1 hsz1 (by omega) hown' hgrow; have hc2 := hv2.cell; have hf2 := hv2.frozen; have bk := boxed_appended hB1.k (by decide) hrow1 hgrow; have br := boxed_appended hB1.r (by decide) hrow1 hgrow; have be := boxed_appended hB1.e (by decide) hrow1 hgrow; have bs := boxed_appended hB1.s (by decide) hrow1 hgrow; have k1 := bk.cell; have k2 := br.cell; have k3 := br.frozen; have k4 := be.cell; have k5 := be.frozen)))
          have bk3 := bk.other (by omega : w.heap.size ≠ w.heap.size + 1 + 1 + 1) (.slice (some ⟨g', 0, none⟩) ((mp pre).length + 1) cap')
          have br3 := br.other (by omega : w.heap.size + 1 ≠ w.heap.size + 1 + 1 + 1) (.slice (some ⟨g', 0, none⟩) ((mp pre).length + 1) cap')
          have be3 := be.other (by omega : w.heap.size + 1 + 1 ≠ w.heap.size + 1 + 1 + 1) (.slice (some ⟨g', 0, none⟩) ((mp pre).length + 1) cap')
          have bs3 := bs.other (by omega : w.heap.size + 1 + 1 + 1 + 1 + 1 ≠ w.heap.size + 1 + 1 + 1) (.slice (some ⟨g', 0, none⟩) ((mp pre).length + 1) cap')
          refine ⟨(keeps_below hb1).trans hk3, bs3.cell.trans hB.s.cell.symm, ⟨⟨_, hv3, ?_, trivial⟩, ⟨bk3, br3, be3, bs3⟩⟩, hP2.out, (hBl.trans (hb1.mono hBz)).trans hb3⟩
          rw [hmh.out]; unfold u32s at hr3 ⊢; simpa using hr3
  case done =>
    rintro D ys W hD hys ⟨⟨⟨v, hv, hrow, _⟩, hB⟩, hP, hBl⟩ hK
    have hlen : Hid ((chainOf mPrime s c).length < c) := by show _ < _; rw [HT.out]; exact ch_done hys hP
    have c1 := hB.r.cell; have c2 := hB.r.frozen; have c3 := hB.e.cell; have c4 := hB.e.frozen
    have hr1 := hB.r.set (.slice none 0 0)
    have he1 := hB.e.other (by omega : w.heap.size + 1 + 1 ≠ w.heap.size + 1) (.slice none 0 0)
    have hr2 := hr1.other (by omega : w.heap.size + 1 ≠ w.heap.size + 1 + 1) (.int .i64 4)
    have he2 := he1.set (.int .i64 4)
    have hK' := ((KeepsOthers.setCell W ⟨w.heap.size + 1, 0, none⟩ (.slice none 0 0)).trans (KeepsOthers.setCell _ ⟨w.heap.size + 1 + 1, 0, none⟩ (.int .i64 4))).same D _ hK rfl
    have z1 := cell_kept hr2.cell (grownBy_putObj' _ D (.deferred none)) (fun r e => by cases e; exact ⟨_, hK', rfl⟩)
    have z2 := cell_kept he2.cell (grownBy_putObj' _ D (.deferred none)) (fun r e => by cases e; exact ⟨_, hK', rfl⟩)
    have hbF := (((hBl.setCell (p := ⟨w.heap.size + 1, 0, none⟩) (by simp) (.slice none 0 0)).setCell (p := ⟨w.heap.size + 1 + 1, 0, none⟩) (by show w.heap.size ≤ w.heap.size + 1 + 1; omega) (.int .i64 4))).trans (belowK_b (w := w) (Nat.le_refl _) _ D (.deferred (some [])) (.deferred none) (by have := HSZ.out; omega) hK' rfl rfl)
    have Z1 := Lib.hid z1; have Z2 := Lib.hid z2; have HK' := Lib.hid hK'; have HBF := Lib.hid hbF
    clear hys hP z1 z2 hK hK' hbF hr1 he1 hr2 he2 hBl hrow hv hB
    gi_wp2
    rw [Exit.noGoto_ret]
    refine ⟨by simp, .inl ⟨_, _, rfl, run_takeDeferred HK'.out, ?_⟩⟩
    refine ⟨.tuple #[.slice none 0 0, .int .i64 4], ?_, HBF.out, .inl ⟨hlen.out, rfl⟩⟩
    simp [results, Try.f51, go_sem, Z1.out, Z2.out]
  case stop =>
    rintro D cd pre W hD hpre ⟨h | h, hBl⟩ hK
    · obtain ⟨rfl, hf, hR, hE⟩ := h
      have hlen : Hid ((chainOf mPrime s c).length < c) := by show _ < _; rw [HT.out]; exact ch_fail hpre hf
      have c1 := hR.cell; have c2 := hR.frozen; have c3 := hE.cell; have c4 := hE.frozen
      have hr1 := hR.set (.slice none 0 0)
      have he1 := hE.other (by omega : w.heap.size + 1 + 1 ≠ w.heap.size + 1) (.slice none 0 0)
      have hr2 := hr1.other (by omega : w.heap.size + 1 ≠ w.heap.size + 1 + 1) (.int .i64 4)
      have he2 := he1.set (.int .i64 4)
      have hK' := ((KeepsOthers.setCell W ⟨w.heap.size + 1, 0, none⟩ (.slice none 0 0)).trans (KeepsOthers.setCell _ ⟨w.heap.size + 1 + 1, 0, none⟩ (.int .i64 4))).same D _ hK rfl
      have z1 := cell_kept hr2.cell (grownBy_putObj' _ D (.deferred none)) (fun r e => by cases e; exact ⟨_, hK', rfl⟩)
      have z2 := cell_kept he2.cell (grownBy_putObj' _ D (.deferred none)) (fun r e => by cases e; exact ⟨_, hK', rfl⟩)
      have hbF := (((hBl.setCell (p := ⟨w.heap.size + 1, 0, none⟩) (by simp) (.slice none 0 0)).setCell (p := ⟨w.heap.size + 1 + 1, 0, none⟩) (by show w.heap.size ≤ w.heap.size + 1 + 1; omega) (.int .i64 4))).trans (belowK_b (w := w) (Nat.le_refl _) _ D (.deferred (some [])) (.deferred none) (by have := HSZ.out; omega) hK' rfl rfl)
      have Z1 := Lib.hid z1; have Z2 := Lib.hid z2; have HK' := Lib.hid hK'; have HBF := Lib.hid hbF
      clear hpre hf z1 z2 hK hK' hbF hr1 he1 hr2 he2 hBl hR hE
      gi_wp2
      rw [Exit.noGoto_ret]
      refine ⟨by simp, .inl ⟨_, _, rfl, run_takeDeferred HK'.out, ?_⟩⟩
      refine ⟨.tuple #[.slice none 0 0, .int .i64 4], ?_, HBF.out, .inl ⟨hlen.out, rfl⟩⟩
      simp [results, Try.f51, go_sem, Z1.out, Z2.out]
    · obtain ⟨rfl, hf, ⟨v, hR, hrow, _⟩, hE⟩ := h
      have hres : Hid (chainOf mPrime s c = mp pre ∧ (mp pre).length = c) := by show _ ∧ _; rw [HT.out]; exact ch_ret hpre hf
      have z1 := cell_kept hR.cell (grownBy_putObj' _ D (.deferred none)) (fun r e => by cases e; exact ⟨_, hK, rfl⟩)
      have z2 := cell_kept hE.cell (grownBy_putObj' _ D (.deferred none)) (fun r e => by cases e; exact ⟨_, hK, rfl⟩)
      have hrF := ownsRow_putObj hrow (.deferred none) hK rfl
      have hbF := hBl.trans (belowK_b (w := w) (Nat.le_refl _) _ D (.deferred (some [])) (.deferred none) (by have := HSZ.out; omega) hK rfl rfl)
      have Z1 := Lib.hid z1; have Z2 := Lib.hid z2; have HK' := Lib.hid hK; have HBF := Lib.hid hbF; have HRF := Lib.hid hrF
      clear hpre hf z1 z2 hK hbF hBl hR hE hrow hrF
      gi_wp2
      rw [Exit.noGoto_ret]
      refine ⟨by simp, .inl ⟨_, _, rfl, run_takeDeferred HK'.out, ?_⟩⟩
      refine ⟨.tuple #[v, .int .i64 0], ?_, HBF.out, .inr ⟨by rw [hres.out.1]; exact hres.out.2, v, rfl, ?_⟩⟩
      · simp [results, Try.f51, go_sem, Z1.out, Z2.out]
      · rw [hres.out.1]
        exact SliceAt.ofOwns HRF.out (by have := hres.out.2; omega) mp_lt
end Go.Proofs.Ytjfjbkocopaehaa
