/- obscuraref03.Chain: the primes of a chain, in order. obscuraref03.Chain: the walk. obscuraref12.Default. -/
import Derived.Test.YtjpcljnojipdnaaGreatKeyZ
/-! obscuraref03.Chain: the primes of a chain, in order. -/
namespace Go.Proofs.YtjpcljnojipdnaaGreat
open Go.RowKit

/-- A row that the call owns, as a slice of words. -/
theorem SliceAt.ofOwns {w : World} {base : Nat} {e : TypeId} {v : Value} {n : Nat} {l : List Nat} (h : w.ownsRow base e 1 v n (l.map (fun q => Value.int .u32 (q : Nat)))) (hl : l.length ≤ 140737488351232) (hr : ∀ q, q ∈ l → q < 4294967296) : SliceAt w v l := by
  have hn : l.length = n := by simpa using h.1
  rcases h.2 with ⟨rfl, h0⟩ | ⟨g, cap, cur, rfl, hb, hg, hnc, hm, hs, ht⟩
  · have : l = [] := List.length_eq_zero_iff.1 (by omega)
    subst this; exact ⟨none, 0, rfl, Nat.le_refl _, by simp, fun h => absurd rfl h⟩
  · subst hn
    refine ⟨_, cap, rfl, hnc, hl, fun _ => ⟨g, 0, rfl, lt_of_block hg, fun i hi => ?_, hr⟩⟩
    have e1 : (cur.toList.take (l.length * 1))[i]? = (l.map (fun q => Value.int .u32 (q : Nat)))[i]? := by rw [ht]
    rw [List.getElem?_take, if_pos (by omega), Array.getElem?_toList, List.getElem?_map, List.getElem?_eq_getElem hi] at e1
    simp only [World.cell?, hg, Nat.zero_add, Option.isSome_none, Bool.false_eq_true, if_false]
    rw [e1]; rfl

/-- The primes k step + 1 above 2^30, from k down, at most so many. -/
def chainGo (pr : Nat → Bool) (s : Nat) : Nat → Nat → List Nat
  | 0, _ => []
  | k + 1, c => if 1073741824 < (k + 1) * s + 1 ∧ 0 < c then (if pr ((k + 1) * s + 1) then ((k + 1) * s + 1) :: chainGo pr s k (c - 1) else chainGo pr s k c) else []

theorem chainGo_stop {pr : Nat → Bool} {s k c : Nat} (h : ¬ (1073741824 < k * s + 1 ∧ 0 < c)) : chainGo pr s k c = [] := by
  cases k with
  | zero => rfl
  | succ k => simp only [chainGo, if_neg h]
theorem chainGo_yes {pr : Nat → Bool} {s k c : Nat} (h1 : 1073741824 < k * s + 1) (h2 : 0 < c) (hp : pr (k * s + 1) = true) : chainGo pr s k c = (k * s + 1) :: chainGo pr s (k - 1) (c - 1) := by
  cases k with
  | zero => omega
  | succ k => simp only [chainGo, if_pos (And.intro h1 h2), hp, if_true, Nat.add_sub_cancel]
theorem chainGo_no {pr : Nat → Bool} {s k c : Nat} (h1 : 1073741824 < k * s + 1) (h2 : 0 < c) (hp : pr (k * s + 1) = false) : chainGo pr s k c = chainGo pr s (k - 1) c := by
  cases k with
  | zero => omega
  | succ k => simp only [chainGo, if_pos (And.intro h1 h2), hp, Nat.add_sub_cancel]; simp
theorem chainGo_len (pr : Nat → Bool) (s k c : Nat) : (chainGo pr s k c).length ≤ c := by
  induction k generalizing c with
  | zero => simp [chainGo]
  | succ k ih =>
    simp only [chainGo]
    split
    · split
      · have := ih (c - 1); simp only [List.length_cons]; omega
      · exact ih c
    · simp
theorem chainGo_mem {pr : Nat → Bool} {s k c q : Nat} (h : q ∈ chainGo pr s k c) : 1073741824 < q ∧ q ≤ k * s + 1 ∧ pr q = true ∧ ∃ j, q = j * s + 1 := by
  induction k generalizing c with
  | zero => simp [chainGo] at h
  | succ k ih =>
    have hs : k * s ≤ (k + 1) * s := Nat.mul_le_mul_right _ (by omega)
    simp only [chainGo] at h
    split at h
    · rename_i hc
      split at h
      · rename_i hp
        rcases List.mem_cons.1 h with rfl | h
        · exact ⟨hc.1, Nat.le_refl _, hp, _, rfl⟩
        · have := ih h; exact ⟨this.1, by omega, this.2.2⟩
      · have := ih h; exact ⟨this.1, by omega, this.2.2⟩
    · cases h

/-- The list of the chain. -/
def chainOf (pr : Nat → Bool) (s c : Nat) : List Nat := chainGo pr s (2147483646 / s) c
theorem chainOf_lt {pr : Nat → Bool} {s c q : Nat} (h : q ∈ chainOf pr s c) : 1073741824 < q ∧ q ≤ 2147483647 ∧ pr q = true ∧ ∃ j, q = j * s + 1 := by
  have h1 := chainGo_mem h
  have h2 := Nat.div_mul_le_self 2147483646 s
  exact ⟨h1.1, by omega, h1.2.2⟩

theorem rdim3_any (n : Int) (w : World) :
    Calls Tryz.prog 146 #[.int .i64 n] w fun r w' => r = .returned (.bool (isDim n)) ∧ w = w' := by
  have hR : Hid (isDim n = (n == 4 || (n == 8 || (n == 16 || n == 32)))) := by show _ = _; unfold isDim; simp only [Bool.or_assoc]
  cases h4 : (n == 4) with
  | true =>
    go_enter Tryz.func146, Tryz.ntmps146
    go_wp2_with fail
    go_ret
    exact ⟨ret_bool (by rw [hR.out, h4]; rfl), rfl⟩
  | false =>
  cases h8 : (n == 8) with
  | true =>
    go_enter Tryz.func146, Tryz.ntmps146
    go_wp2_with fail
    go_ret
    exact ⟨ret_bool (by rw [hR.out, h4, h8]; rfl), rfl⟩
  | false =>
  cases h16 : (n == 16) with
  | true =>
    go_enter Tryz.func146, Tryz.ntmps146
    go_wp2_with fail
    go_ret
    exact ⟨ret_bool (by rw [hR.out, h4, h8, h16]; rfl), rfl⟩
  | false =>
    go_enter Tryz.func146, Tryz.ntmps146
    go_wp2_with fail
    go_ret
    exact ⟨ret_bool (by rw [hR.out, h4, h8, h16]; rfl), rfl⟩
end Go.Proofs.YtjpcljnojipdnaaGreat

/-! obscuraref03.Chain: the walk. -/
namespace Go.Proofs.YtjpcljnojipdnaaGreat
open Go.RowKit

def u32s (l : List Nat) : List Value := l.map (fun q => Value.int .u32 (q : Nat))
theorem own_slice {w : World} {base : Nat} {e : TypeId} {v : Value} {n : Nat} {xs : List Value} (h : w.ownsRow base e 1 v n xs) : ∃ p cap, v = .slice p n cap := by
  rcases h.2 with ⟨rfl, h0⟩ | ⟨g, cap, cur, rfl, _⟩
  · exact ⟨none, 0, by rw [show n = 0 by have := h.1; simp_all]⟩
  · exact ⟨_, _, rfl⟩
theorem own_ge {w : World} {base : Nat} {e : TypeId} {v : Value} {n : Nat} {xs : List Value} (h : w.ownsRow base e 1 v n xs) : ∀ q, v.ownBlock = some q → base ≤ q := by
  intro q hq
  rcases h.2 with ⟨rfl, h0⟩ | ⟨g, cap, cur, rfl, hb, _⟩
  · cases hq
  · have : some g = some q := hq
    cases this; exact hb

/-- What the call answers. -/
def chainRet (w0 w' : World) (L : List Nat) (c : Nat) (r : Ending) : Prop :=
  Below w0.heap.size w0 w' ∧ ((L.length < c ∧ r = .returned (.tuple #[.slice none 0 0, .int .i64 4])) ∨ (L.length = c ∧ ∃ v, r = .returned (.tuple #[v, .int .i64 0]) ∧ SliceAt w' v L))

set_option maxHeartbeats 1000000 in
set_option maxRecDepth 100000 in
theorem rchain_any (N t c s : Nat) (w : World) (hN : isDim (N : Int) = true) (hN4 : 4 ≤ N) (hN32 : N ≤ 32) (ht3 : 3 ≤ t) (ht : t ≤ 2147483647) (hodd : t % 2 = 1) (hc1 : 1 ≤ c) (hc2 : c ≤ 25) (hs : s = 2 * N * t) :
    Calls Tryz.prog 128 #[.int .i64 N, .int .u32 t, .int .i64 c] w fun r w' => chainRet w w' (chainOf rPrime s c) c r := by
  have d1 : decide ((t : Int) < 3) = false := decide_eq_false (by omega)
  have d2 : ((t : Int) % 2 == 0) = false := beq_eq_false_iff_ne.2 (by omega)
  have d3 : decide ((2147483647 : Int) < t) = false := decide_eq_false (by omega)
  have d4 : decide ((c : Int) < 1) = false := decide_eq_false (by omega)
  have d5 : decide ((25 : Int) < c) = false := decide_eq_false (by omega)
  have hNt : N * t ≤ 32 * 2147483647 := Nat.mul_le_mul hN32 ht
  have hNt0 : 4 * 3 ≤ N * t := Nat.mul_le_mul hN4 ht3
  have hs2 : s = 2 * (N * t) := by rw [hs, Nat.mul_assoc]
  have hs0 : 0 < s := by omega
  have hsb : s ≤ 137438953472 := by omega
  have hwr : IntKind.u64.wrap ((2 : Int) * (N : Int) * (t : Int)) = s := by
    rw [show (2 : Int) * (N : Int) * (t : Int) = s by rw [hs2, Int.mul_assoc]; simp]
    simp [IntKind.wrap, IntKind.bits, IntKind.signed]; omega
  have hS := Lib.hid hs
  clear hs
  obtain ⟨i0, hi0, hz0, hz1, hz2⟩ := info_parts infoU32
  have HN := Lib.hid hN
  clear hN
  obtain ⟨K, hK⟩ : ∃ K : Nat, K = 2147483646 / s := ⟨_, rfl⟩
  have hk0 : K * s ≤ 2147483646 := by rw [hK]; exact Nat.div_mul_le_self _ _
  have hkI : (2147483646 : Int) / (s : Int) = (K : Int) := by rw [hK]; simp
  have hk1 : K ≤ 2147483646 := by rw [hK]; exact Nat.div_le_self _ _
  have HT : Hid (chainOf rPrime s c = chainGo rPrime s K c) := by show _ = _; unfold chainOf; rw [hK]
  clear hK
  have HKI := Lib.hid hkI
  clear hkI
  have HS2 := Lib.hid hs2
  clear hs2
  have HLT : Hid (∀ q, q ∈ chainOf rPrime s c → 1073741824 < q ∧ q ≤ 2147483647 ∧ rPrime q = true ∧ ∃ j, q = j * s + 1) := fun q h => chainOf_lt h
  have HLL : Hid ((chainOf rPrime s c).length ≤ c) := chainGo_len _ _ _ _
  go_enter Tryz.func128, Tryz.ntmps128
  go_wp2_with (go_at_call 146; refine (rdim3_any _ _).mono ?_; rintro e w1 ⟨rfl, rfl⟩; rw [HN.out])
  go_loopw [9, 10] (fun v vk wr => ∃ (k : Nat) (acc : List Nat) (p : Option Addr) (cap : Nat), v = .slice p acc.length cap ∧ vk = .int .u64 k ∧ k ≤ K ∧ Hid (wr.ownsRow w.heap.size 22 1 (.slice p acc.length cap) acc.length (u32s acc)) ∧ Hid (acc ++ chainGo rPrime s k (c - acc.length) = chainOf rPrime s c) ∧ acc.length ≤ c ∧ Hid (Below w.heap.size w wr)) (fun _ vk _ => (intOf vk).toNat)
  case atStart => exact ⟨K, [], none, 0, rfl, congrArg _ HKI.out, Nat.le_refl _, World.ownsRow_nil _ _ _ _, by show _ = _; rw [HT.out]; rfl, by simp, Below.refl _ _⟩
  case round =>
    obtain ⟨k, acc, p, cap, rfl, rfl, hk, hown, htot, hacc, hbel⟩ := hrel
    have hks : k * s ≤ 2147483646 := Nat.le_trans (Nat.mul_le_mul_right _ hk) hk0
    have hksI : (k : Int) * (s : Int) ≤ 2147483646 := by rw [← Int.natCast_mul]; exact Int.ofNat_le.2 hks
    have hks0 : (0 : Int) ≤ (k : Int) * (s : Int) := by rw [← Int.natCast_mul]; exact Int.natCast_nonneg _
    by_cases hb : 1073741824 < k * s + 1
    · have hbI : (1073741824 : Int) < (k : Int) * (s : Int) + 1 := by rw [← Int.natCast_mul]; omega
      have hk1 : 1 ≤ k := by
        rcases Nat.eq_zero_or_pos k with h | h
        · subst h; simp at hb
        · exact h
      by_cases hc : acc.length < c
      · have hcI : ((acc.length : Nat) : Int) < (c : Int) := by omega
        have HP := fun (h : rPrime (k * s + 1) = true) => chainGo_yes (c := c - acc.length) hb (by omega) h
        have HQ := fun (h : rPrime (k * s + 1) = false) => chainGo_no (c := c - acc.length) hb (by omega) h
        have HP' := Lib.hid HP
        have HQ' := Lib.hid HQ
        clear HP HQ
        have hb' := Lib.hid hb
        clear hb
        cases hp : rPrime (k * s + 1) with
        | true =>
          have HPP := Lib.hid hp
          clear hp
          go_wp2_with (first
            | (go_at_call 96; rw [show ((k : Int) * (s : Int) + 1) = ((k * s + 1 : Nat) : Int) by simp]; refine (rPrime_any _ _ (by omega)).mono ?_; rintro e w1 ⟨rfl, rfl⟩; rw [HPP.out])
            | (at_builtin; refine wpList_append_own _ rfl _ _ 23 rfl w.heap.size 22 i0 (.int .u32 0) 1 4 Tryz.underlying23 hi0 hz0 hz1 hz2 rfl (by decide) _ _ _ rfl (hown.out.alloc _) ⟨wr.heap.size, 0, none⟩ 1 1 [.int .u32 ((k : Int) * (s : Int) + 1)] rfl rfl ?c1 ?c2 ?c3 ?c4 ?c5 ?_))
          case c1 => exact cell_one_new _ _ _
          case c2 => intro u hu; simp at hu; subst hu; rfl
          case c3 => unfold maxLen; omega
          case c4 => omega
          case c5 => exact (hbel.out.alloc hbel.out.size _).size
          intro v' w' hown' hgrow _
          have hbel' : Hid (Below w.heap.size w w') := (hbel.out.alloc hbel.out.size _).grown hgrow (hbel.out.alloc hbel.out.size _).size (own_ge hown.out)
          have hown2 : Hid (w'.ownsRow w.heap.size 22 1 v' (acc ++ [k * s + 1]).length (u32s (acc ++ [k * s + 1]))) := by
            show World.ownsRow _ _ _ _ _ _ _
            unfold u32s at hown' ⊢
            simpa using hown'
          have htot2 : Hid ((acc ++ [k * s + 1]) ++ chainGo rPrime s (k - 1) (c - (acc ++ [k * s + 1]).length) = chainOf rPrime s c) := by
            show _ = _
            rw [← htot.out, HP'.out HPP.out, List.append_assoc, List.length_append, List.length_singleton, Nat.sub_sub]; rfl
          clear hown' hgrow
          obtain ⟨p', cap', rfl⟩ := own_slice hown2.out
          go_wp2_with fail
          go_roundw
          case rel => exact ⟨k - 1, acc ++ [k * s + 1], p', cap', by simp, by go_num, by omega, hown2, htot2, by simp; omega, hbel'⟩
          case measure => simp [intOf]; omega
        | false =>
          have HPP := Lib.hid hp
          clear hp
          go_wp2_with (go_at_call 96; rw [show ((k : Int) * (s : Int) + 1) = ((k * s + 1 : Nat) : Int) by simp]; refine (rPrime_any _ _ (by omega)).mono ?_; rintro e w1 ⟨rfl, rfl⟩; rw [HPP.out])
          have htot2 : Hid (acc ++ chainGo rPrime s (k - 1) (c - acc.length) = chainOf rPrime s c) := by
            show _ = _
            rw [← htot.out, HQ'.out HPP.out]
          go_roundw
          case rel =>
            exact ⟨k - 1, acc, p, cap, rfl, by go_num, by omega, hown, htot2, hacc, hbel⟩
          case measure => simp [intOf]; omega
      · have hfin : Hid (acc = chainOf rPrime s c) := by
          show _ = _; rw [← htot.out, chainGo_stop (by omega), List.append_nil]
        have hcI : ¬ ((acc.length : Nat) : Int) < (c : Int) := by omega
        have hcc : acc.length = c := by omega
        have HCC := Lib.hid hcc
        clear hcc
        go_wp2_with fail
        go_ret2
        exact ⟨hbel.out, .inr ⟨by rw [← hfin.out]; exact HCC.out, _, rfl, by rw [← hfin.out]; exact SliceAt.ofOwns hown.out (by omega) (fun q hq => by have := HLT.out q (by rw [← hfin.out]; exact hq); omega)⟩⟩
    · have hfin : Hid (acc = chainOf rPrime s c) := by
        show _ = _; rw [← htot.out, chainGo_stop (by omega), List.append_nil]
      have hbI : ¬ (1073741824 : Int) < (k : Int) * (s : Int) + 1 := by rw [← Int.natCast_mul]; omega
      have hb' := Lib.hid hb
      clear hb
      by_cases hc : acc.length < c
      · have hcI : ((acc.length : Nat) : Int) < (c : Int) := by omega
        go_wp2_with fail
        go_ret2
        exact ⟨hbel.out, .inl ⟨by rw [← hfin.out]; exact hc, rfl⟩⟩
      · have hcI : ¬ ((acc.length : Nat) : Int) < (c : Int) := by omega
        have hcc : acc.length = c := by omega
        have HCC := Lib.hid hcc
        clear hcc
        go_wp2_with fail
        go_ret2
        exact ⟨hbel.out, .inr ⟨by rw [← hfin.out]; exact HCC.out, _, rfl, by rw [← hfin.out]; exact SliceAt.ofOwns hown.out (by omega) (fun q hq => by have := HLT.out q (by rw [← hfin.out]; exact hq); omega)⟩⟩
end Go.Proofs.YtjpcljnojipdnaaGreat

/-! obscuraref12.Default. -/
namespace Go.Proofs.YtjpcljnojipdnaaGreat
open Go.RowKit

def defStep (pr : Nat → Bool) (n : Int) (p : Nat) (e : Int) : Nat := 2 * n.toNat * powv pr n p e
/-- 0, 2 or 4. -/
def defErr (pr : Nat → Bool) (n : Int) (p : Nat) (e lv : Int) : Int :=
  if isDim n = false ∨ lv < 1 ∨ 24 < lv ∨ powv pr n p e = 0 then 2
  else if 2147483647 < defStep pr n p e ∨ (chainOf pr (defStep pr n p e) (lv.toNat + 1)).length < lv.toNat + 1 then 4 else 0
def defPar (pr : Nat → Bool) (n : Int) (p : Nat) (e lv : Int) : Par :=
  if defErr pr n p e lv = 0 then
    { n := n, p := p, r := e, ch := (chainOf pr (defStep pr n p e) (lv.toNat + 1)).tail, sp := (chainOf pr (defStep pr n p e) (lv.toNat + 1)).headD 0, wt := 4, er := 2 }
  else { n := 0, p := 0, r := 0, ch := [], sp := 0, wt := 0, er := 0 }

def defRet (w0 w' : World) (x : Par) (e : Int) (r : Ending) : Prop :=
  Below w0.heap.size w0 w' ∧ ∃ v, r = .returned (.tuple #[x.val v, .int .i64 e]) ∧ SliceAt w' v x.ch

def zeroP : Par := { n := 0, p := 0, r := 0, ch := [], sp := 0, wt := 0, er := 0 }
theorem defPar_zero {pr : Nat → Bool} {n : Int} {p : Nat} {e lv : Int} (h : defErr pr n p e lv ≠ 0) : defPar pr n p e lv = zeroP := by unfold defPar; rw [if_neg h]; rfl

/-- A box of zeros answers as the failures do. -/
theorem def_zero {w0 w' : World} {n : Int} {p : Nat} {e lv k : Int} {r : Ending} (hb : Below w0.heap.size w0 w') (hk : defErr rPrime n p e lv = k) (h0 : k ≠ 0)
    (hr : r = .returned (.tuple #[.agg #[.int .i64 0, .int .u32 0, .int .i64 0, .slice none 0 0, .int .u32 0, .int .i64 0, .int .u32 0], .int .i64 k])) : defRet w0 w' (defPar rPrime n p e lv) (defErr rPrime n p e lv) r := by
  rw [defPar_zero (by rw [hk]; exact h0), hk]
  refine ⟨hb, .slice none 0 0, hr, none, 0, rfl, Nat.le_refl _, by simp [zeroP], fun h => absurd rfl h⟩

theorem powv_odd {pr : Nat → Bool} {n : Int} {p : Nat} {e : Int} (hn : 4 ≤ n) (h : powv pr n p e ≠ 0) : 3 ≤ powv pr n p e ∧ powv pr n p e % 2 = 1 ∧ powv pr n p e % (2 * n).toNat = 1 := by
  unfold powv at h ⊢
  split
  · rename_i hc
    obtain ⟨h1, h2, h3, h4, h5, h6⟩ := hc
    obtain ⟨k, hk⟩ : ∃ k, e.toNat = k + 1 := ⟨e.toNat - 1, by omega⟩
    obtain ⟨m, hm⟩ : ∃ m, (2 * n).toNat = 2 * m := ⟨n.toNat, by omega⟩
    have hp : p % 2 = 1 := by
      have h7 := Nat.div_add_mod p (2 * n).toNat
      rw [h4, hm, Nat.mul_assoc] at h7
      omega
    have e1 : p ^ e.toNat % 2 = 1 := by rw [Nat.pow_mod, hp, Nat.one_pow]
    have e2 : p ^ e.toNat % (2 * n).toNat = 1 := by rw [Nat.pow_mod, h4, Nat.one_pow]; exact Nat.mod_eq_of_lt (by omega)
    refine ⟨?_, e1, e2⟩
    rw [hk, Nat.pow_succ]
    have : 1 ≤ p ^ k := Nat.pos_of_ne_zero (by intro hz; have := Nat.pow_eq_zero.1 hz; omega)
    calc 3 ≤ 1 * p := by omega
      _ ≤ p ^ k * p := Nat.mul_le_mul_right _ this
  · rename_i hc
    exact absurd (if_neg hc) h
theorem Blk.get {w : World} {g : Nat} {cs : List Value} {T : TypeId} (h : Blk w g cs T) (i : Nat) : w.cell? ⟨g, i, none⟩ = cs[i]? := by
  unfold Blk at h
  simp only [World.cell?, h, Option.isSome_none, Bool.false_eq_true, if_false]
  simp
theorem RowAt.same {w w' : World} {b off : Nat} {l : List Nat} (h : RowAt w b off l) (e : w'.heap[b]? = w.heap[b]?) : RowAt w' b off l := by
  refine ⟨?_, fun i hi => ?_, h.rng⟩
  · rw [Array.getElem?_eq_getElem h.blk] at e
    exact (Array.getElem?_eq_some_iff.1 e).1
  · have := h.cell i hi
    simp only [World.cell?] at this ⊢
    rw [e]; exact this
theorem RowAt.tail {w : World} {b off q : Nat} {l : List Nat} (h : RowAt w b off (q :: l)) : RowAt w b (off + 1) l :=
  ⟨h.blk, fun i hi => by
    have := h.cell (i + 1) (by simp; omega)
    rw [List.getElem_cons_succ] at this
    rw [show off + 1 + i = off + (i + 1) by omega]; exact this, fun q hq => h.rng q (List.mem_cons_of_mem _ hq)⟩
theorem set7_ok {w W : World} {B g : Nat} {c0 c1 c2 c3 c4 c5 c6 : Value} {T : TypeId} (h : Blk W g [c0, c1, c2, c3, c4, c5, c6] T) (hb : Below B w W) (hg : B ≤ g) (v0 v1 v2 v3 v4 v5 v6 : Value) :
    Blk (((((((W.setCell ⟨g, 0, none⟩ v0).setCell ⟨g, 1, none⟩ v1).setCell ⟨g, 2, none⟩ v2).setCell ⟨g, 3, none⟩ v3).setCell ⟨g, 4, none⟩ v4).setCell ⟨g, 5, none⟩ v5).setCell ⟨g, 6, none⟩ v6).drew g [v0, v1, v2, v3, v4, v5, v6] T ∧ Below B w (((((((W.setCell ⟨g, 0, none⟩ v0).setCell ⟨g, 1, none⟩ v1).setCell ⟨g, 2, none⟩ v2).setCell ⟨g, 3, none⟩ v3).setCell ⟨g, 4, none⟩ v4).setCell ⟨g, 5, none⟩ v5).setCell ⟨g, 6, none⟩ v6).drew ∧ ∀ b, b ≠ g → (((((((W.setCell ⟨g, 0, none⟩ v0).setCell ⟨g, 1, none⟩ v1).setCell ⟨g, 2, none⟩ v2).setCell ⟨g, 3, none⟩ v3).setCell ⟨g, 4, none⟩ v4).setCell ⟨g, 5, none⟩ v5).setCell ⟨g, 6, none⟩ v6).drew.heap[b]? = W.heap[b]? := by
  refine ⟨?_, ?_, ?_⟩
  · have hF := (((((((h.set 0 v0).set 1 v1).set 2 v2).set 3 v3).set 4 v4).set 5 v5).set 6 v6).drew
    simpa only [List.set_cons_zero, List.set_cons_succ] using hF
  · exact (((((((hb.setCell hg _).setCell hg _).setCell hg _).setCell hg _).setCell hg _).setCell hg _).setCell hg _).drew
  · intro b hne
    have e : ∀ (X : World) (i : Nat) (u : Value), (X.setCell ⟨g, i, none⟩ u).heap[b]? = X.heap[b]? := fun X i u => Below.heap_setCell X _ u b hne
    have e2 : ∀ X : World, X.drew.heap[b]? = X.heap[b]? := fun X => rfl
    rw [e2, e, e, e, e, e, e, e]
theorem infoP : (Tryz.prog.info? 25).map (·.size) = some 7 := by kernel_rfl
theorem BoxP.ofBlk {w : World} {g : Nat} {x : Par} {cv : Value} {T : TypeId} (h : Blk w g [.int .i64 x.n, .int .u32 x.p, .int .i64 x.r, cv, .int .u32 x.sp, .int .i64 x.wt, .int .u32 x.er] T) : BoxP w g x cv :=
  ⟨h.cell 0 (by simp), h.cell 1 (by simp), h.cell 2 (by simp), h.cell 3 (by simp), h.cell 4 (by simp), h.cell 5 (by simp), h.cell 6 (by simp)⟩
set_option maxHeartbeats 6000000 in
set_option maxRecDepth 100000 in
theorem rdefault_any (n : Int) (p : Nat) (e lv : Int) (w : World) (hp : p < 4294967296) (he0 : -9223372036854775808 ≤ e) (he1 : e ≤ 9223372036854775807) (hl0 : -9223372036854775808 ≤ lv) (hl1 : lv ≤ 9223372036854775807) :
    Calls Tryz.prog 72 #[.int .i64 n, .int .u32 p, .int .i64 e, .int .i64 lv] w fun r w' => defRet w w' (defPar rPrime n p e lv) (defErr rPrime n p e lv) r := by
  have hB : BoxP (w.alloc (.cells #[.int .i64 0, .int .u32 0, .int .i64 0, .slice none 0 0, .int .u32 0, .int .i64 0, .int .u32 0] 25)) w.heap.size zeroP (.slice none 0 0) := by constructor <;> simp [go_sem, zeroP]
  have hbW : Below w.heap.size w (w.alloc (.cells #[.int .i64 0, .int .u32 0, .int .i64 0, .slice none 0 0, .int .u32 0, .int .i64 0, .int .u32 0] 25)) := (Below.refl _ _).alloc (Nat.le_refl _) _
  have HB := Lib.hid hB
  have HBW := Lib.hid hbW
  clear hB hbW
  have fin0 : ∀ (W : World) (k : Int), W = w.alloc (.cells #[.int .i64 0, .int .u32 0, .int .i64 0, .slice none 0 0, .int .u32 0, .int .i64 0, .int .u32 0] 25) → defErr rPrime n p e lv = k → k ≠ 0 →
      W.cell? ⟨w.heap.size, 0, none⟩ = some (.int .i64 0) ∧ W.cell? ⟨w.heap.size, 1, none⟩ = some (.int .u32 0) ∧ W.cell? ⟨w.heap.size, 2, none⟩ = some (.int .i64 0) ∧ W.cell? ⟨w.heap.size, 3, none⟩ = some (.slice none 0 0) ∧ W.cell? ⟨w.heap.size, 4, none⟩ = some (.int .u32 0) ∧ W.cell? ⟨w.heap.size, 5, none⟩ = some (.int .i64 0) ∧ W.cell? ⟨w.heap.size, 6, none⟩ = some (.int .u32 0) := by
    rintro W k rfl _ _
    exact ⟨HB.out.n, HB.out.p, HB.out.r, HB.out.ch, HB.out.sp, HB.out.wt, HB.out.er⟩
  have FIN0 := Lib.hid fin0
  clear fin0
  cases hn : isDim n with
  | false =>
    have HN := Lib.hid hn
    have HK : Hid (defErr rPrime n p e lv = 2) := by show _ = _; unfold defErr; rw [if_pos (.inl hn)]
    clear hn
    go_enter Tryz.func72, Tryz.ntmps72
    go_wp2_with (go_at_call 68; refine (rdim_any _ _).mono ?_; rintro e w1 ⟨rfl, rfl⟩; rw [HN.out])
    obtain ⟨r0, r1, r2, r3, r4, r5, r6⟩ := FIN0.out _ _ rfl HK.out (by decide)
    refine bodyPost_ret (v := .tuple #[.agg #[.int .i64 0, .int .u32 0, .int .i64 0, .slice none 0 0, .int .u32 0, .int .i64 0, .int .u32 0], .int .i64 2]) (by simp [results, Tryz.results72, go_sem, r0, r1, r2, r3, r4, r5, r6]) rfl (def_zero HBW.out HK.out (by decide) rfl)
  | true =>
  by_cases hlv : 1 ≤ lv ∧ lv ≤ 24
  case neg =>
    have HN := Lib.hid hn
    have HK : Hid (defErr rPrime n p e lv = 2) := by
      show _ = _; unfold defErr; rw [if_pos (by rcases Classical.em (lv < 1) with h | h; exact .inr (.inl h); exact .inr (.inr (.inl (by omega))))]
    clear hn
    by_cases h1 : lv < 1
    · have d1 : decide (lv < 1) = true := decide_eq_true h1
      go_enter Tryz.func72, Tryz.ntmps72
      go_wp2_with (go_at_call 68; refine (rdim_any _ _).mono ?_; rintro e w1 ⟨rfl, rfl⟩; rw [HN.out])
      obtain ⟨r0, r1, r2, r3, r4, r5, r6⟩ := FIN0.out _ _ rfl HK.out (by decide)
      refine bodyPost_ret (v := .tuple #[.agg #[.int .i64 0, .int .u32 0, .int .i64 0, .slice none 0 0, .int .u32 0, .int .i64 0, .int .u32 0], .int .i64 2]) (by simp [results, Tryz.results72, go_sem, r0, r1, r2, r3, r4, r5, r6]) rfl (def_zero HBW.out HK.out (by decide) rfl)
    · have d1 : decide (lv < 1) = false := decide_eq_false h1
      have d2 : decide (24 < lv) = true := decide_eq_true (by omega)
      go_enter Tryz.func72, Tryz.ntmps72
      go_wp2_with (go_at_call 68; refine (rdim_any _ _).mono ?_; rintro e w1 ⟨rfl, rfl⟩; rw [HN.out])
      obtain ⟨r0, r1, r2, r3, r4, r5, r6⟩ := FIN0.out _ _ rfl HK.out (by decide)
      refine bodyPost_ret (v := .tuple #[.agg #[.int .i64 0, .int .u32 0, .int .i64 0, .slice none 0 0, .int .u32 0, .int .i64 0, .int .u32 0], .int .i64 2]) (by simp [results, Tryz.results72, go_sem, r0, r1, r2, r3, r4, r5, r6]) rfl (def_zero HBW.out HK.out (by decide) rfl)
  obtain ⟨hlv1, hlv2⟩ := hlv
  obtain ⟨N, rfl⟩ : ∃ N : Nat, n = N := ⟨n.toNat, by have := isDim_cases hn; omega⟩
  obtain ⟨L, rfl⟩ : ∃ L : Nat, lv = L := ⟨lv.toNat, by omega⟩
  have hN4 : 4 ≤ N := by have := isDim_cases hn; omega
  have hN32 : N ≤ 32 := by have := isDim_cases hn; omega
  have HN := Lib.hid hn
  clear hn
  obtain ⟨t, ht⟩ : ∃ t : Nat, t = powv rPrime N p e := ⟨_, rfl⟩
  by_cases ht0 : t = 0
  · have HK : Hid (defErr rPrime N p e L = 2) := by
      show _ = _; unfold defErr; rw [if_pos (.inr (.inr (.inr (by rw [← ht]; exact ht0))))]
    have d1 : decide ((L : Int) < 1) = false := decide_eq_false (by omega)
    have d2 : decide ((24 : Int) < L) = false := decide_eq_false (by omega)
    have hpl := Lib.hid (rplain_any N p e (w.alloc (.cells #[.int .i64 0, .int .u32 0, .int .i64 0, .slice none 0 0, .int .u32 0, .int .i64 0, .int .u32 0] 25)) (by omega) (by omega) hp he0 he1)
    rw [← ht, ht0] at hpl
    clear ht
    go_enter Tryz.func72, Tryz.ntmps72
    go_wp2_with (first | (go_at_call 68; refine (rdim_any _ _).mono ?_; rintro e w1 ⟨rfl, rfl⟩; rw [HN.out]) | (go_at_call 69; refine hpl.out.mono ?_; rintro e w1 ⟨rfl, rfl⟩))
    obtain ⟨r0, r1, r2, r3, r4, r5, r6⟩ := FIN0.out _ _ rfl HK.out (by decide)
    refine bodyPost_ret (v := .tuple #[.agg #[.int .i64 0, .int .u32 0, .int .i64 0, .slice none 0 0, .int .u32 0, .int .i64 0, .int .u32 0], .int .i64 2]) (by simp [results, Tryz.results72, go_sem, r0, r1, r2, r3, r4, r5, r6]) rfl (def_zero HBW.out HK.out (by decide) rfl)
  have ht1 : ((t : Int) == 0) = false := beq_eq_false_iff_ne.2 (by omega)
  have htb : 3 ≤ t ∧ t ≤ 2147483647 ∧ t % 2 = 1 := by
    have h1 := powv_le rPrime N p e
    have h2 := powv_odd (pr := rPrime) (n := N) (p := p) (e := e) (by omega) (by rw [← ht]; exact ht0)
    rw [← ht] at h1 h2
    exact ⟨h2.1, h1, h2.2.1⟩
  obtain ⟨ht3, htm, hto⟩ := htb
  have hNt : N * t ≤ 32 * 2147483647 := Nat.mul_le_mul hN32 htm
  obtain ⟨s, hs⟩ : ∃ s : Nat, s = 2 * N * t := ⟨_, rfl⟩
  have hs2 : s = 2 * (N * t) := by rw [hs, Nat.mul_assoc]
  have hsb : s ≤ 137438953472 := by omega
  have hs0 : 0 < s := by have : 4 * 3 ≤ N * t := Nat.mul_le_mul hN4 ht3; omega
  have hwr : IntKind.i64.wrap ((2 : Int) * (N : Int) * (t : Int)) = s := by
    rw [show (2 : Int) * (N : Int) * (t : Int) = s by rw [hs2, Int.mul_assoc]; simp]
    simp [IntKind.wrap, IntKind.bits, IntKind.signed]; omega
  have HS := Lib.hid hs
  have HT := Lib.hid ht
  clear hs hs2 ht
  have HNEG : Hid (¬ (isDim (N : Int) = false ∨ (L : Int) < 1 ∨ 24 < (L : Int) ∨ powv rPrime N p e = 0)) := by
    rintro (h | h | h | h)
    · rw [HN.out] at h; cases h
    · omega
    · omega
    · rw [← HT.out] at h; exact ht0 h
  have hpl : Hid (Calls Tryz.prog 69 #[.int .i64 N, .int .u32 p, .int .i64 e] (w.alloc (.cells #[.int .i64 0, .int .u32 0, .int .i64 0, .slice none 0 0, .int .u32 0, .int .i64 0, .int .u32 0] 25)) fun r w' => r = .returned (.int .i64 t) ∧ w.alloc (.cells #[.int .i64 0, .int .u32 0, .int .i64 0, .slice none 0 0, .int .u32 0, .int .i64 0, .int .u32 0] 25) = w') := by
    have := rplain_any N p e (w.alloc (.cells #[.int .i64 0, .int .u32 0, .int .i64 0, .slice none 0 0, .int .u32 0, .int .i64 0, .int .u32 0] 25)) (by omega) (by omega) hp he0 he1
    rw [← HT.out] at this
    exact this
  have d1 : decide ((L : Int) < 1) = false := decide_eq_false (by omega)
  have d2 : decide ((24 : Int) < L) = false := decide_eq_false (by omega)
  by_cases hbig : 2147483647 < s
  · have HK : Hid (defErr rPrime N p e L = 4) := by
      show _ = _; unfold defErr; rw [if_neg HNEG.out, if_pos (.inl (by unfold defStep; rw [← HT.out, Int.toNat_natCast, ← HS.out]; exact hbig))]
    have d3 : decide ((2147483647 : Int) < s) = true := decide_eq_true (by omega)
    go_enter Tryz.func72, Tryz.ntmps72
    go_wp2_with (first | (go_at_call 68; refine (rdim_any _ _).mono ?_; rintro e w1 ⟨rfl, rfl⟩; rw [HN.out]) | (go_at_call 69; refine hpl.out.mono ?_; rintro e w1 ⟨rfl, rfl⟩))
    obtain ⟨r0, r1, r2, r3, r4, r5, r6⟩ := FIN0.out _ _ rfl HK.out (by decide)
    refine bodyPost_ret (v := .tuple #[.agg #[.int .i64 0, .int .u32 0, .int .i64 0, .slice none 0 0, .int .u32 0, .int .i64 0, .int .u32 0], .int .i64 4]) (by simp [results, Tryz.results72, go_sem, r0, r1, r2, r3, r4, r5, r6]) rfl (def_zero HBW.out HK.out (by decide) rfl)
  have d3 : decide ((2147483647 : Int) < s) = false := decide_eq_false (by omega)
  go_enter Tryz.func72, Tryz.ntmps72
  go_wp2_with (first | (go_at_call 68; refine (rdim_any _ _).mono ?_; rintro e w1 ⟨rfl, rfl⟩; rw [HN.out]) | (go_at_call 69; refine hpl.out.mono ?_; rintro e w1 ⟨rfl, rfl⟩))
  rw [show ((L : Int) + 1) = ((L + 1 : Nat) : Int) by simp]
  refine (rchain_any N t (L + 1) s _ HN.out hN4 hN32 ht3 htm hto (by omega) (by omega) HS.out).mono ?_
  rintro r W ⟨hb, ⟨hlen, rfl⟩ | ⟨hlen, v, rfl, hsl⟩⟩
  · have hK : Hid (defErr rPrime N p e L = 4) := by
      show _ = _
      unfold defErr
      rw [if_neg HNEG.out, if_pos (.inr (by unfold defStep; rw [← HT.out, Int.toNat_natCast, ← HS.out, Int.toNat_natCast]; exact hlen))]
    have hbk : Blk W w.heap.size [.int .i64 0, .int .u32 0, .int .i64 0, .slice none 0 0, .int .u32 0, .int .i64 0, .int .u32 0] 25 := by
      have h := Blk.new w #[.int .i64 0, .int .u32 0, .int .i64 0, .slice none 0 0, .int .u32 0, .int .i64 0, .int .u32 0] 25
      exact Blk.below (by simpa using h) hb h.lt
    have HBB := Lib.hid (HBW.out.trans (hb.mono HBW.out.size))
    have HBK := Lib.hid hbk
    clear hb hlen hbk
    go_wp2_with (refine wpList_store_row rfl 25 _ _ rfl w.heap.size rfl 25 _ _ rfl HBK.out infoP rfl (by decide +kernel) ?_)
    have hR := BoxP.ofBlk (x := zeroP) (HBK.out.row [.int .i64 0, .int .u32 0, .int .i64 0, .slice none 0 0, .int .u32 0, .int .i64 0, .int .u32 0])
    have r0 := hR.n; have r1 := hR.p; have r2 := hR.r; have r3 := hR.ch; have r4 := hR.sp; have r5 := hR.wt; have r6 := hR.er
    refine bodyPost_ret (v := .tuple #[.agg #[.int .i64 0, .int .u32 0, .int .i64 0, .slice none 0 0, .int .u32 0, .int .i64 0, .int .u32 0], .int .i64 4]) (by simp [results, Tryz.results72, go_sem, r0, r1, r2, r3, r4, r5, r6, zeroP]) rfl (def_zero (below_row HBB.out (Nat.le_refl _) _) hK.out (by decide) rfl)
  · have hK : Hid (defErr rPrime N p e L = 0) := by
      show _ = _
      unfold defErr
      rw [if_neg HNEG.out, if_neg (by unfold defStep; rw [← HT.out, Int.toNat_natCast, ← HS.out, Int.toNat_natCast]; omega)]
    have hP : Hid (defPar rPrime N p e L = { n := N, p := p, r := e, ch := (chainOf rPrime s (L + 1)).tail, sp := (chainOf rPrime s (L + 1)).headD 0, wt := 4, er := 2 }) := by
      show _ = _
      unfold defPar
      rw [if_pos hK.out]
      unfold defStep
      rw [← HT.out, Int.toNat_natCast, ← HS.out, Int.toNat_natCast]
    have hbk : Blk W w.heap.size [.int .i64 0, .int .u32 0, .int .i64 0, .slice none 0 0, .int .u32 0, .int .i64 0, .int .u32 0] 25 := by
      have h := Blk.new w #[.int .i64 0, .int .u32 0, .int .i64 0, .slice none 0 0, .int .u32 0, .int .i64 0, .int .u32 0] 25
      exact Blk.below (by simpa using h) hb h.lt
    have HBB := Lib.hid (HBW.out.trans (hb.mono HBW.out.size))
    have HBK := Lib.hid hbk
    obtain ⟨C, hC⟩ : ∃ C, C = chainOf rPrime s (L + 1) := ⟨_, rfl⟩
    rw [← hC] at hlen hsl hP
    have hlt := fun q (h : q ∈ C) => (show 1073741824 < q ∧ q < 4294967296 by rw [hC] at h; have := chainOf_lt h; omega)
    clear hC hb hbk
    obtain ⟨pa, cap, rfl, hcap, _, hrow⟩ := hsl
    rw [hlen] at hcap
    match C, hlen, hrow, hlt, hP with
    | q :: C', hlen, hrow, hlt, hP =>
      obtain ⟨b, off, rfl, hr⟩ := hrow (by simp)
      have hr0 := hr.cell 0 (by simp)
      rw [Nat.add_zero, List.getElem_cons_zero] at hr0
      have hq := (hlt q (by simp)).2
      have hbg : Hid (b ≠ w.heap.size) := by
        intro h
        rw [h, HBK.out.get off] at hr0
        have h1 := List.mem_of_getElem? hr0
        have h2 := (hlt q (by simp)).1
        simp at h1
        omega
      have hR := Lib.hid hr
      have HL := Lib.hid hlen
      have hlen2 : C'.length = L := by simpa using hlen
      have hl3 : (q :: C').length = L + 1 := hlen
      clear hr hrow hlt hlen
      subst hlen2
      go_wp2_with fail
      have z0 : W.cell? ⟨w.heap.size, 0, none⟩ = some (.int .i64 0) := HBK.out.cell 0 (by simp)
      have y0 : W.frozen? ⟨w.heap.size, 0, none⟩ = false := HBK.out.free 0
      have z1 : W.cell? ⟨w.heap.size, 1, none⟩ = some (.int .u32 0) := HBK.out.cell 1 (by simp)
      have y1 : W.frozen? ⟨w.heap.size, 1, none⟩ = false := HBK.out.free 1
      have z2 : W.cell? ⟨w.heap.size, 2, none⟩ = some (.int .i64 0) := HBK.out.cell 2 (by simp)
      have y2 : W.frozen? ⟨w.heap.size, 2, none⟩ = false := HBK.out.free 2
      have z3 : W.cell? ⟨w.heap.size, 3, none⟩ = some (.slice none 0 0) := HBK.out.cell 3 (by simp)
      have y3 : W.frozen? ⟨w.heap.size, 3, none⟩ = false := HBK.out.free 3
      have z4 : W.cell? ⟨w.heap.size, 4, none⟩ = some (.int .u32 0) := HBK.out.cell 4 (by simp)
      have y4 : W.frozen? ⟨w.heap.size, 4, none⟩ = false := HBK.out.free 4
      have z5 : W.cell? ⟨w.heap.size, 5, none⟩ = some (.int .i64 0) := HBK.out.cell 5 (by simp)
      have y5 : W.frozen? ⟨w.heap.size, 5, none⟩ = false := HBK.out.free 5
      have z6 : W.cell? ⟨w.heap.size, 6, none⟩ = some (.int .u32 0) := HBK.out.cell 6 (by simp)
      have y6 : W.frozen? ⟨w.heap.size, 6, none⟩ = false := HBK.out.free 6
      go_region
      have h7 := set7_ok HBK.out HBB.out (Nat.le_refl _) (.int .i64 (N : Int)) (.int .u32 (p : Nat)) (.int .i64 e) (.slice (some ⟨b, off + 1, none⟩) C'.length (cap - 1)) (.int .u32 (q : Nat)) (.int .i64 4) (.int .u32 2)
      generalize (((((((W.setCell ⟨w.heap.size, 0, none⟩ (.int .i64 (N : Int))).setCell ⟨w.heap.size, 1, none⟩ (.int .u32 (p : Nat))).setCell ⟨w.heap.size, 2, none⟩ (.int .i64 e)).setCell ⟨w.heap.size, 3, none⟩ (.slice (some ⟨b, off + 1, none⟩) C'.length (cap - 1))).setCell ⟨w.heap.size, 4, none⟩ (.int .u32 (q : Nat))).setCell ⟨w.heap.size, 5, none⟩ (.int .i64 4)).setCell ⟨w.heap.size, 6, none⟩ (.int .u32 2)).drew = W2 at h7 ⊢
      obtain ⟨hF, hbF, hsm⟩ := h7
      have hsame := Lib.hid (hsm b hbg.out)
      have HBF := Lib.hid hbF
      clear hsm hbF
      have hR7 : BoxP W2 w.heap.size { n := N, p := p, r := e, ch := C', sp := q, wt := 4, er := 2 } (.slice (some ⟨b, off + 1, none⟩) C'.length (cap - 1)) := BoxP.ofBlk hF
      have k0 : W2.cell? ⟨w.heap.size, 0, none⟩ = some (.int .i64 (N : Int)) := hR7.n
      have k1 : W2.cell? ⟨w.heap.size, 1, none⟩ = some (.int .u32 (p : Nat)) := hR7.p
      have k2 : W2.cell? ⟨w.heap.size, 2, none⟩ = some (.int .i64 e) := hR7.r
      have k3 : W2.cell? ⟨w.heap.size, 3, none⟩ = some (.slice (some ⟨b, off + 1, none⟩) C'.length (cap - 1)) := hR7.ch
      have k4 : W2.cell? ⟨w.heap.size, 4, none⟩ = some (.int .u32 (q : Nat)) := hR7.sp
      have k5 : W2.cell? ⟨w.heap.size, 5, none⟩ = some (.int .i64 4) := hR7.wt
      have k6 : W2.cell? ⟨w.heap.size, 6, none⟩ = some (.int .u32 2) := hR7.er
      clear hR7 hF
      go_wp2_with fail
      refine bodyPost_ret (v := .tuple #[.agg #[.int .i64 (N : Int), .int .u32 (p : Nat), .int .i64 e, .slice (some ⟨b, off + 1, none⟩) C'.length (cap - 1), .int .u32 (q : Nat), .int .i64 4, .int .u32 2], .int .i64 0]) (by simp [results, Tryz.results72, go_sem, k0, k1, k2, k3, k4, k5, k6]) rfl ?_
      refine ⟨HBF.out, .slice (some ⟨b, off + 1, none⟩) C'.length (cap - 1), ?_, ?_⟩
      · rw [hP.out, hK.out]; rfl
      · rw [hP.out]
        exact ⟨_, cap - 1, rfl, by show C'.length ≤ cap - 1; omega, by show C'.length ≤ 140737488351232; omega, fun _ => ⟨b, off + 1, rfl, (hR.out.tail).same hsame.out⟩⟩
end Go.Proofs.YtjpcljnojipdnaaGreat
