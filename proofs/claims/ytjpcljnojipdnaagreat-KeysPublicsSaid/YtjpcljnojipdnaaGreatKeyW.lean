/- obscurakit: SameLongs, SameWords. (Printed by gen_KeyK.py.) obscurakit.Pick, obscuralaw13.Known, Small. The chain of the examples, computed. -/
import Derived.Test.YtjpcljnojipdnaaGreatChnA
import Derived.Test.YtjpcljnojipdnaaGreatMthE
/-! obscurakit: SameLongs, SameWords. (Printed by gen_KeyK.py.) -/
namespace Go.Proofs.YtjpcljnojipdnaaGreat
open Go.RowKit

theorem SliceAt.asZ {w : World} {v : Value} {l : List Nat} (h : SliceAt w v l) : SliceZ .u32 w v (l.map (fun q => ((q : Nat) : Int))) := by
  obtain ⟨p, cap, rfl, h2, h3, h4⟩ := h
  refine ⟨p, cap, by rw [List.length_map], by rw [List.length_map]; exact h2, by rw [List.length_map]; exact h3, fun hne => ?_⟩
  obtain ⟨b, off, rfl, hr⟩ := h4 (by intro e; apply hne; rw [e]; rfl)
  refine ⟨b, off, rfl, hr.blk, fun i hi => ?_, fun q hq => ?_⟩
  · rw [hr.cell i (by simpa using hi), List.getElem_map]
  · obtain ⟨z, hz, rfl⟩ := List.mem_map.1 hq
    have := hr.rng z hz
    simp [Lit.wf, IntKind.min, IntKind.max, IntKind.bits, IntKind.signed]; omega

set_option maxHeartbeats 1000000 in
theorem samel_any (w : World) (v1 v2 : Value) (l m : List Int) (h1 : SliceZ .i64 w v1 l) (h2 : SliceZ .i64 w v2 m) :
    Calls Tryz.prog 34 #[v1, v2] w fun r w' => r = .returned (.bool (decide (l = m))) ∧ Below w.heap.size w w' := by
  obtain ⟨p, cap, rfl, hc, hc2, hrow⟩ := h1
  obtain ⟨p2, cap2, rfl, hd, hd2, hrow2⟩ := h2
  by_cases hlen : l.length = m.length
  case neg =>
    have e1 : ((l.length : Int) != (m.length : Int)) = true := bne_iff_ne.2 (by omega)
    have hR : Hid (decide (l = m) = false) := decide_eq_false (fun e => hlen (by rw [e]))
    clear hlen
    go_enter Tryz.func34, Tryz.ntmps34
    go_wp2_with fail
    go_ret
    exact ⟨ret_bool (by rw [hR.out]), Below.refl _ _⟩
  case pos =>
    have e1 : ((l.length : Int) != (m.length : Int)) = false := by rw [hlen]; simp
    have HL := Lib.hid hlen
    have hl1 : l.length ≤ m.length := by omega
    have hl2 : m.length ≤ l.length := by omega
    clear hlen
    by_cases hnil : l = []
    · subst hnil
      obtain rfl : m = [] := List.length_eq_zero_iff.1 (by have := HL.out; simp at this; omega)
      clear HL hl1 hl2 e1
      go_enter Tryz.func34, Tryz.ntmps34
      go_wp2_with fail
      go_rounds 1
      go_ret
      exact ⟨rfl, Below.refl _ _⟩
    · have hnil2 : m ≠ [] := by intro e; subst e; have := HL.out; simp at this; exact hnil this
      obtain ⟨b, off, rfl, hrW⟩ := hrow hnil
      obtain ⟨b2, off2, rfl, hrW2⟩ := hrow2 hnil2
      clear hnil hnil2
      go_enter Tryz.func34, Tryz.ntmps34
      go_wp2_with fail
      go_loopw [5] (fun vi wr => ∃ i : Nat, vi = .int .i64 i ∧ i ≤ l.length ∧ Hid (∀ j (hj : j < i) (h1 : j < l.length) (h2 : j < m.length), l[j] = m[j]) ∧ Below w.heap.size w wr) (fun vi _ => l.length - (intOf vi).toNat)
      case atStart => exact ⟨0, rfl, by omega, by intro j hj; omega, Below.refl _ _⟩
      case round =>
        obtain ⟨i, rfl, hi, heq, hbel⟩ := hrel
        by_cases hlt : i < l.length
        · have x1 := (hrW.below hbel hrW.blk).cell i hlt
          have x2 := (hrW2.below hbel hrW2.blk).cell i (by omega)
          have i0 : (0 : Int) ≤ i := by omega
          have i1 : (i : Int) < l.length := by omega
          have i2 : (i : Int) < m.length := by omega
          obtain ⟨z1, hz1⟩ : ∃ z, z = l[i] := ⟨_, rfl⟩
          obtain ⟨z2, hz2⟩ : ∃ z, z = m[i]'(by omega) := ⟨_, rfl⟩
          rw [← hz1] at x1
          rw [← hz2] at x2
          have HZ1 := Lib.hid hz1; have HZ2 := Lib.hid hz2
          clear hz1 hz2
          by_cases he : z1 = z2
          · have e2 : (z1 != z2) = false := by rw [he]; simp
            have heq' : Hid (∀ j (hj : j < i + 1) (h1 : j < l.length) (h2 : j < m.length), l[j] = m[j]) := by
              intro j hj h1 h2
              by_cases e : j = i
              · subst e; rw [← HZ1.out, ← HZ2.out]; exact he
              · exact heq.out j (by omega) h1 h2
            clear heq he
            go_wp2_with fail
            go_quiet (fail)
            go_wp2_with fail
            go_roundw
            case rel => exact ⟨i + 1, by go_num, by omega, heq', below_drewN hbel _⟩
            case measure => simp [intOf]; omega
          · have e2 : (z1 != z2) = true := bne_iff_ne.2 he
            have hR : Hid (decide (l = m) = false) := decide_eq_false (list_ne_at hlt (by omega) (by rw [← HZ1.out, ← HZ2.out]; exact he))
            clear heq he
            go_wp2_with fail
            go_quiet (fail)
            go_wp2_with fail
            go_ret
            exact ⟨ret_bool (by rw [hR.out]), below_drewN hbel _⟩
        · have hR : Hid (decide (l = m) = true) := decide_eq_true (list_eq_of HL.out (fun j h1 h2 => heq.out j (by omega) h1 h2))
          clear heq
          go_wp2_with fail
          go_ret
          exact ⟨ret_bool (by rw [hR.out]), hbel⟩

end Go.Proofs.YtjpcljnojipdnaaGreat

/-! obscurakit.Pick, obscuralaw13.Known, Small. -/
namespace Go.Proofs.YtjpcljnojipdnaaGreat
open Go.RowKit

theorem known_any (w : World) :
    Calls Tryz.prog 32 #[] w fun r w' => (∃ v, r = .returned (.agg #[v]) ∧ SliceZ .i8 w' v [1, 1, -1, 1]) ∧ Below w.heap.size w w' := by
  go_enter Tryz.func32, Tryz.ntmps32
  go_wp2_with fail
  have h1 : ∀ T, Blk ((w.alloc (.cells #[.slice (some ⟨w.heap.size + 1, 0, none⟩) 4 4] 28)).alloc (.cells #[.int .i8 1, .int .i8 1, .int .i8 (-1), .int .i8 1] T)) (w.heap.size + 1) (([1, 1, -1, 1] : List Int).map (Value.int .i8)) T := by
    intro T
    have h := Blk.new (w.alloc (.cells #[.slice (some ⟨w.heap.size + 1, 0, none⟩) 4 4] 28)) #[.int .i8 1, .int .i8 1, .int .i8 (-1), .int .i8 1] T
    have hs : (w.alloc (.cells #[.slice (some ⟨w.heap.size + 1, 0, none⟩) 4 4] 28)).heap.size = w.heap.size + 1 := by simp
    rw [hs] at h
    exact h
  have h2 : ∀ T, Below w.heap.size w ((w.alloc (.cells #[.slice (some ⟨w.heap.size + 1, 0, none⟩) 4 4] 28)).alloc (.cells #[.int .i8 1, .int .i8 1, .int .i8 (-1), .int .i8 1] T)) := fun _ => ((Below.refl _ _).alloc (Nat.le_refl _) _).alloc (by simp) _
  refine bodyPost_ret (v := .agg #[.slice (some ⟨w.heap.size + 1, 0, none⟩) 4 4]) (by simp [results, Tryz.results32, go_sem]) rfl ⟨⟨_, rfl, SliceZ.ofBlk (h1 _) (by decide) (by decide)⟩, h2 _⟩
end Go.Proofs.YtjpcljnojipdnaaGreat

/-! The chain of the examples, computed. -/
namespace Go.Proofs.YtjpcljnojipdnaaGreat
open Go.RowKit

/-- The same walk down with fuel. -/
def chainF (pr : Nat → Bool) (s : Nat) : Nat → Nat → Nat → Option (List Nat)
  | 0, _, _ => none
  | f + 1, k, c => if 1073741824 < k * s + 1 ∧ 0 < c then (if pr (k * s + 1) then (chainF pr s f (k - 1) (c - 1)).map ((k * s + 1) :: ·) else chainF pr s f (k - 1) c) else some []
theorem chainF_eq {pr : Nat → Bool} {s f k c : Nat} {L : List Nat} (h : chainF pr s f k c = some L) : chainGo pr s k c = L := by
  induction f generalizing k c L with
  | zero => cases h
  | succ f ih =>
    unfold chainF at h
    by_cases hc : 1073741824 < k * s + 1 ∧ 0 < c
    · rw [if_pos hc] at h
      cases hp : pr (k * s + 1) with
      | true =>
        rw [hp, if_pos rfl] at h
        obtain ⟨L', h1, rfl⟩ := Option.map_eq_some_iff.1 h
        rw [chainGo_yes hc.1 hc.2 hp, ih h1]
      | false =>
        rw [hp] at h
        rw [chainGo_no hc.1 hc.2 hp]
        exact ih (by simpa using h)
    · rw [if_neg hc] at h
      rw [chainGo_stop hc]
      exact Option.some.inj h
theorem chainGo_pr {p q : Nat → Bool} {s k c : Nat} (h : ∀ n, n ≤ k * s + 1 → p n = q n) : chainGo p s k c = chainGo q s k c := by
  induction k generalizing c with
  | zero => rfl
  | succ k ih =>
    have h2 : ∀ n, n ≤ k * s + 1 → p n = q n := fun n hn => h n (by have : k * s ≤ (k + 1) * s := Nat.mul_le_mul_right _ (by omega); omega)
    simp only [chainGo, h _ (Nat.le_refl _), ih h2]
theorem chainOf_K (s c : Nat) : chainOf rPrime s c = chainOf rPrimeK s c := by
  unfold chainOf
  exact chainGo_pr fun n hn => rPrimeK_eq n (by have := Nat.div_mul_le_self 2147483646 s; omega)
theorem chainOf_small : chainOf rPrime 136 2 = [2147483249, 2147481209] := by
  rw [chainOf_K]
  unfold chainOf
  exact chainF_eq (f := 30) (by decide +kernel)
theorem powv_small : powv rPrime 4 17 1 = 17 := by
  refine (powv_yes (k := 1) ⟨by decide, by decide, by rw [rPrimeK_eq _ (by decide)]; decide +kernel, by decide, by decide⟩ rfl (by decide)).trans (by decide)
theorem defErr_small : defErr rPrime 4 17 1 1 = 0 := by
  unfold defErr defStep
  rw [powv_small, if_neg (by decide), if_neg]
  show ¬ (2147483647 < 136 ∨ (chainOf rPrime 136 2).length < 2)
  rw [chainOf_small]; decide
def smallP : Par := { n := 4, p := 17, r := 1, ch := [2147481209], sp := 2147483249, wt := 4, er := 2 }
theorem defPar_small : defPar rPrime 4 17 1 1 = smallP := by
  unfold defPar
  rw [if_pos defErr_small]
  unfold defStep
  rw [powv_small]
  show Par.mk 4 17 1 (chainOf rPrime 136 2).tail ((chainOf rPrime 136 2).headD 0) 4 2 = _
  rw [chainOf_small]; rfl
end Go.Proofs.YtjpcljnojipdnaaGreat
