/- slices.IndexFunc and ContainsFunc at ring.Check's closure. -/
import Derived.Test.YtjpcljnojipdnaaGreatRngE
namespace Go.Proofs.YtjpcljnojipdnaaGreat
open Go.RowKit

theorem rc1_any (c a q : Nat) (w : World) (h : w.cell? ⟨a, 0, none⟩ = some (.int .u32 (q : Nat))) :
    Calls Tryz.prog 145 #[.int .u32 (c : Nat), .pointer (some ⟨a, 0, none⟩)] w fun r w' => r = .returned (.bool (decide (q ≤ c))) ∧ w = w' := by
  by_cases h1 : q ≤ c
  · have e1 : decide (q ≤ c) = true := decide_eq_true h1
    have e2 : decide ((q : Int) ≤ (c : Int)) = true := decide_eq_true (by omega)
    rw [e1]
    go_enter Tryz.func145, Tryz.ntmps145
    go_wp2_with fail
    go_ret
    exact ⟨rfl, rfl⟩
  · have e1 : decide (q ≤ c) = false := decide_eq_false h1
    have e2 : decide ((q : Int) ≤ (c : Int)) = false := decide_eq_false (by omega)
    rw [e1]
    go_enter Tryz.func145, Tryz.ntmps145
    go_wp2_with fail
    go_ret
    exact ⟨rfl, rfl⟩

set_option maxHeartbeats 1000000 in
theorem ridx_any (b off cap a q : Nat) (l : List Nat) (w : World) (hl : RowAt w b off l) (hlen : l.length ≤ 140737488351232) (hc : w.cell? ⟨a, 0, none⟩ = some (.int .u32 (q : Nat))) (haw : a < w.heap.size) :
    Calls Tryz.prog 142 #[.slice (some ⟨b, off, none⟩) l.length cap, .func (.func 145) #[] #[.pointer (some ⟨a, 0, none⟩)]] w fun r w' =>
      r = .returned (.int .i64 (idxOf (fun c => decide (q ≤ c)) l)) ∧ w' = w := by
  go_enter Tryz.func142, Tryz.ntmps142
  go_wp2_with fail
  go_loopw [5, 8] (fun _ vk wr => ∃ k : Nat, vk = .int .i64 k ∧ k ≤ l.length ∧ Hid (∀ j (hj : j < k) (hj2 : j < l.length), decide (q ≤ l[j]) = false) ∧ Hid (wr = w)) (fun _ vk _ => l.length - (intOf vk).toNat)
  case atStart => exact ⟨0, rfl, by omega, by intro j hj; omega, rfl⟩
  case round =>
    obtain ⟨k, rfl, hk, hno, hbel⟩ := hrel
    replace hbel := hbel.out
    subst hbel
    by_cases hlt : k < l.length
    · have hcell : wr.cell? ⟨b, off + k, none⟩ = some (.int .u32 (l[k] : Nat)) := hl.cell k hlt
      have hc' : Hid (wr.cell? ⟨a, 0, none⟩ = some (.int .u32 (q : Nat))) := hc
      cases hv : decide (q ≤ l[k]) with
      | true =>
        have hR : Hid (idxOf (fun c => decide (q ≤ c)) l = k) := idxOf_hit hlt (fun j hj => hno.out j hj (by omega)) hv
        generalize l[k] = z at *
        have hv' := Lib.hid hv
        clear hv
        go_wp2_with (go_at_call 145; refine (rc1_any _ _ _ _ hc'.out).mono ?_; rintro e w1 ⟨rfl, rfl⟩; rw [hv'.out])
        go_ret
        exact ⟨ret_int (by rw [hR.out]), rfl⟩
      | false =>
        have hno' : Hid (∀ j (hj : j < k + 1) (hj2 : j < l.length), decide (q ≤ l[j]) = false) := by
          intro j hj hj2
          by_cases e : j = k
          · subst e; exact hv
          · exact hno.out j (by omega) hj2
        generalize l[k] = z at *
        have hv' := Lib.hid hv
        clear hv
        go_wp2_with (go_at_call 145; refine (rc1_any _ _ _ _ hc'.out).mono ?_; rintro e w1 ⟨rfl, rfl⟩; rw [hv'.out])
        go_roundw
        case rel => exact ⟨k + 1, by go_num, by omega, hno', (by first | exact (trivial : True) | rfl)⟩
        case measure => simp [intOf]; omega
    · have hR : Hid (idxOf (fun c => decide (q ≤ c)) l = -1) := idxOf_miss (fun j hj => hno.out j (by omega) hj)
      go_wp2_with fail
      go_ret
      exact ⟨ret_int (by rw [hR.out]), rfl⟩

theorem rcon_any (b off cap a q : Nat) (l : List Nat) (w : World) (hl : RowAt w b off l) (hlen : l.length ≤ 140737488351232) (hc : w.cell? ⟨a, 0, none⟩ = some (.int .u32 (q : Nat))) (haw : a < w.heap.size) :
    Calls Tryz.prog 119 #[.slice (some ⟨b, off, none⟩) l.length cap, .func (.func 145) #[] #[.pointer (some ⟨a, 0, none⟩)]] w fun r w' =>
      r = .returned (.bool (l.any (fun c => decide (q ≤ c)))) ∧ w' = w := by
  have hc' := Lib.hid hc
  clear hc
  go_enter Tryz.func119, Tryz.ntmps119
  go_wp2_with (go_at_call 142; refine (ridx_any _ _ _ _ _ _ _ hl hlen hc'.out haw).mono ?_; rintro e w1 ⟨rfl, rfl⟩)
  go_ret
  exact ⟨ret_bool (idxOf_nonneg _ _), rfl⟩
end Go.Proofs.YtjpcljnojipdnaaGreat
