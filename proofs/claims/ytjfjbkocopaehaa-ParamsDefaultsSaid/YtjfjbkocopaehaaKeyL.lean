/- obscurakit.Pick, obscuralaw13.Known, Small. -/
import Derived.Test.YtjfjbkocopaehaaKeyK
namespace Go.Proofs.Ytjfjbkocopaehaa
open Go.RowKit

set_option maxHeartbeats 1000000 in
theorem pick_any (n : Int) (m : Nat) (w : World) (hm : 1 ≤ m) (hm2 : m ≤ 9223372036854775807) :
    Calls Try.prog 16 #[.int .i64 n, .int .i64 m] w fun r w' => r = .returned (.int .i64 (n % (m : Int))) ∧ w = w' := by
  have hb0 : -(m : Int) < n.tmod m := by
    rw [Int.tmod_eq_emod]
    have h4 := Int.emod_nonneg n (b := (m : Int)) (by omega)
    have : ((m : Int).natAbs : Int) = m := by simp
    split
    · omega
    · rename_i hd
      have h6 : n % (m : Int) ≠ 0 := fun e => hd (.inr (Int.dvd_of_emod_eq_zero e))
      omega
  have hb1 : n.tmod m < m := Int.tmod_lt_of_pos _ (by omega)
  have hem : n % (m : Int) = if n.tmod m < 0 then n.tmod m + m else n.tmod m := by
    have h2 := Int.emod_add_mul_ediv n m
    have h3 := Int.tmod_add_mul_tdiv n m
    have h4 := Int.emod_nonneg n (b := (m : Int)) (by omega)
    have h5 := Int.emod_lt_of_pos n (b := (m : Int)) (by omega)
    rw [Int.tmod_eq_emod]
    have : ((m : Int).natAbs : Int) = m := by simp
    split <;> split <;> omega
  have hmz : (m : Int) ≠ 0 := by omega
  have HEM := Lib.hid hem
  clear hem
  by_cases hk : n.tmod m < 0
  · go_enter Try.func16, Try.ntmps16
    go_wp2_with fail
    go_ret
    exact ⟨ret_int (by rw [HEM.out, if_pos hk]), rfl⟩
  · go_enter Try.func16, Try.ntmps16
    go_wp2_with fail
    go_ret
    exact ⟨ret_int (by rw [HEM.out, if_neg (by omega)]), rfl⟩

theorem known_any (w : World) :
    Calls Try.prog 40 #[] w fun r w' => (∃ v, r = .returned (.agg #[v]) ∧ SliceZ .i8 w' v [1, 1, -1, 1]) ∧ Below w.heap.size w w' := by
  go_enter Try.func40, Try.ntmps40
  go_wp2_with fail
  have h1 : ∀ T, Blk ((w.alloc (.cells #[.slice (some ⟨w.heap.size + 1, 0, none⟩) 4 4] 28)).alloc (.cells #[.int .i8 1, .int .i8 1, .int .i8 (-1), .int .i8 1] T)) (w.heap.size + 1) (([1, 1, -1, 1] : List Int).map (Value.int .i8)) T := by
    intro T
    have h := Blk.new (w.alloc (.cells #[.slice (some ⟨w.heap.size + 1, 0, none⟩) 4 4] 28)) #[.int .i8 1, .int .i8 1, .int .i8 (-1), .int .i8 1] T
    have hs : (w.alloc (.cells #[.slice (some ⟨w.heap.size + 1, 0, none⟩) 4 4] 28)).heap.size = w.heap.size + 1 := by simp
    rw [hs] at h
    exact h
  have h2 : ∀ T, Below w.heap.size w ((w.alloc (.cells #[.slice (some ⟨w.heap.size + 1, 0, none⟩) 4 4] 28)).alloc (.cells #[.int .i8 1, .int .i8 1, .int .i8 (-1), .int .i8 1] T)) := fun _ => ((Below.refl _ _).alloc (Nat.le_refl _) _).alloc (by simp) _
  refine bodyPost_ret (v := .agg #[.slice (some ⟨w.heap.size + 1, 0, none⟩) 4 4]) (by simp [results, Try.results40, go_sem]) rfl ⟨⟨_, rfl, SliceZ.ofBlk (h1 _) (by decide) (by decide)⟩, h2 _⟩
end Go.Proofs.Ytjfjbkocopaehaa
