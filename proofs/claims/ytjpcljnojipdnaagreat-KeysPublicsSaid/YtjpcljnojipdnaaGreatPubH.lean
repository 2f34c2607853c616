/- keys.integers, obscuraref13.Ints; the plain public key. -/
import Derived.Test.YtjpcljnojipdnaaGreatPubG
import Derived.Test.YtjpcljnojipdnaaGreatDefE
import Derived.Test.YtjpcljnojipdnaaGreatKeyQ
namespace Go.Proofs.YtjpcljnojipdnaaGreat
open Go.RowKit Go.Shelf
set_option linter.unusedVariables false

def rowZ (n : Nat) (f : Nat → Int) : List Int := (List.range n).map f
theorem rowZ_len (n : Nat) (f : Nat → Int) : (rowZ n f).length = n := by simp [rowZ]
theorem rowZ_set {n k : Nat} {v : Int} (f : Nat → Int) (h : k < n) : (rowZ n f).set k v = rowZ n (fun j => if j = k then v else f j) := by
  refine List.ext_getElem (by simp [rowZ]) fun i h1 h2 => ?_
  have hi : i < n := by simpa [rowZ] using h2
  have e1 : (rowZ n fun j => if j = k then v else f j)[i] = if i = k then v else f i := by simp [rowZ]
  have e2 : (rowZ n f)[i]'(by rw [rowZ_len]; exact hi) = f i := by simp [rowZ]
  rw [e1, List.getElem_set]
  by_cases e : k = i
  · rw [if_pos e, if_pos e.symm]
  · rw [if_neg e, if_neg (fun h => e h.symm), e2]
theorem rowZ_self (l : List Int) : rowZ l.length (fun k => l.getD k 0) = l := by
  refine List.ext_getElem (by simp [rowZ]) fun i h1 h2 => ?_
  simp only [rowZ, List.getElem_map, List.getElem_range]
  exact getD_lt h2
theorem rowZ_congr {n : Nat} {f g : Nat → Int} (h : ∀ k, k < n → f k = g k) : rowZ n f = rowZ n g := List.map_congr_left fun k hk => h k (List.mem_range.1 hk)
theorem rowZ_at {n k : Nat} (f : Nat → Int) (h : k < n) : (rowZ n f)[k]'(by rw [rowZ_len]; exact h) = f k := by simp [rowZ]

set_option maxHeartbeats 4000000 in
set_option maxRecDepth 100000 in
theorem kints_any (sv : Value) (l : List Int) (w : World) (hs : SliceZ .i8 w sv l) (hlen : l.length ≤ 4096) :
    Calls Tryz.prog 41 #[.agg #[sv]] w fun e w' => ∃ v, e = .returned v ∧ SliceZ .i64 w' v l ∧ Below w.heap.size w w' := by
  obtain ⟨p, cap, rfl, hc, hc2, hrow⟩ := hs
  have hmk := fun wx => run_make_row' (P := Tryz.prog) 55 2 (.int .i64 0) 8 Tryz.underlying55 infoI64 rfl .i64 .i64 l.length (by omega) (by omega) wx
  have HROW := Lib.hid hrow
  clear hrow
  go_enter Tryz.func41, Tryz.ntmps41
  go_wp2_with fail
  have hb : Below w.heap.size w ((w.alloc (.cells #[.slice p l.length cap] 28)).alloc (.cells (madeCells #[.int .i64 0] l.length) 2)) := ((Below.refl _ _).alloc (Nat.le_refl _) _).alloc (by simp) _
  have hk : Blk ((w.alloc (.cells #[.slice p l.length cap] 28)).alloc (.cells (madeCells #[.int .i64 0] l.length) 2)) (w.heap.size + 1) ((rowZ l.length (fun j => if j < 0 then l.getD j 0 else 0)).map (Value.int .i64)) 2 := by
    have h := Blk.new (w.alloc (.cells #[.slice p l.length cap] 28)) (madeCells #[.int .i64 0] l.length) 2
    rw [made_list] at h
    have e : (rowZ l.length (fun j => if j < 0 then l.getD j 0 else 0)).map (Value.int .i64) = List.replicate l.length (.int .i64 0) := by
      refine List.ext_getElem (by simp [rowZ]) fun i h1 h2 => ?_
      simp [rowZ]
    rw [e]
    simpa using h
  generalize ((w.alloc (.cells #[.slice p l.length cap] 28)).alloc (.cells (madeCells #[.int .i64 0] l.length) 2)) = W1 at hb hk ⊢
  have HB := Lib.hid hb; have HK := Lib.hid hk
  clear hmk hb hk
  go_loopw [4, 5, 13] (fun _ _ vk wr => ∃ k : Nat, vk = .int .i64 k ∧ k ≤ l.length ∧ Hid (Below w.heap.size w wr) ∧ Hid (Blk wr (w.heap.size + 1) ((rowZ l.length (fun j => if j < k then l.getD j 0 else 0)).map (Value.int .i64)) 2)) (fun _ _ vk _ => l.length - (intOf vk).toNat)
  case atStart => exact ⟨0, rfl, by omega, HB, HK⟩
  case round =>
    obtain ⟨k, rfl, hk, hbl, hbk⟩ := hrel
    by_cases hlt : k < l.length
    · obtain ⟨b, off, rfl, hr⟩ := HROW.out (by intro e; rw [e] at hlt; simp at hlt)
      have cel := (below_at hbl.out hr.blk).trans (hr.cell k hlt)
      have cz : wr.cell? ⟨w.heap.size + 1, k, none⟩ = some (.int .i64 0) := by
        have h := hbk.out.cell k (by rw [List.length_map, rowZ_len]; exact hlt)
        rw [h, List.getElem_map, rowZ_at _ hlt, if_neg (by omega)]
      have fz := hbk.out.free k
      have hwf := wf_i8 (hr.rng _ (List.getElem_mem hlt))
      have hz : l.getD k 0 = l[k] := getD_lt hlt
      have hbk2 : Hid (Blk (wr.setCell ⟨w.heap.size + 1, k, none⟩ (.int .i64 l[k])) (w.heap.size + 1) ((rowZ l.length (fun j => if j < k + 1 then l.getD j 0 else 0)).map (Value.int .i64)) 2) := by
        have h := hbk.out.set k (.int .i64 l[k])
        rw [← List.map_set, rowZ_set _ hlt] at h
        rw [show rowZ l.length (fun j => if j < k + 1 then l.getD j 0 else 0) = rowZ l.length (fun j => if j = k then l[k] else if j < k then l.getD j 0 else 0) from rowZ_congr fun j hj => by
          by_cases e : j = k
          · subst e; rw [if_pos rfl, if_pos (by omega), hz]
          · rw [if_neg e]
            by_cases e2 : j < k
            · rw [if_pos e2, if_pos (by omega)]
            · rw [if_neg e2, if_neg (by omega)]]
        exact h
      have hbl2 : Hid (Below w.heap.size w (wr.setCell ⟨w.heap.size + 1, k, none⟩ (.int .i64 l[k]))) := hbl.out.setCell (p := ⟨w.heap.size + 1, k, none⟩) (by show w.heap.size ≤ w.heap.size + 1; omega) _
      have k0 : (0 : Int) ≤ (k : Int) := by omega
      have k1 : (k : Int) < (l.length : Int) := by omega
      clear hr hz
      generalize l[k] = z at *
      have e1 : IntKind.i64.wrap z = z := by rw [IntKind.wrap_i64]; omega
      go_wp2_with fail
      go_roundw
      case rel => exact ⟨k + 1, by go_num, by omega, hbl2, hbk2⟩
      case measure => simp [intOf]; omega
    · obtain rfl : k = l.length := by omega
      go_wp2_with fail
      go_ret
      refine ⟨_, rfl, ?_, hbl.out⟩
      have h := hbk.out
      rw [show rowZ l.length (fun j => if j < l.length then l.getD j 0 else 0) = l by
        conv => rhs; rw [← rowZ_self l]
        exact rowZ_congr fun j hj => if_pos hj] at h
      refine SliceZ.ofBlk h (by omega) (fun q hq => ?_)
      obtain ⟨j, hj, rfl⟩ := List.getElem_of_mem hq
      obtain ⟨b, off, _, hr⟩ := HROW.out (by intro e; rw [e] at hj; simp at hj)
      have hwf := wf_i8 (hr.rng _ (List.getElem_mem hj))
      simp [Lit.wf, IntKind.min, IntKind.max, IntKind.bits, IntKind.signed]; omega
end Go.Proofs.YtjpcljnojipdnaaGreat
