/- The sort at uint32, G: turned by a program of mine from walks at int. -/
import Derived.Shelf.SlLaysM
import Derived.Sort.AssemblyPlain
import Derived.Shelf.SortM.So_math_bits_LenIn
import Derived.Shelf.RegionOpen
import Derived.Shelf.AbstractIn
import Derived.Test.YtjfjbkocopaehaaSrtA
import Derived.Test.YtjfjbkocopaehaaSrtB
import Derived.Test.YtjfjbkocopaehaaSrtC
import Derived.Test.YtjfjbkocopaehaaSrtD
import Derived.Test.YtjfjbkocopaehaaSrtE
import Derived.Test.YtjfjbkocopaehaaSrtF
namespace Go.Proofs.Ytjfjbkocopaehaa
open Go.Proofs

section
open Go.Shelf
variable {P : Program} {ρ : Ren}

open Go.Sort

theorem callees13InM (Ly : SlLaysU.n7 P ρ) (D : Nat) : Callees13InM P ρ D where
  heap := AnySM.heapSort_intIn { Ly with } D
  rev := AnySM.reverseRange_intIn { Ly with } D
  ins := AnySM.insertionSort_intIn { Ly with } D
  brk := AnySM.breakPatterns_intIn { Ly with } D
  piv := AnySM.choosePivot_intIn { Ly with } D
  par := AnySM.partialInsertionSort_intIn { Ly with } D
  peq := AnySM.partitionEqualOrdered_intIn { Ly with } D
  prt := AnySM.partitionOrdered_intIn { Ly with } D

theorem plain13DM : Plain13 where
  swo := swo_ltInt
  ins := insertionSort_holds
  par := partialInsertionSort_holds
  prt := partition_holds _
  peq := partitionEqual_holds _
  pdq := pdq_sorts _

theorem pdqWalkInIntM (Ly : SlLaysU.n7 P ρ) (D : Nat) : pdqWalkIn_intM P ρ D := fun rm blk off cap a b limit d w hrm hH hb hab hbd hsz hl hB =>
  AnySM.pdqsort_intIn { Ly with } D (callees13InM { Ly with } D) plain13DM (b - a + 1) rm blk off cap a b limit d w (by omega) hrm hH hb hab hbd hsz hl hB

theorem lenWalkInAllM (Ly : SlLaysM.n8 P ρ) (D : Nat) : lenWalkInM P ρ D := fun n w hn => by
  have h := AnySM.bits_LenIn { Ly with } D (n : Int) w (by omega) (by omega)
  rwa [Int.toNat_natCast, bitLen_eq _ (by omega)] at h

theorem sort_int_eqDM (zs : List Int) : Sort.sort ltInt zs.toArray = (zs.mergeSort fun x y => decide (x ≤ y)).toArray := by
  rw [← sortInt zs]

theorem AnySM.slices_Sort_int_in (Ly : SlLaysU.n5 P ρ) (D blk off cap : Nat) (zs : List Int) (w : World) (hH : Holds (Value.int .u32) w blk off zs.toArray) (hblk : blk < w.heap.size) (hsz : zs.length < 4611686018427387904) :
    CallsIn (Fence.list [ρ.f 5, ρ.f 7, ρ.f 8, ρ.f 10, ρ.f 11, ρ.f 12, ρ.f 13, ρ.f 14, ρ.f 15, ρ.f 16, ρ.f 17, ρ.f 18, ρ.f 20, ρ.f 30, ρ.f 31, ρ.f 32, ρ.f 33, ρ.f 34, ρ.f 35, ρ.f 40] (some D)) 66 P (ρ.f 5) #[.slice (some ⟨blk, off, none⟩) zs.length cap] w fun e w' =>
      e = .returned (.tuple #[]) ∧ ∃ n os, w' = grow (putRow (Value.int .u32) (Sort.ahead w n) blk off (zs.mergeSort fun x y => decide (x ≤ y)).toArray) os := by
  have h := AnySM.Sort_intIn { Ly with } D (pdqWalkInIntM { Ly with } D) (lenWalkInAllM { Ly with } D) blk off cap zs.toArray w hH hblk (by simpa using hsz)
  rw [sort_int_eqDM] at h
  simpa using h

theorem AnySM.slices_Sort_int_run (Ly : SlLaysU.n5 P ρ) (blk off cap : Nat) (zs : List Int) (w : World) (hH : Holds (Value.int .u32) w blk off zs.toArray) (hblk : blk < w.heap.size) (hsz : zs.length < 4611686018427387904) (cs : List Frame) :
    ∃ e w' fr, (e = .returned (.tuple #[]) ∧ ∃ n os, w' = grow (putRow (Value.int .u32) (Sort.ahead w n) blk off (zs.mergeSort fun x y => decide (x ≤ y)).toArray) os) ∧
      StepsIn (fun m => m.within P [ρ.f 5, ρ.f 7, ρ.f 8, ρ.f 10, ρ.f 11, ρ.f 12, ρ.f 13, ρ.f 14, ρ.f 15, ρ.f 16, ρ.f 17, ρ.f 18, ρ.f 20, ρ.f 30, ρ.f 31, ρ.f 32, ρ.f 33, ρ.f 34, ρ.f 35, ρ.f 40] (some (cs.length + 67))) P (lone (Frame.enter P (ρ.f 5) #[.slice (some ⟨blk, off, none⟩) zs.length cap] .normal) cs w) (lone fr cs w') ∧ fr.fn = ρ.f 5 ∧ fr.leaving P w' e := by
  obtain ⟨e, w', fr, r, s, x⟩ := (AnySM.slices_Sort_int_in { Ly with } (cs.length + 67) blk off cap zs w hH hblk hsz).2 cs (fun d hd => by cases hd; omega)
  obtain ⟨rfl, r2⟩ := r
  exact ⟨_, w', fr, ⟨rfl, r2⟩, StepsIn.mono (fun _ h => within_iff.2 h) s, x⟩
end
end Go.Proofs.Ytjfjbkocopaehaa
