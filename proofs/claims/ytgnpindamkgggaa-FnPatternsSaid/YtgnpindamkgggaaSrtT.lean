/- slices.Sort at bytes: a call leaves the row's cells sorted. No condition beyond those in each theorem. -/
import Derived.Test.YtgnpindamkgggaaSrt13
import Derived.Sort.AssemblyPlain
namespace Go.Proofs.YtgnpindamkgggaaSrt
open Go.RowKit Go.Sort Go.Proofs Go.Proofs.YtgnpindamkgggaaRev
theorem callees13 : Callees13 where
  ins := So8.insertionSort_int
  brk := So8.breakPatterns_int
  piv := So8.choosePivot_int
  par := So8.partialInsertionSort_int
  peq := So8.partitionEqualOrdered_int
  prt := So8.partitionOrdered_int
theorem plain13 : Go.Proofs.Plain13 where
  swo := swo_ltInt
  ins := insertionSort_holds
  par := partialInsertionSort_holds
  prt := partition_holds _
  peq := partitionEqual_holds _
  pdq := pdq_sorts _
theorem pdqWalkInt : pdqWalk_int := fun blk off cap a b limit d w hH hb hab hbd hsz hl hB =>
  So8.pdqsort_int callees13 plain13 (b - a + 1) blk off cap a b limit d w (by omega) hH hb hab hbd hsz hl hB
theorem sort_int_eq (zs : List Int) : Sort.sort ltInt zs.toArray = (zs.mergeSort fun x y => decide (x ≤ y)).toArray := by
  rw [← sortInt zs]
theorem slices_Sort (blk off cap : Nat) (zs : List Int) (w : World) (hH : Holds (Value.int .u8) w blk off zs.toArray) (hblk : blk < w.heap.size) (hsz : zs.length < 4611686018427387904) :
    Calls Try.prog 60 #[.slice (some ⟨blk, off, none⟩) zs.length cap] w fun e w' =>
      e = .returned (.tuple #[]) ∧ ∃ n os, w' = grow (putRow (Value.int .u8) (Sort.ahead w n) blk off (zs.mergeSort fun x y => decide (x ≤ y)).toArray) os := by
  have h := So8.Sort_int pdqWalkInt blk off cap zs.toArray w hH hblk (by simpa using hsz)
  rw [sort_int_eq] at h
  simpa using h
end Go.Proofs.YtgnpindamkgggaaSrt
