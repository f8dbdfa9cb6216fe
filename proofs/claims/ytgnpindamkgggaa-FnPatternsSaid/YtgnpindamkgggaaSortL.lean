/- slices.Sort at bytes, over a row that is new: what a call leaves. No condition beyond those in each theorem. -/
import Derived.Test.YtgnpindamkgggaaSrtT
import Derived.Test.YtgnpindamkgggaaRev
namespace Go.Proofs.YtgnpindamkgggaaRev
open Go.RowKit Go.Proofs.YtgnpindamkgggaaW.PrintWords Go.Sort
set_option linter.unusedVariables false
set_option linter.unusedSimpArgs false
def srt (xs : List Int) : List Int := xs.mergeSort fun x y => decide (x ≤ y)
theorem srt_length (xs : List Int) : (srt xs).length = xs.length := by simp [srt]
theorem below_grow {w w1 : World} (h : Go.RowKit.Below w.heap.size w w1) (os : Array Obj) : Go.RowKit.Below w.heap.size w (grow w1 os) := by
  refine ⟨h.os, h.tape, h.output, ?_, fun k hk => ?_⟩
  · rw [size_grow]; have := h.size; omega
  · have := h.size
    rw [heap_grow_old w1 os (by omega)]
    exact h.block k hk
theorem sort_list (blk cap m : Nat) (xs : List Int) (hm : m = xs.length) (hm2 : m < 4611686018427387904) (w0 w : World) (hH : Holds encB w blk 0 xs.toArray) (hb : Go.RowKit.Below w0.heap.size w0 w) (hg : w0.heap.size ≤ blk) (hblk : blk < w.heap.size) :
    Calls Try.prog 60 #[.slice (some ⟨blk, 0, none⟩) m cap] w fun e w' => e = .returned (.tuple #[]) ∧ Holds encB w' blk 0 (srt xs).toArray ∧ Go.RowKit.Below w0.heap.size w0 w' := by
  subst hm
  refine (Go.Proofs.YtgnpindamkgggaaSrt.slices_Sort blk 0 cap xs w hH hblk hm2).mono ?_
  rintro e w' ⟨he, n, os, rfl⟩
  refine ⟨he, ?_, below_grow (below_putRow hb hg) os⟩
  refine holds_grow _ _ _ _ _ _ (by rw [size_putRow]; exact hblk) ?_
  exact holds_putRow encB (Sort.ahead w n) blk 0 xs.toArray (srt xs).toArray (holds_ahead _ _ _ _ _ _ hH) (by simp [srt])
def srtF (s : ByteArray) : ByteArray := strOfNums (srt (bytesOf s))
end Go.Proofs.YtgnpindamkgggaaRev
