/- The table of powers of ten, as a call finds it: what holds in every later world in which the older blocks are as they were. No condition beyond those in each theorem. -/
import Derived.Test.YtddkpgmomakkcaaDoorShelf
import Derived.Lib.LaidTab
import Derived.Lib.ItoaNum
import Derived.Below
import Derived.Sort.Grow
import Derived.RowKit
namespace Go.Proofs.YtddkpgmomakkcaaDoorTab
open Go.RowKit Go.Sort
def tabAt (w : World) : Prop := Lib.TabIs Tryd.prog w "internal/strconv.uint64pow10" .u64 Lib.pow10Tab
theorem globalTen : Tryd.prog.globalNamed "internal/strconv.uint64pow10" = some 0 := by kernel_rfl
theorem tab_below {w w' : World} (h : tabAt w) (hb : Go.RowKit.Below w.heap.size w w') : tabAt w' := by
  unfold tabAt Lib.TabIs World.var? at h ⊢
  rw [globalTen] at h ⊢
  simp only [Option.bind_some] at h ⊢
  by_cases hg : 0 < w.heap.size
  · rw [hb.block 0 hg]
    exact h
  · rw [Array.getElem?_eq_none (by omega)] at h
    cases h
theorem grow_below (w : World) (k : Nat) (os : Array Obj) : Go.RowKit.Below w.heap.size w (grow (w.drewN k) os) :=
  ⟨rfl, rfl, rfl, by show w.heap.size ≤ (w.heap ++ os).size; rw [Array.size_append]; omega, fun j hj => by
    show (w.heap ++ os)[j]? = _
    rw [Array.getElem?_append_left hj]⟩
end Go.Proofs.YtddkpgmomakkcaaDoorTab
