/- slices.Reverse at bytes: its walk, and what a row laid over a block's cells reads as. No condition beyond those in each theorem. -/
import Derived.Test.YtgnpindamkgggaaProg
import Derived.Test.YtgnpindamkgggaaConv
import Derived.Test.YtgnpindamkgggaaEnc
import Derived.Sort.WalkB12
import Derived.Lib.SlicesMore
import Derived.Deep.LoopGhost
namespace Go.Proofs.YtgnpindamkgggaaRev
open Go.RowKit Go.Proofs.YtgnpindamkgggaaW.PrintWords Go.Sort
set_option linter.unusedVariables false
set_option linter.unusedSimpArgs false
set_option maxHeartbeats 1600000 in
set_option maxRecDepth 1000000 in
/-- slices.Reverse at bytes: the row's cells hold the reverse. -/
theorem rev_holds (blk off cap : Nat) (d : Array Int) (w : World) (hH : Holds encB w blk off d) (hsz : d.size ≤ 9223372036854775807) :
    Calls Try.prog 58 #[.slice (some ⟨blk, off, none⟩) d.size cap] w fun e w' => e = .returned (.tuple #[]) ∧ ∃ n, w' = putRow encB (Sort.ahead w n) blk off d.reverse := by
  go_enter Try.func58, Try.ntmps58
  go_wp2
  go_loopg [2, 3] d.size (fun k s2 s3 wr => ∃ (i jn : Nat) (jz : Int) (dk : Array Int) (n : Nat), s2 = .int .i64 i ∧ s3 = .int .i64 jz ∧ ((i : Int) < jz → jz = jn ∧ jn < d.size) ∧ (¬ (i : Int) < jz → ¬ i < jn) ∧ jn - i ≤ k ∧
    dk.size = d.size ∧ wr = putRow encB (Sort.ahead w n) blk off dk ∧ reverseLoop i jn dk = reverseLoop 0 (d.size - 1) d)
  case atStart => exact ⟨0, d.size - 1, (d.size : Int) - 1, d, 0, rfl, rfl, fun h => ⟨by omega, by omega⟩, fun h => by omega, by omega, rfl, (putRow_self encB w blk off d hH).symm, rfl⟩
  case round =>
    obtain ⟨i, jn, jz, dk, n, rfl, rfl, h1, h2, hk, hds, hwr, heq⟩ := hrel
    by_cases hlt : (i : Int) < jz
    · obtain ⟨rfl, hjn⟩ := h1 hlt
      have hij : i < jn := by omega
      have hHk : Holds encB wr blk off dk := by rw [hwr]; exact holds_putRow encB _ blk off d dk (holds_ahead encB w n blk off d hH) hds
      obtain ⟨ci, fi⟩ := hHk i (by omega)
      obtain ⟨cj, fj⟩ := hHk jn (by omega)
      have A : Aside (wr = putRow encB (Sort.ahead w n) blk off dk) := hwr
      clear hwr hHk hH h1 h2
      go_wp2_with fail
      go_region
      go_wp2
      go_roundg (jn - 1 - (i + 1))
      case measure => omega
      case rel =>
        rw [reverseLoop, if_pos hij] at heq
        exact ⟨i + 1, jn - 1, (jn : Int) - 1, swp dk i jn, n + 1, by simp, rfl, fun h => ⟨by omega, by omega⟩, fun h => by omega, Nat.le_refl _, by rw [size_swp]; exact hds,
          swap_world encB (by omega) (by omega) A.out (by first | rfl | simp [encB, getElem!_pos, show jn < dk.size by omega]) (by first | rfl | simp [encB, getElem!_pos, show i < dk.size by omega]), heq⟩
    · have hnot := h2 hlt
      go_wp2
      go_end0
      refine ⟨rfl, n, ?_⟩
      rw [reverseLoop, if_neg hnot] at heq
      rw [← Lib.reverseLoop_reverse, ← heq]
/-- A row laid over a block that is new: the older blocks are as they were. -/
theorem below_putRow {base : Nat} {w w1 : World} {n blk off : Nat} {d : Array Int} (h : Below base w w1) (hb : base ≤ blk) : Below base w (putRow encB (Sort.ahead w1 n) blk off d) := by
  refine ⟨h.os, h.tape, h.output, ?_, fun k hk => ?_⟩
  · rw [size_putRow]; exact h.size
  · rw [← h.block k hk]
    simp only [putRow, mapBlock, Array.getElem?_modify, Sort.ahead]
    rw [if_neg (by omega)]
/-- The same, at a list, what is new behind it: the cells read as the reverse; the older blocks are as they were. -/
theorem rev_list (blk cap m : Nat) (xs : List Int) (hm : m = xs.length) (hm2 : m ≤ 9223372036854775807) (w0 w : World) (hH : Holds encB w blk 0 xs.toArray) (hb : Below w0.heap.size w0 w) (hg : w0.heap.size ≤ blk) :
    Calls Try.prog 58 #[.slice (some ⟨blk, 0, none⟩) m cap] w fun e w' => e = .returned (.tuple #[]) ∧ Holds encB w' blk 0 xs.reverse.toArray ∧ Below w0.heap.size w0 w' := by
  have h := rev_holds blk 0 cap xs.toArray w hH (by simp; omega)
  simp only [List.size_toArray, ← hm] at h
  refine h.mono ?_
  rintro e w' ⟨he, n, rfl⟩
  refine ⟨he, ?_, below_putRow hb hg⟩
  have := holds_putRow encB (Sort.ahead w n) blk 0 xs.toArray xs.toArray.reverse (holds_ahead _ _ _ _ _ _ hH) (by simp)
  simpa using this
theorem str_event {P : Program} {ops : Array Oper} {Q : Exit → Act → World → Prop} {rest : List Oper} {o : Oper} {a : Act} {W : World} (hgd : o.guard = none) {src dst e : TypeId} {x : Operand} (ho : o.op = .convert src dst x) {A : Option Addr} {n c : Nat} {xs : List Int} (hx : a.eval x = .slice A n c)
    (hs : P.underlying src = some (.slice e)) (he : P.underlying e = some (.int .u8)) (hd : P.underlying dst = some .string)
    (hC : (Kd.int .u8).C W A n xs)
    (h : wpList P ops Q rest (a.put o.dst (.string (strOfNums xs))) W) : wpList P ops Q (o :: rest) a W := by
  have hr := Kd.C_string (c := c) hs he hd hC
  refine Kd.event_run (w1 := W) (v := .string (strOfNums xs)) hgd ?_ h
  simp [execOp, ho, hx, hr]
theorem isEmpty_bne (l : List UInt8) : l.isEmpty = !(l != []) := by
  cases l <;> rfl
end Go.Proofs.YtgnpindamkgggaaRev
