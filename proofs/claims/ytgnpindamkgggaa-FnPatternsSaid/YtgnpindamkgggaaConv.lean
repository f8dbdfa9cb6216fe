/- []byte(s): the walk's law for the conversion, and what the new row reads as. No condition beyond those in each theorem. -/
import Derived.Test.YtgnpindamkgggaaWMore
import Derived.Sort.Row
import Derived.Lib.ConvBytes
namespace Go.Proofs.YtgnpindamkgggaaConv
open Go.RowKit Go.Proofs.YtgnpindamkgggaaW.PrintWords
set_option linter.unusedVariables false
set_option linter.unusedSimpArgs false
theorem get_bang (xs : List Int) (j : Nat) (h : j < xs.length) : (xs.toArray)[j]! = xs.getD j 0 := by
  simp [List.getD_eq_getElem?_getD, h, getElem!_pos]
/-- A row of bytes by its cells, none frozen, reads as its numbers. -/
theorem C_of_holds {w : World} {g : Nat} {xs : List Int} (h : Sort.Holds (Value.int .u8) w g 0 xs.toArray) (hn : xs.length ≤ 9223372036854775807) : Kd.C (Kd.int .u8) w (some ⟨g, 0, none⟩) xs.length xs := by
  refine Kd.C_of_reads (enc := Value.int .u8) (d := (0 : Int)) (h1 := fun _ => rfl) ⟨rfl, hn, fun _ => ⟨_, rfl, fun j hj => ?_⟩⟩
  have := (h j (by simpa using hj)).1
  rw [get_bang xs j hj, Nat.zero_add] at this
  rw [add_plain]
  exact this
theorem holds_bytes (W : World) (e : TypeId) (s : ByteArray) : Sort.Holds (Value.int .u8) (Lib.bytesWorld W e s) W.heap.size 0 (bytesOf s).toArray := by
  intro j hj
  have hj' : j < s.size := by
    have : j < (bytesOf s).length := by simpa using hj
    rwa [bytesOf_length] at this
  constructor
  · rw [Nat.zero_add, Lib.bytesWorld_cell W e s j hj', get_bang _ _ (by simpa using hj)]
    have h' : j < s.data.toList.length := by rw [data_length]; exact hj'
    simp [bytesOf, List.getD_eq_getElem?_getD, List.getElem?_eq_getElem h']
  · have hc : s.size ≤ (Lib.bytesCells W e s).size := by
      simp [Lib.bytesCells]
    simp only [World.frozen?, Lib.bytesWorld_at_new, Nat.zero_add]
    simp
    omega
theorem conv_event {P : Program} {ops : Array Oper} {Q : Exit → Act → World → Prop} {rest : List Oper} {o : Oper} {a : Act} {W : World} (hgd : o.guard = none) {src dst e : TypeId} {x : Operand} (ho : o.op = .convert src dst x) {s : ByteArray} (hx : a.eval x = .string s)
    {u : TypeDesc} (hs : P.underlying src = some u) (hd : P.underlying dst = some (.slice e)) (he : P.underlying e = some (.int .u8))
    (h : ∀ (g c : Nat) (w1 : World), W.heap.size ≤ g → g < w1.heap.size → s.size ≤ c → Sort.Holds (Value.int .u8) w1 g 0 (bytesOf s).toArray → Below W.heap.size W w1 → wpList P ops Q rest (a.put o.dst (.slice (some ⟨g, 0, none⟩) s.size c)) w1) : wpList P ops Q (o :: rest) a W := by
  have hr := Lib.run_convert_string_bytes (P := P) W src dst e s hs hd he
  refine Kd.event_run (w1 := Lib.bytesWorld W e s) (v := .slice (some ⟨W.heap.size, 0, none⟩) s.size (grownCap W s.size 0 e)) hgd ?_ (h W.heap.size _ _ (Nat.le_refl _) (by rw [Lib.bytesWorld_size]; omega) (grownCap_ge W s.size 0 e) (holds_bytes W e s) (bytes_below (Below.refl _ _) (Nat.le_refl _) e s))
  simp [execOp, ho, hx, hr]
end Go.Proofs.YtgnpindamkgggaaConv
