/- What arguments read as: slices of strings, structs by value, slices of structs: each argument that can be read as data is such a value. No condition beyond those in each theorem. -/
import Derived.Test.YtcagamenognlpaaWWords
import Derived.Deep.Slices
import Derived.Deep.Fields
import Derived.SliceStrings
import Derived.ChangeSame
import Derived.ProofKit
namespace Go.Proofs.YtcagamenognlpaaOpen
open Go.ChangeShapes Go.WideShapes Go.Deep Go.RowKit Go.Proofs.YtcagamenognlpaaW.PrintWords
set_option linter.unusedVariables false
section
variable {H : Type} {enc : TypeId × Value → H} {P : Program} {W : World} {base : Nat} {spare : Nat → Bool} {held : Bool}
theorem strs_reads {t e : TypeId} {a : Option Addr} {len cap : Nat} {d : DataW H} {p : List MemPlace} (ht : P.underlying t = some (.slice e)) (he : P.underlying e = some .string) (hc : P.cellsOf e = 1)
    (h : DataW.Trod enc P W base spare held t (.slice a len cap) d p) : ∃ l : List ByteArray, l.length = len ∧ len ≤ cap ∧ Kd.C Kd.string W a len l ∧ ∀ s ∈ l, s.size ≤ maxLen := by
  obtain ⟨fuel, hf⟩ := h
  rcases open_strings ht he hc hf with ⟨hcs, _⟩ | ⟨x, l, c, ss, hcs, _, hl, hm, hz, _, hcell, hws⟩
  · simp [Value.cells] at hcs
    obtain ⟨rfl, rfl, rfl⟩ := hcs
    exact ⟨[], rfl, Nat.le_refl _, ⟨rfl, by decide, fun h => absurd h (by decide)⟩, fun s hs => by cases hs⟩
  · simp [Value.cells] at hcs
    obtain ⟨rfl, rfl, rfl⟩ := hcs
    have hle : len ≤ ss.length := by
      rw [hz]
      split
      · exact hl
      · exact Nat.le_refl _
    refine ⟨ss.take len, by simp; omega, hl, ⟨by simp; omega, by unfold maxLen at hm; omega, fun _ => ⟨x, rfl, fun j q hj => ⟨[.string q], rfl, rfl, fun i u hu => ?_⟩⟩⟩, fun s hs => hws s (List.mem_of_mem_take hs)⟩
    have hjl : j < len := by
      have := (List.getElem?_eq_some_iff.1 hj).1
      simp at this
      omega
    cases i with
    | zero =>
      obtain rfl : Value.string q = u := by simpa using hu
      have e : ss.getD j ByteArray.empty = q := by
        rw [List.getElem?_take_of_lt hjl] at hj
        simp [List.getD_eq_getElem?_getD, hj]
      show W.cell? (x.add (j * 1 + 0)) = _
      rw [Nat.mul_one, Nat.add_zero, hcell j (by omega), e]
    | succ i => simp at hu
/-- The cells of a struct of a string and three numbers. -/
theorem cells_siii {t : TypeId} {f0 f1 f2 f3 : Field} {fuel : Nat} {cs : List Value} {x : DataW H × List MemPlace} (hs : P.underlying t = some (.struct #[f0, f1, f2, f3])) (hone : oneCellFields P #[f0, f1, f2, f3] = true) (hC : P.cellsOf t = 4)
    (h0 : P.underlying f0.type = some .string) (h1 : P.underlying f1.type = some (.int .i64)) (h2 : P.underlying f2.type = some (.int .i64)) (h3 : P.underlying f3.type = some (.int .i64)) (h : DataW.trod enc P W base spare held fuel t cs = some x) :
    ∃ (s : ByteArray) (a b c : Int), cs = [.string s, .int .i64 a, .int .i64 b, .int .i64 c] ∧ s.size ≤ maxLen ∧ (Lit.int .i64 a).wf = true ∧ (Lit.int .i64 b).wf = true ∧ (Lit.int .i64 c).wf = true := by
  obtain ⟨ys, n, _, _, hlen, hyl, hf⟩ := DataW.trod_struct hs h
  obtain ⟨o0, k0⟩ := hone_of hone 0 f0 rfl
  obtain ⟨o1, k1⟩ := hone_of hone 1 f1 rfl
  obtain ⟨o2, k2⟩ := hone_of hone 2 f2 rfl
  obtain ⟨o3, k3⟩ := hone_of hone 3 f3 rfl
  match cs, hlen.trans hC with
  | [c0, c1, c2, c3], _ =>
    match ys, hyl with
    | [y0, y1, y2, y3], _ =>
      have g0 : DataW.trod enc P W base spare held n f0.type [c0] = some y0 := by simpa [o0, k0] using hf 0 f0 rfl
      have g1 : DataW.trod enc P W base spare held n f1.type [c1] = some y1 := by simpa [o1, k1] using hf 1 f1 rfl
      have g2 : DataW.trod enc P W base spare held n f2.type [c2] = some y2 := by simpa [o2, k2] using hf 2 f2 rfl
      have g3 : DataW.trod enc P W base spare held n f3.type [c3] = some y3 := by simpa [o3, k3] using hf 3 f3 rfl
      obtain ⟨s, e0, _, w0⟩ := DataW.trod_string h0 g0
      obtain ⟨a, e1, _, w1⟩ := DataW.trod_int h1 g1
      obtain ⟨b, e2, _, w2⟩ := DataW.trod_int h2 g2
      obtain ⟨c, e3, _, w3⟩ := DataW.trod_int h3 g3
      simp only [List.cons.injEq, and_true] at e0 e1 e2 e3
      subst e0 e1 e2 e3
      exact ⟨s, a, b, c, rfl, w0, w1, w2, w3⟩
/-- The cells of a struct of two numbers and a string. -/
theorem cells_iis {t : TypeId} {f0 f1 f2 : Field} {fuel : Nat} {cs : List Value} {x : DataW H × List MemPlace} (hs : P.underlying t = some (.struct #[f0, f1, f2])) (hone : oneCellFields P #[f0, f1, f2] = true) (hC : P.cellsOf t = 3)
    (h0 : P.underlying f0.type = some (.int .i64)) (h1 : P.underlying f1.type = some (.int .i64)) (h2 : P.underlying f2.type = some .string) (h : DataW.trod enc P W base spare held fuel t cs = some x) :
    ∃ (a b : Int) (s : ByteArray), cs = [.int .i64 a, .int .i64 b, .string s] ∧ (Lit.int .i64 a).wf = true ∧ (Lit.int .i64 b).wf = true ∧ s.size ≤ maxLen := by
  obtain ⟨ys, n, _, _, hlen, hyl, hf⟩ := DataW.trod_struct hs h
  obtain ⟨o0, k0⟩ := hone_of hone 0 f0 rfl
  obtain ⟨o1, k1⟩ := hone_of hone 1 f1 rfl
  obtain ⟨o2, k2⟩ := hone_of hone 2 f2 rfl
  match cs, hlen.trans hC with
  | [c0, c1, c2], _ =>
    match ys, hyl with
    | [y0, y1, y2], _ =>
      have g0 : DataW.trod enc P W base spare held n f0.type [c0] = some y0 := by simpa [o0, k0] using hf 0 f0 rfl
      have g1 : DataW.trod enc P W base spare held n f1.type [c1] = some y1 := by simpa [o1, k1] using hf 1 f1 rfl
      have g2 : DataW.trod enc P W base spare held n f2.type [c2] = some y2 := by simpa [o2, k2] using hf 2 f2 rfl
      obtain ⟨a, e0, _, w0⟩ := DataW.trod_int h0 g0
      obtain ⟨b, e1, _, w1⟩ := DataW.trod_int h1 g1
      obtain ⟨s, e2, _, w2⟩ := DataW.trod_string h2 g2
      simp only [List.cons.injEq, and_true] at e0 e1 e2
      subst e0 e1 e2
      exact ⟨a, b, s, rfl, w0, w1, w2⟩
theorem agg_iis {r : Reach} {b0 : Nat} {t : TypeId} {f0 f1 f2 : Field} {v : Value} {d : DataW H} {p : List MemPlace} (hs : P.underlying t = some (.struct #[f0, f1, f2])) (hone : oneCellFields P #[f0, f1, f2] = true) (hC : P.cellsOf t = 3)
    (h0 : P.underlying f0.type = some (.int .i64)) (h1 : P.underlying f1.type = some (.int .i64)) (h2 : P.underlying f2.type = some .string) (hv : Value.okWide P W r b0 t v) (h : DataW.Trod enc P W base spare held t v d p) :
    ∃ (a b : Int) (s : ByteArray), v = .agg #[.int .i64 a, .int .i64 b, .string s] ∧ (Lit.int .i64 a).wf = true ∧ (Lit.int .i64 b).wf = true ∧ s.size ≤ maxLen := by
  obtain ⟨cs, rfl, _⟩ := okWide_struct hs hv
  obtain ⟨fuel, hf⟩ := h
  obtain ⟨a, b, s, e, w⟩ := cells_iis hs hone hC h0 h1 h2 hf
  refine ⟨a, b, s, ?_, w⟩
  congr 1
  apply Array.ext'
  simpa [Value.cells] using e
theorem agg_siii {r : Reach} {b0 : Nat} {t : TypeId} {f0 f1 f2 f3 : Field} {v : Value} {d : DataW H} {p : List MemPlace} (hs : P.underlying t = some (.struct #[f0, f1, f2, f3])) (hone : oneCellFields P #[f0, f1, f2, f3] = true) (hC : P.cellsOf t = 4)
    (h0 : P.underlying f0.type = some .string) (h1 : P.underlying f1.type = some (.int .i64)) (h2 : P.underlying f2.type = some (.int .i64)) (h3 : P.underlying f3.type = some (.int .i64)) (hv : Value.okWide P W r b0 t v) (h : DataW.Trod enc P W base spare held t v d p) :
    ∃ (s : ByteArray) (a b c : Int), v = .agg #[.string s, .int .i64 a, .int .i64 b, .int .i64 c] ∧ s.size ≤ maxLen ∧ (Lit.int .i64 a).wf = true ∧ (Lit.int .i64 b).wf = true ∧ (Lit.int .i64 c).wf = true := by
  obtain ⟨cs, rfl, _⟩ := okWide_struct hs hv
  obtain ⟨fuel, hf⟩ := h
  obtain ⟨s, a, b, c, e, w⟩ := cells_siii hs hone hC h0 h1 h2 h3 hf
  refine ⟨s, a, b, c, ?_, w⟩
  congr 1
  apply Array.ext'
  simpa [Value.cells] using e
theorem rows_siii {α : Type} {D : Kd α} (mk : ByteArray → Int → Int → Int → α) (hmk : ∀ w s a b c, D.K w (mk s a b c) [.string s, .int .i64 a, .int .i64 b, .int .i64 c]) (hsz : D.sz = 4) {t e : TypeId} {f0 f1 f2 f3 : Field} {a : Option Addr} {len cap : Nat} {d : DataW H} {p : List MemPlace}
    (ht : P.underlying t = some (.slice e)) (hs : P.underlying e = some (.struct #[f0, f1, f2, f3])) (hone : oneCellFields P #[f0, f1, f2, f3] = true) (hC : P.cellsOf e = 4)
    (h0 : P.underlying f0.type = some .string) (h1 : P.underlying f1.type = some (.int .i64)) (h2 : P.underlying f2.type = some (.int .i64)) (h3 : P.underlying f3.type = some (.int .i64))
    (h : DataW.Trod enc P W base spare held t (.slice a len cap) d p) :
    ∃ l : List α, l.length = len ∧ len ≤ cap ∧ D.C W a len l ∧ ∀ x ∈ l, ∃ (s : ByteArray) (a b c : Int), x = mk s a b c ∧ s.size ≤ maxLen ∧ (Lit.int .i64 a).wf = true ∧ (Lit.int .i64 b).wf = true ∧ (Lit.int .i64 c).wf = true := by
  obtain ⟨fuel, hf⟩ := h
  rcases open_slice ht hf with ⟨hcs, _⟩ | ⟨x, l, c, m, n, Dt, Pl, hcs, _, hl, hm, hmm, _, hi⟩
  · simp [Value.cells] at hcs
    obtain ⟨rfl, rfl, rfl⟩ := hcs
    exact ⟨[], rfl, Nat.le_refl _, ⟨rfl, by decide, fun h => absurd h (by decide)⟩, fun s hs => by cases hs⟩
  · simp [Value.cells] at hcs
    obtain ⟨rfl, rfl, rfl⟩ := hcs
    have hle : len ≤ m := by
      rw [hmm]
      split
      · exact hl
      · exact Nat.le_refl _
    have each : ∀ i : Fin len, ∃ y : α, (∃ (s : ByteArray) (a b c : Int), y = mk s a b c ∧ s.size ≤ maxLen ∧ (Lit.int .i64 a).wf = true ∧ (Lit.int .i64 b).wf = true ∧ (Lit.int .i64 c).wf = true) ∧
        ∃ cs : List Value, cs.length = 4 ∧ D.K W y cs ∧ ∀ k u, cs[k]? = some u → W.cell? (x.add (i.1 * 4 + k)) = some u := by
      intro i
      obtain ⟨cs', hc, ht'⟩ := hi i.1 (by have := i.2; omega)
      rw [hC] at hc
      obtain ⟨s, a, b, c, e, w⟩ := cells_siii hs hone hC h0 h1 h2 h3 ht'
      obtain ⟨_, _, hat⟩ := World.cells?_some hc
      refine ⟨mk s a b c, ⟨s, a, b, c, rfl, w⟩, cs', by rw [e]; rfl, by rw [e]; exact hmk W s a b c, fun k u hu => ?_⟩
      have hk : k < 4 := by
        have := (List.getElem?_eq_some_iff.1 hu).1
        rw [e] at this
        simpa using this
      rw [← Go.Deep.add_add, hat k hk, hu]
    refine ⟨List.ofFn fun i => (each i).choose, by simp, hl, ⟨by simp, by unfold maxLen at hm; omega, fun _ => ⟨x, rfl, fun j q hj => ?_⟩⟩, fun y hy => ?_⟩
    · have hjl : j < len := by
        have := (List.getElem?_eq_some_iff.1 hj).1
        simpa using this
      have e : (each ⟨j, hjl⟩).choose = q := by
        rw [List.getElem?_eq_getElem (by simpa using hjl)] at hj
        simpa using hj
      obtain ⟨cs, hcl, hK, hcell⟩ := (each ⟨j, hjl⟩).choose_spec.2
      rw [e] at hK
      rw [hsz]
      exact ⟨cs, hcl, hK, hcell⟩
    · obtain ⟨i, rfl⟩ := List.mem_ofFn.1 hy
      exact (each i).choose_spec.1
end
end Go.Proofs.YtcagamenognlpaaOpen
