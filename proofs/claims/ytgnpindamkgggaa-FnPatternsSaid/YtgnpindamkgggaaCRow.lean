/- A row of bytes that []byte(s) made: what holds of it through a walk. No condition beyond those in each theorem. -/
import Derived.Test.YtgnpindamkgggaaRev
namespace Go.Proofs.YtgnpindamkgggaaRev
open Go.RowKit Go.Proofs.YtgnpindamkgggaaW.PrintWords Go.Sort
set_option linter.unusedVariables false
set_option linter.unusedSimpArgs false
def CR (w : World) (base : Nat) (v : Value) (xs : List Int) : Prop := ∃ g c, v = .slice (some ⟨g, 0, none⟩) xs.length c ∧ base ≤ g ∧ g < w.heap.size ∧ xs.length ≤ 9223372036854775807 ∧ Holds encB w g 0 xs.toArray
theorem CR_below {w w' : World} {base : Nat} {v : Value} {xs : List Int} (h : CR w base v xs) (hb : Go.RowKit.Below w.heap.size w w') : CR w' base v xs := by
  obtain ⟨g, c, rfl, h1, h2, h3, h4⟩ := h
  refine ⟨g, c, rfl, h1, Nat.lt_of_lt_of_le h2 hb.size, h3, fun j hj => ?_⟩
  rw [hb.cell (p := ⟨g, 0 + j, none⟩) h2, hb.frozen (p := ⟨g, 0 + j, none⟩) h2]
  exact h4 j hj
theorem CR_alloc {w : World} {base : Nat} {v : Value} {xs : List Int} (h : CR w base v xs) (o : Obj) : CR (w.alloc o) base v xs := CR_below h (below_alloc (Go.RowKit.Below.refl _ _) o)
theorem CR_drewN {w : World} {base : Nat} {v : Value} {xs : List Int} (h : CR w base v xs) (m : Nat) : CR (w.drewN m) base v xs := CR_below h (pw_below_drewN (Go.RowKit.Below.refl _ _) m)
theorem CR_drew {w : World} {base : Nat} {v : Value} {xs : List Int} (h : CR w base v xs) : CR w.drew base v xs := CR_below h (below_drew (Go.RowKit.Below.refl _ _))
theorem CR_at {w w' : World} {m base : Nat} {v : Value} {xs : List Int} (hq : w.drewN m = w') (h : CR w base v xs) : CR w' base v xs := by subst hq; exact CR_drewN h m
theorem CR_form {w : World} {base : Nat} {v : Value} {xs : List Int} (h : CR w base v xs) (hp : 0 < xs.length) : ∃ g cap, v = .slice (some ⟨g, 0, none⟩) xs.length cap ∧ base ≤ g ∧ g < w.heap.size ∧ ∃ cells : Array Value, True := by
  obtain ⟨g, c, e, h1, h2, _⟩ := h
  exact ⟨g, c, e, h1, h2, #[], trivial⟩
theorem CR_mk {w : World} {base g c : Nat} {xs : List Int} (hb : base ≤ g) (hg : g < w.heap.size) (hl : xs.length ≤ 9223372036854775807) (h : Holds encB w g 0 xs.toArray) {n : Nat} (hn : n = xs.length) : CR w base (.slice (some ⟨g, 0, none⟩) n c) xs := by
  subst hn
  exact ⟨g, c, rfl, hb, hg, hl, h⟩
theorem CR_celln {w : World} {base g n cap : Nat} {xs : List Int} (d : Int) (h : CR w base (.slice (some ⟨g, 0, none⟩) n cap) xs) (i : Int) (h0 : 0 ≤ i) (hi : i < n) : w.cell? ⟨g, i.toNat, none⟩ = some (Value.int .u8 (rdOf d xs i)) ∧ w.frozen? ⟨g, i.toNat, none⟩ = false := by
  obtain ⟨g', c', e, h1, h2, h3, h4⟩ := h
  injection e with ea en ec
  injection ea with ea
  injection ea with ea
  subst ea en
  have hj : i.toNat < xs.toArray.size := by simp; omega
  have := h4 i.toNat hj
  rw [Nat.zero_add] at this
  refine ⟨?_, this.2⟩
  rw [this.1]
  have hj' : i.toNat < xs.length := by simpa using hj
  simp [encB, rdOf, List.getD_eq_getElem?_getD, hj', getElem!_pos]
theorem CR_putg {w : World} {base g n cap : Nat} {xs : List Int} (h : CR w base (.slice (some ⟨g, 0, none⟩) n cap) xs) (i : Int) (x : Int) (hi : i.toNat < n) : CR (w.setCell ⟨g, i.toNat, none⟩ (Value.int .u8 x)) base (.slice (some ⟨g, 0, none⟩) n cap) (xs.set i.toNat x) := by
  obtain ⟨g', c', e, h1, h2, h3, h4⟩ := h
  injection e with ea en ec
  injection ea with ea
  injection ea with ea
  subst ea en
  have hs := putRow_set encB w g 0 xs.toArray i.toNat x (by simpa using hi)
  rw [putRow_self encB w g 0 xs.toArray h4, Nat.zero_add] at hs
  have e2 : w.setCell ⟨g, i.toNat, none⟩ (Value.int .u8 x) = putRow encB w g 0 (xs.toArray.setIfInBounds i.toNat x) := hs
  rw [e2]
  refine CR_mk h1 (by rw [size_putRow]; exact h2) (by simpa using h3) ?_ (by simp)
  have := holds_putRow encB w g 0 xs.toArray (xs.toArray.setIfInBounds i.toNat x) h4 (by simp)
  simpa using this
theorem CR_C {w : World} {base : Nat} {v : Value} {xs : List Int} (h : CR w base v xs) : ∃ A c, v = .slice A xs.length c ∧ (Kd.int .u8).C w A xs.length xs := by
  obtain ⟨g, c, e, h1, h2, h3, h4⟩ := h
  exact ⟨_, c, e, Go.Proofs.YtgnpindamkgggaaConv.C_of_holds h4 h3⟩
end Go.Proofs.YtgnpindamkgggaaRev
