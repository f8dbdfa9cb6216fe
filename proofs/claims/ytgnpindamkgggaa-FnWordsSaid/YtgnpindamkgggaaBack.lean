/- impl.Backwards: what a call comes to. No condition beyond those in each theorem. -/
import Derived.Test.YtgnpindamkgggaaRev
namespace Go.Proofs.YtgnpindamkgggaaRev
open Go.RowKit Go.Proofs.YtgnpindamkgggaaW.PrintWords Go.Proofs.YtgnpindamkgggaaW.PrintLast Go.Proofs.YtgnpindamkgggaaW.PrintMore Go.Sort
set_option linter.unusedVariables false
set_option linter.unusedSimpArgs false
def backF (s : ByteArray) : ByteArray := if s.size ≤ 100 then strOfNums (bytesOf s).reverse else ⟨#[]⟩
set_option maxHeartbeats 8000000 in
set_option maxRecDepth 100000 in
theorem back_calls (s : ByteArray) (w : World) :
    Calls Try.prog 15 #[.string s] w fun e w' => e = .returned (.string (backF s)) ∧ Below w.heap.size w w' := by
  unfold backF
  by_cases hs : s.size ≤ 100
  · rw [if_pos hs]
    have HS := Aside0.mk hs
    have c5b0 : decide ((s.size : Int) > 100) = false := decide_eq_false_iff_not.mpr (by omega)
    clear hs
    have HB := Aside0.mk (Below.refl w.heap.size w)
    go_enter Try.func15, Try.ntmps15
    go_wp2_with (first | ((with_reducible refine gate_dst (N := 8) rfl ?_); refine Go.Proofs.YtgnpindamkgggaaConv.conv_event rfl (src := 9) (dst := 30) (e := 5) (x := .tmp 7) rfl (s := s) rfl Try.underlying9 Try.underlying30 Try.underlying5 ?_; intro g3 c3 w3 hg1 hg2 hc3 hH hb; have HH := Aside0.mk hH; have HG := Aside0.mk hg1; have n1_ := Aside0.mk (below_step (by repeat (first | (with_reducible first | exact HB.out | apply below_alloc | apply pw_below_drewN | apply below_drew1) | exact HB.out)) hb); clear HB; have HB := n1_; clear n1_ hg1 hg2 hc3 hH hb; have HL := Aside0.mk (bytesOf_length s)) | ((with_reducible refine gate_callee (f := 58) rfl ?_); refine goesL_ (some 10) rfl rfl Try.func58 (by kernel_rfl) rfl #[.slice (some ⟨g3, 0, none⟩) s.size c3] rfl (by (try simp only [List.map_toArray, List.map_cons, List.map_nil]); first | done | rfl) ?_; (with_reducible refine (rev_list g3 c3 s.size (bytesOf s) HL.out.symm ?side0 w _ ?side1 ?side2 ?side3).mono ?_); (case side0 => have := HS.out; omega); (case side1 => exact HH.out); (case side2 => exact (by repeat (first | (with_reducible first | exact HB.out | apply below_alloc | apply pw_below_drewN | apply below_drew1) | exact HB.out))); (case side3 => exact HG.out); rintro e w6 ⟨rfl, hH, hb⟩; refine ⟨_, rfl, ?_⟩; clear HH HB HG; have HB := Aside0.mk hb; have HH := Aside0.mk hH; clear hb hH) | ((with_reducible refine gate_dst (N := 12) rfl ?_); refine str_event rfl (src := 30) (dst := 9) (e := 5) (x := .tmp 11) rfl (A := some ⟨g3, 0, none⟩) (n := s.size) (c := c3) (xs := (bytesOf s).reverse) rfl Try.underlying30 Try.underlying5 Try.underlying9 ?hC ?_; (case hC => have := Go.Proofs.YtgnpindamkgggaaConv.C_of_holds HH.out (by have h1 := HS.out; have h2 := HL.out; simp; omega); rw [List.length_reverse, HL.out] at this; exact this)))
    go_ret
    exact ⟨rfl, (by repeat (first | (with_reducible first | exact HB.out | apply below_alloc | apply pw_below_drewN | apply below_drew1) | exact HB.out))⟩
  · rw [if_neg hs]
    have c5b0 : decide ((s.size : Int) > 100) = true := decide_eq_true (by omega)
    clear hs
    have HB := Aside0.mk (Below.refl w.heap.size w)
    go_enter Try.func15, Try.ntmps15
    go_wp2
    go_ret
    exact ⟨rfl, (by repeat (first | (with_reducible first | exact HB.out | apply below_alloc | apply pw_below_drewN | apply below_drew1) | exact HB.out))⟩
end Go.Proofs.YtgnpindamkgggaaRev
