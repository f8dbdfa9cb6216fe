/- Contracts of Go functions that one law uses: each call comes to what the Lean function of its name says, under the conditions in its theorem; and the law's walk and row. -/
import Derived.Test.YtgnpindamkgggaaPFnWordsx0
import Derived.Test.YtgnpindamkgggaaPFnWordsx1
import Derived.Test.YtgnpindamkgggaaPFnWordsx2
namespace Go.Proofs.Ytgnpindamkgggaa.PFnWords
open Go.RowKit Go.Proofs.YtgnpindamkgggaaW.PrintWords Go.Proofs.YtgnpindamkgggaaW.PrintLast Go.Proofs.YtgnpindamkgggaaW.PrintMore
attribute [local go_sem] max2_int min2_int max_two min_two max_three min_three max_four min_four   -- for this text's walks alone
set_option linter.unusedVariables false
set_option linter.unusedSimpArgs false

/-! ### laws_FnWords: function 5 -/
mutual
def laws_FnWords.j0 : Nat → List Int → ByteArray → Bool → Option (Bool)
  | 0, _, _, _ => none
  | k + 1, x0, x3, x25 => if x25 = true then (some false) else ((impl_SortLetters.f k x3).bind fun t188 => ((impl_IsWord.f k x3).bind fun t189 => (if t189 = true then (if (t188.size : Int) = (x3.size : Int) then ((impl_Backwards.f x3).bind fun t190 => ((impl_SortLetters.f k t190).bind fun t191 => (if t191.toList = t188.toList then ((impl_IsWord.f k x3).bind fun t192 => (if t192 = true then (laws_FnWords.j1 k x0 false) else (laws_FnWords.j1 k x0 (t188.toList != ([] : List UInt8))))) else (laws_FnWords.j1 k x0 true)))) else (laws_FnWords.j1 k x0 true)) else ((impl_IsWord.f k x3).bind fun t193 => (if t193 = true then (laws_FnWords.j1 k x0 false) else (laws_FnWords.j1 k x0 (t188.toList != ([] : List UInt8))))))))
def laws_FnWords.j1 : Nat → List Int → Bool → Option (Bool)
  | 0, _, _ => none
  | k + 1, x0, x52 => if x52 = true then (some false) else ((spec_DrawIsRearranged.f k x0).bind fun bt194 => ((impl_IsRearranged.f k bt194.1 bt194.2).bind fun t196 => ((impl_IsRearranged.f k bt194.2 bt194.1).bind fun t197 => (if (t196 != t197) = true then (laws_FnWords.j2 k x0 true) else ((impl_IsRearranged.f k bt194.1 bt194.1).bind fun t198 => (if t198 = true then (laws_FnWords.j2 k x0 true) else ((impl_IsRearranged.f k bt194.1 bt194.2).bind fun t199 => (if t199 = true then (if (bt194.1.size : Int) = (bt194.2.size : Int) then ((impl_CountLetter.f k bt194.1 (⟨#[97]⟩ : ByteArray)).bind fun t200 => ((impl_CountLetter.f k bt194.2 (⟨#[97]⟩ : ByteArray)).bind fun t201 => (laws_FnWords.j2 k x0 (t200 != t201)))) else (laws_FnWords.j2 k x0 true)) else (laws_FnWords.j2 k x0 false)))))))))
def laws_FnWords.j2 : Nat → List Int → Bool → Option (Bool)
  | 0, _, _ => none
  | k + 1, x0, x88 => if x88 = true then (some false) else ((spec_DrawBeforeWord.f k x0).bind fun bt202 => ((impl_BeforeWord.f bt202.1 bt202.2).bind fun t204 => (if t204 = true then ((impl_BeforeWord.f bt202.2 bt202.1).bind fun t205 => (if t205 = true then (some false) else ((impl_BeforeWord.f bt202.1 bt202.2).bind fun t206 => (if t206 = true then (some true) else ((impl_BeforeWord.f bt202.2 bt202.1).bind fun t207 => (if t207 = true then (some true) else (some (bt202.1.toList == bt202.2.toList)))))))) else ((impl_BeforeWord.f bt202.1 bt202.2).bind fun t208 => (if t208 = true then (some true) else ((impl_BeforeWord.f bt202.2 bt202.1).bind fun t209 => (if t209 = true then (some true) else (some (bt202.1.toList == bt202.2.toList)))))))))
end
def laws_FnWords.f (k : Nat) (l0 : List Int) : Option (Bool) := (laws_big.f l0).bind fun t181 => (if t181 = true then (some true) else ((spec_DrawIsWord.f k l0).bind fun t182 => ((impl_Backwards.f t182).bind fun t183 => ((impl_Backwards.f t183).bind fun t184 => (if t184.toList = t182.toList then ((impl_Backwards.f t182).bind fun t185 => ((impl_IsWord.f k t185).bind fun t186 => ((impl_IsWord.f k t182).bind fun t187 => (laws_FnWords.j0 k l0 t182 (t186 != t187))))) else (laws_FnWords.j0 k l0 t182 true))))))
theorem laws_FnWords.mono_l : ∀ k, (∀ y0 y1 y2, LeO (laws_FnWords.j0 k y0 y1 y2) (laws_FnWords.j0 (k + 1) y0 y1 y2)) ∧ (∀ y0 y1, LeO (laws_FnWords.j1 k y0 y1) (laws_FnWords.j1 (k + 1) y0 y1)) ∧ (∀ y0 y1, LeO (laws_FnWords.j2 k y0 y1) (laws_FnWords.j2 (k + 1) y0 y1))
  | 0 => ⟨fun _ _ _ r h => by simp [laws_FnWords.j0] at h, fun _ _ r h => by simp [laws_FnWords.j1] at h, fun _ _ r h => by simp [laws_FnWords.j2] at h⟩
  | k + 1 => by
    obtain ⟨ih0, ih1, ih2⟩ := laws_FnWords.mono_l k
    refine ⟨?_, ?_, ?_⟩
    · intro y0 y1 y2
      unfold laws_FnWords.j0
      repeat' first
      | (with_reducible exact ih0 _ _ _)
      | (with_reducible exact ih1 _ _)
      | (with_reducible exact ih2 _ _)
      | (with_reducible exact impl_CountLetter.mono _ _ _)
      | (with_reducible exact impl_IsRearranged.mono _ _ _)
      | (with_reducible exact impl_IsWord.mono _ _)
      | (with_reducible exact impl_SortLetters.mono _ _)
      | (with_reducible exact spec_DrawBeforeWord.mono _ _)
      | (with_reducible exact spec_DrawIsRearranged.mono _ _)
      | (with_reducible exact spec_DrawIsWord.mono _ _)
      | (with_reducible exact LeO.refl _)
      | (with_reducible exact LeO.none _)
      | (with_reducible refine LeO.ite ?_ ?_)
      | (with_reducible refine LeO.bind ?_ (fun _ => ?_))
      | exact ih0 _ _ _
      | exact ih1 _ _
      | exact ih2 _ _
      | exact impl_CountLetter.mono _ _ _
      | exact impl_IsRearranged.mono _ _ _
      | exact impl_IsWord.mono _ _
      | exact impl_SortLetters.mono _ _
      | exact spec_DrawBeforeWord.mono _ _
      | exact spec_DrawIsRearranged.mono _ _
      | exact spec_DrawIsWord.mono _ _
      | exact LeO.none _
      | refine LeO.ite ?_ ?_
      | refine LeO.bind ?_ (fun _ => ?_)
    · intro y0 y1
      unfold laws_FnWords.j1
      repeat' first
      | (with_reducible exact ih0 _ _ _)
      | (with_reducible exact ih1 _ _)
      | (with_reducible exact ih2 _ _)
      | (with_reducible exact impl_CountLetter.mono _ _ _)
      | (with_reducible exact impl_IsRearranged.mono _ _ _)
      | (with_reducible exact impl_IsWord.mono _ _)
      | (with_reducible exact impl_SortLetters.mono _ _)
      | (with_reducible exact spec_DrawBeforeWord.mono _ _)
      | (with_reducible exact spec_DrawIsRearranged.mono _ _)
      | (with_reducible exact spec_DrawIsWord.mono _ _)
      | (with_reducible exact LeO.refl _)
      | (with_reducible exact LeO.none _)
      | (with_reducible refine LeO.ite ?_ ?_)
      | (with_reducible refine LeO.bind ?_ (fun _ => ?_))
      | exact ih0 _ _ _
      | exact ih1 _ _
      | exact ih2 _ _
      | exact impl_CountLetter.mono _ _ _
      | exact impl_IsRearranged.mono _ _ _
      | exact impl_IsWord.mono _ _
      | exact impl_SortLetters.mono _ _
      | exact spec_DrawBeforeWord.mono _ _
      | exact spec_DrawIsRearranged.mono _ _
      | exact spec_DrawIsWord.mono _ _
      | exact LeO.none _
      | refine LeO.ite ?_ ?_
      | refine LeO.bind ?_ (fun _ => ?_)
    · intro y0 y1
      unfold laws_FnWords.j2
      repeat' first
      | (with_reducible exact ih0 _ _ _)
      | (with_reducible exact ih1 _ _)
      | (with_reducible exact ih2 _ _)
      | (with_reducible exact impl_CountLetter.mono _ _ _)
      | (with_reducible exact impl_IsRearranged.mono _ _ _)
      | (with_reducible exact impl_IsWord.mono _ _)
      | (with_reducible exact impl_SortLetters.mono _ _)
      | (with_reducible exact spec_DrawBeforeWord.mono _ _)
      | (with_reducible exact spec_DrawIsRearranged.mono _ _)
      | (with_reducible exact spec_DrawIsWord.mono _ _)
      | (with_reducible exact LeO.refl _)
      | (with_reducible exact LeO.none _)
      | (with_reducible refine LeO.ite ?_ ?_)
      | (with_reducible refine LeO.bind ?_ (fun _ => ?_))
      | exact ih0 _ _ _
      | exact ih1 _ _
      | exact ih2 _ _
      | exact impl_CountLetter.mono _ _ _
      | exact impl_IsRearranged.mono _ _ _
      | exact impl_IsWord.mono _ _
      | exact impl_SortLetters.mono _ _
      | exact spec_DrawBeforeWord.mono _ _
      | exact spec_DrawIsRearranged.mono _ _
      | exact spec_DrawIsWord.mono _ _
      | exact LeO.none _
      | refine LeO.ite ?_ ?_
      | refine LeO.bind ?_ (fun _ => ?_)
theorem laws_FnWords.mono : ∀ a0 k, LeO (laws_FnWords.f k a0) (laws_FnWords.f (k + 1) a0) := by
  intro a0 k
  obtain ⟨ih0, ih1, ih2⟩ := laws_FnWords.mono_l k
  unfold laws_FnWords.f
  repeat' first
      | (with_reducible exact ih0 _ _ _)
      | (with_reducible exact ih1 _ _)
      | (with_reducible exact ih2 _ _)
      | (with_reducible exact impl_CountLetter.mono _ _ _)
      | (with_reducible exact impl_IsRearranged.mono _ _ _)
      | (with_reducible exact impl_IsWord.mono _ _)
      | (with_reducible exact impl_SortLetters.mono _ _)
      | (with_reducible exact spec_DrawBeforeWord.mono _ _)
      | (with_reducible exact spec_DrawIsRearranged.mono _ _)
      | (with_reducible exact spec_DrawIsWord.mono _ _)
      | (with_reducible exact LeO.refl _)
      | (with_reducible exact LeO.none _)
      | (with_reducible refine LeO.ite ?_ ?_)
      | (with_reducible refine LeO.bind ?_ (fun _ => ?_))
      | exact ih0 _ _ _
      | exact ih1 _ _
      | exact ih2 _ _
      | exact impl_CountLetter.mono _ _ _
      | exact impl_IsRearranged.mono _ _ _
      | exact impl_IsWord.mono _ _
      | exact impl_SortLetters.mono _ _
      | exact spec_DrawBeforeWord.mono _ _
      | exact spec_DrawIsRearranged.mono _ _
      | exact spec_DrawIsWord.mono _ _
      | exact LeO.none _
      | refine LeO.ite ?_ ?_
      | refine LeO.bind ?_ (fun _ => ?_)
set_option maxHeartbeats 8000000 in
set_option maxRecDepth 100000 in
theorem laws_FnWords.calls (k : Nat) (A0 : Option Addr) (c0 : Nat) (l0 : List Int) (r : Bool) (w : World) (hr0 : Kd.C (Kd.int .u8) w A0 l0.length l0) (hc0 : l0.length ≤ c0) (h : laws_FnWords.f k l0 = some r) :
    Calls Try.prog 5 #[.slice A0 l0.length c0] w fun e w' => e = .returned (.bool r) ∧ Below w.heap.size w w' := by
  have HR0 := Aside0.mk hr0
  have HC0 := Aside0.mk hc0
  clear hr0 hc0
  have HB := Aside0.mk (Below.refl w.heap.size w)
  have H : ((laws_big.f l0).bind fun t181 => (if t181 = true then (some true) else ((spec_DrawIsWord.f k l0).bind fun t182 => ((impl_Backwards.f t182).bind fun t183 => ((impl_Backwards.f t183).bind fun t184 => (if t184.toList = t182.toList then ((impl_Backwards.f t182).bind fun t185 => ((impl_IsWord.f k t185).bind fun t186 => ((impl_IsWord.f k t182).bind fun t187 => (laws_FnWords.j0 k l0 t182 (t186 != t187))))) else (laws_FnWords.j0 k l0 t182 true))))))) = some r := h
  clear h
  replace H := Option.bind_eq_some_iff.mp H
  obtain ⟨t181, A20, H⟩ := H
  replace H : (if t181 = true then (some true) else ((spec_DrawIsWord.f k l0).bind fun t182 => ((impl_Backwards.f t182).bind fun t183 => ((impl_Backwards.f t183).bind fun t184 => (if t184.toList = t182.toList then ((impl_Backwards.f t182).bind fun t185 => ((impl_IsWord.f k t185).bind fun t186 => ((impl_IsWord.f k t182).bind fun t187 => (laws_FnWords.j0 k l0 t182 (t186 != t187))))) else (laws_FnWords.j0 k l0 t182 true)))))) = some r := H
  have A2 := Aside0.mk A20
  clear A20
  by_cases c3 : t181 = true
  · subst c3
    have H1 : (some true) = some r := by rw [if_pos rfl] at H; exact H
    clear H
    have H := H1
    clear H1
    obtain rfl := Option.some.inj H
    go_enter Try.func5, Try.ntmps5
    go_wp2_with (first | ((with_reducible refine gate_callee (f := 21) rfl ?_); refine goesL_ (some 10) rfl rfl Try.func21 (by kernel_rfl) rfl #[.slice A0 l0.length c0] rfl (by (try simp only [List.map_toArray, List.map_cons, List.map_nil]); first | done | rfl | (simp only [List.length_drop, List.length_take]; rfl)) ?_; (with_reducible refine (laws_big.calls _ _ l0 true _ ?side1 ?side2 A2.out).mono ?_); (case side1 => repeat (first | exact HR0.out | (with_reducible refine Kd.C_alloc ?_ _) | (with_reducible refine Kd.C_drewN ?_ _) | (with_reducible refine Kd.C_drew ?_))); (case side2 => exact HC0.out); rintro e w' ⟨rfl, ⟨nd, rfl⟩⟩; refine ⟨_, rfl, ?_⟩))
    go_ret
    exact ⟨by first | rfl | (simp [errW_none, errW_some] <;> rfl) | (simp [*, errW_none, errW_some] <;> rfl) | (exfalso; first | exact absurd (A10.out.symm.trans A25.out) (by simp) | exact absurd (A22.out.symm.trans A28.out) (by simp) | exact absurd (A22.out.symm.trans A36.out) (by simp) | exact absurd (A28.out.symm.trans A36.out) (by simp) | exact absurd (A42.out.symm.trans A52.out) (by simp) | exact absurd (A7.out.symm.trans A10.out) (by simp) | exact absurd (A7.out.symm.trans A25.out) (by simp) | exact absurd (A71.out.symm.trans A76.out) (by simp) | exact absurd (A71.out.symm.trans A83.out) (by simp) | exact absurd (A73.out.symm.trans A79.out) (by simp) | exact absurd (A73.out.symm.trans A86.out) (by simp) | exact absurd (A76.out.symm.trans A83.out) (by simp) | exact absurd (A79.out.symm.trans A86.out) (by simp)), by repeat (first | (with_reducible first | exact HB.out | apply below_alloc | apply pw_below_drewN | apply below_drew1) | exact HB.out)⟩
  · replace c3 := Bool.eq_false_iff.mpr c3
    subst c3
    have H1 : ((spec_DrawIsWord.f k l0).bind fun t182 => ((impl_Backwards.f t182).bind fun t183 => ((impl_Backwards.f t183).bind fun t184 => (if t184.toList = t182.toList then ((impl_Backwards.f t182).bind fun t185 => ((impl_IsWord.f k t185).bind fun t186 => ((impl_IsWord.f k t182).bind fun t187 => (laws_FnWords.j0 k l0 t182 (t186 != t187))))) else (laws_FnWords.j0 k l0 t182 true))))) = some r := by rw [if_neg (show ¬ (false = true) by decide)] at H; exact H
    clear H
    have H := H1
    clear H1
    replace H := Option.bind_eq_some_iff.mp H
    obtain ⟨t182, A40, H⟩ := H
    replace H : ((impl_Backwards.f t182).bind fun t183 => ((impl_Backwards.f t183).bind fun t184 => (if t184.toList = t182.toList then ((impl_Backwards.f t182).bind fun t185 => ((impl_IsWord.f k t185).bind fun t186 => ((impl_IsWord.f k t182).bind fun t187 => (laws_FnWords.j0 k l0 t182 (t186 != t187))))) else (laws_FnWords.j0 k l0 t182 true)))) = some r := H
    have A4 := Aside0.mk A40
    clear A40
    have HC5 := Aside0.mk H
    clear H
    go_enter Try.func5, Try.ntmps5
    go_upto_region 4 with (first | ((with_reducible refine gate_callee (f := 21) rfl ?_); refine goesL_ (some 10) rfl rfl Try.func21 (by kernel_rfl) rfl #[.slice A0 l0.length c0] rfl (by (try simp only [List.map_toArray, List.map_cons, List.map_nil]); first | done | rfl | (simp only [List.length_drop, List.length_take]; rfl)) ?_; (with_reducible refine (laws_big.calls _ _ l0 false _ ?side1 ?side2 A2.out).mono ?_); (case side1 => repeat (first | exact HR0.out | (with_reducible refine Kd.C_alloc ?_ _) | (with_reducible refine Kd.C_drewN ?_ _) | (with_reducible refine Kd.C_drew ?_))); (case side2 => exact HC0.out); rintro e w' ⟨rfl, ⟨nd, rfl⟩⟩; refine ⟨_, rfl, ?_⟩) | ((with_reducible refine gate_callee (f := 22) rfl ?_); refine goesL_ (some 12) rfl rfl Try.func22 (by kernel_rfl) rfl #[.slice A0 l0.length c0] rfl (by (try simp only [List.map_toArray, List.map_cons, List.map_nil]); first | done | rfl | (simp only [List.length_drop, List.length_take]; rfl)) ?_; (with_reducible refine (spec_DrawIsWord.calls k _ _ l0 t182 _ ?side1 ?side2 A4.out).mono ?_); (case side1 => repeat (first | exact HR0.out | (with_reducible refine Kd.C_alloc ?_ _) | (with_reducible refine Kd.C_drewN ?_ _) | (with_reducible refine Kd.C_drew ?_))); (case side2 => exact HC0.out); rintro e w6 ⟨rfl, hb⟩; refine ⟨_, rfl, ?_⟩; have n0_ := Aside0.mk (below_step (by repeat (first | (with_reducible first | exact HB.out | apply below_alloc | apply pw_below_drewN | apply below_drew1) | exact HB.out)) hb); clear HB; have HB := n0_; clear n0_; (try clear hb); (try clear hb2); (try clear hk); (try clear hi)))
    (try simp only [Act.put, List.setIfInBounds_toArray, List.set_cons_zero, List.set_cons_succ])
    go_cut [25] (fun v25 wc => ∃ (kq : Nat) (x25_4 : Bool), v25 = .bool x25_4 ∧ Aside0 (laws_FnWords.j0 kq l0 t182 x25_4 = some r) ∧ Aside0 (kq ≤ k) ∧ Aside0 (Below w.heap.size w wc))
    case first =>
      have H := HC5.out
      clear HC5
      replace H := Option.bind_eq_some_iff.mp H
      obtain ⟨t183, A70, H⟩ := H
      replace H : ((impl_Backwards.f t183).bind fun t184 => (if t184.toList = t182.toList then ((impl_Backwards.f t182).bind fun t185 => ((impl_IsWord.f k t185).bind fun t186 => ((impl_IsWord.f k t182).bind fun t187 => (laws_FnWords.j0 k l0 t182 (t186 != t187))))) else (laws_FnWords.j0 k l0 t182 true))) = some r := H
      have A7 := Aside0.mk A70
      clear A70
      replace H := Option.bind_eq_some_iff.mp H
      obtain ⟨t184, A80, H⟩ := H
      replace H : (if t184.toList = t182.toList then ((impl_Backwards.f t182).bind fun t185 => ((impl_IsWord.f k t185).bind fun t186 => ((impl_IsWord.f k t182).bind fun t187 => (laws_FnWords.j0 k l0 t182 (t186 != t187))))) else (laws_FnWords.j0 k l0 t182 true)) = some r := H
      have A8 := Aside0.mk A80
      clear A80
      by_cases c9 : t184.toList = t182.toList
      · rw [if_pos c9] at H
        have c9b0 : (t184.toList == t182.toList) = true := beq_iff_eq.mpr c9
        have c9b1 : (t184.toList != t182.toList) = false := bne_eq_false_iff_eq.mpr c9
        clear c9
        (first | rw [c9b0] | (simp only [i64_w, i32_w]; rw [c9b0]) | skip)
        replace H := Option.bind_eq_some_iff.mp H
        obtain ⟨t185, A100, H⟩ := H
        replace H : ((impl_IsWord.f k t185).bind fun t186 => ((impl_IsWord.f k t182).bind fun t187 => (laws_FnWords.j0 k l0 t182 (t186 != t187)))) = some r := H
        have A10 := Aside0.mk A100
        clear A100
        replace H := Option.bind_eq_some_iff.mp H
        obtain ⟨t186, A110, H⟩ := H
        replace H : ((impl_IsWord.f k t182).bind fun t187 => (laws_FnWords.j0 k l0 t182 (t186 != t187))) = some r := H
        have A11 := Aside0.mk A110
        clear A110
        replace H := Option.bind_eq_some_iff.mp H
        obtain ⟨t187, A120, H⟩ := H
        replace H : (laws_FnWords.j0 k l0 t182 (t186 != t187)) = some r := H
        have A12 := Aside0.mk A120
        clear A120
        have H' := Aside0.mk H
        clear H
        go_wp2_with (first | ((with_reducible refine gate_callee (f := 15) rfl ?_); refine goesL_ (some 14) rfl rfl Try.func15 (by kernel_rfl) rfl #[.string t182] rfl (by (try simp only [List.map_toArray, List.map_cons, List.map_nil]); first | done | rfl | (simp only [List.length_drop, List.length_take]; rfl)) ?_; (with_reducible refine (impl_Backwards.calls t182 t183 _ A7.out).mono ?_); rintro e w13 ⟨rfl, hb⟩; refine ⟨_, rfl, ?_⟩; have n0_ := Aside0.mk (below_step (by repeat (first | (with_reducible first | exact HB.out | apply below_alloc | apply pw_below_drewN | apply below_drew1) | exact HB.out)) hb); clear HB; have HB := n0_; clear n0_; (try clear hb); (try clear hb2); (try clear hk); (try clear hi)) | ((with_reducible refine gate_callee (f := 15) rfl ?_); refine goesL_ (some 15) rfl rfl Try.func15 (by kernel_rfl) rfl #[.string t183] rfl (by (try simp only [List.map_toArray, List.map_cons, List.map_nil]); first | done | rfl | (simp only [List.length_drop, List.length_take]; rfl)) ?_; (with_reducible refine (impl_Backwards.calls t183 t184 _ A8.out).mono ?_); rintro e w14 ⟨rfl, hb⟩; refine ⟨_, rfl, ?_⟩; have n0_ := Aside0.mk (below_step (by repeat (first | (with_reducible first | exact HB.out | apply below_alloc | apply pw_below_drewN | apply below_drew1) | exact HB.out)) hb); clear HB; have HB := n0_; clear n0_; (try clear hb); (try clear hb2); (try clear hk); (try clear hi)) | (go_at_call 15; (with_reducible refine (impl_Backwards.calls t182 t185 _ A10.out).mono ?_); rintro e w15 ⟨rfl, hb⟩; have n0_ := Aside0.mk (below_step (by repeat (first | (with_reducible first | exact HB.out | apply below_alloc | apply pw_below_drewN | apply below_drew1) | exact HB.out)) hb); clear HB; have HB := n0_; clear n0_; (try clear hb); (try clear hb2); (try clear hk); (try clear hi)) | (go_at_call 23; (with_reducible refine (impl_IsWord.calls k t185 t186 _ A11.out).mono ?_); rintro e w' ⟨rfl, ⟨nd, rfl⟩⟩) | (go_at_call 23; (with_reducible refine (impl_IsWord.calls k t182 t187 _ A12.out).mono ?_); rintro e w' ⟨rfl, ⟨nd, rfl⟩⟩))
        go_meet
        case rel => exact ⟨_, ((t186 != t187)), (by first | rfl | (simp; done) | (simp [*]; done) | (simp; exact Go.Proofs.YtgnpindamkgggaaRev.isEmpty_bne _) | (simp [*]; exact Go.Proofs.YtgnpindamkgggaaRev.isEmpty_bne _)), H', ⟨by first | omega | exact Nat.le_refl _⟩, ⟨by repeat (first | (with_reducible first | exact HB.out | apply below_alloc | apply pw_below_drewN | apply below_drew1) | exact HB.out)⟩⟩
      · rw [if_neg c9] at H
        have c9b0 : (t184.toList == t182.toList) = false := beq_eq_false_iff_ne.mpr c9
        have c9b1 : (t184.toList != t182.toList) = true := bne_iff_ne.mpr c9
        (first | rw [c9b0] | (simp only [i64_w, i32_w]; rw [c9b0]) | skip)
        have H' := Aside0.mk H
        clear H
        go_wp2_with (first | ((with_reducible refine gate_callee (f := 15) rfl ?_); refine goesL_ (some 14) rfl rfl Try.func15 (by kernel_rfl) rfl #[.string t182] rfl (by (try simp only [List.map_toArray, List.map_cons, List.map_nil]); first | done | rfl | (simp only [List.length_drop, List.length_take]; rfl)) ?_; (with_reducible refine (impl_Backwards.calls t182 t183 _ A7.out).mono ?_); rintro e w16 ⟨rfl, hb⟩; refine ⟨_, rfl, ?_⟩; have n0_ := Aside0.mk (below_step (by repeat (first | (with_reducible first | exact HB.out | apply below_alloc | apply pw_below_drewN | apply below_drew1) | exact HB.out)) hb); clear HB; have HB := n0_; clear n0_; (try clear hb); (try clear hb2); (try clear hk); (try clear hi)) | ((with_reducible refine gate_callee (f := 15) rfl ?_); refine goesL_ (some 15) rfl rfl Try.func15 (by kernel_rfl) rfl #[.string t183] rfl (by (try simp only [List.map_toArray, List.map_cons, List.map_nil]); first | done | rfl | (simp only [List.length_drop, List.length_take]; rfl)) ?_; (with_reducible refine (impl_Backwards.calls t183 t184 _ A8.out).mono ?_); rintro e w17 ⟨rfl, hb⟩; refine ⟨_, rfl, ?_⟩; have n0_ := Aside0.mk (below_step (by repeat (first | (with_reducible first | exact HB.out | apply below_alloc | apply pw_below_drewN | apply below_drew1) | exact HB.out)) hb); clear HB; have HB := n0_; clear n0_; (try clear hb); (try clear hb2); (try clear hk); (try clear hi)))
        go_meet
        case rel => exact ⟨_, (true), (by first | rfl | (simp; done) | (simp [*]; done) | (simp; exact Go.Proofs.YtgnpindamkgggaaRev.isEmpty_bne _) | (simp [*]; exact Go.Proofs.YtgnpindamkgggaaRev.isEmpty_bne _)), H', ⟨by first | omega | exact Nat.le_refl _⟩, ⟨by repeat (first | (with_reducible first | exact HB.out | apply below_alloc | apply pw_below_drewN | apply below_drew1) | exact HB.out)⟩⟩
    case rest =>
      clear HC5
      try clear c1
      try clear c2
      try clear p2
      try clear c3
      try clear c5
      try clear c9
      try clear c9b0
      try clear c9b1
      try clear c15
      obtain ⟨kq, x25_4, rfl, HA, HJ4, HB⟩ := hcut
      cases kq with
      | zero => exact absurd HA.out (by simp [laws_FnWords.j0])
      | succ kj4 =>
        have H := HA.out
        clear HA
        simp only [laws_FnWords.j0] at H
        by_cases c18 : x25_4 = true
        · subst c18
          have H1 : (some false) = some r := by rw [if_pos rfl] at H; exact H
          clear H
          have H := H1
          clear H1
          obtain rfl := Option.some.inj H
          go_wp2
          go_ret
          exact ⟨by first | rfl | (simp [errW_none, errW_some] <;> rfl) | (simp [*, errW_none, errW_some] <;> rfl) | (exfalso; first | exact absurd (A10.out.symm.trans A25.out) (by simp) | exact absurd (A22.out.symm.trans A28.out) (by simp) | exact absurd (A22.out.symm.trans A36.out) (by simp) | exact absurd (A28.out.symm.trans A36.out) (by simp) | exact absurd (A42.out.symm.trans A52.out) (by simp) | exact absurd (A7.out.symm.trans A10.out) (by simp) | exact absurd (A7.out.symm.trans A25.out) (by simp) | exact absurd (A71.out.symm.trans A76.out) (by simp) | exact absurd (A71.out.symm.trans A83.out) (by simp) | exact absurd (A73.out.symm.trans A79.out) (by simp) | exact absurd (A73.out.symm.trans A86.out) (by simp) | exact absurd (A76.out.symm.trans A83.out) (by simp) | exact absurd (A79.out.symm.trans A86.out) (by simp)), by repeat (first | (with_reducible first | exact HB.out | apply below_alloc | apply pw_below_drewN | apply below_drew1) | exact HB.out)⟩
        · replace c18 := Bool.eq_false_iff.mpr c18
          subst c18
          have H1 : ((impl_SortLetters.f kj4 t182).bind fun t188 => ((impl_IsWord.f kj4 t182).bind fun t189 => (if t189 = true then (if (t188.size : Int) = (t182.size : Int) then ((impl_Backwards.f t182).bind fun t190 => ((impl_SortLetters.f kj4 t190).bind fun t191 => (if t191.toList = t188.toList then ((impl_IsWord.f kj4 t182).bind fun t192 => (if t192 = true then (laws_FnWords.j1 kj4 l0 false) else (laws_FnWords.j1 kj4 l0 (t188.toList != ([] : List UInt8))))) else (laws_FnWords.j1 kj4 l0 true)))) else (laws_FnWords.j1 kj4 l0 true)) else ((impl_IsWord.f kj4 t182).bind fun t193 => (if t193 = true then (laws_FnWords.j1 kj4 l0 false) else (laws_FnWords.j1 kj4 l0 (t188.toList != ([] : List UInt8)))))))) = some r := by rw [if_neg (show ¬ (false = true) by decide)] at H; exact H
          clear H
          have H := H1
          clear H1
          replace H := Option.bind_eq_some_iff.mp H
          obtain ⟨t188, A190, H⟩ := H
          replace H : ((impl_IsWord.f kj4 t182).bind fun t189 => (if t189 = true then (if (t188.size : Int) = (t182.size : Int) then ((impl_Backwards.f t182).bind fun t190 => ((impl_SortLetters.f kj4 t190).bind fun t191 => (if t191.toList = t188.toList then ((impl_IsWord.f kj4 t182).bind fun t192 => (if t192 = true then (laws_FnWords.j1 kj4 l0 false) else (laws_FnWords.j1 kj4 l0 (t188.toList != ([] : List UInt8))))) else (laws_FnWords.j1 kj4 l0 true)))) else (laws_FnWords.j1 kj4 l0 true)) else ((impl_IsWord.f kj4 t182).bind fun t193 => (if t193 = true then (laws_FnWords.j1 kj4 l0 false) else (laws_FnWords.j1 kj4 l0 (t188.toList != ([] : List UInt8))))))) = some r := H
          have A19 := Aside0.mk A190
          clear A190
          have HC20 := Aside0.mk H
          clear H
          go_upto_region 7 with (first | ((with_reducible refine gate_callee (f := 24) rfl ?_); refine goesL_ (some 27) rfl rfl Try.func24 (by kernel_rfl) rfl #[.string t182] rfl (by (try simp only [List.map_toArray, List.map_cons, List.map_nil]); first | done | rfl | (simp only [List.length_drop, List.length_take]; rfl)) ?_; (with_reducible refine (impl_SortLetters.calls kj4 t182 t188 _ A19.out).mono ?_); rintro e w21 ⟨rfl, hb⟩; refine ⟨_, rfl, ?_⟩; have n0_ := Aside0.mk (below_step (by repeat (first | (with_reducible first | exact HB.out | apply below_alloc | apply pw_below_drewN | apply below_drew1) | exact HB.out)) hb); clear HB; have HB := n0_; clear n0_; (try clear hb); (try clear hb2); (try clear hk); (try clear hi)))
          (try simp only [Act.put, List.setIfInBounds_toArray, List.set_cons_zero, List.set_cons_succ])
          go_cut [52] (fun v52 wc => ∃ (kq : Nat) (x52_19 : Bool), v52 = .bool x52_19 ∧ Aside0 (laws_FnWords.j1 kq l0 x52_19 = some r) ∧ Aside0 (kq ≤ kj4) ∧ Aside0 (Below w.heap.size w wc))
          case first =>
            have H := HC20.out
            clear HC20
            replace H := Option.bind_eq_some_iff.mp H
            obtain ⟨t189, A220, H⟩ := H
            replace H : (if t189 = true then (if (t188.size : Int) = (t182.size : Int) then ((impl_Backwards.f t182).bind fun t190 => ((impl_SortLetters.f kj4 t190).bind fun t191 => (if t191.toList = t188.toList then ((impl_IsWord.f kj4 t182).bind fun t192 => (if t192 = true then (laws_FnWords.j1 kj4 l0 false) else (laws_FnWords.j1 kj4 l0 (t188.toList != ([] : List UInt8))))) else (laws_FnWords.j1 kj4 l0 true)))) else (laws_FnWords.j1 kj4 l0 true)) else ((impl_IsWord.f kj4 t182).bind fun t193 => (if t193 = true then (laws_FnWords.j1 kj4 l0 false) else (laws_FnWords.j1 kj4 l0 (t188.toList != ([] : List UInt8)))))) = some r := H
            have A22 := Aside0.mk A220
            clear A220
            by_cases c23 : t189 = true
            · subst c23
              have H1 : (if (t188.size : Int) = (t182.size : Int) then ((impl_Backwards.f t182).bind fun t190 => ((impl_SortLetters.f kj4 t190).bind fun t191 => (if t191.toList = t188.toList then ((impl_IsWord.f kj4 t182).bind fun t192 => (if t192 = true then (laws_FnWords.j1 kj4 l0 false) else (laws_FnWords.j1 kj4 l0 (t188.toList != ([] : List UInt8))))) else (laws_FnWords.j1 kj4 l0 true)))) else (laws_FnWords.j1 kj4 l0 true)) = some r := by rw [if_pos rfl] at H; exact H
              clear H
              have H := H1
              clear H1
              by_cases c24 : (t188.size : Int) = (t182.size : Int)
              · rw [if_pos c24] at H
                have c24b0 : ((t188.size : Int) == (t182.size : Int)) = true := beq_iff_eq.mpr c24
                have c24b1 : ((t188.size : Int) != (t182.size : Int)) = false := bne_eq_false_iff_eq.mpr c24
                have c24b2 : (t188.size == t182.size) = true := by first | simpa using c24 | (simp at c24 ⊢; omega)
                clear c24
                (first | rw [c24b0] | (simp only [i64_w, i32_w]; rw [c24b0]) | skip)
                replace H := Option.bind_eq_some_iff.mp H
                obtain ⟨t190, A250, H⟩ := H
                replace H : ((impl_SortLetters.f kj4 t190).bind fun t191 => (if t191.toList = t188.toList then ((impl_IsWord.f kj4 t182).bind fun t192 => (if t192 = true then (laws_FnWords.j1 kj4 l0 false) else (laws_FnWords.j1 kj4 l0 (t188.toList != ([] : List UInt8))))) else (laws_FnWords.j1 kj4 l0 true))) = some r := H
                have A25 := Aside0.mk A250
                clear A250
                replace H := Option.bind_eq_some_iff.mp H
                obtain ⟨t191, A260, H⟩ := H
                replace H : (if t191.toList = t188.toList then ((impl_IsWord.f kj4 t182).bind fun t192 => (if t192 = true then (laws_FnWords.j1 kj4 l0 false) else (laws_FnWords.j1 kj4 l0 (t188.toList != ([] : List UInt8))))) else (laws_FnWords.j1 kj4 l0 true)) = some r := H
                have A26 := Aside0.mk A260
                clear A260
                by_cases c27 : t191.toList = t188.toList
                · rw [if_pos c27] at H
                  have c27b0 : (t191.toList == t188.toList) = true := beq_iff_eq.mpr c27
                  have c27b1 : (t191.toList != t188.toList) = false := bne_eq_false_iff_eq.mpr c27
                  clear c27
                  replace H := Option.bind_eq_some_iff.mp H
                  obtain ⟨t192, A280, H⟩ := H
                  replace H : (if t192 = true then (laws_FnWords.j1 kj4 l0 false) else (laws_FnWords.j1 kj4 l0 (t188.toList != ([] : List UInt8)))) = some r := H
                  have A28 := Aside0.mk A280
                  clear A280
                  by_cases c29 : t192 = true
                  · subst c29
                    have H1 : (laws_FnWords.j1 kj4 l0 false) = some r := by rw [if_pos rfl] at H; exact H
                    clear H
                    have H := H1
                    clear H1
                    have H' := Aside0.mk H
                    clear H
                    go_wp2_with (first | ((with_reducible refine gate_callee (f := 23) rfl ?_); refine goesL_ (some 29) rfl rfl Try.func23 (by kernel_rfl) rfl #[.string t182] rfl (by (try simp only [List.map_toArray, List.map_cons, List.map_nil]); first | done | rfl | (simp only [List.length_drop, List.length_take]; rfl)) ?_; (with_reducible refine (impl_IsWord.calls kj4 t182 true _ A22.out).mono ?_); rintro e w' ⟨rfl, ⟨nd, rfl⟩⟩; refine ⟨_, rfl, ?_⟩) | (go_at_call 15; (with_reducible refine (impl_Backwards.calls t182 t190 _ A25.out).mono ?_); rintro e w30 ⟨rfl, hb⟩; have n0_ := Aside0.mk (below_step (by repeat (first | (with_reducible first | exact HB.out | apply below_alloc | apply pw_below_drewN | apply below_drew1) | exact HB.out)) hb); clear HB; have HB := n0_; clear n0_; (try clear hb); (try clear hb2); (try clear hk); (try clear hi)) | (go_at_call 24; (with_reducible refine (impl_SortLetters.calls kj4 t190 t191 _ A26.out).mono ?_); rintro e w31 ⟨rfl, hb⟩; have n0_ := Aside0.mk (below_step (by repeat (first | (with_reducible first | exact HB.out | apply below_alloc | apply pw_below_drewN | apply below_drew1) | exact HB.out)) hb); clear HB; have HB := n0_; clear n0_; (try clear hb); (try clear hb2); (try clear hk); (try clear hi)) | (go_at_call 23; (with_reducible refine (impl_IsWord.calls kj4 t182 true _ A28.out).mono ?_); rintro e w' ⟨rfl, ⟨nd, rfl⟩⟩))
                    go_meet
                    case rel => exact ⟨_, (false), (by first | rfl | (simp; done) | (simp [*]; done) | (simp; exact Go.Proofs.YtgnpindamkgggaaRev.isEmpty_bne _) | (simp [*]; exact Go.Proofs.YtgnpindamkgggaaRev.isEmpty_bne _)), H', ⟨by have := HJ4.out; first | omega | exact Nat.le_refl _⟩, ⟨by repeat (first | (with_reducible first | exact HB.out | apply below_alloc | apply pw_below_drewN | apply below_drew1) | exact HB.out)⟩⟩
                  · replace c29 := Bool.eq_false_iff.mpr c29
                    subst c29
                    have H1 : (laws_FnWords.j1 kj4 l0 (t188.toList != ([] : List UInt8))) = some r := by rw [if_neg (show ¬ (false = true) by decide)] at H; exact H
                    clear H
                    have H := H1
                    clear H1
                    have H' := Aside0.mk H
                    clear H
                    go_wp2_with (first | ((with_reducible refine gate_callee (f := 23) rfl ?_); refine goesL_ (some 29) rfl rfl Try.func23 (by kernel_rfl) rfl #[.string t182] rfl (by (try simp only [List.map_toArray, List.map_cons, List.map_nil]); first | done | rfl | (simp only [List.length_drop, List.length_take]; rfl)) ?_; (with_reducible refine (impl_IsWord.calls kj4 t182 true _ A22.out).mono ?_); rintro e w' ⟨rfl, ⟨nd, rfl⟩⟩; refine ⟨_, rfl, ?_⟩) | (go_at_call 15; (with_reducible refine (impl_Backwards.calls t182 t190 _ A25.out).mono ?_); rintro e w32 ⟨rfl, hb⟩; have n0_ := Aside0.mk (below_step (by repeat (first | (with_reducible first | exact HB.out | apply below_alloc | apply pw_below_drewN | apply below_drew1) | exact HB.out)) hb); clear HB; have HB := n0_; clear n0_; (try clear hb); (try clear hb2); (try clear hk); (try clear hi)) | (go_at_call 24; (with_reducible refine (impl_SortLetters.calls kj4 t190 t191 _ A26.out).mono ?_); rintro e w33 ⟨rfl, hb⟩; have n0_ := Aside0.mk (below_step (by repeat (first | (with_reducible first | exact HB.out | apply below_alloc | apply pw_below_drewN | apply below_drew1) | exact HB.out)) hb); clear HB; have HB := n0_; clear n0_; (try clear hb); (try clear hb2); (try clear hk); (try clear hi)) | (go_at_call 23; (with_reducible refine (impl_IsWord.calls kj4 t182 false _ A28.out).mono ?_); rintro e w' ⟨rfl, ⟨nd, rfl⟩⟩))
                    go_meet
                    case rel => exact ⟨_, ((t188.toList != ([] : List UInt8))), (by first | rfl | (simp; done) | (simp [*]; done) | (simp; exact Go.Proofs.YtgnpindamkgggaaRev.isEmpty_bne _) | (simp [*]; exact Go.Proofs.YtgnpindamkgggaaRev.isEmpty_bne _)), H', ⟨by have := HJ4.out; first | omega | exact Nat.le_refl _⟩, ⟨by repeat (first | (with_reducible first | exact HB.out | apply below_alloc | apply pw_below_drewN | apply below_drew1) | exact HB.out)⟩⟩
                · rw [if_neg c27] at H
                  have c27b0 : (t191.toList == t188.toList) = false := beq_eq_false_iff_ne.mpr c27
                  have c27b1 : (t191.toList != t188.toList) = true := bne_iff_ne.mpr c27
                  have H' := Aside0.mk H
                  clear H
                  go_wp2_with (first | ((with_reducible refine gate_callee (f := 23) rfl ?_); refine goesL_ (some 29) rfl rfl Try.func23 (by kernel_rfl) rfl #[.string t182] rfl (by (try simp only [List.map_toArray, List.map_cons, List.map_nil]); first | done | rfl | (simp only [List.length_drop, List.length_take]; rfl)) ?_; (with_reducible refine (impl_IsWord.calls kj4 t182 true _ A22.out).mono ?_); rintro e w' ⟨rfl, ⟨nd, rfl⟩⟩; refine ⟨_, rfl, ?_⟩) | (go_at_call 15; (with_reducible refine (impl_Backwards.calls t182 t190 _ A25.out).mono ?_); rintro e w34 ⟨rfl, hb⟩; have n0_ := Aside0.mk (below_step (by repeat (first | (with_reducible first | exact HB.out | apply below_alloc | apply pw_below_drewN | apply below_drew1) | exact HB.out)) hb); clear HB; have HB := n0_; clear n0_; (try clear hb); (try clear hb2); (try clear hk); (try clear hi)) | (go_at_call 24; (with_reducible refine (impl_SortLetters.calls kj4 t190 t191 _ A26.out).mono ?_); rintro e w35 ⟨rfl, hb⟩; have n0_ := Aside0.mk (below_step (by repeat (first | (with_reducible first | exact HB.out | apply below_alloc | apply pw_below_drewN | apply below_drew1) | exact HB.out)) hb); clear HB; have HB := n0_; clear n0_; (try clear hb); (try clear hb2); (try clear hk); (try clear hi)))
                  go_meet
                  case rel => exact ⟨_, (true), (by first | rfl | (simp; done) | (simp [*]; done) | (simp; exact Go.Proofs.YtgnpindamkgggaaRev.isEmpty_bne _) | (simp [*]; exact Go.Proofs.YtgnpindamkgggaaRev.isEmpty_bne _)), H', ⟨by have := HJ4.out; first | omega | exact Nat.le_refl _⟩, ⟨by repeat (first | (with_reducible first | exact HB.out | apply below_alloc | apply pw_below_drewN | apply below_drew1) | exact HB.out)⟩⟩
              · rw [if_neg c24] at H
                have c24b0 : ((t188.size : Int) == (t182.size : Int)) = false := beq_eq_false_iff_ne.mpr c24
                have c24b1 : ((t188.size : Int) != (t182.size : Int)) = true := bne_iff_ne.mpr c24
                have c24b2 : (t188.size == t182.size) = false := by first | simpa using c24 | (simp at c24 ⊢; omega)
                (first | rw [c24b0] | (simp only [i64_w, i32_w]; rw [c24b0]) | skip)
                have H' := Aside0.mk H
                clear H
                go_wp2_with (first | ((with_reducible refine gate_callee (f := 23) rfl ?_); refine goesL_ (some 29) rfl rfl Try.func23 (by kernel_rfl) rfl #[.string t182] rfl (by (try simp only [List.map_toArray, List.map_cons, List.map_nil]); first | done | rfl | (simp only [List.length_drop, List.length_take]; rfl)) ?_; (with_reducible refine (impl_IsWord.calls kj4 t182 true _ A22.out).mono ?_); rintro e w' ⟨rfl, ⟨nd, rfl⟩⟩; refine ⟨_, rfl, ?_⟩))
                go_meet
                case rel => exact ⟨_, (true), (by first | rfl | (simp; done) | (simp [*]; done) | (simp; exact Go.Proofs.YtgnpindamkgggaaRev.isEmpty_bne _) | (simp [*]; exact Go.Proofs.YtgnpindamkgggaaRev.isEmpty_bne _)), H', ⟨by have := HJ4.out; first | omega | exact Nat.le_refl _⟩, ⟨by repeat (first | (with_reducible first | exact HB.out | apply below_alloc | apply pw_below_drewN | apply below_drew1) | exact HB.out)⟩⟩
            · replace c23 := Bool.eq_false_iff.mpr c23
              subst c23
              have H1 : ((impl_IsWord.f kj4 t182).bind fun t193 => (if t193 = true then (laws_FnWords.j1 kj4 l0 false) else (laws_FnWords.j1 kj4 l0 (t188.toList != ([] : List UInt8))))) = some r := by rw [if_neg (show ¬ (false = true) by decide)] at H; exact H
              clear H
              have H := H1
              clear H1
              replace H := Option.bind_eq_some_iff.mp H
              obtain ⟨t193, A360, H⟩ := H
              replace H : (if t193 = true then (laws_FnWords.j1 kj4 l0 false) else (laws_FnWords.j1 kj4 l0 (t188.toList != ([] : List UInt8)))) = some r := H
              have A36 := Aside0.mk A360
              clear A360
              by_cases c37 : t193 = true
              · subst c37
                have H1 : (laws_FnWords.j1 kj4 l0 false) = some r := by rw [if_pos rfl] at H; exact H
                clear H
                have H := H1
                clear H1
                have H' := Aside0.mk H
                clear H
                go_wp2_with (first | ((with_reducible refine gate_callee (f := 23) rfl ?_); refine goesL_ (some 29) rfl rfl Try.func23 (by kernel_rfl) rfl #[.string t182] rfl (by (try simp only [List.map_toArray, List.map_cons, List.map_nil]); first | done | rfl | (simp only [List.length_drop, List.length_take]; rfl)) ?_; (with_reducible refine (impl_IsWord.calls kj4 t182 false _ A22.out).mono ?_); rintro e w' ⟨rfl, ⟨nd, rfl⟩⟩; refine ⟨_, rfl, ?_⟩) | (go_at_call 23; (with_reducible refine (impl_IsWord.calls kj4 t182 true _ A36.out).mono ?_); rintro e w' ⟨rfl, ⟨nd, rfl⟩⟩))
                go_meet
                case rel => exact ⟨_, (false), (by first | rfl | (simp; done) | (simp [*]; done) | (simp; exact Go.Proofs.YtgnpindamkgggaaRev.isEmpty_bne _) | (simp [*]; exact Go.Proofs.YtgnpindamkgggaaRev.isEmpty_bne _)), H', ⟨by have := HJ4.out; first | omega | exact Nat.le_refl _⟩, ⟨by repeat (first | (with_reducible first | exact HB.out | apply below_alloc | apply pw_below_drewN | apply below_drew1) | exact HB.out)⟩⟩
              · replace c37 := Bool.eq_false_iff.mpr c37
                subst c37
                have H1 : (laws_FnWords.j1 kj4 l0 (t188.toList != ([] : List UInt8))) = some r := by rw [if_neg (show ¬ (false = true) by decide)] at H; exact H
                clear H
                have H := H1
                clear H1
                have H' := Aside0.mk H
                clear H
                go_wp2_with (first | ((with_reducible refine gate_callee (f := 23) rfl ?_); refine goesL_ (some 29) rfl rfl Try.func23 (by kernel_rfl) rfl #[.string t182] rfl (by (try simp only [List.map_toArray, List.map_cons, List.map_nil]); first | done | rfl | (simp only [List.length_drop, List.length_take]; rfl)) ?_; (with_reducible refine (impl_IsWord.calls kj4 t182 false _ A22.out).mono ?_); rintro e w' ⟨rfl, ⟨nd, rfl⟩⟩; refine ⟨_, rfl, ?_⟩) | (go_at_call 23; (with_reducible refine (impl_IsWord.calls kj4 t182 false _ A36.out).mono ?_); rintro e w' ⟨rfl, ⟨nd, rfl⟩⟩))
                go_meet
                case rel => exact ⟨_, ((t188.toList != ([] : List UInt8))), (by first | rfl | (simp; done) | (simp [*]; done) | (simp; exact Go.Proofs.YtgnpindamkgggaaRev.isEmpty_bne _) | (simp [*]; exact Go.Proofs.YtgnpindamkgggaaRev.isEmpty_bne _)), H', ⟨by have := HJ4.out; first | omega | exact Nat.le_refl _⟩, ⟨by repeat (first | (with_reducible first | exact HB.out | apply below_alloc | apply pw_below_drewN | apply below_drew1) | exact HB.out)⟩⟩
          case rest =>
            clear HC20
            try clear c1
            try clear c2
            try clear p2
            try clear c3
            try clear c5
            try clear c9
            try clear c9b0
            try clear c9b1
            try clear c15
            try clear c18
            try clear c21
            try clear c22
            try clear c23
            try clear c24
            try clear c24b0
            try clear c24b1
            try clear c24b2
            try clear c27
            try clear c27b0
            try clear c27b1
            try clear c29
            try clear c37
            try clear p2
            obtain ⟨kq, x52_19, rfl, HA, HJ19, HB⟩ := hcut
            cases kq with
            | zero => exact absurd HA.out (by simp [laws_FnWords.j1])
            | succ kj19 =>
              have H := HA.out
              clear HA
              simp only [laws_FnWords.j1] at H
              by_cases c38 : x52_19 = true
              · subst c38
                have H1 : (some false) = some r := by rw [if_pos rfl] at H; exact H
                clear H
                have H := H1
                clear H1
                obtain rfl := Option.some.inj H
                go_wp2
                go_ret
                exact ⟨by first | rfl | (simp [errW_none, errW_some] <;> rfl) | (simp [*, errW_none, errW_some] <;> rfl) | (exfalso; first | exact absurd (A10.out.symm.trans A25.out) (by simp) | exact absurd (A22.out.symm.trans A28.out) (by simp) | exact absurd (A22.out.symm.trans A36.out) (by simp) | exact absurd (A28.out.symm.trans A36.out) (by simp) | exact absurd (A42.out.symm.trans A52.out) (by simp) | exact absurd (A7.out.symm.trans A10.out) (by simp) | exact absurd (A7.out.symm.trans A25.out) (by simp) | exact absurd (A71.out.symm.trans A76.out) (by simp) | exact absurd (A71.out.symm.trans A83.out) (by simp) | exact absurd (A73.out.symm.trans A79.out) (by simp) | exact absurd (A73.out.symm.trans A86.out) (by simp) | exact absurd (A76.out.symm.trans A83.out) (by simp) | exact absurd (A79.out.symm.trans A86.out) (by simp)), by repeat (first | (with_reducible first | exact HB.out | apply below_alloc | apply pw_below_drewN | apply below_drew1) | exact HB.out)⟩
              · replace c38 := Bool.eq_false_iff.mpr c38
                subst c38
                have H1 : ((spec_DrawIsRearranged.f kj19 l0).bind fun bt194 => ((impl_IsRearranged.f kj19 bt194.1 bt194.2).bind fun t196 => ((impl_IsRearranged.f kj19 bt194.2 bt194.1).bind fun t197 => (if (t196 != t197) = true then (laws_FnWords.j2 kj19 l0 true) else ((impl_IsRearranged.f kj19 bt194.1 bt194.1).bind fun t198 => (if t198 = true then (laws_FnWords.j2 kj19 l0 true) else ((impl_IsRearranged.f kj19 bt194.1 bt194.2).bind fun t199 => (if t199 = true then (if (bt194.1.size : Int) = (bt194.2.size : Int) then ((impl_CountLetter.f kj19 bt194.1 (⟨#[97]⟩ : ByteArray)).bind fun t200 => ((impl_CountLetter.f kj19 bt194.2 (⟨#[97]⟩ : ByteArray)).bind fun t201 => (laws_FnWords.j2 kj19 l0 (t200 != t201)))) else (laws_FnWords.j2 kj19 l0 true)) else (laws_FnWords.j2 kj19 l0 false))))))))) = some r := by rw [if_neg (show ¬ (false = true) by decide)] at H; exact H
                clear H
                have H := H1
                clear H1
                replace H := Option.bind_eq_some_iff.mp H
                obtain ⟨⟨t194, t195⟩, A390, H⟩ := H
                replace H : ((impl_IsRearranged.f kj19 t194 t195).bind fun t196 => ((impl_IsRearranged.f kj19 t195 t194).bind fun t197 => (if (t196 != t197) = true then (laws_FnWords.j2 kj19 l0 true) else ((impl_IsRearranged.f kj19 t194 t194).bind fun t198 => (if t198 = true then (laws_FnWords.j2 kj19 l0 true) else ((impl_IsRearranged.f kj19 t194 t195).bind fun t199 => (if t199 = true then (if (t194.size : Int) = (t195.size : Int) then ((impl_CountLetter.f kj19 t194 (⟨#[97]⟩ : ByteArray)).bind fun t200 => ((impl_CountLetter.f kj19 t195 (⟨#[97]⟩ : ByteArray)).bind fun t201 => (laws_FnWords.j2 kj19 l0 (t200 != t201)))) else (laws_FnWords.j2 kj19 l0 true)) else (laws_FnWords.j2 kj19 l0 false)))))))) = some r := H
                have A39 := Aside0.mk A390
                clear A390
                have HC40 := Aside0.mk H
                clear H
                go_upto_region 10 with (first | ((with_reducible refine gate_callee (f := 25) rfl ?_); refine goesL_ (some 55) rfl rfl Try.func25 (by kernel_rfl) rfl #[.slice A0 l0.length c0] rfl (by (try simp only [List.map_toArray, List.map_cons, List.map_nil]); first | done | rfl | (simp only [List.length_drop, List.length_take]; rfl)) ?_; (with_reducible refine (spec_DrawIsRearranged.calls kj19 _ _ l0 t194 t195 _ ?side1 ?side2 A39.out).mono ?_); (case side1 => repeat (first | exact (Kd.C_below HR0.out HB.out) | (with_reducible refine Kd.C_alloc ?_ _) | (with_reducible refine Kd.C_drewN ?_ _) | (with_reducible refine Kd.C_drew ?_))); (case side2 => exact HC0.out); rintro e w41 ⟨rfl, hb⟩; refine ⟨_, rfl, ?_⟩; have n0_ := Aside0.mk (below_step (by repeat (first | (with_reducible first | exact HB.out | apply below_alloc | apply pw_below_drewN | apply below_drew1) | exact HB.out)) hb); clear HB; have HB := n0_; clear n0_; (try clear hb); (try clear hb2); (try clear hk); (try clear hi)))
                (try simp only [Act.put, List.setIfInBounds_toArray, List.set_cons_zero, List.set_cons_succ])
                go_cut [88] (fun v88 wc => ∃ (kq : Nat) (x88_39 : Bool), v88 = .bool x88_39 ∧ Aside0 (laws_FnWords.j2 kq l0 x88_39 = some r) ∧ Aside0 (kq ≤ kj19) ∧ Aside0 (Below w.heap.size w wc))
                case first =>
                  have H := HC40.out
                  clear HC40
                  replace H := Option.bind_eq_some_iff.mp H
                  obtain ⟨t196, A420, H⟩ := H
                  replace H : ((impl_IsRearranged.f kj19 t195 t194).bind fun t197 => (if (t196 != t197) = true then (laws_FnWords.j2 kj19 l0 true) else ((impl_IsRearranged.f kj19 t194 t194).bind fun t198 => (if t198 = true then (laws_FnWords.j2 kj19 l0 true) else ((impl_IsRearranged.f kj19 t194 t195).bind fun t199 => (if t199 = true then (if (t194.size : Int) = (t195.size : Int) then ((impl_CountLetter.f kj19 t194 (⟨#[97]⟩ : ByteArray)).bind fun t200 => ((impl_CountLetter.f kj19 t195 (⟨#[97]⟩ : ByteArray)).bind fun t201 => (laws_FnWords.j2 kj19 l0 (t200 != t201)))) else (laws_FnWords.j2 kj19 l0 true)) else (laws_FnWords.j2 kj19 l0 false))))))) = some r := H
                  have A42 := Aside0.mk A420
                  clear A420
                  replace H := Option.bind_eq_some_iff.mp H
                  obtain ⟨t197, A430, H⟩ := H
                  replace H : (if (t196 != t197) = true then (laws_FnWords.j2 kj19 l0 true) else ((impl_IsRearranged.f kj19 t194 t194).bind fun t198 => (if t198 = true then (laws_FnWords.j2 kj19 l0 true) else ((impl_IsRearranged.f kj19 t194 t195).bind fun t199 => (if t199 = true then (if (t194.size : Int) = (t195.size : Int) then ((impl_CountLetter.f kj19 t194 (⟨#[97]⟩ : ByteArray)).bind fun t200 => ((impl_CountLetter.f kj19 t195 (⟨#[97]⟩ : ByteArray)).bind fun t201 => (laws_FnWords.j2 kj19 l0 (t200 != t201)))) else (laws_FnWords.j2 kj19 l0 true)) else (laws_FnWords.j2 kj19 l0 false)))))) = some r := H
                  have A43 := Aside0.mk A430
                  clear A430
                  by_cases c44 : (t196 != t197) = true
                  · rw [if_pos c44] at H
                    have c44b0 : (t196 != t197) = true := c44
                    (try (have c44b1 : decide (t196 = t197) = false := by simpa using c44))
                    (try (have c44b2 : (t196 == t197) = false := by simpa using c44))
                    (try (have c44b3 : ¬ (t196 = t197) := by simpa using c44))
                    clear c44
                    (first | rw [c44b0] | (simp only [i64_w, i32_w]; rw [c44b0]) | skip)
                    have H' := Aside0.mk H
                    clear H
                    go_wp2_with (first | ((with_reducible refine gate_callee (f := 26) rfl ?_); refine goesL_ (some 60) rfl rfl Try.func26 (by kernel_rfl) rfl #[.string t194, .string t195] rfl (by (try simp only [List.map_toArray, List.map_cons, List.map_nil]); first | done | rfl | (simp only [List.length_drop, List.length_take]; rfl)) ?_; (with_reducible refine (impl_IsRearranged.calls kj19 t194 t195 t196 _ A42.out).mono ?_); rintro e w45 ⟨rfl, hb⟩; refine ⟨_, rfl, ?_⟩; have n0_ := Aside0.mk (below_step (by repeat (first | (with_reducible first | exact HB.out | apply below_alloc | apply pw_below_drewN | apply below_drew1) | exact HB.out)) hb); clear HB; have HB := n0_; clear n0_; (try clear hb); (try clear hb2); (try clear hk); (try clear hi)) | ((with_reducible refine gate_callee (f := 26) rfl ?_); refine goesL_ (some 63) rfl rfl Try.func26 (by kernel_rfl) rfl #[.string t195, .string t194] rfl (by (try simp only [List.map_toArray, List.map_cons, List.map_nil]); first | done | rfl | (simp only [List.length_drop, List.length_take]; rfl)) ?_; (with_reducible refine (impl_IsRearranged.calls kj19 t195 t194 t197 _ A43.out).mono ?_); rintro e w46 ⟨rfl, hb⟩; refine ⟨_, rfl, ?_⟩; have n0_ := Aside0.mk (below_step (by repeat (first | (with_reducible first | exact HB.out | apply below_alloc | apply pw_below_drewN | apply below_drew1) | exact HB.out)) hb); clear HB; have HB := n0_; clear n0_; (try clear hb); (try clear hb2); (try clear hk); (try clear hi)))
                    go_meet
                    case rel => exact ⟨_, (true), (by first | rfl | (simp; done) | (simp [*]; done) | (simp; exact Go.Proofs.YtgnpindamkgggaaRev.isEmpty_bne _) | (simp [*]; exact Go.Proofs.YtgnpindamkgggaaRev.isEmpty_bne _)), H', ⟨by have := HJ4.out; have := HJ19.out; first | omega | exact Nat.le_refl _⟩, ⟨by repeat (first | (with_reducible first | exact HB.out | apply below_alloc | apply pw_below_drewN | apply below_drew1) | exact HB.out)⟩⟩
                  · rw [if_neg c44] at H
                    have c44b0 : (t196 != t197) = false := by simpa using c44
                    (try (have c44b1 : decide (t196 = t197) = true := by simpa using c44))
                    (try (have c44b2 : (t196 == t197) = true := by simpa using c44))
                    clear c44
                    (first | rw [c44b0] | (simp only [i64_w, i32_w]; rw [c44b0]) | skip)
                    replace H := Option.bind_eq_some_iff.mp H
                    obtain ⟨t198, A470, H⟩ := H
                    replace H : (if t198 = true then (laws_FnWords.j2 kj19 l0 true) else ((impl_IsRearranged.f kj19 t194 t195).bind fun t199 => (if t199 = true then (if (t194.size : Int) = (t195.size : Int) then ((impl_CountLetter.f kj19 t194 (⟨#[97]⟩ : ByteArray)).bind fun t200 => ((impl_CountLetter.f kj19 t195 (⟨#[97]⟩ : ByteArray)).bind fun t201 => (laws_FnWords.j2 kj19 l0 (t200 != t201)))) else (laws_FnWords.j2 kj19 l0 true)) else (laws_FnWords.j2 kj19 l0 false)))) = some r := H
                    have A47 := Aside0.mk A470
                    clear A470
                    by_cases c48 : t198 = true
                    · subst c48
                      have H1 : (laws_FnWords.j2 kj19 l0 true) = some r := by rw [if_pos rfl] at H; exact H
                      clear H
                      have H := H1
                      clear H1
                      have H' := Aside0.mk H
                      clear H
                      go_wp2_with (first | ((with_reducible refine gate_callee (f := 26) rfl ?_); refine goesL_ (some 60) rfl rfl Try.func26 (by kernel_rfl) rfl #[.string t194, .string t195] rfl (by (try simp only [List.map_toArray, List.map_cons, List.map_nil]); first | done | rfl | (simp only [List.length_drop, List.length_take]; rfl)) ?_; (with_reducible refine (impl_IsRearranged.calls kj19 t194 t195 t196 _ A42.out).mono ?_); rintro e w49 ⟨rfl, hb⟩; refine ⟨_, rfl, ?_⟩; have n0_ := Aside0.mk (below_step (by repeat (first | (with_reducible first | exact HB.out | apply below_alloc | apply pw_below_drewN | apply below_drew1) | exact HB.out)) hb); clear HB; have HB := n0_; clear n0_; (try clear hb); (try clear hb2); (try clear hk); (try clear hi)) | ((with_reducible refine gate_callee (f := 26) rfl ?_); refine goesL_ (some 63) rfl rfl Try.func26 (by kernel_rfl) rfl #[.string t195, .string t194] rfl (by (try simp only [List.map_toArray, List.map_cons, List.map_nil]); first | done | rfl | (simp only [List.length_drop, List.length_take]; rfl)) ?_; (with_reducible refine (impl_IsRearranged.calls kj19 t195 t194 t197 _ A43.out).mono ?_); rintro e w50 ⟨rfl, hb⟩; refine ⟨_, rfl, ?_⟩; have n0_ := Aside0.mk (below_step (by repeat (first | (with_reducible first | exact HB.out | apply below_alloc | apply pw_below_drewN | apply below_drew1) | exact HB.out)) hb); clear HB; have HB := n0_; clear n0_; (try clear hb); (try clear hb2); (try clear hk); (try clear hi)) | (go_at_call 26; (with_reducible refine (impl_IsRearranged.calls kj19 t194 t194 true _ A47.out).mono ?_); rintro e w51 ⟨rfl, hb⟩; have n0_ := Aside0.mk (below_step (by repeat (first | (with_reducible first | exact HB.out | apply below_alloc | apply pw_below_drewN | apply below_drew1) | exact HB.out)) hb); clear HB; have HB := n0_; clear n0_; (try clear hb); (try clear hb2); (try clear hk); (try clear hi)))
                      go_meet
                      case rel => exact ⟨_, (true), (by first | rfl | (simp; done) | (simp [*]; done) | (simp; exact Go.Proofs.YtgnpindamkgggaaRev.isEmpty_bne _) | (simp [*]; exact Go.Proofs.YtgnpindamkgggaaRev.isEmpty_bne _)), H', ⟨by have := HJ4.out; have := HJ19.out; first | omega | exact Nat.le_refl _⟩, ⟨by repeat (first | (with_reducible first | exact HB.out | apply below_alloc | apply pw_below_drewN | apply below_drew1) | exact HB.out)⟩⟩
                    · replace c48 := Bool.eq_false_iff.mpr c48
                      subst c48
                      have H1 : ((impl_IsRearranged.f kj19 t194 t195).bind fun t199 => (if t199 = true then (if (t194.size : Int) = (t195.size : Int) then ((impl_CountLetter.f kj19 t194 (⟨#[97]⟩ : ByteArray)).bind fun t200 => ((impl_CountLetter.f kj19 t195 (⟨#[97]⟩ : ByteArray)).bind fun t201 => (laws_FnWords.j2 kj19 l0 (t200 != t201)))) else (laws_FnWords.j2 kj19 l0 true)) else (laws_FnWords.j2 kj19 l0 false))) = some r := by rw [if_neg (show ¬ (false = true) by decide)] at H; exact H
                      clear H
                      have H := H1
                      clear H1
                      replace H := Option.bind_eq_some_iff.mp H
                      obtain ⟨t199, A520, H⟩ := H
                      replace H : (if t199 = true then (if (t194.size : Int) = (t195.size : Int) then ((impl_CountLetter.f kj19 t194 (⟨#[97]⟩ : ByteArray)).bind fun t200 => ((impl_CountLetter.f kj19 t195 (⟨#[97]⟩ : ByteArray)).bind fun t201 => (laws_FnWords.j2 kj19 l0 (t200 != t201)))) else (laws_FnWords.j2 kj19 l0 true)) else (laws_FnWords.j2 kj19 l0 false)) = some r := H
                      have A52 := Aside0.mk A520
                      clear A520
                      by_cases c53 : t199 = true
                      · subst c53
                        have H1 : (if (t194.size : Int) = (t195.size : Int) then ((impl_CountLetter.f kj19 t194 (⟨#[97]⟩ : ByteArray)).bind fun t200 => ((impl_CountLetter.f kj19 t195 (⟨#[97]⟩ : ByteArray)).bind fun t201 => (laws_FnWords.j2 kj19 l0 (t200 != t201)))) else (laws_FnWords.j2 kj19 l0 true)) = some r := by rw [if_pos rfl] at H; exact H
                        clear H
                        have H := H1
                        clear H1
                        by_cases c54 : (t194.size : Int) = (t195.size : Int)
                        · rw [if_pos c54] at H
                          have c54b0 : ((t194.size : Int) == (t195.size : Int)) = true := beq_iff_eq.mpr c54
                          have c54b1 : ((t194.size : Int) != (t195.size : Int)) = false := bne_eq_false_iff_eq.mpr c54
                          have c54b2 : (t194.size == t195.size) = true := by first | simpa using c54 | (simp at c54 ⊢; omega)
                          clear c54
                          replace H := Option.bind_eq_some_iff.mp H
                          obtain ⟨t200, A550, H⟩ := H
                          replace H : ((impl_CountLetter.f kj19 t195 (⟨#[97]⟩ : ByteArray)).bind fun t201 => (laws_FnWords.j2 kj19 l0 (t200 != t201))) = some r := H
                          have A55 := Aside0.mk A550
                          clear A550
                          replace H := Option.bind_eq_some_iff.mp H
                          obtain ⟨t201, A560, H⟩ := H
                          replace H : (laws_FnWords.j2 kj19 l0 (t200 != t201)) = some r := H
                          have A56 := Aside0.mk A560
                          clear A560
                          have H' := Aside0.mk H
                          clear H
                          go_wp2_with (first | ((with_reducible refine gate_callee (f := 26) rfl ?_); refine goesL_ (some 60) rfl rfl Try.func26 (by kernel_rfl) rfl #[.string t194, .string t195] rfl (by (try simp only [List.map_toArray, List.map_cons, List.map_nil]); first | done | rfl | (simp only [List.length_drop, List.length_take]; rfl)) ?_; (with_reducible refine (impl_IsRearranged.calls kj19 t194 t195 t196 _ A42.out).mono ?_); rintro e w57 ⟨rfl, hb⟩; refine ⟨_, rfl, ?_⟩; have n0_ := Aside0.mk (below_step (by repeat (first | (with_reducible first | exact HB.out | apply below_alloc | apply pw_below_drewN | apply below_drew1) | exact HB.out)) hb); clear HB; have HB := n0_; clear n0_; (try clear hb); (try clear hb2); (try clear hk); (try clear hi)) | ((with_reducible refine gate_callee (f := 26) rfl ?_); refine goesL_ (some 63) rfl rfl Try.func26 (by kernel_rfl) rfl #[.string t195, .string t194] rfl (by (try simp only [List.map_toArray, List.map_cons, List.map_nil]); first | done | rfl | (simp only [List.length_drop, List.length_take]; rfl)) ?_; (with_reducible refine (impl_IsRearranged.calls kj19 t195 t194 t197 _ A43.out).mono ?_); rintro e w58 ⟨rfl, hb⟩; refine ⟨_, rfl, ?_⟩; have n0_ := Aside0.mk (below_step (by repeat (first | (with_reducible first | exact HB.out | apply below_alloc | apply pw_below_drewN | apply below_drew1) | exact HB.out)) hb); clear HB; have HB := n0_; clear n0_; (try clear hb); (try clear hb2); (try clear hk); (try clear hi)) | (go_at_call 26; (with_reducible refine (impl_IsRearranged.calls kj19 t194 t194 false _ A47.out).mono ?_); rintro e w59 ⟨rfl, hb⟩; have n0_ := Aside0.mk (below_step (by repeat (first | (with_reducible first | exact HB.out | apply below_alloc | apply pw_below_drewN | apply below_drew1) | exact HB.out)) hb); clear HB; have HB := n0_; clear n0_; (try clear hb); (try clear hb2); (try clear hk); (try clear hi)) | (go_at_call 26; (with_reducible refine (impl_IsRearranged.calls kj19 t194 t195 true _ A52.out).mono ?_); rintro e w60 ⟨rfl, hb⟩; have n0_ := Aside0.mk (below_step (by repeat (first | (with_reducible first | exact HB.out | apply below_alloc | apply pw_below_drewN | apply below_drew1) | exact HB.out)) hb); clear HB; have HB := n0_; clear n0_; (try clear hb); (try clear hb2); (try clear hk); (try clear hi)) | (go_at_call 27; (with_reducible refine (impl_CountLetter.calls kj19 t194 (⟨#[97]⟩ : ByteArray) t200 _ A55.out).mono ?_); rintro e w' ⟨rfl, ⟨nd, rfl⟩⟩) | (go_at_call 27; (with_reducible refine (impl_CountLetter.calls kj19 t195 (⟨#[97]⟩ : ByteArray) t201 _ A56.out).mono ?_); rintro e w' ⟨rfl, ⟨nd, rfl⟩⟩))
                          go_meet
                          case rel => exact ⟨_, ((t200 != t201)), (by first | rfl | (simp; done) | (simp [*]; done) | (simp; exact Go.Proofs.YtgnpindamkgggaaRev.isEmpty_bne _) | (simp [*]; exact Go.Proofs.YtgnpindamkgggaaRev.isEmpty_bne _)), H', ⟨by have := HJ4.out; have := HJ19.out; first | omega | exact Nat.le_refl _⟩, ⟨by repeat (first | (with_reducible first | exact HB.out | apply below_alloc | apply pw_below_drewN | apply below_drew1) | exact HB.out)⟩⟩
                        · rw [if_neg c54] at H
                          have c54b0 : ((t194.size : Int) == (t195.size : Int)) = false := beq_eq_false_iff_ne.mpr c54
                          have c54b1 : ((t194.size : Int) != (t195.size : Int)) = true := bne_iff_ne.mpr c54
                          have c54b2 : (t194.size == t195.size) = false := by first | simpa using c54 | (simp at c54 ⊢; omega)
                          have H' := Aside0.mk H
                          clear H
                          go_wp2_with (first | ((with_reducible refine gate_callee (f := 26) rfl ?_); refine goesL_ (some 60) rfl rfl Try.func26 (by kernel_rfl) rfl #[.string t194, .string t195] rfl (by (try simp only [List.map_toArray, List.map_cons, List.map_nil]); first | done | rfl | (simp only [List.length_drop, List.length_take]; rfl)) ?_; (with_reducible refine (impl_IsRearranged.calls kj19 t194 t195 t196 _ A42.out).mono ?_); rintro e w61 ⟨rfl, hb⟩; refine ⟨_, rfl, ?_⟩; have n0_ := Aside0.mk (below_step (by repeat (first | (with_reducible first | exact HB.out | apply below_alloc | apply pw_below_drewN | apply below_drew1) | exact HB.out)) hb); clear HB; have HB := n0_; clear n0_; (try clear hb); (try clear hb2); (try clear hk); (try clear hi)) | ((with_reducible refine gate_callee (f := 26) rfl ?_); refine goesL_ (some 63) rfl rfl Try.func26 (by kernel_rfl) rfl #[.string t195, .string t194] rfl (by (try simp only [List.map_toArray, List.map_cons, List.map_nil]); first | done | rfl | (simp only [List.length_drop, List.length_take]; rfl)) ?_; (with_reducible refine (impl_IsRearranged.calls kj19 t195 t194 t197 _ A43.out).mono ?_); rintro e w62 ⟨rfl, hb⟩; refine ⟨_, rfl, ?_⟩; have n0_ := Aside0.mk (below_step (by repeat (first | (with_reducible first | exact HB.out | apply below_alloc | apply pw_below_drewN | apply below_drew1) | exact HB.out)) hb); clear HB; have HB := n0_; clear n0_; (try clear hb); (try clear hb2); (try clear hk); (try clear hi)) | (go_at_call 26; (with_reducible refine (impl_IsRearranged.calls kj19 t194 t194 false _ A47.out).mono ?_); rintro e w63 ⟨rfl, hb⟩; have n0_ := Aside0.mk (below_step (by repeat (first | (with_reducible first | exact HB.out | apply below_alloc | apply pw_below_drewN | apply below_drew1) | exact HB.out)) hb); clear HB; have HB := n0_; clear n0_; (try clear hb); (try clear hb2); (try clear hk); (try clear hi)) | (go_at_call 26; (with_reducible refine (impl_IsRearranged.calls kj19 t194 t195 true _ A52.out).mono ?_); rintro e w64 ⟨rfl, hb⟩; have n0_ := Aside0.mk (below_step (by repeat (first | (with_reducible first | exact HB.out | apply below_alloc | apply pw_below_drewN | apply below_drew1) | exact HB.out)) hb); clear HB; have HB := n0_; clear n0_; (try clear hb); (try clear hb2); (try clear hk); (try clear hi)))
                          go_meet
                          case rel => exact ⟨_, (true), (by first | rfl | (simp; done) | (simp [*]; done) | (simp; exact Go.Proofs.YtgnpindamkgggaaRev.isEmpty_bne _) | (simp [*]; exact Go.Proofs.YtgnpindamkgggaaRev.isEmpty_bne _)), H', ⟨by have := HJ4.out; have := HJ19.out; first | omega | exact Nat.le_refl _⟩, ⟨by repeat (first | (with_reducible first | exact HB.out | apply below_alloc | apply pw_below_drewN | apply below_drew1) | exact HB.out)⟩⟩
                      · replace c53 := Bool.eq_false_iff.mpr c53
                        subst c53
                        have H1 : (laws_FnWords.j2 kj19 l0 false) = some r := by rw [if_neg (show ¬ (false = true) by decide)] at H; exact H
                        clear H
                        have H := H1
                        clear H1
                        have H' := Aside0.mk H
                        clear H
                        go_wp2_with (first | ((with_reducible refine gate_callee (f := 26) rfl ?_); refine goesL_ (some 60) rfl rfl Try.func26 (by kernel_rfl) rfl #[.string t194, .string t195] rfl (by (try simp only [List.map_toArray, List.map_cons, List.map_nil]); first | done | rfl | (simp only [List.length_drop, List.length_take]; rfl)) ?_; (with_reducible refine (impl_IsRearranged.calls kj19 t194 t195 t196 _ A42.out).mono ?_); rintro e w65 ⟨rfl, hb⟩; refine ⟨_, rfl, ?_⟩; have n0_ := Aside0.mk (below_step (by repeat (first | (with_reducible first | exact HB.out | apply below_alloc | apply pw_below_drewN | apply below_drew1) | exact HB.out)) hb); clear HB; have HB := n0_; clear n0_; (try clear hb); (try clear hb2); (try clear hk); (try clear hi)) | ((with_reducible refine gate_callee (f := 26) rfl ?_); refine goesL_ (some 63) rfl rfl Try.func26 (by kernel_rfl) rfl #[.string t195, .string t194] rfl (by (try simp only [List.map_toArray, List.map_cons, List.map_nil]); first | done | rfl | (simp only [List.length_drop, List.length_take]; rfl)) ?_; (with_reducible refine (impl_IsRearranged.calls kj19 t195 t194 t197 _ A43.out).mono ?_); rintro e w66 ⟨rfl, hb⟩; refine ⟨_, rfl, ?_⟩; have n0_ := Aside0.mk (below_step (by repeat (first | (with_reducible first | exact HB.out | apply below_alloc | apply pw_below_drewN | apply below_drew1) | exact HB.out)) hb); clear HB; have HB := n0_; clear n0_; (try clear hb); (try clear hb2); (try clear hk); (try clear hi)) | (go_at_call 26; (with_reducible refine (impl_IsRearranged.calls kj19 t194 t194 false _ A47.out).mono ?_); rintro e w67 ⟨rfl, hb⟩; have n0_ := Aside0.mk (below_step (by repeat (first | (with_reducible first | exact HB.out | apply below_alloc | apply pw_below_drewN | apply below_drew1) | exact HB.out)) hb); clear HB; have HB := n0_; clear n0_; (try clear hb); (try clear hb2); (try clear hk); (try clear hi)) | (go_at_call 26; (with_reducible refine (impl_IsRearranged.calls kj19 t194 t195 false _ A52.out).mono ?_); rintro e w68 ⟨rfl, hb⟩; have n0_ := Aside0.mk (below_step (by repeat (first | (with_reducible first | exact HB.out | apply below_alloc | apply pw_below_drewN | apply below_drew1) | exact HB.out)) hb); clear HB; have HB := n0_; clear n0_; (try clear hb); (try clear hb2); (try clear hk); (try clear hi)))
                        go_meet
                        case rel => exact ⟨_, (false), (by first | rfl | (simp; done) | (simp [*]; done) | (simp; exact Go.Proofs.YtgnpindamkgggaaRev.isEmpty_bne _) | (simp [*]; exact Go.Proofs.YtgnpindamkgggaaRev.isEmpty_bne _)), H', ⟨by have := HJ4.out; have := HJ19.out; first | omega | exact Nat.le_refl _⟩, ⟨by repeat (first | (with_reducible first | exact HB.out | apply below_alloc | apply pw_below_drewN | apply below_drew1) | exact HB.out)⟩⟩
                case rest =>
                  clear HC40
                  try clear c1
                  try clear c2
                  try clear p2
                  try clear c3
                  try clear c4
                  try clear c5
                  try clear c9
                  try clear c9b0
                  try clear c9b1
                  try clear c15
                  try clear c18
                  try clear c21
                  try clear c22
                  try clear c23
                  try clear c24
                  try clear c24b0
                  try clear c24b1
                  try clear c24b2
                  try clear c25
                  try clear c26
                  try clear c27
                  try clear c27b0
                  try clear c27b1
                  try clear c29
                  try clear c37
                  try clear c38
                  try clear c44
                  try clear c44b0
                  try clear c44b1
                  try clear c44b2
                  try clear c48
                  try clear c53
                  try clear c54
                  try clear c54b0
                  try clear c54b1
                  try clear c54b2
                  try clear p2
                  obtain ⟨kq, x88_39, rfl, HA, HJ39, HB⟩ := hcut
                  cases kq with
                  | zero => exact absurd HA.out (by simp [laws_FnWords.j2])
                  | succ kj39 =>
                    have H := HA.out
                    clear HA
                    simp only [laws_FnWords.j2] at H
                    by_cases c69 : x88_39 = true
                    · subst c69
                      have H1 : (some false) = some r := by rw [if_pos rfl] at H; exact H
                      clear H
                      have H := H1
                      clear H1
                      obtain rfl := Option.some.inj H
                      go_wp2
                      go_ret
                      exact ⟨by first | rfl | (simp [errW_none, errW_some] <;> rfl) | (simp [*, errW_none, errW_some] <;> rfl) | (exfalso; first | exact absurd (A10.out.symm.trans A25.out) (by simp) | exact absurd (A22.out.symm.trans A28.out) (by simp) | exact absurd (A22.out.symm.trans A36.out) (by simp) | exact absurd (A28.out.symm.trans A36.out) (by simp) | exact absurd (A42.out.symm.trans A52.out) (by simp) | exact absurd (A7.out.symm.trans A10.out) (by simp) | exact absurd (A7.out.symm.trans A25.out) (by simp) | exact absurd (A71.out.symm.trans A76.out) (by simp) | exact absurd (A71.out.symm.trans A83.out) (by simp) | exact absurd (A73.out.symm.trans A79.out) (by simp) | exact absurd (A73.out.symm.trans A86.out) (by simp) | exact absurd (A76.out.symm.trans A83.out) (by simp) | exact absurd (A79.out.symm.trans A86.out) (by simp)), by repeat (first | (with_reducible first | exact HB.out | apply below_alloc | apply pw_below_drewN | apply below_drew1) | exact HB.out)⟩
                    · replace c69 := Bool.eq_false_iff.mpr c69
                      subst c69
                      have H1 : ((spec_DrawBeforeWord.f kj39 l0).bind fun bt202 => ((impl_BeforeWord.f bt202.1 bt202.2).bind fun t204 => (if t204 = true then ((impl_BeforeWord.f bt202.2 bt202.1).bind fun t205 => (if t205 = true then (some false) else ((impl_BeforeWord.f bt202.1 bt202.2).bind fun t206 => (if t206 = true then (some true) else ((impl_BeforeWord.f bt202.2 bt202.1).bind fun t207 => (if t207 = true then (some true) else (some (bt202.1.toList == bt202.2.toList)))))))) else ((impl_BeforeWord.f bt202.1 bt202.2).bind fun t208 => (if t208 = true then (some true) else ((impl_BeforeWord.f bt202.2 bt202.1).bind fun t209 => (if t209 = true then (some true) else (some (bt202.1.toList == bt202.2.toList))))))))) = some r := by rw [if_neg (show ¬ (false = true) by decide)] at H; exact H
                      clear H
                      have H := H1
                      clear H1
                      replace H := Option.bind_eq_some_iff.mp H
                      obtain ⟨⟨t202, t203⟩, A700, H⟩ := H
                      replace H : ((impl_BeforeWord.f t202 t203).bind fun t204 => (if t204 = true then ((impl_BeforeWord.f t203 t202).bind fun t205 => (if t205 = true then (some false) else ((impl_BeforeWord.f t202 t203).bind fun t206 => (if t206 = true then (some true) else ((impl_BeforeWord.f t203 t202).bind fun t207 => (if t207 = true then (some true) else (some (t202.toList == t203.toList)))))))) else ((impl_BeforeWord.f t202 t203).bind fun t208 => (if t208 = true then (some true) else ((impl_BeforeWord.f t203 t202).bind fun t209 => (if t209 = true then (some true) else (some (t202.toList == t203.toList)))))))) = some r := H
                      have A70 := Aside0.mk A700
                      clear A700
                      replace H := Option.bind_eq_some_iff.mp H
                      obtain ⟨t204, A710, H⟩ := H
                      replace H : (if t204 = true then ((impl_BeforeWord.f t203 t202).bind fun t205 => (if t205 = true then (some false) else ((impl_BeforeWord.f t202 t203).bind fun t206 => (if t206 = true then (some true) else ((impl_BeforeWord.f t203 t202).bind fun t207 => (if t207 = true then (some true) else (some (t202.toList == t203.toList)))))))) else ((impl_BeforeWord.f t202 t203).bind fun t208 => (if t208 = true then (some true) else ((impl_BeforeWord.f t203 t202).bind fun t209 => (if t209 = true then (some true) else (some (t202.toList == t203.toList))))))) = some r := H
                      have A71 := Aside0.mk A710
                      clear A710
                      by_cases c72 : t204 = true
                      · subst c72
                        have H1 : ((impl_BeforeWord.f t203 t202).bind fun t205 => (if t205 = true then (some false) else ((impl_BeforeWord.f t202 t203).bind fun t206 => (if t206 = true then (some true) else ((impl_BeforeWord.f t203 t202).bind fun t207 => (if t207 = true then (some true) else (some (t202.toList == t203.toList)))))))) = some r := by rw [if_pos rfl] at H; exact H
                        clear H
                        have H := H1
                        clear H1
                        replace H := Option.bind_eq_some_iff.mp H
                        obtain ⟨t205, A730, H⟩ := H
                        replace H : (if t205 = true then (some false) else ((impl_BeforeWord.f t202 t203).bind fun t206 => (if t206 = true then (some true) else ((impl_BeforeWord.f t203 t202).bind fun t207 => (if t207 = true then (some true) else (some (t202.toList == t203.toList))))))) = some r := H
                        have A73 := Aside0.mk A730
                        clear A730
                        by_cases c74 : t205 = true
                        · subst c74
                          have H1 : (some false) = some r := by rw [if_pos rfl] at H; exact H
                          clear H
                          have H := H1
                          clear H1
                          obtain rfl := Option.some.inj H
                          go_wp2_with (first | ((with_reducible refine gate_callee (f := 28) rfl ?_); refine goesL_ (some 91) rfl rfl Try.func28 (by kernel_rfl) rfl #[.slice A0 l0.length c0] rfl (by (try simp only [List.map_toArray, List.map_cons, List.map_nil]); first | done | rfl | (simp only [List.length_drop, List.length_take]; rfl)) ?_; (with_reducible refine (spec_DrawBeforeWord.calls kj39 _ _ l0 t202 t203 _ ?side1 ?side2 A70.out).mono ?_); (case side1 => repeat (first | exact (Kd.C_below HR0.out HB.out) | (with_reducible refine Kd.C_alloc ?_ _) | (with_reducible refine Kd.C_drewN ?_ _) | (with_reducible refine Kd.C_drew ?_))); (case side2 => exact HC0.out); rintro e w75 ⟨rfl, hb⟩; refine ⟨_, rfl, ?_⟩; have n0_ := Aside0.mk (below_step (by repeat (first | (with_reducible first | exact HB.out | apply below_alloc | apply pw_below_drewN | apply below_drew1) | exact HB.out)) hb); clear HB; have HB := n0_; clear n0_; (try clear hb); (try clear hb2); (try clear hk); (try clear hi)) | ((with_reducible refine gate_callee (f := 29) rfl ?_); refine goesL_ (some 96) rfl rfl Try.func29 (by kernel_rfl) rfl #[.string t202, .string t203] rfl (by (try simp only [List.map_toArray, List.map_cons, List.map_nil]); first | done | rfl | (simp only [List.length_drop, List.length_take]; rfl)) ?_; (with_reducible refine (impl_BeforeWord.calls t202 t203 true _ A71.out).mono ?_); rintro e w' ⟨rfl, ⟨nd, rfl⟩⟩; refine ⟨_, rfl, ?_⟩) | (go_at_call 29; (with_reducible refine (impl_BeforeWord.calls t203 t202 true _ A73.out).mono ?_); rintro e w' ⟨rfl, ⟨nd, rfl⟩⟩))
                          go_ret
                          exact ⟨by first | rfl | (simp [errW_none, errW_some] <;> rfl) | (simp [*, errW_none, errW_some] <;> rfl) | (exfalso; first | exact absurd (A10.out.symm.trans A25.out) (by simp) | exact absurd (A22.out.symm.trans A28.out) (by simp) | exact absurd (A22.out.symm.trans A36.out) (by simp) | exact absurd (A28.out.symm.trans A36.out) (by simp) | exact absurd (A42.out.symm.trans A52.out) (by simp) | exact absurd (A7.out.symm.trans A10.out) (by simp) | exact absurd (A7.out.symm.trans A25.out) (by simp) | exact absurd (A71.out.symm.trans A76.out) (by simp) | exact absurd (A71.out.symm.trans A83.out) (by simp) | exact absurd (A73.out.symm.trans A79.out) (by simp) | exact absurd (A73.out.symm.trans A86.out) (by simp) | exact absurd (A76.out.symm.trans A83.out) (by simp) | exact absurd (A79.out.symm.trans A86.out) (by simp)), by repeat (first | (with_reducible first | exact HB.out | apply below_alloc | apply pw_below_drewN | apply below_drew1) | exact HB.out)⟩
                        · replace c74 := Bool.eq_false_iff.mpr c74
                          subst c74
                          have H1 : ((impl_BeforeWord.f t202 t203).bind fun t206 => (if t206 = true then (some true) else ((impl_BeforeWord.f t203 t202).bind fun t207 => (if t207 = true then (some true) else (some (t202.toList == t203.toList)))))) = some r := by rw [if_neg (show ¬ (false = true) by decide)] at H; exact H
                          clear H
                          have H := H1
                          clear H1
                          replace H := Option.bind_eq_some_iff.mp H
                          obtain ⟨t206, A760, H⟩ := H
                          replace H : (if t206 = true then (some true) else ((impl_BeforeWord.f t203 t202).bind fun t207 => (if t207 = true then (some true) else (some (t202.toList == t203.toList))))) = some r := H
                          have A76 := Aside0.mk A760
                          clear A760
                          by_cases c77 : t206 = true
                          · subst c77
                            have H1 : (some true) = some r := by rw [if_pos rfl] at H; exact H
                            clear H
                            have H := H1
                            clear H1
                            obtain rfl := Option.some.inj H
                            go_wp2_with (first | ((with_reducible refine gate_callee (f := 28) rfl ?_); refine goesL_ (some 91) rfl rfl Try.func28 (by kernel_rfl) rfl #[.slice A0 l0.length c0] rfl (by (try simp only [List.map_toArray, List.map_cons, List.map_nil]); first | done | rfl | (simp only [List.length_drop, List.length_take]; rfl)) ?_; (with_reducible refine (spec_DrawBeforeWord.calls kj39 _ _ l0 t202 t203 _ ?side1 ?side2 A70.out).mono ?_); (case side1 => repeat (first | exact (Kd.C_below HR0.out HB.out) | (with_reducible refine Kd.C_alloc ?_ _) | (with_reducible refine Kd.C_drewN ?_ _) | (with_reducible refine Kd.C_drew ?_))); (case side2 => exact HC0.out); rintro e w78 ⟨rfl, hb⟩; refine ⟨_, rfl, ?_⟩; have n0_ := Aside0.mk (below_step (by repeat (first | (with_reducible first | exact HB.out | apply below_alloc | apply pw_below_drewN | apply below_drew1) | exact HB.out)) hb); clear HB; have HB := n0_; clear n0_; (try clear hb); (try clear hb2); (try clear hk); (try clear hi)) | ((with_reducible refine gate_callee (f := 29) rfl ?_); refine goesL_ (some 96) rfl rfl Try.func29 (by kernel_rfl) rfl #[.string t202, .string t203] rfl (by (try simp only [List.map_toArray, List.map_cons, List.map_nil]); first | done | rfl | (simp only [List.length_drop, List.length_take]; rfl)) ?_; (with_reducible refine (impl_BeforeWord.calls t202 t203 true _ A71.out).mono ?_); rintro e w' ⟨rfl, ⟨nd, rfl⟩⟩; refine ⟨_, rfl, ?_⟩) | (go_at_call 29; (with_reducible refine (impl_BeforeWord.calls t203 t202 false _ A73.out).mono ?_); rintro e w' ⟨rfl, ⟨nd, rfl⟩⟩) | (go_at_call 29; (with_reducible refine (impl_BeforeWord.calls t202 t203 true _ A76.out).mono ?_); rintro e w' ⟨rfl, ⟨nd, rfl⟩⟩))
                            go_ret
                            exact ⟨by first | rfl | (simp [errW_none, errW_some] <;> rfl) | (simp [*, errW_none, errW_some] <;> rfl) | (exfalso; first | exact absurd (A10.out.symm.trans A25.out) (by simp) | exact absurd (A22.out.symm.trans A28.out) (by simp) | exact absurd (A22.out.symm.trans A36.out) (by simp) | exact absurd (A28.out.symm.trans A36.out) (by simp) | exact absurd (A42.out.symm.trans A52.out) (by simp) | exact absurd (A7.out.symm.trans A10.out) (by simp) | exact absurd (A7.out.symm.trans A25.out) (by simp) | exact absurd (A71.out.symm.trans A76.out) (by simp) | exact absurd (A71.out.symm.trans A83.out) (by simp) | exact absurd (A73.out.symm.trans A79.out) (by simp) | exact absurd (A73.out.symm.trans A86.out) (by simp) | exact absurd (A76.out.symm.trans A83.out) (by simp) | exact absurd (A79.out.symm.trans A86.out) (by simp)), by repeat (first | (with_reducible first | exact HB.out | apply below_alloc | apply pw_below_drewN | apply below_drew1) | exact HB.out)⟩
                          · replace c77 := Bool.eq_false_iff.mpr c77
                            subst c77
                            have H1 : ((impl_BeforeWord.f t203 t202).bind fun t207 => (if t207 = true then (some true) else (some (t202.toList == t203.toList)))) = some r := by rw [if_neg (show ¬ (false = true) by decide)] at H; exact H
                            clear H
                            have H := H1
                            clear H1
                            replace H := Option.bind_eq_some_iff.mp H
                            obtain ⟨t207, A790, H⟩ := H
                            replace H : (if t207 = true then (some true) else (some (t202.toList == t203.toList))) = some r := H
                            have A79 := Aside0.mk A790
                            clear A790
                            by_cases c80 : t207 = true
                            · subst c80
                              have H1 : (some true) = some r := by rw [if_pos rfl] at H; exact H
                              clear H
                              have H := H1
                              clear H1
                              obtain rfl := Option.some.inj H
                              go_wp2_with (first | ((with_reducible refine gate_callee (f := 28) rfl ?_); refine goesL_ (some 91) rfl rfl Try.func28 (by kernel_rfl) rfl #[.slice A0 l0.length c0] rfl (by (try simp only [List.map_toArray, List.map_cons, List.map_nil]); first | done | rfl | (simp only [List.length_drop, List.length_take]; rfl)) ?_; (with_reducible refine (spec_DrawBeforeWord.calls kj39 _ _ l0 t202 t203 _ ?side1 ?side2 A70.out).mono ?_); (case side1 => repeat (first | exact (Kd.C_below HR0.out HB.out) | (with_reducible refine Kd.C_alloc ?_ _) | (with_reducible refine Kd.C_drewN ?_ _) | (with_reducible refine Kd.C_drew ?_))); (case side2 => exact HC0.out); rintro e w81 ⟨rfl, hb⟩; refine ⟨_, rfl, ?_⟩; have n0_ := Aside0.mk (below_step (by repeat (first | (with_reducible first | exact HB.out | apply below_alloc | apply pw_below_drewN | apply below_drew1) | exact HB.out)) hb); clear HB; have HB := n0_; clear n0_; (try clear hb); (try clear hb2); (try clear hk); (try clear hi)) | ((with_reducible refine gate_callee (f := 29) rfl ?_); refine goesL_ (some 96) rfl rfl Try.func29 (by kernel_rfl) rfl #[.string t202, .string t203] rfl (by (try simp only [List.map_toArray, List.map_cons, List.map_nil]); first | done | rfl | (simp only [List.length_drop, List.length_take]; rfl)) ?_; (with_reducible refine (impl_BeforeWord.calls t202 t203 true _ A71.out).mono ?_); rintro e w' ⟨rfl, ⟨nd, rfl⟩⟩; refine ⟨_, rfl, ?_⟩) | (go_at_call 29; (with_reducible refine (impl_BeforeWord.calls t203 t202 false _ A73.out).mono ?_); rintro e w' ⟨rfl, ⟨nd, rfl⟩⟩) | (go_at_call 29; (with_reducible refine (impl_BeforeWord.calls t202 t203 false _ A76.out).mono ?_); rintro e w' ⟨rfl, ⟨nd, rfl⟩⟩) | (go_at_call 29; (with_reducible refine (impl_BeforeWord.calls t203 t202 true _ A79.out).mono ?_); rintro e w' ⟨rfl, ⟨nd, rfl⟩⟩))
                              go_ret
                              exact ⟨by first | rfl | (simp [errW_none, errW_some] <;> rfl) | (simp [*, errW_none, errW_some] <;> rfl) | (exfalso; first | exact absurd (A10.out.symm.trans A25.out) (by simp) | exact absurd (A22.out.symm.trans A28.out) (by simp) | exact absurd (A22.out.symm.trans A36.out) (by simp) | exact absurd (A28.out.symm.trans A36.out) (by simp) | exact absurd (A42.out.symm.trans A52.out) (by simp) | exact absurd (A7.out.symm.trans A10.out) (by simp) | exact absurd (A7.out.symm.trans A25.out) (by simp) | exact absurd (A71.out.symm.trans A76.out) (by simp) | exact absurd (A71.out.symm.trans A83.out) (by simp) | exact absurd (A73.out.symm.trans A79.out) (by simp) | exact absurd (A73.out.symm.trans A86.out) (by simp) | exact absurd (A76.out.symm.trans A83.out) (by simp) | exact absurd (A79.out.symm.trans A86.out) (by simp)), by repeat (first | (with_reducible first | exact HB.out | apply below_alloc | apply pw_below_drewN | apply below_drew1) | exact HB.out)⟩
                            · replace c80 := Bool.eq_false_iff.mpr c80
                              subst c80
                              have H1 : (some (t202.toList == t203.toList)) = some r := by rw [if_neg (show ¬ (false = true) by decide)] at H; exact H
                              clear H
                              have H := H1
                              clear H1
                              obtain rfl := Option.some.inj H
                              go_wp2_with (first | ((with_reducible refine gate_callee (f := 28) rfl ?_); refine goesL_ (some 91) rfl rfl Try.func28 (by kernel_rfl) rfl #[.slice A0 l0.length c0] rfl (by (try simp only [List.map_toArray, List.map_cons, List.map_nil]); first | done | rfl | (simp only [List.length_drop, List.length_take]; rfl)) ?_; (with_reducible refine (spec_DrawBeforeWord.calls kj39 _ _ l0 t202 t203 _ ?side1 ?side2 A70.out).mono ?_); (case side1 => repeat (first | exact (Kd.C_below HR0.out HB.out) | (with_reducible refine Kd.C_alloc ?_ _) | (with_reducible refine Kd.C_drewN ?_ _) | (with_reducible refine Kd.C_drew ?_))); (case side2 => exact HC0.out); rintro e w82 ⟨rfl, hb⟩; refine ⟨_, rfl, ?_⟩; have n0_ := Aside0.mk (below_step (by repeat (first | (with_reducible first | exact HB.out | apply below_alloc | apply pw_below_drewN | apply below_drew1) | exact HB.out)) hb); clear HB; have HB := n0_; clear n0_; (try clear hb); (try clear hb2); (try clear hk); (try clear hi)) | ((with_reducible refine gate_callee (f := 29) rfl ?_); refine goesL_ (some 96) rfl rfl Try.func29 (by kernel_rfl) rfl #[.string t202, .string t203] rfl (by (try simp only [List.map_toArray, List.map_cons, List.map_nil]); first | done | rfl | (simp only [List.length_drop, List.length_take]; rfl)) ?_; (with_reducible refine (impl_BeforeWord.calls t202 t203 true _ A71.out).mono ?_); rintro e w' ⟨rfl, ⟨nd, rfl⟩⟩; refine ⟨_, rfl, ?_⟩) | (go_at_call 29; (with_reducible refine (impl_BeforeWord.calls t203 t202 false _ A73.out).mono ?_); rintro e w' ⟨rfl, ⟨nd, rfl⟩⟩) | (go_at_call 29; (with_reducible refine (impl_BeforeWord.calls t202 t203 false _ A76.out).mono ?_); rintro e w' ⟨rfl, ⟨nd, rfl⟩⟩) | (go_at_call 29; (with_reducible refine (impl_BeforeWord.calls t203 t202 false _ A79.out).mono ?_); rintro e w' ⟨rfl, ⟨nd, rfl⟩⟩))
                              go_ret
                              exact ⟨by first | rfl | (simp [errW_none, errW_some] <;> rfl) | (simp [*, errW_none, errW_some] <;> rfl) | (exfalso; first | exact absurd (A10.out.symm.trans A25.out) (by simp) | exact absurd (A22.out.symm.trans A28.out) (by simp) | exact absurd (A22.out.symm.trans A36.out) (by simp) | exact absurd (A28.out.symm.trans A36.out) (by simp) | exact absurd (A42.out.symm.trans A52.out) (by simp) | exact absurd (A7.out.symm.trans A10.out) (by simp) | exact absurd (A7.out.symm.trans A25.out) (by simp) | exact absurd (A71.out.symm.trans A76.out) (by simp) | exact absurd (A71.out.symm.trans A83.out) (by simp) | exact absurd (A73.out.symm.trans A79.out) (by simp) | exact absurd (A73.out.symm.trans A86.out) (by simp) | exact absurd (A76.out.symm.trans A83.out) (by simp) | exact absurd (A79.out.symm.trans A86.out) (by simp)), by repeat (first | (with_reducible first | exact HB.out | apply below_alloc | apply pw_below_drewN | apply below_drew1) | exact HB.out)⟩
                      · replace c72 := Bool.eq_false_iff.mpr c72
                        subst c72
                        have H1 : ((impl_BeforeWord.f t202 t203).bind fun t208 => (if t208 = true then (some true) else ((impl_BeforeWord.f t203 t202).bind fun t209 => (if t209 = true then (some true) else (some (t202.toList == t203.toList)))))) = some r := by rw [if_neg (show ¬ (false = true) by decide)] at H; exact H
                        clear H
                        have H := H1
                        clear H1
                        replace H := Option.bind_eq_some_iff.mp H
                        obtain ⟨t208, A830, H⟩ := H
                        replace H : (if t208 = true then (some true) else ((impl_BeforeWord.f t203 t202).bind fun t209 => (if t209 = true then (some true) else (some (t202.toList == t203.toList))))) = some r := H
                        have A83 := Aside0.mk A830
                        clear A830
                        by_cases c84 : t208 = true
                        · subst c84
                          have H1 : (some true) = some r := by rw [if_pos rfl] at H; exact H
                          clear H
                          have H := H1
                          clear H1
                          obtain rfl := Option.some.inj H
                          go_wp2_with (first | ((with_reducible refine gate_callee (f := 28) rfl ?_); refine goesL_ (some 91) rfl rfl Try.func28 (by kernel_rfl) rfl #[.slice A0 l0.length c0] rfl (by (try simp only [List.map_toArray, List.map_cons, List.map_nil]); first | done | rfl | (simp only [List.length_drop, List.length_take]; rfl)) ?_; (with_reducible refine (spec_DrawBeforeWord.calls kj39 _ _ l0 t202 t203 _ ?side1 ?side2 A70.out).mono ?_); (case side1 => repeat (first | exact (Kd.C_below HR0.out HB.out) | (with_reducible refine Kd.C_alloc ?_ _) | (with_reducible refine Kd.C_drewN ?_ _) | (with_reducible refine Kd.C_drew ?_))); (case side2 => exact HC0.out); rintro e w85 ⟨rfl, hb⟩; refine ⟨_, rfl, ?_⟩; have n0_ := Aside0.mk (below_step (by repeat (first | (with_reducible first | exact HB.out | apply below_alloc | apply pw_below_drewN | apply below_drew1) | exact HB.out)) hb); clear HB; have HB := n0_; clear n0_; (try clear hb); (try clear hb2); (try clear hk); (try clear hi)) | ((with_reducible refine gate_callee (f := 29) rfl ?_); refine goesL_ (some 96) rfl rfl Try.func29 (by kernel_rfl) rfl #[.string t202, .string t203] rfl (by (try simp only [List.map_toArray, List.map_cons, List.map_nil]); first | done | rfl | (simp only [List.length_drop, List.length_take]; rfl)) ?_; (with_reducible refine (impl_BeforeWord.calls t202 t203 false _ A71.out).mono ?_); rintro e w' ⟨rfl, ⟨nd, rfl⟩⟩; refine ⟨_, rfl, ?_⟩) | (go_at_call 29; (with_reducible refine (impl_BeforeWord.calls t202 t203 true _ A83.out).mono ?_); rintro e w' ⟨rfl, ⟨nd, rfl⟩⟩))
                          go_ret
                          exact ⟨by first | rfl | (simp [errW_none, errW_some] <;> rfl) | (simp [*, errW_none, errW_some] <;> rfl) | (exfalso; first | exact absurd (A10.out.symm.trans A25.out) (by simp) | exact absurd (A22.out.symm.trans A28.out) (by simp) | exact absurd (A22.out.symm.trans A36.out) (by simp) | exact absurd (A28.out.symm.trans A36.out) (by simp) | exact absurd (A42.out.symm.trans A52.out) (by simp) | exact absurd (A7.out.symm.trans A10.out) (by simp) | exact absurd (A7.out.symm.trans A25.out) (by simp) | exact absurd (A71.out.symm.trans A76.out) (by simp) | exact absurd (A71.out.symm.trans A83.out) (by simp) | exact absurd (A73.out.symm.trans A79.out) (by simp) | exact absurd (A73.out.symm.trans A86.out) (by simp) | exact absurd (A76.out.symm.trans A83.out) (by simp) | exact absurd (A79.out.symm.trans A86.out) (by simp)), by repeat (first | (with_reducible first | exact HB.out | apply below_alloc | apply pw_below_drewN | apply below_drew1) | exact HB.out)⟩
                        · replace c84 := Bool.eq_false_iff.mpr c84
                          subst c84
                          have H1 : ((impl_BeforeWord.f t203 t202).bind fun t209 => (if t209 = true then (some true) else (some (t202.toList == t203.toList)))) = some r := by rw [if_neg (show ¬ (false = true) by decide)] at H; exact H
                          clear H
                          have H := H1
                          clear H1
                          replace H := Option.bind_eq_some_iff.mp H
                          obtain ⟨t209, A860, H⟩ := H
                          replace H : (if t209 = true then (some true) else (some (t202.toList == t203.toList))) = some r := H
                          have A86 := Aside0.mk A860
                          clear A860
                          by_cases c87 : t209 = true
                          · subst c87
                            have H1 : (some true) = some r := by rw [if_pos rfl] at H; exact H
                            clear H
                            have H := H1
                            clear H1
                            obtain rfl := Option.some.inj H
                            go_wp2_with (first | ((with_reducible refine gate_callee (f := 28) rfl ?_); refine goesL_ (some 91) rfl rfl Try.func28 (by kernel_rfl) rfl #[.slice A0 l0.length c0] rfl (by (try simp only [List.map_toArray, List.map_cons, List.map_nil]); first | done | rfl | (simp only [List.length_drop, List.length_take]; rfl)) ?_; (with_reducible refine (spec_DrawBeforeWord.calls kj39 _ _ l0 t202 t203 _ ?side1 ?side2 A70.out).mono ?_); (case side1 => repeat (first | exact (Kd.C_below HR0.out HB.out) | (with_reducible refine Kd.C_alloc ?_ _) | (with_reducible refine Kd.C_drewN ?_ _) | (with_reducible refine Kd.C_drew ?_))); (case side2 => exact HC0.out); rintro e w88 ⟨rfl, hb⟩; refine ⟨_, rfl, ?_⟩; have n0_ := Aside0.mk (below_step (by repeat (first | (with_reducible first | exact HB.out | apply below_alloc | apply pw_below_drewN | apply below_drew1) | exact HB.out)) hb); clear HB; have HB := n0_; clear n0_; (try clear hb); (try clear hb2); (try clear hk); (try clear hi)) | ((with_reducible refine gate_callee (f := 29) rfl ?_); refine goesL_ (some 96) rfl rfl Try.func29 (by kernel_rfl) rfl #[.string t202, .string t203] rfl (by (try simp only [List.map_toArray, List.map_cons, List.map_nil]); first | done | rfl | (simp only [List.length_drop, List.length_take]; rfl)) ?_; (with_reducible refine (impl_BeforeWord.calls t202 t203 false _ A71.out).mono ?_); rintro e w' ⟨rfl, ⟨nd, rfl⟩⟩; refine ⟨_, rfl, ?_⟩) | (go_at_call 29; (with_reducible refine (impl_BeforeWord.calls t202 t203 false _ A83.out).mono ?_); rintro e w' ⟨rfl, ⟨nd, rfl⟩⟩) | (go_at_call 29; (with_reducible refine (impl_BeforeWord.calls t203 t202 true _ A86.out).mono ?_); rintro e w' ⟨rfl, ⟨nd, rfl⟩⟩))
                            go_ret
                            exact ⟨by first | rfl | (simp [errW_none, errW_some] <;> rfl) | (simp [*, errW_none, errW_some] <;> rfl) | (exfalso; first | exact absurd (A10.out.symm.trans A25.out) (by simp) | exact absurd (A22.out.symm.trans A28.out) (by simp) | exact absurd (A22.out.symm.trans A36.out) (by simp) | exact absurd (A28.out.symm.trans A36.out) (by simp) | exact absurd (A42.out.symm.trans A52.out) (by simp) | exact absurd (A7.out.symm.trans A10.out) (by simp) | exact absurd (A7.out.symm.trans A25.out) (by simp) | exact absurd (A71.out.symm.trans A76.out) (by simp) | exact absurd (A71.out.symm.trans A83.out) (by simp) | exact absurd (A73.out.symm.trans A79.out) (by simp) | exact absurd (A73.out.symm.trans A86.out) (by simp) | exact absurd (A76.out.symm.trans A83.out) (by simp) | exact absurd (A79.out.symm.trans A86.out) (by simp)), by repeat (first | (with_reducible first | exact HB.out | apply below_alloc | apply pw_below_drewN | apply below_drew1) | exact HB.out)⟩
                          · replace c87 := Bool.eq_false_iff.mpr c87
                            subst c87
                            have H1 : (some (t202.toList == t203.toList)) = some r := by rw [if_neg (show ¬ (false = true) by decide)] at H; exact H
                            clear H
                            have H := H1
                            clear H1
                            obtain rfl := Option.some.inj H
                            go_wp2_with (first | ((with_reducible refine gate_callee (f := 28) rfl ?_); refine goesL_ (some 91) rfl rfl Try.func28 (by kernel_rfl) rfl #[.slice A0 l0.length c0] rfl (by (try simp only [List.map_toArray, List.map_cons, List.map_nil]); first | done | rfl | (simp only [List.length_drop, List.length_take]; rfl)) ?_; (with_reducible refine (spec_DrawBeforeWord.calls kj39 _ _ l0 t202 t203 _ ?side1 ?side2 A70.out).mono ?_); (case side1 => repeat (first | exact (Kd.C_below HR0.out HB.out) | (with_reducible refine Kd.C_alloc ?_ _) | (with_reducible refine Kd.C_drewN ?_ _) | (with_reducible refine Kd.C_drew ?_))); (case side2 => exact HC0.out); rintro e w89 ⟨rfl, hb⟩; refine ⟨_, rfl, ?_⟩; have n0_ := Aside0.mk (below_step (by repeat (first | (with_reducible first | exact HB.out | apply below_alloc | apply pw_below_drewN | apply below_drew1) | exact HB.out)) hb); clear HB; have HB := n0_; clear n0_; (try clear hb); (try clear hb2); (try clear hk); (try clear hi)) | ((with_reducible refine gate_callee (f := 29) rfl ?_); refine goesL_ (some 96) rfl rfl Try.func29 (by kernel_rfl) rfl #[.string t202, .string t203] rfl (by (try simp only [List.map_toArray, List.map_cons, List.map_nil]); first | done | rfl | (simp only [List.length_drop, List.length_take]; rfl)) ?_; (with_reducible refine (impl_BeforeWord.calls t202 t203 false _ A71.out).mono ?_); rintro e w' ⟨rfl, ⟨nd, rfl⟩⟩; refine ⟨_, rfl, ?_⟩) | (go_at_call 29; (with_reducible refine (impl_BeforeWord.calls t202 t203 false _ A83.out).mono ?_); rintro e w' ⟨rfl, ⟨nd, rfl⟩⟩) | (go_at_call 29; (with_reducible refine (impl_BeforeWord.calls t203 t202 false _ A86.out).mono ?_); rintro e w' ⟨rfl, ⟨nd, rfl⟩⟩))
                            go_ret
                            exact ⟨by first | rfl | (simp [errW_none, errW_some] <;> rfl) | (simp [*, errW_none, errW_some] <;> rfl) | (exfalso; first | exact absurd (A10.out.symm.trans A25.out) (by simp) | exact absurd (A22.out.symm.trans A28.out) (by simp) | exact absurd (A22.out.symm.trans A36.out) (by simp) | exact absurd (A28.out.symm.trans A36.out) (by simp) | exact absurd (A42.out.symm.trans A52.out) (by simp) | exact absurd (A7.out.symm.trans A10.out) (by simp) | exact absurd (A7.out.symm.trans A25.out) (by simp) | exact absurd (A71.out.symm.trans A76.out) (by simp) | exact absurd (A71.out.symm.trans A83.out) (by simp) | exact absurd (A73.out.symm.trans A79.out) (by simp) | exact absurd (A73.out.symm.trans A86.out) (by simp) | exact absurd (A76.out.symm.trans A83.out) (by simp) | exact absurd (A79.out.symm.trans A86.out) (by simp)), by repeat (first | (with_reducible first | exact HB.out | apply below_alloc | apply pw_below_drewN | apply below_drew1) | exact HB.out)⟩

/-- THE ONE PURE STATEMENT of laws_FnWords: yours. -/
def laws_FnWords.Pure : Prop := ∀ (l0 : List Int), l0.length ≤ maxLen → l0.length * 1 ≤ 140737488351232 → (∀ x ∈ l0, (Lit.int .u8 x).wf = true) → ∃ k, laws_FnWords.f k l0 = some true
theorem laws_FnWords.walk (P : laws_FnWords.Pure) (a0 : Option Addr) (len0 cap0 : Nat) (z0 : List Int) (w : World) (w0 : (a0 = none ∧ len0 = 0 ∧ cap0 = 0 ∧ z0 = []) ∨ ∃ x, a0 = some x ∧ len0 ≤ cap0 ∧ cap0 ≤ maxLen ∧ z0.length = cap0 ∧ (∀ i, i < z0.length → w.cell? (x.add i) = some (.int .u8 (z0.getD i 0))) ∧ ∀ n ∈ z0, (Lit.int .u8 n).wf = true) (y0 : len0 * 1 ≤ 140737488351232) :
    Calls Try.prog 5 #[.slice a0 len0 cap0] w fun e w' => e = .returned (.bool true) ∧ Below w.heap.size w w' := by
  obtain ⟨l0, rfl, hr0, hm0, hw0, hc0⟩ := ReadsInt.ofRowC w0
  obtain ⟨k, h⟩ := P l0 hm0 y0 hw0
  refine (laws_FnWords.calls k _ _ l0 true w (Kd.C_of_reads (d := (0 : Int)) (h1 := fun _ => rfl) hr0) hc0 h).mono ?_
  rintro e w' ⟨rfl, hd⟩
  exact ⟨rfl, hd⟩

end Go.Proofs.Ytgnpindamkgggaa.PFnWords
