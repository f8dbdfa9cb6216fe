/- The law FnExactMod answers true for all two integers. No condition. -/
import Derived.Test.YtpfhphckmkpfgaaPFnExactModx1
namespace Go.Proofs.Ytpfhphckmkpfgaa.Pure
open Go.RowKit Go.Proofs.Ytpfhphckmkpfgaa.PFnExactMod Go.Proofs.YtpfhphckmkpfgaaW.PrintWords Go.Proofs.YtpfhphckmkpfgaaW.PrintLast Go.Proofs.YtpfhphckmkpfgaaW.PrintMore
set_option linter.unusedVariables false
set_option linter.unusedSimpArgs false
theorem inr (a b c : Int) : impl_InRange.f a b c = some (decide (b ≤ a ∧ a ≤ c)) := by
  unfold impl_InRange.f
  by_cases h : b ≤ a <;> simp [h]
theorem l1in (a b c : Int) : spec_l1In.f a b c = some (decide (b ≤ a ∧ a ≤ c)) := by
  unfold spec_l1In.f
  by_cases h : b ≤ a <;> simp [h]
theorem FnExactMod : laws_FnExactMod.Pure := by
  intro a0 a1 _ _
  have e : impl_Mod.f a0 a1 = spec_Mod.f a0 a1 := by
    unfold spec_Mod.f impl_Mod.f
    simp only [inr, l1in]
  have ⟨r, hr⟩ : ∃ r, spec_Mod.f a0 a1 = some r := by
    unfold spec_Mod.f
    simp only [l1in, Option.bind_some]
    by_cases h1 : (0 ≤ a0 ∧ a0 ≤ 1000000000000) <;> by_cases h2 : (1 ≤ a1 ∧ a1 ≤ 1000000000000)
    all_goals first
      | (have h3 : ¬ a1 = 0 := by omega
         simp [h1, h2, h3])
      | simp [h1, h2]
  unfold laws_FnExactMod.f
  rw [e, hr]
  simp
end Go.Proofs.Ytpfhphckmkpfgaa.Pure
