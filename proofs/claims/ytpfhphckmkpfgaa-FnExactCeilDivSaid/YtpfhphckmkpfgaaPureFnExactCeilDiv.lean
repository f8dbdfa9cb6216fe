/- The law FnExactCeilDiv answers true for all two integers. No condition. -/
import Derived.Test.YtpfhphckmkpfgaaPFnExactCeilDivx1
namespace Go.Proofs.Ytpfhphckmkpfgaa.Pure
open Go.RowKit Go.Proofs.Ytpfhphckmkpfgaa.PFnExactCeilDiv Go.Proofs.YtpfhphckmkpfgaaW.PrintWords Go.Proofs.YtpfhphckmkpfgaaW.PrintLast Go.Proofs.YtpfhphckmkpfgaaW.PrintMore
theorem inr (a b c : Int) : impl_InRange.f a b c = some (decide (b ≤ a ∧ a ≤ c)) := by
  unfold impl_InRange.f
  by_cases h : b ≤ a <;> simp [h]
theorem l1in (a b c : Int) : spec_l1In.f a b c = some (decide (b ≤ a ∧ a ≤ c)) := by
  unfold spec_l1In.f
  by_cases h : b ≤ a <;> simp [h]
theorem FnExactCeilDiv : laws_FnExactCeilDiv.Pure := by
  intro a0 a1 _ _
  have e : impl_CeilDiv.f a0 a1 = spec_CeilDiv.f a0 a1 := by
    unfold spec_CeilDiv.f impl_CeilDiv.f
    simp only [inr, l1in]
  have ⟨r, hr⟩ : ∃ r, spec_CeilDiv.f a0 a1 = some r := by
    unfold spec_CeilDiv.f
    simp only [l1in, Option.bind_some]
    by_cases h1 : (0 ≤ a0 ∧ a0 ≤ 1000000000000) <;> by_cases h2 : (1 ≤ a1 ∧ a1 ≤ 1000000000000)
    all_goals first
      | (have h3 : ¬ a1 = 0 := by omega
         simp [h1, h2, h3])
      | simp [h1, h2]
  unfold laws_FnExactCeilDiv.f
  rw [e, hr]
  simp
end Go.Proofs.Ytpfhphckmkpfgaa.Pure
