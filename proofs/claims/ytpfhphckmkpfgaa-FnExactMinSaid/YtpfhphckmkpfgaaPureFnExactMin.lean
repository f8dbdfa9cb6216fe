/- The law FnExactMin answers true for all two integers. No condition. -/
import Derived.Test.YtpfhphckmkpfgaaPFnExactMinx1
namespace Go.Proofs.Ytpfhphckmkpfgaa.Pure
open Go.RowKit Go.Proofs.Ytpfhphckmkpfgaa.PFnExactMin Go.Proofs.YtpfhphckmkpfgaaW.PrintWords Go.Proofs.YtpfhphckmkpfgaaW.PrintLast Go.Proofs.YtpfhphckmkpfgaaW.PrintMore
set_option linter.unusedVariables false
set_option linter.unusedSimpArgs false
theorem FnExactMin : laws_FnExactMin.Pure := by
  intro a0 a1 _ _
  have e : impl_Min.f a0 a1 = spec_Min.f a0 a1 := by
    unfold spec_Min.f impl_Min.f mn
    by_cases h : a1 < a0 <;> simp [h]
  have ⟨r, hr⟩ : ∃ r, spec_Min.f a0 a1 = some r := by
    unfold spec_Min.f
    split <;> exact ⟨_, rfl⟩
  unfold laws_FnExactMin.f
  rw [e, hr]
  simp
end Go.Proofs.Ytpfhphckmkpfgaa.Pure
