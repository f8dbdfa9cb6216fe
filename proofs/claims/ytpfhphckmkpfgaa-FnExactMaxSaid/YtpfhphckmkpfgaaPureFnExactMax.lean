/- The law FnExactMax answers true for all two integers. No condition. -/
import Derived.Test.YtpfhphckmkpfgaaPFnExactMaxx1
namespace Go.Proofs.Ytpfhphckmkpfgaa.Pure
open Go.RowKit Go.Proofs.Ytpfhphckmkpfgaa.PFnExactMax Go.Proofs.YtpfhphckmkpfgaaW.PrintWords Go.Proofs.YtpfhphckmkpfgaaW.PrintLast Go.Proofs.YtpfhphckmkpfgaaW.PrintMore
set_option linter.unusedVariables false
set_option linter.unusedSimpArgs false
theorem FnExactMax : laws_FnExactMax.Pure := by
  intro a0 a1 _ _
  have e : impl_Max.f a0 a1 = spec_Max.f a0 a1 := by
    unfold spec_Max.f impl_Max.f mx
    by_cases h : a0 < a1 <;> simp [h]
  have ⟨r, hr⟩ : ∃ r, spec_Max.f a0 a1 = some r := by
    unfold spec_Max.f
    split <;> exact ⟨_, rfl⟩
  unfold laws_FnExactMax.f
  rw [e, hr]
  simp
end Go.Proofs.Ytpfhphckmkpfgaa.Pure
