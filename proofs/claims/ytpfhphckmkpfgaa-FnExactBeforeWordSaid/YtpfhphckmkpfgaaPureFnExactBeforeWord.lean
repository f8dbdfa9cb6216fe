/- The law FnExactBeforeWord answers true for all two strings. No condition. -/
import Derived.Test.YtpfhphckmkpfgaaPFnExactBeforeWordx1
namespace Go.Proofs.Ytpfhphckmkpfgaa.Pure
open Go.RowKit Go.Proofs.Ytpfhphckmkpfgaa.PFnExactBeforeWord Go.Proofs.YtpfhphckmkpfgaaW.PrintWords Go.Proofs.YtpfhphckmkpfgaaW.PrintLast Go.Proofs.YtpfhphckmkpfgaaW.PrintMore
theorem FnExactBeforeWord : laws_FnExactBeforeWord.Pure := by
  intro a0 a1 _ _
  have e : impl_BeforeWord.f a0 a1 = spec_BeforeWord.f a0 a1 := rfl
  have ⟨r, hr⟩ : ∃ r, spec_BeforeWord.f a0 a1 = some r := by
    unfold spec_BeforeWord.f
    split <;> exact ⟨_, rfl⟩
  unfold laws_FnExactBeforeWord.f
  rw [e, hr]
  simp
end Go.Proofs.Ytpfhphckmkpfgaa.Pure
