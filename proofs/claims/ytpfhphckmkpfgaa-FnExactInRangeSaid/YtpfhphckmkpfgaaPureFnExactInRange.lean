/- The law FnExactInRange answers true for all three integers. No condition. -/
import Derived.Test.YtpfhphckmkpfgaaPFnExactInRangex1
namespace Go.Proofs.Ytpfhphckmkpfgaa.Pure
open Go.RowKit Go.Proofs.Ytpfhphckmkpfgaa.PFnExactInRange Go.Proofs.YtpfhphckmkpfgaaW.PrintWords Go.Proofs.YtpfhphckmkpfgaaW.PrintLast Go.Proofs.YtpfhphckmkpfgaaW.PrintMore
theorem FnExactInRange : laws_FnExactInRange.Pure := by
  intro a0 a1 a2 _ _ _
  unfold laws_FnExactInRange.f spec_InRange.f impl_InRange.f
  by_cases h : a0 ≥ a1 <;> simp [h]
end Go.Proofs.Ytpfhphckmkpfgaa.Pure
