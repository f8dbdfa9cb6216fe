/- The law FnExactIsValidKey answers true for every integer. No condition. -/
import Derived.Test.YtpfhphckmkpfgaaPFnExactIsValidKeyx1
namespace Go.Proofs.Ytpfhphckmkpfgaa.Pure
open Go.RowKit Go.Proofs.Ytpfhphckmkpfgaa.PFnExactIsValidKey Go.Proofs.YtpfhphckmkpfgaaW.PrintWords Go.Proofs.YtpfhphckmkpfgaaW.PrintLast Go.Proofs.YtpfhphckmkpfgaaW.PrintMore
theorem FnExactIsValidKey : laws_FnExactIsValidKey.Pure := by
  intro a0 _
  unfold laws_FnExactIsValidKey.f spec_IsValidKey.f impl_IsValidKey.f spec_l1In.f impl_InRange.f
  by_cases h : 1 ≤ a0 <;> simp [h]
end Go.Proofs.Ytpfhphckmkpfgaa.Pure
