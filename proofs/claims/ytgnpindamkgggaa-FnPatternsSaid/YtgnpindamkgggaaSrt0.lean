/- The library's own sort at bytes: its walks. No condition beyond those in each theorem. -/
import Derived.Test.YtgnpindamkgggaaProg
import Derived.WalkKit
import Derived.Test.YtgnpindamkgggaaEnc
import Derived.Lib.Walk
import Derived.Sort.Row
import Derived.Lib.Strings
import Derived.Sort.Walk0
import Derived.Test.YtgnpindamkgggaaSrtL
namespace Go.Proofs.YtgnpindamkgggaaSrt
open Go.RowKit Go.Sort Go.Proofs Go.Proofs.YtgnpindamkgggaaRev
set_option linter.unusedVariables false
set_option linter.unusedSimpArgs false
set_option maxHeartbeats 1000000 in
theorem So8.cmp_isNaN_int (x : Int) (w : World) : Calls Try.prog 115 #[.int .u8 x] w fun e w' => e = .returned (.bool false) ∧ w' = w := by
  go_enter Try.func115, Try.ntmps115
  go_wp2
  go_ret
  exact ⟨by simp, rfl⟩
set_option maxHeartbeats 1000000 in
theorem So8.cmp_Less_int (x y : Int) (w : World) : Calls Try.prog 104 #[.int .u8 x, .int .u8 y] w fun e w' => e = .returned (.bool (Sort.ltInt x y)) ∧ w' = w := by
  go_enter Try.func104, Try.ntmps104
  go_wp2_with (go_at_call 115; refine (So8.cmp_isNaN_int _ _).mono ?_; rintro e w' ⟨rfl, rfl⟩)
  go_ret
  exact ⟨rfl, rfl⟩
end Go.Proofs.YtgnpindamkgggaaSrt
