/- Contracts of Go functions that one law uses: each call comes to what the Lean function of its name says, under the conditions in its theorem; and the law's walk and row. -/
import Derived.Test.YtgnpindamkgggaaProg
import Derived.Below
import Derived.Deep.Draws
import Derived.Deep.AppendLies
import Derived.Maps.AppendAt
import Derived.OwnWalk
import Derived.Laws.BytesArg
import Derived.Laws.MakeOwn
import Derived.Laws.OwnMore
import Derived.Deep.OwnRows
import Derived.Tactics
import Derived.Lib.ConvBytes
import Derived.Laws.Slices
import Derived.WalkKit
import Derived.KernelRfl
import Derived.RowKit3
import Derived.Deep.LoopGhost
import Derived.Deep.QuietTactic
import Derived.BigQuiet
import Derived.WideLaws
import Derived.Deep.DeepCutAuto
import Derived.Deep.CutBlock
import Derived.Deep.RegionHeld3
import Derived.Laws.Rows
import Derived.Lib.AppendStr
import Derived.ArgAppend
import Derived.Laws.IdiomCopy
import Derived.OrdersHeld
import Derived.Laws.BitsLemmas
import Derived.RowKit
import Derived.WalkSpells
import Derived.Test.YtgnpindamkgggaaCRow
import Derived.Test.YtgnpindamkgggaaCompL
import Derived.Test.YtgnpindamkgggaaWWords
import Derived.Test.YtgnpindamkgggaaWLast
import Derived.Test.YtgnpindamkgggaaWTab
import Derived.Test.YtgnpindamkgggaaWFour
import Derived.Test.YtgnpindamkgggaaWQPut
import Derived.Test.YtgnpindamkgggaaWApart
import Derived.Test.YtgnpindamkgggaaWArr
import Derived.Test.YtgnpindamkgggaaWZeros
import Derived.Test.YtgnpindamkgggaaWFoot
import Derived.Test.YtgnpindamkgggaaWKept
import Derived.Test.YtgnpindamkgggaaWShare
import Derived.Test.YtgnpindamkgggaaWN
import Derived.Test.YtgnpindamkgggaaWFootNe
import Derived.Test.YtgnpindamkgggaaWAt
import Derived.Test.YtgnpindamkgggaaWEqStruct
import Derived.Test.YtgnpindamkgggaaWRepsOne
import Derived.Test.YtgnpindamkgggaaWInv
import Derived.Test.YtgnpindamkgggaaWInvWords
import Derived.Test.YtgnpindamkgggaaWGuard
import Derived.Test.YtgnpindamkgggaaWNEv
import Derived.Test.YtgnpindamkgggaaWMore
namespace Go.Proofs.Ytgnpindamkgggaa.PFnPatterns
open Go.RowKit Go.Proofs.YtgnpindamkgggaaW.PrintWords Go.Proofs.YtgnpindamkgggaaW.PrintLast Go.Proofs.YtgnpindamkgggaaW.PrintMore
attribute [local go_sem] max2_int min2_int max_two min_two max_three min_three max_four min_four   -- for this text's walks alone
set_option linter.unusedVariables false
set_option linter.unusedSimpArgs false



def errW : Option Int → Value
  | none => .nilIface
  | some c => .iface 0 (.int .i64 c)
theorem errW_none : errW none = .nilIface := rfl
theorem errW_some (c : Int) : errW (some c) = .iface 0 (.int .i64 c) := rfl

theorem info3 : (Try.prog.info? 3).map (fun i => (i.zero, i.size, i.bytes)) = some (some (.int .i64 0), 1, 8) := by kernel_rfl
theorem info5 : (Try.prog.info? 5).map (fun i => (i.zero, i.size, i.bytes)) = some (some (.int .u8 0), 1, 1) := by kernel_rfl
theorem info9 : (Try.prog.info? 9).map (fun i => (i.zero, i.size, i.bytes)) = some (some (.string ⟨#[]⟩), 1, 16) := by kernel_rfl
-- the values' own types

end Go.Proofs.Ytgnpindamkgggaa.PFnPatterns
