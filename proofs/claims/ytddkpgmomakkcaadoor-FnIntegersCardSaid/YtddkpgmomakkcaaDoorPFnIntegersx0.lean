/- Contracts of Go functions that one law uses: each call comes to what the Lean function of its name says, under the conditions in its theorem; and the law's walk and row. -/
import Derived.Test.YtddkpgmomakkcaaDoorProg
import Derived.Below
import Derived.Deep.Draws
import Derived.Deep.AppendLies
import Derived.Maps.AppendAt
import Derived.OwnWalk
import Derived.Laws.BytesArg
import Derived.Laws.MakeOwn
import Derived.Laws.OwnMore
import Derived.Deep.OwnRows
import Derived.Tactics
import Derived.Lib.ConvBytes
import Derived.Laws.Slices
import Derived.WalkKit
import Derived.KernelRfl
import Derived.RowKit3
import Derived.Deep.LoopGhost
import Derived.Deep.QuietTactic
import Derived.BigQuiet
import Derived.WideLaws
import Derived.Deep.DeepCutAuto
import Derived.Deep.CutBlock
import Derived.Deep.RegionHeld3
import Derived.Laws.Rows
import Derived.Lib.AppendStr
import Derived.ArgAppend
import Derived.Laws.IdiomCopy
import Derived.OrdersHeld
import Derived.Laws.BitsLemmas
import Derived.RowKit
import Derived.WalkSpells
import Derived.Test.YtddkpgmomakkcaaDoorTab
import Derived.Test.YtddkpgmomakkcaaDoorWWords
import Derived.Test.YtddkpgmomakkcaaDoorWLast
import Derived.Test.YtddkpgmomakkcaaDoorWTab
import Derived.Test.YtddkpgmomakkcaaDoorWFour
import Derived.Test.YtddkpgmomakkcaaDoorWQPut
import Derived.Test.YtddkpgmomakkcaaDoorWApart
import Derived.Test.YtddkpgmomakkcaaDoorWArr
import Derived.Test.YtddkpgmomakkcaaDoorWZeros
import Derived.Test.YtddkpgmomakkcaaDoorWFoot
import Derived.Test.YtddkpgmomakkcaaDoorWKept
import Derived.Test.YtddkpgmomakkcaaDoorWShare
import Derived.Test.YtddkpgmomakkcaaDoorWN
import Derived.Test.YtddkpgmomakkcaaDoorWFootNe
import Derived.Test.YtddkpgmomakkcaaDoorWAt
import Derived.Test.YtddkpgmomakkcaaDoorWEqStruct
import Derived.Test.YtddkpgmomakkcaaDoorWRepsOne
import Derived.Test.YtddkpgmomakkcaaDoorWInv
import Derived.Test.YtddkpgmomakkcaaDoorWInvWords
import Derived.Test.YtddkpgmomakkcaaDoorWGuard
import Derived.Test.YtddkpgmomakkcaaDoorWNEv
import Derived.Test.YtddkpgmomakkcaaDoorWMore
namespace Go.Proofs.YtddkpgmomakkcaaDoor.PFnIntegers
open Go.RowKit Go.Proofs.YtddkpgmomakkcaaDoorW.PrintWords Go.Proofs.YtddkpgmomakkcaaDoorW.PrintLast Go.Proofs.YtddkpgmomakkcaaDoorW.PrintMore
attribute [local go_sem] max2_int min2_int max_two min_two max_three min_three max_four min_four   -- for this text's walks alone
set_option linter.unusedVariables false
set_option linter.unusedSimpArgs false



def errW : Option Int → Value
  | none => .nilIface
  | some c => .iface 0 (.int .i64 c)
theorem errW_none : errW none = .nilIface := rfl
theorem errW_some (c : Int) : errW (some c) = .iface 0 (.int .i64 c) := rfl

theorem info3 : (Tryd.prog.info? 3).map (fun i => (i.zero, i.size, i.bytes)) = some (some (.int .i64 0), 1, 8) := by kernel_rfl
theorem info5 : (Tryd.prog.info? 5).map (fun i => (i.zero, i.size, i.bytes)) = some (some (.int .u8 0), 1, 1) := by kernel_rfl
theorem info9 : (Tryd.prog.info? 9).map (fun i => (i.zero, i.size, i.bytes)) = some (some (.string ⟨#[]⟩), 1, 16) := by kernel_rfl
-- the values' own types

end Go.Proofs.YtddkpgmomakkcaaDoor.PFnIntegers
