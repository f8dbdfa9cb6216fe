/- Contracts of Go functions that one law uses: each call comes to what the Lean function of its name says, under the conditions in its theorem; and the law's walk and row. -/
import Derived.Test.YtoblbpgipkmljabProg
import Derived.Below
import Derived.Deep.Draws
import Derived.Deep.AppendLies
import Derived.Maps.AppendAt
import Derived.OwnWalk
import Derived.Laws.BytesArg
import Derived.Laws.MakeOwn
import Derived.Laws.OwnMore
import Derived.Deep.OwnRows
import Derived.Tactics
import Derived.Lib.ConvBytes
import Derived.Laws.Slices
import Derived.WalkKit
import Derived.KernelRfl
import Derived.RowKit3
import Derived.Deep.LoopGhost
import Derived.Deep.QuietTactic
import Derived.BigQuiet
import Derived.WideLaws
import Derived.Deep.DeepCutAuto
import Derived.Deep.CutBlock
import Derived.Deep.RegionHeld3
import Derived.Laws.Rows
import Derived.Lib.AppendStr
import Derived.ArgAppend
import Derived.Laws.IdiomCopy
import Derived.OrdersHeld
import Derived.Laws.BitsLemmas
import Derived.RowKit
import Derived.WalkSpells
import Derived.Test.YtoblbpgipkmljabWWords
import Derived.Test.YtoblbpgipkmljabWLast
import Derived.Test.YtoblbpgipkmljabWTab
import Derived.Test.YtoblbpgipkmljabWFour
import Derived.Test.YtoblbpgipkmljabWQPut
import Derived.Test.YtoblbpgipkmljabWApart
import Derived.Test.YtoblbpgipkmljabWArr
import Derived.Test.YtoblbpgipkmljabWZeros
import Derived.Test.YtoblbpgipkmljabWFoot
import Derived.Test.YtoblbpgipkmljabWKept
import Derived.Test.YtoblbpgipkmljabWShare
import Derived.Test.YtoblbpgipkmljabWN
import Derived.Test.YtoblbpgipkmljabWFootNe
import Derived.Test.YtoblbpgipkmljabWAt
import Derived.Test.YtoblbpgipkmljabWEqStruct
import Derived.Test.YtoblbpgipkmljabWRepsOne
import Derived.Test.YtoblbpgipkmljabWInv
import Derived.Test.YtoblbpgipkmljabWInvWords
import Derived.Test.YtoblbpgipkmljabWGuard
import Derived.Test.YtoblbpgipkmljabWNEv
import Derived.Test.YtoblbpgipkmljabWMore
namespace Go.Proofs.Ytoblbpgipkmljab.PFnByteStrings
open Go.RowKit Go.Proofs.YtoblbpgipkmljabW.PrintWords Go.Proofs.YtoblbpgipkmljabW.PrintLast Go.Proofs.YtoblbpgipkmljabW.PrintMore
attribute [local go_sem] max2_int min2_int max_two min_two max_three min_three max_four min_four   -- for this text's walks alone
set_option linter.unusedVariables false
set_option linter.unusedSimpArgs false



def errW : Option Int → Value
  | none => .nilIface
  | some c => .iface 0 (.int .i64 c)
theorem errW_none : errW none = .nilIface := rfl
theorem errW_some (c : Int) : errW (some c) = .iface 0 (.int .i64 c) := rfl

theorem info3 : (Try.prog.info? 3).map (fun i => (i.zero, i.size, i.bytes)) = some (some (.int .i64 0), 1, 8) := by kernel_rfl
theorem info5 : (Try.prog.info? 5).map (fun i => (i.zero, i.size, i.bytes)) = some (some (.int .u8 0), 1, 1) := by kernel_rfl
-- the values' own types

end Go.Proofs.Ytoblbpgipkmljab.PFnByteStrings
