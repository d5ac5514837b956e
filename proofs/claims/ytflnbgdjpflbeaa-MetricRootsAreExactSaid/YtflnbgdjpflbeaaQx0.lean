/- Printed by a program of this claim (print2.py), over the kit's print, with contracts proved by hand among them. -/
import Derived.Test.YtflnbgdjpflbeaaProg
import Derived.Below
import Derived.Deep.Draws
import Derived.Deep.AppendLies
import Derived.Maps.AppendAt
import Derived.OwnWalk
import Derived.Laws.BytesArg
import Derived.Laws.MakeOwn
import Derived.Laws.OwnMore
import Derived.Deep.OwnRows
import Derived.Tactics
import Derived.Lib.ConvBytes
import Derived.Laws.Slices
import Derived.WalkKit
import Derived.KernelRfl
import Derived.RowKit3
import Derived.Deep.LoopGhost
import Derived.Deep.QuietTactic
import Derived.BigQuiet
import Derived.WideLaws
import Derived.Deep.DeepCutAuto
import Derived.Deep.CutBlock
import Derived.Deep.RegionHeld3
import Derived.Laws.Rows
import Derived.Lib.AppendStr
import Derived.ArgAppend
import Derived.Laws.IdiomCopy
import Derived.OrdersHeld
import Derived.Laws.BitsLemmas
import Derived.RowKit
import Derived.IntWalk
import Derived.Lib.Hide
import Derived.Laws.EntriesVeiled
import Derived.Test.YtflnbgdjpflbeaaPlRoot
import Derived.Test.YtflnbgdjpflbeaaShelf
import Derived.Test.YtflnbgdjpflbeaaWWords
import Derived.Test.YtflnbgdjpflbeaaWLast
import Derived.Test.YtflnbgdjpflbeaaWTab
import Derived.Test.YtflnbgdjpflbeaaWFour
import Derived.Test.YtflnbgdjpflbeaaWQPut
import Derived.Test.YtflnbgdjpflbeaaWApart
import Derived.Test.YtflnbgdjpflbeaaWArr
import Derived.Test.YtflnbgdjpflbeaaWZeros
import Derived.Test.YtflnbgdjpflbeaaWFoot
import Derived.Test.YtflnbgdjpflbeaaWKept
import Derived.Test.YtflnbgdjpflbeaaWShare
import Derived.Test.YtflnbgdjpflbeaaWN
import Derived.Test.YtflnbgdjpflbeaaWFootNe
import Derived.Test.YtflnbgdjpflbeaaWAt
import Derived.Test.YtflnbgdjpflbeaaWEqStruct
import Derived.Test.YtflnbgdjpflbeaaWRepsOne
import Derived.Test.YtflnbgdjpflbeaaWInv
import Derived.Test.YtflnbgdjpflbeaaWInvWords
import Derived.Test.YtflnbgdjpflbeaaWGuard
import Derived.Test.YtflnbgdjpflbeaaWNEv
import Derived.Test.YtflnbgdjpflbeaaWMore
namespace Go.Proofs.Ytflnbgdjpflbeaa.Q
open Go.RowKit Go.Proofs.YtflnbgdjpflbeaaW.PrintWords Go.Proofs.YtflnbgdjpflbeaaW.PrintLast Go.Proofs.YtflnbgdjpflbeaaW.PrintMore
attribute [local go_sem] max2_int min2_int max_two min_two max_three min_three max_four min_four   -- for this text's walks alone
set_option linter.unusedVariables false
set_option linter.unusedSimpArgs false



def errW : Option Int → Value
  | none => .nilIface
  | some c => .iface 0 (.int .i64 c)
theorem errW_none : errW none = .nilIface := rfl
theorem errW_some (c : Int) : errW (some c) = .iface 0 (.int .i64 c) := rfl

theorem info3 : (Try.prog.info? 3).map (fun i => (i.zero, i.size, i.bytes)) = some (some (.int .i64 0), 1, 8) := by kernel_rfl
-- the values' own types

end Go.Proofs.Ytflnbgdjpflbeaa.Q
