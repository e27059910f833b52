/- Functions of the program as plain Lean functions, and the proof that the code comes to just their answers. Written by hookprint.py (wip/); Lean checks it. -/
import Derived.Test.YtbldlmolbdkabaaProg
import Derived.Below
import Derived.Deep.Draws
import Derived.Deep.AppendLies
import Derived.Maps.AppendAt
import Derived.OwnWalk
import Derived.Laws.BytesArg
import Derived.Laws.MakeOwn
import Derived.Laws.OwnMore
import Derived.Deep.OwnRows
import Derived.Tactics
import Derived.Lib.ConvBytes
import Derived.Laws.Slices
import Derived.WalkKit
import Derived.KernelRfl
import Derived.RowKit3
import Derived.Deep.LoopGhost
import Derived.Deep.QuietTactic
import Derived.BigQuiet
import Derived.WideLaws
import Derived.Deep.DeepCutAuto
import Derived.Deep.CutBlock
import Derived.Deep.RegionHeld3
import Derived.Laws.Rows
import Derived.Lib.AppendStr
import Derived.ArgAppend
import Derived.Laws.IdiomCopy
import Derived.OrdersHeld
import Derived.Laws.BitsLemmas
import Derived.RowKit
import Derived.Test.YtbldlmolbdkabaaNumA
import Derived.Test.YtbldlmolbdkabaaWWords
import Derived.Test.YtbldlmolbdkabaaWLast
import Derived.Test.YtbldlmolbdkabaaWTab
import Derived.Test.YtbldlmolbdkabaaWFour
import Derived.Test.YtbldlmolbdkabaaWQPut
import Derived.Test.YtbldlmolbdkabaaWApart
import Derived.Test.YtbldlmolbdkabaaWArr
import Derived.Test.YtbldlmolbdkabaaWZeros
import Derived.Test.YtbldlmolbdkabaaWFoot
import Derived.Test.YtbldlmolbdkabaaWKept
import Derived.Test.YtbldlmolbdkabaaWShare
import Derived.Test.YtbldlmolbdkabaaWN
import Derived.Test.YtbldlmolbdkabaaWFootNe
import Derived.Test.YtbldlmolbdkabaaWAt
import Derived.Test.YtbldlmolbdkabaaWEqStruct
import Derived.Test.YtbldlmolbdkabaaWRepsOne
import Derived.Test.YtbldlmolbdkabaaWInv
import Derived.Test.YtbldlmolbdkabaaWInvWords
import Derived.Test.YtbldlmolbdkabaaWGuard
import Derived.Test.YtbldlmolbdkabaaWNEv
import Derived.Test.YtbldlmolbdkabaaWMore
namespace Go.Proofs.Ytbldlmolbdkabaa.HC
open Go.RowKit Go.Proofs.Ytbldlmolbdkabaa.HK Go.Proofs.YtbldlmolbdkabaaW.PrintWords Go.Proofs.YtbldlmolbdkabaaW.PrintLast Go.Proofs.YtbldlmolbdkabaaW.PrintMore
attribute [local go_sem] max2_int min2_int max_two min_two max_three min_three max_four min_four   -- for this text's walks alone
set_option linter.unusedVariables false
set_option linter.unusedSimpArgs false



def errW : Option Int → Value
  | none => .nilIface
  | some c => .iface 0 (.int .i64 c)
theorem errW_none : errW none = .nilIface := rfl
theorem errW_some (c : Int) : errW (some c) = .iface 0 (.int .i64 c) := rfl

-- the values' own types

end Go.Proofs.Ytbldlmolbdkabaa.HC
