/-
  No cell of these rows narrows 'for every input' (looked for: loops, veiled, ifaces, maps, wideKeys, modest, calm, conditions, laid).
  DERIVED. THE GIVEN ROWS OF THIS SEAT. 9 by the template 'for every input the law returns true; each argument reads behind the call as it read before'; 0 by the template 'total and deterministic' (their statements: YtnhhfmmbanimlaaTotals.lean).
  GIVEN WITH THE SEED: the statements are not yours to turn. If you find one false, say at which input.
  Laid BY PROGRAM, IN A SANDBOX (cutbox-rows.mjs): the forced cells as the released guide's own fill.sh prints them over the translation 2097a21120cb4d87… (all of the seat's roots in one cut). By AI agents, Wed Nov 11 2026. No macro, syntax, notation, axiom, sorry.
-/
import Derived.Test.YtnhhfmmbanimlaaChecked
import GoSem.Claim
import GoSem.ClaimJoined
import GoSem.ClaimMapViews
import Derived.JoinedTies
import Derived.KernelRfl
namespace Go.Proofs.Ytnhhfmmbanimlaa
/- THE CELL 'sum', in the pinned program and in every row, IS THE sha256 OF THE DUMP (.gsa) THAT YtnhhfmmbanimlaaProg.lean LOADS. Nothing in Lean hashes anything: it is a label: what it is worth is what the hold of that sum in a sandbox is worth. -/
noncomputable def Try.pinned : Pinned := { name := "ytnhhfmmbanimlaa", sum := "2097a21120cb4d873a7de7093db2c9b61d2960391c45938378b4026e8d0931fd", checked := Try.checked }
namespace Rows
def none {H : Type} : Left H := { results := [], args := [] }

/-- 'reticulelaw05.PartsAlone': WHATEVER THE INPUT: true; the input reads as it did. -/
def partsAloneSpec : ChangeSpec := { name := "partsAlone", fn := fun _ => fun
  | [d1, d2] => { results := [.lit (.bool true)], args := [d1, d2] }
  | _ => none }
def partsAloneRow : OpenClaim := { program := "ytnhhfmmbanimlaa", sum := "2097a21120cb4d873a7de7093db2c9b61d2960391c45938378b4026e8d0931fd", func := "reticule/reticulelaw05.PartsAlone", spec := "partsAlone", unfollowed := true, recurses := true, apart := false }
def PartsAloneSaid : Prop := partsAloneRow.holds Try.pinned (OpenSpec.ofChange partsAloneSpec)

/-- ITS FALSE NEIGHBOUR: 'it returns false'. Refute it at one input. -/
def partsAloneWrong : ChangeSpec := { name := "partsAlone", fn := fun _ => fun
  | [d1, d2] => { results := [.lit (.bool false)], args := [d1, d2] }
  | _ => none }
def PartsAloneWrongFalsely : Prop := partsAloneRow.holds Try.pinned (OpenSpec.ofChange partsAloneWrong)

/-- 'reticulelaw02.PermNumbers': WHATEVER THE INPUT: true; the input reads as it did. -/
def permNumbersSpec : ChangeSpec := { name := "permNumbers", fn := fun _ => fun
  | [d1, d2, d3] => { results := [.lit (.bool true)], args := [d1, d2, d3] }
  | _ => none }
def permNumbersRow : OpenClaim := { program := "ytnhhfmmbanimlaa", sum := "2097a21120cb4d873a7de7093db2c9b61d2960391c45938378b4026e8d0931fd", func := "reticule/reticulelaw02.PermNumbers", spec := "permNumbers", apart := false }
def PermNumbersSaid : Prop := permNumbersRow.holds Try.pinned (OpenSpec.ofChange permNumbersSpec)

/-- ITS FALSE NEIGHBOUR: 'it returns false'. Refute it at one input. -/
def permNumbersWrong : ChangeSpec := { name := "permNumbers", fn := fun _ => fun
  | [d1, d2, d3] => { results := [.lit (.bool false)], args := [d1, d2, d3] }
  | _ => none }
def PermNumbersWrongFalsely : Prop := permNumbersRow.holds Try.pinned (OpenSpec.ofChange permNumbersWrong)

/-- 'reticulelaw02.PermBack': WHATEVER THE INPUT: true; the input reads as it did. -/
def permBackSpec : ChangeSpec := { name := "permBack", fn := fun _ => fun
  | [d1, d2] => { results := [.lit (.bool true)], args := [d1, d2] }
  | _ => none }
def permBackRow : OpenClaim := { program := "ytnhhfmmbanimlaa", sum := "2097a21120cb4d873a7de7093db2c9b61d2960391c45938378b4026e8d0931fd", func := "reticule/reticulelaw02.PermBack", spec := "permBack", apart := false }
def PermBackSaid : Prop := permBackRow.holds Try.pinned (OpenSpec.ofChange permBackSpec)

/-- ITS FALSE NEIGHBOUR: 'it returns false'. Refute it at one input. -/
def permBackWrong : ChangeSpec := { name := "permBack", fn := fun _ => fun
  | [d1, d2] => { results := [.lit (.bool false)], args := [d1, d2] }
  | _ => none }
def PermBackWrongFalsely : Prop := permBackRow.holds Try.pinned (OpenSpec.ofChange permBackWrong)

/-- 'reticulelaw02.PermGroups': WHATEVER THE INPUT: true; the input reads as it did. -/
def permGroupsSpec : ChangeSpec := { name := "permGroups", fn := fun _ => fun
  | [d1, d2] => { results := [.lit (.bool true)], args := [d1, d2] }
  | _ => none }
def permGroupsRow : OpenClaim := { program := "ytnhhfmmbanimlaa", sum := "2097a21120cb4d873a7de7093db2c9b61d2960391c45938378b4026e8d0931fd", func := "reticule/reticulelaw02.PermGroups", spec := "permGroups", apart := false }
def PermGroupsSaid : Prop := permGroupsRow.holds Try.pinned (OpenSpec.ofChange permGroupsSpec)

/-- ITS FALSE NEIGHBOUR: 'it returns false'. Refute it at one input. -/
def permGroupsWrong : ChangeSpec := { name := "permGroups", fn := fun _ => fun
  | [d1, d2] => { results := [.lit (.bool false)], args := [d1, d2] }
  | _ => none }
def PermGroupsWrongFalsely : Prop := permGroupsRow.holds Try.pinned (OpenSpec.ofChange permGroupsWrong)

/-- 'reticulelaw02.PermTurns': WHATEVER THE INPUT: true; the input reads as it did. -/
def permTurnsSpec : ChangeSpec := { name := "permTurns", fn := fun _ => fun
  | [d1, d2, d3] => { results := [.lit (.bool true)], args := [d1, d2, d3] }
  | _ => none }
def permTurnsRow : OpenClaim := { program := "ytnhhfmmbanimlaa", sum := "2097a21120cb4d873a7de7093db2c9b61d2960391c45938378b4026e8d0931fd", func := "reticule/reticulelaw02.PermTurns", spec := "permTurns", apart := false }
def PermTurnsSaid : Prop := permTurnsRow.holds Try.pinned (OpenSpec.ofChange permTurnsSpec)

/-- ITS FALSE NEIGHBOUR: 'it returns false'. Refute it at one input. -/
def permTurnsWrong : ChangeSpec := { name := "permTurns", fn := fun _ => fun
  | [d1, d2, d3] => { results := [.lit (.bool false)], args := [d1, d2, d3] }
  | _ => none }
def PermTurnsWrongFalsely : Prop := permTurnsRow.holds Try.pinned (OpenSpec.ofChange permTurnsWrong)

/-- 'reticulelaw02.PermUndoes': WHATEVER THE INPUT: true; the input reads as it did. -/
def permUndoesSpec : ChangeSpec := { name := "permUndoes", fn := fun _ => fun
  | [d1, d2, d3] => { results := [.lit (.bool true)], args := [d1, d2, d3] }
  | _ => none }
def permUndoesRow : OpenClaim := { program := "ytnhhfmmbanimlaa", sum := "2097a21120cb4d873a7de7093db2c9b61d2960391c45938378b4026e8d0931fd", func := "reticule/reticulelaw02.PermUndoes", spec := "permUndoes", apart := false }
def PermUndoesSaid : Prop := permUndoesRow.holds Try.pinned (OpenSpec.ofChange permUndoesSpec)

/-- ITS FALSE NEIGHBOUR: 'it returns false'. Refute it at one input. -/
def permUndoesWrong : ChangeSpec := { name := "permUndoes", fn := fun _ => fun
  | [d1, d2, d3] => { results := [.lit (.bool false)], args := [d1, d2, d3] }
  | _ => none }
def PermUndoesWrongFalsely : Prop := permUndoesRow.holds Try.pinned (OpenSpec.ofChange permUndoesWrong)

/-- 'reticulelaw05.PartsSpread': WHATEVER THE INPUT: true; the input reads as it did. -/
def partsSpreadSpec : ChangeSpec := { name := "partsSpread", fn := fun _ => fun
  | [d1, d2] => { results := [.lit (.bool true)], args := [d1, d2] }
  | _ => none }
def partsSpreadRow : OpenClaim := { program := "ytnhhfmmbanimlaa", sum := "2097a21120cb4d873a7de7093db2c9b61d2960391c45938378b4026e8d0931fd", func := "reticule/reticulelaw05.PartsSpread", spec := "partsSpread", unfollowed := true, recurses := true, apart := false }
def PartsSpreadSaid : Prop := partsSpreadRow.holds Try.pinned (OpenSpec.ofChange partsSpreadSpec)

/-- ITS FALSE NEIGHBOUR: 'it returns false'. Refute it at one input. -/
def partsSpreadWrong : ChangeSpec := { name := "partsSpread", fn := fun _ => fun
  | [d1, d2] => { results := [.lit (.bool false)], args := [d1, d2] }
  | _ => none }
def PartsSpreadWrongFalsely : Prop := partsSpreadRow.holds Try.pinned (OpenSpec.ofChange partsSpreadWrong)

/-- 'reticulelaw05.PartsOnce': WHATEVER THE INPUT: true; the input reads as it did. -/
def partsOnceSpec : ChangeSpec := { name := "partsOnce", fn := fun _ => fun
  | [d1, d2, d3] => { results := [.lit (.bool true)], args := [d1, d2, d3] }
  | _ => none }
def partsOnceRow : OpenClaim := { program := "ytnhhfmmbanimlaa", sum := "2097a21120cb4d873a7de7093db2c9b61d2960391c45938378b4026e8d0931fd", func := "reticule/reticulelaw05.PartsOnce", spec := "partsOnce", unfollowed := true, recurses := true, apart := false }
def PartsOnceSaid : Prop := partsOnceRow.holds Try.pinned (OpenSpec.ofChange partsOnceSpec)

/-- ITS FALSE NEIGHBOUR: 'it returns false'. Refute it at one input. -/
def partsOnceWrong : ChangeSpec := { name := "partsOnce", fn := fun _ => fun
  | [d1, d2, d3] => { results := [.lit (.bool false)], args := [d1, d2, d3] }
  | _ => none }
def PartsOnceWrongFalsely : Prop := partsOnceRow.holds Try.pinned (OpenSpec.ofChange partsOnceWrong)

/-- 'reticuletop.TopDealt': WHATEVER THE INPUT: true; the input reads as it did. -/
def topDealtSpec : ChangeSpec := { name := "topDealt", fn := fun _ => fun
  | [d1, d2, d3] => { results := [.lit (.bool true)], args := [d1, d2, d3] }
  | _ => none }
def topDealtRow : OpenClaim := { program := "ytnhhfmmbanimlaa", sum := "2097a21120cb4d873a7de7093db2c9b61d2960391c45938378b4026e8d0931fd", func := "reticule/reticuletop.TopDealt", spec := "topDealt", unfollowed := true, recurses := true, apart := false }
def TopDealtSaid : Prop := topDealtRow.holds Try.pinned (OpenSpec.ofChange topDealtSpec)

/-- ITS FALSE NEIGHBOUR: 'it returns false'. Refute it at one input. -/
def topDealtWrong : ChangeSpec := { name := "topDealt", fn := fun _ => fun
  | [d1, d2, d3] => { results := [.lit (.bool false)], args := [d1, d2, d3] }
  | _ => none }
def TopDealtWrongFalsely : Prop := topDealtRow.holds Try.pinned (OpenSpec.ofChange topDealtWrong)

/- THE SECOND FORM. 'bulk': how many values and letters a reading holds, each counted each time it is reached (what is shared counts as often as it is met; a slice's spare places count too). A statement '..UptoSaid' is the law's where the arguments, and the package variables that the reading takes, are together of bulk at most 1048576: NARROWER than '..Said'. Prove '..Said' where nothing that the law and all that it calls make is longer than what came in: it says more and counts as full. Else prove '..UptoSaid'. A law counts once. -/
mutual
def uptoBulk {H : Type} : DataW H → Nat
  | .lit (.string bytes) => bytes.length + 1
  | .lit _ => 1
  | .nil => 1
  | .ptr d => uptoBulk d + 1
  | .slice elems spare => uptoBulkAll elems + uptoBulkAll spare + 1
  | .agg parts => uptoBulkAll parts + 1
  | .iface _ d => uptoBulk d + 1
  | .map entries => uptoBulkEntries entries + 1
  | .held _ => 1
def uptoBulkAll {H : Type} : List (DataW H) → Nat
  | [] => 0
  | d :: r => uptoBulk d + uptoBulkAll r
def uptoBulkEntries {H : Type} : List (Lit × DataW H) → Nat
  | [] => 0
  | x :: r => uptoBulkEntry x + uptoBulkEntries r
def uptoBulkEntry {H : Type} : Lit × DataW H → Nat
  | (.string bytes, d) => bytes.length + uptoBulk d + 1
  | (_, d) => uptoBulk d + 1
 end
def uptoSmall : (H : Type) → List (DataW H) → Bool := fun _ ds => decide (uptoBulkAll ds ≤ 1048576)
def OpenSpec.upto (s : _root_.Go.ChangeSpec) : _root_.Go.OpenSpec := { _root_.Go.OpenSpec.ofChange s with cond := some uptoSmall }

/-- 'reticulelaw05.PartsAlone', WHERE WHAT IT READS IS OF BULK AT MOST 1048576: true; the input reads as it did. -/
def partsAloneUptoRow : OpenClaim := { program := "ytnhhfmmbanimlaa", sum := "2097a21120cb4d873a7de7093db2c9b61d2960391c45938378b4026e8d0931fd", func := "reticule/reticulelaw05.PartsAlone", spec := "partsAlone", unfollowed := true, recurses := true, apart := false, narrowed := true }
def PartsAloneUptoSaid : Prop := partsAloneUptoRow.holds Try.pinned (OpenSpec.upto partsAloneSpec)

/-- 'reticulelaw02.PermNumbers', WHERE WHAT IT READS IS OF BULK AT MOST 1048576: true; the input reads as it did. -/
def permNumbersUptoRow : OpenClaim := { program := "ytnhhfmmbanimlaa", sum := "2097a21120cb4d873a7de7093db2c9b61d2960391c45938378b4026e8d0931fd", func := "reticule/reticulelaw02.PermNumbers", spec := "permNumbers", apart := false, narrowed := true }
def PermNumbersUptoSaid : Prop := permNumbersUptoRow.holds Try.pinned (OpenSpec.upto permNumbersSpec)

/-- 'reticulelaw02.PermBack', WHERE WHAT IT READS IS OF BULK AT MOST 1048576: true; the input reads as it did. -/
def permBackUptoRow : OpenClaim := { program := "ytnhhfmmbanimlaa", sum := "2097a21120cb4d873a7de7093db2c9b61d2960391c45938378b4026e8d0931fd", func := "reticule/reticulelaw02.PermBack", spec := "permBack", apart := false, narrowed := true }
def PermBackUptoSaid : Prop := permBackUptoRow.holds Try.pinned (OpenSpec.upto permBackSpec)

/-- 'reticulelaw02.PermGroups', WHERE WHAT IT READS IS OF BULK AT MOST 1048576: true; the input reads as it did. -/
def permGroupsUptoRow : OpenClaim := { program := "ytnhhfmmbanimlaa", sum := "2097a21120cb4d873a7de7093db2c9b61d2960391c45938378b4026e8d0931fd", func := "reticule/reticulelaw02.PermGroups", spec := "permGroups", apart := false, narrowed := true }
def PermGroupsUptoSaid : Prop := permGroupsUptoRow.holds Try.pinned (OpenSpec.upto permGroupsSpec)

/-- 'reticulelaw02.PermTurns', WHERE WHAT IT READS IS OF BULK AT MOST 1048576: true; the input reads as it did. -/
def permTurnsUptoRow : OpenClaim := { program := "ytnhhfmmbanimlaa", sum := "2097a21120cb4d873a7de7093db2c9b61d2960391c45938378b4026e8d0931fd", func := "reticule/reticulelaw02.PermTurns", spec := "permTurns", apart := false, narrowed := true }
def PermTurnsUptoSaid : Prop := permTurnsUptoRow.holds Try.pinned (OpenSpec.upto permTurnsSpec)

/-- 'reticulelaw02.PermUndoes', WHERE WHAT IT READS IS OF BULK AT MOST 1048576: true; the input reads as it did. -/
def permUndoesUptoRow : OpenClaim := { program := "ytnhhfmmbanimlaa", sum := "2097a21120cb4d873a7de7093db2c9b61d2960391c45938378b4026e8d0931fd", func := "reticule/reticulelaw02.PermUndoes", spec := "permUndoes", apart := false, narrowed := true }
def PermUndoesUptoSaid : Prop := permUndoesUptoRow.holds Try.pinned (OpenSpec.upto permUndoesSpec)

/-- 'reticulelaw05.PartsSpread', WHERE WHAT IT READS IS OF BULK AT MOST 1048576: true; the input reads as it did. -/
def partsSpreadUptoRow : OpenClaim := { program := "ytnhhfmmbanimlaa", sum := "2097a21120cb4d873a7de7093db2c9b61d2960391c45938378b4026e8d0931fd", func := "reticule/reticulelaw05.PartsSpread", spec := "partsSpread", unfollowed := true, recurses := true, apart := false, narrowed := true }
def PartsSpreadUptoSaid : Prop := partsSpreadUptoRow.holds Try.pinned (OpenSpec.upto partsSpreadSpec)

/-- 'reticulelaw05.PartsOnce', WHERE WHAT IT READS IS OF BULK AT MOST 1048576: true; the input reads as it did. -/
def partsOnceUptoRow : OpenClaim := { program := "ytnhhfmmbanimlaa", sum := "2097a21120cb4d873a7de7093db2c9b61d2960391c45938378b4026e8d0931fd", func := "reticule/reticulelaw05.PartsOnce", spec := "partsOnce", unfollowed := true, recurses := true, apart := false, narrowed := true }
def PartsOnceUptoSaid : Prop := partsOnceUptoRow.holds Try.pinned (OpenSpec.upto partsOnceSpec)

/-- 'reticuletop.TopDealt', WHERE WHAT IT READS IS OF BULK AT MOST 1048576: true; the input reads as it did. -/
def topDealtUptoRow : OpenClaim := { program := "ytnhhfmmbanimlaa", sum := "2097a21120cb4d873a7de7093db2c9b61d2960391c45938378b4026e8d0931fd", func := "reticule/reticuletop.TopDealt", spec := "topDealt", unfollowed := true, recurses := true, apart := false, narrowed := true }
def TopDealtUptoSaid : Prop := topDealtUptoRow.holds Try.pinned (OpenSpec.upto topDealtSpec)

end Rows
end Go.Proofs.Ytnhhfmmbanimlaa
