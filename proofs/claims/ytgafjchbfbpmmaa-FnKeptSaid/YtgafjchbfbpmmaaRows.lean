/-
  No cell of these rows narrows 'for every input' (looked for: loops, veiled, ifaces, maps, wideKeys, modest, calm, conditions, laid).
  DERIVED. THE GIVEN ROWS OF THIS SEAT. 12 by the template 'for every input the law returns true; each argument reads behind the call as it read before'; 0 by the template 'total and deterministic' (their statements: YtgafjchbfbpmmaaTotals.lean).
  GIVEN WITH THE SEED: the statements are not yours to turn. If you find one false, say at which input.
  Laid BY PROGRAM, IN A SANDBOX (cutbox-rows.mjs): the forced cells as the released guide's own fill.sh prints them over the translation 69b1d70ce03fa737… (all of the seat's roots in one cut). By AI agents, Wed Nov 11 2026. No macro, syntax, notation, axiom, sorry.
-/
import Derived.Test.YtgafjchbfbpmmaaChecked
import GoSem.Claim
import GoSem.ClaimJoined
import GoSem.ClaimMapViews
import Derived.JoinedTies
import Derived.KernelRfl
namespace Go.Proofs.Ytgafjchbfbpmmaa
/- THE CELL 'sum', in the pinned program and in every row, IS THE sha256 OF THE DUMP (.gsa) THAT YtgafjchbfbpmmaaProg.lean LOADS. Nothing in Lean hashes anything: it is a label: what it is worth is what the hold of that sum in a sandbox is worth. -/
noncomputable def Try.pinned : Pinned := { name := "ytgafjchbfbpmmaa", sum := "69b1d70ce03fa7377dda52da3e438c4a83488dd0a0f49b340ee20de839356303", checked := Try.checked }
namespace Rows
def none {H : Type} : Left H := { results := [], args := [] }

/-- 'laws.FnExactArePromises': WHATEVER THE INPUT: true; the input reads as it did. -/
def fnExactArePromisesSpec : ChangeSpec := { name := "fnExactArePromises", fn := fun _ => fun
  | [d] => { results := [.lit (.bool true)], args := [d] }
  | _ => none }
def fnExactArePromisesRow : OpenClaim := { program := "ytgafjchbfbpmmaa", sum := "69b1d70ce03fa7377dda52da3e438c4a83488dd0a0f49b340ee20de839356303", func := "loop.example/g01050/laws.FnExactArePromises", spec := "fnExactArePromises", apart := false }
def FnExactArePromisesSaid : Prop := fnExactArePromisesRow.holds Try.pinned (OpenSpec.ofChange fnExactArePromisesSpec)

/-- ITS FALSE NEIGHBOUR: 'it returns false'. Refute it at one input. -/
def fnExactArePromisesWrong : ChangeSpec := { name := "fnExactArePromises", fn := fun _ => fun
  | [d] => { results := [.lit (.bool false)], args := [d] }
  | _ => none }
def FnExactArePromisesWrongFalsely : Prop := fnExactArePromisesRow.holds Try.pinned (OpenSpec.ofChange fnExactArePromisesWrong)

/-- 'laws.FnExactCanKeep': WHATEVER THE INPUT: true; the input reads as it did. -/
def fnExactCanKeepSpec : ChangeSpec := { name := "fnExactCanKeep", fn := fun _ => fun
  | [d] => { results := [.lit (.bool true)], args := [d] }
  | _ => none }
def fnExactCanKeepRow : OpenClaim := { program := "ytgafjchbfbpmmaa", sum := "69b1d70ce03fa7377dda52da3e438c4a83488dd0a0f49b340ee20de839356303", func := "loop.example/g01050/laws.FnExactCanKeep", spec := "fnExactCanKeep", apart := false }
def FnExactCanKeepSaid : Prop := fnExactCanKeepRow.holds Try.pinned (OpenSpec.ofChange fnExactCanKeepSpec)

/-- ITS FALSE NEIGHBOUR: 'it returns false'. Refute it at one input. -/
def fnExactCanKeepWrong : ChangeSpec := { name := "fnExactCanKeep", fn := fun _ => fun
  | [d] => { results := [.lit (.bool false)], args := [d] }
  | _ => none }
def FnExactCanKeepWrongFalsely : Prop := fnExactCanKeepRow.holds Try.pinned (OpenSpec.ofChange fnExactCanKeepWrong)

/-- 'laws.FnExactFirstBreach': WHATEVER THE INPUT: true; the input reads as it did. -/
def fnExactFirstBreachSpec : ChangeSpec := { name := "fnExactFirstBreach", fn := fun _ => fun
  | [d] => { results := [.lit (.bool true)], args := [d] }
  | _ => none }
def fnExactFirstBreachRow : OpenClaim := { program := "ytgafjchbfbpmmaa", sum := "69b1d70ce03fa7377dda52da3e438c4a83488dd0a0f49b340ee20de839356303", func := "loop.example/g01050/laws.FnExactFirstBreach", spec := "fnExactFirstBreach", apart := false }
def FnExactFirstBreachSaid : Prop := fnExactFirstBreachRow.holds Try.pinned (OpenSpec.ofChange fnExactFirstBreachSpec)

/-- ITS FALSE NEIGHBOUR: 'it returns false'. Refute it at one input. -/
def fnExactFirstBreachWrong : ChangeSpec := { name := "fnExactFirstBreach", fn := fun _ => fun
  | [d] => { results := [.lit (.bool false)], args := [d] }
  | _ => none }
def FnExactFirstBreachWrongFalsely : Prop := fnExactFirstBreachRow.holds Try.pinned (OpenSpec.ofChange fnExactFirstBreachWrong)

/-- 'laws.FnExactMovePromise': WHATEVER THE INPUT: true; the input reads as it did. -/
def fnExactMovePromiseSpec : ChangeSpec := { name := "fnExactMovePromise", fn := fun _ => fun
  | [d1, d2, d3] => { results := [.lit (.bool true)], args := [d1, d2, d3] }
  | _ => none }
def fnExactMovePromiseRow : OpenClaim := { program := "ytgafjchbfbpmmaa", sum := "69b1d70ce03fa7377dda52da3e438c4a83488dd0a0f49b340ee20de839356303", func := "loop.example/g01050/laws.FnExactMovePromise", spec := "fnExactMovePromise", apart := false }
def FnExactMovePromiseSaid : Prop := fnExactMovePromiseRow.holds Try.pinned (OpenSpec.ofChange fnExactMovePromiseSpec)

/-- ITS FALSE NEIGHBOUR: 'it returns false'. Refute it at one input. -/
def fnExactMovePromiseWrong : ChangeSpec := { name := "fnExactMovePromise", fn := fun _ => fun
  | [d1, d2, d3] => { results := [.lit (.bool false)], args := [d1, d2, d3] }
  | _ => none }
def FnExactMovePromiseWrongFalsely : Prop := fnExactMovePromiseRow.holds Try.pinned (OpenSpec.ofChange fnExactMovePromiseWrong)

/-- 'laws.FnExactFreeUntil': WHATEVER THE INPUT: true; the input reads as it did. -/
def fnExactFreeUntilSpec : ChangeSpec := { name := "fnExactFreeUntil", fn := fun _ => fun
  | [d1, d2] => { results := [.lit (.bool true)], args := [d1, d2] }
  | _ => none }
def fnExactFreeUntilRow : OpenClaim := { program := "ytgafjchbfbpmmaa", sum := "69b1d70ce03fa7377dda52da3e438c4a83488dd0a0f49b340ee20de839356303", func := "loop.example/g01050/laws.FnExactFreeUntil", spec := "fnExactFreeUntil", apart := false }
def FnExactFreeUntilSaid : Prop := fnExactFreeUntilRow.holds Try.pinned (OpenSpec.ofChange fnExactFreeUntilSpec)

/-- ITS FALSE NEIGHBOUR: 'it returns false'. Refute it at one input. -/
def fnExactFreeUntilWrong : ChangeSpec := { name := "fnExactFreeUntil", fn := fun _ => fun
  | [d1, d2] => { results := [.lit (.bool false)], args := [d1, d2] }
  | _ => none }
def FnExactFreeUntilWrongFalsely : Prop := fnExactFreeUntilRow.holds Try.pinned (OpenSpec.ofChange fnExactFreeUntilWrong)

/-- 'laws.FnExactEarliestDay': WHATEVER THE INPUT: true; the input reads as it did. -/
def fnExactEarliestDaySpec : ChangeSpec := { name := "fnExactEarliestDay", fn := fun _ => fun
  | [d1, d2] => { results := [.lit (.bool true)], args := [d1, d2] }
  | _ => none }
def fnExactEarliestDayRow : OpenClaim := { program := "ytgafjchbfbpmmaa", sum := "69b1d70ce03fa7377dda52da3e438c4a83488dd0a0f49b340ee20de839356303", func := "loop.example/g01050/laws.FnExactEarliestDay", spec := "fnExactEarliestDay", apart := false }
def FnExactEarliestDaySaid : Prop := fnExactEarliestDayRow.holds Try.pinned (OpenSpec.ofChange fnExactEarliestDaySpec)

/-- ITS FALSE NEIGHBOUR: 'it returns false'. Refute it at one input. -/
def fnExactEarliestDayWrong : ChangeSpec := { name := "fnExactEarliestDay", fn := fun _ => fun
  | [d1, d2] => { results := [.lit (.bool false)], args := [d1, d2] }
  | _ => none }
def FnExactEarliestDayWrongFalsely : Prop := fnExactEarliestDayRow.holds Try.pinned (OpenSpec.ofChange fnExactEarliestDayWrong)

/-- 'laws.FnExactMakePromise': WHATEVER THE INPUT: true; the input reads as it did. -/
def fnExactMakePromiseSpec : ChangeSpec := { name := "fnExactMakePromise", fn := fun _ => fun
  | [d1, d2] => { results := [.lit (.bool true)], args := [d1, d2] }
  | _ => none }
def fnExactMakePromiseRow : OpenClaim := { program := "ytgafjchbfbpmmaa", sum := "69b1d70ce03fa7377dda52da3e438c4a83488dd0a0f49b340ee20de839356303", func := "loop.example/g01050/laws.FnExactMakePromise", spec := "fnExactMakePromise", apart := false }
def FnExactMakePromiseSaid : Prop := fnExactMakePromiseRow.holds Try.pinned (OpenSpec.ofChange fnExactMakePromiseSpec)

/-- ITS FALSE NEIGHBOUR: 'it returns false'. Refute it at one input. -/
def fnExactMakePromiseWrong : ChangeSpec := { name := "fnExactMakePromise", fn := fun _ => fun
  | [d1, d2] => { results := [.lit (.bool false)], args := [d1, d2] }
  | _ => none }
def FnExactMakePromiseWrongFalsely : Prop := fnExactMakePromiseRow.holds Try.pinned (OpenSpec.ofChange fnExactMakePromiseWrong)

/-- 'laws.FnExactMostKept': WHATEVER THE INPUT: true; the input reads as it did. -/
def fnExactMostKeptSpec : ChangeSpec := { name := "fnExactMostKept", fn := fun _ => fun
  | [d] => { results := [.lit (.bool true)], args := [d] }
  | _ => none }
def fnExactMostKeptRow : OpenClaim := { program := "ytgafjchbfbpmmaa", sum := "69b1d70ce03fa7377dda52da3e438c4a83488dd0a0f49b340ee20de839356303", func := "loop.example/g01050/laws.FnExactMostKept", spec := "fnExactMostKept", apart := false }
def FnExactMostKeptSaid : Prop := fnExactMostKeptRow.holds Try.pinned (OpenSpec.ofChange fnExactMostKeptSpec)

/-- ITS FALSE NEIGHBOUR: 'it returns false'. Refute it at one input. -/
def fnExactMostKeptWrong : ChangeSpec := { name := "fnExactMostKept", fn := fun _ => fun
  | [d] => { results := [.lit (.bool false)], args := [d] }
  | _ => none }
def FnExactMostKeptWrongFalsely : Prop := fnExactMostKeptRow.holds Try.pinned (OpenSpec.ofChange fnExactMostKeptWrong)

/-- 'laws.FnExactKeptNames': WHATEVER THE INPUT: true; the input reads as it did. -/
def fnExactKeptNamesSpec : ChangeSpec := { name := "fnExactKeptNames", fn := fun _ => fun
  | [d] => { results := [.lit (.bool true)], args := [d] }
  | _ => none }
def fnExactKeptNamesRow : OpenClaim := { program := "ytgafjchbfbpmmaa", sum := "69b1d70ce03fa7377dda52da3e438c4a83488dd0a0f49b340ee20de839356303", func := "loop.example/g01050/laws.FnExactKeptNames", spec := "fnExactKeptNames", apart := false }
def FnExactKeptNamesSaid : Prop := fnExactKeptNamesRow.holds Try.pinned (OpenSpec.ofChange fnExactKeptNamesSpec)

/-- ITS FALSE NEIGHBOUR: 'it returns false'. Refute it at one input. -/
def fnExactKeptNamesWrong : ChangeSpec := { name := "fnExactKeptNames", fn := fun _ => fun
  | [d] => { results := [.lit (.bool false)], args := [d] }
  | _ => none }
def FnExactKeptNamesWrongFalsely : Prop := fnExactKeptNamesRow.holds Try.pinned (OpenSpec.ofChange fnExactKeptNamesWrong)

/-- 'laws.FnPromises': WHATEVER THE INPUT: true; the input reads as it did. -/
def fnPromisesSpec : ChangeSpec := { name := "fnPromises", fn := fun _ => fun
  | [d] => { results := [.lit (.bool true)], args := [d] }
  | _ => none }
def fnPromisesRow : OpenClaim := { program := "ytgafjchbfbpmmaa", sum := "69b1d70ce03fa7377dda52da3e438c4a83488dd0a0f49b340ee20de839356303", func := "loop.example/g01050/laws.FnPromises", spec := "fnPromises", apart := false }
def FnPromisesSaid : Prop := fnPromisesRow.holds Try.pinned (OpenSpec.ofChange fnPromisesSpec)

/-- ITS FALSE NEIGHBOUR: 'it returns false'. Refute it at one input. -/
def fnPromisesWrong : ChangeSpec := { name := "fnPromises", fn := fun _ => fun
  | [d] => { results := [.lit (.bool false)], args := [d] }
  | _ => none }
def FnPromisesWrongFalsely : Prop := fnPromisesRow.holds Try.pinned (OpenSpec.ofChange fnPromisesWrong)

/-- 'laws.FnKept': WHATEVER THE INPUT: true; the input reads as it did. -/
def fnKeptSpec : ChangeSpec := { name := "fnKept", fn := fun _ => fun
  | [d] => { results := [.lit (.bool true)], args := [d] }
  | _ => none }
def fnKeptRow : OpenClaim := { program := "ytgafjchbfbpmmaa", sum := "69b1d70ce03fa7377dda52da3e438c4a83488dd0a0f49b340ee20de839356303", func := "loop.example/g01050/laws.FnKept", spec := "fnKept", apart := false }
def FnKeptSaid : Prop := fnKeptRow.holds Try.pinned (OpenSpec.ofChange fnKeptSpec)

/-- ITS FALSE NEIGHBOUR: 'it returns false'. Refute it at one input. -/
def fnKeptWrong : ChangeSpec := { name := "fnKept", fn := fun _ => fun
  | [d] => { results := [.lit (.bool false)], args := [d] }
  | _ => none }
def FnKeptWrongFalsely : Prop := fnKeptRow.holds Try.pinned (OpenSpec.ofChange fnKeptWrong)

/-- 'laws.FnExactWorkPlan': WHATEVER THE INPUT: true; the input reads as it did. -/
def fnExactWorkPlanSpec : ChangeSpec := { name := "fnExactWorkPlan", fn := fun _ => fun
  | [d] => { results := [.lit (.bool true)], args := [d] }
  | _ => none }
def fnExactWorkPlanRow : OpenClaim := { program := "ytgafjchbfbpmmaa", sum := "69b1d70ce03fa7377dda52da3e438c4a83488dd0a0f49b340ee20de839356303", func := "loop.example/g01050/laws.FnExactWorkPlan", spec := "fnExactWorkPlan", apart := false }
def FnExactWorkPlanSaid : Prop := fnExactWorkPlanRow.holds Try.pinned (OpenSpec.ofChange fnExactWorkPlanSpec)

/-- ITS FALSE NEIGHBOUR: 'it returns false'. Refute it at one input. -/
def fnExactWorkPlanWrong : ChangeSpec := { name := "fnExactWorkPlan", fn := fun _ => fun
  | [d] => { results := [.lit (.bool false)], args := [d] }
  | _ => none }
def FnExactWorkPlanWrongFalsely : Prop := fnExactWorkPlanRow.holds Try.pinned (OpenSpec.ofChange fnExactWorkPlanWrong)

/- THE SECOND FORM. 'bulk': how many values and letters a reading holds, each counted each time it is reached (what is shared counts as often as it is met; a slice's spare places count too). A statement '..UptoSaid' is the law's where the arguments, and the package variables that the reading takes, are together of bulk at most 1048576: NARROWER than '..Said'. Prove '..Said' where nothing that the law and all that it calls make is longer than what came in: it says more and counts as full. Else prove '..UptoSaid'. A law counts once. -/
mutual
def uptoBulk {H : Type} : DataW H → Nat
  | .lit (.string bytes) => bytes.length + 1
  | .lit _ => 1
  | .nil => 1
  | .ptr d => uptoBulk d + 1
  | .slice elems spare => uptoBulkAll elems + uptoBulkAll spare + 1
  | .agg parts => uptoBulkAll parts + 1
  | .iface _ d => uptoBulk d + 1
  | .map entries => uptoBulkEntries entries + 1
  | .held _ => 1
def uptoBulkAll {H : Type} : List (DataW H) → Nat
  | [] => 0
  | d :: r => uptoBulk d + uptoBulkAll r
def uptoBulkEntries {H : Type} : List (Lit × DataW H) → Nat
  | [] => 0
  | x :: r => uptoBulkEntry x + uptoBulkEntries r
def uptoBulkEntry {H : Type} : Lit × DataW H → Nat
  | (.string bytes, d) => bytes.length + uptoBulk d + 1
  | (_, d) => uptoBulk d + 1
 end
def uptoSmall : (H : Type) → List (DataW H) → Bool := fun _ ds => decide (uptoBulkAll ds ≤ 1048576)
def OpenSpec.upto (s : _root_.Go.ChangeSpec) : _root_.Go.OpenSpec := { _root_.Go.OpenSpec.ofChange s with cond := some uptoSmall }

/-- 'laws.FnExactArePromises', WHERE WHAT IT READS IS OF BULK AT MOST 1048576: true; the input reads as it did. -/
def fnExactArePromisesUptoRow : OpenClaim := { program := "ytgafjchbfbpmmaa", sum := "69b1d70ce03fa7377dda52da3e438c4a83488dd0a0f49b340ee20de839356303", func := "loop.example/g01050/laws.FnExactArePromises", spec := "fnExactArePromises", apart := false, narrowed := true }
def FnExactArePromisesUptoSaid : Prop := fnExactArePromisesUptoRow.holds Try.pinned (OpenSpec.upto fnExactArePromisesSpec)

/-- 'laws.FnExactCanKeep', WHERE WHAT IT READS IS OF BULK AT MOST 1048576: true; the input reads as it did. -/
def fnExactCanKeepUptoRow : OpenClaim := { program := "ytgafjchbfbpmmaa", sum := "69b1d70ce03fa7377dda52da3e438c4a83488dd0a0f49b340ee20de839356303", func := "loop.example/g01050/laws.FnExactCanKeep", spec := "fnExactCanKeep", apart := false, narrowed := true }
def FnExactCanKeepUptoSaid : Prop := fnExactCanKeepUptoRow.holds Try.pinned (OpenSpec.upto fnExactCanKeepSpec)

/-- 'laws.FnExactFirstBreach', WHERE WHAT IT READS IS OF BULK AT MOST 1048576: true; the input reads as it did. -/
def fnExactFirstBreachUptoRow : OpenClaim := { program := "ytgafjchbfbpmmaa", sum := "69b1d70ce03fa7377dda52da3e438c4a83488dd0a0f49b340ee20de839356303", func := "loop.example/g01050/laws.FnExactFirstBreach", spec := "fnExactFirstBreach", apart := false, narrowed := true }
def FnExactFirstBreachUptoSaid : Prop := fnExactFirstBreachUptoRow.holds Try.pinned (OpenSpec.upto fnExactFirstBreachSpec)

/-- 'laws.FnExactMovePromise', WHERE WHAT IT READS IS OF BULK AT MOST 1048576: true; the input reads as it did. -/
def fnExactMovePromiseUptoRow : OpenClaim := { program := "ytgafjchbfbpmmaa", sum := "69b1d70ce03fa7377dda52da3e438c4a83488dd0a0f49b340ee20de839356303", func := "loop.example/g01050/laws.FnExactMovePromise", spec := "fnExactMovePromise", apart := false, narrowed := true }
def FnExactMovePromiseUptoSaid : Prop := fnExactMovePromiseUptoRow.holds Try.pinned (OpenSpec.upto fnExactMovePromiseSpec)

/-- 'laws.FnExactFreeUntil', WHERE WHAT IT READS IS OF BULK AT MOST 1048576: true; the input reads as it did. -/
def fnExactFreeUntilUptoRow : OpenClaim := { program := "ytgafjchbfbpmmaa", sum := "69b1d70ce03fa7377dda52da3e438c4a83488dd0a0f49b340ee20de839356303", func := "loop.example/g01050/laws.FnExactFreeUntil", spec := "fnExactFreeUntil", apart := false, narrowed := true }
def FnExactFreeUntilUptoSaid : Prop := fnExactFreeUntilUptoRow.holds Try.pinned (OpenSpec.upto fnExactFreeUntilSpec)

/-- 'laws.FnExactEarliestDay', WHERE WHAT IT READS IS OF BULK AT MOST 1048576: true; the input reads as it did. -/
def fnExactEarliestDayUptoRow : OpenClaim := { program := "ytgafjchbfbpmmaa", sum := "69b1d70ce03fa7377dda52da3e438c4a83488dd0a0f49b340ee20de839356303", func := "loop.example/g01050/laws.FnExactEarliestDay", spec := "fnExactEarliestDay", apart := false, narrowed := true }
def FnExactEarliestDayUptoSaid : Prop := fnExactEarliestDayUptoRow.holds Try.pinned (OpenSpec.upto fnExactEarliestDaySpec)

/-- 'laws.FnExactMakePromise', WHERE WHAT IT READS IS OF BULK AT MOST 1048576: true; the input reads as it did. -/
def fnExactMakePromiseUptoRow : OpenClaim := { program := "ytgafjchbfbpmmaa", sum := "69b1d70ce03fa7377dda52da3e438c4a83488dd0a0f49b340ee20de839356303", func := "loop.example/g01050/laws.FnExactMakePromise", spec := "fnExactMakePromise", apart := false, narrowed := true }
def FnExactMakePromiseUptoSaid : Prop := fnExactMakePromiseUptoRow.holds Try.pinned (OpenSpec.upto fnExactMakePromiseSpec)

/-- 'laws.FnExactMostKept', WHERE WHAT IT READS IS OF BULK AT MOST 1048576: true; the input reads as it did. -/
def fnExactMostKeptUptoRow : OpenClaim := { program := "ytgafjchbfbpmmaa", sum := "69b1d70ce03fa7377dda52da3e438c4a83488dd0a0f49b340ee20de839356303", func := "loop.example/g01050/laws.FnExactMostKept", spec := "fnExactMostKept", apart := false, narrowed := true }
def FnExactMostKeptUptoSaid : Prop := fnExactMostKeptUptoRow.holds Try.pinned (OpenSpec.upto fnExactMostKeptSpec)

/-- 'laws.FnExactKeptNames', WHERE WHAT IT READS IS OF BULK AT MOST 1048576: true; the input reads as it did. -/
def fnExactKeptNamesUptoRow : OpenClaim := { program := "ytgafjchbfbpmmaa", sum := "69b1d70ce03fa7377dda52da3e438c4a83488dd0a0f49b340ee20de839356303", func := "loop.example/g01050/laws.FnExactKeptNames", spec := "fnExactKeptNames", apart := false, narrowed := true }
def FnExactKeptNamesUptoSaid : Prop := fnExactKeptNamesUptoRow.holds Try.pinned (OpenSpec.upto fnExactKeptNamesSpec)

/-- 'laws.FnPromises', WHERE WHAT IT READS IS OF BULK AT MOST 1048576: true; the input reads as it did. -/
def fnPromisesUptoRow : OpenClaim := { program := "ytgafjchbfbpmmaa", sum := "69b1d70ce03fa7377dda52da3e438c4a83488dd0a0f49b340ee20de839356303", func := "loop.example/g01050/laws.FnPromises", spec := "fnPromises", apart := false, narrowed := true }
def FnPromisesUptoSaid : Prop := fnPromisesUptoRow.holds Try.pinned (OpenSpec.upto fnPromisesSpec)

/-- 'laws.FnKept', WHERE WHAT IT READS IS OF BULK AT MOST 1048576: true; the input reads as it did. -/
def fnKeptUptoRow : OpenClaim := { program := "ytgafjchbfbpmmaa", sum := "69b1d70ce03fa7377dda52da3e438c4a83488dd0a0f49b340ee20de839356303", func := "loop.example/g01050/laws.FnKept", spec := "fnKept", apart := false, narrowed := true }
def FnKeptUptoSaid : Prop := fnKeptUptoRow.holds Try.pinned (OpenSpec.upto fnKeptSpec)

/-- 'laws.FnExactWorkPlan', WHERE WHAT IT READS IS OF BULK AT MOST 1048576: true; the input reads as it did. -/
def fnExactWorkPlanUptoRow : OpenClaim := { program := "ytgafjchbfbpmmaa", sum := "69b1d70ce03fa7377dda52da3e438c4a83488dd0a0f49b340ee20de839356303", func := "loop.example/g01050/laws.FnExactWorkPlan", spec := "fnExactWorkPlan", apart := false, narrowed := true }
def FnExactWorkPlanUptoSaid : Prop := fnExactWorkPlanUptoRow.holds Try.pinned (OpenSpec.upto fnExactWorkPlanSpec)

end Rows
end Go.Proofs.Ytgafjchbfbpmmaa
