/-
  No cell of these rows narrows 'for every input' (looked for: loops, veiled, ifaces, maps, wideKeys, modest, calm, conditions, laid).
  DERIVED. THE GIVEN ROWS OF THIS SEAT. 13 by the template 'for every input the law returns true; each argument reads behind the call as it read before'; 0 by the template 'total and deterministic' (their statements: YtecfkomijaakhaaTotals.lean).
  GIVEN WITH THE SEED: the statements are not yours to turn. If you find one false, say at which input.
  Laid BY PROGRAM, IN A SANDBOX (cutbox-rows.mjs): the forced cells as the released guide's own fill.sh prints them over the translation 95d8253566a87aed… (all of the seat's roots in one cut). By AI agents, Wed Nov 11 2026. No macro, syntax, notation, axiom, sorry.
-/
import Derived.Test.YtecfkomijaakhaaChecked
import GoSem.Claim
import GoSem.ClaimJoined
import GoSem.ClaimMapViews
import Derived.JoinedTies
import Derived.KernelRfl
namespace Go.Proofs.Ytecfkomijaakhaa
/- THE CELL 'sum', in the pinned program and in every row, IS THE sha256 OF THE DUMP (.gsa) THAT YtecfkomijaakhaaProg.lean LOADS. Nothing in Lean hashes anything: it is a label: what it is worth is what the hold of that sum in a sandbox is worth. -/
noncomputable def Try.pinned : Pinned := { name := "ytecfkomijaakhaa", sum := "95d8253566a87aed9dd7b76cd1f86a268aa0e7e9879d576642f9f8eaa63637ca", checked := Try.checked }
namespace Rows
def none {H : Type} : Left H := { results := [], args := [] }

/-- 'laws.FnExactIsRecipe': WHATEVER THE INPUT: true; the input reads as it did. -/
def fnExactIsRecipeSpec : ChangeSpec := { name := "fnExactIsRecipe", fn := fun _ => fun
  | [d] => { results := [.lit (.bool true)], args := [d] }
  | _ => none }
def fnExactIsRecipeRow : OpenClaim := { program := "ytecfkomijaakhaa", sum := "95d8253566a87aed9dd7b76cd1f86a268aa0e7e9879d576642f9f8eaa63637ca", func := "loop.example/g01050/laws.FnExactIsRecipe", spec := "fnExactIsRecipe", apart := false }
def FnExactIsRecipeSaid : Prop := fnExactIsRecipeRow.holds Try.pinned (OpenSpec.ofChange fnExactIsRecipeSpec)

/-- ITS FALSE NEIGHBOUR: 'it returns false'. Refute it at one input. -/
def fnExactIsRecipeWrong : ChangeSpec := { name := "fnExactIsRecipe", fn := fun _ => fun
  | [d] => { results := [.lit (.bool false)], args := [d] }
  | _ => none }
def FnExactIsRecipeWrongFalsely : Prop := fnExactIsRecipeRow.holds Try.pinned (OpenSpec.ofChange fnExactIsRecipeWrong)

/-- 'laws.FnExactIsOrder': WHATEVER THE INPUT: true; the input reads as it did. -/
def fnExactIsOrderSpec : ChangeSpec := { name := "fnExactIsOrder", fn := fun _ => fun
  | [d1, d2] => { results := [.lit (.bool true)], args := [d1, d2] }
  | _ => none }
def fnExactIsOrderRow : OpenClaim := { program := "ytecfkomijaakhaa", sum := "95d8253566a87aed9dd7b76cd1f86a268aa0e7e9879d576642f9f8eaa63637ca", func := "loop.example/g01050/laws.FnExactIsOrder", spec := "fnExactIsOrder", apart := false }
def FnExactIsOrderSaid : Prop := fnExactIsOrderRow.holds Try.pinned (OpenSpec.ofChange fnExactIsOrderSpec)

/-- ITS FALSE NEIGHBOUR: 'it returns false'. Refute it at one input. -/
def fnExactIsOrderWrong : ChangeSpec := { name := "fnExactIsOrder", fn := fun _ => fun
  | [d1, d2] => { results := [.lit (.bool false)], args := [d1, d2] }
  | _ => none }
def FnExactIsOrderWrongFalsely : Prop := fnExactIsOrderRow.holds Try.pinned (OpenSpec.ofChange fnExactIsOrderWrong)

/-- 'laws.FnExactRemainingMinutes': WHATEVER THE INPUT: true; the input reads as it did. -/
def fnExactRemainingMinutesSpec : ChangeSpec := { name := "fnExactRemainingMinutes", fn := fun _ => fun
  | [d1, d2] => { results := [.lit (.bool true)], args := [d1, d2] }
  | _ => none }
def fnExactRemainingMinutesRow : OpenClaim := { program := "ytecfkomijaakhaa", sum := "95d8253566a87aed9dd7b76cd1f86a268aa0e7e9879d576642f9f8eaa63637ca", func := "loop.example/g01050/laws.FnExactRemainingMinutes", spec := "fnExactRemainingMinutes", apart := false }
def FnExactRemainingMinutesSaid : Prop := fnExactRemainingMinutesRow.holds Try.pinned (OpenSpec.ofChange fnExactRemainingMinutesSpec)

/-- ITS FALSE NEIGHBOUR: 'it returns false'. Refute it at one input. -/
def fnExactRemainingMinutesWrong : ChangeSpec := { name := "fnExactRemainingMinutes", fn := fun _ => fun
  | [d1, d2] => { results := [.lit (.bool false)], args := [d1, d2] }
  | _ => none }
def FnExactRemainingMinutesWrongFalsely : Prop := fnExactRemainingMinutesRow.holds Try.pinned (OpenSpec.ofChange fnExactRemainingMinutesWrong)

/-- 'laws.FnExactCountOrders': WHATEVER THE INPUT: true; the input reads as it did. -/
def fnExactCountOrdersSpec : ChangeSpec := { name := "fnExactCountOrders", fn := fun _ => fun
  | [d] => { results := [.lit (.bool true)], args := [d] }
  | _ => none }
def fnExactCountOrdersRow : OpenClaim := { program := "ytecfkomijaakhaa", sum := "95d8253566a87aed9dd7b76cd1f86a268aa0e7e9879d576642f9f8eaa63637ca", func := "loop.example/g01050/laws.FnExactCountOrders", spec := "fnExactCountOrders", apart := false }
def FnExactCountOrdersSaid : Prop := fnExactCountOrdersRow.holds Try.pinned (OpenSpec.ofChange fnExactCountOrdersSpec)

/-- ITS FALSE NEIGHBOUR: 'it returns false'. Refute it at one input. -/
def fnExactCountOrdersWrong : ChangeSpec := { name := "fnExactCountOrders", fn := fun _ => fun
  | [d] => { results := [.lit (.bool false)], args := [d] }
  | _ => none }
def FnExactCountOrdersWrongFalsely : Prop := fnExactCountOrdersRow.holds Try.pinned (OpenSpec.ofChange fnExactCountOrdersWrong)

/-- 'laws.FnExactFirstOrder': WHATEVER THE INPUT: true; the input reads as it did. -/
def fnExactFirstOrderSpec : ChangeSpec := { name := "fnExactFirstOrder", fn := fun _ => fun
  | [d] => { results := [.lit (.bool true)], args := [d] }
  | _ => none }
def fnExactFirstOrderRow : OpenClaim := { program := "ytecfkomijaakhaa", sum := "95d8253566a87aed9dd7b76cd1f86a268aa0e7e9879d576642f9f8eaa63637ca", func := "loop.example/g01050/laws.FnExactFirstOrder", spec := "fnExactFirstOrder", apart := false }
def FnExactFirstOrderSaid : Prop := fnExactFirstOrderRow.holds Try.pinned (OpenSpec.ofChange fnExactFirstOrderSpec)

/-- ITS FALSE NEIGHBOUR: 'it returns false'. Refute it at one input. -/
def fnExactFirstOrderWrong : ChangeSpec := { name := "fnExactFirstOrder", fn := fun _ => fun
  | [d] => { results := [.lit (.bool false)], args := [d] }
  | _ => none }
def FnExactFirstOrderWrongFalsely : Prop := fnExactFirstOrderRow.holds Try.pinned (OpenSpec.ofChange fnExactFirstOrderWrong)

/-- 'laws.FnExactChangesOf': WHATEVER THE INPUT: true; the input reads as it did. -/
def fnExactChangesOfSpec : ChangeSpec := { name := "fnExactChangesOf", fn := fun _ => fun
  | [d1, d2] => { results := [.lit (.bool true)], args := [d1, d2] }
  | _ => none }
def fnExactChangesOfRow : OpenClaim := { program := "ytecfkomijaakhaa", sum := "95d8253566a87aed9dd7b76cd1f86a268aa0e7e9879d576642f9f8eaa63637ca", func := "loop.example/g01050/laws.FnExactChangesOf", spec := "fnExactChangesOf", apart := false }
def FnExactChangesOfSaid : Prop := fnExactChangesOfRow.holds Try.pinned (OpenSpec.ofChange fnExactChangesOfSpec)

/-- ITS FALSE NEIGHBOUR: 'it returns false'. Refute it at one input. -/
def fnExactChangesOfWrong : ChangeSpec := { name := "fnExactChangesOf", fn := fun _ => fun
  | [d1, d2] => { results := [.lit (.bool false)], args := [d1, d2] }
  | _ => none }
def FnExactChangesOfWrongFalsely : Prop := fnExactChangesOfRow.holds Try.pinned (OpenSpec.ofChange fnExactChangesOfWrong)

/-- 'laws.FnExactEarliestStarts': WHATEVER THE INPUT: true; the input reads as it did. -/
def fnExactEarliestStartsSpec : ChangeSpec := { name := "fnExactEarliestStarts", fn := fun _ => fun
  | [d] => { results := [.lit (.bool true)], args := [d] }
  | _ => none }
def fnExactEarliestStartsRow : OpenClaim := { program := "ytecfkomijaakhaa", sum := "95d8253566a87aed9dd7b76cd1f86a268aa0e7e9879d576642f9f8eaa63637ca", func := "loop.example/g01050/laws.FnExactEarliestStarts", spec := "fnExactEarliestStarts", apart := false }
def FnExactEarliestStartsSaid : Prop := fnExactEarliestStartsRow.holds Try.pinned (OpenSpec.ofChange fnExactEarliestStartsSpec)

/-- ITS FALSE NEIGHBOUR: 'it returns false'. Refute it at one input. -/
def fnExactEarliestStartsWrong : ChangeSpec := { name := "fnExactEarliestStarts", fn := fun _ => fun
  | [d] => { results := [.lit (.bool false)], args := [d] }
  | _ => none }
def FnExactEarliestStartsWrongFalsely : Prop := fnExactEarliestStartsRow.holds Try.pinned (OpenSpec.ofChange fnExactEarliestStartsWrong)

/-- 'laws.FnExactAllAfter': WHATEVER THE INPUT: true; the input reads as it did. -/
def fnExactAllAfterSpec : ChangeSpec := { name := "fnExactAllAfter", fn := fun _ => fun
  | [d1, d2] => { results := [.lit (.bool true)], args := [d1, d2] }
  | _ => none }
def fnExactAllAfterRow : OpenClaim := { program := "ytecfkomijaakhaa", sum := "95d8253566a87aed9dd7b76cd1f86a268aa0e7e9879d576642f9f8eaa63637ca", func := "loop.example/g01050/laws.FnExactAllAfter", spec := "fnExactAllAfter", apart := false }
def FnExactAllAfterSaid : Prop := fnExactAllAfterRow.holds Try.pinned (OpenSpec.ofChange fnExactAllAfterSpec)

/-- ITS FALSE NEIGHBOUR: 'it returns false'. Refute it at one input. -/
def fnExactAllAfterWrong : ChangeSpec := { name := "fnExactAllAfter", fn := fun _ => fun
  | [d1, d2] => { results := [.lit (.bool false)], args := [d1, d2] }
  | _ => none }
def FnExactAllAfterWrongFalsely : Prop := fnExactAllAfterRow.holds Try.pinned (OpenSpec.ofChange fnExactAllAfterWrong)

/-- 'laws.FnExactLongestChain': WHATEVER THE INPUT: true; the input reads as it did. -/
def fnExactLongestChainSpec : ChangeSpec := { name := "fnExactLongestChain", fn := fun _ => fun
  | [d] => { results := [.lit (.bool true)], args := [d] }
  | _ => none }
def fnExactLongestChainRow : OpenClaim := { program := "ytecfkomijaakhaa", sum := "95d8253566a87aed9dd7b76cd1f86a268aa0e7e9879d576642f9f8eaa63637ca", func := "loop.example/g01050/laws.FnExactLongestChain", spec := "fnExactLongestChain", recurses := true, apart := false }
def FnExactLongestChainSaid : Prop := fnExactLongestChainRow.holds Try.pinned (OpenSpec.ofChange fnExactLongestChainSpec)

/-- ITS FALSE NEIGHBOUR: 'it returns false'. Refute it at one input. -/
def fnExactLongestChainWrong : ChangeSpec := { name := "fnExactLongestChain", fn := fun _ => fun
  | [d] => { results := [.lit (.bool false)], args := [d] }
  | _ => none }
def FnExactLongestChainWrongFalsely : Prop := fnExactLongestChainRow.holds Try.pinned (OpenSpec.ofChange fnExactLongestChainWrong)

/-- 'laws.FnExactCalmOrder': WHATEVER THE INPUT: true; the input reads as it did. -/
def fnExactCalmOrderSpec : ChangeSpec := { name := "fnExactCalmOrder", fn := fun _ => fun
  | [d] => { results := [.lit (.bool true)], args := [d] }
  | _ => none }
def fnExactCalmOrderRow : OpenClaim := { program := "ytecfkomijaakhaa", sum := "95d8253566a87aed9dd7b76cd1f86a268aa0e7e9879d576642f9f8eaa63637ca", func := "loop.example/g01050/laws.FnExactCalmOrder", spec := "fnExactCalmOrder", apart := false }
def FnExactCalmOrderSaid : Prop := fnExactCalmOrderRow.holds Try.pinned (OpenSpec.ofChange fnExactCalmOrderSpec)

/-- ITS FALSE NEIGHBOUR: 'it returns false'. Refute it at one input. -/
def fnExactCalmOrderWrong : ChangeSpec := { name := "fnExactCalmOrder", fn := fun _ => fun
  | [d] => { results := [.lit (.bool false)], args := [d] }
  | _ => none }
def FnExactCalmOrderWrongFalsely : Prop := fnExactCalmOrderRow.holds Try.pinned (OpenSpec.ofChange fnExactCalmOrderWrong)

/-- 'laws.FnOrders': WHATEVER THE INPUT: true; the input reads as it did. -/
def fnOrdersSpec : ChangeSpec := { name := "fnOrders", fn := fun _ => fun
  | [d] => { results := [.lit (.bool true)], args := [d] }
  | _ => none }
def fnOrdersRow : OpenClaim := { program := "ytecfkomijaakhaa", sum := "95d8253566a87aed9dd7b76cd1f86a268aa0e7e9879d576642f9f8eaa63637ca", func := "loop.example/g01050/laws.FnOrders", spec := "fnOrders", apart := false }
def FnOrdersSaid : Prop := fnOrdersRow.holds Try.pinned (OpenSpec.ofChange fnOrdersSpec)

/-- ITS FALSE NEIGHBOUR: 'it returns false'. Refute it at one input. -/
def fnOrdersWrong : ChangeSpec := { name := "fnOrders", fn := fun _ => fun
  | [d] => { results := [.lit (.bool false)], args := [d] }
  | _ => none }
def FnOrdersWrongFalsely : Prop := fnOrdersRow.holds Try.pinned (OpenSpec.ofChange fnOrdersWrong)

/-- 'laws.FnLongest': WHATEVER THE INPUT: true; the input reads as it did. -/
def fnLongestSpec : ChangeSpec := { name := "fnLongest", fn := fun _ => fun
  | [d] => { results := [.lit (.bool true)], args := [d] }
  | _ => none }
def fnLongestRow : OpenClaim := { program := "ytecfkomijaakhaa", sum := "95d8253566a87aed9dd7b76cd1f86a268aa0e7e9879d576642f9f8eaa63637ca", func := "loop.example/g01050/laws.FnLongest", spec := "fnLongest", recurses := true, apart := false }
def FnLongestSaid : Prop := fnLongestRow.holds Try.pinned (OpenSpec.ofChange fnLongestSpec)

/-- ITS FALSE NEIGHBOUR: 'it returns false'. Refute it at one input. -/
def fnLongestWrong : ChangeSpec := { name := "fnLongest", fn := fun _ => fun
  | [d] => { results := [.lit (.bool false)], args := [d] }
  | _ => none }
def FnLongestWrongFalsely : Prop := fnLongestRow.holds Try.pinned (OpenSpec.ofChange fnLongestWrong)

/-- 'laws.FnCalm': WHATEVER THE INPUT: true; the input reads as it did. -/
def fnCalmSpec : ChangeSpec := { name := "fnCalm", fn := fun _ => fun
  | [d] => { results := [.lit (.bool true)], args := [d] }
  | _ => none }
def fnCalmRow : OpenClaim := { program := "ytecfkomijaakhaa", sum := "95d8253566a87aed9dd7b76cd1f86a268aa0e7e9879d576642f9f8eaa63637ca", func := "loop.example/g01050/laws.FnCalm", spec := "fnCalm", apart := false }
def FnCalmSaid : Prop := fnCalmRow.holds Try.pinned (OpenSpec.ofChange fnCalmSpec)

/-- ITS FALSE NEIGHBOUR: 'it returns false'. Refute it at one input. -/
def fnCalmWrong : ChangeSpec := { name := "fnCalm", fn := fun _ => fun
  | [d] => { results := [.lit (.bool false)], args := [d] }
  | _ => none }
def FnCalmWrongFalsely : Prop := fnCalmRow.holds Try.pinned (OpenSpec.ofChange fnCalmWrong)

/- THE SECOND FORM. 'bulk': how many values and letters a reading holds, each counted each time it is reached (what is shared counts as often as it is met; a slice's spare places count too). A statement '..UptoSaid' is the law's where the arguments, and the package variables that the reading takes, are together of bulk at most 1048576: NARROWER than '..Said'. Prove '..Said' where nothing that the law and all that it calls make is longer than what came in: it says more and counts as full. Else prove '..UptoSaid'. A law counts once. -/
mutual
def uptoBulk {H : Type} : DataW H → Nat
  | .lit (.string bytes) => bytes.length + 1
  | .lit _ => 1
  | .nil => 1
  | .ptr d => uptoBulk d + 1
  | .slice elems spare => uptoBulkAll elems + uptoBulkAll spare + 1
  | .agg parts => uptoBulkAll parts + 1
  | .iface _ d => uptoBulk d + 1
  | .map entries => uptoBulkEntries entries + 1
  | .held _ => 1
def uptoBulkAll {H : Type} : List (DataW H) → Nat
  | [] => 0
  | d :: r => uptoBulk d + uptoBulkAll r
def uptoBulkEntries {H : Type} : List (Lit × DataW H) → Nat
  | [] => 0
  | x :: r => uptoBulkEntry x + uptoBulkEntries r
def uptoBulkEntry {H : Type} : Lit × DataW H → Nat
  | (.string bytes, d) => bytes.length + uptoBulk d + 1
  | (_, d) => uptoBulk d + 1
 end
def uptoSmall : (H : Type) → List (DataW H) → Bool := fun _ ds => decide (uptoBulkAll ds ≤ 1048576)
def OpenSpec.upto (s : _root_.Go.ChangeSpec) : _root_.Go.OpenSpec := { _root_.Go.OpenSpec.ofChange s with cond := some uptoSmall }

/-- 'laws.FnExactIsRecipe', WHERE WHAT IT READS IS OF BULK AT MOST 1048576: true; the input reads as it did. -/
def fnExactIsRecipeUptoRow : OpenClaim := { program := "ytecfkomijaakhaa", sum := "95d8253566a87aed9dd7b76cd1f86a268aa0e7e9879d576642f9f8eaa63637ca", func := "loop.example/g01050/laws.FnExactIsRecipe", spec := "fnExactIsRecipe", apart := false, narrowed := true }
def FnExactIsRecipeUptoSaid : Prop := fnExactIsRecipeUptoRow.holds Try.pinned (OpenSpec.upto fnExactIsRecipeSpec)

/-- 'laws.FnExactIsOrder', WHERE WHAT IT READS IS OF BULK AT MOST 1048576: true; the input reads as it did. -/
def fnExactIsOrderUptoRow : OpenClaim := { program := "ytecfkomijaakhaa", sum := "95d8253566a87aed9dd7b76cd1f86a268aa0e7e9879d576642f9f8eaa63637ca", func := "loop.example/g01050/laws.FnExactIsOrder", spec := "fnExactIsOrder", apart := false, narrowed := true }
def FnExactIsOrderUptoSaid : Prop := fnExactIsOrderUptoRow.holds Try.pinned (OpenSpec.upto fnExactIsOrderSpec)

/-- 'laws.FnExactRemainingMinutes', WHERE WHAT IT READS IS OF BULK AT MOST 1048576: true; the input reads as it did. -/
def fnExactRemainingMinutesUptoRow : OpenClaim := { program := "ytecfkomijaakhaa", sum := "95d8253566a87aed9dd7b76cd1f86a268aa0e7e9879d576642f9f8eaa63637ca", func := "loop.example/g01050/laws.FnExactRemainingMinutes", spec := "fnExactRemainingMinutes", apart := false, narrowed := true }
def FnExactRemainingMinutesUptoSaid : Prop := fnExactRemainingMinutesUptoRow.holds Try.pinned (OpenSpec.upto fnExactRemainingMinutesSpec)

/-- 'laws.FnExactCountOrders', WHERE WHAT IT READS IS OF BULK AT MOST 1048576: true; the input reads as it did. -/
def fnExactCountOrdersUptoRow : OpenClaim := { program := "ytecfkomijaakhaa", sum := "95d8253566a87aed9dd7b76cd1f86a268aa0e7e9879d576642f9f8eaa63637ca", func := "loop.example/g01050/laws.FnExactCountOrders", spec := "fnExactCountOrders", apart := false, narrowed := true }
def FnExactCountOrdersUptoSaid : Prop := fnExactCountOrdersUptoRow.holds Try.pinned (OpenSpec.upto fnExactCountOrdersSpec)

/-- 'laws.FnExactFirstOrder', WHERE WHAT IT READS IS OF BULK AT MOST 1048576: true; the input reads as it did. -/
def fnExactFirstOrderUptoRow : OpenClaim := { program := "ytecfkomijaakhaa", sum := "95d8253566a87aed9dd7b76cd1f86a268aa0e7e9879d576642f9f8eaa63637ca", func := "loop.example/g01050/laws.FnExactFirstOrder", spec := "fnExactFirstOrder", apart := false, narrowed := true }
def FnExactFirstOrderUptoSaid : Prop := fnExactFirstOrderUptoRow.holds Try.pinned (OpenSpec.upto fnExactFirstOrderSpec)

/-- 'laws.FnExactChangesOf', WHERE WHAT IT READS IS OF BULK AT MOST 1048576: true; the input reads as it did. -/
def fnExactChangesOfUptoRow : OpenClaim := { program := "ytecfkomijaakhaa", sum := "95d8253566a87aed9dd7b76cd1f86a268aa0e7e9879d576642f9f8eaa63637ca", func := "loop.example/g01050/laws.FnExactChangesOf", spec := "fnExactChangesOf", apart := false, narrowed := true }
def FnExactChangesOfUptoSaid : Prop := fnExactChangesOfUptoRow.holds Try.pinned (OpenSpec.upto fnExactChangesOfSpec)

/-- 'laws.FnExactEarliestStarts', WHERE WHAT IT READS IS OF BULK AT MOST 1048576: true; the input reads as it did. -/
def fnExactEarliestStartsUptoRow : OpenClaim := { program := "ytecfkomijaakhaa", sum := "95d8253566a87aed9dd7b76cd1f86a268aa0e7e9879d576642f9f8eaa63637ca", func := "loop.example/g01050/laws.FnExactEarliestStarts", spec := "fnExactEarliestStarts", apart := false, narrowed := true }
def FnExactEarliestStartsUptoSaid : Prop := fnExactEarliestStartsUptoRow.holds Try.pinned (OpenSpec.upto fnExactEarliestStartsSpec)

/-- 'laws.FnExactAllAfter', WHERE WHAT IT READS IS OF BULK AT MOST 1048576: true; the input reads as it did. -/
def fnExactAllAfterUptoRow : OpenClaim := { program := "ytecfkomijaakhaa", sum := "95d8253566a87aed9dd7b76cd1f86a268aa0e7e9879d576642f9f8eaa63637ca", func := "loop.example/g01050/laws.FnExactAllAfter", spec := "fnExactAllAfter", apart := false, narrowed := true }
def FnExactAllAfterUptoSaid : Prop := fnExactAllAfterUptoRow.holds Try.pinned (OpenSpec.upto fnExactAllAfterSpec)

/-- 'laws.FnExactLongestChain', WHERE WHAT IT READS IS OF BULK AT MOST 1048576: true; the input reads as it did. -/
def fnExactLongestChainUptoRow : OpenClaim := { program := "ytecfkomijaakhaa", sum := "95d8253566a87aed9dd7b76cd1f86a268aa0e7e9879d576642f9f8eaa63637ca", func := "loop.example/g01050/laws.FnExactLongestChain", spec := "fnExactLongestChain", recurses := true, apart := false, narrowed := true }
def FnExactLongestChainUptoSaid : Prop := fnExactLongestChainUptoRow.holds Try.pinned (OpenSpec.upto fnExactLongestChainSpec)

/-- 'laws.FnExactCalmOrder', WHERE WHAT IT READS IS OF BULK AT MOST 1048576: true; the input reads as it did. -/
def fnExactCalmOrderUptoRow : OpenClaim := { program := "ytecfkomijaakhaa", sum := "95d8253566a87aed9dd7b76cd1f86a268aa0e7e9879d576642f9f8eaa63637ca", func := "loop.example/g01050/laws.FnExactCalmOrder", spec := "fnExactCalmOrder", apart := false, narrowed := true }
def FnExactCalmOrderUptoSaid : Prop := fnExactCalmOrderUptoRow.holds Try.pinned (OpenSpec.upto fnExactCalmOrderSpec)

/-- 'laws.FnOrders', WHERE WHAT IT READS IS OF BULK AT MOST 1048576: true; the input reads as it did. -/
def fnOrdersUptoRow : OpenClaim := { program := "ytecfkomijaakhaa", sum := "95d8253566a87aed9dd7b76cd1f86a268aa0e7e9879d576642f9f8eaa63637ca", func := "loop.example/g01050/laws.FnOrders", spec := "fnOrders", apart := false, narrowed := true }
def FnOrdersUptoSaid : Prop := fnOrdersUptoRow.holds Try.pinned (OpenSpec.upto fnOrdersSpec)

/-- 'laws.FnLongest', WHERE WHAT IT READS IS OF BULK AT MOST 1048576: true; the input reads as it did. -/
def fnLongestUptoRow : OpenClaim := { program := "ytecfkomijaakhaa", sum := "95d8253566a87aed9dd7b76cd1f86a268aa0e7e9879d576642f9f8eaa63637ca", func := "loop.example/g01050/laws.FnLongest", spec := "fnLongest", recurses := true, apart := false, narrowed := true }
def FnLongestUptoSaid : Prop := fnLongestUptoRow.holds Try.pinned (OpenSpec.upto fnLongestSpec)

/-- 'laws.FnCalm', WHERE WHAT IT READS IS OF BULK AT MOST 1048576: true; the input reads as it did. -/
def fnCalmUptoRow : OpenClaim := { program := "ytecfkomijaakhaa", sum := "95d8253566a87aed9dd7b76cd1f86a268aa0e7e9879d576642f9f8eaa63637ca", func := "loop.example/g01050/laws.FnCalm", spec := "fnCalm", apart := false, narrowed := true }
def FnCalmUptoSaid : Prop := fnCalmUptoRow.holds Try.pinned (OpenSpec.upto fnCalmSpec)

end Rows
end Go.Proofs.Ytecfkomijaakhaa
