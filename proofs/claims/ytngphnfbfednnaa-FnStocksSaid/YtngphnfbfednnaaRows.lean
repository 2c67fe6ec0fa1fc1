/-
  No cell of these rows narrows 'for every input' (looked for: loops, veiled, ifaces, maps, wideKeys, modest, calm, conditions, laid).
  DERIVED. THE GIVEN ROWS OF THIS SEAT. 12 by the template 'for every input the law returns true; each argument reads behind the call as it read before'; 0 by the template 'total and deterministic' (their statements: YtngphnfbfednnaaTotals.lean).
  GIVEN WITH THE SEED: the statements are not yours to turn. If you find one false, say at which input.
  Laid BY PROGRAM, IN A SANDBOX (cutbox-rows.mjs): the forced cells as the released guide's own fill.sh prints them over the translation 095d9089f614708e… (all of the seat's roots in one cut). By AI agents, Wed Nov 11 2026. No macro, syntax, notation, axiom, sorry.
-/
import Derived.Test.YtngphnfbfednnaaChecked
import GoSem.Claim
import GoSem.ClaimJoined
import GoSem.ClaimMapViews
import Derived.JoinedTies
import Derived.KernelRfl
namespace Go.Proofs.Ytngphnfbfednnaa
/- THE CELL 'sum', in the pinned program and in every row, IS THE sha256 OF THE DUMP (.gsa) THAT YtngphnfbfednnaaProg.lean LOADS. Nothing in Lean hashes anything: it is a label: what it is worth is what the hold of that sum in a sandbox is worth. -/
noncomputable def Try.pinned : Pinned := { name := "ytngphnfbfednnaa", sum := "095d9089f614708e2296dabbf1d5231a81146dca1143729456b61dca8e7ef706", checked := Try.checked }
namespace Rows
def none {H : Type} : Left H := { results := [], args := [] }

/-- 'laws.FnExactIsStock': WHATEVER THE INPUT: true; the input reads as it did. -/
def fnExactIsStockSpec : ChangeSpec := { name := "fnExactIsStock", fn := fun _ => fun
  | [d] => { results := [.lit (.bool true)], args := [d] }
  | _ => none }
def fnExactIsStockRow : OpenClaim := { program := "ytngphnfbfednnaa", sum := "095d9089f614708e2296dabbf1d5231a81146dca1143729456b61dca8e7ef706", func := "loop.example/g01050/laws.FnExactIsStock", spec := "fnExactIsStock", apart := false }
def FnExactIsStockSaid : Prop := fnExactIsStockRow.holds Try.pinned (OpenSpec.ofChange fnExactIsStockSpec)

/-- ITS FALSE NEIGHBOUR: 'it returns false'. Refute it at one input. -/
def fnExactIsStockWrong : ChangeSpec := { name := "fnExactIsStock", fn := fun _ => fun
  | [d] => { results := [.lit (.bool false)], args := [d] }
  | _ => none }
def FnExactIsStockWrongFalsely : Prop := fnExactIsStockRow.holds Try.pinned (OpenSpec.ofChange fnExactIsStockWrong)

/-- 'laws.FnExactFreePieces': WHATEVER THE INPUT: true; the input reads as it did. -/
def fnExactFreePiecesSpec : ChangeSpec := { name := "fnExactFreePieces", fn := fun _ => fun
  | [d1, d2] => { results := [.lit (.bool true)], args := [d1, d2] }
  | _ => none }
def fnExactFreePiecesRow : OpenClaim := { program := "ytngphnfbfednnaa", sum := "095d9089f614708e2296dabbf1d5231a81146dca1143729456b61dca8e7ef706", func := "loop.example/g01050/laws.FnExactFreePieces", spec := "fnExactFreePieces", apart := false }
def FnExactFreePiecesSaid : Prop := fnExactFreePiecesRow.holds Try.pinned (OpenSpec.ofChange fnExactFreePiecesSpec)

/-- ITS FALSE NEIGHBOUR: 'it returns false'. Refute it at one input. -/
def fnExactFreePiecesWrong : ChangeSpec := { name := "fnExactFreePieces", fn := fun _ => fun
  | [d1, d2] => { results := [.lit (.bool false)], args := [d1, d2] }
  | _ => none }
def FnExactFreePiecesWrongFalsely : Prop := fnExactFreePiecesRow.holds Try.pinned (OpenSpec.ofChange fnExactFreePiecesWrong)

/-- 'laws.FnExactMergeStocks': WHATEVER THE INPUT: true; the input reads as it did. -/
def fnExactMergeStocksSpec : ChangeSpec := { name := "fnExactMergeStocks", fn := fun _ => fun
  | [d1, d2] => { results := [.lit (.bool true)], args := [d1, d2] }
  | _ => none }
def fnExactMergeStocksRow : OpenClaim := { program := "ytngphnfbfednnaa", sum := "095d9089f614708e2296dabbf1d5231a81146dca1143729456b61dca8e7ef706", func := "loop.example/g01050/laws.FnExactMergeStocks", spec := "fnExactMergeStocks", apart := false }
def FnExactMergeStocksSaid : Prop := fnExactMergeStocksRow.holds Try.pinned (OpenSpec.ofChange fnExactMergeStocksSpec)

/-- ITS FALSE NEIGHBOUR: 'it returns false'. Refute it at one input. -/
def fnExactMergeStocksWrong : ChangeSpec := { name := "fnExactMergeStocks", fn := fun _ => fun
  | [d1, d2] => { results := [.lit (.bool false)], args := [d1, d2] }
  | _ => none }
def FnExactMergeStocksWrongFalsely : Prop := fnExactMergeStocksRow.holds Try.pinned (OpenSpec.ofChange fnExactMergeStocksWrong)

/-- 'laws.FnExactFillBin': WHATEVER THE INPUT: true; the input reads as it did. -/
def fnExactFillBinSpec : ChangeSpec := { name := "fnExactFillBin", fn := fun _ => fun
  | [d1, d2, d3] => { results := [.lit (.bool true)], args := [d1, d2, d3] }
  | _ => none }
def fnExactFillBinRow : OpenClaim := { program := "ytngphnfbfednnaa", sum := "095d9089f614708e2296dabbf1d5231a81146dca1143729456b61dca8e7ef706", func := "loop.example/g01050/laws.FnExactFillBin", spec := "fnExactFillBin", apart := false }
def FnExactFillBinSaid : Prop := fnExactFillBinRow.holds Try.pinned (OpenSpec.ofChange fnExactFillBinSpec)

/-- ITS FALSE NEIGHBOUR: 'it returns false'. Refute it at one input. -/
def fnExactFillBinWrong : ChangeSpec := { name := "fnExactFillBin", fn := fun _ => fun
  | [d1, d2, d3] => { results := [.lit (.bool false)], args := [d1, d2, d3] }
  | _ => none }
def FnExactFillBinWrongFalsely : Prop := fnExactFillBinRow.holds Try.pinned (OpenSpec.ofChange fnExactFillBinWrong)

/-- 'laws.FnExactReservePieces': WHATEVER THE INPUT: true; the input reads as it did. -/
def fnExactReservePiecesSpec : ChangeSpec := { name := "fnExactReservePieces", fn := fun _ => fun
  | [d1, d2, d3] => { results := [.lit (.bool true)], args := [d1, d2, d3] }
  | _ => none }
def fnExactReservePiecesRow : OpenClaim := { program := "ytngphnfbfednnaa", sum := "095d9089f614708e2296dabbf1d5231a81146dca1143729456b61dca8e7ef706", func := "loop.example/g01050/laws.FnExactReservePieces", spec := "fnExactReservePieces", apart := false }
def FnExactReservePiecesSaid : Prop := fnExactReservePiecesRow.holds Try.pinned (OpenSpec.ofChange fnExactReservePiecesSpec)

/-- ITS FALSE NEIGHBOUR: 'it returns false'. Refute it at one input. -/
def fnExactReservePiecesWrong : ChangeSpec := { name := "fnExactReservePieces", fn := fun _ => fun
  | [d1, d2, d3] => { results := [.lit (.bool false)], args := [d1, d2, d3] }
  | _ => none }
def FnExactReservePiecesWrongFalsely : Prop := fnExactReservePiecesRow.holds Try.pinned (OpenSpec.ofChange fnExactReservePiecesWrong)

/-- 'laws.FnExactReleasePieces': WHATEVER THE INPUT: true; the input reads as it did. -/
def fnExactReleasePiecesSpec : ChangeSpec := { name := "fnExactReleasePieces", fn := fun _ => fun
  | [d1, d2, d3] => { results := [.lit (.bool true)], args := [d1, d2, d3] }
  | _ => none }
def fnExactReleasePiecesRow : OpenClaim := { program := "ytngphnfbfednnaa", sum := "095d9089f614708e2296dabbf1d5231a81146dca1143729456b61dca8e7ef706", func := "loop.example/g01050/laws.FnExactReleasePieces", spec := "fnExactReleasePieces", apart := false }
def FnExactReleasePiecesSaid : Prop := fnExactReleasePiecesRow.holds Try.pinned (OpenSpec.ofChange fnExactReleasePiecesSpec)

/-- ITS FALSE NEIGHBOUR: 'it returns false'. Refute it at one input. -/
def fnExactReleasePiecesWrong : ChangeSpec := { name := "fnExactReleasePieces", fn := fun _ => fun
  | [d1, d2, d3] => { results := [.lit (.bool false)], args := [d1, d2, d3] }
  | _ => none }
def FnExactReleasePiecesWrongFalsely : Prop := fnExactReleasePiecesRow.holds Try.pinned (OpenSpec.ofChange fnExactReleasePiecesWrong)

/-- 'laws.FnExactUsePieces': WHATEVER THE INPUT: true; the input reads as it did. -/
def fnExactUsePiecesSpec : ChangeSpec := { name := "fnExactUsePieces", fn := fun _ => fun
  | [d1, d2, d3] => { results := [.lit (.bool true)], args := [d1, d2, d3] }
  | _ => none }
def fnExactUsePiecesRow : OpenClaim := { program := "ytngphnfbfednnaa", sum := "095d9089f614708e2296dabbf1d5231a81146dca1143729456b61dca8e7ef706", func := "loop.example/g01050/laws.FnExactUsePieces", spec := "fnExactUsePieces", apart := false }
def FnExactUsePiecesSaid : Prop := fnExactUsePiecesRow.holds Try.pinned (OpenSpec.ofChange fnExactUsePiecesSpec)

/-- ITS FALSE NEIGHBOUR: 'it returns false'. Refute it at one input. -/
def fnExactUsePiecesWrong : ChangeSpec := { name := "fnExactUsePieces", fn := fun _ => fun
  | [d1, d2, d3] => { results := [.lit (.bool false)], args := [d1, d2, d3] }
  | _ => none }
def FnExactUsePiecesWrongFalsely : Prop := fnExactUsePiecesRow.holds Try.pinned (OpenSpec.ofChange fnExactUsePiecesWrong)

/-- 'laws.FnExactMissingPieces': WHATEVER THE INPUT: true; the input reads as it did. -/
def fnExactMissingPiecesSpec : ChangeSpec := { name := "fnExactMissingPieces", fn := fun _ => fun
  | [d1, d2] => { results := [.lit (.bool true)], args := [d1, d2] }
  | _ => none }
def fnExactMissingPiecesRow : OpenClaim := { program := "ytngphnfbfednnaa", sum := "095d9089f614708e2296dabbf1d5231a81146dca1143729456b61dca8e7ef706", func := "loop.example/g01050/laws.FnExactMissingPieces", spec := "fnExactMissingPieces", apart := false }
def FnExactMissingPiecesSaid : Prop := fnExactMissingPiecesRow.holds Try.pinned (OpenSpec.ofChange fnExactMissingPiecesSpec)

/-- ITS FALSE NEIGHBOUR: 'it returns false'. Refute it at one input. -/
def fnExactMissingPiecesWrong : ChangeSpec := { name := "fnExactMissingPieces", fn := fun _ => fun
  | [d1, d2] => { results := [.lit (.bool false)], args := [d1, d2] }
  | _ => none }
def FnExactMissingPiecesWrongFalsely : Prop := fnExactMissingPiecesRow.holds Try.pinned (OpenSpec.ofChange fnExactMissingPiecesWrong)

/-- 'laws.FnExactReserveAll': WHATEVER THE INPUT: true; the input reads as it did. -/
def fnExactReserveAllSpec : ChangeSpec := { name := "fnExactReserveAll", fn := fun _ => fun
  | [d1, d2] => { results := [.lit (.bool true)], args := [d1, d2] }
  | _ => none }
def fnExactReserveAllRow : OpenClaim := { program := "ytngphnfbfednnaa", sum := "095d9089f614708e2296dabbf1d5231a81146dca1143729456b61dca8e7ef706", func := "loop.example/g01050/laws.FnExactReserveAll", spec := "fnExactReserveAll", apart := false }
def FnExactReserveAllSaid : Prop := fnExactReserveAllRow.holds Try.pinned (OpenSpec.ofChange fnExactReserveAllSpec)

/-- ITS FALSE NEIGHBOUR: 'it returns false'. Refute it at one input. -/
def fnExactReserveAllWrong : ChangeSpec := { name := "fnExactReserveAll", fn := fun _ => fun
  | [d1, d2] => { results := [.lit (.bool false)], args := [d1, d2] }
  | _ => none }
def FnExactReserveAllWrongFalsely : Prop := fnExactReserveAllRow.holds Try.pinned (OpenSpec.ofChange fnExactReserveAllWrong)

/-- 'laws.FnStocks': WHATEVER THE INPUT: true; the input reads as it did. -/
def fnStocksSpec : ChangeSpec := { name := "fnStocks", fn := fun _ => fun
  | [d] => { results := [.lit (.bool true)], args := [d] }
  | _ => none }
def fnStocksRow : OpenClaim := { program := "ytngphnfbfednnaa", sum := "095d9089f614708e2296dabbf1d5231a81146dca1143729456b61dca8e7ef706", func := "loop.example/g01050/laws.FnStocks", spec := "fnStocks", apart := false }
def FnStocksSaid : Prop := fnStocksRow.holds Try.pinned (OpenSpec.ofChange fnStocksSpec)

/-- ITS FALSE NEIGHBOUR: 'it returns false'. Refute it at one input. -/
def fnStocksWrong : ChangeSpec := { name := "fnStocks", fn := fun _ => fun
  | [d] => { results := [.lit (.bool false)], args := [d] }
  | _ => none }
def FnStocksWrongFalsely : Prop := fnStocksRow.holds Try.pinned (OpenSpec.ofChange fnStocksWrong)

/-- 'laws.FnReserved': WHATEVER THE INPUT: true; the input reads as it did. -/
def fnReservedSpec : ChangeSpec := { name := "fnReserved", fn := fun _ => fun
  | [d] => { results := [.lit (.bool true)], args := [d] }
  | _ => none }
def fnReservedRow : OpenClaim := { program := "ytngphnfbfednnaa", sum := "095d9089f614708e2296dabbf1d5231a81146dca1143729456b61dca8e7ef706", func := "loop.example/g01050/laws.FnReserved", spec := "fnReserved", apart := false }
def FnReservedSaid : Prop := fnReservedRow.holds Try.pinned (OpenSpec.ofChange fnReservedSpec)

/-- ITS FALSE NEIGHBOUR: 'it returns false'. Refute it at one input. -/
def fnReservedWrong : ChangeSpec := { name := "fnReserved", fn := fun _ => fun
  | [d] => { results := [.lit (.bool false)], args := [d] }
  | _ => none }
def FnReservedWrongFalsely : Prop := fnReservedRow.holds Try.pinned (OpenSpec.ofChange fnReservedWrong)

/-- 'laws.FnExactOrderList': WHATEVER THE INPUT: true; the input reads as it did. -/
def fnExactOrderListSpec : ChangeSpec := { name := "fnExactOrderList", fn := fun _ => fun
  | [d] => { results := [.lit (.bool true)], args := [d] }
  | _ => none }
def fnExactOrderListRow : OpenClaim := { program := "ytngphnfbfednnaa", sum := "095d9089f614708e2296dabbf1d5231a81146dca1143729456b61dca8e7ef706", func := "loop.example/g01050/laws.FnExactOrderList", spec := "fnExactOrderList", apart := false }
def FnExactOrderListSaid : Prop := fnExactOrderListRow.holds Try.pinned (OpenSpec.ofChange fnExactOrderListSpec)

/-- ITS FALSE NEIGHBOUR: 'it returns false'. Refute it at one input. -/
def fnExactOrderListWrong : ChangeSpec := { name := "fnExactOrderList", fn := fun _ => fun
  | [d] => { results := [.lit (.bool false)], args := [d] }
  | _ => none }
def FnExactOrderListWrongFalsely : Prop := fnExactOrderListRow.holds Try.pinned (OpenSpec.ofChange fnExactOrderListWrong)

/- THE SECOND FORM. 'bulk': how many values and letters a reading holds, each counted each time it is reached (what is shared counts as often as it is met; a slice's spare places count too). A statement '..UptoSaid' is the law's where the arguments, and the package variables that the reading takes, are together of bulk at most 1048576: NARROWER than '..Said'. Prove '..Said' where nothing that the law and all that it calls make is longer than what came in: it says more and counts as full. Else prove '..UptoSaid'. A law counts once. -/
mutual
def uptoBulk {H : Type} : DataW H → Nat
  | .lit (.string bytes) => bytes.length + 1
  | .lit _ => 1
  | .nil => 1
  | .ptr d => uptoBulk d + 1
  | .slice elems spare => uptoBulkAll elems + uptoBulkAll spare + 1
  | .agg parts => uptoBulkAll parts + 1
  | .iface _ d => uptoBulk d + 1
  | .map entries => uptoBulkEntries entries + 1
  | .held _ => 1
def uptoBulkAll {H : Type} : List (DataW H) → Nat
  | [] => 0
  | d :: r => uptoBulk d + uptoBulkAll r
def uptoBulkEntries {H : Type} : List (Lit × DataW H) → Nat
  | [] => 0
  | x :: r => uptoBulkEntry x + uptoBulkEntries r
def uptoBulkEntry {H : Type} : Lit × DataW H → Nat
  | (.string bytes, d) => bytes.length + uptoBulk d + 1
  | (_, d) => uptoBulk d + 1
 end
def uptoSmall : (H : Type) → List (DataW H) → Bool := fun _ ds => decide (uptoBulkAll ds ≤ 1048576)
def OpenSpec.upto (s : _root_.Go.ChangeSpec) : _root_.Go.OpenSpec := { _root_.Go.OpenSpec.ofChange s with cond := some uptoSmall }

/-- 'laws.FnExactIsStock', WHERE WHAT IT READS IS OF BULK AT MOST 1048576: true; the input reads as it did. -/
def fnExactIsStockUptoRow : OpenClaim := { program := "ytngphnfbfednnaa", sum := "095d9089f614708e2296dabbf1d5231a81146dca1143729456b61dca8e7ef706", func := "loop.example/g01050/laws.FnExactIsStock", spec := "fnExactIsStock", apart := false, narrowed := true }
def FnExactIsStockUptoSaid : Prop := fnExactIsStockUptoRow.holds Try.pinned (OpenSpec.upto fnExactIsStockSpec)

/-- 'laws.FnExactFreePieces', WHERE WHAT IT READS IS OF BULK AT MOST 1048576: true; the input reads as it did. -/
def fnExactFreePiecesUptoRow : OpenClaim := { program := "ytngphnfbfednnaa", sum := "095d9089f614708e2296dabbf1d5231a81146dca1143729456b61dca8e7ef706", func := "loop.example/g01050/laws.FnExactFreePieces", spec := "fnExactFreePieces", apart := false, narrowed := true }
def FnExactFreePiecesUptoSaid : Prop := fnExactFreePiecesUptoRow.holds Try.pinned (OpenSpec.upto fnExactFreePiecesSpec)

/-- 'laws.FnExactMergeStocks', WHERE WHAT IT READS IS OF BULK AT MOST 1048576: true; the input reads as it did. -/
def fnExactMergeStocksUptoRow : OpenClaim := { program := "ytngphnfbfednnaa", sum := "095d9089f614708e2296dabbf1d5231a81146dca1143729456b61dca8e7ef706", func := "loop.example/g01050/laws.FnExactMergeStocks", spec := "fnExactMergeStocks", apart := false, narrowed := true }
def FnExactMergeStocksUptoSaid : Prop := fnExactMergeStocksUptoRow.holds Try.pinned (OpenSpec.upto fnExactMergeStocksSpec)

/-- 'laws.FnExactFillBin', WHERE WHAT IT READS IS OF BULK AT MOST 1048576: true; the input reads as it did. -/
def fnExactFillBinUptoRow : OpenClaim := { program := "ytngphnfbfednnaa", sum := "095d9089f614708e2296dabbf1d5231a81146dca1143729456b61dca8e7ef706", func := "loop.example/g01050/laws.FnExactFillBin", spec := "fnExactFillBin", apart := false, narrowed := true }
def FnExactFillBinUptoSaid : Prop := fnExactFillBinUptoRow.holds Try.pinned (OpenSpec.upto fnExactFillBinSpec)

/-- 'laws.FnExactReservePieces', WHERE WHAT IT READS IS OF BULK AT MOST 1048576: true; the input reads as it did. -/
def fnExactReservePiecesUptoRow : OpenClaim := { program := "ytngphnfbfednnaa", sum := "095d9089f614708e2296dabbf1d5231a81146dca1143729456b61dca8e7ef706", func := "loop.example/g01050/laws.FnExactReservePieces", spec := "fnExactReservePieces", apart := false, narrowed := true }
def FnExactReservePiecesUptoSaid : Prop := fnExactReservePiecesUptoRow.holds Try.pinned (OpenSpec.upto fnExactReservePiecesSpec)

/-- 'laws.FnExactReleasePieces', WHERE WHAT IT READS IS OF BULK AT MOST 1048576: true; the input reads as it did. -/
def fnExactReleasePiecesUptoRow : OpenClaim := { program := "ytngphnfbfednnaa", sum := "095d9089f614708e2296dabbf1d5231a81146dca1143729456b61dca8e7ef706", func := "loop.example/g01050/laws.FnExactReleasePieces", spec := "fnExactReleasePieces", apart := false, narrowed := true }
def FnExactReleasePiecesUptoSaid : Prop := fnExactReleasePiecesUptoRow.holds Try.pinned (OpenSpec.upto fnExactReleasePiecesSpec)

/-- 'laws.FnExactUsePieces', WHERE WHAT IT READS IS OF BULK AT MOST 1048576: true; the input reads as it did. -/
def fnExactUsePiecesUptoRow : OpenClaim := { program := "ytngphnfbfednnaa", sum := "095d9089f614708e2296dabbf1d5231a81146dca1143729456b61dca8e7ef706", func := "loop.example/g01050/laws.FnExactUsePieces", spec := "fnExactUsePieces", apart := false, narrowed := true }
def FnExactUsePiecesUptoSaid : Prop := fnExactUsePiecesUptoRow.holds Try.pinned (OpenSpec.upto fnExactUsePiecesSpec)

/-- 'laws.FnExactMissingPieces', WHERE WHAT IT READS IS OF BULK AT MOST 1048576: true; the input reads as it did. -/
def fnExactMissingPiecesUptoRow : OpenClaim := { program := "ytngphnfbfednnaa", sum := "095d9089f614708e2296dabbf1d5231a81146dca1143729456b61dca8e7ef706", func := "loop.example/g01050/laws.FnExactMissingPieces", spec := "fnExactMissingPieces", apart := false, narrowed := true }
def FnExactMissingPiecesUptoSaid : Prop := fnExactMissingPiecesUptoRow.holds Try.pinned (OpenSpec.upto fnExactMissingPiecesSpec)

/-- 'laws.FnExactReserveAll', WHERE WHAT IT READS IS OF BULK AT MOST 1048576: true; the input reads as it did. -/
def fnExactReserveAllUptoRow : OpenClaim := { program := "ytngphnfbfednnaa", sum := "095d9089f614708e2296dabbf1d5231a81146dca1143729456b61dca8e7ef706", func := "loop.example/g01050/laws.FnExactReserveAll", spec := "fnExactReserveAll", apart := false, narrowed := true }
def FnExactReserveAllUptoSaid : Prop := fnExactReserveAllUptoRow.holds Try.pinned (OpenSpec.upto fnExactReserveAllSpec)

/-- 'laws.FnStocks', WHERE WHAT IT READS IS OF BULK AT MOST 1048576: true; the input reads as it did. -/
def fnStocksUptoRow : OpenClaim := { program := "ytngphnfbfednnaa", sum := "095d9089f614708e2296dabbf1d5231a81146dca1143729456b61dca8e7ef706", func := "loop.example/g01050/laws.FnStocks", spec := "fnStocks", apart := false, narrowed := true }
def FnStocksUptoSaid : Prop := fnStocksUptoRow.holds Try.pinned (OpenSpec.upto fnStocksSpec)

/-- 'laws.FnReserved', WHERE WHAT IT READS IS OF BULK AT MOST 1048576: true; the input reads as it did. -/
def fnReservedUptoRow : OpenClaim := { program := "ytngphnfbfednnaa", sum := "095d9089f614708e2296dabbf1d5231a81146dca1143729456b61dca8e7ef706", func := "loop.example/g01050/laws.FnReserved", spec := "fnReserved", apart := false, narrowed := true }
def FnReservedUptoSaid : Prop := fnReservedUptoRow.holds Try.pinned (OpenSpec.upto fnReservedSpec)

/-- 'laws.FnExactOrderList', WHERE WHAT IT READS IS OF BULK AT MOST 1048576: true; the input reads as it did. -/
def fnExactOrderListUptoRow : OpenClaim := { program := "ytngphnfbfednnaa", sum := "095d9089f614708e2296dabbf1d5231a81146dca1143729456b61dca8e7ef706", func := "loop.example/g01050/laws.FnExactOrderList", spec := "fnExactOrderList", apart := false, narrowed := true }
def FnExactOrderListUptoSaid : Prop := fnExactOrderListUptoRow.holds Try.pinned (OpenSpec.upto fnExactOrderListSpec)

end Rows
end Go.Proofs.Ytngphnfbfednnaa
