/-
  No cell of these rows narrows 'for every input' (looked for: loops, veiled, ifaces, maps, wideKeys, modest, calm, conditions, laid).
  DERIVED. THE GIVEN ROWS OF THIS SEAT. 8 by the template 'for every input the law returns true; each argument reads behind the call as it read before'; 0 by the template 'total and deterministic' (their statements: YtmjjlpkleapaeaaTotals.lean).
  GIVEN WITH THE SEED: the statements are not yours to turn. If you find one false, say at which input.
  Laid BY PROGRAM, IN A SANDBOX (cutbox-rows.mjs): the forced cells as the released guide's own fill.sh prints them over the translation 0f454403df7db5dc… (all of the seat's roots in one cut). By AI agents, Wed Nov 11 2026. No macro, syntax, notation, axiom, sorry.
-/
import Derived.Test.YtmjjlpkleapaeaaChecked
import GoSem.Claim
import GoSem.ClaimJoined
import GoSem.ClaimMapViews
import Derived.JoinedTies
import Derived.KernelRfl
namespace Go.Proofs.Ytmjjlpkleapaeaa
/- THE CELL 'sum', in the pinned program and in every row, IS THE sha256 OF THE DUMP (.gsa) THAT YtmjjlpkleapaeaaProg.lean LOADS. Nothing in Lean hashes anything: it is a label: what it is worth is what the hold of that sum in a sandbox is worth. -/
noncomputable def Try.pinned : Pinned := { name := "ytmjjlpkleapaeaa", sum := "0f454403df7db5dc81160855ec6d68e7cb7df7784ea573d66feb63c439233524", checked := Try.checked }
namespace Rows
def none {H : Type} : Left H := { results := [], args := [] }

/-- 'laws.FnExactIsConvex': WHATEVER THE INPUT: true; the input reads as it did. -/
def fnExactIsConvexSpec : ChangeSpec := { name := "fnExactIsConvex", fn := fun _ => fun
  | [d] => { results := [.lit (.bool true)], args := [d] }
  | _ => none }
def fnExactIsConvexRow : OpenClaim := { program := "ytmjjlpkleapaeaa", sum := "0f454403df7db5dc81160855ec6d68e7cb7df7784ea573d66feb63c439233524", func := "loop.example/g01050/laws.FnExactIsConvex", spec := "fnExactIsConvex", apart := false }
def FnExactIsConvexSaid : Prop := fnExactIsConvexRow.holds Try.pinned (OpenSpec.ofChange fnExactIsConvexSpec)

/-- ITS FALSE NEIGHBOUR: 'it returns false'. Refute it at one input. -/
def fnExactIsConvexWrong : ChangeSpec := { name := "fnExactIsConvex", fn := fun _ => fun
  | [d] => { results := [.lit (.bool false)], args := [d] }
  | _ => none }
def FnExactIsConvexWrongFalsely : Prop := fnExactIsConvexRow.holds Try.pinned (OpenSpec.ofChange fnExactIsConvexWrong)

/-- 'laws.FnExactTwiceArea': WHATEVER THE INPUT: true; the input reads as it did. -/
def fnExactTwiceAreaSpec : ChangeSpec := { name := "fnExactTwiceArea", fn := fun _ => fun
  | [d] => { results := [.lit (.bool true)], args := [d] }
  | _ => none }
def fnExactTwiceAreaRow : OpenClaim := { program := "ytmjjlpkleapaeaa", sum := "0f454403df7db5dc81160855ec6d68e7cb7df7784ea573d66feb63c439233524", func := "loop.example/g01050/laws.FnExactTwiceArea", spec := "fnExactTwiceArea", apart := false }
def FnExactTwiceAreaSaid : Prop := fnExactTwiceAreaRow.holds Try.pinned (OpenSpec.ofChange fnExactTwiceAreaSpec)

/-- ITS FALSE NEIGHBOUR: 'it returns false'. Refute it at one input. -/
def fnExactTwiceAreaWrong : ChangeSpec := { name := "fnExactTwiceArea", fn := fun _ => fun
  | [d] => { results := [.lit (.bool false)], args := [d] }
  | _ => none }
def FnExactTwiceAreaWrongFalsely : Prop := fnExactTwiceAreaRow.holds Try.pinned (OpenSpec.ofChange fnExactTwiceAreaWrong)

/-- 'laws.FnExactCloseTubes': WHATEVER THE INPUT: true; the input reads as it did. -/
def fnExactCloseTubesSpec : ChangeSpec := { name := "fnExactCloseTubes", fn := fun _ => fun
  | [d] => { results := [.lit (.bool true)], args := [d] }
  | _ => none }
def fnExactCloseTubesRow : OpenClaim := { program := "ytmjjlpkleapaeaa", sum := "0f454403df7db5dc81160855ec6d68e7cb7df7784ea573d66feb63c439233524", func := "loop.example/g01050/laws.FnExactCloseTubes", spec := "fnExactCloseTubes", apart := false }
def FnExactCloseTubesSaid : Prop := fnExactCloseTubesRow.holds Try.pinned (OpenSpec.ofChange fnExactCloseTubesSpec)

/-- ITS FALSE NEIGHBOUR: 'it returns false'. Refute it at one input. -/
def fnExactCloseTubesWrong : ChangeSpec := { name := "fnExactCloseTubes", fn := fun _ => fun
  | [d] => { results := [.lit (.bool false)], args := [d] }
  | _ => none }
def FnExactCloseTubesWrongFalsely : Prop := fnExactCloseTubesRow.holds Try.pinned (OpenSpec.ofChange fnExactCloseTubesWrong)

/-- 'laws.FnExactLengthsOf': WHATEVER THE INPUT: true; the input reads as it did. -/
def fnExactLengthsOfSpec : ChangeSpec := { name := "fnExactLengthsOf", fn := fun _ => fun
  | [d] => { results := [.lit (.bool true)], args := [d] }
  | _ => none }
def fnExactLengthsOfRow : OpenClaim := { program := "ytmjjlpkleapaeaa", sum := "0f454403df7db5dc81160855ec6d68e7cb7df7784ea573d66feb63c439233524", func := "loop.example/g01050/laws.FnExactLengthsOf", spec := "fnExactLengthsOf", apart := false }
def FnExactLengthsOfSaid : Prop := fnExactLengthsOfRow.holds Try.pinned (OpenSpec.ofChange fnExactLengthsOfSpec)

/-- ITS FALSE NEIGHBOUR: 'it returns false'. Refute it at one input. -/
def fnExactLengthsOfWrong : ChangeSpec := { name := "fnExactLengthsOf", fn := fun _ => fun
  | [d] => { results := [.lit (.bool false)], args := [d] }
  | _ => none }
def FnExactLengthsOfWrongFalsely : Prop := fnExactLengthsOfRow.holds Try.pinned (OpenSpec.ofChange fnExactLengthsOfWrong)

/-- 'laws.FnExactFewestBars': WHATEVER THE INPUT: true; the input reads as it did. -/
def fnExactFewestBarsSpec : ChangeSpec := { name := "fnExactFewestBars", fn := fun _ => fun
  | [d1, d2] => { results := [.lit (.bool true)], args := [d1, d2] }
  | _ => none }
def fnExactFewestBarsRow : OpenClaim := { program := "ytmjjlpkleapaeaa", sum := "0f454403df7db5dc81160855ec6d68e7cb7df7784ea573d66feb63c439233524", func := "loop.example/g01050/laws.FnExactFewestBars", spec := "fnExactFewestBars", recurses := true, apart := false }
def FnExactFewestBarsSaid : Prop := fnExactFewestBarsRow.holds Try.pinned (OpenSpec.ofChange fnExactFewestBarsSpec)

/-- ITS FALSE NEIGHBOUR: 'it returns false'. Refute it at one input. -/
def fnExactFewestBarsWrong : ChangeSpec := { name := "fnExactFewestBars", fn := fun _ => fun
  | [d1, d2] => { results := [.lit (.bool false)], args := [d1, d2] }
  | _ => none }
def FnExactFewestBarsWrongFalsely : Prop := fnExactFewestBarsRow.holds Try.pinned (OpenSpec.ofChange fnExactFewestBarsWrong)

/-- 'laws.FnExactCutBars': WHATEVER THE INPUT: true; the input reads as it did. -/
def fnExactCutBarsSpec : ChangeSpec := { name := "fnExactCutBars", fn := fun _ => fun
  | [d1, d2] => { results := [.lit (.bool true)], args := [d1, d2] }
  | _ => none }
def fnExactCutBarsRow : OpenClaim := { program := "ytmjjlpkleapaeaa", sum := "0f454403df7db5dc81160855ec6d68e7cb7df7784ea573d66feb63c439233524", func := "loop.example/g01050/laws.FnExactCutBars", spec := "fnExactCutBars", apart := false }
def FnExactCutBarsSaid : Prop := fnExactCutBarsRow.holds Try.pinned (OpenSpec.ofChange fnExactCutBarsSpec)

/-- ITS FALSE NEIGHBOUR: 'it returns false'. Refute it at one input. -/
def fnExactCutBarsWrong : ChangeSpec := { name := "fnExactCutBars", fn := fun _ => fun
  | [d1, d2] => { results := [.lit (.bool false)], args := [d1, d2] }
  | _ => none }
def FnExactCutBarsWrongFalsely : Prop := fnExactCutBarsRow.holds Try.pinned (OpenSpec.ofChange fnExactCutBarsWrong)

/-- 'laws.FnFrames': WHATEVER THE INPUT: true; the input reads as it did. -/
def fnFramesSpec : ChangeSpec := { name := "fnFrames", fn := fun _ => fun
  | [d] => { results := [.lit (.bool true)], args := [d] }
  | _ => none }
def fnFramesRow : OpenClaim := { program := "ytmjjlpkleapaeaa", sum := "0f454403df7db5dc81160855ec6d68e7cb7df7784ea573d66feb63c439233524", func := "loop.example/g01050/laws.FnFrames", spec := "fnFrames", apart := false }
def FnFramesSaid : Prop := fnFramesRow.holds Try.pinned (OpenSpec.ofChange fnFramesSpec)

/-- ITS FALSE NEIGHBOUR: 'it returns false'. Refute it at one input. -/
def fnFramesWrong : ChangeSpec := { name := "fnFrames", fn := fun _ => fun
  | [d] => { results := [.lit (.bool false)], args := [d] }
  | _ => none }
def FnFramesWrongFalsely : Prop := fnFramesRow.holds Try.pinned (OpenSpec.ofChange fnFramesWrong)

/-- 'laws.FnBars': WHATEVER THE INPUT: true; the input reads as it did. -/
def fnBarsSpec : ChangeSpec := { name := "fnBars", fn := fun _ => fun
  | [d] => { results := [.lit (.bool true)], args := [d] }
  | _ => none }
def fnBarsRow : OpenClaim := { program := "ytmjjlpkleapaeaa", sum := "0f454403df7db5dc81160855ec6d68e7cb7df7784ea573d66feb63c439233524", func := "loop.example/g01050/laws.FnBars", spec := "fnBars", recurses := true, apart := false }
def FnBarsSaid : Prop := fnBarsRow.holds Try.pinned (OpenSpec.ofChange fnBarsSpec)

/-- ITS FALSE NEIGHBOUR: 'it returns false'. Refute it at one input. -/
def fnBarsWrong : ChangeSpec := { name := "fnBars", fn := fun _ => fun
  | [d] => { results := [.lit (.bool false)], args := [d] }
  | _ => none }
def FnBarsWrongFalsely : Prop := fnBarsRow.holds Try.pinned (OpenSpec.ofChange fnBarsWrong)

/- THE SECOND FORM. 'bulk': how many values and letters a reading holds, each counted each time it is reached (what is shared counts as often as it is met; a slice's spare places count too). A statement '..UptoSaid' is the law's where the arguments, and the package variables that the reading takes, are together of bulk at most 1048576: NARROWER than '..Said'. Prove '..Said' where nothing that the law and all that it calls make is longer than what came in: it says more and counts as full. Else prove '..UptoSaid'. A law counts once. -/
mutual
def uptoBulk {H : Type} : DataW H → Nat
  | .lit (.string bytes) => bytes.length + 1
  | .lit _ => 1
  | .nil => 1
  | .ptr d => uptoBulk d + 1
  | .slice elems spare => uptoBulkAll elems + uptoBulkAll spare + 1
  | .agg parts => uptoBulkAll parts + 1
  | .iface _ d => uptoBulk d + 1
  | .map entries => uptoBulkEntries entries + 1
  | .held _ => 1
def uptoBulkAll {H : Type} : List (DataW H) → Nat
  | [] => 0
  | d :: r => uptoBulk d + uptoBulkAll r
def uptoBulkEntries {H : Type} : List (Lit × DataW H) → Nat
  | [] => 0
  | x :: r => uptoBulkEntry x + uptoBulkEntries r
def uptoBulkEntry {H : Type} : Lit × DataW H → Nat
  | (.string bytes, d) => bytes.length + uptoBulk d + 1
  | (_, d) => uptoBulk d + 1
 end
def uptoSmall : (H : Type) → List (DataW H) → Bool := fun _ ds => decide (uptoBulkAll ds ≤ 1048576)
def OpenSpec.upto (s : _root_.Go.ChangeSpec) : _root_.Go.OpenSpec := { _root_.Go.OpenSpec.ofChange s with cond := some uptoSmall }

/-- 'laws.FnExactIsConvex', WHERE WHAT IT READS IS OF BULK AT MOST 1048576: true; the input reads as it did. -/
def fnExactIsConvexUptoRow : OpenClaim := { program := "ytmjjlpkleapaeaa", sum := "0f454403df7db5dc81160855ec6d68e7cb7df7784ea573d66feb63c439233524", func := "loop.example/g01050/laws.FnExactIsConvex", spec := "fnExactIsConvex", apart := false, narrowed := true }
def FnExactIsConvexUptoSaid : Prop := fnExactIsConvexUptoRow.holds Try.pinned (OpenSpec.upto fnExactIsConvexSpec)

/-- 'laws.FnExactTwiceArea', WHERE WHAT IT READS IS OF BULK AT MOST 1048576: true; the input reads as it did. -/
def fnExactTwiceAreaUptoRow : OpenClaim := { program := "ytmjjlpkleapaeaa", sum := "0f454403df7db5dc81160855ec6d68e7cb7df7784ea573d66feb63c439233524", func := "loop.example/g01050/laws.FnExactTwiceArea", spec := "fnExactTwiceArea", apart := false, narrowed := true }
def FnExactTwiceAreaUptoSaid : Prop := fnExactTwiceAreaUptoRow.holds Try.pinned (OpenSpec.upto fnExactTwiceAreaSpec)

/-- 'laws.FnExactCloseTubes', WHERE WHAT IT READS IS OF BULK AT MOST 1048576: true; the input reads as it did. -/
def fnExactCloseTubesUptoRow : OpenClaim := { program := "ytmjjlpkleapaeaa", sum := "0f454403df7db5dc81160855ec6d68e7cb7df7784ea573d66feb63c439233524", func := "loop.example/g01050/laws.FnExactCloseTubes", spec := "fnExactCloseTubes", apart := false, narrowed := true }
def FnExactCloseTubesUptoSaid : Prop := fnExactCloseTubesUptoRow.holds Try.pinned (OpenSpec.upto fnExactCloseTubesSpec)

/-- 'laws.FnExactLengthsOf', WHERE WHAT IT READS IS OF BULK AT MOST 1048576: true; the input reads as it did. -/
def fnExactLengthsOfUptoRow : OpenClaim := { program := "ytmjjlpkleapaeaa", sum := "0f454403df7db5dc81160855ec6d68e7cb7df7784ea573d66feb63c439233524", func := "loop.example/g01050/laws.FnExactLengthsOf", spec := "fnExactLengthsOf", apart := false, narrowed := true }
def FnExactLengthsOfUptoSaid : Prop := fnExactLengthsOfUptoRow.holds Try.pinned (OpenSpec.upto fnExactLengthsOfSpec)

/-- 'laws.FnExactFewestBars', WHERE WHAT IT READS IS OF BULK AT MOST 1048576: true; the input reads as it did. -/
def fnExactFewestBarsUptoRow : OpenClaim := { program := "ytmjjlpkleapaeaa", sum := "0f454403df7db5dc81160855ec6d68e7cb7df7784ea573d66feb63c439233524", func := "loop.example/g01050/laws.FnExactFewestBars", spec := "fnExactFewestBars", recurses := true, apart := false, narrowed := true }
def FnExactFewestBarsUptoSaid : Prop := fnExactFewestBarsUptoRow.holds Try.pinned (OpenSpec.upto fnExactFewestBarsSpec)

/-- 'laws.FnExactCutBars', WHERE WHAT IT READS IS OF BULK AT MOST 1048576: true; the input reads as it did. -/
def fnExactCutBarsUptoRow : OpenClaim := { program := "ytmjjlpkleapaeaa", sum := "0f454403df7db5dc81160855ec6d68e7cb7df7784ea573d66feb63c439233524", func := "loop.example/g01050/laws.FnExactCutBars", spec := "fnExactCutBars", apart := false, narrowed := true }
def FnExactCutBarsUptoSaid : Prop := fnExactCutBarsUptoRow.holds Try.pinned (OpenSpec.upto fnExactCutBarsSpec)

/-- 'laws.FnFrames', WHERE WHAT IT READS IS OF BULK AT MOST 1048576: true; the input reads as it did. -/
def fnFramesUptoRow : OpenClaim := { program := "ytmjjlpkleapaeaa", sum := "0f454403df7db5dc81160855ec6d68e7cb7df7784ea573d66feb63c439233524", func := "loop.example/g01050/laws.FnFrames", spec := "fnFrames", apart := false, narrowed := true }
def FnFramesUptoSaid : Prop := fnFramesUptoRow.holds Try.pinned (OpenSpec.upto fnFramesSpec)

/-- 'laws.FnBars', WHERE WHAT IT READS IS OF BULK AT MOST 1048576: true; the input reads as it did. -/
def fnBarsUptoRow : OpenClaim := { program := "ytmjjlpkleapaeaa", sum := "0f454403df7db5dc81160855ec6d68e7cb7df7784ea573d66feb63c439233524", func := "loop.example/g01050/laws.FnBars", spec := "fnBars", recurses := true, apart := false, narrowed := true }
def FnBarsUptoSaid : Prop := fnBarsUptoRow.holds Try.pinned (OpenSpec.upto fnBarsSpec)

end Rows
end Go.Proofs.Ytmjjlpkleapaeaa
