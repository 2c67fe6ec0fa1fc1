/-
  No cell of these rows narrows 'for every input' (looked for: loops, veiled, ifaces, maps, wideKeys, modest, calm, conditions, laid).
  DERIVED. THE GIVEN ROWS OF THIS SEAT. 11 by the template 'for every input the law returns true; each argument reads behind the call as it read before'; 0 by the template 'total and deterministic' (their statements: YtfkindkekjafnaaTotals.lean).
  GIVEN WITH THE SEED: the statements are not yours to turn. If you find one false, say at which input.
  Laid BY PROGRAM, IN A SANDBOX (cutbox-rows.mjs): the forced cells as the released guide's own fill.sh prints them over the translation d1e6f89573a27b30… (all of the seat's roots in one cut). By AI agents, Wed Nov 11 2026. No macro, syntax, notation, axiom, sorry.
-/
import Derived.Test.YtfkindkekjafnaaChecked
import GoSem.Claim
import GoSem.ClaimJoined
import GoSem.ClaimMapViews
import Derived.JoinedTies
import Derived.KernelRfl
namespace Go.Proofs.Ytfkindkekjafnaa
/- THE CELL 'sum', in the pinned program and in every row, IS THE sha256 OF THE DUMP (.gsa) THAT YtfkindkekjafnaaProg.lean LOADS. Nothing in Lean hashes anything: it is a label: what it is worth is what the hold of that sum in a sandbox is worth. -/
noncomputable def Try.pinned : Pinned := { name := "ytfkindkekjafnaa", sum := "d1e6f89573a27b30873c5d30fd8d1987c21058fa68c77625338ae4818200e5b3", checked := Try.checked }
namespace Rows
def none {H : Type} : Left H := { results := [], args := [] }

/-- 'laws.FnExactAreJobs': WHATEVER THE INPUT: true; the input reads as it did. -/
def fnExactAreJobsSpec : ChangeSpec := { name := "fnExactAreJobs", fn := fun _ => fun
  | [d] => { results := [.lit (.bool true)], args := [d] }
  | _ => none }
def fnExactAreJobsRow : OpenClaim := { program := "ytfkindkekjafnaa", sum := "d1e6f89573a27b30873c5d30fd8d1987c21058fa68c77625338ae4818200e5b3", func := "loop.example/g01050/laws.FnExactAreJobs", spec := "fnExactAreJobs", apart := false }
def FnExactAreJobsSaid : Prop := fnExactAreJobsRow.holds Try.pinned (OpenSpec.ofChange fnExactAreJobsSpec)

/-- ITS FALSE NEIGHBOUR: 'it returns false'. Refute it at one input. -/
def fnExactAreJobsWrong : ChangeSpec := { name := "fnExactAreJobs", fn := fun _ => fun
  | [d] => { results := [.lit (.bool false)], args := [d] }
  | _ => none }
def FnExactAreJobsWrongFalsely : Prop := fnExactAreJobsRow.holds Try.pinned (OpenSpec.ofChange fnExactAreJobsWrong)

/-- 'laws.FnExactAddJob': WHATEVER THE INPUT: true; the input reads as it did. -/
def fnExactAddJobSpec : ChangeSpec := { name := "fnExactAddJob", fn := fun _ => fun
  | [d1, d2] => { results := [.lit (.bool true)], args := [d1, d2] }
  | _ => none }
def fnExactAddJobRow : OpenClaim := { program := "ytfkindkekjafnaa", sum := "d1e6f89573a27b30873c5d30fd8d1987c21058fa68c77625338ae4818200e5b3", func := "loop.example/g01050/laws.FnExactAddJob", spec := "fnExactAddJob", apart := false }
def FnExactAddJobSaid : Prop := fnExactAddJobRow.holds Try.pinned (OpenSpec.ofChange fnExactAddJobSpec)

/-- ITS FALSE NEIGHBOUR: 'it returns false'. Refute it at one input. -/
def fnExactAddJobWrong : ChangeSpec := { name := "fnExactAddJob", fn := fun _ => fun
  | [d1, d2] => { results := [.lit (.bool false)], args := [d1, d2] }
  | _ => none }
def FnExactAddJobWrongFalsely : Prop := fnExactAddJobRow.holds Try.pinned (OpenSpec.ofChange fnExactAddJobWrong)

/-- 'laws.FnExactEndsOf': WHATEVER THE INPUT: true; the input reads as it did. -/
def fnExactEndsOfSpec : ChangeSpec := { name := "fnExactEndsOf", fn := fun _ => fun
  | [d1, d2] => { results := [.lit (.bool true)], args := [d1, d2] }
  | _ => none }
def fnExactEndsOfRow : OpenClaim := { program := "ytfkindkekjafnaa", sum := "d1e6f89573a27b30873c5d30fd8d1987c21058fa68c77625338ae4818200e5b3", func := "loop.example/g01050/laws.FnExactEndsOf", spec := "fnExactEndsOf", apart := false }
def FnExactEndsOfSaid : Prop := fnExactEndsOfRow.holds Try.pinned (OpenSpec.ofChange fnExactEndsOfSpec)

/-- ITS FALSE NEIGHBOUR: 'it returns false'. Refute it at one input. -/
def fnExactEndsOfWrong : ChangeSpec := { name := "fnExactEndsOf", fn := fun _ => fun
  | [d1, d2] => { results := [.lit (.bool false)], args := [d1, d2] }
  | _ => none }
def FnExactEndsOfWrongFalsely : Prop := fnExactEndsOfRow.holds Try.pinned (OpenSpec.ofChange fnExactEndsOfWrong)

/-- 'laws.FnExactLatenessOf': WHATEVER THE INPUT: true; the input reads as it did. -/
def fnExactLatenessOfSpec : ChangeSpec := { name := "fnExactLatenessOf", fn := fun _ => fun
  | [d1, d2] => { results := [.lit (.bool true)], args := [d1, d2] }
  | _ => none }
def fnExactLatenessOfRow : OpenClaim := { program := "ytfkindkekjafnaa", sum := "d1e6f89573a27b30873c5d30fd8d1987c21058fa68c77625338ae4818200e5b3", func := "loop.example/g01050/laws.FnExactLatenessOf", spec := "fnExactLatenessOf", apart := false }
def FnExactLatenessOfSaid : Prop := fnExactLatenessOfRow.holds Try.pinned (OpenSpec.ofChange fnExactLatenessOfSpec)

/-- ITS FALSE NEIGHBOUR: 'it returns false'. Refute it at one input. -/
def fnExactLatenessOfWrong : ChangeSpec := { name := "fnExactLatenessOf", fn := fun _ => fun
  | [d1, d2] => { results := [.lit (.bool false)], args := [d1, d2] }
  | _ => none }
def FnExactLatenessOfWrongFalsely : Prop := fnExactLatenessOfRow.holds Try.pinned (OpenSpec.ofChange fnExactLatenessOfWrong)

/-- 'laws.FnExactLateJobs': WHATEVER THE INPUT: true; the input reads as it did. -/
def fnExactLateJobsSpec : ChangeSpec := { name := "fnExactLateJobs", fn := fun _ => fun
  | [d1, d2] => { results := [.lit (.bool true)], args := [d1, d2] }
  | _ => none }
def fnExactLateJobsRow : OpenClaim := { program := "ytfkindkekjafnaa", sum := "d1e6f89573a27b30873c5d30fd8d1987c21058fa68c77625338ae4818200e5b3", func := "loop.example/g01050/laws.FnExactLateJobs", spec := "fnExactLateJobs", apart := false }
def FnExactLateJobsSaid : Prop := fnExactLateJobsRow.holds Try.pinned (OpenSpec.ofChange fnExactLateJobsSpec)

/-- ITS FALSE NEIGHBOUR: 'it returns false'. Refute it at one input. -/
def fnExactLateJobsWrong : ChangeSpec := { name := "fnExactLateJobs", fn := fun _ => fun
  | [d1, d2] => { results := [.lit (.bool false)], args := [d1, d2] }
  | _ => none }
def FnExactLateJobsWrongFalsely : Prop := fnExactLateJobsRow.holds Try.pinned (OpenSpec.ofChange fnExactLateJobsWrong)

/-- 'laws.FnExactBestPlan': WHATEVER THE INPUT: true; the input reads as it did. -/
def fnExactBestPlanSpec : ChangeSpec := { name := "fnExactBestPlan", fn := fun _ => fun
  | [d] => { results := [.lit (.bool true)], args := [d] }
  | _ => none }
def fnExactBestPlanRow : OpenClaim := { program := "ytfkindkekjafnaa", sum := "d1e6f89573a27b30873c5d30fd8d1987c21058fa68c77625338ae4818200e5b3", func := "loop.example/g01050/laws.FnExactBestPlan", spec := "fnExactBestPlan", recurses := true, apart := false }
def FnExactBestPlanSaid : Prop := fnExactBestPlanRow.holds Try.pinned (OpenSpec.ofChange fnExactBestPlanSpec)

/-- ITS FALSE NEIGHBOUR: 'it returns false'. Refute it at one input. -/
def fnExactBestPlanWrong : ChangeSpec := { name := "fnExactBestPlan", fn := fun _ => fun
  | [d] => { results := [.lit (.bool false)], args := [d] }
  | _ => none }
def FnExactBestPlanWrongFalsely : Prop := fnExactBestPlanRow.holds Try.pinned (OpenSpec.ofChange fnExactBestPlanWrong)

/-- 'laws.FnExactDuePlan': WHATEVER THE INPUT: true; the input reads as it did. -/
def fnExactDuePlanSpec : ChangeSpec := { name := "fnExactDuePlan", fn := fun _ => fun
  | [d] => { results := [.lit (.bool true)], args := [d] }
  | _ => none }
def fnExactDuePlanRow : OpenClaim := { program := "ytfkindkekjafnaa", sum := "d1e6f89573a27b30873c5d30fd8d1987c21058fa68c77625338ae4818200e5b3", func := "loop.example/g01050/laws.FnExactDuePlan", spec := "fnExactDuePlan", apart := false }
def FnExactDuePlanSaid : Prop := fnExactDuePlanRow.holds Try.pinned (OpenSpec.ofChange fnExactDuePlanSpec)

/-- ITS FALSE NEIGHBOUR: 'it returns false'. Refute it at one input. -/
def fnExactDuePlanWrong : ChangeSpec := { name := "fnExactDuePlan", fn := fun _ => fun
  | [d] => { results := [.lit (.bool false)], args := [d] }
  | _ => none }
def FnExactDuePlanWrongFalsely : Prop := fnExactDuePlanRow.holds Try.pinned (OpenSpec.ofChange fnExactDuePlanWrong)

/-- 'laws.FnExactFewestLate': WHATEVER THE INPUT: true; the input reads as it did. -/
def fnExactFewestLateSpec : ChangeSpec := { name := "fnExactFewestLate", fn := fun _ => fun
  | [d] => { results := [.lit (.bool true)], args := [d] }
  | _ => none }
def fnExactFewestLateRow : OpenClaim := { program := "ytfkindkekjafnaa", sum := "d1e6f89573a27b30873c5d30fd8d1987c21058fa68c77625338ae4818200e5b3", func := "loop.example/g01050/laws.FnExactFewestLate", spec := "fnExactFewestLate", recurses := true, apart := false }
def FnExactFewestLateSaid : Prop := fnExactFewestLateRow.holds Try.pinned (OpenSpec.ofChange fnExactFewestLateSpec)

/-- ITS FALSE NEIGHBOUR: 'it returns false'. Refute it at one input. -/
def fnExactFewestLateWrong : ChangeSpec := { name := "fnExactFewestLate", fn := fun _ => fun
  | [d] => { results := [.lit (.bool false)], args := [d] }
  | _ => none }
def FnExactFewestLateWrongFalsely : Prop := fnExactFewestLateRow.holds Try.pinned (OpenSpec.ofChange fnExactFewestLateWrong)

/-- 'laws.FnExactTwoBenches': WHATEVER THE INPUT: true; the input reads as it did. -/
def fnExactTwoBenchesSpec : ChangeSpec := { name := "fnExactTwoBenches", fn := fun _ => fun
  | [d] => { results := [.lit (.bool true)], args := [d] }
  | _ => none }
def fnExactTwoBenchesRow : OpenClaim := { program := "ytfkindkekjafnaa", sum := "d1e6f89573a27b30873c5d30fd8d1987c21058fa68c77625338ae4818200e5b3", func := "loop.example/g01050/laws.FnExactTwoBenches", spec := "fnExactTwoBenches", apart := false }
def FnExactTwoBenchesSaid : Prop := fnExactTwoBenchesRow.holds Try.pinned (OpenSpec.ofChange fnExactTwoBenchesSpec)

/-- ITS FALSE NEIGHBOUR: 'it returns false'. Refute it at one input. -/
def fnExactTwoBenchesWrong : ChangeSpec := { name := "fnExactTwoBenches", fn := fun _ => fun
  | [d] => { results := [.lit (.bool false)], args := [d] }
  | _ => none }
def FnExactTwoBenchesWrongFalsely : Prop := fnExactTwoBenchesRow.holds Try.pinned (OpenSpec.ofChange fnExactTwoBenchesWrong)

/-- 'laws.FnBenches': WHATEVER THE INPUT: true; the input reads as it did. -/
def fnBenchesSpec : ChangeSpec := { name := "fnBenches", fn := fun _ => fun
  | [d] => { results := [.lit (.bool true)], args := [d] }
  | _ => none }
def fnBenchesRow : OpenClaim := { program := "ytfkindkekjafnaa", sum := "d1e6f89573a27b30873c5d30fd8d1987c21058fa68c77625338ae4818200e5b3", func := "loop.example/g01050/laws.FnBenches", spec := "fnBenches", recurses := true, apart := false }
def FnBenchesSaid : Prop := fnBenchesRow.holds Try.pinned (OpenSpec.ofChange fnBenchesSpec)

/-- ITS FALSE NEIGHBOUR: 'it returns false'. Refute it at one input. -/
def fnBenchesWrong : ChangeSpec := { name := "fnBenches", fn := fun _ => fun
  | [d] => { results := [.lit (.bool false)], args := [d] }
  | _ => none }
def FnBenchesWrongFalsely : Prop := fnBenchesRow.holds Try.pinned (OpenSpec.ofChange fnBenchesWrong)

/-- 'laws.FnJobs': WHATEVER THE INPUT: true; the input reads as it did. -/
def fnJobsSpec : ChangeSpec := { name := "fnJobs", fn := fun _ => fun
  | [d] => { results := [.lit (.bool true)], args := [d] }
  | _ => none }
def fnJobsRow : OpenClaim := { program := "ytfkindkekjafnaa", sum := "d1e6f89573a27b30873c5d30fd8d1987c21058fa68c77625338ae4818200e5b3", func := "loop.example/g01050/laws.FnJobs", spec := "fnJobs", recurses := true, apart := false }
def FnJobsSaid : Prop := fnJobsRow.holds Try.pinned (OpenSpec.ofChange fnJobsSpec)

/-- ITS FALSE NEIGHBOUR: 'it returns false'. Refute it at one input. -/
def fnJobsWrong : ChangeSpec := { name := "fnJobs", fn := fun _ => fun
  | [d] => { results := [.lit (.bool false)], args := [d] }
  | _ => none }
def FnJobsWrongFalsely : Prop := fnJobsRow.holds Try.pinned (OpenSpec.ofChange fnJobsWrong)

/- THE SECOND FORM. 'bulk': how many values and letters a reading holds, each counted each time it is reached (what is shared counts as often as it is met; a slice's spare places count too). A statement '..UptoSaid' is the law's where the arguments, and the package variables that the reading takes, are together of bulk at most 1048576: NARROWER than '..Said'. Prove '..Said' where nothing that the law and all that it calls make is longer than what came in: it says more and counts as full. Else prove '..UptoSaid'. A law counts once. -/
mutual
def uptoBulk {H : Type} : DataW H → Nat
  | .lit (.string bytes) => bytes.length + 1
  | .lit _ => 1
  | .nil => 1
  | .ptr d => uptoBulk d + 1
  | .slice elems spare => uptoBulkAll elems + uptoBulkAll spare + 1
  | .agg parts => uptoBulkAll parts + 1
  | .iface _ d => uptoBulk d + 1
  | .map entries => uptoBulkEntries entries + 1
  | .held _ => 1
def uptoBulkAll {H : Type} : List (DataW H) → Nat
  | [] => 0
  | d :: r => uptoBulk d + uptoBulkAll r
def uptoBulkEntries {H : Type} : List (Lit × DataW H) → Nat
  | [] => 0
  | x :: r => uptoBulkEntry x + uptoBulkEntries r
def uptoBulkEntry {H : Type} : Lit × DataW H → Nat
  | (.string bytes, d) => bytes.length + uptoBulk d + 1
  | (_, d) => uptoBulk d + 1
 end
def uptoSmall : (H : Type) → List (DataW H) → Bool := fun _ ds => decide (uptoBulkAll ds ≤ 1048576)
def OpenSpec.upto (s : _root_.Go.ChangeSpec) : _root_.Go.OpenSpec := { _root_.Go.OpenSpec.ofChange s with cond := some uptoSmall }

/-- 'laws.FnExactAreJobs', WHERE WHAT IT READS IS OF BULK AT MOST 1048576: true; the input reads as it did. -/
def fnExactAreJobsUptoRow : OpenClaim := { program := "ytfkindkekjafnaa", sum := "d1e6f89573a27b30873c5d30fd8d1987c21058fa68c77625338ae4818200e5b3", func := "loop.example/g01050/laws.FnExactAreJobs", spec := "fnExactAreJobs", apart := false, narrowed := true }
def FnExactAreJobsUptoSaid : Prop := fnExactAreJobsUptoRow.holds Try.pinned (OpenSpec.upto fnExactAreJobsSpec)

/-- 'laws.FnExactAddJob', WHERE WHAT IT READS IS OF BULK AT MOST 1048576: true; the input reads as it did. -/
def fnExactAddJobUptoRow : OpenClaim := { program := "ytfkindkekjafnaa", sum := "d1e6f89573a27b30873c5d30fd8d1987c21058fa68c77625338ae4818200e5b3", func := "loop.example/g01050/laws.FnExactAddJob", spec := "fnExactAddJob", apart := false, narrowed := true }
def FnExactAddJobUptoSaid : Prop := fnExactAddJobUptoRow.holds Try.pinned (OpenSpec.upto fnExactAddJobSpec)

/-- 'laws.FnExactEndsOf', WHERE WHAT IT READS IS OF BULK AT MOST 1048576: true; the input reads as it did. -/
def fnExactEndsOfUptoRow : OpenClaim := { program := "ytfkindkekjafnaa", sum := "d1e6f89573a27b30873c5d30fd8d1987c21058fa68c77625338ae4818200e5b3", func := "loop.example/g01050/laws.FnExactEndsOf", spec := "fnExactEndsOf", apart := false, narrowed := true }
def FnExactEndsOfUptoSaid : Prop := fnExactEndsOfUptoRow.holds Try.pinned (OpenSpec.upto fnExactEndsOfSpec)

/-- 'laws.FnExactLatenessOf', WHERE WHAT IT READS IS OF BULK AT MOST 1048576: true; the input reads as it did. -/
def fnExactLatenessOfUptoRow : OpenClaim := { program := "ytfkindkekjafnaa", sum := "d1e6f89573a27b30873c5d30fd8d1987c21058fa68c77625338ae4818200e5b3", func := "loop.example/g01050/laws.FnExactLatenessOf", spec := "fnExactLatenessOf", apart := false, narrowed := true }
def FnExactLatenessOfUptoSaid : Prop := fnExactLatenessOfUptoRow.holds Try.pinned (OpenSpec.upto fnExactLatenessOfSpec)

/-- 'laws.FnExactLateJobs', WHERE WHAT IT READS IS OF BULK AT MOST 1048576: true; the input reads as it did. -/
def fnExactLateJobsUptoRow : OpenClaim := { program := "ytfkindkekjafnaa", sum := "d1e6f89573a27b30873c5d30fd8d1987c21058fa68c77625338ae4818200e5b3", func := "loop.example/g01050/laws.FnExactLateJobs", spec := "fnExactLateJobs", apart := false, narrowed := true }
def FnExactLateJobsUptoSaid : Prop := fnExactLateJobsUptoRow.holds Try.pinned (OpenSpec.upto fnExactLateJobsSpec)

/-- 'laws.FnExactBestPlan', WHERE WHAT IT READS IS OF BULK AT MOST 1048576: true; the input reads as it did. -/
def fnExactBestPlanUptoRow : OpenClaim := { program := "ytfkindkekjafnaa", sum := "d1e6f89573a27b30873c5d30fd8d1987c21058fa68c77625338ae4818200e5b3", func := "loop.example/g01050/laws.FnExactBestPlan", spec := "fnExactBestPlan", recurses := true, apart := false, narrowed := true }
def FnExactBestPlanUptoSaid : Prop := fnExactBestPlanUptoRow.holds Try.pinned (OpenSpec.upto fnExactBestPlanSpec)

/-- 'laws.FnExactDuePlan', WHERE WHAT IT READS IS OF BULK AT MOST 1048576: true; the input reads as it did. -/
def fnExactDuePlanUptoRow : OpenClaim := { program := "ytfkindkekjafnaa", sum := "d1e6f89573a27b30873c5d30fd8d1987c21058fa68c77625338ae4818200e5b3", func := "loop.example/g01050/laws.FnExactDuePlan", spec := "fnExactDuePlan", apart := false, narrowed := true }
def FnExactDuePlanUptoSaid : Prop := fnExactDuePlanUptoRow.holds Try.pinned (OpenSpec.upto fnExactDuePlanSpec)

/-- 'laws.FnExactFewestLate', WHERE WHAT IT READS IS OF BULK AT MOST 1048576: true; the input reads as it did. -/
def fnExactFewestLateUptoRow : OpenClaim := { program := "ytfkindkekjafnaa", sum := "d1e6f89573a27b30873c5d30fd8d1987c21058fa68c77625338ae4818200e5b3", func := "loop.example/g01050/laws.FnExactFewestLate", spec := "fnExactFewestLate", recurses := true, apart := false, narrowed := true }
def FnExactFewestLateUptoSaid : Prop := fnExactFewestLateUptoRow.holds Try.pinned (OpenSpec.upto fnExactFewestLateSpec)

/-- 'laws.FnExactTwoBenches', WHERE WHAT IT READS IS OF BULK AT MOST 1048576: true; the input reads as it did. -/
def fnExactTwoBenchesUptoRow : OpenClaim := { program := "ytfkindkekjafnaa", sum := "d1e6f89573a27b30873c5d30fd8d1987c21058fa68c77625338ae4818200e5b3", func := "loop.example/g01050/laws.FnExactTwoBenches", spec := "fnExactTwoBenches", apart := false, narrowed := true }
def FnExactTwoBenchesUptoSaid : Prop := fnExactTwoBenchesUptoRow.holds Try.pinned (OpenSpec.upto fnExactTwoBenchesSpec)

/-- 'laws.FnBenches', WHERE WHAT IT READS IS OF BULK AT MOST 1048576: true; the input reads as it did. -/
def fnBenchesUptoRow : OpenClaim := { program := "ytfkindkekjafnaa", sum := "d1e6f89573a27b30873c5d30fd8d1987c21058fa68c77625338ae4818200e5b3", func := "loop.example/g01050/laws.FnBenches", spec := "fnBenches", recurses := true, apart := false, narrowed := true }
def FnBenchesUptoSaid : Prop := fnBenchesUptoRow.holds Try.pinned (OpenSpec.upto fnBenchesSpec)

/-- 'laws.FnJobs', WHERE WHAT IT READS IS OF BULK AT MOST 1048576: true; the input reads as it did. -/
def fnJobsUptoRow : OpenClaim := { program := "ytfkindkekjafnaa", sum := "d1e6f89573a27b30873c5d30fd8d1987c21058fa68c77625338ae4818200e5b3", func := "loop.example/g01050/laws.FnJobs", spec := "fnJobs", recurses := true, apart := false, narrowed := true }
def FnJobsUptoSaid : Prop := fnJobsUptoRow.holds Try.pinned (OpenSpec.upto fnJobsSpec)

end Rows
end Go.Proofs.Ytfkindkekjafnaa
