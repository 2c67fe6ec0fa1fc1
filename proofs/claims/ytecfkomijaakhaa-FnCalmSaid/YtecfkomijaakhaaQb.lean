/- Words for a region that only reads and whose callees leave old memory alone: walked once, in the order of the text. No program here. -/
import Derived.Test.YtecfkomijaakhaaMem
import Derived.Lib.QuietBelow
namespace Go.Proofs.Ytecfkomijaakhaa
open Go.RowKit Go.Sort

structure Veil (p : Prop) : Prop where
  out : p

section
variable {P : Program} {ops : Array Oper} {C : World → Prop}
/-- wpQuiet's step, the goal behind Veil (so that no tactic unfolds it). -/
theorem hq_step {Q : Act → Prop} {a : Act} {o : Oper} {rest : List Oper}
    (h : ∀ K : Act → Prop, Veil (∀ a, Veil (wpQuiet P ops C Q rest a) → K a) → if Region.wanted o (yielded ops a.tmps) then o.quiet P a C K else K (a.put o.dst undef)) : Veil (wpQuiet P ops C Q (o :: rest) a) :=
  ⟨wpQuiet_step fun K hK => h K ⟨fun a ha => hK a ha.out⟩⟩
theorem hq_nil {Q : Act → Prop} {a : Act} (h : Q a) : Veil (wpQuiet P ops C Q [] a) := ⟨wpQuiet_nil h⟩
theorem region_qb {id : Nat} {Q : Exit → Act → World → Prop} {a : Act} {w : World} {l : List Oper} (hm : P.follows .mixedOrders = true) (hB : Region.lexB .any l.toArray = true)
    (h : Veil (wpQuiet P l.toArray (fun w' => ∃ p : Regrown, w' = grow (redrawn w p.d) p.os) (fun a' => ∀ w', Below w.heap.size w w' → Q .normal a' w') l a)) : (Code.region id l.toArray true).wp P Q a w := by
  refine wp_region_quiet_below hm hB ?_
  have key : ∀ (l' : List Oper) (a : Act), wpQuiet P l.toArray (fun w' => ∃ p : Regrown, w' = grow (redrawn w p.d) p.os) (fun a' => ∀ w', Below w.heap.size w w' → Q .normal a' w') l' a = wpQuiet P l.toArray (fun w' => ∃ p : Regrown, w' = grow (redrawn w p.d) p.os) (fun a' => ∀ w', (∃ p : Regrown, w' = grow (redrawn w p.d) p.os) → Q .normal a' w') l' a := by
    intro l' a
    congr 1
    funext a'
    apply propext
    constructor
    · rintro h w' ⟨p, rfl⟩; exact h _ (below_regrown w p.d p.os)
    · intro h w' hb; exact h w' (regrown_of_below hb)
  rw [← key]
  exact h.out
end
theorem rg_same {P : Program} {f : FuncId} {args : Array Value} {w : World} {d : Nat} {os : Array Obj} {v : Value}
    (h : Calls P f args (grow (redrawn w d) os) fun e w' => e = .returned v ∧ grow (redrawn w d) os = w') : Calls P f args (grow (redrawn w d) os) fun e w'' => e = .returned v ∧ ∃ p : Regrown, w'' = grow (redrawn w p.d) p.os :=
  h.mono fun _ _ ⟨he, hb⟩ => ⟨he, ⟨d, os⟩, hb.symm⟩

end Go.Proofs.Ytecfkomijaakhaa
