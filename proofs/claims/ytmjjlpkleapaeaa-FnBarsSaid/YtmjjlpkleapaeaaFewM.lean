/- FewestBars: what fits, the fewest bars. No walks. -/
import Derived.Test.YtmjjlpkleapaeaaCutS
import Derived.Test.YtmjjlpkleapaeaaIns
namespace Go.Proofs.Ytmjjlpkleapaeaa
open Go.RowKit

/-- Whether lengths fit into what is left of bars. -/
def fits : List Int → List Int → Bool
  | [], _ => true
  | n :: ns, left => (List.range left.length).any fun k => decide (n ≤ intsAt left k) && fits ns (left.set k (intsAt left k - n))
theorem fits_nil (left : List Int) : fits [] left = true := by simp [fits]
theorem fits_yes {n : Int} {ns left : List Int} {k : Nat} (hk : k < left.length) (h1 : n ≤ intsAt left k) (h2 : fits ns (left.set k (intsAt left k - n)) = true) : fits (n :: ns) left = true := by
  simp only [fits, List.any_eq_true, List.mem_range, Bool.and_eq_true, decide_eq_true_eq]
  exact ⟨k, hk, h1, h2⟩
theorem fits_no {n : Int} {ns left : List Int} (h : ∀ k, k < left.length → n ≤ intsAt left k → fits ns (left.set k (intsAt left k - n)) = false) : fits (n :: ns) left = false := by
  cases e : fits (n :: ns) left
  · rfl
  · simp only [fits, List.any_eq_true, List.mem_range, Bool.and_eq_true, decide_eq_true_eq] at e
    obtain ⟨k, hk, h1, h2⟩ := e
    rw [h k hk h1] at h2; cases h2
/-- With as many whole bars as lengths all fit. -/
theorem fits_many (full : Int) : ∀ (ns left : List Int), (∀ n ∈ ns, n ≤ full) → ns.length ≤ left.count full → fits ns left = true := by
  intro ns
  induction ns with
  | nil => intro left _ _; exact fits_nil left
  | cons n ns ih =>
    intro left h1 h2
    have hpos : 0 < left.count full := by simp at h2; omega
    obtain ⟨k, hk, hke⟩ := List.mem_iff_getElem.1 (List.count_pos_iff.1 hpos)
    have hat : intsAt left k = full := by rw [← hke]; simp [intsAt, List.getD, hk]
    refine fits_yes hk (by rw [hat]; exact h1 n (by simp)) (ih _ (fun m hm => h1 m (by simp [hm])) ?_)
    have e := List.count_set (a := intsAt left k - n) (b := full) (l := left) (i := k) hk
    rw [e]
    simp only [List.length_cons] at h2
    split <;> split <;> omega
def wholeBars (bar : Int) (b : Nat) : List Int := List.replicate b (bar + 3)
def fewGo (D : List Int) (bar : Int) : Nat → Nat → Nat
  | 0, b => b
  | f + 1, b => if fits D (wholeBars bar b) = true then b else fewGo D bar f (b + 1)
def fewest (D : List Int) (bar : Int) : Nat := fewGo D bar 8 1
noncomputable def lens3 (L : List Tube) : List Int := (lensN L L.length).map (· + 3)
noncomputable def fewF (L : List Tube) (bar : Int) : Int × Int := if barsCode L bar = 0 then ((fewest (lens3 L) bar : Nat), 0) else (0, barsCode L bar)
end Go.Proofs.Ytmjjlpkleapaeaa
