/- Rows of rows of numbers: each element a list of its own. -/
import Derived.Test.YtecfkomijaakhaaRecN
import Derived.Test.YtecfkomijaakhaaApart
namespace Go.Proofs.Ytecfkomijaakhaa
open Go.RowKit

theorem Try.info_ii : (Try.prog.info? 29).map (fun i => (i.zero, i.size, i.bytes)) = some (some (.slice none 0 0), 1, 24) := by kernel_rfl
/-- The elements of a row of slices: each a list of its own, in memory from 'base' on. -/
def ElemsII (w : World) (base : Nat) (vs : List Value) (PP : List (List Int)) : Prop :=
  vs.length = PP.length ∧ ∀ (i : Nat) (p : List Int), PP[i]? = some p → ∃ u, vs[i]? = some u ∧ w.ownsRow base 2 1 u p.length (intsRow p)
def OwnII (w : World) (b base : Nat) (v : Value) (PP : List (List Int)) : Prop :=
  ∃ vs : List Value, w.ownsRow b 29 1 v PP.length vs ∧ ElemsII w base vs PP
theorem ElemsII.nil (w : World) (base : Nat) : ElemsII w base [] [] := ⟨rfl, fun i p h => by simp at h⟩
theorem ElemsII.below {w w' : World} {base : Nat} {vs : List Value} {PP : List (List Int)} (h : ElemsII w base vs PP) (hb : Below w.heap.size w w') : ElemsII w' base vs PP :=
  ⟨h.1, fun i p hp => by obtain ⟨u, hu, ho⟩ := h.2 i p hp; exact ⟨u, hu, own_below ho hb⟩⟩
theorem ElemsII.app {w : World} {base : Nat} {vs us : List Value} {PP QQ : List (List Int)} (h : ElemsII w base vs PP) (k : ElemsII w base us QQ) : ElemsII w base (vs ++ us) (PP ++ QQ) := by
  refine ⟨by rw [List.length_append, List.length_append, h.1, k.1], fun i p hp => ?_⟩
  by_cases hi : i < PP.length
  · rw [List.getElem?_append_left hi] at hp
    obtain ⟨u, hu, ho⟩ := h.2 i p hp
    exact ⟨u, by rw [List.getElem?_append_left (by rw [h.1]; exact hi)]; exact hu, ho⟩
  · rw [List.getElem?_append_right (by omega)] at hp
    obtain ⟨u, hu, ho⟩ := k.2 _ p hp
    exact ⟨u, by rw [List.getElem?_append_right (by rw [h.1]; omega), h.1]; exact hu, ho⟩
/-- A row of slices is written: its elements, rows of numbers, lie elsewhere. -/
theorem ElemsII.grown {w w' : World} {base b n : Nat} {v : Value} {vs xs : List Value} {PP : List (List Int)} (h : ElemsII w base vs PP) (ho : w.ownsRow b 29 1 v n xs) (hg : w.grownBy w' v.ownBlock) : ElemsII w' base vs PP :=
  ⟨h.1, fun i p hp => by
    obtain ⟨u, hu, hou⟩ := h.2 i p hp
    exact ⟨u, hu, hou.kept hg (own_type_apart hou ho (by decide))⟩⟩
theorem ElemsII.one {w : World} {base : Nat} {vs : List Value} {PP : List (List Int)} (h : ElemsII w base vs PP) : ∀ u ∈ vs, u.oneCell' = true := by
  intro u hu
  obtain ⟨i, hi, rfl⟩ := List.mem_iff_getElem.1 hu
  have hi2 : i < PP.length := by rw [← h.1]; exact hi
  obtain ⟨u', hu', ho⟩ := h.2 i (PP[i]) (List.getElem?_eq_getElem hi2)
  rw [List.getElem?_eq_getElem hi] at hu'
  injection hu' with hu'
  rw [hu']
  obtain ⟨A, c, e, _⟩ := own_slice ho
  rw [e]; rfl
/-- Element i, as the walk reads it. -/
theorem OwnII.at_ {w : World} {b base c : Nat} {A : Option Addr} {m : Nat} {PP : List (List Int)} (h : OwnII w b base (.slice A m c) PP) {i : Nat} (hi : i < PP.length) :
    ∃ g Au cu, A = some ⟨g, 0, none⟩ ∧ g < w.heap.size ∧ m = PP.length ∧ w.cell? ⟨g, i, none⟩ = some (.slice Au (PP.getD i []).length cu) ∧ w.ownsRow base 2 1 (.slice Au (PP.getD i []).length cu) (PP.getD i []).length (intsRow (PP.getD i [])) := by
  obtain ⟨vs, ho, he⟩ := h
  obtain ⟨g, c', hv, h1, h2⟩ := own_form ho (by omega)
  injection hv with hv1 hv2 hv3
  subst hv1
  subst hv2
  subst hv3
  have hp : PP[i]? = some (PP.getD i []) := by simp [List.getD, List.getElem?_eq_getElem hi]
  obtain ⟨u, hu, hou⟩ := he.2 i _ hp
  obtain ⟨Au, cu, rfl, _⟩ := own_slice hou
  exact ⟨g, Au, cu, rfl, h2, rfl, (ho.cellAt i (by omega)).trans hu, hou⟩
theorem OwnII.below {w w' : World} {b base : Nat} {v : Value} {PP : List (List Int)} (h : OwnII w b base v PP) (hb : Below w.heap.size w w') : OwnII w' b base v PP := by
  obtain ⟨vs, ho, he⟩ := h
  exact ⟨vs, own_below ho hb, he.below hb⟩
end Go.Proofs.Ytecfkomijaakhaa
