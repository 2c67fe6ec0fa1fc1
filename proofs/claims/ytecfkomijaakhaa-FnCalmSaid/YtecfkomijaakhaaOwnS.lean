/- Steps of the call's own: a row of steps and, of each, a row of its own. No walks. -/
import Derived.Test.YtecfkomijaakhaaStepS
import Derived.Test.YtecfkomijaakhaaDraws
import Derived.Test.YtecfkomijaakhaaApart
namespace Go.Proofs.Ytecfkomijaakhaa
open Go.RowKit

/-- The elements of a row of steps: what the cells hold, each After in a row of numbers from 'base' on. -/
def ElS (w : World) (base : Nat) (xs : List Value) (L : List Step) : Prop :=
  ∀ i, i < L.length → xs[i * 3]? = some (.int .i64 (stepAt L i).minutes) ∧ xs[i * 3 + 1]? = some (.int .i64 (stepAt L i).tool) ∧
    ∃ v, xs[i * 3 + 2]? = some v ∧ w.ownsRow base 2 1 v (stepAt L i).after.length (intsRow (stepAt L i).after)
def OwnS (w : World) (base : Nat) (V : Value) (L : List Step) : Prop :=
  ∃ xs, w.ownsRow base 51 3 V L.length xs ∧ ElS w base xs L
section
variable {w w' : World} {base : Nat} {V : Value} {L : List Step} {xs : List Value}
theorem ElS.nil (w : World) (base : Nat) : ElS w base [] [] := fun i hi => by simp at hi
/-- A change of one block that is below the base, or that holds no numbers. -/
theorem ElS.src (h : ElS w base xs L) {g : Nat} (hg : w.grownBy w' (some g)) (hlt : g < base) : ElS w' base xs L := by
  intro i hi
  obtain ⟨c0, c1, v, c2, ho⟩ := h i hi
  exact ⟨c0, c1, v, c2, ho.kept hg (.inr (fun e => by have := (World.ownsRow.lt ho _ e).1; omega))⟩
theorem ElS.row (h : ElS w base xs L) {b n : Nat} {U : Value} {ys : List Value} (hU : w.ownsRow b 51 3 U n ys) (hg : w.grownBy w' U.ownBlock) : ElS w' base xs L := by
  intro i hi
  obtain ⟨c0, c1, v, c2, ho⟩ := h i hi
  exact ⟨c0, c1, v, c2, ho.kept hg (own_type_apart ho hU (by decide))⟩
theorem ElS.below (h : ElS w base xs L) (hb : Below w.heap.size w w') : ElS w' base xs L := by
  intro i hi
  obtain ⟨c0, c1, v, c2, ho⟩ := h i hi
  exact ⟨c0, c1, v, c2, own_below ho hb⟩
theorem ElS.lower (h : ElS w base xs L) {base' : Nat} (hb : base' ≤ base) : ElS w base' xs L := by
  intro i hi
  obtain ⟨c0, c1, v, c2, ho⟩ := h i hi
  exact ⟨c0, c1, v, c2, own_base ho hb⟩
/-- One more element. -/
theorem ElS.snoc (h : ElS w base xs L) (hl : xs.length = L.length * 3) {s : Step} {v : Value} (ho : w.ownsRow base 2 1 v s.after.length (intsRow s.after)) : ElS w base (xs ++ [.int .i64 s.minutes, .int .i64 s.tool, v]) (L ++ [s]) := by
  intro i hi
  simp only [List.length_append, List.length_cons, List.length_nil] at hi
  by_cases hlt : i < L.length
  · obtain ⟨c0, c1, u, c2, hu⟩ := h i hlt
    have e : stepAt (L ++ [s]) i = stepAt L i := by simp [stepAt, List.getD, List.getElem?_append_left hlt]
    rw [e]
    exact ⟨by rw [List.getElem?_append_left (by omega)]; exact c0, by rw [List.getElem?_append_left (by omega)]; exact c1, u, by rw [List.getElem?_append_left (by omega)]; exact c2, hu⟩
  · have hie : i = L.length := by omega
    subst hie
    have e : stepAt (L ++ [s]) L.length = s := by simp [stepAt, List.getD]
    rw [e]
    refine ⟨?_, ?_, v, ?_, ho⟩
    · rw [List.getElem?_append_right (by omega), hl]; simp
    · rw [List.getElem?_append_right (by omega), hl, show L.length * 3 + 1 - L.length * 3 = 1 by omega]; rfl
    · rw [List.getElem?_append_right (by omega), hl, show L.length * 3 + 2 - L.length * 3 = 2 by omega]; rfl
/-- The After of one element is another row. -/
theorem ElS.setAfter (h : ElS w base xs L) (hl : xs.length = L.length * 3) {i : Nat} (hi : i < L.length) {a : List Int} {v : Value} (ho : w.ownsRow base 2 1 v a.length (intsRow a)) : ElS w base (xs.set (i * 3 + 2) v) (L.set i { stepAt L i with after := a }) := by
  intro j hj
  rw [List.length_set] at hj
  obtain ⟨c0, c1, u, c2, hu⟩ := h j hj
  by_cases e : j = i
  · subst e
    have e1 : stepAt (L.set j { stepAt L j with after := a }) j = { stepAt L j with after := a } := by simp [stepAt, List.getD, hj]
    rw [e1]
    refine ⟨?_, ?_, v, ?_, ho⟩
    · rw [List.getElem?_set_ne (by omega)]; exact c0
    · rw [List.getElem?_set_ne (by omega)]; exact c1
    · rw [List.getElem?_set_self (by omega)]
  · have e1 : stepAt (L.set i { stepAt L i with after := a }) j = stepAt L j := by simp [stepAt, List.getD, List.getElem?_set_ne (fun h => e h.symm)]
    rw [e1]
    refine ⟨?_, ?_, u, ?_, hu⟩
    · rw [List.getElem?_set_ne (by omega)]; exact c0
    · rw [List.getElem?_set_ne (by omega)]; exact c1
    · rw [List.getElem?_set_ne (by omega)]; exact c2
theorem OwnS.src (h : OwnS w base V L) {g : Nat} (hg : w.grownBy w' (some g)) (hlt : g < base) : OwnS w' base V L := by
  obtain ⟨xs, ho, he⟩ := h
  exact ⟨xs, ho.kept hg (.inr (fun e => by have := (World.ownsRow.lt ho _ e).1; omega)), he.src hg hlt⟩
theorem OwnS.below (h : OwnS w base V L) (hb : Below w.heap.size w w') : OwnS w' base V L := by
  obtain ⟨xs, ho, he⟩ := h
  exact ⟨xs, own_below ho hb, he.below hb⟩
theorem OwnS.lower (h : OwnS w base V L) {base' : Nat} (hb : base' ≤ base) : OwnS w base' V L := by
  obtain ⟨xs, ho, he⟩ := h
  exact ⟨xs, own_base ho hb, he.lower hb⟩
/-- A row of numbers that lies from b on is written: the steps, older, stay. -/
theorem OwnS.ints (h : OwnS w base V L) {b n : Nat} {U : Value} {ys : List Value} (hU : w.ownsRow b 2 1 U n ys) (hg : w.grownBy w' U.ownBlock) (hold : ∀ xs, w.ownsRow base 51 3 V L.length xs → ∀ i, i < L.length → ∀ v, xs[i * 3 + 2]? = some v → ∀ g, v.ownBlock = some g → g < b) : OwnS w' base V L := by
  obtain ⟨xs, ho, he⟩ := h
  refine ⟨xs, ho.kept hg (own_type_apart ho hU (by decide)), fun i hi => ?_⟩
  obtain ⟨c0, c1, v, c2, hv⟩ := he i hi
  refine ⟨c0, c1, v, c2, hv.kept hg ?_⟩
  cases e : v.ownBlock with
  | none => exact .inl rfl
  | some q => exact .inr (fun e2 => by have h1 := hold xs ho i hi v c2 q e; have h2 := (World.ownsRow.lt hU q e2.symm).1; omega)
theorem OwnS.steps (h : OwnS w base V L) : Steps w V L := by
  obtain ⟨xs, h1, h3⟩ := h
  obtain ⟨A, c, rfl, hc, hm⟩ := own_slice h1
  refine ⟨A, c, rfl, hc, hm, fun hn => ?_⟩
  obtain ⟨g, o, e, hg, hcell⟩ := (Rd.of_own h1).2 hn
  refine ⟨g, o, e, hg, fun i hi => ?_⟩
  obtain ⟨c0, c1, v, c2, h4⟩ := h3 i hi
  obtain ⟨B, cc, rfl, hcc, hcm⟩ := own_slice h4
  refine ⟨hcell _ _ c0, ?_, B, cc, ?_, hcc, hcm, Rd.of_own h4⟩
  · rw [Nat.add_assoc]; exact hcell _ _ c1
  · rw [Nat.add_assoc]; exact hcell _ _ c2
end
/-- A block of another type than a row's is none of the row's. -/
theorem blk_type_apart {w : World} {b s n q : Nat} {e e' : TypeId} {v : Value} {xs : List Value} {cs : Array Value} (h : w.ownsRow b e s v n xs) (hB : Blk w q e' cs) (hne : e ≠ e') : v.ownBlock ≠ some q := by
  rcases h.2 with ⟨rfl, _⟩ | ⟨g, c, cur, rfl, _, hg, _⟩
  · simp [Value.ownBlock]
  · intro hh
    have : g = q := by simpa [Value.ownBlock] using hh
    subst this
    have hB' : w.heap[g]? = some (.cells cs e' (0, 0)) := hB
    rw [hg] at hB'
    injection hB' with hB'
    injection hB' with _ h2
    exact hne h2
theorem stepCells_one (m t : Int) {w : World} {b n : Nat} {v : Value} {xs : List Value} (h : w.ownsRow b 2 1 v n xs) : ∀ u ∈ [Value.int .i64 m, .int .i64 t, v], u.oneCell' = true := by
  intro u hu
  obtain ⟨A, c, rfl, _⟩ := own_slice h
  simp only [List.mem_cons, List.not_mem_nil, or_false] at hu
  rcases hu with rfl | rfl | rfl <;> rfl
end Go.Proofs.Ytecfkomijaakhaa
