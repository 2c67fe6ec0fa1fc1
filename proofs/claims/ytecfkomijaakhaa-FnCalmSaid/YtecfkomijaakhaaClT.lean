/- CalmOrder in the reference: what the memory holds while its tables are filled. -/
import Derived.Test.YtecfkomijaakhaaClR
import Derived.Test.YtecfkomijaakhaaOwnII
namespace Go.Proofs.Ytecfkomijaakhaa
open Go.RowKit

theorem own_farB {w : World} {base n size : Nat} {e : TypeId} {v : Value} {xs : List Value} (h : w.ownsRow base e size v n xs) {p : Addr} (hp : p.block < base) (u : Value) : (w.setCell p u).ownsRow base e size v n xs :=
  own_far h (fun q => by have := (World.ownsRow.lt h _ q).1; omega) u
theorem ElemsII.far {w : World} {base : Nat} {vs : List Value} {PP : List (List Int)} (h : ElemsII w base vs PP) {p : Addr} (hp : p.block < base) (u : Value) : ElemsII (w.setCell p u) base vs PP :=
  ⟨h.1, fun i q hq => by obtain ⟨x, hx, ho⟩ := h.2 i q hq; exact ⟨x, hx, own_farB ho hp u⟩⟩
theorem ElemsII.put {w : World} {base : Nat} {vs : List Value} {PP : List (List Int)} (h : ElemsII w base vs PP) {u : Value} {q : List Int} (hu : w.ownsRow base 2 1 u q.length (intsRow q)) (i : Nat) : ElemsII w base (vs.set i u) (PP.set i q) := by
  refine ⟨by rw [List.length_set, List.length_set, h.1], fun j p hp => ?_⟩
  rw [List.getElem?_set] at hp
  by_cases e : i = j
  · subst e
    rw [if_pos rfl] at hp
    by_cases hl : i < PP.length
    · rw [if_pos hl] at hp
      injection hp with hp
      subst hp
      exact ⟨u, by rw [List.getElem?_set, if_pos rfl, if_pos (by rw [h.1]; exact hl)], hu⟩
    · rw [if_neg hl] at hp; cases hp
  · rw [if_neg e] at hp
    obtain ⟨x, hx, ho⟩ := h.2 j p hp
    exact ⟨x, by rw [List.getElem?_set, if_neg e]; exact hx, ho⟩
theorem ElemsII.nils (w : World) (base m : Nat) : ElemsII w base (List.replicate m (.slice none 0 0)) (List.replicate m []) := by
  refine ⟨by simp, fun i p hp => ?_⟩
  rw [List.getElem?_replicate] at hp
  by_cases hi : i < m
  · rw [if_pos hi] at hp
    injection hp with hp
    subst hp
    exact ⟨_, by rw [List.getElem?_replicate, if_pos hi], World.ownsRow_nil _ _ _ _⟩
  · rw [if_neg hi] at hp; cases hp
/-- The memory: both tables, the rests, the best so far. -/
structure CalS (g2 g3 g4 M : Nat) (w2 wk : World) (F : List Int) (vs : List Value) (RR : List (List Int)) (vb : Value) (P : List Int) : Prop where
  own : wk.ownsRow g2 2 1 (.slice (some ⟨g2, 0, none⟩) M M) M (intsRow F)
  rows : wk.ownsRow g2 29 1 (.slice (some ⟨g3, 0, none⟩) M M) M vs
  els : ElemsII wk g4 vs RR
  best : wk.ownsRow g4 2 1 vb P.length (intsRow P)
  below : Below g2 w2 wk
  ord : g2 = w2.heap.size ∧ g2 < g3 ∧ g3 < g4 ∧ g4 ≤ wk.heap.size
theorem CalS.step {g2 g3 g4 M : Nat} {w2 wk wx : World} {F : List Int} {vs : List Value} {RR : List (List Int)} {vb : Value} {P : List Int} (h : CalS g2 g3 g4 M w2 wk F vs RR vb P) (hb : Below wk.heap.size wk wx) : CalS g2 g3 g4 M w2 wx F vs RR vb P := by
  obtain ⟨h1, h2, h3, h4⟩ := h.ord
  have hs := hb.size
  exact ⟨own_below h.own hb, own_below h.rows hb, h.els.below hb, own_below h.best hb, h.below.trans (hb.mono (by omega)), h1, h2, h3, by omega⟩
theorem CalS.drew {g2 g3 g4 M : Nat} {w2 wk : World} {F : List Int} {vs : List Value} {RR : List (List Int)} {vb : Value} {P : List Int} (h : CalS g2 g3 g4 M w2 wk F vs RR vb P) : CalS g2 g3 g4 M w2 wk.drew F vs RR vb P :=
  h.step (Below.refl _ _).drew
theorem CalS.setF {g2 g3 g4 M : Nat} {w2 wk : World} {F : List Int} {vs : List Value} {RR : List (List Int)} {vb : Value} {P : List Int} (h : CalS g2 g3 g4 M w2 wk F vs RR vb P) (i : Nat) (x : Int) :
    CalS g2 g3 g4 M w2 (wk.setCell ⟨g2, i, none⟩ (.int .i64 x)) (F.set i x) vs RR vb P := by
  obtain ⟨h1, h2, h3, h4⟩ := h.ord
  refine ⟨by rw [← intsRow_set]; exact (h.own.stored i _).1, own_far h.rows (fun q => ?_) _, h.els.far (by show g2 < g4; omega) _, own_farB h.best (by show g2 < g4; omega) _, h.below.setCell (Nat.le_refl _) _, h1, h2, h3, by simpa using h4⟩
  have : g3 = g2 := by simpa [Value.ownBlock] using q
  omega
theorem CalS.setR {g2 g3 g4 M : Nat} {w2 wk : World} {F : List Int} {vs : List Value} {RR : List (List Int)} {vb : Value} {P : List Int} (h : CalS g2 g3 g4 M w2 wk F vs RR vb P) (i : Nat) {u : Value} {q : List Int} (hu : wk.ownsRow g4 2 1 u q.length (intsRow q)) :
    CalS g2 g3 g4 M w2 (wk.setCell ⟨g3, i, none⟩ u) F (vs.set i u) (RR.set i q) vb P := by
  obtain ⟨h1, h2, h3, h4⟩ := h.ord
  refine ⟨own_far h.own (fun q => ?_) _, (h.rows.stored i _).1, (h.els.put hu i).far (by show g3 < g4; omega) _, own_farB h.best (by show g3 < g4; omega) _, h.below.setCell (p := ⟨g3, i, none⟩) (by show g2 ≤ g3; omega) _, h1, h2, h3, by simpa using h4⟩
  have : g2 = g3 := by simpa [Value.ownBlock] using q
  omega
/-- An element of the rests, as the walk reads it. -/
theorem CalS.rest {g2 g3 g4 M : Nat} {w2 wk : World} {F : List Int} {vs : List Value} {RR : List (List Int)} {vb : Value} {P : List Int} (h : CalS g2 g3 g4 M w2 wk F vs RR vb P) {i : Nat} (hi : i < M) (hl : RR.length = M) :
    ∃ Au cu, wk.cell? ⟨g3, i, none⟩ = some (.slice Au (RR.getD i []).length cu) ∧ wk.ownsRow g4 2 1 (.slice Au (RR.getD i []).length cu) (RR.getD i []).length (intsRow (RR.getD i [])) := by
  have hp : RR[i]? = some (RR.getD i []) := by simp [List.getD, List.getElem?_eq_getElem (show i < RR.length by omega)]
  obtain ⟨u, hu, hou⟩ := h.els.2 i _ hp
  obtain ⟨Au, cu, rfl, _⟩ := own_slice hou
  exact ⟨Au, cu, (h.rows.cellAt i (by omega)).trans hu, hou⟩
/-- While the entry (e, s) is being laid. -/
structure OpenC (L : List Step) (F : List Int) (RR : List (List Int)) (e s : Nat) : Prop where
  lenF : F.length = 2 ^ L.length * L.length
  lenR : RR.length = 2 ^ L.length * L.length
  ent : ∀ e' s', s' < L.length → e'.testBit s' = false → e' ≤ 2 ^ L.length - 1 → (e' < e ∨ (e' = e ∧ s' < s)) → EntC L F RR e' s'
  fresh : ∀ i, e * L.length + s < i → RR.getD i [] = []
theorem GoodC.open_ {L : List Step} {F : List Int} {RR : List (List Int)} {e s : Nat} (h : GoodC L F RR e s) : OpenC L F RR e s ∧ RR.getD (e * L.length + s) [] = [] :=
  ⟨⟨h.lenF, h.lenR, h.ent, fun i hi => h.fresh i (by omega)⟩, h.fresh _ (Nat.le_refl _)⟩
theorem OpenC.setF {L : List Step} {F : List Int} {RR : List (List Int)} {e s : Nat} (h : OpenC L F RR e s) (he : e ≤ 2 ^ L.length - 1) (hs : s < L.length) (x : Int) : OpenC L (F.set (e * L.length + s) x) RR e s := by
  have hl := at_lt he hs
  refine ⟨by rw [List.length_set]; exact h.lenF, h.lenR, fun e' s' h1 h2 h3 h4 => ?_, h.fresh⟩
  unfold EntC
  have hne : ¬ e' * L.length + s' = e * L.length + s := fun z => by have := at_inj h1 hs z; omega
  rw [intsAt_set (by rw [h.lenF]; exact hl), if_neg hne]
  exact h.ent e' s' h1 h2 h3 h4
theorem OpenC.setR {L : List Step} {F : List Int} {RR : List (List Int)} {e s : Nat} (h : OpenC L F RR e s) (he : e ≤ 2 ^ L.length - 1) (hs : s < L.length) (r : List Int) : OpenC L F (RR.set (e * L.length + s) r) e s := by
  have hl := at_lt he hs
  refine ⟨h.lenF, by rw [List.length_set]; exact h.lenR, fun e' s' h1 h2 h3 h4 => ?_, fun i hi => ?_⟩
  · unfold EntC
    have hne : ¬ e' * L.length + s' = e * L.length + s := fun z => by have := at_inj h1 hs z; omega
    rw [getD_set (by rw [h.lenR]; exact hl), if_neg hne]
    exact h.ent e' s' h1 h2 h3 h4
  · rw [getD_set (by rw [h.lenR]; exact hl), if_neg (by omega)]
    exact h.fresh i hi
theorem OpenC.shut {L : List Step} {F : List Int} {RR : List (List Int)} {e s : Nat} (h : OpenC L F RR e s) (hs : s < L.length) (hx : intsAt F (e * L.length + s) = refV L (2 ^ L.length - 1 - e) (toolC L s)) (hr : RR.getD (e * L.length + s) [] = intN (refR L (2 ^ L.length - 1 - e) (toolC L s))) : GoodC L F RR e (s + 1) := by
  refine ⟨h.lenF, h.lenR, fun e' s' h1 h2 h3 h4 => ?_, fun i hi => h.fresh i (by omega)⟩
  by_cases q : e' = e ∧ s' = s
  · obtain ⟨rfl, rfl⟩ := q; exact ⟨hx, hr⟩
  · exact h.ent e' s' h1 h2 h3 (by omega)
end Go.Proofs.Ytecfkomijaakhaa
