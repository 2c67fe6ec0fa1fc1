/- CalmOrder in the reference, plain: what its tables hold. -/
import Derived.Test.YtecfkomijaakhaaClM
import Derived.Test.YtecfkomijaakhaaRecI
namespace Go.Proofs.Ytecfkomijaakhaa
open Go.RowKit

/-- A number that is less than 100 is no more than the steps left. -/
theorem valC_small {L : List Step} : ∀ (f d : Nat) (t : Int), d ≤ 2 ^ L.length - 1 → zeros L.length d = f → valC L d t < 100 → valC L d t ≤ f
  | 0, d, t, hd, hz, h => by
    have e : d = 2 ^ L.length - 1 := by
      by_cases q : d = 2 ^ L.length - 1
      · exact q
      · have := zeros_pos (n := L.length) (m := d) (by omega); omega
    rw [valC, if_pos e]; omega
  | f + 1, d, t, hd, hz, h => by
    have hne : d ≠ 2 ^ L.length - 1 := fun q => by rw [q, zeros_all] at hz; omega
    rw [valC, if_neg hne] at h ⊢
    rcases bestC_is L (MC L) d t L.length with e | ⟨k, k1, k2, k3⟩
    · omega
    · have hdk := or_lt_all hd k1
      have hzk := zeros_or d k (canM_iff.1 k2).1 L.length
      rw [if_pos k1] at hzk
      have hc := costC_bd L t k
      rw [MC_val _ hdk] at k3
      have := valC_small f (d ||| 2 ^ k) (toolC L k) hdk (by omega) (by omega)
      omega
theorem valC_nine {L : List Step} (h9 : L.length ≤ 9) {d : Nat} {t : Int} (hd : d ≤ 2 ^ L.length - 1) (h : valC L d t < 100) : valC L d t ≤ 9 := by
  have h1 := valC_small _ d t hd rfl h
  have h2 := zeros_le L.length d
  omega
/-- What the reference's tables hold for (d, t): the fewest changes, or -1; the smallest rest. -/
def refV (L : List Step) (d : Nat) (t : Int) : Int := if valC L d t < 100 then valC L d t else -1
def refR (L : List Step) (d : Nat) (t : Int) : List Nat := if valC L d t < 100 then restC L d t else []
/-- One look at step k, with what is behind the steps below it. -/
def lookC (L : List Step) (d : Nat) (t : Int) (a : Int × List Nat) (k : Nat) : Int × List Nat :=
  if canM L d k = true ∧ 0 ≤ refV L (d ||| 2 ^ k) (toolC L k) then
    (if a.1 < 0 ∨ costC L t k + refV L (d ||| 2 ^ k) (toolC L k) < a.1 then (costC L t k + refV L (d ||| 2 ^ k) (toolC L k), k :: refR L (d ||| 2 ^ k) (toolC L k)) else a)
  else a
def refS (L : List Step) (d : Nat) (t : Int) : Nat → Int × List Nat
  | 0 => (if d = 2 ^ L.length - 1 then 0 else -1, [])
  | k + 1 => lookC L d t (refS L d t k) k
theorem refV_nn {L : List Step} {d : Nat} {t : Int} : 0 ≤ refV L d t ↔ valC L d t < 100 := by
  have := valC_nn L d t
  unfold refV
  split
  · exact ⟨fun _ => ‹_›, fun _ => this⟩
  · exact ⟨fun h => by omega, fun h => absurd h ‹_›⟩
theorem refV_at {L : List Step} {d : Nat} {t : Int} (h : valC L d t < 100) : refV L d t = valC L d t ∧ refR L d t = restC L d t := by
  rw [refV, refR, if_pos h, if_pos h]; exact ⟨rfl, rfl⟩
theorem refV_bd {L : List Step} (h9 : L.length ≤ 9) {d : Nat} (t : Int) (hd : d ≤ 2 ^ L.length - 1) : -1 ≤ refV L d t ∧ refV L d t ≤ 9 := by
  unfold refV
  split
  · have := valC_nn L d t; have := valC_nine h9 hd (by assumption); omega
  · omega
theorem refS_all {L : List Step} {t : Int} : ∀ k, k ≤ L.length → refS L (2 ^ L.length - 1) t k = (0, [])
  | 0, _ => by rw [refS, if_pos rfl]
  | k + 1, hk => by
    rw [refS, refS_all k (by omega), lookC, if_neg]
    rw [can_all (by omega)]; rintro ⟨h, _⟩; cases h
theorem refS_is {L : List Step} (h9 : L.length ≤ 9) {d : Nat} {t : Int} (hd : d < 2 ^ L.length - 1) : ∀ k, k ≤ L.length →
    (bestC L (MC L) d t k = 100 ∧ refS L d t k = (-1, [])) ∨
    (bestC L (MC L) d t k < 100 ∧ ∃ j, j < k ∧ canM L d j = true ∧ costC L t j + MC L (d ||| 2 ^ j) (toolC L j) = bestC L (MC L) d t k ∧
      (∀ i, i < j → canM L d i = true → bestC L (MC L) d t k < costC L t i + MC L (d ||| 2 ^ i) (toolC L i)) ∧ refS L d t k = (bestC L (MC L) d t k, j :: restC L (d ||| 2 ^ j) (toolC L j)))
  | 0, _ => Or.inl ⟨rfl, by rw [refS, if_neg (by omega)]⟩
  | k + 1, hk => by
    have ih := refS_is h9 (t := t) hd k (by omega)
    have hnnb : 0 ≤ bestC L (MC L) d t k := bestC_nn (fun e s => (MC_bd L e s).1) _
    cases hc : canM L d k with
    | false =>
      have e1 : bestC L (MC L) d t (k + 1) = bestC L (MC L) d t k := by rw [bestC, if_neg (by rw [hc]; simp)]
      have e2 : refS L d t (k + 1) = refS L d t k := by rw [refS, lookC, if_neg]; rw [hc]; rintro ⟨h, _⟩; cases h
      rw [e1, e2]
      rcases ih with ih | ⟨i1, j, j1, j2⟩
      · exact Or.inl ih
      · exact Or.inr ⟨i1, j, by omega, j2⟩
    | true =>
      have hdk := or_lt_all (d := d) (by omega) (show k < L.length by omega)
      have hmv := MC_val (L := L) (toolC L k) hdk
      have hcb := costC_bd L t k
      have e1 : bestC L (MC L) d t (k + 1) = min (bestC L (MC L) d t k) (costC L t k + MC L (d ||| 2 ^ k) (toolC L k)) := by rw [bestC, if_pos hc]
      by_cases hv : valC L (d ||| 2 ^ k) (toolC L k) < 100
      · have hv9 := valC_nine h9 hdk hv
        have hvn := valC_nn L (d ||| 2 ^ k) (toolC L k)
        obtain ⟨r1, r2⟩ := refV_at hv
        have e2 : refS L d t (k + 1) = if (refS L d t k).1 < 0 ∨ costC L t k + valC L (d ||| 2 ^ k) (toolC L k) < (refS L d t k).1 then (costC L t k + valC L (d ||| 2 ^ k) (toolC L k), k :: restC L (d ||| 2 ^ k) (toolC L k)) else refS L d t k := by
          rw [refS, lookC, if_pos ⟨hc, refV_nn.2 hv⟩, r1, r2]
        rw [← hmv] at e2 hv9 hvn
        rcases ih with ⟨i1, i2⟩ | ⟨i1, j, j1, j2, j3, j4, j5⟩
        · have e3 : bestC L (MC L) d t (k + 1) = costC L t k + MC L (d ||| 2 ^ k) (toolC L k) := by rw [e1]; omega
          refine Or.inr ⟨by omega, k, by omega, hc, e3.symm, fun i hi hci => ?_, ?_⟩
          · have := bestC_at (M := MC L) (t := t) hci k hi
            omega
          · rw [e2, i2, if_pos (Or.inl (by show (-1 : Int) < 0; omega)), e3]
        · by_cases hlt : costC L t k + MC L (d ||| 2 ^ k) (toolC L k) < bestC L (MC L) d t k
          · have e3 : bestC L (MC L) d t (k + 1) = costC L t k + MC L (d ||| 2 ^ k) (toolC L k) := by rw [e1]; omega
            refine Or.inr ⟨by omega, k, by omega, hc, e3.symm, fun i hi hci => ?_, ?_⟩
            · have := bestC_at (M := MC L) (t := t) hci k hi
              omega
            · rw [e2, j5, if_pos (Or.inr hlt), e3]
          · have e3 : bestC L (MC L) d t (k + 1) = bestC L (MC L) d t k := by rw [e1]; omega
            rw [e3]
            refine Or.inr ⟨i1, j, by omega, j2, j3, j4, ?_⟩
            rw [e2, j5, if_neg]
            rintro (z | z)
            · simp only at z; omega
            · exact hlt z
      · have e2 : refS L d t (k + 1) = refS L d t k := by
          rw [refS, lookC, if_neg]
          rintro ⟨_, h⟩
          exact hv (refV_nn.1 h)
        have hM : MC L (d ||| 2 ^ k) (toolC L k) = 100 := by have := (MC_bd L (d ||| 2 ^ k) (toolC L k)).2; omega
        have hb := bestC_le L (MC L) d t k
        have e3 : bestC L (MC L) d t (k + 1) = bestC L (MC L) d t k := by rw [e1]; omega
        rw [e2, e3]
        rcases ih with ih | ⟨i1, j, j1, j2⟩
        · exact Or.inl ih
        · exact Or.inr ⟨i1, j, by omega, j2⟩
theorem refS_end {L : List Step} (h9 : L.length ≤ 9) {d : Nat} (t : Int) (hd : d ≤ 2 ^ L.length - 1) : refS L d t L.length = (refV L d t, refR L d t) := by
  by_cases e : d = 2 ^ L.length - 1
  · subst e
    have hv : valC L (2 ^ L.length - 1) t = 0 := by rw [valC, if_pos rfl]
    rw [refS_all _ (Nat.le_refl _), refV, refR, hv, if_pos (by omega), if_pos (by omega), restC_all]
  · have hv : valC L d t = bestC L (MC L) d t L.length := by rw [valC, if_neg e]
    rcases refS_is h9 (t := t) (show d < 2 ^ L.length - 1 by omega) L.length (Nat.le_refl _) with ⟨i1, i2⟩ | ⟨i1, j, j1, j2, j3, j4, j5⟩
    · rw [i2, refV, refR, hv, i1, if_neg (by omega), if_neg (by omega)]
    · rw [j5, refV, refR, hv, if_pos i1, if_pos i1]
      have hp : pickC L d t (valC L d t) = some j := by
        refine pickC_some j1 (by rw [okC, j2, hv, j3]; simp) (fun i hi => ?_)
        cases hci : canM L d i
        · rw [okC, hci]; rfl
        · have := j4 i hi hci
          rw [okC, hci, hv]
          simp only [Bool.true_and, decide_eq_false_iff_not]
          omega
      rw [restC_some ⟨hd, rfl, by omega⟩ hp]
theorem refS_len {L : List Step} (d : Nat) (t : Int) : ∀ k, (refS L d t k).2.length ≤ L.length + 1
  | 0 => by rw [refS]; simp
  | k + 1 => by
    have ih := refS_len (L := L) d t k
    rw [refS, lookC]
    split
    · split
      · show (k :: refR L _ _).length ≤ _
        have : (refR L (d ||| 2 ^ k) (toolC L k)).length ≤ L.length := by
          unfold refR
          split
          · exact Nat.le_trans (restC_len _ _ _ rfl) (zeros_le _ _)
          · simp
        rw [List.length_cons]; omega
      · exact ih
    · exact ih
theorem refR_len (L : List Step) (d : Nat) (t : Int) : (refR L d t).length ≤ L.length := by
  unfold refR
  split
  · exact Nat.le_trans (restC_len _ _ _ rfl) (zeros_le _ _)
  · simp
theorem refS_bd {L : List Step} (h9 : L.length ≤ 9) {d : Nat} (t : Int) (hd : d ≤ 2 ^ L.length - 1) : ∀ k, k ≤ L.length → -1 ≤ (refS L d t k).1 ∧ (refS L d t k).1 ≤ 10
  | 0, _ => by rw [refS]; show -1 ≤ (if _ then (0 : Int) else -1) ∧ _; split <;> omega
  | k + 1, hk => by
    have ih := refS_bd h9 t hd k (by omega)
    have hv := refV_bd h9 (toolC L k) (or_lt_all hd (show k < L.length by omega))
    have hc := costC_bd L t k
    rw [refS, lookC]
    split
    · rename_i h
      split
      · show -1 ≤ costC L t k + refV L (d ||| 2 ^ k) (toolC L k) ∧ costC L t k + refV L (d ||| 2 ^ k) (toolC L k) ≤ 10
        omega
      · exact ih
    · exact ih
theorem refS_no {L : List Step} {d k : Nat} {t : Int} (h : canM L d k = false) : refS L d t (k + 1) = refS L d t k := by
  rw [refS, lookC, if_neg]; rw [h]; rintro ⟨h, _⟩; cases h
theorem refS_neg {L : List Step} {d k : Nat} {t : Int} (h : refV L (d ||| 2 ^ k) (toolC L k) < 0) : refS L d t (k + 1) = refS L d t k := by
  rw [refS, lookC, if_neg]; rintro ⟨_, h2⟩; omega
theorem refS_yes {L : List Step} {d k : Nat} {t : Int} (h : canM L d k = true) (h0 : 0 ≤ refV L (d ||| 2 ^ k) (toolC L k)) (h2 : (refS L d t k).1 < 0 ∨ costC L t k + refV L (d ||| 2 ^ k) (toolC L k) < (refS L d t k).1) :
    refS L d t (k + 1) = (costC L t k + refV L (d ||| 2 ^ k) (toolC L k), k :: refR L (d ||| 2 ^ k) (toolC L k)) := by
  rw [refS, lookC, if_pos ⟨h, h0⟩, if_pos h2]
theorem refS_less {L : List Step} {d k : Nat} {t : Int} (h2 : ¬ ((refS L d t k).1 < 0 ∨ costC L t k + refV L (d ||| 2 ^ k) (toolC L k) < (refS L d t k).1)) :
    refS L d t (k + 1) = refS L d t k := by
  rw [refS, lookC]
  by_cases hc : canM L d k = true ∧ 0 ≤ refV L (d ||| 2 ^ k) (toolC L k)
  · rw [if_pos hc, if_neg h2]
  · rw [if_neg hc]
theorem calm_ref {L : List Step} (h0 : 0 < L.length) (h : isRecipe L = true) : refS L 0 (-1) L.length = (leastC L, calmC L) := by
  have h9 := (isRecipe_iff.1 h).1
  have hl := least_lt h0 h
  have hv : valC L 0 (-1) < 100 := by rw [← least_is h0]; omega
  obtain ⟨r1, r2⟩ := refV_at hv
  rw [refS_end h9 (-1) (Nat.zero_le _), r1, r2, ← least_is h0, restC, zeros_zero, ← least_is h0]; rfl
/-! ### Masks of what is left -/
theorem left_bit {n e k : Nat} (he : e ≤ 2 ^ n - 1) (hk : k < n) : (2 ^ n - 1 - e).testBit k = !e.testBit k := by
  have hp := Nat.two_pow_pos n
  have h := Nat.testBit_two_pow_sub_succ (x := e) (n := n) (by omega) k
  rw [show 2 ^ n - 1 - e = 2 ^ n - (e + 1) by omega, h]
  simp [hk]
theorem left_pow {e k : Nat} (h : e.testBit k = true) : 2 ^ k ≤ e := Nat.ge_two_pow_of_testBit h
theorem left_next {n e k : Nat} (he : e ≤ 2 ^ n - 1) (hk : k < n) (h : e.testBit k = true) : (2 ^ n - 1 - e) ||| 2 ^ k = 2 ^ n - 1 - (e - 2 ^ k) ∧ 2 ^ k ≤ e ∧ (e - 2 ^ k).testBit k = false := by
  have h1 := left_pow h
  have hb : (2 ^ n - 1 - e).testBit k = false := by rw [left_bit he hk, h]; rfl
  have e1 : (2 ^ n - 1 - e) ||| 2 ^ k = 2 ^ n - 1 - (e - 2 ^ k) := by
    rw [or_add hb]
    clear hb h hk
    generalize 2 ^ n = a at he
    generalize 2 ^ k = b at h1
    omega
  refine ⟨e1, h1, ?_⟩
  have h2 := left_bit (n := n) (e := e - 2 ^ k) (k := k) (Nat.le_trans (Nat.sub_le _ _) he) hk
  rw [← e1, Nat.testBit_or, Nat.testBit_two_pow_self, Bool.or_true] at h2
  cases hx : (e - 2 ^ k).testBit k
  · rfl
  · rw [hx] at h2; cases h2
/-- An entry of the tables: what is left, and the step that is done last. -/
def EntC (L : List Step) (F : List Int) (RR : List (List Int)) (e s : Nat) : Prop :=
  intsAt F (e * L.length + s) = refV L (2 ^ L.length - 1 - e) (toolC L s) ∧ RR.getD (e * L.length + s) [] = intN (refR L (2 ^ L.length - 1 - e) (toolC L s))
/-- All entries ahead of (e, s) are laid. -/
structure GoodC (L : List Step) (F : List Int) (RR : List (List Int)) (e s : Nat) : Prop where
  lenF : F.length = 2 ^ L.length * L.length
  lenR : RR.length = 2 ^ L.length * L.length
  ent : ∀ e' s', s' < L.length → e'.testBit s' = false → e' ≤ 2 ^ L.length - 1 → (e' < e ∨ (e' = e ∧ s' < s)) → EntC L F RR e' s'
  fresh : ∀ i, e * L.length + s ≤ i → RR.getD i [] = []
theorem at_lt {n e s : Nat} (he : e ≤ 2 ^ n - 1) (hs : s < n) : e * n + s < 2 ^ n * n := by
  have hp := Nat.two_pow_pos n
  have h1 : (e + 1) * n ≤ 2 ^ n * n := Nat.mul_le_mul_right n (by omega)
  rw [Nat.succ_mul] at h1
  omega
theorem at_inj {n e s e' s' : Nat} (hs : s < n) (hs' : s' < n) (h : e * n + s = e' * n + s') : e = e' ∧ s = s' := by
  have h1 : (e * n + s) / n = e := by rw [Nat.mul_comm, Nat.mul_add_div (by omega), Nat.div_eq_of_lt hs]; omega
  have h2 : (e' * n + s') / n = e' := by rw [Nat.mul_comm, Nat.mul_add_div (by omega), Nat.div_eq_of_lt hs']; omega
  have h3 : e = e' := by rw [← h1, ← h2, h]
  subst h3
  omega
theorem goodC_start (L : List Step) : GoodC L (List.replicate (2 ^ L.length * L.length) 0) (List.replicate (2 ^ L.length * L.length) []) 0 0 := by
  refine ⟨by simp, by simp, fun e' s' _ _ _ h => by omega, fun i _ => ?_⟩
  rw [List.getD]
  by_cases h : i < 2 ^ L.length * L.length
  · rw [List.getElem?_replicate, if_pos h]; rfl
  · rw [List.getElem?_replicate, if_neg h]; rfl
theorem getD_set {RR : List (List Int)} {i j : Nat} {x : List Int} (h : i < RR.length) : (RR.set i x).getD j [] = if j = i then x else RR.getD j [] := by
  simp only [List.getD, List.getElem?_set]
  by_cases e : i = j
  · subst e; rw [if_pos rfl, if_pos rfl, if_pos h]; rfl
  · rw [if_neg e, if_neg (fun q => e q.symm)]
/-- The entry (e, s) is skipped. -/
theorem GoodC.skip {L : List Step} {F : List Int} {RR : List (List Int)} {e s : Nat} (h : GoodC L F RR e s) (hb : e.testBit s = true) : GoodC L F RR e (s + 1) := by
  refine ⟨h.lenF, h.lenR, fun e' s' h1 h2 h3 h4 => h.ent e' s' h1 h2 h3 ?_, fun i hi => h.fresh i (by omega)⟩
  by_cases q : e' = e ∧ s' = s
  · obtain ⟨rfl, rfl⟩ := q; rw [hb] at h2; cases h2
  · omega
/-- The entry (e, s) is laid. -/
theorem GoodC.lay {L : List Step} {F : List Int} {RR : List (List Int)} {e s : Nat} (h : GoodC L F RR e s) (he : e ≤ 2 ^ L.length - 1) (hs : s < L.length) {x : Int} {r : List Int}
    (hx : x = refV L (2 ^ L.length - 1 - e) (toolC L s)) (hr : r = intN (refR L (2 ^ L.length - 1 - e) (toolC L s))) : GoodC L (F.set (e * L.length + s) x) (RR.set (e * L.length + s) r) e (s + 1) := by
  have hl := at_lt he hs
  refine ⟨by rw [List.length_set]; exact h.lenF, by rw [List.length_set]; exact h.lenR, fun e' s' h1 h2 h3 h4 => ?_, fun i hi => ?_⟩
  · unfold EntC
    rw [intsAt_set (by rw [h.lenF]; exact hl), getD_set (by rw [h.lenR]; exact hl)]
    by_cases q : e' = e ∧ s' = s
    · obtain ⟨rfl, rfl⟩ := q
      rw [if_pos rfl, if_pos rfl]; exact ⟨hx, hr⟩
    · have hne : ¬ e' * L.length + s' = e * L.length + s := fun z => q (at_inj h1 hs z)
      rw [if_neg hne, if_neg hne]
      exact h.ent e' s' h1 h2 h3 (by omega)
  · rw [getD_set (by rw [h.lenR]; exact hl), if_neg (by omega)]
    exact h.fresh i (by omega)
theorem GoodC.row {L : List Step} {F : List Int} {RR : List (List Int)} {e : Nat} (h : GoodC L F RR e L.length) : GoodC L F RR (e + 1) 0 := by
  refine ⟨h.lenF, h.lenR, fun e' s' h1 h2 h3 h4 => h.ent e' s' h1 h2 h3 (by omega), fun i hi => h.fresh i (by rw [Nat.succ_mul] at hi; omega)⟩
theorem ready_zero {s : Step} : readyM s 0 = decide (s.after.length = 0) := by
  rw [Bool.eq_iff_iff, readyM_iff, decide_eq_true_eq, List.length_eq_zero_iff]
  constructor
  · intro h
    cases e : s.after with
    | nil => rfl
    | cons j l => have := h j (by rw [e]; simp); simp at this
  · intro h j hj; rw [h] at hj; cases hj
end Go.Proofs.Ytecfkomijaakhaa
