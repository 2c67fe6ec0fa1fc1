/- The plain laws of FnJobs and FnBenches. No walks. -/
import Derived.Test.YtfkindkekjafnaaLateM
import Derived.Test.YtfkindkekjafnaaDue
import Derived.Test.YtfkindkekjafnaaJobA
namespace Go.Proofs.Ytfkindkekjafnaa
open Go.RowKit

/-! ### The worst lateness: no plan does better than the plan by rising due minutes -/
theorem worst_nn (D : List Int) : ∀ k, k ≤ D.length → 0 ≤ worstOf (D.take k) := by
  intro k
  induction k with
  | zero => intro _; simp [worstOf]
  | succ k ih => intro hk; have := ih (by omega); rw [worst_take D (by omega)]; omega
theorem worst_le {D : List Int} {X : Int} (h0 : 0 ≤ X) (h : ∀ i, i < D.length → intsAt D i ≤ X) : ∀ k, k ≤ D.length → worstOf (D.take k) ≤ X := by
  intro k
  induction k with
  | zero => intro _; simpa [worstOf] using h0
  | succ k ih => intro hk; have h1 := ih (by omega); have h2 := h k (by omega); rw [worst_take D (by omega)]; omega
theorem worst_ge (D : List Int) : ∀ k, k ≤ D.length → ∀ i, i < k → intsAt D i ≤ worstOf (D.take k) := by
  intro k
  induction k with
  | zero => intro _ i hi; omega
  | succ k ih =>
    intro hk i hi
    rw [worst_take D (by omega)]
    by_cases e : i = k
    · subst e; omega
    · have := ih (by omega) i (by omega); omega
theorem minM_mono {L : List Job} (h : areJobs L = true) {m m' : Nat} : ∀ k, k ≤ L.length → (∀ i, i < k → m.testBit i = true → m'.testBit i = true) → minM L m k ≤ minM L m' k := by
  intro k
  induction k with
  | zero => intro _ _; exact Int.le_refl _
  | succ k ih =>
    intro hk hs
    have h1 := ih (by omega) (fun i hi => hs i (by omega))
    have h2 := areJobs_at h (show k < L.length by omega)
    have h3 := hs k (by omega)
    rw [minM, minM]
    cases hb : m.testBit k
    · cases hb' : m'.testBit k <;> simp only [Bool.false_eq_true, ↓reduceIte] <;> omega
    · rw [h3 hb]; simp only [↓reduceIte]; omega
theorem last_in {S P : List Int} (hS : S ≠ []) : ∀ q, q ≤ P.length → (∀ x ∈ S, x ∈ P.take q) → ∃ r, r < q ∧ intsAt P r ∈ S ∧ ∀ x ∈ S, x ∈ P.take (r + 1) := by
  intro q
  induction q with
  | zero =>
    intro _ h
    cases S with
    | nil => exact absurd rfl hS
    | cons x xs => have := h x (by simp); simp at this
  | succ q ih =>
    intro hq h
    by_cases hm : intsAt P q ∈ S
    · exact ⟨q, by omega, hm, h⟩
    · obtain ⟨r, h1, h2, h3⟩ := ih (by omega) (fun x hx => by
        have := h x hx
        rw [take_snoc P 0 (show q < P.length by omega), List.mem_append, List.mem_singleton] at this
        rcases this with h4 | h4
        · exact h4
        · exact absurd (show intsAt P q ∈ S by rw [show intsAt P q = x from h4.symm]; exact hx) hm)
      exact ⟨r, by omega, h2, h3⟩
theorem due_late {L : List Job} (h : areJobs L = true) {P : List Int} (hp : PartP L.length P) (hl : P.length = L.length) {i : Nat} (hi : i < L.length) : intsAt (lateOf L (dueOrd L)) i ≤ worstOf (lateOf L P) := by
  obtain ⟨hD, hDl⟩ := planOk_part (dueOrd_ok L)
  have hW0 : 0 ≤ worstOf (lateOf L P) := by have := worst_nn (lateOf L P) _ (Nat.le_refl _); rwa [List.take_length] at this
  obtain ⟨k, hk, hki⟩ := List.mem_iff_getElem.1 (hD.full hDl hi)
  rw [← intsAt_lt hk] at hki
  have e1 := late_at hD hk
  rw [hki] at e1
  simp only [Int.toNat_natCast] at e1
  obtain ⟨b, hb, hbn, hbm, hbt⟩ := hD.at_ hk
  have ebi : b = i := by omega
  subst ebi
  have eM : maskOf ((dueOrd L).take (k + 1)) = maskOf ((dueOrd L).take k) ||| 2 ^ b := by rw [hbt, maskOf_snoc]; simp
  rw [e1, stLate, ← eM, lateM]
  obtain ⟨r, hr, hrS, hrA⟩ := last_in (S := (dueOrd L).take (k + 1)) (P := P) (by rw [hbt]; simp) P.length (Nat.le_refl _) (fun x hx => by
    obtain ⟨c, rfl, hc⟩ := (hD.take (k + 1)).lt x hx
    rw [List.take_length]; exact hp.full hl hc)
  obtain ⟨d, hd, hdn, hdm, hdt⟩ := hp.at_ hr
  have e2 := late_at hp hr
  rw [hd] at e2
  simp only [Int.toNat_natCast] at e2
  have eP : maskOf (P.take (r + 1)) = maskOf (P.take r) ||| 2 ^ d := by rw [hdt, maskOf_snoc]; simp
  rw [stLate, ← eP, lateM] at e2
  have hmono := minM_mono h (m := maskOf ((dueOrd L).take (k + 1))) (m' := maskOf (P.take (r + 1))) L.length (Nat.le_refl _) (fun j hj hb => by
    rw [(hD.take (k + 1)).bit] at hb
    rw [(hp.take (r + 1)).bit]
    have := hrA (j : Int) (by simpa using hb)
    simpa using this)
  have hdue : (jobAt L d).due ≤ (jobAt L b).due := by
    rw [hd] at hrS
    obtain ⟨j, hj, hje⟩ := List.mem_iff_getElem.1 hrS
    rw [List.length_take] at hj
    rw [List.getElem_take] at hje
    have hj2 : j < (dueOrd L).length := by omega
    rw [← intsAt_lt hj2] at hje
    have hs := orderBy_sorted (dueKey L) L.length j k (by omega) (by rw [dueOrd_len] at hk; exact hk)
    have hje' : intsAt (orderBy (dueKey L) L.length) j = (d : Int) := hje
    have hki' : intsAt (orderBy (dueKey L) L.length) k = (b : Int) := hki
    rw [hje', hki'] at hs
    simpa [dueKey] using hs
  have hge := worst_ge (lateOf L P) _ (Nat.le_refl _) d (by rw [lateOf_len]; exact hdn)
  rw [List.take_length, e2] at hge
  omega
theorem due_least {L : List Job} (h : areJobs L = true) {P : List Int} (hp : PartP L.length P) (hl : P.length = L.length) : worstOf (lateOf L (dueOrd L)) ≤ worstOf (lateOf L P) := by
  have hW0 : 0 ≤ worstOf (lateOf L P) := by have := worst_nn (lateOf L P) _ (Nat.le_refl _); rwa [List.take_length] at this
  have := worst_le (D := lateOf L (dueOrd L)) hW0 (fun i hi => due_late h hp hl (by rw [lateOf_len] at hi; exact hi)) _ (Nat.le_refl _)
  rwa [List.take_length] at this
/-! ### FnJobs -/
theorem best_own {L : List Job} (h : areJobs L = true) : latenessF L (takeM L.length (stLate L) 0) = (leastM L.length (stLate L) 0, 0) := by
  obtain ⟨h1, h2, h3⟩ := takeM_is (n := L.length) (stLate_nn L)
  have hc : planCode L (takeM L.length (stLate L) 0) = 0 := by simp [planCode, h, h1.planOk h2]
  rw [latenessF, if_pos hc, late_sum h1 h2, h3]
/-- The worst and the sum, as FnJobs reckons them. -/
def mostK (L : List Job) (E : List Int) : Nat → Int
  | 0 => 0
  | k + 1 => max (mostK L E k) (intsAt E k - (jobAt L k).due)
def totalK (L : List Job) (E : List Int) : Nat → Int
  | 0 => 0
  | k + 1 => totalK L E k + max 0 (intsAt E k - (jobAt L k).due)
theorem mostK_is (L : List Job) (P : List Int) : ∀ k, k ≤ L.length → mostK L (endsOf L P) k = worstOf ((lateOf L P).take k) := by
  intro k
  induction k with
  | zero => intro _; simp [mostK, worstOf]
  | succ k ih =>
    intro hk
    have h0 := worst_nn (lateOf L P) k (by rw [lateOf_len]; omega)
    rw [mostK, ih (by omega), worst_take _ (by rw [lateOf_len]; omega), lateOf_at L P (by omega)]
    omega
theorem totalK_is (L : List Job) (P : List Int) : ∀ k, k ≤ L.length → totalK L (endsOf L P) k = ((lateOf L P).take k).sum := by
  intro k
  induction k with
  | zero => intro _; simp [totalK]
  | succ k ih =>
    intro hk
    rw [totalK, ih (by omega), sum_take _ (by rw [lateOf_len]; omega), lateOf_at L P (by omega)]
theorem mostK_bd {L : List Job} (h : areJobs L = true) {P : List Int} (h2 : planOk L.length P = true) : ∀ k, k ≤ L.length → 0 ≤ mostK L (endsOf L P) k ∧ mostK L (endsOf L P) k ≤ 7000 ∧ 0 ≤ totalK L (endsOf L P) k ∧ totalK L (endsOf L P) k ≤ 7000 * k := by
  intro k
  induction k with
  | zero => intro _; simp [mostK, totalK]
  | succ k ih =>
    intro hk
    have h1 := ih (by omega)
    have h3 := endsOf_bd h h2 (i := k) (by omega)
    have h4 := areJobs_at h (i := k) (by omega)
    rw [mostK, totalK]; omega
theorem jobs_law {L : List Job} {P : List Int} (h : planCode L P = 0) : leastM L.length (stLate L) 0 ≤ (lateOf L P).sum ∧ worstOf (lateOf L (dueOrd L)) ≤ mostK L (endsOf L P) L.length ∧ totalK L (endsOf L P) L.length = (lateOf L P).sum := by
  obtain ⟨h1, h2⟩ := planCode_zero h
  obtain ⟨h3, h4⟩ := planOk_part h2
  refine ⟨?_, ?_, ?_⟩
  · rw [late_sum h3 h4]; exact cost_least (stLate_nn L) h3 h4
  · rw [mostK_is L P _ (Nat.le_refl _), List.take_of_length_le (by rw [lateOf_len]; exact Nat.le_refl _)]; exact due_least h1 h3 h4
  · rw [totalK_is L P _ (Nat.le_refl _), List.take_of_length_le (by rw [lateOf_len]; exact Nat.le_refl _)]
end Go.Proofs.Ytfkindkekjafnaa
