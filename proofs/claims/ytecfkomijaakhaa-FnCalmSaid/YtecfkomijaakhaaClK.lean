/- FnCalm, plain: the calm order is one; no order has fewer changes. -/
import Derived.Test.YtecfkomijaakhaaClM
namespace Go.Proofs.Ytecfkomijaakhaa
open Go.RowKit

theorem calm_other {X : List Step} {P : List Int} (h : (changesF X P).2 = 0) : (calmF X).2.2 = 0 ∧ (calmF X).2.1 ≤ (changesF X P).1 := by
  cases hr : isRecipe X
  · rw [changesF_bad hr] at h; exact absurd h (by decide)
  · cases ho : ordOk X P
    · rw [changesF_no hr ho] at h; exact absurd h (by decide)
    · rw [changesF_ok hr ho]
      by_cases h0 : X.length = 0
      · rw [calmF_nil hr h0]
        exact ⟨rfl, (chgN_bd X P P.length).1⟩
      · rw [calmF_ok hr (by omega)]
        exact ⟨rfl, least_le (by omega) (isRecipe_iff.1 hr).2.1 ho⟩
theorem calm_law {L : List Step} (h : (calmF L).2.2 = 0) : isOrderF L (calmF L).1 = (true, 0) ∧ changesF L (calmF L).1 = ((calmF L).2.1, 0) ∧ firstOrderF L = (firstOrd L, 0) ∧ (changesF L (firstOrd L)).2 = 0 ∧ (calmF L).2.1 ≤ (changesF L (firstOrd L)).1 := by
  cases hr : isRecipe L
  · rw [calmF_bad hr] at h; exact absurd h (by decide)
  · have hf := first_ok hr
    have h1 : (changesF L (firstOrd L)).2 = 0 := by rw [changesF_ok hr hf]
    have h2 := (calm_other h1).2
    have h3 : firstOrderF L = (firstOrd L, 0) := by simp [firstOrderF, hr]
    by_cases h0 : L.length = 0
    · have ho : ordOk L [] = true := ordOk_iff.2 ⟨by simp [h0], fun i hi => absurd hi (by simp)⟩
      rw [calmF_nil hr h0] at h2 ⊢
      exact ⟨by simp [isOrderF, hr, ho], by rw [changesF_ok hr ho]; rfl, h3, h1, h2⟩
    · have hk := calm_ok (show 0 < L.length by omega) hr
      have hl := (ordOk_iff.1 hk.1).1
      rw [calmF_ok hr (by omega)] at h2 ⊢
      refine ⟨by simp [isOrderF, hr, hk.1], ?_, h3, h1, h2⟩
      rw [changesF_ok hr hk.1, hl, hk.2]
end Go.Proofs.Ytecfkomijaakhaa
