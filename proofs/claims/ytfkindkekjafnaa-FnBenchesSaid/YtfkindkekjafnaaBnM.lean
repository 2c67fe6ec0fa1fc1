/- The plain laws of FnBenches. No walks. -/
import Derived.Test.YtfkindkekjafnaaLateM
import Derived.Test.YtfkindkekjafnaaLateJobs
import Derived.Test.YtfkindkekjafnaaTwo
import Derived.Test.YtfkindkekjafnaaAddJob
namespace Go.Proofs.Ytfkindkekjafnaa
open Go.RowKit

theorem late_len {L : List Job} {P : List Int} (h : PartP L.length P) : ∀ k, k ≤ P.length → ((lateGo L (lateOf L P) (P.take k)).length : Int) = costGo (stCnt L) 0 (P.take k) := by
  intro k
  induction k with
  | zero => intro _; simp [lateGo, costGo]
  | succ k ih =>
    intro hk
    have h1 := ih (by omega)
    have h2 := late_at h (show k < P.length by omega)
    rw [costGo_take _ h (by omega)]
    by_cases hp : 0 < intsAt (lateOf L P) (intsAt P k).toNat
    · have h3 : stCnt L (maskOf (P.take k)) (intsAt P k).toNat = 1 := by rw [h2] at hp; rw [stCnt]; exact if_pos hp
      rw [lateGo_yes L _ P (by omega) hp, List.length_append, h3, ← h1]; simp
    · have h3 : stCnt L (maskOf (P.take k)) (intsAt P k).toNat = 0 := by rw [h2] at hp; rw [stCnt]; exact if_neg hp
      rw [lateGo_no L _ P (by omega) hp, h3, ← h1]; simp
theorem fewest_law {L : List Job} {P : List Int} (h : planCode L P = 0) : leastM L.length (stCnt L) 0 ≤ ((lateNames L P).1.length : Int) ∧ (fewestLate L) = (leastM L.length (stCnt L) 0, 0) ∧ areJobs L = true := by
  obtain ⟨h1, h2⟩ := planCode_zero h
  obtain ⟨h3, h4⟩ := planOk_part h2
  have h5 := late_len h3 P.length (Nat.le_refl _)
  rw [List.take_length] at h5
  refine ⟨?_, by simp [fewestLate, h1], h1⟩
  have e : (lateNames L P).1 = lateGo L (lateOf L P) P := by simp [lateNames, h]
  rw [e, h5]
  exact cost_least (fun m i => (stCnt_bd L m i).1) h3 h4
theorem bestN_is (L : List Job) : ∀ m, 0 < m → (bestN L m).2 = benchN L (bestN L m).1 := by
  intro m
  induction m with
  | zero => intro h; omega
  | succ m ih =>
    intro _
    simp only [bestN]
    split
    · rfl
    · rename_i h
      cases m with
      | zero => simp [bestN] at h
      | succ m => exact ih (by omega)
/-- The benches: which way, and the greater sum. -/
theorem two_law {L : List Job} (h : areJobs L = true) : ∃ c, (twoF L).1 = bitsN L.length c L.length ∧ (twoF L).2.1 = max (sumsN L c 0 L.length) (sumsN L c 1 L.length) ∧ (twoF L).2.2 = 0 := by
  refine ⟨(bestN L (2 ^ L.length)).1, by simp [twoF, h], ?_, by simp [twoF, h]⟩
  have := bestN_is L (2 ^ L.length) (Nat.two_pow_pos _)
  simp only [twoF, h, ↓reduceIte]
  exact this
theorem bitsN_at (n c k m : Nat) (h : k < m) : intsAt (bitsN n c m) k = (bitN n c k : Nat) := by
  rw [intsAt_lt (by rw [bitsN_len]; exact h)]
  simp [bitsN]
theorem add_law {L : List Job} {j : Job} (h : (addJob L j).2 = 0) : areJobs (addJob L j).1 = true ∧ (addJob L j).1.length = L.length + 1 ∧ jobAt (addJob L j).1 L.length = j := by
  unfold addJob at h ⊢
  split at h
  · simp at h
  · split at h
    · simp at h
    · split at h
      · simp at h
      · rename_i h1 h2 h3
        rw [if_neg h1, if_neg h2, if_neg h3]
        refine ⟨by simpa using h3, by simp, ?_⟩
        simp [jobAt, List.getD]
theorem addJob_fit {L : List Job} {j : Job} (hf : jobFit L) (hj : j.name.size ≤ maxLen) : jobFit (addJob L j).1 := by
  unfold addJob
  split
  · intro i hi; simp at hi
  · split
    · intro i hi; simp at hi
    · split
      · intro i hi; simp at hi
      · exact jobFit_append hf (jobFit_one hj)
end Go.Proofs.Ytfkindkekjafnaa
