/- What turning leaves as it is: the plain laws of FnFrames. No walks. -/
import Derived.Test.YtmjjlpkleapaeaaTurn
import Derived.Test.YtmjjlpkleapaeaaLens
import Derived.Test.YtmjjlpkleapaeaaClose
import Derived.Test.YtmjjlpkleapaeaaErrOf
namespace Go.Proofs.Ytmjjlpkleapaeaa
open Go.RowKit

theorem tubeOk_turn (t : Tube) : tubeOk (turnT t) = tubeOk t := by
  obtain ⟨x, y⟩ := t
  have e1 : inR (-y) (-2000) 2000 = inR y (-2000) 2000 := by simp only [inR]; rw [decide_eq_decide]; omega
  have e2 : (-y == 0) = (y == 0) := by rw [Bool.eq_iff_iff, beq_iff_eq, beq_iff_eq]; omega
  simp only [tubeOk, turnT, e1, e2]
  cases inR y (-2000) 2000 <;> cases inR x (-2000) 2000 <;> cases (x == 0) <;> cases (y == 0) <;> rfl
theorem areTubes_map {L : List Tube} (h : areTubes L = true) : areTubes (L.map turnT) = true := by
  obtain ⟨h1, h2, h3⟩ := areTubes_iff h
  refine areTubes_good (by simpa using h1) (by simpa using h2) (fun i hi => ?_)
  rw [List.length_map] at hi
  rw [map_at L hi, tubeOk_turn]
  exact h3 i hi
theorem sums_map (L : List Tube) : ∀ k, k ≤ L.length → sumX ((L.map turnT).take k) = - sumY (L.take k) ∧ sumY ((L.map turnT).take k) = sumX (L.take k) := by
  intro k
  induction k with
  | zero => intro _; simp [sumX, sumY]
  | succ k ih =>
    intro hk
    obtain ⟨h1, h2⟩ := ih (by omega)
    rw [sumX_take (L.map turnT) (by rw [List.length_map]; omega), sumY_take (L.map turnT) (by rw [List.length_map]; omega), sumX_take L (by omega), sumY_take L (by omega), map_at L (by omega), h1, h2]
    refine ⟨?_, ?_⟩
    · show -sumY (L.take k) + -(tubeAt L k).y = -(sumY (L.take k) + (tubeAt L k).y)
      omega
    · rfl
theorem sums_map_all (L : List Tube) : sumX (L.map turnT) = - sumY L ∧ sumY (L.map turnT) = sumX L := by
  have h := sums_map L L.length (Nat.le_refl _)
  rw [List.take_length] at h
  rw [show (L.map turnT).take L.length = L.map turnT from List.take_of_length_le (by simp)] at h
  exact h
theorem closed_map (L : List Tube) : closedT (L.map turnT) = closedT L := by
  obtain ⟨h1, h2⟩ := sums_map_all L
  rw [Bool.eq_iff_iff]
  simp only [closedT, h1, h2, Bool.and_eq_true, beq_iff_eq]
  omega
theorem code_map {L : List Tube} (h : areTubes L = true) : tubeCode (L.map turnT) = tubeCode L := by
  simp [tubeCode, areTubes_map h, h, closed_map]
theorem area_map (L : List Tube) : ∀ k, k ≤ L.length → areaT (L.map turnT) k = areaT L k := by
  intro k
  induction k with
  | zero => intro _; rfl
  | succ k ih =>
    intro hk
    obtain ⟨h1, h2⟩ := sums_map L k (by omega)
    rw [areaT, areaT, ih (by omega), h1, h2, map_at L (by omega)]
    simp only [turnT]
    rw [Int.neg_mul, Int.mul_neg]
    generalize sumY (List.take k L) * (tubeAt L k).x = a
    generalize sumX (List.take k L) * (tubeAt L k).y = b
    omega
theorem lens_map (L : List Tube) : lensN (L.map turnT) L.length = lensN L L.length := by
  refine ints_ext (by simp [lensN_len]) (fun i hi => ?_)
  rw [lensN_len] at hi
  rw [lensN_at _ hi, lensN_at _ hi, map_at L hi]
  unfold lenT
  congr 1
  simp only [sqT, turnT]
  rw [Int.neg_mul_neg]
  omega
/-- Turned k times. -/
theorem turnK_same : ∀ (k : Nat) (L : List Tube), areTubes L = true → areTubes (turnK k L) = true ∧ tubeCode (turnK k L) = tubeCode L ∧ areaT (turnK k L) L.length = areaT L L.length ∧ lensN (turnK k L) L.length = lensN L L.length
  | 0, L, h => ⟨h, rfl, rfl, rfl⟩
  | k + 1, L, h => by
    obtain ⟨h1, h2, h3, h4⟩ := turnK_same k (L.map turnT) (areTubes_map h)
    rw [List.length_map] at h3 h4
    rw [turnK]
    exact ⟨h1, h2.trans (code_map h), h3.trans (area_map L _ (Nat.le_refl _)), h4.trans (lens_map L)⟩
theorem turnK_add : ∀ (a b : Nat) (L : List Tube), turnK b (turnK a L) = turnK (a + b) L
  | 0, b, L => by rw [turnK, Nat.zero_add]
  | a + 1, b, L => by rw [turnK, turnK_add a b, show a + 1 + b = (a + b) + 1 by omega, turnK]
theorem turn_four (L : List Tube) : turnK 4 L = L := by
  simp only [turnK, List.map_map]
  have : (turnT ∘ turnT ∘ turnT ∘ turnT) = id := by
    funext t
    simp [turnT, Function.comp]
  rw [show ((turnT ∘ (turnT ∘ (turnT ∘ turnT)))) = id from this]
  simp
theorem turn_back {q : Nat} (hq : q ≤ 3) (L : List Tube) : turnK ((4 - q) % 4) (turnK q L) = L := by
  rw [turnK_add]
  have : q = 0 ∨ q = 1 ∨ q = 2 ∨ q = 3 := by omega
  rcases this with rfl | rfl | rfl | rfl
  · rfl
  · exact turn_four L
  · exact turn_four L
  · exact turn_four L
/-- What closes leaves no error. -/
theorem close_sums (L : List Tube) : sumX (L ++ [lastT L]) = 0 ∧ sumY (L ++ [lastT L]) = 0 := by
  unfold sumX sumY
  rw [List.foldl_append, List.foldl_append]
  simp only [List.foldl_cons, List.foldl_nil, lastT, sumX, sumY]
  omega
end Go.Proofs.Ytmjjlpkleapaeaa
