/- The plain laws of FnReserved: reserved and released again, used, filled. No walks. -/
import Derived.Test.YtngphnfbfednnaaStockC
namespace Go.Proofs.Ytngphnfbfednnaa
open Go.RowKit

/-- A change that went well: the bin, and what the stock is behind it. -/
theorem code_zero {L : List Bin} {c : ByteArray} {p : Int} (h : binCode L c p = 0) : isStock L = true ∧ (1 ≤ p ∧ p ≤ 100000) ∧ binIx L c = some (ix L c) ∧ ix L c < L.length := by
  rcases binCode_cases L c p with ⟨_, e⟩ | ⟨_, _, e⟩ | ⟨_, _, _, e⟩ | ⟨i, h1, h2, h3, _⟩
  · omega
  · omega
  · omega
  · have hx : ix L c = i := ix_some h3
    exact ⟨h1, inR_iff.1 h2, by rw [hx]; exact h3, by rw [hx]; exact (binIx_some.1 h3).1⟩
theorem code_set {L : List Bin} {c : ByteArray} {p q a r : Int} (h : binCode L c p = 0) (hq : 1 ≤ q ∧ q ≤ 100000) (ha : 0 ≤ r ∧ r ≤ a ∧ a ≤ 100000) :
    binCode (binSet L (ix L c) a r) c q = 0 ∧ ix (binSet L (ix L c) a r) c = ix L c ∧ binAt (binSet L (ix L c) a r) (ix L c) = { binAt L (ix L c) with amount := a, reserved := r } ∧ isStock (binSet L (ix L c) a r) = true := by
  obtain ⟨h1, _, h3, h4⟩ := code_zero h
  have e1 : isStock (binSet L (ix L c) a r) = true := isStock_set h1 h4 ha
  have e2 : binIx (binSet L (ix L c) a r) c = some (ix L c) := by rw [binSet_ix _ _ _ _ h4]; exact h3
  refine ⟨?_, ix_some e2, by rw [binSet_at _ _ _ _ _ h4, if_pos rfl], e1⟩
  have e3 : inR q 1 100000 = true := inR_iff.2 hq
  simp [binCode, e1, e2, e3]
theorem code_one {L : List Bin} {c : ByteArray} {p : Int} (h : binCode L c p = 0) : binCode L c 1 = 0 := by
  obtain ⟨h1, _, h3, _⟩ := code_zero h
  have : inR 1 1 100000 = true := inR_iff.2 (by omega)
  simp [binCode, h1, h3, this]
theorem reserve_cases (L : List Bin) (c : ByteArray) (p : Int) : (reserve L c p).2 ≠ 0 ∨ (binCode L c p = 0 ∧ (binAt L (ix L c)).reserved + p ≤ (binAt L (ix L c)).amount ∧ reserve L c p = (binSet L (ix L c) (binAt L (ix L c)).amount ((binAt L (ix L c)).reserved + p), 0)) := by
  unfold reserve
  split
  · rename_i h
    split
    · exact .inl (by simp)
    · exact .inr ⟨h, by omega, rfl⟩
  · rename_i h; exact .inl h
theorem release_cases (L : List Bin) (c : ByteArray) (p : Int) : (release L c p).2 ≠ 0 ∨ (binCode L c p = 0 ∧ p ≤ (binAt L (ix L c)).reserved ∧ release L c p = (binSet L (ix L c) (binAt L (ix L c)).amount ((binAt L (ix L c)).reserved - p), 0)) := by
  unfold release
  split
  · rename_i h
    split
    · exact .inl (by simp)
    · exact .inr ⟨h, by omega, rfl⟩
  · rename_i h; exact .inl h
theorem fill_cases (L : List Bin) (c : ByteArray) (p : Int) : (fillBin L c p).2 ≠ 0 ∨ (binCode L c p = 0 ∧ (binAt L (ix L c)).amount + p ≤ 100000 ∧ fillBin L c p = (binSet L (ix L c) ((binAt L (ix L c)).amount + p) (binAt L (ix L c)).reserved, 0)) := by
  unfold fillBin
  split
  · rename_i h
    split
    · exact .inl (by simp)
    · exact .inr ⟨h, by omega, rfl⟩
  · rename_i h; exact .inl h
/-- What was released can be reserved again. -/
theorem release_back {L : List Bin} {c : ByteArray} {p : Int} (h : (release L c p).2 = 0) : reserve (release L c p).1 c p = (L, 0) := by
  rcases release_cases L c p with h1 | ⟨h1, h2, e⟩
  · exact absurd h h1
  · obtain ⟨g1, g2, g3, g4⟩ := code_zero h1
    have gb := stock_bin g1 g4
    obtain ⟨k1, k2, k3, _⟩ := code_set (q := p) (a := (binAt L (ix L c)).amount) (r := (binAt L (ix L c)).reserved - p) h1 g2 (by omega)
    rw [e]
    simp only [reserve, k1, k2, k3, if_true]
    rw [if_neg (by omega), binSet_set _ _ _ _ _ _ g4, show (binAt L (ix L c)).reserved - p + p = (binAt L (ix L c)).reserved by omega, binSet_same _ _ g4]
theorem fill_more {L : List Bin} {c : ByteArray} {p : Int} (h : (fillBin L c p).2 = 0) : freePieces (fillBin L c p).1 c = ((freePieces L c).1 + p, 0) ∧ (freePieces L c).2 = 0 ∧ 0 ≤ (freePieces L c).1 ∧ (freePieces L c).1 ≤ 100000 ∧ 1 ≤ p ∧ p ≤ 100000 := by
  rcases fill_cases L c p with h1 | ⟨h1, h2, e⟩
  · exact absurd h h1
  · obtain ⟨g1, g2, g3, g4⟩ := code_zero h1
    have gb := stock_bin g1 g4
    obtain ⟨k1, k2, k3, _⟩ := code_set (q := 1) (a := (binAt L (ix L c)).amount + p) (r := (binAt L (ix L c)).reserved) h1 (by omega) (by omega)
    rw [e]
    simp only [freePieces, k1, k2, k3, code_one h1, if_true]
    refine ⟨by rw [show (binAt L (ix L c)).amount + p - (binAt L (ix L c)).reserved = (binAt L (ix L c)).amount - (binAt L (ix L c)).reserved + p by omega], trivial, by omega, by omega, g2⟩
theorem reserve_back {L : List Bin} {c : ByteArray} {p : Int} (h : (reserve L c p).2 = 0) :
    release (reserve L c p).1 c p = (L, 0) ∧ (usePieces (reserve L c p).1 c p).2 = 0 ∧ freePieces (usePieces (reserve L c p).1 c p).1 c = ((freePieces L c).1 - p, 0) ∧ isStock (reserve L c p).1 = true ∧
    0 ≤ (freePieces L c).1 ∧ (freePieces L c).1 ≤ 100000 ∧ 1 ≤ p ∧ p ≤ 100000 := by
  rcases reserve_cases L c p with h1 | ⟨h1, h2, e⟩
  · exact absurd h h1
  · obtain ⟨g1, g2, g3, g4⟩ := code_zero h1
    have gb := stock_bin g1 g4
    obtain ⟨k1, k2, k3, k4⟩ := code_set (q := p) (a := (binAt L (ix L c)).amount) (r := (binAt L (ix L c)).reserved + p) h1 g2 (by omega)
    rw [e]
    have hu : usePieces (binSet L (ix L c) (binAt L (ix L c)).amount ((binAt L (ix L c)).reserved + p)) c p = (binSet L (ix L c) ((binAt L (ix L c)).amount - p) (binAt L (ix L c)).reserved, 0) := by
      simp only [usePieces, k1, k2, k3, if_true]
      rw [if_neg (by omega), binSet_set _ _ _ _ _ _ g4, show (binAt L (ix L c)).reserved + p - p = (binAt L (ix L c)).reserved by omega]
    obtain ⟨m1, m2, m3, _⟩ := code_set (q := 1) (a := (binAt L (ix L c)).amount - p) (r := (binAt L (ix L c)).reserved) h1 (by omega) (by omega)
    refine ⟨?_, by rw [hu], ?_, k4, ?_⟩
    · simp only [release, k1, k2, k3, if_true]
      rw [if_neg (by omega), binSet_set _ _ _ _ _ _ g4, show (binAt L (ix L c)).reserved + p - p = (binAt L (ix L c)).reserved by omega, binSet_same _ _ g4]
    · rw [hu]
      simp only [freePieces, m1, m2, m3, code_one h1, if_true]
      rw [show (binAt L (ix L c)).amount - p - (binAt L (ix L c)).reserved = (binAt L (ix L c)).amount - (binAt L (ix L c)).reserved - p by omega]
    · simp only [freePieces, code_one h1, if_true]
      omega
/-! ### Codes of bins stay short -/
theorem release_fit {L : List Bin} {c : ByteArray} {p : Int} (hf : binFit L) : binFit (release L c p).1 := by
  unfold release
  split
  · rename_i h
    split
    · intro i hi; simp at hi
    · exact binFit_set hf (code_zero h).2.2.2 _ _
  · intro i hi; simp at hi
theorem reserve_fit {L : List Bin} {c : ByteArray} {p : Int} (hf : binFit L) : binFit (reserve L c p).1 := by
  unfold reserve
  split
  · rename_i h
    split
    · intro i hi; simp at hi
    · exact binFit_set hf (code_zero h).2.2.2 _ _
  · intro i hi; simp at hi
theorem fill_fit {L : List Bin} {c : ByteArray} {p : Int} (hf : binFit L) : binFit (fillBin L c p).1 := by
  unfold fillBin
  split
  · rename_i h
    split
    · intro i hi; simp at hi
    · exact binFit_set hf (code_zero h).2.2.2 _ _
  · intro i hi; simp at hi
theorem use_fit {L : List Bin} {c : ByteArray} {p : Int} (hf : binFit L) : binFit (usePieces L c p).1 := by
  unfold usePieces
  split
  · rename_i h
    split
    · intro i hi; simp at hi
    · exact binFit_set hf (code_zero h).2.2.2 _ _
  · intro i hi; simp at hi
end Go.Proofs.Ytngphnfbfednnaa
