/- The plain laws of FnStocks: what is missing, what is ordered, what is merged. No walks. -/
import Derived.Test.YtngphnfbfednnaaOrdM
import Derived.Test.YtngphnfbfednnaaResM
import Derived.Test.YtngphnfbfednnaaMrgM
namespace Go.Proofs.Ytngphnfbfednnaa
open Go.RowKit

theorem allIn_set {M : List Bin} {i : Nat} (hi : i < M.length) (a r : Int) (cs : List ByteArray) : allIn (binSet M i a r) cs = allIn M cs := by
  unfold allIn; congr 1; funext c; rw [binSet_ix _ _ _ _ hi]
theorem miss_nil : ∀ (cs : List ByteArray) (M : List Bin), missGo M cs = [] ↔ (allIn M cs = true ∧ (resGo M cs).isSome = true) := by
  intro cs
  induction cs with
  | nil => intro M; simp [missGo, allIn, resGo]
  | cons c cs ih =>
    intro M
    cases e : binIx M c with
    | none => simp [missGo, e, allIn]
    | some i =>
      have hi := (binIx_some.1 e).1
      have hx : ix M c = i := ix_some e
      by_cases hr : (binAt M i).reserved = (binAt M i).amount
      · simp [missGo, e, resGo, hx, hr]
      · have := ih (binSet M i (binAt M i).amount ((binAt M i).reserved + 1))
        rw [allIn_set hi] at this
        have h2 : allIn M (c :: cs) = allIn M cs := by simp [allIn, e]
        simp only [missGo, e, resGo, hx, if_neg hr, h2]
        exact this
theorem miss_law {L : List Bin} {cs : List ByteArray} (h : (missing L cs).2 = 0) : (reserveAll L cs).2 = 0 ↔ (missing L cs).1.length = 0 := by
  unfold missing at h ⊢
  split at h
  · simp at h
  · split at h
    · simp at h
    · rename_i h1 h2
      rw [if_neg h1, if_neg h2]
      unfold reserveAll
      rw [if_neg h1, if_neg h2]
      have hk := miss_nil cs L
      rw [List.length_eq_zero_iff]
      show _ ↔ missGo L cs = []
      rw [hk]
      cases h3 : allIn L cs
      · simp
      · cases h4 : resGo L cs <;> simp
/-! ### What is ordered -/
theorem code_inj {L : List Bin} (h : isStock L = true) {i j : Nat} (hi : i < L.length) (hj : j < L.length) (e : (binAt L i).code = (binAt L j).code) : i = j := by
  rcases Nat.lt_trichotomy i j with h1 | h1 | h1
  · have := stock_rise h (j - i - 1) i (by omega)
    rw [show i + (j - i - 1) + 1 = j by omega] at this
    exact absurd e (codeLt_ne this)
  · exact h1
  · have := stock_rise h (i - j - 1) j (by omega)
    rw [show j + (i - j - 1) + 1 = i by omega] at this
    exact absurd e.symm (codeLt_ne this)
theorem ord_at {L : List Bin} {i : Nat} (hi : i < (ordCodes L).length) : ∃ j, j < L.length ∧ 0 < lacks (binAt L j) ∧ strsAt (ordCodes L) i = (binAt L j).code ∧ intsAt (ordPieces L) i = ceilI (lacks (binAt L j)) (binAt L j).lot * (binAt L j).lot := by
  have hi2 : i < (L.filter wants).length := by simpa [ordCodes] using hi
  have hm : (L.filter wants)[i] ∈ L.filter wants := List.getElem_mem hi2
  have hm2 := hm
  rw [List.mem_filter] at hm2
  obtain ⟨j, hj, ej⟩ := List.mem_iff_getElem.1 hm2.1
  refine ⟨j, hj, ?_, ?_, ?_⟩
  · rw [binAt_lt hj, ej]; simpa [wants] using hm2.2
  · rw [strsAt_lt hi, binAt_lt hj, ej]; simp [ordCodes]
  · rw [intsAt_lt (by simpa [ordPieces] using hi2), binAt_lt hj, ej]; simp [ordPieces]
theorem ceil_law {a b : Int} (hb : 0 < b) : a ≤ ceilI a b * b ∧ ceilI a b * b < a + b ∧ (ceilI a b * b).tmod b = 0 := by
  have h1 := Int.mul_ediv_add_emod (a + b - 1) b
  have h2 := Int.emod_nonneg (a + b - 1) (show b ≠ 0 by omega)
  have h3 := Int.emod_lt_of_pos (a + b - 1) hb
  rw [show (a + b - 1) / b = ceilI a b from rfl, Int.mul_comm] at h1
  refine ⟨by omega, by omega, Int.mul_tmod_left _ _⟩
/-- Each bin that is ordered: its free pieces, and how many are ordered. -/
theorem ord_law {L : List Bin} (h : isStock L = true) {i : Nat} (hi : i < (ordCodes L).length) :
    (freePieces L (strsAt (ordCodes L) i)).2 = 0 ∧ (0 ≤ (freePieces L (strsAt (ordCodes L) i)).1 ∧ (freePieces L (strsAt (ordCodes L) i)).1 ≤ 100000) ∧ (0 ≤ intsAt (ordPieces L) i ∧ intsAt (ordPieces L) i ≤ 300000) ∧
    ∀ k, k < L.length → (binAt L k).code = strsAt (ordCodes L) i →
      ¬ ((freePieces L (strsAt (ordCodes L) i)).1 + intsAt (ordPieces L) i < (binAt L k).point) ∧ (intsAt (ordPieces L) i).tmod (binAt L k).lot = 0 ∧ ¬ ((binAt L k).point ≤ (freePieces L (strsAt (ordCodes L) i)).1 + intsAt (ordPieces L) i - (binAt L k).lot) := by
  obtain ⟨j, hj, hw, hc, hp⟩ := ord_at hi
  have hb := stock_bin h hj
  have hx : binIx L (binAt L j).code = some j := binIx_some.2 ⟨hj, rfl, fun k hk e => by have := code_inj h (by omega) hj e; omega⟩
  have hz : binCode L (binAt L j).code 1 = 0 := by
    have : inR 1 1 100000 = true := inR_iff.2 (by omega)
    simp [binCode, h, hx, this]
  have hfp : freePieces L (binAt L j).code = ((binAt L j).amount - (binAt L j).reserved, 0) := by rw [freePieces, if_pos hz, ix_some hx]
  rw [hc, hfp, hp]
  obtain ⟨c1, c2, c3⟩ := ceil_law (a := lacks (binAt L j)) (b := (binAt L j).lot) (by omega)
  have c4 := (ceil_bd hw (show 0 < (binAt L j).lot by omega)).2.2.1
  have hl : lacks (binAt L j) = (binAt L j).point - ((binAt L j).amount - (binAt L j).reserved) := rfl
  refine ⟨rfl, by simp only; omega, by omega, fun k hk e => ?_⟩
  have := code_inj h hk hj e
  subst this
  simp only
  refine ⟨by omega, c3, by omega⟩
/-! ### The sum of all amounts -/
theorem amounts_take (L : List Bin) {k : Nat} (h : k < L.length) : amounts (L.take (k + 1)) = amounts (L.take k) + (binAt L k).amount := by
  rw [bin_snoc L h]; simp [amounts]
theorem amounts_bd {L : List Bin} (h : isStock L = true) : ∀ k, k ≤ L.length → 0 ≤ amounts (L.take k) ∧ amounts (L.take k) ≤ 100000 * k := by
  intro k
  induction k with
  | zero => intro _; simp [amounts]
  | succ k ih =>
    intro hk
    have := ih (by omega)
    have hb := stock_bin h (show k < L.length by omega)
    rw [amounts_take L (by omega)]; omega
theorem merge_law {A B : List Bin} (h : (mergeF A B).2 = 0) : isStock A = true ∧ isStock B = true ∧ isStock (mergeF A B).1 = true ∧ amounts (mergeF A B).1 = amounts A + amounts B := by
  unfold mergeF at h ⊢
  split at h
  · simp at h
  · split at h
    · simp at h
    · split at h
      · simp at h
      · rename_i h1 h2 h3
        rw [if_neg h1, if_neg h2, if_neg h3]
        exact ⟨by simpa using h1, by simpa using h2, by simpa using h3, merge_amounts _ A B (Nat.le_refl _)⟩
theorem mergeF_fit {A B : List Bin} (ha : binFit A) (hb : binFit B) : binFit (mergeF A B).1 := by
  unfold mergeF
  split
  · intro i hi; simp at hi
  · split
    · intro i hi; simp at hi
    · split
      · intro i hi; simp at hi
      · exact merge_fit ha hb
end Go.Proofs.Ytngphnfbfednnaa
