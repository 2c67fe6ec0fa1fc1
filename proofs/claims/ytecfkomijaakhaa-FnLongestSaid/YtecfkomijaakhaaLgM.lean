/- FnLongest, plain: the longest chain's sum, and that no step ends later than it is long. -/
import Derived.Test.YtecfkomijaakhaaChY
import Derived.Test.YtecfkomijaakhaaRecJ
namespace Go.Proofs.Ytecfkomijaakhaa
open Go.RowKit

theorem mx_is (u v : Int) : mx u v = max u v := by unfold mx; split <;> omega
/-- The start of b over the first k of its After. -/
def inB (L : List Step) (S : List Int) (b : Nat) : Nat → Int
  | 0 => intsAt S b
  | k + 1 => max (inB L S b k) (intsAt S (intsAt (stepAt L b).after k).toNat + mnt L (intsAt (stepAt L b).after k).toNat)
def BdS (S : List Int) (B : Int) : Prop := ∀ i, 0 ≤ intsAt S i ∧ intsAt S i ≤ B
theorem inB_bd {L : List Step} (hok : stepsOk L = true) {S : List Int} {B : Int} (h : BdS S B) {b : Nat} (hb : b < L.length) : ∀ k, k ≤ (stepAt L b).after.length → 0 ≤ inB L S b k ∧ inB L S b k ≤ B + 240
  | 0, _ => by have := h b; rw [inB]; omega
  | k + 1, hk => by
    have ih := inB_bd hok h hb k (by omega)
    obtain ⟨j0, j1⟩ := steps_after hok hb (k := k) (by omega)
    have hj := h (intsAt (stepAt L b).after k).toNat
    have hm : mnt L (intsAt (stepAt L b).after k).toNat ≤ 240 ∧ 1 ≤ mnt L (intsAt (stepAt L b).after k).toNat := by
      have := (steps_bd hok (i := (intsAt (stepAt L b).after k).toNat) (by omega)).1
      exact ⟨this.2, this.1⟩
    rw [inB]; omega
theorem stIn_is {L : List Step} (hok : stepsOk L = true) {S : List Int} (hl : S.length = L.length) {B : Int} (h : BdS S B) (hB : B ≤ 100000) {b : Nat} (hb : b < L.length) : ∀ k, k ≤ (stepAt L b).after.length → stIn L b S k = S.set b (inB L S b k)
  | 0, _ => by rw [stIn, inB, intsAt_lt (by omega), List.set_getElem_self]
  | k + 1, hk => by
    have ih := stIn_is hok hl h hB hb k (by omega)
    obtain ⟨j0, j1⟩ := steps_after hok hb (k := k) (by omega)
    obtain ⟨j, hj⟩ := Int.eq_ofNat_of_zero_le j0
    have hjl : j < L.length := by omega
    have hjb : j ≠ b := fun e => by
      subst e
      exact (steps_bd hok hb).2.2.2 (by rw [← hj, intsAt_lt (by omega)]; exact List.getElem_mem _)
    have hm := (steps_bd hok hjl).1
    have hbd := h j
    rw [stIn_succ hj, ih, intsAt_set (by omega), intsAt_set (by omega), if_pos rfl, if_neg hjb, List.set_set, inB, hj, Int.toNat_natCast, mx_is]
    have e : wrap64 (intsAt S j + (stepAt L j).minutes) = intsAt S j + mnt L j := IntWalk.wrap64_in _ ⟨by omega, by omega⟩
    rw [e]
theorem inB_le {L : List Step} {S : List Int} {b k : Nat} : ∀ q, k < q → intsAt S (intsAt (stepAt L b).after k).toNat + mnt L (intsAt (stepAt L b).after k).toNat ≤ inB L S b q
  | 0, hk => absurd hk (by omega)
  | q + 1, hk => by
    rw [inB]
    by_cases e : k = q
    · subst e; omega
    · have := inB_le (L := L) (S := S) (b := b) (k := k) q (by omega); omega
theorem inB_is (L : List Step) (S : List Int) (b : Nat) : ∀ q, inB L S b q = intsAt S b ∨ ∃ k, k < q ∧ inB L S b q = intsAt S (intsAt (stepAt L b).after k).toNat + mnt L (intsAt (stepAt L b).after k).toNat
  | 0 => Or.inl rfl
  | q + 1 => by
    rw [inB]
    by_cases e : inB L S b q ≤ intsAt S (intsAt (stepAt L b).after q).toNat + mnt L (intsAt (stepAt L b).after q).toNat
    · exact Or.inr ⟨q, by omega, by omega⟩
    · rcases inB_is L S b q with h | ⟨k, h1, h2⟩
      · exact Or.inl (by omega)
      · exact Or.inr ⟨k, by omega, by omega⟩
/-- What the table of starts is behind the first q steps of the order. -/
structure StS (L : List Step) (q : Nat) (S : List Int) : Prop where
  len : S.length = L.length
  bd : BdS S (240 * q)
  zero : ∀ i, i < L.length → (q : Int) ≤ intsAt (placeK L L.length) i → intsAt S i = 0
  le : ∀ i, i < L.length → intsAt (placeK L L.length) i < q → ∀ j, befN L j i = true → intsAt S j + mnt L j ≤ intsAt S i
  is_ : ∀ i, i < L.length → intsAt (placeK L L.length) i < q → intsAt S i = 0 ∨ ∃ j, befN L j i = true ∧ intsAt S i = intsAt S j + mnt L j
theorem stS_all {L : List Step} (h : isRecipe L = true) : ∀ q, q ≤ L.length → StS L q (stOut L q)
  | 0, _ => by
    have e : ∀ i, intsAt (stOut L 0) i = 0 := fun i => by
      rw [stOut]
      by_cases hi : i < L.length
      · rw [intsAt_lt (by simpa using hi)]; simp
      · simp [intsAt, List.getD, hi]
    exact ⟨stOut_len L 0, fun i => by rw [e]; omega, fun i _ _ => e i, fun i hi hp => by obtain ⟨r, _, _, hr⟩ := place_is h hi; omega, fun i hi hp => by obtain ⟨r, _, _, hr⟩ := place_is h hi; omega⟩
  | q + 1, hq => by
    have ih := stS_all h q (by omega)
    obtain ⟨h9, hok, hfl⟩ := isRecipe_iff.1 h
    obtain ⟨b, hb, hbn, hbp⟩ := ordPl_at h (q := q) (by omega)
    have hset : stOut L (q + 1) = (stOut L q).set b (inB L (stOut L q) b (stepAt L b).after.length) := by
      rw [stOut_succ hb, stIn_is hok ih.len ih.bd (by omega) hbn _ (Nat.le_refl _)]
    have hib := inB_bd hok ih.bd hbn _ (Nat.le_refl (stepAt L b).after.length)
    have hbl : b < (stOut L q).length := by rw [ih.len]; exact hbn
    have hat : ∀ i, intsAt (stOut L (q + 1)) i = if i = b then inB L (stOut L q) b (stepAt L b).after.length else intsAt (stOut L q) i := fun i => by
      rw [hset, intsAt_set hbl]
    have hz := ih.zero b hbn (by omega)
    have hne : ∀ i j, i < L.length → befN L j i = true → intsAt (placeK L L.length) i < ((q + 1 : Nat) : Int) → j ≠ b := fun i j hi hj hp e => by
      subst e
      have := (bef_bd h hi hj).2.2
      omega
    have hbk : ∀ j, befN L j b = true → ∃ k, k < (stepAt L b).after.length ∧ (intsAt (stepAt L b).after k).toNat = j := fun j hj => by
      obtain ⟨k, hk, e⟩ := List.mem_iff_getElem.1 (hasI_iff.1 hj)
      exact ⟨k, hk, by rw [intsAt_lt hk, e]; simp⟩
    refine ⟨stOut_len L _, fun i => ?_, fun i hi hp => ?_, fun i hi hp j hj => ?_, fun i hi hp => ?_⟩
    · rw [hat]
      split
      · omega
      · have := ih.bd i; omega
    · rw [hat, if_neg (fun e => by subst e; omega)]
      exact ih.zero i hi (by omega)
    · rw [hat, hat, if_neg (hne i j hi hj hp)]
      split
      · rename_i e
        subst e
        obtain ⟨k, hk, e⟩ := hbk j hj
        have := inB_le (L := L) (S := stOut L q) (b := i) (k := k) _ hk
        rwa [e] at this
      · rename_i e
        refine ih.le i hi ?_ j hj
        by_cases z : intsAt (placeK L L.length) i = q
        · exact absurd (place_inj h hi hbn (by omega)) e
        · omega
    · by_cases e : i = b
      · subst e
        rw [hat, if_pos rfl]
        rcases inB_is L (stOut L q) i (stepAt L i).after.length with y | ⟨k, hk, y⟩
        · exact Or.inl (by omega)
        · obtain ⟨j0, j1⟩ := steps_after hok hi (k := k) hk
          have hbf : befN L (intsAt (stepAt L i).after k).toNat i = true := by
            rw [befN, hasI_iff, Int.toNat_of_nonneg j0, intsAt_lt hk]; exact List.getElem_mem hk
          refine Or.inr ⟨_, hbf, ?_⟩
          rw [hat, if_neg (hne i _ hi hbf hp)]
          exact y
      · have hpi : intsAt (placeK L L.length) i < q := by
          by_cases z : intsAt (placeK L L.length) i = q
          · exact absurd (place_inj h hi hbn (by omega)) e
          · omega
        rw [hat, if_neg e]
        rcases ih.is_ i hi hpi with y | ⟨j, hj, y⟩
        · exact Or.inl y
        · exact Or.inr ⟨j, hj, by rw [hat, if_neg (hne i j hi hj hp)]; exact y⟩
/-- The end of a step. -/
def endK (L : List Step) (i : Nat) : Int := intsAt (stOut L L.length) i + mnt L i
theorem end_chain {L : List Step} (h : isRecipe L = true) : ∀ (f i : Nat), i < L.length → intsAt (placeK L L.length) i < f → ∃ c, Ch L (c ++ [i]) ∧ sumC L (c ++ [i]) = endK L i
  | 0, i, hi, hp => by obtain ⟨r, _, _, hr⟩ := place_is h hi; omega
  | f + 1, i, hi, hp => by
    have hS := stS_all h L.length (Nat.le_refl _)
    obtain ⟨r, hr1, _, hr⟩ := place_is h hi
    rcases hS.is_ i hi (by omega) with e | ⟨j, hj, e⟩
    · exact ⟨[], by simp [Ch, hi], by simp [sumC, endK, e]⟩
    · obtain ⟨b1, b2, b3⟩ := bef_bd h hi hj
      obtain ⟨c, h1, h2⟩ := end_chain h f j b1 (by omega)
      refine ⟨c ++ [j], ch_snoc.2 ⟨h1, hi, fun k hk => ?_⟩, ?_⟩
      · simp at hk; subst hk; exact hj
      · rw [sumC_app, h2, endK, endK, e]; simp [sumC]
theorem end_ge {L : List Step} (h : isRecipe L = true) : ∀ (n : Nat) (c : List Nat) (i : Nat), c.length = n → Ch L (c ++ [i]) → sumC L (c ++ [i]) ≤ endK L i
  | 0, c, i, hn, hc => by
    obtain rfl := List.eq_nil_of_length_eq_zero hn
    have := (stS_all h L.length (Nat.le_refl _)).bd i
    simp [sumC, endK]; omega
  | n + 1, c, i, hn, hc => by
    obtain ⟨d, j, rfl⟩ : ∃ d j, c = d ++ [j] := by
      rcases List.eq_nil_or_concat c with e | ⟨d, j, e⟩
      · subst e; simp at hn
      · exact ⟨d, j, by rw [e]; simp⟩
    obtain ⟨h1, h2, h3⟩ := ch_snoc.1 hc
    have hj := h3 j (by simp)
    have ih := end_ge h n d j (by simpa using hn) h1
    obtain ⟨r, hr1, _, hr⟩ := place_is h h2
    have := (stS_all h L.length (Nat.le_refl _)).le i h2 (by omega) j hj
    rw [sumC_app]
    simp only [sumC]
    unfold endK at ih ⊢
    omega
theorem long_ge {L : List Step} (h : isRecipe L = true) (c : List Nat) (hc : Ch L c) : sumC L c ≤ longG L := by
  have hT := most_tab h
  cases c with
  | nil => exact gOver_nn _ _
  | cons i c => exact Int.le_trans (ch_le hT c i hc) (gOver_le hc.1)
theorem long_is {L : List Step} (h : isRecipe L = true) : Ch L (longC L) ∧ sumC L (longC L) = longG L := by
  obtain ⟨_, hok, hfl⟩ := isRecipe_iff.1 h
  have hm : ∀ i, i < L.length → 1 ≤ mnt L i := fun i hi => (steps_bd hok hi).1.1
  have hT := most_tab h
  have hg0 := gOver_nn (intsAt (mostT L L.length)) L.length
  obtain ⟨g1, _, g3, _⟩ := go_main hT hm (longG L).toNat none (longG L) rfl (by unfold longG; omega)
  exact ⟨g1, g3⟩
/-- The last end over the steps below k. -/
def lastE (L : List Step) : Nat → Int
  | 0 => 0
  | k + 1 => max (lastE L k) (endK L k)
theorem lastE_le {L : List Step} {B : Int} (h0 : 0 ≤ B) : ∀ q, (∀ i, i < q → endK L i ≤ B) → lastE L q ≤ B
  | 0, _ => h0
  | q + 1, h => by
    have := lastE_le h0 q (fun i hi => h i (by omega))
    have := h q (by omega)
    rw [lastE]; omega
theorem lastE_ge {L : List Step} {i : Nat} : ∀ q, i < q → endK L i ≤ lastE L q
  | 0, hi => absurd hi (by omega)
  | q + 1, hi => by
    rw [lastE]
    by_cases e : i = q
    · subst e; omega
    · have := lastE_ge (L := L) (i := i) q (by omega); omega
theorem lastE_nn (L : List Step) : ∀ q, 0 ≤ lastE L q
  | 0 => Int.le_refl _
  | q + 1 => by have := lastE_nn L q; rw [lastE]; omega
/-- No step ends later than the longest chain is long, and one ends then. -/
theorem last_law {L : List Step} (h : isRecipe L = true) : lastE L L.length = longG L := by
  obtain ⟨hc, hs⟩ := long_is h
  have hg0 : 0 ≤ longG L := gOver_nn _ _
  have h1 : lastE L L.length ≤ longG L := lastE_le hg0 _ (fun i hi => by
    obtain ⟨r, hr1, _, hr⟩ := place_is h hi
    obtain ⟨c, k1, k2⟩ := end_chain h L.length i hi (by omega)
    rw [← k2]; exact long_ge h _ k1)
  have h2 : longG L ≤ lastE L L.length := by
    rcases List.eq_nil_or_concat (longC L) with e | ⟨d, j, e⟩
    · rw [e] at hs
      have : 0 = longG L := hs
      have := lastE_nn L L.length
      omega
    · have e2 : longC L = d ++ [j] := by rw [e]; simp
      rw [e2] at hc hs
      have k1 := end_ge h _ d j rfl hc
      have k2 := lastE_ge (L := L) (i := j) L.length (ch_snoc.1 hc).2.1
      omega
  omega
/-- What stands behind one another in the longest chain. -/
theorem ch_next {L : List Step} : ∀ {c : List Nat} {k : Nat}, Ch L c → k + 1 < c.length → befN L (natAt c k) (natAt c (k + 1)) = true
  | [], k, _, hk => by simp at hk
  | [a], k, _, hk => by simp at hk
  | a :: b :: c, 0, hc, _ => hc.2.1 b rfl
  | a :: b :: c, k + 1, hc, hk => ch_next (c := b :: c) (k := k) hc.2.2 (by simpa using hk)
theorem end_bd {L : List Step} (h : isRecipe L = true) {i : Nat} (hi : i < L.length) : 0 ≤ intsAt (stOut L L.length) i ∧ intsAt (stOut L L.length) i ≤ 2160 := by
  have := (stS_all h L.length (Nat.le_refl _)).bd i
  have h9 := (isRecipe_iff.1 h).1
  omega
end Go.Proofs.Ytecfkomijaakhaa
