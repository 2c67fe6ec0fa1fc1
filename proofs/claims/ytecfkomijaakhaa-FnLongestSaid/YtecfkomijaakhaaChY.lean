/- Chains: the walk of LongestChain in the reference. -/
import Derived.Test.YtecfkomijaakhaaChX
namespace Go.Proofs.Ytecfkomijaakhaa
open Go.RowKit

noncomputable def longF (L : List Step) : List Int × Int × Int := if isRecipe L = true then (intN (longC L), longG L, 0) else ([], 0, 1)
theorem longF_bad {L : List Step} (h : isRecipe L = false) : longF L = ([], 0, 1) := by simp [longF, h]
theorem longF_ok {L : List Step} (h : isRecipe L = true) : longF L = (intN (longC L), longG L, 0) := by simp [longF, h]
theorem sumC_bd {L : List Step} (h : stepsOk L = true) : ∀ c, Ch L c → 0 ≤ sumC L c ∧ sumC L c ≤ 240 * c.length
  | [], _ => by simp [sumC]
  | i :: c, hc => by
    have h1 := sumC_bd h c hc.2.2
    have h2 : 1 ≤ mnt L i ∧ mnt L i ≤ 240 := (steps_bd h hc.1).1
    rw [sumC, List.length_cons]; omega
theorem sumC_app (L : List Step) : ∀ c d, sumC L (c ++ d) = sumC L c + sumC L d
  | [], d => by simp [sumC]
  | i :: c, d => by rw [List.cons_append, sumC, sumC, sumC_app L c d]; omega
theorem sumC_take (L : List Step) {c : List Nat} {j : Nat} (h : j < c.length) : sumC L (c.take (j + 1)) = sumC L (c.take j) + mnt L (natAt c j) := by
  rw [List.take_succ_eq_append_getElem h, sumC_app, natAt_lt h]; simp [sumC]
theorem ch_take {L : List Step} : ∀ (c : List Nat) (j : Nat), Ch L c → Ch L (c.take j)
  | [], j, _ => by simp [Ch]
  | i :: c, 0, _ => by simp [Ch]
  | i :: c, j + 1, hc => by
    refine ⟨hc.1, fun k hk => hc.2.1 k ?_, ch_take c j hc.2.2⟩
    cases j with
    | zero => simp at hk
    | succ j => cases c with
      | nil => simp at hk
      | cons a c => simpa using hk
theorem ch_mem {L : List Step} : ∀ {c : List Nat}, Ch L c → ∀ i ∈ c, i < L.length
  | i :: c, hc, j, hj => by
    rcases List.mem_cons.1 hj with rfl | hj
    · exact hc.1
    · exact ch_mem hc.2.2 j hj
/-- What the reference has behind some chains. -/
def refF (L : List Step) (CC : List (List Nat)) : List Nat × Int := CC.foldl (refSt L) ([], 0)
theorem refF_snoc (L : List Step) (CC : List (List Nat)) (c : List Nat) : refF L (CC ++ [c]) = refSt L (refF L CC) c := by simp [refF, List.foldl_append]
def preCh (L : List Step) (i k : Nat) : List (List Nat) := allCh L i ++ (chainsN L L.length i).take k
theorem preCh_zero (L : List Step) (i : Nat) : preCh L i 0 = allCh L i := by simp [preCh]
theorem preCh_succ (L : List Step) {i k : Nat} (h : k < (chainsN L L.length i).length) : preCh L i (k + 1) = preCh L i k ++ [(chainsN L L.length i).getD k []] := by
  rw [preCh, preCh, List.take_succ_eq_append_getElem h, List.append_assoc, List.getD, List.getElem?_eq_getElem h]; rfl
theorem preCh_all (L : List Step) (i : Nat) : preCh L i (chainsN L L.length i).length = allCh L (i + 1) := by rw [preCh, List.take_length, allCh_succ]
theorem preCh_sound {L : List Step} (h : isRecipe L = true) {i k : Nat} (hi : i < L.length) : ∀ c ∈ preCh L i k, Ch L c ∧ c.length ≤ L.length := by
  intro c hc
  rw [preCh, List.mem_append] at hc
  rcases hc with hc | hc
  · simp only [allCh, List.mem_flatMap, List.mem_range] at hc
    obtain ⟨q, hq, hc⟩ := hc
    have := chains_sound h _ q (by omega) c hc
    exact ⟨this.1, this.2.2⟩
  · have := chains_sound h _ i hi c (List.mem_of_mem_take hc)
    exact ⟨this.1, this.2.2⟩
theorem refF_bd {L : List Step} (h : isRecipe L = true) (CC : List (List Nat)) (hC : ∀ c ∈ CC, Ch L c ∧ c.length ≤ L.length) : (refF L CC).1.length ≤ 9 ∧ 0 ≤ (refF L CC).2 ∧ (refF L CC).2 ≤ 2160 := by
  obtain ⟨h9, hok, _⟩ := isRecipe_iff.1 h
  obtain ⟨r1, r2, _⟩ := ref_inv (L := L) CC [] ([], 0) rfl (Or.inl rfl) (fun d hd => by cases hd)
  rw [List.nil_append] at r2
  have key : Ch L (refF L CC).1 ∧ (refF L CC).1.length ≤ L.length := by
    rcases r2 with e | e
    · rw [refF, e]; exact ⟨trivial, Nat.zero_le _⟩
    · exact hC _ e
  have hb := sumC_bd hok _ key.1
  rw [show (refF L CC).2 = sumC L (refF L CC).1 from r1]
  omega
theorem allCh_sound {L : List Step} (h : isRecipe L = true) {i : Nat} (hi : i ≤ L.length) : ∀ c ∈ allCh L i, Ch L c ∧ c.length ≤ L.length := by
  intro c hc
  simp only [allCh, List.mem_flatMap, List.mem_range] at hc
  obtain ⟨q, hq, hc⟩ := hc
  have := chains_sound h _ q (by omega) c hc
  exact ⟨this.1, this.2.2⟩
theorem long_bd {L : List Step} (h : isRecipe L = true) : (longC L).length ≤ 9 ∧ 0 ≤ longG L ∧ longG L ≤ 2160 := by
  have := refF_bd h _ (allCh_sound h (Nat.le_refl _))
  rwa [refF, long_law h] at this
theorem longF_len (L : List Step) : (longF L).1.length ≤ 4194304 := by
  unfold longF
  split
  · rename_i h
    have := (long_bd h).1
    rw [intN_len]; omega
  · simp
theorem chI_getD (L : List Step) (f s k : Nat) : (chI L f s).getD k [] = intN ((chainsN L f s).getD k []) := by
  simp only [chI, List.getD, List.getElem?_map]
  cases (chainsN L f s)[k]? <;> rfl
end Go.Proofs.Ytecfkomijaakhaa
