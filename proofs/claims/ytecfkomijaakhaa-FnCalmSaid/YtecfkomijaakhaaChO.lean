/- Longest chains, plain: the program's table, and what both answer. -/
import Derived.Test.YtecfkomijaakhaaChN
namespace Go.Proofs.Ytecfkomijaakhaa
open Go.RowKit

/-! ### The program's table -/
def mostI (L : List Step) (T : List Int) (i : Nat) : Nat → List Int
  | 0 => T
  | k + 1 => if befN L i k = true then (mostI L T i k).set i (max (intsAt (mostI L T i k) i) (intsAt (mostI L T i k) k)) else mostI L T i k
def mostS (L : List Step) (T : List Int) (i : Nat) : List Int := (mostI L T i L.length).set i (intsAt (mostI L T i L.length) i + mnt L i)
/-- The table when the last m steps of the first order are done. -/
def mostT (L : List Step) : Nat → List Int
  | 0 => List.replicate L.length 0
  | m + 1 => mostS L (mostT L m) (intsAt (firstOrd L) (L.length - 1 - m)).toNat
theorem mostI_len (L : List Step) (T : List Int) (i : Nat) : ∀ q, (mostI L T i q).length = T.length
  | 0 => rfl
  | q + 1 => by rw [mostI]; split <;> simp [mostI_len L T i q]
theorem mostT_len (L : List Step) : ∀ m, (mostT L m).length = L.length
  | 0 => by simp [mostT]
  | m + 1 => by rw [mostT, mostS, List.length_set, mostI_len, mostT_len L m]
theorem bestOver_congr {L : List Step} {M N : Nat → Int} {i : Nat} : ∀ q, (∀ k, k < q → befN L i k = true → M k = N k) → bestOver L M i q = bestOver L N i q
  | 0, _ => rfl
  | q + 1, h => by
    rw [bestOver, bestOver, bestOver_congr q (fun k hk => h k (by omega))]
    split
    · rename_i hb; rw [h q (by omega) hb]
    · rfl
theorem mostI_is {L : List Step} {T : List Int} {i : Nat} (hi : i < T.length) (hb : befN L i i = false) (h0 : intsAt T i = 0) : ∀ q, mostI L T i q = T.set i (bestOver L (intsAt T) i q)
  | 0 => by
    rw [mostI, bestOver, ← h0, intsAt_lt hi, List.set_getElem_self]
  | q + 1 => by
    rw [mostI, bestOver, mostI_is hi hb h0 q]
    split
    · rename_i h
      have hne : q ≠ i := fun e => by subst e; rw [hb] at h; cases h
      rw [intsAt_set hi, intsAt_set hi, if_pos rfl, if_neg hne, List.set_set]
    · rfl
theorem mostS_is {L : List Step} {T : List Int} {i : Nat} (hi : i < T.length) (hb : befN L i i = false) (h0 : intsAt T i = 0) : mostS L T i = T.set i (bestOver L (intsAt T) i L.length + mnt L i) := by
  rw [mostS, mostI_is hi hb h0, intsAt_set hi, if_pos rfl, List.set_set]
theorem ordPl_at {L : List Step} (h : isRecipe L = true) {q : Nat} (hq : q < L.length) : ∃ b : Nat, intsAt (firstOrd L) q = b ∧ b < L.length ∧ intsAt (placeK L L.length) b = q := by
  obtain ⟨_, hok, hfl⟩ := isRecipe_iff.1 h
  obtain ⟨b, hb, hbn⟩ := (firstOrd_grown L).1.mem q (by omega)
  have p1 := place_at (L := L) (firstOrd L).length (Nat.le_refl _) q (by omega)
  rw [hb, Int.toNat_natCast, hfl] at p1
  exact ⟨b, hb, hbn, p1⟩
theorem place_inj {L : List Step} (h : isRecipe L = true) {i j : Nat} (hi : i < L.length) (hj : j < L.length) (he : intsAt (placeK L L.length) i = intsAt (placeK L L.length) j) : i = j := by
  obtain ⟨q, _, h1, h2⟩ := place_is h hi
  obtain ⟨r, _, h3, h4⟩ := place_is h hj
  have e : q = r := by omega
  subst e
  omega
theorem mostT_inv {L : List Step} (h : isRecipe L = true) : ∀ m, m ≤ L.length → ∀ i, i < L.length →
    ((L.length : Int) - m ≤ intsAt (placeK L L.length) i → intsAt (mostT L m) i = mnt L i + bestOver L (intsAt (mostT L m)) i L.length) ∧
    (intsAt (placeK L L.length) i < (L.length : Int) - m → intsAt (mostT L m) i = 0)
  | 0, _, i, hi => by
    obtain ⟨q, h1, _, h2⟩ := place_is h hi
    refine ⟨fun e => by omega, fun _ => ?_⟩
    rw [mostT, intsAt_lt (by simpa using hi)]; simp
  | m + 1, hm, i, hi => by
    obtain ⟨b, hb, hbn, hbp⟩ := ordPl_at h (q := L.length - 1 - m) (by omega)
    have h0 := (mostT_inv h m (by omega) b hbn).2 (by omega)
    have hlen := mostT_len L m
    have e : mostT L (m + 1) = (mostT L m).set b (bestOver L (intsAt (mostT L m)) b L.length + mnt L b) := by
      rw [mostT, hb, Int.toNat_natCast, mostS_is (by omega) (befN_self h hbn) h0]
    have hat : ∀ k, intsAt (mostT L (m + 1)) k = if k = b then bestOver L (intsAt (mostT L m)) b L.length + mnt L b else intsAt (mostT L m) k := fun k => by
      rw [e, intsAt_set (by omega)]
    have hcon : ∀ j, j < L.length → (L.length : Int) - m - 1 ≤ intsAt (placeK L L.length) j → bestOver L (intsAt (mostT L (m + 1))) j L.length = bestOver L (intsAt (mostT L m)) j L.length := by
      intro j hj hp
      refine bestOver_congr _ (fun k hk hbk => ?_)
      obtain ⟨_, _, h3⟩ := bef_bd h hk hbk
      rw [hat, if_neg (fun q => ?_)]
      subst q; omega
    refine ⟨fun hp => ?_, fun hp => ?_⟩
    · rw [hcon i hi (by omega), hat]
      by_cases eb : i = b
      · subst eb; rw [if_pos rfl]; omega
      · rw [if_neg eb]
        refine (mostT_inv h m (by omega) i hi).1 ?_
        by_cases z : intsAt (placeK L L.length) i = (L.length : Int) - m - 1
        · exact absurd (place_inj h hi hbn (by omega)) eb
        · omega
    · have eb : i ≠ b := fun q => by subst q; omega
      rw [hat, if_neg eb]
      exact (mostT_inv h m (by omega) i hi).2 (by omega)
theorem most_tab {L : List Step} (h : isRecipe L = true) : Tab L (intsAt (mostT L L.length)) := fun i hi => by
  obtain ⟨q, _, _, hq⟩ := place_is h hi
  exact (mostT_inv h L.length (Nat.le_refl _) i hi).1 (by omega)
/-! ### What both answer -/
def allCh (L : List Step) (q : Nat) : List (List Nat) := (List.range q).flatMap fun i => chainsN L L.length i
theorem allCh_succ (L : List Step) (q : Nat) : allCh L (q + 1) = allCh L q ++ chainsN L L.length q := by
  simp [allCh, List.range_succ, List.flatMap_append]
noncomputable def longG (L : List Step) : Int := gOver (intsAt (mostT L L.length)) L.length
noncomputable def longC (L : List Step) : List Nat := goG L (intsAt (mostT L L.length)) (longG L).toNat none (longG L)
theorem long_law {L : List Step} (h : isRecipe L = true) : (allCh L L.length).foldl (refSt L) ([], 0) = (longC L, longG L) := by
  obtain ⟨_, hok, hfl⟩ := isRecipe_iff.1 h
  have hm : ∀ i, i < L.length → 1 ≤ mnt L i := fun i hi => (steps_bd hok hi).1.1
  have hT := most_tab h
  have hg0 := gOver_nn (intsAt (mostT L L.length)) L.length
  obtain ⟨g1, _, g3, g4⟩ := go_main hT hm (longG L).toNat none (longG L) rfl (by unfold longG; omega)
  obtain ⟨r1, r2, r3⟩ := ref_inv (L := L) (allCh L L.length) [] ([], 0) rfl (Or.inl rfl) (fun d hd => by cases hd)
  rw [List.nil_append] at r2 r3
  obtain ⟨a, ha⟩ : ∃ a, a = (allCh L L.length).foldl (refSt L) ([], 0) := ⟨_, rfl⟩
  rw [← ha] at r1 r2 r3 ⊢
  have hCh : Ch L a.1 := by
    rcases r2 with e | e
    · rw [e]; trivial
    · simp only [allCh, List.mem_flatMap, List.mem_range] at e
      obtain ⟨i, hi, hc⟩ := e
      exact (chains_sound h _ i hi _ hc).1
  have hle : ∀ c, Ch L c → sumC L c ≤ longG L := fun c hc => by
    cases c with
    | nil => exact hg0
    | cons i c => exact Int.le_trans (ch_le hT c i hc) (gOver_le hc.1)
  have hmem : ∀ c, Ch L c → c ≠ [] → c ∈ allCh L L.length := fun c hc hne => by
    cases e : c.getLast? with
    | none => rw [List.getLast?_eq_none_iff] at e; exact absurd e hne
    | some s =>
      have hs : s < L.length := by
        obtain ⟨d, rfl⟩ := List.getLast?_eq_some_iff.1 e
        exact (ch_snoc.1 hc).2.1
      simp only [allCh, List.mem_flatMap, List.mem_range]
      obtain ⟨q, hq, _, hp⟩ := place_is h hs
      exact ⟨s, hs, chains_all h _ s hs (by omega) c hc e⟩
  have hlc : longC L = goG L (intsAt (mostT L L.length)) (longG L).toNat none (longG L) := rfl
  rw [← hlc] at g1 g3 g4
  have h2 : a.2 = longG L := by
    have u := hle a.1 hCh
    by_cases hne : longC L = []
    · rw [hne] at g3
      have g3' : 0 = longG L := g3
      have : 0 ≤ a.2 := by
        by_cases hn : a.1 = []
        · rw [r1, hn]; exact Int.le_refl _
        · have hs : ∀ c, Ch L c → 0 ≤ sumC L c := by
            intro c
            induction c with
            | nil => intro _; exact Int.le_refl _
            | cons i c ih => intro hc; have := ih hc.2.2; have := hm i hc.1; rw [sumC]; omega
          rw [r1]; exact hs _ hCh
      omega
    · have := (r3 _ (hmem _ g1 hne)).1
      omega
  have h1 : a.1 = longC L := by
    have u1 := g4 a.1 hCh (fun _ _ => rfl) (by omega)
    by_cases hne : longC L = []
    · refine lexL_same u1 ?_
      rw [hne]
      cases e : a.1 with
      | nil => rfl
      | cons i c =>
        exfalso
        rw [e] at hCh r1
        have hp := hm i hCh.1
        rw [hne] at g3
        have g3' : 0 = longG L := g3
        have hs : ∀ c, Ch L c → 0 ≤ sumC L c := by
          intro c
          induction c with
          | nil => intro _; exact Int.le_refl _
          | cons i c ih => intro hc; have := ih hc.2.2; have := hm i hc.1; rw [sumC]; omega
        have := hs c hCh.2.2
        rw [sumC] at r1
        omega
    · exact lexL_same u1 ((r3 _ (hmem _ g1 hne)).2 (by omega))
  exact Prod.ext h1 h2
end Go.Proofs.Ytecfkomijaakhaa
