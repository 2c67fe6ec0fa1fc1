/- The plain laws of FnOrders: what remains, what stands ahead of what, the first order is one. No walks. -/
import Derived.Test.YtecfkomijaakhaaOrM
namespace Go.Proofs.Ytecfkomijaakhaa
open Go.RowKit

/-! ### What remains -/
theorem rem_all (L : List Step) : ∀ k, remSt L [] k = some (sumN (fun i => (stepAt L i).minutes) k)
  | 0 => rfl
  | k + 1 => by rw [remSt_add (rem_all L k) (hasI_nil _), sumN]
theorem rem_is {L : List Step} {D : List Int} : ∀ k s, remSt L D k = some s → s = sumN (fun i => if (i : Int) ∈ D then 0 else (stepAt L i).minutes) k := by
  intro k
  induction k with
  | zero => intro s h; simp only [remSt, Option.some.injEq] at h; rw [← h]; rfl
  | succ k ih =>
    intro s h
    cases e : remSt L D k with
    | none => rw [remSt, e] at h; cases h
    | some z =>
      have h1 := ih z e
      rw [sumN, ← h1]
      cases hh : hasI D k
      · rw [remSt_add e hh] at h
        have h2 : ¬ (k : Int) ∈ D := hasI_no.1 hh
        rw [if_neg h2]; injection h with h; exact h.symm
      · have h2 : (k : Int) ∈ D := hasI_iff.1 hh
        rw [if_pos h2]
        cases hd : doneIn (stepAt L k) D
        · rw [remSt_no e hh hd] at h; cases h
        · rw [remSt_ok e hh hd] at h; injection h with h; omega
def totK (L : List Step) (D : List Int) (r : Int) : Nat → Int
  | 0 => r
  | k + 1 => totK L D r k + (stepAt L (intsAt D k).toNat).minutes
theorem rises_lt {n : Int} {D : List Int} (h : risesN n D = true) : ∀ d j, j + d + 1 < D.length → intsAt D j < intsAt D (j + d + 1) := by
  have h1 := risesN_iff.1 h
  intro d
  induction d with
  | zero => intro j hj; have := (h1 (j + 1) hj).2.2 (by omega); simpa using this
  | succ d ih =>
    intro j hj
    have h2 := ih j (by omega)
    have h3 := (h1 (j + d + 1 + 1) (by omega)).2.2 (by omega)
    rw [Nat.add_sub_cancel] at h3
    rw [show j + (d + 1) + 1 = j + d + 1 + 1 by omega]; omega
theorem rises_part {n : Nat} {D : List Int} (h : risesN n D = true) : PartP n D := by
  have h1 := risesN_iff.1 h
  refine ⟨?_, fun p hp => ?_⟩
  · rw [List.nodup_iff_pairwise_ne, List.pairwise_iff_getElem]
    intro i j hi hj hij e
    have := rises_lt h (j - i - 1) i (by omega)
    rw [show i + (j - i - 1) + 1 = j by omega, intsAt_lt hi, intsAt_lt hj] at this
    omega
  · obtain ⟨i, hi, rfl⟩ := List.mem_iff_getElem.1 hp
    have := h1 i hi
    rw [intsAt_lt hi] at this
    exact ⟨D[i].toNat, by omega, by omega⟩
theorem PartP.take {n : Nat} {P : List Int} (h : PartP n P) (k : Nat) : PartP n (P.take k) :=
  ⟨List.Sublist.nodup (List.take_sublist k P) h.nodup, fun p hp => h.lt p (List.mem_of_mem_take hp)⟩
theorem PartP.at_ {n : Nat} {P : List Int} (h : PartP n P) {k : Nat} (hk : k < P.length) : ∃ b : Nat, intsAt P k = b ∧ b < n ∧ (b : Int) ∉ P.take k ∧ P.take (k + 1) = P.take k ++ [(b : Int)] := by
  obtain ⟨b, hb, hbn⟩ := h.lt (intsAt P k) (by rw [intsAt_lt hk]; exact List.getElem_mem hk)
  have e : P.take (k + 1) = P.take k ++ [(b : Int)] := by rw [take_snoc P 0 hk, ← hb]; rfl
  refine ⟨b, hb, hbn, fun hm => ?_, e⟩
  have h1 := (h.take (k + 1)).nodup
  rw [e, List.nodup_append] at h1
  exact h1.2.2 _ hm _ (by simp) rfl
theorem tot_is {L : List Step} {D : List Int} (h : PartP L.length D) (r : Int) : ∀ k, k ≤ D.length → totK L D r k = r + sumN (fun i => if (i : Int) ∈ D.take k then (stepAt L i).minutes else 0) L.length := by
  intro k
  induction k with
  | zero =>
    intro _
    have : ∀ m, sumN (fun i => if (i : Int) ∈ D.take 0 then (stepAt L i).minutes else 0) m = 0 := by
      intro m; induction m with
      | zero => rfl
      | succ m ih => rw [sumN, ih]; simp
    rw [this, totK]; omega
  | succ k ih =>
    intro hk
    obtain ⟨b, hb, hbn, hn, e⟩ := h.at_ (show k < D.length by omega)
    rw [totK, ih (by omega), e, sumN_one _ _ b hn, if_pos hbn, hb]
    simp only [Int.toNat_natCast]; omega
theorem sumN_add (g h : Nat → Int) : ∀ n, sumN g n + sumN h n = sumN (fun i => g i + h i) n
  | 0 => rfl
  | n + 1 => by rw [sumN, sumN, sumN, ← sumN_add g h n]; omega
theorem rem_law {L : List Step} {D : List Int} (h : (remF L D).2 = 0) : isRecipe L = true ∧ PartP L.length D ∧ remF L [] = (totK L D (remF L D).1 D.length, 0) ∧ (0 ≤ (remF L D).1 ∧ (remF L D).1 ≤ 2160) := by
  unfold remF at h
  split at h
  · rename_i h1
    split at h
    · rename_i h2
      cases e : remSt L D L.length with
      | none => rw [e] at h; simp at h
      | some s =>
        have hp := rises_part h2
        have hr := remF_some h1 h2 e
        have hs := rem_is _ _ e
        obtain ⟨h9, hok, _⟩ := isRecipe_iff.1 h1
        have ha := remF_some (D := []) h1 (by rw [risesN_iff]; intro i hi; simp at hi) (rem_all L L.length)
        have ht := tot_is hp s D.length (Nat.le_refl _)
        rw [List.take_length] at ht
        refine ⟨h1, hp, ?_, ?_⟩
        · rw [hr, ha]
          simp only
          rw [ht, hs, sumN_add]
          congr 1
          refine sumN_congr _ (fun i _ => ?_)
          by_cases hm : (i : Int) ∈ D
          · rw [if_pos hm, if_pos hm]; omega
          · rw [if_neg hm, if_neg hm]; omega
        · rw [hr]
          simp only
          have hb : ∀ k, k ≤ L.length → 0 ≤ sumN (fun i => if (i : Int) ∈ D then 0 else (stepAt L i).minutes) k ∧ sumN (fun i => if (i : Int) ∈ D then 0 else (stepAt L i).minutes) k ≤ 240 * k := by
            intro k
            induction k with
            | zero => intro _; simp [sumN]
            | succ k ih =>
              intro hk
              have h3 := ih (by omega)
              have h4 := (steps_bd hok (show k < L.length by omega)).1
              rw [sumN]
              split <;> omega
          have := hb L.length (Nat.le_refl _)
          rw [← hs] at this; omega
    · simp at h
  · simp at h
theorem totK_bd {L : List Step} {D : List Int} (h : isRecipe L = true) (hp : PartP L.length D) {r : Int} (hr : 0 ≤ r ∧ r ≤ 2160) : ∀ k, k ≤ D.length → 0 ≤ totK L D r k ∧ totK L D r k ≤ 2160 + 240 * k := by
  obtain ⟨_, hok, _⟩ := isRecipe_iff.1 h
  intro k
  induction k with
  | zero => intro _; simp [totK]; exact hr
  | succ k ih =>
    intro hk
    have h1 := ih (by omega)
    obtain ⟨b, hb, hbn, _⟩ := hp.at_ (show k < D.length by omega)
    have h2 := (steps_bd hok hbn).1
    rw [totK, hb]; simp only [Int.toNat_natCast]; omega
/-! ### The first order is an order -/
theorem first_ok {L : List Step} (h : isRecipe L = true) : ordOk L (firstOrd L) = true := by
  obtain ⟨_, _, hfl⟩ := isRecipe_iff.1 h
  have hg := (firstOrd_grown L).1
  rw [ordOk_iff]
  refine ⟨hfl, fun i hi => ?_⟩
  obtain ⟨b, hb, hbn⟩ := hg.mem i hi
  exact ⟨by rw [hb]; omega, hg.new i hi, hg.ready i hi⟩
/-! ### What has to be done before a step stands ahead of it -/
def placeK (L : List Step) : Nat → List Int
  | 0 => List.replicate L.length 0
  | k + 1 => (placeK L k).set (intsAt (firstOrd L) k).toNat k
theorem placeK_len (L : List Step) : ∀ k, (placeK L k).length = L.length
  | 0 => by simp [placeK]
  | k + 1 => by rw [placeK, List.length_set, placeK_len L k]
theorem place_at {L : List Step} : ∀ k, k ≤ (firstOrd L).length → ∀ q, q < k → intsAt (placeK L k) (intsAt (firstOrd L) q).toNat = q := by
  have hg := (firstOrd_grown L).1
  intro k
  induction k with
  | zero => intro _ q hq; omega
  | succ k ih =>
    intro hk q hq
    obtain ⟨b, hb, hbn⟩ := hg.mem k (by omega)
    rw [placeK, hb, intsAt_set (by rw [placeK_len]; simpa using hbn)]
    by_cases e : q = k
    · subst e; rw [hb, if_pos rfl]
    · obtain ⟨c, hc, hcn⟩ := hg.mem q (by omega)
      rw [if_neg (fun e2 => ?_), ih (by omega) q (by omega)]
      rw [hc] at e2
      have e3 : c = b := by simpa using e2
      subst e3
      have hnew := hg.new k (by omega)
      rw [hasI_no, hb] at hnew
      refine hnew ?_
      rw [← hc, intsAt_lt (show q < (firstOrd L).length by omega)]
      exact List.mem_take_iff_getElem.2 ⟨q, by omega, rfl⟩
theorem after_place {L : List Step} (h : isRecipe L = true) {i j : Nat} (hi : i < L.length) (hj : (j : Int) ∈ (stepAt L i).after) : j < L.length ∧ intsAt (placeK L L.length) j < intsAt (placeK L L.length) i := by
  obtain ⟨_, hok, hfl⟩ := isRecipe_iff.1 h
  have hg := (firstOrd_grown L).1
  have hjn := ((steps_bd hok hi).2.2.1 _ hj).2
  obtain ⟨q, hq, hqi⟩ := List.mem_iff_getElem.1 (hasI_iff.1 (firstOrd_full.1 hfl i hi))
  rw [← intsAt_lt hq] at hqi
  have hr := hg.ready q hq
  rw [hqi, doneIn_iff] at hr
  obtain ⟨r, hr1, hr2⟩ := List.mem_iff_getElem.1 (hr (j : Int) (by simpa using hj))
  rw [List.length_take] at hr1
  rw [List.getElem_take] at hr2
  have hrl : r < (firstOrd L).length := by omega
  rw [← intsAt_lt hrl] at hr2
  have p1 := place_at (L := L) (firstOrd L).length (Nat.le_refl _) q hq
  have p2 := place_at (L := L) (firstOrd L).length (Nat.le_refl _) r hrl
  rw [hqi] at p1
  rw [hr2] at p2
  simp only [Int.toNat_natCast] at p1 p2
  rw [hfl] at p1 p2
  exact ⟨by omega, by rw [p1, p2]; omega⟩
theorem anc_place {L : List Step} (h : isRecipe L = true) {i j : Nat} (hi : i < L.length) (ha : Anc L i j) : j < L.length ∧ intsAt (placeK L L.length) j < intsAt (placeK L L.length) i := by
  refine ha (fun j => j < L.length ∧ intsAt (placeK L L.length) j < intsAt (placeK L L.length) i) (fun j hj => after_place h hi hj) (fun a b hS hb => ?_)
  obtain ⟨h1, h2⟩ := after_place h hS.1 hb
  exact ⟨h1, by have := hS.2; omega⟩
theorem anc_law {L : List Step} (h : isRecipe L = true) {i k : Nat} (hi : i < L.length) (hk : k < (selBy (ancB L i) L.length).length) : ∃ j : Nat, intsAt (selBy (ancB L i) L.length) k = j ∧ j < L.length ∧ intsAt (placeK L L.length) j < intsAt (placeK L L.length) i := by
  have hm : intsAt (selBy (ancB L i) L.length) k ∈ selBy (ancB L i) L.length := by rw [intsAt_lt hk]; exact List.getElem_mem hk
  unfold selBy at hm
  rw [List.mem_map] at hm
  obtain ⟨j, hj, e⟩ := hm
  rw [List.mem_filter] at hj
  obtain ⟨h1, h2⟩ := anc_place h hi (ancB_iff.1 hj.2)
  exact ⟨j, e.symm, h1, h2⟩
end Go.Proofs.Ytecfkomijaakhaa
