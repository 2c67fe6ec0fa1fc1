/- The plain laws of FnKept: what is kept can be kept; all are if they can be. No walks. -/
import Derived.Test.YtgafjchbfbpmmaaPrmM
import Derived.Test.YtgafjchbfbpmmaaKeptM
namespace Go.Proofs.Ytgafjchbfbpmmaa
open Go.RowKit

def wkP (d : Int) (p : Promise) : Int := if p.day ≤ d then p.min else 0
def workS (L : List Promise) (d : Int) : Int := (L.map (wkP d)).sum
theorem workS_cons (p : Promise) (L : List Promise) (d : Int) : workS (p :: L) d = wkP d p + workS L d := by simp [workS]
theorem workS_append (L M : List Promise) (d : Int) : workS (L ++ M) d = workS L d + workS M d := by simp [workS]
theorem work_fold (d : Int) : ∀ (L : List Promise) (s : Int), L.foldl (workGo d) s = s + workS L d := by
  intro L
  induction L with
  | nil => intro s; simp [workS]
  | cons p l ih =>
    intro s
    rw [List.foldl_cons, ih, workS_cons]
    unfold workGo wkP
    split <;> omega
theorem work_eq (L : List Promise) (d : Int) : workUntil L d = workS L d := by
  unfold workUntil; rw [work_fold]; omega
theorem workS_perm {L M : List Promise} (h : L.Perm M) (d : Int) : workS L d = workS M d := by
  induction h with
  | nil => rfl
  | cons x _ ih => rw [workS_cons, workS_cons, ih]
  | swap x y l => rw [workS_cons, workS_cons, workS_cons, workS_cons]; omega
  | trans _ _ h1 h2 => rw [h1, h2]
theorem workS_sub {M L : List Promise} (h : M.Sublist L) (hp : ∀ p ∈ L, 0 ≤ p.min) (d : Int) : workS M d ≤ workS L d := by
  induction h with
  | slnil => exact Int.le_refl _
  | cons a _ ih =>
    have h1 := ih (fun p hm => hp p (by simp [hm]))
    have h2 := hp a (by simp)
    rw [workS_cons]; unfold wkP; split <;> omega
  | cons_cons a _ ih =>
    have h1 := ih (fun p hm => hp p (by simp [hm]))
    rw [workS_cons, workS_cons]; omega
theorem workS_erase (d : Int) : ∀ (N : List Promise) (x : Nat), x < N.length → workS N d = workS (N.eraseIdx x) d + wkP d (promiseAt N x) := by
  intro N
  induction N with
  | nil => intro x h; simp at h
  | cons p l ih =>
    intro x h
    cases x with
    | zero => rw [workS_cons]; simp [promiseAt]; omega
    | succ x =>
      rw [List.eraseIdx_cons_succ, workS_cons, workS_cons, ih x (by simpa using h)]
      have : promiseAt (p :: l) (x + 1) = promiseAt l x := by simp [promiseAt, List.getD]
      rw [this]; omega
/-- No day has too much work. -/
def fits (L : List Promise) : Prop := ∀ n : Nat, workS L n ≤ 420 * n
theorem fits_iff {L : List Promise} (hL : promIn L) : firstBreach L = 0 ↔ fits L := by
  constructor
  · intro h n
    have := work_fits hL h n
    rwa [work_eq] at this
  · intro h
    rw [breach_none hL]
    intro p hp
    have h1 := (promIn_mem hL hp).1
    obtain ⟨n, hn⟩ := Int.eq_ofNat_of_zero_le (show 0 ≤ p.day by omega)
    have := h n
    rw [work_eq, hn]; exact this
theorem fits_sub {M L : List Promise} (h : M.Sublist L) (hL : promIn L) (hf : fits L) : fits M := fun n =>
  Int.le_trans (workS_sub h (fun p hp => by have := (promIn_mem hL hp).2; omega) n) (hf n)
theorem fits_perm {M L : List Promise} (h : M.Perm L) (hf : fits L) : fits M := fun n => by rw [workS_perm h]; exact hf n
theorem promIn_sub {M L : List Promise} (h : M.Sublist L) (hL : promIn L) : promIn M := by
  refine ⟨by have := h.length_le; have := hL.1; omega, fun i hi => ?_⟩
  rw [promiseAt_lt hi]
  exact promIn_mem hL (h.mem (List.getElem_mem hi))
theorem promIn_perm {M L : List Promise} (h : M.Perm L) (hL : promIn L) : promIn M := by
  refine ⟨by rw [h.length_eq]; exact hL.1, fun i hi => ?_⟩
  rw [promiseAt_lt hi]
  exact promIn_mem hL (h.mem_iff.1 (List.getElem_mem hi))
theorem worst_max (N : List Promise) : ∀ k j, j < k → (promiseAt N j).min ≤ (promiseAt N (worstIx N k)).min := by
  intro k
  induction k with
  | zero => intro j h; omega
  | succ k ih =>
    intro j h
    rw [worstIx, worstGo]
    split
    · rename_i h1
      by_cases h2 : j = k
      · rw [h2]; exact Int.le_refl _
      · have := ih j (by omega); omega
    · rename_i h1
      by_cases h2 : j = k
      · rw [h2]; omega
      · exact ih j (by omega)
/-! ### The order of days -/
theorem orderBy_perm (key : Nat → Int) : ∀ n, (orderBy key n).Perm ((List.range n).map fun i : Nat => (i : Int)) := by
  intro n
  induction n with
  | zero => exact List.Perm.nil
  | succ n ih =>
    rw [orderBy, List.range_succ, List.map_append]
    unfold insAt
    have h1 : (List.take (posOf key (orderBy key n) (key n)) (orderBy key n) ++ (n : Int) :: List.drop (posOf key (orderBy key n) (key n)) (orderBy key n)).Perm ((n : Int) :: orderBy key n) := by
      refine List.perm_middle.trans (List.Perm.cons _ ?_)
      rw [List.take_append_drop]
    exact h1.trans ((List.Perm.cons _ ih).trans (List.perm_append_singleton _ _).symm)
theorem pick_range (L : List Promise) : pick L ((List.range L.length).map fun i : Nat => (i : Int)) = L := by
  unfold pick
  rw [List.map_map]
  refine List.ext_getElem (by simp) (fun i h1 h2 => ?_)
  simp [promiseAt, List.getD, h2]
theorem pick_perm {L : List Promise} {S T : List Int} (h : S.Perm T) : (pick L S).Perm (pick L T) := h.map _
theorem pick_sub {L : List Promise} {S T : List Int} (h : S.Sublist T) : (pick L S).Sublist (pick L T) := h.map _
theorem pick_all (L : List Promise) : (pick L (dayOrd L)).Perm L := by
  have := pick_perm (L := L) (orderBy_perm (dayKey L) L.length)
  rwa [pick_range] at this
theorem pick_append (L : List Promise) (S T : List Int) : pick L (S ++ T) = pick L S ++ pick L T := by simp [pick]
theorem pick_erase (L : List Promise) : ∀ (T : List Int) (x : Nat), pick L (T.eraseIdx x) = (pick L T).eraseIdx x := by
  intro T
  induction T with
  | nil => intro x; rfl
  | cons a l ih =>
    intro x
    cases x with
    | zero => rfl
    | succ x =>
      have := ih x
      simp only [pick, List.eraseIdx_cons_succ, List.map_cons] at this ⊢
      rw [this]
/-- Behind each step what is kept can be kept. -/
theorem kept_fits {L : List Promise} (hL : promIn L) : ∀ k, k ≤ L.length → fits (pick L (keptTo L k)) := by
  intro k
  induction k with
  | zero => intro _ n; simp [keptTo, pick, workS]; omega
  | succ k ih =>
    intro hk
    have hT := ih (by omega)
    rw [keptTo_succ L (by omega)]
    have hsub := keptTo_sub L k (by omega)
    have hkl := keptTo_le L (k := k) (by omega)
    obtain ⟨T, hTe⟩ : ∃ T, T = keptTo L k := ⟨_, rfl⟩
    obtain ⟨i, hie⟩ : ∃ i, i = intsAt (dayOrd L) k := ⟨_, rfl⟩
    rw [← hTe] at hT hsub hkl
    rw [← hTe, ← hie]
    have hmem : ∀ a ∈ T, (promiseAt L a.toNat).day ≤ (promiseAt L i.toNat).day := by
      intro a ha
      have h1 := hsub.mem ha
      obtain ⟨j, hj, e⟩ := List.mem_iff_getElem.1 h1
      rw [List.length_take] at hj
      have h2 := orderBy_sorted (dayKey L) L.length j k (by omega) (by omega)
      have e2 : intsAt (orderBy (dayKey L) L.length) j = a := by
        rw [← e, List.getElem_take]
        exact intsAt_lt _
      rw [e2] at h2
      rw [hie]; exact h2
    have hN : promIn (pick L (T ++ [i])) := by
      refine promIn_perm (L := pick L (T ++ [i])) (List.Perm.refl _) ?_
      refine pick_in hL (by rw [List.length_append]; have := hL.1; simp; omega) (fun j hj => ?_)
      rw [List.length_append] at hj
      by_cases h : j < T.length
      · rw [intsAt_append_lt h, hTe]
        exact keptTo_at (by omega) (by rw [← hTe]; exact h)
      · have h2 : j = T.length := by simp at hj; omega
        subst h2
        obtain ⟨b, e, hb⟩ := orderBy_mem (dayKey L) L.length k (by omega)
        refine ⟨b, ?_, hb⟩
        rw [show intsAt (T ++ [i]) T.length = i by simp [intsAt, List.getD], hie]
        exact e
    unfold keptStep
    split
    · rename_i hbr
      intro n
      rw [pick_erase]
      have hlen : (pick L (T ++ [i])).length = T.length + 1 := by rw [pick_len]; simp
      have hw := worst_max (pick L (T ++ [i])) (T.length + 1)
      have hx := worstIx_lt (pick L (T ++ [i])) (T.length + 1) (by omega)
      generalize worstIx (pick L (T ++ [i])) (T.length + 1) = x at hw hx
      have he := workS_erase n (pick L (T ++ [i])) x (by rw [hlen]; exact hx)
      have hs : workS (pick L (T ++ [i])) n = workS (pick L T) n + wkP n (promiseAt L i.toNat) := by
        rw [pick_append, workS_append]; simp [pick, workS]
      have hp : promiseAt (pick L (T ++ [i])) T.length = promiseAt L i.toNat := by
        rw [pick_at L _ (by simp)]
        simp [intsAt, List.getD]
      have hm := hw T.length (by omega)
      rw [hp] at hm
      have hxd : (promiseAt (pick L (T ++ [i])) x).day ≤ (promiseAt L i.toNat).day := by
        rw [pick_at L _ (by rw [pick_len] at hlen; omega)]
        by_cases h : x < T.length
        · rw [intsAt_append_lt h]
          exact hmem _ (by rw [intsAt_lt h]; exact List.getElem_mem h)
        · have h2 : x = T.length := by omega
          subst h2
          rw [show intsAt (T ++ [i]) T.length = i by simp [intsAt, List.getD]]
          exact Int.le_refl _
      have hxm := (hN.2 x (by rw [hlen]; exact hx)).2
      have hT' := hT n
      rw [hs] at he
      unfold wkP at he
      by_cases h1 : (promiseAt L i.toNat).day ≤ n
      · rw [if_pos h1, if_pos (Int.le_trans hxd h1)] at he
        omega
      · rw [if_neg h1] at he
        split at he <;> omega
    · rename_i hbr
      have := (breach_all hN).1
      exact (fits_iff hN).1 (by omega)
theorem keptIdx_fits {L : List Promise} (hL : promIn L) : fits (pick L (keptIdx L)) := kept_fits hL _ (Nat.le_refl _)
/-- If all can be kept, all are. -/
theorem keptTo_all {L : List Promise} (hL : promIn L) (hf : fits L) : ∀ k, k ≤ L.length → keptTo L k = (dayOrd L).take k := by
  intro k
  induction k with
  | zero => intro _; simp [keptTo]
  | succ k ih =>
    intro hk
    rw [keptTo_succ L (by omega), ih (by omega)]
    have e : (dayOrd L).take (k + 1) = (dayOrd L).take k ++ [intsAt (dayOrd L) k] := by
      rw [take_snoc (dayOrd L) 0 (by rw [dayOrd_len]; omega)]; rfl
    have hA := pick_all L
    have hP : promIn (pick L (dayOrd L)) := promIn_perm hA hL
    have hsub : (pick L ((dayOrd L).take (k + 1))).Sublist (pick L (dayOrd L)) := pick_sub (List.take_sublist _ _)
    have h1 : firstBreach (pick L ((dayOrd L).take (k + 1))) = 0 := (fits_iff (promIn_sub hsub hP)).2 (fits_sub hsub hP (fits_perm hA hf))
    rw [keptStep, ← e, if_neg (by omega)]
theorem kept_all_iff {L : List Promise} (hL : promIn L) : firstBreach L = 0 ↔ (keptIdx L).length = L.length := by
  rw [fits_iff hL]
  constructor
  · intro h
    rw [keptIdx, keptTo_all hL h _ (Nat.le_refl _), List.length_take, dayOrd_len]; omega
  · intro h
    have hsub : (keptIdx L).Sublist (dayOrd L) := (keptTo_sub L L.length (Nat.le_refl _)).trans (List.take_sublist _ _)
    have e : keptIdx L = dayOrd L := hsub.eq_of_length (by rw [h, dayOrd_len])
    have := keptIdx_fits hL
    rw [e] at this
    exact fits_perm (pick_all L).symm this
/-! ### The promises whose names are kept -/
/-- A name is among these. -/
def hasNm (N : List ByteArray) (s : ByteArray) : Bool := N.any fun x => decide (x = s)
theorem hasNm_iff {N : List ByteArray} {s : ByteArray} : hasNm N s = true ↔ s ∈ N := by
  simp [hasNm]
def someOf (L : List Promise) (N : List ByteArray) : List Promise := L.filter fun p => hasNm N p.name
theorem names_nodup {L : List Promise} (h : arePromises L = true) {i j : Nat} (hi : i < L.length) (hj : j < L.length) (e : (promiseAt L i).name = (promiseAt L j).name) : i = j := by
  rcases Nat.lt_trichotomy i j with h1 | h1 | h1
  · exact absurd e ((promise_at h hj).2.2.2 i h1)
  · exact h1
  · exact absurd e.symm ((promise_at h hi).2.2.2 j h1)
theorem keptNm_mem {L : List Promise} (h : arePromises L = true) {i : Nat} (hi : i < L.length) : hasNm (keptNm L) (promiseAt L i).name = (keptIdx L).contains (i : Int) := by
  rw [Bool.eq_iff_iff, hasNm_iff, List.contains_iff_mem]
  unfold keptNm
  rw [List.mem_map]
  constructor
  · rintro ⟨j, hj, e⟩
    rw [List.mem_filter, List.mem_range, List.contains_iff_mem] at hj
    have := names_nodup h hj.1 hi e
    rw [← this]; exact hj.2
  · intro hm
    exact ⟨i, by rw [List.mem_filter, List.mem_range, List.contains_iff_mem]; exact ⟨hi, hm⟩, rfl⟩
theorem some_pick {L : List Promise} (h : arePromises L = true) : someOf L (keptNm L) = pick L (((List.range L.length).filter fun i : Nat => (keptIdx L).contains (i : Int)).map fun i : Nat => (i : Int)) := by
  have e : L = (List.range L.length).map fun i => promiseAt L i := by
    refine List.ext_getElem (by simp) (fun i h1 h2 => ?_)
    simp [promiseAt, List.getD, h1]
  unfold someOf
  conv => lhs; arg 2; rw [e]
  rw [List.filter_map, pick, List.map_map]
  have e2 : (List.range L.length).filter ((fun p : Promise => hasNm (keptNm L) p.name) ∘ fun i => promiseAt L i) = (List.range L.length).filter fun i : Nat => (keptIdx L).contains (i : Int) := by
    refine List.filter_congr (fun i hi => ?_)
    exact keptNm_mem h (by simpa using hi)
  rw [e2]
  refine List.map_congr_left (fun i _ => ?_)
  simp
theorem kept_perm (L : List Promise) : (((List.range L.length).filter fun i : Nat => (keptIdx L).contains (i : Int)).map fun i : Nat => (i : Int)).Perm (keptIdx L) := by
  have hnd : (((List.range L.length).filter fun i : Nat => (keptIdx L).contains (i : Int)).map fun i : Nat => (i : Int)).Nodup := by
    unfold List.Nodup
    rw [List.pairwise_map]
    have h1 : ((List.range L.length).filter fun i : Nat => (keptIdx L).contains (i : Int)).Nodup := List.filter_sublist.nodup List.nodup_range
    exact List.Pairwise.imp (fun h e => h (by omega)) h1
  refine (List.perm_ext_iff_of_nodup hnd (keptIdx_nodup L)).2 (fun x => ?_)
  rw [List.mem_map]
  constructor
  · rintro ⟨i, hi, rfl⟩
    rw [List.mem_filter, List.contains_iff_mem] at hi
    exact hi.2
  · intro hx
    obtain ⟨b, e, hb⟩ := keptTo_mem (L := L) (k := L.length) (Nat.le_refl _) hx
    subst e
    exact ⟨b, by rw [List.mem_filter, List.mem_range, List.contains_iff_mem]; exact ⟨hb, hx⟩, rfl⟩
theorem names_apart {L : List Promise} (hL : arePromises L = true) : (L.map (·.name)).Nodup := by
  unfold List.Nodup
  rw [List.pairwise_map, List.pairwise_iff_getElem]
  intro i j hi hj hij e
  have := names_nodup hL hi hj (by rw [promiseAt_lt hi, promiseAt_lt hj]; exact e)
  omega
theorem are_sub {M L : List Promise} (h : M.Sublist L) (hL : arePromises L = true) : arePromises M = true := by
  have hnd2 : (M.map (·.name)).Nodup := (h.map _).nodup (names_apart hL)
  unfold List.Nodup at hnd2
  rw [List.pairwise_map, List.pairwise_iff_getElem] at hnd2
  refine arePromises_good (by have := h.length_le; have := arePromises_le hL; omega) (fun i hi => ?_)
  have hm : promiseAt M i ∈ L := h.mem (by rw [promiseAt_lt hi]; exact List.getElem_mem hi)
  obtain ⟨q, hq, e⟩ := promiseAt_mem hm
  obtain ⟨g1, g2, g3, _⟩ := promise_at hL hq
  rw [e] at g1 g2 g3
  refine promiseOk_good g1 (inR_iff.2 g2) (inR_iff.2 g3) (fun k hk e2 => ?_)
  rw [promiseAt_lt (by omega), promiseAt_lt hi] at e2
  exact hnd2 k i (by omega) hi hk e2
theorem some_law {L : List Promise} (h : arePromises L = true) : canKeep (someOf L (keptNm L)) = (true, 0) := by
  have h1 : arePromises (someOf L (keptNm L)) = true := are_sub List.filter_sublist h
  have h2 : firstBreach (someOf L (keptNm L)) = 0 := by
    rw [fits_iff (promIn_of h1), some_pick h]
    exact fits_perm (pick_perm (kept_perm L)) (keptIdx_fits (promIn_of h))
  simp [canKeep, h1, h2]
/-! ### Days that rise -/
theorem ceil_mono {a b : Int} (h : a ≤ b) : ceilI a 420 ≤ ceilI b 420 := by unfold ceilI; omega
theorem days_rise {L : List Promise} (hL : promIn L) {i : Nat} (h1 : 1 ≤ i) (hi : i < L.length) : intsAt (planDays L (dayOrd L)) (i - 1) ≤ intsAt (planDays L (dayOrd L)) i := by
  have e : ∀ j, j < L.length → intsAt (planDays L (dayOrd L)) j = ceilI (planSum L ((dayOrd L).take (j + 1))) 420 := by
    intro j hj
    simp [intsAt, planDays, List.getD, dayOrd_len, hj]
  rw [e _ (by omega), e _ hi]
  refine ceil_mono ?_
  obtain ⟨b, hb, hbl⟩ := orderBy_mem (dayKey L) L.length i hi
  rw [(plan_snoc L (dayOrd L) (k := i) (by rw [dayOrd_len]; exact hi) hb).1]
  have := (hL.2 b hbl).2
  rw [show i - 1 + 1 = i by omega]
  omega
end Go.Proofs.Ytgafjchbfbpmmaa
