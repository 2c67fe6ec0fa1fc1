/- Promises that are kept together: the plain law. No walks. -/
import Derived.Test.YtgafjchbfbpmmaaPlanW
namespace Go.Proofs.Ytgafjchbfbpmmaa
open Go.RowKit

def pick (L : List Promise) (T : List Int) : List Promise := T.map fun t => promiseAt L t.toNat
theorem pick_len (L : List Promise) (T : List Int) : (pick L T).length = T.length := by simp [pick]
theorem pick_at (L : List Promise) (T : List Int) {k : Nat} (h : k < T.length) : promiseAt (pick L T) k = promiseAt L (intsAt T k).toNat := by
  simp [pick, promiseAt, intsAt, List.getD, h]
theorem pick_snoc (L : List Promise) (T : List Int) {k : Nat} (h : k < T.length) : pick L (T.take (k + 1)) = pick L (T.take k) ++ [promiseAt L (intsAt T k).toNat] := by
  rw [take_snoc T 0 h]; simp [pick, intsAt]
def worstGo (N : List Promise) (w k : Nat) : Nat := if (promiseAt N w).min ≤ (promiseAt N k).min then k else w
def worstIx (N : List Promise) : Nat → Nat
  | 0 => 0
  | k + 1 => worstGo N (worstIx N k) k
theorem worstIx_lt (N : List Promise) : ∀ k, 0 < k → worstIx N k < k := by
  intro k
  induction k with
  | zero => intro h; omega
  | succ k ih =>
    intro _
    rw [worstIx, worstGo]
    split
    · omega
    · rcases Nat.eq_zero_or_pos k with h | h
      · subst h; simp [worstIx]
      · have := ih h; omega
def keptStep (L : List Promise) (T : List Int) (i : Int) : List Int :=
  if 0 < firstBreach (pick L (T ++ [i])) then (T ++ [i]).eraseIdx (worstIx (pick L (T ++ [i])) (T.length + 1)) else T ++ [i]
def keptTo (L : List Promise) (k : Nat) : List Int := ((dayOrd L).take k).foldl (keptStep L) []
def keptIdx (L : List Promise) : List Int := keptTo L L.length
theorem keptTo_succ (L : List Promise) {k : Nat} (h : k < L.length) : keptTo L (k + 1) = keptStep L (keptTo L k) (intsAt (dayOrd L) k) := by
  rw [keptTo, take_snoc (dayOrd L) 0 (by rw [dayOrd_len]; exact h), List.foldl_append]; rfl
theorem keptStep_sub (L : List Promise) (T : List Int) (i : Int) : (keptStep L T i).Sublist (T ++ [i]) := by
  unfold keptStep; split
  · exact List.eraseIdx_sublist _ _
  · exact List.Sublist.refl _
/-- What is kept behind k of them is a part of these. -/
theorem keptTo_sub (L : List Promise) : ∀ k, k ≤ L.length → (keptTo L k).Sublist ((dayOrd L).take k) := by
  intro k
  induction k with
  | zero => intro _; simp [keptTo]
  | succ k ih =>
    intro h
    rw [keptTo_succ L (by omega), take_snoc (dayOrd L) 0 (by rw [dayOrd_len]; omega)]
    exact (keptStep_sub L _ _).trans ((ih (by omega)).append_right _)
theorem keptTo_le (L : List Promise) {k : Nat} (h : k ≤ L.length) : (keptTo L k).length ≤ k := by
  have := (keptTo_sub L k h).length_le
  rw [List.length_take] at this; omega
theorem dayOrd_mem {L : List Promise} {x : Int} (h : x ∈ dayOrd L) : ∃ b : Nat, x = b ∧ b < L.length := by
  obtain ⟨i, hi, rfl⟩ := List.mem_iff_getElem.1 h
  rw [dayOrd_len] at hi
  obtain ⟨b, hb, hbl⟩ := orderBy_mem (dayKey L) L.length i hi
  refine ⟨b, ?_, hbl⟩
  rw [← hb]
  unfold intsAt
  rw [List.getD_eq_getElem?_getD, List.getElem?_eq_getElem (by rw [orderBy_len]; exact hi)]
  rfl
theorem keptTo_mem {L : List Promise} {k : Nat} (hk : k ≤ L.length) {x : Int} (h : x ∈ keptTo L k) : ∃ b : Nat, x = b ∧ b < L.length :=
  dayOrd_mem (List.mem_of_mem_take ((keptTo_sub L k hk).mem h))
theorem keptTo_at {L : List Promise} {k j : Nat} (hk : k ≤ L.length) (hj : j < (keptTo L k).length) : ∃ b : Nat, intsAt (keptTo L k) j = b ∧ b < L.length := by
  obtain ⟨b, e, hb⟩ := keptTo_mem hk (List.getElem_mem hj)
  exact ⟨b, by rw [← e]; simp [intsAt, List.getD, hj], hb⟩
theorem pick_in {L : List Promise} (hL : promIn L) {T : List Int} (hT : T.length ≤ 41) (h : ∀ j, j < T.length → ∃ b : Nat, intsAt T j = b ∧ b < L.length) : promIn (pick L T) := by
  refine ⟨by rw [pick_len]; exact hT, fun i hi => ?_⟩
  rw [pick_len] at hi
  rw [pick_at L T hi]
  obtain ⟨b, e, hb⟩ := h i hi
  rw [e]; exact hL.2 b hb

def keptNm (L : List Promise) : List ByteArray := ((List.range L.length).filter fun i : Nat => (keptIdx L).contains (i : Int)).map fun i => (promiseAt L i).name
def mostKept (L : List Promise) : Int × Int := if arePromises L = false then (0, 1) else (((keptIdx L).length : Nat), 0)
def keptNames (L : List Promise) : List ByteArray × Int := if arePromises L = false then ([], 1) else (keptNm L, 0)
theorem keptNm_le (L : List Promise) : (keptNm L).length ≤ L.length := by
  unfold keptNm
  rw [List.length_map]
  have := List.length_filter_le (fun i : Nat => (keptIdx L).contains (i : Int)) (List.range L.length)
  simpa using this
theorem keptNames_len (L : List Promise) : (keptNames L).1.length ≤ 4194304 := by
  unfold keptNames; split
  · simp
  · rename_i h
    have := arePromises_le (L := L) (by simpa using h)
    have := keptNm_le L
    simp only; omega
theorem dayOrd_apart (L : List Promise) : (dayOrd L).Nodup := by
  have key : ∀ n, (orderBy (dayKey L) n).Nodup := by
    intro n
    induction n with
    | zero => exact List.nodup_nil
    | succ n ih =>
      rw [orderBy]
      unfold insAt
      have hp : (List.take (posOf (dayKey L) (orderBy (dayKey L) n) (dayKey L n)) (orderBy (dayKey L) n) ++ (n : Int) :: List.drop (posOf (dayKey L) (orderBy (dayKey L) n) (dayKey L n)) (orderBy (dayKey L) n)).Perm ((n : Int) :: orderBy (dayKey L) n) := by
        refine List.perm_middle.trans (List.Perm.cons _ ?_)
        rw [List.take_append_drop]
      refine hp.nodup_iff.2 (List.nodup_cons.2 ⟨fun hm => ?_, ih⟩)
      obtain ⟨i, hi, he⟩ := List.mem_iff_getElem.1 hm
      rw [orderBy_len] at hi
      obtain ⟨b, hb, hbl⟩ := orderBy_mem (dayKey L) n i hi
      have e2 : intsAt (orderBy (dayKey L) n) i = (n : Int) := by rw [← he]; simp [intsAt, List.getD, orderBy_len, hi]
      omega
  exact key _
theorem keptIdx_nodup (L : List Promise) : (keptIdx L).Nodup := by
  have := keptTo_sub L L.length (Nat.le_refl _)
  exact (this.trans (List.take_sublist _ _)).nodup (dayOrd_apart L)
/-- As many names as indices. -/
theorem keptNm_len (L : List Promise) : (keptNm L).length = (keptIdx L).length := by
  unfold keptNm
  rw [List.length_map]
  have h1 : (((List.range L.length).filter fun i : Nat => (keptIdx L).contains (i : Int)).map fun i : Nat => (i : Int)).Perm (keptIdx L) := by
    refine (List.perm_ext_iff_of_nodup ?_ (keptIdx_nodup L)).2 fun a => ?_
    · refine List.Pairwise.map _ (fun a b h => ?_) (List.Pairwise.filter _ List.nodup_range)
      exact fun e => h (by omega)
    · simp only [List.mem_map, List.mem_filter, List.mem_range, List.contains_iff_mem]
      constructor
      · rintro ⟨i, ⟨_, hi⟩, rfl⟩; exact hi
      · intro h
        obtain ⟨b, rfl, hb⟩ := keptTo_mem (Nat.le_refl _) h
        exact ⟨b, ⟨hb, h⟩, rfl⟩
  have := h1.length_eq
  rwa [List.length_map] at this

end Go.Proofs.Ytgafjchbfbpmmaa
