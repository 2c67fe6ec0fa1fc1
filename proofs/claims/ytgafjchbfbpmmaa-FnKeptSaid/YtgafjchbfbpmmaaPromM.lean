/- Chapter 23 without walks: the work until a day, the first breach, what is free, the earliest day, a promise made, moved. -/
import Derived.Test.YtgafjchbfbpmmaaPromA
import Derived.Test.YtgafjchbfbpmmaaBits
namespace Go.Proofs.Ytgafjchbfbpmmaa
open Go.RowKit

theorem inR_iff {n lo hi : Int} : inR n lo hi = true ↔ lo ≤ n ∧ n ≤ hi := by simp [inR]
theorem inR_no {n lo hi : Int} : inR n lo hi = false ↔ n < lo ∨ hi < n := by simp [inR]; omega
theorem promise_at {L : List Promise} (h : arePromises L = true) {i : Nat} (hi : i < L.length) : isWord (promiseAt L i).name = true ∧ (1 ≤ (promiseAt L i).day ∧ (promiseAt L i).day ≤ 1000) ∧ (1 ≤ (promiseAt L i).min ∧ (promiseAt L i).min ≤ 2000) ∧ ∀ k, k < i → (promiseAt L k).name ≠ (promiseAt L i).name := by
  simp only [arePromises, Bool.and_eq_true, List.all_eq_true, List.mem_range] at h
  have := h.2 i hi
  simp only [promiseOk, Bool.and_eq_true, inR_iff, List.all_eq_true, List.mem_range] at this
  exact ⟨this.1.1.1, this.1.1.2, this.1.2, fun k hk => by simpa using this.2 k hk⟩
/-- Days and minutes in their ranges, few promises. -/
def promIn (L : List Promise) : Prop := L.length ≤ 41 ∧ ∀ i, i < L.length → (1 ≤ (promiseAt L i).day ∧ (promiseAt L i).day ≤ 1000) ∧ (1 ≤ (promiseAt L i).min ∧ (promiseAt L i).min ≤ 2000)
theorem promIn_of {L : List Promise} (h : arePromises L = true) : promIn L :=
  ⟨by have := arePromises_le h; omega, fun _ hi => ⟨(promise_at h hi).2.1, (promise_at h hi).2.2.1⟩⟩
theorem promiseAt_mem {L : List Promise} {p : Promise} (h : p ∈ L) : ∃ i, i < L.length ∧ promiseAt L i = p := by
  obtain ⟨i, hi, rfl⟩ := List.mem_iff_getElem.1 h
  exact ⟨i, hi, promiseAt_lt hi⟩
theorem prom_snoc (L : List Promise) {k : Nat} (h : k < L.length) : L.take (k + 1) = L.take k ++ [promiseAt L k] := take_snoc L default h

/-! ### The work until a day -/
def workGo (day : Int) (s : Int) (p : Promise) : Int := if p.day ≤ day then s + p.min else s
def workUntil (L : List Promise) (day : Int) : Int := L.foldl (workGo day) 0
theorem work_snoc (L : List Promise) (day : Int) {k : Nat} (h : k < L.length) : workUntil (L.take (k + 1)) day = workGo day (workUntil (L.take k) day) (promiseAt L k) := by
  rw [prom_snoc L h, workUntil, List.foldl_append]; rfl
theorem work_bound {L : List Promise} (hL : promIn L) (day : Int) : ∀ k, k ≤ L.length → 0 ≤ workUntil (L.take k) day ∧ workUntil (L.take k) day ≤ 2000 * k := by
  intro k
  induction k with
  | zero => intro _; simp [workUntil]
  | succ k ih =>
    intro h
    have h1 := ih (by omega)
    rw [work_snoc L day (by omega)]
    have h2 := (hL.2 k (by omega)).2
    unfold workGo
    split <;> omega
theorem work_all {L : List Promise} (hL : promIn L) (day : Int) : 0 ≤ workUntil L day ∧ workUntil L day ≤ 82000 := by
  have := work_bound hL day L.length (Nat.le_refl _)
  rw [List.take_length] at this
  have := hL.1
  omega

/-! ### The first breach -/
def breachGo (L : List Promise) (f : Int) (p : Promise) : Int := if 420 * p.day < workUntil L p.day ∧ (f = 0 ∨ p.day < f) then p.day else f
def firstBreach (L : List Promise) : Int := L.foldl (breachGo L) 0
theorem breach_snoc (L M : List Promise) {k : Nat} (h : k < L.length) : (L.take (k + 1)).foldl (breachGo M) 0 = breachGo M ((L.take k).foldl (breachGo M) 0) (promiseAt L k) := by
  rw [prom_snoc L h, List.foldl_append]; rfl
theorem breach_bound {L M : List Promise} (hL : promIn L) : ∀ k, k ≤ L.length → 0 ≤ (L.take k).foldl (breachGo M) 0 ∧ (L.take k).foldl (breachGo M) 0 ≤ 1000 := by
  intro k
  induction k with
  | zero => intro _; simp
  | succ k ih =>
    intro h
    have h1 := ih (by omega)
    rw [breach_snoc L M (by omega)]
    have h2 := (hL.2 k (by omega)).1
    generalize (L.take k).foldl (breachGo M) 0 = f at h1 ⊢
    unfold breachGo
    split <;> omega
theorem breach_all {L : List Promise} (hL : promIn L) : 0 ≤ firstBreach L ∧ firstBreach L ≤ 1000 := by
  have := breach_bound (M := L) hL L.length (Nat.le_refl _)
  rwa [List.take_length] at this

/-! ### What is free until a day -/
def freeGo (L : List Promise) (day : Int) (f : Int) (p : Promise) : Int := if day ≤ p.day then min f (420 * p.day - workUntil L p.day) else f
def freeUntil (L : List Promise) (day : Int) : Int := L.foldl (freeGo L day) (420 * day - workUntil L day)
def freeGo' (L : List Promise) (day : Int) (f : Int) (p : Promise) : Int := if day < p.day then min f (420 * p.day - workUntil L p.day) else f
def freeUntil' (L : List Promise) (day : Int) : Int := L.foldl (freeGo' L day) (420 * day - workUntil L day)
theorem free_le (M : List Promise) (day : Int) : ∀ (L : List Promise) (f : Int), L.foldl (freeGo M day) f ≤ f := by
  intro L
  induction L with
  | nil => intro f; exact Int.le_refl _
  | cons p l ih =>
    intro f
    refine Int.le_trans (ih _) ?_
    unfold freeGo; split <;> omega
theorem free_same (M : List Promise) (day : Int) : ∀ (L : List Promise) (f : Int), f ≤ 420 * day - workUntil M day → L.foldl (freeGo M day) f = L.foldl (freeGo' M day) f := by
  intro L
  induction L with
  | nil => intro f _; rfl
  | cons p l ih =>
    intro f hf
    have e : freeGo M day f p = freeGo' M day f p := by
      unfold freeGo freeGo'
      by_cases h1 : day < p.day
      · rw [if_pos h1, if_pos (by omega)]
      · by_cases h2 : p.day = day
        · rw [if_neg h1, if_pos (by omega), h2]; omega
        · rw [if_neg h1, if_neg (by omega)]
    rw [List.foldl_cons, List.foldl_cons, e]
    refine ih _ ?_
    unfold freeGo'; split <;> omega
theorem free_eq (L : List Promise) (day : Int) : freeUntil' L day = freeUntil L day := (free_same L day L _ (Int.le_refl _)).symm
theorem free_snoc (L M : List Promise) (day a : Int) {k : Nat} (h : k < L.length) : (L.take (k + 1)).foldl (freeGo M day) a = freeGo M day ((L.take k).foldl (freeGo M day) a) (promiseAt L k) := by
  rw [prom_snoc L h, List.foldl_append]; rfl
theorem free_snoc' (L M : List Promise) (day a : Int) {k : Nat} (h : k < L.length) : (L.take (k + 1)).foldl (freeGo' M day) a = freeGo' M day ((L.take k).foldl (freeGo' M day) a) (promiseAt L k) := by
  rw [prom_snoc L h, List.foldl_append]; rfl
theorem free_bound {L M : List Promise} (hL : promIn L) (hM : promIn M) (day a : Int) (h0 : -90000 ≤ a) (h1 : a ≤ 500000) : ∀ k, k ≤ L.length → -90000 ≤ (L.take k).foldl (freeGo M day) a ∧ (L.take k).foldl (freeGo M day) a ≤ 500000 := by
  intro k
  induction k with
  | zero => intro _; simp; omega
  | succ k ih =>
    intro h
    have h2 := ih (by omega)
    rw [free_snoc L M day a (by omega)]
    have h3 := (hL.2 k (by omega)).1
    have h4 := work_all hM (promiseAt L k).day
    generalize (L.take k).foldl (freeGo M day) a = f at h2 ⊢
    unfold freeGo
    split <;> omega
theorem free_bound' {L M : List Promise} (hL : promIn L) (hM : promIn M) (day a : Int) (h0 : -90000 ≤ a) (h1 : a ≤ 500000) : ∀ k, k ≤ L.length → -90000 ≤ (L.take k).foldl (freeGo' M day) a ∧ (L.take k).foldl (freeGo' M day) a ≤ 500000 := by
  intro k
  induction k with
  | zero => intro _; simp; omega
  | succ k ih =>
    intro h
    have h2 := ih (by omega)
    rw [free_snoc' L M day a (by omega)]
    have h3 := (hL.2 k (by omega)).1
    have h4 := work_all hM (promiseAt L k).day
    generalize (L.take k).foldl (freeGo' M day) a = f at h2 ⊢
    unfold freeGo'
    split <;> omega
theorem free_all {L : List Promise} (hL : promIn L) {day : Int} (h0 : 1 ≤ day) (h1 : day ≤ 1000) : -90000 ≤ freeUntil L day ∧ freeUntil L day ≤ 500000 := by
  have h4 := work_all hL day
  have := free_bound hL hL day (420 * day - workUntil L day) (by omega) (by omega) L.length (Nat.le_refl _)
  rwa [List.take_length] at this
/-- On day 1000 there is room. -/
theorem free_last {L : List Promise} (hL : promIn L) : 2000 ≤ freeUntil L 1000 := by
  have h4 := work_all hL 1000
  have key : ∀ (M : List Promise), (∀ p ∈ M, p.day ≤ 1000) → ∀ f : Int, 2000 ≤ f → f ≤ 420 * 1000 - workUntil L 1000 → 2000 ≤ M.foldl (freeGo L 1000) f := by
    intro M
    induction M with
    | nil => intro _ f h _; exact h
    | cons p l ih =>
      intro hp f hf hf2
      have h1 : freeGo L 1000 f p = f := by
        unfold freeGo
        have := hp p (by simp)
        by_cases h : 1000 ≤ p.day
        · have e : p.day = 1000 := by omega
          rw [if_pos h, e]; omega
        · rw [if_neg h]
      rw [List.foldl_cons, h1]
      exact ih (fun q hq => hp q (by simp [hq])) f hf hf2
  refine key L (fun p hp => ?_) _ (by omega) (Int.le_refl _)
  obtain ⟨i, hi, rfl⟩ := promiseAt_mem hp
  exact (hL.2 i hi).1.2

/-! ### The codes -/
def promCode (L : List Promise) (ok : Bool) : Int := if arePromises L = false then 1 else if ok = false then 2 else if 0 < firstBreach L then 5 else 0
theorem promCode_cases (L : List Promise) (ok : Bool) :
    (arePromises L = false ∧ promCode L ok = 1) ∨ (arePromises L = true ∧ ok = false ∧ promCode L ok = 2) ∨ (arePromises L = true ∧ ok = true ∧ 0 < firstBreach L ∧ promCode L ok = 5) ∨ (arePromises L = true ∧ ok = true ∧ ¬ 0 < firstBreach L ∧ promCode L ok = 0) := by
  cases h1 : arePromises L
  · exact .inl ⟨rfl, by simp [promCode, h1]⟩
  · cases ok
    · exact .inr (.inl ⟨rfl, rfl, by simp [promCode, h1]⟩)
    · by_cases h3 : 0 < firstBreach L
      · exact .inr (.inr (.inl ⟨rfl, rfl, h3, by simp [promCode, h1, h3]⟩))
      · exact .inr (.inr (.inr ⟨rfl, rfl, h3, by simp [promCode, h1, h3]⟩))
def canKeep (L : List Promise) : Bool × Int := if arePromises L = false then (false, 1) else (firstBreach L == 0, 0)
def theBreach (L : List Promise) : Int × Int := if arePromises L = false then (0, 1) else if firstBreach L = 0 then (0, 4) else (firstBreach L, 0)
def free (L : List Promise) (day : Int) : Int × Int := if promCode L (inR day 1 1000) = 0 then (freeUntil L day, 0) else (0, promCode L (inR day 1 1000))
/-- The first day from d on, at most n days later, with room for m minutes. -/
def earliestGo (L : List Promise) (m : Int) : Nat → Nat → Nat
  | 0, d => d
  | n + 1, d => if freeUntil L d < m then earliestGo L m n (d + 1) else d
def earliest (L : List Promise) (m : Int) : Nat := earliestGo L m 999 1
def theDay (L : List Promise) (m : Int) : Int × Int := if promCode L (inR m 1 2000) = 0 then ((earliest L m : Nat), 0) else (0, promCode L (inR m 1 2000))
theorem earliest_step {L : List Promise} {m : Int} {n d : Nat} (h : earliestGo L m (n + 1) d = earliest L m) (hf : freeUntil L d < m) : earliestGo L m n (d + 1) = earliest L m := by
  rw [← h]; simp [earliestGo, hf]
theorem earliest_stop {L : List Promise} {m : Int} {n d : Nat} (h : earliestGo L m n d = earliest L m) (hf : ¬ freeUntil L d < m) : earliest L m = d := by
  rw [← h]; cases n <;> simp [earliestGo, hf]

/-! ### A promise made, a promise moved -/
def makePromise (L : List Promise) (p : Promise) : List Promise × Int :=
  if arePromises L = false then ([], 1) else if L.length = 40 then ([], 3) else if arePromises (L ++ [p]) = false then ([], 5) else if 0 < firstBreach (L ++ [p]) then ([], 5) else (L ++ [p], 0)
theorem makePromise_len (L : List Promise) (p : Promise) : (makePromise L p).1.length ≤ 4194304 := by
  unfold makePromise
  split
  · simp
  · split
    · simp
    · split
      · simp
      · split
        · simp
        · have h : arePromises L = true := by simp_all
          have := arePromises_le h
          simp; omega
def setDay (L : List Promise) (i : Nat) (d : Int) : List Promise := L.set i { promiseAt L i with day := d }
theorem setDay_len (L : List Promise) (i : Nat) (d : Int) : (setDay L i d).length = L.length := by simp [setDay]
theorem promiseRow_set1 (r : Int) : ∀ (L : List Promise) (i : Nat), i < L.length → (promiseRow L).set (i * 3 + 1) (.int .i64 r) = promiseRow (setDay L i r) := by
  intro L
  induction L with
  | nil => intro i h; simp at h
  | cons a l ih =>
    intro i h
    cases i with
    | zero => rfl
    | succ i =>
      have h' := ih i (by simpa using h)
      rw [promiseRow_cons, show (i + 1) * 3 + 1 = i * 3 + 1 + 3 by omega]
      simp only [List.set_cons_succ, h']; rfl
def moveCode (L : List Promise) (c : ByteArray) (d : Int) : Int :=
  if arePromises L = false ∨ isWord c = false then 1 else if inR d 1 1000 = false then 2 else if promIx L c = none then 4 else 0
def movePromise (L : List Promise) (c : ByteArray) (d : Int) : List Promise × Int :=
  if moveCode L c d = 0 then (setDay L ((promIx L c).getD 0) d, 0) else ([], moveCode L c d)
theorem moveCode_cases (L : List Promise) (c : ByteArray) (d : Int) :
    (arePromises L = false ∧ moveCode L c d = 1) ∨ (arePromises L = true ∧ isWord c = false ∧ moveCode L c d = 1) ∨ (arePromises L = true ∧ isWord c = true ∧ inR d 1 1000 = false ∧ moveCode L c d = 2) ∨
    (arePromises L = true ∧ isWord c = true ∧ inR d 1 1000 = true ∧ promIx L c = none ∧ moveCode L c d = 4) ∨ (∃ i, arePromises L = true ∧ isWord c = true ∧ inR d 1 1000 = true ∧ promIx L c = some i ∧ moveCode L c d = 0) := by
  cases h1 : arePromises L
  · exact .inl ⟨rfl, by simp [moveCode, h1]⟩
  · cases h2 : isWord c
    · exact .inr (.inl ⟨rfl, rfl, by simp [moveCode, h2]⟩)
    · cases h3 : inR d 1 1000
      · exact .inr (.inr (.inl ⟨rfl, rfl, rfl, by simp [moveCode, h1, h2, h3]⟩))
      · cases h4 : promIx L c
        · exact .inr (.inr (.inr (.inl ⟨rfl, rfl, rfl, rfl, by simp [moveCode, h1, h2, h3, h4]⟩)))
        · exact .inr (.inr (.inr (.inr ⟨_, rfl, rfl, rfl, rfl, by simp [moveCode, h1, h2, h3, h4]⟩)))
theorem movePromise_len (L : List Promise) (c : ByteArray) (d : Int) : (movePromise L c d).1.length ≤ 4194304 := by
  unfold movePromise; split
  · rename_i h
    have : arePromises L = true := by
      rcases moveCode_cases L c d with ⟨_, e⟩ | ⟨h, _, e⟩ | ⟨h, _, _, e⟩ | ⟨h, _, _, _, e⟩ | ⟨i, h, _⟩
      · omega
      all_goals exact h
    have := arePromises_le this
    simp only [setDay_len]; omega
  · simp

end Go.Proofs.Ytgafjchbfbpmmaa
