/- The plain laws of FnPromises: room behind a promise that is made, the earliest day. No walks. -/
import Derived.Test.YtgafjchbfbpmmaaPromM
namespace Go.Proofs.Ytgafjchbfbpmmaa
open Go.RowKit

theorem promIn_mem {L : List Promise} (h : promIn L) {p : Promise} (hp : p ∈ L) : (1 ≤ p.day ∧ p.day ≤ 1000) ∧ (1 ≤ p.min ∧ p.min ≤ 2000) := by
  obtain ⟨i, hi, rfl⟩ := promiseAt_mem hp
  exact h.2 i hi
theorem breach_zero (M : List Promise) : ∀ (L : List Promise), (∀ p ∈ L, 1 ≤ p.day) → ∀ f : Int, L.foldl (breachGo M) f = 0 ↔ f = 0 ∧ ∀ p ∈ L, workUntil M p.day ≤ 420 * p.day := by
  intro L
  induction L with
  | nil => intro _ f; simp
  | cons p l ih =>
    intro hp f
    have h1 := hp p (by simp)
    rw [List.foldl_cons, ih (fun q hq => hp q (by simp [hq]))]
    have h2 : breachGo M f p = 0 ↔ f = 0 ∧ workUntil M p.day ≤ 420 * p.day := by
      unfold breachGo
      split
      · rename_i h
        constructor
        · intro h'; omega
        · rintro ⟨_, h'⟩; omega
      · rename_i h
        constructor
        · intro h'
          refine ⟨h', ?_⟩
          by_cases h3 : 420 * p.day < workUntil M p.day
          · exact absurd ⟨h3, .inl h'⟩ h
          · omega
        · exact fun h' => h'.1
    rw [h2]
    constructor
    · rintro ⟨⟨h3, h4⟩, h5⟩
      exact ⟨h3, fun q hq => by
        rcases List.mem_cons.1 hq with rfl | hq
        · exact h4
        · exact h5 q hq⟩
    · rintro ⟨h3, h4⟩
      exact ⟨⟨h3, h4 p (by simp)⟩, fun q hq => h4 q (by simp [hq])⟩
/-- No breach: no day has too much work. -/
theorem breach_none {L : List Promise} (hL : promIn L) : firstBreach L = 0 ↔ ∀ p ∈ L, workUntil L p.day ≤ 420 * p.day := by
  unfold firstBreach
  rw [breach_zero L L (fun p hp => (promIn_mem hL hp).1.1)]
  simp
theorem le_free (M : List Promise) (day x : Int) : ∀ (L : List Promise) (f : Int), x ≤ L.foldl (freeGo M day) f ↔ x ≤ f ∧ ∀ p ∈ L, day ≤ p.day → x ≤ 420 * p.day - workUntil M p.day := by
  intro L
  induction L with
  | nil => intro f; simp
  | cons p l ih =>
    intro f
    rw [List.foldl_cons, ih]
    have h2 : x ≤ freeGo M day f p ↔ x ≤ f ∧ (day ≤ p.day → x ≤ 420 * p.day - workUntil M p.day) := by
      unfold freeGo
      split
      · rename_i h
        constructor
        · intro h'; exact ⟨by omega, fun _ => by omega⟩
        · rintro ⟨h3, h4⟩; have := h4 h; omega
      · rename_i h
        exact ⟨fun h' => ⟨h', fun h3 => absurd h3 h⟩, fun h' => h'.1⟩
    rw [h2]
    constructor
    · rintro ⟨⟨h3, h4⟩, h5⟩
      exact ⟨h3, fun q hq => by
        rcases List.mem_cons.1 hq with rfl | hq
        · exact h4
        · exact h5 q hq⟩
    · rintro ⟨h3, h4⟩
      exact ⟨⟨h3, h4 p (by simp)⟩, fun q hq => h4 q (by simp [hq])⟩
theorem le_freeUntil (L : List Promise) (day x : Int) : x ≤ freeUntil L day ↔ x ≤ 420 * day - workUntil L day ∧ ∀ p ∈ L, day ≤ p.day → x ≤ 420 * p.day - workUntil L p.day := le_free L day x L _
theorem work_append (L : List Promise) (p : Promise) (day : Int) : workUntil (L ++ [p]) day = workGo day (workUntil L day) p := by
  unfold workUntil; rw [List.foldl_append]; rfl
theorem work_congr {d e : Int} : ∀ (L : List Promise), (∀ p ∈ L, p.day ≤ d ↔ p.day ≤ e) → ∀ s : Int, L.foldl (workGo d) s = L.foldl (workGo e) s := by
  intro L
  induction L with
  | nil => intro _ s; rfl
  | cons p l ih =>
    intro h s
    rw [List.foldl_cons, List.foldl_cons]
    have h1 : workGo d s p = workGo e s p := by
      unfold workGo
      by_cases h2 : p.day ≤ d
      · rw [if_pos h2, if_pos ((h p (by simp)).1 h2)]
      · rw [if_neg h2, if_neg (fun h3 => h2 ((h p (by simp)).2 h3))]
    rw [h1]
    exact ih (fun q hq => h q (by simp [hq])) _
theorem work_none {d : Int} : ∀ (L : List Promise), (∀ p ∈ L, ¬ p.day ≤ d) → ∀ s : Int, L.foldl (workGo d) s = s := by
  intro L
  induction L with
  | nil => intro _ s; rfl
  | cons p l ih =>
    intro h s
    rw [List.foldl_cons, workGo, if_neg (h p (by simp))]
    exact ih (fun q hq => h q (by simp [hq])) _
/-- Without a breach no day at all has too much work. -/
theorem work_fits {L : List Promise} (hL : promIn L) (h0 : firstBreach L = 0) : ∀ n : Nat, workUntil L n ≤ 420 * n := by
  have hb := (breach_none hL).1 h0
  intro n
  induction n with
  | zero =>
    have : workUntil L ((0 : Nat) : Int) = 0 := work_none L (fun p hp => by have := (promIn_mem hL hp).1.1; simp; omega) 0
    omega
  | succ n ih =>
    by_cases h : ∃ p ∈ L, p.day = ((n + 1 : Nat) : Int)
    · obtain ⟨p, hp, e⟩ := h
      have := hb p hp
      rwa [e] at this
    · have e : workUntil L ((n + 1 : Nat) : Int) = workUntil L n := work_congr L (fun p hp => ⟨fun h1 => by
        have : p.day ≠ ((n + 1 : Nat) : Int) := fun e => h ⟨p, hp, e⟩
        omega, fun h1 => by omega⟩) 0
      omega
theorem free_nonneg {L : List Promise} (hL : promIn L) (h0 : firstBreach L = 0) {day : Int} (hd : 1 ≤ day) : 0 ≤ freeUntil L day := by
  rw [le_freeUntil]
  refine ⟨?_, fun p hp _ => by have := (breach_none hL).1 h0 p hp; omega⟩
  obtain ⟨n, rfl⟩ := Int.eq_ofNat_of_zero_le (show 0 ≤ day by omega)
  have := work_fits hL h0 n
  omega
/-- A promise that is made: there was room for it. -/
theorem room_made {L : List Promise} {p : Promise} (hL : promIn L) (hM : promIn (L ++ [p])) (h0 : firstBreach (L ++ [p]) = 0) : firstBreach L = 0 ∧ p.min ≤ freeUntil L p.day := by
  have hb := (breach_none hM).1 h0
  have hm : 1 ≤ p.min := (promIn_mem hM (p := p) (by simp)).2.1
  have key : ∀ q ∈ L, workUntil L q.day ≤ 420 * q.day ∧ (p.day ≤ q.day → p.min ≤ 420 * q.day - workUntil L q.day) := by
    intro q hq
    have h1 := hb q (by simp [hq])
    rw [work_append] at h1
    unfold workGo at h1
    split at h1
    · exact ⟨by omega, fun _ => by omega⟩
    · rename_i h; exact ⟨h1, fun h' => absurd h' h⟩
  refine ⟨(breach_none hL).2 (fun q hq => (key q hq).1), ?_⟩
  rw [le_freeUntil]
  refine ⟨?_, fun q hq => (key q hq).2⟩
  have h1 := hb p (by simp)
  rw [work_append, workGo, if_pos (Int.le_refl _)] at h1
  omega
/-! ### The earliest day -/
theorem earliestGo_law {L : List Promise} {m : Int} (h1000 : m ≤ freeUntil L 1000) : ∀ (n d : Nat), 1 ≤ d → d + n = 1000 → (d = 1 ∨ freeUntil L ((d : Int) - 1) < m) →
    1 ≤ earliestGo L m n d ∧ earliestGo L m n d ≤ 1000 ∧ m ≤ freeUntil L (earliestGo L m n d) ∧ (earliestGo L m n d = 1 ∨ freeUntil L ((earliestGo L m n d : Int) - 1) < m) := by
  intro n
  induction n with
  | zero =>
    intro d h1 h2 h3
    have : d = 1000 := by omega
    subst this
    exact ⟨by simp [earliestGo], by simp [earliestGo], by simpa [earliestGo] using h1000, by simpa [earliestGo] using h3⟩
  | succ n ih =>
    intro d h1 h2 h3
    rw [earliestGo]
    split
    · rename_i h
      refine ih (d + 1) (by omega) (by omega) (.inr ?_)
      rwa [show ((d + 1 : Nat) : Int) - 1 = (d : Int) by omega]
    · rename_i h
      exact ⟨h1, by omega, by omega, h3⟩
theorem earliest_law {L : List Promise} (hL : promIn L) {m : Int} (hm : m ≤ 2000) :
    1 ≤ earliest L m ∧ earliest L m ≤ 1000 ∧ m ≤ freeUntil L (earliest L m) ∧ (earliest L m = 1 ∨ freeUntil L ((earliest L m : Int) - 1) < m) :=
  earliestGo_law (by have := free_last hL; omega) 999 1 (by omega) (by omega) (.inl rfl)
/-! ### What FnPromises asks -/
theorem made_cases (L : List Promise) (p : Promise) : ((makePromise L p).2 ≠ 0 ∧ (makePromise L p).1 = []) ∨ (makePromise L p = (L ++ [p], 0) ∧ arePromises L = true ∧ arePromises (L ++ [p]) = true ∧ firstBreach (L ++ [p]) = 0) := by
  unfold makePromise
  split
  · exact .inl (by simp)
  · split
    · exact .inl (by simp)
    · split
      · exact .inl (by simp)
      · split
        · exact .inl (by simp)
        · rename_i h1 h2 h3 h4
          have h5 : arePromises (L ++ [p]) = true := by simpa using h3
          have := (breach_all (promIn_of h5)).1
          exact .inr ⟨rfl, by simpa using h1, h5, by omega⟩
theorem made_law {L : List Promise} {p : Promise} (h : (makePromise L p).2 = 0) :
    canKeep (makePromise L p).1 = (true, 0) ∧ free L p.day = (freeUntil L p.day, 0) ∧ p.min ≤ freeUntil L p.day := by
  rcases made_cases L p with ⟨h1, _⟩ | ⟨e, h1, h2, h3⟩
  · exact absurd h h1
  · have hL := promIn_of h1
    have hM := promIn_of h2
    obtain ⟨h4, h5⟩ := room_made hL hM h3
    have hd := (promIn_mem hM (p := p) (by simp)).1
    refine ⟨by rw [e]; simp [canKeep, h2, h3], ?_, h5⟩
    have : inR p.day 1 1000 = true := by rw [inR_iff]; exact hd
    simp [free, promCode, h1, this, h4]
theorem free_law {L : List Promise} {day : Int} (h : (free L day).2 = 0) : 0 ≤ (free L day).1 := by
  unfold free at h ⊢
  split
  · rename_i hc
    rcases promCode_cases L (inR day 1 1000) with ⟨_, e⟩ | ⟨_, _, e⟩ | ⟨_, _, _, e⟩ | ⟨h1, h2, h3, _⟩
    · omega
    · omega
    · omega
    · have hL := promIn_of h1
      have := (breach_all hL).1
      exact free_nonneg hL (by omega) ((inR_iff.1 h2).1)
  · exact Int.le_refl _
theorem day_law {L : List Promise} {m : Int} (h : (theDay L m).2 = 0) :
    free L (theDay L m).1 = (freeUntil L (theDay L m).1, 0) ∧ m ≤ freeUntil L (theDay L m).1 ∧ 1 ≤ (theDay L m).1 ∧ (theDay L m).1 ≤ 1000 ∧
    ((theDay L m).1 ≠ 1 → free L ((theDay L m).1 - 1) = (freeUntil L ((theDay L m).1 - 1), 0) ∧ freeUntil L ((theDay L m).1 - 1) < m) := by
  rcases promCode_cases L (inR m 1 2000) with ⟨_, e⟩ | ⟨_, _, e⟩ | ⟨_, _, _, e⟩ | ⟨h1, h2, h3, e⟩
  · simp [theDay, e] at h
  · simp [theDay, e] at h
  · simp [theDay, e] at h
  · have hL := promIn_of h1
    obtain ⟨g1, g2, g3, g4⟩ := earliest_law hL (inR_iff.1 h2).2
    have e1 : (theDay L m).1 = ((earliest L m : Nat) : Int) := by simp [theDay, e]
    rw [e1]
    generalize earliest L m = d at g1 g2 g3 g4
    have hf : ∀ x : Int, 1 ≤ x → x ≤ 1000 → free L x = (freeUntil L x, 0) := fun x hx hy => by
      have : inR x 1 1000 = true := inR_iff.2 ⟨hx, hy⟩
      simp [free, promCode, h1, this, h3]
    refine ⟨hf _ (by omega) (by omega), g3, by omega, by omega, fun hne => ⟨hf _ (by omega) (by omega), ?_⟩⟩
    rcases g4 with rfl | g4
    · exact absurd rfl hne
    · exact g4
theorem setDay_at (L : List Promise) {i k : Nat} (d : Int) (hi : i < L.length) : promiseAt (setDay L i d) k = if k = i then { promiseAt L i with day := d } else promiseAt L k := by
  unfold setDay promiseAt
  by_cases h : k = i
  · subst h; simp [List.getD, hi]
  · simp [List.getD, List.getElem?_set_ne (Ne.symm h), h]
theorem setDay_name (L : List Promise) {i : Nat} (k : Nat) (d : Int) (hi : i < L.length) : (promiseAt (setDay L i d) k).name = (promiseAt L k).name := by
  rw [setDay_at L d hi]
  split
  · rename_i h; rw [h]
  · rfl
theorem setDay_min (L : List Promise) {i : Nat} (k : Nat) (d : Int) (hi : i < L.length) : (promiseAt (setDay L i d) k).min = (promiseAt L k).min := by
  rw [setDay_at L d hi]
  split
  · rename_i h; rw [h]
  · rfl
theorem move_law {L : List Promise} {c : ByteArray} {d : Int} (h : (movePromise L c d).2 = 0) : arePromises (movePromise L c d).1 = true := by
  rcases moveCode_cases L c d with ⟨_, e⟩ | ⟨_, _, e⟩ | ⟨_, _, _, e⟩ | ⟨_, _, _, _, e⟩ | ⟨i, h1, h2, h3, h4, e⟩
  · simp [movePromise, e] at h
  · simp [movePromise, e] at h
  · simp [movePromise, e] at h
  · simp [movePromise, e] at h
  · have e1 : (movePromise L c d).1 = setDay L i d := by simp [movePromise, e, h4]
    rw [e1]
    have hi := (promIx_some.1 h4).1
    refine arePromises_good (by rw [setDay_len]; exact arePromises_le h1) (fun k hk => ?_)
    rw [setDay_len] at hk
    obtain ⟨g1, g2, g3, g4⟩ := promise_at h1 hk
    refine promiseOk_good (by rw [setDay_name L k d hi]; exact g1) ?_ (by rw [setDay_min L k d hi]; exact inR_iff.2 g3) (fun j hj => by rw [setDay_name L j d hi, setDay_name L k d hi]; exact g4 j hj)
    rw [setDay_at L d hi]
    split
    · exact h3
    · exact inR_iff.2 g2
theorem movePromise_fit {L : List Promise} {c : ByteArray} {d : Int} (hf : promiseFit L) : promiseFit (movePromise L c d).1 := by
  rcases moveCode_cases L c d with ⟨_, e⟩ | ⟨_, _, e⟩ | ⟨_, _, _, e⟩ | ⟨_, _, _, _, e⟩ | ⟨i, h1, h2, h3, h4, e⟩
  · simp [movePromise, e, promiseFit]
  · simp [movePromise, e, promiseFit]
  · simp [movePromise, e, promiseFit]
  · simp [movePromise, e, promiseFit]
  · have e1 : (movePromise L c d).1 = setDay L i d := by simp [movePromise, e, h4]
    rw [e1]
    intro k hk
    rw [setDay_len] at hk
    rw [setDay_name L k d (promIx_some.1 h4).1]
    exact hf k hk
theorem makePromise_fit {L : List Promise} {p : Promise} (hf : promiseFit L) (hp : p.name.size ≤ maxLen) : promiseFit (makePromise L p).1 := by
  rcases made_cases L p with ⟨_, e⟩ | ⟨e, _⟩
  · rw [e]; intro i hi; simp at hi
  · rw [e]
    intro i hi
    simp only [List.length_append, List.length_cons, List.length_nil] at hi
    by_cases h : i < L.length
    · have : promiseAt (L ++ [p]) i = promiseAt L i := by simp [promiseAt, List.getD, h, List.getElem?_append_left]
      rw [this]; exact hf i h
    · have : i = L.length := by omega
      subst this
      have : promiseAt (L ++ [p]) L.length = p := by simp [promiseAt, List.getD]
      rw [this]; exact hp
end Go.Proofs.Ytgafjchbfbpmmaa
