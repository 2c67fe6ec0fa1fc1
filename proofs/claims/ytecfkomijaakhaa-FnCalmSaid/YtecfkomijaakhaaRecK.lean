/- Recipes: all that comes before a step: the rule. No walks. -/
import Derived.Test.YtecfkomijaakhaaRecE
import Derived.Test.YtecfkomijaakhaaQueue
namespace Go.Proofs.Ytecfkomijaakhaa
open Go.RowKit Go.Sort

/-- j has to be done before s. -/
def Anc (L : List Step) (s j : Nat) : Prop := ∀ S : Nat → Prop, (∀ j : Nat, (j : Int) ∈ (stepAt L s).after → S j) → (∀ i j : Nat, S i → (j : Int) ∈ (stepAt L i).after → S j) → S j
theorem Anc.base {L : List Step} {s j : Nat} (h : (j : Int) ∈ (stepAt L s).after) : Anc L s j := fun _ h1 _ => h1 j h
theorem Anc.more {L : List Step} {s i j : Nat} (hi : Anc L s i) (h : (j : Int) ∈ (stepAt L i).after) : Anc L s j := fun S h1 h2 => h2 i j (hi S h1 h2) h
/-- The indices below k that p takes. -/
def selBy (p : Nat → Bool) (k : Nat) : List Int := ((List.range k).filter p).map fun (i : Nat) => (i : Int)
theorem selBy_yes {p : Nat → Bool} {k : Nat} (h : p k = true) : selBy p (k + 1) = selBy p k ++ [(k : Int)] := by
  unfold selBy; rw [List.range_succ, List.filter_append, List.map_append]; simp [h]
theorem selBy_no {p : Nat → Bool} {k : Nat} (h : p k = false) : selBy p (k + 1) = selBy p k := by
  unfold selBy; rw [List.range_succ, List.filter_append, List.map_append]; simp [h]
theorem selBy_len (p : Nat → Bool) (k : Nat) : (selBy p k).length ≤ k := by
  unfold selBy; rw [List.length_map]; exact Nat.le_trans (List.length_filter_le _ _) (by simp)
theorem selBy_congr {p q : Nat → Bool} {k : Nat} (h : ∀ i, i < k → p i = q i) : selBy p k = selBy q k := by
  unfold selBy
  congr 1
  exact List.filter_congr (fun i hi => h i (by simpa using hi))
noncomputable def ancB (L : List Step) (s i : Nat) : Bool := @decide (Anc L s i) (Classical.propDecidable _)
theorem ancB_iff {L : List Step} {s i : Nat} : ancB L s i = true ↔ Anc L s i := by simp [ancB]
noncomputable def ancF (L : List Step) (x : Int) : List Int × Int := if isRecipe L = true then (if inR x 0 (L.length - 1) = true then (selBy (ancB L x.toNat) L.length, 0) else ([], 2)) else ([], 1)
theorem ancF_bad {L : List Step} {x : Int} (h : isRecipe L = false) : ancF L x = ([], 1) := by simp [ancF, h]
theorem ancF_range {L : List Step} {x : Int} (h : isRecipe L = true) (h2 : inR x 0 (L.length - 1) = false) : ancF L x = ([], 2) := by simp [ancF, h, h2]
theorem ancF_ok {L : List Step} {s : Nat} (h : isRecipe L = true) (h2 : inR (s : Int) 0 (L.length - 1) = true) : ancF L s = (selBy (ancB L s) L.length, 0) := by simp [ancF, h, h2]
theorem ancF_len (L : List Step) (x : Int) : (ancF L x).1.length ≤ 4194304 := by
  unfold ancF
  split
  · rename_i h
    have := (isRecipe_iff.1 h).1
    split
    · have := selBy_len (ancB L x.toNat) L.length
      show (selBy _ _).length ≤ _
      omega
    · simp
  · simp

/-! ### By a queue and a mask -/
def zer (n m : Nat) : Nat := (List.range n).countP fun (i : Nat) => !m.testBit i
theorem zer_or (m k : Nat) (h : m.testBit k = false) : ∀ n, zer n (m ||| 2 ^ k) + (if k < n then 1 else 0) = zer n m := by
  intro n
  induction n with
  | zero => simp [zer]
  | succ n ih =>
    unfold zer at ih ⊢
    rw [List.range_succ, List.countP_append, List.countP_append]
    simp only [List.countP_cons, List.countP_nil, Nat.testBit_or, Nat.testBit_two_pow] at ih ⊢
    by_cases e : k = n
    · subst e
      rw [if_neg (by omega)] at ih
      rw [h]; simp; simpa using ih
    · have e2 : decide (k = n) = false := by simpa using e
      rw [e2]
      simp only [Bool.or_false]
      generalize (if (!m.testBit n) = true then 1 else 0) = c
      by_cases h3 : k < n
      · rw [if_pos h3] at ih
        rw [if_pos (by omega)]
        rw [← ih]; omega
      · rw [if_neg h3] at ih
        rw [if_neg (by omega)]
        rw [← ih]; omega
theorem zer_le (n m : Nat) : zer n m ≤ n := by
  unfold zer; exact Nat.le_trans List.countP_le_length (by simp)
def Clo (L : List Step) (m i : Nat) : Prop := ∀ j : Nat, (j : Int) ∈ (stepAt L i).after → m.testBit j = true
structure Bfs (L : List Step) (s m : Nat) (Q : List Int) : Prop where
  sound : ∀ b, m.testBit b = true → Anc L s b ∧ b < L.length
  qs : ∀ x ∈ Q, ∃ b : Nat, x = b ∧ b < L.length ∧ (b = s ∨ Anc L s b)
  done : ∀ i, i = s ∨ m.testBit i = true → (i : Int) ∈ Q ∨ Clo L m i
structure BfsI (L : List Step) (s b k m : Nat) (Q : List Int) : Prop where
  sound : ∀ b, m.testBit b = true → Anc L s b ∧ b < L.length
  qs : ∀ x ∈ Q, ∃ b : Nat, x = b ∧ b < L.length ∧ (b = s ∨ Anc L s b)
  done : ∀ i, i = s ∨ m.testBit i = true → (i : Int) ∈ Q ∨ Clo L m i ∨ i = b
  now : ∀ q, q < k → m.testBit (intsAt (stepAt L b).after q).toNat = true
theorem Bfs.start {L : List Step} {s : Nat} (hs : s < L.length) : Bfs L s 0 [(s : Int)] :=
  ⟨fun b h => by simp at h, fun x hx => ⟨s, by simpa using hx, hs, .inl rfl⟩, fun i h => .inl (by rcases h with h | h; (subst h; simp); simp at h)⟩
theorem Bfs.pop {L : List Step} {s m b : Nat} {Q : List Int} (h : Bfs L s m ((b : Int) :: Q)) : BfsI L s b 0 m Q ∧ b < L.length ∧ (b = s ∨ Anc L s b) := by
  refine ⟨⟨h.sound, fun x hx => h.qs x (by simp [hx]), fun i hi => ?_, fun q hq => absurd hq (by omega)⟩, ?_⟩
  · rcases h.done i hi with h1 | h1
    · simp only [List.mem_cons] at h1
      rcases h1 with h1 | h1
      · exact .inr (.inr (by omega))
      · exact .inl h1
    · exact .inr (.inl h1)
  · obtain ⟨b', e, h1, h2⟩ := h.qs (b : Int) (by simp)
    have : b = b' := by omega
    subst this
    exact ⟨h1, h2⟩
theorem BfsI.old {L : List Step} {s b k m j : Nat} {Q : List Int} (h : BfsI L s b k m Q) (hj : intsAt (stepAt L b).after k = j) (hbit : m.testBit j = true) : BfsI L s b (k + 1) m Q :=
  ⟨h.sound, h.qs, h.done, fun q hq => by
    by_cases e : q = k
    · subst e; rw [hj]; exact hbit
    · exact h.now q (by omega)⟩
theorem BfsI.add {L : List Step} {s b k m j : Nat} {Q : List Int} (h : BfsI L s b k m Q) (hb : b = s ∨ Anc L s b) (hk : k < (stepAt L b).after.length) (hj : intsAt (stepAt L b).after k = j) (hjl : j < L.length) : BfsI L s b (k + 1) (m ||| 2 ^ j) (Q ++ [(j : Int)]) := by
  have hmem : (j : Int) ∈ (stepAt L b).after := by rw [← hj, intsAt_lt hk]; exact List.getElem_mem hk
  have hanc : Anc L s j := by
    rcases hb with e | hb
    · subst e; exact Anc.base hmem
    · exact hb.more hmem
  have hmono : ∀ i, m.testBit i = true → (m ||| 2 ^ j).testBit i = true := fun i hi => by rw [Nat.testBit_or, hi]; rfl
  have hself : (m ||| 2 ^ j).testBit j = true := by rw [Nat.testBit_or, Nat.testBit_two_pow]; simp
  refine ⟨fun i hi => ?_, fun x hx => ?_, fun i hi => ?_, fun q hq => ?_⟩
  · rw [Nat.testBit_or, Nat.testBit_two_pow, Bool.or_eq_true] at hi
    rcases hi with hi | hi
    · exact h.sound i hi
    · have e : j = i := by simpa using hi
      subst e; exact ⟨hanc, hjl⟩
  · simp only [List.mem_append, List.mem_singleton] at hx
    rcases hx with hx | hx
    · exact h.qs x hx
    · exact ⟨j, hx, hjl, .inr hanc⟩
  · have key : (i = s ∨ m.testBit i = true) ∨ i = j := by
      rcases hi with hi | hi
      · exact .inl (.inl hi)
      · rw [Nat.testBit_or, Nat.testBit_two_pow, Bool.or_eq_true] at hi
        rcases hi with hi | hi
        · exact .inl (.inr hi)
        · exact .inr (by have e : j = i := by simpa using hi
                         exact e.symm)
    rcases key with hk1 | hk1
    · rcases h.done i hk1 with h1 | h1 | h1
      · exact .inl (by simp [h1])
      · exact .inr (.inl (fun q hq => hmono q (h1 q hq)))
      · exact .inr (.inr h1)
    · subst hk1; exact .inl (by simp)
  · by_cases e : q = k
    · subst e; rw [hj]; exact hself
    · exact hmono _ (h.now q (by omega))
theorem BfsI.fin {L : List Step} {s b m : Nat} {Q : List Int} (h : BfsI L s b (stepAt L b).after.length m Q) : Bfs L s m Q := by
  refine ⟨h.sound, h.qs, fun i hi => ?_⟩
  rcases h.done i hi with h1 | h1 | h1
  · exact .inl h1
  · exact .inr h1
  · subst h1
    refine .inr (fun j hj => ?_)
    obtain ⟨q, hq, e⟩ := List.mem_iff_getElem.1 hj
    have := h.now q hq
    rw [intsAt_lt hq, e] at this
    exact this
theorem Bfs.all {L : List Step} {s m : Nat} (h : Bfs L s m []) (i : Nat) : ancB L s i = m.testBit i := by
  rw [Bool.eq_iff_iff, ancB_iff]
  constructor
  · intro ha
    refine ha (fun j => m.testBit j = true) (fun j hj => ?_) (fun a j ha hj => ?_)
    · rcases h.done s (.inl rfl) with h1 | h1
      · simp at h1
      · exact h1 j hj
    · rcases h.done a (.inr ha) with h1 | h1
      · simp at h1
      · exact h1 j hj
  · intro hb; exact (h.sound i hb).1

/-! ### By a growing list -/
structure Fnd (L : List Step) (s q : Nat) (F : List Int) : Prop where
  len : freeN L.length F + F.length = L.length
  sound : ∀ x ∈ F, ∃ b : Nat, x = b ∧ b < L.length ∧ Anc L s b
  base : ∀ j : Nat, (j : Int) ∈ (stepAt L s).after → (j : Int) ∈ F
  closed : ∀ p, p < q → ∀ j : Nat, (j : Int) ∈ (stepAt L (intsAt F p).toNat).after → (j : Int) ∈ F
theorem rises_free {n : Nat} {l : List Int} (h : risesN n l = true) : ∀ k, k ≤ l.length → freeN n (l.take k) + k = n := by
  have h0 := risesN_iff.1 h
  have hmono : ∀ a b, a < b → b < l.length → intsAt l a < intsAt l b := by
    intro a b hab
    induction b with
    | zero => omega
    | succ b ih =>
      intro hb
      have h1 := (h0 (b + 1) hb).2.2 (by omega)
      rw [Nat.add_sub_cancel] at h1
      by_cases e : a = b
      · subst e; exact h1
      · exact Int.lt_trans (ih (by omega) (by omega)) h1
  intro k
  induction k with
  | zero => intro _; simp [freeN_nil]
  | succ k ih =>
    intro hk
    obtain ⟨b, hb⟩ := Int.eq_ofNat_of_zero_le (h0 k (by omega)).1
    have hlt : b < n := by have := (h0 k (by omega)).2.1; omega
    have hno : hasI (l.take k) (b : Int) = false := by
      rw [hasI_no]
      intro hx
      obtain ⟨j, hj, e⟩ := List.mem_iff_getElem.1 hx
      have hj2 : j < k := by simp at hj; omega
      rw [List.getElem_take, ← intsAt_lt (by omega)] at e
      have := hmono j k hj2 (by omega)
      omega
    have h1 := freeN_snoc (l.take k) b hno n
    rw [if_pos hlt] at h1
    rw [take_snoc l 0 (by omega), show l.getD k 0 = (b : Int) from hb]
    have := ih (by omega)
    omega
theorem Fnd.start {L : List Step} {s : Nat} (hok : stepsOk L = true) (hs : s < L.length) : Fnd L s 0 (stepAt L s).after := by
  have h1 := stepsOk_iff.1 hok s hs
  have hr : risesN L.length (stepAt L s).after = true := by simp only [stepOk, Bool.and_eq_true] at h1; exact h1.1.2
  have h2 := rises_free hr (stepAt L s).after.length (Nat.le_refl _)
  rw [List.take_length] at h2
  refine ⟨h2, fun x hx => ?_, fun j hj => hj, fun p hp => absurd hp (by omega)⟩
  obtain ⟨h3, h4⟩ := (steps_bd hok hs).2.2.1 x hx
  obtain ⟨b, rfl⟩ := Int.eq_ofNat_of_zero_le h3
  exact ⟨b, rfl, by omega, Anc.base hx⟩
/-- The round of index q, of its list's first k. -/
structure FndI (L : List Step) (s q k : Nat) (F : List Int) : Prop where
  fnd : Fnd L s q F
  lt : q < F.length
  now : ∀ p, p < k → hasI F (intsAt (stepAt L (intsAt F q).toNat).after p) = true
theorem FndI.skip {L : List Step} {s q k : Nat} {F : List Int} (h : FndI L s q k F) (hh : hasI F (intsAt (stepAt L (intsAt F q).toNat).after k) = true) : FndI L s q (k + 1) F :=
  ⟨h.fnd, h.lt, fun p hp => by
    by_cases e : p = k
    · subst e; exact hh
    · exact h.now p (by omega)⟩
theorem FndI.add {L : List Step} {s q k j b : Nat} {F : List Int} (h : FndI L s q k F) (hb : intsAt F q = b) (hk : k < (stepAt L b).after.length) (hj : intsAt (stepAt L b).after k = j) (hjl : j < L.length) (hh : hasI F (j : Int) = false) : FndI L s q (k + 1) (F ++ [(j : Int)]) := by
  have hmem : (j : Int) ∈ (stepAt L b).after := by rw [← hj, intsAt_lt hk]; exact List.getElem_mem hk
  have hbm : (b : Int) ∈ F := by rw [← hb, intsAt_lt h.lt]; exact List.getElem_mem h.lt
  obtain ⟨b', e, _, hanc⟩ := h.fnd.sound _ hbm
  have : b = b' := by omega
  subst this
  have h1 := freeN_snoc F j hh L.length
  rw [if_pos hjl] at h1
  have hat : ∀ p, p < F.length → intsAt (F ++ [(j : Int)]) p = intsAt F p := fun p hp => intsAt_snoc0 _ _ hp
  have hlt := h.lt
  refine ⟨⟨by have := h.fnd.len; simp; omega, fun x hx => ?_, fun i hi => by simp [h.fnd.base i hi], fun p hp i hi => ?_⟩, by simp; omega, fun p hp => ?_⟩
  · simp only [List.mem_append, List.mem_singleton] at hx
    rcases hx with hx | hx
    · exact h.fnd.sound x hx
    · exact ⟨j, hx, hjl, hanc.more hmem⟩
  · rw [hat p (by omega)] at hi
    simp [h.fnd.closed p hp i hi]
  · rw [hat q hlt, hasI_snoc]
    by_cases e : p = k
    · subst e; rw [hb]; show (hasI F (intsAt (stepAt L b).after p) || decide ((j : Int) = intsAt (stepAt L b).after p)) = true; rw [hj]; simp
    · rw [h.now p (by omega)]; rfl
theorem FndI.fin {L : List Step} {s q b : Nat} {F : List Int} (hb : intsAt F q = b) (h : FndI L s q (stepAt L b).after.length F) : Fnd L s (q + 1) F := by
  refine ⟨h.fnd.len, h.fnd.sound, h.fnd.base, fun p hp j hj => ?_⟩
  by_cases e : p = q
  · subst e
    have hj2 : (j : Int) ∈ (stepAt L b).after := by have h0 := hj; rw [hb] at h0; exact h0
    obtain ⟨r, hr, e⟩ := List.mem_iff_getElem.1 hj2
    have := h.now r hr
    rw [hb] at this
    have h2 : hasI F (intsAt (stepAt L b).after r) = true := this
    rw [intsAt_lt hr, e] at h2
    exact hasI_iff.1 h2
  · exact h.fnd.closed p (by omega) j hj
theorem Fnd.all {L : List Step} {s : Nat} {F : List Int} (h : Fnd L s F.length F) (i : Nat) : ancB L s i = hasI F i := by
  rw [Bool.eq_iff_iff, ancB_iff, hasI_iff]
  constructor
  · intro ha
    refine ha (fun j => (j : Int) ∈ F) h.base (fun a j ha hj => ?_)
    obtain ⟨p, hp, e⟩ := List.mem_iff_getElem.1 ha
    refine h.closed p hp j ?_
    rw [intsAt_lt hp, e]
    exact hj
  · intro hb
    obtain ⟨b, e, _, ha⟩ := h.sound _ hb
    have : i = b := by omega
    subst this
    exact ha
end Go.Proofs.Ytecfkomijaakhaa
