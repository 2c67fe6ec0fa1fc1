/- Recipes: what a step may be, what is ready, the first order; masks and lists. No walks. -/
import Derived.Test.YtecfkomijaakhaaStepS
import Derived.Test.YtecfkomijaakhaaBits
namespace Go.Proofs.Ytecfkomijaakhaa
open Go.RowKit

def hasI (l : List Int) (x : Int) : Bool := l.any fun y => decide (y = x)
theorem hasI_iff {l : List Int} {x : Int} : hasI l x = true ↔ x ∈ l := by
  simp only [hasI, List.any_eq_true, decide_eq_true_eq]
  constructor
  · rintro ⟨y, h, rfl⟩; exact h
  · intro h; exact ⟨x, h, rfl⟩
theorem hasI_no {l : List Int} {x : Int} : hasI l x = false ↔ x ∉ l := by
  rw [← Bool.not_eq_true, hasI_iff]
theorem hasI_nil (x : Int) : hasI [] x = false := rfl
theorem hasI_snoc (l : List Int) (y x : Int) : hasI (l ++ [y]) x = (hasI l x || decide (y = x)) := by simp [hasI]
theorem hasI_take (l : List Int) {k : Nat} (h : k < l.length) (x : Int) : hasI (l.take (k + 1)) x = (hasI (l.take k) x || decide (intsAt l k = x)) := by
  rw [take_snoc l 0 h, hasI_snoc]; rfl
/-- Strictly rising within 0 to n - 1. -/
def risesN (n : Int) (l : List Int) : Bool := decide (∀ i, i < l.length → 0 ≤ intsAt l i ∧ intsAt l i ≤ n - 1 ∧ (0 < i → intsAt l (i - 1) < intsAt l i))
theorem risesN_iff {n : Int} {l : List Int} : risesN n l = true ↔ ∀ i, i < l.length → 0 ≤ intsAt l i ∧ intsAt l i ≤ n - 1 ∧ (0 < i → intsAt l (i - 1) < intsAt l i) := by simp only [risesN, decide_eq_true_eq]
theorem risesN_no {n : Int} {l : List Int} {i : Nat} (hi : i < l.length) (h : ¬ (0 ≤ intsAt l i ∧ intsAt l i ≤ n - 1 ∧ (0 < i → intsAt l (i - 1) < intsAt l i))) : risesN n l = false := by
  cases e : risesN n l
  · rfl
  · exact absurd (risesN_iff.1 e i hi) h
def stepOk (n i : Nat) (s : Step) : Bool := inR s.minutes 1 240 && inR s.tool 0 9 && risesN n s.after && !hasI s.after i
def stepsOk (L : List Step) : Bool := decide (∀ i, i < L.length → stepOk L.length i (stepAt L i) = true)
theorem stepsOk_iff {L : List Step} : stepsOk L = true ↔ ∀ i, i < L.length → stepOk L.length i (stepAt L i) = true := by simp only [stepsOk, decide_eq_true_eq]
theorem stepsOk_no {L : List Step} {i : Nat} (hi : i < L.length) (h : stepOk L.length i (stepAt L i) = false) : stepsOk L = false := by
  cases e : stepsOk L
  · rfl
  · rw [stepsOk_iff.1 e i hi] at h; cases h
theorem stepOk_bd {n i : Nat} {s : Step} (h : stepOk n i s = true) : (1 ≤ s.minutes ∧ s.minutes ≤ 240) ∧ (0 ≤ s.tool ∧ s.tool ≤ 9) ∧ (∀ j ∈ s.after, 0 ≤ j ∧ j < n) ∧ ((i : Int) ∉ s.after) := by
  simp only [stepOk, Bool.and_eq_true, inR, decide_eq_true_eq, Bool.not_eq_true'] at h
  refine ⟨h.1.1.1, h.1.1.2, fun j hj => ?_, hasI_no.1 h.2⟩
  obtain ⟨k, hk, rfl⟩ := List.mem_iff_getElem.1 hj
  have := risesN_iff.1 h.1.2 k hk
  rw [intsAt_lt hk] at this
  omega
theorem steps_bd {L : List Step} (h : stepsOk L = true) {i : Nat} (hi : i < L.length) : (1 ≤ (stepAt L i).minutes ∧ (stepAt L i).minutes ≤ 240) ∧ (0 ≤ (stepAt L i).tool ∧ (stepAt L i).tool ≤ 9) ∧ (∀ j ∈ (stepAt L i).after, 0 ≤ j ∧ j < L.length) ∧ ((i : Int) ∉ (stepAt L i).after) :=
  stepOk_bd (stepsOk_iff.1 h i hi)
theorem steps_after {L : List Step} (h : stepsOk L = true) {i k : Nat} (hi : i < L.length) (hk : k < (stepAt L i).after.length) : 0 ≤ intsAt (stepAt L i).after k ∧ intsAt (stepAt L i).after k < L.length := by
  have := (steps_bd h hi).2.2.1 _ (List.getElem_mem hk)
  rwa [← intsAt_lt hk] at this

/-- All that has to be done before a step lies in a list; in a mask. -/
def doneIn (s : Step) (out : List Int) : Bool := s.after.all fun j => hasI out j
def readyM (s : Step) (m : Nat) : Bool := s.after.all fun j => m.testBit j.toNat
theorem doneIn_iff {s : Step} {out : List Int} : doneIn s out = true ↔ ∀ j ∈ s.after, j ∈ out := by
  simp only [doneIn, List.all_eq_true, hasI_iff]
theorem readyM_iff {s : Step} {m : Nat} : readyM s m = true ↔ ∀ j ∈ s.after, m.testBit j.toNat = true := by simp only [readyM, List.all_eq_true]
theorem all_no {l : List Int} {p : Int → Bool} {k : Nat} (hk : k < l.length) (h : p (intsAt l k) = false) : l.all p = false := by
  rw [List.all_eq_false]
  exact ⟨_, List.getElem_mem hk, by rw [← intsAt_lt hk, h]; simp⟩
theorem all_yes {l : List Int} {p : Int → Bool} (h : ∀ k, k < l.length → p (intsAt l k) = true) : l.all p = true := by
  rw [List.all_eq_true]
  intro x hx
  obtain ⟨k, hk, rfl⟩ := List.mem_iff_getElem.1 hx
  rw [← intsAt_lt hk]; exact h k hk
/-- A mask says what lies in a list. -/
def MaskIs (m : Nat) (out : List Int) : Prop := ∀ b : Nat, m.testBit b = hasI out b
theorem maskIs_of {out : List Int} (h : ∀ x ∈ out, 0 ≤ x) : MaskIs (maskOf out) out := by
  intro b
  rw [maskOf_test]
  cases e : hasI out b
  · rw [List.any_eq_false]
    intro x hx
    have := hasI_no.1 e
    have h0 := h x hx
    simp only [decide_eq_true_eq]
    intro hb
    have : x = (b : Int) := by omega
    subst this; contradiction
  · rw [List.any_eq_true]
    exact ⟨b, hasI_iff.1 e, by simp⟩
theorem MaskIs.zero : MaskIs 0 [] := fun b => by simp [hasI]
theorem MaskIs.snoc {m : Nat} {out : List Int} (h : MaskIs m out) (b : Nat) : MaskIs (m ||| 2 ^ b) (out ++ [(b : Int)]) := by
  intro c
  rw [Nat.testBit_or, h c, hasI_snoc, Nat.testBit_two_pow]
  congr 1
  rw [decide_eq_decide]
  omega
theorem MaskIs.ready {m : Nat} {out : List Int} (h : MaskIs m out) {s : Step} (hs : ∀ j ∈ s.after, 0 ≤ j) : readyM s m = doneIn s out := by
  unfold readyM doneIn
  rw [Bool.eq_iff_iff, List.all_eq_true, List.all_eq_true]
  constructor
  · intro H j hj
    have := H j hj
    rw [h] at this
    rwa [Int.toNat_of_nonneg (hs j hj)] at this
  · intro H j hj
    have := H j hj
    rw [h, Int.toNat_of_nonneg (hs j hj)]; exact this

/-! ### The first order -/
def canGo (L : List Step) (out : List Int) (i : Nat) : Bool := !hasI out i && doneIn (stepAt L i) out
def pick (L : List Step) (out : List Int) : Option Nat := (List.range L.length).find? (canGo L out)
theorem pick_some {L : List Step} {out : List Int} {k : Nat} (hk : k < L.length) (h : canGo L out k = true) (hn : ∀ j, j < k → canGo L out j = false) : pick L out = some k := by
  rw [pick, List.find?_range_eq_some]
  exact ⟨h, by simpa using hk, fun j hj => by rw [hn j hj]; rfl⟩
theorem pick_none {L : List Step} {out : List Int} (hn : ∀ j, j < L.length → canGo L out j = false) : pick L out = none := by
  rw [pick, List.find?_range_eq_none]
  exact fun j hj => by rw [hn j hj]; rfl
theorem pick_is {L : List Step} {out : List Int} {k : Nat} (h : pick L out = some k) : k < L.length ∧ canGo L out k = true := by
  rw [pick, List.find?_range_eq_some] at h
  exact ⟨by simpa using h.2.1, h.1⟩
theorem pick_no {L : List Step} {out : List Int} (h : pick L out = none) {j : Nat} (hj : j < L.length) : canGo L out j = false := by
  rw [pick, List.find?_range_eq_none] at h
  have := h j hj
  simpa using this
def greedyGo (L : List Step) : Nat → List Int → List Int
  | 0, out => out
  | f + 1, out => match pick L out with
    | none => out
    | some i => greedyGo L f (out ++ [(i : Int)])
def firstOrd (L : List Step) : List Int := greedyGo L L.length []
theorem greedyGo_some {L : List Step} {out : List Int} {f k : Nat} (h : pick L out = some k) : greedyGo L (f + 1) out = greedyGo L f (out ++ [(k : Int)]) := by rw [greedyGo, h]
theorem greedyGo_none {L : List Step} {out : List Int} {f : Nat} (h : pick L out = none) : greedyGo L f out = out := by
  cases f
  · rfl
  · rw [greedyGo, h]
theorem greedyGo_pre (L : List Step) : ∀ (f : Nat) (out : List Int), ∃ t, greedyGo L f out = out ++ t
  | 0, out => ⟨[], by simp [greedyGo]⟩
  | f + 1, out => by
    cases h : pick L out with
    | none => exact ⟨[], by rw [greedyGo_none h]; simp⟩
    | some k =>
      obtain ⟨t, ht⟩ := greedyGo_pre L f (out ++ [(k : Int)])
      exact ⟨(k : Int) :: t, by rw [greedyGo_some h, ht]; simp⟩
/-- How many below n are not in a list. -/
def freeN (n : Nat) (out : List Int) : Nat := (List.range n).countP fun (i : Nat) => !hasI out (i : Int)
theorem freeN_snoc (out : List Int) (k : Nat) (h : hasI out k = false) : ∀ n, freeN n (out ++ [(k : Int)]) + (if k < n then 1 else 0) = freeN n out := by
  intro n
  induction n with
  | zero => simp [freeN]
  | succ n ih =>
    unfold freeN at ih ⊢
    rw [List.range_succ, List.countP_append, List.countP_append]
    simp only [List.countP_cons, List.countP_nil, hasI_snoc] at ih ⊢
    by_cases e : k = n
    · subst e
      rw [if_neg (by omega)] at ih
      rw [h]; simp; simpa using ih
    · have e2 : decide ((k : Int) = (n : Int)) = false := by simp; omega
      rw [e2]
      simp only [Bool.or_false]
      generalize (if (!hasI out (n : Int)) = true then 1 else 0) = c
      by_cases h3 : k < n
      · rw [if_pos h3] at ih
        rw [if_pos (by omega)]
        rw [← ih]; omega
      · rw [if_neg h3] at ih
        rw [if_neg (by omega)]
        rw [← ih]; omega
theorem freeN_zero {n : Nat} {out : List Int} (h : freeN n out = 0) {b : Nat} (hb : b < n) : hasI out b = true := by
  unfold freeN at h
  rw [List.countP_eq_zero] at h
  have := h b (by simpa using hb)
  simpa using this
theorem freeN_pos {n : Nat} {out : List Int} {b : Nat} (hb : b < n) (h : hasI out b = false) : 0 < freeN n out := by
  unfold freeN
  rw [List.countP_pos_iff]
  exact ⟨b, by simpa using hb, by simp [h]⟩
theorem freeN_nil (n : Nat) : freeN n [] = n := by
  unfold freeN
  rw [List.countP_eq_length.2 (fun a _ => by simp [hasI])]
  simp
/-- What each beginning of the first order is. -/
structure Grown (L : List Step) (out : List Int) : Prop where
  len : freeN L.length out + out.length = L.length
  mem : ∀ i, i < out.length → ∃ b : Nat, intsAt out i = b ∧ b < L.length
  ready : ∀ i, i < out.length → doneIn (stepAt L (intsAt out i).toNat) (out.take i) = true
  new : ∀ i, i < out.length → hasI (out.take i) (intsAt out i) = false
theorem Grown.nil (L : List Step) : Grown L [] := ⟨by rw [freeN_nil]; rfl, fun i h => absurd h (by simp), fun i h => absurd h (by simp), fun i h => absurd h (by simp)⟩
theorem intsAt_snoc0 (l : List Int) (x : Int) {j : Nat} (h : j < l.length) : intsAt (l ++ [x]) j = intsAt l j := by simp [intsAt, List.getD, List.getElem?_append_left h]
theorem intsAt_last0 (l : List Int) (x : Int) : intsAt (l ++ [x]) l.length = x := by simp [intsAt, List.getD]
theorem Grown.snoc {L : List Step} {out : List Int} (h : Grown L out) {k : Nat} (hk : k < L.length) (hc : canGo L out k = true) : Grown L (out ++ [(k : Int)]) := by
  simp only [canGo, Bool.and_eq_true, Bool.not_eq_true'] at hc
  have h1 := freeN_snoc out k hc.1 L.length
  rw [if_pos hk] at h1
  have h2 := h.len
  refine ⟨by simp; omega, fun i hi => ?_, fun i hi => ?_, fun i hi => ?_⟩
  all_goals
    simp only [List.length_append, List.length_singleton] at hi
    by_cases e : i < out.length
  · rw [intsAt_snoc0 _ _ e]; exact h.mem i e
  · obtain rfl : i = out.length := by omega
    rw [intsAt_last0]; exact ⟨k, rfl, hk⟩
  · rw [intsAt_snoc0 _ _ e, List.take_append_of_le_length (by omega)]; exact h.ready i e
  · obtain rfl : i = out.length := by omega
    rw [intsAt_last0, List.take_append_of_le_length (by omega), List.take_length]
    simpa using hc.2
  · rw [intsAt_snoc0 _ _ e, List.take_append_of_le_length (by omega)]; exact h.new i e
  · obtain rfl : i = out.length := by omega
    rw [intsAt_last0, List.take_append_of_le_length (by omega), List.take_length]
    exact hc.1
theorem greedyGo_grown {L : List Step} : ∀ (f : Nat) (out : List Int), Grown L out → freeN L.length out ≤ f → Grown L (greedyGo L f out) ∧ pick L (greedyGo L f out) = none
  | 0, out, h, hf => by
    refine ⟨h, pick_none fun j hj => ?_⟩
    have := freeN_zero (n := L.length) (out := out) (by omega) hj
    show canGo L out j = false
    simp [canGo, this]
  | f + 1, out, h, hf => by
    cases hp : pick L out with
    | none => rw [greedyGo_none hp]; exact ⟨h, hp⟩
    | some k =>
      obtain ⟨hk, hc⟩ := pick_is hp
      rw [greedyGo_some hp]
      have hc' := hc
      simp only [canGo, Bool.and_eq_true, Bool.not_eq_true'] at hc'
      have h1 := freeN_snoc out k hc'.1 L.length
      rw [if_pos hk] at h1
      exact greedyGo_grown f _ (h.snoc hk hc) (by omega)
theorem firstOrd_grown (L : List Step) : Grown L (firstOrd L) ∧ pick L (firstOrd L) = none :=
  greedyGo_grown L.length [] (Grown.nil L) (by rw [freeN_nil]; exact Nat.le_refl _)
theorem Grown.nn {L : List Step} {out : List Int} (h : Grown L out) : ∀ x ∈ out, 0 ≤ x := by
  intro x hx
  obtain ⟨i, hi, rfl⟩ := List.mem_iff_getElem.1 hx
  obtain ⟨b, e, _⟩ := h.mem i hi
  rw [intsAt_lt hi] at e
  omega
theorem Grown.le {L : List Step} {out : List Int} (h : Grown L out) : out.length ≤ L.length := by have := h.len; omega
theorem firstOrd_full {L : List Step} : (firstOrd L).length = L.length ↔ ∀ b, b < L.length → hasI (firstOrd L) b = true := by
  have hg := (firstOrd_grown L).1
  constructor
  · intro h b hb
    exact freeN_zero (by have := hg.len; omega) hb
  · intro h
    have h1 := hg.len
    have h2 : freeN L.length (firstOrd L) = 0 := by
      unfold freeN
      rw [List.countP_eq_zero]
      intro b hb
      rw [h b (by simpa using hb)]; simp
    omega
/-- A recipe. -/
def isRecipe (L : List Step) : Bool := decide (L.length ≤ 9) && stepsOk L && decide ((firstOrd L).length = L.length)
theorem isRecipe_iff {L : List Step} : isRecipe L = true ↔ L.length ≤ 9 ∧ stepsOk L = true ∧ (firstOrd L).length = L.length := by
  simp only [isRecipe, Bool.and_eq_true, decide_eq_true_eq, and_assoc]
theorem isRecipe_long {L : List Step} (h : ¬ L.length ≤ 9) : isRecipe L = false := by simp [isRecipe, h]
theorem isRecipe_bad {L : List Step} (h : stepsOk L = false) : isRecipe L = false := by simp [isRecipe, h]

/-! ### What the program's rounds find -/
/-- One look at step i. -/
def lookM (L : List Step) (m i : Nat) : Nat := if (!m.testBit i && readyM (stepAt L i) m) = true then m ||| 2 ^ i else m
/-- All that is found lies in the first order; its first k are found. -/
structure Found (L : List Step) (k i m : Nat) : Prop where
  sound : ∀ b, m.testBit b = true → b < L.length ∧ hasI (firstOrd L) b = true
  all : ∀ j, j < k → j < (firstOrd L).length → m.testBit (intsAt (firstOrd L) j).toNat = true
  now : ∀ b : Nat, k < (firstOrd L).length → intsAt (firstOrd L) k = b → b < i → m.testBit b = true
theorem Found.zero (L : List Step) : Found L 0 0 0 := ⟨fun b h => by simp at h, fun j h => absurd h (by omega), fun b _ _ h => absurd h (by omega)⟩
theorem Found.next {L : List Step} {k m : Nat} (h : Found L k L.length m) : Found L (k + 1) 0 m := by
  refine ⟨h.sound, fun j hj hl => ?_, fun b _ _ h => absurd h (by omega)⟩
  by_cases e : j < k
  · exact h.all j e hl
  · obtain rfl : j = k := by omega
    obtain ⟨b, hb, hb2⟩ := (firstOrd_grown L).1.mem j hl
    rw [hb]
    exact h.now b hl hb hb2
theorem Found.lt {L : List Step} {k i m : Nat} (h : Found L k i m) : m < 2 ^ L.length := by
  apply Nat.lt_pow_two_of_testBit
  intro b hb
  cases e : m.testBit b
  · rfl
  · have := (h.sound b e).1; omega
theorem look_mono {L : List Step} {m i b : Nat} (h : m.testBit b = true) : (lookM L m i).testBit b = true := by
  unfold lookM
  split
  · rw [Nat.testBit_or, h]; rfl
  · exact h
theorem Found.look {L : List Step} (hL : stepsOk L = true) {k i m : Nat} (h : Found L k i m) (hi : i < L.length) : Found L k (i + 1) (lookM L m i) := by
  refine ⟨fun b hb => ?_, fun j hj hl => look_mono (h.all j hj hl), fun b hk hb hlt => ?_⟩
  · unfold lookM at hb
    split at hb
    · rename_i hc
      rw [Nat.testBit_or, Nat.testBit_two_pow, Bool.or_eq_true] at hb
      rcases hb with hb | hb
      · exact h.sound b hb
      · obtain rfl : i = b := by simpa using hb
        refine ⟨hi, ?_⟩
        cases e : hasI (firstOrd L) i
        · have h1 := pick_no (firstOrd_grown L).2 hi
          simp only [Bool.and_eq_true] at hc
          have h2 := readyM_iff.1 hc.2
          have : doneIn (stepAt L i) (firstOrd L) = true := by
            rw [doneIn_iff]
            intro j hj
            have h3 := (h.sound _ (h2 j hj)).2
            have h4 := ((steps_bd hL hi).2.2.1 j hj).1
            rw [Int.toNat_of_nonneg h4] at h3
            exact hasI_iff.1 h3
          simp [canGo, e, this] at h1
        · rfl
    · exact h.sound b hb
  · by_cases e : b < i
    · exact look_mono (h.now b hk hb e)
    · obtain rfl : b = i := by omega
      cases e2 : m.testBit b
      · have hr := (firstOrd_grown L).1.ready k hk
        rw [hb] at hr
        have : readyM (stepAt L b) m = true := by
          rw [readyM_iff]
          intro j hj
          have h3 := doneIn_iff.1 hr j (by simpa using hj)
          obtain ⟨q, hq, rfl⟩ := List.mem_iff_getElem.1 h3
          have hq2 : q < k := by simp at hq; omega
          have h4 := h.all q hq2 (by omega)
          rw [intsAt_lt (by omega)] at h4
          rwa [List.getElem_take]
        unfold lookM
        rw [if_pos (by simp [e2, this]), Nat.testBit_or, Nat.testBit_two_pow]; simp
      · exact look_mono e2
theorem Found.full {L : List Step} {m : Nat} (h : Found L L.length 0 m) : (m = 2 ^ L.length - 1) ↔ (firstOrd L).length = L.length := by
  rw [firstOrd_full]
  constructor
  · intro e b hb
    refine (h.sound b ?_).2
    rw [e, Nat.testBit_two_pow_sub_one]; simpa using hb
  · intro hf
    apply Nat.eq_of_testBit_eq
    intro b
    rw [Nat.testBit_two_pow_sub_one]
    by_cases hb : b < L.length
    · have h1 := hasI_iff.1 (hf b hb)
      obtain ⟨j, hj, e⟩ := List.mem_iff_getElem.1 h1
      have h2 := h.all j (by have := (firstOrd_grown L).1.le; omega) hj
      rw [intsAt_lt hj, e] at h2
      simpa [hb] using h2
    · rw [show decide (b < L.length) = false by simpa using hb]
      cases e : m.testBit b
      · rfl
      · exact absurd (h.sound b e).1 hb

/-! ### Orders -/
def ordOk (L : List Step) (P : List Int) : Bool := decide (P.length = L.length) && decide (∀ i, i < P.length → (0 ≤ intsAt P i ∧ intsAt P i < L.length) ∧ hasI (P.take i) (intsAt P i) = false ∧ doneIn (stepAt L (intsAt P i).toNat) (P.take i) = true)
theorem ordOk_iff {L : List Step} {P : List Int} : ordOk L P = true ↔ P.length = L.length ∧ ∀ i, i < P.length → (0 ≤ intsAt P i ∧ intsAt P i < L.length) ∧ hasI (P.take i) (intsAt P i) = false ∧ doneIn (stepAt L (intsAt P i).toNat) (P.take i) = true := by
  simp only [ordOk, Bool.and_eq_true, decide_eq_true_eq]
theorem ordOk_len {L : List Step} {P : List Int} (h : P.length ≠ L.length) : ordOk L P = false := by
  cases e : ordOk L P
  · rfl
  · exact absurd (ordOk_iff.1 e).1 h
theorem ordOk_no {L : List Step} {P : List Int} {i : Nat} (hi : i < P.length) (h : ¬ ((0 ≤ intsAt P i ∧ intsAt P i < L.length) ∧ hasI (P.take i) (intsAt P i) = false ∧ doneIn (stepAt L (intsAt P i).toNat) (P.take i) = true)) : ordOk L P = false := by
  cases e : ordOk L P
  · rfl
  · exact absurd ((ordOk_iff.1 e).2 i hi) h
def isOrderF (L : List Step) (P : List Int) : Bool × Int := if isRecipe L = true then (ordOk L P, 0) else (false, 1)
def firstOrderF (L : List Step) : List Int × Int := if isRecipe L = true then (firstOrd L, 0) else ([], 1)
theorem firstOrderF_len (L : List Step) : (firstOrderF L).1.length ≤ 4194304 := by
  unfold firstOrderF
  split
  · rename_i h
    have := isRecipe_iff.1 h
    show (firstOrd L).length ≤ _
    omega
  · simp
end Go.Proofs.Ytecfkomijaakhaa
