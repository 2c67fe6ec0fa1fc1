/- Longest chains, plain: the table's greedy chain is the longest, and of the longest the smallest. -/
import Derived.Test.YtecfkomijaakhaaOrN
namespace Go.Proofs.Ytecfkomijaakhaa
open Go.RowKit

def befN (L : List Step) (i k : Nat) : Bool := hasI (stepAt L k).after i
def mnt (L : List Step) (i : Nat) : Int := (stepAt L i).minutes
/-- The most of M over the steps below q that come right behind i (0 without one). -/
def bestOver (L : List Step) (M : Nat → Int) (i : Nat) : Nat → Int
  | 0 => 0
  | k + 1 => if befN L i k = true then max (bestOver L M i k) (M k) else bestOver L M i k
def gOver (M : Nat → Int) : Nat → Int
  | 0 => 0
  | k + 1 => max (gOver M k) (M k)
def Ch (L : List Step) : List Nat → Prop
  | [] => True
  | i :: c => i < L.length ∧ (∀ k, c.head? = some k → befN L i k = true) ∧ Ch L c
def sumC (L : List Step) : List Nat → Int
  | [] => 0
  | i :: c => mnt L i + sumC L c
theorem bestOver_nn (L : List Step) (M : Nat → Int) (i : Nat) : ∀ q, 0 ≤ bestOver L M i q
  | 0 => Int.le_refl _
  | q + 1 => by
    have := bestOver_nn L M i q
    rw [bestOver]; split <;> omega
theorem bestOver_le {L : List Step} {M : Nat → Int} {i k : Nat} (h : befN L i k = true) : ∀ q, k < q → M k ≤ bestOver L M i q
  | 0, hk => absurd hk (by omega)
  | q + 1, hk => by
    rw [bestOver]
    by_cases e : k = q
    · subst e; rw [if_pos h]; omega
    · have := bestOver_le (M := M) h q (by omega)
      split <;> omega
theorem bestOver_is (L : List Step) (M : Nat → Int) (i : Nat) : ∀ q, bestOver L M i q = 0 ∨ ∃ k, k < q ∧ befN L i k = true ∧ bestOver L M i q = M k
  | 0 => Or.inl rfl
  | q + 1 => by
    have ih := bestOver_is L M i q
    rw [bestOver]
    split
    · rename_i h
      by_cases hm : bestOver L M i q ≤ M q
      · exact Or.inr ⟨q, by omega, h, by omega⟩
      · rcases ih with ih | ⟨k, h1, h2, h3⟩
        · exact Or.inl (by omega)
        · exact Or.inr ⟨k, by omega, h2, by omega⟩
    · rcases ih with ih | ⟨k, h1, h2, h3⟩
      · exact Or.inl ih
      · exact Or.inr ⟨k, by omega, h2, h3⟩
theorem gOver_le {M : Nat → Int} : ∀ {q k : Nat}, k < q → M k ≤ gOver M q
  | 0, _, hk => absurd hk (by omega)
  | q + 1, k, hk => by
    rw [gOver]
    by_cases e : k = q
    · subst e; omega
    · have := gOver_le (M := M) (q := q) (k := k) (by omega); omega
theorem gOver_nn (M : Nat → Int) : ∀ q, 0 ≤ gOver M q
  | 0 => Int.le_refl _
  | q + 1 => by have := gOver_nn M q; rw [gOver]; omega
theorem gOver_is (M : Nat → Int) : ∀ q, gOver M q = 0 ∨ ∃ k, k < q ∧ gOver M q = M k
  | 0 => Or.inl rfl
  | q + 1 => by
    have ih := gOver_is M q
    rw [gOver]
    by_cases hm : gOver M q ≤ M q
    · exact Or.inr ⟨q, by omega, by omega⟩
    · rcases ih with ih | ⟨k, h1, h3⟩
      · exact Or.inl (by omega)
      · exact Or.inr ⟨k, by omega, by omega⟩
/-- What the table is in the end. -/
def Tab (L : List Step) (M : Nat → Int) : Prop := ∀ i, i < L.length → M i = mnt L i + bestOver L M i L.length
theorem ch_le {L : List Step} {M : Nat → Int} (h : Tab L M) : ∀ (c : List Nat) (i : Nat), Ch L (i :: c) → sumC L (i :: c) ≤ M i
  | [], i, hc => by
    have := h i hc.1
    have := bestOver_nn L M i L.length
    simp only [sumC]; omega
  | k :: c, i, hc => by
    have h1 := h i hc.1
    have h2 := ch_le h c k hc.2.2
    have h3 := bestOver_le (M := M) (hc.2.1 k rfl) L.length hc.2.2.1
    rw [sumC]; omega
/-- May k follow the last step? -/
def folP (L : List Step) (last : Option Nat) (k : Nat) : Bool := match last with
  | none => true
  | some i => befN L i k
def okG (L : List Step) (M : Nat → Int) (left : Int) (last : Option Nat) (k : Nat) : Bool := decide (M k = left) && folP L last k
def pickG (L : List Step) (M : Nat → Int) (left : Int) (last : Option Nat) : Option Nat := (List.range L.length).find? (okG L M left last)
def goG (L : List Step) (M : Nat → Int) : Nat → Option Nat → Int → List Nat
  | 0, _, _ => []
  | f + 1, last, left => if left ≤ 0 then [] else match pickG L M left last with
    | none => []
    | some k => k :: goG L M f (some k) (left - mnt L k)
def lexL : List Nat → List Nat → Bool
  | _, [] => false
  | [], _ :: _ => true
  | a :: x, b :: y => if a = b then lexL x y else decide (a < b)
theorem lexL_same : ∀ {a b : List Nat}, lexL a b = false → lexL b a = false → a = b
  | [], [], _, _ => rfl
  | [], _ :: _, h, _ => by simp [lexL] at h
  | _ :: _, [], _, h => by simp [lexL] at h
  | a :: x, b :: y, h, k => by
    simp only [lexL] at h k
    by_cases e : a = b
    · subst e
      rw [if_pos rfl] at h k
      rw [lexL_same h k]
    · rw [if_neg e, decide_eq_false_iff_not] at h
      rw [if_neg (fun q => e q.symm), decide_eq_false_iff_not] at k
      exact absurd (by omega) e
theorem lexL_irr : ∀ a : List Nat, lexL a a = false
  | [] => rfl
  | a :: x => by simp only [lexL, if_true]; exact lexL_irr x
theorem lexL_trans : ∀ {a b c : List Nat}, lexL a b = true → lexL b c = true → lexL a c = true
  | _, _, [], _, h => by simp [lexL] at h
  | [], _, _ :: _, _, _ => rfl
  | _ :: _, [], _ :: _, h, _ => by simp [lexL] at h
  | a :: x, b :: y, c :: z, h, k => by
    simp only [lexL] at h k ⊢
    by_cases e : a = b
    · subst e
      rw [if_pos rfl] at h
      by_cases e2 : a = c
      · subst e2
        rw [if_pos rfl] at k ⊢
        exact lexL_trans h k
      · rw [if_neg e2] at k ⊢; exact k
    · rw [if_neg e, decide_eq_true_eq] at h
      by_cases e2 : b = c
      · subst e2
        rw [if_neg (by omega), decide_eq_true_eq]; exact h
      · rw [if_neg e2, decide_eq_true_eq] at k
        rw [if_neg (by omega), decide_eq_true_eq]; omega
/-- What the greedy walk has in the hand. -/
def StP (L : List Step) (M : Nat → Int) (last : Option Nat) (left : Int) : Prop := match last with
  | none => left = gOver M L.length
  | some i => i < L.length ∧ left = bestOver L M i L.length
theorem stP_le {L : List Step} {M : Nat → Int} {last : Option Nat} {left : Int} (h : StP L M last left) {k : Nat} (hk : k < L.length) (hf : folP L last k = true) : M k ≤ left := by
  cases last with
  | none => rw [show left = _ from h]; exact gOver_le hk
  | some i => rw [h.2]; exact bestOver_le hf _ hk
theorem stP_nn {L : List Step} {M : Nat → Int} {last : Option Nat} {left : Int} (h : StP L M last left) : 0 ≤ left := by
  cases last with
  | none => rw [show left = _ from h]; exact gOver_nn _ _
  | some i => rw [h.2]; exact bestOver_nn _ _ _ _
theorem stP_pick {L : List Step} {M : Nat → Int} {last : Option Nat} {left : Int} (h : StP L M last left) (hp : 0 < left) : ∃ k, pickG L M left last = some k := by
  have : ∃ k, k < L.length ∧ M k = left ∧ folP L last k = true := by
    cases last with
    | none =>
      have e : left = gOver M L.length := h
      rcases gOver_is M L.length with z | ⟨k, h1, h2⟩
      · omega
      · exact ⟨k, h1, by omega, rfl⟩
    | some i =>
      have e := h.2
      rcases bestOver_is L M i L.length with z | ⟨k, h1, h2, h3⟩
      · omega
      · exact ⟨k, h1, by omega, h2⟩
  obtain ⟨k, h1, h2, h3⟩ := this
  cases e : pickG L M left last with
  | some q => exact ⟨q, rfl⟩
  | none =>
    exfalso
    have := List.find?_eq_none.1 e k (List.mem_range.2 h1)
    exact this (by simp [okG, h2, h3])
theorem pickG_is {L : List Step} {M : Nat → Int} {left : Int} {last : Option Nat} {k : Nat} (h : pickG L M left last = some k) : k < L.length ∧ M k = left ∧ folP L last k = true ∧ ∀ j, j < k → okG L M left last j = false := by
  obtain ⟨h1, xs, ys, h2, h3⟩ := List.find?_eq_some_iff_append.1 h
  have hm : k ∈ List.range L.length := by rw [h2]; simp
  simp only [okG, Bool.and_eq_true, decide_eq_true_eq] at h1
  refine ⟨List.mem_range.1 hm, h1.1, h1.2, fun j hj => ?_⟩
  have hjn : j < L.length := Nat.lt_trans hj (List.mem_range.1 hm)
  have hk : xs.length = k := by
    have e := congrArg (fun l => l[xs.length]?) h2
    have hl := congrArg List.length h2
    simp only [List.length_range, List.length_append, List.length_cons] at hl
    simp only [List.getElem?_append_right (Nat.le_refl _), Nat.sub_self, List.getElem?_cons_zero] at e
    rw [List.getElem?_range (by omega)] at e
    injection e
  have hja : xs[j]? = some j := by
    have e := congrArg (fun l => l[j]?) h2
    simp only [List.getElem?_append_left (show j < xs.length by omega)] at e
    rw [← e, List.getElem?_range hjn]
  have := h3 j (List.mem_of_getElem? hja)
  simpa using this
theorem pickG_some {L : List Step} {M : Nat → Int} {left : Int} {last : Option Nat} {k : Nat} (hk : k < L.length) (h : okG L M left last k = true) (hn : ∀ j, j < k → okG L M left last j = false) : pickG L M left last = some k := by
  cases e : pickG L M left last with
  | none => exact absurd h (List.find?_eq_none.1 e k (List.mem_range.2 hk))
  | some q =>
    obtain ⟨h1, h2, h3, h4⟩ := pickG_is e
    have hq : okG L M left last q = true := by simp [okG, h2, h3]
    rcases Nat.lt_trichotomy q k with z | z | z
    · rw [hn q z] at hq; cases hq
    · rw [z]
    · rw [h4 k z] at h; cases h
theorem go_main {L : List Step} {M : Nat → Int} (hT : Tab L M) (hm : ∀ i, i < L.length → 1 ≤ mnt L i) : ∀ (f : Nat) (last : Option Nat) (left : Int), StP L M last left → left ≤ f →
    Ch L (goG L M f last left) ∧ (∀ k, (goG L M f last left).head? = some k → folP L last k = true) ∧ sumC L (goG L M f last left) = left ∧
    ∀ d, Ch L d → (∀ k, d.head? = some k → folP L last k = true) → sumC L d = left → lexL d (goG L M f last left) = false
  | 0, last, left, hs, hf => by
    have := stP_nn hs
    refine ⟨trivial, fun k hk => by simp [goG] at hk, by simp [goG, sumC]; omega, fun d _ _ _ => by cases d <;> rfl⟩
  | f + 1, last, left, hs, hf => by
    have hnn := stP_nn hs
    by_cases hz : left ≤ 0
    · have e : goG L M (f + 1) last left = [] := by rw [goG, if_pos hz]
      rw [e]
      exact ⟨trivial, fun k hk => by simp at hk, by simp [sumC]; omega, fun d _ _ _ => by cases d <;> rfl⟩
    · obtain ⟨k, hk⟩ := stP_pick hs (by omega)
      obtain ⟨h1, h2, h3, h4⟩ := pickG_is hk
      have e : goG L M (f + 1) last left = k :: goG L M f (some k) (left - mnt L k) := by rw [goG, if_neg hz, hk]
      have ht := hT k h1
      have hmk := hm k h1
      have hs2 : StP L M (some k) (left - mnt L k) := ⟨h1, by omega⟩
      obtain ⟨i1, i2, i3, i4⟩ := go_main hT hm f (some k) (left - mnt L k) hs2 (by omega)
      rw [e]
      refine ⟨⟨h1, i2, i1⟩, fun q hq => ?_, by rw [sumC, i3]; omega, fun d hd hh hsum => ?_⟩
      · simp only [List.head?_cons, Option.some.injEq] at hq; rw [← hq]; exact h3
      · cases d with
        | nil => simp [sumC] at hsum; omega
        | cons q d =>
          have hq := hh q rfl
          have hle := ch_le hT d q hd
          have hle2 := stP_le hs hd.1 hq
          have hMq : M q = left := by omega
          rw [lexL]
          by_cases eq : q = k
          · subst eq
            rw [if_pos rfl]
            refine i4 d hd.2.2 hd.2.1 ?_
            rw [sumC] at hsum; omega
          · rw [if_neg eq, decide_eq_false_iff_not]
            intro hlt
            have := h4 q hlt
            simp [okG, hMq, hq] at this
/-! ### The reference: all chains, one behind the other -/
def chainsN (L : List Step) : Nat → Nat → List (List Nat)
  | 0, _ => []
  | f + 1, s => [s] :: (stepAt L s).after.flatMap fun j => (chainsN L f j.toNat).map (· ++ [s])
def refSt (L : List Step) (a : List Nat × Int) (c : List Nat) : List Nat × Int := if a.2 < sumC L c ∨ (sumC L c = a.2 ∧ lexL c a.1 = true) then (c, sumC L c) else a
theorem ref_inv {L : List Step} (CC : List (List Nat)) : ∀ (DD : List (List Nat)) (a : List Nat × Int), a.2 = sumC L a.1 → (a.1 = [] ∨ a.1 ∈ DD) → (∀ d ∈ DD, sumC L d ≤ a.2 ∧ (sumC L d = a.2 → lexL d a.1 = false)) →
    (CC.foldl (refSt L) a).2 = sumC L (CC.foldl (refSt L) a).1 ∧ ((CC.foldl (refSt L) a).1 = [] ∨ (CC.foldl (refSt L) a).1 ∈ DD ++ CC) ∧
    ∀ d ∈ DD ++ CC, sumC L d ≤ (CC.foldl (refSt L) a).2 ∧ (sumC L d = (CC.foldl (refSt L) a).2 → lexL d (CC.foldl (refSt L) a).1 = false) := by
  induction CC with
  | nil => intro DD a h1 h2 h3; simpa using ⟨h1, h2, h3⟩
  | cons c CC ih =>
    intro DD a h1 h2 h3
    have key := ih (DD ++ [c]) (refSt L a c)
    rw [List.append_assoc, List.singleton_append] at key
    rw [List.foldl_cons]
    refine key ?_ ?_ ?_
    · unfold refSt; split
      · rfl
      · exact h1
    · unfold refSt; split
      · exact Or.inr (by simp)
      · rcases h2 with h2 | h2
        · exact Or.inl h2
        · exact Or.inr (by simp [h2])
    · intro d hd
      rw [List.mem_append, List.mem_singleton] at hd
      unfold refSt; split
      · rename_i hc
        rcases hd with hd | rfl
        · obtain ⟨k1, k2⟩ := h3 d hd
          rcases hc with hc | ⟨hc1, hc2⟩
          · exact ⟨by omega, fun e => by omega⟩
          · refine ⟨by omega, fun e => ?_⟩
            cases hl : lexL d c
            · rfl
            · have := lexL_trans hl hc2
              rw [k2 (by omega)] at this; cases this
        · exact ⟨Int.le_refl _, fun _ => lexL_irr _⟩
      · rename_i hc
        rcases hd with hd | rfl
        · exact h3 d hd
        · refine ⟨by omega, fun e => ?_⟩
          cases hl : lexL d a.1
          · rfl
          · exact absurd (Or.inr ⟨e, hl⟩) hc
end Go.Proofs.Ytecfkomijaakhaa
