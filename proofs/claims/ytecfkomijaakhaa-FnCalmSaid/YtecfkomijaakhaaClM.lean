/- The calm order, plain: the table of fewest changes, the greedy order out of it, and that no order has fewer changes. -/
import Derived.Test.YtecfkomijaakhaaChW
namespace Go.Proofs.Ytecfkomijaakhaa
open Go.RowKit

def toolC (L : List Step) (i : Nat) : Int := (stepAt L i).tool
def costC (L : List Step) (t : Int) (i : Nat) : Int := if t < 0 ∨ t = toolC L i then 0 else 1
def canM (L : List Step) (d i : Nat) : Bool := !d.testBit i && readyM (stepAt L i) d
/-- The fewest changes from (d, t) on, over the next steps below k, when M says what the rests take. -/
def bestC (L : List Step) (M : Nat → Int → Int) (d : Nat) (t : Int) : Nat → Int
  | 0 => 100
  | k + 1 => if canM L d k = true then min (bestC L M d t k) (costC L t k + M (d ||| 2 ^ k) (toolC L k)) else bestC L M d t k
def vC (L : List Step) : Nat → Nat → Int → Int
  | 0, d, _ => if d = 2 ^ L.length - 1 then 0 else 100
  | f + 1, d, t => if d = 2 ^ L.length - 1 then 0 else bestC L (vC L f) d t L.length
/-- The table. -/
def MC (L : List Step) (d : Nat) (t : Int) : Int := vC L L.length d t
theorem canM_iff {L : List Step} {d i : Nat} : canM L d i = true ↔ d.testBit i = false ∧ readyM (stepAt L i) d = true := by
  simp [canM]
theorem costC_bd (L : List Step) (t : Int) (i : Nat) : 0 ≤ costC L t i ∧ costC L t i ≤ 1 := by
  unfold costC; split <;> omega
theorem bestC_congr {L : List Step} {M N : Nat → Int → Int} {d : Nat} {t : Int} : ∀ q, (∀ k, k < q → canM L d k = true → M (d ||| 2 ^ k) (toolC L k) = N (d ||| 2 ^ k) (toolC L k)) → bestC L M d t q = bestC L N d t q
  | 0, _ => rfl
  | q + 1, h => by
    rw [bestC, bestC, bestC_congr q (fun k hk => h k (by omega))]
    split
    · rename_i hb; rw [h q (by omega) hb]
    · rfl
theorem bestC_le (L : List Step) (M : Nat → Int → Int) (d : Nat) (t : Int) : ∀ q, bestC L M d t q ≤ 100
  | 0 => Int.le_refl _
  | q + 1 => by
    have := bestC_le L M d t q
    rw [bestC]; split <;> omega
theorem bestC_at {L : List Step} {M : Nat → Int → Int} {d k : Nat} {t : Int} (h : canM L d k = true) : ∀ q, k < q → bestC L M d t q ≤ costC L t k + M (d ||| 2 ^ k) (toolC L k)
  | 0, hk => absurd hk (by omega)
  | q + 1, hk => by
    rw [bestC]
    by_cases e : k = q
    · subst e; rw [if_pos h]; omega
    · have := bestC_at (M := M) (t := t) h q (by omega)
      split <;> omega
theorem bestC_is (L : List Step) (M : Nat → Int → Int) (d : Nat) (t : Int) : ∀ q, bestC L M d t q = 100 ∨ ∃ k, k < q ∧ canM L d k = true ∧ bestC L M d t q = costC L t k + M (d ||| 2 ^ k) (toolC L k)
  | 0 => Or.inl rfl
  | q + 1 => by
    have ih := bestC_is L M d t q
    rw [bestC]
    split
    · rename_i h
      by_cases hm : costC L t q + M (d ||| 2 ^ q) (toolC L q) ≤ bestC L M d t q
      · exact Or.inr ⟨q, by omega, h, by omega⟩
      · rcases ih with ih | ⟨k, h1, h2, h3⟩
        · exact Or.inl (by omega)
        · exact Or.inr ⟨k, by omega, h2, by omega⟩
    · rcases ih with ih | ⟨k, h1, h2, h3⟩
      · exact Or.inl ih
      · exact Or.inr ⟨k, by omega, h2, h3⟩
theorem bestC_nn {L : List Step} {M : Nat → Int → Int} {d : Nat} {t : Int} (h : ∀ e s, 0 ≤ M e s) (q : Nat) : 0 ≤ bestC L M d t q := by
  rcases bestC_is L M d t q with e | ⟨k, _, _, e⟩
  · omega
  · have := h (d ||| 2 ^ k) (toolC L k); have := (costC_bd L t k).1; omega
theorem vC_bd (L : List Step) : ∀ f d t, 0 ≤ vC L f d t ∧ vC L f d t ≤ 100
  | 0, d, t => by rw [vC]; split <;> omega
  | f + 1, d, t => by
    rw [vC]
    split
    · omega
    · exact ⟨bestC_nn (fun e s => (vC_bd L f e s).1) _, bestC_le _ _ _ _ _⟩
theorem MC_bd (L : List Step) (d : Nat) (t : Int) : 0 ≤ MC L d t ∧ MC L d t ≤ 100 := vC_bd L _ d t
theorem or_lt_all {n d k : Nat} (hd : d ≤ 2 ^ n - 1) (hk : k < n) : d ||| 2 ^ k ≤ 2 ^ n - 1 := by
  have hp := Nat.two_pow_pos n
  have := bar_lt (n := n) (d := d) (k := k) (by omega) hk
  omega
theorem vC_stab {L : List Step} : ∀ (f : Nat) (d : Nat) (t : Int), d ≤ 2 ^ L.length - 1 → zeros L.length d ≤ f → vC L (f + 1) d t = vC L f d t
  | 0, d, t, hd, hz => by
    by_cases e : d = 2 ^ L.length - 1
    · rw [vC, if_pos e, vC, if_pos e]
    · have := zeros_pos (n := L.length) (m := d) (by omega); omega
  | f + 1, d, t, hd, hz => by
    rw [vC, vC]
    split
    · rfl
    · refine bestC_congr _ (fun k hk hc => vC_stab f _ _ (or_lt_all hd hk) ?_)
      have := zeros_or d k (canM_iff.1 hc).1 L.length
      rw [if_pos hk] at this
      omega
theorem vC_any {L : List Step} {d : Nat} {t : Int} (hd : d ≤ 2 ^ L.length - 1) : ∀ (g f : Nat), zeros L.length d ≤ f → vC L (f + g) d t = vC L f d t
  | 0, f, _ => rfl
  | g + 1, f, h => by rw [← Nat.add_assoc, vC_stab _ _ _ hd (by omega), vC_any hd g f h]
theorem MC_all (L : List Step) (t : Int) : MC L (2 ^ L.length - 1) t = 0 := by
  have key : ∀ f, vC L f (2 ^ L.length - 1) t = 0 := fun f => by cases f <;> rw [vC, if_pos rfl]
  exact key _
theorem MC_at {L : List Step} {d : Nat} (t : Int) (hd : d < 2 ^ L.length - 1) : MC L d t = bestC L (MC L) d t L.length := by
  have hz := zeros_le L.length d
  have hp := zeros_pos hd
  obtain ⟨n, hn⟩ : ∃ n, L.length = n + 1 := ⟨L.length - 1, by omega⟩
  have e1 : MC L d t = vC L (n + 1) d t := by unfold MC; rw [hn]
  rw [e1, vC, if_neg (by omega)]
  refine bestC_congr _ (fun k hk hc => ?_)
  have h2 := zeros_or d k (canM_iff.1 hc).1 L.length
  rw [if_pos hk] at h2
  have := vC_any (L := L) (t := toolC L k) (or_lt_all (d := d) (n := L.length) (k := k) (by omega) hk) 1 n (by omega)
  unfold MC
  rw [← this, hn]
/-- What (d, t) takes, for any t. -/
def valC (L : List Step) (d : Nat) (t : Int) : Int := if d = 2 ^ L.length - 1 then 0 else bestC L (MC L) d t L.length
theorem MC_val {L : List Step} {d : Nat} (t : Int) (hd : d ≤ 2 ^ L.length - 1) : MC L d t = valC L d t := by
  unfold valC
  split
  · rename_i e; rw [e, MC_all]
  · exact MC_at t (by omega)
theorem valC_nn (L : List Step) (d : Nat) (t : Int) : 0 ≤ valC L d t := by
  unfold valC; split
  · omega
  · exact bestC_nn (fun e s => (MC_bd L e s).1) _
/-! ### The greedy order -/
def okC (L : List Step) (d : Nat) (t left : Int) (i : Nat) : Bool := canM L d i && decide (costC L t i + MC L (d ||| 2 ^ i) (toolC L i) = left)
def pickC (L : List Step) (d : Nat) (t left : Int) : Option Nat := (List.range L.length).find? (okC L d t left)
theorem pickC_some {L : List Step} {d k : Nat} {t left : Int} (hk : k < L.length) (h : okC L d t left k = true) (hn : ∀ j, j < k → okC L d t left j = false) : pickC L d t left = some k := by
  rw [pickC, List.find?_range_eq_some]
  exact ⟨h, by simpa using hk, fun j hj => by rw [hn j hj]; rfl⟩
theorem pickC_none {L : List Step} {d : Nat} {t left : Int} (hn : ∀ j, j < L.length → okC L d t left j = false) : pickC L d t left = none := by
  rw [pickC, List.find?_range_eq_none]
  exact fun j hj => by rw [hn j hj]; rfl
theorem pickC_is {L : List Step} {d k : Nat} {t left : Int} (h : pickC L d t left = some k) : k < L.length ∧ canM L d k = true ∧ costC L t k + MC L (d ||| 2 ^ k) (toolC L k) = left := by
  rw [pickC, List.find?_range_eq_some] at h
  have h1 := h.1
  simp only [okC, Bool.and_eq_true, decide_eq_true_eq] at h1
  exact ⟨by simpa using h.2.1, h1.1, h1.2⟩
theorem pickC_ex {L : List Step} {d : Nat} {t left : Int} {k : Nat} (hk : k < L.length) (h : okC L d t left k = true) : ∃ j, pickC L d t left = some j := by
  cases e : pickC L d t left with
  | some j => exact ⟨j, rfl⟩
  | none =>
    rw [pickC, List.find?_range_eq_none] at e
    have := e k hk
    rw [h] at this; cases this
theorem can_all {L : List Step} {i : Nat} (hi : i < L.length) : canM L (2 ^ L.length - 1) i = false := by
  have : (2 ^ L.length - 1).testBit i = true := by rw [Nat.testBit_two_pow_sub_one]; simpa using hi
  simp [canM, this]
def goC (L : List Step) : Nat → Nat → Int → Int → List Nat
  | 0, _, _, _ => []
  | f + 1, d, t, left => match pickC L d t left with
    | none => []
    | some k => k :: goC L f (d ||| 2 ^ k) (toolC L k) (left - costC L t k)
theorem goC_some {L : List Step} {f d k : Nat} {t left : Int} (h : pickC L d t left = some k) : goC L (f + 1) d t left = k :: goC L f (d ||| 2 ^ k) (toolC L k) (left - costC L t k) := by rw [goC, h]
theorem goC_all (L : List Step) (f : Nat) (t left : Int) : goC L f (2 ^ L.length - 1) t left = [] := by
  cases f with
  | zero => rfl
  | succ f => rw [goC, pickC_none (fun j hj => by rw [okC, can_all hj]; rfl)]
/-- What the greedy walk has in the hand. -/
def StC (L : List Step) (d : Nat) (t left : Int) : Prop := d ≤ 2 ^ L.length - 1 ∧ left = valC L d t ∧ left < 100
theorem stC_pick {L : List Step} {d : Nat} {t left : Int} (h : StC L d t left) (hd : d ≠ 2 ^ L.length - 1) : ∃ k, pickC L d t left = some k := by
  obtain ⟨h1, h2, h3⟩ := h
  rw [valC, if_neg hd] at h2
  rcases bestC_is L (MC L) d t L.length with e | ⟨k, k1, k2, k3⟩
  · omega
  · exact pickC_ex k1 (by rw [okC, k2, h2, k3]; simp)
theorem stC_next {L : List Step} {d k : Nat} {t left : Int} (h : StC L d t left) (hp : pickC L d t left = some k) : StC L (d ||| 2 ^ k) (toolC L k) (left - costC L t k) ∧ k < L.length ∧ canM L d k = true := by
  obtain ⟨h1, h2, h3⟩ := h
  obtain ⟨k1, k2, k3⟩ := pickC_is hp
  have := costC_bd L t k
  have hd := or_lt_all h1 k1
  exact ⟨⟨hd, by rw [← MC_val _ hd]; omega, by omega⟩, k1, k2⟩
/-- The greedy rest behind (d, t). -/
def restC (L : List Step) (d : Nat) (t : Int) : List Nat := goC L (zeros L.length d) d t (valC L d t)
theorem restC_all (L : List Step) (t : Int) : restC L (2 ^ L.length - 1) t = [] := goC_all _ _ _ _
theorem restC_some {L : List Step} {d k : Nat} {t : Int} (h : StC L d t (valC L d t)) (hp : pickC L d t (valC L d t) = some k) : restC L d t = k :: restC L (d ||| 2 ^ k) (toolC L k) := by
  obtain ⟨⟨s1, s2, s3⟩, k1, k2⟩ := stC_next h hp
  have h2 := zeros_or d k (canM_iff.1 k2).1 L.length
  rw [if_pos k1] at h2
  rw [restC, ← h2, goC_some hp, restC, ← s2]
theorem restC_len {L : List Step} : ∀ (f d : Nat) (t : Int), zeros L.length d = f → (restC L d t).length ≤ f := by
  intro f d t h
  have key : ∀ f d t left, (goC L f d t left).length ≤ f := by
    intro f
    induction f with
    | zero => intro d t left; exact Nat.le_refl _
    | succ f ih =>
      intro d t left
      rw [goC]
      split
      · simp
      · rw [List.length_cons]; have := ih (d ||| 2 ^ ‹Nat›) (toolC L ‹Nat›) (left - costC L t ‹Nat›); omega
  rw [restC, h]; exact key _ _ _ _
/-! ### No order has fewer changes -/
def leastC (L : List Step) : Int := bestC L (MC L) 0 (-1) L.length
def calmC (L : List Step) : List Nat := goC L L.length 0 (-1) (leastC L)
/-- The tool in the hand ahead of the place j. -/
def handC (L : List Step) (P : List Int) (j : Nat) : Int := if j = 0 then -1 else toolC L (intsAt P (j - 1)).toNat
theorem chgN_step {L : List Step} (hok : stepsOk L = true) {P : List Int} {j b : Nat} (hb : intsAt P j = b) (hj : ∀ i, i < j → 0 ≤ intsAt P i ∧ intsAt P i < L.length) : chgN L P (j + 1) = chgN L P j + costC L (handC L P j) b := by
  cases j with
  | zero => simp [chgN, costC, handC]
  | succ j =>
    obtain ⟨a0, a1⟩ := hj j (by omega)
    obtain ⟨a, ha⟩ := Int.eq_ofNat_of_zero_le a0
    have hal : a < L.length := by omega
    have ht := (steps_bd hok hal).2.1.1
    have e : handC L P (j + 1) = toolC L a := by rw [handC, if_neg (by omega), Nat.add_sub_cancel, ha]; rfl
    rw [e, costC]
    by_cases h : toolC L b = toolC L a
    · rw [chgN_eq ha hb h, if_pos (Or.inr h.symm)]; omega
    · rw [chgN_ne ha hb h, if_neg]
      rintro (z | z)
      · exact absurd (show 0 ≤ toolC L a from ht) (by omega)
      · exact h z.symm
/-- Orders as masks. -/
theorem ord_can {L : List Step} (hok : stepsOk L = true) {P : List Int} (hP : ordOk L P = true) {j : Nat} (hj : j < P.length) : ∃ b : Nat, intsAt P j = b ∧ b < L.length ∧ canM L (maskOf (P.take j)) b = true ∧ maskOf (P.take (j + 1)) = maskOf (P.take j) ||| 2 ^ b := by
  obtain ⟨hl, hall⟩ := ordOk_iff.1 hP
  obtain ⟨⟨b0, b1⟩, h2, h3⟩ := hall j hj
  obtain ⟨b, hb⟩ := Int.eq_ofNat_of_zero_le b0
  have hbl : b < L.length := by omega
  rw [hb] at h2 h3
  rw [Int.toNat_natCast] at h3
  have hnn : ∀ x ∈ P.take j, 0 ≤ x := fun x hx => by
    obtain ⟨i, hi, rfl⟩ := List.mem_iff_getElem.1 (List.mem_of_mem_take hx)
    have := (hall i hi).1.1
    rwa [intsAt_lt hi] at this
  have hM := maskIs_of hnn
  refine ⟨b, hb, hbl, canM_iff.2 ⟨by rw [hM b]; exact h2, ?_⟩, by rw [maskOf_take P hj, hb, Int.toNat_natCast]⟩
  rw [hM.ready (fun x hx => ((steps_bd hok hbl).2.2.1 x hx).1)]; exact h3
theorem ord_mask {L : List Step} {P : List Int} (hP : ordOk L P = true) (j : Nat) : maskOf (P.take j) < 2 ^ L.length := by
  obtain ⟨hl, hall⟩ := ordOk_iff.1 hP
  refine maskOf_lt _ (fun x hx => ?_)
  obtain ⟨i, hi, rfl⟩ := List.mem_iff_getElem.1 (List.mem_of_mem_take hx)
  have := (hall i hi).1
  rw [intsAt_lt hi] at this
  omega
theorem ord_zeros {L : List Step} (hok : stepsOk L = true) {P : List Int} (hP : ordOk L P = true) : ∀ j, j ≤ P.length → zeros L.length (maskOf (P.take j)) + j = L.length
  | 0, _ => by rw [List.take_zero]; simp [maskOf, zeros_zero]
  | j + 1, hj => by
    obtain ⟨b, _, hb, hc, hm⟩ := ord_can hok hP (j := j) (by omega)
    have ih := ord_zeros hok hP j (by omega)
    have h2 := zeros_or (maskOf (P.take j)) b (canM_iff.1 hc).1 L.length
    rw [if_pos hb] at h2
    rw [hm]; omega
theorem ord_all {L : List Step} (hok : stepsOk L = true) {P : List Int} (hP : ordOk L P = true) {j : Nat} (hj : j ≤ P.length) : maskOf (P.take j) = 2 ^ L.length - 1 ↔ j = P.length := by
  have hl := (ordOk_iff.1 hP).1
  have hz := ord_zeros hok hP j hj
  have hm := ord_mask hP j
  have hp := Nat.two_pow_pos L.length
  constructor
  · intro e
    rw [e, zeros_all] at hz; omega
  · intro e
    by_cases q : maskOf (P.take j) = 2 ^ L.length - 1
    · exact q
    · have := zeros_pos (n := L.length) (m := maskOf (P.take j)) (by omega); omega
theorem calm_le {L : List Step} (hok : stepsOk L = true) {P : List Int} (hP : ordOk L P = true) : ∀ d j, j + d = P.length → valC L (maskOf (P.take j)) (handC L P j) ≤ chgN L P P.length - chgN L P j
  | 0, j, h => by
    rw [valC, if_pos ((ord_all hok hP (by omega)).2 (by omega)), show j = P.length by omega]; omega
  | d + 1, j, h => by
    have hall := (ordOk_iff.1 hP).2
    obtain ⟨b, hb, hbl, hc, hm⟩ := ord_can hok hP (j := j) (by omega)
    have ih := calm_le hok hP d (j + 1) (by omega)
    have hs := chgN_step hok hb (fun i hi => (hall i (by omega)).1)
    have e : handC L P (j + 1) = toolC L b := by rw [handC, if_neg (by omega), Nat.add_sub_cancel, hb]; rfl
    rw [valC, if_neg (fun q => by have := (ord_all hok hP (j := j) (by omega)).1 q; omega)]
    have hle := bestC_at (M := MC L) (t := handC L P j) hc L.length hbl
    have hmk := ord_mask hP (j + 1)
    rw [hm] at hmk ih
    rw [e, ← MC_val _ (by omega)] at ih
    omega
theorem least_is {L : List Step} (h0 : 0 < L.length) : leastC L = valC L 0 (-1) := by
  have : 2 ^ 1 ≤ 2 ^ L.length := Nat.pow_le_pow_right (by omega) h0
  rw [valC, if_neg (by omega)]; rfl
theorem least_le {L : List Step} (h0 : 0 < L.length) (hok : stepsOk L = true) {P : List Int} (hP : ordOk L P = true) : leastC L ≤ chgN L P P.length := by
  have := calm_le hok hP P.length 0 (by omega)
  rw [List.take_zero] at this
  rw [least_is h0]
  have e : chgN L P 0 = 0 := rfl
  rw [e] at this
  simpa [maskOf, handC] using this
theorem least_lt {L : List Step} (h0 : 0 < L.length) (h : isRecipe L = true) : 0 ≤ leastC L ∧ leastC L ≤ 9 := by
  obtain ⟨h9, hok, hfl⟩ := isRecipe_iff.1 h
  have h1 := least_le h0 hok (first_ok h)
  have h2 := (chgN_bd L (firstOrd L) (firstOrd L).length).2
  have h3 : 0 ≤ leastC L := by rw [least_is h0]; exact valC_nn _ _ _
  omega
theorem least_st {L : List Step} (h0 : 0 < L.length) (h : isRecipe L = true) : StC L 0 (-1) (leastC L) :=
  ⟨Nat.zero_le _, least_is h0, by have := (least_lt h0 h).2; omega⟩
/-! ### The greedy order is one, with as many changes -/
theorem go_order {L : List Step} (hok : stepsOk L = true) : ∀ (f : Nat) (Q : List Int) (left : Int), zeros L.length (maskOf Q) = f → Q.length + f = L.length →
    (∀ i, i < Q.length → (0 ≤ intsAt Q i ∧ intsAt Q i < L.length) ∧ hasI (Q.take i) (intsAt Q i) = false ∧ doneIn (stepAt L (intsAt Q i).toNat) (Q.take i) = true) →
    StC L (maskOf Q) (handC L Q Q.length) left →
    ordOk L (Q ++ intN (goC L f (maskOf Q) (handC L Q Q.length) left)) = true ∧ chgN L (Q ++ intN (goC L f (maskOf Q) (handC L Q Q.length) left)) L.length = chgN L Q Q.length + left
  | 0, Q, left, hz, hl, hall, hs => by
    have e : intN (goC L 0 (maskOf Q) (handC L Q Q.length) left) = [] := rfl
    rw [e, List.append_nil]
    obtain ⟨s1, s2, _⟩ := hs
    have hm : maskOf Q = 2 ^ L.length - 1 := by
      by_cases q : maskOf Q = 2 ^ L.length - 1
      · exact q
      · have := zeros_pos (n := L.length) (m := maskOf Q) (by omega); omega
    rw [valC, if_pos hm] at s2
    exact ⟨ordOk_iff.2 ⟨by omega, hall⟩, by rw [s2, show L.length = Q.length by omega]; omega⟩
  | f + 1, Q, left, hz, hl, hall, hs => by
    have hne : maskOf Q ≠ 2 ^ L.length - 1 := fun q => by rw [q, zeros_all] at hz; omega
    obtain ⟨k, hk⟩ := stC_pick hs hne
    obtain ⟨s2, k1, k2⟩ := stC_next hs hk
    rw [goC_some hk]
    have hnn : ∀ x ∈ Q, 0 ≤ x := fun x hx => by
      obtain ⟨i, hi, rfl⟩ := List.mem_iff_getElem.1 hx
      have := (hall i hi).1.1
      rwa [intsAt_lt hi] at this
    have hM := maskIs_of hnn
    obtain ⟨c1, c2⟩ := canM_iff.1 k2
    rw [hM k] at c1
    rw [hM.ready (fun x hx => ((steps_bd hok k1).2.2.1 x hx).1)] at c2
    have em : maskOf (Q ++ [(k : Int)]) = maskOf Q ||| 2 ^ k := by rw [maskOf_snoc, Int.toNat_natCast]
    have eh : handC L (Q ++ [(k : Int)]) (Q ++ [(k : Int)]).length = toolC L k := by
      rw [handC, if_neg (by simp), List.length_append, List.length_singleton, Nat.add_sub_cancel, intsAt_last0, Int.toNat_natCast]
    have hz2 := zeros_or (maskOf Q) k (canM_iff.1 k2).1 L.length
    rw [if_pos k1] at hz2
    have hch : ∀ j, j ≤ Q.length → chgN L (Q ++ [(k : Int)]) j = chgN L Q j := by
      intro j
      induction j with
      | zero => intro _; rfl
      | succ j ih =>
        intro hj
        rw [chgN, chgN, ih (by omega), intsAt_snoc0 _ _ (by omega), intsAt_snoc0 _ _ (by omega)]
    have hstep := chgN_step hok (P := Q ++ [(k : Int)]) (j := Q.length) (b := k) (intsAt_last0 _ _) (fun i hi => by rw [intsAt_snoc0 _ _ hi]; exact (hall i hi).1)
    have ehQ : handC L (Q ++ [(k : Int)]) Q.length = handC L Q Q.length := by
      unfold handC
      split
      · rfl
      · rw [intsAt_snoc0 _ _ (by omega)]
    rw [hch _ (Nat.le_refl _), ehQ] at hstep
    have ih := go_order hok f (Q ++ [(k : Int)]) (left - costC L (handC L Q Q.length) k) (by rw [em]; omega) (by simp; omega) (fun i hi => by
      simp only [List.length_append, List.length_singleton] at hi
      by_cases e : i < Q.length
      · rw [intsAt_snoc0 _ _ e, List.take_append_of_le_length (by omega)]; exact hall i e
      · obtain rfl : i = Q.length := by omega
        rw [intsAt_last0, List.take_append_of_le_length (by omega), List.take_length, Int.toNat_natCast]
        exact ⟨by omega, c1, c2⟩) (by rw [em, eh]; exact s2)
    rw [em, eh] at ih
    have ea : Q ++ intN (k :: goC L f (maskOf Q ||| 2 ^ k) (toolC L k) (left - costC L (handC L Q Q.length) k)) = Q ++ [(k : Int)] ++ intN (goC L f (maskOf Q ||| 2 ^ k) (toolC L k) (left - costC L (handC L Q Q.length) k)) := by
      simp [intN]
    rw [ea]
    refine ⟨ih.1, ?_⟩
    rw [ih.2, List.length_append, List.length_singleton, hstep]; omega
theorem calm_ok {L : List Step} (h0 : 0 < L.length) (h : isRecipe L = true) : ordOk L (intN (calmC L)) = true ∧ chgN L (intN (calmC L)) L.length = leastC L := by
  obtain ⟨h9, hok, hfl⟩ := isRecipe_iff.1 h
  have := go_order hok L.length [] (leastC L) (by simp [maskOf, zeros_zero]) (by simp) (fun i hi => absurd hi (by simp)) (least_st h0 h)
  rw [List.nil_append] at this
  refine ⟨this.1, ?_⟩
  have h2 := this.2
  have e : chgN L [] ([] : List Int).length = 0 := rfl
  rw [e, Int.zero_add] at h2
  exact h2
def calmF (L : List Step) : List Int × Int × Int := if isRecipe L = true then (if L.length = 0 then ([], 0, 0) else (intN (calmC L), leastC L, 0)) else ([], 0, 1)
theorem calmF_bad {L : List Step} (h : isRecipe L = false) : calmF L = ([], 0, 1) := by simp [calmF, h]
theorem calmF_nil {L : List Step} (h : isRecipe L = true) (h0 : L.length = 0) : calmF L = ([], 0, 0) := by simp [calmF, h, h0]
theorem calmF_ok {L : List Step} (h : isRecipe L = true) (h0 : 0 < L.length) : calmF L = (intN (calmC L), leastC L, 0) := by
  have : L.length ≠ 0 := by omega
  simp [calmF, h, this]
theorem calmF_len (L : List Step) : (calmF L).1.length ≤ 4194304 := by
  unfold calmF
  split
  · rename_i h
    have h9 := (isRecipe_iff.1 h).1
    split
    · simp
    · have := (ordOk_iff.1 (calm_ok (by omega) h).1).1
      show (intN (calmC L)).length ≤ _
      omega
  · simp
end Go.Proofs.Ytecfkomijaakhaa
