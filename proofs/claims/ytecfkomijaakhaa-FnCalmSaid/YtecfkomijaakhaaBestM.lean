/- The least over all plans: by masks; over all plans in lexicographic order. No walks, no program. -/
import Derived.Test.YtecfkomijaakhaaInts
import Derived.Test.YtecfkomijaakhaaBits
namespace Go.Proofs.Ytecfkomijaakhaa
open Go.RowKit

/-! ### Masks: bits that are not set -/
theorem or_plus {d k : Nat} (h : d.testBit k = false) : d ||| 2 ^ k = d + 2 ^ k := by
  have h1 : d &&& 2 ^ k = 0 := by rw [and_pow_ne, h]; simp
  obtain ⟨w, hd, hk⟩ : ∃ w, d < 2 ^ w ∧ 2 ^ k < 2 ^ w :=
    ⟨d + k + 1, Nat.lt_of_lt_of_le (Nat.lt_two_pow_self) (Nat.pow_le_pow_right (by omega) (by omega)), Nat.pow_lt_pow_right (by omega) (by omega)⟩
  have hs : 2 ^ (w + 1) = 2 ^ w + 2 ^ w := by rw [Nat.pow_succ]; omega
  have hd' : d < 2 ^ (w + 1) := by rw [hs]; omega
  have hk' : 2 ^ k < 2 ^ (w + 1) := by rw [hs]; omega
  have hs' : d + 2 ^ k < 2 ^ (w + 1) := by rw [hs]; omega
  have h2 := BitVec.add_eq_or_of_and_eq_zero (BitVec.ofNat (w + 1) d) (BitVec.ofNat (w + 1) (2 ^ k)) (by
    apply BitVec.eq_of_toNat_eq
    rw [BitVec.toNat_and, BitVec.toNat_ofNat, BitVec.toNat_ofNat, Nat.mod_eq_of_lt hd', Nat.mod_eq_of_lt hk', h1]; simp)
  have h3 := congrArg BitVec.toNat h2
  rw [BitVec.toNat_add, BitVec.toNat_or, BitVec.toNat_ofNat, BitVec.toNat_ofNat, Nat.mod_eq_of_lt hd', Nat.mod_eq_of_lt hk', Nat.mod_eq_of_lt hs'] at h3
  exact h3.symm
theorem or_lt {d k n : Nat} (hd : d < 2 ^ n) (hk : k < n) : d ||| 2 ^ k < 2 ^ n := Nat.or_lt_two_pow hd (Nat.pow_lt_pow_right (by omega) hk)
theorem or_gt {d k : Nat} (h : d.testBit k = false) : d < d ||| 2 ^ k := by
  rw [or_plus h]; have := Nat.two_pow_pos k; omega
def zeros (n m : Nat) : Nat := (List.range n).countP fun (i : Nat) => !m.testBit i
theorem zeros_or (m k : Nat) (h : m.testBit k = false) : ∀ n, zeros n (m ||| 2 ^ k) + (if k < n then 1 else 0) = zeros n m := by
  intro n
  induction n with
  | zero => simp [zeros]
  | succ n ih =>
    unfold zeros at ih ⊢
    rw [List.range_succ, List.countP_append, List.countP_append]
    simp only [List.countP_cons, List.countP_nil, Nat.testBit_or, Nat.testBit_two_pow] at ih ⊢
    by_cases e : k = n
    · subst e
      rw [if_neg (by omega)] at ih
      rw [h]; simp; simpa using ih
    · have e2 : decide (k = n) = false := by simpa using e
      rw [e2]
      simp only [Bool.or_false]
      generalize (if (!m.testBit n) = true then 1 else 0) = c
      by_cases h3 : k < n
      · rw [if_pos h3] at ih
        rw [if_pos (by omega)]
        rw [← ih]; omega
      · rw [if_neg h3] at ih
        rw [if_neg (by omega)]
        rw [← ih]; omega
theorem zeros_all (n : Nat) : zeros n (2 ^ n - 1) = 0 := by
  unfold zeros
  rw [List.countP_eq_zero]
  intro i hi
  rw [Nat.testBit_two_pow_sub_one]
  simpa using List.mem_range.1 hi
theorem all_set {n m : Nat} (hm : m < 2 ^ n) (h : ∀ i, i < n → m.testBit i = true) : m = 2 ^ n - 1 := by
  apply Nat.eq_of_testBit_eq
  intro i
  rw [Nat.testBit_two_pow_sub_one]
  by_cases hi : i < n
  · rw [h i hi]; simp [hi]
  · rw [Nat.testBit_lt_two_pow (Nat.lt_of_lt_of_le hm (Nat.pow_le_pow_right (by omega) (by omega)))]; simp [hi]
theorem zeros_unset {n m : Nat} (h : 0 < zeros n m) : ∃ i, i < n ∧ m.testBit i = false := by
  unfold zeros at h
  obtain ⟨i, hi, hb⟩ := List.countP_pos_iff.1 h
  exact ⟨i, List.mem_range.1 hi, by simpa using hb⟩
theorem zeros_pos {n m : Nat} (hm : m < 2 ^ n - 1) : 0 < zeros n m := by
  rcases Nat.eq_zero_or_pos (zeros n m) with h | h
  · unfold zeros at h
    rw [List.countP_eq_zero] at h
    have := all_set (n := n) (m := m) (by omega) (fun i hi => by have := h i (List.mem_range.2 hi); simpa using this)
    omega
  · exact h
theorem zeros_zero (n : Nat) : zeros n 0 = n := by
  unfold zeros
  rw [List.countP_eq_length.2 (fun a _ => by simp)]; simp
theorem zeros_le (n m : Nat) : zeros n m ≤ n := by
  unfold zeros; exact Nat.le_trans List.countP_le_length (by simp)

theorem mask_joinW {m b : Nat} (hm : m < 4611686018427387904) (hb : b < 62) : bits BinOp.or IntKind.i64 (m : Int) (IntKind.i64.wrap ((2 : Int) ^ b)) = ((m ||| 2 ^ b : Nat) : Int) := by
  have h1 : (2 : Nat) ^ b < 2 ^ 62 := Nat.pow_lt_pow_right (by omega) hb
  have h2 : ((2 : Int) ^ b) = ((2 ^ b : Nat) : Int) := by simp
  have h3 : IntKind.i64.wrap ((2 : Int) ^ b) = ((2 ^ b : Nat) : Int) := by
    rw [h2]
    generalize (2 : Nat) ^ b = x at h1
    exact IntWalk.i64_in _ ⟨by omega, by omega⟩
  rw [h3, bits_or m _ (by omega) (by omega)]
theorem mask_free {m b : Nat} (hm : m < 4611686018427387904) (hb : b < 62) (h : m.testBit b = false) : (bits BinOp.and IntKind.i64 (m : Int) (wrap64 ((2 : Int) ^ b)) == 0) = true := by
  have := mask_no hm hb h
  simpa using this
theorem mask_held {m b : Nat} (hm : m < 4611686018427387904) (hb : b < 62) (h : m.testBit b = true) : (bits BinOp.and IntKind.i64 (m : Int) (wrap64 ((2 : Int) ^ b)) == 0) = false := by
  have := mask_yes hm hb h
  simpa using this
/-! ### The first of the indices below k whose way is the least -/
def bestK (m : Nat) (c : Nat → Int) : Nat → Nat × Int
  | 0 => (0, -1)
  | k + 1 => if m.testBit k = true then bestK m c k else if (bestK m c k).2 < 0 ∨ c k < (bestK m c k).2 then (k, c k) else bestK m c k
theorem bestK_congr {m : Nat} {c c' : Nat → Int} : ∀ k, (∀ i, i < k → m.testBit i = false → c i = c' i) → bestK m c k = bestK m c' k
  | 0, _ => rfl
  | k + 1, h => by
    have ih := bestK_congr k (fun i hi hb => h i (by omega) hb)
    rw [bestK, bestK, ih]
    cases hb : m.testBit k
    · rw [h k (by omega) hb]
    · rfl
def BestIs (m : Nat) (c : Nat → Int) (k : Nat) (r : Nat × Int) : Prop :=
  (r.2 = -1 ∧ ∀ i, i < k → m.testBit i = true) ∨ (0 ≤ r.2 ∧ r.1 < k ∧ m.testBit r.1 = false ∧ r.2 = c r.1 ∧ (∀ i, i < k → m.testBit i = false → r.2 ≤ c i) ∧ ∀ i, i < r.1 → m.testBit i = false → r.2 < c i)
theorem bestK_is {m : Nat} {c : Nat → Int} : ∀ k, (∀ i, i < k → m.testBit i = false → 0 ≤ c i) → BestIs m c k (bestK m c k)
  | 0, _ => .inl ⟨rfl, fun i hi => absurd hi (by omega)⟩
  | k + 1, h => by
    have ih := bestK_is k (fun i hi hb => h i (by omega) hb)
    rw [bestK]
    cases hb : m.testBit k
    · rw [if_neg (by simp)]
      have hk := h k (by omega) hb
      rcases ih with ⟨h1, h2⟩ | ⟨h1, h2, h3, h4, h5, h6⟩
      · rw [if_pos (.inl (by omega))]
        refine .inr ⟨hk, by simp, hb, rfl, fun i hi hf => ?_, fun i hi hf => ?_⟩
        · by_cases e : i = k
          · subst e; exact Int.le_refl _
          · rw [h2 i (by omega)] at hf; cases hf
        · rw [h2 i hi] at hf; cases hf
      · by_cases hc : c k < (bestK m c k).2
        · rw [if_pos (.inr hc)]
          refine .inr ⟨hk, by simp, hb, rfl, fun i hi hf => ?_, fun i hi hf => ?_⟩
          · by_cases e : i = k
            · subst e; exact Int.le_refl _
            · have := h5 i (by omega) hf; simp only; omega
          · have := h5 i hi hf; simp only; omega
        · rw [if_neg (by omega)]
          refine .inr ⟨h1, by omega, h3, h4, fun i hi hf => ?_, h6⟩
          by_cases e : i = k
          · subst e; omega
          · exact h5 i (by omega) hf
    · rw [if_pos rfl]
      rcases ih with ⟨h1, h2⟩ | ⟨h1, h2, h3, h4, h5, h6⟩
      · refine .inl ⟨h1, fun i hi => ?_⟩
        by_cases e : i = k
        · subst e; exact hb
        · exact h2 i (by omega)
      · refine .inr ⟨h1, by omega, h3, h4, fun i hi hf => ?_, h6⟩
        by_cases e : i = k
        · subst e; rw [hb] at hf; cases hf
        · exact h5 i (by omega) hf

/-! ### The least cost of what follows a mask -/
def way (st : Nat → Nat → Int) (T : Nat → Int) (m i : Nat) : Int := st m i + T (m ||| 2 ^ i)
def leastV (n : Nat) (st : Nat → Nat → Int) : Nat → Nat → Int
  | 0, _ => 0
  | f + 1, m => (bestK m (way st (leastV n st f) m) n).2
/-- The list that is taken: at each mask the first index whose way is the least. -/
def takeW (n : Nat) (st : Nat → Nat → Int) : Nat → Nat → List Int
  | 0, _ => []
  | f + 1, m => ((bestK m (way st (leastV n st f) m) n).1 : Int) :: takeW n st f (m ||| 2 ^ (bestK m (way st (leastV n st f) m) n).1)
section
variable {n : Nat} {st : Nat → Nat → Int}
theorem leastV_nn (h0 : ∀ m i, 0 ≤ st m i) : ∀ f m, zeros n m = f → 0 ≤ leastV n st f m := by
  intro f
  induction f with
  | zero => intro m _; exact Int.le_refl _
  | succ f ih =>
    intro m hz
    obtain ⟨i, hi, hb⟩ := zeros_unset (n := n) (m := m) (by omega)
    rcases bestK_is (m := m) (c := way st (leastV n st f) m) n (fun j hj hf => by
      have := zeros_or m j hf n
      rw [if_pos hj] at this
      have h1 := ih (m ||| 2 ^ j) (by omega)
      have h2 := h0 m j
      simp only [way]; omega) with ⟨_, h2⟩ | ⟨h1, _⟩
    · rw [h2 i hi] at hb; cases hb
    · exact h1
theorem leastV_is (h0 : ∀ m i, 0 ≤ st m i) {f m : Nat} (hz : zeros n m = f + 1) : 0 ≤ leastV n st (f + 1) m ∧ (bestK m (way st (leastV n st f) m) n).1 < n ∧ m.testBit (bestK m (way st (leastV n st f) m) n).1 = false ∧ leastV n st (f + 1) m = way st (leastV n st f) m (bestK m (way st (leastV n st f) m) n).1 ∧
    (∀ i, i < n → m.testBit i = false → leastV n st (f + 1) m ≤ way st (leastV n st f) m i) ∧ ∀ i, i < (bestK m (way st (leastV n st f) m) n).1 → m.testBit i = false → leastV n st (f + 1) m < way st (leastV n st f) m i := by
  obtain ⟨i, hi, hb⟩ := zeros_unset (n := n) (m := m) (by omega)
  rcases bestK_is (m := m) (c := way st (leastV n st f) m) n (fun j hj hf => by
    have := zeros_or m j hf n
    rw [if_pos hj] at this
    have h1 := leastV_nn (n := n) h0 f (m ||| 2 ^ j) (by omega)
    have h2 := h0 m j
    simp only [way]; omega) with ⟨_, h2⟩ | h
  · rw [h2 i hi] at hb; cases hb
  · exact h
theorem leastV_le {B : Int} (h0 : ∀ m i, 0 ≤ st m i) (hB : ∀ m i, st m i ≤ B) : ∀ f m, zeros n m = f → leastV n st f m ≤ f * B := by
  intro f
  induction f with
  | zero => intro m _; simp [leastV]
  | succ f ih =>
    intro m hz
    obtain ⟨_, h2, h3, h4, _⟩ := leastV_is h0 hz
    have := zeros_or m _ h3 n
    rw [if_pos h2] at this
    have h5 := ih _ (show zeros n (m ||| 2 ^ (bestK m (way st (leastV n st f) m) n).1) = f by omega)
    have h6 := hB m (bestK m (way st (leastV n st f) m) n).1
    rw [h4, way, show ((f + 1 : Nat) : Int) * B = f * B + B by rw [Int.natCast_add, Int.add_mul]; simp]
    omega
/-- The least cost of what follows a mask, with no fuel in sight. -/
def leastM (n : Nat) (st : Nat → Nat → Int) (m : Nat) : Int := leastV n st (zeros n m) m
theorem leastM_all : leastM n st (2 ^ n - 1) = 0 := by rw [leastM, zeros_all]; rfl
theorem leastM_eq {m : Nat} (hm : m < 2 ^ n - 1) : leastM n st m = (bestK m (way st (leastM n st) m) n).2 := by
  obtain ⟨f, hf⟩ : ∃ f, zeros n m = f + 1 := ⟨zeros n m - 1, by have := zeros_pos hm; omega⟩
  rw [leastM, hf, leastV]
  congr 1
  refine bestK_congr n (fun i hi hb => ?_)
  have := zeros_or m i hb n
  rw [if_pos hi] at this
  rw [way, way, leastM, show zeros n (m ||| 2 ^ i) = f by omega]
theorem leastM_nn (h0 : ∀ m i, 0 ≤ st m i) (m : Nat) : 0 ≤ leastM n st m := leastV_nn h0 _ m rfl
theorem leastM_le {B : Int} (h0 : ∀ m i, 0 ≤ st m i) (hB : ∀ m i, st m i ≤ B) (m : Nat) : leastM n st m ≤ n * B := by
  have h1 := leastV_le (n := n) h0 hB _ m rfl
  have h2 := zeros_le n m
  have h3 := h0 0 0
  have h4 := hB 0 0
  have h5 : (zeros n m : Int) * B ≤ n * B := Int.mul_le_mul_of_nonneg_right (by omega) (by omega)
  rw [leastM]; omega
/-- What the best among the first k ways is: between -1 and a bound. -/
theorem bestK_bd {B : Int} (h0 : ∀ m i, 0 ≤ st m i) (hB : ∀ m i, st m i ≤ B) (m k : Nat) : -1 ≤ (bestK m (way st (leastM n st) m) k).2 ∧ (bestK m (way st (leastM n st) m) k).2 ≤ n * B + B := by
  have hw : ∀ i, 0 ≤ way st (leastM n st) m i ∧ way st (leastM n st) m i ≤ n * B + B := fun i => by
    have h1 := h0 m i; have h2 := hB m i; have h3 := leastM_nn (n := n) h0 (m ||| 2 ^ i); have h4 := leastM_le (n := n) h0 hB (m ||| 2 ^ i)
    simp only [way]; omega
  rcases bestK_is (m := m) (c := way st (leastM n st) m) k (fun i _ _ => (hw i).1) with ⟨h1, _⟩ | ⟨h1, _, _, h4, _⟩
  · have := hw 0; omega
  · have := hw (bestK m (way st (leastM n st) m) k).1; omega
/-- The list that is taken, with no fuel in sight. -/
def takeM (n : Nat) (st : Nat → Nat → Int) (m : Nat) : List Int := takeW n st (zeros n m) m
theorem takeM_all : takeM n st (2 ^ n - 1) = [] := by rw [takeM, zeros_all]; rfl
/-- The first index whose way is the least. -/
def firstM (n : Nat) (st : Nat → Nat → Int) (m : Nat) : Nat := (bestK m (way st (leastM n st) m) n).1
theorem firstM_is (h0 : ∀ m i, 0 ≤ st m i) {m : Nat} (hm : m < 2 ^ n - 1) : firstM n st m < n ∧ m.testBit (firstM n st m) = false ∧ way st (leastM n st) m (firstM n st m) = leastM n st m ∧ (∀ i, i < firstM n st m → m.testBit i = false → way st (leastM n st) m i ≠ leastM n st m) ∧
    takeM n st m = (firstM n st m : Int) :: takeM n st (m ||| 2 ^ firstM n st m) := by
  obtain ⟨f, hf⟩ : ∃ f, zeros n m = f + 1 := ⟨zeros n m - 1, by have := zeros_pos hm; omega⟩
  have hway : ∀ i, i < n → m.testBit i = false → way st (leastV n st f) m i = way st (leastM n st) m i := fun i hi hb => by
    have := zeros_or m i hb n
    rw [if_pos hi] at this
    rw [way, way, leastM, show zeros n (m ||| 2 ^ i) = f by omega]
  have hbk := bestK_congr (m := m) n hway
  obtain ⟨_, h2, h3, h4, h5, h6⟩ := leastV_is h0 hf
  rw [hbk] at h2 h3 h4 h6
  have e : leastV n st (f + 1) m = leastM n st m := by rw [leastM, hf]
  rw [e] at h4 h6
  refine ⟨h2, h3, ?_, fun i hi hb => ?_, ?_⟩
  · rw [h4, hway _ h2 h3]; rfl
  · have := h6 i hi hb
    rw [hway i (Nat.lt_trans hi h2) hb] at this; omega
  · have hz := zeros_or m _ h3 n
    rw [if_pos h2] at hz
    rw [takeM, hf, takeW, hbk]
    show (firstM n st m : Int) :: takeW n st f (m ||| 2 ^ firstM n st m) = _
    rw [takeM]
    congr 2
    show f = zeros n (m ||| 2 ^ (bestK m (way st (leastM n st) m) n).1)
    omega
/-- The table from a mask on. -/
def TabOk (n : Nat) (st : Nat → Nat → Int) (lo : Nat) (D : List Int) : Prop := D.length = 2 ^ n ∧ ∀ m, lo ≤ m → m < 2 ^ n → intsAt D m = leastM n st m
theorem TabOk.start : TabOk n st (2 ^ n - 1) (List.replicate (2 ^ n) 0) := by
  refine ⟨by simp, fun m h1 h2 => ?_⟩
  have : m = 2 ^ n - 1 := by omega
  subst this
  rw [leastM_all, intsAt, List.getD, List.getElem?_replicate]; split <;> rfl
theorem TabOk.step {d : Nat} {D : List Int} (h : TabOk n st (d + 1) D) (hd : d < 2 ^ n - 1) : TabOk n st d (D.set d (bestK d (way st (leastM n st) d) n).2) := by
  refine ⟨by simp [h.1], fun m h1 h2 => ?_⟩
  rw [intsAt_set (by rw [h.1]; omega)]
  by_cases e : m = d
  · subst e; rw [if_pos rfl, leastM_eq hd]
  · rw [if_neg e]; exact h.2 m (by omega) h2
theorem TabOk.at_ {d i : Nat} {D : List Int} (h : TabOk n st (d + 1) D) (hd : d < 2 ^ n) (hi : i < n) (hb : d.testBit i = false) : intsAt D (d ||| 2 ^ i) = leastM n st (d ||| 2 ^ i) :=
  h.2 _ (by have := or_gt hb; omega) (or_lt hd hi)
end

/-! ### All plans, in lexicographic order -/
def plansR (n : Nat) : Nat → List Int → List (List Int)
  | 0, P => [P]
  | f + 1, P => (List.range n).flatMap fun (i : Nat) => if (i : Int) ∈ P then [] else plansR n f (P ++ [(i : Int)])
def costGo (st : Nat → Nat → Int) : Nat → List Int → Int
  | _, [] => 0
  | m, p :: ps => st m p.toNat + costGo st (m ||| 2 ^ p.toNat) ps
def pickP (c : List Int → Int) (a : List Int × Int) (p : List Int) : List Int × Int := if a.2 < 0 ∨ c p < a.2 then (p, c p) else a
def pickX (a : List Int × Int) (p : List Int) (x : Int) : List Int × Int := if a.2 < 0 ∨ x < a.2 then (p, x) else a
/-- A part of a plan: indices below n, none twice. -/
structure PartP (n : Nat) (P : List Int) : Prop where
  nodup : P.Nodup
  lt : ∀ p ∈ P, ∃ b : Nat, p = b ∧ b < n
theorem PartP.nil (n : Nat) : PartP n [] := ⟨List.nodup_nil, fun p hp => by cases hp⟩
theorem PartP.snoc {n : Nat} {P : List Int} (h : PartP n P) {i : Nat} (hi : i < n) (hn : (i : Int) ∉ P) : PartP n (P ++ [(i : Int)]) := by
  refine ⟨?_, fun p hp => ?_⟩
  · rw [List.nodup_append]
    refine ⟨h.nodup, by simp, fun a ha b hb e => ?_⟩
    simp only [List.mem_singleton] at hb
    subst hb; subst e; exact hn ha
  · rcases List.mem_append.1 hp with h1 | h1
    · exact h.lt p h1
    · exact ⟨i, by simpa using h1, hi⟩
theorem PartP.bit {n : Nat} {P : List Int} (h : PartP n P) (i : Nat) : (maskOf P).testBit i = decide ((i : Int) ∈ P) := by
  rw [maskOf_test, Bool.eq_iff_iff, List.any_eq_true, decide_eq_true_eq]
  constructor
  · rintro ⟨p, hp, e⟩
    obtain ⟨b, rfl, _⟩ := h.lt p hp
    have e2 : b = i := by simpa using e
    subst e2; exact hp
  · intro hp; exact ⟨_, hp, by simp⟩
theorem PartP.mask_lt {n : Nat} {P : List Int} (h : PartP n P) : maskOf P < 2 ^ n := maskOf_lt P (fun p hp => by obtain ⟨b, rfl, hb⟩ := h.lt p hp; simpa using hb)
theorem mask_nil : maskOf [] = 0 := rfl
theorem costGo_app (st : Nat → Nat → Int) (R : List Int) : ∀ (P : List Int) (m : Nat), costGo st m (P ++ R) = costGo st m P + costGo st (P.foldl (fun m p => m ||| 2 ^ p.toNat) m) R
  | [], m => by simp [costGo]
  | p :: ps, m => by rw [List.cons_append, costGo, costGo, costGo_app st R ps, List.foldl_cons]; omega
theorem costGo_snoc (st : Nat → Nat → Int) (P : List Int) (i : Nat) : costGo st 0 (P ++ [(i : Int)]) = costGo st 0 P + st (maskOf P) i := by
  rw [costGo_app]; simp [costGo, maskOf]
theorem costGo_nn {st : Nat → Nat → Int} (h0 : ∀ m i, 0 ≤ st m i) : ∀ (P : List Int) (m : Nat), 0 ≤ costGo st m P
  | [], _ => Int.le_refl _
  | p :: ps, m => by have h1 := h0 m p.toNat; have h2 := costGo_nn h0 ps (m ||| 2 ^ p.toNat); rw [costGo]; omega
theorem pickX_two (a : List Int × Int) (A B : List Int) {x y : Int} (hx : 0 ≤ x) (hy : 0 ≤ y) : pickX (pickX a A x) B y = if y < x then pickX a B y else pickX a A x := by
  unfold pickX
  by_cases h1 : a.2 < 0 ∨ x < a.2
  · rw [if_pos h1]
    by_cases h2 : y < x
    · rw [if_pos (.inr h2), if_pos h2, if_pos (by omega)]
    · rw [if_neg (by simp only; omega), if_neg h2]
  · rw [if_neg h1]
    by_cases h2 : y < x
    · rw [if_pos h2]
    · rw [if_neg h2, if_neg (by omega)]
/-- All plans that begin with P: the first one of the least cost is P with the list that is taken. -/
theorem plans_pick {n : Nat} {st : Nat → Nat → Int} (h0 : ∀ m i, 0 ≤ st m i) : ∀ f P (a : List Int × Int), PartP n P → zeros n (maskOf P) = f →
    (plansR n f P).foldl (pickP (costGo st 0)) a = pickX a (P ++ takeW n st f (maskOf P)) (costGo st 0 P + leastV n st f (maskOf P)) := by
  intro f
  induction f with
  | zero => intro P a _ _; simp [plansR, pickP, pickX, takeW, leastV]
  | succ f ih =>
    intro P a hP hz
    have hw : ∀ i, i < n → (maskOf P).testBit i = false → 0 ≤ way st (leastV n st f) (maskOf P) i := fun j hj hf => by
      have := zeros_or _ j hf n
      rw [if_pos hj] at this
      have h1 := leastV_nn (n := n) h0 f (maskOf P ||| 2 ^ j) (by omega)
      have h2 := h0 (maskOf P) j
      simp only [way]; omega
    have hb := costGo_nn h0 P 0
    obtain ⟨c, hce⟩ : ∃ c, c = way st (leastV n st f) (maskOf P) := ⟨_, rfl⟩
    rw [← hce] at hw
    have key : ∀ k, k ≤ n → ((List.range k).flatMap fun (i : Nat) => if (i : Int) ∈ P then [] else plansR n f (P ++ [(i : Int)])).foldl (pickP (costGo st 0)) a =
        if (bestK (maskOf P) c k).2 < 0 then a else pickX a (P ++ (((bestK (maskOf P) c k).1 : Int) :: takeW n st f (maskOf P ||| 2 ^ (bestK (maskOf P) c k).1))) (costGo st 0 P + (bestK (maskOf P) c k).2) := by
      intro k
      induction k with
      | zero => intro _; simp [bestK]
      | succ k ihk =>
        intro hk
        have hstep : bestK (maskOf P) c (k + 1) = if (maskOf P).testBit k = true then bestK (maskOf P) c k else if (bestK (maskOf P) c k).2 < 0 ∨ c k < (bestK (maskOf P) c k).2 then (k, c k) else bestK (maskOf P) c k := rfl
        rw [List.range_succ, List.flatMap_append, List.foldl_append, ihk (by omega)]
        simp only [List.flatMap_cons, List.flatMap_nil, List.append_nil]
        have hbit := hP.bit k
        by_cases hm : (k : Int) ∈ P
        · have e1 : bestK (maskOf P) c (k + 1) = bestK (maskOf P) c k := by rw [hstep]; exact if_pos (by rw [hbit]; simpa using hm)
          rw [if_pos hm, List.foldl_nil, e1]
        · have hf : (maskOf P).testBit k = false := by rw [hbit]; simpa using hm
          have hmk : maskOf (P ++ [(k : Int)]) = maskOf P ||| 2 ^ k := by rw [maskOf_snoc]; simp
          have hzk := zeros_or _ k hf n
          rw [if_pos (by omega)] at hzk
          rw [if_neg hm, ih (P ++ [(k : Int)]) _ (hP.snoc (by omega) hm) (by rw [hmk]; omega), hmk, costGo_snoc, List.append_assoc, List.cons_append, List.nil_append]
          rw [show costGo st 0 P + st (maskOf P) k + leastV n st f (maskOf P ||| 2 ^ k) = costGo st 0 P + c k by rw [hce]; simp only [way]; omega]
          have hck := hw k (by omega) hf
          rw [if_neg (by rw [hf]; simp)] at hstep
          rcases bestK_is (m := maskOf P) (c := c) k (fun i hi hb => hw i (by omega) hb) with ⟨h1, _⟩ | ⟨h1, _⟩
          · have h3 : (bestK (maskOf P) c k).2 < 0 := by omega
            rw [if_pos (.inl h3)] at hstep
            rw [if_pos h3, hstep]
            have h4 : ¬ ((k, c k) : Nat × Int).2 < 0 := by simp only; omega
            rw [if_neg h4]
          · have h3 : ¬ (bestK (maskOf P) c k).2 < 0 := by omega
            rw [if_neg h3, pickX_two _ _ _ (by omega) (by omega)]
            by_cases h2 : c k < (bestK (maskOf P) c k).2
            · rw [if_pos (.inr h2)] at hstep
              rw [hstep, if_pos (show costGo st 0 P + c k < costGo st 0 P + (bestK (maskOf P) c k).2 by omega)]
              have h4 : ¬ ((k, c k) : Nat × Int).2 < 0 := by simp only; omega
              rw [if_neg h4]
            · have h5 : ¬ ((bestK (maskOf P) c k).2 < 0 ∨ c k < (bestK (maskOf P) c k).2) := by omega
              rw [if_neg h5] at hstep
              rw [hstep, if_neg (show ¬ costGo st 0 P + c k < costGo st 0 P + (bestK (maskOf P) c k).2 by omega), if_neg h3]
    rw [plansR, key n (Nat.le_refl _)]
    have := leastV_is h0 hz
    have h0' := this.1
    rw [leastV, ← hce] at h0'
    rw [if_neg (show ¬ (bestK (maskOf P) c n).2 < 0 by omega), takeW, leastV, ← hce]
theorem plans_all {n : Nat} : ∀ f P, PartP n P → ∀ p ∈ plansR n f P, PartP n p ∧ p.length = P.length + f := by
  intro f
  induction f with
  | zero => intro P h p hp; simp only [plansR, List.mem_singleton] at hp; subst hp; exact ⟨h, rfl⟩
  | succ f ih =>
    intro P h p hp
    rw [plansR, List.mem_flatMap] at hp
    obtain ⟨i, hi, hp⟩ := hp
    split at hp
    · cases hp
    · rename_i hn
      obtain ⟨h1, h2⟩ := ih _ (h.snoc (List.mem_range.1 hi) hn) p hp
      exact ⟨h1, by simp at h2; omega⟩
/-- The best of all plans. -/
theorem best_all {n : Nat} {st : Nat → Nat → Int} (h0 : ∀ m i, 0 ≤ st m i) : (plansR n n []).foldl (pickP (costGo st 0)) ([], -1) = (takeM n st 0, leastM n st 0) := by
  have h := plans_pick h0 n [] ([], -1) (PartP.nil n) (by rw [mask_nil, zeros_zero])
  rw [h, pickX, if_pos (.inl (by simp)), mask_nil, takeM, leastM, zeros_zero]
  simp [costGo]
theorem pick_min {c : List Int → Int} : ∀ (ps : List (List Int)) (a : List Int × Int), 0 ≤ a.2 → (∀ p ∈ ps, 0 ≤ c p) → (ps.foldl (pickP c) a).2 = ps.foldl (fun x p => min x (c p)) a.2
  | [], _, _, _ => rfl
  | p :: ps, a, ha, hc => by
    have hp := hc p (by simp)
    rw [List.foldl_cons, List.foldl_cons, pick_min ps _ (by unfold pickP; split; (· exact hp); (· exact ha)) (fun q hq => hc q (by simp [hq]))]
    congr 1
    unfold pickP
    split
    · show c p = min a.2 (c p); omega
    · omega
theorem least_all {n : Nat} {st : Nat → Nat → Int} {N : Int} (h0 : ∀ m i, 0 ≤ st m i) (hN : ∀ p ∈ plansR n n [], costGo st 0 p ≤ N) : (plansR n n []).foldl (fun x p => min x (costGo st 0 p)) N = leastM n st 0 := by
  have h := best_all (n := n) h0
  have hnn := leastM_nn (n := n) h0 0
  cases e : plansR n n [] with
  | nil => rw [e] at h; have h2 := congrArg Prod.snd h; simp at h2; omega
  | cons p ps =>
    rw [e] at h hN
    have hp := hN p (by simp)
    have hc := costGo_nn h0 p 0
    rw [List.foldl_cons] at h ⊢
    have h1 : pickP (costGo st 0) ([], -1) p = (p, costGo st 0 p) := by simp [pickP]
    rw [h1] at h
    have h2 := congrArg Prod.snd h
    rw [pick_min ps _ hc (fun q _ => costGo_nn h0 q 0)] at h2
    rw [show min N (costGo st 0 p) = costGo st 0 p by omega]
    exact h2
/-- No way on costs less than the least. -/
theorem cost_ge {n : Nat} {st : Nat → Nat → Int} (h0 : ∀ m i, 0 ≤ st m i) : ∀ (R P : List Int), PartP n (P ++ R) → zeros n (maskOf P) = R.length → leastV n st R.length (maskOf P) ≤ costGo st (maskOf P) R := by
  intro R
  induction R with
  | nil => intro P _ _; simp [leastV, costGo]
  | cons p ps ih =>
    intro P hP hz
    obtain ⟨b, rfl, hb⟩ := hP.lt p (by simp)
    have hPP : PartP n P := ⟨(List.nodup_append.1 hP.nodup).1, fun q hq => hP.lt q (by simp [hq])⟩
    have hn : (b : Int) ∉ P := fun h => (List.nodup_append.1 hP.nodup).2.2 _ h (b : Int) (by simp) rfl
    have hf : (maskOf P).testBit b = false := by rw [hPP.bit]; simpa using hn
    have hmk : maskOf (P ++ [(b : Int)]) = maskOf P ||| 2 ^ b := by rw [maskOf_snoc]; simp
    have hzk := zeros_or _ b hf n
    rw [if_pos hb] at hzk
    have h1 := ih (P ++ [(b : Int)]) (by rw [List.append_assoc]; exact hP) (by rw [hmk]; simp at hz; omega)
    rw [hmk] at h1
    have h2 := (leastV_is h0 (n := n) (f := ps.length) (m := maskOf P) (by simpa using hz)).2.2.2.2.1 b hb hf
    rw [List.length_cons, costGo]
    simp only [way, Int.toNat_natCast] at h2 ⊢
    omega
theorem cost_least {n : Nat} {st : Nat → Nat → Int} (h0 : ∀ m i, 0 ≤ st m i) {R : List Int} (h : PartP n R) (hl : R.length = n) : leastM n st 0 ≤ costGo st 0 R := by
  have := cost_ge h0 R [] h (by rw [mask_nil, zeros_zero, hl])
  rw [mask_nil, hl] at this
  rw [leastM, zeros_zero]; exact this
/-- The list that is taken is a plan, and its cost is the least. -/
theorem takeW_is {n : Nat} {st : Nat → Nat → Int} (h0 : ∀ m i, 0 ≤ st m i) : ∀ f P, PartP n P → zeros n (maskOf P) = f → PartP n (P ++ takeW n st f (maskOf P)) ∧ (takeW n st f (maskOf P)).length = f ∧ costGo st (maskOf P) (takeW n st f (maskOf P)) = leastV n st f (maskOf P) := by
  intro f
  induction f with
  | zero => intro P h _; simpa [takeW, leastV, costGo] using h
  | succ f ih =>
    intro P hP hz
    obtain ⟨_, h2, h3, h4, _⟩ := leastV_is h0 hz
    rw [takeW]
    generalize (bestK (maskOf P) (way st (leastV n st f) (maskOf P)) n).1 = b at h2 h3 h4
    have hn : (b : Int) ∉ P := by rw [hP.bit] at h3; simpa using h3
    have hmk : maskOf (P ++ [(b : Int)]) = maskOf P ||| 2 ^ b := by rw [maskOf_snoc]; simp
    have hzk := zeros_or _ b h3 n
    rw [if_pos h2] at hzk
    obtain ⟨g1, g2, g3⟩ := ih (P ++ [(b : Int)]) (hP.snoc h2 hn) (by rw [hmk]; omega)
    rw [hmk] at g1 g2 g3
    refine ⟨by rw [List.append_assoc] at g1; exact g1, by rw [List.length_cons, g2], ?_⟩
    rw [costGo, h4, way]
    simp only [Int.toNat_natCast]
    rw [g3]
theorem takeM_is {n : Nat} {st : Nat → Nat → Int} (h0 : ∀ m i, 0 ≤ st m i) : PartP n (takeM n st 0) ∧ (takeM n st 0).length = n ∧ costGo st 0 (takeM n st 0) = leastM n st 0 := by
  have := takeW_is h0 n [] (PartP.nil n) (by rw [mask_nil, zeros_zero])
  rw [mask_nil, List.nil_append] at this
  rw [takeM, leastM, zeros_zero]; exact this
end Go.Proofs.Ytecfkomijaakhaa
