/- The plain laws of FnOrders: how many orders there are at least; what remains; what stands ahead of what. No walks. -/
import Derived.Test.YtecfkomijaakhaaBestM
import Derived.Test.YtecfkomijaakhaaRecK
import Derived.Test.YtecfkomijaakhaaRecH
import Derived.Test.YtecfkomijaakhaaRecF
namespace Go.Proofs.Ytecfkomijaakhaa
open Go.RowKit

/-! ### Sums over all indices -/
def sumN (g : Nat → Int) : Nat → Int
  | 0 => 0
  | k + 1 => sumN g k + g k
theorem sumN_congr {g h : Nat → Int} : ∀ n, (∀ i, i < n → g i = h i) → sumN g n = sumN h n
  | 0, _ => rfl
  | n + 1, e => by rw [sumN, sumN, sumN_congr n (fun i hi => e i (by omega)), e n (by omega)]
theorem sumN_le {g h : Nat → Int} : ∀ n, (∀ i, i < n → g i ≤ h i) → sumN g n ≤ sumN h n
  | 0, _ => Int.le_refl _
  | n + 1, e => by have h1 := sumN_le n (fun i hi => e i (by omega)); have h2 := e n (by omega); rw [sumN, sumN]; omega
theorem sumN_lt {g h : Nat → Int} : ∀ n k, k < n → (∀ i, i < n → g i ≤ h i) → g k + 1 ≤ h k → sumN g n + 1 ≤ sumN h n
  | 0, k, hk, _, _ => by omega
  | n + 1, k, hk, e, hlt => by
    rw [sumN, sumN]
    by_cases e1 : k = n
    · subst e1
      have := sumN_le k (fun i hi => e i (by omega)); omega
    · have h1 := sumN_lt n k (by omega) (fun i hi => e i (by omega)) hlt
      have h2 := e n (by omega); omega
theorem sumN_one (g : Nat → Int) (Q : List Int) (b : Nat) (hn : (b : Int) ∉ Q) : ∀ n, sumN (fun i => if (i : Int) ∈ Q ++ [(b : Int)] then g i else 0) n = sumN (fun i => if (i : Int) ∈ Q then g i else 0) n + if b < n then g b else 0
  | 0 => by simp [sumN]
  | n + 1 => by
    rw [sumN, sumN, sumN_one g Q b hn n]
    by_cases e : n = b
    · subst e
      simp only [hn, Nat.lt_irrefl, Nat.lt_succ_self, List.mem_append, List.mem_singleton, or_true, ↓reduceIte]
    · have e2 : ((n : Int) ∈ Q ++ [(b : Int)]) ↔ (n : Int) ∈ Q := by
        rw [List.mem_append, List.mem_singleton]
        constructor
        · rintro (h | h)
          · exact h
          · omega
        · exact .inl
      have e3 : (if (n : Int) ∈ Q ++ [(b : Int)] then g n else 0) = if (n : Int) ∈ Q then g n else 0 := by
        by_cases hm : (n : Int) ∈ Q
        · rw [if_pos hm, if_pos (e2.2 hm)]
        · rw [if_neg hm, if_neg (fun h => hm (e2.1 h))]
      rw [e3]
      by_cases h3 : b < n
      · have h4 : b < n + 1 := by omega
        simp only [h3, h4, ↓reduceIte]; omega
      · have h4 : ¬ b < n + 1 := by omega
        simp only [h3, h4, ↓reduceIte]; omega
/-! ### There is at least one order -/
def unp (d k m i : Nat) : Bool := m.testBit i && (decide (d < m - 2 ^ i) || (decide (m - 2 ^ i = d) && decide (k ≤ i)))
def unC (n d k m : Nat) : Int := sumN (fun i => if unp d k m i = true then 1 else 0) n
theorem unC_nn (n d k m : Nat) : 0 ≤ unC n d k m := by
  have h : sumN (fun _ => (0 : Int)) n = 0 := by induction n with
    | zero => rfl
    | succ n ih => rw [sumN, ih]; rfl
  have := sumN_le (g := fun _ => (0 : Int)) (h := fun i => if unp d k m i = true then 1 else 0) n (fun i _ => by (try dsimp only); split <;> omega)
  rw [h] at this; exact this
theorem unC_le (n d k m : Nat) : unC n d k m ≤ n := by
  have h : sumN (fun _ => (1 : Int)) n = n := by induction n with
    | zero => rfl
    | succ n ih => rw [sumN, ih]; omega
  have := sumN_le (g := fun i => if unp d k m i = true then 1 else 0) (h := fun _ => (1 : Int)) n (fun i _ => by (try dsimp only); split <;> omega)
  rw [h] at this; exact this
theorem unC_mono {n d k m d' k' : Nat} (h : ∀ i, i < n → unp d' k' m i = true → unp d k m i = true) : unC n d' k' m ≤ unC n d k m := by
  refine sumN_le n (fun i hi => ?_)
  try dsimp only
  by_cases h1 : unp d' k' m i = true
  · rw [if_pos h1, if_pos (h i hi h1)]; omega
  · rw [if_neg h1]; split <;> omega
theorem unp_k {d k m i : Nat} (h : unp d (k + 1) m i = true) : unp d k m i = true := by
  simp only [unp, Bool.and_eq_true, Bool.or_eq_true, decide_eq_true_eq] at h ⊢
  refine ⟨h.1, ?_⟩
  rcases h.2 with h2 | h2
  · exact .inl h2
  · exact .inr ⟨h2.1, by omega⟩
theorem unp_d {d n m i : Nat} (h : unp (d + 1) 0 m i = true) : unp d n m i = true := by
  simp only [unp, Bool.and_eq_true, Bool.or_eq_true, decide_eq_true_eq] at h ⊢
  refine ⟨h.1, .inl ?_⟩
  rcases h.2 with h2 | h2 <;> omega
theorem unC_push {n d k : Nat} (hk : k < n) (hb : d.testBit k = false) : unC n d (k + 1) (d ||| 2 ^ k) + 1 ≤ unC n d k (d ||| 2 ^ k) := by
  have hm : (d ||| 2 ^ k) - 2 ^ k = d := by rw [or_plus hb]; omega
  have ht : (d ||| 2 ^ k).testBit k = true := by rw [Nat.testBit_or, Nat.testBit_two_pow]; simp
  refine sumN_lt n k hk (fun i hi => ?_) ?_
  · try dsimp only
    by_cases h1 : unp d (k + 1) (d ||| 2 ^ k) i = true
    · rw [if_pos h1, if_pos (unp_k h1)]; omega
    · rw [if_neg h1]; split <;> omega
  · try dsimp only
    have h1 : unp d k (d ||| 2 ^ k) k = true := by simp [unp, ht, hm]
    have h2 : unp d (k + 1) (d ||| 2 ^ k) k = false := by simp [unp, hm]
    rw [if_pos h1, h2]; simp
def popN (n m : Nat) : Nat := n - zeros n m
theorem popN_or {n d k : Nat} (hk : k < n) (hb : d.testBit k = false) : popN n (d ||| 2 ^ k) = popN n d + 1 := by
  have h1 := zeros_or d k hb n
  rw [if_pos hk] at h1
  have h2 := zeros_le n d
  unfold popN; omega
theorem popN_pos {n m : Nat} (hm : m < 2 ^ n) (h0 : m ≠ 0) : 1 ≤ popN n m := by
  have h1 := zeros_le n m
  by_cases h : zeros n m = n
  · exfalso
    apply h0
    apply Nat.eq_of_testBit_eq
    intro i
    rw [Nat.zero_testBit]
    by_cases hi : i < n
    · unfold zeros at h
      have := List.countP_eq_length.1 (by rw [h]; simp : (List.range n).countP (fun (i : Nat) => !m.testBit i) = (List.range n).length) i (List.mem_range.2 hi)
      simpa using this
    · exact Nat.testBit_lt_two_pow (Nat.lt_of_lt_of_le hm (Nat.pow_le_pow_right (by omega) (by omega)))
  · unfold popN; omega
theorem ten_pos (p : Nat) : (1 : Int) ≤ 10 ^ p := by
  induction p with
  | zero => simp
  | succ p ih => rw [Int.pow_succ]; omega
theorem ten_le {p q : Nat} (h : p ≤ q) : (10 : Int) ^ p ≤ 10 ^ q := by
  induction q with
  | zero => obtain rfl : p = 0 := by omega
            exact Int.le_refl _
  | succ q ih =>
    by_cases e : p = q + 1
    · subst e; exact Int.le_refl _
    · have h1 := ih (by omega); have h2 := ten_pos q; rw [Int.pow_succ]; omega
/-- The ways stay within bounds: what is still to come is reckoned in. -/
def CntInv (n d k : Nat) (W : List Int) : Prop := ∀ m, m < 2 ^ n → 0 ≤ intsAt W m ∧ intsAt W m + unC n d k m * 10 ^ (popN n m - 1) ≤ 10 ^ popN n m
theorem CntInv.at_ {n d k m : Nat} {W : List Int} (h : CntInv n d k W) (hm : m < 2 ^ n) : 0 ≤ intsAt W m ∧ intsAt W m ≤ 10 ^ popN n m := by
  obtain ⟨h1, h2⟩ := h m hm
  have h3 := Int.mul_nonneg (unC_nn n d k m) (show (0 : Int) ≤ 10 ^ (popN n m - 1) by have := ten_pos (popN n m - 1); omega)
  omega
theorem CntInv.mono {n d k d' k' : Nat} {W : List Int} (h : CntInv n d k W) (hle : ∀ m, m < 2 ^ n → unC n d' k' m ≤ unC n d k m) : CntInv n d' k' W := by
  intro m hm
  obtain ⟨h1, h2⟩ := h m hm
  have h3 := Int.mul_le_mul_of_nonneg_right (hle m hm) (show (0 : Int) ≤ 10 ^ (popN n m - 1) by have := ten_pos (popN n m - 1); omega)
  exact ⟨h1, by omega⟩
theorem CntInv.start {n : Nat} (hn : n ≤ 9) : CntInv n 0 0 ((List.replicate (2 ^ n) 0).set 0 1) := by
  intro m hm
  rw [intsAt_set (by simp; exact Nat.two_pow_pos n)]
  by_cases e : m = 0
  · subst e
    have h1 : unC n 0 0 0 = 0 := by
      have := unC_nn n 0 0 0
      have h2 : unC n 0 0 0 = sumN (fun _ => (0 : Int)) n := sumN_congr n (fun i _ => by simp [unp])
      have h3 : sumN (fun _ => (0 : Int)) n = 0 := by
        clear this h2 hm hn
        induction n with
        | zero => rfl
        | succ n ih => rw [sumN, ih]; rfl
      omega
    rw [if_pos rfl, h1]
    have := ten_pos (popN n 0)
    omega
  · rw [if_neg e]
    have h0 : intsAt (List.replicate (2 ^ n) (0 : Int)) m = 0 := by rw [intsAt, List.getD, List.getElem?_replicate]; split <;> rfl
    rw [h0]
    have hp := popN_pos hm e
    obtain ⟨p, hpe⟩ : ∃ p, popN n m = p + 1 := ⟨popN n m - 1, by omega⟩
    rw [hpe, Nat.add_sub_cancel, Int.pow_succ]
    have h1 := ten_pos p
    have h2 := unC_le n 0 0 m
    have h3 : unC n 0 0 m * 10 ^ p ≤ 9 * 10 ^ p := Int.mul_le_mul_of_nonneg_right (by omega) (by omega)
    omega
theorem cntIn_inv {L : List Step} (h9 : L.length ≤ 9) {d : Nat} (hd : d < 2 ^ L.length) {W : List Int} (hl : W.length = 2 ^ L.length) (h : CntInv L.length d 0 W) : ∀ k, k ≤ L.length → CntInv L.length d k (cntIn L d W k) ∧ ∀ m, m < 2 ^ L.length → intsAt W m ≤ intsAt (cntIn L d W k) m := by
  intro k
  induction k with
  | zero => intro _; exact ⟨h, fun _ _ => Int.le_refl _⟩
  | succ k ih =>
    intro hk
    obtain ⟨i1, i2⟩ := ih (by omega)
    have hmn := i1.mono (fun m _ => unC_mono (n := L.length) (d := d) (k := k) (m := m) (d' := d) (k' := k + 1) (fun i _ => unp_k))
    cases hc : (decide (0 < intsAt W d) && !d.testBit k && readyM (stepAt L k) d)
    · rw [cntIn_no hc]; exact ⟨hmn, i2⟩
    · rw [cntIn_yes hc]
      simp only [Bool.and_eq_true, Bool.not_eq_true', decide_eq_true_eq] at hc
      obtain ⟨⟨hw, hb⟩, _⟩ := hc
      have hjl := or_lt hd (show k < L.length by omega)
      have hat := cntIn_at L d W (fun k hk => by rw [hl]; exact bar_lt hd hk) k (by omega)
      have hWd := i1.at_ hd
      rw [hat] at hWd
      have hWm := i1 _ hjl
      have hWm2 := i1.at_ hjl
      have hpo := popN_or (n := L.length) (show k < L.length by omega) hb
      have hpl : popN L.length (d ||| 2 ^ k) ≤ 9 := by have := zeros_le L.length (d ||| 2 ^ k); unfold popN; omega
      have h10 := ten_le hpl
      have h10d := ten_le (show popN L.length d ≤ 9 by omega)
      have hwr : wrap64 (intsAt (cntIn L d W k) (d ||| 2 ^ k) + intsAt W d) = intsAt (cntIn L d W k) (d ||| 2 ^ k) + intsAt W d := IntWalk.wrap64_in _ (by
        have : (10 : Int) ^ 9 = 1000000000 := by decide
        rw [this] at h10 h10d
        omega)
      rw [hwr]
      have hcl : (cntIn L d W k).length = 2 ^ L.length := by rw [cntIn_len, hl]
      refine ⟨fun m hm => ?_, fun m hm => ?_⟩
      · rw [intsAt_set (by rw [hcl]; exact hjl)]
        by_cases e : m = d ||| 2 ^ k
        · subst e
          rw [if_pos rfl]
          have hpush := unC_push (n := L.length) (show k < L.length by omega) hb
          rw [hpo] at hWm ⊢
          rw [Nat.add_sub_cancel] at hWm ⊢
          have h5 := Int.mul_le_mul_of_nonneg_right hpush (show (0 : Int) ≤ 10 ^ popN L.length d by have := ten_pos (popN L.length d); omega)
          rw [Int.add_mul, Int.one_mul] at h5
          omega
        · rw [if_neg e]; exact hmn m hm
      · rw [intsAt_set (by rw [hcl]; exact hjl)]
        by_cases e : m = d ||| 2 ^ k
        · subst e
          rw [if_pos rfl]
          have := i2 _ hjl
          omega
        · rw [if_neg e]; exact i2 m hm
theorem cntOut_inv {L : List Step} (h9 : L.length ≤ 9) : ∀ d, d ≤ 2 ^ L.length → CntInv L.length d 0 (cntOut L d) := by
  intro d
  induction d with
  | zero => intro _; exact CntInv.start h9
  | succ d ih =>
    intro hd
    have h1 := (cntIn_inv h9 (show d < 2 ^ L.length by omega) (cntOut_len L d) (ih (by omega)) L.length (Nat.le_refl _)).1
    rw [cntOut]
    exact h1.mono (fun m _ => unC_mono (fun i _ => unp_d))
theorem cntOut_mono {L : List Step} (h9 : L.length ≤ 9) {d m : Nat} (hm : m < 2 ^ L.length) : ∀ e, d + e ≤ 2 ^ L.length → intsAt (cntOut L d) m ≤ intsAt (cntOut L (d + e)) m := by
  intro e
  induction e with
  | zero => intro _; exact Int.le_refl _
  | succ e ih =>
    intro he
    have h1 := ih (by omega)
    have h2 := (cntIn_inv h9 (show d + e < 2 ^ L.length by omega) (cntOut_len L (d + e)) (cntOut_inv h9 (d + e) (by omega)) L.length (Nat.le_refl _)).2 m hm
    rw [show d + (e + 1) = d + e + 1 by omega, cntOut]
    omega
theorem cnt_path {L : List Step} (h : isRecipe L = true) : ∀ j, j ≤ L.length → maskOf ((firstOrd L).take j) < 2 ^ L.length ∧ ∀ d, maskOf ((firstOrd L).take j) ≤ d → d ≤ 2 ^ L.length → 1 ≤ intsAt (cntOut L d) (maskOf ((firstOrd L).take j)) := by
  obtain ⟨h9, hok, hfl⟩ := isRecipe_iff.1 h
  have hg := (firstOrd_grown L).1
  intro j
  induction j with
  | zero =>
    intro _
    rw [List.take_zero, mask_nil]
    refine ⟨Nat.two_pow_pos _, fun d _ hd => ?_⟩
    have h1 := cntOut_mono h9 (d := 0) (m := 0) (Nat.two_pow_pos _) d (by omega)
    have h2 : intsAt (cntOut L 0) 0 = 1 := by
      rw [cntOut, intsAt_set (by simp; exact Nat.two_pow_pos _), if_pos rfl]
    rw [Nat.zero_add] at h1
    omega
  | succ j ih =>
    intro hj
    obtain ⟨i1, i2⟩ := ih (by omega)
    have hjF : j < (firstOrd L).length := by omega
    obtain ⟨b, hb, hbn⟩ := hg.mem j hjF
    have eM : maskOf ((firstOrd L).take (j + 1)) = maskOf ((firstOrd L).take j) ||| 2 ^ b := by rw [maskOf_take _ hjF, hb]; simp
    have hMI : MaskIs (maskOf ((firstOrd L).take j)) ((firstOrd L).take j) := maskIs_of (fun x hx => hg.nn x (List.mem_of_mem_take hx))
    have hnew := hg.new j hjF
    have hrdy := hg.ready j hjF
    rw [hb] at hnew hrdy
    have hbit : (maskOf ((firstOrd L).take j)).testBit b = false := by rw [hMI b]; exact hnew
    have hready : readyM (stepAt L b) (maskOf ((firstOrd L).take j)) = true := by
      rw [hMI.ready (fun x hx => ((steps_bd hok hbn).2.2.1 x hx).1)]; simpa using hrdy
    rw [eM]
    refine ⟨or_lt i1 hbn, fun d hd1 hd2 => ?_⟩
    have hgt := or_gt hbit
    have hW := i2 _ (Nat.le_refl _) (by omega)
    generalize maskOf ((firstOrd L).take j) = M at *
    have hM : M < 2 ^ L.length := i1
    -- the push
    have hpush : 1 ≤ intsAt (cntIn L M (cntOut L M) (b + 1)) (M ||| 2 ^ b) := by
      obtain ⟨j1, j2⟩ := cntIn_inv h9 hM (cntOut_len L M) (cntOut_inv h9 M (by omega)) b (by omega)
      obtain ⟨j3, _⟩ := cntIn_inv h9 hM (cntOut_len L M) (cntOut_inv h9 M (by omega)) (b + 1) (by omega)
      have hc : (decide (0 < intsAt (cntOut L M) M) && !M.testBit b && readyM (stepAt L b) M) = true := by
        rw [hbit, hready]; simp; omega
      have hat := cntIn_at L M (cntOut L M) (fun k hk => by rw [cntOut_len]; exact bar_lt hM hk) b (by omega)
      have hjl := or_lt hM hbn
      have hWm := j1.at_ hjl
      have hWd := j1.at_ hM
      rw [hat] at hWd
      have hpl : popN L.length (M ||| 2 ^ b) ≤ 9 := by have := zeros_le L.length (M ||| 2 ^ b); unfold popN; omega
      have hpd : popN L.length M ≤ 9 := by have := zeros_le L.length M; unfold popN; omega
      have h10 := ten_le hpl
      have h10d := ten_le hpd
      rw [cntIn_yes hc, intsAt_set (by rw [cntIn_len, cntOut_len]; exact hjl), if_pos rfl]
      rw [IntWalk.wrap64_in _ (by
        have : (10 : Int) ^ 9 = 1000000000 := by decide
        rw [this] at h10 h10d
        omega)]
      omega
    have hfull : 1 ≤ intsAt (cntOut L (M + 1)) (M ||| 2 ^ b) := by
      rw [cntOut]
      have hst : ∀ e, b + 1 + e ≤ L.length → 1 ≤ intsAt (cntIn L M (cntOut L M) (b + 1 + e)) (M ||| 2 ^ b) := by
        intro e
        induction e with
        | zero => intro _; exact hpush
        | succ e ihe =>
          intro he
          have h1 := ihe (by omega)
          rw [show b + 1 + (e + 1) = b + 1 + e + 1 by omega, cntIn]
          split
          · rename_i hc
            simp only [Bool.and_eq_true, Bool.not_eq_true', decide_eq_true_eq] at hc
            have hne : M ||| 2 ^ b ≠ M ||| 2 ^ (b + 1 + e) := fun e2 => by
              rw [or_plus hbit, or_plus hc.1.2] at e2
              have := Nat.pow_lt_pow_right (a := 2) (by omega) (show b < b + 1 + e by omega)
              omega
            rw [intsAt_set (by rw [cntIn_len, cntOut_len]; exact or_lt hM (by omega)), if_neg hne]; exact h1
          · exact h1
      have := hst (L.length - (b + 1)) (by omega)
      rwa [show b + 1 + (L.length - (b + 1)) = L.length by omega] at this
    have := cntOut_mono h9 (d := M + 1) (or_lt hM hbn) (d - (M + 1)) (by omega)
    rw [show M + 1 + (d - (M + 1)) = d by omega] at this
    omega
/-- At least one order. -/
theorem count_pos {L : List Step} (h : isRecipe L = true) : 1 ≤ (countF L).1 := by
  obtain ⟨h9, hok, hfl⟩ := isRecipe_iff.1 h
  obtain ⟨h1, h2⟩ := cnt_path h L.length (Nat.le_refl _)
  have hg := (firstOrd_grown L).1
  rw [List.take_of_length_le (by omega)] at h1 h2
  have hm : maskOf (firstOrd L) = 2 ^ L.length - 1 := all_set h1 (fun i hi => by
    have hMI : MaskIs (maskOf (firstOrd L)) (firstOrd L) := maskIs_of hg.nn
    rw [hMI i]; exact firstOrd_full.1 hfl i hi)
  have h3 := h2 (2 ^ L.length) (by omega) (Nat.le_refl _)
  rw [countF_ok h, ← hm]; exact h3
end Go.Proofs.Ytecfkomijaakhaa
