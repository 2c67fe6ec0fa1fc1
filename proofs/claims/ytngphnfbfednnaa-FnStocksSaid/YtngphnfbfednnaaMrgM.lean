/- MergeStocks without walks: merged by two ends, merged by insertion. -/
import Derived.Test.YtngphnfbfednnaaStockC
import Derived.Test.YtngphnfbfednnaaBits
namespace Go.Proofs.Ytngphnfbfednnaa
open Go.RowKit

/-! ### The order of codes -/
theorem u8_tri {a b : UInt8} (h1 : ¬ a < b) (h2 : ¬ b < a) : a = b := by
  rw [UInt8.lt_iff_toNat_lt] at h1 h2
  exact UInt8.toNat_inj.1 (by omega)
theorem bl_trans : ∀ x y z : List UInt8, Op.bytesLess x y = true → Op.bytesLess y z = true → Op.bytesLess x z = true
  | [], [], _, h, _ => by simp [Op.bytesLess] at h
  | _ :: _, [], _, h, _ => by simp [Op.bytesLess] at h
  | [], _ :: _, [], _, h => by simp [Op.bytesLess] at h
  | [], _ :: _, _ :: _, _, _ => by simp [Op.bytesLess]
  | _ :: _, _ :: _, [], _, h => by simp [Op.bytesLess] at h
  | a :: x, b :: y, c :: z, h1, h2 => by
    simp only [Op.bytesLess, Bool.or_eq_true, Bool.and_eq_true, decide_eq_true_eq, beq_iff_eq] at h1 h2 ⊢
    rcases h1 with h1 | ⟨rfl, h1⟩
    · rcases h2 with h2 | ⟨rfl, h2⟩
      · left; rw [UInt8.lt_iff_toNat_lt] at h1 h2 ⊢; omega
      · left; exact h1
    · rcases h2 with h2 | ⟨rfl, h2⟩
      · left; exact h2
      · right; exact ⟨rfl, bl_trans x y z h1 h2⟩
theorem bl_tri : ∀ x y : List UInt8, Op.bytesLess x y = false → Op.bytesLess y x = false → x = y
  | [], [], _, _ => rfl
  | _ :: _, [], _, h => by simp [Op.bytesLess] at h
  | [], _ :: _, h, _ => by simp [Op.bytesLess] at h
  | a :: x, b :: y, h1, h2 => by
    simp only [Op.bytesLess, Bool.or_eq_false_iff, Bool.and_eq_false_iff, decide_eq_false_iff_not, beq_eq_false_iff_ne] at h1 h2
    have e := u8_tri h1.1 h2.1
    subst e
    rcases h1.2 with h | h
    · exact absurd rfl h
    · rcases h2.2 with h' | h'
      · exact absurd rfl h'
      · rw [bl_tri x y h h']
theorem bl_irr : ∀ x : List UInt8, Op.bytesLess x x = false
  | [] => by simp [Op.bytesLess]
  | a :: x => by simp [Op.bytesLess, bl_irr x]
theorem codeLt_trans {a b c : ByteArray} (h1 : codeLt a b = true) (h2 : codeLt b c = true) : codeLt a c = true := bl_trans _ _ _ h1 h2
theorem codeLt_tri {a b : ByteArray} (h1 : codeLt a b = false) (h2 : codeLt b a = false) : a = b := by
  have := bl_tri _ _ h1 h2
  rw [toList_data, toList_data] at this
  cases a; cases b
  simp only at this
  congr 1
  exact Array.toList_inj.1 this
theorem codeLt_irr (a : ByteArray) : codeLt a a = false := bl_irr _
theorem codeLt_anti {a b : ByteArray} (h : codeLt a b = true) : codeLt b a = false := by
  cases e : codeLt b a
  · rfl
  · have := codeLt_trans h e
    rw [codeLt_irr] at this; cases this
theorem codeLt_ne {a b : ByteArray} (h : codeLt a b = true) : a ≠ b := by
  rintro rfl; rw [codeLt_irr] at h; cases h
/-! ### Merged by two ends -/
def bothB (x y : Bin) : Bin := { x with amount := x.amount + y.amount, reserved := x.reserved + y.reserved }
def mergeGo : List Bin → List Bin → List Bin
  | [], b => b
  | x :: xs, [] => x :: xs
  | x :: xs, y :: ys => if codeLt x.code y.code = true then x :: mergeGo xs (y :: ys) else if codeLt y.code x.code = true then y :: mergeGo (x :: xs) ys else bothB x y :: mergeGo xs ys
termination_by a b => a.length + b.length
theorem merge_nil (b : List Bin) : mergeGo [] b = b := by simp [mergeGo]
theorem merge_nil2 (a : List Bin) : mergeGo a [] = a := by cases a <;> simp [mergeGo]
theorem merge_len : ∀ (n : Nat) (a b : List Bin), a.length + b.length ≤ n → (mergeGo a b).length ≤ a.length + b.length := by
  intro n
  induction n with
  | zero =>
    intro a b h
    cases a with
    | nil => rw [merge_nil]; omega
    | cons x xs => simp at h
  | succ n ih =>
    intro a b h
    cases a with
    | nil => rw [merge_nil]; omega
    | cons x xs =>
      cases b with
      | nil => rw [merge_nil2]; omega
      | cons y ys =>
        rw [mergeGo]
        simp only [List.length_cons] at h ⊢
        split
        · have := ih xs (y :: ys) (by simp; omega); simp only [List.length_cons] at this ⊢; omega
        · split
          · have := ih (x :: xs) ys (by simp; omega); simp only [List.length_cons] at this ⊢; omega
          · have := ih xs ys (by omega); simp only [List.length_cons] at this ⊢; omega
/-! ### Merged by insertion -/
def insR : List Bin → Bin → List Bin
  | [], y => [y]
  | x :: xs, y => if codeLt x.code y.code = true then x :: insR xs y else if x.code = y.code then bothB x y :: xs else y :: x :: xs
theorem insR_end : ∀ (b : List Bin) (y : Bin), (∀ x ∈ b, codeLt x.code y.code = true) → insR b y = b ++ [y] := by
  intro b
  induction b with
  | nil => intro y _; rfl
  | cons x xs ih =>
    intro y h
    rw [insR, if_pos (h x (by simp)), ih y (fun z hz => h z (by simp [hz]))]; rfl
theorem merge_snoc : ∀ (n : Nat) (a b : List Bin) (y : Bin), a.length + b.length ≤ n → (∀ x ∈ b, codeLt x.code y.code = true) → mergeGo a (b ++ [y]) = insR (mergeGo a b) y := by
  intro n
  induction n with
  | zero =>
    intro a b y h _
    have ha : a = [] := List.eq_nil_of_length_eq_zero (by omega)
    have hb : b = [] := List.eq_nil_of_length_eq_zero (by omega)
    subst ha; subst hb
    simp [mergeGo, insR]
  | succ n ih =>
    intro a b y h hb
    cases a with
    | nil => rw [merge_nil, merge_nil, insR_end b y hb]
    | cons x xs =>
      cases b with
      | nil =>
        rw [List.nil_append, merge_nil2, mergeGo, insR]
        by_cases h1 : codeLt x.code y.code = true
        · rw [if_pos h1, if_pos h1]
          have := ih xs [] y (by simp at h ⊢; omega) (fun z hz => by simp at hz)
          rw [List.nil_append, merge_nil2] at this
          rw [this]
        · rw [if_neg h1, if_neg h1]
          by_cases h2 : codeLt y.code x.code = true
          · rw [if_pos h2, if_neg (fun e => codeLt_ne h2 e.symm), merge_nil2]
          · rw [if_neg h2, if_pos (codeLt_tri (by simpa using h1) (by simpa using h2)), merge_nil2]
      | cons b0 bs =>
        have hy := hb b0 (by simp)
        rw [List.cons_append, mergeGo, mergeGo]
        by_cases h1 : codeLt x.code b0.code = true
        · rw [if_pos h1, if_pos h1, insR, if_pos (codeLt_trans h1 hy)]
          have := ih xs (b0 :: bs) y (by simp at h ⊢; omega) hb
          rw [List.cons_append] at this
          rw [this]
        · rw [if_neg h1, if_neg h1]
          by_cases h2 : codeLt b0.code x.code = true
          · rw [if_pos h2, if_pos h2, insR, if_pos hy]
            have := ih (x :: xs) bs y (by simp at h ⊢; omega) (fun z hz => hb z (by simp [hz]))
            rw [this]
          · have e := codeLt_tri (show codeLt x.code b0.code = false by simpa using h1) (by simpa using h2)
            have hx : codeLt (bothB x b0).code y.code = true := by show codeLt x.code y.code = true; rw [e]; exact hy
            rw [if_neg h2, if_neg h2, insR, if_pos hx]
            have := ih xs bs y (by simp at h ⊢; omega) (fun z hz => hb z (by simp [hz]))
            rw [this]
/-- A stock's codes rise. -/
theorem stock_rise {B : List Bin} (h : isStock B = true) : ∀ d i, i + d + 1 < B.length → codeLt (binAt B i).code (binAt B (i + d + 1)).code = true := by
  have step : ∀ j, j + 1 < B.length → codeLt (binAt B j).code (binAt B (j + 1)).code = true := by
    intro j hj
    have := (isStock_iff.1 h).2 (j + 1) hj
    simp only [stockOk, binUp, Bool.and_eq_true, Bool.or_eq_true] at this
    rcases this.2 with h1 | h1
    · simp at h1
    · exact h1
  intro d
  induction d with
  | zero => intro i hi; exact step i hi
  | succ d ih => intro i hi; exact codeLt_trans (ih i (by omega)) (step (i + d + 1) (by omega))
theorem merge_take {A B : List Bin} (h : isStock B = true) {k : Nat} (hk : k < B.length) : mergeGo A (B.take (k + 1)) = insR (mergeGo A (B.take k)) (binAt B k) := by
  have e : B.take (k + 1) = B.take k ++ [binAt B k] := take_snoc B default hk
  rw [e]
  refine merge_snoc _ A (B.take k) _ (Nat.le_refl _) (fun x hx => ?_)
  obtain ⟨i, hi, rfl⟩ := List.mem_iff_getElem.1 hx
  rw [List.length_take] at hi
  rw [List.getElem_take]
  have e2 : B[i] = binAt B i := (binAt_lt (by omega)).symm
  rw [e2]
  have := stock_rise h (k - i - 1) i (by omega)
  rwa [show i + (k - i - 1) + 1 = k by omega] at this
theorem stock_oks {B : List Bin} (h : isStock B = true) : ∀ x ∈ B, binOk x = true := by
  intro x hx
  obtain ⟨i, hi, rfl⟩ := List.mem_iff_getElem.1 hx
  have := (isStock_iff.1 h).2 i hi
  simp only [stockOk, Bool.and_eq_true] at this
  rw [binAt_lt hi] at this
  exact this.1
theorem merge_codes : ∀ (n : Nat) (a b : List Bin), a.length + b.length ≤ n → (∀ x ∈ a, x.code.size ≤ maxLen) → (∀ x ∈ b, x.code.size ≤ maxLen) → ∀ z ∈ mergeGo a b, z.code.size ≤ maxLen := by
  intro n
  induction n with
  | zero =>
    intro a b h _ hb
    have ha : a = [] := List.eq_nil_of_length_eq_zero (by omega)
    subst ha
    rw [merge_nil]; exact hb
  | succ n ih =>
    intro a b h ha hb
    cases a with
    | nil => rw [merge_nil]; exact hb
    | cons x xs =>
      cases b with
      | nil => rw [merge_nil2]; exact ha
      | cons y ys =>
        have hx := ha x (by simp)
        have hy := hb y (by simp)
        have hxs : ∀ z ∈ xs, z.code.size ≤ maxLen := fun z hz => ha z (by simp [hz])
        have hys : ∀ z ∈ ys, z.code.size ≤ maxLen := fun z hz => hb z (by simp [hz])
        simp only [List.length_cons] at h
        rw [mergeGo]
        split
        · intro z hz
          rcases List.mem_cons.1 hz with rfl | hz
          · exact hx
          · exact ih xs (y :: ys) (by simp; omega) hxs hb z hz
        · split
          · intro z hz
            rcases List.mem_cons.1 hz with rfl | hz
            · exact hy
            · exact ih (x :: xs) ys (by simp; omega) ha hys z hz
          · intro z hz
            rcases List.mem_cons.1 hz with rfl | hz
            · exact hx
            · exact ih xs ys (by omega) hxs hys z hz
theorem merge_fit {A B : List Bin} (ha : binFit A) (hb : binFit B) : binFit (mergeGo A B) := by
  have key : ∀ L : List Bin, binFit L → ∀ x ∈ L, x.code.size ≤ maxLen := by
    intro L h x hx
    obtain ⟨i, hi, rfl⟩ := List.mem_iff_getElem.1 hx
    have := h i hi
    rwa [binAt_lt hi] at this
  intro i hi
  rw [binAt_lt hi]
  exact merge_codes _ A B (Nat.le_refl _) (key A ha) (key B hb) _ (List.getElem_mem hi)
/-- Where it is inserted. -/
theorem insR_at : ∀ (O : List Bin) (y : Bin) (k : Nat), k ≤ O.length → (∀ j, j < k → codeLt (binAt O j).code y.code = true) → (k < O.length → codeLt (binAt O k).code y.code = false) →
    insR O y = if k < O.length ∧ (binAt O k).code = y.code then binSet O k ((binAt O k).amount + y.amount) ((binAt O k).reserved + y.reserved) else O.take k ++ y :: O.drop k := by
  intro O
  induction O with
  | nil =>
    intro y k hk _ _
    have : k = 0 := by simpa using hk
    subst this
    simp [insR]
  | cons x xs ih =>
    intro y k hk h1 h2
    cases k with
    | zero =>
      have h3 := h2 (by simp)
      have e : binAt (x :: xs) 0 = x := rfl
      rw [e] at h3 ⊢
      rw [insR, if_neg (by rw [h3]; simp)]
      by_cases h4 : x.code = y.code
      · rw [if_pos h4, if_pos ⟨by simp, h4⟩]
        simp [binSet, bothB, binAt]
      · rw [if_neg h4, if_neg (fun h => h4 h.2)]
        rfl
    | succ k =>
      have h3 := h1 0 (by omega)
      have e : binAt (x :: xs) 0 = x := rfl
      have e2 : ∀ j, binAt (x :: xs) (j + 1) = binAt xs j := fun j => by simp [binAt, List.getD]
      rw [e] at h3
      have := ih y k (by simpa using hk) (fun j hj => by have := h1 (j + 1) (by omega); rwa [e2] at this) (fun h => by have := h2 (by simpa using h); rwa [e2] at this)
      rw [insR, if_pos h3, this, e2]
      by_cases h4 : k < xs.length ∧ (binAt xs k).code = y.code
      · rw [if_pos h4, if_pos ⟨by simpa using h4.1, h4.2⟩]
        simp [binSet, e2]
      · rw [if_neg h4, if_neg (fun h => h4 ⟨by simpa using h.1, h.2⟩)]
        rfl
theorem insR_bound {y : Bin} {M : Int} (hy : 0 ≤ y.amount ∧ y.amount ≤ 100000 ∧ 0 ≤ y.reserved ∧ y.reserved ≤ 100000) (hM : 0 ≤ M) : ∀ (O : List Bin), (∀ z ∈ O, 0 ≤ z.amount ∧ z.amount ≤ M ∧ 0 ≤ z.reserved ∧ z.reserved ≤ M) → ∀ z ∈ insR O y, 0 ≤ z.amount ∧ z.amount ≤ M + 100000 ∧ 0 ≤ z.reserved ∧ z.reserved ≤ M + 100000 := by
  intro O
  induction O with
  | nil =>
    intro _ z hz
    simp only [insR, List.mem_cons, List.not_mem_nil, or_false] at hz
    subst hz; omega
  | cons x xs ih =>
    intro h z hz
    have hx := h x (by simp)
    rw [insR] at hz
    split at hz
    · rcases List.mem_cons.1 hz with rfl | hz
      · omega
      · exact ih (fun w hw => h w (by simp [hw])) z hz
    · split at hz
      · rcases List.mem_cons.1 hz with rfl | hz
        · simp only [bothB]; omega
        · have := h z (by simp [hz]); omega
      · rcases List.mem_cons.1 hz with rfl | hz
        · omega
        · have := h z (by simpa using hz); omega
theorem merge_bound {A B : List Bin} (hA : isStock A = true) (hB : isStock B = true) : ∀ k, k ≤ B.length → ∀ z ∈ mergeGo A (B.take k), 0 ≤ z.amount ∧ z.amount ≤ 100000 * (k + 1) ∧ 0 ≤ z.reserved ∧ z.reserved ≤ 100000 * (k + 1) := by
  intro k
  induction k with
  | zero =>
    intro _ z hz
    rw [List.take_zero, merge_nil2] at hz
    have := binOk_iff.1 (stock_oks hA z hz)
    omega
  | succ k ih =>
    intro hk z hz
    rw [merge_take hB (by omega)] at hz
    have hb := binOk_iff.1 (stock_oks hB (binAt B k) (by rw [binAt_lt (by omega)]; exact List.getElem_mem _))
    have := insR_bound (y := binAt B k) (M := 100000 * (k + 1)) (by omega) (by omega) _ (ih (by omega)) z hz
    omega
def mergeF (A B : List Bin) : List Bin × Int :=
  if isStock A = false then ([], 1) else if isStock B = false then ([], 1) else if isStock (mergeGo A B) = false then ([], 3) else (mergeGo A B, 0)
theorem mergeF_len (A B : List Bin) : (mergeF A B).1.length ≤ 4194304 := by
  unfold mergeF
  split
  · simp
  · split
    · simp
    · split
      · simp
      · rename_i h1 h2 h3
        have := isStock_le (L := mergeGo A B) (by simpa using h3)
        simp only; omega
/-! ### Amounts, and the place of an insertion -/
def amounts (L : List Bin) : Int := (L.map (·.amount)).sum
theorem amounts_cons (x : Bin) (L : List Bin) : amounts (x :: L) = x.amount + amounts L := by simp [amounts]
theorem merge_amounts : ∀ (n : Nat) (a b : List Bin), a.length + b.length ≤ n → amounts (mergeGo a b) = amounts a + amounts b := by
  intro n
  induction n with
  | zero =>
    intro a b h
    have ha : a = [] := List.eq_nil_of_length_eq_zero (by omega)
    subst ha
    rw [merge_nil]; simp [amounts]
  | succ n ih =>
    intro a b h
    cases a with
    | nil => rw [merge_nil]; simp [amounts]
    | cons x xs =>
      cases b with
      | nil => rw [merge_nil2]; simp [amounts]
      | cons y ys =>
        rw [mergeGo]
        simp only [List.length_cons] at h
        split
        · rw [amounts_cons, ih xs (y :: ys) (by simp; omega), amounts_cons, amounts_cons]; omega
        · split
          · rw [amounts_cons, ih (x :: xs) ys (by simp; omega), amounts_cons, amounts_cons]; omega
          · rw [amounts_cons, ih xs ys (by omega), amounts_cons, amounts_cons]; simp only [bothB]; omega
end Go.Proofs.Ytngphnfbfednnaa
