/- What a stock is; a bin by its code; a bin changed; what the functions of chapter 24 give. No walks. -/
import Derived.Test.YtngphnfbfednnaaBinS
import Derived.Test.YtngphnfbfednnaaWord
import Derived.Test.YtngphnfbfednnaaInts
import Derived.Test.YtngphnfbfednnaaStrs
import Derived.Sort.Walk0
namespace Go.Proofs.Ytngphnfbfednnaa
open Go.RowKit

def binOk (b : Bin) : Bool := isWord b.code && inR b.amount 0 100000 && inR b.reserved 0 b.amount && inR b.point 0 100000 && inR b.lot 1 100000
def codeLt (a b : ByteArray) : Bool := Op.bytesLess a.toList b.toList
def binUp (L : List Bin) (i : Nat) : Bool := i == 0 || codeLt (binAt L (i - 1)).code (binAt L i).code
def stockOk (L : List Bin) (i : Nat) : Bool := binOk (binAt L i) && binUp L i
def isStock (L : List Bin) : Bool := decide (L.length ≤ 20) && (List.range L.length).all (stockOk L)
theorem isStock_long {L : List Bin} (h : 20 < L.length) : isStock L = false := by
  simp only [isStock, Bool.and_eq_false_iff]; exact .inl (by simpa using h)
theorem isStock_bad {L : List Bin} {i : Nat} (hi : i < L.length) (h : stockOk L i = false) : isStock L = false := by
  simp only [isStock, Bool.and_eq_false_iff, List.all_eq_false]
  exact .inr ⟨i, by simpa using hi, by simp [h]⟩
theorem isStock_good {L : List Bin} (h1 : L.length ≤ 20) (h : ∀ i, i < L.length → stockOk L i = true) : isStock L = true := by
  simp only [isStock, Bool.and_eq_true, decide_eq_true_eq, List.all_eq_true, List.mem_range]
  exact ⟨h1, h⟩
theorem isStock_iff {L : List Bin} : isStock L = true ↔ L.length ≤ 20 ∧ ∀ i, i < L.length → stockOk L i = true := by
  simp only [isStock, Bool.and_eq_true, decide_eq_true_eq, List.all_eq_true, List.mem_range]
theorem isStock_le {L : List Bin} (h : isStock L = true) : L.length ≤ 20 := (isStock_iff.1 h).1
theorem isStock_len {L : List Bin} (h : ∀ i, i < L.length → stockOk L i = true) : isStock L = decide (L.length ≤ 20) := by
  by_cases h7 : L.length ≤ 20
  · rw [isStock_good h7 h]; simp [h7]
  · rw [isStock_long (by omega)]; simp [h7]
theorem inR_iff {n lo hi : Int} : inR n lo hi = true ↔ lo ≤ n ∧ n ≤ hi := by simp [inR]
theorem inR_no {n lo hi : Int} : inR n lo hi = false ↔ n < lo ∨ hi < n := by simp [inR]; omega
theorem binOk_iff {b : Bin} : binOk b = true ↔ isWord b.code = true ∧ (0 ≤ b.amount ∧ b.amount ≤ 100000) ∧ (0 ≤ b.reserved ∧ b.reserved ≤ b.amount) ∧ (0 ≤ b.point ∧ b.point ≤ 100000) ∧ (1 ≤ b.lot ∧ b.lot ≤ 100000) := by
  simp only [binOk, Bool.and_eq_true, inR_iff, and_assoc]
theorem stock_bin {L : List Bin} (h : isStock L = true) {i : Nat} (hi : i < L.length) : isWord (binAt L i).code = true ∧ (0 ≤ (binAt L i).amount ∧ (binAt L i).amount ≤ 100000) ∧ (0 ≤ (binAt L i).reserved ∧ (binAt L i).reserved ≤ (binAt L i).amount) ∧ (0 ≤ (binAt L i).point ∧ (binAt L i).point ≤ 100000) ∧ (1 ≤ (binAt L i).lot ∧ (binAt L i).lot ≤ 100000) := by
  have := (isStock_iff.1 h).2 i hi
  rw [stockOk, Bool.and_eq_true] at this
  exact binOk_iff.1 this.1
theorem stockOk_word {L : List Bin} {i : Nat} (h : isWord (binAt L i).code = false) : stockOk L i = false := by simp [stockOk, binOk, h]
theorem stockOk_amount {L : List Bin} {i : Nat} (h : inR (binAt L i).amount 0 100000 = false) : stockOk L i = false := by simp [stockOk, binOk, h]
theorem stockOk_reserved {L : List Bin} {i : Nat} (h : inR (binAt L i).reserved 0 (binAt L i).amount = false) : stockOk L i = false := by simp [stockOk, binOk, h]
theorem stockOk_point {L : List Bin} {i : Nat} (h : inR (binAt L i).point 0 100000 = false) : stockOk L i = false := by simp [stockOk, binOk, h]
theorem stockOk_lot {L : List Bin} {i : Nat} (h : inR (binAt L i).lot 1 100000 = false) : stockOk L i = false := by simp [stockOk, binOk, h]
theorem stockOk_up {L : List Bin} {i : Nat} (h0 : 0 < i) (h : Op.bytesLess (binAt L (i - 1)).code.toList (binAt L i).code.toList = false) : stockOk L i = false := by
  have : ¬ i = 0 := by omega
  simp [stockOk, binUp, codeLt, h, this]
theorem stockOk_good {L : List Bin} {i : Nat} (h1 : isWord (binAt L i).code = true) (h2 : inR (binAt L i).amount 0 100000 = true) (h3 : inR (binAt L i).reserved 0 (binAt L i).amount = true) (h4 : inR (binAt L i).point 0 100000 = true) (h5 : inR (binAt L i).lot 1 100000 = true)
    (h6 : 0 < i → Op.bytesLess (binAt L (i - 1)).code.toList (binAt L i).code.toList = true) : stockOk L i = true := by
  by_cases h0 : i = 0
  · subst h0; simp [stockOk, binOk, binUp, h1, h2, h3, h4, h5]
  · simp [stockOk, binOk, binUp, codeLt, h1, h2, h3, h4, h5, h6 (by omega)]

/-! ### The bin with a code -/
def binIx (L : List Bin) (c : ByteArray) : Option Nat := (List.range L.length).find? fun i => decide ((binAt L i).code = c)
theorem binIx_some {L : List Bin} {c : ByteArray} {i : Nat} : binIx L c = some i ↔ i < L.length ∧ (binAt L i).code = c ∧ ∀ j, j < i → (binAt L j).code ≠ c := by
  rw [binIx, List.find?_range_eq_some]
  simp only [decide_eq_true_eq, List.mem_range, Bool.not_eq_true', decide_eq_false_iff_not]
  constructor
  · rintro ⟨h1, h2, h3⟩; exact ⟨h2, h1, h3⟩
  · rintro ⟨h1, h2, h3⟩; exact ⟨h2, h1, h3⟩
theorem binIx_none {L : List Bin} {c : ByteArray} : binIx L c = none ↔ ∀ j, j < L.length → (binAt L j).code ≠ c := by
  rw [binIx, List.find?_range_eq_none]
  simp

/-! ### A bin changed -/
def binSet (L : List Bin) (i : Nat) (a r : Int) : List Bin := L.set i { binAt L i with amount := a, reserved := r }
theorem binSet_len (L : List Bin) (i : Nat) (a r : Int) : (binSet L i a r).length = L.length := by simp [binSet]
theorem binSet_at (L : List Bin) (i : Nat) (a r : Int) (j : Nat) (hi : i < L.length) : binAt (binSet L i a r) j = if j = i then { binAt L i with amount := a, reserved := r } else binAt L j := by
  unfold binSet binAt
  rw [List.getD_eq_getElem?_getD, List.getElem?_set]
  by_cases h : i = j
  · subst h; simp [hi]
  · simp [h, Ne.symm h, List.getD_eq_getElem?_getD]
theorem binSet_code (L : List Bin) (i : Nat) (a r : Int) (j : Nat) (hi : i < L.length) : (binAt (binSet L i a r) j).code = (binAt L j).code := by
  rw [binSet_at _ _ _ _ _ hi]; split
  · rename_i h; subst h; rfl
  · rfl
theorem binSet_ix (L : List Bin) (i : Nat) (a r : Int) (hi : i < L.length) (c : ByteArray) : binIx (binSet L i a r) c = binIx L c := by
  unfold binIx; rw [binSet_len]; congr 1; funext j; rw [binSet_code _ _ _ _ _ hi]
theorem binFit_set {L : List Bin} (h : binFit L) {i : Nat} (hi : i < L.length) (a r : Int) : binFit (binSet L i a r) := by
  intro j hj; rw [binSet_code _ _ _ _ _ hi]; exact h j (by rwa [binSet_len] at hj)
theorem binUp_set {L : List Bin} {i : Nat} (hi : i < L.length) (a r : Int) (j : Nat) : binUp (binSet L i a r) j = binUp L j := by
  unfold binUp; rw [binSet_code _ _ _ _ _ hi, binSet_code _ _ _ _ _ hi]
theorem isStock_set {L : List Bin} (h : isStock L = true) {i : Nat} (hi : i < L.length) {a r : Int} (ha : 0 ≤ r ∧ r ≤ a ∧ a ≤ 100000) : isStock (binSet L i a r) = true := by
  rw [isStock_iff, binSet_len]
  refine ⟨isStock_le h, fun j hj => ?_⟩
  have hs := (isStock_iff.1 h).2 j hj
  rw [stockOk, Bool.and_eq_true] at hs ⊢
  rw [binUp_set hi]
  refine ⟨?_, hs.2⟩
  rw [binSet_at _ _ _ _ _ hi]
  split
  · rename_i e; subst e
    have := binOk_iff.1 hs.1
    exact binOk_iff.2 ⟨this.1, by simp only; omega, by simp only; omega, this.2.2.2⟩
  · exact hs.1
theorem isStock_set_bad {L : List Bin} {i : Nat} (hi : i < L.length) {a r : Int} (ha : 100000 < a) : isStock (binSet L i a r) = false := by
  refine isStock_bad (i := i) (by rw [binSet_len]; exact hi) (stockOk_amount ?_)
  rw [binSet_at _ _ _ _ _ hi, if_pos rfl, inR_no]; exact .inr ha
theorem binSet_set (L : List Bin) (i : Nat) (a r a' r' : Int) (hi : i < L.length) : binSet (binSet L i a r) i a' r' = binSet L i a' r' := by
  unfold binSet
  have := binSet_at L i a r i hi
  unfold binSet at this
  rw [this, if_pos rfl, List.set_set]
theorem binSet_same (L : List Bin) (i : Nat) (hi : i < L.length) : binSet L i (binAt L i).amount (binAt L i).reserved = L := by
  unfold binSet
  rw [binAt_lt hi]; exact List.set_getElem_self hi
theorem binRow_set1 (r : Int) : ∀ (L : List Bin) (i : Nat), i < L.length → (binRow L).set (i * 5 + 1) (.int .i64 r) = binRow (binSet L i r (binAt L i).reserved) := by
  intro L
  induction L with
  | nil => intro i h; simp at h
  | cons a l ih =>
    intro i h
    cases i with
    | zero => rfl
    | succ i =>
      have h' := ih i (by simpa using h)
      rw [binRow_cons, show (i + 1) * 5 + 1 = i * 5 + 1 + 5 by omega]
      simp only [List.set_cons_succ, h']; rfl
theorem binRow_set2 (r : Int) : ∀ (L : List Bin) (i : Nat), i < L.length → (binRow L).set (i * 5 + 2) (.int .i64 r) = binRow (binSet L i (binAt L i).amount r) := by
  intro L
  induction L with
  | nil => intro i h; simp at h
  | cons a l ih =>
    intro i h
    cases i with
    | zero => rfl
    | succ i =>
      have h' := ih i (by simpa using h)
      rw [binRow_cons, show (i + 1) * 5 + 2 = i * 5 + 2 + 5 by omega]
      simp only [List.set_cons_succ, h']; rfl

/-! ### What the functions give -/
def binCode (L : List Bin) (c : ByteArray) (p : Int) : Int :=
  if isStock L = false then 1 else if inR p 1 100000 = false then 2 else if binIx L c = none then 4 else 0
theorem binCode_cases (L : List Bin) (c : ByteArray) (p : Int) :
    (isStock L = false ∧ binCode L c p = 1) ∨ (isStock L = true ∧ inR p 1 100000 = false ∧ binCode L c p = 2) ∨ (isStock L = true ∧ inR p 1 100000 = true ∧ binIx L c = none ∧ binCode L c p = 4) ∨
    (∃ i, isStock L = true ∧ inR p 1 100000 = true ∧ binIx L c = some i ∧ binCode L c p = 0) := by
  cases h1 : isStock L
  · exact .inl ⟨rfl, by simp [binCode, h1]⟩
  · cases h2 : inR p 1 100000
    · exact .inr (.inl ⟨rfl, rfl, by simp [binCode, h1, h2]⟩)
    · cases h3 : binIx L c
      · exact .inr (.inr (.inl ⟨rfl, rfl, rfl, by simp [binCode, h1, h2, h3]⟩))
      · exact .inr (.inr (.inr ⟨_, rfl, rfl, rfl, by simp [binCode, h1, h2, h3]⟩))
def ix (L : List Bin) (c : ByteArray) : Nat := (binIx L c).getD 0
def freePieces (L : List Bin) (c : ByteArray) : Int × Int :=
  if binCode L c 1 = 0 then ((binAt L (ix L c)).amount - (binAt L (ix L c)).reserved, 0) else (0, binCode L c 1)
def reserve (L : List Bin) (c : ByteArray) (p : Int) : List Bin × Int :=
  if binCode L c p = 0 then
    if (binAt L (ix L c)).amount - (binAt L (ix L c)).reserved < p then ([], 5) else (binSet L (ix L c) (binAt L (ix L c)).amount ((binAt L (ix L c)).reserved + p), 0)
  else ([], binCode L c p)
def release (L : List Bin) (c : ByteArray) (p : Int) : List Bin × Int :=
  if binCode L c p = 0 then
    if (binAt L (ix L c)).reserved < p then ([], 5) else (binSet L (ix L c) (binAt L (ix L c)).amount ((binAt L (ix L c)).reserved - p), 0)
  else ([], binCode L c p)
def usePieces (L : List Bin) (c : ByteArray) (p : Int) : List Bin × Int :=
  if binCode L c p = 0 then
    if (binAt L (ix L c)).reserved < p then ([], 5) else (binSet L (ix L c) ((binAt L (ix L c)).amount - p) ((binAt L (ix L c)).reserved - p), 0)
  else ([], binCode L c p)
def fillBin (L : List Bin) (c : ByteArray) (p : Int) : List Bin × Int :=
  if binCode L c p = 0 then
    if 100000 < (binAt L (ix L c)).amount + p then ([], 3) else (binSet L (ix L c) ((binAt L (ix L c)).amount + p) (binAt L (ix L c)).reserved, 0)
  else ([], binCode L c p)
theorem binCode_le {L : List Bin} {c : ByteArray} {p : Int} (h : binCode L c p = 0) : L.length ≤ 20 := by
  rcases binCode_cases L c p with ⟨_, e⟩ | ⟨_, _, e⟩ | ⟨_, _, _, e⟩ | ⟨i, h1, _, _, e⟩
  · omega
  · omega
  · omega
  · exact isStock_le h1
theorem reserve_len (L : List Bin) (c : ByteArray) (p : Int) : (reserve L c p).1.length ≤ 4194304 := by
  unfold reserve; split
  · have := binCode_le ‹_›
    split
    · simp
    · simp only [binSet_len]; omega
  · simp
theorem release_len (L : List Bin) (c : ByteArray) (p : Int) : (release L c p).1.length ≤ 4194304 := by
  unfold release; split
  · have := binCode_le ‹_›
    split
    · simp
    · simp only [binSet_len]; omega
  · simp
theorem usePieces_len (L : List Bin) (c : ByteArray) (p : Int) : (usePieces L c p).1.length ≤ 4194304 := by
  unfold usePieces; split
  · have := binCode_le ‹_›
    split
    · simp
    · simp only [binSet_len]; omega
  · simp
theorem fillBin_len (L : List Bin) (c : ByteArray) (p : Int) : (fillBin L c p).1.length ≤ 4194304 := by
  unfold fillBin; split
  · have := binCode_le ‹_›
    split
    · simp
    · simp only [binSet_len]; omega
  · simp

end Go.Proofs.Ytngphnfbfednnaa
