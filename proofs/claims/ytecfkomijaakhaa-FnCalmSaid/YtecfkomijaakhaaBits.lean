/- Masks of small indices: Go's shifts, and, or on int, as the walk writes them. -/
import Derived.Test.YtecfkomijaakhaaInts
import Derived.Laws.BitsAllLaws
import Derived.Laws.BitsLemmas
namespace Go.Proofs.Ytecfkomijaakhaa
open Go.RowKit

theorem take_snoc {α : Type} (l : List α) (d : α) {k : Nat} (h : k < l.length) : l.take (k + 1) = l.take k ++ [l.getD k d] := by
  rw [List.take_succ_eq_append_getElem h]; simp [List.getD, h]
/-! ### Masks of small indices -/
theorem i64_of_nat (a : Nat) (ha : a < 9223372036854775808) : (BitVec.ofInt 64 (a : Int)).toNat = a := by
  rw [BitVec.ofInt_natCast, BitVec.toNat_ofNat]; exact Nat.mod_eq_of_lt (by omega)
theorem bits_and (a b : Nat) (ha : a < 9223372036854775808) (hb : b < 9223372036854775808) : bits .and .i64 (a : Int) (b : Int) = ((a &&& b : Nat) : Int) := by
  have hx : a &&& b < 2 ^ 63 := Nat.and_lt_two_pow _ (by omega)
  show IntKind.i64.wrap ((BitVec.ofInt 64 (a : Int) &&& BitVec.ofInt 64 (b : Int)).toNat : Int) = _
  rw [BitVec.toNat_and, i64_of_nat a ha, i64_of_nat b hb, IntKind.wrap_i64]
  omega
theorem bits_or (a b : Nat) (ha : a < 9223372036854775808) (hb : b < 9223372036854775808) : bits .or .i64 (a : Int) (b : Int) = ((a ||| b : Nat) : Int) := by
  have hx : a ||| b < 2 ^ 63 := Nat.or_lt_two_pow (by omega) (by omega)
  show IntKind.i64.wrap ((BitVec.ofInt 64 (a : Int) ||| BitVec.ofInt 64 (b : Int)).toNat : Int) = _
  rw [BitVec.toNat_or, i64_of_nat a ha, i64_of_nat b hb, IntKind.wrap_i64]
  omega
/-- The mask of the first k of a list of indices. -/
def maskOf (P : List Int) : Nat := P.foldl (fun m p => m ||| 2 ^ p.toNat) 0
theorem maskOf_snoc (P : List Int) (p : Int) : maskOf (P ++ [p]) = maskOf P ||| 2 ^ p.toNat := by simp [maskOf]
theorem maskOf_take (P : List Int) {k : Nat} (h : k < P.length) : maskOf (P.take (k + 1)) = maskOf (P.take k) ||| 2 ^ (intsAt P k).toNat := by
  rw [take_snoc P 0 h, maskOf_snoc]; rfl
theorem testBit_foldl (P : List Int) : ∀ (m b : Nat), (P.foldl (fun m p => m ||| 2 ^ p.toNat) m).testBit b = (m.testBit b || P.any fun p => decide (p.toNat = b)) := by
  induction P with
  | nil => intro m b; simp
  | cons p ps ih => intro m b; simp only [List.foldl_cons, ih, Nat.testBit_or, Nat.testBit_two_pow, List.any_cons, Bool.or_assoc]
theorem maskOf_test (P : List Int) (b : Nat) : (maskOf P).testBit b = P.any fun p => decide (p.toNat = b) := by rw [maskOf, testBit_foldl]; simp
theorem maskOf_lt {n : Nat} : ∀ (P : List Int), (∀ p ∈ P, p.toNat < n) → maskOf P < 2 ^ n := by
  have key : ∀ (P : List Int) (m : Nat), m < 2 ^ n → (∀ p ∈ P, p.toNat < n) → P.foldl (fun m p => m ||| 2 ^ p.toNat) m < 2 ^ n := by
    intro P
    induction P with
    | nil => intro m hm _; exact hm
    | cons p ps ih =>
      intro m hm hp
      exact ih _ (Nat.or_lt_two_pow hm (Nat.pow_lt_pow_right (by omega) (hp p (by simp)))) (fun q hq => hp q (by simp [hq]))
  intro P hp
  exact key P 0 (Nat.two_pow_pos n) hp
theorem and_pow_ne (m b : Nat) : m &&& 2 ^ b = if m.testBit b then 2 ^ b else 0 := by
  apply Nat.eq_of_testBit_eq
  intro i
  rw [Nat.testBit_and, Nat.testBit_two_pow]
  by_cases h : b = i
  · subst h; cases hb : m.testBit b <;> simp [Nat.testBit_two_pow]
  · cases hb : m.testBit b <;> simp [h, Nat.testBit_two_pow]

theorem wrap_pow {b : Nat} (hb : b < 62) : wrap64 ((2 : Int) ^ b) = ((2 ^ b : Nat) : Int) := by
  have h1 : (2 : Nat) ^ b < 2 ^ 62 := Nat.pow_lt_pow_right (by omega) hb
  have h2 : ((2 : Int) ^ b) = ((2 ^ b : Nat) : Int) := by simp
  rw [h2]
  generalize (2 : Nat) ^ b = x at h1
  exact IntWalk.wrap64_in _ ⟨by omega, by omega⟩
theorem mask_no {m b : Nat} (hm : m < 4611686018427387904) (hb : b < 62) (h : m.testBit b = false) : (bits BinOp.and IntKind.i64 (m : Int) (wrap64 ((2 : Int) ^ b)) != 0) = false := by
  have h1 : (2 : Nat) ^ b < 2 ^ 62 := Nat.pow_lt_pow_right (by omega) hb
  rw [wrap_pow hb, bits_and m _ (by omega) (by omega), and_pow_ne, h]; simp
theorem mask_yes {m b : Nat} (hm : m < 4611686018427387904) (hb : b < 62) (h : m.testBit b = true) : (bits BinOp.and IntKind.i64 (m : Int) (wrap64 ((2 : Int) ^ b)) != 0) = true := by
  have h1 : (2 : Nat) ^ b < 2 ^ 62 := Nat.pow_lt_pow_right (by omega) hb
  have h2 : 0 < (2 : Nat) ^ b := Nat.two_pow_pos b
  rw [wrap_pow hb, bits_and m _ (by omega) (by omega), and_pow_ne, h, if_pos rfl]
  simp only [bne_iff_ne]; omega
theorem mask_or {m b : Nat} (hm : m < 4611686018427387904) (hb : b < 62) : bits BinOp.or IntKind.i64 (m : Int) (wrap64 ((2 : Int) ^ b)) = ((m ||| 2 ^ b : Nat) : Int) := by
  have h1 : (2 : Nat) ^ b < 2 ^ 62 := Nat.pow_lt_pow_right (by omega) hb
  rw [wrap_pow hb, bits_or m _ (by omega) (by omega)]
theorem valI {a b : Int} (h : a = b) : Value.int .i64 a = .int .i64 b := by rw [h]

end Go.Proofs.Ytecfkomijaakhaa
