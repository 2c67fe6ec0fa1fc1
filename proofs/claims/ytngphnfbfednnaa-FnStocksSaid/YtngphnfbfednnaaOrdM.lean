/- OrderList: what it gives; the walks. Printed by gen_stockf.py. -/
import Derived.Test.YtngphnfbfednnaaStockC
import Derived.Test.YtngphnfbfednnaaBits
namespace Go.Proofs.Ytngphnfbfednnaa
open Go.RowKit

/-- A quotient, rounded up. -/
def ceilI (a b : Int) : Int := (a + b - 1) / b
theorem ceil_neg {a b : Int} (hb : 0 < b) : ceilI a b = -((-a) / b) := by
  have h1 := Int.mul_ediv_add_emod (-a) b
  have h2 := Int.emod_nonneg (-a) (show b ≠ 0 by omega)
  have h3 := Int.emod_lt_of_pos (-a) hb
  have e : a + b - 1 = (b - 1 - (-a) % b) + b * (-((-a) / b)) := by
    rw [Int.mul_neg]; omega
  rw [ceilI, e, Int.add_mul_ediv_left _ _ (by omega : b ≠ 0), Int.ediv_eq_zero_of_lt (by omega) (by omega)]; omega
theorem ceil_bd {a b : Int} (ha : 0 < a) (hb : 0 < b) : 0 ≤ ceilI a b ∧ ceilI a b ≤ a ∧ 0 ≤ ceilI a b * b ∧ ceilI a b * b ≤ a + b := by
  have h1 := Int.mul_ediv_add_emod (a + b - 1) b
  have h2 := Int.emod_nonneg (a + b - 1) (show b ≠ 0 by omega)
  have h3 := Int.emod_lt_of_pos (a + b - 1) hb
  have h4 : 0 ≤ ceilI a b := Int.ediv_nonneg (by omega) (by omega)
  rw [show (a + b - 1) / b = ceilI a b from rfl, Int.mul_comm] at h1
  have h5 : 0 ≤ ceilI a b * b := Int.mul_nonneg h4 (by omega)
  refine ⟨h4, ?_, h5, by omega⟩
  have h6 : (ceilI a b - 1) * b < a := by rw [Int.sub_mul]; omega
  by_cases h7 : ceilI a b ≤ 1
  · omega
  · have h8 : (ceilI a b - 1) * 1 ≤ (ceilI a b - 1) * b := Int.mul_le_mul_of_nonneg_left (by omega) (by omega)
    omega
set_option maxHeartbeats 400000 in
theorem implCeil_any (a b : Int) (w : World) (ha : 0 < a ∧ a ≤ 1000000000000) (hb : 0 < b ∧ b ≤ 1000000000000) :
    Calls Try.prog 76 #[.int .i64 a, .int .i64 b] w fun e w' => e = .returned (.int .i64 (ceilI a b)) ∧ w = w' := by
  obtain ⟨h1, h2⟩ := ha
  obtain ⟨h3, h4⟩ := hb
  go_enter Try.func76, Try.ntmps76
  go_wp2
  go_ret
  exact ⟨rfl, rfl⟩
theorem tfloor {a b : Int} (ha : 0 < a) (hb : 0 < b) : (0 < a % b → -a.tdiv b - 1 = (-a) / b) ∧ (¬ 0 < a % b → -a.tdiv b = (-a) / b) := by
  have e3 : a.tdiv b = a / b := Int.tdiv_eq_ediv_of_nonneg (by omega)
  rw [e3]
  have h1 := Int.mul_ediv_add_emod a b
  have h2 := Int.emod_nonneg a (show b ≠ 0 by omega)
  have h3 := Int.emod_lt_of_pos a hb
  have h4 := Int.mul_ediv_add_emod (-a) b
  have h5 := Int.emod_nonneg (-a) (show b ≠ 0 by omega)
  have h6 := Int.emod_lt_of_pos (-a) hb
  constructor
  · intro h
    have e : -a = (b - a % b) + b * (-(a / b) - 1) := by rw [Int.mul_sub, Int.mul_neg]; omega
    rw [e, Int.add_mul_ediv_left _ _ (by omega : b ≠ 0), Int.ediv_eq_zero_of_lt (a := b - a % b) (b := b) (by omega) (by omega)]; omega
  · intro h
    have h0 : a % b = 0 := by omega
    have e : -a = b * (-(a / b)) := by rw [Int.mul_neg]; omega
    rw [e, Int.mul_ediv_cancel_left _ (by omega : b ≠ 0)]
set_option maxHeartbeats 800000 in
theorem specFloor_any (a b : Int) (w : World) (ha : 0 < a ∧ a ≤ 1000000000000) (hb : 0 < b ∧ b ≤ 1000000000000) :
    Calls Try.prog 82 #[.int .i64 (-a), .int .i64 b] w fun e w' => e = .returned (.int .i64 ((-a) / b)) ∧ w = w' := by
  obtain ⟨h1, h2⟩ := ha
  obtain ⟨h3, h4⟩ := hb
  have H := Lib.hid (tfloor h1 h3)
  have hq : 0 ≤ a.tdiv b ∧ a.tdiv b ≤ 1000000000000 := by
    rw [Int.tdiv_eq_ediv_of_nonneg (by omega)]
    have e1 := Int.ediv_nonneg (show 0 ≤ a by omega) (show 0 ≤ b by omega)
    have e2 := Int.ediv_le_self b (show 0 ≤ a by omega)
    omega
  obtain ⟨q1, q2⟩ := hq
  by_cases hm : 0 < a % b
  · have E := Lib.hid (H.out.1 hm)
    have t1 : decide (0 < a % b) = true := by simpa using hm
    go_enter Try.func82, Try.ntmps82
    go_wp2
    go_ret
    exact ⟨retI E.out, rfl⟩
  · have E := Lib.hid (H.out.2 hm)
    have t1 : decide (0 < a % b) = false := by simpa using hm
    go_enter Try.func82, Try.ntmps82
    go_wp2
    go_ret
    exact ⟨retI E.out, rfl⟩
set_option maxHeartbeats 800000 in
theorem specCeil_any (a b : Int) (w : World) (ha : 0 < a ∧ a ≤ 1000000000000) (hb : 0 < b ∧ b ≤ 1000000000000) :
    Calls Try.prog 77 #[.int .i64 a, .int .i64 b] w fun e w' => e = .returned (.int .i64 (ceilI a b)) ∧ w = w' := by
  have E := Lib.hid (ceil_neg (a := a) hb.1)
  have hbd := ceil_bd ha.1 hb.1
  rw [E.out] at hbd
  obtain ⟨c1, c2, _⟩ := hbd
  obtain ⟨h1, h2⟩ := ha
  obtain ⟨h3, h4⟩ := hb
  have h5 : -1000000000000 ≤ (-a) / b := by omega
  have h6 : (-a) / b ≤ 0 := by omega
  clear c1 c2
  go_enter Try.func77, Try.ntmps77
  go_wp2_with fail
  refine (specFloor_any a b w ⟨h1, h2⟩ ⟨h3, h4⟩).mono ?_
  rintro e w' ⟨rfl, rfl⟩
  go_wp2
  go_ret
  exact ⟨retI E.out.symm, rfl⟩

/-! ### What is ordered -/
def lacks (b : Bin) : Int := b.point - (b.amount - b.reserved)
def wants (b : Bin) : Bool := decide (0 < lacks b)
def ordCodes (L : List Bin) : List ByteArray := (L.filter wants).map (·.code)
def ordPieces (L : List Bin) : List Int := (L.filter wants).map fun b => ceilI (lacks b) b.lot * b.lot
def orderList (L : List Bin) : List ByteArray × List Int × Int := if isStock L = false then ([], [], 1) else (ordCodes L, ordPieces L, 0)
theorem ordCodes_le (L : List Bin) : (ordCodes L).length ≤ L.length := by simp [ordCodes, List.length_filter_le]
theorem ordPieces_le (L : List Bin) : (ordPieces L).length ≤ L.length := by simp [ordPieces, List.length_filter_le]
theorem orderList_len (L : List Bin) : (orderList L).1.length ≤ 4194304 ∧ (orderList L).2.1.length ≤ 4194304 := by
  unfold orderList; split
  · simp
  · rename_i h
    have := isStock_le (L := L) (by simpa using h)
    have := ordCodes_le L
    have := ordPieces_le L
    simp only; omega
theorem bin_snoc (L : List Bin) {k : Nat} (h : k < L.length) : L.take (k + 1) = L.take k ++ [binAt L k] := take_snoc L default h
theorem ord_yes (L : List Bin) {k : Nat} (h : k < L.length) (hw : 0 < lacks (binAt L k)) : ordCodes (L.take (k + 1)) = ordCodes (L.take k) ++ [(binAt L k).code] ∧ ordPieces (L.take (k + 1)) = ordPieces (L.take k) ++ [ceilI (lacks (binAt L k)) (binAt L k).lot * (binAt L k).lot] := by
  rw [bin_snoc L h]
  simp [ordCodes, ordPieces, List.filter_append, wants, hw]
theorem ord_no (L : List Bin) {k : Nat} (h : k < L.length) (hw : ¬ 0 < lacks (binAt L k)) : ordCodes (L.take (k + 1)) = ordCodes (L.take k) ∧ ordPieces (L.take (k + 1)) = ordPieces (L.take k) := by
  rw [bin_snoc L h]
  simp [ordCodes, ordPieces, List.filter_append, wants, hw]
theorem apart_append {u v v' : Value} {a : Nat} {w : World} (h : u.ownBlock = none ∨ u.ownBlock ≠ v.ownBlock) (hu : ∀ k, u.ownBlock = some k → a ≤ k ∧ k < w.heap.size) (hor : v'.ownBlock = v.ownBlock ∨ v'.ownBlock = some w.heap.size) : u.ownBlock = none ∨ u.ownBlock ≠ v'.ownBlock := by
  rcases hor with e | e
  · rw [e]; exact h
  · cases hu' : u.ownBlock with
    | none => exact .inl rfl
    | some k => exact .inr (by rw [e]; have := (hu k hu').2; simp; omega)

end Go.Proofs.Ytngphnfbfednnaa
