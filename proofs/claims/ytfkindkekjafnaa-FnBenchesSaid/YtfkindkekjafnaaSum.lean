/- The walks of total (program) and l01Sum (reference). -/
import Derived.Test.YtfkindkekjafnaaInts
import Derived.Test.YtfkindkekjafnaaBits
namespace Go.Proofs.Ytfkindkekjafnaa
open Go.RowKit

theorem sum_take (l : List Int) {k : Nat} (h : k < l.length) : (l.take (k + 1)).sum = (l.take k).sum + intsAt l k := by
  rw [take_snoc l 0 h, List.sum_append]; simp [intsAt]
theorem sum_bd {l : List Int} {M : Int} (hl : ∀ i, i < l.length → 0 ≤ intsAt l i ∧ intsAt l i ≤ M) (k : Nat) : 0 ≤ (l.take k).sum ∧ (l.take k).sum ≤ k * M ∨ M < 0 := by
  induction k with
  | zero => left; simp
  | succ k ih =>
    by_cases hM : M < 0
    · exact .inr hM
    · left
      rcases ih with ih | ih
      · by_cases hk : k < l.length
        · rw [sum_take l hk]
          have := hl k hk
          have e : ((k + 1 : Nat) : Int) * M = k * M + M := by rw [Int.natCast_add, Int.add_mul]; omega
          omega
        · rw [List.take_of_length_le (by omega)]
          rw [List.take_of_length_le (by omega)] at ih
          have e : ((k + 1 : Nat) : Int) * M = k * M + M := by rw [Int.natCast_add, Int.add_mul]; omega
          omega
      · exact absurd ih hM

set_option maxHeartbeats 400000 in
theorem implTotal_any (w : World) (l : List Int) (v : Value) (hv : Sl w 1 v l.length (intsRow l)) (hl : ∀ i, i < l.length → 0 ≤ intsAt l i ∧ intsAt l i ≤ 1000000000) (hn : l.length ≤ 1000000) :
    Calls Try.prog 65 #[v] w fun e w' => e = .returned (.int .i64 l.sum) ∧ w = w' := by
  obtain ⟨A, c, rfl, _, _, hr⟩ := hv
  have Hr := Lib.hid hr
  have Hl := Lib.hid hl
  clear hr hl
  go_enter Try.func65, Try.ntmps65
  go_wp2
  go_loop [3, 8] (fun s i => ∃ (k : Nat) (z : Int), k ≤ l.length ∧ i = .int .i64 k ∧ s = .int .i64 z ∧ z = (l.take k).sum) (fun _ i => l.length - (intOf i).toNat)
  case atStart => exact ⟨0, 0, Nat.zero_le _, rfl, rfl, rfl⟩
  case round =>
    obtain ⟨k, z, hk, rfl, rfl, hz⟩ := hrel
    have hbd : 0 ≤ z ∧ z ≤ 1000000000000000 := by
      rcases sum_bd Hl.out k with h | h
      · rw [← hz] at h
        have : (k : Int) * 1000000000 ≤ 1000000 * 1000000000 := Int.mul_le_mul_of_nonneg_right (by omega) (by omega)
        omega
      · omega
    have Hz := Lib.hid hz
    clear hz
    by_cases hlt : k < l.length
    · obtain ⟨g, o, rfl, hg, c0⟩ := Hr.out.ints hlt
      have hx := Hl.out k hlt
      go_wp2
      go_round
      case rel => exact ⟨k + 1, z + intsAt l k, by omega, by go_num, rfl, by rw [sum_take l hlt, ← Hz.out]⟩
      case measure => simp [intOf]; omega
    · go_wp2
      go_ret
      exact ⟨retI (by rw [Hz.out, List.take_of_length_le (by omega)]), rfl⟩

set_option maxHeartbeats 400000 in
theorem specSum_any (w : World) (l : List Int) (v : Value) (hv : Sl w 1 v l.length (intsRow l)) (hl : ∀ i, i < l.length → 0 ≤ intsAt l i ∧ intsAt l i ≤ 1000000000) (hn : l.length ≤ 1000000) :
    Calls Try.prog 63 #[v] w fun e w' => e = .returned (.int .i64 l.sum) ∧ w = w' := by
  obtain ⟨A, c, rfl, _, _, hr⟩ := hv
  have Hr := Lib.hid hr
  have Hl := Lib.hid hl
  clear hr hl
  go_enter Try.func63, Try.ntmps63
  go_wp2
  go_loop [3, 4] (fun s i => ∃ (k : Nat) (z : Int), k ≤ l.length ∧ i = .int .i64 k ∧ s = .int .i64 z ∧ z = (l.take k).sum) (fun _ i => l.length - (intOf i).toNat)
  case atStart => exact ⟨0, 0, Nat.zero_le _, rfl, rfl, rfl⟩
  case round =>
    obtain ⟨k, z, hk, rfl, rfl, hz⟩ := hrel
    have hbd : 0 ≤ z ∧ z ≤ 1000000000000000 := by
      rcases sum_bd Hl.out k with h | h
      · rw [← hz] at h
        have : (k : Int) * 1000000000 ≤ 1000000 * 1000000000 := Int.mul_le_mul_of_nonneg_right (by omega) (by omega)
        omega
      · omega
    have Hz := Lib.hid hz
    clear hz
    by_cases hlt : k < l.length
    · obtain ⟨g, o, rfl, hg, c0⟩ := Hr.out.ints hlt
      have hx := Hl.out k hlt
      go_wp2
      go_round
      case rel => exact ⟨k + 1, z + intsAt l k, by omega, by go_num, rfl, by rw [sum_take l hlt, ← Hz.out]⟩
      case measure => simp [intOf]; omega
    · go_wp2
      go_ret
      exact ⟨retI (by rw [Hz.out, List.take_of_length_le (by omega)]), rfl⟩

end Go.Proofs.Ytfkindkekjafnaa
