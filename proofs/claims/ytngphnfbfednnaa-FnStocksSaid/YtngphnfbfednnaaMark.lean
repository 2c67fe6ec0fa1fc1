/- The walk of laws.markText. -/
import Derived.Test.YtngphnfbfednnaaMem
import Derived.Laws.BytesString
namespace Go.Proofs.Ytngphnfbfednnaa
open Go.RowKit

/-- The digits of k ahead of out. -/
def mdig : Nat → Nat → List UInt8 → List UInt8
  | 0, _, out => out
  | f + 1, k, out => if k = 0 then out else mdig f (k / 10) ((48 + UInt8.ofNat (k % 10)) :: out)
/-- The text of a mark of at least 1. -/
def markS (k : Nat) : ByteArray := ⟨(109 :: mdig k k []).toArray⟩

theorem mdig_zero (f : Nat) (l : List UInt8) : mdig f 0 l = l := by cases f <;> rfl
theorem mdig_succ (f m : Nat) (l : List UInt8) (h : m ≠ 0) : mdig (f + 1) m l = mdig f (m / 10) ((48 + UInt8.ofNat (m % 10)) :: l) := by simp [mdig, h]
theorem str_cons (c : UInt8) (l : List UInt8) : (⟨#[c]⟩ : ByteArray) ++ ⟨l.toArray⟩ = ⟨(c :: l).toArray⟩ := by
  apply ByteArray.ext; simp
theorem retS {a b : ByteArray} (h : a = b) : Ending.returned (.string a) = .returned (.string b) := by rw [h]
theorem valS {a b : ByteArray} (h : a = b) : Value.string a = .string b := by rw [h]

/-- A slice of one new byte, as a string. -/
theorem conv_one (W : World) (n : Int) : (convert 46 9 (.slice (some ⟨W.heap.size, 0, none⟩) 1 1)).run Try.prog (W.alloc (.cells #[.int .u8 n] 5)) = .ok (.string ⟨#[UInt8.ofNat n.toNat]⟩) (W.alloc (.cells #[.int .u8 n] 5)) := by
  rw [run_convert_bytes_string _ _ _ 5 _ _ _ Try.underlying46 Try.underlying5 Try.underlying9]
  have h : (loadCells ⟨W.heap.size, 0, none⟩ 1).run Try.prog (W.alloc (.cells #[.int .u8 n] 5)) = .ok ([n].map (Value.int .u8)).toArray (W.alloc (.cells #[.int .u8 n] 5)) := by
    simp [go_sem]
  rw [run_bytesToString _ _ _ _ [n] h]
  rfl

set_option maxHeartbeats 400000 in
theorem markText_any (k : Nat) (w : World) (h1 : 1 ≤ k) (h2 : k ≤ 1099511627776) :
    Calls Try.prog 70 #[.int .i64 k] w fun e w' => e = .returned (.string (markS k)) ∧ Below w.heap.size w w' := by
  have t0 : decide (k = 0) = false := by simp; omega
  go_enter Try.func70, Try.ntmps70
  go_wp2
  go_loopw [0, 3] (fun v s wr => ∃ (f m : Nat) (l : List UInt8), m ≤ f ∧ l.length + m ≤ k ∧ mdig f m l = mdig k k [] ∧ v = .int .i64 m ∧ s = .string ⟨l.toArray⟩ ∧ Below w.heap.size w wr) (fun v _ _ => (intOf v).toNat)
  case atStart => exact ⟨k, k, [], Nat.le_refl _, by simp, rfl, rfl, rfl, Below.refl _ _⟩
  case round =>
    obtain ⟨f, m, l, hm, hl, he, rfl, rfl, hb⟩ := hrel
    have He := Lib.hid he
    clear he
    have hcv := conv_one
    have hsz := hb.size
    by_cases hlt : 0 < m
    · go_wp2
      go_roundw
      case rel =>
        obtain ⟨f, rfl⟩ : ∃ f', f = f' + 1 := ⟨f - 1, by omega⟩
        exact ⟨f, m / 10, (48 + UInt8.ofNat (m % 10)) :: l, by omega, by simp; omega, by rw [← He.out, mdig_succ _ _ _ (by omega)], by go_num, valS (str_cons _ _), hb.alloc hsz _⟩
      case measure => simp [intOf]; omega
    · go_wp2
      go_ret
      have hm0 : m = 0 := by omega
      subst hm0
      have h3 := He.out
      rw [mdig_zero] at h3
      exact ⟨retS (by rw [str_cons, markS, ← h3]), hb⟩

end Go.Proofs.Ytngphnfbfednnaa
