/- The walks of IsWord, in the program and in the reference. -/
import Derived.Test.YtngphnfbfednnaaBase
namespace Go.Proofs.Ytngphnfbfednnaa
open Go.RowKit

/-- A letter. -/
def letter (c : UInt8) : Bool := decide (97 ≤ (c.toNat : Int) ∧ (c.toNat : Int) ≤ 122)
/-- A word. -/
def isWord (s : ByteArray) : Bool := decide (1 ≤ s.size ∧ s.size ≤ 16) && s.data.toList.all letter

theorem isWord_len {s : ByteArray} (h : ¬ (1 ≤ s.size ∧ s.size ≤ 16)) : isWord s = false := by
  simp only [isWord, Bool.and_eq_false_iff]; exact .inl (by simpa using h)
theorem isWord_bad {s : ByteArray} {k : Nat} (hk : k < s.size) (h : (s[k].toNat : Int) < 97 ∨ 122 < (s[k].toNat : Int)) : isWord s = false := by
  simp only [isWord, Bool.and_eq_false_iff]
  refine .inr ?_
  rw [List.all_eq_false]
  refine ⟨s[k], List.mem_iff_getElem.2 ⟨k, by simpa using hk, rfl⟩, ?_⟩
  simp only [letter, decide_eq_true_eq]
  omega
theorem isWord_good {s : ByteArray} (h1 : 1 ≤ s.size) (h2 : s.size ≤ 16) (h : ∀ j, (hj : j < s.size) → letter s[j] = true) : isWord s = true := by
  simp only [isWord, Bool.and_eq_true, decide_eq_true_eq, List.all_eq_true]
  refine ⟨⟨h1, h2⟩, fun c hc => ?_⟩
  obtain ⟨j, hj, rfl⟩ := List.mem_iff_getElem.1 hc
  exact h j (by simpa using hj)

set_option maxHeartbeats 400000 in
theorem implWord_any (s : ByteArray) (w : World) (hs : s.size ≤ maxLen) :
    Calls Try.prog 62 #[.string s] w fun e w' => e = .returned (.bool (isWord s)) ∧ w = w' := by
  unfold maxLen at hs
  by_cases hlen : 1 ≤ s.size ∧ s.size ≤ 16
  · obtain ⟨l1, l2⟩ := hlen
    have t1 : decide ((s.size : Int) < 1) = false := by simp; omega
    have t2 : decide (16 < (s.size : Int)) = false := by simp; omega
    go_enter Try.func62, Try.ntmps62
    go_wp2
    go_loop [3] (fun i => ∃ k : Nat, k ≤ s.size ∧ i = .int .i64 k ∧ ∀ j, (hj : j < s.size) → j < k → letter s[j] = true) (fun i => s.size - (intOf i).toNat)
    case atStart => exact ⟨0, Nat.zero_le _, rfl, fun j _ h => absurd h (by omega)⟩
    case round =>
      obtain ⟨k, hk, rfl, hall⟩ := hrel
      have H := Lib.hid hall
      clear hall
      by_cases hlt : k < s.size
      · by_cases hb : (97 : Int) ≤ (s[k].toNat : Int)
        · have t3 : decide ((s[k].toNat : Int) < 97) = false := by simp; omega
          by_cases hc : (s[k].toNat : Int) ≤ 122
          · go_wp2
            go_round
            case rel => exact ⟨k + 1, by omega, by go_num, fun j hj h => by
              by_cases e : j = k
              · subst e; simp [letter, hb, hc]
              · exact H.out j hj (by omega)⟩
            case measure => simp [intOf]; omega
          · go_wp2
            go_ret
            exact ⟨retB (isWord_bad hlt (by omega)).symm, rfl⟩
        · go_wp2
          go_ret
          exact ⟨retB (isWord_bad hlt (by omega)).symm, rfl⟩
      · go_wp2
        go_ret
        exact ⟨retB (isWord_good l1 l2 (fun j hj => H.out j hj (by omega))).symm, rfl⟩
  · have e := isWord_len hlen
    by_cases h1 : s.size < 1
    · have t1 : decide ((s.size : Int) < 1) = true := by simp; omega
      go_enter Try.func62, Try.ntmps62
      go_wp2
      go_ret
      exact ⟨retB e.symm, rfl⟩
    · have t1 : decide ((s.size : Int) < 1) = false := by simp; omega
      have t2 : decide (16 < (s.size : Int)) = true := by simp; omega
      go_enter Try.func62, Try.ntmps62
      go_wp2
      go_ret
      exact ⟨retB e.symm, rfl⟩

set_option maxHeartbeats 400000 in
theorem specWord_any (s : ByteArray) (w : World) (hs : s.size ≤ maxLen) :
    Calls Try.prog 59 #[.string s] w fun e w' => e = .returned (.bool (isWord s)) ∧ w = w' := by
  unfold maxLen at hs
  go_enter Try.func59, Try.ntmps59
  go_wp2
  go_loop [3] (fun i => ∃ k : Nat, k ≤ s.size ∧ i = .int .i64 k ∧ ∀ j, (hj : j < s.size) → j < k → letter s[j] = true) (fun i => s.size - (intOf i).toNat)
  case atStart => exact ⟨0, Nat.zero_le _, rfl, fun j _ h => absurd h (by omega)⟩
  case round =>
    obtain ⟨k, hk, rfl, hall⟩ := hrel
    have H := Lib.hid hall
    clear hall
    by_cases hlt : k < s.size
    · by_cases hb : (97 : Int) ≤ (s[k].toNat : Int)
      · have t3 : decide ((s[k].toNat : Int) < 97) = false := by simp; omega
        by_cases hc : (s[k].toNat : Int) ≤ 122
        · go_wp2
          go_round
          case rel => exact ⟨k + 1, by omega, by go_num, fun j hj h => by
            by_cases e : j = k
            · subst e; simp [letter, hb, hc]
            · exact H.out j hj (by omega)⟩
          case measure => simp [intOf]; omega
        · go_wp2
          go_ret
          exact ⟨retB (isWord_bad hlt (by omega)).symm, rfl⟩
      · go_wp2
        go_ret
        exact ⟨retB (isWord_bad hlt (by omega)).symm, rfl⟩
    · have hfin : inR (s.size : Int) 1 16 = isWord s := by
        by_cases hl : 1 ≤ s.size ∧ s.size ≤ 16
        · rw [isWord_good hl.1 hl.2 (fun j hj => H.out j hj (by omega))]; simp [inR]; omega
        · rw [isWord_len hl]; simp [inR]; omega
      have F := Lib.hid hfin
      clear hfin
      go_wp2_with (go_at_call 60; refine (l01In_any _ _ _ _).mono ?_; rintro e w2 ⟨rfl, rfl⟩)
      go_ret
      exact ⟨retB F.out, rfl⟩

end Go.Proofs.Ytngphnfbfednnaa
