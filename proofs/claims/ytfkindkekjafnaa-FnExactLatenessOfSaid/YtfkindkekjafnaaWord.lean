/- The walks of the small functions of chapter 1: within, l01In, IsWord (program and reference). -/
import Derived.Test.YtfkindkekjafnaaRows
import Derived.WalkKit
import Derived.WalkSpells
import Derived.WalkLawsBesides
import Derived.Lib.Hide
import Derived.BigQuiet
import Derived.Deep.QuietTactic
namespace Go.Proofs.Ytfkindkekjafnaa
open Go.RowKit

/-- n lies in a range. -/
def inR (n lo hi : Int) : Bool := decide (lo ≤ n ∧ n ≤ hi)

theorem within_any (n lo hi : Int) (w : World) :
    Calls Try.prog 56 #[.int .i64 n, .int .i64 lo, .int .i64 hi] w fun e w' => e = .returned (.bool (inR n lo hi)) ∧ w = w' := by
  by_cases h1 : lo ≤ n <;> by_cases h2 : n ≤ hi
  all_goals
    go_enter Try.func56, Try.ntmps56
    go_wp2
    go_ret
    exact ⟨by simp [inR]; omega, rfl⟩

theorem l01In_any (n lo hi : Int) (w : World) :
    Calls Try.prog 54 #[.int .i64 n, .int .i64 lo, .int .i64 hi] w fun e w' => e = .returned (.bool (inR n lo hi)) ∧ w = w' := by
  by_cases h1 : lo ≤ n <;> by_cases h2 : n ≤ hi
  all_goals
    go_enter Try.func54, Try.ntmps54
    go_wp2
    go_ret
    exact ⟨by simp [inR]; omega, rfl⟩

theorem retB {a b : Bool} (h : a = b) : Ending.returned (.bool a) = .returned (.bool b) := by rw [h]
theorem retI {a b : Int} (h : a = b) : Ending.returned (.int .i64 a) = .returned (.int .i64 b) := by rw [h]
/-! ### Go's == on strings, as the walk writes it -/
theorem toList_loop (s : ByteArray) : ∀ (n i : Nat) (r : List UInt8), s.size - i = n → i ≤ s.size → ByteArray.toList.loop s i r = r.reverse ++ s.data.toList.drop i := by
  intro n
  induction n with
  | zero =>
    intro i r h hi
    unfold ByteArray.toList.loop
    rw [if_neg (by omega), List.drop_of_length_le (by simp; omega)]; simp
  | succ n ih =>
    intro i r h hi
    unfold ByteArray.toList.loop
    have hlt : i < s.size := by omega
    rw [if_pos hlt, ih (i+1) _ (by omega) (by omega)]
    have : s.data.toList.drop i = s.get! i :: s.data.toList.drop (i+1) := by
      rw [List.drop_eq_getElem_cons (by simpa using hlt)]
      congr 1
      simp [ByteArray.get!]
      rw [getElem!_pos]
    rw [this]; simp
theorem toList_data (s : ByteArray) : s.toList = s.data.toList := by
  unfold ByteArray.toList; rw [toList_loop s _ 0 [] rfl (Nat.zero_le _)]; simp
theorem beq_str_of {a b : ByteArray} (h : a = b) : (a.toList == b.toList) = true := by rw [h]; simp
theorem beq_str_ne {a b : ByteArray} (h : a ≠ b) : (a.toList == b.toList) = false := by
  rw [toList_data, toList_data]
  have h2 : a.data.toList ≠ b.data.toList := fun e => h (by cases a; cases b; simp at e; rw [e])
  simpa using h2
/-- A letter. -/
def letter (c : UInt8) : Bool := decide (97 ≤ (c.toNat : Int) ∧ (c.toNat : Int) ≤ 122)
/-- A word. -/
def isWord (s : ByteArray) : Bool := decide (1 ≤ s.size ∧ s.size ≤ 16) && s.data.toList.all letter

theorem isWord_len {s : ByteArray} (h : ¬ (1 ≤ s.size ∧ s.size ≤ 16)) : isWord s = false := by
  simp only [isWord, Bool.and_eq_false_iff]; exact .inl (by simpa using h)
theorem isWord_bad {s : ByteArray} {k : Nat} (hk : k < s.size) (h : (s[k].toNat : Int) < 97 ∨ 122 < (s[k].toNat : Int)) : isWord s = false := by
  simp only [isWord, Bool.and_eq_false_iff]
  refine .inr ?_
  rw [List.all_eq_false]
  refine ⟨s[k], List.mem_iff_getElem.2 ⟨k, by simpa using hk, rfl⟩, ?_⟩
  simp only [letter, decide_eq_true_eq]
  omega
theorem isWord_good {s : ByteArray} (h1 : 1 ≤ s.size) (h2 : s.size ≤ 16) (h : ∀ j, (hj : j < s.size) → letter s[j] = true) : isWord s = true := by
  simp only [isWord, Bool.and_eq_true, decide_eq_true_eq, List.all_eq_true]
  refine ⟨⟨h1, h2⟩, fun c hc => ?_⟩
  obtain ⟨j, hj, rfl⟩ := List.mem_iff_getElem.1 hc
  exact h j (by simpa using hj)

set_option maxHeartbeats 400000 in
theorem implWord_any (s : ByteArray) (w : World) (hs : s.size ≤ maxLen) :
    Calls Try.prog 55 #[.string s] w fun e w' => e = .returned (.bool (isWord s)) ∧ w = w' := by
  unfold maxLen at hs
  by_cases hlen : 1 ≤ s.size ∧ s.size ≤ 16
  · obtain ⟨l1, l2⟩ := hlen
    have t1 : decide ((s.size : Int) < 1) = false := by simp; omega
    have t2 : decide (16 < (s.size : Int)) = false := by simp; omega
    go_enter Try.func55, Try.ntmps55
    go_wp2
    go_loop [3] (fun i => ∃ k : Nat, k ≤ s.size ∧ i = .int .i64 k ∧ ∀ j, (hj : j < s.size) → j < k → letter s[j] = true) (fun i => s.size - (intOf i).toNat)
    case atStart => exact ⟨0, Nat.zero_le _, rfl, fun j _ h => absurd h (by omega)⟩
    case round =>
      obtain ⟨k, hk, rfl, hall⟩ := hrel
      have H := Lib.hid hall
      clear hall
      by_cases hlt : k < s.size
      · by_cases hb : (97 : Int) ≤ (s[k].toNat : Int)
        · have t3 : decide ((s[k].toNat : Int) < 97) = false := by simp; omega
          by_cases hc : (s[k].toNat : Int) ≤ 122
          · go_wp2
            go_round
            case rel => exact ⟨k + 1, by omega, by go_num, fun j hj h => by
              by_cases e : j = k
              · subst e; simp [letter, hb, hc]
              · exact H.out j hj (by omega)⟩
            case measure => simp [intOf]; omega
          · go_wp2
            go_ret
            exact ⟨retB (isWord_bad hlt (by omega)).symm, rfl⟩
        · go_wp2
          go_ret
          exact ⟨retB (isWord_bad hlt (by omega)).symm, rfl⟩
      · go_wp2
        go_ret
        exact ⟨retB (isWord_good l1 l2 (fun j hj => H.out j hj (by omega))).symm, rfl⟩
  · have e := isWord_len hlen
    by_cases h1 : s.size < 1
    · have t1 : decide ((s.size : Int) < 1) = true := by simp; omega
      go_enter Try.func55, Try.ntmps55
      go_wp2
      go_ret
      exact ⟨retB e.symm, rfl⟩
    · have t1 : decide ((s.size : Int) < 1) = false := by simp; omega
      have t2 : decide (16 < (s.size : Int)) = true := by simp; omega
      go_enter Try.func55, Try.ntmps55
      go_wp2
      go_ret
      exact ⟨retB e.symm, rfl⟩

set_option maxHeartbeats 400000 in
theorem specWord_any (s : ByteArray) (w : World) (hs : s.size ≤ maxLen) :
    Calls Try.prog 53 #[.string s] w fun e w' => e = .returned (.bool (isWord s)) ∧ w = w' := by
  unfold maxLen at hs
  go_enter Try.func53, Try.ntmps53
  go_wp2
  go_loop [3] (fun i => ∃ k : Nat, k ≤ s.size ∧ i = .int .i64 k ∧ ∀ j, (hj : j < s.size) → j < k → letter s[j] = true) (fun i => s.size - (intOf i).toNat)
  case atStart => exact ⟨0, Nat.zero_le _, rfl, fun j _ h => absurd h (by omega)⟩
  case round =>
    obtain ⟨k, hk, rfl, hall⟩ := hrel
    have H := Lib.hid hall
    clear hall
    by_cases hlt : k < s.size
    · by_cases hb : (97 : Int) ≤ (s[k].toNat : Int)
      · have t3 : decide ((s[k].toNat : Int) < 97) = false := by simp; omega
        by_cases hc : (s[k].toNat : Int) ≤ 122
        · go_wp2
          go_round
          case rel => exact ⟨k + 1, by omega, by go_num, fun j hj h => by
            by_cases e : j = k
            · subst e; simp [letter, hb, hc]
            · exact H.out j hj (by omega)⟩
          case measure => simp [intOf]; omega
        · go_wp2
          go_ret
          exact ⟨retB (isWord_bad hlt (by omega)).symm, rfl⟩
      · go_wp2
        go_ret
        exact ⟨retB (isWord_bad hlt (by omega)).symm, rfl⟩
    · have hfin : inR (s.size : Int) 1 16 = isWord s := by
        by_cases hl : 1 ≤ s.size ∧ s.size ≤ 16
        · rw [isWord_good hl.1 hl.2 (fun j hj => H.out j hj (by omega))]; simp [inR]; omega
        · rw [isWord_len hl]; simp [inR]; omega
      have F := Lib.hid hfin
      clear hfin
      go_wp2_with (go_at_call 54; refine (l01In_any _ _ _ _).mono ?_; rintro e w2 ⟨rfl, rfl⟩)
      go_ret
      exact ⟨retB F.out, rfl⟩

end Go.Proofs.Ytfkindkekjafnaa
