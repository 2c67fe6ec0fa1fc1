/- What every great law begins with: big; likeInts. -/
import Derived.Test.YtecfkomijaakhaaCode
namespace Go.Proofs.Ytecfkomijaakhaa
open Go.ChangeShapes Go.WideShapes Go.ChangeAt Go.RowKit Go.Deep

set_option maxHeartbeats 400000 in
theorem big_any (w : World) (A : Option Addr) (n c : Nat) (hn : n ≤ c) (hc : c ≤ maxLen) : Calls Try.prog 44 #[.slice A n c] w fun e w' => e = .returned (.bool (decide (4096 < (n : Int)))) ∧ w = w' := by
  unfold maxLen at hc
  go_enter Try.func44, Try.ntmps44
  go_wp2
  go_ret
  exact ⟨rfl, rfl⟩

set_option maxHeartbeats 800000 in
theorem likeInts_same (l : List Int) (v v' : Value) (w : World) (hv : Sl w 1 v l.length (intsRow l)) (hv' : Sl w 1 v' l.length (intsRow l)) (hn : l.length ≤ 4194304) :
    Calls Try.prog 47 #[v, v'] w fun e w' => e = .returned (.bool true) ∧ Below w.heap.size w w' := by
  obtain ⟨A, c, rfl, hl, hc, hr⟩ := hv
  obtain ⟨A', c', rfl, hl', hc', hr'⟩ := hv'
  have Hr := Lib.hid hr
  have Hr' := Lib.hid hr'
  clear hr hr' hl hl' hc hc'
  go_enter Try.func47, Try.ntmps47
  go_wp2
  go_loopw [5] (fun i wr => ∃ k : Nat, k ≤ l.length ∧ i = .int .i64 k ∧ Below w.heap.size w wr) (fun i _ => l.length - (intOf i).toNat)
  case atStart => exact ⟨0, Nat.zero_le _, rfl, Below.refl _ _⟩
  case round =>
    obtain ⟨k, hk, rfl, hb⟩ := hrel
    by_cases hlt : k < l.length
    · obtain ⟨g, o, rfl, hg, c0⟩ := (Hr.out.below hb (Nat.le_refl _)).ints hlt
      obtain ⟨g', o', rfl, hg', c0'⟩ := (Hr'.out.below hb (Nat.le_refl _)).ints hlt
      have i0 : (0 : Int) ≤ (k : Int) := Int.natCast_nonneg _
      have i1 : (k : Int) < (l.length : Int) := by omega
      go_wp2
      go_quiet (fail)
      go_wp2
      go_roundw
      case rel => exact ⟨k + 1, by omega, by go_num, below_drewN hb _⟩
      case measure => simp [intOf]; omega
    · go_wp2
      go_ret
      exact ⟨rfl, hb⟩

end Go.Proofs.Ytecfkomijaakhaa
