/- The walk of the laws' own likeBins. -/
import Derived.Test.YtngphnfbfednnaaGreat
import Derived.Test.YtngphnfbfednnaaBinS
namespace Go.Proofs.Ytngphnfbfednnaa
open Go.ChangeShapes Go.WideShapes Go.ChangeAt Go.RowKit Go.Deep

set_option maxHeartbeats 1600000 in
theorem likeBins_same (L : List Bin) (v v' : Value) (w : World) (hv : Sl w 5 v L.length (binRow L)) (hv' : Sl w 5 v' L.length (binRow L)) (hn : L.length ≤ 4194304) :
    Calls Try.prog 49 #[v, v'] w fun e w' => e = .returned (.bool true) ∧ Below w.heap.size w w' := by
  obtain ⟨A, c, rfl, hl, hc, hr⟩ := hv
  obtain ⟨A', c', rfl, hl', hc', hr'⟩ := hv'
  have Hr := Lib.hid hr
  have Hr' := Lib.hid hr'
  clear hr hr' hl hl' hc hc'
  go_enter Try.func49, Try.ntmps49
  go_wp2
  go_loopw [5] (fun i wr => ∃ k : Nat, k ≤ L.length ∧ i = .int .i64 k ∧ Below w.heap.size w wr) (fun i _ => L.length - (intOf i).toNat)
  case atStart => exact ⟨0, Nat.zero_le _, rfl, Below.refl _ _⟩
  case round =>
    obtain ⟨k, hk, rfl, hb⟩ := hrel
    by_cases hlt : k < L.length
    · obtain ⟨g, o, rfl, hg, c0, c1, c2, c3, c4⟩ := (Hr.out.below hb (Nat.le_refl _)).bin hlt
      obtain ⟨g', o', rfl, hg', c0', c1', c2', c3', c4'⟩ := (Hr'.out.below hb (Nat.le_refl _)).bin hlt
      have i0 : (0 : Int) ≤ (k : Int) := Int.natCast_nonneg _
      have i1 : (k : Int) < (L.length : Int) := by omega
      go_wp2
      go_quiet (fail)
      go_wp2
      go_roundw
      case rel => exact ⟨k + 1, by omega, by go_num, below_drewN hb _⟩
      case measure => simp [intOf]; omega
    · go_wp2
      go_ret
      exact ⟨rfl, hb⟩

end Go.Proofs.Ytngphnfbfednnaa
