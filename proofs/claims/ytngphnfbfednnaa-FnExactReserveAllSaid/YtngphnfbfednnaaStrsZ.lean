/- The walk of laws.szStringS. -/
import Derived.Test.YtngphnfbfednnaaStrs
namespace Go.Proofs.Ytngphnfbfednnaa
open Go.RowKit

set_option maxHeartbeats 800000 in
theorem szStrs_any (l : List ByteArray) (v : Value) (n : Int) (w : World) (hv : Sl w 1 v l.length (strsRow l)) (hs : strsFit l) (h0 : 0 ≤ n) (h1 : n ≤ 1048576) :
    Calls Try.prog 34 #[v, .int .i64 n] w (SzPost l.length w) := by
  obtain ⟨A, c, rfl, hl, hc, hr⟩ := hv
  unfold maxLen at hc
  have Hr := Lib.hid hr
  have Hs := Lib.hid hs
  clear hr hs
  by_cases hn : n < l.length
  · go_enter Try.func34, Try.ntmps34
    go_wp2
    go_ret
    exact ⟨-1, rfl, by omega, by omega, Below.refl _ _⟩
  · go_enter Try.func34, Try.ntmps34
    go_wp2
    go_loopw [1, 5] (fun v i wr => ∃ (k : Nat) (m : Int), k ≤ l.length ∧ i = .int .i64 k ∧ 0 ≤ m ∧ m ≤ 1048576 ∧ v = .int .i64 m ∧ Below w.heap.size w wr) (fun _ i _ => l.length - (intOf i).toNat)
    case atStart => exact ⟨0, _, Nat.zero_le _, rfl, by omega, by omega, rfl, Below.refl _ _⟩
    case round =>
      obtain ⟨k, m, hk, rfl, hm0, hm1, rfl, hb⟩ := hrel
      by_cases hlt : k < l.length
      · obtain ⟨g, o, rfl, hg, c0⟩ := (Hr.out.below hb (Nat.le_refl _)).strs hlt
        have hfit := Hs.out k hlt
        unfold maxLen at hfit
        have i0 : (0 : Int) ≤ (k : Int) := Int.natCast_nonneg _
        have i1 : (k : Int) < (l.length : Int) := by omega
        by_cases hm : m < (strsAt l k).size
        · go_wp2
          go_ret
          exact ⟨-1, rfl, by omega, by omega, hb⟩
        · go_wp2
          go_roundw
          case rel => exact ⟨k + 1, _, by omega, by go_num, by omega, by omega, rfl, hb⟩
          case measure => simp [intOf]; omega
      · go_wp2
        go_ret
        exact ⟨m, rfl, by omega, by omega, hb⟩

end Go.Proofs.Ytngphnfbfednnaa
