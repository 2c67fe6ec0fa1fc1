/- hasInt. Printed by gen_lglaw.py. -/
import Derived.Test.YtecfkomijaakhaaRecA
namespace Go.Proofs.Ytecfkomijaakhaa
open Go.RowKit

set_option maxHeartbeats 800000 in
theorem hasInt_any (w : World) (l : List Int) (v : Value) (x : Int) (hv : Sl w 1 v l.length (intsRow l)) :
    Calls Try.prog 50 #[v, .int .i64 x] w fun e w' => e = .returned (.bool (hasI l x)) ∧ w = w' := by
  obtain ⟨A, c, rfl, hl, hc, hr⟩ := hv
  unfold maxLen at hc
  have Hr := Lib.hid hr
  clear hr
  go_enter Try.func50, Try.ntmps50
  go_wp2
  go_loop [5] (fun i => ∃ k : Nat, k ≤ l.length ∧ i = .int .i64 k ∧ ∀ j, j < k → intsAt l j ≠ x) (fun i => l.length - (intOf i).toNat)
  case atStart => exact ⟨0, Nat.zero_le _, rfl, fun j h => absurd h (by omega)⟩
  case round =>
    obtain ⟨k, hk, rfl, hne⟩ := hrel
    have Hne := Lib.hid hne
    clear hne
    by_cases hlt : k < l.length
    · obtain ⟨g, o, rfl, hg, c0⟩ := Hr.out.ints hlt
      by_cases he : intsAt l k = x
      · have H := Lib.hid (show hasI l x = true by rw [hasI_iff, ← he, intsAt_lt hlt]; exact List.getElem_mem hlt)
        have t1 : (intsAt l k == x) = true := by simpa using he
        clear he
        go_wp2
        go_ret
        exact ⟨retB H.out.symm, rfl⟩
      · have t1 : (intsAt l k == x) = false := by simpa using he
        have He := Lib.hid he
        clear he
        go_wp2
        go_round
        case rel => exact ⟨k + 1, by omega, by go_num, fun j hj => by
          by_cases e : j = k
          · subst e; exact He.out
          · exact Hne.out j (by omega)⟩
        case measure => simp [intOf]; omega
    · have H := Lib.hid (show hasI l x = false by
        rw [hasI_no]
        intro hx
        obtain ⟨j, hj, e⟩ := List.mem_iff_getElem.1 hx
        exact Hne.out j (by omega) (by rw [intsAt_lt hj]; exact e))
      go_wp2
      go_ret
      exact ⟨retB H.out.symm, rfl⟩

end Go.Proofs.Ytecfkomijaakhaa
