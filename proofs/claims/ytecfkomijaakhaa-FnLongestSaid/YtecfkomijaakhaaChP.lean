/- Chains: the walk of comesBefore in the program. -/
import Derived.Test.YtecfkomijaakhaaChY
namespace Go.Proofs.Ytecfkomijaakhaa
open Go.RowKit

theorem hasI_at {l : List Int} {x : Int} {k : Nat} (hk : k < l.length) (h : intsAt l k = x) : hasI l x = true := by
  rw [hasI_iff, ← h, intsAt_lt hk]; exact List.getElem_mem hk
theorem hasI_none {l : List Int} {x : Int} (h : ∀ k, k < l.length → intsAt l k ≠ x) : hasI l x = false := by
  rw [hasI_no]
  intro hm
  obtain ⟨k, hk, e⟩ := List.mem_iff_getElem.1 hm
  exact h k hk (by rw [intsAt_lt hk]; exact e)

set_option maxHeartbeats 2000000 in
theorem implComes_any (w : World) (L : List Step) (V : Value) (i k : Nat) (hv : Steps w V L) (hk : k < L.length) :
    Calls Try.prog 74 #[V, .int .i64 i, .int .i64 k] w fun e w' => e = .returned (.bool (befN L i k)) ∧ w = w' := by
  obtain ⟨A, c, rfl, hl, hc, hr⟩ := hv
  unfold maxLen at hc
  obtain ⟨g, o, rfl, hg, c0, c1, B, cc, c2, hcc, hcm, hrd⟩ := hr.at hk
  unfold maxLen at hcm
  have Hr := Lib.hid hrd
  obtain ⟨l, hl0⟩ : ∃ l, l = (stepAt L k).after := ⟨_, rfl⟩
  rw [← hl0] at Hr c2 hcc
  have HY := Lib.hid (fun (q : Nat) (h0 : q < l.length) (h : intsAt l q = (i : Int)) => (show befN L i k = true by unfold befN; rw [← hl0]; exact hasI_at h0 h))
  have HN := Lib.hid (fun h : (∀ q, q < l.length → intsAt l q ≠ (i : Int)) => (show befN L i k = false by unfold befN; rw [← hl0]; exact hasI_none h))
  have k0 : (0 : Int) ≤ (k : Int) := Int.natCast_nonneg _
  have k1 : (k : Int) < (L.length : Int) := by omega
  clear hr hrd hl0 c0 c1
  go_enter Try.func74, Try.ntmps74
  go_wp2
  go_loop [15] (fun b => ∃ q : Nat, q ≤ l.length ∧ b = .int .i64 q ∧ ∀ j, j < q → intsAt l j ≠ (i : Int)) (fun b => l.length - (intOf b).toNat)
  case atStart => exact ⟨0, Nat.zero_le _, rfl, fun j h => absurd h (by omega)⟩
  case round =>
    obtain ⟨q, hq, rfl, hall⟩ := hrel
    have Hall := Lib.hid hall
    clear hall
    by_cases hlt : q < l.length
    · obtain ⟨g1, o1, rfl, hg1, d0⟩ := Hr.out.ints hlt
      obtain ⟨x, hx⟩ : ∃ x, x = intsAt l q := ⟨_, rfl⟩
      rw [← hx] at d0
      have Hx := Lib.hid hx
      clear hx
      by_cases he : x = (i : Int)
      · have t1 : (x == (i : Int)) = true := by simp [he]
        have H := Lib.hid (HY.out q hlt (by rw [← Hx.out]; exact he))
        clear he
        go_wp2
        go_ret
        exact ⟨retB H.out.symm, rfl⟩
      · have t1 : (x == (i : Int)) = false := by simpa using he
        have He := Lib.hid he
        clear he
        go_wp2
        go_round
        case rel => exact ⟨q + 1, by omega, by go_num, fun j hj => by
          by_cases e : j = q
          · subst e; rw [← Hx.out]; exact He.out
          · exact Hall.out j (by omega)⟩
        case measure => simp [intOf]; omega
    · have H := Lib.hid (HN.out (fun j hj => Hall.out j (by omega)))
      go_wp2
      go_ret
      exact ⟨retB H.out.symm, rfl⟩
end Go.Proofs.Ytecfkomijaakhaa
