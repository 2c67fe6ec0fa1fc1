/- The walk of lateAt: by how much a job is late if all jobs of a mask are done with it at last. -/
import Derived.Test.YtfkindkekjafnaaLateM
import Derived.OwnWalk
namespace Go.Proofs.Ytfkindkekjafnaa
open Go.RowKit

set_option maxHeartbeats 2000000 in
theorem implLateAt_any (w : World) (L : List Job) (v : Value) (m i : Nat) (hv : Sl w 3 v L.length (jobRow L)) (hj : areJobs L = true) (hm : m < 4611686018427387904) (hi : i < L.length) :
    Calls Try.prog 68 #[v, .int .i64 m, .int .i64 i] w (RetI (lateM L m i) w) := by
  have h7 := areJobs_le hj
  obtain ⟨A, c, rfl, hl, hc, hr⟩ := hv
  have Hr := Lib.hid hr
  clear hr hl hc
  go_enter Try.func68, Try.ntmps68
  go_wp2
  go_loopw [7, 12] (fun s k wr => ∃ (q : Nat) (z : Int), q ≤ L.length ∧ k = .int .i64 q ∧ s = .int .i64 z ∧ z = minM L m q ∧ Below w.heap.size w wr) (fun _ k _ => L.length - (intOf k).toNat)
  case atStart => exact ⟨0, 0, Nat.zero_le _, rfl, rfl, rfl, Below.refl _ _⟩
  case round =>
    obtain ⟨q, z, hq, rfl, rfl, hz, hb⟩ := hrel
    have hzb := minM_bd hj m q hq
    rw [← hz] at hzb
    have HZ := Lib.hid hz
    clear hz
    have hsz := hb.size
    by_cases hlt : q < L.length
    · obtain ⟨g, o, rfl, hg, e0, e1, e2⟩ := (Hr.out.below hb (Nat.le_refl _)).job hlt
      have hjb := areJobs_at hj hlt
      have i0 : (0 : Int) ≤ (q : Int) := Int.natCast_nonneg _
      have i1 : (q : Int) < (L.length : Int) := by omega
      have i2 : (q : Int) < 64 := by omega
      cases hbit : m.testBit q
      · have t1 := mask_no (m := m) (b := q) hm (by omega) hbit
        have HS := Lib.hid (show minM L m (q + 1) = minM L m q by rw [minM, hbit]; simp)
        go_wp2
        go_roundw
        case rel => exact ⟨q + 1, z, by omega, by go_num, rfl, by rw [HS.out]; exact HZ.out, hb.alloc hsz _⟩
        case measure => simp [intOf]; omega
      · have t1 := mask_yes (m := m) (b := q) hm (by omega) hbit
        have HS := Lib.hid (show minM L m (q + 1) = minM L m q + (jobAt L q).min by rw [minM, hbit]; simp)
        have x1 := IntWalk.i64_in (z + (jobAt L q).min) (by omega)
        go_wp2
        go_roundw
        case rel => exact ⟨q + 1, z + (jobAt L q).min, by omega, by go_num, rfl, by rw [HS.out, ← HZ.out], hb.alloc hsz _⟩
        case measure => simp [intOf]; omega
    · obtain ⟨g, o, rfl, hg, e0, e1, e2⟩ := (Hr.out.below hb (Nat.le_refl _)).job hi
      have hjb := areJobs_at hj hi
      have i0 : (0 : Int) ≤ (i : Int) := Int.natCast_nonneg _
      have i1 : (i : Int) < (L.length : Int) := by omega
      have hq9 : q = L.length := by omega
      have x1 := IntWalk.i64_in (z - (jobAt L i).due) (by omega)
      by_cases hx : 0 < z - (jobAt L i).due
      · have HV := Lib.hid (show lateM L m i = z - (jobAt L i).due by rw [lateM, ← hq9, ← HZ.out]; omega)
        clear hq9
        go_wp2
        go_ret
        exact ⟨retI HV.out.symm, hb⟩
      · have HV := Lib.hid (show lateM L m i = 0 by rw [lateM, ← hq9, ← HZ.out]; omega)
        clear hq9
        go_wp2
        go_ret
        exact ⟨retI HV.out.symm, hb⟩
end Go.Proofs.Ytfkindkekjafnaa
