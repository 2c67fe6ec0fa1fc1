/- The walks over jobs: toJob, toJobS, eqJob, eqJobS. -/
import Derived.Test.YtfkindkekjafnaaJob
namespace Go.Proofs.Ytfkindkekjafnaa
open Go.RowKit

set_option maxHeartbeats 400000 in
theorem toJob_any (j : Job) (w : World) :
    Calls Try.prog 21 #[.agg #[.string j.name, .int .i64 j.min, .int .i64 j.due]] w fun e w' => e = .returned (.agg #[.string j.name, .int .i64 j.min, .int .i64 j.due]) ∧ Below w.heap.size w w' := by
  go_enter Try.func21, Try.ntmps21
  go_wp2
  refine bodyPost_ret (v := .agg #[.string j.name, .int .i64 j.min, .int .i64 j.due]) (by simp [results, Try.results21, go_sem]) rfl ⟨rfl, ?_⟩
  exact (((Below.refl _ _).alloc (by simp) _).alloc (by simp) _).alloc (by simp; omega) _

theorem Try.infoJob : (Try.prog.info? 34).map (fun i => (i.zero, i.size, i.bytes)) = some (some (.agg #[.string ⟨#[]⟩, .int .i64 0, .int .i64 0]), 3, 32) := by kernel_rfl

def ToPost (base : Nat) (e size : Nat) (n : Nat) (xs : List Value) (w : World) (en : Ending) (w' : World) : Prop :=
  ∃ A c, en = .returned (.slice A n c) ∧ w'.ownsRow base e size (.slice A n c) n xs ∧ Below w.heap.size w w'

set_option maxHeartbeats 400000 in
theorem toJobS_any (L : List Job) (A : Option Addr) (c : Nat) (w : World) (hr : Rd w w.heap.size 3 A L.length (jrow L)) (_hl : L.length ≤ c) (_hc : c ≤ maxLen) (hn : L.length ≤ 1048576) :
    Calls Try.prog 16 #[.slice A L.length c] w (ToPost w.heap.size 34 3 L.length (jrow L) w) := by
  have Hr := Lib.hid hr
  clear hr
  obtain ⟨i0, hi, hz0, hz1, hz2⟩ := info_parts Try.infoJob
  go_enter Try.func16, Try.ntmps16
  go_wp2_with (at_make; refine wpList_make_full _ rfl _ _ 25 rfl w.heap.size 34 i0 _ 3 Try.underlying25 hi hz0 hz1 _ _ _ _ L.length rfl rfl rfl rfl ?b1 ?b2 ?b3 ?_)
  case b1 => rw [hz2]; omega
  case b2 => unfold maxLen; omega
  case b3 => exact Nat.le_refl _
  intro w1 hown hgr
  have hb1 := (Below.refl w.heap.size w).grown hgr (Nat.le_refl _) (fun _ h => by cases h)
  clear hgr
  go_wp2
  go_loopw [4] (fun i wr => ∃ (k : Nat) (xs : List Value), k ≤ L.length ∧ i = .int .i64 k ∧ wr.ownsRow w.heap.size 34 3 (.slice (some ⟨w.heap.size, 0, none⟩) L.length L.length) L.length xs ∧ Pre xs (jrow L) (k * 3) ∧ Below w.heap.size w wr)
    (fun i _ => L.length - (intOf i).toNat)
  case atStart => exact ⟨0, _, Nat.zero_le _, rfl, hown, Pre.zero _ _, hb1⟩
  case round =>
    obtain ⟨k, xs, hk, rfl, ho, hp, hb⟩ := hrel
    have Ho := Lib.hid ho
    have Hp := Lib.hid hp
    clear ho hp hown
    have hsz := hb.size
    by_cases hlt : k < L.length
    · obtain ⟨g, o, rfl, hg, c0, c1, c2⟩ := (Hr.out.below hb (Nat.le_refl _)).job hlt
      go_wp2_with fail
      refine (toJob_any (jat L k) _).mono ?_
      rintro e w2 ⟨rfl, hb2⟩
      have ho2 := own_below Ho.out hb2
      obtain ⟨x0, d0⟩ := own_cell ho2 (j := k * 3) (by omega)
      obtain ⟨x1, d1⟩ := own_cell ho2 (j := k * 3 + 1) (by omega)
      obtain ⟨x2, d2⟩ := own_cell ho2 (j := k * 3 + 2) (by omega)
      have f0 := ho2.frozenAt (k * 3)
      have f1 := ho2.frozenAt (k * 3 + 1)
      have f2 := ho2.frozenAt (k * 3 + 2)
      have Ho2 := Lib.hid ho2
      clear ho2
      go_wp2
      go_roundw
      case rel =>
        obtain ⟨q0, q1, q2⟩ := jrow_at L k hlt
        have hlen := Ho2.out.1
        exact ⟨k + 1, _, by omega, by go_num, ((Ho2.out.stored (k * 3) _).1.stored (k * 3 + 1) _).1.stored (k * 3 + 2) _ |>.1, Hp.out.set3 (by omega) q0 q1 q2,
          (((hb.trans (hb2.mono hsz)).setCell (Nat.le_refl _) _).setCell (Nat.le_refl _) _).setCell (Nat.le_refl _) _⟩
      case measure => simp [intOf]; omega
    · go_wp2
      go_ret
      have hlen := Ho.out.1
      have hk2 : k = L.length := by omega
      subst hk2
      refine ⟨_, _, rfl, ?_, hb⟩
      rw [← Hp.out.all (by omega) (jrow_len L)]
      exact Ho.out

end Go.Proofs.Ytfkindkekjafnaa
