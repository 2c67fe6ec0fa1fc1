/- Recipes: the walks of isReady in the program; of l01Has, l01Rises, l21Done, l21First in the reference. -/
import Derived.Test.YtecfkomijaakhaaRecM
import Derived.Test.YtecfkomijaakhaaApp
namespace Go.Proofs.Ytecfkomijaakhaa
open Go.RowKit

theorem mask_no0 {m b : Nat} (hm : m < 4611686018427387904) (hb : b < 62) (h : m.testBit b = false) : (bits BinOp.and IntKind.i64 (m : Int) (wrap64 ((2 : Int) ^ b)) == 0) = true := by
  have := mask_no hm hb h
  simpa using this
theorem mask_yes0 {m b : Nat} (hm : m < 4611686018427387904) (hb : b < 62) (h : m.testBit b = true) : (bits BinOp.and IntKind.i64 (m : Int) (wrap64 ((2 : Int) ^ b)) == 0) = false := by
  have := mask_yes hm hb h
  simpa using this

set_option maxHeartbeats 800000 in
theorem implReady_any (w : World) (L : List Step) (V : Value) (m i : Nat) (hv : Steps w V L) (hi : i < L.length) (ha : ∀ k, k < (stepAt L i).after.length → 0 ≤ intsAt (stepAt L i).after k ∧ intsAt (stepAt L i).after k < 60) (hm : m < 4611686018427387904) :
    Calls Try.prog 60 #[V, .int .i64 m, .int .i64 i] w fun e w' => e = .returned (.bool (readyM (stepAt L i) m)) ∧ w = w' := by
  obtain ⟨A, c, rfl, hl, hc, hr⟩ := hv
  unfold maxLen at hc
  obtain ⟨g, o, rfl, hg, c0, c1, B, cc, c2, hcc, hcm, hrd⟩ := hr.at hi
  unfold maxLen at hcm
  have Hr := Lib.hid hrd
  have Ha := Lib.hid ha
  obtain ⟨l, hl0⟩ : ∃ l, l = (stepAt L i).after := ⟨_, rfl⟩
  rw [← hl0] at Hr Ha c2 hcc
  have HL := Lib.hid hl0
  have HY := Lib.hid (fun h : (∀ k, k < l.length → m.testBit (intsAt l k).toNat = true) => (show readyM (stepAt L i) m = true from by unfold readyM; rw [← hl0]; exact all_yes h))
  have HN := Lib.hid (fun (k : Nat) (h0 : k < l.length) (h : m.testBit (intsAt l k).toNat = false) => (show readyM (stepAt L i) m = false from by unfold readyM; rw [← hl0]; exact all_no h0 h))
  clear hr hrd ha hl0 c0 c1
  go_enter Try.func60, Try.ntmps60
  go_wp2
  go_loop [15] (fun b => ∃ k : Nat, k ≤ l.length ∧ b = .int .i64 k ∧ ∀ j, j < k → m.testBit (intsAt l j).toNat = true) (fun b => l.length - (intOf b).toNat)
  case atStart => exact ⟨0, Nat.zero_le _, rfl, fun j h => absurd h (by omega)⟩
  case round =>
    obtain ⟨k, hk, rfl, hall⟩ := hrel
    have Hall := Lib.hid hall
    clear hall
    by_cases hlt : k < l.length
    · obtain ⟨g1, o1, rfl, hg1, d0⟩ := Hr.out.ints hlt
      obtain ⟨a0, a1⟩ := Ha.out k hlt
      obtain ⟨b, hb⟩ := Int.eq_ofNat_of_zero_le a0
      have Hb := Lib.hid hb
      rw [hb] at d0 a1
      clear hb a0
      have a2 : b < 60 := by omega
      cases hbit : m.testBit b
      · have t1 := mask_no0 (m := m) (b := b) hm (by omega) hbit
        have H := Lib.hid (HN.out k hlt (by rw [Hb.out]; exact hbit))
        go_wp2
        go_ret
        exact ⟨retB H.out.symm, rfl⟩
      · have t1 := mask_yes0 (m := m) (b := b) hm (by omega) hbit
        have Hbit := Lib.hid hbit
        clear hbit
        go_wp2
        go_round
        case rel => exact ⟨k + 1, by omega, by go_num, fun j hj => by
          by_cases e : j = k
          · subst e; rw [Hb.out]; exact Hbit.out
          · exact Hall.out j (by omega)⟩
        case measure => simp [intOf]; omega
    · have H := Lib.hid (HY.out (fun j hj => Hall.out j (by omega)))
      go_wp2
      go_ret
      exact ⟨retB H.out.symm, rfl⟩

set_option maxHeartbeats 800000 in
theorem specHas_any (w : World) (l : List Int) (v : Value) (x : Int) (hv : Sl w 1 v l.length (intsRow l)) :
    Calls Try.prog 56 #[v, .int .i64 x] w fun e w' => e = .returned (.bool (hasI l x)) ∧ w = w' := by
  obtain ⟨A, c, rfl, hl, hc, hr⟩ := hv
  unfold maxLen at hc
  have Hr := Lib.hid hr
  clear hr
  go_enter Try.func56, Try.ntmps56
  go_wp2
  go_loop [5] (fun i => ∃ k : Nat, k ≤ l.length ∧ i = .int .i64 k ∧ ∀ j, j < k → intsAt l j ≠ x) (fun i => l.length - (intOf i).toNat)
  case atStart => exact ⟨0, Nat.zero_le _, rfl, fun j h => absurd h (by omega)⟩
  case round =>
    obtain ⟨k, hk, rfl, hne⟩ := hrel
    have Hne := Lib.hid hne
    clear hne
    by_cases hlt : k < l.length
    · obtain ⟨g, o, rfl, hg, c0⟩ := Hr.out.ints hlt
      by_cases he : intsAt l k = x
      · have H := Lib.hid (show hasI l x = true by rw [hasI_iff, ← he, intsAt_lt hlt]; exact List.getElem_mem hlt)
        have t1 : (intsAt l k == x) = true := by simpa using he
        clear he
        go_wp2
        go_ret
        exact ⟨retB H.out.symm, rfl⟩
      · have t1 : (intsAt l k == x) = false := by simpa using he
        have He := Lib.hid he
        clear he
        go_wp2
        go_round
        case rel => exact ⟨k + 1, by omega, by go_num, fun j hj => by
          by_cases e : j = k
          · subst e; exact He.out
          · exact Hne.out j (by omega)⟩
        case measure => simp [intOf]; omega
    · have H := Lib.hid (show hasI l x = false by
        rw [hasI_no]
        intro hx
        obtain ⟨j, hj, e⟩ := List.mem_iff_getElem.1 hx
        exact Hne.out j (by omega) (by rw [intsAt_lt hj]; exact e))
      go_wp2
      go_ret
      exact ⟨retB H.out.symm, rfl⟩

set_option maxHeartbeats 1600000 in
theorem specRises_any (w : World) (l : List Int) (v : Value) (n : Int) (hv : Sl w 1 v l.length (intsRow l)) (hn : 0 ≤ n ∧ n ≤ 4194304) :
    Calls Try.prog 55 #[v, .int .i64 n] w (RetB (risesN n l) w) := by
  obtain ⟨A, c, rfl, hl, hc, hr⟩ := hv
  unfold maxLen at hc
  have Hr := Lib.hid hr
  clear hr
  have x0 := IntWalk.i64_in (n - 1) (by omega)
  go_enter Try.func55, Try.ntmps55
  go_wp2
  go_loopw [5] (fun i wr => ∃ k : Nat, k ≤ l.length ∧ i = .int .i64 k ∧ (∀ j, j < k → 0 ≤ intsAt l j ∧ intsAt l j ≤ n - 1 ∧ (0 < j → intsAt l (j - 1) < intsAt l j)) ∧ Below w.heap.size w wr) (fun i _ => l.length - (intOf i).toNat)
  case atStart => exact ⟨0, Nat.zero_le _, rfl, fun j h => absurd h (by omega), Below.refl _ _⟩
  case round =>
    obtain ⟨k, hk, rfl, hne, hb⟩ := hrel
    have Hne := Lib.hid hne
    clear hne
    by_cases hlt : k < l.length
    · obtain ⟨g, o, rfl, hg, c0⟩ := (Hr.out.below hb (Nat.le_refl _)).ints hlt
      have i0 : (0 : Int) ≤ (k : Int) := Int.natCast_nonneg _
      have i1 : (k : Int) < (l.length : Int) := by omega
      by_cases h1 : 0 ≤ intsAt l k ∧ intsAt l k ≤ n - 1
      · have hin : inR (intsAt l k) 0 (n - 1) = true := by simp [inR]; omega
        by_cases hk0 : k = 0
        · subst hk0
          rw [Nat.add_zero] at c0
          have i3 : (0 : Int) < (l.length : Int) := by omega
          clear i0 i1
          go_wp2
          go_quiet ((go_at_call 54; exact quiet_l (l01In_any _ _ _ _)))
          go_wp2
          go_roundw
          case rel => exact ⟨1, by omega, by go_num, fun j hj => by
            obtain rfl : j = 0 := by omega
            exact ⟨h1.1, h1.2, fun h => absurd h (by omega)⟩, below_drewN hb _⟩
          case measure => simp [intOf]; omega
        · obtain ⟨q, rfl⟩ : ∃ q, k = q + 1 := ⟨k - 1, by omega⟩
          obtain ⟨g', o', hA, hg', c1⟩ := (Hr.out.below hb (Nat.le_refl _)).ints (k := q) (by omega)
          injection hA with hA
          injection hA with hA1 hA2
          subst hA1
          subst hA2
          have j0 : (0 : Int) ≤ (q : Int) := Int.natCast_nonneg _
          have j1 : (q : Int) < (l.length : Int) := by omega
          have j2 : (0 : Int) < (q : Int) + 1 := by omega
          by_cases h2 : intsAt l q < intsAt l (q + 1)
          · have t2 : decide (intsAt l (q + 1) ≤ intsAt l q) = false := by simp; omega
            go_wp2
            go_quiet ((go_at_call 54; exact quiet_l (l01In_any _ _ _ _)))
            go_wp2
            go_roundw
            case rel => exact ⟨q + 2, by omega, by go_num, fun j hj => by
              by_cases e : j = q + 1
              · subst e; exact ⟨h1.1, h1.2, fun _ => h2⟩
              · exact Hne.out j (by omega), below_drewN hb _⟩
            case measure => simp [intOf]; omega
          · have t2 : decide (intsAt l (q + 1) ≤ intsAt l q) = true := by simp; omega
            have H := Lib.hid (show risesN n l = false from risesN_no hlt (fun h => h2 (h.2.2 (by omega))))
            go_wp2
            go_quiet ((go_at_call 54; exact quiet_l (l01In_any _ _ _ _)))
            go_wp2
            go_ret
            exact RetB.ok H.out (below_drewN hb _)
      · have hin : inR (intsAt l k) 0 (n - 1) = false := by simp [inR]; omega
        have H := Lib.hid (show risesN n l = false from risesN_no hlt (fun h => h1 ⟨h.1, h.2.1⟩))
        clear h1
        go_wp2
        go_quiet ((go_at_call 54; exact quiet_l (l01In_any _ _ _ _)))
        go_wp2
        go_ret
        exact RetB.ok H.out (below_drewN hb _)
    · have H := Lib.hid (risesN_iff.2 (fun j hj => Hne.out j (by omega)))
      go_wp2
      go_ret
      exact RetB.ok H.out hb

set_option maxHeartbeats 1600000 in
theorem specDone_any (w : World) (s : Step) (A : Option Addr) (c : Nat) (out : List Int) (v : Value) (hr : Rd w w.heap.size 1 A s.after.length (intsRow s.after)) (hc : s.after.length ≤ c) (hm : c ≤ maxLen) (hv : Sl w 1 v out.length (intsRow out)) :
    Calls Try.prog 64 #[.agg #[.int .i64 s.minutes, .int .i64 s.tool, .slice A s.after.length c], v] w (RetB (doneIn s out) w) := by
  unfold maxLen at hm
  obtain ⟨l, hl⟩ : ∃ l, l = s.after := ⟨_, rfl⟩
  have HY := Lib.hid (fun h : (∀ k, k < l.length → hasI out (intsAt l k) = true) => (show doneIn s out = true from by unfold doneIn; rw [← hl]; exact all_yes h))
  have HN := Lib.hid (fun (k : Nat) (h0 : k < l.length) (h : hasI out (intsAt l k) = false) => (show doneIn s out = false from by unfold doneIn; rw [← hl]; exact all_no h0 h))
  rw [← hl] at hr hc
  rw [← hl]
  obtain ⟨x, hx⟩ : ∃ x, x = w.alloc (.cells #[.int .i64 s.minutes, .int .i64 s.tool, .slice A l.length c] 51) := ⟨_, rfl⟩
  have hbx : Below w.heap.size w x := by rw [hx]; exact (Below.refl _ _).alloc (Nat.le_refl _) _
  have k2 : x.cell? ⟨w.heap.size, 2, none⟩ = some (.slice A l.length c) := by rw [hx]; exact (Blk.new w _ _).cell 2
  have Hr := Lib.hid (hr.below' hbx)
  have Hv := Lib.hid (hv.below hbx)
  have Hbx := Lib.hid hbx
  clear hr hv hl hbx
  go_enter Try.func64, Try.ntmps64
  go_wp2
  rw [← hx]
  clear hx
  go_loopw [5] (fun i wr => ∃ k : Nat, k ≤ l.length ∧ i = .int .i64 k ∧ (∀ j, j < k → hasI out (intsAt l j) = true) ∧ wr = x) (fun i _ => l.length - (intOf i).toNat)
  case atStart => exact ⟨0, Nat.zero_le _, rfl, fun j h => absurd h (by omega), rfl⟩
  case round =>
    obtain ⟨k, hk, rfl, hall, rfl⟩ := hrel
    have Hall := Lib.hid hall
    clear hall
    by_cases hlt : k < l.length
    · obtain ⟨g, o, rfl, hg, c0⟩ := Hr.out.ints hlt
      have i0 : (0 : Int) ≤ (k : Int) := Int.natCast_nonneg _
      have i1 : (k : Int) < (l.length : Int) := by omega
      cases he : hasI out (intsAt l k)
      · have H := Lib.hid (HN.out k hlt he)
        go_wp2_with (go_at_call 56; refine (specHas_any _ _ _ _ Hv.out).mono ?_; rintro e w2 ⟨rfl, rfl⟩; rw [he])
        go_ret
        exact RetB.ok H.out Hbx.out
      · have He := Lib.hid he
        go_wp2_with (go_at_call 56; refine (specHas_any _ _ _ _ Hv.out).mono ?_; rintro e w2 ⟨rfl, rfl⟩; rw [he])
        go_roundw
        case rel => exact ⟨k + 1, by omega, by go_num, fun j hj => by
          by_cases e : j = k
          · subst e; exact He.out
          · exact Hall.out j (by omega), trivial⟩
        case measure => simp [intOf]; omega
    · have H := Lib.hid (HY.out (fun j hj => Hall.out j (by omega)))
      go_wp2
      go_ret
      exact RetB.ok H.out Hbx.out

end Go.Proofs.Ytecfkomijaakhaa
