/- Recipes: the walks of isOrder, firstOrder, IsOrder, FirstOrder in the program; of l21Order, IsOrder, FirstOrder in the reference. -/
import Derived.Test.YtecfkomijaakhaaRecB
import Derived.Test.YtecfkomijaakhaaQb
namespace Go.Proofs.Ytecfkomijaakhaa
open Go.RowKit Go.Sort

set_option maxHeartbeats 2000000 in
theorem implIsOrd_any (w : World) (L : List Step) (V : Value) (P : List Int) (u : Value) (hv : Steps w V L) (hok : stepsOk L = true) (h9 : L.length ≤ 9) (hu : Sl w 1 u P.length (intsRow P)) :
    Calls Try.prog 63 #[V, u] w (RetB (ordOk L P) w) := by
  have Hv := Lib.hid hv
  have Hok := Lib.hid hok
  obtain ⟨A, c, rfl, hl, hc, hr⟩ := hv
  obtain ⟨A', c', rfl, hl', hc', hr'⟩ := hu
  have Hr' := Lib.hid hr'
  unfold maxLen at hc'
  clear hr hr' hl hc hok
  by_cases hlen : P.length = L.length
  · have t1 : ((P.length : Int) != (L.length : Int)) = false := by rw [hlen]; simp
    have Hl := Lib.hid hlen
    clear hlen
    go_enter Try.func63, Try.ntmps63
    go_wp2
    go_loop [5, 15] (fun s i => ∃ k m : Nat, k ≤ P.length ∧ i = .int .i64 k ∧ s = .int .i64 m ∧ MaskIs m (P.take k) ∧ m < 512 ∧
        ∀ i, i < k → (0 ≤ intsAt P i ∧ intsAt P i < L.length) ∧ hasI (P.take i) (intsAt P i) = false ∧ doneIn (stepAt L (intsAt P i).toNat) (P.take i) = true) (fun _ i => P.length - (intOf i).toNat)
    case atStart => exact ⟨0, 0, Nat.zero_le _, rfl, rfl, MaskIs.zero, by omega, fun i h => absurd h (by omega)⟩
    case round =>
      obtain ⟨k, m, hk, rfl, rfl, hm, hm9, hall⟩ := hrel
      have Hm := Lib.hid hm
      have Hall := Lib.hid hall
      clear hm hall
      by_cases hlt : k < P.length
      · obtain ⟨g, o, rfl, hg, c0⟩ := Hr'.out.ints hlt
        by_cases hr1 : 0 ≤ intsAt P k ∧ intsAt P k < L.length
        · obtain ⟨b, hb⟩ := Int.eq_ofNat_of_zero_le hr1.1
          have Hb := Lib.hid hb
          rw [hb] at c0
          have hb2 : b < L.length := by omega
          have hin : inR (b : Int) 0 ((L.length : Int) - 1) = true := by simp [inR]; omega
          have hmo : m ||| 2 ^ b < 512 := Nat.or_lt_two_pow (n := 9) (by omega) (Nat.pow_lt_pow_right (by omega) (by omega))
          have hbit0 := Hm.out b
          have hrd0 : readyM (stepAt L b) m = doneIn (stepAt L b) (P.take k) := Hm.out.ready (fun j hj => ((steps_bd Hok.out hb2).2.2.1 j hj).1)
          have Hrd0 := Lib.hid hrd0
          clear hr1 hb hrd0
          cases hbit : m.testBit b
          · have t2 := mask_no (m := m) (b := b) (by omega) (by omega) hbit
            have Ho := Lib.hid (mask_or (m := m) (b := b) (by omega) (by omega))
            rw [hbit] at hbit0
            have Hhas := Lib.hid hbit0.symm
            have Hbs := Lib.hid (Hm.out.snoc b)
            clear hbit hbit0
            go_wp2_with fail
            refine (within_any _ _ _ _).mono ?_
            rintro e w2 ⟨rfl, rfl⟩
            rw [hin]
            go_wp2_with fail
            refine (implReady_any _ L _ m b Hv.out hb2 (fun j hj => by have := steps_after Hok.out hb2 hj; omega) (by omega)).mono ?_
            rintro e w2 ⟨rfl, rfl⟩
            cases hrd : readyM (stepAt L b) m
            · have H := Lib.hid (show ordOk L P = false from ordOk_no hlt (fun h => by
                have h2 := h.2.2
                rw [Hb.out] at h2
                have h3 := Hrd0.out
                rw [hrd] at h3
                have h4 : doneIn (stepAt L b) (P.take k) = true := h2
                rw [← h3] at h4; cases h4))
              go_wp2
              go_ret
              exact RetB.ok H.out (Below.refl _ _)
            · have H3 := Lib.hid (Hrd0.out.symm.trans hrd)
              go_wp2
              go_round
              case rel =>
                refine ⟨k + 1, m ||| 2 ^ b, by omega, by go_num, valI Ho.out, ?_, hmo, fun i hi => ?_⟩
                · have h5 := Hbs.out
                  rwa [take_snoc P 0 hlt, show P.getD k 0 = (b : Int) from Hb.out]
                · by_cases e : i = k
                  · subst e
                    rw [Hb.out]
                    exact ⟨⟨by omega, by omega⟩, Hhas.out, H3.out⟩
                  · exact Hall.out i (by omega)
              case measure => simp [intOf]; omega
          · have t2 := mask_yes (m := m) (b := b) (by omega) (by omega) hbit
            have H := Lib.hid (show ordOk L P = false from ordOk_no hlt (fun h => by
              have h2 := h.2.1
              rw [Hb.out] at h2
              rw [hbit] at hbit0
              have h4 : hasI (P.take k) (b : Int) = false := h2
              rw [← hbit0] at h4; cases h4))
            clear hbit hbit0
            go_wp2_with fail
            refine (within_any _ _ _ _).mono ?_
            rintro e w2 ⟨rfl, rfl⟩
            rw [hin]
            go_wp2
            go_ret
            exact RetB.ok H.out (Below.refl _ _)
        · have H := Lib.hid (show ordOk L P = false from ordOk_no hlt (fun h => hr1 h.1))
          have hin : inR (intsAt P k) 0 ((L.length : Int) - 1) = false := by simp [inR]; omega
          clear hr1
          go_wp2_with fail
          refine (within_any _ _ _ _).mono ?_
          rintro e w2 ⟨rfl, rfl⟩
          rw [hin]
          go_wp2
          go_ret
          exact RetB.ok H.out (Below.refl _ _)
      · have H := Lib.hid (ordOk_iff.2 ⟨Hl.out, fun i hi => Hall.out i (by omega)⟩)
        go_wp2
        go_ret
        exact RetB.ok H.out (Below.refl _ _)
  · have H := Lib.hid (show ordOk L P = false from ordOk_len hlen)
    have t1 : ((P.length : Int) != (L.length : Int)) = true := by simp; omega
    clear hlen
    go_enter Try.func63, Try.ntmps63
    go_wp2
    go_ret
    exact RetB.ok H.out (Below.refl _ _)

end Go.Proofs.Ytecfkomijaakhaa
