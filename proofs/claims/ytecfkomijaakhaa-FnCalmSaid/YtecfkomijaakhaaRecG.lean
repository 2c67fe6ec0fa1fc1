/- Recipes: the walks of RemainingMinutes in the program and in the reference. Printed by gen_recf.py. -/
import Derived.Test.YtecfkomijaakhaaRecF
namespace Go.Proofs.Ytecfkomijaakhaa
open Go.RowKit Go.Sort

set_option maxHeartbeats 4000000 in
theorem implRemainingMinutes_any (w : World) (L : List Step) (V : Value) (D : List Int) (u : Value) (hv : Steps w V L) (hn : L.length ≤ 1048576) (hu : Sl w 1 u D.length (intsRow D)) (_ : D.length ≤ 4194304) :
    Calls Try.prog 26 #[V, u] w (RetIC (remF L D) w) := by
  have Hv := Lib.hid hv
  have Hu := Lib.hid hu
  clear hv hu
  cases h1 : isRecipe L
  · have H := Lib.hid (remF_bad (D := D) h1)
    go_enter Try.func26, Try.ntmps26
    go_wp2_with fail
    refine (implIsRecipe_any w L _ Hv.out hn).mono ?_
    rintro e w2 ⟨rfl, hb2⟩
    rw [h1]
    go_wp2
    go_ret2
    exact RetIC.ok H.out hb2
  · obtain ⟨h9, hok, _⟩ := isRecipe_iff.1 h1
    have Hok := Lib.hid hok
    clear hok
    go_enter Try.func26, Try.ntmps26
    go_wp2_with fail
    refine (implIsRecipe_any w L _ Hv.out hn).mono ?_
    rintro e w2 ⟨rfl, hb2⟩
    rw [h1]
    have hsz2 := hb2.size
    have Hv2 := Lib.hid (Hv.out.below hb2)
    obtain ⟨A, c, rfl, hl, hc, hr⟩ := Hv.out.below hb2
    obtain ⟨A', c', rfl, hl', hc', hr'⟩ := Hu.out.below hb2
    have Hr := Lib.hid hr
    have Hr' := Lib.hid hr'
    unfold maxLen at hc'
    clear hr hr' hl hc
    go_wp2
    go_loop [6, 17] (fun s i => ∃ k m : Nat, k ≤ D.length ∧ i = .int .i64 k ∧ s = .int .i64 m ∧ MaskIs m (D.take k) ∧ m < 512 ∧ ∀ j, j < k → 0 ≤ intsAt D j ∧ intsAt D j ≤ (L.length : Int) - 1 ∧ (0 < j → intsAt D (j - 1) < intsAt D j)) (fun _ i => D.length - (intOf i).toNat)
    case atStart => exact ⟨0, 0, Nat.zero_le _, rfl, rfl, MaskIs.zero, by omega, fun j h => absurd h (by omega)⟩
    case round =>
      obtain ⟨k, m, hk, rfl, rfl, hM, hm, hall⟩ := hrel
      have HM := Lib.hid hM
      have Hall := Lib.hid hall
      clear hM hall
      by_cases hlt : k < D.length
      · obtain ⟨g, o, rfl, hg, c0⟩ := Hr'.out.ints hlt
        by_cases hr1 : 0 ≤ intsAt D k ∧ intsAt D k ≤ (L.length : Int) - 1
        · obtain ⟨b, hbe⟩ := Int.eq_ofNat_of_zero_le hr1.1
          have Hb := Lib.hid hbe
          rw [hbe] at c0
          have hbl : b < L.length := by omega
          have hin : inR (b : Int) 0 ((L.length : Int) - 1) = true := by simp [inR]; omega
          have hmo : m ||| 2 ^ b < 512 := Nat.or_lt_two_pow (n := 9) (by omega) (Nat.pow_lt_pow_right (by omega) (by omega))
          have Ho := Lib.hid (mask_or (m := m) (b := b) (by omega) (by omega))
          have HMs := Lib.hid (show MaskIs (m ||| 2 ^ b) (D.take (k + 1)) by rw [take_snoc D 0 hlt, show D.getD k 0 = (b : Int) from hbe]; exact HM.out.snoc b)
          have Hr1 := Lib.hid hr1
          clear hr1 hbe
          rcases Nat.eq_zero_or_pos k with hk0 | hk0
          · subst hk0
            rw [Nat.add_zero] at c0
            go_wp2_with (go_at_call 59; refine (within_any _ _ _ _).mono ?_; rintro e w2 ⟨rfl, rfl⟩)
            go_round
            case rel => exact ⟨1, m ||| 2 ^ b, by omega, by go_num, valI Ho.out, HMs.out, hmo, fun j hj => by
              obtain rfl : j = 0 := by omega
              exact ⟨Hr1.out.1, Hr1.out.2, fun h => absurd h (by omega)⟩⟩
            case measure => simp [intOf]; omega
          · obtain ⟨p, rfl⟩ : ∃ p, k = p + 1 := ⟨k - 1, by omega⟩
            obtain ⟨g', o', hA, hg', d1⟩ := Hr'.out.ints (k := p) (by omega)
            injection hA with hA
            injection hA with hA1 hA2
            subst hA1
            subst hA2
            by_cases h5 : intsAt D p < intsAt D (p + 1)
            · have t2 : decide ((b : Int) ≤ intsAt D p) = false := by rw [← Hb.out]; simp; omega
              have H5 := Lib.hid h5
              clear h5
              go_wp2_with (go_at_call 59; refine (within_any _ _ _ _).mono ?_; rintro e w2 ⟨rfl, rfl⟩)
              go_round
              case rel => exact ⟨p + 2, m ||| 2 ^ b, by omega, by go_num, valI Ho.out, HMs.out, hmo, fun j hj => by
                by_cases e : j = p + 1
                · subst e; exact ⟨Hr1.out.1, Hr1.out.2, fun _ => H5.out⟩
                · exact Hall.out j (by omega)⟩
              case measure => simp [intOf]; omega
            · have t2 : decide ((b : Int) ≤ intsAt D p) = true := by rw [← Hb.out]; simp; omega
              have H := Lib.hid (remF_range h1 (risesN_no hlt (fun h => h5 (h.2.2 (by omega)))))
              clear h5
              go_wp2_with (go_at_call 59; refine (within_any _ _ _ _).mono ?_; rintro e w2 ⟨rfl, rfl⟩)
              go_ret2
              exact RetIC.ok H.out hb2
        · have hin : inR (intsAt D k) 0 ((L.length : Int) - 1) = false := by simp [inR]; omega
          have H := Lib.hid (remF_range h1 (risesN_no hlt (fun h => hr1 ⟨h.1, h.2.1⟩)))
          clear hr1
          go_wp2_with (go_at_call 59; refine (within_any _ _ _ _).mono ?_; rintro e w2 ⟨rfl, rfl⟩)
          go_ret2
          exact RetIC.ok H.out hb2
      · have hkD : k = D.length := by omega
        subst hkD
        have hris : risesN L.length D = true := risesN_iff.2 Hall.out
        have hM2 := HM.out
        rw [List.take_length] at hM2
        have HM2 := Lib.hid hM2
        clear hM2
        go_wp2
        go_loopw [9, 48] (fun s i wr => ∃ (q : Nat) (t : Int), q ≤ L.length ∧ i = .int .i64 q ∧ s = .int .i64 t ∧ remSt L D q = some t ∧ 0 ≤ t ∧ t ≤ 240 * q ∧ Below w2.heap.size w2 wr) (fun _ i _ => L.length - (intOf i).toNat)
        case atStart => exact ⟨0, 0, Nat.zero_le _, rfl, rfl, rfl, by omega, by omega, Below.refl _ _⟩
        case round =>
          obtain ⟨q, t, hq, rfl, rfl, hst, ht0, ht1, hb⟩ := hrel
          have Hst := Lib.hid hst
          have hsz := hb.size
          have b4 := hb2.trans (hb.mono hsz2)
          clear hst
          by_cases hql : q < L.length
          · obtain ⟨gs, os, rfl, hgs, d0, d1, B, cc, d2, hcc, hcm, hrd⟩ := (Hr.out.below hb).at hql
            have hmin := (steps_bd Hok.out hql).1
            obtain ⟨mn0, mn1⟩ := hmin
            obtain ⟨x, hx⟩ : ∃ x, x = wr.alloc (.cells #[.int .i64 (stepAt L q).minutes, .int .i64 (stepAt L q).tool, .slice B (stepAt L q).after.length cc] 51) := ⟨_, rfl⟩
            have hbx : Below wr.heap.size wr x := by rw [hx]; exact (Below.refl _ _).alloc (Nat.le_refl _) _
            have hB := Blk.new wr 51 #[.int .i64 (stepAt L q).minutes, .int .i64 (stepAt L q).tool, .slice B (stepAt L q).after.length cc]
            rw [← hx] at hB
            have k0 : x.cell? ⟨wr.heap.size, 0, none⟩ = some (.int .i64 (stepAt L q).minutes) := hB.cell 0
            have Bx := Lib.hid (hb.trans (hbx.mono hsz))
            have Hvx := Lib.hid ((Hv2.out.below hb).below hbx)
            clear hrd hB hbx hcc hcm
            cases hbit : m.testBit q
            · have t1 := mask_no0 (m := m) (b := q) (by omega) (by omega) hbit
              have HS := Lib.hid (remSt_add Hst.out (by rw [← HM2.out q]; exact hbit))
              have xa := IntWalk.i64_in (t + (stepAt L q).minutes) (by omega)
              clear hx
              go_wp2
              go_roundw
              case rel => exact ⟨q + 1, t + (stepAt L q).minutes, by omega, by go_num, rfl, HS.out, by omega, by omega, (hb.alloc hsz _)⟩
              case measure => simp [intOf]; omega
            · have t1 := mask_yes0 (m := m) (b := q) (by omega) (by omega) hbit
              have hhas : hasI D q = true := by rw [← HM2.out q]; exact hbit
              have hrd0 : readyM (stepAt L q) m = doneIn (stepAt L q) D := HM2.out.ready (fun j hj => ((steps_bd Hok.out hql).2.2.1 j hj).1)
              have Hhas := Lib.hid hhas
              have Hrd0 := Lib.hid hrd0
              clear hhas hrd0
              go_wp2_with fail
              rw [← hx]
              clear hx
              refine (implReady_any _ L _ m q Hvx.out hql (fun j hj => by have := steps_after Hok.out hql hj; omega) (by omega)).mono ?_
              rintro e w5 ⟨rfl, rfl⟩
              cases hd : readyM (stepAt L q) m
              · have H := Lib.hid (remF_none h1 (k := q + 1) (by omega) (remSt_no Hst.out Hhas.out (by rw [← Hrd0.out]; exact hd)))
                go_wp2
                go_ret2
                exact RetIC.ok H.out (hb2.trans (Bx.out.mono hsz2))
              · have HS := Lib.hid (remSt_ok Hst.out Hhas.out (by rw [← Hrd0.out]; exact hd))
                go_wp2
                go_roundw
                case rel => exact ⟨q + 1, t, by omega, by go_num, rfl, HS.out, by omega, by omega, Bx.out⟩
                case measure => simp [intOf]; omega
          · have hqe : q = L.length := by omega
            have hst2 := Hst.out
            rw [hqe] at hst2
            have H := Lib.hid (remF_some h1 hris hst2)
            clear hst2
            go_wp2
            go_ret2
            exact RetIC.ok H.out b4

set_option maxHeartbeats 4000000 in
theorem specRemainingMinutes_any (w : World) (L : List Step) (V : Value) (D : List Int) (u : Value) (hv : Steps w V L) (hn : L.length ≤ 1048576) (hu : Sl w 1 u D.length (intsRow D)) (_ : D.length ≤ 4194304) :
    Calls Try.prog 25 #[V, u] w (RetIC (remF L D) w) := by
  have Hv := Lib.hid hv
  have Hu := Lib.hid hu
  obtain ⟨A, c, rfl, hl, hc, hr⟩ := hv
  have Hr0 := Lib.hid hr
  unfold maxLen at hc
  clear hu hr
  cases h1 : isRecipe L
  · have H := Lib.hid (remF_bad (D := D) h1)
    go_enter Try.func25, Try.ntmps25
    go_wp2_with fail
    refine (specIsRecipe_any w L _ Hv.out hn).mono ?_
    rintro e w2 ⟨rfl, hb2⟩
    rw [h1]
    go_wp2
    go_ret2
    exact RetIC.ok H.out hb2
  · obtain ⟨h9, hok, _⟩ := isRecipe_iff.1 h1
    have Hok := Lib.hid hok
    clear hok
    cases h2 : risesN L.length D
    · have H := Lib.hid (remF_range h1 h2)
      go_enter Try.func25, Try.ntmps25
      go_wp2_with fail
      refine (specIsRecipe_any w L _ Hv.out hn).mono ?_
      rintro e w2 ⟨rfl, hb2⟩
      rw [h1]
      go_wp2_with fail
      refine (specRises_any w2 D _ (L.length : Int) (Hu.out.below hb2) (by omega)).mono ?_
      rintro e w3 ⟨rfl, hb3⟩
      have b3 := hb2.trans (hb3.mono hb2.size)
      rw [h2]
      go_wp2
      go_ret2
      exact RetIC.ok H.out b3
    · go_enter Try.func25, Try.ntmps25
      go_wp2_with fail
      refine (specIsRecipe_any w L _ Hv.out hn).mono ?_
      rintro e w2 ⟨rfl, hb2⟩
      rw [h1]
      go_wp2_with fail
      refine (specRises_any w2 D _ (L.length : Int) (Hu.out.below hb2) (by omega)).mono ?_
      rintro e w3 ⟨rfl, hb3⟩
      have b3 := hb2.trans (hb3.mono hb2.size)
      have hsz3 := b3.size
      have Hu3 := Lib.hid (Hu.out.below b3)
      rw [h2]
      have Hr := Lib.hid (Hr0.out.below b3)
      go_wp2
      go_loopw [6, 7] (fun s i wr => ∃ (q : Nat) (t : Int), q ≤ L.length ∧ i = .int .i64 q ∧ s = .int .i64 t ∧ remSt L D q = some t ∧ 0 ≤ t ∧ t ≤ 240 * q ∧ Below w3.heap.size w3 wr) (fun _ i _ => L.length - (intOf i).toNat)
      case atStart => exact ⟨0, 0, Nat.zero_le _, rfl, rfl, rfl, by omega, by omega, Below.refl _ _⟩
      case round =>
        obtain ⟨q, t, hq, rfl, rfl, hst, ht0, ht1, hb⟩ := hrel
        have Hst := Lib.hid hst
        have hsz := hb.size
        have b4 := b3.trans (hb.mono hsz3)
        have Hur := Lib.hid (Hu3.out.below hb)
        clear hst
        by_cases hql : q < L.length
        · obtain ⟨gs, os, rfl, hgs, d0, d1, B, cc, d2, hcc, hcm, hrd⟩ := (Hr.out.below hb).at hql
          have hmin := (steps_bd Hok.out hql).1
          obtain ⟨mn0, mn1⟩ := hmin
          have Hrd := Lib.hid hrd
          clear hrd
          cases hh : hasI D q
          · have HS := Lib.hid (remSt_add Hst.out hh)
            have xa := IntWalk.i64_in (t + (stepAt L q).minutes) (by omega)
            go_wp2_with fail
            refine (specHas_any _ D _ (q : Int) Hur.out).mono ?_
            rintro e w5 ⟨rfl, rfl⟩
            rw [hh]
            go_wp2
            go_roundw
            case rel => exact ⟨q + 1, t + (stepAt L q).minutes, by omega, by go_num, rfl, HS.out, by omega, by omega, hb⟩
            case measure => simp [intOf]; omega
          · go_wp2_with fail
            refine (specHas_any _ D _ (q : Int) Hur.out).mono ?_
            rintro e w5 ⟨rfl, rfl⟩
            rw [hh]
            go_wp2_with fail
            refine (specDone_any _ (stepAt L q) B cc D _ Hrd.out hcc hcm Hur.out).mono ?_
            rintro e w6 ⟨rfl, hb6⟩
            have b6 := hb.trans (hb6.mono hsz)
            cases hd : doneIn (stepAt L q) D
            · have H := Lib.hid (remF_none h1 (k := q + 1) (by omega) (remSt_no Hst.out hh hd))
              go_wp2
              go_ret2
              exact RetIC.ok H.out (b3.trans (b6.mono hsz3))
            · have HS := Lib.hid (remSt_ok Hst.out hh hd)
              clear d0 d1 d2
              go_wp2
              go_roundw
              case rel => exact ⟨q + 1, t, by omega, by go_num, rfl, HS.out, by omega, by omega, b6⟩
              case measure => simp [intOf]; omega
        · have hqe : q = L.length := by omega
          have hst2 := Hst.out
          rw [hqe] at hst2
          have H := Lib.hid (remF_some h1 h2 hst2)
          clear hst2
          go_wp2
          go_ret2
          exact RetIC.ok H.out b4

end Go.Proofs.Ytecfkomijaakhaa
