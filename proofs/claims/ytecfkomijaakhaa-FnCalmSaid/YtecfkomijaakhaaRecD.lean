/- Recipes: the walk of l21Order in the reference. -/
import Derived.Test.YtecfkomijaakhaaRecC
namespace Go.Proofs.Ytecfkomijaakhaa
open Go.RowKit Go.Sort

set_option maxHeartbeats 4000000 in
theorem specIsOrd_any (w : World) (L : List Step) (V : Value) (P : List Int) (u : Value) (hv : Steps w V L) (hn : L.length ≤ 1048576) (hu : Sl w 1 u P.length (intsRow P)) :
    Calls Try.prog 62 #[V, u] w (RetB (ordOk L P) w) := by
  obtain ⟨A, c, rfl, hl, hc, hr⟩ := hv
  obtain ⟨A', c', rfl, hl', hc', hr'⟩ := hu
  have Hr := Lib.hid hr
  have Hr' := Lib.hid hr'
  unfold maxLen at hc' hc
  clear hr hr'
  go_enter Try.func62, Try.ntmps62
  go_wp2
  go_loopw [5] (fun i wr => ∃ k : Nat, k ≤ P.length ∧ i = .int .i64 k ∧ Below w.heap.size w wr ∧
      ∀ i, i < k → (0 ≤ intsAt P i ∧ intsAt P i < L.length) ∧ hasI (P.take i) (intsAt P i) = false ∧ doneIn (stepAt L (intsAt P i).toNat) (P.take i) = true) (fun i _ => P.length - (intOf i).toNat)
  case atStart => exact ⟨0, Nat.zero_le _, rfl, Below.refl _ _, fun i h => absurd h (by omega)⟩
  case round =>
    obtain ⟨k, hk, rfl, hb, hall⟩ := hrel
    have Hall := Lib.hid hall
    have hsz := hb.size
    clear hall
    by_cases hlt : k < P.length
    · obtain ⟨g, o, rfl, hg, c0⟩ := (Hr'.out.below hb (Nat.le_refl _)).ints hlt
      have i0 : (0 : Int) ≤ (k : Int) := Int.natCast_nonneg _
      have i1 : (k : Int) < (P.length : Int) := by omega
      have i2 : (k : Int) ≤ (c' : Int) := by omega
      have hw := IntWalk.i64_in ((L.length : Int) - 1) (by omega)
      by_cases hr1 : 0 ≤ intsAt P k ∧ intsAt P k < L.length
      · obtain ⟨b, hbe⟩ := Int.eq_ofNat_of_zero_le hr1.1
        have Hb := Lib.hid hbe
        rw [hbe] at c0
        have hb2 : b < L.length := by omega
        have hin : inR (b : Int) 0 ((L.length : Int) - 1) = true := by simp [inR]; omega
        have j0 : (0 : Int) ≤ (b : Int) := Int.natCast_nonneg _
        have j1 : (b : Int) < (L.length : Int) := by omega
        obtain ⟨gs, os, rfl, hgs, d0, d1, B, cc, d2, hcc, hcm, hrd⟩ := (Hr.out.below hb).at hb2
        have hsl : ∀ d s, Sl (grow (redrawn wr d) s) 1 (.slice (some ⟨g, o, none⟩) k c') (P.take k).length (intsRow (P.take k)) := fun d s => Sl.below (w := wr) ⟨_, c', by rw [List.length_take, Nat.min_eq_left (by omega)], by rw [List.length_take, Nat.min_eq_left (by omega)]; omega, by unfold maxLen; omega, by
          have := ((Hr'.out.below' hb)).take (k := k) (by omega)
          rw [intsRow_take, List.length_take, Nat.min_eq_left (by omega)]; exact this⟩ (below_regrown wr d s)
        have Hsl := Lib.hid hsl
        have Hrd := Lib.hid (fun (d : Nat) (s : Array Obj) => hrd.below' (below_regrown wr d s))
        have k0 := cell_regrown c0
        have k1 := cell_regrown d0
        have k2 := cell_regrown d1
        have k3 := cell_regrown d2
        clear hr1 hbe hsl hrd c0 d0 d1 d2
        have Q1 := Lib.hid (show ∀ d s, Calls Try.prog 54 #[.int .i64 (b : Int), .int .i64 0, .int .i64 ((L.length : Int) - 1)] (grow (redrawn wr d) s) fun e w'' => e = .returned (.bool true) ∧ ∃ p : Regrown, w'' = grow (redrawn wr p.d) p.os from fun d s => by have := rg_same (l01In_any (b : Int) 0 ((L.length : Int) - 1) (grow (redrawn wr d) s)); rwa [hin] at this)
        have Q2 := Lib.hid (show ∀ d s, Calls Try.prog 56 #[.slice (some ⟨g, o, none⟩) k c', .int .i64 (b : Int)] (grow (redrawn wr d) s) fun e w'' => e = .returned (.bool (hasI (P.take k) (b : Int))) ∧ ∃ p : Regrown, w'' = grow (redrawn wr p.d) p.os from fun d s => rg_same (specHas_any _ (P.take k) _ _ (Hsl.out d s)))
        have Q3 := Lib.hid (show ∀ d s, Calls Try.prog 64 #[.agg #[.int .i64 (stepAt L b).minutes, .int .i64 (stepAt L b).tool, .slice B (stepAt L b).after.length cc], .slice (some ⟨g, o, none⟩) k c'] (grow (redrawn wr d) s) fun e w'' => e = .returned (.bool (doneIn (stepAt L b) (P.take k))) ∧ ∃ p : Regrown, w'' = grow (redrawn wr p.d) p.os from fun d s => Calls.regrown_of (specDone_any _ (stepAt L b) B cc (P.take k) _ (Hrd.out d s) hcc hcm (Hsl.out d s)))
        cases hh : hasI (P.take k) (b : Int)
        · cases hd : doneIn (stepAt L b) (P.take k)
          · have H := Lib.hid (show ordOk L P = false from ordOk_no hlt (fun h => by
              have h2 := h.2.2
              rw [Hb.out] at h2
              have h4 : doneIn (stepAt L b) (P.take k) = true := h2
              rw [hd] at h4; cases h4))
            go_wp2
            refine region_qb (by kernel_rfl) (by kernel_rfl) ?_
            repeat (refine hq_step (fun K HK => ?_); go_simp; first | (refine HK.out _ ?_; clear HK K) | (apply Exists.intro; refine ⟨fun _ => ?_, HK.out _ ?_⟩; (first | (go_at_call 54; exact Q1.out _ _) | (go_at_call 56; exact Q2.out _ _) | (go_at_call 64; exact Q3.out _ _)); clear HK K))
            refine hq_nil ?_
            intro wq hbq
            go_wp2
            go_ret
            exact RetB.ok H.out (hb.trans (hbq.mono hsz))
          · go_wp2
            refine region_qb (by kernel_rfl) (by kernel_rfl) ?_
            repeat (refine hq_step (fun K HK => ?_); go_simp; first | (refine HK.out _ ?_; clear HK K) | (apply Exists.intro; refine ⟨fun _ => ?_, HK.out _ ?_⟩; (first | (go_at_call 54; exact Q1.out _ _) | (go_at_call 56; exact Q2.out _ _) | (go_at_call 64; exact Q3.out _ _)); clear HK K))
            refine hq_nil ?_
            intro wq hbq
            have hbq := hb.trans (hbq.mono hsz)
            clear k0 k1 k2 k3
            go_wp2
            go_roundw
            case rel => exact ⟨k + 1, by omega, by go_num, hbq, fun i hi => by
              by_cases e : i = k
              · subst e
                rw [Hb.out]
                exact ⟨⟨by omega, by omega⟩, hh, hd⟩
              · exact Hall.out i (by omega)⟩
            case measure => simp [intOf]; omega
        · have H := Lib.hid (show ordOk L P = false from ordOk_no hlt (fun h => by
            have h2 := h.2.1
            rw [Hb.out] at h2
            have h4 : hasI (P.take k) (b : Int) = false := h2
            rw [hh] at h4; cases h4))
          go_wp2
          refine region_qb (by kernel_rfl) (by kernel_rfl) ?_
          repeat (refine hq_step (fun K HK => ?_); go_simp; first | (refine HK.out _ ?_; clear HK K) | (apply Exists.intro; refine ⟨fun _ => ?_, HK.out _ ?_⟩; (first | (go_at_call 54; exact Q1.out _ _) | (go_at_call 56; exact Q2.out _ _)); clear HK K))
          refine hq_nil ?_
          intro wq hbq
          go_wp2
          go_ret
          exact RetB.ok H.out (hb.trans (hbq.mono hsz))
      · have H := Lib.hid (show ordOk L P = false from ordOk_no hlt (fun h => hr1 h.1))
        have hin : inR (intsAt P k) 0 ((L.length : Int) - 1) = false := by simp [inR]; omega
        have k0 := cell_regrown c0
        have Q1 := Lib.hid (show ∀ d s, Calls Try.prog 54 #[.int .i64 (intsAt P k), .int .i64 0, .int .i64 ((L.length : Int) - 1)] (grow (redrawn wr d) s) fun e w'' => e = .returned (.bool false) ∧ ∃ p : Regrown, w'' = grow (redrawn wr p.d) p.os from fun d s => by have := rg_same (l01In_any (intsAt P k) 0 ((L.length : Int) - 1) (grow (redrawn wr d) s)); rwa [hin] at this)
        clear hr1 c0
        go_wp2
        refine region_qb (by kernel_rfl) (by kernel_rfl) ?_
        repeat (refine hq_step (fun K HK => ?_); go_simp; first | (refine HK.out _ ?_; clear HK K) | (apply Exists.intro; refine ⟨fun _ => ?_, HK.out _ ?_⟩; (first | (go_at_call 54; exact Q1.out _ _)); clear HK K))
        refine hq_nil ?_
        intro wq hbq
        go_wp2
        go_ret
        exact RetB.ok H.out (hb.trans (hbq.mono hsz))
    · by_cases hlen : P.length = L.length
      · have H := Lib.hid (ordOk_iff.2 ⟨hlen, fun i hi => Hall.out i (by omega)⟩)
        have t1 : ((P.length : Int) == (L.length : Int)) = true := by rw [hlen]; simp
        clear hlen
        go_wp2
        go_ret
        exact RetB.ok H.out hb
      · have H := Lib.hid (show ordOk L P = false from ordOk_len hlen)
        have t1 : ((P.length : Int) == (L.length : Int)) = false := by simp; omega
        clear hlen
        go_wp2
        go_ret
        exact RetB.ok H.out hb

end Go.Proofs.Ytecfkomijaakhaa
