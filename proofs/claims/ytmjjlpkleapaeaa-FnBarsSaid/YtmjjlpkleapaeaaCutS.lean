/- Cutting tubes from bars: the walks of l20Bars and CutBars in the reference. -/
import Derived.Test.YtmjjlpkleapaeaaCut
namespace Go.Proofs.Ytmjjlpkleapaeaa
open Go.RowKit

set_option maxHeartbeats 1600000 in
theorem specBars_any (w : World) (L : List Tube) (v : Value) (bar : Int) (hv : Sl w 2 v L.length (tubeRow L)) (hn : L.length ≤ 4194304) :
    Calls Try.prog 53 #[v, .int .i64 bar] w fun e w' => e = .returned (.int .i64 (barsCode L bar)) ∧ Below w.heap.size w w' := by
  have Hv := Lib.hid hv
  clear hv
  cases h1 : areTubes L
  · have H := Lib.hid (show barsCode L bar = 1 by simp [barsCode, h1])
    go_enter Try.func53, Try.ntmps53
    go_wp2_with fail
    refine (specAreTubes_any w L _ Hv.out hn).mono ?_
    rintro e w2 ⟨rfl, hb2⟩
    have hb2 : Below w.heap.size w w2 := hb2 ▸ Below.refl _ _
    rw [h1]
    go_wp2
    go_ret
    exact ⟨retI H.out.symm, hb2⟩
  · have h8 := (areTubes_iff h1).2.1
    cases h2 : inR bar 1000 6000
    · have H := Lib.hid (show barsCode L bar = 2 by simp [barsCode, h1, h2])
      go_enter Try.func53, Try.ntmps53
      go_wp2_with fail
      refine (specAreTubes_any w L _ Hv.out hn).mono ?_
      rintro e w2 ⟨rfl, hb2⟩
      have hb2 : Below w.heap.size w w2 := hb2 ▸ Below.refl _ _
      rw [h1]
      go_wp2_with (go_at_call 61; refine (l01In_any _ _ _ _).mono ?_; rintro e w3 ⟨rfl, rfl⟩)
      go_ret
      exact ⟨retI H.out.symm, hb2⟩
    · go_enter Try.func53, Try.ntmps53
      go_wp2_with fail
      refine (specAreTubes_any w L _ Hv.out hn).mono ?_
      rintro e w2 ⟨rfl, hb2⟩
      have hb2 : Below w.heap.size w w2 := hb2 ▸ Below.refl _ _
      rw [h1]
      go_wp2_with (go_at_call 61; refine (l01In_any _ _ _ _).mono ?_; rintro e w3 ⟨rfl, rfl⟩)
      refine (specLengths_any w2 L _ (Hv.out.below hb2) h1).mono ?_
      rintro e w4 ⟨hlen, y, rfl, ho, hb4⟩
      obtain ⟨Ad, cd, rfl, _, _⟩ := own_slice ho
      have b4 := hb2.trans (hb4.mono hb2.size)
      obtain ⟨D, hD⟩ : ∃ D, D = lensN L L.length := ⟨_, rfl⟩
      have hDl : D.length = L.length := by rw [hD, lensN_len]
      rw [← hD, ← hDl] at ho
      have Hd := Lib.hid (Rd.of_own ho)
      have HD := Lib.hid hD
      have hD8 : D.length ≤ 8 := by omega
      rw [← hDl]
      clear ho hlen hb2 hb4 hD hDl
      go_wp2
      go_loopw [6] (fun i wr => ∃ k : Nat, k ≤ D.length ∧ i = .int .i64 k ∧ (∀ i, i < k → intsAt D i ≤ bar) ∧ wr = w4) (fun i _ => D.length - (intOf i).toNat)
      case atStart => exact ⟨0, Nat.zero_le _, rfl, fun i h => absurd h (by omega), rfl⟩
      case round =>
        obtain ⟨k, hk, rfl, hle, rfl⟩ := hrel
        have Hle := Lib.hid hle
        clear hle
        by_cases hlt : k < D.length
        · obtain ⟨g, o, rfl, hg, c0⟩ := Hd.out.ints hlt
          by_cases hgt : bar < intsAt D k
          · have H := Lib.hid (show barsCode L bar = 4 by
              have : (lensN L L.length).all (fun n => decide (n ≤ bar)) = false := by rw [← HD.out]; exact all_gt hlt (by omega)
              simp [barsCode, h1, h2, this])
            go_wp2
            go_ret
            exact ⟨retI H.out.symm, b4⟩
          · go_wp2
            go_roundw
            case rel => exact ⟨k + 1, by omega, by go_num, fun i hi => by
              by_cases e : i = k
              · subst e; omega
              · exact Hle.out i (by omega), trivial⟩
            case measure => simp [intOf]; omega
        · have H := Lib.hid (show barsCode L bar = 0 by
            have : (lensN L L.length).all (fun n => decide (n ≤ bar)) = true := by rw [← HD.out]; exact all_le (fun i hi => Hle.out i (by omega))
            simp [barsCode, h1, h2, this])
          go_wp2
          go_ret
          exact ⟨retI H.out.symm, b4⟩

theorem barsCode_zero {L : List Tube} {bar : Int} (h : barsCode L bar = 0) : areTubes L = true ∧ inR bar 1000 6000 = true ∧ ∀ i, i < L.length → intsAt (lensN L L.length) i ≤ bar := by
  unfold barsCode at h
  split at h
  · omega
  · split at h
    · omega
    · split at h
      · omega
      · rename_i h1 h2 h3
        refine ⟨by simpa using h1, by simpa using h2, fun i hi => ?_⟩
        have h4 : (lensN L L.length).all (fun n => decide (n ≤ bar)) = true := by simpa using h3
        rw [List.all_eq_true] at h4
        have hl : i < (lensN L L.length).length := by rw [lensN_len]; exact hi
        have := h4 _ (List.getElem_mem hl)
        rw [intsAt_lt hl]; simpa using this

set_option maxHeartbeats 3200000 in
theorem specCutBars_any (w : World) (L : List Tube) (v : Value) (bar : Int) (hv : Sl w 2 v L.length (tubeRow L)) (_ : tubeFit L) (hn : L.length ≤ 4194304) :
    Calls Try.prog 29 #[v, .int .i64 bar] w (RetSC w.heap.size 2 1 intsRow (cutF L bar) w) := by
  have Hv := Lib.hid hv
  clear hv
  by_cases h0 : barsCode L bar = 0
  · obtain ⟨h1, h2, hle0⟩ := barsCode_zero h0
    have h8 := (areTubes_iff h1).2.1
    have hbar : 1000 ≤ bar ∧ bar ≤ 6000 := by simpa [inR] using h2
    have HC := Lib.hid (show cutF L bar = ((cutSt bar (lensN L L.length) L.length).1, 0) by simp [cutF, h0])
    obtain ⟨i0, hi, hz0, hz1, hz2⟩ := info_parts Try.info_ints
    go_enter Try.func29, Try.ntmps29
    go_wp2_with fail
    refine (specBars_any w L _ bar Hv.out hn).mono ?_
    rintro e w2 ⟨rfl, hb2⟩
    rw [h0]
    clear h0
    go_wp2_with fail
    refine (specLengths_any w2 L _ (Hv.out.below hb2) h1).mono ?_
    rintro e w4 ⟨hlen, y, rfl, ho, hb4⟩
    obtain ⟨Ad, cd, rfl, _, _⟩ := own_slice ho
    have b4 := hb2.trans (hb4.mono hb2.size)
    obtain ⟨D, hD⟩ : ∃ D, D = lensN L L.length := ⟨_, rfl⟩
    have hDl : D.length = L.length := by rw [hD, lensN_len]
    have hDb : ∀ i, i < D.length → 1 ≤ intsAt D i ∧ intsAt D i ≤ 2829 := fun i hi => by
      rw [hD, lensN_at L (by omega)]; exact hlen i (by omega)
    rw [← hD, ← hDl] at ho hle0 HC
    have Hd := Lib.hid (Rd.of_own ho)
    have HDb := Lib.hid hDb
    have Hle0 := Lib.hid hle0
    have hD8 : D.length ≤ 8 := by omega
    rw [← hDl]
    clear ho hlen hb2 hb4 hD hDb hDl hle0
    have hsz4 := b4.size
    go_wp2
    go_loopw [8, 9, 10] (fun s l i wr => ∃ (k : Nat) (Ao Al : Option Addr) (co cl : Nat) (out left : List Int), k ≤ D.length ∧ i = .int .i64 k ∧ (out, left) = cutSt bar D k ∧ s = .slice Ao out.length co ∧ l = .slice Al left.length cl ∧
        wr.ownsRow w4.heap.size 2 1 (.slice Ao out.length co) out.length (intsRow out) ∧ wr.ownsRow w4.heap.size 2 1 (.slice Al left.length cl) left.length (intsRow left) ∧
        ((Value.slice Ao out.length co).ownBlock = none ∨ (Value.slice Ao out.length co).ownBlock ≠ (Value.slice Al left.length cl).ownBlock) ∧ Below w4.heap.size w4 wr) (fun _ _ i _ => D.length - (intOf i).toNat)
    case atStart => exact ⟨0, some ⟨w4.heap.size, 0, none⟩, some ⟨w4.heap.size + 1, 0, none⟩, 0, 0, [], [], Nat.zero_le _, rfl, rfl, rfl, rfl, (own_empty _ _ _ (Nat.le_refl _)).alloc _, own_empty' _ _ _ (by simp) (by simp), .inr (by simp [Value.ownBlock]), ((Below.refl _ _).alloc (Nat.le_refl _) _).alloc (by simp) _⟩
    case round =>
      obtain ⟨k, Ao, Al, co, cl, out, left, hk, rfl, hst, rfl, rfl, ho, hl, hne, hb⟩ := hrel
      have hbd := cutSt_bd hbar (fun i hi => (HDb.out i hi).1) k hk (fun i hi => Hle0.out i (by omega))
      rw [← hst] at hbd
      obtain ⟨hol, hll, hlb⟩ := hbd
      try simp only at hol hll hlb
      rw [hol] at ho hne ⊢
      have Hol := Lib.hid hol
      clear hol
      have Hst := Lib.hid hst
      have Ho := Lib.hid ho
      have Hl := Lib.hid hl
      have Hne := Lib.hid hne
      have Hlb := Lib.hid hlb
      clear hst ho hl hne hlb
      have hsz := hb.size
      by_cases hlt : k < D.length
      · obtain ⟨g, o, rfl, hg, c0⟩ := (Hd.out.below hb (Nat.le_refl _)).ints hlt
        have hnb := HDb.out k hlt
        have hnb2 := Hle0.out k hlt
        obtain ⟨n, hn'⟩ : ∃ n, n = intsAt D k := ⟨_, rfl⟩
        rw [← hn'] at c0 hnb hnb2
        have HN := Lib.hid hn'
        clear hn'
        go_wp2
        rename World => wo
        go_loopw [11] (fun i wr => ∃ j : Nat, j ≤ left.length ∧ i = .int .i64 j ∧ (∀ a, a < j → intsAt left a < n + 3) ∧ wr.ownsRow w4.heap.size 2 1 (.slice Ao k co) out.length (intsRow out) ∧ wr.ownsRow w4.heap.size 2 1 (.slice Al left.length cl) left.length (intsRow left) ∧ Below w4.heap.size w4 wr) (fun i _ => left.length - (intOf i).toNat)
        case atStart => exact ⟨0, Nat.zero_le _, rfl, fun a h => absurd h (by omega), by rw [Hol.out]; exact Ho.out, Hl.out, hb⟩
        case round =>
          clear c0
          obtain ⟨j, hj, rfl, hall, ho, hl, hb⟩ := hrel
          rw [Hol.out] at ho
          have Ho := Lib.hid ho
          have Hl := Lib.hid hl
          have Hall := Lib.hid hall
          clear hall ho hl
          have hsz := hb.size
          obtain ⟨g', o', hA, hg', c0⟩ := (Hd.out.below hb (Nat.le_refl _)).ints hlt
          injection hA with hA
          injection hA with hA1 hA2
          subst hA1
          subst hA2
          rw [← HN.out] at c0
          have i0' : (0 : Int) ≤ (k : Int) := Int.natCast_nonneg _
          have i1 : (k : Int) < (D.length : Int) := by omega
          have m0 : IntKind.i64.wrap (n + 3) = n + 3 := by rw [IntKind.wrap_i64]; omega
          by_cases hjl : j < left.length
          · obtain ⟨g1, cc, hA1, hgb, hgl⟩ := own_form Hl.out (by omega)
            injection hA1 with hA1 hn1 hc1
            subst hA1
            clear hn1 hc1 cc
            have d0 : wr.cell? ⟨g1, j, none⟩ = some (.int .i64 (intsAt left j)) := (Hl.out.cellAt j (by omega)).trans (intsRow_at left j hjl)
            have f0 := Hl.out.frozenAt j
            have hx := Hlb.out j hjl
            have j0 : (0 : Int) ≤ (j : Int) := Int.natCast_nonneg _
            have j1 : (j : Int) < (left.length : Int) := by omega
            by_cases hx2 : intsAt left j < n + 3
            · have t2 : decide (intsAt left j < n + 3) = true := decide_eq_true hx2
              go_wp2
              go_quiet (fail)
              go_wp2
              go_roundw
              case rel => exact ⟨j + 1, by omega, by go_num, fun a ha => by
                by_cases e : a = j
                · subst e; exact hx2
                · exact Hall.out a (by omega), by rw [Hol.out]; exact Ho.out, Hl.out, below_drewN hb _⟩
              case measure => simp [intOf]; omega
            · have t2 : decide (intsAt left j < n + 3) = false := decide_eq_false hx2
              have hfit : fitAt left (n + 3) = j := fitAt_eq left (n + 3) j hj Hall.out (fun _ => by omega)
              have E := Lib.hid (show (out ++ [(j : Int)], left.set j (intsAt left j - (n + 3))) = cutSt bar D (k + 1) by
                rw [cutSt_succ bar D hlt, ← Hst.out, ← HN.out, cutStep_old hfit hjl])
              clear hfit
              have t1 : ((j : Int) == (left.length : Int)) = false := by simp; omega
              have m1 : IntKind.i64.wrap (intsAt left j - n) = intsAt left j - n := by rw [IntKind.wrap_i64]; omega
              have m2 : IntKind.i64.wrap (intsAt left j - n - 3) = intsAt left j - n - 3 := by rw [IntKind.wrap_i64]; omega
              go_wp2
              go_quiet (fail)
              go_wp2
              go_region
              all_goals
                obtain ⟨wd, hwd⟩ : ∃ wd, wd = wr.drewN (nq + 1) := ⟨_, rfl⟩
                have Hod := Lib.hid (show wd.ownsRow w4.heap.size 2 1 (.slice Ao k co) k (intsRow out) by rw [hwd]; exact Ho.out)
                have Hld := Lib.hid (show wd.ownsRow w4.heap.size 2 1 (.slice (some ⟨g1, 0, none⟩) left.length cl) left.length (intsRow left) by rw [hwd]; exact Hl.out)
                have hbd : Below w4.heap.size w4 wd := by rw [hwd]; exact below_drewN hb _
                have hszd := hbd.size
                rw [← hwd]
                clear hwd d0 f0 c0
                have hne1 : (Value.slice Ao k co).ownBlock ≠ some g1 := by
                  rcases Hne.out with h | h
                  · rw [h]; simp
                  · exact h
                have Hne1 := Lib.hid hne1
                clear hne1
                have em : intsAt left j - n - 3 = intsAt left j - (n + 3) := by omega
                rw [em]
                clear em m0 m1 m2
                go_wp2_with (at_builtin; refine wpList_append_sl _ rfl (.tmp 68) (.tmp 70) _ rfl w4.heap.size 2 i0 _ 1 8 Try.underlying35 hi hz0 hz1 hz2 rfl (by omega) _ k (intsRow out) rfl ((own_far Hod.out Hne1.out _).alloc _) (some ⟨wd.heap.size, 0, none⟩) 1 1 [.int .i64 (j : Int)] rfl (Rd.of_block (cs := #[.int .i64 (j : Int)]) (heap_set_new wd _ _ _) rfl) (by intro x hx; simp at hx; subst hx; rfl) (by unfold maxLen; omega) (by omega) (by simp [World.setCell]; omega) ?_; intro A9 c9 w9 ho9 hg9 hor9)
                have Hl2 := Lib.hid (show (wd.setCell ⟨g1, j, none⟩ (.int .i64 (intsAt left j - (n + 3)))).ownsRow w4.heap.size 2 1 (.slice (some ⟨g1, 0, none⟩) left.length cl) left.length (intsRow (left.set j (intsAt left j - (n + 3)))) by rw [← intsRow_set]; exact (Hld.out.stored j _).1)
                have b9 : Below w4.heap.size w4 w9 := ((hbd.setCell (show w4.heap.size ≤ g1 from hgb) _).alloc (by simp [World.setCell]; omega) _).grown hg9 (by simp [World.setCell]; omega) (fun q hq => (World.ownsRow.lt Hod.out q hq).1)
                have hl9 := (Hl2.out.alloc (.cells #[.int .i64 (j : Int)] 2)).kept hg9 (ne_symm (by rcases Hne.out with h | h; exact .inl h; exact .inr h))
                have hne9 := ne_symm (apart_new (Hl2.out.alloc (.cells #[.int .i64 (j : Int)] 2)) (ne_symm Hne.out) hor9 (by simp [World.setCell]))
                have Hl9 := Lib.hid hl9
                have Ho9 := Lib.hid ho9
                have Hne9 := Lib.hid hne9
                clear hl9 ho9 hne9 hg9 hor9
                go_roundw
                case rel =>
                  refine ⟨k + 1, A9, some ⟨g1, 0, none⟩, c9, cl, out ++ [(j : Int)], left.set j (intsAt left j - (n + 3)), by omega, by go_num, E.out, ?_, ?_, ?_, ?_, ?_, b9⟩
                  · rw [List.length_append, Hol.out]; rfl
                  · rw [List.length_set]
                  · rw [List.length_append, Hol.out, intsRow_append]; exact Ho9.out
                  · rw [List.length_set]; exact Hl9.out
                  · rw [List.length_append, Hol.out, List.length_set]; exact Hne9.out
                case measure => simp [intOf]; omega
          · have hjl' : j = left.length := by omega
            subst hjl'
            have hfit : fitAt left (n + 3) = left.length := fitAt_eq left (n + 3) left.length (Nat.le_refl _) Hall.out (fun h => absurd h (by omega))
            have E := Lib.hid (show (out ++ [(left.length : Int)], (left ++ [bar + 3]).set left.length (bar + 3 - (n + 3))) = cutSt bar D (k + 1) by
              rw [cutSt_succ bar D hlt, ← Hst.out, ← HN.out, cutStep_new hfit])
            clear hfit
            have t0 : decide ((left.length : Int) < (left.length : Int)) = false := by simp
            have t1 : ((left.length : Int) == (left.length : Int)) = true := by simp
            go_wp2
            go_quiet (fail)
            have HbD := Lib.hid hb
            obtain ⟨wd, hwd⟩ : ∃ wd, wd = wr.drewN nq := ⟨_, rfl⟩
            have Hod := Lib.hid (show wd.ownsRow w4.heap.size 2 1 (.slice Ao k co) k (intsRow out) by rw [hwd]; exact Ho.out)
            have Hld := Lib.hid (show wd.ownsRow w4.heap.size 2 1 (.slice Al left.length cl) left.length (intsRow left) by rw [hwd]; exact Hl.out)
            have hbd : Below w4.heap.size w4 wd := by rw [hwd]; exact below_drewN hb _
            have hszd := hbd.size
            rw [← hwd]
            clear hwd c0
            go_wp2_with (at_builtin; refine wpList_append_sl _ rfl (.tmp 50) (.tmp 53) _ rfl w4.heap.size 2 i0 _ 1 8 Try.underlying35 hi hz0 hz1 hz2 rfl (by omega) _ left.length (intsRow left) rfl (Hld.out.alloc _) (some ⟨wd.heap.size, 0, none⟩) 1 1 [.int .i64 (bar + 3)] rfl (Rd.of_block (cs := #[.int .i64 (bar + 3)]) (heap_alloc_new _ _) rfl) (by intro x hx; simp at hx; subst hx; rfl) (by unfold maxLen; omega) (by omega) (by simp; omega) ?_; intro A8 c8 w8 ho8 hg8 hor8)
            have b8 : Below w4.heap.size w4 w8 := (hbd.alloc hszd _).grown hg8 (by simp; omega) (fun q hq => (World.ownsRow.lt Hld.out q hq).1)
            have Ho8o := Lib.hid ((Hod.out.alloc (.cells #[.int .i64 (bar + 3)] 2)).kept hg8 Hne.out)
            have hne8 := apart_new (Hod.out.alloc (.cells #[.int .i64 (bar + 3)] 2)) Hne.out hor8 (Nat.le_refl _)
            have hq8 := own_form ho8 (by omega)
            have Ho8 := Lib.hid ho8
            have s8 := b8.size
            obtain ⟨g1, cc, hA1, hgb, hgl⟩ := hq8
            injection hA1 with hA1 hn1 hc1
            subst hA1
            have Hne8 := Lib.hid hne8
            clear hn1 hc1 cc ho8 hg8 hor8 hne8
            have d8 : w8.cell? ⟨g1, left.length, none⟩ = some (.int .i64 (bar + 3)) := (Ho8.out.cellAt left.length (by omega)).trans (by simp [intsRow])
            have f8 := Ho8.out.frozenAt left.length
            obtain ⟨g', o', hA, hg', c0⟩ := (Hd.out.below b8 (Nat.le_refl _)).ints hlt
            injection hA with hA
            injection hA with hA1 hA2
            subst hA1
            subst hA2
            rw [← HN.out] at c0
            have j0 : (0 : Int) ≤ (left.length : Int) := Int.natCast_nonneg _
            have m1 : IntKind.i64.wrap (bar + 3 - n) = bar + 3 - n := by rw [IntKind.wrap_i64]; omega
            have m2 : IntKind.i64.wrap (bar + 3 - n - 3) = bar + 3 - n - 3 := by rw [IntKind.wrap_i64]; omega
            go_region
            all_goals
              have em : bar + 3 - n - 3 = bar + 3 - (n + 3) := by omega
              rw [em]
              obtain ⟨wf, hwf⟩ : ∃ wf, wf = (w8.setCell ⟨g1, left.length, none⟩ (.int .i64 (bar + 3 - (n + 3)))).drew := ⟨_, rfl⟩
              have Hof := Lib.hid (show wf.ownsRow w4.heap.size 2 1 (.slice Ao k co) k (intsRow out) by rw [hwf]; exact (own_far Ho8o.out (by rcases Hne8.out with h | h; (rw [h]; simp); exact h) _).drew)
              have Hlf := Lib.hid (show wf.ownsRow w4.heap.size 2 1 (.slice (some ⟨g1, 0, none⟩) (left.length + 1) c8) (left.length + 1) (intsRow ((left ++ [bar + 3]).set left.length (bar + 3 - (n + 3)))) by rw [hwf, ← intsRow_set, intsRow_append]; exact (Ho8.out.stored left.length _).1.drew)
              have hbf : Below w4.heap.size w4 wf := by rw [hwf]; exact (b8.setCell (show w4.heap.size ≤ g1 from hgb) _).drew
              have hszf := hbf.size
              rw [← hwf]
              clear hwf d8 f8 c0 em m0 m1 m2
              go_wp2_with (at_builtin; refine wpList_append_sl _ rfl (.tmp 68) (.tmp 70) _ rfl w4.heap.size 2 i0 _ 1 8 Try.underlying35 hi hz0 hz1 hz2 rfl (by omega) _ k (intsRow out) rfl (Hof.out.alloc _) (some ⟨wf.heap.size, 0, none⟩) 1 1 [.int .i64 (left.length : Int)] rfl (Rd.of_block (cs := #[.int .i64 (left.length : Int)]) (heap_alloc_new _ _) rfl) (by intro x hx; simp at hx; subst hx; rfl) (by unfold maxLen; omega) (by omega) (by simp; omega) ?_; intro A9 c9 w9 ho9 hg9 hor9)
              have b9 : Below w4.heap.size w4 w9 := (hbf.alloc hszf _).grown hg9 (by simp; omega) (fun q hq => (World.ownsRow.lt Hof.out q hq).1)
              have hl9 := (Hlf.out.alloc (.cells #[.int .i64 (left.length : Int)] 2)).kept hg9 (ne_symm (by rcases Hne8.out with h | h; exact .inl h; exact .inr h))
              have hne9 := ne_symm (apart_new (Hlf.out.alloc (.cells #[.int .i64 (left.length : Int)] 2)) (ne_symm Hne8.out) hor9 (by simp))
              have Hl9 := Lib.hid hl9
              have Ho9 := Lib.hid ho9
              have Hne9 := Lib.hid hne9
              clear hl9 ho9 hne9 hg9 hor9
              go_roundw
              case rel =>
                refine ⟨k + 1, A9, some ⟨g1, 0, none⟩, c9, c8, out ++ [(left.length : Int)], (left ++ [bar + 3]).set left.length (bar + 3 - (n + 3)), by omega, by go_num, E.out, ?_, ?_, ?_, ?_, ?_, b9⟩
                · rw [List.length_append, Hol.out]; rfl
                · rw [List.length_set, List.length_append]; rfl
                · rw [List.length_append, Hol.out, intsRow_append]; exact Ho9.out
                · rw [List.length_set, List.length_append]; exact Hl9.out
                · rw [List.length_append, Hol.out, List.length_set, List.length_append]; exact Hne9.out
              case measure => simp [intOf]; omega
      · have hkD : k = D.length := by omega
        have H := Lib.hid (show cutF L bar = (out, 0) by rw [HC.out, ← hkD, ← Hst.out])
        go_wp2
        go_ret2
        exact RetSC.ok H.out Ho.out Hol.out.symm rfl hsz4 (b4.trans (hb.mono hsz4))
  · have H := Lib.hid (show cutF L bar = ([], barsCode L bar) by simp [cutF, h0])
    have t0 : (barsCode L bar != 0) = true := by simpa using h0
    clear h0
    go_enter Try.func29, Try.ntmps29
    go_wp2_with fail
    refine (specBars_any w L _ bar Hv.out hn).mono ?_
    rintro e w2 ⟨rfl, hb2⟩
    go_wp2
    go_ret2
    exact RetSC.err H.out rfl hb2

end Go.Proofs.Ytmjjlpkleapaeaa
