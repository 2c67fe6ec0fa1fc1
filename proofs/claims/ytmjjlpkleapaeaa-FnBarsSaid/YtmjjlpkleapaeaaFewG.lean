/- FewestBars: its walk in the program and in the reference. -/
import Derived.Test.YtmjjlpkleapaeaaFewF
namespace Go.Proofs.Ytmjjlpkleapaeaa
open Go.RowKit

def vLen : Value → Nat
  | .slice _ n _ => n
  | _ => 0
theorem wholeBars_len (bar : Int) (b : Nat) : (wholeBars bar b).length = b := by simp [wholeBars]
theorem wholeBars_at {bar : Int} {b k : Nat} (h : k < b) : intsAt (wholeBars bar b) k = bar + 3 := by
  rw [intsAt_lt (by rw [wholeBars_len]; exact h)]; simp [wholeBars]
theorem wholeBars_succ (bar : Int) (b : Nat) : wholeBars bar (b + 1) = wholeBars bar b ++ [bar + 3] := by simp [wholeBars, List.replicate_succ']
theorem fewGo_yes {D : List Int} {bar : Int} {b : Nat} (hb : b ≤ 8) (h : fits D (wholeBars bar b) = true) : fewGo D bar (9 - b) b = b := by
  rw [show 9 - b = (8 - b) + 1 by omega, fewGo, if_pos h]
theorem fewGo_no {D : List Int} {bar : Int} {b : Nat} (hb : b ≤ 8) (h : fits D (wholeBars bar b) = false) : fewGo D bar (9 - b) b = fewGo D bar (9 - (b + 1)) (b + 1) := by
  rw [show 9 - b = (8 - b) + 1 by omega, fewGo, h, show 9 - (b + 1) = 8 - b by omega]; rfl
theorem fits_less {D : List Int} {bar : Int} {b : Nat} (hD : ∀ i, i < D.length → intsAt D i ≤ bar) (h : fits (D.map (· + 3)) (wholeBars bar b) = false) : b < D.length := by
  rcases Nat.lt_or_ge b D.length with h1 | h1
  · exact h1
  · rw [fits_many (bar + 3) _ _ (fun n hn => by
      obtain ⟨m, hm, rfl⟩ := List.mem_map.1 hn
      obtain ⟨i, hi, rfl⟩ := List.mem_iff_getElem.1 hm
      have := hD i hi
      rw [intsAt_lt hi] at this
      show D[i] + 3 ≤ bar + 3
      omega) (by simp [wholeBars]; exact h1)] at h
    cases h
theorem fewF_ok {L : List Tube} {bar : Int} {D : List Int} {b : Nat} (h : barsCode L bar = 0) (hD : D = lensN L L.length) (h2 : fewGo (D.map (· + 3)) bar (9 - b) b = fewest (D.map (· + 3)) bar) (hb : b ≤ 8) (hf : fits (D.map (· + 3)) (wholeBars bar b) = true) : fewF L bar = ((b : Int), 0) := by
  have e : fewest (lens3 L) bar = b := by rw [lens3, ← hD, ← h2, fewGo_yes hb hf]
  simp only [fewF, if_pos h, e]
theorem own_one (w : World) (x : Int) : (w.alloc (.cells #[.int .i64 x] 2)).ownsRow w.heap.size 2 1 (.slice (some ⟨w.heap.size, 0, none⟩) 1 1) 1 [.int .i64 x] :=
  ⟨rfl, .inr ⟨w.heap.size, 1, #[.int .i64 x], rfl, Nat.le_refl _, heap_alloc_new w _, Nat.le_refl _, by simp [maxLen], rfl, rfl⟩⟩
theorem map3_take (D : List Int) {k : Nat} (h : k < D.length) : (D.take (k + 1)).map (· + 3) = (D.take k).map (· + 3) ++ [intsAt D k + 3] := by
  rw [take_snoc D 0 h, List.map_append]; rfl
theorem map3_at (D : List Int) {i : Nat} (h : i < D.length) : intsAt (D.map (· + 3)) i = intsAt D i + 3 := by
  rw [intsAt_lt (by simpa using h), intsAt_lt h]; simp

set_option maxHeartbeats 4000000 in
theorem implFewestBars_any (w : World) (L : List Tube) (v : Value) (bar : Int) (hv : Sl w 2 v L.length (tubeRow L)) (_ : tubeFit L) (hn : L.length ≤ 4194304) :
    Calls Try.prog 28 #[v, .int .i64 bar] w (RetIC (fewF L bar) w) := by
  have Hv := Lib.hid hv
  clear hv
  cases h1 : areTubes L
  · have H := Lib.hid (show fewF L bar = (0, 1) by simp [fewF, barsCode, h1])
    go_enter Try.func28, Try.ntmps28
    go_wp2_with fail
    refine (implAreTubes_any w L _ Hv.out hn).mono ?_
    rintro e w2 ⟨rfl, hb2⟩
    rw [h1]
    go_wp2
    go_ret2
    exact RetIC.ok H.out hb2
  · have h8 := (areTubes_iff h1).2.1
    cases h2 : inR bar 1000 6000
    · have H := Lib.hid (show fewF L bar = (0, 2) by simp [fewF, barsCode, h1, h2])
      go_enter Try.func28, Try.ntmps28
      go_wp2_with fail
      refine (implAreTubes_any w L _ Hv.out hn).mono ?_
      rintro e w2 ⟨rfl, hb2⟩
      rw [h1]
      go_wp2_with (go_at_call 55; refine (implBar_any _ _).mono ?_; rintro e w3 ⟨rfl, hw3⟩; cases hw3)
      go_ret2
      exact RetIC.ok H.out hb2
    · have hbar : 1000 ≤ bar ∧ bar ≤ 6000 := by simpa [inR] using h2
      obtain ⟨bar1, bar2⟩ := hbar
      obtain ⟨i0, hi, hz0, hz1, hz2⟩ := info_parts Try.info_ints
      go_enter Try.func28, Try.ntmps28
      go_wp2_with fail
      refine (implAreTubes_any w L _ Hv.out hn).mono ?_
      rintro e w2 ⟨rfl, hb2⟩
      rw [h1]
      go_wp2_with (go_at_call 55; refine (implBar_any _ _).mono ?_; rintro e w3 ⟨rfl, hw3⟩; cases hw3)
      refine (implLengths_any w2 L _ (Hv.out.below hb2) h1).mono ?_
      rintro e w4 ⟨hlen, y, rfl, ho, hb4⟩
      obtain ⟨Ad, cd, rfl, _, _⟩ := own_slice ho
      have b4 := hb2.trans (hb4.mono hb2.size)
      obtain ⟨D, hD⟩ : ∃ D, D = lensN L L.length := ⟨_, rfl⟩
      have hDl : D.length = L.length := by rw [hD, lensN_len]
      have hDb : ∀ i, i < D.length → 1 ≤ intsAt D i ∧ intsAt D i ≤ 2829 := fun i hi => by
        rw [hD, lensN_at L (by omega)]; exact hlen i (by omega)
      rw [← hD, ← hDl] at ho
      have Hd := Lib.hid (Rd.of_own ho)
      have HD := Lib.hid hD
      have HDb := Lib.hid hDb
      have hD8 : D.length ≤ 8 := by omega
      rw [← hDl]
      clear ho hlen hb2 hb4 hD hDb hDl
      have hsz4 := b4.size
      go_wp2
      go_loopw [6, 19] (fun s i wr => ∃ (k : Nat) (Ao : Option Addr) (co : Nat), k ≤ D.length ∧ i = .int .i64 k ∧ s = .slice Ao k co ∧ (∀ i, i < k → intsAt D i ≤ bar) ∧
          wr.ownsRow w4.heap.size 2 1 (.slice Ao k co) k (intsRow ((D.take k).map (· + 3))) ∧ Below w4.heap.size w4 wr) (fun _ i _ => D.length - (intOf i).toNat)
      case atStart => exact ⟨0, none, 0, Nat.zero_le _, rfl, rfl, fun i h => absurd h (by omega), World.ownsRow_nil _ _ _ _, Below.refl _ _⟩
      case round =>
        obtain ⟨k, Ao, co, hk, rfl, rfl, hle, ho, hb⟩ := hrel
        have Hle := Lib.hid hle
        have Ho := Lib.hid ho
        have hsz := hb.size
        clear hle ho
        by_cases hlt : k < D.length
        · obtain ⟨g, o, rfl, hg, c0⟩ := (Hd.out.below hb (Nat.le_refl _)).ints hlt
          have hnb := HDb.out k hlt
          obtain ⟨n, hn'⟩ : ∃ n, n = intsAt D k := ⟨_, rfl⟩
          rw [← hn'] at c0 hnb
          have HN := Lib.hid hn'
          clear hn'
          by_cases hgt : bar < n
          · have H := Lib.hid (show fewF L bar = (0, 4) by
              have : (lensN L L.length).all (fun n => decide (n ≤ bar)) = false := by rw [← HD.out]; exact all_gt hlt (by rw [← HN.out]; omega)
              simp [fewF, barsCode, h1, h2, this])
            go_wp2
            go_ret2
            exact RetIC.ok H.out (b4.trans (hb.mono hsz4))
          · have HM := Lib.hid (map3_take D hlt)
            go_wp2_with (at_builtin; refine wpList_append_sl _ rfl (.tmp 26) (.tmp 29) _ rfl w4.heap.size 2 i0 _ 1 8 Try.underlying35 hi hz0 hz1 hz2 rfl (by omega) _ k (intsRow ((D.take k).map (· + 3))) rfl (Ho.out.alloc _) (some ⟨wr.heap.size, 0, none⟩) 1 1 [.int .i64 (n + 3)] rfl (Rd.of_block (cs := #[.int .i64 (n + 3)]) (heap_alloc_new _ _) rfl) (by intro x hx; simp at hx; subst hx; rfl) (by unfold maxLen; omega) (by omega) (by simp; omega) ?_; intro A9 c9 w9 ho9 hg9 hor9)
            have b9 : Below w4.heap.size w4 w9 := (hb.alloc hsz _).grown hg9 (by simp; omega) (fun q hq => (World.ownsRow.lt Ho.out q hq).1)
            have Ho9 := Lib.hid ho9
            clear ho9 hg9 hor9
            go_roundw
            case rel =>
              refine ⟨k + 1, A9, c9, by omega, by go_num, rfl, fun i hi => ?_, ?_, b9⟩
              · by_cases e : i = k
                · subst e; rw [← HN.out]; omega
                · exact Hle.out i (by omega)
              · rw [HM.out, intsRow_append, ← HN.out]; exact Ho9.out
            case measure => simp [intOf]; omega
        · have hkD : k = D.length := by omega
          have hall : ∀ i, i < D.length → intsAt D i ≤ bar := fun i hi => Hle.out i (by omega)
          have hcode : barsCode L bar = 0 := by
            have h4 : (lensN L L.length).all (fun n => decide (n ≤ bar)) = true := by rw [← HD.out]; exact all_le hall
            simp [barsCode, h1, h2, h4]
          have Hcode := Lib.hid hcode
          have Hall := Lib.hid hall
          obtain ⟨D3, hD3⟩ : ∃ D3, D3 = D.map (· + 3) := ⟨_, rfl⟩
          have hD3l : D3.length = D.length := by rw [hD3]; simp
          have ho2 := Ho.out
          rw [hkD, List.take_length, ← hD3] at ho2
          have hks : Ao = Ao := rfl
          have HD3 := Lib.hid hD3
          have HD3l := Lib.hid hD3l
          have hb3 : ∀ n ∈ D3, 0 ≤ n ∧ n ≤ 100000 := by
            intro n hn
            rw [hD3] at hn
            obtain ⟨m, hm, rfl⟩ := List.mem_map.1 hn
            obtain ⟨i, hi, rfl⟩ := List.mem_iff_getElem.1 hm
            have := HDb.out i hi
            rw [intsAt_lt hi] at this
            show 0 ≤ D[i] + 3 ∧ D[i] + 3 ≤ 100000
            omega
          have Hb3 := Lib.hid hb3
          have hobl : ∀ q, (Value.slice Ao D.length co).ownBlock = some q → w4.heap.size ≤ q ∧ q < wr.heap.size := fun q hq => World.ownsRow.lt ho2 q hq
          have Hobl := Lib.hid hobl
          have Hsl := Lib.hid (show Sl wr 1 (.slice Ao D.length co) D3.length (intsRow D3) by rw [hD3l]; exact Sl.of_own ho2)
          have Hkd := Lib.hid hkD
          clear hall hcode hD3 hD3l ho2 hb3 hobl hkD hks Ho
          go_wp2
          rw [Hkd.out]
          go_loopw [9] (fun s wx => ∃ (b g c : Nat), 1 ≤ b ∧ b ≤ 8 ∧ s = .slice (some ⟨g, 0, none⟩) b c ∧ wx.ownsRow wr.heap.size 2 1 (.slice (some ⟨g, 0, none⟩) b c) b (intsRow (wholeBars bar b)) ∧
              Sl wx 1 (.slice Ao D.length co) D3.length (intsRow D3) ∧ fewGo D3 bar (9 - b) b = fewest D3 bar ∧ Below wr.heap.size wr wx) (fun s _ => 9 - vLen s)
          case atStart => exact ⟨1, wr.heap.size, 1, Nat.le_refl _, by omega, rfl, own_one wr (bar + 3), Hsl.out.below ((Below.refl _ _).alloc (Nat.le_refl _) _), rfl, (Below.refl _ _).alloc (Nat.le_refl _) _⟩
          case round =>
            rename World => wx
            obtain ⟨b, g, c9, hb1, hb8, rfl, hown, hslx, hfew, hbx⟩ := hrel
            have Hown := Lib.hid hown
            have Hslx := Lib.hid hslx
            have Hfew := Lib.hid hfew
            have hglt := World.ownsRow.lt hown g rfl
            obtain ⟨hg1, hg2⟩ := hglt
            have hszx := hbx.size
            have P := packed_any wr.heap.size g c9 D3 (wholeBars bar b) (.slice Ao D.length co) wx Hslx.out (fun _ h => by have := (Hobl.out _ h).2; omega) (by rw [wholeBars_len]; exact hown) Hb3.out (fun k hk => by rw [wholeBars_len] at hk; rw [wholeBars_at hk]; omega) (by rw [wholeBars_len]; exact hb8)
            rw [wholeBars_len] at P
            have HP := Lib.hid P
            clear hown hslx hfew P
            go_wp2_with fail
            refine HP.out.mono ?_
            rintro e w6 ⟨rfl, ho6, hg6⟩
            rw [wholeBars_len] at ho6
            have b6 : Below wr.heap.size wr w6 := hbx.grown hg6 hszx (fun q hq => by injection hq with hq; omega)
            have Ho6 := Lib.hid ho6
            have Hsl6 := Lib.hid (Hslx.out.off (g := g) (fun _ h => by have := (Hobl.out _ h).2; omega) hg6)
            have hsz6 := b6.size
            clear ho6 hg6
            cases hf : fits D3 (wholeBars bar b)
            · have hless := fits_less (b := b) Hall.out (by rw [← HD3.out]; exact hf)
              have HF := Lib.hid (fewGo_no hb8 hf)
              clear hf
              go_wp2_with (at_builtin; refine wpList_append_sl _ rfl (.tmp 39) (.tmp 42) _ rfl wr.heap.size 2 i0 _ 1 8 Try.underlying35 hi hz0 hz1 hz2 rfl (by omega) _ b (intsRow (wholeBars bar b)) rfl (Ho6.out.alloc _) (some ⟨w6.heap.size, 0, none⟩) 1 1 [.int .i64 (bar + 3)] rfl (Rd.of_block (cs := #[.int .i64 (bar + 3)]) (heap_alloc_new _ _) rfl) (by intro x hx; simp at hx; subst hx; rfl) (by unfold maxLen; omega) (by omega) (by simp; omega) ?_; intro A9 c10 w9 ho9 hg9 hor9)
              have b9 : Below wr.heap.size wr w9 := (b6.alloc hsz6 _).grown hg9 (by simp; omega) (fun q hq => (World.ownsRow.lt Ho6.out q hq).1)
              have Hsl9 := Lib.hid ((Hsl6.out.below ((Below.refl _ _).alloc (Nat.le_refl _) _)).grown hg9 (fun q hq h => by
                have h1 := (World.ownsRow.lt Ho6.out q hq).1
                have h2 := (Hobl.out q h).2
                omega))
              obtain ⟨g9, cx, hA9, _, _⟩ := own_form ho9 (by omega)
              injection hA9 with hA9
              subst hA9
              have Ho9 := Lib.hid ho9
              clear ho9 hg9 hor9
              go_roundw
              case rel => exact ⟨b + 1, g9, c10, by omega, by omega, rfl, by rw [wholeBars_succ, intsRow_append]; exact Ho9.out, Hsl9.out, by rw [← HF.out]; exact Hfew.out, b9⟩
              case measure => simp [vLen]; omega
            · have H := Lib.hid (fewF_ok (b := b) Hcode.out HD.out (by rw [← HD3.out]; exact Hfew.out) hb8 (by rw [← HD3.out]; exact hf))
              clear hf
              go_wp2
              go_ret2
              exact RetIC.ok H.out (b4.trans ((hb.trans (b6.mono hsz)).mono hsz4))

set_option maxHeartbeats 4000000 in
theorem specFewestBars_any (w : World) (L : List Tube) (v : Value) (bar : Int) (hv : Sl w 2 v L.length (tubeRow L)) (_ : tubeFit L) (hn : L.length ≤ 4194304) :
    Calls Try.prog 27 #[v, .int .i64 bar] w (RetIC (fewF L bar) w) := by
  have Hv := Lib.hid hv
  clear hv
  by_cases h0 : barsCode L bar = 0
  · obtain ⟨h1, h2, hle0⟩ := barsCode_zero h0
    have h8 := (areTubes_iff h1).2.1
    have hbar : 1000 ≤ bar ∧ bar ≤ 6000 := by simpa [inR] using h2
    obtain ⟨bar1, bar2⟩ := hbar
    have Hcode := Lib.hid h0
    obtain ⟨i0, hi, hz0, hz1, hz2⟩ := info_parts Try.info_ints
    go_enter Try.func27, Try.ntmps27
    go_wp2_with fail
    refine (specBars_any w L _ bar Hv.out hn).mono ?_
    rintro e w2 ⟨rfl, hb2⟩
    rw [h0]
    clear h0
    go_wp2_with fail
    refine (specLengths_any w2 L _ (Hv.out.below hb2) h1).mono ?_
    rintro e w4 ⟨hlen, y, rfl, ho, hb4⟩
    obtain ⟨Ad, cd, rfl, _, _⟩ := own_slice ho
    have b4 := hb2.trans (hb4.mono hb2.size)
    obtain ⟨D, hD⟩ : ∃ D, D = lensN L L.length := ⟨_, rfl⟩
    have hDl : D.length = L.length := by rw [hD, lensN_len]
    have hDb : ∀ i, i < D.length → 0 ≤ intsAt D i ∧ intsAt D i ≤ 100000 := fun i hi => by
      have := hlen i (by omega)
      rw [hD, lensN_at L (by omega)]; omega
    rw [← hD, ← hDl] at ho hle0
    have Hsl := Lib.hid (Sl.of_own ho)
    have HD := Lib.hid hD
    have HDb := Lib.hid hDb
    have Hall := Lib.hid hle0
    have hD8 : D.length ≤ 8 := by omega
    rw [← hDl]
    clear ho hlen hb2 hb4 hD hDb hDl hle0
    have hsz4 := b4.size
    go_wp2
    go_loopw [8] (fun s wx => ∃ (b g c : Nat), 1 ≤ b ∧ b ≤ 8 ∧ s = .slice (some ⟨g, 0, none⟩) b c ∧ wx.ownsRow w4.heap.size 2 1 (.slice (some ⟨g, 0, none⟩) b c) b (intsRow (wholeBars bar b)) ∧
        fewGo (D.map (· + 3)) bar (9 - b) b = fewest (D.map (· + 3)) bar ∧ Below w4.heap.size w4 wx) (fun s _ => 9 - vLen s)
    case atStart => exact ⟨1, w4.heap.size, 1, Nat.le_refl _, by omega, rfl, own_one w4 (bar + 3), rfl, (Below.refl _ _).alloc (Nat.le_refl _) _⟩
    case round =>
      obtain ⟨b, g, c9, hb1, hb8, rfl, hown, hfew, hbx⟩ := hrel
      have Hown := Lib.hid hown
      have Hfew := Lib.hid hfew
      have hszx := hbx.size
      have P := specFits_any D HDb.out hD8 D.length 0 (wholeBars bar b) _ (.slice (some ⟨g, 0, none⟩) b c9) wr rfl (Nat.zero_le _) (Hsl.out.below hbx) (by rw [wholeBars_len]; exact Sl.of_own hown) (fun k hk => by rw [wholeBars_len] at hk; rw [wholeBars_at hk]; omega) (by rw [wholeBars_len]; exact hb8)
      rw [List.drop_zero] at P
      have HP := Lib.hid P
      clear hown hfew P
      go_wp2_with fail
      refine HP.out.mono ?_
      rintro e w6 ⟨rfl, hb6⟩
      have b6 := hbx.trans (hb6.mono hszx)
      have Ho6 := Lib.hid (own_below Hown.out hb6)
      have hsz6 := b6.size
      cases hf : fits (D.map (· + 3)) (wholeBars bar b)
      · have hless := fits_less (b := b) Hall.out hf
        have HF := Lib.hid (fewGo_no hb8 hf)
        clear hf
        go_wp2_with (at_builtin; refine wpList_append_sl _ rfl (.tmp 24) (.tmp 27) _ rfl w4.heap.size 2 i0 _ 1 8 Try.underlying35 hi hz0 hz1 hz2 rfl (by omega) _ b (intsRow (wholeBars bar b)) rfl (Ho6.out.alloc _) (some ⟨w6.heap.size, 0, none⟩) 1 1 [.int .i64 (bar + 3)] rfl (Rd.of_block (cs := #[.int .i64 (bar + 3)]) (heap_alloc_new _ _) rfl) (by intro x hx; simp at hx; subst hx; rfl) (by unfold maxLen; omega) (by omega) (by simp; omega) ?_; intro A9 c10 w9 ho9 hg9 hor9)
        have b9 : Below w4.heap.size w4 w9 := (b6.alloc hsz6 _).grown hg9 (by simp; omega) (fun q hq => (World.ownsRow.lt Ho6.out q hq).1)
        obtain ⟨g9, cx, hA9, _, _⟩ := own_form ho9 (by omega)
        injection hA9 with hA9
        subst hA9
        have Ho9 := Lib.hid ho9
        clear ho9 hg9 hor9
        go_roundw
        case rel => exact ⟨b + 1, g9, c10, by omega, by omega, rfl, by rw [wholeBars_succ, intsRow_append]; exact Ho9.out, by rw [← HF.out]; exact Hfew.out, b9⟩
        case measure => simp [vLen]; omega
      · have H := Lib.hid (fewF_ok (b := b) Hcode.out HD.out Hfew.out hb8 hf)
        clear hf
        go_wp2
        go_ret2
        exact RetIC.ok H.out (b4.trans (b6.mono hsz4))
  · have H := Lib.hid (show fewF L bar = (0, barsCode L bar) by simp [fewF, h0])
    have t0 : (barsCode L bar != 0) = true := by simpa using h0
    clear h0
    go_enter Try.func27, Try.ntmps27
    go_wp2_with fail
    refine (specBars_any w L _ bar Hv.out hn).mono ?_
    rintro e w2 ⟨rfl, hb2⟩
    go_wp2
    go_ret2
    exact RetIC.ok H.out hb2

end Go.Proofs.Ytmjjlpkleapaeaa
