/- The walks of MakePromise, in the program and in the reference. -/
import Derived.Test.YtgafjchbfbpmmaaPromD
import Derived.Test.YtgafjchbfbpmmaaApp
namespace Go.Proofs.Ytgafjchbfbpmmaa
open Go.RowKit

theorem promiseFit_append {L M : List Promise} (h : promiseFit L) (h' : promiseFit M) : promiseFit (L ++ M) := by
  intro i hi
  by_cases hl : i < L.length
  · rw [promiseAt_append_lt hl]; exact h i hl
  · have : promiseAt (L ++ M) i = promiseAt M (i - L.length) := by simp [promiseAt, List.getD, List.getElem?_append_right (show L.length ≤ i by omega)]
    rw [this]; exact h' _ (by simp at hi; omega)
theorem promiseFit_one {j : Promise} (h : j.name.size ≤ maxLen) : promiseFit [j] := by
  intro i hi
  have : i = 0 := by simpa using hi
  subst this; exact h

set_option maxHeartbeats 2000000 in
theorem implMakePromise_any (w : World) (L : List Promise) (v : Value) (j : Promise) (hv : Sl w 3 v L.length (promiseRow L)) (hs : promiseFit L) (hn : L.length ≤ 4194304) (hj : j.name.size ≤ maxLen) :
    Calls Try.prog 35 #[v, .agg #[.string j.name, .int .i64 j.day, .int .i64 j.min]] w (RetSC w.heap.size 43 3 promiseRow (makePromise L j) w) := by
  have Hv := Lib.hid hv
  have Hs := Lib.hid hs
  clear hs
  obtain ⟨A, c, rfl, hl, hc, hr⟩ := hv
  unfold maxLen at hc
  have Hr := Lib.hid hr
  clear hr
  have hb0 : Below w.heap.size w (w.alloc (.cells #[.string j.name, .int .i64 j.day, .int .i64 j.min] 43)) := (Below.refl _ _).alloc (Nat.le_refl _) _
  cases h1 : arePromises L
  · have H := Lib.hid (show makePromise L j = ([], 1) by simp [makePromise, h1])
    go_enter Try.func35, Try.ntmps35
    go_wp2_with (go_at_call 18; refine (implArePromises_any _ L _ (Hv.out.below hb0) Hs.out hn).mono ?_; rintro e w2 ⟨rfl, hb2⟩)
    go_ret2
    exact RetSC.err H.out rfl (hb0.trans (hb2.mono (by simp)))
  · have hle := arePromises_le h1
    by_cases h40 : L.length = 40
    · have H := Lib.hid (show makePromise L j = ([], 3) by simp [makePromise, h1, h40])
      have t40 : ((L.length : Int) == 40) = true := by rw [h40]; rfl
      have H40 := Lib.hid h40
      clear h40
      go_enter Try.func35, Try.ntmps35
      go_wp2_with (go_at_call 18; refine (implArePromises_any _ L _ (Hv.out.below hb0) Hs.out hn).mono ?_; rintro e w2 ⟨rfl, hb2⟩)
      go_ret2
      exact RetSC.err H.out rfl (hb0.trans (hb2.mono (by simp)))
    · have t40 : ((L.length : Int) == 40) = false := by simp; omega
      have H40 := Lib.hid h40
      clear h40
      obtain ⟨i0, hi, hz0, hz1, hz2⟩ := info_parts Try.infoPromise
      go_enter Try.func35, Try.ntmps35
      go_wp2_with fail
      refine (implArePromises_any _ L _ (Hv.out.below hb0) Hs.out hn).mono ?_
      rintro e w2 ⟨rfl, hb2⟩
      rw [h1]
      have d0 : w2.cell? ⟨w.heap.size, 0, none⟩ = some (.string j.name) := (hb2.cell (p := ⟨w.heap.size, 0, none⟩) (by simp)).trans (by go_simp)
      have d1 : w2.cell? ⟨w.heap.size, 1, none⟩ = some (.int .i64 j.day) := (hb2.cell (p := ⟨w.heap.size, 1, none⟩) (by simp)).trans (by go_simp)
      have d2 : w2.cell? ⟨w.heap.size, 2, none⟩ = some (.int .i64 j.min) := (hb2.cell (p := ⟨w.heap.size, 2, none⟩) (by simp)).trans (by go_simp)
      have hr2 := (Hr.out.alloc' (.cells #[.string j.name, .int .i64 j.day, .int .i64 j.min] 43)).below' hb2
      have Hr2 := Lib.hid hr2
      clear hr2
      have hsz : w.heap.size < w2.heap.size := by have := hb2.size; simp at this; omega
      go_wp2_with fail
      go_region_held3 (fun w' => w'.cell? ⟨w.heap.size, 0, none⟩ = some (.string j.name) ∧ w'.cell? ⟨w.heap.size, 1, none⟩ = some (.int .i64 j.day) ∧ w'.cell? ⟨w.heap.size, 2, none⟩ = some (.int .i64 j.min))
        (first | (go_keep; done) | (go_split_ands; refine ⟨?_, ?_, ?_⟩ <;> (rw [hg4.cell_far _ (by have := hg3.size; simp at this ⊢; omega) N3.out]; assumption)) | (go_split_ands; refine ⟨?_, ?_, ?_⟩ <;> (rw [hg3.cell_far _ (by simp; omega) (by simp [Value.ownBlock]; omega)]; assumption)))
        (first
          | (refine step_append_sl _ (by rfl) (.tmp 13) (.tmp 14) _ (by rfl) w2.heap.size 43 i0 _ 3 32 Try.underlying25 hi hz0 hz1 hz2 rfl (by omega) (.slice (some ⟨_, 0, none⟩) 0 0) 0 [] (by rfl) (by first | exact own_empty' _ _ _ (by simp <;> omega) (by simp) | exact (own_empty' _ _ _ (by simp <;> omega) (by simp)).alloc _) A L.length c (promiseRow L) (by rfl) (by first | exact (Hr2.out.drew'.alloc' _) | exact ((Hr2.out.drew'.alloc' _).alloc' _)) (promiseRow_one L) (by unfold maxLen; omega) (by omega) (by simp <;> omega) ?_; intro A1 c1 w3 ho3 hg3 hor3; simp only [Nat.zero_add, List.nil_append] at ho3 ⊢; have N3 := Lib.hid (own_apart ho3 hsz); have T3 := Lib.hid (World.ownsRow.lt ho3))
          | (refine step_append_sl _ (by rfl) (.tmp 15) (.tmp 17) _ (by rfl) w2.heap.size 43 i0 _ 3 32 Try.underlying25 hi hz0 hz1 hz2 rfl (by omega) (.slice A1 L.length c1) L.length (promiseRow L) (by rfl) (by first | exact ho3 | exact ho3.alloc _) (some _) 1 1 (promiseCells j) (by rfl) (by first | exact Rd.of_block (cs := #[.string j.name, .int .i64 j.day, .int .i64 j.min]) (heap_alloc_new _ _) rfl | exact Rd.of_block (cs := #[.string j.name, .int .i64 j.day, .int .i64 j.min]) ((hg3.block _ (by simp <;> omega) (by simp [Value.ownBlock])).trans (heap_alloc2_new w2 _ _)) rfl | exact Rd.of_block (cs := #[.string j.name, .int .i64 j.day, .int .i64 j.min]) ((hg3.block _ (by simp <;> omega) (by simp [Value.ownBlock])).trans (heap_alloc2_old w2 _ _)) rfl) (promiseCells_one j) (by unfold maxLen; omega) (by omega) (by have := hg3.size; simp at this; simp <;> omega) ?_; intro A4 c4 w4 ho4 hg4 hor4))
      all_goals
        have q3 : Below w2.heap.size w2 w3 := by first
          | exact Below.grown (((Below.refl _ _).alloc (by simp) _).drew) hg3 (by simp <;> omega) (fun k hk => by simp [Value.ownBlock] at hk; omega)
          | exact Below.grown ((((Below.refl _ _).alloc (by simp) _).alloc (by simp <;> omega) _).drew) hg3 (by simp <;> omega) (fun k hk => by simp [Value.ownBlock] at hk; omega)
        have q4 : Below w2.heap.size w2 w4 := by first
          | exact q3.grown hg4 q3.size (fun k hk => (T3.out k hk).1)
          | exact (q3.alloc q3.size _).grown hg4 (by have := q3.size; simp <;> omega) (fun k hk => (T3.out k hk).1)
        have O4 : Hid (w4.ownsRow w2.heap.size 43 3 (.slice A4 (L.length + 1) c4) (L ++ [j]).length (promiseRow (L ++ [j]))) := by
          rw [promiseRow_append, List.length_append]; exact ho4
        have b4 : Below w.heap.size w w4 := (hb0.trans (hb2.mono (by simp))).trans (q4.mono (by omega))
        clear ho4 hg4 hor4 ho3 hg3 hor3 N3 T3 q3 d0 d1 d2
        go_split_ands
        go_wp2_with fail
        refine (implArePromises_any _ (L ++ [j]) _ (Sl.of_own O4.out) (promiseFit_append Hs.out (promiseFit_one hj)) (by simp; omega)).mono ?_
        rintro e w5 ⟨rfl, hb5⟩
        cases h5 : arePromises (L ++ [j])
        · have H : makePromise L j = ([], 5) := by simp [makePromise, h1, H40.out, h5]
          go_wp2
          go_ret2
          exact RetSC.err H rfl (b4.trans (hb5.mono b4.size))
        · have b5 := b4.trans (hb5.mono b4.size)
          have O5 := Lib.hid (own_below O4.out hb5)
          by_cases h6 : 0 < firstBreach (L ++ [j])
          · have H := Lib.hid (show makePromise L j = ([], 5) by simp [makePromise, h1, H40.out, h5, h6])
            go_wp2_with fail
            refine (implBreach_any w5 (L ++ [j]) _ (Sl.of_own O5.out) (promIn_of h5)).mono ?_
            rintro e w6 ⟨rfl, hb6⟩
            go_wp2
            go_ret2
            exact RetSC.err H.out rfl (b5.trans (hb6.mono b5.size))
          · have H := Lib.hid (show makePromise L j = (L ++ [j], 0) by simp [makePromise, h1, H40.out, h5, h6])
            go_wp2_with fail
            refine (implBreach_any w5 (L ++ [j]) _ (Sl.of_own O5.out) (promIn_of h5)).mono ?_
            rintro e w6 ⟨rfl, hb6⟩
            go_wp2
            go_ret2
            exact RetSC.ok H.out (own_below O5.out hb6) (by simp) rfl (by omega) (b5.trans (hb6.mono b5.size))

set_option maxHeartbeats 2000000 in
theorem specMakePromise_any (w : World) (L : List Promise) (v : Value) (j : Promise) (hv : Sl w 3 v L.length (promiseRow L)) (hs : promiseFit L) (hn : L.length ≤ 4194304) (hj : j.name.size ≤ maxLen) :
    Calls Try.prog 33 #[v, .agg #[.string j.name, .int .i64 j.day, .int .i64 j.min]] w (RetSC w.heap.size 43 3 promiseRow (makePromise L j) w) := by
  have Hv := Lib.hid hv
  have Hs := Lib.hid hs
  clear hs
  obtain ⟨A, c, rfl, hl, hc, hr⟩ := hv
  unfold maxLen at hc
  have Hr := Lib.hid hr
  clear hr
  have hb0 : Below w.heap.size w (w.alloc (.cells #[.string j.name, .int .i64 j.day, .int .i64 j.min] 43)) := (Below.refl _ _).alloc (Nat.le_refl _) _
  cases h1 : arePromises L
  · have H := Lib.hid (show makePromise L j = ([], 1) by simp [makePromise, h1])
    go_enter Try.func33, Try.ntmps33
    go_wp2_with (go_at_call 16; refine (specArePromises_any _ L _ (Hv.out.below hb0) Hs.out hn).mono ?_; rintro e w2 ⟨rfl, hb2⟩)
    go_ret2
    exact RetSC.err H.out rfl (hb0.trans (hb2.mono (by simp)))
  · have hle := arePromises_le h1
    by_cases h40 : L.length = 40
    · have H := Lib.hid (show makePromise L j = ([], 3) by simp [makePromise, h1, h40])
      have t40 : ((L.length : Int) == 40) = true := by rw [h40]; rfl
      have H40 := Lib.hid h40
      clear h40
      go_enter Try.func33, Try.ntmps33
      go_wp2_with (go_at_call 16; refine (specArePromises_any _ L _ (Hv.out.below hb0) Hs.out hn).mono ?_; rintro e w2 ⟨rfl, hb2⟩)
      go_ret2
      exact RetSC.err H.out rfl (hb0.trans (hb2.mono (by simp)))
    · have t40 : ((L.length : Int) == 40) = false := by simp; omega
      have H40 := Lib.hid h40
      clear h40
      obtain ⟨i0, hi, hz0, hz1, hz2⟩ := info_parts Try.infoPromise
      go_enter Try.func33, Try.ntmps33
      go_wp2_with fail
      refine (specArePromises_any _ L _ (Hv.out.below hb0) Hs.out hn).mono ?_
      rintro e w2 ⟨rfl, hb2⟩
      rw [h1]
      have d0 : w2.cell? ⟨w.heap.size, 0, none⟩ = some (.string j.name) := (hb2.cell (p := ⟨w.heap.size, 0, none⟩) (by simp)).trans (by go_simp)
      have d1 : w2.cell? ⟨w.heap.size, 1, none⟩ = some (.int .i64 j.day) := (hb2.cell (p := ⟨w.heap.size, 1, none⟩) (by simp)).trans (by go_simp)
      have d2 : w2.cell? ⟨w.heap.size, 2, none⟩ = some (.int .i64 j.min) := (hb2.cell (p := ⟨w.heap.size, 2, none⟩) (by simp)).trans (by go_simp)
      have hr2 := (Hr.out.alloc' (.cells #[.string j.name, .int .i64 j.day, .int .i64 j.min] 43)).below' hb2
      have Hr2 := Lib.hid hr2
      clear hr2
      have hsz : w.heap.size < w2.heap.size := by have := hb2.size; simp at this; omega
      go_wp2_with fail
      go_region_held3 (fun w' => w'.cell? ⟨w.heap.size, 0, none⟩ = some (.string j.name) ∧ w'.cell? ⟨w.heap.size, 1, none⟩ = some (.int .i64 j.day) ∧ w'.cell? ⟨w.heap.size, 2, none⟩ = some (.int .i64 j.min))
        (first | (go_keep; done) | (go_split_ands; refine ⟨?_, ?_, ?_⟩ <;> (rw [hg4.cell_far _ (by have := hg3.size; simp at this ⊢; omega) N3.out]; assumption)) | (go_split_ands; refine ⟨?_, ?_, ?_⟩ <;> (rw [hg3.cell_far _ (by simp; omega) (by simp [Value.ownBlock]; omega)]; assumption)))
        (first
          | (refine step_append_sl _ (by rfl) (.tmp 13) (.tmp 14) _ (by rfl) w2.heap.size 43 i0 _ 3 32 Try.underlying25 hi hz0 hz1 hz2 rfl (by omega) (.slice (some ⟨_, 0, none⟩) 0 0) 0 [] (by rfl) (by first | exact own_empty' _ _ _ (by simp <;> omega) (by simp) | exact (own_empty' _ _ _ (by simp <;> omega) (by simp)).alloc _) A L.length c (promiseRow L) (by rfl) (by first | exact (Hr2.out.drew'.alloc' _) | exact ((Hr2.out.drew'.alloc' _).alloc' _)) (promiseRow_one L) (by unfold maxLen; omega) (by omega) (by simp <;> omega) ?_; intro A1 c1 w3 ho3 hg3 hor3; simp only [Nat.zero_add, List.nil_append] at ho3 ⊢; have N3 := Lib.hid (own_apart ho3 hsz); have T3 := Lib.hid (World.ownsRow.lt ho3))
          | (refine step_append_sl _ (by rfl) (.tmp 15) (.tmp 17) _ (by rfl) w2.heap.size 43 i0 _ 3 32 Try.underlying25 hi hz0 hz1 hz2 rfl (by omega) (.slice A1 L.length c1) L.length (promiseRow L) (by rfl) (by first | exact ho3 | exact ho3.alloc _) (some _) 1 1 (promiseCells j) (by rfl) (by first | exact Rd.of_block (cs := #[.string j.name, .int .i64 j.day, .int .i64 j.min]) (heap_alloc_new _ _) rfl | exact Rd.of_block (cs := #[.string j.name, .int .i64 j.day, .int .i64 j.min]) ((hg3.block _ (by simp <;> omega) (by simp [Value.ownBlock])).trans (heap_alloc2_new w2 _ _)) rfl | exact Rd.of_block (cs := #[.string j.name, .int .i64 j.day, .int .i64 j.min]) ((hg3.block _ (by simp <;> omega) (by simp [Value.ownBlock])).trans (heap_alloc2_old w2 _ _)) rfl) (promiseCells_one j) (by unfold maxLen; omega) (by omega) (by have := hg3.size; simp at this; simp <;> omega) ?_; intro A4 c4 w4 ho4 hg4 hor4))
      all_goals
        have q3 : Below w2.heap.size w2 w3 := by first
          | exact Below.grown (((Below.refl _ _).alloc (by simp) _).drew) hg3 (by simp <;> omega) (fun k hk => by simp [Value.ownBlock] at hk; omega)
          | exact Below.grown ((((Below.refl _ _).alloc (by simp) _).alloc (by simp <;> omega) _).drew) hg3 (by simp <;> omega) (fun k hk => by simp [Value.ownBlock] at hk; omega)
        have q4 : Below w2.heap.size w2 w4 := by first
          | exact q3.grown hg4 q3.size (fun k hk => (T3.out k hk).1)
          | exact (q3.alloc q3.size _).grown hg4 (by have := q3.size; simp <;> omega) (fun k hk => (T3.out k hk).1)
        have O4 : Hid (w4.ownsRow w2.heap.size 43 3 (.slice A4 (L.length + 1) c4) (L ++ [j]).length (promiseRow (L ++ [j]))) := by
          rw [promiseRow_append, List.length_append]; exact ho4
        have b4 : Below w.heap.size w w4 := (hb0.trans (hb2.mono (by simp))).trans (q4.mono (by omega))
        clear ho4 hg4 hor4 ho3 hg3 hor3 N3 T3 q3 d0 d1 d2
        go_split_ands
        go_wp2_with fail
        refine (specArePromises_any _ (L ++ [j]) _ (Sl.of_own O4.out) (promiseFit_append Hs.out (promiseFit_one hj)) (by simp; omega)).mono ?_
        rintro e w5 ⟨rfl, hb5⟩
        cases h5 : arePromises (L ++ [j])
        · have H : makePromise L j = ([], 5) := by simp [makePromise, h1, H40.out, h5]
          go_wp2
          go_ret2
          exact RetSC.err H rfl (b4.trans (hb5.mono b4.size))
        · have b5 := b4.trans (hb5.mono b4.size)
          have O5 := Lib.hid (own_below O4.out hb5)
          by_cases h6 : 0 < firstBreach (L ++ [j])
          · have H := Lib.hid (show makePromise L j = ([], 5) by simp [makePromise, h1, H40.out, h5, h6])
            go_wp2_with fail
            refine (specBreach_any w5 (L ++ [j]) _ (Sl.of_own O5.out) (promIn_of h5)).mono ?_
            rintro e w6 ⟨rfl, rfl⟩
            go_wp2
            go_ret2
            exact RetSC.err H.out rfl b5
          · have H := Lib.hid (show makePromise L j = (L ++ [j], 0) by simp [makePromise, h1, H40.out, h5, h6])
            go_wp2_with fail
            refine (specBreach_any w5 (L ++ [j]) _ (Sl.of_own O5.out) (promIn_of h5)).mono ?_
            rintro e w6 ⟨rfl, rfl⟩
            go_wp2
            go_ret2
            exact RetSC.ok H.out O5.out (by simp) rfl (by omega) b5

end Go.Proofs.Ytgafjchbfbpmmaa
