/- The walks of AddJob, in the program and in the reference. -/
import Derived.Test.YtfkindkekjafnaaAreJobs
import Derived.Test.YtfkindkekjafnaaApp
namespace Go.Proofs.Ytfkindkekjafnaa
open Go.RowKit

def addJob (L : List Job) (j : Job) : List Job × Int :=
  if areJobs L = false then ([], 1) else if L.length = 7 then ([], 3) else if areJobs (L ++ [j]) = false then ([], 5) else (L ++ [j], 0)
theorem addJob_len (L : List Job) (j : Job) : (addJob L j).1.length ≤ 4194304 := by
  unfold addJob
  split
  · simp
  · split
    · simp
    · split
      · simp
      · rename_i h1 h2 h3
        have : areJobs L = true := by simpa using h1
        simp only [areJobs, Bool.and_eq_true, decide_eq_true_eq] at this
        simp; omega
theorem jobFit_append {L M : List Job} (h : jobFit L) (h' : jobFit M) : jobFit (L ++ M) := by
  intro i hi
  by_cases hl : i < L.length
  · rw [jobAt_append_lt hl]; exact h i hl
  · have : jobAt (L ++ M) i = jobAt M (i - L.length) := by simp [jobAt, List.getD, List.getElem?_append_right (show L.length ≤ i by omega)]
    rw [this]; exact h' _ (by simp at hi; omega)
theorem jobFit_one {j : Job} (h : j.name.size ≤ maxLen) : jobFit [j] := by
  intro i hi
  have : i = 0 := by simpa using hi
  subst this; exact h

set_option maxHeartbeats 2000000 in
theorem implAddJob_any (w : World) (L : List Job) (v : Value) (j : Job) (hv : Sl w 3 v L.length (jobRow L)) (hs : jobFit L) (hn : L.length ≤ 4194304) (hj : j.name.size ≤ maxLen) :
    Calls Try.prog 22 #[v, .agg #[.string j.name, .int .i64 j.min, .int .i64 j.due]] w (RetSC w.heap.size 34 3 jobRow (addJob L j) w) := by
  have Hv := Lib.hid hv
  have Hs := Lib.hid hs
  clear hs
  obtain ⟨A, c, rfl, hl, hc, hr⟩ := hv
  unfold maxLen at hc
  have Hr := Lib.hid hr
  clear hr
  have hb0 : Below w.heap.size w (w.alloc (.cells #[.string j.name, .int .i64 j.min, .int .i64 j.due] 34)) := (Below.refl _ _).alloc (Nat.le_refl _) _
  cases h1 : areJobs L
  · have H := Lib.hid (show addJob L j = ([], 1) by simp [addJob, h1])
    go_enter Try.func22, Try.ntmps22
    go_wp2_with (go_at_call 17; refine (implAreJobs_any _ L _ (Hv.out.below hb0) Hs.out hn).mono ?_; rintro e w2 ⟨rfl, hb2⟩)
    go_ret2
    exact RetSC.err H.out rfl (hb0.trans (hb2.mono (by simp)))
  · have hle := areJobs_le h1
    by_cases h7 : L.length = 7
    · have H := Lib.hid (show addJob L j = ([], 3) by simp [addJob, h1, h7])
      have t7 : ((L.length : Int) == 7) = true := by rw [h7]; rfl
      have H7 := Lib.hid h7
      clear h7
      go_enter Try.func22, Try.ntmps22
      go_wp2_with (go_at_call 17; refine (implAreJobs_any _ L _ (Hv.out.below hb0) Hs.out hn).mono ?_; rintro e w2 ⟨rfl, hb2⟩)
      go_ret2
      exact RetSC.err H.out rfl (hb0.trans (hb2.mono (by simp)))
    · have t7 : ((L.length : Int) == 7) = false := by simp; omega
      have H7 := Lib.hid h7
      clear h7
      obtain ⟨i0, hi, hz0, hz1, hz2⟩ := info_parts Try.infoJob
      go_enter Try.func22, Try.ntmps22
      go_wp2_with fail
      refine (implAreJobs_any _ L _ (Hv.out.below hb0) Hs.out hn).mono ?_
      rintro e w2 ⟨rfl, hb2⟩
      rw [h1]
      have d0 : w2.cell? ⟨w.heap.size, 0, none⟩ = some (.string j.name) := (hb2.cell (p := ⟨w.heap.size, 0, none⟩) (by simp)).trans (by go_simp)
      have d1 : w2.cell? ⟨w.heap.size, 1, none⟩ = some (.int .i64 j.min) := (hb2.cell (p := ⟨w.heap.size, 1, none⟩) (by simp)).trans (by go_simp)
      have d2 : w2.cell? ⟨w.heap.size, 2, none⟩ = some (.int .i64 j.due) := (hb2.cell (p := ⟨w.heap.size, 2, none⟩) (by simp)).trans (by go_simp)
      have hr2 := (Hr.out.alloc' (.cells #[.string j.name, .int .i64 j.min, .int .i64 j.due] 34)).below' hb2
      have Hr2 := Lib.hid hr2
      clear hr2
      have hsz : w.heap.size < w2.heap.size := by have := hb2.size; simp at this; omega
      go_wp2_with fail
      go_region_held3 (fun w' => w'.cell? ⟨w.heap.size, 0, none⟩ = some (.string j.name) ∧ w'.cell? ⟨w.heap.size, 1, none⟩ = some (.int .i64 j.min) ∧ w'.cell? ⟨w.heap.size, 2, none⟩ = some (.int .i64 j.due))
        (first | (go_keep; done) | (go_split_ands; refine ⟨?_, ?_, ?_⟩ <;> (rw [hg4.cell_far _ (by have := hg3.size; simp at this ⊢; omega) N3.out]; assumption)) | (go_split_ands; refine ⟨?_, ?_, ?_⟩ <;> (rw [hg3.cell_far _ (by simp; omega) (by simp [Value.ownBlock]; omega)]; assumption)))
        (first
          | (refine step_append_sl _ (by rfl) (.tmp 13) (.tmp 14) _ (by rfl) w2.heap.size 34 i0 _ 3 32 Try.underlying25 hi hz0 hz1 hz2 rfl (by omega) (.slice (some ⟨_, 0, none⟩) 0 0) 0 [] (by rfl) (by first | exact own_empty' _ _ _ (by simp <;> omega) (by simp) | exact (own_empty' _ _ _ (by simp <;> omega) (by simp)).alloc _) A L.length c (jobRow L) (by rfl) (by first | exact (Hr2.out.drew'.alloc' _) | exact ((Hr2.out.drew'.alloc' _).alloc' _)) (jobRow_one L) (by unfold maxLen; omega) (by omega) (by simp <;> omega) ?_; intro A1 c1 w3 ho3 hg3 hor3; simp only [Nat.zero_add, List.nil_append] at ho3 ⊢; have N3 := Lib.hid (own_apart ho3 hsz); have T3 := Lib.hid (World.ownsRow.lt ho3))
          | (refine step_append_sl _ (by rfl) (.tmp 15) (.tmp 17) _ (by rfl) w2.heap.size 34 i0 _ 3 32 Try.underlying25 hi hz0 hz1 hz2 rfl (by omega) (.slice A1 L.length c1) L.length (jobRow L) (by rfl) (by first | exact ho3 | exact ho3.alloc _) (some _) 1 1 (jobCells j) (by rfl) (by first | exact Rd.of_block (cs := #[.string j.name, .int .i64 j.min, .int .i64 j.due]) (heap_alloc_new _ _) rfl | exact Rd.of_block (cs := #[.string j.name, .int .i64 j.min, .int .i64 j.due]) ((hg3.block _ (by simp <;> omega) (by simp [Value.ownBlock])).trans (heap_alloc2_new w2 _ _)) rfl | exact Rd.of_block (cs := #[.string j.name, .int .i64 j.min, .int .i64 j.due]) ((hg3.block _ (by simp <;> omega) (by simp [Value.ownBlock])).trans (heap_alloc2_old w2 _ _)) rfl) (jobCells_one j) (by unfold maxLen; omega) (by omega) (by have := hg3.size; simp at this; simp <;> omega) ?_; intro A4 c4 w4 ho4 hg4 hor4))
      all_goals
        have q3 : Below w2.heap.size w2 w3 := by first
          | exact Below.grown (((Below.refl _ _).alloc (by simp) _).drew) hg3 (by simp <;> omega) (fun k hk => by simp [Value.ownBlock] at hk; omega)
          | exact Below.grown ((((Below.refl _ _).alloc (by simp) _).alloc (by simp <;> omega) _).drew) hg3 (by simp <;> omega) (fun k hk => by simp [Value.ownBlock] at hk; omega)
        have q4 : Below w2.heap.size w2 w4 := by first
          | exact q3.grown hg4 q3.size (fun k hk => (T3.out k hk).1)
          | exact (q3.alloc q3.size _).grown hg4 (by have := q3.size; simp <;> omega) (fun k hk => (T3.out k hk).1)
        have O4 : Hid (w4.ownsRow w2.heap.size 34 3 (.slice A4 (L.length + 1) c4) (L ++ [j]).length (jobRow (L ++ [j]))) := by
          rw [jobRow_append, List.length_append]; exact ho4
        have b4 : Below w.heap.size w w4 := (hb0.trans (hb2.mono (by simp))).trans (q4.mono (by omega))
        clear ho4 hg4 hor4 ho3 hg3 hor3 N3 T3 q3 d0 d1 d2
        go_split_ands
        go_wp2_with fail
        refine (implAreJobs_any _ (L ++ [j]) _ (Sl.of_own O4.out) (jobFit_append Hs.out (jobFit_one hj)) (by simp; omega)).mono ?_
        rintro e w5 ⟨rfl, hb5⟩
        cases h5 : areJobs (L ++ [j])
        · have H : addJob L j = ([], 5) := by simp [addJob, h1, H7.out, h5]
          go_wp2
          go_ret2
          exact RetSC.err H rfl (b4.trans (hb5.mono b4.size))
        · have H : addJob L j = (L ++ [j], 0) := by simp [addJob, h1, H7.out, h5]
          go_wp2
          go_ret2
          exact RetSC.ok H (own_below O4.out hb5) (by simp) rfl (by omega) (b4.trans (hb5.mono b4.size))

set_option maxHeartbeats 2000000 in
theorem specAddJob_any (w : World) (L : List Job) (v : Value) (j : Job) (hv : Sl w 3 v L.length (jobRow L)) (hs : jobFit L) (hn : L.length ≤ 4194304) (hj : j.name.size ≤ maxLen) :
    Calls Try.prog 20 #[v, .agg #[.string j.name, .int .i64 j.min, .int .i64 j.due]] w (RetSC w.heap.size 34 3 jobRow (addJob L j) w) := by
  have Hv := Lib.hid hv
  have Hs := Lib.hid hs
  clear hs
  obtain ⟨A, c, rfl, hl, hc, hr⟩ := hv
  unfold maxLen at hc
  have Hr := Lib.hid hr
  clear hr
  have hb0 : Below w.heap.size w (w.alloc (.cells #[.string j.name, .int .i64 j.min, .int .i64 j.due] 34)) := (Below.refl _ _).alloc (Nat.le_refl _) _
  cases h1 : areJobs L
  · have H := Lib.hid (show addJob L j = ([], 1) by simp [addJob, h1])
    go_enter Try.func20, Try.ntmps20
    go_wp2_with (go_at_call 15; refine (specAreJobs_any _ L _ (Hv.out.below hb0) Hs.out hn).mono ?_; rintro e w2 ⟨rfl, hb2⟩)
    go_ret2
    exact RetSC.err H.out rfl (hb0.trans (hb2.mono (by simp)))
  · have hle := areJobs_le h1
    by_cases h7 : L.length = 7
    · have H := Lib.hid (show addJob L j = ([], 3) by simp [addJob, h1, h7])
      have t7 : ((L.length : Int) == 7) = true := by rw [h7]; rfl
      have H7 := Lib.hid h7
      clear h7
      go_enter Try.func20, Try.ntmps20
      go_wp2_with (go_at_call 15; refine (specAreJobs_any _ L _ (Hv.out.below hb0) Hs.out hn).mono ?_; rintro e w2 ⟨rfl, hb2⟩)
      go_ret2
      exact RetSC.err H.out rfl (hb0.trans (hb2.mono (by simp)))
    · have t7 : ((L.length : Int) == 7) = false := by simp; omega
      have H7 := Lib.hid h7
      clear h7
      obtain ⟨i0, hi, hz0, hz1, hz2⟩ := info_parts Try.infoJob
      go_enter Try.func20, Try.ntmps20
      go_wp2_with fail
      refine (specAreJobs_any _ L _ (Hv.out.below hb0) Hs.out hn).mono ?_
      rintro e w2 ⟨rfl, hb2⟩
      rw [h1]
      have d0 : w2.cell? ⟨w.heap.size, 0, none⟩ = some (.string j.name) := (hb2.cell (p := ⟨w.heap.size, 0, none⟩) (by simp)).trans (by go_simp)
      have d1 : w2.cell? ⟨w.heap.size, 1, none⟩ = some (.int .i64 j.min) := (hb2.cell (p := ⟨w.heap.size, 1, none⟩) (by simp)).trans (by go_simp)
      have d2 : w2.cell? ⟨w.heap.size, 2, none⟩ = some (.int .i64 j.due) := (hb2.cell (p := ⟨w.heap.size, 2, none⟩) (by simp)).trans (by go_simp)
      have hr2 := (Hr.out.alloc' (.cells #[.string j.name, .int .i64 j.min, .int .i64 j.due] 34)).below' hb2
      have Hr2 := Lib.hid hr2
      clear hr2
      have hsz : w.heap.size < w2.heap.size := by have := hb2.size; simp at this; omega
      go_wp2_with fail
      go_region_held3 (fun w' => w'.cell? ⟨w.heap.size, 0, none⟩ = some (.string j.name) ∧ w'.cell? ⟨w.heap.size, 1, none⟩ = some (.int .i64 j.min) ∧ w'.cell? ⟨w.heap.size, 2, none⟩ = some (.int .i64 j.due))
        (first | (go_keep; done) | (go_split_ands; refine ⟨?_, ?_, ?_⟩ <;> (rw [hg4.cell_far _ (by have := hg3.size; simp at this ⊢; omega) N3.out]; assumption)) | (go_split_ands; refine ⟨?_, ?_, ?_⟩ <;> (rw [hg3.cell_far _ (by simp; omega) (by simp [Value.ownBlock]; omega)]; assumption)))
        (first
          | (refine step_append_sl _ (by rfl) (.tmp 13) (.tmp 14) _ (by rfl) w2.heap.size 34 i0 _ 3 32 Try.underlying25 hi hz0 hz1 hz2 rfl (by omega) (.slice (some ⟨_, 0, none⟩) 0 0) 0 [] (by rfl) (by first | exact own_empty' _ _ _ (by simp <;> omega) (by simp) | exact (own_empty' _ _ _ (by simp <;> omega) (by simp)).alloc _) A L.length c (jobRow L) (by rfl) (by first | exact (Hr2.out.drew'.alloc' _) | exact ((Hr2.out.drew'.alloc' _).alloc' _)) (jobRow_one L) (by unfold maxLen; omega) (by omega) (by simp <;> omega) ?_; intro A1 c1 w3 ho3 hg3 hor3; simp only [Nat.zero_add, List.nil_append] at ho3 ⊢; have N3 := Lib.hid (own_apart ho3 hsz); have T3 := Lib.hid (World.ownsRow.lt ho3))
          | (refine step_append_sl _ (by rfl) (.tmp 15) (.tmp 17) _ (by rfl) w2.heap.size 34 i0 _ 3 32 Try.underlying25 hi hz0 hz1 hz2 rfl (by omega) (.slice A1 L.length c1) L.length (jobRow L) (by rfl) (by first | exact ho3 | exact ho3.alloc _) (some _) 1 1 (jobCells j) (by rfl) (by first | exact Rd.of_block (cs := #[.string j.name, .int .i64 j.min, .int .i64 j.due]) (heap_alloc_new _ _) rfl | exact Rd.of_block (cs := #[.string j.name, .int .i64 j.min, .int .i64 j.due]) ((hg3.block _ (by simp <;> omega) (by simp [Value.ownBlock])).trans (heap_alloc2_new w2 _ _)) rfl | exact Rd.of_block (cs := #[.string j.name, .int .i64 j.min, .int .i64 j.due]) ((hg3.block _ (by simp <;> omega) (by simp [Value.ownBlock])).trans (heap_alloc2_old w2 _ _)) rfl) (jobCells_one j) (by unfold maxLen; omega) (by omega) (by have := hg3.size; simp at this; simp <;> omega) ?_; intro A4 c4 w4 ho4 hg4 hor4))
      all_goals
        have q3 : Below w2.heap.size w2 w3 := by first
          | exact Below.grown (((Below.refl _ _).alloc (by simp) _).drew) hg3 (by simp <;> omega) (fun k hk => by simp [Value.ownBlock] at hk; omega)
          | exact Below.grown ((((Below.refl _ _).alloc (by simp) _).alloc (by simp <;> omega) _).drew) hg3 (by simp <;> omega) (fun k hk => by simp [Value.ownBlock] at hk; omega)
        have q4 : Below w2.heap.size w2 w4 := by first
          | exact q3.grown hg4 q3.size (fun k hk => (T3.out k hk).1)
          | exact (q3.alloc q3.size _).grown hg4 (by have := q3.size; simp <;> omega) (fun k hk => (T3.out k hk).1)
        have O4 : Hid (w4.ownsRow w2.heap.size 34 3 (.slice A4 (L.length + 1) c4) (L ++ [j]).length (jobRow (L ++ [j]))) := by
          rw [jobRow_append, List.length_append]; exact ho4
        have b4 : Below w.heap.size w w4 := (hb0.trans (hb2.mono (by simp))).trans (q4.mono (by omega))
        clear ho4 hg4 hor4 ho3 hg3 hor3 N3 T3 q3 d0 d1 d2
        go_split_ands
        go_wp2_with fail
        refine (specAreJobs_any _ (L ++ [j]) _ (Sl.of_own O4.out) (jobFit_append Hs.out (jobFit_one hj)) (by simp; omega)).mono ?_
        rintro e w5 ⟨rfl, hb5⟩
        cases h5 : areJobs (L ++ [j])
        · have H : addJob L j = ([], 5) := by simp [addJob, h1, H7.out, h5]
          go_wp2
          go_ret2
          exact RetSC.err H rfl (b4.trans (hb5.mono b4.size))
        · have H : addJob L j = (L ++ [j], 0) := by simp [addJob, h1, H7.out, h5]
          go_wp2
          go_ret2
          exact RetSC.ok H (own_below O4.out hb5) (by simp) rfl (by omega) (b4.trans (hb5.mono b4.size))

end Go.Proofs.Ytfkindkekjafnaa
