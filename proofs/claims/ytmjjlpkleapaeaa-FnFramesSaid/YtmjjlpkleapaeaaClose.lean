/- The walks of CloseTubes, in the program and in the reference. -/
import Derived.Test.YtmjjlpkleapaeaaTubes2
import Derived.Test.YtmjjlpkleapaeaaApp
namespace Go.Proofs.Ytmjjlpkleapaeaa
open Go.RowKit

def lastT (L : List Tube) : Tube := ⟨-(sumX L), -(sumY L)⟩
def closeF (L : List Tube) : List Tube × Int :=
  if areTubes L = false then ([], 1) else if closedT L = true then ([], 5) else if areTubes (L ++ [lastT L]) = false then ([], 3) else (L ++ [lastT L], 0)
theorem closeF_len (L : List Tube) : (closeF L).1.length ≤ 4194304 := by
  unfold closeF
  split
  · simp
  · split
    · simp
    · split
      · simp
      · rename_i h1 h2 h3
        have : areTubes L = true := by simpa using h1
        have := (areTubes_iff this).2.1
        simp; omega

set_option maxHeartbeats 2000000 in
theorem implCloseTubes_any (w : World) (L : List Tube) (v : Value) (hv : Sl w 2 v L.length (tubeRow L)) (_ : tubeFit L) (hn : L.length ≤ 4194304) :
    Calls Try.prog 19 #[v] w (RetSC w.heap.size 54 2 tubeRow (closeF L) w) := by
  have Hv := Lib.hid hv
  obtain ⟨A, c, rfl, hl, hc, hr⟩ := hv
  unfold maxLen at hc
  have Hr := Lib.hid hr
  clear hr
  cases h1 : areTubes L
  · have H := Lib.hid (show closeF L = ([], 1) by simp [closeF, h1])
    go_enter Try.func19, Try.ntmps19
    go_wp2_with fail
    refine (implAreTubes_any w L _ Hv.out hn).mono ?_
    rintro e w2 ⟨rfl, hb2⟩
    rw [h1]
    go_wp2
    go_ret2
    exact RetSC.err H.out rfl hb2
  · have h8 := (areTubes_iff h1).2.1
    cases h2 : closedT L
    · obtain ⟨i0, hi, hz0, hz1, hz2⟩ := info_parts Try.infoTube
      have hs := sums_bd8 h1 (k := L.length) (Nat.le_refl _)
      rw [List.take_length] at hs
      have m1 : IntKind.i64.wrap (-(sumX L)) = -(sumX L) := by rw [IntKind.wrap_i64]; omega
      have m2 : IntKind.i64.wrap (-(sumY L)) = -(sumY L) := by rw [IntKind.wrap_i64]; omega
      go_enter Try.func19, Try.ntmps19
      go_wp2_with fail
      refine (implAreTubes_any w L _ Hv.out hn).mono ?_
      rintro e w2 ⟨rfl, hb2⟩
      rw [h1]
      go_wp2_with fail
      refine (implClosed_any w2 L _ (Hv.out.below hb2) h1).mono ?_
      rintro e w3 ⟨rfl, hb3⟩
      rw [h2]
      have b3 := hb2.trans (hb3.mono hb2.size)
      go_wp2_with fail
      refine (implError_any w3 L _ (Hv.out.below b3) h1).mono ?_
      rintro e w4 ⟨rfl, hb4⟩
      have b4 := b3.trans (hb4.mono b3.size)
      obtain ⟨w5, hw5⟩ : ∃ w5, w5 = w4.alloc (.cells #[.int .i64 (sumX L), .int .i64 (sumY L)] 54) := ⟨_, rfl⟩
      have b5 : Below w.heap.size w w5 := by rw [hw5]; exact b4.alloc b4.size _
      have d0 : w5.cell? ⟨w4.heap.size, 0, none⟩ = some (.int .i64 (sumX L)) := by rw [hw5]; go_simp
      have d1 : w5.cell? ⟨w4.heap.size, 1, none⟩ = some (.int .i64 (sumY L)) := by rw [hw5]; go_simp
      have hsz : w4.heap.size < w5.heap.size := by rw [hw5]; simp
      have Hr5 := Lib.hid (Hr.out.below' b5)
      clear hb2 hb3 hb4 b3
      go_wp2_with fail
      rw [← hw5]
      clear hw5
      go_region_held3 (fun w' => w'.cell? ⟨w4.heap.size, 0, none⟩ = some (.int .i64 (sumX L)) ∧ w'.cell? ⟨w4.heap.size, 1, none⟩ = some (.int .i64 (sumY L)))
        (first | (go_keep; done) | (go_split_ands; refine ⟨?_, ?_⟩ <;> (rw [hg9.cell_far _ (by have := hg3.size; simp at this ⊢; omega) N3.out]; assumption)) | (go_split_ands; refine ⟨?_, ?_⟩ <;> (rw [hg3.cell_far _ (by simp; omega) (by simp [Value.ownBlock]; omega)]; assumption)))
        (first
          | (refine step_append_sl _ (by rfl) (.tmp 13) (.tmp 14) _ (by rfl) w5.heap.size 54 i0 _ 2 16 Try.underlying26 hi hz0 hz1 hz2 rfl (by omega) (.slice (some ⟨_, 0, none⟩) 0 0) 0 [] (by rfl) (by first | exact own_empty' _ _ _ (by simp <;> omega) (by simp) | exact (own_empty' _ _ _ (by simp <;> omega) (by simp)).alloc _) A L.length c (tubeRow L) (by rfl) (by first | exact (Hr5.out.drew'.alloc' _) | exact ((Hr5.out.drew'.alloc' _).alloc' _)) (tubeRow_one L) (by unfold maxLen; omega) (by omega) (by simp <;> omega) ?_; intro A1 c1 w3 ho3 hg3 hor3; simp only [Nat.zero_add, List.nil_append] at ho3 ⊢; have N3 := Lib.hid (own_apart ho3 hsz); have T3 := Lib.hid (World.ownsRow.lt ho3))
          | (refine step_append_sl _ (by rfl) (.tmp 15) (.tmp 23) _ (by rfl) w5.heap.size 54 i0 _ 2 16 Try.underlying26 hi hz0 hz1 hz2 rfl (by omega) (.slice A1 L.length c1) L.length (tubeRow L) (by rfl) (by first | exact ho3 | exact ho3.alloc _) (some _) 1 1 (tubeCells (lastT L)) (by rfl) (by first | exact Rd.of_block (cs := #[.int .i64 (-(sumX L)), .int .i64 (-(sumY L))]) (heap_alloc_new _ _) rfl | exact Rd.of_block (cs := #[.int .i64 (-(sumX L)), .int .i64 (-(sumY L))]) ((hg3.block _ (by simp <;> omega) (by simp [Value.ownBlock])).trans (heap_alloc2_new w5 _ _)) rfl | exact Rd.of_block (cs := #[.int .i64 (-(sumX L)), .int .i64 (-(sumY L))]) ((hg3.block _ (by simp <;> omega) (by simp [Value.ownBlock])).trans (heap_alloc2_old w5 _ _)) rfl) (tubeCells_one _) (by unfold maxLen; omega) (by omega) (by have := hg3.size; simp at this; simp <;> omega) ?_; intro A4 c4 w9 ho9 hg9 hor9))
      all_goals
        have q3 : Below w5.heap.size w5 w3 := by first
          | exact Below.grown (((Below.refl _ _).alloc (by simp) _).drew) hg3 (by simp <;> omega) (fun k hk => by simp [Value.ownBlock] at hk; omega)
          | exact Below.grown ((((Below.refl _ _).alloc (by simp) _).alloc (by simp <;> omega) _).drew) hg3 (by simp <;> omega) (fun k hk => by simp [Value.ownBlock] at hk; omega)
        have q4 : Below w5.heap.size w5 w9 := by first
          | exact q3.grown hg9 q3.size (fun k hk => (T3.out k hk).1)
          | exact (q3.alloc q3.size _).grown hg9 (by have := q3.size; simp <;> omega) (fun k hk => (T3.out k hk).1)
        have O4 : Hid (w9.ownsRow w5.heap.size 54 2 (.slice A4 (L.length + 1) c4) (L ++ [lastT L]).length (tubeRow (L ++ [lastT L]))) := by
          rw [tubeRow_append, List.length_append]; exact ho9
        have b9 : Below w.heap.size w w9 := b5.trans (q4.mono b5.size)
        clear ho9 hg9 hor9 ho3 hg3 hor3 N3 T3 q3 d0 d1 m1 m2
        go_split_ands
        go_wp2_with fail
        refine (implAreTubes_any _ (L ++ [lastT L]) _ (Sl.of_own O4.out) (by simp; omega)).mono ?_
        rintro e w6 ⟨rfl, hb6⟩
        have hB := b5.size
        cases h5 : areTubes (L ++ [lastT L])
        · have H : closeF L = ([], 3) := by simp [closeF, h1, h2, h5]
          go_wp2
          go_ret2
          exact RetSC.err H rfl (b9.trans (hb6.mono b9.size))
        · have H : closeF L = (L ++ [lastT L], 0) := by simp [closeF, h1, h2, h5]
          go_wp2
          go_ret2
          exact RetSC.ok H (own_below O4.out hb6) (by simp) rfl hB (b9.trans (hb6.mono b9.size))
    · have H := Lib.hid (show closeF L = ([], 5) by simp [closeF, h1, h2])
      go_enter Try.func19, Try.ntmps19
      go_wp2_with fail
      refine (implAreTubes_any w L _ Hv.out hn).mono ?_
      rintro e w2 ⟨rfl, hb2⟩
      rw [h1]
      go_wp2_with fail
      refine (implClosed_any w2 L _ (Hv.out.below hb2) h1).mono ?_
      rintro e w3 ⟨rfl, hb3⟩
      rw [h2]
      go_wp2
      go_ret2
      exact RetSC.err H.out rfl (hb2.trans (hb3.mono hb2.size))

set_option maxHeartbeats 2000000 in
theorem specCloseTubes_any (w : World) (L : List Tube) (v : Value) (hv : Sl w 2 v L.length (tubeRow L)) (_ : tubeFit L) (hn : L.length ≤ 4194304) :
    Calls Try.prog 18 #[v] w (RetSC w.heap.size 54 2 tubeRow (closeF L) w) := by
  have Hv := Lib.hid hv
  obtain ⟨A, c, rfl, hl, hc, hr⟩ := hv
  unfold maxLen at hc
  have Hr := Lib.hid hr
  clear hr
  by_cases hc1 : tubeCode L = 1 ∨ tubeCode L = 0
  · have H : closeF L = ([], 1) ∧ tubeCode L = 1 ∨ closeF L = ([], 5) ∧ tubeCode L = 0 := by
      cases h1 : areTubes L
      · exact .inl ⟨by simp [closeF, h1], tubeCode_bad h1⟩
      · cases h2 : closedT L
        · rw [tubeCode_open h1 h2] at hc1; omega
        · exact .inr ⟨by simp [closeF, h1, h2], tubeCode_ok h1 h2⟩
    clear hc1
    rcases H with ⟨h, he⟩ | ⟨h, he⟩
    all_goals
      have H := Lib.hid h
      clear h
      go_enter Try.func18, Try.ntmps18
      go_wp2_with fail
      refine (specCode_any w L _ Hv.out hn).mono ?_
      rintro e w2 ⟨rfl, rfl⟩
      rw [he]
      clear he
      go_wp2
      go_ret2
      exact RetSC.err H.out rfl (Below.refl _ _)
  · have h1 : areTubes L = true := by
      cases h1 : areTubes L
      · exact absurd (.inl (tubeCode_bad h1)) hc1
      · rfl
    have h2 : closedT L = false := by
      cases h2 : closedT L
      · rfl
      · exact absurd (.inr (tubeCode_ok h1 h2)) hc1
    have he := tubeCode_open h1 h2
    clear hc1
    have h8 := (areTubes_iff h1).2.1
    obtain ⟨i0, hi, hz0, hz1, hz2⟩ := info_parts Try.infoTube
    have hs := sums_bd8 h1 (k := L.length) (Nat.le_refl _)
    rw [List.take_length] at hs
    go_enter Try.func18, Try.ntmps18
    go_wp2_with fail
    refine (specCode_any w L _ Hv.out hn).mono ?_
    rintro e w2 ⟨rfl, rfl⟩
    rw [he]
    clear he
    go_wp2_with fail
    refine (specError_any w L _ Hv.out h1).mono ?_
    rintro e w3 ⟨rfl, rfl⟩
    go_wp2_with (first
      | (at_builtin; refine wpList_append_sl _ rfl (.tmp 18) (.tmp 19) _ rfl w.heap.size 54 i0 _ 2 16 Try.underlying26 hi hz0 hz1 hz2 rfl (by omega) (.slice (some ⟨w.heap.size, 0, none⟩) 0 0) 0 [] rfl (own_empty _ _ _ (Nat.le_refl _)) A L.length c (tubeRow L) rfl (Hr.out.alloc' _) (tubeRow_one L) (by unfold maxLen; omega) (by omega) (by simp) ?_; intro A1 c1 w3 ho3 hg3 hor3; simp only [Nat.zero_add, List.nil_append] at ho3 ⊢; have b3 : Below w.heap.size w w3 := ((Below.refl _ _).alloc (Nat.le_refl _) _).grown hg3 (by simp) (fun k hk => by simp [Value.ownBlock] at hk; omega); have Ho3 := Lib.hid ho3; have hsz := b3.size; clear ho3 hg3 hor3)
      | (at_builtin; refine wpList_append_sl _ rfl (.tmp 20) (.tmp 26) _ rfl w.heap.size 54 i0 _ 2 16 Try.underlying26 hi hz0 hz1 hz2 rfl (by omega) _ L.length (tubeRow L) rfl (Ho3.out.alloc _) (some ⟨w3.heap.size, 0, none⟩) 1 1 (tubeCells (lastT L)) rfl (Rd.of_block (cs := #[.int .i64 (-(sumX L)), .int .i64 (-(sumY L))]) (heap_alloc_new _ _) rfl) (tubeCells_one _) (by unfold maxLen; omega) (by omega) (by simp; omega) ?_; intro A4 c4 w9 ho9 hg9 hor9))
    have b9 : Below w.heap.size w w9 := (b3.alloc hsz _).grown hg9 (by simp; omega) (fun k hk => (World.ownsRow.lt Ho3.out k hk).1)
    have O4 : Hid (w9.ownsRow w.heap.size 54 2 (.slice A4 (L.length + 1) c4) (L ++ [lastT L]).length (tubeRow (L ++ [lastT L]))) := by
      rw [tubeRow_append, List.length_append]; exact ho9
    clear ho9 hg9 hor9
    go_wp2_with fail
    refine (specAreTubes_any _ (L ++ [lastT L]) _ (Sl.of_own O4.out) (by simp; omega)).mono ?_
    rintro e w6 ⟨rfl, rfl⟩
    cases h5 : areTubes (L ++ [lastT L])
    · have H : closeF L = ([], 3) := by simp [closeF, h1, h2, h5]
      go_wp2
      go_ret2
      exact RetSC.err H rfl b9
    · have H : closeF L = (L ++ [lastT L], 0) := by simp [closeF, h1, h2, h5]
      go_wp2
      go_ret2
      exact RetSC.ok H O4.out (by simp) rfl (Nat.le_refl _) b9

end Go.Proofs.Ytmjjlpkleapaeaa
