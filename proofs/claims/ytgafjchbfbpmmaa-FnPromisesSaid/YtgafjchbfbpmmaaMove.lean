/- The walks of MovePromise. Printed by gen_prome.py. -/
import Derived.Test.YtgafjchbfbpmmaaPromD
import Derived.Test.YtgafjchbfbpmmaaApp
namespace Go.Proofs.Ytgafjchbfbpmmaa
open Go.RowKit

set_option maxHeartbeats 2000000 in
theorem implMovePromise_any (w : World) (L : List Promise) (v : Value) (s : ByteArray) (d : Int) (hv : Sl w 3 v L.length (promiseRow L)) (hf : promiseFit L) (hn : L.length ≤ 4194304) (hs : s.size ≤ maxLen) :
    Calls Try.prog 25 #[v, .string s, .int .i64 d] w (RetSC w.heap.size 43 3 promiseRow (movePromise L s d) w) := by
  have Hv := Lib.hid hv
  have Hf := Lib.hid hf
  clear hf
  rcases moveCode_cases L s d with ⟨h1, h0⟩ | ⟨h1, h2, h0⟩ | ⟨h1, h2, h3, h0⟩ | ⟨h1, h2, h3, h4, h0⟩ | ⟨i, h1, h2, h3, h4, h0⟩
  · have H := Lib.hid (show movePromise L s d = ([], 1) by simp [movePromise, h0])
    clear h0
    clear hv
    go_enter Try.func25, Try.ntmps25
    go_wp2_with fail
    refine (implArePromises_any w L v Hv.out Hf.out hn).mono ?_
    rintro e w2 ⟨rfl, hb2⟩
    rw [h1]
    go_wp2
    go_ret2
    exact RetSC.err H.out rfl hb2
  · have H := Lib.hid (show movePromise L s d = ([], 1) by simp [movePromise, h0])
    clear h0
    clear hv
    go_enter Try.func25, Try.ntmps25
    go_wp2_with fail
    refine (implArePromises_any w L v Hv.out Hf.out hn).mono ?_
    rintro e w2 ⟨rfl, hb2⟩
    rw [h1]
    go_wp2_with fail
    refine (implWord_any _ _ hs).mono ?_
    rintro e w0 ⟨rfl, rfl⟩
    rw [h2]
    go_wp2
    go_ret2
    exact RetSC.err H.out rfl hb2
  · have H := Lib.hid (show movePromise L s d = ([], 2) by simp [movePromise, h0])
    clear h0
    clear hv
    go_enter Try.func25, Try.ntmps25
    go_wp2_with fail
    refine (implArePromises_any w L v Hv.out Hf.out hn).mono ?_
    rintro e w2 ⟨rfl, hb2⟩
    rw [h1]
    go_wp2_with fail
    refine (implWord_any _ _ hs).mono ?_
    rintro e w0 ⟨rfl, rfl⟩
    rw [h2]
    go_wp2_with fail
    refine (isDay_any _ _).mono ?_
    rintro e w0 ⟨rfl, rfl⟩
    rw [h3]
    go_wp2
    go_ret2
    exact RetSC.err H.out rfl hb2
  · have H := Lib.hid (show movePromise L s d = ([], 4) by simp [movePromise, h0])
    clear h0
    have hL40 := arePromises_le h1
    obtain ⟨i0, hi, hz0, hz1, hz2⟩ := info_parts Try.infoPromise
    obtain ⟨A, c, rfl, hl, hc, hr⟩ := hv
    unfold maxLen at hc
    have Hr := Lib.hid hr
    clear hr
    obtain ⟨hd0, hd1⟩ := inR_iff.1 h3
    have Hk := Lib.hid h4
    clear h4
    go_enter Try.func25, Try.ntmps25
    go_wp2_with fail
    refine (implArePromises_any w L _ Hv.out Hf.out hn).mono ?_
    rintro e w2 ⟨rfl, hb2⟩
    rw [h1]
    go_wp2_with fail
    refine (implWord_any _ _ hs).mono ?_
    rintro e w0 ⟨rfl, rfl⟩
    rw [h2]
    go_wp2_with fail
    refine (isDay_any _ _).mono ?_
    rintro e w0 ⟨rfl, rfl⟩
    rw [h3]
    have Hr2 := Lib.hid (Hr.out.below' hb2)
    go_wp2_with (at_builtin; refine wpList_append_sl _ rfl (.tmp 21) (.tmp 22) _ rfl w2.heap.size 43 i0 _ 3 32 Try.underlying25 hi hz0 hz1 hz2 rfl (by omega) (.slice (some ⟨w2.heap.size, 0, none⟩) 0 0) 0 [] rfl (own_empty _ _ _ (Nat.le_refl _)) A L.length c (promiseRow L) rfl (Hr2.out.alloc' _) (promiseRow_one L) (by unfold maxLen; omega) (by omega) (by simp) ?_; intro A9 c9 w9 ho9 hg9 hor9; simp only [Nat.zero_add, List.nil_append] at ho9 ⊢; have q9 : Below w2.heap.size w2 w9 := ((Below.refl _ _).alloc (Nat.le_refl _) _).grown hg9 (by simp) (fun k hk => by simp [Value.ownBlock] at hk; omega))
    clear hor9 hg9
    have Ho := Lib.hid ho9
    clear ho9
    go_loop [26] (fun i => ∃ q : Nat, q ≤ L.length ∧ i = .int .i64 q ∧ (∀ j, j < q → (promiseAt L j).name ≠ s)) (fun i => L.length - (intOf i).toNat)
    case atStart => exact ⟨0, Nat.zero_le _, rfl, fun j h => absurd h (by omega)⟩
    case round =>
      obtain ⟨q, hq, rfl, hall⟩ := hrel
      have Hall := Lib.hid hall
      clear hall
      by_cases hlt : q < L.length
      · obtain ⟨g, cc, hv9, _, hg9lt⟩ := own_form Ho.out (by omega)
        obtain ⟨_, hl9, hc9⟩ := own_caps Ho.out
        unfold maxLen at hc9
        injection hv9 with hA9 hn9 hc9'
        subst hA9
        clear hn9 hc9' cc
        obtain ⟨e0, e1, e2⟩ := promiseRow_at L q hlt
        have d0 := (Ho.out.cellAt (q * 3) (by omega)).trans e0
        have d1 := (Ho.out.cellAt (q * 3 + 1) (by omega)).trans e1
        have f1 := Ho.out.frozenAt (q * 3 + 1)
        clear e0 e1 e2
        have j0 : (0 : Int) ≤ (q : Int) := Int.natCast_nonneg _
        have j1 : (q : Int) < (L.length : Int) := by omega
        by_cases he : (promiseAt L q).name = s
        · have hx := promIx_some.2 ⟨hlt, he, Hall.out⟩
          have e := beq_str_of he
    
          exact absurd (hx.symm.trans Hk.out) (by simp)
        · have e := beq_str_ne he
          have HE := Lib.hid he
          clear he
          go_wp2
          go_round
          case rel => exact ⟨q + 1, by omega, by go_num, fun j hj => by
            by_cases e : j = q
            · subst e; exact HE.out
            · exact Hall.out j (by omega)⟩
          case measure => simp [intOf]; omega
      · go_wp2
        go_ret2
        exact RetSC.err H.out rfl (hb2.trans (q9.mono hb2.size))
  · have H := Lib.hid (show movePromise L s d = (setDay L i d, 0) by simp [movePromise, h0, h4])
    clear h0
    have hL40 := arePromises_le h1
    obtain ⟨i0, hi, hz0, hz1, hz2⟩ := info_parts Try.infoPromise
    obtain ⟨A, c, rfl, hl, hc, hr⟩ := hv
    unfold maxLen at hc
    have Hr := Lib.hid hr
    clear hr
    obtain ⟨hd0, hd1⟩ := inR_iff.1 h3
    have Hk := Lib.hid h4
    clear h4
    go_enter Try.func25, Try.ntmps25
    go_wp2_with fail
    refine (implArePromises_any w L _ Hv.out Hf.out hn).mono ?_
    rintro e w2 ⟨rfl, hb2⟩
    rw [h1]
    go_wp2_with fail
    refine (implWord_any _ _ hs).mono ?_
    rintro e w0 ⟨rfl, rfl⟩
    rw [h2]
    go_wp2_with fail
    refine (isDay_any _ _).mono ?_
    rintro e w0 ⟨rfl, rfl⟩
    rw [h3]
    have Hr2 := Lib.hid (Hr.out.below' hb2)
    go_wp2_with (at_builtin; refine wpList_append_sl _ rfl (.tmp 21) (.tmp 22) _ rfl w2.heap.size 43 i0 _ 3 32 Try.underlying25 hi hz0 hz1 hz2 rfl (by omega) (.slice (some ⟨w2.heap.size, 0, none⟩) 0 0) 0 [] rfl (own_empty _ _ _ (Nat.le_refl _)) A L.length c (promiseRow L) rfl (Hr2.out.alloc' _) (promiseRow_one L) (by unfold maxLen; omega) (by omega) (by simp) ?_; intro A9 c9 w9 ho9 hg9 hor9; simp only [Nat.zero_add, List.nil_append] at ho9 ⊢; have q9 : Below w2.heap.size w2 w9 := ((Below.refl _ _).alloc (Nat.le_refl _) _).grown hg9 (by simp) (fun k hk => by simp [Value.ownBlock] at hk; omega))
    clear hor9 hg9
    have Ho := Lib.hid ho9
    clear ho9
    go_loop [26] (fun i => ∃ q : Nat, q ≤ L.length ∧ i = .int .i64 q ∧ (∀ j, j < q → (promiseAt L j).name ≠ s)) (fun i => L.length - (intOf i).toNat)
    case atStart => exact ⟨0, Nat.zero_le _, rfl, fun j h => absurd h (by omega)⟩
    case round =>
      obtain ⟨q, hq, rfl, hall⟩ := hrel
      have Hall := Lib.hid hall
      clear hall
      by_cases hlt : q < L.length
      · obtain ⟨g, cc, hv9, _, hg9lt⟩ := own_form Ho.out (by omega)
        obtain ⟨_, hl9, hc9⟩ := own_caps Ho.out
        unfold maxLen at hc9
        injection hv9 with hA9 hn9 hc9'
        subst hA9
        clear hn9 hc9' cc
        obtain ⟨e0, e1, e2⟩ := promiseRow_at L q hlt
        have d0 := (Ho.out.cellAt (q * 3) (by omega)).trans e0
        have d1 := (Ho.out.cellAt (q * 3 + 1) (by omega)).trans e1
        have f1 := Ho.out.frozenAt (q * 3 + 1)
        clear e0 e1 e2
        have j0 : (0 : Int) ≤ (q : Int) := Int.natCast_nonneg _
        have j1 : (q : Int) < (L.length : Int) := by omega
        by_cases he : (promiseAt L q).name = s
        · have hx := promIx_some.2 ⟨hlt, he, Hall.out⟩
          have e := beq_str_of he
    
          have hqi : q = i := by have := hx.symm.trans Hk.out; simpa using this
          have HQ := Lib.hid hqi
          clear hx he hqi
          go_wp2
          go_ret2
          refine RetSC.ok H.out (w' := _) (n := L.length) (xs := promiseRow (setDay L q d)) (v := .slice (some ⟨g, 0, none⟩) L.length c9) (base' := w2.heap.size) ?_ (setDay_len _ _ _).symm (by rw [HQ.out]) (hb2.size) ?_
          · rw [← promiseRow_set1 _ L q hlt]
            exact (Ho.out.stored (q * 3 + 1) _).1
          · refine (hb2.trans (q9.mono hb2.size)).setCell (Nat.le_trans hb2.size (World.ownsRow.lt Ho.out g rfl).1) _
        · have e := beq_str_ne he
          have HE := Lib.hid he
          clear he
          go_wp2
          go_round
          case rel => exact ⟨q + 1, by omega, by go_num, fun j hj => by
            by_cases e : j = q
            · subst e; exact HE.out
            · exact Hall.out j (by omega)⟩
          case measure => simp [intOf]; omega
      · exact absurd (promIx_some.1 Hk.out).2.1 (Hall.out i (by have := (promIx_some.1 Hk.out).1; omega))

set_option maxHeartbeats 2000000 in
theorem specMovePromise_any (w : World) (L : List Promise) (v : Value) (s : ByteArray) (d : Int) (hv : Sl w 3 v L.length (promiseRow L)) (hf : promiseFit L) (hn : L.length ≤ 4194304) (hs : s.size ≤ maxLen) :
    Calls Try.prog 24 #[v, .string s, .int .i64 d] w (RetSC w.heap.size 43 3 promiseRow (movePromise L s d) w) := by
  have Hv := Lib.hid hv
  have Hf := Lib.hid hf
  clear hf
  rcases moveCode_cases L s d with ⟨h1, h0⟩ | ⟨h1, h2, h0⟩ | ⟨h1, h2, h3, h0⟩ | ⟨h1, h2, h3, h4, h0⟩ | ⟨i, h1, h2, h3, h4, h0⟩
  · have H := Lib.hid (show movePromise L s d = ([], 1) by simp [movePromise, h0])
    clear h0
    clear hv
    go_enter Try.func24, Try.ntmps24
    go_wp2_with fail
    refine (specArePromises_any w L v Hv.out Hf.out hn).mono ?_
    rintro e w2 ⟨rfl, hb2⟩
    rw [h1]
    go_wp2
    go_ret2
    exact RetSC.err H.out rfl hb2
  · have H := Lib.hid (show movePromise L s d = ([], 1) by simp [movePromise, h0])
    clear h0
    clear hv
    go_enter Try.func24, Try.ntmps24
    go_wp2_with fail
    refine (specArePromises_any w L v Hv.out Hf.out hn).mono ?_
    rintro e w2 ⟨rfl, hb2⟩
    rw [h1]
    go_wp2_with fail
    refine (specWord_any _ _ hs).mono ?_
    rintro e w0 ⟨rfl, rfl⟩
    rw [h2]
    go_wp2
    go_ret2
    exact RetSC.err H.out rfl hb2
  · have H := Lib.hid (show movePromise L s d = ([], 2) by simp [movePromise, h0])
    clear h0
    clear hv
    go_enter Try.func24, Try.ntmps24
    go_wp2_with fail
    refine (specArePromises_any w L v Hv.out Hf.out hn).mono ?_
    rintro e w2 ⟨rfl, hb2⟩
    rw [h1]
    go_wp2_with fail
    refine (specWord_any _ _ hs).mono ?_
    rintro e w0 ⟨rfl, rfl⟩
    rw [h2]
    go_wp2_with fail
    refine (l01In_any _ _ _ _).mono ?_
    rintro e w0 ⟨rfl, rfl⟩
    rw [h3]
    go_wp2
    go_ret2
    exact RetSC.err H.out rfl hb2
  · have H := Lib.hid (show movePromise L s d = ([], 4) by simp [movePromise, h0])
    clear h0
    clear hv
    go_enter Try.func24, Try.ntmps24
    go_wp2_with fail
    refine (specArePromises_any w L v Hv.out Hf.out hn).mono ?_
    rintro e w2 ⟨rfl, hb2⟩
    rw [h1]
    go_wp2_with fail
    refine (specWord_any _ _ hs).mono ?_
    rintro e w0 ⟨rfl, rfl⟩
    rw [h2]
    go_wp2_with fail
    refine (l01In_any _ _ _ _).mono ?_
    rintro e w0 ⟨rfl, rfl⟩
    rw [h3]
    go_wp2_with fail
    refine (specFind_any w2 L v s (Hv.out.below hb2) hn).mono ?_
    rintro e w3 ⟨rfl, hb3⟩
    rw [h4]
    have b3 := hb2.trans (hb3.mono hb2.size)
    rw [ixI]
    go_wp2
    go_ret2
    exact RetSC.err H.out rfl b3
  · have H := Lib.hid (show movePromise L s d = (setDay L i d, 0) by simp [movePromise, h0, h4])
    clear h0
    have hL40 := arePromises_le h1
    obtain ⟨i0, hi, hz0, hz1, hz2⟩ := info_parts Try.infoPromise
    obtain ⟨A, c, rfl, hl, hc, hr⟩ := hv
    unfold maxLen at hc
    have Hr := Lib.hid hr
    clear hr
    obtain ⟨hd0, hd1⟩ := inR_iff.1 h3
    have Hk := Lib.hid h4
    skip
    go_enter Try.func24, Try.ntmps24
    go_wp2_with fail
    refine (specArePromises_any w L _ Hv.out Hf.out hn).mono ?_
    rintro e w2 ⟨rfl, hb2⟩
    rw [h1]
    go_wp2_with fail
    refine (specWord_any _ _ hs).mono ?_
    rintro e w0 ⟨rfl, rfl⟩
    rw [h2]
    go_wp2_with fail
    refine (l01In_any _ _ _ _).mono ?_
    rintro e w0 ⟨rfl, rfl⟩
    rw [h3]
    have hlt := (promIx_some.1 h4).1
    have j0 : (0 : Int) ≤ (i : Int) := Int.natCast_nonneg _
    have j1 : (i : Int) < (L.length : Int) := by omega
    go_wp2_with fail
    refine (specFind_any w2 L _ s (Hv.out.below hb2) hn).mono ?_
    rintro e w3 ⟨rfl, hb3⟩
    rw [h4]
    have b3 := hb2.trans (hb3.mono hb2.size)
    unfold ixI
    have Hr2 := Lib.hid (Hr.out.below' b3)
    have B0 := Lib.hid b3
    have hn0 : L.length ≤ 4194304 := by omega
    go_wp2_with (at_builtin; refine wpList_append_sl _ rfl (.tmp 27) (.tmp 28) _ rfl w3.heap.size 43 i0 _ 3 32 Try.underlying25 hi hz0 hz1 hz2 rfl (by omega) (.slice (some ⟨w3.heap.size, 0, none⟩) 0 0) 0 [] rfl (own_empty _ _ _ (Nat.le_refl _)) A L.length c (promiseRow L) rfl (Hr2.out.alloc' _) (promiseRow_one L) (by unfold maxLen; omega) (by omega) (by simp) ?_; intro A9 c9 w9 ho9 hg9 hor9; simp only [Nat.zero_add, List.nil_append] at ho9 ⊢; have q9 : Below w3.heap.size w3 w9 := ((Below.refl _ _).alloc (Nat.le_refl _) _).grown hg9 (by simp) (fun k hk => by simp [Value.ownBlock] at hk; omega))
    refine (specFind_any w9 L _ s (Hv.out.below (B0.out.trans (q9.mono B0.out.size))) hn).mono ?_
    rintro e w10 ⟨rfl, hb10⟩
    rw [h4]
    unfold ixI
    have Ho := Lib.hid (own_below ho9 hb10)
    have b10 := (B0.out.trans (q9.mono B0.out.size)).trans (hb10.mono (B0.out.trans (q9.mono B0.out.size)).size)
    clear ho9 hor9 hg9
    obtain ⟨g, cc, hv9, _, hg9lt⟩ := own_form Ho.out (by omega)
    obtain ⟨_, hl9, hc9⟩ := own_caps Ho.out
    unfold maxLen at hc9
    injection hv9 with hA9 hn9 hc9'
    subst hA9
    clear hn9 hc9' cc
    obtain ⟨e0, e1, e2⟩ := promiseRow_at L i hlt
    have d1 := (Ho.out.cellAt (i * 3 + 1) (by omega)).trans e1
    have f1 := Ho.out.frozenAt (i * 3 + 1)
    clear e0 e1 e2
    go_wp2
    go_ret2
    refine RetSC.ok H.out (w' := _) (n := L.length) (xs := promiseRow (setDay L i d)) (v := .slice (some ⟨g, 0, none⟩) L.length c9) (base' := w3.heap.size) ?_ (setDay_len _ _ _).symm rfl (B0.out.size) ?_
    · rw [← promiseRow_set1 _ L i hlt]
      exact (Ho.out.stored (i * 3 + 1) _).1
    · refine b10.setCell (Nat.le_trans B0.out.size (World.ownsRow.lt Ho.out g rfl).1) _

end Go.Proofs.Ytgafjchbfbpmmaa
