/- The walks of FreePieces, ReservePieces, ReleasePieces, UsePieces, FillBin. Printed by gen_stock.py. -/
import Derived.Test.YtngphnfbfednnaaStockB
namespace Go.Proofs.Ytngphnfbfednnaa
open Go.RowKit

theorem ix_some {L : List Bin} {s : ByteArray} {i : Nat} (h : binIx L s = some i) : ix L s = i := by simp [ix, h]
theorem Sl.bin {w : World} {v : Value} {L : List Bin} (h : Sl w 5 v L.length (binRow L)) {k : Nat} (hk : k < L.length) :
    ∃ g o c, v = .slice (some ⟨g, o, none⟩) L.length c ∧ L.length ≤ c ∧ c ≤ 9223372036854775807 ∧ g < w.heap.size ∧ w.cell? ⟨g, o + k * 5, none⟩ = some (.string (binAt L k).code) ∧ w.cell? ⟨g, o + k * 5 + 1, none⟩ = some (.int .i64 (binAt L k).amount) ∧ w.cell? ⟨g, o + k * 5 + 2, none⟩ = some (.int .i64 (binAt L k).reserved) ∧ w.cell? ⟨g, o + k * 5 + 3, none⟩ = some (.int .i64 (binAt L k).point) ∧ w.cell? ⟨g, o + k * 5 + 4, none⟩ = some (.int .i64 (binAt L k).lot) := by
  obtain ⟨A, c, rfl, hl, hc, hr⟩ := h
  obtain ⟨g, o, rfl, hg, h⟩ := hr.bin hk
  unfold maxLen at hc
  exact ⟨g, o, c, rfl, hl, hc, hg, h⟩
theorem own_drewN {w : World} {base n size : Nat} {e : TypeId} {xs : List Value} {v : Value} (h : w.ownsRow base e size v n xs) (k : Nat) : (w.drewN k).ownsRow base e size v n xs := h

set_option maxHeartbeats 1000000 in
theorem implFreePieces_any (w : World) (L : List Bin) (v : Value) (s : ByteArray) (hv : Sl w 5 v L.length (binRow L)) (hf : binFit L) (hn : L.length ≤ 4194304) (hs : s.size ≤ maxLen) :
    Calls Try.prog 21 #[v, .string s] w (RetIC (freePieces L s) w) := by
  have Hv := Lib.hid hv
  have Hf := Lib.hid hf
  clear hv hf
  rcases binCode_cases L s 1 with ⟨h1, h0⟩ | ⟨h1, h2, h0⟩ | ⟨h1, h2, h3, h0⟩ | ⟨i, h1, h2, h3, h0⟩
  · have H := Lib.hid (show freePieces L s = (0, 1) by simp [freePieces, h0])
    clear h0
    go_enter Try.func21, Try.ntmps21
    go_wp2_with fail
    refine (implIsStock_any w L v Hv.out Hf.out hn).mono ?_
    rintro e w2 ⟨rfl, hb2⟩
    rw [h1]
    go_wp2
    go_ret2
    exact RetIC.ok H.out hb2
  · exact absurd h2 (by decide)
  · have H := Lib.hid (show freePieces L s = (0, 4) by simp [freePieces, h0])
    clear h0
    go_enter Try.func21, Try.ntmps21
    go_wp2_with fail
    refine (implIsStock_any w L v Hv.out Hf.out hn).mono ?_
    rintro e w2 ⟨rfl, hb2⟩
    rw [h1]
    go_wp2_with fail
    refine (implFind_any w2 L v s (Hv.out.below hb2) hn).mono ?_
    rintro e w3 ⟨rfl, hb3⟩
    rw [h3]
    have b3 := hb2.trans (hb3.mono hb2.size)
    rw [ixI]
    go_wp2
    go_ret2
    exact RetIC.ok H.out b3
  · have H := Lib.hid (show freePieces L s = ((binAt L i).amount - (binAt L i).reserved, 0) by simp [freePieces, h0, ix_some h3])
    have hi := (binIx_some.1 h3).1
    have i0 : (0 : Int) ≤ (i : Int) := Int.natCast_nonneg _
    have i1 : (i : Int) < (L.length : Int) := by omega
    obtain ⟨_, ⟨a1, a2⟩, ⟨r1, r2⟩, _⟩ := stock_bin h1 hi
    have r3 : (binAt L i).reserved ≤ 100000 := by omega
    clear h0
    go_enter Try.func21, Try.ntmps21
    go_wp2_with fail
    refine (implIsStock_any w L v Hv.out Hf.out hn).mono ?_
    rintro e w2 ⟨rfl, hb2⟩
    rw [h1]
    go_wp2_with fail
    refine (implFind_any w2 L v s (Hv.out.below hb2) hn).mono ?_
    rintro e w3 ⟨rfl, hb3⟩
    rw [h3]
    have b3 := hb2.trans (hb3.mono hb2.size)
    unfold ixI
    obtain ⟨g, o, c, rfl, hl, hc, hg, c0, c1, c2, c3, c4⟩ := (Hv.out.below b3).bin hi
    go_wp2
    go_quiet (fail)
    go_wp2
    go_ret2
    exact RetIC.ok H.out (below_drewN b3 _)

set_option maxHeartbeats 1000000 in
theorem specFreePieces_any (w : World) (L : List Bin) (v : Value) (s : ByteArray) (hv : Sl w 5 v L.length (binRow L)) (hf : binFit L) (hn : L.length ≤ 4194304) (hs : s.size ≤ maxLen) :
    Calls Try.prog 20 #[v, .string s] w (RetIC (freePieces L s) w) := by
  have Hv := Lib.hid hv
  have Hf := Lib.hid hf
  clear hv hf
  by_cases h0 : binCode L s 1 = 0
  · rcases binCode_cases L s 1 with ⟨_, h⟩ | ⟨_, _, h⟩ | ⟨_, _, _, h⟩ | ⟨i, h1, h2, h3, _⟩
    · omega
    · omega
    · omega
    have H := Lib.hid (show freePieces L s = ((binAt L i).amount - (binAt L i).reserved, 0) by simp [freePieces, h0, ix_some h3])
    have hi := (binIx_some.1 h3).1
    have i0 : (0 : Int) ≤ (i : Int) := Int.natCast_nonneg _
    have i1 : (i : Int) < (L.length : Int) := by omega
    obtain ⟨_, ⟨a1, a2⟩, ⟨r1, r2⟩, _⟩ := stock_bin h1 hi
    have r3 : (binAt L i).reserved ≤ 100000 := by omega
    go_enter Try.func20, Try.ntmps20
    go_wp2_with fail
    refine (specBinCode_any w L v s 1 Hv.out Hf.out hn hs).mono ?_
    rintro e w2 ⟨rfl, hb2⟩
    rw [h0]
    clear h0
    go_wp2_with fail
    refine (specFind_any w2 L v s (Hv.out.below hb2) hn).mono ?_
    rintro e w3 ⟨rfl, hb3⟩
    rw [h3]
    have b3 := hb2.trans (hb3.mono hb2.size)
    unfold ixI
    obtain ⟨g, o, c, rfl, hl, hc, hg, c0, c1, c2, c3, c4⟩ := (Hv.out.below b3).bin hi
    go_wp2_with fail
    refine (specBinFree_any (binAt L i) w3 ⟨by omega, by omega⟩ ⟨by omega, by omega⟩).mono ?_
    rintro e w4 ⟨rfl, hb4⟩
    have b4 := b3.trans (hb4.mono b3.size)
    go_wp2
    go_ret2
    exact RetIC.ok H.out b4
  · have H := Lib.hid (show freePieces L s = (0, binCode L s 1) by simp [freePieces, h0])
    have t0 : (binCode L s 1 != 0) = true := by simpa using h0
    clear h0
    go_enter Try.func20, Try.ntmps20
    go_wp2_with fail
    refine (specBinCode_any w L v s 1 Hv.out Hf.out hn hs).mono ?_
    rintro e w2 ⟨rfl, hb2⟩
    go_wp2
    go_ret2
    exact RetIC.ok H.out hb2

set_option maxHeartbeats 2000000 in
theorem implReservePieces_any (w : World) (L : List Bin) (v : Value) (s : ByteArray) (p : Int) (hv : Sl w 5 v L.length (binRow L)) (hf : binFit L) (hn : L.length ≤ 4194304) (hs : s.size ≤ maxLen) :
    Calls Try.prog 29 #[v, .string s, .int .i64 p] w (RetSC w.heap.size 58 5 binRow (reserve L s p) w) := by
  have Hv := Lib.hid hv
  have Hf := Lib.hid hf
  clear hv hf
  by_cases h0 : binCode L s p = 0
  · rcases binCode_cases L s p with ⟨_, h⟩ | ⟨_, _, h⟩ | ⟨_, _, _, h⟩ | ⟨i, h1, h2, h3, _⟩
    · omega
    · omega
    · omega
    have hi := (binIx_some.1 h3).1
    have hi20 := isStock_le h1
    obtain ⟨p1, p2⟩ := inR_iff.1 h2
    have i0 : (0 : Int) ≤ (i : Int) := Int.natCast_nonneg _
    have i1 : (i : Int) < (L.length : Int) := by omega
    obtain ⟨_, ⟨a1, a2⟩, ⟨r1, r2⟩, _⟩ := stock_bin h1 hi
    have r3 : (binAt L i).reserved ≤ 100000 := by omega
    by_cases hlt : (binAt L i).amount - (binAt L i).reserved < p
    · have H := Lib.hid (show reserve L s p = ([], 5) by simp [reserve, h0, ix_some h3, hlt])
      clear h0
      go_enter Try.func29, Try.ntmps29
      go_wp2_with fail
      refine (implBinOf_good w L v s p Hv.out Hf.out hn hs i h1 h2 h3).mono ?_
      rintro e w2 ⟨y, rfl, ho, hb2⟩
      have Ho := Lib.hid ho
      clear ho
      obtain ⟨g, cc, hv9, _, hg9lt⟩ := own_form Ho.out (by omega)
      obtain ⟨A9, c9, rfl, hl9, hc9⟩ := own_slice Ho.out
      unfold maxLen at hc9
      injection hv9 with hA9 hn9 hc9'
      subst hA9
      clear hn9 hc9' cc
      obtain ⟨e0, e1, e2, e3, e4⟩ := binRow_at L i hi
      have d1 := (Ho.out.cellAt (i * 5 + 1) (by omega)).trans e1
      have f1 := Ho.out.frozenAt (i * 5 + 1)
      have d2 := (Ho.out.cellAt (i * 5 + 2) (by omega)).trans e2
      have f2 := Ho.out.frozenAt (i * 5 + 2)
      clear e0 e1 e2 e3 e4
      go_wp2
      go_quiet (fail)
      go_wp2
      go_ret2
      exact RetSC.err H.out rfl (below_drewN hb2 _)
    · have H := Lib.hid (show reserve L s p = (binSet L i (binAt L i).amount ((binAt L i).reserved + p), 0) by simp [reserve, h0, ix_some h3, hlt])
      clear h0
      go_enter Try.func29, Try.ntmps29
      go_wp2_with fail
      refine (implBinOf_good w L v s p Hv.out Hf.out hn hs i h1 h2 h3).mono ?_
      rintro e w2 ⟨y, rfl, ho, hb2⟩
      have Ho := Lib.hid ho
      clear ho
      obtain ⟨g, cc, hv9, _, hg9lt⟩ := own_form Ho.out (by omega)
      obtain ⟨A9, c9, rfl, hl9, hc9⟩ := own_slice Ho.out
      unfold maxLen at hc9
      injection hv9 with hA9 hn9 hc9'
      subst hA9
      clear hn9 hc9' cc
      obtain ⟨e0, e1, e2, e3, e4⟩ := binRow_at L i hi
      have d1 := (Ho.out.cellAt (i * 5 + 1) (by omega)).trans e1
      have f1 := Ho.out.frozenAt (i * 5 + 1)
      have d2 := (Ho.out.cellAt (i * 5 + 2) (by omega)).trans e2
      have f2 := Ho.out.frozenAt (i * 5 + 2)
      clear e0 e1 e2 e3 e4
      go_wp2
      go_quiet (fail)
      go_wp2
      go_ret2
      refine RetSC.ok H.out (w' := _) (n := L.length) (xs := binRow (binSet L i (binAt L i).amount ((binAt L i).reserved + p))) (v := .slice (some ⟨g, 0, none⟩) L.length c9) (base' := w.heap.size) ?_ (binSet_len _ _ _ _).symm rfl (Nat.le_refl _) ?_
      · rw [← binRow_set2 _ L i hi]
        exact ((own_drewN Ho.out _).stored (i * 5 + 2) _).1
      · refine (below_drewN hb2 _).setCell (Nat.le_of_not_lt fun h => ?_) _
        have := (World.ownsRow.lt Ho.out g rfl).1; simp at h; omega
  · have H := Lib.hid (show reserve L s p = ([], binCode L s p) by simp [reserve, h0])
    have t0 : (binCode L s p != 0) = true := by simpa using h0
    have H0 := Lib.hid h0
    clear h0
    go_enter Try.func29, Try.ntmps29
    go_wp2_with fail
    refine (implBinOf_bad w L v s p Hv.out Hf.out hn hs _ rfl H0.out).mono ?_
    rintro e w2 ⟨rfl, hb2⟩
    go_wp2
    go_ret2
    exact RetSC.err H.out rfl hb2

set_option maxHeartbeats 2000000 in
theorem implReleasePieces_any (w : World) (L : List Bin) (v : Value) (s : ByteArray) (p : Int) (hv : Sl w 5 v L.length (binRow L)) (hf : binFit L) (hn : L.length ≤ 4194304) (hs : s.size ≤ maxLen) :
    Calls Try.prog 31 #[v, .string s, .int .i64 p] w (RetSC w.heap.size 58 5 binRow (release L s p) w) := by
  have Hv := Lib.hid hv
  have Hf := Lib.hid hf
  clear hv hf
  by_cases h0 : binCode L s p = 0
  · rcases binCode_cases L s p with ⟨_, h⟩ | ⟨_, _, h⟩ | ⟨_, _, _, h⟩ | ⟨i, h1, h2, h3, _⟩
    · omega
    · omega
    · omega
    have hi := (binIx_some.1 h3).1
    have hi20 := isStock_le h1
    obtain ⟨p1, p2⟩ := inR_iff.1 h2
    have i0 : (0 : Int) ≤ (i : Int) := Int.natCast_nonneg _
    have i1 : (i : Int) < (L.length : Int) := by omega
    obtain ⟨_, ⟨a1, a2⟩, ⟨r1, r2⟩, _⟩ := stock_bin h1 hi
    have r3 : (binAt L i).reserved ≤ 100000 := by omega
    by_cases hlt : (binAt L i).reserved < p
    · have H := Lib.hid (show release L s p = ([], 5) by simp [release, h0, ix_some h3, hlt])
      clear h0
      go_enter Try.func31, Try.ntmps31
      go_wp2_with fail
      refine (implBinOf_good w L v s p Hv.out Hf.out hn hs i h1 h2 h3).mono ?_
      rintro e w2 ⟨y, rfl, ho, hb2⟩
      have Ho := Lib.hid ho
      clear ho
      obtain ⟨g, cc, hv9, _, hg9lt⟩ := own_form Ho.out (by omega)
      obtain ⟨A9, c9, rfl, hl9, hc9⟩ := own_slice Ho.out
      unfold maxLen at hc9
      injection hv9 with hA9 hn9 hc9'
      subst hA9
      clear hn9 hc9' cc
      obtain ⟨e0, e1, e2, e3, e4⟩ := binRow_at L i hi
      have d1 := (Ho.out.cellAt (i * 5 + 1) (by omega)).trans e1
      have f1 := Ho.out.frozenAt (i * 5 + 1)
      have d2 := (Ho.out.cellAt (i * 5 + 2) (by omega)).trans e2
      have f2 := Ho.out.frozenAt (i * 5 + 2)
      clear e0 e1 e2 e3 e4
      go_wp2
      go_ret2
      exact RetSC.err H.out rfl hb2
    · have H := Lib.hid (show release L s p = (binSet L i (binAt L i).amount ((binAt L i).reserved - p), 0) by simp [release, h0, ix_some h3, hlt])
      clear h0
      go_enter Try.func31, Try.ntmps31
      go_wp2_with fail
      refine (implBinOf_good w L v s p Hv.out Hf.out hn hs i h1 h2 h3).mono ?_
      rintro e w2 ⟨y, rfl, ho, hb2⟩
      have Ho := Lib.hid ho
      clear ho
      obtain ⟨g, cc, hv9, _, hg9lt⟩ := own_form Ho.out (by omega)
      obtain ⟨A9, c9, rfl, hl9, hc9⟩ := own_slice Ho.out
      unfold maxLen at hc9
      injection hv9 with hA9 hn9 hc9'
      subst hA9
      clear hn9 hc9' cc
      obtain ⟨e0, e1, e2, e3, e4⟩ := binRow_at L i hi
      have d1 := (Ho.out.cellAt (i * 5 + 1) (by omega)).trans e1
      have f1 := Ho.out.frozenAt (i * 5 + 1)
      have d2 := (Ho.out.cellAt (i * 5 + 2) (by omega)).trans e2
      have f2 := Ho.out.frozenAt (i * 5 + 2)
      clear e0 e1 e2 e3 e4
      go_wp2
      go_ret2
      refine RetSC.ok H.out (w' := _) (n := L.length) (xs := binRow (binSet L i (binAt L i).amount ((binAt L i).reserved - p))) (v := .slice (some ⟨g, 0, none⟩) L.length c9) (base' := w.heap.size) ?_ (binSet_len _ _ _ _).symm rfl (Nat.le_refl _) ?_
      · rw [← binRow_set2 _ L i hi]
        exact (Ho.out.stored (i * 5 + 2) _).1
      · refine (hb2).setCell (Nat.le_of_not_lt fun h => ?_) _
        have := (World.ownsRow.lt Ho.out g rfl).1; simp at h; omega
  · have H := Lib.hid (show release L s p = ([], binCode L s p) by simp [release, h0])
    have t0 : (binCode L s p != 0) = true := by simpa using h0
    have H0 := Lib.hid h0
    clear h0
    go_enter Try.func31, Try.ntmps31
    go_wp2_with fail
    refine (implBinOf_bad w L v s p Hv.out Hf.out hn hs _ rfl H0.out).mono ?_
    rintro e w2 ⟨rfl, hb2⟩
    go_wp2
    go_ret2
    exact RetSC.err H.out rfl hb2

set_option maxHeartbeats 2000000 in
theorem implFillBin_any (w : World) (L : List Bin) (v : Value) (s : ByteArray) (p : Int) (hv : Sl w 5 v L.length (binRow L)) (hf : binFit L) (hn : L.length ≤ 4194304) (hs : s.size ≤ maxLen) :
    Calls Try.prog 27 #[v, .string s, .int .i64 p] w (RetSC w.heap.size 58 5 binRow (fillBin L s p) w) := by
  have Hv := Lib.hid hv
  have Hf := Lib.hid hf
  clear hv hf
  by_cases h0 : binCode L s p = 0
  · rcases binCode_cases L s p with ⟨_, h⟩ | ⟨_, _, h⟩ | ⟨_, _, _, h⟩ | ⟨i, h1, h2, h3, _⟩
    · omega
    · omega
    · omega
    have hi := (binIx_some.1 h3).1
    have hi20 := isStock_le h1
    obtain ⟨p1, p2⟩ := inR_iff.1 h2
    have i0 : (0 : Int) ≤ (i : Int) := Int.natCast_nonneg _
    have i1 : (i : Int) < (L.length : Int) := by omega
    obtain ⟨_, ⟨a1, a2⟩, ⟨r1, r2⟩, _⟩ := stock_bin h1 hi
    have r3 : (binAt L i).reserved ≤ 100000 := by omega
    by_cases hlt : 100000 < (binAt L i).amount + p
    · have H := Lib.hid (show fillBin L s p = ([], 3) by simp [fillBin, h0, ix_some h3, hlt])
      clear h0
      go_enter Try.func27, Try.ntmps27
      go_wp2_with fail
      refine (implBinOf_good w L v s p Hv.out Hf.out hn hs i h1 h2 h3).mono ?_
      rintro e w2 ⟨y, rfl, ho, hb2⟩
      have Ho := Lib.hid ho
      clear ho
      obtain ⟨g, cc, hv9, _, hg9lt⟩ := own_form Ho.out (by omega)
      obtain ⟨A9, c9, rfl, hl9, hc9⟩ := own_slice Ho.out
      unfold maxLen at hc9
      injection hv9 with hA9 hn9 hc9'
      subst hA9
      clear hn9 hc9' cc
      obtain ⟨e0, e1, e2, e3, e4⟩ := binRow_at L i hi
      have d1 := (Ho.out.cellAt (i * 5 + 1) (by omega)).trans e1
      have f1 := Ho.out.frozenAt (i * 5 + 1)
      have d2 := (Ho.out.cellAt (i * 5 + 2) (by omega)).trans e2
      have f2 := Ho.out.frozenAt (i * 5 + 2)
      clear e0 e1 e2 e3 e4
      go_wp2
      go_ret2
      refine RetSC.err H.out rfl ((hb2).setCell (Nat.le_of_not_lt fun h => ?_) _)
      have := (World.ownsRow.lt Ho.out g rfl).1; simp at h; omega
    · have H := Lib.hid (show fillBin L s p = (binSet L i ((binAt L i).amount + p) (binAt L i).reserved, 0) by simp [fillBin, h0, ix_some h3, hlt])
      clear h0
      go_enter Try.func27, Try.ntmps27
      go_wp2_with fail
      refine (implBinOf_good w L v s p Hv.out Hf.out hn hs i h1 h2 h3).mono ?_
      rintro e w2 ⟨y, rfl, ho, hb2⟩
      have Ho := Lib.hid ho
      clear ho
      obtain ⟨g, cc, hv9, _, hg9lt⟩ := own_form Ho.out (by omega)
      obtain ⟨A9, c9, rfl, hl9, hc9⟩ := own_slice Ho.out
      unfold maxLen at hc9
      injection hv9 with hA9 hn9 hc9'
      subst hA9
      clear hn9 hc9' cc
      obtain ⟨e0, e1, e2, e3, e4⟩ := binRow_at L i hi
      have d1 := (Ho.out.cellAt (i * 5 + 1) (by omega)).trans e1
      have f1 := Ho.out.frozenAt (i * 5 + 1)
      have d2 := (Ho.out.cellAt (i * 5 + 2) (by omega)).trans e2
      have f2 := Ho.out.frozenAt (i * 5 + 2)
      clear e0 e1 e2 e3 e4
      go_wp2
      go_ret2
      refine RetSC.ok H.out (w' := _) (n := L.length) (xs := binRow (binSet L i ((binAt L i).amount + p) (binAt L i).reserved)) (v := .slice (some ⟨g, 0, none⟩) L.length c9) (base' := w.heap.size) ?_ (binSet_len _ _ _ _).symm rfl (Nat.le_refl _) ?_
      · rw [← binRow_set1 _ L i hi]
        exact (Ho.out.stored (i * 5 + 1) _).1
      · refine (hb2).setCell (Nat.le_of_not_lt fun h => ?_) _
        have := (World.ownsRow.lt Ho.out g rfl).1; simp at h; omega
  · have H := Lib.hid (show fillBin L s p = ([], binCode L s p) by simp [fillBin, h0])
    have t0 : (binCode L s p != 0) = true := by simpa using h0
    have H0 := Lib.hid h0
    clear h0
    go_enter Try.func27, Try.ntmps27
    go_wp2_with fail
    refine (implBinOf_bad w L v s p Hv.out Hf.out hn hs _ rfl H0.out).mono ?_
    rintro e w2 ⟨rfl, hb2⟩
    go_wp2
    go_ret2
    exact RetSC.err H.out rfl hb2

set_option maxHeartbeats 2000000 in
theorem implUsePieces_any (w : World) (L : List Bin) (v : Value) (s : ByteArray) (p : Int) (hv : Sl w 5 v L.length (binRow L)) (hf : binFit L) (hn : L.length ≤ 4194304) (hs : s.size ≤ maxLen) :
    Calls Try.prog 33 #[v, .string s, .int .i64 p] w (RetSC w.heap.size 58 5 binRow (usePieces L s p) w) := by
  have Hv := Lib.hid hv
  have Hf := Lib.hid hf
  clear hv hf
  by_cases h0 : binCode L s p = 0
  · rcases binCode_cases L s p with ⟨_, h⟩ | ⟨_, _, h⟩ | ⟨_, _, _, h⟩ | ⟨i, h1, h2, h3, _⟩
    · omega
    · omega
    · omega
    have hi := (binIx_some.1 h3).1
    have hi20 := isStock_le h1
    obtain ⟨p1, p2⟩ := inR_iff.1 h2
    have i0 : (0 : Int) ≤ (i : Int) := Int.natCast_nonneg _
    have i1 : (i : Int) < (L.length : Int) := by omega
    obtain ⟨_, ⟨a1, a2⟩, ⟨r1, r2⟩, _⟩ := stock_bin h1 hi
    have r3 : (binAt L i).reserved ≤ 100000 := by omega
    by_cases hlt : (binAt L i).reserved < p
    · have H := Lib.hid (show usePieces L s p = ([], 5) by simp [usePieces, h0, ix_some h3, hlt])
      have e := Lib.hid (show release L s p = ([], 5) by simp [release, h0, ix_some h3, hlt])
      clear h0
      go_enter Try.func33, Try.ntmps33
      go_wp2_with fail
      refine (implReleasePieces_any w L v s p Hv.out Hf.out hn hs).mono ?_
      rw [e.out]
      rintro e w2 ⟨y, rfl, ho, hb2⟩
      clear ho
      go_wp2
      go_ret2
      exact RetSC.err H.out rfl hb2
    · have H := Lib.hid (show usePieces L s p = (binSet L i ((binAt L i).amount - p) ((binAt L i).reserved - p), 0) by simp [usePieces, h0, ix_some h3, hlt])
      have e := Lib.hid (show release L s p = (binSet L i (binAt L i).amount ((binAt L i).reserved - p), 0) by simp [release, h0, ix_some h3, hlt])
      clear h0
      go_enter Try.func33, Try.ntmps33
      go_wp2_with fail
      refine (implReleasePieces_any w L v s p Hv.out Hf.out hn hs).mono ?_
      rw [e.out]
      rintro e w2 ⟨y, rfl, ho, hb2⟩
      obtain ⟨M, hM⟩ : ∃ M, M = binSet L i (binAt L i).amount ((binAt L i).reserved - p) := ⟨_, rfl⟩
      have hMl : M.length = L.length := by rw [hM, binSet_len]
      have hMa : (binAt M i).amount = (binAt L i).amount := by rw [hM, binSet_at _ _ _ _ _ hi, if_pos rfl]
      have hMr : (binAt M i).reserved = (binAt L i).reserved - p := by rw [hM, binSet_at _ _ _ _ _ hi, if_pos rfl]
      have HMs := Lib.hid (show binSet M i ((binAt L i).amount - p) ((binAt L i).reserved - p) = binSet L i ((binAt L i).amount - p) ((binAt L i).reserved - p) by rw [hM, binSet_set _ _ _ _ _ _ hi])
      have h3' := h3
      rw [← binSet_ix L i (binAt L i).amount ((binAt L i).reserved - p) hi s, ← hM] at h3'
      have Ho : Hid (w2.ownsRow w.heap.size 58 5 y M.length (binRow M)) := by rw [hM]; exact ho
      clear ho hM
      have HMr := Lib.hid hMr
      have hi' : i < M.length := by omega
      obtain ⟨g, cc, hv9, _, hg9lt⟩ := own_form Ho.out (by omega)
      obtain ⟨A9, c9, rfl, hl9, hc9⟩ := own_slice Ho.out
      unfold maxLen at hc9
      injection hv9 with hA9 hn9 hc9'
      subst hA9
      clear hn9 hc9' cc
      have i2 : (i : Int) < (M.length : Int) := by omega
      have HMl := Lib.hid hMl
      clear hMl hMr
      
      go_wp2_with fail
      refine (implFind_any w2 M _ s (Sl.of_own Ho.out) (by have := HMl.out; omega)).mono ?_
      rw [h3']
      unfold ixI
      rintro e w3 ⟨rfl, hb3⟩
      have b3 := hb2.trans (hb3.mono hb2.size)
      have Ho3 := Lib.hid (own_below Ho.out hb3)
      obtain ⟨e0, e1, e2, e3, e4⟩ := binRow_at M i hi'
      rw [hMa] at e1
      have d1 := (Ho3.out.cellAt (i * 5 + 1) (by omega)).trans e1
      have f1 := Ho3.out.frozenAt (i * 5 + 1)
      have HMa := Lib.hid hMa
      clear e0 e1 e2 e3 e4 hMa
      go_wp2
      go_ret2
      refine RetSC.ok H.out (w' := _) (n := M.length) (xs := binRow (binSet L i ((binAt L i).amount - p) ((binAt L i).reserved - p))) (v := .slice (some ⟨g, 0, none⟩) M.length c9) (base' := w.heap.size) ?_ (HMl.out.trans (binSet_len _ _ _ _).symm) rfl (Nat.le_refl _) ?_
      · have h := (Ho3.out.stored (i * 5 + 1) (.int .i64 ((binAt L i).amount - p))).1
        rw [binRow_set1 _ M i hi', HMr.out, HMs.out] at h
        exact h
      · refine b3.setCell (Nat.le_of_not_lt fun h => ?_) _
        have := (World.ownsRow.lt Ho3.out g rfl).1; simp at h; omega
  · have H := Lib.hid (show usePieces L s p = ([], binCode L s p) by simp [usePieces, h0])
    have e := Lib.hid (show release L s p = ([], binCode L s p) by simp [release, h0])
    have t0 : (binCode L s p != 0) = true := by simpa using h0
    clear h0
    go_enter Try.func33, Try.ntmps33
    go_wp2_with fail
    refine (implReleasePieces_any w L v s p Hv.out Hf.out hn hs).mono ?_
    rw [e.out]
    rintro e w2 ⟨y, rfl, ho, hb2⟩
    clear ho
    go_wp2
    go_ret2
    exact RetSC.err H.out rfl hb2

set_option maxHeartbeats 2000000 in
theorem specReservePieces_any (w : World) (L : List Bin) (v : Value) (s : ByteArray) (p : Int) (hv : Sl w 5 v L.length (binRow L)) (hf : binFit L) (hn : L.length ≤ 4194304) (hs : s.size ≤ maxLen) :
    Calls Try.prog 28 #[v, .string s, .int .i64 p] w (RetSC w.heap.size 58 5 binRow (reserve L s p) w) := by
  have Hv := Lib.hid hv
  have Hf := Lib.hid hf
  clear hv hf
  by_cases h0 : binCode L s p = 0
  · rcases binCode_cases L s p with ⟨_, h⟩ | ⟨_, _, h⟩ | ⟨_, _, _, h⟩ | ⟨i, h1, h2, h3, _⟩
    · omega
    · omega
    · omega
    have hi := (binIx_some.1 h3).1
    have hi20 := isStock_le h1
    obtain ⟨p1, p2⟩ := inR_iff.1 h2
    have i0 : (0 : Int) ≤ (i : Int) := Int.natCast_nonneg _
    have i1 : (i : Int) < (L.length : Int) := by omega
    obtain ⟨_, ⟨a1, a2⟩, ⟨r1, r2⟩, _⟩ := stock_bin h1 hi
    have r3 : (binAt L i).reserved ≤ 100000 := by omega
    by_cases hlt : (binAt L i).amount - (binAt L i).reserved < p
    · have H := Lib.hid (show reserve L s p = ([], 5) by simp [reserve, h0, ix_some h3, hlt])
      go_enter Try.func28, Try.ntmps28
      go_wp2_with fail
      refine (specBinCode_any w L v s p Hv.out Hf.out hn hs).mono ?_
      rintro e w2 ⟨rfl, hb2⟩
      rw [h0]
      clear h0
      go_wp2_with fail
      refine (specFind_any w2 L v s (Hv.out.below hb2) hn).mono ?_
      rintro e w3 ⟨rfl, hb3⟩
      rw [h3]
      have b3 := hb2.trans (hb3.mono hb2.size)
      unfold ixI
      obtain ⟨g, o, c, rfl, hl, hc, hg, c0, c1, c2, c3, c4⟩ := (Hv.out.below b3).bin hi
      go_wp2_with fail
      refine (specBinFree_any (binAt L i) w3 ⟨by omega, by omega⟩ ⟨by omega, by omega⟩).mono ?_
      rintro e w4 ⟨rfl, hb4⟩
      have b4 := b3.trans (hb4.mono b3.size)
      go_wp2
      go_ret2
      exact RetSC.err H.out rfl b4
    · have H := Lib.hid (show reserve L s p = (binSet L i (binAt L i).amount ((binAt L i).reserved + p), 0) by simp [reserve, h0, ix_some h3, hlt])
      go_enter Try.func28, Try.ntmps28
      go_wp2_with fail
      refine (specBinCode_any w L v s p Hv.out Hf.out hn hs).mono ?_
      rintro e w2 ⟨rfl, hb2⟩
      rw [h0]
      clear h0
      go_wp2_with fail
      refine (specFind_any w2 L v s (Hv.out.below hb2) hn).mono ?_
      rintro e w3 ⟨rfl, hb3⟩
      rw [h3]
      have b3 := hb2.trans (hb3.mono hb2.size)
      unfold ixI
      obtain ⟨g, o, c, rfl, hl, hc, hg, c0, c1, c2, c3, c4⟩ := (Hv.out.below b3).bin hi
      go_wp2_with fail
      refine (specBinFree_any (binAt L i) w3 ⟨by omega, by omega⟩ ⟨by omega, by omega⟩).mono ?_
      rintro e w4 ⟨rfl, hb4⟩
      have b4 := b3.trans (hb4.mono b3.size)
      go_wp2_with fail
      refine (specChange_any w4 L _ i 0 p (Hv.out.below b4) hn hi (by omega) (by omega) ⟨by omega, by omega⟩ ⟨by omega, by omega⟩).mono ?_
      rintro e w5 ⟨y, rfl, ho, hb5⟩
      have b5 := b4.trans (hb5.mono b4.size)
      simp only [Int.add_zero] at ho
      have Ho := Lib.hid ho
      clear ho
      go_wp2
      go_ret2
      exact RetSC.ok H.out Ho.out rfl rfl b4.size b5
  · have H := Lib.hid (show reserve L s p = ([], binCode L s p) by simp [reserve, h0])
    have t0 : (binCode L s p != 0) = true := by simpa using h0
    have t1 : (binCode L s p == 0) = false := by simpa using h0
    clear h0
    go_enter Try.func28, Try.ntmps28
    go_wp2_with fail
    refine (specBinCode_any w L v s p Hv.out Hf.out hn hs).mono ?_
    rintro e w2 ⟨rfl, hb2⟩
    go_wp2_with fail
    refine (specFind_any w2 L v s (Hv.out.below hb2) hn).mono ?_
    rintro e w3 ⟨rfl, hb3⟩
    have b3 := hb2.trans (hb3.mono hb2.size)
    go_wp2
    go_ret2
    exact RetSC.err H.out rfl b3

def heldCode (L : List Bin) (s : ByteArray) (p : Int) : Int := if binCode L s p = 0 then if (binAt L (ix L s)).reserved < p then 5 else 0 else binCode L s p
set_option maxHeartbeats 1000000 in
theorem specHeldCode_any (w : World) (L : List Bin) (v : Value) (s : ByteArray) (p : Int) (hv : Sl w 5 v L.length (binRow L)) (hf : binFit L) (hn : L.length ≤ 4194304) (hs : s.size ≤ maxLen) :
    Calls Try.prog 72 #[v, .string s, .int .i64 p] w (RetI (heldCode L s p) w) := by
  have Hv := Lib.hid hv
  have Hf := Lib.hid hf
  clear hv hf
  by_cases h0 : binCode L s p = 0
  · rcases binCode_cases L s p with ⟨_, h⟩ | ⟨_, _, h⟩ | ⟨_, _, _, h⟩ | ⟨i, h1, h2, h3, _⟩
    · omega
    · omega
    · omega
    have hi := (binIx_some.1 h3).1
    have hi20 := isStock_le h1
    obtain ⟨p1, p2⟩ := inR_iff.1 h2
    have i0 : (0 : Int) ≤ (i : Int) := Int.natCast_nonneg _
    have i1 : (i : Int) < (L.length : Int) := by omega
    obtain ⟨_, ⟨a1, a2⟩, ⟨r1, r2⟩, _⟩ := stock_bin h1 hi
    have r3 : (binAt L i).reserved ≤ 100000 := by omega
    by_cases hlt : (binAt L i).reserved < p
    · have H := Lib.hid (show heldCode L s p = 5 by simp [heldCode, h0, ix_some h3, hlt])
      go_enter Try.func72, Try.ntmps72
      go_wp2_with fail
      refine (specBinCode_any w L v s p Hv.out Hf.out hn hs).mono ?_
      rintro e w2 ⟨rfl, hb2⟩
      rw [h0]
      clear h0
      go_wp2_with fail
      refine (specFind_any w2 L v s (Hv.out.below hb2) hn).mono ?_
      rintro e w3 ⟨rfl, hb3⟩
      rw [h3]
      have b3 := hb2.trans (hb3.mono hb2.size)
      unfold ixI
      obtain ⟨g, o, c, rfl, hl, hc, hg, c0, c1, c2, c3, c4⟩ := (Hv.out.below b3).bin hi
      go_wp2
      go_ret
      exact ⟨retI H.out.symm, b3⟩
    · have H := Lib.hid (show heldCode L s p = 0 by simp [heldCode, h0, ix_some h3, hlt])
      go_enter Try.func72, Try.ntmps72
      go_wp2_with fail
      refine (specBinCode_any w L v s p Hv.out Hf.out hn hs).mono ?_
      rintro e w2 ⟨rfl, hb2⟩
      rw [h0]
      clear h0
      go_wp2_with fail
      refine (specFind_any w2 L v s (Hv.out.below hb2) hn).mono ?_
      rintro e w3 ⟨rfl, hb3⟩
      rw [h3]
      have b3 := hb2.trans (hb3.mono hb2.size)
      unfold ixI
      obtain ⟨g, o, c, rfl, hl, hc, hg, c0, c1, c2, c3, c4⟩ := (Hv.out.below b3).bin hi
      go_wp2
      go_ret
      exact ⟨retI H.out.symm, b3⟩
  · have H := Lib.hid (show heldCode L s p = binCode L s p by simp [heldCode, h0])
    have t1 : (binCode L s p == 0) = false := by simpa using h0
    clear h0
    go_enter Try.func72, Try.ntmps72
    go_wp2_with fail
    refine (specBinCode_any w L v s p Hv.out Hf.out hn hs).mono ?_
    rintro e w2 ⟨rfl, hb2⟩
    go_wp2
    go_ret
    exact ⟨retI H.out.symm, hb2⟩

set_option maxHeartbeats 2000000 in
theorem specReleasePieces_any (w : World) (L : List Bin) (v : Value) (s : ByteArray) (p : Int) (hv : Sl w 5 v L.length (binRow L)) (hf : binFit L) (hn : L.length ≤ 4194304) (hs : s.size ≤ maxLen) :
    Calls Try.prog 30 #[v, .string s, .int .i64 p] w (RetSC w.heap.size 58 5 binRow (release L s p) w) := by
  have Hv := Lib.hid hv
  have Hf := Lib.hid hf
  clear hv hf
  by_cases h0 : binCode L s p = 0
  · rcases binCode_cases L s p with ⟨_, h⟩ | ⟨_, _, h⟩ | ⟨_, _, _, h⟩ | ⟨i, h1, h2, h3, _⟩
    · omega
    · omega
    · omega
    have hi := (binIx_some.1 h3).1
    have hi20 := isStock_le h1
    obtain ⟨p1, p2⟩ := inR_iff.1 h2
    have i0 : (0 : Int) ≤ (i : Int) := Int.natCast_nonneg _
    have i1 : (i : Int) < (L.length : Int) := by omega
    obtain ⟨_, ⟨a1, a2⟩, ⟨r1, r2⟩, _⟩ := stock_bin h1 hi
    have r3 : (binAt L i).reserved ≤ 100000 := by omega
    by_cases hlt : (binAt L i).reserved < p
    · have H := Lib.hid (show release L s p = ([], 5) by simp [release, h0, ix_some h3, hlt])
      have hk := Lib.hid (show heldCode L s p = 5 by simp [heldCode, h0, ix_some h3, hlt])
      clear h0
      go_enter Try.func30, Try.ntmps30
      go_wp2_with fail
      refine (specHeldCode_any w L v s p Hv.out Hf.out hn hs).mono ?_
      rintro e w2 ⟨rfl, hb2⟩
      rw [hk.out]
      go_wp2
      go_ret2
      exact RetSC.err H.out rfl hb2
    · have H := Lib.hid (show release L s p = (binSet L i (binAt L i).amount ((binAt L i).reserved - p), 0) by simp [release, h0, ix_some h3, hlt])
      have hk := Lib.hid (show heldCode L s p = 0 by simp [heldCode, h0, ix_some h3, hlt])
      clear h0
      go_enter Try.func30, Try.ntmps30
      go_wp2_with fail
      refine (specHeldCode_any w L v s p Hv.out Hf.out hn hs).mono ?_
      rintro e w2 ⟨rfl, hb2⟩
      rw [hk.out]
      go_wp2_with fail
      refine (specFind_any w2 L v s (Hv.out.below hb2) hn).mono ?_
      rintro e w3 ⟨rfl, hb3⟩
      rw [h3]
      have b3 := hb2.trans (hb3.mono hb2.size)
      unfold ixI
      go_wp2_with fail
      refine (specChange_any w3 L _ i 0 (-p) (Hv.out.below b3) hn hi (by omega) (by omega) ⟨by omega, by omega⟩ ⟨by omega, by omega⟩).mono ?_
      rintro e w4 ⟨y, rfl, ho, hb4⟩
      have b4 := b3.trans (hb4.mono b3.size)
      simp only [Int.add_zero, ← Int.sub_eq_add_neg] at ho
      have Ho := Lib.hid ho
      clear ho
      go_wp2
      go_ret2
      exact RetSC.ok H.out Ho.out rfl rfl b3.size b4
  · have H := Lib.hid (show release L s p = ([], binCode L s p) by simp [release, h0])
    have hk := Lib.hid (show heldCode L s p = binCode L s p by simp [heldCode, h0])
    have t0 : (binCode L s p != 0) = true := by simpa using h0
    clear h0
    go_enter Try.func30, Try.ntmps30
    go_wp2_with fail
    refine (specHeldCode_any w L v s p Hv.out Hf.out hn hs).mono ?_
    rintro e w2 ⟨rfl, hb2⟩
    rw [hk.out]
    go_wp2
    go_ret2
    exact RetSC.err H.out rfl hb2

set_option maxHeartbeats 2000000 in
theorem specUsePieces_any (w : World) (L : List Bin) (v : Value) (s : ByteArray) (p : Int) (hv : Sl w 5 v L.length (binRow L)) (hf : binFit L) (hn : L.length ≤ 4194304) (hs : s.size ≤ maxLen) :
    Calls Try.prog 32 #[v, .string s, .int .i64 p] w (RetSC w.heap.size 58 5 binRow (usePieces L s p) w) := by
  have Hv := Lib.hid hv
  have Hf := Lib.hid hf
  clear hv hf
  by_cases h0 : binCode L s p = 0
  · rcases binCode_cases L s p with ⟨_, h⟩ | ⟨_, _, h⟩ | ⟨_, _, _, h⟩ | ⟨i, h1, h2, h3, _⟩
    · omega
    · omega
    · omega
    have hi := (binIx_some.1 h3).1
    have hi20 := isStock_le h1
    obtain ⟨p1, p2⟩ := inR_iff.1 h2
    have i0 : (0 : Int) ≤ (i : Int) := Int.natCast_nonneg _
    have i1 : (i : Int) < (L.length : Int) := by omega
    obtain ⟨_, ⟨a1, a2⟩, ⟨r1, r2⟩, _⟩ := stock_bin h1 hi
    have r3 : (binAt L i).reserved ≤ 100000 := by omega
    by_cases hlt : (binAt L i).reserved < p
    · have H := Lib.hid (show usePieces L s p = ([], 5) by simp [usePieces, h0, ix_some h3, hlt])
      have hk := Lib.hid (show heldCode L s p = 5 by simp [heldCode, h0, ix_some h3, hlt])
      clear h0
      go_enter Try.func32, Try.ntmps32
      go_wp2_with fail
      refine (specHeldCode_any w L v s p Hv.out Hf.out hn hs).mono ?_
      rintro e w2 ⟨rfl, hb2⟩
      rw [hk.out]
      go_wp2
      go_ret2
      exact RetSC.err H.out rfl hb2
    · have H := Lib.hid (show usePieces L s p = (binSet L i ((binAt L i).amount - p) ((binAt L i).reserved - p), 0) by simp [usePieces, h0, ix_some h3, hlt])
      have hk := Lib.hid (show heldCode L s p = 0 by simp [heldCode, h0, ix_some h3, hlt])
      clear h0
      go_enter Try.func32, Try.ntmps32
      go_wp2_with fail
      refine (specHeldCode_any w L v s p Hv.out Hf.out hn hs).mono ?_
      rintro e w2 ⟨rfl, hb2⟩
      rw [hk.out]
      go_wp2_with fail
      refine (specFind_any w2 L v s (Hv.out.below hb2) hn).mono ?_
      rintro e w3 ⟨rfl, hb3⟩
      rw [h3]
      have b3 := hb2.trans (hb3.mono hb2.size)
      unfold ixI
      go_wp2_with fail
      refine (specChange_any w3 L _ i (-p) (-p) (Hv.out.below b3) hn hi (by omega) (by omega) ⟨by omega, by omega⟩ ⟨by omega, by omega⟩).mono ?_
      rintro e w4 ⟨y, rfl, ho, hb4⟩
      have b4 := b3.trans (hb4.mono b3.size)
      simp only [Int.add_zero, ← Int.sub_eq_add_neg] at ho
      have Ho := Lib.hid ho
      clear ho
      go_wp2
      go_ret2
      exact RetSC.ok H.out Ho.out rfl rfl b3.size b4
  · have H := Lib.hid (show usePieces L s p = ([], binCode L s p) by simp [usePieces, h0])
    have hk := Lib.hid (show heldCode L s p = binCode L s p by simp [heldCode, h0])
    have t0 : (binCode L s p != 0) = true := by simpa using h0
    clear h0
    go_enter Try.func32, Try.ntmps32
    go_wp2_with fail
    refine (specHeldCode_any w L v s p Hv.out Hf.out hn hs).mono ?_
    rintro e w2 ⟨rfl, hb2⟩
    rw [hk.out]
    go_wp2
    go_ret2
    exact RetSC.err H.out rfl hb2

set_option maxHeartbeats 2000000 in
theorem specFillBin_any (w : World) (L : List Bin) (v : Value) (s : ByteArray) (p : Int) (hv : Sl w 5 v L.length (binRow L)) (hf : binFit L) (hn : L.length ≤ 4194304) (hs : s.size ≤ maxLen) :
    Calls Try.prog 26 #[v, .string s, .int .i64 p] w (RetSC w.heap.size 58 5 binRow (fillBin L s p) w) := by
  have Hv := Lib.hid hv
  have Hf := Lib.hid hf
  clear hv hf
  by_cases h0 : binCode L s p = 0
  · rcases binCode_cases L s p with ⟨_, h⟩ | ⟨_, _, h⟩ | ⟨_, _, _, h⟩ | ⟨i, h1, h2, h3, _⟩
    · omega
    · omega
    · omega
    have hi := (binIx_some.1 h3).1
    have hi20 := isStock_le h1
    obtain ⟨p1, p2⟩ := inR_iff.1 h2
    have i0 : (0 : Int) ≤ (i : Int) := Int.natCast_nonneg _
    have i1 : (i : Int) < (L.length : Int) := by omega
    obtain ⟨_, ⟨a1, a2⟩, ⟨r1, r2⟩, _⟩ := stock_bin h1 hi
    have r3 : (binAt L i).reserved ≤ 100000 := by omega
    by_cases hlt : 100000 < (binAt L i).amount + p
    · have H := Lib.hid (show fillBin L s p = ([], 3) by simp [fillBin, h0, ix_some h3, hlt])
      have hS := Lib.hid (show isStock (binSet L i ((binAt L i).amount + p) (binAt L i).reserved) = false from isStock_set_bad hi hlt)
      go_enter Try.func26, Try.ntmps26
      go_wp2_with fail
      refine (specBinCode_any w L v s p Hv.out Hf.out hn hs).mono ?_
      rintro e w2 ⟨rfl, hb2⟩
      rw [h0]
      clear h0
      go_wp2_with fail
      refine (specFind_any w2 L v s (Hv.out.below hb2) hn).mono ?_
      rintro e w3 ⟨rfl, hb3⟩
      rw [h3]
      have b3 := hb2.trans (hb3.mono hb2.size)
      unfold ixI
      go_wp2_with fail
      refine (specChange_any w3 L _ i p 0 (Hv.out.below b3) hn hi (by omega) (by omega) ⟨by omega, by omega⟩ ⟨by omega, by omega⟩).mono ?_
      rintro e w4 ⟨y, rfl, ho, hb4⟩
      have b4 := b3.trans (hb4.mono b3.size)
      simp only [Int.add_zero] at ho
      have Ho := Lib.hid ho
      clear ho
      go_wp2_with fail
      refine (specIsStock_any w4 _ _ (Sl.of_own Ho.out) (binFit_set Hf.out hi _ _) (by rw [binSet_len]; omega)).mono ?_
      rintro e w5 ⟨rfl, hb5⟩
      rw [hS.out]
      have b5 := b4.trans (hb5.mono b4.size)
      go_wp2
      go_ret2
      exact RetSC.err H.out rfl b5
    · have H := Lib.hid (show fillBin L s p = (binSet L i ((binAt L i).amount + p) (binAt L i).reserved, 0) by simp [fillBin, h0, ix_some h3, hlt])
      have hS := Lib.hid (show isStock (binSet L i ((binAt L i).amount + p) (binAt L i).reserved) = true from isStock_set h1 hi (by omega))
      go_enter Try.func26, Try.ntmps26
      go_wp2_with fail
      refine (specBinCode_any w L v s p Hv.out Hf.out hn hs).mono ?_
      rintro e w2 ⟨rfl, hb2⟩
      rw [h0]
      clear h0
      go_wp2_with fail
      refine (specFind_any w2 L v s (Hv.out.below hb2) hn).mono ?_
      rintro e w3 ⟨rfl, hb3⟩
      rw [h3]
      have b3 := hb2.trans (hb3.mono hb2.size)
      unfold ixI
      go_wp2_with fail
      refine (specChange_any w3 L _ i p 0 (Hv.out.below b3) hn hi (by omega) (by omega) ⟨by omega, by omega⟩ ⟨by omega, by omega⟩).mono ?_
      rintro e w4 ⟨y, rfl, ho, hb4⟩
      have b4 := b3.trans (hb4.mono b3.size)
      simp only [Int.add_zero] at ho
      have Ho := Lib.hid ho
      clear ho
      go_wp2_with fail
      refine (specIsStock_any w4 _ _ (Sl.of_own Ho.out) (binFit_set Hf.out hi _ _) (by rw [binSet_len]; omega)).mono ?_
      rintro e w5 ⟨rfl, hb5⟩
      rw [hS.out]
      have b5 := b4.trans (hb5.mono b4.size)
      go_wp2
      go_ret2
      exact RetSC.ok H.out (own_below Ho.out hb5) rfl rfl b3.size b5
  · have H := Lib.hid (show fillBin L s p = ([], binCode L s p) by simp [fillBin, h0])
    have t0 : (binCode L s p != 0) = true := by simpa using h0
    clear h0
    go_enter Try.func26, Try.ntmps26
    go_wp2_with fail
    refine (specBinCode_any w L v s p Hv.out Hf.out hn hs).mono ?_
    rintro e w2 ⟨rfl, hb2⟩
    go_wp2
    go_ret2
    exact RetSC.err H.out rfl hb2

end Go.Proofs.Ytngphnfbfednnaa
