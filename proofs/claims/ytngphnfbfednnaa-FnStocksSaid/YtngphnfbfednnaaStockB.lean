/- The walks of binOf, l24Code, l24Change. Printed by gen_stock.py. -/
import Derived.Test.YtngphnfbfednnaaStockA
import Derived.Test.YtngphnfbfednnaaApp
namespace Go.Proofs.Ytngphnfbfednnaa
open Go.RowKit

set_option maxHeartbeats 1000000 in
theorem specBinCode_any (w : World) (L : List Bin) (v : Value) (s : ByteArray) (p : Int) (hv : Sl w 5 v L.length (binRow L)) (hf : binFit L) (hn : L.length ≤ 4194304) (hs : s.size ≤ maxLen) :
    Calls Try.prog 65 #[v, .string s, .int .i64 p] w (RetI (binCode L s p) w) := by
  have Hv := Lib.hid hv
  have Hf := Lib.hid hf
  clear hv hf
  rcases binCode_cases L s p with ⟨h1, h0⟩ | ⟨h1, h2, h0⟩ | ⟨h1, h2, h3, h0⟩ | ⟨i, h1, h2, h3, h0⟩
  · have H := Lib.hid h0
    clear h0
    go_enter Try.func65, Try.ntmps65
    go_wp2_with fail
    refine (specIsStock_any w L v Hv.out Hf.out hn).mono ?_
    rintro e w2 ⟨rfl, hb2⟩
    rw [h1]
    go_wp2
    go_ret
    exact ⟨retI H.out.symm, hb2⟩
  · have H := Lib.hid h0
    clear h0
    go_enter Try.func65, Try.ntmps65
    go_wp2_with fail
    refine (specIsStock_any w L v Hv.out Hf.out hn).mono ?_
    rintro e w2 ⟨rfl, hb2⟩
    rw [h1]
    go_wp2_with fail
    refine (l01In_any _ _ _ _).mono ?_
    rintro e w0 ⟨rfl, rfl⟩
    rw [h2]
    go_wp2
    go_ret
    exact ⟨retI H.out.symm, hb2⟩
  · have H := Lib.hid h0
    clear h0
    go_enter Try.func65, Try.ntmps65
    go_wp2_with fail
    refine (specIsStock_any w L v Hv.out Hf.out hn).mono ?_
    rintro e w2 ⟨rfl, hb2⟩
    rw [h1]
    go_wp2_with fail
    refine (l01In_any _ _ _ _).mono ?_
    rintro e w0 ⟨rfl, rfl⟩
    rw [h2]
    go_wp2_with fail
    refine (specFind_any w2 L v s (Hv.out.below hb2) hn).mono ?_
    rintro e w3 ⟨rfl, hb3⟩
    rw [h3]
    have b3 := hb2.trans (hb3.mono hb2.size)
    rw [ixI]
    go_wp2
    go_ret
    exact ⟨retI H.out.symm, b3⟩
  · have H := Lib.hid h0
    clear h0
    go_enter Try.func65, Try.ntmps65
    go_wp2_with fail
    refine (specIsStock_any w L v Hv.out Hf.out hn).mono ?_
    rintro e w2 ⟨rfl, hb2⟩
    rw [h1]
    go_wp2_with fail
    refine (l01In_any _ _ _ _).mono ?_
    rintro e w0 ⟨rfl, rfl⟩
    rw [h2]
    go_wp2_with fail
    refine (specFind_any w2 L v s (Hv.out.below hb2) hn).mono ?_
    rintro e w3 ⟨rfl, hb3⟩
    rw [h3]
    have b3 := hb2.trans (hb3.mono hb2.size)
    unfold ixI
    go_wp2
    go_ret
    exact ⟨retI H.out.symm, b3⟩

set_option maxHeartbeats 400000 in
theorem specBinFree_any (j : Bin) (w : World) (h1 : 0 ≤ j.amount ∧ j.amount ≤ 1000000) (h2 : 0 ≤ j.reserved ∧ j.reserved ≤ 1000000) :
    Calls Try.prog 66 #[.agg #[.string (j).code, .int .i64 (j).amount, .int .i64 (j).reserved, .int .i64 (j).point, .int .i64 (j).lot]] w (RetI (j.amount - j.reserved) w) := by
  obtain ⟨h1, h1'⟩ := h1
  obtain ⟨h2, h2'⟩ := h2
  go_enter Try.func66, Try.ntmps66
  go_wp2
  go_ret
  exact ⟨rfl, (Below.refl _ _).alloc (Nat.le_refl _) _⟩

/-- A call that makes a stock. -/
def GivesBins (base : Nat) (M : List Bin) (w : World) (e : Ending) (w' : World) : Prop := ∃ v, e = .returned v ∧ w'.ownsRow base 58 5 v M.length (binRow M) ∧ Below w.heap.size w w'
set_option maxHeartbeats 1600000 in
theorem specChange_any (w : World) (L : List Bin) (v : Value) (i : Nat) (a r : Int) (hv : Sl w 5 v L.length (binRow L)) (hn : L.length ≤ 4194304) (hi : i < L.length) (ha : -1000000 ≤ a ∧ a ≤ 1000000) (hr0 : -1000000 ≤ r ∧ r ≤ 1000000) (hA : -100000000 ≤ (binAt L i).amount ∧ (binAt L i).amount ≤ 100000000) (hR : -100000000 ≤ (binAt L i).reserved ∧ (binAt L i).reserved ≤ 100000000) :
    Calls Try.prog 69 #[v, .int .i64 i, .int .i64 a, .int .i64 r] w (GivesBins w.heap.size (binSet L i ((binAt L i).amount + a) ((binAt L i).reserved + r)) w) := by
  obtain ⟨A, c, rfl, hl, hc, hr⟩ := hv
  have Hr := Lib.hid hr
  clear hr
  unfold maxLen at hc
  obtain ⟨ha1, ha2⟩ := ha
  obtain ⟨hr1, hr2⟩ := hr0
  obtain ⟨hA1, hA2⟩ := hA
  obtain ⟨hR1, hR2⟩ := hR
  have hlt := hi
  have j0 : (0 : Int) ≤ (i : Int) := Int.natCast_nonneg _
  have j1 : (i : Int) < (L.length : Int) := by omega
  clear hi
  obtain ⟨i0, hi, hz0, hz1, hz2⟩ := info_parts Try.infoBin
  go_enter Try.func69, Try.ntmps69
  go_wp2_with ((at_builtin; refine wpList_append_sl _ rfl (.tmp 10) (.tmp 11) _ rfl w.heap.size 58 i0 _ 5 48 Try.underlying25 hi hz0 hz1 hz2 rfl (by omega) (.slice (some ⟨w.heap.size, 0, none⟩) 0 0) 0 [] rfl (own_empty _ _ _ (Nat.le_refl _)) A L.length c (binRow L) rfl (Hr.out.alloc' _) (binRow_one L) (by unfold maxLen; omega) (by omega) (by simp) ?_; intro A9 c9 w9 ho9 hg9 hor9; simp only [Nat.zero_add, List.nil_append] at ho9 ⊢; have q9 : Below w.heap.size w w9 := ((Below.refl _ _).alloc (Nat.le_refl _) _).grown hg9 (by simp) (fun k hk => by simp [Value.ownBlock] at hk; omega)); obtain ⟨g, cc, hv9, _, hg9lt⟩ := own_form ho9 (by omega); injection hv9 with hA9 hn9 hc9'; subst hA9; clear hn9 hc9' hor9 hg9 cc; obtain ⟨e0, e1, e2, e3, e4⟩ := binRow_at L i hlt; have d1 := (ho9.cellAt (i * 5 + 1) (by omega)).trans e1; have f1 := ho9.frozenAt (i * 5 + 1); have d2 := (ho9.cellAt (i * 5 + 2) (by omega)).trans e2; have f2 := ho9.frozenAt (i * 5 + 2); have Ho9 := Lib.hid ho9; clear e0 e1 e2 e3 e4 ho9)
  go_ret
  refine ⟨_, rfl, ?_, (q9.setCell (Nat.le_of_not_lt fun h => ?_) _).setCell (Nat.le_of_not_lt fun h => ?_) _⟩
  · have h1 := (Ho9.out.stored (i * 5 + 1) (.int .i64 ((binAt L i).amount + a))).1
    rw [binRow_set1 _ L i hlt] at h1
    have h2 := (h1.stored (i * 5 + 2) (.int .i64 ((binAt L i).reserved + r))).1
    rw [binRow_set2 _ _ i (by rw [binSet_len]; exact hlt), binSet_set _ _ _ _ _ _ hlt] at h2
    rw [binSet_at _ _ _ _ _ hlt, if_pos rfl] at h2
    rw [binSet_len]
    exact h2
  · have := (World.ownsRow.lt Ho9.out g rfl).1; simp at h; omega
  · have := (World.ownsRow.lt Ho9.out g rfl).1; simp at h; omega

/-- What binOf gives where all is well. -/
def BinOfPost (base : Nat) (L : List Bin) (i : Nat) (w : World) (e : Ending) (w' : World) : Prop := ∃ v, e = .returned (.tuple #[v, .int .i64 i, .int .i64 0]) ∧ w'.ownsRow base 58 5 v L.length (binRow L) ∧ Below w.heap.size w w'
set_option maxHeartbeats 1000000 in
theorem implBinOf_bad (w : World) (L : List Bin) (v : Value) (s : ByteArray) (p : Int) (hv : Sl w 5 v L.length (binRow L)) (hf : binFit L) (hn : L.length ≤ 4194304) (hs : s.size ≤ maxLen) (k : Int) (hk : binCode L s p = k) (hk0 : k ≠ 0) :
    Calls Try.prog 71 #[v, .string s, .int .i64 p] w (fun e w' => e = .returned (.tuple #[.slice none 0 0, .int .i64 0, .int .i64 k]) ∧ Below w.heap.size w w') := by
  have Hv := Lib.hid hv
  have Hf := Lib.hid hf
  clear hv hf
  rcases binCode_cases L s p with ⟨h1, h0⟩ | ⟨h1, h2, h0⟩ | ⟨h1, h2, h3, h0⟩ | ⟨i, h1, h2, h3, h0⟩
  · obtain rfl := h0.symm.trans hk
    clear h0 hk hk0
    go_enter Try.func71, Try.ntmps71
    go_wp2_with fail
    refine (implIsStock_any w L v Hv.out Hf.out hn).mono ?_
    rintro e w2 ⟨rfl, hb2⟩
    rw [h1]
    go_wp2
    go_ret3
    exact ⟨rfl, hb2⟩
  · obtain rfl := h0.symm.trans hk
    clear h0 hk hk0
    go_enter Try.func71, Try.ntmps71
    go_wp2_with fail
    refine (implIsStock_any w L v Hv.out Hf.out hn).mono ?_
    rintro e w2 ⟨rfl, hb2⟩
    rw [h1]
    go_wp2_with fail
    refine (within_any _ _ _ _).mono ?_
    rintro e w0 ⟨rfl, rfl⟩
    rw [h2]
    go_wp2
    go_ret3
    exact ⟨rfl, hb2⟩
  · obtain rfl := h0.symm.trans hk
    clear h0 hk hk0
    go_enter Try.func71, Try.ntmps71
    go_wp2_with fail
    refine (implIsStock_any w L v Hv.out Hf.out hn).mono ?_
    rintro e w2 ⟨rfl, hb2⟩
    rw [h1]
    go_wp2_with fail
    refine (within_any _ _ _ _).mono ?_
    rintro e w0 ⟨rfl, rfl⟩
    rw [h2]
    go_wp2_with fail
    refine (implFind_any w2 L v s (Hv.out.below hb2) hn).mono ?_
    rintro e w3 ⟨rfl, hb3⟩
    rw [h3]
    have b3 := hb2.trans (hb3.mono hb2.size)
    rw [ixI]
    go_wp2
    go_ret3
    exact ⟨rfl, b3⟩
  · exact absurd (hk.symm.trans h0) hk0

set_option maxHeartbeats 1000000 in
theorem implBinOf_good (w : World) (L : List Bin) (v : Value) (s : ByteArray) (p : Int) (hv : Sl w 5 v L.length (binRow L)) (hf : binFit L) (hn : L.length ≤ 4194304) (hs : s.size ≤ maxLen) (i : Nat) (h1 : isStock L = true) (h2 : inR p 1 100000 = true) (h3 : binIx L s = some i) :
    Calls Try.prog 71 #[v, .string s, .int .i64 p] w (BinOfPost w.heap.size L i w) := by
  have Hv := Lib.hid hv
  have Hf := Lib.hid hf
  have hi20 := isStock_le h1
  clear hf
  obtain ⟨i0, hi, hz0, hz1, hz2⟩ := info_parts Try.infoBin
  obtain ⟨A, c, rfl, hl, hc, hr⟩ := hv
  unfold maxLen at hc
  have Hr := Lib.hid hr
  clear hr
  go_enter Try.func71, Try.ntmps71
  go_wp2_with fail
  refine (implIsStock_any w L _ Hv.out Hf.out hn).mono ?_
  rintro e w2 ⟨rfl, hb2⟩
  rw [h1]
  go_wp2_with fail
  refine (within_any _ _ _ _).mono ?_
  rintro e w0 ⟨rfl, rfl⟩
  rw [h2]
  go_wp2_with fail
  refine (implFind_any w2 L _ s (Hv.out.below hb2) hn).mono ?_
  rintro e w3 ⟨rfl, hb3⟩
  rw [h3]
  have b3 := hb2.trans (hb3.mono hb2.size)
  unfold ixI
  have Hr3 := Lib.hid (Hr.out.below' b3)
  have B3 := Lib.hid b3
  clear hb2 hb3 b3
  go_wp2_with (at_builtin; refine wpList_append_sl _ rfl (.tmp 21) (.tmp 22) _ rfl w3.heap.size 58 i0 _ 5 48 Try.underlying25 hi hz0 hz1 hz2 rfl (by omega) (.slice (some ⟨w3.heap.size, 0, none⟩) 0 0) 0 [] rfl (own_empty _ _ _ (Nat.le_refl _)) A L.length c (binRow L) rfl (Hr3.out.alloc' _) (binRow_one L) (by unfold maxLen; omega) (by omega) (by simp) ?_; intro A9 c9 w9 ho9 hg9 hor9; simp only [Nat.zero_add, List.nil_append] at ho9 ⊢; have q9 : Below w3.heap.size w3 w9 := ((Below.refl _ _).alloc (Nat.le_refl _) _).grown hg9 (by simp) (fun k hk => by simp [Value.ownBlock] at hk; omega))
  go_ret3
  exact ⟨_, rfl, own_base ho9 B3.out.size, B3.out.trans (q9.mono B3.out.size)⟩

end Go.Proofs.Ytngphnfbfednnaa
