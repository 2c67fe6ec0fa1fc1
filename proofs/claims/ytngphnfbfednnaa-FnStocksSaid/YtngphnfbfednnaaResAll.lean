/- The walks of ReserveAll. Printed by gen_stocke.py. -/
import Derived.Test.YtngphnfbfednnaaResM
namespace Go.Proofs.Ytngphnfbfednnaa
open Go.RowKit

set_option maxHeartbeats 4000000 in
theorem implReserveAll_any (w : World) (L : List Bin) (v : Value) (cs : List ByteArray) (u : Value) (hv : Sl w 5 v L.length (binRow L)) (hf : binFit L) (hn : L.length ≤ 4194304) (hu : Sl w 1 u cs.length (strsRow cs)) (hg : strsFit cs) (hm : cs.length ≤ 4194304) :
    Calls Try.prog 42 #[v, u] w (RetSC w.heap.size 58 5 binRow (reserveAll L cs) w) := by
  have Hv := Lib.hid hv
  have Hu := Lib.hid hu
  have Hf := Lib.hid hf
  have Hg := Lib.hid hg
  clear hf hg
  cases h1 : isStock L
  · have H := Lib.hid (show reserveAll L cs = ([], 1) by simp [reserveAll, h1])
    clear hv hu
    go_enter Try.func42, Try.ntmps42
    go_wp2_with fail
    refine (implIsStock_any w L v Hv.out Hf.out hn).mono ?_
    rintro e w2 ⟨rfl, hb2⟩
    rw [h1]
    go_wp2
    go_ret2
    exact RetSC.err H.out rfl hb2
  · obtain ⟨A', c', rfl, hl', hc', hr'⟩ := hu
    have Hr' := Lib.hid hr'
    unfold maxLen at hc'
    clear hr'
    by_cases h60 : 60 < cs.length
    · have H := Lib.hid (show reserveAll L cs = ([], 2) by simp [reserveAll, h1, h60])
      clear hv
      go_enter Try.func42, Try.ntmps42
      go_wp2_with fail
      refine (implIsStock_any w L v Hv.out Hf.out hn).mono ?_
      rintro e w2 ⟨rfl, hb2⟩
      rw [h1]
      go_wp2
      go_ret2
      exact RetSC.err H.out rfl hb2
    · have hL20 := isStock_le h1
      obtain ⟨i0, hi, hz0, hz1, hz2⟩ := info_parts Try.infoBin
      obtain ⟨A, c, rfl, hl, hc, hr⟩ := hv
      unfold maxLen at hc
      have Hr := Lib.hid hr
      clear hr
      go_enter Try.func42, Try.ntmps42
      go_wp2_with fail
      refine (implIsStock_any w L _ Hv.out Hf.out hn).mono ?_
      rintro e w2 ⟨rfl, hb2⟩
      rw [h1]
      go_wp2
      go_loopw [20] (fun i wr => ∃ k : Nat, k ≤ cs.length ∧ i = .int .i64 k ∧ (∀ j, j < k → binIx L (strsAt cs j) ≠ none) ∧ Below w.heap.size w wr) (fun i _ => cs.length - (intOf i).toNat)
      case atStart => exact ⟨0, Nat.zero_le _, rfl, fun j h => absurd h (by omega), hb2⟩
      case round =>
        obtain ⟨k, hk, rfl, hall, hb⟩ := hrel
        have Hall := Lib.hid hall
        have hsz := hb.size
        clear hall
        by_cases hlt : k < cs.length
        · obtain ⟨g', o', rfl, hg', c0⟩ := (Hr'.out.below hb (Nat.le_refl _)).strs hlt
          have i1 : (0 : Int) ≤ (k : Int) := Int.natCast_nonneg _
          have i2 : (k : Int) < (cs.length : Int) := by omega
          cases hx : binIx L (strsAt cs k) with
          | none =>
            have hin := allIn_bad hlt hx
            have H := Lib.hid (show reserveAll L cs = ([], 4) by simp [reserveAll, h1, h60, hin])
            clear hin
            go_wp2_with fail
            refine (implFind_any wr L _ (strsAt cs k) (Hv.out.below hb) hn).mono ?_
            rintro e w3 ⟨rfl, hb3⟩
            rw [hx]
            rw [ixI]
            go_wp2
            go_ret2
            exact RetSC.err H.out rfl (hb.trans (hb3.mono hsz))
          | some i =>
            go_wp2_with fail
            refine (implFind_any wr L _ (strsAt cs k) (Hv.out.below hb) hn).mono ?_
            rintro e w3 ⟨rfl, hb3⟩
            rw [hx]
            unfold ixI
            have Hx := Lib.hid hx
            clear hx
            go_wp2
            go_roundw
            case rel => exact ⟨k + 1, by omega, by go_num, fun j hj => by
              by_cases e : j = k
              · subst e; rw [Hx.out]; exact Option.some_ne_none _
              · exact Hall.out j (by omega), hb.trans (hb3.mono hsz)⟩
            case measure => simp [intOf]; omega
        · have hall2 : ∀ j, j < cs.length → binIx L (strsAt cs j) ≠ none := fun j hj => Hall.out j (by omega)
          have hin := allIn_good hall2
          have hnone : ∀ (_ : resGo L cs = none), reserveAll L cs = ([], 5) := fun h => by simp [reserveAll, h1, h60, hin, h]
          have hsome : ∀ (M : List Bin) (_ : resGo L cs = some M), reserveAll L cs = (M, 0) := fun M h => by simp [reserveAll, h1, h60, hin, h]
          have H5 := Lib.hid hnone
          have H0 := Lib.hid hsome
          have H2 := Lib.hid hall2
          clear hall2 hin hnone hsome
          obtain ⟨wo, rfl⟩ : ∃ wo : World, wo = wr := ⟨_, rfl⟩
          have Hro := Lib.hid (Hr.out.below' hb)
          go_wp2_with (at_builtin; refine wpList_append_sl _ rfl (.tmp 29) (.tmp 30) _ rfl wo.heap.size 58 i0 _ 5 48 Try.underlying25 hi hz0 hz1 hz2 rfl (by omega) (.slice (some ⟨wo.heap.size, 0, none⟩) 0 0) 0 [] rfl (own_empty _ _ _ (Nat.le_refl _)) A L.length c (binRow L) rfl (Hro.out.alloc' _) (binRow_one L) (by unfold maxLen; omega) (by omega) (by simp) ?_; intro A9 c9 w9 ho9 hg9 hor9; simp only [Nat.zero_add, List.nil_append] at ho9 ⊢; have q9 : Below wo.heap.size wo w9 := ((Below.refl _ _).alloc (Nat.le_refl _) _).grown hg9 (by simp) (fun k hk => by simp [Value.ownBlock] at hk; omega))
          clear hor9 hg9
          go_loopw [34] (fun i wi => ∃ (k : Nat) (M : List Bin), k ≤ cs.length ∧ i = .int .i64 k ∧ ResInv L cs k M ∧ wi.ownsRow wo.heap.size 58 5 (.slice A9 L.length c9) L.length (binRow M) ∧ Below wo.heap.size wo wi) (fun i _ => cs.length - (intOf i).toNat)
          case atStart => exact ⟨0, L, Nat.zero_le _, rfl, ResInv.start cs h1, ho9, q9⟩
          case round =>
            obtain ⟨k, M, hk, rfl, hI, ho, hbi⟩ := hrel
            clear ho9
            have HI := Lib.hid hI
            have Ho := Lib.hid ho
            have hMl := hI.1
            have HMl := Lib.hid hMl
            have hszi := hbi.size
            clear hI ho hMl
            have hbw := hb.trans (hbi.mono hsz)
            by_cases hlt : k < cs.length
            · obtain ⟨g', o', rfl, hg', c0⟩ := (Hr'.out.below hbw (Nat.le_refl _)).strs hlt
              have i1 : (0 : Int) ≤ (k : Int) := Int.natCast_nonneg _
              have i2 : (k : Int) < (cs.length : Int) := by omega
              obtain ⟨i, hx⟩ := Option.ne_none_iff_exists'.1 (H2.out k hlt)
              rw [← HI.out.2.2.1] at hx
              have hiM := (binIx_some.1 hx).1
              obtain ⟨_, ⟨a1, a2⟩, ⟨r1, r2⟩, _⟩ := stock_bin HI.out.2.1 hiM
              have r3 : (binAt M i).reserved ≤ 100000 := by omega
              obtain ⟨g, cc, hv9, _, hg9lt⟩ := own_form Ho.out (by have := HMl.out; omega)
              injection hv9 with hA9 hn9 hc9'
              subst hA9
              obtain ⟨_, hl9, hc9⟩ := own_caps Ho.out
              unfold maxLen at hc9
              clear hn9 hc9' cc
              have i3 : (0 : Int) ≤ (i : Int) := Int.natCast_nonneg _
              have i4 : (i : Int) < (L.length : Int) := by have := HMl.out; omega
              go_wp2_with fail
              refine (implFind_any wr M _ (strsAt cs k) (Sl.of_own (by rw [HMl.out]; exact Ho.out)) (by have := HMl.out; omega)).mono ?_
              rintro e w3 ⟨rfl, hb3⟩
              rw [hx]
              unfold ixI
              have Ho3 := Lib.hid (own_below Ho.out hb3)
              have b3 := hbi.trans (hb3.mono hszi)
              have hs3 := b3.size
              obtain ⟨e0, e1, e2, e3, e4⟩ := binRow_at M i hiM
              have d1 := (Ho3.out.cellAt (i * 5 + 1) (by have := HMl.out; omega)).trans e1
              have f1 := Ho3.out.frozenAt (i * 5 + 1)
              have d2 := (Ho3.out.cellAt (i * 5 + 2) (by have := HMl.out; omega)).trans e2
              have f2 := Ho3.out.frozenAt (i * 5 + 2)
              have Hx := Lib.hid hx
              clear e0 e1 e2 e3 e4 hx
              by_cases heq : (binAt M i).reserved = (binAt M i).amount
              · have H := Lib.hid (H5.out (HI.out.full hlt Hx.out heq))
                have t1 : ((binAt M i).reserved == (binAt M i).amount) = true := by simpa using heq
                have HE := Lib.hid heq
                clear heq
                go_wp2
                go_quiet (fail)
                go_wp2
                go_ret2
                exact RetSC.err H.out rfl (below_drewN (hb.trans (b3.mono hsz)) _)
              · have t1 : ((binAt M i).reserved == (binAt M i).amount) = false := by simpa using heq
                have HE := Lib.hid heq
                clear heq
                go_wp2
                go_quiet (fail)
                go_wp2
                go_roundw
                case rel =>
                  refine ⟨k + 1, _, by omega, by go_num, HI.out.step hlt Hx.out HE.out, ?_, (below_drewN b3 _).setCell (World.ownsRow.lt Ho3.out g rfl).1 _⟩
                  rw [← binRow_set2 _ M i hiM]
                  exact ((own_drewN Ho3.out _).stored (i * 5 + 2) _).1
                case measure => simp [intOf]; omega
            · have H := Lib.hid (H0.out M (HI.out.last (by omega)))
              go_wp2
              go_ret2
              exact RetSC.ok H.out Ho.out HMl.out.symm rfl hsz hbw

set_option maxHeartbeats 4000000 in
theorem specReserveAll_any (w : World) (L : List Bin) (v : Value) (cs : List ByteArray) (u : Value) (hv : Sl w 5 v L.length (binRow L)) (hf : binFit L) (hn : L.length ≤ 4194304) (hu : Sl w 1 u cs.length (strsRow cs)) (hg : strsFit cs) (hm : cs.length ≤ 4194304) :
    Calls Try.prog 41 #[v, u] w (RetSC w.heap.size 58 5 binRow (reserveAll L cs) w) := by
  have Hv := Lib.hid hv
  have Hu := Lib.hid hu
  have Hf := Lib.hid hf
  have Hg := Lib.hid hg
  clear hf hg
  cases h1 : isStock L
  · have H := Lib.hid (show reserveAll L cs = ([], 1) by simp [reserveAll, h1])
    clear hv hu
    go_enter Try.func41, Try.ntmps41
    go_wp2_with fail
    refine (specIsStock_any w L v Hv.out Hf.out hn).mono ?_
    rintro e w2 ⟨rfl, hb2⟩
    rw [h1]
    go_wp2
    go_ret2
    exact RetSC.err H.out rfl hb2
  · obtain ⟨A', c', rfl, hl', hc', hr'⟩ := hu
    have Hr' := Lib.hid hr'
    unfold maxLen at hc'
    clear hr'
    by_cases h60 : 60 < cs.length
    · have H := Lib.hid (show reserveAll L cs = ([], 2) by simp [reserveAll, h1, h60])
      clear hv
      go_enter Try.func41, Try.ntmps41
      go_wp2_with fail
      refine (specIsStock_any w L v Hv.out Hf.out hn).mono ?_
      rintro e w2 ⟨rfl, hb2⟩
      rw [h1]
      go_wp2
      go_ret2
      exact RetSC.err H.out rfl hb2
    · have hL20 := isStock_le h1
      obtain ⟨i0, hi, hz0, hz1, hz2⟩ := info_parts Try.infoBin
      obtain ⟨A, c, rfl, hl, hc, hr⟩ := hv
      unfold maxLen at hc
      have Hr := Lib.hid hr
      clear hr
      go_enter Try.func41, Try.ntmps41
      go_wp2_with fail
      refine (specIsStock_any w L _ Hv.out Hf.out hn).mono ?_
      rintro e w2 ⟨rfl, hb2⟩
      rw [h1]
      go_wp2
      go_loopw [6] (fun i wr => ∃ k : Nat, k ≤ cs.length ∧ i = .int .i64 k ∧ (∀ j, j < k → binIx L (strsAt cs j) ≠ none) ∧ Below w.heap.size w wr) (fun i _ => cs.length - (intOf i).toNat)
      case atStart => exact ⟨0, Nat.zero_le _, rfl, fun j h => absurd h (by omega), hb2⟩
      case round =>
        obtain ⟨k, hk, rfl, hall, hb⟩ := hrel
        have Hall := Lib.hid hall
        have hsz := hb.size
        clear hall
        by_cases hlt : k < cs.length
        · obtain ⟨g', o', rfl, hg', c0⟩ := (Hr'.out.below hb (Nat.le_refl _)).strs hlt
          have i1 : (0 : Int) ≤ (k : Int) := Int.natCast_nonneg _
          have i2 : (k : Int) < (cs.length : Int) := by omega
          cases hx : binIx L (strsAt cs k) with
          | none =>
            have hin := allIn_bad hlt hx
            have H := Lib.hid (show reserveAll L cs = ([], 4) by simp [reserveAll, h1, h60, hin])
            clear hin
            go_wp2_with fail
            refine (specFind_any wr L _ (strsAt cs k) (Hv.out.below hb) hn).mono ?_
            rintro e w3 ⟨rfl, hb3⟩
            rw [hx]
            rw [ixI]
            go_wp2
            go_ret2
            exact RetSC.err H.out rfl (hb.trans (hb3.mono hsz))
          | some i =>
            go_wp2_with fail
            refine (specFind_any wr L _ (strsAt cs k) (Hv.out.below hb) hn).mono ?_
            rintro e w3 ⟨rfl, hb3⟩
            rw [hx]
            unfold ixI
            have Hx := Lib.hid hx
            clear hx
            go_wp2
            go_roundw
            case rel => exact ⟨k + 1, by omega, by go_num, fun j hj => by
              by_cases e : j = k
              · subst e; rw [Hx.out]; exact Option.some_ne_none _
              · exact Hall.out j (by omega), hb.trans (hb3.mono hsz)⟩
            case measure => simp [intOf]; omega
        · have hall2 : ∀ j, j < cs.length → binIx L (strsAt cs j) ≠ none := fun j hj => Hall.out j (by omega)
          have hin := allIn_good hall2
          have hnone : ∀ (_ : resGo L cs = none), reserveAll L cs = ([], 5) := fun h => by simp [reserveAll, h1, h60, hin, h]
          have hsome : ∀ (M : List Bin) (_ : resGo L cs = some M), reserveAll L cs = (M, 0) := fun M h => by simp [reserveAll, h1, h60, hin, h]
          have H5 := Lib.hid hnone
          have H0 := Lib.hid hsome
          have H2 := Lib.hid hall2
          clear hall2 hin hnone hsome
          obtain ⟨wo, rfl⟩ : ∃ wo : World, wo = wr := ⟨_, rfl⟩
          have Hro := Lib.hid (Hr.out.below' hb)
          go_wp2_with (at_builtin; refine wpList_append_sl _ rfl (.tmp 29) (.tmp 30) _ rfl wo.heap.size 58 i0 _ 5 48 Try.underlying25 hi hz0 hz1 hz2 rfl (by omega) (.slice (some ⟨wo.heap.size, 0, none⟩) 0 0) 0 [] rfl (own_empty _ _ _ (Nat.le_refl _)) A L.length c (binRow L) rfl (Hro.out.alloc' _) (binRow_one L) (by unfold maxLen; omega) (by omega) (by simp) ?_; intro A9 c9 w9 ho9 hg9 hor9; simp only [Nat.zero_add, List.nil_append] at ho9 ⊢; have q9 : Below wo.heap.size wo w9 := ((Below.refl _ _).alloc (Nat.le_refl _) _).grown hg9 (by simp) (fun k hk => by simp [Value.ownBlock] at hk; omega))
          clear hor9 hg9
          go_loopw [7, 8] (fun s i wi => ∃ (k : Nat) (M : List Bin) (Ao : Option Addr) (co : Nat), k ≤ cs.length ∧ i = .int .i64 k ∧ s = .slice Ao M.length co ∧ ResInv L cs k M ∧ wi.ownsRow wo.heap.size 58 5 (.slice Ao M.length co) M.length (binRow M) ∧ Below wo.heap.size wo wi) (fun _ i _ => cs.length - (intOf i).toNat)
          case atStart => exact ⟨0, L, _, _, Nat.zero_le _, rfl, rfl, ResInv.start cs h1, ho9, q9⟩
          case round =>
            obtain ⟨k, M, Ao, co, hk, rfl, rfl, hI, ho, hbi⟩ := hrel
            clear ho9
            have HI := Lib.hid hI
            have Ho := Lib.hid ho
            have hMl := hI.1
            have HMl := Lib.hid hMl
            have hszi := hbi.size
            clear hI ho hMl
            have hbw := hb.trans (hbi.mono hsz)
            by_cases hlt : k < cs.length
            · obtain ⟨g', o', rfl, hg', c0⟩ := (Hr'.out.below hbw (Nat.le_refl _)).strs hlt
              have i1 : (0 : Int) ≤ (k : Int) := Int.natCast_nonneg _
              have i2 : (k : Int) < (cs.length : Int) := by omega
              obtain ⟨i, hx⟩ := Option.ne_none_iff_exists'.1 (H2.out k hlt)
              rw [← HI.out.2.2.1] at hx
              have hiM := (binIx_some.1 hx).1
              obtain ⟨_, ⟨a1, a2⟩, ⟨r1, r2⟩, _⟩ := stock_bin HI.out.2.1 hiM
              have r3 : (binAt M i).reserved ≤ 100000 := by omega
              have hM20 : M.length ≤ 20 := by have := HMl.out; omega
              obtain ⟨g, cc, hv9, _, hg9lt⟩ := own_form Ho.out (by omega)
              injection hv9 with hA9 hn9 hc9'
              subst hA9
              obtain ⟨_, hl9, hc9⟩ := own_caps Ho.out
              unfold maxLen at hc9
              clear hn9 hc9' cc
              have i3 : (0 : Int) ≤ (i : Int) := Int.natCast_nonneg _
              have i4 : (i : Int) < (M.length : Int) := by omega
              go_wp2_with fail
              refine (specFind_any wr M _ (strsAt cs k) (Sl.of_own Ho.out) (by omega)).mono ?_
              rintro e w3 ⟨rfl, hb3⟩
              rw [hx]
              unfold ixI
              have Ho3 := Lib.hid (own_below Ho.out hb3)
              have b3 := hbi.trans (hb3.mono hszi)
              have hs3 := b3.size
              obtain ⟨e0, e1, e2, e3, e4⟩ := binRow_at M i hiM
              have d0 := (Ho3.out.cellAt (i * 5) (by omega)).trans e0
              have d1 := (Ho3.out.cellAt (i * 5 + 1) (by omega)).trans e1
              have d2 := (Ho3.out.cellAt (i * 5 + 2) (by omega)).trans e2
              have d3 := (Ho3.out.cellAt (i * 5 + 3) (by omega)).trans e3
              have d4 := (Ho3.out.cellAt (i * 5 + 4) (by omega)).trans e4
              have Hx := Lib.hid hx
              clear e0 e1 e2 e3 e4 hx
              go_wp2_with fail
              refine (specBinFree_any (binAt M i) w3 ⟨by omega, by omega⟩ ⟨by omega, by omega⟩).mono ?_
              rintro e w4 ⟨rfl, hb4⟩
              have b4 := b3.trans (hb4.mono hs3)
              have hs4 := b4.size
              by_cases heq : (binAt M i).reserved = (binAt M i).amount
              · have H := Lib.hid (H5.out (HI.out.full hlt Hx.out heq))
                have t1 : ((binAt M i).amount - (binAt M i).reserved == 0) = true := by simp; omega
                have HE := Lib.hid heq
                clear heq
                go_wp2
                go_ret2
                exact RetSC.err H.out rfl (hb.trans (b4.mono hsz))
              · have t1 : ((binAt M i).amount - (binAt M i).reserved == 0) = false := by simp; omega
                have HE := Lib.hid heq
                have Ho4 := Lib.hid (own_below Ho3.out hb4)
                clear heq
                go_wp2_with fail
                refine (specChange_any w4 M _ i 0 1 (Sl.of_own Ho4.out) (by omega) hiM (by omega) (by omega) ⟨by omega, by omega⟩ ⟨by omega, by omega⟩).mono ?_
                rintro e w5 ⟨y, rfl, ho5, hb5⟩
                simp only [Int.add_zero] at ho5
                obtain ⟨A5, c5, rfl, _, _⟩ := own_slice ho5
                have Ho5 := Lib.hid ho5
                clear ho5
                go_wp2
                go_roundw
                case rel => exact ⟨k + 1, _, _, _, by omega, by go_num, rfl, HI.out.step hlt Hx.out HE.out, own_base Ho5.out hs4, b4.trans (hb5.mono hs4)⟩
                case measure => simp [intOf]; omega
            · have H := Lib.hid (H0.out M (HI.out.last (by omega)))
              go_wp2
              go_ret2
              exact RetSC.ok H.out Ho.out rfl rfl hsz hbw

end Go.Proofs.Ytngphnfbfednnaa
