/- Recipes: the walks of l01Own, l21Before, AllAfter in the reference. -/
import Derived.Test.YtecfkomijaakhaaRecK
namespace Go.Proofs.Ytecfkomijaakhaa
open Go.RowKit Go.Sort

set_option maxHeartbeats 800000 in
theorem specOwn_any (w : World) (l : List Int) (u : Value) (hu : Sl w 1 u l.length (intsRow l)) (hn : l.length ≤ 4194304) :
    Calls Try.prog 81 #[u] w (Gives w.heap.size 2 1 l.length (intsRow l) w) := by
  obtain ⟨A, c, rfl, hl, hc, hr⟩ := hu
  have Hr := Lib.hid hr
  clear hr hl hc
  obtain ⟨j0, hj, hy0, hy1, hy2⟩ := info_parts Try.info_ints
  go_enter Try.func81, Try.ntmps81
  go_wp2_with (at_builtin; refine wpList_append_sl _ rfl (.tmp 3) (.tmp 4) _ rfl w.heap.size 2 j0 _ 1 8 Try.underlying29 hj hy0 hy1 hy2 rfl (by omega) (.slice (some ⟨w.heap.size, 0, none⟩) 0 0) 0 [] rfl (own_empty _ _ _ (Nat.le_refl _)) A l.length c (intsRow l) rfl (Hr.out.alloc' _) (intsRow_one l) (by unfold maxLen; omega) (by omega) (by simp) ?_; intro A9 c9 w9 ho9 hg9 hor9; simp only [Nat.zero_add, List.nil_append] at ho9 ⊢; have q9 : Below w.heap.size w w9 := ((Below.refl _ _).alloc (Nat.le_refl _) _).grown hg9 (by simp) (fun k hk => by simp [Value.ownBlock] at hk; omega))
  go_ret
  exact ⟨_, rfl, ho9, q9⟩

set_option maxHeartbeats 8000000 in
theorem specBefore_any (w : World) (L : List Step) (V : Value) (s : Nat) (hv : Steps w V L) (h9 : L.length ≤ 9) (hok : stepsOk L = true) (hs : s < L.length) :
    Calls Try.prog 71 #[V, .int .i64 s] w (Gives w.heap.size 2 1 (selBy (ancB L s) L.length).length (intsRow (selBy (ancB L s) L.length)) w) := by
  have Hok := Lib.hid hok
  have hF0 := Fnd.start hok hs
  obtain ⟨A, c, rfl, hl, hc, hr⟩ := hv
  have Hr := Lib.hid hr
  unfold maxLen at hc
  obtain ⟨gs, os, rfl, hgs, d0, d1, B, cc, d2, hcc, hcm, hrd⟩ := hr.at hs
  have HF0 := Lib.hid hF0
  have hle0 : (stepAt L s).after.length ≤ 9 := by have := hF0.len; omega
  obtain ⟨i0, hi, hz0, hz1, hz2⟩ := info_parts Try.info_ints
  have Hsl := Lib.hid (show Sl w 1 (.slice B (stepAt L s).after.length cc) (stepAt L s).after.length (intsRow (stepAt L s).after) from ⟨B, cc, rfl, hcc, hcm, hrd⟩)
  unfold maxLen at hcm
  clear hr hok hF0 hrd d0 d1
  go_enter Try.func71, Try.ntmps71
  go_wp2_with fail
  refine (specOwn_any w (stepAt L s).after _ Hsl.out (by omega)).mono ?_
  rintro e w2 ⟨y, rfl, ho, hb2⟩
  obtain ⟨Ay, cy, rfl, _, _⟩ := own_slice ho
  have Ho2 := Lib.hid ho
  have hsz2 := hb2.size
  clear ho d2
  go_wp2
  go_loopw [5, 6] (fun fv i wr => ∃ (q : Nat) (F : List Int) (A : Option Addr) (co : Nat), q ≤ F.length ∧ i = .int .i64 q ∧ fv = .slice A F.length co ∧ wr.ownsRow w.heap.size 2 1 (.slice A F.length co) F.length (intsRow F) ∧ Fnd L s q F ∧ Below w.heap.size w wr) (fun _ i _ => L.length - (intOf i).toNat)
  case atStart => exact ⟨0, (stepAt L s).after, Ay, cy, Nat.zero_le _, rfl, rfl, Ho2.out, HF0.out, hb2⟩
  case round =>
    obtain ⟨q, F, A5, co, hq, rfl, rfl, ho, hfnd, hb⟩ := hrel
    have Ho := Lib.hid ho
    have Hfnd := Lib.hid hfnd
    have hFl : F.length ≤ L.length := by have := hfnd.len; omega
    have hsz := hb.size
    clear ho hfnd
    by_cases hql : q < F.length
    · obtain ⟨b, hbe, hbl, _⟩ := Hfnd.out.sound (intsAt F q) (by rw [intsAt_lt hql]; exact List.getElem_mem hql)
      obtain ⟨g5, c5, hv5, hg51, hg52⟩ := own_form Ho.out (by omega)
      injection hv5 with hv5 hn5 hc5
      subst hv5
      clear hn5 hc5
      have c0 := (Ho.out.cellAt q (by omega)).trans (intsRow_at F q hql)
      rw [hbe] at c0
      obtain ⟨gs', os', hA, hgs', d0, d1, B2, cc2, d2, hcc2, hcm2, hrd2⟩ := Hr.out.at hbl
      injection hA with hA
      injection hA with hA1 hA2
      subst hA1
      subst hA2
      have D2 := (hb.cell (p := ⟨gs, os + b * 3 + 2, none⟩) hgs).trans d2
      have Hrd := Lib.hid hrd2
      unfold maxLen at hcm2
      obtain ⟨l, hl0⟩ : ∃ l, l = (stepAt L b).after := ⟨_, rfl⟩
      have Hlb := Lib.hid (fun k (hk : k < l.length) => steps_after Hok.out hbl (k := k) (by rw [← hl0]; exact hk))
      rw [← hl0] at Hrd D2 hcc2 Hlb
      have Hl0 := Lib.hid hl0
      have Hbe := Lib.hid hbe
      have iq0 : (0 : Int) ≤ (q : Int) := Int.natCast_nonneg _
      have iq1 : (q : Int) < (F.length : Int) := by omega
      obtain ⟨FL, hFL⟩ : ∃ FL, FL = F.length := ⟨_, rfl⟩
      clear d0 d1 d2 hrd2 hl0 hbe hFL
      go_wp2
      go_loopw [5, 8] (fun fv i wr' => ∃ (k : Nat) (F' : List Int) (g' c' : Nat), k ≤ l.length ∧ i = .int .i64 k ∧ fv = .slice (some ⟨g', 0, none⟩) F'.length c' ∧ wr'.ownsRow w.heap.size 2 1 (.slice (some ⟨g', 0, none⟩) F'.length c') F'.length (intsRow F') ∧ FndI L s q k F' ∧ intsAt F' q = b ∧ Below w.heap.size w wr') (fun _ i _ => l.length - (intOf i).toNat)
      case atStart => exact ⟨0, F, g5, co, Nat.zero_le _, rfl, rfl, Ho.out, ⟨Hfnd.out, hql, fun p hp => absurd hp (by omega)⟩, Hbe.out, hb⟩
      case round =>
        clear D2 c0 Ho Hfnd
        rename World => wx
        obtain ⟨k, F', g', c', hk, rfl, rfl, ho', hfi, hbe', hb'⟩ := hrel
        have Ho' := Lib.hid ho'
        have Hfi := Lib.hid hfi
        have Hbe' := Lib.hid hbe'
        have hFl' : F'.length ≤ L.length := by have := hfi.fnd.len; omega
        have hsz' := hb'.size
        clear ho' hfi hbe'
        by_cases hkl : k < l.length
        · obtain ⟨ga, oa, rfl, hga, a0⟩ := (show Rd w w.heap.size 1 B2 l.length (intsRow l) from Hrd.out).ints hkl
          obtain ⟨j0, j1⟩ := Hlb.out k hkl
          obtain ⟨j, hje⟩ := Int.eq_ofNat_of_zero_le j0
          have hjl : j < L.length := by omega
          rw [hje] at a0
          have a1 := (hb'.cell (p := ⟨ga, oa + k, none⟩) hga).trans a0
          have Hje := Lib.hid (show intsAt (stepAt L b).after k = j by rw [← Hl0.out]; exact hje)
          clear a0 j0 j1 hje
          cases hh : hasI F' (j : Int)
          · have HF2 := Lib.hid (Hfi.out.add Hbe'.out (by rw [← Hl0.out]; exact hkl) Hje.out hjl hh)
            have HB2 := Lib.hid (show intsAt (F' ++ [(j : Int)]) q = b by rw [intsAt_snoc0 _ _ Hfi.out.lt]; exact Hbe'.out)
            go_wp2_with fail
            refine (specHas_any _ F' _ (j : Int) (Sl.of_own Ho'.out)).mono ?_
            rintro e w5 ⟨rfl, rfl⟩
            rw [hh]
            go_wp2_with (at_builtin; refine wpList_append_sl _ rfl (.tmp 44) (.tmp 49) _ rfl w.heap.size 2 i0 _ 1 8 Try.underlying29 hi hz0 hz1 hz2 rfl (by omega) _ F'.length (intsRow F') rfl (Ho'.out.alloc _) (some ⟨wx.heap.size, 0, none⟩) 1 1 [.int .i64 (j : Int)] rfl (Rd.of_block (cs := #[.int .i64 (j : Int)]) (heap_alloc_new _ _) rfl) (by intro x hx; simp at hx; subst hx; rfl) (by unfold maxLen; omega) (by omega) (by simp; omega) ?_; intro A9 c9 w9 ho9 hg9 hor9)
            have b9 : Below w.heap.size w w9 := (hb'.alloc hsz' _).grown hg9 (by simp; omega) (fun q hq => (World.ownsRow.lt Ho'.out q hq).1)
            obtain ⟨g9, cx, hA9, _, _⟩ := own_form ho9 (by omega)
            injection hA9 with hA9
            subst hA9
            have Ho9 := Lib.hid ho9
            clear ho9 hg9 hor9
            go_roundw
            case rel =>
              refine ⟨k + 1, F' ++ [(j : Int)], g9, c9, by omega, by go_num, ?_, ?_, HF2.out, HB2.out, b9⟩
              · rw [List.length_append]; rfl
              · rw [List.length_append, intsRow_append]; exact Ho9.out
            case measure => simp [intOf]; omega
          · have HF2 := Lib.hid (Hfi.out.skip (by
              have h1 : hasI F' (intsAt (stepAt L b).after k) = true := by rw [Hje.out]; exact hh
              rw [Hbe'.out]; exact h1))
            go_wp2_with fail
            refine (specHas_any _ F' _ (j : Int) (Sl.of_own Ho'.out)).mono ?_
            rintro e w5 ⟨rfl, rfl⟩
            rw [hh]
            go_wp2
            go_roundw
            case rel => exact ⟨k + 1, F', g', c', by omega, by go_num, rfl, Ho'.out, HF2.out, Hbe'.out, hb'⟩
            case measure => simp [intOf]; omega
        · have hke : k = l.length := by omega
          have hlt := Hfi.out.lt
          have HF2 := Lib.hid (show Fnd L s (q + 1) F' from (by have h0 := Hfi.out; rw [hke, Hl0.out] at h0; exact FndI.fin Hbe'.out h0))
          go_wp2
          go_roundw
          case rel => exact ⟨q + 1, F', some ⟨g', 0, none⟩, c', by omega, by go_num, rfl, Ho'.out, HF2.out, hb'⟩
          case measure => simp [intOf]; omega
    · have hqe : q = F.length := by omega
      have hall : selBy (ancB L s) L.length = selBy (fun i => hasI F i) L.length := selBy_congr (fun i _ => by
        have := Hfnd.out
        rw [hqe] at this
        exact this.all i)
      have Hall := Lib.hid hall
      have Hslf := Lib.hid (Sl.of_own Ho.out)
      clear hall hqe
      go_wp2
      go_loopw [9, 10] (fun s i wr' => ∃ (k : Nat) (g' co : Nat), k ≤ L.length ∧ i = .int .i64 k ∧ s = .slice (some ⟨g', 0, none⟩) (selBy (fun i => hasI F i) k).length co ∧ wr'.ownsRow wr.heap.size 2 1 (.slice (some ⟨g', 0, none⟩) (selBy (fun i => hasI F i) k).length co) (selBy (fun i => hasI F i) k).length (intsRow (selBy (fun i => hasI F i) k)) ∧ Below wr.heap.size wr wr') (fun _ i _ => L.length - (intOf i).toNat)
      case atStart => exact ⟨0, wr.heap.size, 0, Nat.zero_le _, rfl, rfl, own_empty _ _ _ (Nat.le_refl _), (Below.refl _ _).alloc (Nat.le_refl _) _⟩
      case round =>
        rename World => wx
        obtain ⟨k, g', co9, hk, rfl, rfl, ho, hbx⟩ := hrel
        have Hox := Lib.hid ho
        have Hslx := Lib.hid (Hslf.out.below hbx)
        have hszx := hbx.size
        have hkl := selBy_len (fun i => hasI F i) k
        clear ho
        by_cases hlt : k < L.length
        · cases hh : hasI F (k : Int)
          · have HS := Lib.hid (selBy_no (p := fun i => hasI F i) hh)
            go_wp2_with fail
            refine (specHas_any _ F _ (k : Int) Hslx.out).mono ?_
            rintro e w5 ⟨rfl, rfl⟩
            rw [hh]
            go_wp2
            go_roundw
            case rel => exact ⟨k + 1, g', co9, by omega, by go_num, by rw [HS.out], by rw [HS.out]; exact Hox.out, hbx⟩
            case measure => simp [intOf]; omega
          · have HS := Lib.hid (selBy_yes (p := fun i => hasI F i) hh)
            go_wp2_with fail
            refine (specHas_any _ F _ (k : Int) Hslx.out).mono ?_
            rintro e w5 ⟨rfl, rfl⟩
            rw [hh]
            go_wp2_with (at_builtin; refine wpList_append_sl _ rfl (.tmp 61) (.tmp 63) _ rfl wr.heap.size 2 i0 _ 1 8 Try.underlying29 hi hz0 hz1 hz2 rfl (by omega) _ (selBy (fun i => hasI F i) k).length (intsRow (selBy (fun i => hasI F i) k)) rfl (Hox.out.alloc _) (some ⟨wx.heap.size, 0, none⟩) 1 1 [.int .i64 (k : Int)] rfl (Rd.of_block (cs := #[.int .i64 (k : Int)]) (heap_alloc_new _ _) rfl) (by intro x hx; simp at hx; subst hx; rfl) (by unfold maxLen; omega) (by omega) (by simp; omega) ?_; intro A8 c8 w8 ho8 hg8 hor8)
            have b8 : Below wr.heap.size wr w8 := (hbx.alloc hszx _).grown hg8 (by simp; omega) (fun q hq => (World.ownsRow.lt Hox.out q hq).1)
            obtain ⟨g9, cx, hA9, _, _⟩ := own_form ho8 (by omega)
            injection hA9 with hA9
            subst hA9
            have Ho8 := Lib.hid ho8
            clear ho8 hg8 hor8
            go_roundw
            case rel =>
              refine ⟨k + 1, g9, c8, by omega, by go_num, ?_, ?_, b8⟩
              · rw [HS.out, List.length_append]; rfl
              · rw [HS.out, List.length_append, intsRow_append]; exact Ho8.out
            case measure => simp [intOf]; omega
        · have hke : k = L.length := by omega
          have HK := Lib.hid hke
          have b5 := hb.trans (hbx.mono hsz)
          go_wp2
          go_ret
          exact ⟨_, rfl, by rw [Hall.out, ← HK.out]; exact own_base Hox.out hsz, b5⟩

set_option maxHeartbeats 1600000 in
theorem specAllAfter_any (w : World) (L : List Step) (V : Value) (x : Int) (hv : Steps w V L) (hn : L.length ≤ 1048576) :
    Calls Try.prog 38 #[V, .int .i64 x] w (RetSC w.heap.size 2 1 intsRow (ancF L x) w) := by
  have Hv := Lib.hid hv
  obtain ⟨A, c, rfl, hl, hc, hr⟩ := hv
  unfold maxLen at hc
  clear hr
  cases h1 : isRecipe L
  · have H := Lib.hid (ancF_bad (x := x) h1)
    go_enter Try.func38, Try.ntmps38
    go_wp2_with fail
    refine (specIsRecipe_any w L _ Hv.out hn).mono ?_
    rintro e w2 ⟨rfl, hb2⟩
    rw [h1]
    go_wp2
    go_ret2
    exact RetSC.err H.out rfl hb2
  · obtain ⟨h9, hok, _⟩ := isRecipe_iff.1 h1
    have Hok := Lib.hid hok
    clear hok
    cases h2 : inR x 0 ((L.length : Int) - 1)
    · have H := Lib.hid (ancF_range h1 h2)
      go_enter Try.func38, Try.ntmps38
      go_wp2_with fail
      refine (specIsRecipe_any w L _ Hv.out hn).mono ?_
      rintro e w2 ⟨rfl, hb2⟩
      rw [h1]
      go_wp2_with fail
      refine (l01In_any _ _ _ _).mono ?_
      rintro e w3 ⟨rfl, rfl⟩
      rw [h2]
      go_wp2
      go_ret2
      exact RetSC.err H.out rfl hb2
    · have hx : 0 ≤ x ∧ x ≤ (L.length : Int) - 1 := by simpa [inR] using h2
      obtain ⟨s, rfl⟩ := Int.eq_ofNat_of_zero_le hx.1
      have hs : s < L.length := by omega
      have H := Lib.hid (ancF_ok h1 h2)
      clear hx
      go_enter Try.func38, Try.ntmps38
      go_wp2_with fail
      refine (specIsRecipe_any w L _ Hv.out hn).mono ?_
      rintro e w2 ⟨rfl, hb2⟩
      rw [h1]
      go_wp2_with fail
      refine (l01In_any _ _ _ _).mono ?_
      rintro e w3 ⟨rfl, rfl⟩
      rw [h2]
      go_wp2_with fail
      refine (specBefore_any w2 L _ s (Hv.out.below hb2) h9 Hok.out hs).mono ?_
      rintro e w4 ⟨y, rfl, ho, hb4⟩
      have b4 := hb2.trans (hb4.mono hb2.size)
      have Ho := Lib.hid ho
      clear ho
      go_wp2
      go_ret2
      exact RetSC.ok H.out Ho.out rfl rfl hb2.size b4

end Go.Proofs.Ytecfkomijaakhaa
