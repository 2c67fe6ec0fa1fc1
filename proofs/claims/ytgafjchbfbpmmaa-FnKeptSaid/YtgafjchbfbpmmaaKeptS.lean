/- The walks of l23Kept. Printed by gen_kept.py. -/
import Derived.Test.YtgafjchbfbpmmaaKept
namespace Go.Proofs.Ytgafjchbfbpmmaa
open Go.RowKit

set_option maxHeartbeats 8000000 in
theorem specKept_any (w : World) (L : List Promise) (v : Value) (hv : Sl w 3 v L.length (promiseRow L)) (hL : promIn L) :
    Calls Try.prog 72 #[v] w (Gives w.heap.size 2 1 (keptIdx L).length (intsRow (keptIdx L)) w) := by
  have Hv := Lib.hid hv
  obtain ⟨A, c, rfl, hl, hc, hr⟩ := hv
  have Hr := Lib.hid hr
  have h41 := hL.1
  have HL := Lib.hid hL
  clear hr hl hc hL
  obtain ⟨j0, hj, hy0, hy1, hy2⟩ := info_parts Try.info_ints
  obtain ⟨p0, hp, hx0, hx1, hx2⟩ := info_parts Try.infoPromise
  go_enter Try.func72, Try.ntmps72
  go_wp2_with fail
  refine (specDayOrder_any _ L _ (Hv.out.below ((Below.refl _ _).alloc (Nat.le_refl _) _)) HL.out).mono ?_
  rintro e w3 ⟨y, rfl, ho3, hb3⟩
  obtain ⟨A3, c3, rfl, _, _⟩ := own_slice ho3
  have b3 : Below w.heap.size w w3 := ((Below.refl _ _).alloc (Nat.le_refl _) _).trans (hb3.mono (by simp))
  have n2 : World.ownsRow (w.alloc (.cells #[] 2)) w.heap.size 2 1 (.slice (some ⟨w.heap.size, 0, none⟩) 0 0) 0 [] := own_empty w 2 1 (Nat.le_refl _)
  have N3 := Lib.hid (own_below n2 hb3)
  have Q1 := Lib.hid (Apart.fresh ho3 n2)
  have D3 := Lib.hid (Sl.of_own ho3)
  have hs3 := b3.size
  clear ho3 n2
  go_wp2
  go_loopw [3, 5] (fun s i wr => ∃ (q : Nat) (T : List Int) (Ao : Option Addr) (co : Nat), q ≤ L.length ∧ i = .int .i64 q ∧ T = keptTo L q ∧ s = .slice Ao T.length co ∧ wr.ownsRow w.heap.size 2 1 (.slice Ao T.length co) T.length (intsRow T) ∧ Below w.heap.size w wr ∧ Sl wr 1 (.slice A3 L.length c3) L.length (intsRow (dayOrd L)) ∧ Apart (.slice A3 L.length c3) (.slice Ao T.length co) L.length wr) (fun _ i _ => L.length - (intOf i).toNat)
  case atStart => exact ⟨0, [], some ⟨w.heap.size, 0, none⟩, 0, Nat.zero_le _, rfl, rfl, rfl, N3.out, b3, D3.out, Q1.out⟩
  case round =>
    obtain ⟨q, T, Ao, co, hq, rfl, hT, rfl, ho, hb, hd, hap⟩ := hrel
    have Ho := Lib.hid ho
    have Hd := Lib.hid hd
    have Hap := Lib.hid hap
    have hsz := hb.size
    have hTl := keptTo_le L hq
    rw [← hT] at hTl
    have HT := Lib.hid hT
    clear ho hd hap
    obtain ⟨wo, rfl⟩ : ∃ wo : World, wo = wr := ⟨_, rfl⟩
    by_cases hlt : q < L.length
    · obtain ⟨b, hbe, hbl⟩ := orderBy_mem (dayKey L) L.length q hlt
      have hTm : ∀ j, j < (T ++ [(b : Int)]).length → ∃ b' : Nat, intsAt (T ++ [(b : Int)]) j = b' ∧ b' < L.length := by
        intro j hjl
        by_cases e : j < T.length
        · obtain ⟨b', e1, e2⟩ := keptTo_at (L := L) hq (j := j) (by rw [← hT]; exact e)
          rw [← hT] at e1
          exact ⟨b', by rw [← e1]; simp [intsAt, List.getD, List.getElem?_append_left e], e2⟩
        · have e3 : j = T.length := by simp at hjl; omega
          exact ⟨b, by rw [e3]; simp [intsAt, List.getD], hbl⟩
      have HTm := Lib.hid hTm
      clear hT hTm
      obtain ⟨A3', c3', hv3, _, _, hr3⟩ := Hd.out
      injection hv3 with hA3 _ hc3
      subst hA3
      subst hc3
      obtain ⟨g3, o3, rfl, hg3, d0⟩ := (show Rd wo wo.heap.size 1 A3 (dayOrd L).length (intsRow (dayOrd L)) by rw [dayOrd_len]; exact hr3).ints (k := q) (by rw [dayOrd_len]; exact hlt)
      rw [show intsAt (dayOrd L) q = b from hbe] at d0
      have Hbe := Lib.hid (show intsAt (dayOrd L) q = b from hbe)
      clear hbe hr3
      have i1 : (0 : Int) ≤ (q : Int) := Int.natCast_nonneg _
      have i2 : (q : Int) < (L.length : Int) := by omega
      go_wp2_with (at_builtin; refine wpList_append_sl _ rfl (.tmp 18) (.tmp 23) _ rfl w.heap.size 2 j0 _ 1 8 Try.underlying59 hj hy0 hy1 hy2 rfl (by omega) _ T.length (intsRow T) rfl (Ho.out.alloc _) (some ⟨wo.heap.size, 0, none⟩) 1 1 [.int .i64 (b : Int)] rfl (Rd.of_block (cs := #[.int .i64 (b : Int)]) (heap_alloc_new _ _) rfl) (by intro x hx; simp at hx; subst hx; rfl) (by unfold maxLen; omega) (by omega) (by simp <;> omega) ?_; intro A8 c8 w8 ho8 hg8 hor8)
      have b8 : Below w.heap.size w w8 := (hb.alloc hsz _).grown hg8 (by simp; omega) (fun p hp => (World.ownsRow.lt Ho.out p hp).1)
      have D8 := Lib.hid (Sl.grown_apart (Hd.out.below ((Below.refl _ _).alloc (Nat.le_refl _) (.cells #[.int .i64 (b : Int)] 2))) hg8 (Hap.out.mono (by simp)))
      have P8 := Lib.hid ((Hap.out.mono (w' := wo.alloc (.cells #[.int .i64 (b : Int)] 2)) (by simp)).append hor8 hg8.size)
      have O8 := Lib.hid (show w8.ownsRow w.heap.size 2 1 (.slice A8 (T.length + 1) c8) (T.length + 1) (intsRow (T ++ [(b : Int)])) by rw [intsRow_append]; exact ho8)
      obtain ⟨_, hl8, hc8⟩ := own_caps O8.out
      unfold maxLen at hc8
      have hs8 := b8.size
      obtain ⟨g8, cc, hv8, hg8b, hg8lt⟩ := own_form O8.out (by omega)
      injection hv8 with hA8 hn8 hc8'
      subst hA8
      clear hn8 hc8' cc ho8 hg8 hor8
      obtain ⟨T', hT'⟩ : ∃ T', T' = T ++ [(b : Int)] := ⟨_, rfl⟩
      have hTl' : T'.length = T.length + 1 := by rw [hT']; simp
      have HT' := Lib.hid hT'
      rw [← hT'] at O8 HTm
      clear hT'
      go_loopw [6, 7, 8] (fun s z i wr => ∃ (k x : Nat) (N : List Promise) (An : Option Addr) (cn : Nat), k ≤ T'.length ∧ i = .int .i64 k ∧ z = .int .i64 x ∧ x = worstIx (pick L T') k ∧ x ≤ k ∧ x < T'.length ∧ N = pick L (T'.take k) ∧ N.length = k ∧ s = .slice An N.length cn ∧ wr.ownsRow w8.heap.size 43 3 (.slice An N.length cn) N.length (promiseRow N) ∧ Below w8.heap.size w8 wr) (fun _ _ i _ => T'.length - (intOf i).toNat)
      case atStart => exact ⟨0, 0, [], some ⟨w8.heap.size, 0, none⟩, 0, Nat.zero_le _, rfl, rfl, rfl, Nat.le_refl _, by omega, rfl, rfl, rfl, own_empty _ _ _ (Nat.le_refl _), (Below.refl _ _).alloc (Nat.le_refl _) _⟩
      case round =>
        obtain ⟨k, x, N, An, cn, hk, rfl, rfl, hx, hxk, hxT, hN, hNl, rfl, hn, hbn⟩ := hrel
        have HN := Lib.hid hN
        have Hx := Lib.hid hx
        have Hn := Lib.hid hn
        have hzn := hbn.size
        have HNl := Lib.hid hNl
        have hNl' : N.length ≤ 41 := by omega
        clear hN hn hNl hx
        have k1 : (0 : Int) ≤ (k : Int) := Int.natCast_nonneg _
        have x1 : (0 : Int) ≤ (x : Int) := Int.natCast_nonneg _
        have x2 : (x : Int) < (T.length : Int) + 1 := by omega
        have O8n := Lib.hid (own_below O8.out hbn)
        by_cases hlk : k < T'.length
        · obtain ⟨b2, hb2e, hb2l⟩ := HTm.out k hlk
          obtain ⟨b4, hb4e, hb4l⟩ := HTm.out x hxT
          have e0 := (O8n.out.cellAt k (by omega)).trans (intsRow_at T' k hlk)
          rw [hb2e] at e0
          have Hb2 := Lib.hid hb2e
          have Hb4 := Lib.hid hb4e
          clear hb2e hb4e
          obtain ⟨g, o, rfl, hg, c0, c1, c2⟩ := (Hr.out.below (b8.trans (hbn.mono hs8)) (Nat.le_refl _)).promise hb2l
          have k2 : (k : Int) < (T.length : Int) + 1 := by omega
          have k3 : (0 : Int) ≤ (b2 : Int) := Int.natCast_nonneg _
          have k4 : (b2 : Int) < (L.length : Int) := by omega
          have k5 : (0 : Int) ≤ (b4 : Int) := Int.natCast_nonneg _
          have k6 : (b4 : Int) < (L.length : Int) := by omega
          go_wp2_with (at_builtin; refine wpList_append_sl _ rfl (.tmp 32) (.tmp 40) _ rfl w8.heap.size 43 p0 _ 3 32 Try.underlying25 hp hx0 hx1 hx2 rfl (by omega) _ N.length (promiseRow N) rfl (Hn.out.alloc _) (some ⟨wr.heap.size, 0, none⟩) 1 1 [.string (promiseAt L b2).name, .int .i64 (promiseAt L b2).day, .int .i64 (promiseAt L b2).min] rfl (Rd.of_block (cs := #[.string (promiseAt L b2).name, .int .i64 (promiseAt L b2).day, .int .i64 (promiseAt L b2).min]) (heap_alloc_new _ _) rfl) (fun u hu => promiseCells_one (promiseAt L b2) u hu) (by unfold maxLen; omega) (by omega) (by simp <;> omega) ?_; intro A7 c7 w7 ho7 hg7 hor7)
          have bn7 : Below w8.heap.size w8 w7 := (hbn.alloc hzn _).grown hg7 (by simp; omega) (fun p hp => (World.ownsRow.lt Hn.out p hp).1)
          have O7 := Lib.hid ho7
          have O8m := Lib.hid (own_below O8.out bn7)
          have f0 := (O8m.out.cellAt k (by omega)).trans (intsRow_at T' k hlk)
          rw [Hb2.out] at f0
          have f1 := (O8m.out.cellAt x (by omega)).trans (intsRow_at T' x hxT)
          rw [Hb4.out] at f1
          obtain ⟨g', o', hA, hg', _, _, r2⟩ := (Hr.out.below (b8.trans (bn7.mono hs8)) (Nat.le_refl _)).promise hb2l
          injection hA with hA
          injection hA with hA1 hA2
          subst hA1
          subst hA2
          obtain ⟨g', o', hA, hg', _, _, r4⟩ := (Hr.out.below (b8.trans (bn7.mono hs8)) (Nat.le_refl _)).promise hb4l
          injection hA with hA
          injection hA with hA1 hA2
          subst hA1
          subst hA2
          clear ho7 hg7 hor7 c0 c1 c2 e0
          have hpk : promiseAt (pick L T') k = promiseAt L b2 := by rw [pick_at L T' hlk, Hb2.out]; simp
          have hpx : promiseAt (pick L T') x = promiseAt L b4 := by rw [pick_at L T' hxT, Hb4.out]; simp
          have Hpk := Lib.hid hpk
          have Hpx := Lib.hid hpx
          clear hpk hpx
          by_cases hge : (promiseAt L b4).min ≤ (promiseAt L b2).min
          · have t2 : decide ((promiseAt L b4).min ≤ (promiseAt L b2).min) = true := by simpa using hge
            have E := Lib.hid (show worstIx (pick L T') (k + 1) = k by rw [worstIx, ← Hx.out, worstGo, Hpk.out, Hpx.out, if_pos hge])
            clear hge
            go_wp2
            go_quiet (fail)
            go_wp2
            go_roundw
            case rel =>
              refine ⟨k + 1, k, N ++ [promiseAt L b2], A7, c7, by omega, by go_num, rfl, E.out.symm, by omega, by omega, by rw [pick_snoc L T' hlk, ← HN.out, Hb2.out]; rfl, by rw [List.length_append, HNl.out]; rfl, by rw [List.length_append]; rfl, ?_, below_drewN bn7 _⟩
              rw [List.length_append, promiseRow_append]; exact own_drewN O7.out _
            case measure => simp [intOf]; omega
          · have t2 : decide ((promiseAt L b4).min ≤ (promiseAt L b2).min) = false := by simpa using hge
            have E := Lib.hid (show worstIx (pick L T') (k + 1) = x by rw [worstIx, ← Hx.out, worstGo, Hpk.out, Hpx.out, if_neg hge])
            clear hge
            go_wp2
            go_quiet (fail)
            go_wp2
            go_roundw
            case rel =>
              refine ⟨k + 1, x, N ++ [promiseAt L b2], A7, c7, by omega, by go_num, rfl, E.out.symm, by omega, by omega, by rw [pick_snoc L T' hlk, ← HN.out, Hb2.out]; rfl, by rw [List.length_append, HNl.out]; rfl, by rw [List.length_append]; rfl, ?_, below_drewN bn7 _⟩
              rw [List.length_append, promiseRow_append]; exact own_drewN O7.out _
            case measure => simp [intOf]; omega
        · have hkT : k = T'.length := by omega
          have HN' := Lib.hid (show N = pick L T' by rw [HN.out, List.take_of_length_le (by omega)])
          have hNin : promIn N := by rw [HN'.out]; exact pick_in HL.out (by omega) HTm.out
          have HNin := Lib.hid hNin
          have HX := Lib.hid (show worstIx (pick L (T ++ [(b : Int)])) (T.length + 1) = x by rw [← HT'.out, ← hTl', ← hkT, Hx.out])
          have hbr := breach_all hNin
          clear hNin hkT
          have b9 := b8.trans (hbn.mono hs8)
          have O9 := Lib.hid (own_below O8.out hbn)
          have D9 := Lib.hid (D8.out.below hbn)
          have P9 := Lib.hid (P8.out.mono hbn.size)
          go_wp2_with fail
          refine (specBreach_any _ N _ (Sl.of_own Hn.out) HNin.out).mono ?_
          rintro e w9 ⟨rfl, rfl⟩
          by_cases h0 : 0 < firstBreach N
          · have t0 : decide (0 < firstBreach N) = true := by simpa using h0
            have H0 := Lib.hid h0
            clear h0
            have hE : keptTo L (q + 1) = T'.take x ++ T'.drop (x + 1) := by rw [keptTo_succ L hlt, ← HT.out, Hbe.out, keptStep_drop (by rw [← HT'.out, ← HN'.out]; exact H0.out) HX.out, ← HT'.out]
            have HE := Lib.hid hE
            clear hE
            have x3 := IntWalk.i64_in ((x : Int) + 1) (by omega)
            have x4 : (0 : Int) ≤ (x : Int) + 1 := by omega
            have x5 : (x : Int) + 1 ≤ (T.length : Int) + 1 := by omega
            have x6 : (x : Int) ≤ (T.length : Int) + 1 := by omega
            have x7 : (x : Int) ≤ (c8 : Int) := by omega
            have x8 : x ≤ c8 := by omega
            have x9 : (x : Int) ≤ (x : Int) + 1 := by omega
            by_cases hcap : c8 = x + 1
            · subst hcap
              go_wp2
              refine wp_region_held_drew (S := (fun _ => True)) (by kernel_rfl) ?_ (fun hHeld => ?_)
              · (try dsimp only); first | done | trivial
              refine wpAnyH_take (i := 0) (v := ?_) rfl (by kernel_rfl) (by kernel_rfl) (by kernel_rfl) (fun _ _ _ h => h) (Or.inl ⟨by rfl, ?_⟩) (by assumption) ?_
              rotate_left
              · (intro w hSw; (try dsimp only at hSw); go_simp) <;> with_reducible rfl
              try simp only [Act.put, List.setIfInBounds_toArray, List.set_cons_zero, List.set_cons_succ, List.getElem_toArray, List.getElem_cons_succ, List.getElem_cons_zero]
              refine wpAnyH_take (i := 1) (v := ?_) rfl (by kernel_rfl) (by kernel_rfl) (by kernel_rfl) (fun _ _ _ h => h) (Or.inl ⟨by rfl, ?_⟩) (by assumption) ?_
              rotate_left
              · (intro w hSw; (try dsimp only at hSw); go_simp) <;> with_reducible rfl
              try simp only [Act.put, List.setIfInBounds_toArray, List.set_cons_zero, List.set_cons_succ, List.getElem_toArray, List.getElem_cons_succ, List.getElem_cons_zero]
              refine wpAnyH_take (i := 2) (v := ?_) rfl (by kernel_rfl) (by kernel_rfl) (by kernel_rfl) (fun _ _ _ h => h) (Or.inl ⟨by rfl, ?_⟩) (by assumption) ?_
              rotate_left
              · (intro w hSw; (try dsimp only at hSw); go_simp) <;> with_reducible rfl
              try simp only [Act.put, List.setIfInBounds_toArray, List.set_cons_zero, List.set_cons_succ, List.getElem_toArray, List.getElem_cons_succ, List.getElem_cons_zero]
              refine wpAnyH_take (i := 4) (v := ?_) rfl (by kernel_rfl) (by kernel_rfl) (by kernel_rfl) (fun _ _ _ h => h) (Or.inl ⟨by rfl, ?_⟩) (by assumption) ?_
              rotate_left
              · (intro w hSw; (try dsimp only at hSw); go_simp) <;> with_reducible rfl
              try simp only [Act.put, List.setIfInBounds_toArray, List.set_cons_zero, List.set_cons_succ, List.getElem_toArray, List.getElem_cons_succ, List.getElem_cons_zero]
              refine wpAnyH_take (i := 5) (v := ?_) rfl (by kernel_rfl) (by kernel_rfl) (by kernel_rfl) (fun _ _ _ h => h) (Or.inl ⟨by rfl, ?_⟩) (by assumption) ?_
              rotate_left
              · (intro w hSw; (try dsimp only at hSw); go_simp) <;> with_reducible rfl
              try simp only [Act.put, List.setIfInBounds_toArray, List.set_cons_zero, List.set_cons_succ, List.getElem_toArray, List.getElem_cons_succ, List.getElem_cons_zero]
              refine wpAnyH_take (i := 6) (v := ?_) rfl (by kernel_rfl) (by kernel_rfl) (by kernel_rfl) (fun _ _ _ h => h) (Or.inl ⟨by rfl, ?_⟩) (by assumption) ?_
              rotate_left
              · (intro w hSw; (try dsimp only at hSw); go_simp) <;> with_reducible rfl
              try simp only [Act.put, List.setIfInBounds_toArray, List.set_cons_zero, List.set_cons_succ, List.getElem_toArray, List.getElem_cons_succ, List.getElem_cons_zero]
              refine wpAnyH_take (i := 7) (v := ?_) rfl (by kernel_rfl) (by kernel_rfl) (by kernel_rfl) (fun _ _ _ h => h) (Or.inl ⟨by rfl, ?_⟩) (by assumption) ?_
              rotate_left
              · (intro w hSw; (try dsimp only at hSw); go_simp) <;> with_reducible rfl
              try simp only [Act.put, List.setIfInBounds_toArray, List.set_cons_zero, List.set_cons_succ, List.getElem_toArray, List.getElem_cons_succ, List.getElem_cons_zero]
              refine wpAnyH_ready (rs := [3]) (by kernel_rfl) (by simp) ?_
              refine AllReadyH.cons rfl (fun K hK => ?_) AllReadyH.nil
              try dsimp only [List.getElem_toArray, List.getElem_cons_succ, List.getElem_cons_zero]
              go_simp
              have hxl : (T'.take x).length = x := by rw [List.length_take]; omega
              refine (specOwn_any _ (T'.take x) _ (by rw [hxl, ← intsRow_tk]; exact own_take (own_drewN O9.out _) (by omega)) (by rw [hxl]; omega)).mono ?_
              rw [hxl]
              rintro e w4 ⟨y4, rfl, ho4, hb4⟩
              have z4 : wr.heap.size ≤ w4.heap.size := hb4.size
              obtain ⟨A4, c4, rfl, _, _⟩ := own_slice ho4
              have O4 := Lib.hid ho4
              clear ho4
              go_wp2_with fail
              refine hK.out _ _ ?_ (fun hHeld => ?_)
              · (try dsimp only); first | done | trivial
              clear hK K
              try simp only [Act.put, List.setIfInBounds_toArray, List.set_cons_zero, List.set_cons_succ, List.getElem_toArray, List.getElem_cons_succ, List.getElem_cons_zero]
              refine wpAnyH_ready (rs := [8]) (by kernel_rfl) (by simp) ?_
              refine AllReadyH.cons rfl (fun K hK => ?_) AllReadyH.nil
              (refine step_append_sl _ (by rfl) (.tmp 66) (.tmp 70) _ (by rfl) _ 2 j0 _ 1 8 Try.underlying59 hj hy0 hy1 hy2 rfl (by omega) _ x (intsRow (T'.take x)) (by rfl) O4.out _ 0 _ [] (by rfl) Rd.none_ (fun u hu => by cases hu) (by unfold maxLen; omega) (by omega) (by have := hb4.size; (try simp at this); simp <;> omega) ?_; intro A6 c6 w6 ho6 hg6 hor6)
              refine hK.out _ _ ?_ (fun hHeld => ?_)
              · (try dsimp only); first | done | trivial
              clear hK K
              try simp only [Act.put, List.setIfInBounds_toArray, List.set_cons_zero, List.set_cons_succ, List.getElem_toArray, List.getElem_cons_succ, List.getElem_cons_zero]
              refine wpAnyH_take (i := 9) (v := ?_) rfl (by kernel_rfl) (by kernel_rfl) (by kernel_rfl) (fun _ _ _ h => h) (Or.inl ⟨by rfl, ?_⟩) (by assumption) ?_
              rotate_left
              · (intro w hSw; (try dsimp only at hSw); go_simp) <;> with_reducible rfl
              try simp only [Act.put, List.setIfInBounds_toArray, List.set_cons_zero, List.set_cons_succ, List.getElem_toArray, List.getElem_cons_succ, List.getElem_cons_zero]
              refine wpAnyH_done (by kernel_rfl) ?_ _
              have b4 : Below w.heap.size w w4 := (below_drewN b9 _).trans (hb4.mono b9.size)
              have L4 : ∀ g, (Value.slice A4 x c4).ownBlock = some g → wr.heap.size ≤ g := fun g hg => (World.ownsRow.lt O4.out g hg).1
              have b6 : Below w.heap.size w w6 := b4.grown hg6 b4.size (fun g hg => Nat.le_trans b9.size (L4 g hg))
              have D6 := Lib.hid (Sl.grown_apart (u := .slice A4 x c4) (D9.out.drewN0' _ |>.below hb4) hg6 (fun hn g hg => ⟨Nat.lt_of_lt_of_le (P9.out hn g hg).1 z4, fun h => by have h1 := L4 g h; have h2 := (P9.out hn g hg).1; omega⟩))
              have P6 := Lib.hid (show Apart (.slice (some ⟨g3, o3, none⟩) L.length c3) (.slice A6 (x + 0) c6) L.length w6 from fun hn g hg => ⟨Nat.lt_of_lt_of_le (P9.out hn g hg).1 (Nat.le_trans z4 hg6.size), fun h => by have h1 : wr.heap.size ≤ g := (World.ownsRow.lt ho6 g h).1; have h2 := (P9.out hn g hg).1; omega⟩)
              have O6 := Lib.hid (own_base (base' := w.heap.size) ho6 b9.size)
              clear ho6 hg6 hor6 L4
              go_wp2
              go_roundw
              case rel =>
                have hlen : (T'.take x ++ T'.drop (x + 1)).length = x + 0 := by rw [List.length_append, List.length_take, List.length_drop]; omega
                refine ⟨q + 1, T'.take x ++ T'.drop (x + 1), A6, c6, by omega, by go_num, HE.out.symm, by rw [hlen] <;> rfl, ?_, b6, D6.out, ?_⟩
                · have h := O6.out
                  rw [hlen]
                  have e : intsRow (T'.take x) ++ [] = intsRow (T'.take x ++ T'.drop (x + 1)) := by
                    rw [List.drop_of_length_le (l := T') (by omega), List.append_nil, List.append_nil]
                  rw [e] at h
                  exact h
                · rw [hlen]; exact P6.out
              case measure => simp [intOf]; omega
            · skip
              go_wp2
              refine wp_region_held_drew (S := (fun _ => True)) (by kernel_rfl) ?_ (fun hHeld => ?_)
              · (try dsimp only); first | done | trivial
              refine wpAnyH_take (i := 0) (v := ?_) rfl (by kernel_rfl) (by kernel_rfl) (by kernel_rfl) (fun _ _ _ h => h) (Or.inl ⟨by rfl, ?_⟩) (by assumption) ?_
              rotate_left
              · (intro w hSw; (try dsimp only at hSw); go_simp) <;> with_reducible rfl
              try simp only [Act.put, List.setIfInBounds_toArray, List.set_cons_zero, List.set_cons_succ, List.getElem_toArray, List.getElem_cons_succ, List.getElem_cons_zero]
              refine wpAnyH_take (i := 1) (v := ?_) rfl (by kernel_rfl) (by kernel_rfl) (by kernel_rfl) (fun _ _ _ h => h) (Or.inl ⟨by rfl, ?_⟩) (by assumption) ?_
              rotate_left
              · (intro w hSw; (try dsimp only at hSw); go_simp) <;> with_reducible rfl
              try simp only [Act.put, List.setIfInBounds_toArray, List.set_cons_zero, List.set_cons_succ, List.getElem_toArray, List.getElem_cons_succ, List.getElem_cons_zero]
              refine wpAnyH_take (i := 2) (v := ?_) rfl (by kernel_rfl) (by kernel_rfl) (by kernel_rfl) (fun _ _ _ h => h) (Or.inl ⟨by rfl, ?_⟩) (by assumption) ?_
              rotate_left
              · (intro w hSw; (try dsimp only at hSw); go_simp) <;> with_reducible rfl
              try simp only [Act.put, List.setIfInBounds_toArray, List.set_cons_zero, List.set_cons_succ, List.getElem_toArray, List.getElem_cons_succ, List.getElem_cons_zero]
              refine wpAnyH_take (i := 4) (v := ?_) rfl (by kernel_rfl) (by kernel_rfl) (by kernel_rfl) (fun _ _ _ h => h) (Or.inl ⟨by rfl, ?_⟩) (by assumption) ?_
              rotate_left
              · (intro w hSw; (try dsimp only at hSw); go_simp) <;> with_reducible rfl
              try simp only [Act.put, List.setIfInBounds_toArray, List.set_cons_zero, List.set_cons_succ, List.getElem_toArray, List.getElem_cons_succ, List.getElem_cons_zero]
              refine wpAnyH_take (i := 5) (v := ?_) rfl (by kernel_rfl) (by kernel_rfl) (by kernel_rfl) (fun _ _ _ h => h) (Or.inl ⟨by rfl, ?_⟩) (by assumption) ?_
              rotate_left
              · (intro w hSw; (try dsimp only at hSw); go_simp) <;> with_reducible rfl
              try simp only [Act.put, List.setIfInBounds_toArray, List.set_cons_zero, List.set_cons_succ, List.getElem_toArray, List.getElem_cons_succ, List.getElem_cons_zero]
              refine wpAnyH_take (i := 6) (v := ?_) rfl (by kernel_rfl) (by kernel_rfl) (by kernel_rfl) (fun _ _ _ h => h) (Or.inl ⟨by rfl, ?_⟩) (by assumption) ?_
              rotate_left
              · (intro w hSw; (try dsimp only at hSw); go_simp) <;> with_reducible rfl
              try simp only [Act.put, List.setIfInBounds_toArray, List.set_cons_zero, List.set_cons_succ, List.getElem_toArray, List.getElem_cons_succ, List.getElem_cons_zero]
              refine wpAnyH_take (i := 7) (v := ?_) rfl (by kernel_rfl) (by kernel_rfl) (by kernel_rfl) (fun _ _ _ h => h) (Or.inl ⟨by rfl, ?_⟩) (by assumption) ?_
              rotate_left
              · (intro w hSw; (try dsimp only at hSw); go_simp) <;> with_reducible rfl
              try simp only [Act.put, List.setIfInBounds_toArray, List.set_cons_zero, List.set_cons_succ, List.getElem_toArray, List.getElem_cons_succ, List.getElem_cons_zero]
              refine wpAnyH_ready (rs := [3]) (by kernel_rfl) (by simp) ?_
              refine AllReadyH.cons rfl (fun K hK => ?_) AllReadyH.nil
              try dsimp only [List.getElem_toArray, List.getElem_cons_succ, List.getElem_cons_zero]
              go_simp
              have hxl : (T'.take x).length = x := by rw [List.length_take]; omega
              refine (specOwn_any _ (T'.take x) _ (by rw [hxl, ← intsRow_tk]; exact own_take (own_drewN O9.out _) (by omega)) (by rw [hxl]; omega)).mono ?_
              rw [hxl]
              rintro e w4 ⟨y4, rfl, ho4, hb4⟩
              have z4 : wr.heap.size ≤ w4.heap.size := hb4.size
              obtain ⟨A4, c4, rfl, _, _⟩ := own_slice ho4
              have O4 := Lib.hid ho4
              clear ho4
              go_wp2_with fail
              refine hK.out _ _ ?_ (fun hHeld => ?_)
              · (try dsimp only); first | done | trivial
              clear hK K
              try simp only [Act.put, List.setIfInBounds_toArray, List.set_cons_zero, List.set_cons_succ, List.getElem_toArray, List.getElem_cons_succ, List.getElem_cons_zero]
              refine wpAnyH_ready (rs := [8]) (by kernel_rfl) (by simp) ?_
              refine AllReadyH.cons rfl (fun K hK => ?_) AllReadyH.nil
              (refine step_append_sl _ (by rfl) (.tmp 66) (.tmp 70) _ (by rfl) _ 2 j0 _ 1 8 Try.underlying59 hj hy0 hy1 hy2 rfl (by omega) _ x (intsRow (T'.take x)) (by rfl) O4.out _ (T.length - x) _ ((intsRow T').drop (x + 1)) (by rfl) (by have h := ((own_drop (A := some ⟨g8, x + 1, none⟩) O9.out (k := x + 1) (by omega) (fun _ => rfl)).drewN0 _ |>.below hb4 (Nat.le_refl _)).more z4; rw [show T.length + 1 - (x + 1) = T.length - x by omega] at h; exact h) (fun u hu => intsRow_one T' u (List.mem_of_mem_drop hu)) (by unfold maxLen; omega) (by omega) (by have := hb4.size; (try simp at this); simp <;> omega) ?_; intro A6 c6 w6 ho6 hg6 hor6)
              refine hK.out _ _ ?_ (fun hHeld => ?_)
              · (try dsimp only); first | done | trivial
              clear hK K
              try simp only [Act.put, List.setIfInBounds_toArray, List.set_cons_zero, List.set_cons_succ, List.getElem_toArray, List.getElem_cons_succ, List.getElem_cons_zero]
              refine wpAnyH_take (i := 9) (v := ?_) rfl (by kernel_rfl) (by kernel_rfl) (by kernel_rfl) (fun _ _ _ h => h) (Or.inl ⟨by rfl, ?_⟩) (by assumption) ?_
              rotate_left
              · (intro w hSw; (try dsimp only at hSw); go_simp) <;> with_reducible rfl
              try simp only [Act.put, List.setIfInBounds_toArray, List.set_cons_zero, List.set_cons_succ, List.getElem_toArray, List.getElem_cons_succ, List.getElem_cons_zero]
              refine wpAnyH_done (by kernel_rfl) ?_ _
              have b4 : Below w.heap.size w w4 := (below_drewN b9 _).trans (hb4.mono b9.size)
              have L4 : ∀ g, (Value.slice A4 x c4).ownBlock = some g → wr.heap.size ≤ g := fun g hg => (World.ownsRow.lt O4.out g hg).1
              have b6 : Below w.heap.size w w6 := b4.grown hg6 b4.size (fun g hg => Nat.le_trans b9.size (L4 g hg))
              have D6 := Lib.hid (Sl.grown_apart (u := .slice A4 x c4) (D9.out.drewN0' _ |>.below hb4) hg6 (fun hn g hg => ⟨Nat.lt_of_lt_of_le (P9.out hn g hg).1 z4, fun h => by have h1 := L4 g h; have h2 := (P9.out hn g hg).1; omega⟩))
              have P6 := Lib.hid (show Apart (.slice (some ⟨g3, o3, none⟩) L.length c3) (.slice A6 (x + (T.length - x)) c6) L.length w6 from fun hn g hg => ⟨Nat.lt_of_lt_of_le (P9.out hn g hg).1 (Nat.le_trans z4 hg6.size), fun h => by have h1 : wr.heap.size ≤ g := (World.ownsRow.lt ho6 g h).1; have h2 := (P9.out hn g hg).1; omega⟩)
              have O6 := Lib.hid (own_base (base' := w.heap.size) ho6 b9.size)
              clear ho6 hg6 hor6 L4
              go_wp2
              go_roundw
              case rel =>
                have hlen : (T'.take x ++ T'.drop (x + 1)).length = x + (T.length - x) := by rw [List.length_append, List.length_take, List.length_drop]; omega
                refine ⟨q + 1, T'.take x ++ T'.drop (x + 1), A6, c6, by omega, by go_num, HE.out.symm, by rw [hlen] <;> rfl, ?_, b6, D6.out, ?_⟩
                · have h := O6.out
                  rw [hlen]
                  rw [intsRow_dp, ← intsRow_append] at h
                  exact h
                · rw [hlen]; exact P6.out
              case measure => simp [intOf]; omega
          · have t0 : decide (0 < firstBreach N) = false := by simpa using h0
            have hE : keptTo L (q + 1) = T' := by rw [keptTo_succ L hlt, ← HT.out, Hbe.out, keptStep_keep (by rw [← HT'.out, ← HN'.out]; exact h0), ← HT'.out]
            have HE := Lib.hid hE
            clear hE h0
            go_wp2
            go_roundw
            case rel =>
              refine ⟨q + 1, T', some ⟨g8, 0, none⟩, c8, by omega, by go_num, HE.out.symm, by rw [hTl'], ?_, b9, D9.out, ?_⟩
              · rw [hTl']; exact O9.out
              · rw [hTl']; exact P9.out
            case measure => simp [intOf]; omega
    · have hqL : q = L.length := by omega
      subst hqL
      have E := Lib.hid (show T = keptIdx L from HT.out)
      go_wp2
      go_ret
      refine ⟨_, rfl, ?_, hb⟩
      rw [← E.out]
      exact Ho.out

set_option maxHeartbeats 2000000 in
theorem implMostKept_any (w : World) (L : List Promise) (v : Value) (hv : Sl w 3 v L.length (promiseRow L)) (hf : promiseFit L) (hn : L.length ≤ 4194304) :
    Calls Try.prog 37 #[v] w (RetIC (mostKept L) w) := by
  have Hv := Lib.hid hv
  have Hf := Lib.hid hf
  clear hf
  cases h1 : arePromises L
  · have H := Lib.hid (show mostKept L = (0, 1) by simp [mostKept, h1])
    clear hv
    go_enter Try.func37, Try.ntmps37
    go_wp2_with fail
    refine (implArePromises_any w L v Hv.out Hf.out hn).mono ?_
    rintro e w2 ⟨rfl, hb2⟩
    rw [h1]
    go_wp2
    go_ret2
    exact RetIC.ok H.out hb2
  · have hL := promIn_of h1
    have H := Lib.hid (show mostKept L = ((((keptIdx L).length : Nat) : Int), 0) by simp [mostKept, h1])
    clear hv
    go_enter Try.func37, Try.ntmps37
    go_wp2_with fail
    refine (implArePromises_any w L v Hv.out Hf.out hn).mono ?_
    rintro e w2 ⟨rfl, hb2⟩
    rw [h1]
    go_wp2_with fail
    refine (implKept_any w2 L v (Hv.out.below hb2) hL).mono ?_
    rintro e w3 ⟨y, rfl, ho3, hb3⟩
    obtain ⟨A3, c3, rfl, _, _⟩ := own_slice ho3
    have b3 := hb2.trans (hb3.mono hb2.size)
    go_wp2
    go_ret2
    exact RetIC.ok (by rw [H.out, keptNm_len]) b3

set_option maxHeartbeats 2000000 in
theorem specMostKept_any (w : World) (L : List Promise) (v : Value) (hv : Sl w 3 v L.length (promiseRow L)) (hf : promiseFit L) (hn : L.length ≤ 4194304) :
    Calls Try.prog 36 #[v] w (RetIC (mostKept L) w) := by
  have Hv := Lib.hid hv
  have Hf := Lib.hid hf
  clear hf
  cases h1 : arePromises L
  · have H := Lib.hid (show mostKept L = (0, 1) by simp [mostKept, h1])
    clear hv
    go_enter Try.func36, Try.ntmps36
    go_wp2_with fail
    refine (specArePromises_any w L v Hv.out Hf.out hn).mono ?_
    rintro e w2 ⟨rfl, hb2⟩
    rw [h1]
    go_wp2
    go_ret2
    exact RetIC.ok H.out hb2
  · have hL := promIn_of h1
    have H := Lib.hid (show mostKept L = ((((keptIdx L).length : Nat) : Int), 0) by simp [mostKept, h1])
    clear hv
    go_enter Try.func36, Try.ntmps36
    go_wp2_with fail
    refine (specArePromises_any w L v Hv.out Hf.out hn).mono ?_
    rintro e w2 ⟨rfl, hb2⟩
    rw [h1]
    go_wp2_with fail
    refine (specKept_any w2 L v (Hv.out.below hb2) hL).mono ?_
    rintro e w3 ⟨y, rfl, ho3, hb3⟩
    obtain ⟨A3, c3, rfl, _, _⟩ := own_slice ho3
    have b3 := hb2.trans (hb3.mono hb2.size)
    go_wp2
    go_ret2
    exact RetIC.ok H.out b3

set_option maxHeartbeats 2000000 in
theorem implKeptNames_any (w : World) (L : List Promise) (v : Value) (hv : Sl w 3 v L.length (promiseRow L)) (hf : promiseFit L) (hn : L.length ≤ 4194304) :
    Calls Try.prog 39 #[v] w (RetSC w.heap.size 9 1 strsRow (keptNames L) w) := by
  have Hv := Lib.hid hv
  have Hf := Lib.hid hf
  clear hf
  cases h1 : arePromises L
  · have H := Lib.hid (show keptNames L = ([], 1) by simp [keptNames, h1])
    clear hv
    go_enter Try.func39, Try.ntmps39
    go_wp2_with fail
    refine (implArePromises_any w L v Hv.out Hf.out hn).mono ?_
    rintro e w2 ⟨rfl, hb2⟩
    rw [h1]
    go_wp2
    go_ret2
    exact RetSC.err H.out rfl hb2
  · have hL := promIn_of h1
    have H := Lib.hid (show keptNames L = (keptNm L, 0) by simp [keptNames, h1])
    clear hv
    go_enter Try.func39, Try.ntmps39
    go_wp2_with fail
    refine (implArePromises_any w L v Hv.out Hf.out hn).mono ?_
    rintro e w2 ⟨rfl, hb2⟩
    rw [h1]
    go_wp2_with fail
    refine (implKept_any w2 L v (Hv.out.below hb2) hL).mono ?_
    rintro e w3 ⟨y, rfl, ho3, hb3⟩
    obtain ⟨A3, c3, rfl, _, _⟩ := own_slice ho3
    have b3 := hb2.trans (hb3.mono hb2.size)
    go_wp2
    go_ret2
    exact RetSC.ok H.out ho3 rfl rfl hb2.size b3

end Go.Proofs.Ytgafjchbfbpmmaa
