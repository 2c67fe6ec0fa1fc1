/- FewestBars: the walks of l20Fits, and of FewestBars in the program and in the reference. -/
import Derived.Test.YtmjjlpkleapaeaaFew
namespace Go.Proofs.Ytmjjlpkleapaeaa
open Go.RowKit

theorem drop_cons3 (D : List Int) {i : Nat} (h : i < D.length) : (D.drop i).map (· + 3) = (intsAt D i + 3) :: (D.drop (i + 1)).map (· + 3) := by
  rw [List.drop_eq_getElem_cons h, List.map_cons, intsAt_lt h]

set_option maxHeartbeats 800000 in
theorem specOwn_any (w : World) (l : List Int) (u : Value) (hu : Sl w 1 u l.length (intsRow l)) (hn : l.length ≤ 4194304) :
    Calls Try.prog 65 #[u] w (Gives w.heap.size 2 1 l.length (intsRow l) w) := by
  obtain ⟨A, c, rfl, hl, hc, hr⟩ := hu
  have Hr := Lib.hid hr
  clear hr hl hc
  obtain ⟨j0, hj, hy0, hy1, hy2⟩ := info_parts Try.info_ints
  go_enter Try.func65, Try.ntmps65
  go_wp2_with (at_builtin; refine wpList_append_sl _ rfl (.tmp 3) (.tmp 4) _ rfl w.heap.size 2 j0 _ 1 8 Try.underlying35 hj hy0 hy1 hy2 rfl (by omega) (.slice (some ⟨w.heap.size, 0, none⟩) 0 0) 0 [] rfl (own_empty _ _ _ (Nat.le_refl _)) A l.length c (intsRow l) rfl (Hr.out.alloc' _) (intsRow_one l) (by unfold maxLen; omega) (by omega) (by simp) ?_; intro A9 c9 w9 ho9 hg9 hor9; simp only [Nat.zero_add, List.nil_append] at ho9 ⊢; have q9 : Below w.heap.size w w9 := ((Below.refl _ _).alloc (Nat.le_refl _) _).grown hg9 (by simp) (fun k hk => by simp [Value.ownBlock] at hk; omega))
  go_ret
  exact ⟨_, rfl, ho9, q9⟩

set_option maxHeartbeats 4000000 in
theorem specFits_any (D : List Int) (hD : ∀ i, i < D.length → 0 ≤ intsAt D i ∧ intsAt D i ≤ 100000) (hD8 : D.length ≤ 8) : ∀ (d i : Nat) (left : List Int) (u v : Value) (w : World), D.length - i = d → i ≤ D.length → Sl w 1 u D.length (intsRow D) → Sl w 1 v left.length (intsRow left) →
    (∀ k, k < left.length → 0 ≤ intsAt left k ∧ intsAt left k ≤ 100000) → left.length ≤ 8 →
    Calls Try.prog 54 #[u, v, .int .i64 i] w (RetB (fits ((D.drop i).map (· + 3)) left) w) := by
  intro d
  have HD := Lib.hid hD
  clear hD
  induction d with
  | zero =>
    intro i left u v w hd hi hu hv _ _
    obtain rfl : i = D.length := by omega
    have H := Lib.hid (show fits ((D.drop D.length).map (· + 3)) left = true by rw [List.drop_length]; exact fits_nil left)
    obtain ⟨A, c, rfl, _, _, _⟩ := hu
    obtain ⟨A', c', rfl, _, _, _⟩ := hv
    go_enter Try.func54, Try.ntmps54
    go_wp2
    go_ret
    exact RetB.ok H.out (Below.refl _ _)
  | succ d ih =>
    intro i left u v w hd hi hu hv hb h8
    have hlt : i < D.length := by omega
    have Ih := Lib.hid ih
    have Hu := Lib.hid hu
    have Hv := Lib.hid hv
    have Hb := Lib.hid hb
    obtain ⟨A, c, rfl, hl, hc, hr⟩ := hu
    obtain ⟨A', c', rfl, hl', hc', hr'⟩ := hv
    have Hr := Lib.hid hr
    have Hr' := Lib.hid hr'
    have hn := HD.out i hlt
    obtain ⟨n, hn'⟩ : ∃ n, n = intsAt D i := ⟨_, rfl⟩
    rw [← hn'] at hn
    have HE := Lib.hid (drop_cons3 D hlt)
    have HN := Lib.hid hn'
    have t0 : ((i : Int) == (D.length : Int)) = false := by simp; omega
    clear ih hb hr hr' hl hc hl' hc' hn'
    go_enter Try.func54, Try.ntmps54
    go_wp2
    go_loopw [7] (fun b wr => ∃ k : Nat, k ≤ left.length ∧ b = .int .i64 k ∧ (∀ j, j < k → n + 3 ≤ intsAt left j → fits ((D.drop (i + 1)).map (· + 3)) (left.set j (intsAt left j - (n + 3))) = false) ∧ Below w.heap.size w wr) (fun b _ => left.length - (intOf b).toNat)
    case atStart => exact ⟨0, Nat.zero_le _, rfl, fun j h => absurd h (by omega), Below.refl _ _⟩
    case round =>
      obtain ⟨k, hk, rfl, hall, hbr⟩ := hrel
      have Hall := Lib.hid hall
      clear hall
      have hsz := hbr.size
      by_cases hkl : k < left.length
      · obtain ⟨g, o, rfl, hg, c0⟩ := (Hr.out.below hbr (Nat.le_refl _)).ints hlt
        obtain ⟨g', o', rfl, hg', c1⟩ := (Hr'.out.below hbr (Nat.le_refl _)).ints hkl
        rw [← HN.out] at c0
        have bk := Hb.out k hkl
        have i0 : (0 : Int) ≤ (k : Int) := Int.natCast_nonneg _
        have i1 : (k : Int) < (left.length : Int) := by omega
        have i2 : (0 : Int) ≤ (i : Int) := Int.natCast_nonneg _
        have i3 : (i : Int) < (D.length : Int) := by omega
        have m0 : IntKind.i64.wrap (n + 3) = n + 3 := by rw [IntKind.wrap_i64]; omega
        by_cases hle : n + 3 ≤ intsAt left k
        · have t1 : decide (intsAt left k < n + 3) = false := by simpa using hle
          have Hle := Lib.hid hle
          go_wp2
          go_quiet (fail)
          obtain ⟨wd, hwd⟩ : ∃ wd, wd = wr.drewN nq := ⟨_, rfl⟩
          have hbd : Below w.heap.size w wd := by rw [hwd]; exact below_drewN hbr _
          have hszd := hbd.size
          rw [← hwd]
          clear hwd c0 c1
          go_wp2_with fail
          refine (specOwn_any wd left _ (Hv.out.below hbd) (by omega)).mono ?_
          rintro e w2 ⟨y, rfl, ho, hb2⟩
          have hb3 := hbd.trans (hb2.mono hszd)
          have hsz2 := hb2.size
          obtain ⟨g1, cc, rfl, hgb, hgl⟩ := own_form ho (by omega)
          obtain ⟨_, _, hcc⟩ := own_caps ho
          unfold maxLen at hcc
          have Ho := Lib.hid ho
          have d0 : w2.cell? ⟨g1, k, none⟩ = some (.int .i64 (intsAt left k)) := (ho.cellAt k (by omega)).trans (intsRow_at left k hkl)
          have f0 := ho.frozenAt k
          obtain ⟨gx, ox, hA, hgx, c0⟩ := (Hr.out.below hb3 (Nat.le_refl _)).ints hlt
          injection hA with hA
          injection hA with hA1 hA2
          subst hA1
          subst hA2
          rw [← HN.out] at c0
          have m1 : IntKind.i64.wrap (intsAt left k - n) = intsAt left k - n := by rw [IntKind.wrap_i64]; omega
          have m2 : IntKind.i64.wrap (intsAt left k - n - 3) = intsAt left k - n - 3 := by rw [IntKind.wrap_i64]; omega
          have hgne : g ≠ g1 := by omega
          clear ho
          go_wp2
          refine wp_region_held_drew (S := (fun w' => w'.cell? ⟨g, o + i, none⟩ = some (.int .i64 n))) (by kernel_rfl) ?_ (fun hHeld => ?_)
          · (try dsimp only); first | assumption | (refine (World.cell?_setCell_other _ _ _ _ (fun e => hgne (by injection e with e1; first | exact e1 | exact e1.symm))).trans ?_; assumption) | go_keep
          refine wpAnyH_take (i := 0) (v := ?_) rfl (by kernel_rfl) (by kernel_rfl) (by kernel_rfl) (fun _ _ _ h => h) (Or.inl ⟨by rfl, ?_⟩) (by assumption) ?_
          rotate_left
          · (intro w hSw; (try dsimp only at hSw); go_simp) <;> with_reducible rfl
          try simp only [Act.put, List.setIfInBounds_toArray, List.set_cons_zero, List.set_cons_succ, List.getElem_toArray, List.getElem_cons_succ, List.getElem_cons_zero]
          refine wpAnyH_take (i := 1) (v := ?_) rfl (by kernel_rfl) (by kernel_rfl) (by kernel_rfl) (fun _ _ _ h => h) (Or.inl ⟨by rfl, ?_⟩) (by assumption) ?_
          rotate_left
          · (intro w hSw; (try dsimp only at hSw); go_simp) <;> with_reducible rfl
          try simp only [Act.put, List.setIfInBounds_toArray, List.set_cons_zero, List.set_cons_succ, List.getElem_toArray, List.getElem_cons_succ, List.getElem_cons_zero]
          refine wpAnyH_take (i := 2) (v := ?_) rfl (by kernel_rfl) (by kernel_rfl) (by kernel_rfl) (fun _ _ _ h => h) (Or.inl ⟨by rfl, ?_⟩) (by assumption) ?_
          rotate_left
          · (intro w hSw; (try dsimp only at hSw); go_simp) <;> with_reducible rfl
          try simp only [Act.put, List.setIfInBounds_toArray, List.set_cons_zero, List.set_cons_succ, List.getElem_toArray, List.getElem_cons_succ, List.getElem_cons_zero]
          refine wpAnyH_take (i := 3) (v := ?_) rfl (by kernel_rfl) (by kernel_rfl) (by kernel_rfl) (fun _ _ _ h => h) (Or.inl ⟨by rfl, ?_⟩) (by assumption) ?_
          rotate_left
          · (intro w hSw; (try dsimp only at hSw); go_simp) <;> with_reducible rfl
          try simp only [Act.put, List.setIfInBounds_toArray, List.set_cons_zero, List.set_cons_succ, List.getElem_toArray, List.getElem_cons_succ, List.getElem_cons_zero]
          refine wpAnyH_take (i := 4) (v := ?_) rfl (by kernel_rfl) (by kernel_rfl) (by kernel_rfl) (fun _ _ _ h => h) (Or.inl ⟨by rfl, ?_⟩) (by assumption) ?_
          rotate_left
          · (intro w hSw; (try dsimp only at hSw); go_simp) <;> with_reducible rfl
          try simp only [Act.put, List.setIfInBounds_toArray, List.set_cons_zero, List.set_cons_succ, List.getElem_toArray, List.getElem_cons_succ, List.getElem_cons_zero]
          refine wpAnyH_take (i := 6) (v := ?_) rfl (by kernel_rfl) (by kernel_rfl) (by kernel_rfl) (fun _ _ _ h => h) (Or.inl ⟨by rfl, ?_⟩) (by assumption) ?_
          rotate_left
          · (intro w hSw; (try dsimp only at hSw); go_simp) <;> with_reducible rfl
          try simp only [Act.put, List.setIfInBounds_toArray, List.set_cons_zero, List.set_cons_succ, List.getElem_toArray, List.getElem_cons_succ, List.getElem_cons_zero]
          refine wpAnyH_take (i := 7) (v := ?_) rfl (by kernel_rfl) (by kernel_rfl) (by kernel_rfl) (fun _ _ _ h => h) (Or.inl ⟨by rfl, ?_⟩) (by assumption) ?_
          rotate_left
          · (intro w hSw; (try dsimp only at hSw); go_simp) <;> with_reducible rfl
          try simp only [Act.put, List.setIfInBounds_toArray, List.set_cons_zero, List.set_cons_succ, List.getElem_toArray, List.getElem_cons_succ, List.getElem_cons_zero]
          refine wpAnyH_take (i := 8) (v := ?_) rfl (by kernel_rfl) (by kernel_rfl) (by kernel_rfl) (fun _ _ _ h => h) (Or.inl ⟨by rfl, ?_⟩) (by assumption) ?_
          rotate_left
          · (intro w hSw; (try dsimp only at hSw); go_simp) <;> with_reducible rfl
          try simp only [Act.put, List.setIfInBounds_toArray, List.set_cons_zero, List.set_cons_succ, List.getElem_toArray, List.getElem_cons_succ, List.getElem_cons_zero]
          refine wpAnyH_take (i := 9) (v := ?_) rfl (by kernel_rfl) (by kernel_rfl) (by kernel_rfl) (fun _ _ _ h => h) (Or.inl ⟨by rfl, ?_⟩) (by assumption) ?_
          rotate_left
          · (intro w hSw; (try dsimp only at hSw); go_simp) <;> with_reducible rfl
          try simp only [Act.put, List.setIfInBounds_toArray, List.set_cons_zero, List.set_cons_succ, List.getElem_toArray, List.getElem_cons_succ, List.getElem_cons_zero]
          refine wpAnyH_ready (rs := [5]) (by kernel_rfl) (by simp) ?_
          refine AllReadyH.cons rfl (fun K hK => ?_) AllReadyH.nil
          try dsimp only [List.getElem_toArray, List.getElem_cons_succ, List.getElem_cons_zero]
          go_simp
          refine hK.out _ _ ?_ (fun hHeld => ?_)
          · (try dsimp only); first | assumption | (refine (World.cell?_setCell_other _ _ _ _ (fun e => hgne (by injection e with e1; first | exact e1 | exact e1.symm))).trans ?_; assumption) | go_keep
          clear hK K
          try simp only [Act.put, List.setIfInBounds_toArray, List.set_cons_zero, List.set_cons_succ, List.getElem_toArray, List.getElem_cons_succ, List.getElem_cons_zero]
          refine wpAnyH_take (i := 10) (v := ?_) rfl (by kernel_rfl) (by kernel_rfl) (by kernel_rfl) (fun _ _ _ h => h) (Or.inl ⟨by rfl, ?_⟩) (by assumption) ?_
          rotate_left
          · (intro w hSw; (try dsimp only at hSw); go_simp) <;> with_reducible rfl
          try simp only [Act.put, List.setIfInBounds_toArray, List.set_cons_zero, List.set_cons_succ, List.getElem_toArray, List.getElem_cons_succ, List.getElem_cons_zero]
          refine wpAnyH_take (i := 11) (v := ?_) rfl (by kernel_rfl) (by kernel_rfl) (by kernel_rfl) (fun _ _ _ h => h) (Or.inl ⟨by rfl, ?_⟩) (by assumption) ?_
          rotate_left
          · (intro w hSw; (try dsimp only at hSw); go_simp) <;> with_reducible rfl
          try simp only [Act.put, List.setIfInBounds_toArray, List.set_cons_zero, List.set_cons_succ, List.getElem_toArray, List.getElem_cons_succ, List.getElem_cons_zero]
          refine wpAnyH_take (i := 12) (v := ?_) rfl (by kernel_rfl) (by kernel_rfl) (by kernel_rfl) (fun _ _ _ h => h) (Or.inl ⟨by rfl, ?_⟩) (by assumption) ?_
          rotate_left
          · (intro w hSw; (try dsimp only at hSw); go_simp) <;> with_reducible rfl
          try simp only [Act.put, List.setIfInBounds_toArray, List.set_cons_zero, List.set_cons_succ, List.getElem_toArray, List.getElem_cons_succ, List.getElem_cons_zero]
          refine wpAnyH_ready (rs := [13]) (by kernel_rfl) (by simp) ?_
          refine AllReadyH.cons rfl (fun K hK => ?_) AllReadyH.nil
          try dsimp only [List.getElem_toArray, List.getElem_cons_succ, List.getElem_cons_zero]
          go_simp
          refine hK.out _ _ ?_ (fun hHeld => ?_)
          · (try dsimp only); first | assumption | (refine (World.cell?_setCell_other _ _ _ _ (fun e => hgne (by injection e with e1; first | exact e1 | exact e1.symm))).trans ?_; assumption) | go_keep
          clear hK K
          try simp only [Act.put, List.setIfInBounds_toArray, List.set_cons_zero, List.set_cons_succ, List.getElem_toArray, List.getElem_cons_succ, List.getElem_cons_zero]
          refine wpAnyH_done (by kernel_rfl) ?_ _
          have em : intsAt left k - n - 3 = intsAt left k - (n + 3) := by omega
          rw [em]
          obtain ⟨L5, hL5⟩ : ∃ L5, L5 = left.set k (intsAt left k - (n + 3)) := ⟨_, rfl⟩
          have h5l : L5.length = left.length := by rw [hL5]; simp
          obtain ⟨w5, hw5⟩ : ∃ w5, w5 = (w2.setCell ⟨g1, k, none⟩ (.int .i64 (intsAt left k - (n + 3)))).drew := ⟨_, rfl⟩
          have O5 : w5.ownsRow wd.heap.size 2 1 (.slice (some ⟨g1, 0, none⟩) left.length cc) left.length (intsRow L5) := by
            rw [hw5, hL5, ← intsRow_set]; exact (Ho.out.stored k _).1.drew
          have hb5 : Below w.heap.size w w5 := by rw [hw5]; exact (hb3.setCell (show w.heap.size ≤ g1 by omega) _).drew
          have hs5 := hb5.size
          rw [← hw5]
          have H5 := Lib.hid hL5
          clear hw5 hL5 em m0 m1 m2 c0 d0 f0 hHeld
          have hb5' : ∀ j, j < L5.length → 0 ≤ intsAt L5 j ∧ intsAt L5 j ≤ 100000 := by
            intro j hj
            rw [H5.out, intsAt_set hkl]
            have h6 := Hle.out
            split
            · omega
            · exact Hb.out j (by omega)
          have I : Calls Try.prog 54 #[.slice (some ⟨g, o, none⟩) D.length c, .slice (some ⟨g1, 0, none⟩) left.length cc, .int .i64 ((i : Int) + 1)] w5 (RetB (fits ((D.drop (i + 1)).map (· + 3)) L5) w5) := by
            have := Ih.out (i + 1) L5 _ (.slice (some ⟨g1, 0, none⟩) left.length cc) w5 (by omega) (by omega) (Hu.out.below hb5) (by rw [h5l]; exact Sl.of_own O5) hb5' (by omega)
            rwa [show (((i + 1 : Nat)) : Int) = (i : Int) + 1 by omega] at this
          have HI := Lib.hid I
          clear I hb5' O5
          go_wp2_with fail
          refine HI.out.mono ?_
          rintro e w6 ⟨rfl, hb6⟩
          have hb7 := hb5.trans (hb6.mono hs5)
          cases hf : fits ((D.drop (i + 1)).map (· + 3)) L5
          · have HF := Lib.hid hf
            clear hf
            go_wp2
            go_roundw
            case rel => exact ⟨k + 1, by omega, by go_num, fun j hj h => by
              by_cases e : j = k
              · subst e; rw [← H5.out]; exact HF.out
              · exact Hall.out j (by omega) h, hb7⟩
            case measure => simp [intOf]; omega
          · have H := Lib.hid (show fits ((D.drop i).map (· + 3)) left = true by rw [HE.out, ← HN.out]; exact fits_yes hkl Hle.out (by rw [← H5.out]; exact hf))
            clear hf
            go_wp2
            go_ret
            exact RetB.ok H.out hb7
        · have t1 : decide (intsAt left k < n + 3) = true := by simpa using hle
          have Hle := Lib.hid (show ¬ n + 3 ≤ intsAt left k from hle)
          clear hle
          go_wp2
          go_quiet (fail)
          go_wp2
          go_roundw
          case rel => exact ⟨k + 1, by omega, by go_num, fun j hj h => by
            by_cases e : j = k
            · subst e; have h5 := Hle.out; omega
            · exact Hall.out j (by omega) h, below_drewN hbr _⟩
          case measure => simp [intOf]; omega
      · have H := Lib.hid (show fits ((D.drop i).map (· + 3)) left = false by rw [HE.out, ← HN.out]; exact fits_no (fun j hj => Hall.out j (by omega)))
        go_wp2
        go_ret
        exact RetB.ok H.out hbr

end Go.Proofs.Ytmjjlpkleapaeaa
