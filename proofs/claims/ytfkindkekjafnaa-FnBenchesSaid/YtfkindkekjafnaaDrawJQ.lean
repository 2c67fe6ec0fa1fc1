/- l22DrawPlan; the draws of chapter 22: DrawEndsOf, DrawLatenessOf, DrawLateJobs, DrawAddJob. Printed by gen_drawjq.py. -/
import Derived.Test.YtfkindkekjafnaaDrawJ
import Derived.Test.YtfkindkekjafnaaDue
import Derived.Test.YtfkindkekjafnaaCode
import Derived.Test.YtfkindkekjafnaaApart
import Derived.OwnWalk
namespace Go.Proofs.Ytfkindkekjafnaa
open Go.RowKit

set_option maxHeartbeats 8000000 in
theorem plan_any (w : World) (base g : Nat) (A : Option Addr) (n c m : Nat) (hm : m ≤ 8) (hs : Src w base g A n c) :
    Calls Try.prog 76 #[.pointer (some ⟨g, 0, none⟩), .int .i64 m] w fun e w' => ∃ (P : List Int) (v : Value), e = .returned v ∧ w'.ownsRow w.heap.size 2 1 v P.length (intsRow P) ∧ P.length ≤ 9 ∧ Src w' base g A n c ∧ w.grownBy w' (some g) := by
  have Hs := Lib.hid hs
  have hgl := hs.lt
  obtain ⟨j0, hj, hy0, hy1, hy2⟩ := info_parts Try.info_ints
  clear hs
  go_enter Try.func76, Try.ntmps76
  go_wp2
  go_loopw [5, 6] (fun o i wr => ∃ (q : Nat) (acc : List Int) (g9 co : Nat), q ≤ m ∧ i = .int .i64 q ∧ o = .slice (some ⟨g9, 0, none⟩) q co ∧ acc.length = q ∧ wr.ownsRow w.heap.size 2 1 (.slice (some ⟨g9, 0, none⟩) q co) q (intsRow acc) ∧ Src wr base g A n c ∧ w.grownBy wr (some g)) (fun _ i _ => m - (intOf i).toNat)
  case atStart => exact ⟨0, [], w.heap.size, 0, Nat.zero_le _, rfl, rfl, rfl, own_empty _ _ _ (Nat.le_refl _), Hs.out.below ((Below.refl _ _).alloc (Nat.le_refl _) _), gb_below (gb_refl w (some g)) ((Below.refl _ _).alloc (Nat.le_refl _) _)⟩
  case round =>
    obtain ⟨q, acc, g9, co, hq, rfl, rfl, hal, ho, hsr, hg⟩ := hrel
    have Hs1 := Lib.hid hsr
    have Hg1 := Lib.hid hg
    have Ho1 := Lib.hid ho
    have NG := Lib.hid (show (Value.slice (some ⟨g9, 0, none⟩) q co).ownBlock ≠ some g from fun h => by have := (World.ownsRow.lt ho g h).1; omega)
    have hsz1 := hg.size
    clear hsr hg ho
    by_cases hlt : q < m
    · have hlti : (q : Int) < (m : Int) := by omega
      have x1 := IntWalk.i64_in ((q : Int) + 1) (by omega)
      go_wp2_with fail
      refine (next_any _ base g A n c ((q : Int) + 1) Hs1.out).mono ?_
      rintro e w4 ⟨k, rfl, hx, hs4, hg4⟩
      have hk : k ≤ q := by omega
      have Hs4 := Lib.hid hs4
      have Hg4 := Lib.hid (gb_trans Hg1.out hg4)
      have Ob := Lib.hid (Ho1.out.kept hg4 (.inr NG.out))
      have hgw := (World.ownsRow.lt Ob.out g9 rfl)
      have hbr := Below.refl w4.heap.size w4
      have hb := hbr
      have hsz : w4.heap.size ≤ w4.heap.size := Nat.le_refl _
      obtain ⟨_, hl9, hc9⟩ := own_caps Ob.out
      unfold maxLen at hc9
      have hsz4 := Hg4.out.size
      have Hal := Lib.hid hal
      clear hs4 hg4 hx hal hbr
      have hk0 : (0 : Int) ≤ (k : Int) := Int.natCast_nonneg _
      have hq0 : (0 : Int) ≤ (q : Int) := Int.natCast_nonneg _
      have hkq : (k : Int) ≤ (q : Int) := by omega
      have hkc : k ≤ co := by omega
      have HRD := Lib.hid (fun (A : Option Addr) (hA : k < q → A = some ⟨g9, k, none⟩) => own_drop Ob.out hk hA)
      by_cases hcap : co = k
      · have hcap2 := hcap.symm
        subst hcap2
        go_wp2
        refine wp_region_held_drew (S := (fun _ => True)) (by kernel_rfl) ?_ (fun hHeld => ?_)
        · (try dsimp only); first | done | trivial
        refine wpAnyH_take (i := 0) (v := ?_) rfl (by kernel_rfl) (by kernel_rfl) (by kernel_rfl) (fun _ _ _ h => h) (Or.inl ⟨by rfl, ?_⟩) (by assumption) ?_
        rotate_left
        · (intro w hSw; (try dsimp only at hSw); go_simp) <;> with_reducible rfl
        try simp only [Act.put, List.setIfInBounds_toArray, List.set_cons_zero, List.set_cons_succ, List.getElem_toArray, List.getElem_cons_succ, List.getElem_cons_zero]
        refine wpAnyH_take (i := 1) (v := ?_) rfl (by kernel_rfl) (by kernel_rfl) (by kernel_rfl) (fun _ _ _ h => h) (Or.inl ⟨by rfl, ?_⟩) (by assumption) ?_
        rotate_left
        · (intro w hSw; (try dsimp only at hSw); go_simp) <;> with_reducible rfl
        try simp only [Act.put, List.setIfInBounds_toArray, List.set_cons_zero, List.set_cons_succ, List.getElem_toArray, List.getElem_cons_succ, List.getElem_cons_zero]
        refine wpAnyH_take (i := 2) (v := ?_) rfl (by kernel_rfl) (by kernel_rfl) (by kernel_rfl) (fun _ _ _ h => h) (Or.inl ⟨by rfl, ?_⟩) (by assumption) ?_
        rotate_left
        · (intro w hSw; (try dsimp only at hSw); go_simp) <;> with_reducible rfl
        try simp only [Act.put, List.setIfInBounds_toArray, List.set_cons_zero, List.set_cons_succ, List.getElem_toArray, List.getElem_cons_succ, List.getElem_cons_zero]
        refine wpAnyH_take (i := 4) (v := ?_) rfl (by kernel_rfl) (by kernel_rfl) (by kernel_rfl) (fun _ _ _ h => h) (Or.inl ⟨by rfl, ?_⟩) (by assumption) ?_
        rotate_left
        · (intro w hSw; (try dsimp only at hSw); go_simp) <;> with_reducible rfl
        try simp only [Act.put, List.setIfInBounds_toArray, List.set_cons_zero, List.set_cons_succ, List.getElem_toArray, List.getElem_cons_succ, List.getElem_cons_zero]
        refine wpAnyH_take (i := 7) (v := ?_) rfl (by kernel_rfl) (by kernel_rfl) (by kernel_rfl) (fun _ _ _ h => h) (Or.inl ⟨by rfl, ?_⟩) (by assumption) ?_
        rotate_left
        · (intro w hSw; (try dsimp only at hSw); go_simp) <;> with_reducible rfl
        try simp only [Act.put, List.setIfInBounds_toArray, List.set_cons_zero, List.set_cons_succ, List.getElem_toArray, List.getElem_cons_succ, List.getElem_cons_zero]
        refine wpAnyH_take (i := 8) (v := ?_) rfl (by kernel_rfl) (by kernel_rfl) (by kernel_rfl) (fun _ _ _ h => h) (Or.inl ⟨by rfl, ?_⟩) (by assumption) ?_
        rotate_left
        · (intro w hSw; (try dsimp only at hSw); go_simp) <;> with_reducible rfl
        try simp only [Act.put, List.setIfInBounds_toArray, List.set_cons_zero, List.set_cons_succ, List.getElem_toArray, List.getElem_cons_succ, List.getElem_cons_zero]
        refine wpAnyH_take (i := 9) (v := ?_) rfl (by kernel_rfl) (by kernel_rfl) (by kernel_rfl) (fun _ _ _ h => h) (Or.inl ⟨by rfl, ?_⟩) (by assumption) ?_
        rotate_left
        · (intro w hSw; (try dsimp only at hSw); go_simp) <;> with_reducible rfl
        try simp only [Act.put, List.setIfInBounds_toArray, List.set_cons_zero, List.set_cons_succ, List.getElem_toArray, List.getElem_cons_succ, List.getElem_cons_zero]
        refine wpAnyH_ready (rs := [3, 5]) (by kernel_rfl) (by simp) ?_
        refine (AllReadyH.cons rfl (fun K hK => ?_) (AllReadyH.cons rfl (fun K hK => ?_) AllReadyH.nil))
        · skip
          try dsimp only [List.getElem_toArray, List.getElem_cons_succ, List.getElem_cons_zero]
          go_simp
          refine (specOwn_any _ (acc.take k) _ (by rw [show (acc.take k).length = k by rw [List.length_take]; have := Hal.out; omega, show intsRow (acc.take k) = (intsRow acc).take k by simp [intsRow, List.map_take]]; exact own_take (own_drewN Ob.out _) hk) (by rw [List.length_take]; omega)).mono ?_
          rw [show (acc.take k).length = k by rw [List.length_take]; have := Hal.out; omega, show intsRow (acc.take k) = (intsRow acc).take k by simp [intsRow, List.map_take]]
          rintro e w3 ⟨y3, rfl, ho3, hb3⟩
          have z3 : w4.heap.size ≤ w3.heap.size := by have := hb3.size; simp at this; omega
          obtain ⟨A3, c3, rfl, _, _⟩ := own_slice ho3
          have O3 := Lib.hid ho3
          clear ho3
          go_wp2_with fail
          refine hK.out _ _ ?_ (fun hHeld => ?_)
          · (try dsimp only); first | done | trivial
          clear hK K
          try simp only [Act.put, List.setIfInBounds_toArray, List.set_cons_zero, List.set_cons_succ, List.getElem_toArray, List.getElem_cons_succ, List.getElem_cons_zero]
          refine wpAnyH_ready (rs := [5]) (by kernel_rfl) (by simp) ?_
          refine AllReadyH.cons rfl (fun K hK => ?_) AllReadyH.nil
          try dsimp only [List.getElem_toArray, List.getElem_cons_succ, List.getElem_cons_zero]
          go_simp
          refine hK.out _ _ ?_ (fun hHeld => ?_)
          · (try dsimp only); first | done | trivial
          clear hK K
          try simp only [Act.put, List.setIfInBounds_toArray, List.set_cons_zero, List.set_cons_succ, List.getElem_toArray, List.getElem_cons_succ, List.getElem_cons_zero]
          refine wpAnyH_ready (rs := [6]) (by kernel_rfl) (by simp) ?_
          refine AllReadyH.cons rfl (fun K hK => ?_) AllReadyH.nil
          (refine step_append_sl _ (by rfl) (.tmp 22) (.tmp 24) _ (by rfl) _ 2 j0 _ 1 8 Try.underlying38 hj hy0 hy1 hy2 rfl (by omega) _ k ((intsRow acc).take k) (by rfl) (O3.out.alloc _) (some ⟨w3.heap.size, 0, none⟩) 1 1 [.int .i64 (q : Int)] (by rfl) (Rd.of_block (cs := #[.int .i64 (q : Int)]) (heap_alloc_new _ _) rfl) (by intro x hx; simp at hx; subst hx; rfl) (by unfold maxLen; omega) (by omega) (by have := hb3.size; (try simp at this); simp <;> omega) ?_; intro A6 c6 w6 ho6 hg6 hor6; have Z6 := hg6.size)
          refine hK.out _ _ ?_ (fun hHeld => ?_)
          · (try dsimp only); first | done | trivial
          clear hK K
          try simp only [Act.put, List.setIfInBounds_toArray, List.set_cons_zero, List.set_cons_succ, List.getElem_toArray, List.getElem_cons_succ, List.getElem_cons_zero]
          refine wpAnyH_ready (rs := [10]) (by kernel_rfl) (by simp) ?_
          refine AllReadyH.cons rfl (fun K hK => ?_) AllReadyH.nil
          have b3 : Below w4.heap.size w4 w3 := (below_drewN hb _).trans (hb3.mono (by simp))
          have r6 : ∀ (A : Option Addr), (k < q → A = some ⟨g9, k, none⟩) → Rd w6 w6.heap.size 1 A (q - k) ((intsRow acc).drop k) := fun A hA => ((((Rd.below (Rd.drewN0 (HRD.out A hA) _) hb3 (Nat.le_refl _)).alloc z3 _)).grown hg6 (by have := z3; simp <;> omega) (fun g hg => (show w4.heap.size ≤ g from (World.ownsRow.lt O3.out g hg).1))).more (by have := z3; (try simp at Z6); omega)
          have b6 : Below w4.heap.size w4 w6 := (b3.alloc b3.size _).grown hg6 (by have := b3.size; simp <;> omega) (fun g hg => Nat.le_trans hsz (show w4.heap.size ≤ g from (World.ownsRow.lt O3.out g hg).1))
          (refine step_append_sl _ (by rfl) (.tmp 25) (.tmp 28) _ (by rfl) _ 2 j0 _ 1 8 Try.underlying38 hj hy0 hy1 hy2 rfl (by omega) _ (k + 1) ((intsRow acc).take k ++ [.int .i64 (q : Int)]) (by rfl) ho6 _ 0 _ [] (by rfl) Rd.none_ (fun u hu => by cases hu) (by unfold maxLen; omega) (by omega) (by have := hb3.size; (try simp at this); (try simp at Z6); simp <;> omega) ?_; intro A7 c7 w7 ho7 hg7 hor7)
          refine hK.out _ _ ?_ (fun hHeld => ?_)
          · (try dsimp only); first | done | trivial
          clear hK K
          try simp only [Act.put, List.setIfInBounds_toArray, List.set_cons_zero, List.set_cons_succ, List.getElem_toArray, List.getElem_cons_succ, List.getElem_cons_zero]
          refine wpAnyH_take (i := 11) (v := ?_) rfl (by kernel_rfl) (by kernel_rfl) (by kernel_rfl) (fun _ _ _ h => h) (Or.inl ⟨by rfl, ?_⟩) (by assumption) ?_
          rotate_left
          · (intro w hSw; (try dsimp only at hSw); go_simp) <;> with_reducible rfl
          try simp only [Act.put, List.setIfInBounds_toArray, List.set_cons_zero, List.set_cons_succ, List.getElem_toArray, List.getElem_cons_succ, List.getElem_cons_zero]
          refine wpAnyH_done (by kernel_rfl) ?_ _
          have h6 : k + 1 + 0 = q + 1 := by omega
          rw [h6] at ho7
          have O7 := Lib.hid ho7
          have b7 : Below w4.heap.size w4 w7 := b6.grown hg7 b6.size (fun g hg => Nat.le_trans hsz (by have := (World.ownsRow.lt ho6 g hg).1; first | exact this | exact Nat.le_of_succ_le (show w4.heap.size + 1 ≤ g by simpa using this)))
          obtain ⟨g7, cc, hv7, _, hg7lt⟩ := own_form O7.out (by omega)
          injection hv7 with hA7 hn7 hc7'
          subst hA7
          have Hs7 := Lib.hid (Hs4.out.below b7)
          have Hg7 := Lib.hid (gb_below Hg4.out b7)
          clear hn7 hc7' cc ho7 hor7 hg7 ho6 hor6 hg6 r6
          go_wp2
          try rw [h6]
          go_roundw
          case rel =>
            refine ⟨q + 1, insAt acc k q, g7, c7, by omega, by go_num, rfl, by rw [insAt_len, Hal.out], ?_, Hs7.out, Hg7.out⟩
            have h := O7.out
            have h2 : ((intsRow acc).take k ++ [.int .i64 (q : Int)]) ++ [] = intsRow (insAt acc k q) := by rw [← intsRow_insAt, List.drop_of_length_le (l := intsRow acc) (by rw [intsRow_len]; have := Hal.out; omega)]
            rw [h2] at h
            first | exact own_base h hsz4 | exact own_base h (by simp <;> omega)
          case measure => simp [intOf]; omega
        · skip
          try dsimp only [List.getElem_toArray, List.getElem_cons_succ, List.getElem_cons_zero]
          go_simp
          refine hK.out _ _ ?_ (fun hHeld => ?_)
          · (try dsimp only); first | done | trivial
          clear hK K
          try simp only [Act.put, List.setIfInBounds_toArray, List.set_cons_zero, List.set_cons_succ, List.getElem_toArray, List.getElem_cons_succ, List.getElem_cons_zero]
          refine wpAnyH_ready (rs := [3]) (by kernel_rfl) (by simp) ?_
          refine AllReadyH.cons rfl (fun K hK => ?_) AllReadyH.nil
          try dsimp only [List.getElem_toArray, List.getElem_cons_succ, List.getElem_cons_zero]
          go_simp
          refine (specOwn_any _ (acc.take k) _ (by rw [show (acc.take k).length = k by rw [List.length_take]; have := Hal.out; omega, show intsRow (acc.take k) = (intsRow acc).take k by simp [intsRow, List.map_take]]; exact own_take ((own_drewN Ob.out _).alloc _) hk) (by rw [List.length_take]; omega)).mono ?_
          rw [show (acc.take k).length = k by rw [List.length_take]; have := Hal.out; omega, show intsRow (acc.take k) = (intsRow acc).take k by simp [intsRow, List.map_take]]
          rintro e w3 ⟨y3, rfl, ho3, hb3⟩
          have z3 : w4.heap.size ≤ w3.heap.size := by have := hb3.size; simp at this; omega
          obtain ⟨A3, c3, rfl, _, _⟩ := own_slice ho3
          have O3 := Lib.hid ho3
          clear ho3
          go_wp2_with fail
          refine hK.out _ _ ?_ (fun hHeld => ?_)
          · (try dsimp only); first | done | trivial
          clear hK K
          try simp only [Act.put, List.setIfInBounds_toArray, List.set_cons_zero, List.set_cons_succ, List.getElem_toArray, List.getElem_cons_succ, List.getElem_cons_zero]
          refine wpAnyH_ready (rs := [6]) (by kernel_rfl) (by simp) ?_
          refine AllReadyH.cons rfl (fun K hK => ?_) AllReadyH.nil
          (refine step_append_sl _ (by rfl) (.tmp 22) (.tmp 24) _ (by rfl) _ 2 j0 _ 1 8 Try.underlying38 hj hy0 hy1 hy2 rfl (by omega) _ k ((intsRow acc).take k) (by rfl) (O3.out) (some ⟨w4.heap.size, 0, none⟩) 1 1 [.int .i64 (q : Int)] (by rfl) (Rd.of_block (cs := #[.int .i64 (q : Int)]) ((hb3.block _ (by simp)).trans (heap_alloc_new _ _)) rfl) (by intro x hx; simp at hx; subst hx; rfl) (by unfold maxLen; omega) (by omega) (by have := hb3.size; (try simp at this); simp <;> omega) ?_; intro A6 c6 w6 ho6 hg6 hor6; have Z6 := hg6.size)
          refine hK.out _ _ ?_ (fun hHeld => ?_)
          · (try dsimp only); first | done | trivial
          clear hK K
          try simp only [Act.put, List.setIfInBounds_toArray, List.set_cons_zero, List.set_cons_succ, List.getElem_toArray, List.getElem_cons_succ, List.getElem_cons_zero]
          refine wpAnyH_ready (rs := [10]) (by kernel_rfl) (by simp) ?_
          refine AllReadyH.cons rfl (fun K hK => ?_) AllReadyH.nil
          have b3 : Below w4.heap.size w4 w3 := ((below_drewN hb _).alloc (by simp) _).trans (hb3.mono (by simp))
          have r6 : ∀ (A : Option Addr), (k < q → A = some ⟨g9, k, none⟩) → Rd w6 w6.heap.size 1 A (q - k) ((intsRow acc).drop k) := fun A hA => (((Rd.below (Rd.alloc (Rd.drewN0 (HRD.out A hA) _) (Nat.le_refl _) _) hb3 (by simp))).grown hg6 (by have := z3; simp <;> omega) (fun g hg => (Nat.le_of_succ_le (show w4.heap.size + 1 ≤ g by have h := (World.ownsRow.lt O3.out g hg).1; simpa using h)))).more (by have := z3; (try simp at Z6); omega)
          have b6 : Below w4.heap.size w4 w6 := b3.grown hg6 b3.size (fun g hg => Nat.le_trans hsz (Nat.le_of_succ_le (show w4.heap.size + 1 ≤ g by have h := (World.ownsRow.lt O3.out g hg).1; simpa using h)))
          (refine step_append_sl _ (by rfl) (.tmp 25) (.tmp 28) _ (by rfl) _ 2 j0 _ 1 8 Try.underlying38 hj hy0 hy1 hy2 rfl (by omega) _ (k + 1) ((intsRow acc).take k ++ [.int .i64 (q : Int)]) (by rfl) ho6 _ 0 _ [] (by rfl) Rd.none_ (fun u hu => by cases hu) (by unfold maxLen; omega) (by omega) (by have := hb3.size; (try simp at this); (try simp at Z6); simp <;> omega) ?_; intro A7 c7 w7 ho7 hg7 hor7)
          refine hK.out _ _ ?_ (fun hHeld => ?_)
          · (try dsimp only); first | done | trivial
          clear hK K
          try simp only [Act.put, List.setIfInBounds_toArray, List.set_cons_zero, List.set_cons_succ, List.getElem_toArray, List.getElem_cons_succ, List.getElem_cons_zero]
          refine wpAnyH_take (i := 11) (v := ?_) rfl (by kernel_rfl) (by kernel_rfl) (by kernel_rfl) (fun _ _ _ h => h) (Or.inl ⟨by rfl, ?_⟩) (by assumption) ?_
          rotate_left
          · (intro w hSw; (try dsimp only at hSw); go_simp) <;> with_reducible rfl
          try simp only [Act.put, List.setIfInBounds_toArray, List.set_cons_zero, List.set_cons_succ, List.getElem_toArray, List.getElem_cons_succ, List.getElem_cons_zero]
          refine wpAnyH_done (by kernel_rfl) ?_ _
          have h6 : k + 1 + 0 = q + 1 := by omega
          rw [h6] at ho7
          have O7 := Lib.hid ho7
          have b7 : Below w4.heap.size w4 w7 := b6.grown hg7 b6.size (fun g hg => Nat.le_trans hsz (by have := (World.ownsRow.lt ho6 g hg).1; first | exact this | exact Nat.le_of_succ_le (show w4.heap.size + 1 ≤ g by simpa using this)))
          obtain ⟨g7, cc, hv7, _, hg7lt⟩ := own_form O7.out (by omega)
          injection hv7 with hA7 hn7 hc7'
          subst hA7
          have Hs7 := Lib.hid (Hs4.out.below b7)
          have Hg7 := Lib.hid (gb_below Hg4.out b7)
          clear hn7 hc7' cc ho7 hor7 hg7 ho6 hor6 hg6 r6
          go_wp2
          try rw [h6]
          go_roundw
          case rel =>
            refine ⟨q + 1, insAt acc k q, g7, c7, by omega, by go_num, rfl, by rw [insAt_len, Hal.out], ?_, Hs7.out, Hg7.out⟩
            have h := O7.out
            have h2 : ((intsRow acc).take k ++ [.int .i64 (q : Int)]) ++ [] = intsRow (insAt acc k q) := by rw [← intsRow_insAt, List.drop_of_length_le (l := intsRow acc) (by rw [intsRow_len]; have := Hal.out; omega)]
            rw [h2] at h
            first | exact own_base h hsz4 | exact own_base h (by simp <;> omega)
          case measure => simp [intOf]; omega
      · skip
        go_wp2
        refine wp_region_held_drew (S := (fun _ => True)) (by kernel_rfl) ?_ (fun hHeld => ?_)
        · (try dsimp only); first | done | trivial
        refine wpAnyH_take (i := 0) (v := ?_) rfl (by kernel_rfl) (by kernel_rfl) (by kernel_rfl) (fun _ _ _ h => h) (Or.inl ⟨by rfl, ?_⟩) (by assumption) ?_
        rotate_left
        · (intro w hSw; (try dsimp only at hSw); go_simp) <;> with_reducible rfl
        try simp only [Act.put, List.setIfInBounds_toArray, List.set_cons_zero, List.set_cons_succ, List.getElem_toArray, List.getElem_cons_succ, List.getElem_cons_zero]
        refine wpAnyH_take (i := 1) (v := ?_) rfl (by kernel_rfl) (by kernel_rfl) (by kernel_rfl) (fun _ _ _ h => h) (Or.inl ⟨by rfl, ?_⟩) (by assumption) ?_
        rotate_left
        · (intro w hSw; (try dsimp only at hSw); go_simp) <;> with_reducible rfl
        try simp only [Act.put, List.setIfInBounds_toArray, List.set_cons_zero, List.set_cons_succ, List.getElem_toArray, List.getElem_cons_succ, List.getElem_cons_zero]
        refine wpAnyH_take (i := 2) (v := ?_) rfl (by kernel_rfl) (by kernel_rfl) (by kernel_rfl) (fun _ _ _ h => h) (Or.inl ⟨by rfl, ?_⟩) (by assumption) ?_
        rotate_left
        · (intro w hSw; (try dsimp only at hSw); go_simp) <;> with_reducible rfl
        try simp only [Act.put, List.setIfInBounds_toArray, List.set_cons_zero, List.set_cons_succ, List.getElem_toArray, List.getElem_cons_succ, List.getElem_cons_zero]
        refine wpAnyH_take (i := 4) (v := ?_) rfl (by kernel_rfl) (by kernel_rfl) (by kernel_rfl) (fun _ _ _ h => h) (Or.inl ⟨by rfl, ?_⟩) (by assumption) ?_
        rotate_left
        · (intro w hSw; (try dsimp only at hSw); go_simp) <;> with_reducible rfl
        try simp only [Act.put, List.setIfInBounds_toArray, List.set_cons_zero, List.set_cons_succ, List.getElem_toArray, List.getElem_cons_succ, List.getElem_cons_zero]
        refine wpAnyH_take (i := 7) (v := ?_) rfl (by kernel_rfl) (by kernel_rfl) (by kernel_rfl) (fun _ _ _ h => h) (Or.inl ⟨by rfl, ?_⟩) (by assumption) ?_
        rotate_left
        · (intro w hSw; (try dsimp only at hSw); go_simp) <;> with_reducible rfl
        try simp only [Act.put, List.setIfInBounds_toArray, List.set_cons_zero, List.set_cons_succ, List.getElem_toArray, List.getElem_cons_succ, List.getElem_cons_zero]
        refine wpAnyH_take (i := 8) (v := ?_) rfl (by kernel_rfl) (by kernel_rfl) (by kernel_rfl) (fun _ _ _ h => h) (Or.inl ⟨by rfl, ?_⟩) (by assumption) ?_
        rotate_left
        · (intro w hSw; (try dsimp only at hSw); go_simp) <;> with_reducible rfl
        try simp only [Act.put, List.setIfInBounds_toArray, List.set_cons_zero, List.set_cons_succ, List.getElem_toArray, List.getElem_cons_succ, List.getElem_cons_zero]
        refine wpAnyH_take (i := 9) (v := ?_) rfl (by kernel_rfl) (by kernel_rfl) (by kernel_rfl) (fun _ _ _ h => h) (Or.inl ⟨by rfl, ?_⟩) (by assumption) ?_
        rotate_left
        · (intro w hSw; (try dsimp only at hSw); go_simp) <;> with_reducible rfl
        try simp only [Act.put, List.setIfInBounds_toArray, List.set_cons_zero, List.set_cons_succ, List.getElem_toArray, List.getElem_cons_succ, List.getElem_cons_zero]
        refine wpAnyH_ready (rs := [3, 5]) (by kernel_rfl) (by simp) ?_
        refine (AllReadyH.cons rfl (fun K hK => ?_) (AllReadyH.cons rfl (fun K hK => ?_) AllReadyH.nil))
        · skip
          try dsimp only [List.getElem_toArray, List.getElem_cons_succ, List.getElem_cons_zero]
          go_simp
          refine (specOwn_any _ (acc.take k) _ (by rw [show (acc.take k).length = k by rw [List.length_take]; have := Hal.out; omega, show intsRow (acc.take k) = (intsRow acc).take k by simp [intsRow, List.map_take]]; exact own_take (own_drewN Ob.out _) hk) (by rw [List.length_take]; omega)).mono ?_
          rw [show (acc.take k).length = k by rw [List.length_take]; have := Hal.out; omega, show intsRow (acc.take k) = (intsRow acc).take k by simp [intsRow, List.map_take]]
          rintro e w3 ⟨y3, rfl, ho3, hb3⟩
          have z3 : w4.heap.size ≤ w3.heap.size := by have := hb3.size; simp at this; omega
          obtain ⟨A3, c3, rfl, _, _⟩ := own_slice ho3
          have O3 := Lib.hid ho3
          clear ho3
          go_wp2_with fail
          refine hK.out _ _ ?_ (fun hHeld => ?_)
          · (try dsimp only); first | done | trivial
          clear hK K
          try simp only [Act.put, List.setIfInBounds_toArray, List.set_cons_zero, List.set_cons_succ, List.getElem_toArray, List.getElem_cons_succ, List.getElem_cons_zero]
          refine wpAnyH_ready (rs := [5]) (by kernel_rfl) (by simp) ?_
          refine AllReadyH.cons rfl (fun K hK => ?_) AllReadyH.nil
          try dsimp only [List.getElem_toArray, List.getElem_cons_succ, List.getElem_cons_zero]
          go_simp
          refine hK.out _ _ ?_ (fun hHeld => ?_)
          · (try dsimp only); first | done | trivial
          clear hK K
          try simp only [Act.put, List.setIfInBounds_toArray, List.set_cons_zero, List.set_cons_succ, List.getElem_toArray, List.getElem_cons_succ, List.getElem_cons_zero]
          refine wpAnyH_ready (rs := [6]) (by kernel_rfl) (by simp) ?_
          refine AllReadyH.cons rfl (fun K hK => ?_) AllReadyH.nil
          (refine step_append_sl _ (by rfl) (.tmp 22) (.tmp 24) _ (by rfl) _ 2 j0 _ 1 8 Try.underlying38 hj hy0 hy1 hy2 rfl (by omega) _ k ((intsRow acc).take k) (by rfl) (O3.out.alloc _) (some ⟨w3.heap.size, 0, none⟩) 1 1 [.int .i64 (q : Int)] (by rfl) (Rd.of_block (cs := #[.int .i64 (q : Int)]) (heap_alloc_new _ _) rfl) (by intro x hx; simp at hx; subst hx; rfl) (by unfold maxLen; omega) (by omega) (by have := hb3.size; (try simp at this); simp <;> omega) ?_; intro A6 c6 w6 ho6 hg6 hor6; have Z6 := hg6.size)
          refine hK.out _ _ ?_ (fun hHeld => ?_)
          · (try dsimp only); first | done | trivial
          clear hK K
          try simp only [Act.put, List.setIfInBounds_toArray, List.set_cons_zero, List.set_cons_succ, List.getElem_toArray, List.getElem_cons_succ, List.getElem_cons_zero]
          refine wpAnyH_ready (rs := [10]) (by kernel_rfl) (by simp) ?_
          refine AllReadyH.cons rfl (fun K hK => ?_) AllReadyH.nil
          have b3 : Below w4.heap.size w4 w3 := (below_drewN hb _).trans (hb3.mono (by simp))
          have r6 : ∀ (A : Option Addr), (k < q → A = some ⟨g9, k, none⟩) → Rd w6 w6.heap.size 1 A (q - k) ((intsRow acc).drop k) := fun A hA => ((((Rd.below (Rd.drewN0 (HRD.out A hA) _) hb3 (Nat.le_refl _)).alloc z3 _)).grown hg6 (by have := z3; simp <;> omega) (fun g hg => (show w4.heap.size ≤ g from (World.ownsRow.lt O3.out g hg).1))).more (by have := z3; (try simp at Z6); omega)
          have b6 : Below w4.heap.size w4 w6 := (b3.alloc b3.size _).grown hg6 (by have := b3.size; simp <;> omega) (fun g hg => Nat.le_trans hsz (show w4.heap.size ≤ g from (World.ownsRow.lt O3.out g hg).1))
          (refine step_append_sl _ (by rfl) (.tmp 25) (.tmp 28) _ (by rfl) _ 2 j0 _ 1 8 Try.underlying38 hj hy0 hy1 hy2 rfl (by omega) _ (k + 1) ((intsRow acc).take k ++ [.int .i64 (q : Int)]) (by rfl) ho6 _ (q - k) _ ((intsRow acc).drop k) (by rfl) (by exact r6 _ (fun h => by first | rfl | exact if_neg (by omega) | (exfalso; omega))) (fun u hu => intsRow_one acc u (List.mem_of_mem_drop hu)) (by unfold maxLen; omega) (by omega) (by have := hb3.size; (try simp at this); (try simp at Z6); simp <;> omega) ?_; intro A7 c7 w7 ho7 hg7 hor7)
          refine hK.out _ _ ?_ (fun hHeld => ?_)
          · (try dsimp only); first | done | trivial
          clear hK K
          try simp only [Act.put, List.setIfInBounds_toArray, List.set_cons_zero, List.set_cons_succ, List.getElem_toArray, List.getElem_cons_succ, List.getElem_cons_zero]
          refine wpAnyH_take (i := 11) (v := ?_) rfl (by kernel_rfl) (by kernel_rfl) (by kernel_rfl) (fun _ _ _ h => h) (Or.inl ⟨by rfl, ?_⟩) (by assumption) ?_
          rotate_left
          · (intro w hSw; (try dsimp only at hSw); go_simp) <;> with_reducible rfl
          try simp only [Act.put, List.setIfInBounds_toArray, List.set_cons_zero, List.set_cons_succ, List.getElem_toArray, List.getElem_cons_succ, List.getElem_cons_zero]
          refine wpAnyH_done (by kernel_rfl) ?_ _
          have h6 : k + 1 + (q - k) = q + 1 := by omega
          rw [h6] at ho7
          have O7 := Lib.hid ho7
          have b7 : Below w4.heap.size w4 w7 := b6.grown hg7 b6.size (fun g hg => Nat.le_trans hsz (by have := (World.ownsRow.lt ho6 g hg).1; first | exact this | exact Nat.le_of_succ_le (show w4.heap.size + 1 ≤ g by simpa using this)))
          obtain ⟨g7, cc, hv7, _, hg7lt⟩ := own_form O7.out (by omega)
          injection hv7 with hA7 hn7 hc7'
          subst hA7
          have Hs7 := Lib.hid (Hs4.out.below b7)
          have Hg7 := Lib.hid (gb_below Hg4.out b7)
          clear hn7 hc7' cc ho7 hor7 hg7 ho6 hor6 hg6 r6
          go_wp2
          try rw [h6]
          go_roundw
          case rel =>
            refine ⟨q + 1, insAt acc k q, g7, c7, by omega, by go_num, rfl, by rw [insAt_len, Hal.out], ?_, Hs7.out, Hg7.out⟩
            have h := O7.out
            rw [intsRow_insAt] at h
            first | exact own_base h hsz4 | exact own_base h (by simp <;> omega)
          case measure => simp [intOf]; omega
        · skip
          try dsimp only [List.getElem_toArray, List.getElem_cons_succ, List.getElem_cons_zero]
          go_simp
          refine hK.out _ _ ?_ (fun hHeld => ?_)
          · (try dsimp only); first | done | trivial
          clear hK K
          try simp only [Act.put, List.setIfInBounds_toArray, List.set_cons_zero, List.set_cons_succ, List.getElem_toArray, List.getElem_cons_succ, List.getElem_cons_zero]
          refine wpAnyH_ready (rs := [3]) (by kernel_rfl) (by simp) ?_
          refine AllReadyH.cons rfl (fun K hK => ?_) AllReadyH.nil
          try dsimp only [List.getElem_toArray, List.getElem_cons_succ, List.getElem_cons_zero]
          go_simp
          refine (specOwn_any _ (acc.take k) _ (by rw [show (acc.take k).length = k by rw [List.length_take]; have := Hal.out; omega, show intsRow (acc.take k) = (intsRow acc).take k by simp [intsRow, List.map_take]]; exact own_take ((own_drewN Ob.out _).alloc _) hk) (by rw [List.length_take]; omega)).mono ?_
          rw [show (acc.take k).length = k by rw [List.length_take]; have := Hal.out; omega, show intsRow (acc.take k) = (intsRow acc).take k by simp [intsRow, List.map_take]]
          rintro e w3 ⟨y3, rfl, ho3, hb3⟩
          have z3 : w4.heap.size ≤ w3.heap.size := by have := hb3.size; simp at this; omega
          obtain ⟨A3, c3, rfl, _, _⟩ := own_slice ho3
          have O3 := Lib.hid ho3
          clear ho3
          go_wp2_with fail
          refine hK.out _ _ ?_ (fun hHeld => ?_)
          · (try dsimp only); first | done | trivial
          clear hK K
          try simp only [Act.put, List.setIfInBounds_toArray, List.set_cons_zero, List.set_cons_succ, List.getElem_toArray, List.getElem_cons_succ, List.getElem_cons_zero]
          refine wpAnyH_ready (rs := [6]) (by kernel_rfl) (by simp) ?_
          refine AllReadyH.cons rfl (fun K hK => ?_) AllReadyH.nil
          (refine step_append_sl _ (by rfl) (.tmp 22) (.tmp 24) _ (by rfl) _ 2 j0 _ 1 8 Try.underlying38 hj hy0 hy1 hy2 rfl (by omega) _ k ((intsRow acc).take k) (by rfl) (O3.out) (some ⟨w4.heap.size, 0, none⟩) 1 1 [.int .i64 (q : Int)] (by rfl) (Rd.of_block (cs := #[.int .i64 (q : Int)]) ((hb3.block _ (by simp)).trans (heap_alloc_new _ _)) rfl) (by intro x hx; simp at hx; subst hx; rfl) (by unfold maxLen; omega) (by omega) (by have := hb3.size; (try simp at this); simp <;> omega) ?_; intro A6 c6 w6 ho6 hg6 hor6; have Z6 := hg6.size)
          refine hK.out _ _ ?_ (fun hHeld => ?_)
          · (try dsimp only); first | done | trivial
          clear hK K
          try simp only [Act.put, List.setIfInBounds_toArray, List.set_cons_zero, List.set_cons_succ, List.getElem_toArray, List.getElem_cons_succ, List.getElem_cons_zero]
          refine wpAnyH_ready (rs := [10]) (by kernel_rfl) (by simp) ?_
          refine AllReadyH.cons rfl (fun K hK => ?_) AllReadyH.nil
          have b3 : Below w4.heap.size w4 w3 := ((below_drewN hb _).alloc (by simp) _).trans (hb3.mono (by simp))
          have r6 : ∀ (A : Option Addr), (k < q → A = some ⟨g9, k, none⟩) → Rd w6 w6.heap.size 1 A (q - k) ((intsRow acc).drop k) := fun A hA => (((Rd.below (Rd.alloc (Rd.drewN0 (HRD.out A hA) _) (Nat.le_refl _) _) hb3 (by simp))).grown hg6 (by have := z3; simp <;> omega) (fun g hg => (Nat.le_of_succ_le (show w4.heap.size + 1 ≤ g by have h := (World.ownsRow.lt O3.out g hg).1; simpa using h)))).more (by have := z3; (try simp at Z6); omega)
          have b6 : Below w4.heap.size w4 w6 := b3.grown hg6 b3.size (fun g hg => Nat.le_trans hsz (Nat.le_of_succ_le (show w4.heap.size + 1 ≤ g by have h := (World.ownsRow.lt O3.out g hg).1; simpa using h)))
          (refine step_append_sl _ (by rfl) (.tmp 25) (.tmp 28) _ (by rfl) _ 2 j0 _ 1 8 Try.underlying38 hj hy0 hy1 hy2 rfl (by omega) _ (k + 1) ((intsRow acc).take k ++ [.int .i64 (q : Int)]) (by rfl) ho6 _ (q - k) _ ((intsRow acc).drop k) (by rfl) (by exact r6 _ (fun h => by first | rfl | exact if_neg (by omega) | (exfalso; omega))) (fun u hu => intsRow_one acc u (List.mem_of_mem_drop hu)) (by unfold maxLen; omega) (by omega) (by have := hb3.size; (try simp at this); (try simp at Z6); simp <;> omega) ?_; intro A7 c7 w7 ho7 hg7 hor7)
          refine hK.out _ _ ?_ (fun hHeld => ?_)
          · (try dsimp only); first | done | trivial
          clear hK K
          try simp only [Act.put, List.setIfInBounds_toArray, List.set_cons_zero, List.set_cons_succ, List.getElem_toArray, List.getElem_cons_succ, List.getElem_cons_zero]
          refine wpAnyH_take (i := 11) (v := ?_) rfl (by kernel_rfl) (by kernel_rfl) (by kernel_rfl) (fun _ _ _ h => h) (Or.inl ⟨by rfl, ?_⟩) (by assumption) ?_
          rotate_left
          · (intro w hSw; (try dsimp only at hSw); go_simp) <;> with_reducible rfl
          try simp only [Act.put, List.setIfInBounds_toArray, List.set_cons_zero, List.set_cons_succ, List.getElem_toArray, List.getElem_cons_succ, List.getElem_cons_zero]
          refine wpAnyH_done (by kernel_rfl) ?_ _
          have h6 : k + 1 + (q - k) = q + 1 := by omega
          rw [h6] at ho7
          have O7 := Lib.hid ho7
          have b7 : Below w4.heap.size w4 w7 := b6.grown hg7 b6.size (fun g hg => Nat.le_trans hsz (by have := (World.ownsRow.lt ho6 g hg).1; first | exact this | exact Nat.le_of_succ_le (show w4.heap.size + 1 ≤ g by simpa using this)))
          obtain ⟨g7, cc, hv7, _, hg7lt⟩ := own_form O7.out (by omega)
          injection hv7 with hA7 hn7 hc7'
          subst hA7
          have Hs7 := Lib.hid (Hs4.out.below b7)
          have Hg7 := Lib.hid (gb_below Hg4.out b7)
          clear hn7 hc7' cc ho7 hor7 hg7 ho6 hor6 hg6 r6
          go_wp2
          try rw [h6]
          go_roundw
          case rel =>
            refine ⟨q + 1, insAt acc k q, g7, c7, by omega, by go_num, rfl, by rw [insAt_len, Hal.out], ?_, Hs7.out, Hg7.out⟩
            have h := O7.out
            rw [intsRow_insAt] at h
            first | exact own_base h hsz4 | exact own_base h (by simp <;> omega)
          case measure => simp [intOf]; omega
    · have hqm : q = m := by omega
      subst hqm
      have hnl : ¬ (q : Int) < (q : Int) := by omega
      obtain ⟨_, hl9, hc9⟩ := own_caps Ho1.out
      unfold maxLen at hc9
      have Hal := Lib.hid hal
      clear hal hlt
      go_wp2_with fail
      refine (next_any _ base g A n c 16 Hs1.out).mono ?_
      rintro e w4 ⟨y, rfl, hx, hs4, hg4⟩
      have Hs4 := Lib.hid hs4
      have Hg4 := Lib.hid (gb_trans Hg1.out hg4)
      have Ho4 := Lib.hid (Ho1.out.kept hg4 (.inr NG.out))
      have hsz4 := Hg4.out.size
      clear hs4 hg4 hx
      by_cases hy0 : y = 0
      · subst hy0
        go_wp2_with fail
        refine (next_any _ base g A n c 6 Hs4.out).mono ?_
        rintro e w5 ⟨z, rfl, hx, hs5, hg5⟩
        have Hs5 := Lib.hid hs5
        have Hg5 := Lib.hid (gb_trans Hg4.out hg5)
        have Ho5 := Lib.hid (Ho4.out.kept hg5 (.inr NG.out))
        have hsz5 := Hg5.out.size
        clear hs5 hg5 hx
        go_wp2_with (at_builtin; refine wpList_append_sl _ rfl (.tmp 33) (.tmp 36) _ rfl w.heap.size 2 j0 _ 1 8 Try.underlying38 hj hy0 hy1 hy2 rfl (by omega) _ q (intsRow acc) rfl (Ho5.out.alloc _) (some ⟨w5.heap.size, 0, none⟩) 1 1 [.int .i64 (z : Int)] rfl (Rd.of_block (cs := #[.int .i64 (z : Int)]) (heap_alloc_new _ _) rfl) (by intro x hx; simp at hx; subst hx; rfl) (by unfold maxLen; omega) (by omega) (by simp; omega) ?_; intro A9 c9 w9 ho9 hg9 hor9)
        have hg9s : (w5.alloc (.cells #[.int .i64 (z : Int)] 2)).grownBy w9 (Value.slice (some ⟨g9, 0, none⟩) q co).ownBlock := hg9
        have hrow : (∀ r, (Value.slice (some ⟨g9, 0, none⟩) q co).ownBlock = some r → w.heap.size ≤ r ∧ r < w5.heap.size) := (fun r hr => World.ownsRow.lt Ho5.out r hr)
        have Hs9 := Lib.hid ((Hs5.out.below ((Below.refl _ _).alloc (Nat.le_refl _) (.cells #[.int .i64 (z : Int)] 2))).other hg9s (fun r hr => by have := (hrow r hr).1; omega))
        have Hg9 := Lib.hid (gb_other (gb_below Hg5.out ((Below.refl _ _).alloc (Nat.le_refl _) (.cells #[.int .i64 (z : Int)] 2))) hg9s (fun r hr => by have := (hrow r hr).1; omega))
        have Ho9 := Lib.hid (show w9.ownsRow w.heap.size 2 1 (.slice A9 (q + 1) c9) (acc ++ [(z : Int)]).length (intsRow (acc ++ [(z : Int)])) by rw [List.length_append, intsRow_append, Hal.out]; exact ho9)
        clear ho9 hg9 hor9 hrow hg9s
        go_wp2
        go_ret
        exact ⟨acc ++ [(z : Int)], _, rfl, Ho9.out, by rw [List.length_append, Hal.out]; simp; omega, Hs9.out, Hg9.out⟩
      · have u0 : ((y : Int) == 0) = false := by simp; omega
        go_wp2
        go_ret
        exact ⟨acc, _, rfl, by rw [Hal.out]; exact Ho4.out, by rw [Hal.out]; omega, Hs4.out, Hg4.out⟩

set_option maxHeartbeats 4000000 in
theorem drawEnds_any (w : World) (A : Option Addr) (n c : Nat) (hcode : Code w A n) (hn : n ≤ 4096) (hc : n ≤ c ∧ c ≤ maxLen) :
    Calls Try.prog 70 #[.slice A n c] w fun e w' => ∃ (L : List Job) (v : Value) (P : List Int) (u : Value), e = .returned (.tuple #[v, u]) ∧ w'.ownsRow w.heap.size 34 3 v L.length (jobRow L) ∧ jobFit L ∧ L.length ≤ 8 ∧ w'.ownsRow w.heap.size 2 1 u P.length (intsRow P) ∧ P.length ≤ 9 ∧ Below w.heap.size w w' := by
  go_enter Try.func70, Try.ntmps70
  go_wp2_with fail
  refine (from_any w A n c hcode hn hc).mono ?_
  rintro e w2 ⟨rfl, hs2, hb2⟩
  have Hs2 := Lib.hid hs2
  have hsz2 := hb2.size
  have hgl2 := hs2.lt
  clear hs2
  go_wp2_with fail
  refine (draw_any w2 w.heap.size w.heap.size A n c Hs2.out).mono ?_
  rintro e w3 ⟨L, v, rfl, ho3, hf, hL, hs3, hg3⟩
  obtain ⟨Ao, co, rfl, hoc, hoc2⟩ := own_slice ho3
  have Hs3 := Lib.hid hs3
  have hone : (Value.slice Ao L.length co).ownBlock ≠ some w.heap.size := fun h => by have := (World.ownsRow.lt ho3 _ h).1; omega
  have Hone := Lib.hid hone
  have Ho3 := Lib.hid ho3
  have Hf := Lib.hid hf
  have hgl3 : w.heap.size < w3.heap.size := hs3.lt
  have b3 : Below w.heap.size w w3 := hb2.trans (below_gb hg3 (Nat.le_refl _) (by omega))
  clear hs3 hg3 ho3 hone hf
  go_wp2_with fail
  refine (plan_any _ _ _ A n c L.length hL Hs3.out).mono ?_
  rintro e w4 ⟨P, u, rfl, hop, hpl, hs, hg⟩
  have Hop := Lib.hid hop
  have hsz3 := b3.size
  clear hop
  have Ho4 := Lib.hid (Ho3.out.kept hg (.inr Hone.out))
  have Hs4 := Lib.hid hs
  have b4 : Below w.heap.size w w4 := b3.trans (below_gb hg (Nat.le_refl _) (by first | omega | (simp; omega)))
  have hgl4 : w.heap.size < w4.heap.size := hs.lt
  clear hg hs
  go_wp2
  go_ret2
  exact ⟨L, _, P, _, rfl, own_base Ho4.out hsz2, Hf.out, hL, own_base Hop.out hsz3, hpl, b4⟩

set_option maxHeartbeats 1600000 in
theorem drawLateness_any (w : World) (A : Option Addr) (n c : Nat) (hcode : Code w A n) (hn : n ≤ 4096) (hc : n ≤ c ∧ c ≤ maxLen) :
    Calls Try.prog 52 #[.slice A n c] w fun e w' => ∃ (L : List Job) (v : Value) (P : List Int) (u : Value), e = .returned (.tuple #[v, u]) ∧ w'.ownsRow w.heap.size 34 3 v L.length (jobRow L) ∧ jobFit L ∧ L.length ≤ 8 ∧ w'.ownsRow w.heap.size 2 1 u P.length (intsRow P) ∧ P.length ≤ 9 ∧ Below w.heap.size w w' := by
  go_enter Try.func52, Try.ntmps52
  go_wp2_with fail
  refine (drawEnds_any w A n c hcode hn hc).mono ?_
  rintro e w2 ⟨L, v, P, u, rfl, ho, hf, hl, hp, hpl, hb⟩
  have Ho := Lib.hid ho
  have Hf := Lib.hid hf
  have Hp := Lib.hid hp
  have Hb := Lib.hid hb
  clear ho hf hp hb
  go_wp2
  go_ret2
  exact ⟨L, v, P, u, rfl, Ho.out, Hf.out, hl, Hp.out, hpl, Hb.out⟩

set_option maxHeartbeats 1600000 in
theorem drawLate_any (w : World) (A : Option Addr) (n c : Nat) (hcode : Code w A n) (hn : n ≤ 4096) (hc : n ≤ c ∧ c ≤ maxLen) :
    Calls Try.prog 47 #[.slice A n c] w fun e w' => ∃ (L : List Job) (v : Value) (P : List Int) (u : Value), e = .returned (.tuple #[v, u]) ∧ w'.ownsRow w.heap.size 34 3 v L.length (jobRow L) ∧ jobFit L ∧ L.length ≤ 8 ∧ w'.ownsRow w.heap.size 2 1 u P.length (intsRow P) ∧ P.length ≤ 9 ∧ Below w.heap.size w w' := by
  go_enter Try.func47, Try.ntmps47
  go_wp2_with fail
  refine (drawEnds_any w A n c hcode hn hc).mono ?_
  rintro e w2 ⟨L, v, P, u, rfl, ho, hf, hl, hp, hpl, hb⟩
  have Ho := Lib.hid ho
  have Hf := Lib.hid hf
  have Hp := Lib.hid hp
  have Hb := Lib.hid hb
  clear ho hf hp hb
  go_wp2
  go_ret2
  exact ⟨L, v, P, u, rfl, Ho.out, Hf.out, hl, Hp.out, hpl, Hb.out⟩

set_option maxHeartbeats 4000000 in
theorem drawAdd_any (w : World) (A : Option Addr) (n c : Nat) (hcode : Code w A n) (hn : n ≤ 4096) (hc : n ≤ c ∧ c ≤ maxLen) :
    Calls Try.prog 48 #[.slice A n c] w fun e w' => ∃ (L : List Job) (v : Value) (p : Job), e = .returned (.tuple #[v, .agg #[.string p.name, .int .i64 p.min, .int .i64 p.due]]) ∧ w'.ownsRow w.heap.size 34 3 v L.length (jobRow L) ∧ jobFit L ∧ L.length ≤ 8 ∧ p.name.size ≤ maxLen ∧ Below w.heap.size w w' := by
  go_enter Try.func48, Try.ntmps48
  have HR0 := Lib.hid (Blk.new w 34 #[.string ⟨#[]⟩, .int .i64 0, .int .i64 0])
  have hA : Below w.heap.size w (w.alloc (.cells #[.string ⟨#[]⟩, .int .i64 0, .int .i64 0] 34)) := (Below.refl _ _).alloc (Nat.le_refl _) _
  have hAs := hA.size
  go_wp2_with fail
  refine (from_any _ A n c (code_below hcode hA) hn hc).mono ?_
  rintro e w2 ⟨rfl, hs2, hb2⟩
  have HR2 := Lib.hid (HR0.out.below hb2 HR0.out.lt)
  have Hs2 := Lib.hid hs2
  have b2 := hA.trans (hb2.mono hAs)
  have hsz2 := b2.size
  have hgl2 := hs2.lt
  simp only [World.size_alloc] at hs2 Hs2 hgl2
  clear hs2
  go_wp2_with fail
  refine (draw_any w2 _ _ A n c Hs2.out).mono ?_
  rintro e w3 ⟨L, v, rfl, ho3, hf, hL, hs3, hg3⟩
  obtain ⟨Ao, co, rfl, hoc, hoc2⟩ := own_slice ho3
  have HR3 := Lib.hid (HR2.out.grown hg3 (fun e => by injection e; omega))
  have Hs3 := Lib.hid hs3
  have hone : (Value.slice Ao L.length co).ownBlock ≠ some (w.heap.size + 1) := fun h => by have := (World.ownsRow.lt ho3 _ h).1; omega
  have Hone := Lib.hid hone
  have Ho3 := Lib.hid ho3
  have Hf := Lib.hid hf
  have hgl3 : w.heap.size + 1 < w3.heap.size := hs3.lt
  have b3 : Below w.heap.size w w3 := b2.trans (below_gb hg3 (by omega) (by omega))
  clear hs3 hg3 ho3 hone hf
  have KT := Lib.hid (Blk.new w3 9 #[.string ⟨#[97, 100, 97]⟩, .string ⟨#[98, 111]⟩, .string ⟨#[104, 97, 108]⟩, .string ⟨#[105, 118, 121]⟩, .string ⟨#[74]⟩])
  go_wp2_with fail
  refine (next_any _ _ _ A n c 5 (Hs3.out.below ((Below.refl _ _).alloc (Nat.le_refl _) (.cells #[.string ⟨#[97, 100, 97]⟩, .string ⟨#[98, 111]⟩, .string ⟨#[104, 97, 108]⟩, .string ⟨#[105, 118, 121]⟩, .string ⟨#[74]⟩] 9)))).mono ?_
  rintro e w4 ⟨y, rfl, hy0, hs, hg⟩
  have hy : y < 5 := by omega
  clear hy0
  have KT4 := Lib.hid (KT.out.grown hg (fun e => by injection e; omega))
  have HR4 := Lib.hid ((HR3.out.alloc _).grown hg (fun e => by injection e; omega))
  have Ho4 := Lib.hid ((Ho3.out.alloc _).kept hg (.inr Hone.out))
  have Hs4 := Lib.hid hs
  have b4 : Below w.heap.size w w4 := (b3.alloc (by omega) (.cells #[.string ⟨#[97, 100, 97]⟩, .string ⟨#[98, 111]⟩, .string ⟨#[104, 97, 108]⟩, .string ⟨#[105, 118, 121]⟩, .string ⟨#[74]⟩] 9)).trans (below_gb hg (by omega) (by simp; omega))
  have hgl4 : w.heap.size + 1 < w4.heap.size := hs.lt
  clear hs hg
  obtain ⟨nm, hnm, cT⟩ : ∃ nm : ByteArray, nm.size ≤ maxLen ∧ w4.cell? ⟨w3.heap.size, y, none⟩ = some (.string nm) := by
    rw [KT4.out.cell y]
    match y, hy with
    | 0, _ => exact ⟨_, by simp [ByteArray.size, maxLen], rfl⟩
    | 1, _ => exact ⟨_, by simp [ByteArray.size, maxLen], rfl⟩
    | 2, _ => exact ⟨_, by simp [ByteArray.size, maxLen], rfl⟩
    | 3, _ => exact ⟨_, by simp [ByteArray.size, maxLen], rfl⟩
    | 4, _ => exact ⟨_, by simp [ByteArray.size, maxLen], rfl⟩
  have j0 : (0 : Int) ≤ (y : Int) := Int.natCast_nonneg _
  have j1 : (y : Int) < 5 := by omega
  go_wp2_with fail
  refine (good_any _ _ _ A n c _ Hs4.out).mono ?_
  rintro e w5 ⟨p, rfl, hpn, hs, hg⟩
  have HP := Lib.hid hpn
  clear hpn
  have HR5 := Lib.hid (HR4.out.grown hg (fun e => by injection e; omega))
  have Ho5 := Lib.hid (Ho4.out.kept hg (.inr Hone.out))
  have b5 : Below w.heap.size w w5 := b4.trans (below_gb hg (by omega) (by omega))
  have hgl5 : w.heap.size + 1 < w5.heap.size := hs.lt
  clear hs hg cT
  have e0 := HR5.out.cell 0
  have e1 := HR5.out.cell 1
  have e2 := HR5.out.cell 2
  have f0 := HR5.out.frozen 0
  have f1 := HR5.out.frozen 1
  have f2 := HR5.out.frozen 2
  simp only [List.getElem?_toArray, List.getElem?_cons_zero, List.getElem?_cons_succ] at e0 e1 e2
  have Hon := Lib.hid (show (Value.slice Ao L.length co).ownBlock ≠ some w.heap.size from fun h => by have := (World.ownsRow.lt Ho3.out _ h).1; omega)
  go_wp2
  refine bodyPost_ret (v := .tuple #[.slice Ao L.length co, .agg #[.string p.name, .int .i64 p.min, .int .i64 p.due]]) (by simp [results, Try.results48, go_sem, e0, e1, e2]) rfl ⟨L, _, p, rfl, ?_, Hf.out, hL, by rw [HP.out]; exact hnm, ((b5.setCell (Nat.le_refl _) _).setCell (Nat.le_refl _) _).setCell (Nat.le_refl _) _⟩
  exact own_base (own_far (own_far (own_far Ho5.out Hon.out _) Hon.out _) Hon.out _) hsz2


end Go.Proofs.Ytfkindkekjafnaa
