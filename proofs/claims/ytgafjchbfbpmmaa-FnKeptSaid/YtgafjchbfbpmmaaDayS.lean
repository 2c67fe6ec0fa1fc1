/- The walks of l01Own, l23Order. Printed by gen_order.py. -/
import Derived.Test.YtgafjchbfbpmmaaDayO
namespace Go.Proofs.Ytgafjchbfbpmmaa
open Go.RowKit

set_option maxHeartbeats 800000 in
theorem specOwn_any (w : World) (l : List Int) (u : Value) (hu : Sl w 1 u l.length (intsRow l)) (hn : l.length ≤ 4194304) :
    Calls Try.prog 87 #[u] w (Gives w.heap.size 2 1 l.length (intsRow l) w) := by
  obtain ⟨A, c, rfl, hl, hc, hr⟩ := hu
  have Hr := Lib.hid hr
  clear hr hl hc
  obtain ⟨j0, hj, hy0, hy1, hy2⟩ := info_parts Try.info_ints
  go_enter Try.func87, Try.ntmps87
  go_wp2_with (at_builtin; refine wpList_append_sl _ rfl (.tmp 3) (.tmp 4) _ rfl w.heap.size 2 j0 _ 1 8 Try.underlying59 hj hy0 hy1 hy2 rfl (by omega) (.slice (some ⟨w.heap.size, 0, none⟩) 0 0) 0 [] rfl (own_empty _ _ _ (Nat.le_refl _)) A l.length c (intsRow l) rfl (Hr.out.alloc' _) (intsRow_one l) (by unfold maxLen; omega) (by omega) (by simp) ?_; intro A9 c9 w9 ho9 hg9 hor9; simp only [Nat.zero_add, List.nil_append] at ho9 ⊢; have q9 : Below w.heap.size w w9 := ((Below.refl _ _).alloc (Nat.le_refl _) _).grown hg9 (by simp) (fun k hk => by simp [Value.ownBlock] at hk; omega))
  go_ret
  exact ⟨_, rfl, ho9, q9⟩

set_option maxHeartbeats 4000000 in
theorem specDayOrder_any (w : World) (L : List Promise) (v : Value) (hv : Sl w 3 v L.length (promiseRow L)) (hL : promIn L) :
    Calls Try.prog 82 #[v] w (Gives w.heap.size 2 1 L.length (intsRow (dayOrd L)) w) := by
  obtain ⟨A, c, rfl, hl, hc, hr⟩ := hv
  have Hr := Lib.hid hr
  have h41 := hL.1
  have HL := Lib.hid hL
  clear hr hl hc hL
  obtain ⟨j0, hj, hy0, hy1, hy2⟩ := info_parts Try.info_ints
  go_enter Try.func82, Try.ntmps82
  go_wp2
  go_loopw [3, 4] (fun s i wr => ∃ (q : Nat) (acc : List Int) (g co : Nat), q ≤ L.length ∧ i = .int .i64 q ∧ s = .slice (some ⟨g, 0, none⟩) q co ∧ acc = orderBy (dayKey L) q ∧ wr.ownsRow w.heap.size 2 1 (.slice (some ⟨g, 0, none⟩) q co) q (intsRow acc) ∧ Below w.heap.size w wr) (fun _ i _ => L.length - (intOf i).toNat)
  case atStart => exact ⟨0, [], w.heap.size, 0, Nat.zero_le _, rfl, rfl, rfl, own_empty _ _ _ (Nat.le_refl _), (Below.refl _ _).alloc (Nat.le_refl _) _⟩
  case round =>
    obtain ⟨q, acc, g9, co, hq, rfl, rfl, hacc, ho, hb⟩ := hrel
    have Hacc := Lib.hid hacc
    have Ho := Lib.hid ho
    have hal : acc.length = q := by rw [hacc, orderBy_len]
    clear hacc ho
    by_cases hlt : q < L.length
    · have hd := (HL.out.2 q hlt).1
      obtain ⟨_, hl9, hc9⟩ := own_caps Ho.out
      unfold maxLen at hc9
      have hg9 := (World.ownsRow.lt Ho.out g9 rfl)
      obtain ⟨hg91, hg92⟩ := hg9
      have Hb := Lib.hid hb
      obtain ⟨wo, rfl⟩ : ∃ wo : World, wo = wr := ⟨_, rfl⟩
      go_wp2
      go_loopw [5] (fun kv wr => ∃ k : Nat, k ≤ q ∧ kv = .int .i64 k ∧ (∀ j, j < k → dayKey L (intsAt acc j).toNat ≤ dayKey L q) ∧ wr.ownsRow w.heap.size 2 1 (.slice (some ⟨g9, 0, none⟩) q co) q (intsRow acc) ∧ Below w.heap.size w wr) (fun kv _ => q - (intOf kv).toNat)
      case atStart => exact ⟨0, Nat.zero_le _, rfl, fun j h1 => absurd h1 (by omega), Ho.out, Hb.out⟩
      case round =>
        obtain ⟨k, hk, rfl, hall, ho, hb⟩ := hrel
        have Hall := Lib.hid hall
        have Ob := Lib.hid ho
        have hsz := hb.size
        have hgw := (World.ownsRow.lt ho g9 rfl).2
        clear hall ho
        have hk0 : (0 : Int) ≤ (k : Int) := Int.natCast_nonneg _
        have hq0 : (0 : Int) ≤ (q : Int) := Int.natCast_nonneg _
        have hq1 : (q : Int) < (L.length : Int) := by omega
        obtain ⟨g, o, hA, hg, e0, e1, e2⟩ := (Hr.out.below hb (Nat.le_refl _)).promise hlt
        subst hA
        clear e0 e2
        by_cases h0 : k < q
        · skip
          obtain ⟨b, hbe, hbq⟩ := orderBy_mem (dayKey L) q k (by omega)
          rw [← Hacc.out] at hbe
          have d0 := (Ob.out.cellAt k (by omega)).trans (intsRow_at acc k (by omega))
          rw [hbe] at d0
          obtain ⟨g', o', hA, hg', d1, d2, d3⟩ := (Hr.out.below hb (Nat.le_refl _)).promise (k := b) (by omega)
          injection hA with hA
          injection hA with hA1 hA2
          subst hA1
          subst hA2
          clear d1 d3
          have Hbe := Lib.hid hbe
          clear hbe
          have t0 : decide ((k : Int) < (q : Int)) = true := by simp; omega
          have t1 : decide (k < q) = true := by simp; omega
          have i1 : (k : Int) < (q : Int) := by omega
          have i5 : (0 : Int) ≤ (b : Int) := Int.natCast_nonneg _
          have i6 : (b : Int) < (L.length : Int) := by omega
          by_cases hle : (promiseAt L b).day ≤ (promiseAt L q).day
          · have t2 : decide ((promiseAt L b).day ≤ (promiseAt L q).day) = true := by simpa using hle
            have Hle := Lib.hid hle
            clear hle
            go_wp2
            go_quiet (fail)
            go_wp2
            go_roundw
            case rel => exact ⟨k + 1, by omega, by go_num, fun j h1 => by
              by_cases e : j = k
              · subst e; rw [Hbe.out]; exact Hle.out
              · exact Hall.out j (by omega), own_drewN Ob.out _, below_drewN hb _⟩
            case measure => simp [intOf]; omega
          · have t2 : decide ((promiseAt L b).day ≤ (promiseAt L q).day) = false := by simpa using hle
            have Hle := Lib.hid (show ¬ (promiseAt L b).day ≤ (promiseAt L q).day from hle)
            clear hle
            go_wp2
            go_quiet (fail)
            have Hpos := Lib.hid (show posOf (dayKey L) acc (dayKey L q) = k by rw [Hacc.out]; exact posOf_up hk (fun j h1 => by rw [← Hacc.out]; exact Hall.out j h1) (.inr (by rw [← Hacc.out, Hbe.out]; simp only [Int.toNat_natCast]; have := Hle.out; unfold dayKey; omega)))
            have hkq : (k : Int) ≤ (q : Int) := by omega
            have hkc : k ≤ co := by omega
            have HRD := Lib.hid (fun (A : Option Addr) (hA : k < q → A = some ⟨g9, k, none⟩) => own_drop Ob.out hk hA)
            clear e1
            by_cases hcap : co = k
            · have hcap2 := hcap.symm
              subst hcap2
              go_wp2
              refine wp_region_held_drew (S := (fun _ => True)) (by kernel_rfl) ?_ (fun hHeld => ?_)
              · (try dsimp only); first | done | trivial
              refine wpAnyH_take (i := 0) (v := ?_) rfl (by kernel_rfl) (by kernel_rfl) (by kernel_rfl) (fun _ _ _ h => h) (Or.inl ⟨by rfl, ?_⟩) (by assumption) ?_
              rotate_left
              · (intro w hSw; (try dsimp only at hSw); go_simp) <;> with_reducible rfl
              try simp only [Act.put, List.setIfInBounds_toArray, List.set_cons_zero, List.set_cons_succ, List.getElem_toArray, List.getElem_cons_succ, List.getElem_cons_zero]
              refine wpAnyH_take (i := 1) (v := ?_) rfl (by kernel_rfl) (by kernel_rfl) (by kernel_rfl) (fun _ _ _ h => h) (Or.inl ⟨by rfl, ?_⟩) (by assumption) ?_
              rotate_left
              · (intro w hSw; (try dsimp only at hSw); go_simp) <;> with_reducible rfl
              try simp only [Act.put, List.setIfInBounds_toArray, List.set_cons_zero, List.set_cons_succ, List.getElem_toArray, List.getElem_cons_succ, List.getElem_cons_zero]
              refine wpAnyH_take (i := 2) (v := ?_) rfl (by kernel_rfl) (by kernel_rfl) (by kernel_rfl) (fun _ _ _ h => h) (Or.inl ⟨by rfl, ?_⟩) (by assumption) ?_
              rotate_left
              · (intro w hSw; (try dsimp only at hSw); go_simp) <;> with_reducible rfl
              try simp only [Act.put, List.setIfInBounds_toArray, List.set_cons_zero, List.set_cons_succ, List.getElem_toArray, List.getElem_cons_succ, List.getElem_cons_zero]
              refine wpAnyH_take (i := 4) (v := ?_) rfl (by kernel_rfl) (by kernel_rfl) (by kernel_rfl) (fun _ _ _ h => h) (Or.inl ⟨by rfl, ?_⟩) (by assumption) ?_
              rotate_left
              · (intro w hSw; (try dsimp only at hSw); go_simp) <;> with_reducible rfl
              try simp only [Act.put, List.setIfInBounds_toArray, List.set_cons_zero, List.set_cons_succ, List.getElem_toArray, List.getElem_cons_succ, List.getElem_cons_zero]
              refine wpAnyH_take (i := 7) (v := ?_) rfl (by kernel_rfl) (by kernel_rfl) (by kernel_rfl) (fun _ _ _ h => h) (Or.inl ⟨by rfl, ?_⟩) (by assumption) ?_
              rotate_left
              · (intro w hSw; (try dsimp only at hSw); go_simp) <;> with_reducible rfl
              try simp only [Act.put, List.setIfInBounds_toArray, List.set_cons_zero, List.set_cons_succ, List.getElem_toArray, List.getElem_cons_succ, List.getElem_cons_zero]
              refine wpAnyH_take (i := 8) (v := ?_) rfl (by kernel_rfl) (by kernel_rfl) (by kernel_rfl) (fun _ _ _ h => h) (Or.inl ⟨by rfl, ?_⟩) (by assumption) ?_
              rotate_left
              · (intro w hSw; (try dsimp only at hSw); go_simp) <;> with_reducible rfl
              try simp only [Act.put, List.setIfInBounds_toArray, List.set_cons_zero, List.set_cons_succ, List.getElem_toArray, List.getElem_cons_succ, List.getElem_cons_zero]
              refine wpAnyH_take (i := 9) (v := ?_) rfl (by kernel_rfl) (by kernel_rfl) (by kernel_rfl) (fun _ _ _ h => h) (Or.inl ⟨by rfl, ?_⟩) (by assumption) ?_
              rotate_left
              · (intro w hSw; (try dsimp only at hSw); go_simp) <;> with_reducible rfl
              try simp only [Act.put, List.setIfInBounds_toArray, List.set_cons_zero, List.set_cons_succ, List.getElem_toArray, List.getElem_cons_succ, List.getElem_cons_zero]
              refine wpAnyH_ready (rs := [3, 5]) (by kernel_rfl) (by simp) ?_
              refine (AllReadyH.cons rfl (fun K hK => ?_) (AllReadyH.cons rfl (fun K hK => ?_) AllReadyH.nil))
              · skip
                try dsimp only [List.getElem_toArray, List.getElem_cons_succ, List.getElem_cons_zero]
                go_simp
                refine (specOwn_any _ (acc.take k) _ (by rw [show (acc.take k).length = k by rw [List.length_take]; omega, show intsRow (acc.take k) = (intsRow acc).take k by simp [intsRow, List.map_take]]; exact own_take (own_drewN Ob.out _) hk) (by rw [List.length_take]; omega)).mono ?_
                rw [show (acc.take k).length = k by rw [List.length_take]; omega, show intsRow (acc.take k) = (intsRow acc).take k by simp [intsRow, List.map_take]]
                rintro e w3 ⟨y3, rfl, ho3, hb3⟩
                have z3 : wr.heap.size ≤ w3.heap.size := by have := hb3.size; simp at this; omega
                obtain ⟨A3, c3, rfl, _, _⟩ := own_slice ho3
                have O3 := Lib.hid ho3
                clear ho3
                go_wp2_with fail
                refine hK.out _ _ ?_ (fun hHeld => ?_)
                · (try dsimp only); first | done | trivial
                clear hK K
                try simp only [Act.put, List.setIfInBounds_toArray, List.set_cons_zero, List.set_cons_succ, List.getElem_toArray, List.getElem_cons_succ, List.getElem_cons_zero]
                refine wpAnyH_ready (rs := [5]) (by kernel_rfl) (by simp) ?_
                refine AllReadyH.cons rfl (fun K hK => ?_) AllReadyH.nil
                try dsimp only [List.getElem_toArray, List.getElem_cons_succ, List.getElem_cons_zero]
                go_simp
                refine hK.out _ _ ?_ (fun hHeld => ?_)
                · (try dsimp only); first | done | trivial
                clear hK K
                try simp only [Act.put, List.setIfInBounds_toArray, List.set_cons_zero, List.set_cons_succ, List.getElem_toArray, List.getElem_cons_succ, List.getElem_cons_zero]
                refine wpAnyH_ready (rs := [6]) (by kernel_rfl) (by simp) ?_
                refine AllReadyH.cons rfl (fun K hK => ?_) AllReadyH.nil
                (refine step_append_sl _ (by rfl) (.tmp 38) (.tmp 40) _ (by rfl) _ 2 j0 _ 1 8 Try.underlying59 hj hy0 hy1 hy2 rfl (by omega) _ k ((intsRow acc).take k) (by rfl) (O3.out.alloc _) (some ⟨w3.heap.size, 0, none⟩) 1 1 [.int .i64 (q : Int)] (by rfl) (Rd.of_block (cs := #[.int .i64 (q : Int)]) (heap_alloc_new _ _) rfl) (by intro x hx; simp at hx; subst hx; rfl) (by unfold maxLen; omega) (by omega) (by have := hb3.size; (try simp at this); simp <;> omega) ?_; intro A6 c6 w6 ho6 hg6 hor6; have Z6 := hg6.size)
                refine hK.out _ _ ?_ (fun hHeld => ?_)
                · (try dsimp only); first | done | trivial
                clear hK K
                try simp only [Act.put, List.setIfInBounds_toArray, List.set_cons_zero, List.set_cons_succ, List.getElem_toArray, List.getElem_cons_succ, List.getElem_cons_zero]
                refine wpAnyH_ready (rs := [10]) (by kernel_rfl) (by simp) ?_
                refine AllReadyH.cons rfl (fun K hK => ?_) AllReadyH.nil
                have b3 : Below w.heap.size w w3 := (below_drewN hb _).trans (hb3.mono (by simp; omega))
                have r6 : ∀ (A : Option Addr), (k < q → A = some ⟨g9, k, none⟩) → Rd w6 w6.heap.size 1 A (q - k) ((intsRow acc).drop k) := fun A hA => ((((Rd.below (Rd.drewN0 (HRD.out A hA) _) hb3 (Nat.le_refl _)).alloc z3 _)).grown hg6 (by have := z3; simp <;> omega) (fun g hg => (show wr.heap.size ≤ g from (World.ownsRow.lt O3.out g hg).1))).more (by have := z3; (try simp at Z6); omega)
                have b6 : Below w.heap.size w w6 := (b3.alloc b3.size _).grown hg6 (by have := b3.size; simp <;> omega) (fun g hg => Nat.le_trans hsz (show wr.heap.size ≤ g from (World.ownsRow.lt O3.out g hg).1))
                (refine step_append_sl _ (by rfl) (.tmp 41) (.tmp 44) _ (by rfl) _ 2 j0 _ 1 8 Try.underlying59 hj hy0 hy1 hy2 rfl (by omega) _ (k + 1) ((intsRow acc).take k ++ [.int .i64 (q : Int)]) (by rfl) ho6 _ 0 _ [] (by rfl) Rd.none_ (fun u hu => by cases hu) (by unfold maxLen; omega) (by omega) (by have := hb3.size; (try simp at this); (try simp at Z6); simp <;> omega) ?_; intro A7 c7 w7 ho7 hg7 hor7)
                refine hK.out _ _ ?_ (fun hHeld => ?_)
                · (try dsimp only); first | done | trivial
                clear hK K
                try simp only [Act.put, List.setIfInBounds_toArray, List.set_cons_zero, List.set_cons_succ, List.getElem_toArray, List.getElem_cons_succ, List.getElem_cons_zero]
                refine wpAnyH_take (i := 11) (v := ?_) rfl (by kernel_rfl) (by kernel_rfl) (by kernel_rfl) (fun _ _ _ h => h) (Or.inl ⟨by rfl, ?_⟩) (by assumption) ?_
                rotate_left
                · (intro w hSw; (try dsimp only at hSw); go_simp) <;> with_reducible rfl
                try simp only [Act.put, List.setIfInBounds_toArray, List.set_cons_zero, List.set_cons_succ, List.getElem_toArray, List.getElem_cons_succ, List.getElem_cons_zero]
                refine wpAnyH_done (by kernel_rfl) ?_ _
                have h6 : k + 1 + 0 = q + 1 := by omega
                rw [h6] at ho7
                have O7 := Lib.hid ho7
                have b7 : Below w.heap.size w w7 := b6.grown hg7 b6.size (fun g hg => Nat.le_trans hsz (by have := (World.ownsRow.lt ho6 g hg).1; first | exact this | (rw [World.size_alloc] at this; exact Nat.le_of_succ_le this)))
                obtain ⟨g7, cc, hv7, _, hg7lt⟩ := own_form O7.out (by omega)
                injection hv7 with hA7 hn7 hc7'
                subst hA7
                clear hn7 hc7' cc ho7 hor7 hg7 ho6 hor6 hg6 r6
                go_wp2
                try rw [h6]
                go_roundw
                case rel =>
                  refine ⟨q + 1, insAt acc k q, g7, c7, by omega, by go_num, rfl, by rw [orderBy, ← Hacc.out, Hpos.out], ?_, b7⟩
                  have h := O7.out
                  have h2 : ((intsRow acc).take k ++ [.int .i64 (q : Int)]) ++ [] = intsRow (insAt acc k q) := by rw [← intsRow_insAt, List.drop_of_length_le (l := intsRow acc) (by rw [intsRow_len]; omega)]
                  rw [h2] at h
                  first | exact own_base h hsz | exact own_base h (by simp <;> omega)
                case measure => simp [intOf]; omega
              · skip
                try dsimp only [List.getElem_toArray, List.getElem_cons_succ, List.getElem_cons_zero]
                go_simp
                refine hK.out _ _ ?_ (fun hHeld => ?_)
                · (try dsimp only); first | done | trivial
                clear hK K
                try simp only [Act.put, List.setIfInBounds_toArray, List.set_cons_zero, List.set_cons_succ, List.getElem_toArray, List.getElem_cons_succ, List.getElem_cons_zero]
                refine wpAnyH_ready (rs := [3]) (by kernel_rfl) (by simp) ?_
                refine AllReadyH.cons rfl (fun K hK => ?_) AllReadyH.nil
                try dsimp only [List.getElem_toArray, List.getElem_cons_succ, List.getElem_cons_zero]
                go_simp
                refine (specOwn_any _ (acc.take k) _ (by rw [show (acc.take k).length = k by rw [List.length_take]; omega, show intsRow (acc.take k) = (intsRow acc).take k by simp [intsRow, List.map_take]]; exact own_take ((own_drewN Ob.out _).alloc _) hk) (by rw [List.length_take]; omega)).mono ?_
                rw [show (acc.take k).length = k by rw [List.length_take]; omega, show intsRow (acc.take k) = (intsRow acc).take k by simp [intsRow, List.map_take]]
                rintro e w3 ⟨y3, rfl, ho3, hb3⟩
                have z3 : wr.heap.size ≤ w3.heap.size := by have := hb3.size; simp at this; omega
                obtain ⟨A3, c3, rfl, _, _⟩ := own_slice ho3
                have O3 := Lib.hid ho3
                clear ho3
                go_wp2_with fail
                refine hK.out _ _ ?_ (fun hHeld => ?_)
                · (try dsimp only); first | done | trivial
                clear hK K
                try simp only [Act.put, List.setIfInBounds_toArray, List.set_cons_zero, List.set_cons_succ, List.getElem_toArray, List.getElem_cons_succ, List.getElem_cons_zero]
                refine wpAnyH_ready (rs := [6]) (by kernel_rfl) (by simp) ?_
                refine AllReadyH.cons rfl (fun K hK => ?_) AllReadyH.nil
                (refine step_append_sl _ (by rfl) (.tmp 38) (.tmp 40) _ (by rfl) _ 2 j0 _ 1 8 Try.underlying59 hj hy0 hy1 hy2 rfl (by omega) _ k ((intsRow acc).take k) (by rfl) (O3.out) (some ⟨wr.heap.size, 0, none⟩) 1 1 [.int .i64 (q : Int)] (by rfl) (Rd.of_block (cs := #[.int .i64 (q : Int)]) ((hb3.block _ (by simp)).trans (heap_alloc_new _ _)) rfl) (by intro x hx; simp at hx; subst hx; rfl) (by unfold maxLen; omega) (by omega) (by have := hb3.size; (try simp at this); simp <;> omega) ?_; intro A6 c6 w6 ho6 hg6 hor6; have Z6 := hg6.size)
                refine hK.out _ _ ?_ (fun hHeld => ?_)
                · (try dsimp only); first | done | trivial
                clear hK K
                try simp only [Act.put, List.setIfInBounds_toArray, List.set_cons_zero, List.set_cons_succ, List.getElem_toArray, List.getElem_cons_succ, List.getElem_cons_zero]
                refine wpAnyH_ready (rs := [10]) (by kernel_rfl) (by simp) ?_
                refine AllReadyH.cons rfl (fun K hK => ?_) AllReadyH.nil
                have b3 : Below w.heap.size w w3 := ((below_drewN hb _).alloc (by simp; omega) _).trans (hb3.mono (by simp; omega))
                have r6 : ∀ (A : Option Addr), (k < q → A = some ⟨g9, k, none⟩) → Rd w6 w6.heap.size 1 A (q - k) ((intsRow acc).drop k) := fun A hA => (((Rd.below (Rd.alloc (Rd.drewN0 (HRD.out A hA) _) (Nat.le_refl _) _) hb3 (by rw [World.size_alloc]; exact Nat.le_succ _))).grown hg6 (by have := z3; simp <;> omega) (fun g hg => (by have h := (World.ownsRow.lt O3.out g hg).1; rw [World.size_alloc] at h; exact Nat.le_of_succ_le h))).more (by have := z3; (try simp at Z6); omega)
                have b6 : Below w.heap.size w w6 := b3.grown hg6 b3.size (fun g hg => Nat.le_trans hsz (by have h := (World.ownsRow.lt O3.out g hg).1; rw [World.size_alloc] at h; exact Nat.le_of_succ_le h))
                (refine step_append_sl _ (by rfl) (.tmp 41) (.tmp 44) _ (by rfl) _ 2 j0 _ 1 8 Try.underlying59 hj hy0 hy1 hy2 rfl (by omega) _ (k + 1) ((intsRow acc).take k ++ [.int .i64 (q : Int)]) (by rfl) ho6 _ 0 _ [] (by rfl) Rd.none_ (fun u hu => by cases hu) (by unfold maxLen; omega) (by omega) (by have := hb3.size; (try simp at this); (try simp at Z6); simp <;> omega) ?_; intro A7 c7 w7 ho7 hg7 hor7)
                refine hK.out _ _ ?_ (fun hHeld => ?_)
                · (try dsimp only); first | done | trivial
                clear hK K
                try simp only [Act.put, List.setIfInBounds_toArray, List.set_cons_zero, List.set_cons_succ, List.getElem_toArray, List.getElem_cons_succ, List.getElem_cons_zero]
                refine wpAnyH_take (i := 11) (v := ?_) rfl (by kernel_rfl) (by kernel_rfl) (by kernel_rfl) (fun _ _ _ h => h) (Or.inl ⟨by rfl, ?_⟩) (by assumption) ?_
                rotate_left
                · (intro w hSw; (try dsimp only at hSw); go_simp) <;> with_reducible rfl
                try simp only [Act.put, List.setIfInBounds_toArray, List.set_cons_zero, List.set_cons_succ, List.getElem_toArray, List.getElem_cons_succ, List.getElem_cons_zero]
                refine wpAnyH_done (by kernel_rfl) ?_ _
                have h6 : k + 1 + 0 = q + 1 := by omega
                rw [h6] at ho7
                have O7 := Lib.hid ho7
                have b7 : Below w.heap.size w w7 := b6.grown hg7 b6.size (fun g hg => Nat.le_trans hsz (by have := (World.ownsRow.lt ho6 g hg).1; first | exact this | (rw [World.size_alloc] at this; exact Nat.le_of_succ_le this)))
                obtain ⟨g7, cc, hv7, _, hg7lt⟩ := own_form O7.out (by omega)
                injection hv7 with hA7 hn7 hc7'
                subst hA7
                clear hn7 hc7' cc ho7 hor7 hg7 ho6 hor6 hg6 r6
                go_wp2
                try rw [h6]
                go_roundw
                case rel =>
                  refine ⟨q + 1, insAt acc k q, g7, c7, by omega, by go_num, rfl, by rw [orderBy, ← Hacc.out, Hpos.out], ?_, b7⟩
                  have h := O7.out
                  have h2 : ((intsRow acc).take k ++ [.int .i64 (q : Int)]) ++ [] = intsRow (insAt acc k q) := by rw [← intsRow_insAt, List.drop_of_length_le (l := intsRow acc) (by rw [intsRow_len]; omega)]
                  rw [h2] at h
                  first | exact own_base h hsz | exact own_base h (by simp <;> omega)
                case measure => simp [intOf]; omega
            · skip
              go_wp2
              refine wp_region_held_drew (S := (fun _ => True)) (by kernel_rfl) ?_ (fun hHeld => ?_)
              · (try dsimp only); first | done | trivial
              refine wpAnyH_take (i := 0) (v := ?_) rfl (by kernel_rfl) (by kernel_rfl) (by kernel_rfl) (fun _ _ _ h => h) (Or.inl ⟨by rfl, ?_⟩) (by assumption) ?_
              rotate_left
              · (intro w hSw; (try dsimp only at hSw); go_simp) <;> with_reducible rfl
              try simp only [Act.put, List.setIfInBounds_toArray, List.set_cons_zero, List.set_cons_succ, List.getElem_toArray, List.getElem_cons_succ, List.getElem_cons_zero]
              refine wpAnyH_take (i := 1) (v := ?_) rfl (by kernel_rfl) (by kernel_rfl) (by kernel_rfl) (fun _ _ _ h => h) (Or.inl ⟨by rfl, ?_⟩) (by assumption) ?_
              rotate_left
              · (intro w hSw; (try dsimp only at hSw); go_simp) <;> with_reducible rfl
              try simp only [Act.put, List.setIfInBounds_toArray, List.set_cons_zero, List.set_cons_succ, List.getElem_toArray, List.getElem_cons_succ, List.getElem_cons_zero]
              refine wpAnyH_take (i := 2) (v := ?_) rfl (by kernel_rfl) (by kernel_rfl) (by kernel_rfl) (fun _ _ _ h => h) (Or.inl ⟨by rfl, ?_⟩) (by assumption) ?_
              rotate_left
              · (intro w hSw; (try dsimp only at hSw); go_simp) <;> with_reducible rfl
              try simp only [Act.put, List.setIfInBounds_toArray, List.set_cons_zero, List.set_cons_succ, List.getElem_toArray, List.getElem_cons_succ, List.getElem_cons_zero]
              refine wpAnyH_take (i := 4) (v := ?_) rfl (by kernel_rfl) (by kernel_rfl) (by kernel_rfl) (fun _ _ _ h => h) (Or.inl ⟨by rfl, ?_⟩) (by assumption) ?_
              rotate_left
              · (intro w hSw; (try dsimp only at hSw); go_simp) <;> with_reducible rfl
              try simp only [Act.put, List.setIfInBounds_toArray, List.set_cons_zero, List.set_cons_succ, List.getElem_toArray, List.getElem_cons_succ, List.getElem_cons_zero]
              refine wpAnyH_take (i := 7) (v := ?_) rfl (by kernel_rfl) (by kernel_rfl) (by kernel_rfl) (fun _ _ _ h => h) (Or.inl ⟨by rfl, ?_⟩) (by assumption) ?_
              rotate_left
              · (intro w hSw; (try dsimp only at hSw); go_simp) <;> with_reducible rfl
              try simp only [Act.put, List.setIfInBounds_toArray, List.set_cons_zero, List.set_cons_succ, List.getElem_toArray, List.getElem_cons_succ, List.getElem_cons_zero]
              refine wpAnyH_take (i := 8) (v := ?_) rfl (by kernel_rfl) (by kernel_rfl) (by kernel_rfl) (fun _ _ _ h => h) (Or.inl ⟨by rfl, ?_⟩) (by assumption) ?_
              rotate_left
              · (intro w hSw; (try dsimp only at hSw); go_simp) <;> with_reducible rfl
              try simp only [Act.put, List.setIfInBounds_toArray, List.set_cons_zero, List.set_cons_succ, List.getElem_toArray, List.getElem_cons_succ, List.getElem_cons_zero]
              refine wpAnyH_take (i := 9) (v := ?_) rfl (by kernel_rfl) (by kernel_rfl) (by kernel_rfl) (fun _ _ _ h => h) (Or.inl ⟨by rfl, ?_⟩) (by assumption) ?_
              rotate_left
              · (intro w hSw; (try dsimp only at hSw); go_simp) <;> with_reducible rfl
              try simp only [Act.put, List.setIfInBounds_toArray, List.set_cons_zero, List.set_cons_succ, List.getElem_toArray, List.getElem_cons_succ, List.getElem_cons_zero]
              refine wpAnyH_ready (rs := [3, 5]) (by kernel_rfl) (by simp) ?_
              refine (AllReadyH.cons rfl (fun K hK => ?_) (AllReadyH.cons rfl (fun K hK => ?_) AllReadyH.nil))
              · skip
                try dsimp only [List.getElem_toArray, List.getElem_cons_succ, List.getElem_cons_zero]
                go_simp
                refine (specOwn_any _ (acc.take k) _ (by rw [show (acc.take k).length = k by rw [List.length_take]; omega, show intsRow (acc.take k) = (intsRow acc).take k by simp [intsRow, List.map_take]]; exact own_take (own_drewN Ob.out _) hk) (by rw [List.length_take]; omega)).mono ?_
                rw [show (acc.take k).length = k by rw [List.length_take]; omega, show intsRow (acc.take k) = (intsRow acc).take k by simp [intsRow, List.map_take]]
                rintro e w3 ⟨y3, rfl, ho3, hb3⟩
                have z3 : wr.heap.size ≤ w3.heap.size := by have := hb3.size; simp at this; omega
                obtain ⟨A3, c3, rfl, _, _⟩ := own_slice ho3
                have O3 := Lib.hid ho3
                clear ho3
                go_wp2_with fail
                refine hK.out _ _ ?_ (fun hHeld => ?_)
                · (try dsimp only); first | done | trivial
                clear hK K
                try simp only [Act.put, List.setIfInBounds_toArray, List.set_cons_zero, List.set_cons_succ, List.getElem_toArray, List.getElem_cons_succ, List.getElem_cons_zero]
                refine wpAnyH_ready (rs := [5]) (by kernel_rfl) (by simp) ?_
                refine AllReadyH.cons rfl (fun K hK => ?_) AllReadyH.nil
                try dsimp only [List.getElem_toArray, List.getElem_cons_succ, List.getElem_cons_zero]
                go_simp
                refine hK.out _ _ ?_ (fun hHeld => ?_)
                · (try dsimp only); first | done | trivial
                clear hK K
                try simp only [Act.put, List.setIfInBounds_toArray, List.set_cons_zero, List.set_cons_succ, List.getElem_toArray, List.getElem_cons_succ, List.getElem_cons_zero]
                refine wpAnyH_ready (rs := [6]) (by kernel_rfl) (by simp) ?_
                refine AllReadyH.cons rfl (fun K hK => ?_) AllReadyH.nil
                (refine step_append_sl _ (by rfl) (.tmp 38) (.tmp 40) _ (by rfl) _ 2 j0 _ 1 8 Try.underlying59 hj hy0 hy1 hy2 rfl (by omega) _ k ((intsRow acc).take k) (by rfl) (O3.out.alloc _) (some ⟨w3.heap.size, 0, none⟩) 1 1 [.int .i64 (q : Int)] (by rfl) (Rd.of_block (cs := #[.int .i64 (q : Int)]) (heap_alloc_new _ _) rfl) (by intro x hx; simp at hx; subst hx; rfl) (by unfold maxLen; omega) (by omega) (by have := hb3.size; (try simp at this); simp <;> omega) ?_; intro A6 c6 w6 ho6 hg6 hor6; have Z6 := hg6.size)
                refine hK.out _ _ ?_ (fun hHeld => ?_)
                · (try dsimp only); first | done | trivial
                clear hK K
                try simp only [Act.put, List.setIfInBounds_toArray, List.set_cons_zero, List.set_cons_succ, List.getElem_toArray, List.getElem_cons_succ, List.getElem_cons_zero]
                refine wpAnyH_ready (rs := [10]) (by kernel_rfl) (by simp) ?_
                refine AllReadyH.cons rfl (fun K hK => ?_) AllReadyH.nil
                have b3 : Below w.heap.size w w3 := (below_drewN hb _).trans (hb3.mono (by simp; omega))
                have r6 : ∀ (A : Option Addr), (k < q → A = some ⟨g9, k, none⟩) → Rd w6 w6.heap.size 1 A (q - k) ((intsRow acc).drop k) := fun A hA => ((((Rd.below (Rd.drewN0 (HRD.out A hA) _) hb3 (Nat.le_refl _)).alloc z3 _)).grown hg6 (by have := z3; simp <;> omega) (fun g hg => (show wr.heap.size ≤ g from (World.ownsRow.lt O3.out g hg).1))).more (by have := z3; (try simp at Z6); omega)
                have b6 : Below w.heap.size w w6 := (b3.alloc b3.size _).grown hg6 (by have := b3.size; simp <;> omega) (fun g hg => Nat.le_trans hsz (show wr.heap.size ≤ g from (World.ownsRow.lt O3.out g hg).1))
                (refine step_append_sl _ (by rfl) (.tmp 41) (.tmp 44) _ (by rfl) _ 2 j0 _ 1 8 Try.underlying59 hj hy0 hy1 hy2 rfl (by omega) _ (k + 1) ((intsRow acc).take k ++ [.int .i64 (q : Int)]) (by rfl) ho6 _ (q - k) _ ((intsRow acc).drop k) (by rfl) (by exact r6 _ (fun h => by first | rfl | exact if_neg (by omega) | (exfalso; omega))) (fun u hu => intsRow_one acc u (List.mem_of_mem_drop hu)) (by unfold maxLen; omega) (by omega) (by have := hb3.size; (try simp at this); (try simp at Z6); simp <;> omega) ?_; intro A7 c7 w7 ho7 hg7 hor7)
                refine hK.out _ _ ?_ (fun hHeld => ?_)
                · (try dsimp only); first | done | trivial
                clear hK K
                try simp only [Act.put, List.setIfInBounds_toArray, List.set_cons_zero, List.set_cons_succ, List.getElem_toArray, List.getElem_cons_succ, List.getElem_cons_zero]
                refine wpAnyH_take (i := 11) (v := ?_) rfl (by kernel_rfl) (by kernel_rfl) (by kernel_rfl) (fun _ _ _ h => h) (Or.inl ⟨by rfl, ?_⟩) (by assumption) ?_
                rotate_left
                · (intro w hSw; (try dsimp only at hSw); go_simp) <;> with_reducible rfl
                try simp only [Act.put, List.setIfInBounds_toArray, List.set_cons_zero, List.set_cons_succ, List.getElem_toArray, List.getElem_cons_succ, List.getElem_cons_zero]
                refine wpAnyH_done (by kernel_rfl) ?_ _
                have h6 : k + 1 + (q - k) = q + 1 := by omega
                rw [h6] at ho7
                have O7 := Lib.hid ho7
                have b7 : Below w.heap.size w w7 := b6.grown hg7 b6.size (fun g hg => Nat.le_trans hsz (by have := (World.ownsRow.lt ho6 g hg).1; first | exact this | (rw [World.size_alloc] at this; exact Nat.le_of_succ_le this)))
                obtain ⟨g7, cc, hv7, _, hg7lt⟩ := own_form O7.out (by omega)
                injection hv7 with hA7 hn7 hc7'
                subst hA7
                clear hn7 hc7' cc ho7 hor7 hg7 ho6 hor6 hg6 r6
                go_wp2
                try rw [h6]
                go_roundw
                case rel =>
                  refine ⟨q + 1, insAt acc k q, g7, c7, by omega, by go_num, rfl, by rw [orderBy, ← Hacc.out, Hpos.out], ?_, b7⟩
                  have h := O7.out
                  rw [intsRow_insAt] at h
                  first | exact own_base h hsz | exact own_base h (by simp <;> omega)
                case measure => simp [intOf]; omega
              · skip
                try dsimp only [List.getElem_toArray, List.getElem_cons_succ, List.getElem_cons_zero]
                go_simp
                refine hK.out _ _ ?_ (fun hHeld => ?_)
                · (try dsimp only); first | done | trivial
                clear hK K
                try simp only [Act.put, List.setIfInBounds_toArray, List.set_cons_zero, List.set_cons_succ, List.getElem_toArray, List.getElem_cons_succ, List.getElem_cons_zero]
                refine wpAnyH_ready (rs := [3]) (by kernel_rfl) (by simp) ?_
                refine AllReadyH.cons rfl (fun K hK => ?_) AllReadyH.nil
                try dsimp only [List.getElem_toArray, List.getElem_cons_succ, List.getElem_cons_zero]
                go_simp
                refine (specOwn_any _ (acc.take k) _ (by rw [show (acc.take k).length = k by rw [List.length_take]; omega, show intsRow (acc.take k) = (intsRow acc).take k by simp [intsRow, List.map_take]]; exact own_take ((own_drewN Ob.out _).alloc _) hk) (by rw [List.length_take]; omega)).mono ?_
                rw [show (acc.take k).length = k by rw [List.length_take]; omega, show intsRow (acc.take k) = (intsRow acc).take k by simp [intsRow, List.map_take]]
                rintro e w3 ⟨y3, rfl, ho3, hb3⟩
                have z3 : wr.heap.size ≤ w3.heap.size := by have := hb3.size; simp at this; omega
                obtain ⟨A3, c3, rfl, _, _⟩ := own_slice ho3
                have O3 := Lib.hid ho3
                clear ho3
                go_wp2_with fail
                refine hK.out _ _ ?_ (fun hHeld => ?_)
                · (try dsimp only); first | done | trivial
                clear hK K
                try simp only [Act.put, List.setIfInBounds_toArray, List.set_cons_zero, List.set_cons_succ, List.getElem_toArray, List.getElem_cons_succ, List.getElem_cons_zero]
                refine wpAnyH_ready (rs := [6]) (by kernel_rfl) (by simp) ?_
                refine AllReadyH.cons rfl (fun K hK => ?_) AllReadyH.nil
                (refine step_append_sl _ (by rfl) (.tmp 38) (.tmp 40) _ (by rfl) _ 2 j0 _ 1 8 Try.underlying59 hj hy0 hy1 hy2 rfl (by omega) _ k ((intsRow acc).take k) (by rfl) (O3.out) (some ⟨wr.heap.size, 0, none⟩) 1 1 [.int .i64 (q : Int)] (by rfl) (Rd.of_block (cs := #[.int .i64 (q : Int)]) ((hb3.block _ (by simp)).trans (heap_alloc_new _ _)) rfl) (by intro x hx; simp at hx; subst hx; rfl) (by unfold maxLen; omega) (by omega) (by have := hb3.size; (try simp at this); simp <;> omega) ?_; intro A6 c6 w6 ho6 hg6 hor6; have Z6 := hg6.size)
                refine hK.out _ _ ?_ (fun hHeld => ?_)
                · (try dsimp only); first | done | trivial
                clear hK K
                try simp only [Act.put, List.setIfInBounds_toArray, List.set_cons_zero, List.set_cons_succ, List.getElem_toArray, List.getElem_cons_succ, List.getElem_cons_zero]
                refine wpAnyH_ready (rs := [10]) (by kernel_rfl) (by simp) ?_
                refine AllReadyH.cons rfl (fun K hK => ?_) AllReadyH.nil
                have b3 : Below w.heap.size w w3 := ((below_drewN hb _).alloc (by simp; omega) _).trans (hb3.mono (by simp; omega))
                have r6 : ∀ (A : Option Addr), (k < q → A = some ⟨g9, k, none⟩) → Rd w6 w6.heap.size 1 A (q - k) ((intsRow acc).drop k) := fun A hA => (((Rd.below (Rd.alloc (Rd.drewN0 (HRD.out A hA) _) (Nat.le_refl _) _) hb3 (by rw [World.size_alloc]; exact Nat.le_succ _))).grown hg6 (by have := z3; simp <;> omega) (fun g hg => (by have h := (World.ownsRow.lt O3.out g hg).1; rw [World.size_alloc] at h; exact Nat.le_of_succ_le h))).more (by have := z3; (try simp at Z6); omega)
                have b6 : Below w.heap.size w w6 := b3.grown hg6 b3.size (fun g hg => Nat.le_trans hsz (by have h := (World.ownsRow.lt O3.out g hg).1; rw [World.size_alloc] at h; exact Nat.le_of_succ_le h))
                (refine step_append_sl _ (by rfl) (.tmp 41) (.tmp 44) _ (by rfl) _ 2 j0 _ 1 8 Try.underlying59 hj hy0 hy1 hy2 rfl (by omega) _ (k + 1) ((intsRow acc).take k ++ [.int .i64 (q : Int)]) (by rfl) ho6 _ (q - k) _ ((intsRow acc).drop k) (by rfl) (by exact r6 _ (fun h => by first | rfl | exact if_neg (by omega) | (exfalso; omega))) (fun u hu => intsRow_one acc u (List.mem_of_mem_drop hu)) (by unfold maxLen; omega) (by omega) (by have := hb3.size; (try simp at this); (try simp at Z6); simp <;> omega) ?_; intro A7 c7 w7 ho7 hg7 hor7)
                refine hK.out _ _ ?_ (fun hHeld => ?_)
                · (try dsimp only); first | done | trivial
                clear hK K
                try simp only [Act.put, List.setIfInBounds_toArray, List.set_cons_zero, List.set_cons_succ, List.getElem_toArray, List.getElem_cons_succ, List.getElem_cons_zero]
                refine wpAnyH_take (i := 11) (v := ?_) rfl (by kernel_rfl) (by kernel_rfl) (by kernel_rfl) (fun _ _ _ h => h) (Or.inl ⟨by rfl, ?_⟩) (by assumption) ?_
                rotate_left
                · (intro w hSw; (try dsimp only at hSw); go_simp) <;> with_reducible rfl
                try simp only [Act.put, List.setIfInBounds_toArray, List.set_cons_zero, List.set_cons_succ, List.getElem_toArray, List.getElem_cons_succ, List.getElem_cons_zero]
                refine wpAnyH_done (by kernel_rfl) ?_ _
                have h6 : k + 1 + (q - k) = q + 1 := by omega
                rw [h6] at ho7
                have O7 := Lib.hid ho7
                have b7 : Below w.heap.size w w7 := b6.grown hg7 b6.size (fun g hg => Nat.le_trans hsz (by have := (World.ownsRow.lt ho6 g hg).1; first | exact this | (rw [World.size_alloc] at this; exact Nat.le_of_succ_le this)))
                obtain ⟨g7, cc, hv7, _, hg7lt⟩ := own_form O7.out (by omega)
                injection hv7 with hA7 hn7 hc7'
                subst hA7
                clear hn7 hc7' cc ho7 hor7 hg7 ho6 hor6 hg6 r6
                go_wp2
                try rw [h6]
                go_roundw
                case rel =>
                  refine ⟨q + 1, insAt acc k q, g7, c7, by omega, by go_num, rfl, by rw [orderBy, ← Hacc.out, Hpos.out], ?_, b7⟩
                  have h := O7.out
                  rw [intsRow_insAt] at h
                  first | exact own_base h hsz | exact own_base h (by simp <;> omega)
                case measure => simp [intOf]; omega
        · have hkk : k = q := by omega
          have t0 : decide ((k : Int) < (q : Int)) = false := by simp; omega
          have t1 : decide (k < q) = false := by simp; omega
          have HK := Lib.hid hkk
          clear hkk
          go_wp2
          go_quiet (fail)
          have Hpos := Lib.hid (show posOf (dayKey L) acc (dayKey L q) = k by rw [Hacc.out]; exact posOf_up hk (fun j h1 => by rw [← Hacc.out]; exact Hall.out j h1) (.inl HK.out))
          have hkq : (k : Int) ≤ (q : Int) := by omega
          have hkc : k ≤ co := by omega
          have HRD := Lib.hid (fun (A : Option Addr) (hA : k < q → A = some ⟨g9, k, none⟩) => own_drop Ob.out hk hA)
          clear e1
          by_cases hcap : co = k
          · have hcap2 := hcap.symm
            subst hcap2
            go_wp2
            refine wp_region_held_drew (S := (fun _ => True)) (by kernel_rfl) ?_ (fun hHeld => ?_)
            · (try dsimp only); first | done | trivial
            refine wpAnyH_take (i := 0) (v := ?_) rfl (by kernel_rfl) (by kernel_rfl) (by kernel_rfl) (fun _ _ _ h => h) (Or.inl ⟨by rfl, ?_⟩) (by assumption) ?_
            rotate_left
            · (intro w hSw; (try dsimp only at hSw); go_simp) <;> with_reducible rfl
            try simp only [Act.put, List.setIfInBounds_toArray, List.set_cons_zero, List.set_cons_succ, List.getElem_toArray, List.getElem_cons_succ, List.getElem_cons_zero]
            refine wpAnyH_take (i := 1) (v := ?_) rfl (by kernel_rfl) (by kernel_rfl) (by kernel_rfl) (fun _ _ _ h => h) (Or.inl ⟨by rfl, ?_⟩) (by assumption) ?_
            rotate_left
            · (intro w hSw; (try dsimp only at hSw); go_simp) <;> with_reducible rfl
            try simp only [Act.put, List.setIfInBounds_toArray, List.set_cons_zero, List.set_cons_succ, List.getElem_toArray, List.getElem_cons_succ, List.getElem_cons_zero]
            refine wpAnyH_take (i := 2) (v := ?_) rfl (by kernel_rfl) (by kernel_rfl) (by kernel_rfl) (fun _ _ _ h => h) (Or.inl ⟨by rfl, ?_⟩) (by assumption) ?_
            rotate_left
            · (intro w hSw; (try dsimp only at hSw); go_simp) <;> with_reducible rfl
            try simp only [Act.put, List.setIfInBounds_toArray, List.set_cons_zero, List.set_cons_succ, List.getElem_toArray, List.getElem_cons_succ, List.getElem_cons_zero]
            refine wpAnyH_take (i := 4) (v := ?_) rfl (by kernel_rfl) (by kernel_rfl) (by kernel_rfl) (fun _ _ _ h => h) (Or.inl ⟨by rfl, ?_⟩) (by assumption) ?_
            rotate_left
            · (intro w hSw; (try dsimp only at hSw); go_simp) <;> with_reducible rfl
            try simp only [Act.put, List.setIfInBounds_toArray, List.set_cons_zero, List.set_cons_succ, List.getElem_toArray, List.getElem_cons_succ, List.getElem_cons_zero]
            refine wpAnyH_take (i := 7) (v := ?_) rfl (by kernel_rfl) (by kernel_rfl) (by kernel_rfl) (fun _ _ _ h => h) (Or.inl ⟨by rfl, ?_⟩) (by assumption) ?_
            rotate_left
            · (intro w hSw; (try dsimp only at hSw); go_simp) <;> with_reducible rfl
            try simp only [Act.put, List.setIfInBounds_toArray, List.set_cons_zero, List.set_cons_succ, List.getElem_toArray, List.getElem_cons_succ, List.getElem_cons_zero]
            refine wpAnyH_take (i := 8) (v := ?_) rfl (by kernel_rfl) (by kernel_rfl) (by kernel_rfl) (fun _ _ _ h => h) (Or.inl ⟨by rfl, ?_⟩) (by assumption) ?_
            rotate_left
            · (intro w hSw; (try dsimp only at hSw); go_simp) <;> with_reducible rfl
            try simp only [Act.put, List.setIfInBounds_toArray, List.set_cons_zero, List.set_cons_succ, List.getElem_toArray, List.getElem_cons_succ, List.getElem_cons_zero]
            refine wpAnyH_take (i := 9) (v := ?_) rfl (by kernel_rfl) (by kernel_rfl) (by kernel_rfl) (fun _ _ _ h => h) (Or.inl ⟨by rfl, ?_⟩) (by assumption) ?_
            rotate_left
            · (intro w hSw; (try dsimp only at hSw); go_simp) <;> with_reducible rfl
            try simp only [Act.put, List.setIfInBounds_toArray, List.set_cons_zero, List.set_cons_succ, List.getElem_toArray, List.getElem_cons_succ, List.getElem_cons_zero]
            refine wpAnyH_ready (rs := [3, 5]) (by kernel_rfl) (by simp) ?_
            refine (AllReadyH.cons rfl (fun K hK => ?_) (AllReadyH.cons rfl (fun K hK => ?_) AllReadyH.nil))
            · skip
              try dsimp only [List.getElem_toArray, List.getElem_cons_succ, List.getElem_cons_zero]
              go_simp
              refine (specOwn_any _ (acc.take k) _ (by rw [show (acc.take k).length = k by rw [List.length_take]; omega, show intsRow (acc.take k) = (intsRow acc).take k by simp [intsRow, List.map_take]]; exact own_take (own_drewN Ob.out _) hk) (by rw [List.length_take]; omega)).mono ?_
              rw [show (acc.take k).length = k by rw [List.length_take]; omega, show intsRow (acc.take k) = (intsRow acc).take k by simp [intsRow, List.map_take]]
              rintro e w3 ⟨y3, rfl, ho3, hb3⟩
              have z3 : wr.heap.size ≤ w3.heap.size := by have := hb3.size; simp at this; omega
              obtain ⟨A3, c3, rfl, _, _⟩ := own_slice ho3
              have O3 := Lib.hid ho3
              clear ho3
              go_wp2_with fail
              refine hK.out _ _ ?_ (fun hHeld => ?_)
              · (try dsimp only); first | done | trivial
              clear hK K
              try simp only [Act.put, List.setIfInBounds_toArray, List.set_cons_zero, List.set_cons_succ, List.getElem_toArray, List.getElem_cons_succ, List.getElem_cons_zero]
              refine wpAnyH_ready (rs := [5]) (by kernel_rfl) (by simp) ?_
              refine AllReadyH.cons rfl (fun K hK => ?_) AllReadyH.nil
              try dsimp only [List.getElem_toArray, List.getElem_cons_succ, List.getElem_cons_zero]
              go_simp
              refine hK.out _ _ ?_ (fun hHeld => ?_)
              · (try dsimp only); first | done | trivial
              clear hK K
              try simp only [Act.put, List.setIfInBounds_toArray, List.set_cons_zero, List.set_cons_succ, List.getElem_toArray, List.getElem_cons_succ, List.getElem_cons_zero]
              refine wpAnyH_ready (rs := [6]) (by kernel_rfl) (by simp) ?_
              refine AllReadyH.cons rfl (fun K hK => ?_) AllReadyH.nil
              (refine step_append_sl _ (by rfl) (.tmp 38) (.tmp 40) _ (by rfl) _ 2 j0 _ 1 8 Try.underlying59 hj hy0 hy1 hy2 rfl (by omega) _ k ((intsRow acc).take k) (by rfl) (O3.out.alloc _) (some ⟨w3.heap.size, 0, none⟩) 1 1 [.int .i64 (q : Int)] (by rfl) (Rd.of_block (cs := #[.int .i64 (q : Int)]) (heap_alloc_new _ _) rfl) (by intro x hx; simp at hx; subst hx; rfl) (by unfold maxLen; omega) (by omega) (by have := hb3.size; (try simp at this); simp <;> omega) ?_; intro A6 c6 w6 ho6 hg6 hor6; have Z6 := hg6.size)
              refine hK.out _ _ ?_ (fun hHeld => ?_)
              · (try dsimp only); first | done | trivial
              clear hK K
              try simp only [Act.put, List.setIfInBounds_toArray, List.set_cons_zero, List.set_cons_succ, List.getElem_toArray, List.getElem_cons_succ, List.getElem_cons_zero]
              refine wpAnyH_ready (rs := [10]) (by kernel_rfl) (by simp) ?_
              refine AllReadyH.cons rfl (fun K hK => ?_) AllReadyH.nil
              have b3 : Below w.heap.size w w3 := (below_drewN hb _).trans (hb3.mono (by simp; omega))
              have r6 : ∀ (A : Option Addr), (k < q → A = some ⟨g9, k, none⟩) → Rd w6 w6.heap.size 1 A (q - k) ((intsRow acc).drop k) := fun A hA => ((((Rd.below (Rd.drewN0 (HRD.out A hA) _) hb3 (Nat.le_refl _)).alloc z3 _)).grown hg6 (by have := z3; simp <;> omega) (fun g hg => (show wr.heap.size ≤ g from (World.ownsRow.lt O3.out g hg).1))).more (by have := z3; (try simp at Z6); omega)
              have b6 : Below w.heap.size w w6 := (b3.alloc b3.size _).grown hg6 (by have := b3.size; simp <;> omega) (fun g hg => Nat.le_trans hsz (show wr.heap.size ≤ g from (World.ownsRow.lt O3.out g hg).1))
              (refine step_append_sl _ (by rfl) (.tmp 41) (.tmp 44) _ (by rfl) _ 2 j0 _ 1 8 Try.underlying59 hj hy0 hy1 hy2 rfl (by omega) _ (k + 1) ((intsRow acc).take k ++ [.int .i64 (q : Int)]) (by rfl) ho6 _ 0 _ [] (by rfl) Rd.none_ (fun u hu => by cases hu) (by unfold maxLen; omega) (by omega) (by have := hb3.size; (try simp at this); (try simp at Z6); simp <;> omega) ?_; intro A7 c7 w7 ho7 hg7 hor7)
              refine hK.out _ _ ?_ (fun hHeld => ?_)
              · (try dsimp only); first | done | trivial
              clear hK K
              try simp only [Act.put, List.setIfInBounds_toArray, List.set_cons_zero, List.set_cons_succ, List.getElem_toArray, List.getElem_cons_succ, List.getElem_cons_zero]
              refine wpAnyH_take (i := 11) (v := ?_) rfl (by kernel_rfl) (by kernel_rfl) (by kernel_rfl) (fun _ _ _ h => h) (Or.inl ⟨by rfl, ?_⟩) (by assumption) ?_
              rotate_left
              · (intro w hSw; (try dsimp only at hSw); go_simp) <;> with_reducible rfl
              try simp only [Act.put, List.setIfInBounds_toArray, List.set_cons_zero, List.set_cons_succ, List.getElem_toArray, List.getElem_cons_succ, List.getElem_cons_zero]
              refine wpAnyH_done (by kernel_rfl) ?_ _
              have h6 : k + 1 + 0 = q + 1 := by omega
              rw [h6] at ho7
              have O7 := Lib.hid ho7
              have b7 : Below w.heap.size w w7 := b6.grown hg7 b6.size (fun g hg => Nat.le_trans hsz (by have := (World.ownsRow.lt ho6 g hg).1; first | exact this | (rw [World.size_alloc] at this; exact Nat.le_of_succ_le this)))
              obtain ⟨g7, cc, hv7, _, hg7lt⟩ := own_form O7.out (by omega)
              injection hv7 with hA7 hn7 hc7'
              subst hA7
              clear hn7 hc7' cc ho7 hor7 hg7 ho6 hor6 hg6 r6
              go_wp2
              try rw [h6]
              go_roundw
              case rel =>
                refine ⟨q + 1, insAt acc k q, g7, c7, by omega, by go_num, rfl, by rw [orderBy, ← Hacc.out, Hpos.out], ?_, b7⟩
                have h := O7.out
                have h2 : ((intsRow acc).take k ++ [.int .i64 (q : Int)]) ++ [] = intsRow (insAt acc k q) := by rw [← intsRow_insAt, List.drop_of_length_le (l := intsRow acc) (by rw [intsRow_len]; omega)]
                rw [h2] at h
                first | exact own_base h hsz | exact own_base h (by simp <;> omega)
              case measure => simp [intOf]; omega
            · skip
              try dsimp only [List.getElem_toArray, List.getElem_cons_succ, List.getElem_cons_zero]
              go_simp
              refine hK.out _ _ ?_ (fun hHeld => ?_)
              · (try dsimp only); first | done | trivial
              clear hK K
              try simp only [Act.put, List.setIfInBounds_toArray, List.set_cons_zero, List.set_cons_succ, List.getElem_toArray, List.getElem_cons_succ, List.getElem_cons_zero]
              refine wpAnyH_ready (rs := [3]) (by kernel_rfl) (by simp) ?_
              refine AllReadyH.cons rfl (fun K hK => ?_) AllReadyH.nil
              try dsimp only [List.getElem_toArray, List.getElem_cons_succ, List.getElem_cons_zero]
              go_simp
              refine (specOwn_any _ (acc.take k) _ (by rw [show (acc.take k).length = k by rw [List.length_take]; omega, show intsRow (acc.take k) = (intsRow acc).take k by simp [intsRow, List.map_take]]; exact own_take ((own_drewN Ob.out _).alloc _) hk) (by rw [List.length_take]; omega)).mono ?_
              rw [show (acc.take k).length = k by rw [List.length_take]; omega, show intsRow (acc.take k) = (intsRow acc).take k by simp [intsRow, List.map_take]]
              rintro e w3 ⟨y3, rfl, ho3, hb3⟩
              have z3 : wr.heap.size ≤ w3.heap.size := by have := hb3.size; simp at this; omega
              obtain ⟨A3, c3, rfl, _, _⟩ := own_slice ho3
              have O3 := Lib.hid ho3
              clear ho3
              go_wp2_with fail
              refine hK.out _ _ ?_ (fun hHeld => ?_)
              · (try dsimp only); first | done | trivial
              clear hK K
              try simp only [Act.put, List.setIfInBounds_toArray, List.set_cons_zero, List.set_cons_succ, List.getElem_toArray, List.getElem_cons_succ, List.getElem_cons_zero]
              refine wpAnyH_ready (rs := [6]) (by kernel_rfl) (by simp) ?_
              refine AllReadyH.cons rfl (fun K hK => ?_) AllReadyH.nil
              (refine step_append_sl _ (by rfl) (.tmp 38) (.tmp 40) _ (by rfl) _ 2 j0 _ 1 8 Try.underlying59 hj hy0 hy1 hy2 rfl (by omega) _ k ((intsRow acc).take k) (by rfl) (O3.out) (some ⟨wr.heap.size, 0, none⟩) 1 1 [.int .i64 (q : Int)] (by rfl) (Rd.of_block (cs := #[.int .i64 (q : Int)]) ((hb3.block _ (by simp)).trans (heap_alloc_new _ _)) rfl) (by intro x hx; simp at hx; subst hx; rfl) (by unfold maxLen; omega) (by omega) (by have := hb3.size; (try simp at this); simp <;> omega) ?_; intro A6 c6 w6 ho6 hg6 hor6; have Z6 := hg6.size)
              refine hK.out _ _ ?_ (fun hHeld => ?_)
              · (try dsimp only); first | done | trivial
              clear hK K
              try simp only [Act.put, List.setIfInBounds_toArray, List.set_cons_zero, List.set_cons_succ, List.getElem_toArray, List.getElem_cons_succ, List.getElem_cons_zero]
              refine wpAnyH_ready (rs := [10]) (by kernel_rfl) (by simp) ?_
              refine AllReadyH.cons rfl (fun K hK => ?_) AllReadyH.nil
              have b3 : Below w.heap.size w w3 := ((below_drewN hb _).alloc (by simp; omega) _).trans (hb3.mono (by simp; omega))
              have r6 : ∀ (A : Option Addr), (k < q → A = some ⟨g9, k, none⟩) → Rd w6 w6.heap.size 1 A (q - k) ((intsRow acc).drop k) := fun A hA => (((Rd.below (Rd.alloc (Rd.drewN0 (HRD.out A hA) _) (Nat.le_refl _) _) hb3 (by rw [World.size_alloc]; exact Nat.le_succ _))).grown hg6 (by have := z3; simp <;> omega) (fun g hg => (by have h := (World.ownsRow.lt O3.out g hg).1; rw [World.size_alloc] at h; exact Nat.le_of_succ_le h))).more (by have := z3; (try simp at Z6); omega)
              have b6 : Below w.heap.size w w6 := b3.grown hg6 b3.size (fun g hg => Nat.le_trans hsz (by have h := (World.ownsRow.lt O3.out g hg).1; rw [World.size_alloc] at h; exact Nat.le_of_succ_le h))
              (refine step_append_sl _ (by rfl) (.tmp 41) (.tmp 44) _ (by rfl) _ 2 j0 _ 1 8 Try.underlying59 hj hy0 hy1 hy2 rfl (by omega) _ (k + 1) ((intsRow acc).take k ++ [.int .i64 (q : Int)]) (by rfl) ho6 _ 0 _ [] (by rfl) Rd.none_ (fun u hu => by cases hu) (by unfold maxLen; omega) (by omega) (by have := hb3.size; (try simp at this); (try simp at Z6); simp <;> omega) ?_; intro A7 c7 w7 ho7 hg7 hor7)
              refine hK.out _ _ ?_ (fun hHeld => ?_)
              · (try dsimp only); first | done | trivial
              clear hK K
              try simp only [Act.put, List.setIfInBounds_toArray, List.set_cons_zero, List.set_cons_succ, List.getElem_toArray, List.getElem_cons_succ, List.getElem_cons_zero]
              refine wpAnyH_take (i := 11) (v := ?_) rfl (by kernel_rfl) (by kernel_rfl) (by kernel_rfl) (fun _ _ _ h => h) (Or.inl ⟨by rfl, ?_⟩) (by assumption) ?_
              rotate_left
              · (intro w hSw; (try dsimp only at hSw); go_simp) <;> with_reducible rfl
              try simp only [Act.put, List.setIfInBounds_toArray, List.set_cons_zero, List.set_cons_succ, List.getElem_toArray, List.getElem_cons_succ, List.getElem_cons_zero]
              refine wpAnyH_done (by kernel_rfl) ?_ _
              have h6 : k + 1 + 0 = q + 1 := by omega
              rw [h6] at ho7
              have O7 := Lib.hid ho7
              have b7 : Below w.heap.size w w7 := b6.grown hg7 b6.size (fun g hg => Nat.le_trans hsz (by have := (World.ownsRow.lt ho6 g hg).1; first | exact this | (rw [World.size_alloc] at this; exact Nat.le_of_succ_le this)))
              obtain ⟨g7, cc, hv7, _, hg7lt⟩ := own_form O7.out (by omega)
              injection hv7 with hA7 hn7 hc7'
              subst hA7
              clear hn7 hc7' cc ho7 hor7 hg7 ho6 hor6 hg6 r6
              go_wp2
              try rw [h6]
              go_roundw
              case rel =>
                refine ⟨q + 1, insAt acc k q, g7, c7, by omega, by go_num, rfl, by rw [orderBy, ← Hacc.out, Hpos.out], ?_, b7⟩
                have h := O7.out
                have h2 : ((intsRow acc).take k ++ [.int .i64 (q : Int)]) ++ [] = intsRow (insAt acc k q) := by rw [← intsRow_insAt, List.drop_of_length_le (l := intsRow acc) (by rw [intsRow_len]; omega)]
                rw [h2] at h
                first | exact own_base h hsz | exact own_base h (by simp <;> omega)
              case measure => simp [intOf]; omega
          · skip
            go_wp2
            refine wp_region_held_drew (S := (fun _ => True)) (by kernel_rfl) ?_ (fun hHeld => ?_)
            · (try dsimp only); first | done | trivial
            refine wpAnyH_take (i := 0) (v := ?_) rfl (by kernel_rfl) (by kernel_rfl) (by kernel_rfl) (fun _ _ _ h => h) (Or.inl ⟨by rfl, ?_⟩) (by assumption) ?_
            rotate_left
            · (intro w hSw; (try dsimp only at hSw); go_simp) <;> with_reducible rfl
            try simp only [Act.put, List.setIfInBounds_toArray, List.set_cons_zero, List.set_cons_succ, List.getElem_toArray, List.getElem_cons_succ, List.getElem_cons_zero]
            refine wpAnyH_take (i := 1) (v := ?_) rfl (by kernel_rfl) (by kernel_rfl) (by kernel_rfl) (fun _ _ _ h => h) (Or.inl ⟨by rfl, ?_⟩) (by assumption) ?_
            rotate_left
            · (intro w hSw; (try dsimp only at hSw); go_simp) <;> with_reducible rfl
            try simp only [Act.put, List.setIfInBounds_toArray, List.set_cons_zero, List.set_cons_succ, List.getElem_toArray, List.getElem_cons_succ, List.getElem_cons_zero]
            refine wpAnyH_take (i := 2) (v := ?_) rfl (by kernel_rfl) (by kernel_rfl) (by kernel_rfl) (fun _ _ _ h => h) (Or.inl ⟨by rfl, ?_⟩) (by assumption) ?_
            rotate_left
            · (intro w hSw; (try dsimp only at hSw); go_simp) <;> with_reducible rfl
            try simp only [Act.put, List.setIfInBounds_toArray, List.set_cons_zero, List.set_cons_succ, List.getElem_toArray, List.getElem_cons_succ, List.getElem_cons_zero]
            refine wpAnyH_take (i := 4) (v := ?_) rfl (by kernel_rfl) (by kernel_rfl) (by kernel_rfl) (fun _ _ _ h => h) (Or.inl ⟨by rfl, ?_⟩) (by assumption) ?_
            rotate_left
            · (intro w hSw; (try dsimp only at hSw); go_simp) <;> with_reducible rfl
            try simp only [Act.put, List.setIfInBounds_toArray, List.set_cons_zero, List.set_cons_succ, List.getElem_toArray, List.getElem_cons_succ, List.getElem_cons_zero]
            refine wpAnyH_take (i := 7) (v := ?_) rfl (by kernel_rfl) (by kernel_rfl) (by kernel_rfl) (fun _ _ _ h => h) (Or.inl ⟨by rfl, ?_⟩) (by assumption) ?_
            rotate_left
            · (intro w hSw; (try dsimp only at hSw); go_simp) <;> with_reducible rfl
            try simp only [Act.put, List.setIfInBounds_toArray, List.set_cons_zero, List.set_cons_succ, List.getElem_toArray, List.getElem_cons_succ, List.getElem_cons_zero]
            refine wpAnyH_take (i := 8) (v := ?_) rfl (by kernel_rfl) (by kernel_rfl) (by kernel_rfl) (fun _ _ _ h => h) (Or.inl ⟨by rfl, ?_⟩) (by assumption) ?_
            rotate_left
            · (intro w hSw; (try dsimp only at hSw); go_simp) <;> with_reducible rfl
            try simp only [Act.put, List.setIfInBounds_toArray, List.set_cons_zero, List.set_cons_succ, List.getElem_toArray, List.getElem_cons_succ, List.getElem_cons_zero]
            refine wpAnyH_take (i := 9) (v := ?_) rfl (by kernel_rfl) (by kernel_rfl) (by kernel_rfl) (fun _ _ _ h => h) (Or.inl ⟨by rfl, ?_⟩) (by assumption) ?_
            rotate_left
            · (intro w hSw; (try dsimp only at hSw); go_simp) <;> with_reducible rfl
            try simp only [Act.put, List.setIfInBounds_toArray, List.set_cons_zero, List.set_cons_succ, List.getElem_toArray, List.getElem_cons_succ, List.getElem_cons_zero]
            refine wpAnyH_ready (rs := [3, 5]) (by kernel_rfl) (by simp) ?_
            refine (AllReadyH.cons rfl (fun K hK => ?_) (AllReadyH.cons rfl (fun K hK => ?_) AllReadyH.nil))
            · skip
              try dsimp only [List.getElem_toArray, List.getElem_cons_succ, List.getElem_cons_zero]
              go_simp
              refine (specOwn_any _ (acc.take k) _ (by rw [show (acc.take k).length = k by rw [List.length_take]; omega, show intsRow (acc.take k) = (intsRow acc).take k by simp [intsRow, List.map_take]]; exact own_take (own_drewN Ob.out _) hk) (by rw [List.length_take]; omega)).mono ?_
              rw [show (acc.take k).length = k by rw [List.length_take]; omega, show intsRow (acc.take k) = (intsRow acc).take k by simp [intsRow, List.map_take]]
              rintro e w3 ⟨y3, rfl, ho3, hb3⟩
              have z3 : wr.heap.size ≤ w3.heap.size := by have := hb3.size; simp at this; omega
              obtain ⟨A3, c3, rfl, _, _⟩ := own_slice ho3
              have O3 := Lib.hid ho3
              clear ho3
              go_wp2_with fail
              refine hK.out _ _ ?_ (fun hHeld => ?_)
              · (try dsimp only); first | done | trivial
              clear hK K
              try simp only [Act.put, List.setIfInBounds_toArray, List.set_cons_zero, List.set_cons_succ, List.getElem_toArray, List.getElem_cons_succ, List.getElem_cons_zero]
              refine wpAnyH_ready (rs := [5]) (by kernel_rfl) (by simp) ?_
              refine AllReadyH.cons rfl (fun K hK => ?_) AllReadyH.nil
              try dsimp only [List.getElem_toArray, List.getElem_cons_succ, List.getElem_cons_zero]
              go_simp
              refine hK.out _ _ ?_ (fun hHeld => ?_)
              · (try dsimp only); first | done | trivial
              clear hK K
              try simp only [Act.put, List.setIfInBounds_toArray, List.set_cons_zero, List.set_cons_succ, List.getElem_toArray, List.getElem_cons_succ, List.getElem_cons_zero]
              refine wpAnyH_ready (rs := [6]) (by kernel_rfl) (by simp) ?_
              refine AllReadyH.cons rfl (fun K hK => ?_) AllReadyH.nil
              (refine step_append_sl _ (by rfl) (.tmp 38) (.tmp 40) _ (by rfl) _ 2 j0 _ 1 8 Try.underlying59 hj hy0 hy1 hy2 rfl (by omega) _ k ((intsRow acc).take k) (by rfl) (O3.out.alloc _) (some ⟨w3.heap.size, 0, none⟩) 1 1 [.int .i64 (q : Int)] (by rfl) (Rd.of_block (cs := #[.int .i64 (q : Int)]) (heap_alloc_new _ _) rfl) (by intro x hx; simp at hx; subst hx; rfl) (by unfold maxLen; omega) (by omega) (by have := hb3.size; (try simp at this); simp <;> omega) ?_; intro A6 c6 w6 ho6 hg6 hor6; have Z6 := hg6.size)
              refine hK.out _ _ ?_ (fun hHeld => ?_)
              · (try dsimp only); first | done | trivial
              clear hK K
              try simp only [Act.put, List.setIfInBounds_toArray, List.set_cons_zero, List.set_cons_succ, List.getElem_toArray, List.getElem_cons_succ, List.getElem_cons_zero]
              refine wpAnyH_ready (rs := [10]) (by kernel_rfl) (by simp) ?_
              refine AllReadyH.cons rfl (fun K hK => ?_) AllReadyH.nil
              have b3 : Below w.heap.size w w3 := (below_drewN hb _).trans (hb3.mono (by simp; omega))
              have r6 : ∀ (A : Option Addr), (k < q → A = some ⟨g9, k, none⟩) → Rd w6 w6.heap.size 1 A (q - k) ((intsRow acc).drop k) := fun A hA => ((((Rd.below (Rd.drewN0 (HRD.out A hA) _) hb3 (Nat.le_refl _)).alloc z3 _)).grown hg6 (by have := z3; simp <;> omega) (fun g hg => (show wr.heap.size ≤ g from (World.ownsRow.lt O3.out g hg).1))).more (by have := z3; (try simp at Z6); omega)
              have b6 : Below w.heap.size w w6 := (b3.alloc b3.size _).grown hg6 (by have := b3.size; simp <;> omega) (fun g hg => Nat.le_trans hsz (show wr.heap.size ≤ g from (World.ownsRow.lt O3.out g hg).1))
              (refine step_append_sl _ (by rfl) (.tmp 41) (.tmp 44) _ (by rfl) _ 2 j0 _ 1 8 Try.underlying59 hj hy0 hy1 hy2 rfl (by omega) _ (k + 1) ((intsRow acc).take k ++ [.int .i64 (q : Int)]) (by rfl) ho6 _ (q - k) _ ((intsRow acc).drop k) (by rfl) (by exact r6 _ (fun h => by first | rfl | exact if_neg (by omega) | (exfalso; omega))) (fun u hu => intsRow_one acc u (List.mem_of_mem_drop hu)) (by unfold maxLen; omega) (by omega) (by have := hb3.size; (try simp at this); (try simp at Z6); simp <;> omega) ?_; intro A7 c7 w7 ho7 hg7 hor7)
              refine hK.out _ _ ?_ (fun hHeld => ?_)
              · (try dsimp only); first | done | trivial
              clear hK K
              try simp only [Act.put, List.setIfInBounds_toArray, List.set_cons_zero, List.set_cons_succ, List.getElem_toArray, List.getElem_cons_succ, List.getElem_cons_zero]
              refine wpAnyH_take (i := 11) (v := ?_) rfl (by kernel_rfl) (by kernel_rfl) (by kernel_rfl) (fun _ _ _ h => h) (Or.inl ⟨by rfl, ?_⟩) (by assumption) ?_
              rotate_left
              · (intro w hSw; (try dsimp only at hSw); go_simp) <;> with_reducible rfl
              try simp only [Act.put, List.setIfInBounds_toArray, List.set_cons_zero, List.set_cons_succ, List.getElem_toArray, List.getElem_cons_succ, List.getElem_cons_zero]
              refine wpAnyH_done (by kernel_rfl) ?_ _
              have h6 : k + 1 + (q - k) = q + 1 := by omega
              rw [h6] at ho7
              have O7 := Lib.hid ho7
              have b7 : Below w.heap.size w w7 := b6.grown hg7 b6.size (fun g hg => Nat.le_trans hsz (by have := (World.ownsRow.lt ho6 g hg).1; first | exact this | (rw [World.size_alloc] at this; exact Nat.le_of_succ_le this)))
              obtain ⟨g7, cc, hv7, _, hg7lt⟩ := own_form O7.out (by omega)
              injection hv7 with hA7 hn7 hc7'
              subst hA7
              clear hn7 hc7' cc ho7 hor7 hg7 ho6 hor6 hg6 r6
              go_wp2
              try rw [h6]
              go_roundw
              case rel =>
                refine ⟨q + 1, insAt acc k q, g7, c7, by omega, by go_num, rfl, by rw [orderBy, ← Hacc.out, Hpos.out], ?_, b7⟩
                have h := O7.out
                rw [intsRow_insAt] at h
                first | exact own_base h hsz | exact own_base h (by simp <;> omega)
              case measure => simp [intOf]; omega
            · skip
              try dsimp only [List.getElem_toArray, List.getElem_cons_succ, List.getElem_cons_zero]
              go_simp
              refine hK.out _ _ ?_ (fun hHeld => ?_)
              · (try dsimp only); first | done | trivial
              clear hK K
              try simp only [Act.put, List.setIfInBounds_toArray, List.set_cons_zero, List.set_cons_succ, List.getElem_toArray, List.getElem_cons_succ, List.getElem_cons_zero]
              refine wpAnyH_ready (rs := [3]) (by kernel_rfl) (by simp) ?_
              refine AllReadyH.cons rfl (fun K hK => ?_) AllReadyH.nil
              try dsimp only [List.getElem_toArray, List.getElem_cons_succ, List.getElem_cons_zero]
              go_simp
              refine (specOwn_any _ (acc.take k) _ (by rw [show (acc.take k).length = k by rw [List.length_take]; omega, show intsRow (acc.take k) = (intsRow acc).take k by simp [intsRow, List.map_take]]; exact own_take ((own_drewN Ob.out _).alloc _) hk) (by rw [List.length_take]; omega)).mono ?_
              rw [show (acc.take k).length = k by rw [List.length_take]; omega, show intsRow (acc.take k) = (intsRow acc).take k by simp [intsRow, List.map_take]]
              rintro e w3 ⟨y3, rfl, ho3, hb3⟩
              have z3 : wr.heap.size ≤ w3.heap.size := by have := hb3.size; simp at this; omega
              obtain ⟨A3, c3, rfl, _, _⟩ := own_slice ho3
              have O3 := Lib.hid ho3
              clear ho3
              go_wp2_with fail
              refine hK.out _ _ ?_ (fun hHeld => ?_)
              · (try dsimp only); first | done | trivial
              clear hK K
              try simp only [Act.put, List.setIfInBounds_toArray, List.set_cons_zero, List.set_cons_succ, List.getElem_toArray, List.getElem_cons_succ, List.getElem_cons_zero]
              refine wpAnyH_ready (rs := [6]) (by kernel_rfl) (by simp) ?_
              refine AllReadyH.cons rfl (fun K hK => ?_) AllReadyH.nil
              (refine step_append_sl _ (by rfl) (.tmp 38) (.tmp 40) _ (by rfl) _ 2 j0 _ 1 8 Try.underlying59 hj hy0 hy1 hy2 rfl (by omega) _ k ((intsRow acc).take k) (by rfl) (O3.out) (some ⟨wr.heap.size, 0, none⟩) 1 1 [.int .i64 (q : Int)] (by rfl) (Rd.of_block (cs := #[.int .i64 (q : Int)]) ((hb3.block _ (by simp)).trans (heap_alloc_new _ _)) rfl) (by intro x hx; simp at hx; subst hx; rfl) (by unfold maxLen; omega) (by omega) (by have := hb3.size; (try simp at this); simp <;> omega) ?_; intro A6 c6 w6 ho6 hg6 hor6; have Z6 := hg6.size)
              refine hK.out _ _ ?_ (fun hHeld => ?_)
              · (try dsimp only); first | done | trivial
              clear hK K
              try simp only [Act.put, List.setIfInBounds_toArray, List.set_cons_zero, List.set_cons_succ, List.getElem_toArray, List.getElem_cons_succ, List.getElem_cons_zero]
              refine wpAnyH_ready (rs := [10]) (by kernel_rfl) (by simp) ?_
              refine AllReadyH.cons rfl (fun K hK => ?_) AllReadyH.nil
              have b3 : Below w.heap.size w w3 := ((below_drewN hb _).alloc (by simp; omega) _).trans (hb3.mono (by simp; omega))
              have r6 : ∀ (A : Option Addr), (k < q → A = some ⟨g9, k, none⟩) → Rd w6 w6.heap.size 1 A (q - k) ((intsRow acc).drop k) := fun A hA => (((Rd.below (Rd.alloc (Rd.drewN0 (HRD.out A hA) _) (Nat.le_refl _) _) hb3 (by rw [World.size_alloc]; exact Nat.le_succ _))).grown hg6 (by have := z3; simp <;> omega) (fun g hg => (by have h := (World.ownsRow.lt O3.out g hg).1; rw [World.size_alloc] at h; exact Nat.le_of_succ_le h))).more (by have := z3; (try simp at Z6); omega)
              have b6 : Below w.heap.size w w6 := b3.grown hg6 b3.size (fun g hg => Nat.le_trans hsz (by have h := (World.ownsRow.lt O3.out g hg).1; rw [World.size_alloc] at h; exact Nat.le_of_succ_le h))
              (refine step_append_sl _ (by rfl) (.tmp 41) (.tmp 44) _ (by rfl) _ 2 j0 _ 1 8 Try.underlying59 hj hy0 hy1 hy2 rfl (by omega) _ (k + 1) ((intsRow acc).take k ++ [.int .i64 (q : Int)]) (by rfl) ho6 _ (q - k) _ ((intsRow acc).drop k) (by rfl) (by exact r6 _ (fun h => by first | rfl | exact if_neg (by omega) | (exfalso; omega))) (fun u hu => intsRow_one acc u (List.mem_of_mem_drop hu)) (by unfold maxLen; omega) (by omega) (by have := hb3.size; (try simp at this); (try simp at Z6); simp <;> omega) ?_; intro A7 c7 w7 ho7 hg7 hor7)
              refine hK.out _ _ ?_ (fun hHeld => ?_)
              · (try dsimp only); first | done | trivial
              clear hK K
              try simp only [Act.put, List.setIfInBounds_toArray, List.set_cons_zero, List.set_cons_succ, List.getElem_toArray, List.getElem_cons_succ, List.getElem_cons_zero]
              refine wpAnyH_take (i := 11) (v := ?_) rfl (by kernel_rfl) (by kernel_rfl) (by kernel_rfl) (fun _ _ _ h => h) (Or.inl ⟨by rfl, ?_⟩) (by assumption) ?_
              rotate_left
              · (intro w hSw; (try dsimp only at hSw); go_simp) <;> with_reducible rfl
              try simp only [Act.put, List.setIfInBounds_toArray, List.set_cons_zero, List.set_cons_succ, List.getElem_toArray, List.getElem_cons_succ, List.getElem_cons_zero]
              refine wpAnyH_done (by kernel_rfl) ?_ _
              have h6 : k + 1 + (q - k) = q + 1 := by omega
              rw [h6] at ho7
              have O7 := Lib.hid ho7
              have b7 : Below w.heap.size w w7 := b6.grown hg7 b6.size (fun g hg => Nat.le_trans hsz (by have := (World.ownsRow.lt ho6 g hg).1; first | exact this | (rw [World.size_alloc] at this; exact Nat.le_of_succ_le this)))
              obtain ⟨g7, cc, hv7, _, hg7lt⟩ := own_form O7.out (by omega)
              injection hv7 with hA7 hn7 hc7'
              subst hA7
              clear hn7 hc7' cc ho7 hor7 hg7 ho6 hor6 hg6 r6
              go_wp2
              try rw [h6]
              go_roundw
              case rel =>
                refine ⟨q + 1, insAt acc k q, g7, c7, by omega, by go_num, rfl, by rw [orderBy, ← Hacc.out, Hpos.out], ?_, b7⟩
                have h := O7.out
                rw [intsRow_insAt] at h
                first | exact own_base h hsz | exact own_base h (by simp <;> omega)
              case measure => simp [intOf]; omega
    · go_wp2
      go_ret
      have hqL : q = L.length := by omega
      subst hqL
      refine ⟨_, rfl, ?_, hb⟩
      rw [dayOrd, ← Hacc.out]
      exact Ho.out

end Go.Proofs.Ytgafjchbfbpmmaa
