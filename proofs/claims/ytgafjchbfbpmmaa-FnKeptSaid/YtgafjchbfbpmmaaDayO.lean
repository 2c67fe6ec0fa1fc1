/- The walks of dayOrder, l23Order. Printed by gen_order.py. -/
import Derived.Test.YtgafjchbfbpmmaaPromD
import Derived.Test.YtgafjchbfbpmmaaIns
import Derived.Test.YtgafjchbfbpmmaaApp
namespace Go.Proofs.Ytgafjchbfbpmmaa
open Go.RowKit

def dayKey (L : List Promise) (i : Nat) : Int := (promiseAt L i).day
def dayOrd (L : List Promise) : List Int := orderBy (dayKey L) L.length
theorem Try.info_int : (Try.prog.info? 3).map (fun i => (i.zero, i.size, i.bytes)) = some (some (.int .i64 0), 1, 8) := by kernel_rfl

set_option maxHeartbeats 4000000 in
theorem implDayOrder_any (w : World) (L : List Promise) (v : Value) (hv : Sl w 3 v L.length (promiseRow L)) (hL : promIn L) :
    Calls Try.prog 80 #[v] w (Gives w.heap.size 3 1 L.length (intsRow (dayOrd L)) w) := by
  obtain ⟨A, c, rfl, hl, hc, hr⟩ := hv
  have Hr := Lib.hid hr
  have h41 := hL.1
  have HL := Lib.hid hL
  clear hr hl hc hL
  obtain ⟨j0, hj, hy0, hy1, hy2⟩ := info_parts Try.info_int
  go_enter Try.func80, Try.ntmps80
  go_wp2
  go_loopw [3, 9] (fun s i wr => ∃ (q : Nat) (acc : List Int) (Ao : Option Addr) (co : Nat), q ≤ L.length ∧ i = .int .i64 q ∧ s = .slice Ao q co ∧ acc = orderBy (dayKey L) q ∧ wr.ownsRow w.heap.size 3 1 (.slice Ao q co) q (intsRow acc) ∧ Below w.heap.size w wr) (fun _ i _ => L.length - (intOf i).toNat)
  case atStart => exact ⟨0, [], none, 0, Nat.zero_le _, rfl, rfl, rfl, World.ownsRow_nil _ _ _ _, Below.refl _ _⟩
  case round =>
    obtain ⟨q, acc, Ao, co, hq, rfl, rfl, hacc, ho, hb⟩ := hrel
    have Hacc := Lib.hid hacc
    have Ho := Lib.hid ho
    have hsz := hb.size
    clear hacc ho
    by_cases hlt : q < L.length
    · obtain ⟨g, o, rfl, hg, c0, c1, c2⟩ := (Hr.out.below hb (Nat.le_refl _)).promise hlt
      have hd := (HL.out.2 q hlt).1
      obtain ⟨wo, rfl⟩ : ∃ wo : World, wo = wr := ⟨_, rfl⟩
      go_wp2
      obtain ⟨wb, hwb⟩ : ∃ wb, wb = wo.alloc (.cells #[.string (promiseAt L q).name, .int .i64 (promiseAt L q).day, .int .i64 (promiseAt L q).min] 43) := ⟨_, rfl⟩
      have bb : Below w.heap.size w wb := by rw [hwb]; exact hb.alloc hsz _
      have zb : wo.heap.size < wb.heap.size := by rw [hwb]; simp
      have e1 : wb.cell? ⟨wo.heap.size, 1, none⟩ = some (.int .i64 (promiseAt L q).day) := by rw [hwb]; go_simp
      have Ob := Lib.hid (show wb.ownsRow w.heap.size 3 1 (.slice Ao q co) q (intsRow acc) by rw [hwb]; exact Ho.out.alloc _)
      have hzb := bb.size
      have hal : acc.length = q := by rw [Hacc.out, orderBy_len]
      clear c0 c1 c2
      rw [← hwb]
      clear hwb
      go_loopw [6] (fun kv wr => ∃ (k m : Nat), k ≤ q ∧ kv = .int .i64 k ∧ (∀ j, k ≤ j → j < q → dayKey L q < dayKey L (intsAt acc j).toNat) ∧ wr = wb.drewN m) (fun kv _ => (intOf kv).toNat)
      case atStart => exact ⟨q, 0, Nat.le_refl _, rfl, fun j h1 h2 => absurd h2 (by omega), rfl⟩
      case round =>
        obtain ⟨k, m, hk, rfl, hall, rfl⟩ := hrel
        have Hall := Lib.hid hall
        clear hall
        by_cases h0 : 0 < k
        · skip
          obtain ⟨b, hbe, hbq⟩ := orderBy_mem (dayKey L) q (k - 1) (by omega)
          rw [← Hacc.out] at hbe
          obtain ⟨g9, cc, hv9, _, hg9lt⟩ := own_form Ob.out (by omega)
          injection hv9 with hA9 hn9 hc9'
          subst hA9
          clear hn9 hc9' cc
          obtain ⟨_, hl9, hc9⟩ := own_caps Ob.out
          unfold maxLen at hc9
          have d0 := (Ob.out.cellAt (k - 1) (by omega)).trans (intsRow_at acc (k - 1) (by omega))
          rw [hbe] at d0
          obtain ⟨g', o', hA, hg', d1, d2, d3⟩ := (Hr.out.below bb (Nat.le_refl _)).promise (k := b) (by omega)
          injection hA with hA
          injection hA with hA1 hA2
          subst hA1
          subst hA2
          clear d1 d3
          have Hbe := Lib.hid hbe
          clear hbe
          have t0 : decide ((0 : Int) < (k : Int)) = true := by simp; omega
          have t1 : decide (0 < k) = true := by simp; omega
          have i1 : (1 : Int) ≤ (k : Int) := by omega
          have i2 : (k : Int) - 1 < (q : Int) := by omega
          have i3 : IntKind.i64.wrap ((k : Int) - 1) = (k : Int) - 1 := IntWalk.i64_in _ (by omega)
          have i4 : ((k : Int) - 1).toNat = k - 1 := by omega
          have i5 : (0 : Int) ≤ (b : Int) := Int.natCast_nonneg _
          have i6 : (b : Int) < (L.length : Int) := by omega
          by_cases hle : (promiseAt L b).day ≤ (promiseAt L q).day
          · have t2 : decide ((promiseAt L q).day < (promiseAt L b).day) = false := by simp; omega
            have Hle := Lib.hid hle
            clear hle
            go_wp2
            go_quiet (fail)
            clear i3 i4
            have Hpos := Lib.hid (show posOf (dayKey L) acc (dayKey L q) = k by rw [Hacc.out]; exact posOf_down hk (fun j h1 h2 => by rw [← Hacc.out]; exact Int.not_le.2 (Hall.out j h1 h2)) (.inr (by rw [← Hacc.out, Hbe.out]; simp only [Int.toNat_natCast]; exact Hle.out)))
            have hk0 : (0 : Int) ≤ (k : Int) := Int.natCast_nonneg _
            go_wp2_with (at_builtin; refine wpList_append_sl _ rfl (.tmp 34) (.tmp 35) _ rfl w.heap.size 3 j0 _ 1 8 Try.underlying84 hj hy0 hy1 hy2 rfl (by omega) _ q (intsRow acc) rfl ((own_drewN Ob.out _).alloc _) (some ⟨wb.heap.size, 0, none⟩) 1 1 [.int .i64 0] rfl (Rd.of_block (cs := #[.int .i64 0]) (heap_alloc_new _ _) rfl) (by intro x hx; simp at hx; subst hx; rfl) (by unfold maxLen; omega) (by omega) (by simp <;> omega) ?_; intro A8 c8 w8 ho8 hg8 hor8)
            have b8 : Below w.heap.size w w8 := ((below_drewN bb _).alloc (by simp <;> omega) _).grown hg8 (by simp <;> omega) (fun p hp => (World.ownsRow.lt Ob.out p hp).1)
            have O8 := Lib.hid ho8
            clear ho8 hg8 hor8
            obtain ⟨g8, cc, hv8, _, hg8lt⟩ := own_form O8.out (by omega)
            injection hv8 with hA8 hn8 hc8'
            subst hA8
            clear hn8 hc8' cc
            obtain ⟨cur, hcur, hbg, hnc, hcm, hcl, hct, hcopy⟩ := own_cur O8.out
            unfold maxLen at hcm
            have Hcur := Lib.hid hcur
            have Hct := Lib.hid hct
            have Hcopy := Lib.hid hcopy
            have Hcl := Lib.hid hcl
            clear hcur hct hcopy hcl
            have x1 := IntWalk.i64_in ((k : Int) + 1) (by omega)
            have hk1 : (0 : Int) ≤ (k : Int) + 1 := by omega
            have hk2 : (k : Int) + 1 ≤ (q : Int) + 1 := by omega
            have hk3 : (k : Int) ≤ (q : Int) + 1 := by omega
            by_cases hcap : c8 = k + 1
            · have HC := Lib.hid hcap
              subst hcap
              refine wp_region_held_drew (S := (fun _ => True)) (by kernel_rfl) ?_ (fun hHeld => ?_)
              · (try dsimp only); first | done | trivial
              refine wpAnyH_take (i := 0) (v := ?_) rfl (by kernel_rfl) (by kernel_rfl) (by kernel_rfl) (fun _ _ _ h => h) (Or.inl ⟨by rfl, ?_⟩) (by assumption) ?_
              rotate_left
              · (intro w hSw; (try dsimp only at hSw); go_simp) <;> with_reducible rfl
              try simp only [Act.put, List.setIfInBounds_toArray, List.set_cons_zero, List.set_cons_succ, List.getElem_toArray, List.getElem_cons_succ, List.getElem_cons_zero]
              refine wpAnyH_take (i := 1) (v := ?_) rfl (by kernel_rfl) (by kernel_rfl) (by kernel_rfl) (fun _ _ _ h => h) (Or.inl ⟨by rfl, ?_⟩) (by assumption) ?_
              rotate_left
              · (intro w hSw; (try dsimp only at hSw); go_simp) <;> with_reducible rfl
              try simp only [Act.put, List.setIfInBounds_toArray, List.set_cons_zero, List.set_cons_succ, List.getElem_toArray, List.getElem_cons_succ, List.getElem_cons_zero]
              refine wpAnyH_take (i := 2) (v := ?_) rfl (by kernel_rfl) (by kernel_rfl) (by kernel_rfl) (fun _ _ _ h => h) (Or.inl ⟨by rfl, ?_⟩) (by assumption) ?_
              rotate_left
              · (intro w hSw; (try dsimp only at hSw); go_simp) <;> with_reducible rfl
              try simp only [Act.put, List.setIfInBounds_toArray, List.set_cons_zero, List.set_cons_succ, List.getElem_toArray, List.getElem_cons_succ, List.getElem_cons_zero]
              refine wpAnyH_take (i := 3) (v := ?_) rfl (by kernel_rfl) (by kernel_rfl) (by kernel_rfl) (fun _ _ _ h => h) (Or.inl ⟨by rfl, ?_⟩) (by assumption) ?_
              rotate_left
              · (intro w hSw; (try dsimp only at hSw); go_simp) <;> with_reducible rfl
              try simp only [Act.put, List.setIfInBounds_toArray, List.set_cons_zero, List.set_cons_succ, List.getElem_toArray, List.getElem_cons_succ, List.getElem_cons_zero]
              refine wpAnyH_take (i := 4) (v := ?_) rfl (by kernel_rfl) (by kernel_rfl) (by kernel_rfl) (fun _ _ _ h => h) (Or.inl ⟨by rfl, ?_⟩) (by assumption) ?_
              rotate_left
              · (intro w hSw; (try dsimp only at hSw); go_simp) <;> with_reducible rfl
              try simp only [Act.put, List.setIfInBounds_toArray, List.set_cons_zero, List.set_cons_succ, List.getElem_toArray, List.getElem_cons_succ, List.getElem_cons_zero]
              refine wpAnyH_take (i := 5) (v := ?_) rfl (by kernel_rfl) (by kernel_rfl) (by kernel_rfl) (fun _ _ _ h => h) (Or.inl ⟨by rfl, ?_⟩) (by assumption) ?_
              rotate_left
              · (intro w hSw; (try dsimp only at hSw); go_simp) <;> with_reducible rfl
              try simp only [Act.put, List.setIfInBounds_toArray, List.set_cons_zero, List.set_cons_succ, List.getElem_toArray, List.getElem_cons_succ, List.getElem_cons_zero]
              refine wpAnyH_take (i := 6) (v := ?_) rfl (by kernel_rfl) (by kernel_rfl) (by kernel_rfl) (fun _ _ _ h => h) (Or.inl ⟨by rfl, ?_⟩) (by assumption) ?_
              rotate_left
              · (intro w hSw; (try dsimp only at hSw); go_simp) <;> with_reducible rfl
              try simp only [Act.put, List.setIfInBounds_toArray, List.set_cons_zero, List.set_cons_succ, List.getElem_toArray, List.getElem_cons_succ, List.getElem_cons_zero]
              refine wpAnyH_ready (rs := [7]) (by kernel_rfl) (by simp) ?_
              refine AllReadyH.cons rfl (fun K hK => ?_) AllReadyH.nil
              (refine step_shift (by rfl) (.tmp 40) (.tmp 43) _ _ (by rfl) 3 Try.underlying84 (by kernel_rfl) _ _ _ _ _ _ (by rfl) (by rfl) (O8.out.drew) k (by omega) (by omega) (by omega) (fun h => by first | rfl | (exfalso; omega)) (fun h => by first | rfl | exact if_neg (by omega) | (exfalso; omega)) (by intro x hx; rw [show intsRow acc ++ [Value.int IntKind.i64 0] = intsRow (acc ++ [0]) by rw [intsRow_append]; rfl] at hx; exact intsRow_one _ x hx) ?_; intro w7 ho7 hb7)
              refine hK.out _ _ ?_ (fun hHeld => ?_)
              · (try dsimp only); first | done | trivial
              clear hK K
              try simp only [Act.put, List.setIfInBounds_toArray, List.set_cons_zero, List.set_cons_succ, List.getElem_toArray, List.getElem_cons_succ, List.getElem_cons_zero]
              refine wpAnyH_done (by kernel_rfl) ?_ _
              have O7 := Lib.hid ho7
              have b7 : Below w.heap.size w w7 := (b8.drew).trans hb7
              clear ho7
              obtain ⟨x7, d7⟩ := own_cell O7.out (j := k) (by omega)
              have f7 := O7.out.frozenAt k
              have hkq : (k : Int) < (q : Int) + 1 := by omega
              go_wp2
              go_roundw
              case rel =>
                refine ⟨q + 1, insAt acc k q, _, _, by omega, by go_num, rfl, by rw [orderBy, ← Hacc.out, Hpos.out], ?_, b7.setCell (World.ownsRow.lt O7.out g8 rfl).1 _⟩
                have h := (O7.out.stored k (.int .i64 q)).1
                rw [show intsRow acc ++ [Value.int IntKind.i64 0] = intsRow (acc ++ [0]) by rw [intsRow_append]; rfl, show q + 1 - (k + 1) = acc.length - k by omega, splice_shift acc k (by omega)] at h
                exact h
              case measure => simp [intOf]; omega
            · skip
              refine wp_region_held_drew (S := (fun _ => True)) (by kernel_rfl) ?_ (fun hHeld => ?_)
              · (try dsimp only); first | done | trivial
              refine wpAnyH_take (i := 0) (v := ?_) rfl (by kernel_rfl) (by kernel_rfl) (by kernel_rfl) (fun _ _ _ h => h) (Or.inl ⟨by rfl, ?_⟩) (by assumption) ?_
              rotate_left
              · (intro w hSw; (try dsimp only at hSw); go_simp) <;> with_reducible rfl
              try simp only [Act.put, List.setIfInBounds_toArray, List.set_cons_zero, List.set_cons_succ, List.getElem_toArray, List.getElem_cons_succ, List.getElem_cons_zero]
              refine wpAnyH_take (i := 1) (v := ?_) rfl (by kernel_rfl) (by kernel_rfl) (by kernel_rfl) (fun _ _ _ h => h) (Or.inl ⟨by rfl, ?_⟩) (by assumption) ?_
              rotate_left
              · (intro w hSw; (try dsimp only at hSw); go_simp) <;> with_reducible rfl
              try simp only [Act.put, List.setIfInBounds_toArray, List.set_cons_zero, List.set_cons_succ, List.getElem_toArray, List.getElem_cons_succ, List.getElem_cons_zero]
              refine wpAnyH_take (i := 2) (v := ?_) rfl (by kernel_rfl) (by kernel_rfl) (by kernel_rfl) (fun _ _ _ h => h) (Or.inl ⟨by rfl, ?_⟩) (by assumption) ?_
              rotate_left
              · (intro w hSw; (try dsimp only at hSw); go_simp) <;> with_reducible rfl
              try simp only [Act.put, List.setIfInBounds_toArray, List.set_cons_zero, List.set_cons_succ, List.getElem_toArray, List.getElem_cons_succ, List.getElem_cons_zero]
              refine wpAnyH_take (i := 3) (v := ?_) rfl (by kernel_rfl) (by kernel_rfl) (by kernel_rfl) (fun _ _ _ h => h) (Or.inl ⟨by rfl, ?_⟩) (by assumption) ?_
              rotate_left
              · (intro w hSw; (try dsimp only at hSw); go_simp) <;> with_reducible rfl
              try simp only [Act.put, List.setIfInBounds_toArray, List.set_cons_zero, List.set_cons_succ, List.getElem_toArray, List.getElem_cons_succ, List.getElem_cons_zero]
              refine wpAnyH_take (i := 4) (v := ?_) rfl (by kernel_rfl) (by kernel_rfl) (by kernel_rfl) (fun _ _ _ h => h) (Or.inl ⟨by rfl, ?_⟩) (by assumption) ?_
              rotate_left
              · (intro w hSw; (try dsimp only at hSw); go_simp) <;> with_reducible rfl
              try simp only [Act.put, List.setIfInBounds_toArray, List.set_cons_zero, List.set_cons_succ, List.getElem_toArray, List.getElem_cons_succ, List.getElem_cons_zero]
              refine wpAnyH_take (i := 5) (v := ?_) rfl (by kernel_rfl) (by kernel_rfl) (by kernel_rfl) (fun _ _ _ h => h) (Or.inl ⟨by rfl, ?_⟩) (by assumption) ?_
              rotate_left
              · (intro w hSw; (try dsimp only at hSw); go_simp) <;> with_reducible rfl
              try simp only [Act.put, List.setIfInBounds_toArray, List.set_cons_zero, List.set_cons_succ, List.getElem_toArray, List.getElem_cons_succ, List.getElem_cons_zero]
              refine wpAnyH_take (i := 6) (v := ?_) rfl (by kernel_rfl) (by kernel_rfl) (by kernel_rfl) (fun _ _ _ h => h) (Or.inl ⟨by rfl, ?_⟩) (by assumption) ?_
              rotate_left
              · (intro w hSw; (try dsimp only at hSw); go_simp) <;> with_reducible rfl
              try simp only [Act.put, List.setIfInBounds_toArray, List.set_cons_zero, List.set_cons_succ, List.getElem_toArray, List.getElem_cons_succ, List.getElem_cons_zero]
              refine wpAnyH_ready (rs := [7]) (by kernel_rfl) (by simp) ?_
              refine AllReadyH.cons rfl (fun K hK => ?_) AllReadyH.nil
              (refine step_shift (by rfl) (.tmp 40) (.tmp 43) _ _ (by rfl) 3 Try.underlying84 (by kernel_rfl) _ _ _ _ _ _ (by rfl) (by rfl) (O8.out.drew) k (by omega) (by omega) (by omega) (fun h => by first | rfl | (exfalso; omega)) (fun h => by first | rfl | exact if_neg (by omega) | (exfalso; omega)) (by intro x hx; rw [show intsRow acc ++ [Value.int IntKind.i64 0] = intsRow (acc ++ [0]) by rw [intsRow_append]; rfl] at hx; exact intsRow_one _ x hx) ?_; intro w7 ho7 hb7)
              refine hK.out _ _ ?_ (fun hHeld => ?_)
              · (try dsimp only); first | done | trivial
              clear hK K
              try simp only [Act.put, List.setIfInBounds_toArray, List.set_cons_zero, List.set_cons_succ, List.getElem_toArray, List.getElem_cons_succ, List.getElem_cons_zero]
              refine wpAnyH_done (by kernel_rfl) ?_ _
              have O7 := Lib.hid ho7
              have b7 : Below w.heap.size w w7 := (b8.drew).trans hb7
              clear ho7
              obtain ⟨x7, d7⟩ := own_cell O7.out (j := k) (by omega)
              have f7 := O7.out.frozenAt k
              have hkq : (k : Int) < (q : Int) + 1 := by omega
              go_wp2
              go_roundw
              case rel =>
                refine ⟨q + 1, insAt acc k q, _, _, by omega, by go_num, rfl, by rw [orderBy, ← Hacc.out, Hpos.out], ?_, b7.setCell (World.ownsRow.lt O7.out g8 rfl).1 _⟩
                have h := (O7.out.stored k (.int .i64 q)).1
                rw [show intsRow acc ++ [Value.int IntKind.i64 0] = intsRow (acc ++ [0]) by rw [intsRow_append]; rfl, show q + 1 - (k + 1) = acc.length - k by omega, splice_shift acc k (by omega)] at h
                exact h
              case measure => simp [intOf]; omega
          · have t2 : decide ((promiseAt L q).day < (promiseAt L b).day) = true := by simp; omega
            have Hle := Lib.hid (show ¬ (promiseAt L b).day ≤ (promiseAt L q).day from hle)
            clear hle
            go_wp2
            go_quiet (fail)
            go_wp2
            clear i3
            go_roundw
            case rel => exact ⟨k - 1, m + _, by omega, by go_num, fun j h1 h2 => by
              by_cases e : j = k - 1
              · subst e; rw [Hbe.out]; exact (by have := Hle.out; unfold dayKey; simp only [Int.toNat_natCast]; omega)
              · exact Hall.out j (by omega) h2, rfl⟩
            case measure => simp [intOf]; omega
        · have hk00 : k = 0 := by omega
          have t0 : decide ((0 : Int) < (k : Int)) = false := by simp; omega
          have t1 : decide (0 < k) = false := by simp; omega
          have HK := Lib.hid hk00
          clear hk00
          go_wp2
          go_quiet (fail)
          have Hpos := Lib.hid (show posOf (dayKey L) acc (dayKey L q) = k by rw [Hacc.out]; exact posOf_down hk (fun j h1 h2 => by rw [← Hacc.out]; exact Int.not_le.2 (Hall.out j h1 h2)) (.inl HK.out))
          have hk0 : (0 : Int) ≤ (k : Int) := Int.natCast_nonneg _
          go_wp2_with (at_builtin; refine wpList_append_sl _ rfl (.tmp 34) (.tmp 35) _ rfl w.heap.size 3 j0 _ 1 8 Try.underlying84 hj hy0 hy1 hy2 rfl (by omega) _ q (intsRow acc) rfl ((own_drewN Ob.out _).alloc _) (some ⟨wb.heap.size, 0, none⟩) 1 1 [.int .i64 0] rfl (Rd.of_block (cs := #[.int .i64 0]) (heap_alloc_new _ _) rfl) (by intro x hx; simp at hx; subst hx; rfl) (by unfold maxLen; omega) (by omega) (by simp <;> omega) ?_; intro A8 c8 w8 ho8 hg8 hor8)
          have b8 : Below w.heap.size w w8 := ((below_drewN bb _).alloc (by simp <;> omega) _).grown hg8 (by simp <;> omega) (fun p hp => (World.ownsRow.lt Ob.out p hp).1)
          have O8 := Lib.hid ho8
          clear ho8 hg8 hor8
          obtain ⟨g8, cc, hv8, _, hg8lt⟩ := own_form O8.out (by omega)
          injection hv8 with hA8 hn8 hc8'
          subst hA8
          clear hn8 hc8' cc
          obtain ⟨cur, hcur, hbg, hnc, hcm, hcl, hct, hcopy⟩ := own_cur O8.out
          unfold maxLen at hcm
          have Hcur := Lib.hid hcur
          have Hct := Lib.hid hct
          have Hcopy := Lib.hid hcopy
          have Hcl := Lib.hid hcl
          clear hcur hct hcopy hcl
          have x1 := IntWalk.i64_in ((k : Int) + 1) (by omega)
          have hk1 : (0 : Int) ≤ (k : Int) + 1 := by omega
          have hk2 : (k : Int) + 1 ≤ (q : Int) + 1 := by omega
          have hk3 : (k : Int) ≤ (q : Int) + 1 := by omega
          by_cases hcap : c8 = k + 1
          · have HC := Lib.hid hcap
            subst hcap
            refine wp_region_held_drew (S := (fun _ => True)) (by kernel_rfl) ?_ (fun hHeld => ?_)
            · (try dsimp only); first | done | trivial
            refine wpAnyH_take (i := 0) (v := ?_) rfl (by kernel_rfl) (by kernel_rfl) (by kernel_rfl) (fun _ _ _ h => h) (Or.inl ⟨by rfl, ?_⟩) (by assumption) ?_
            rotate_left
            · (intro w hSw; (try dsimp only at hSw); go_simp) <;> with_reducible rfl
            try simp only [Act.put, List.setIfInBounds_toArray, List.set_cons_zero, List.set_cons_succ, List.getElem_toArray, List.getElem_cons_succ, List.getElem_cons_zero]
            refine wpAnyH_take (i := 1) (v := ?_) rfl (by kernel_rfl) (by kernel_rfl) (by kernel_rfl) (fun _ _ _ h => h) (Or.inl ⟨by rfl, ?_⟩) (by assumption) ?_
            rotate_left
            · (intro w hSw; (try dsimp only at hSw); go_simp) <;> with_reducible rfl
            try simp only [Act.put, List.setIfInBounds_toArray, List.set_cons_zero, List.set_cons_succ, List.getElem_toArray, List.getElem_cons_succ, List.getElem_cons_zero]
            refine wpAnyH_take (i := 2) (v := ?_) rfl (by kernel_rfl) (by kernel_rfl) (by kernel_rfl) (fun _ _ _ h => h) (Or.inl ⟨by rfl, ?_⟩) (by assumption) ?_
            rotate_left
            · (intro w hSw; (try dsimp only at hSw); go_simp) <;> with_reducible rfl
            try simp only [Act.put, List.setIfInBounds_toArray, List.set_cons_zero, List.set_cons_succ, List.getElem_toArray, List.getElem_cons_succ, List.getElem_cons_zero]
            refine wpAnyH_take (i := 3) (v := ?_) rfl (by kernel_rfl) (by kernel_rfl) (by kernel_rfl) (fun _ _ _ h => h) (Or.inl ⟨by rfl, ?_⟩) (by assumption) ?_
            rotate_left
            · (intro w hSw; (try dsimp only at hSw); go_simp) <;> with_reducible rfl
            try simp only [Act.put, List.setIfInBounds_toArray, List.set_cons_zero, List.set_cons_succ, List.getElem_toArray, List.getElem_cons_succ, List.getElem_cons_zero]
            refine wpAnyH_take (i := 4) (v := ?_) rfl (by kernel_rfl) (by kernel_rfl) (by kernel_rfl) (fun _ _ _ h => h) (Or.inl ⟨by rfl, ?_⟩) (by assumption) ?_
            rotate_left
            · (intro w hSw; (try dsimp only at hSw); go_simp) <;> with_reducible rfl
            try simp only [Act.put, List.setIfInBounds_toArray, List.set_cons_zero, List.set_cons_succ, List.getElem_toArray, List.getElem_cons_succ, List.getElem_cons_zero]
            refine wpAnyH_take (i := 5) (v := ?_) rfl (by kernel_rfl) (by kernel_rfl) (by kernel_rfl) (fun _ _ _ h => h) (Or.inl ⟨by rfl, ?_⟩) (by assumption) ?_
            rotate_left
            · (intro w hSw; (try dsimp only at hSw); go_simp) <;> with_reducible rfl
            try simp only [Act.put, List.setIfInBounds_toArray, List.set_cons_zero, List.set_cons_succ, List.getElem_toArray, List.getElem_cons_succ, List.getElem_cons_zero]
            refine wpAnyH_take (i := 6) (v := ?_) rfl (by kernel_rfl) (by kernel_rfl) (by kernel_rfl) (fun _ _ _ h => h) (Or.inl ⟨by rfl, ?_⟩) (by assumption) ?_
            rotate_left
            · (intro w hSw; (try dsimp only at hSw); go_simp) <;> with_reducible rfl
            try simp only [Act.put, List.setIfInBounds_toArray, List.set_cons_zero, List.set_cons_succ, List.getElem_toArray, List.getElem_cons_succ, List.getElem_cons_zero]
            refine wpAnyH_ready (rs := [7]) (by kernel_rfl) (by simp) ?_
            refine AllReadyH.cons rfl (fun K hK => ?_) AllReadyH.nil
            (refine step_shift (by rfl) (.tmp 40) (.tmp 43) _ _ (by rfl) 3 Try.underlying84 (by kernel_rfl) _ _ _ _ _ _ (by rfl) (by rfl) (O8.out.drew) k (by omega) (by omega) (by omega) (fun h => by first | rfl | (exfalso; omega)) (fun h => by first | rfl | exact if_neg (by omega) | (exfalso; omega)) (by intro x hx; rw [show intsRow acc ++ [Value.int IntKind.i64 0] = intsRow (acc ++ [0]) by rw [intsRow_append]; rfl] at hx; exact intsRow_one _ x hx) ?_; intro w7 ho7 hb7)
            refine hK.out _ _ ?_ (fun hHeld => ?_)
            · (try dsimp only); first | done | trivial
            clear hK K
            try simp only [Act.put, List.setIfInBounds_toArray, List.set_cons_zero, List.set_cons_succ, List.getElem_toArray, List.getElem_cons_succ, List.getElem_cons_zero]
            refine wpAnyH_done (by kernel_rfl) ?_ _
            have O7 := Lib.hid ho7
            have b7 : Below w.heap.size w w7 := (b8.drew).trans hb7
            clear ho7
            obtain ⟨x7, d7⟩ := own_cell O7.out (j := k) (by omega)
            have f7 := O7.out.frozenAt k
            have hkq : (k : Int) < (q : Int) + 1 := by omega
            go_wp2
            go_roundw
            case rel =>
              refine ⟨q + 1, insAt acc k q, _, _, by omega, by go_num, rfl, by rw [orderBy, ← Hacc.out, Hpos.out], ?_, b7.setCell (World.ownsRow.lt O7.out g8 rfl).1 _⟩
              have h := (O7.out.stored k (.int .i64 q)).1
              rw [show intsRow acc ++ [Value.int IntKind.i64 0] = intsRow (acc ++ [0]) by rw [intsRow_append]; rfl, show q + 1 - (k + 1) = acc.length - k by omega, splice_shift acc k (by omega)] at h
              exact h
            case measure => simp [intOf]; omega
          · skip
            refine wp_region_held_drew (S := (fun _ => True)) (by kernel_rfl) ?_ (fun hHeld => ?_)
            · (try dsimp only); first | done | trivial
            refine wpAnyH_take (i := 0) (v := ?_) rfl (by kernel_rfl) (by kernel_rfl) (by kernel_rfl) (fun _ _ _ h => h) (Or.inl ⟨by rfl, ?_⟩) (by assumption) ?_
            rotate_left
            · (intro w hSw; (try dsimp only at hSw); go_simp) <;> with_reducible rfl
            try simp only [Act.put, List.setIfInBounds_toArray, List.set_cons_zero, List.set_cons_succ, List.getElem_toArray, List.getElem_cons_succ, List.getElem_cons_zero]
            refine wpAnyH_take (i := 1) (v := ?_) rfl (by kernel_rfl) (by kernel_rfl) (by kernel_rfl) (fun _ _ _ h => h) (Or.inl ⟨by rfl, ?_⟩) (by assumption) ?_
            rotate_left
            · (intro w hSw; (try dsimp only at hSw); go_simp) <;> with_reducible rfl
            try simp only [Act.put, List.setIfInBounds_toArray, List.set_cons_zero, List.set_cons_succ, List.getElem_toArray, List.getElem_cons_succ, List.getElem_cons_zero]
            refine wpAnyH_take (i := 2) (v := ?_) rfl (by kernel_rfl) (by kernel_rfl) (by kernel_rfl) (fun _ _ _ h => h) (Or.inl ⟨by rfl, ?_⟩) (by assumption) ?_
            rotate_left
            · (intro w hSw; (try dsimp only at hSw); go_simp) <;> with_reducible rfl
            try simp only [Act.put, List.setIfInBounds_toArray, List.set_cons_zero, List.set_cons_succ, List.getElem_toArray, List.getElem_cons_succ, List.getElem_cons_zero]
            refine wpAnyH_take (i := 3) (v := ?_) rfl (by kernel_rfl) (by kernel_rfl) (by kernel_rfl) (fun _ _ _ h => h) (Or.inl ⟨by rfl, ?_⟩) (by assumption) ?_
            rotate_left
            · (intro w hSw; (try dsimp only at hSw); go_simp) <;> with_reducible rfl
            try simp only [Act.put, List.setIfInBounds_toArray, List.set_cons_zero, List.set_cons_succ, List.getElem_toArray, List.getElem_cons_succ, List.getElem_cons_zero]
            refine wpAnyH_take (i := 4) (v := ?_) rfl (by kernel_rfl) (by kernel_rfl) (by kernel_rfl) (fun _ _ _ h => h) (Or.inl ⟨by rfl, ?_⟩) (by assumption) ?_
            rotate_left
            · (intro w hSw; (try dsimp only at hSw); go_simp) <;> with_reducible rfl
            try simp only [Act.put, List.setIfInBounds_toArray, List.set_cons_zero, List.set_cons_succ, List.getElem_toArray, List.getElem_cons_succ, List.getElem_cons_zero]
            refine wpAnyH_take (i := 5) (v := ?_) rfl (by kernel_rfl) (by kernel_rfl) (by kernel_rfl) (fun _ _ _ h => h) (Or.inl ⟨by rfl, ?_⟩) (by assumption) ?_
            rotate_left
            · (intro w hSw; (try dsimp only at hSw); go_simp) <;> with_reducible rfl
            try simp only [Act.put, List.setIfInBounds_toArray, List.set_cons_zero, List.set_cons_succ, List.getElem_toArray, List.getElem_cons_succ, List.getElem_cons_zero]
            refine wpAnyH_take (i := 6) (v := ?_) rfl (by kernel_rfl) (by kernel_rfl) (by kernel_rfl) (fun _ _ _ h => h) (Or.inl ⟨by rfl, ?_⟩) (by assumption) ?_
            rotate_left
            · (intro w hSw; (try dsimp only at hSw); go_simp) <;> with_reducible rfl
            try simp only [Act.put, List.setIfInBounds_toArray, List.set_cons_zero, List.set_cons_succ, List.getElem_toArray, List.getElem_cons_succ, List.getElem_cons_zero]
            refine wpAnyH_ready (rs := [7]) (by kernel_rfl) (by simp) ?_
            refine AllReadyH.cons rfl (fun K hK => ?_) AllReadyH.nil
            (refine step_shift (by rfl) (.tmp 40) (.tmp 43) _ _ (by rfl) 3 Try.underlying84 (by kernel_rfl) _ _ _ _ _ _ (by rfl) (by rfl) (O8.out.drew) k (by omega) (by omega) (by omega) (fun h => by first | rfl | (exfalso; omega)) (fun h => by first | rfl | exact if_neg (by omega) | (exfalso; omega)) (by intro x hx; rw [show intsRow acc ++ [Value.int IntKind.i64 0] = intsRow (acc ++ [0]) by rw [intsRow_append]; rfl] at hx; exact intsRow_one _ x hx) ?_; intro w7 ho7 hb7)
            refine hK.out _ _ ?_ (fun hHeld => ?_)
            · (try dsimp only); first | done | trivial
            clear hK K
            try simp only [Act.put, List.setIfInBounds_toArray, List.set_cons_zero, List.set_cons_succ, List.getElem_toArray, List.getElem_cons_succ, List.getElem_cons_zero]
            refine wpAnyH_done (by kernel_rfl) ?_ _
            have O7 := Lib.hid ho7
            have b7 : Below w.heap.size w w7 := (b8.drew).trans hb7
            clear ho7
            obtain ⟨x7, d7⟩ := own_cell O7.out (j := k) (by omega)
            have f7 := O7.out.frozenAt k
            have hkq : (k : Int) < (q : Int) + 1 := by omega
            go_wp2
            go_roundw
            case rel =>
              refine ⟨q + 1, insAt acc k q, _, _, by omega, by go_num, rfl, by rw [orderBy, ← Hacc.out, Hpos.out], ?_, b7.setCell (World.ownsRow.lt O7.out g8 rfl).1 _⟩
              have h := (O7.out.stored k (.int .i64 q)).1
              rw [show intsRow acc ++ [Value.int IntKind.i64 0] = intsRow (acc ++ [0]) by rw [intsRow_append]; rfl, show q + 1 - (k + 1) = acc.length - k by omega, splice_shift acc k (by omega)] at h
              exact h
            case measure => simp [intOf]; omega
    · go_wp2
      go_ret
      have hqL : q = L.length := by omega
      subst hqL
      refine ⟨_, rfl, ?_, hb⟩
      rw [dayOrd, ← Hacc.out]
      exact Ho.out

end Go.Proofs.Ytgafjchbfbpmmaa
