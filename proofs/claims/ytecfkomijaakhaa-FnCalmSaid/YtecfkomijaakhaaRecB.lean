/- Recipes: the walks of l21First and IsRecipe in the reference. -/
import Derived.Test.YtecfkomijaakhaaRecA
namespace Go.Proofs.Ytecfkomijaakhaa
open Go.RowKit

def vLen : Value → Nat
  | .slice _ n _ => n
  | _ => 0
def vBit : Value → Nat
  | .bool true => 1
  | _ => 0

set_option maxHeartbeats 4000000 in
theorem specFirst_any (w : World) (L : List Step) (V : Value) (hv : Steps w V L) (h9 : L.length ≤ 10) :
    Calls Try.prog 57 #[V] w (Gives w.heap.size 2 1 (firstOrd L).length (intsRow (firstOrd L)) w) := by
  obtain ⟨A, c, rfl, hl, hc, hr⟩ := hv
  have Hr := Lib.hid hr
  clear hr hl hc
  obtain ⟨i0, hi, hz0, hz1, hz2⟩ := info_parts Try.info_ints
  go_enter Try.func57, Try.ntmps57
  go_wp2
  go_loopw [3, 4] (fun o m wr => ∃ (f : Nat) (out : List Int) (g co : Nat) (b : Bool), m = .bool b ∧ o = .slice (some ⟨g, 0, none⟩) out.length co ∧ wr.ownsRow w.heap.size 2 1 (.slice (some ⟨g, 0, none⟩) out.length co) out.length (intsRow out) ∧
      Grown L out ∧ greedyGo L f out = firstOrd L ∧ freeN L.length out ≤ f ∧ (b = false → pick L out = none) ∧ Below w.heap.size w wr) (fun o m _ => 2 * (L.length - vLen o) + vBit m)
  case atStart => exact ⟨L.length, [], w.heap.size, 0, true, rfl, rfl, own_empty _ _ _ (Nat.le_refl _), Grown.nil L, rfl, by rw [freeN_nil]; exact Nat.le_refl _, fun h => (by cases h), (Below.refl _ _).alloc (Nat.le_refl _) _⟩
  case round =>
    obtain ⟨f, out, g, co, b, rfl, rfl, ho, hgr, hgo, hfr, hno, hb⟩ := hrel
    have Ho := Lib.hid ho
    have Hgr := Lib.hid hgr
    have Hgo := Lib.hid hgo
    have hle := hgr.le
    clear ho hgr hgo
    cases b
    · have hnone := hno rfl
      have H := Lib.hid (show firstOrd L = out by rw [← Hgo.out]; exact greedyGo_none hnone)
      clear hno hnone
      go_wp2
      go_ret
      exact ⟨_, rfl, by rw [H.out]; exact Ho.out, hb⟩
    · clear hno
      go_wp2
      rename World => wo
      have Hb := Lib.hid hb
      clear hb
      go_loopw [3, 4, 5] (fun o m i wr => ∃ (k : Nat) (out' : List Int) (g co : Nat) (b : Bool), k ≤ L.length ∧ i = .int .i64 k ∧ m = .bool b ∧ o = .slice (some ⟨g, 0, none⟩) out'.length co ∧ wr.ownsRow w.heap.size 2 1 (.slice (some ⟨g, 0, none⟩) out'.length co) out'.length (intsRow out') ∧
          ((b = false ∧ out' = out ∧ ∀ j, j < k → canGo L out j = false) ∨ (b = true ∧ ∃ j : Nat, pick L out = some j ∧ out' = out ++ [(j : Int)])) ∧ Below w.heap.size w wr) (fun _ _ i _ => L.length - (intOf i).toNat)
      case atStart => exact ⟨0, out, g, co, false, Nat.zero_le _, rfl, rfl, rfl, Ho.out, .inl ⟨rfl, rfl, fun j h => absurd h (by omega)⟩, Hb.out⟩
      case round =>
        clear Ho Hb
        obtain ⟨k, out', g, co, b, hk, rfl, rfl, rfl, ho, hcase, hb⟩ := hrel
        have Ho := Lib.hid ho
        have hsz := hb.size
        clear ho
        rcases hcase with ⟨rfl, rfl, hall⟩ | ⟨rfl, j, hp, he⟩
        · have Hall := Lib.hid hall
          clear hall
          by_cases hlt : k < L.length
          · obtain ⟨gs, os, rfl, hgs, c0, c1, B, cc, c2, hcc, hcm, hrd⟩ := (Hr.out.below hb).at hlt
            have Hrd := Lib.hid hrd
            clear hrd
            cases hh : hasI out' (k : Int)
            · go_wp2_with fail
              refine (specHas_any _ _ _ _ (Sl.of_own Ho.out)).mono ?_
              rintro e w2 ⟨rfl, rfl⟩
              rw [hh]
              go_wp2_with fail
              refine (specDone_any _ (stepAt L k) B cc out' _ Hrd.out hcc hcm (Sl.of_own Ho.out)).mono ?_
              rintro e w3 ⟨rfl, hb3⟩
              have hb4 := hb.trans (hb3.mono hsz)
              have hs3 := hb3.size
              have Ho3 := Lib.hid (own_below Ho.out hb3)
              clear c0 c1 c2
              cases hd : doneIn (stepAt L k) out'
              · go_wp2
                go_roundw
                case rel => exact ⟨k + 1, out', g, co, false, by omega, by go_num, rfl, rfl, Ho3.out, .inl ⟨rfl, rfl, fun j hj => by
                  by_cases e : j = k
                  · subst e; simp [canGo, hh, hd]
                  · exact Hall.out j (by omega)⟩, hb4⟩
                case measure => simp [intOf]; omega
              · have hp := pick_some hlt (show canGo L out' k = true by simp [canGo, hh, hd]) Hall.out
                have Hp := Lib.hid hp
                clear hp
                go_wp2_with (at_builtin; refine wpList_append_sl _ rfl (.tmp 30) (.tmp 32) _ rfl w.heap.size 2 i0 _ 1 8 Try.underlying29 hi hz0 hz1 hz2 rfl (by omega) _ out'.length (intsRow out') rfl (Ho3.out.alloc _) (some ⟨w3.heap.size, 0, none⟩) 1 1 [.int .i64 (k : Int)] rfl (Rd.of_block (cs := #[.int .i64 (k : Int)]) (heap_alloc_new _ _) rfl) (by intro x hx; simp at hx; subst hx; rfl) (by unfold maxLen; omega) (by omega) (by simp; omega) ?_; intro A9 c9 w9 ho9 hg9 hor9)
                have b9 : Below w.heap.size w w9 := (hb4.alloc (by omega) _).grown hg9 (by simp; omega) (fun q hq => (World.ownsRow.lt Ho3.out q hq).1)
                obtain ⟨g9, cx, hA9, _, _⟩ := own_form ho9 (by omega)
                injection hA9 with hA9
                subst hA9
                have Ho9 := Lib.hid ho9
                clear ho9 hg9 hor9
                go_roundw
                case rel =>
                  refine ⟨k + 1, out' ++ [(k : Int)], g9, c9, true, by omega, by go_num, rfl, ?_, ?_, .inr ⟨rfl, k, Hp.out, rfl⟩, b9⟩
                  · rw [List.length_append]; rfl
                  · rw [List.length_append, intsRow_append]; exact Ho9.out
                case measure => simp [intOf]; omega
            · go_wp2_with fail
              refine (specHas_any _ _ _ _ (Sl.of_own Ho.out)).mono ?_
              rintro e w2 ⟨rfl, rfl⟩
              rw [hh]
              go_wp2
              go_roundw
              case rel => exact ⟨k + 1, out', g, co, false, by omega, by go_num, rfl, rfl, Ho.out, .inl ⟨rfl, rfl, fun j hj => by
                by_cases e : j = k
                · subst e; simp [canGo, hh]
                · exact Hall.out j (by omega)⟩, hb⟩
              case measure => simp [intOf]; omega
          · have hnone : pick L out' = none := pick_none (fun j hj => Hall.out j (by omega))
            have Hn := Lib.hid hnone
            clear hnone
            go_wp2
            go_roundw
            case rel => exact ⟨f, out', g, co, false, rfl, rfl, Ho.out, Hgr.out, Hgo.out, hfr, fun _ => Hn.out, hb⟩
            case measure => simp [vLen, vBit]
        · obtain ⟨hj, hcan⟩ := pick_is hp
          have hg2 := Hgr.out.snoc hj hcan
          have hl2 := hg2.le
          have hhas : hasI out j = false := by simp only [canGo, Bool.and_eq_true, Bool.not_eq_true'] at hcan; exact hcan.1
          have h1 := freeN_snoc out j hhas L.length
          rw [if_pos hj] at h1
          obtain ⟨f', rfl⟩ : ∃ f', f = f' + 1 := ⟨f - 1, by omega⟩
          have hgo2 := Hgo.out
          rw [greedyGo_some hp] at hgo2
          subst he
          have Hg2 := Lib.hid hg2
          have Hgo2 := Lib.hid hgo2
          clear hp hcan hg2 hgo2 hhas
          simp only [List.length_append, List.length_singleton] at hl2
          by_cases hlt : k < L.length
          all_goals
            go_wp2
            go_roundw
            case rel => exact ⟨f', out ++ [(j : Int)], g, co, true, rfl, by simp, Ho.out, Hg2.out, Hgo2.out, by omega, fun h => (by cases h), hb⟩
            case measure => simp [vLen, vBit]; omega

set_option maxHeartbeats 4000000 in
theorem specIsRecipe_any (w : World) (L : List Step) (V : Value) (hv : Steps w V L) (hn : L.length ≤ 1048576) :
    Calls Try.prog 17 #[V] w (RetB (isRecipe L) w) := by
  have Hv := Lib.hid hv
  obtain ⟨A, c, rfl, hl, hc, hr⟩ := hv
  have Hr := Lib.hid hr
  unfold maxLen at hc
  clear hr
  go_enter Try.func17, Try.ntmps17
  go_wp2
  go_loopw [3] (fun i wr => ∃ k : Nat, k ≤ L.length ∧ i = .int .i64 k ∧ (∀ j, j < k → stepOk L.length j (stepAt L j) = true) ∧ Below w.heap.size w wr) (fun i _ => L.length - (intOf i).toNat)
  case atStart => exact ⟨0, Nat.zero_le _, rfl, fun j h => absurd h (by omega), Below.refl _ _⟩
  case round =>
    obtain ⟨k, hk, rfl, hall, hb⟩ := hrel
    have Hall := Lib.hid hall
    clear hall
    have hsz := hb.size
    by_cases hlt : k < L.length
    · obtain ⟨gs, os, rfl, hgs, c0, c1, B, cc, c2, hcc, hcm, hrd⟩ := (Hr.out.below hb).at hlt
      obtain ⟨s, hs⟩ : ∃ s, s = stepAt L k := ⟨_, rfl⟩
      rw [← hs] at c0 c1 c2 hcc hrd
      have HB := Lib.hid (fun h : stepOk L.length k s = false => isRecipe_bad (stepsOk_no hlt (by rw [← hs]; exact h)))
      have HS := Lib.hid hs
      obtain ⟨x, hx⟩ : ∃ x, x = wr.alloc (.cells #[.int .i64 s.minutes, .int .i64 s.tool, .slice B s.after.length cc] 51) := ⟨_, rfl⟩
      have hbx : Below wr.heap.size wr x := by rw [hx]; exact (Below.refl _ _).alloc (Nat.le_refl _) _
      have hxs : wr.heap.size < x.heap.size := by rw [hx]; simp
      have hB := Blk.new wr 51 #[.int .i64 s.minutes, .int .i64 s.tool, .slice B s.after.length cc]
      rw [← hx] at hB
      have k0 : x.cell? ⟨wr.heap.size, 0, none⟩ = some (.int .i64 s.minutes) := hB.cell 0
      have k1 : x.cell? ⟨wr.heap.size, 1, none⟩ = some (.int .i64 s.tool) := hB.cell 1
      have k2 : x.cell? ⟨wr.heap.size, 2, none⟩ = some (.slice B s.after.length cc) := hB.cell 2
      have Hsl := Lib.hid (show Sl x 1 (.slice B s.after.length cc) s.after.length (intsRow s.after) from ⟨B, cc, rfl, hcc, hcm, hrd.below' hbx⟩)
      have bx := hb.trans (hbx.mono hsz)
      have Bx := Lib.hid bx
      clear hrd hs hB hbx
      go_wp2_with fail
      rw [← hx]
      clear hx
      refine (l01In_any _ _ _ _).mono ?_
      rintro e w2 ⟨rfl, rfl⟩
      cases h1 : inR s.minutes 1 240
      · have H := Lib.hid (HB.out (by simp [stepOk, h1]))
        go_wp2
        go_ret
        exact RetB.ok H.out Bx.out
      · go_wp2_with fail
        refine (l01In_any _ _ _ _).mono ?_
        rintro e w2 ⟨rfl, rfl⟩
        cases h2 : inR s.tool 0 9
        · have H := Lib.hid (HB.out (by simp [stepOk, h2]))
          go_wp2
          go_ret
          exact RetB.ok H.out Bx.out
        · go_wp2_with fail
          refine (specRises_any _ s.after _ (L.length : Int) Hsl.out (by omega)).mono ?_
          rintro e w3 ⟨rfl, hb3⟩
          have b3 := Bx.out.trans (hb3.mono Bx.out.size)
          have k2' : w3.cell? ⟨wr.heap.size, 2, none⟩ = some (.slice B s.after.length cc) := (hb3.cell (by simpa using hxs)).trans k2
          have Hsl3 := Lib.hid (Hsl.out.below hb3)
          clear k0 k1 k2 c0 c1 c2
          cases h3 : risesN L.length s.after
          · have H := Lib.hid (HB.out (by simp [stepOk, h3]))
            go_wp2
            go_ret
            exact RetB.ok H.out b3
          · go_wp2_with fail
            refine (specHas_any _ s.after _ (k : Int) Hsl3.out).mono ?_
            rintro e w4 ⟨rfl, rfl⟩
            cases h4 : hasI s.after k
            · have HO := Lib.hid (show stepOk L.length k s = true by simp [stepOk, h1, h2, h3, h4])
              go_wp2
              go_roundw
              case rel => exact ⟨k + 1, by omega, by go_num, fun j hj => by
                by_cases e : j = k
                · subst e; rw [← HS.out]; exact HO.out
                · exact Hall.out j (by omega), b3⟩
              case measure => simp [intOf]; omega
            · have H := Lib.hid (HB.out (by simp [stepOk, h4]))
              go_wp2
              go_ret
              exact RetB.ok H.out b3
    · have hok : stepsOk L = true := stepsOk_iff.2 (fun j hj => Hall.out j (by omega))
      by_cases h9 : L.length ≤ 9
      · have Hok := Lib.hid hok
        have Hvr := Lib.hid (Hv.out.below hb)
        clear hok
        go_wp2_with fail
        refine (specFirst_any _ L _ Hvr.out (Nat.le_trans h9 (by decide))).mono ?_
        rintro e w3 ⟨y, rfl, ho, hb3⟩
        obtain ⟨Ay, cy, rfl, _, _⟩ := own_slice ho
        have b3 := hb.trans (hb3.mono hsz)
        clear ho
        by_cases he : (firstOrd L).length = L.length
        · have H := Lib.hid (show isRecipe L = true from isRecipe_iff.2 ⟨h9, Hok.out, he⟩)
          have t1 : (((firstOrd L).length : Int) == (L.length : Int)) = true := by rw [he]; simp
          clear he
          go_wp2
          go_ret
          exact RetB.ok H.out b3
        · have H := Lib.hid (show isRecipe L = false by simp [isRecipe, he])
          have t1 : (((firstOrd L).length : Int) == (L.length : Int)) = false := by simp; omega
          clear he
          go_wp2
          go_ret
          exact RetB.ok H.out b3
      · have H := Lib.hid (isRecipe_long h9)
        go_wp2
        go_ret
        exact RetB.ok H.out hb

set_option maxHeartbeats 4000000 in
theorem implIsRecipe_any (w : World) (L : List Step) (V : Value) (hv : Steps w V L) (hn : L.length ≤ 1048576) :
    Calls Try.prog 19 #[V] w (RetB (isRecipe L) w) := by
  have Hv := Lib.hid hv
  obtain ⟨A, c, rfl, hl, hc, hr⟩ := hv
  have Hr := Lib.hid hr
  unfold maxLen at hc
  clear hr
  by_cases h9 : L.length ≤ 9
  · go_enter Try.func19, Try.ntmps19
    go_wp2
    go_loopw [14] (fun i wr => ∃ k : Nat, k ≤ L.length ∧ i = .int .i64 k ∧ (∀ j, j < k → stepOk L.length j (stepAt L j) = true) ∧ Below w.heap.size w wr) (fun i _ => L.length - (intOf i).toNat)
    case atStart => exact ⟨0, Nat.zero_le _, rfl, fun j h => absurd h (by omega), Below.refl _ _⟩
    case round =>
      obtain ⟨k, hk, rfl, hall, hb⟩ := hrel
      have Hall := Lib.hid hall
      clear hall
      have hsz := hb.size
      by_cases hlt : k < L.length
      · obtain ⟨gs, os, rfl, hgs, c0, c1, B, cc, c2, hcc, hcm, hrd⟩ := (Hr.out.below hb).at hlt
        obtain ⟨s, hs⟩ : ∃ s, s = stepAt L k := ⟨_, rfl⟩
        rw [← hs] at c0 c1 c2 hcc hrd
        have HB := Lib.hid (fun h : stepOk L.length k s = false => isRecipe_bad (stepsOk_no hlt (by rw [← hs]; exact h)))
        have HS := Lib.hid hs
        obtain ⟨x, hx⟩ : ∃ x, x = wr.alloc (.cells #[.int .i64 s.minutes, .int .i64 s.tool, .slice B s.after.length cc] 51) := ⟨_, rfl⟩
        have hbx : Below wr.heap.size wr x := by rw [hx]; exact (Below.refl _ _).alloc (Nat.le_refl _) _
        have hB := Blk.new wr 51 #[.int .i64 s.minutes, .int .i64 s.tool, .slice B s.after.length cc]
        rw [← hx] at hB
        have k0 : x.cell? ⟨wr.heap.size, 0, none⟩ = some (.int .i64 s.minutes) := hB.cell 0
        have k1 : x.cell? ⟨wr.heap.size, 1, none⟩ = some (.int .i64 s.tool) := hB.cell 1
        have k2 : x.cell? ⟨wr.heap.size, 2, none⟩ = some (.slice B s.after.length cc) := hB.cell 2
        have Hrd := Lib.hid (hrd.below' hbx)
        have Bx := Lib.hid (hb.trans (hbx.mono hsz))
        unfold maxLen at hcm
        clear hrd hs hB hbx
        go_wp2_with fail
        rw [← hx]
        clear hx c0 c1 c2
        refine (within_any _ _ _ _).mono ?_
        rintro e w2 ⟨rfl, rfl⟩
        cases h1 : inR s.minutes 1 240
        · have H := Lib.hid (HB.out (by simp [stepOk, h1]))
          go_wp2
          go_ret
          exact RetB.ok H.out Bx.out
        · go_wp2_with fail
          refine (within_any _ _ _ _).mono ?_
          rintro e w2 ⟨rfl, rfl⟩
          cases h2 : inR s.tool 0 9
          · have H := Lib.hid (HB.out (by simp [stepOk, h2]))
            go_wp2
            go_ret
            exact RetB.ok H.out Bx.out
          · go_wp2
            go_loop [32] (fun b => ∃ q : Nat, q ≤ s.after.length ∧ b = .int .i64 q ∧ ∀ j, j < q → (0 ≤ intsAt s.after j ∧ intsAt s.after j ≤ (L.length : Int) - 1 ∧ (0 < j → intsAt s.after (j - 1) < intsAt s.after j)) ∧ intsAt s.after j ≠ k) (fun b => s.after.length - (intOf b).toNat)
            case atStart => exact ⟨0, Nat.zero_le _, rfl, fun j h => absurd h (by omega)⟩
            case round =>
              obtain ⟨q, hq, rfl, hin⟩ := hrel
              have Hin := Lib.hid hin
              clear hin
              by_cases hql : q < s.after.length
              · obtain ⟨g, o, rfl, hg, d0⟩ := Hrd.out.ints hql
                by_cases hr1 : 0 ≤ intsAt s.after q ∧ intsAt s.after q ≤ (L.length : Int) - 1
                · have hinr : inR (intsAt s.after q) 0 ((L.length : Int) - 1) = true := by simp [inR]; omega
                  by_cases he : intsAt s.after q = k
                  · have H := Lib.hid (HB.out (by
                      have : hasI s.after k = true := by rw [hasI_iff, ← he, intsAt_lt hql]; exact List.getElem_mem hql
                      simp [stepOk, this]))
                    have t1 : (intsAt s.after q == (k : Int)) = true := by simpa using he
                    clear he
                    go_wp2_with (go_at_call 59; refine (within_any _ _ _ _).mono ?_; rintro e w2 ⟨rfl, rfl⟩)
                    go_ret
                    exact RetB.ok H.out Bx.out
                  · have t1 : (intsAt s.after q == (k : Int)) = false := by simpa using he
                    have He := Lib.hid he
                    clear he
                    rcases Nat.eq_zero_or_pos q with hq0 | hq0
                    · subst hq0
                      rw [Nat.add_zero] at d0
                      go_wp2_with (go_at_call 59; refine (within_any _ _ _ _).mono ?_; rintro e w2 ⟨rfl, rfl⟩)
                      go_round
                      case rel => exact ⟨1, by omega, by go_num, fun j hj => by
                        obtain rfl : j = 0 := by omega
                        exact ⟨⟨hr1.1, hr1.2, fun h => absurd h (by omega)⟩, He.out⟩⟩
                      case measure => simp [intOf]; omega
                    · obtain ⟨p, rfl⟩ : ∃ p, q = p + 1 := ⟨q - 1, by omega⟩
                      obtain ⟨g', o', hA, hg', d1⟩ := Hrd.out.ints (k := p) (by omega)
                      injection hA with hA
                      injection hA with hA1 hA2
                      subst hA1
                      subst hA2
                      by_cases h5 : intsAt s.after p < intsAt s.after (p + 1)
                      · have t2 : decide (intsAt s.after (p + 1) ≤ intsAt s.after p) = false := by simp; omega
                        go_wp2_with (go_at_call 59; refine (within_any _ _ _ _).mono ?_; rintro e w2 ⟨rfl, rfl⟩)
                        go_round
                        case rel => exact ⟨p + 2, by omega, by go_num, fun j hj => by
                          by_cases e : j = p + 1
                          · subst e; exact ⟨⟨hr1.1, hr1.2, fun _ => h5⟩, He.out⟩
                          · exact Hin.out j (by omega)⟩
                        case measure => simp [intOf]; omega
                      · have t2 : decide (intsAt s.after (p + 1) ≤ intsAt s.after p) = true := by simp; omega
                        have H := Lib.hid (HB.out (by
                          have : risesN L.length s.after = false := risesN_no hql (fun h => h5 (h.2.2 (by omega)))
                          simp [stepOk, this]))
                        go_wp2_with (go_at_call 59; refine (within_any _ _ _ _).mono ?_; rintro e w2 ⟨rfl, rfl⟩)
                        go_ret
                        exact RetB.ok H.out Bx.out
                · have hinr : inR (intsAt s.after q) 0 ((L.length : Int) - 1) = false := by simp [inR]; omega
                  have H := Lib.hid (HB.out (by
                    have : risesN L.length s.after = false := risesN_no hql (fun h => hr1 ⟨h.1, h.2.1⟩)
                    simp [stepOk, this]))
                  go_wp2_with (go_at_call 59; refine (within_any _ _ _ _).mono ?_; rintro e w2 ⟨rfl, rfl⟩)
                  go_ret
                  exact RetB.ok H.out Bx.out
              · have HO := Lib.hid (show stepOk L.length k s = true by
                  have e1 : risesN L.length s.after = true := risesN_iff.2 (fun j hj => (Hin.out j (by omega)).1)
                  have e2 : hasI s.after k = false := by
                    rw [hasI_no]
                    intro hx
                    obtain ⟨j, hj, e⟩ := List.mem_iff_getElem.1 hx
                    exact (Hin.out j (by omega)).2 (by rw [intsAt_lt hj]; exact e)
                  simp [stepOk, h1, h2, e1, e2])
                go_wp2
                go_roundw
                case rel => exact ⟨k + 1, by omega, by go_num, fun j hj => by
                  by_cases e : j = k
                  · subst e; rw [← HS.out]; exact HO.out
                  · exact Hall.out j (by omega), Bx.out⟩
                case measure => simp [intOf]; omega
      · have hok : stepsOk L = true := stepsOk_iff.2 (fun j hj => Hall.out j (by omega))
        have Hok := Lib.hid hok
        have Hvr := Lib.hid (Hv.out.below hb)
        have hp9 : 2 ^ L.length ≤ 2 ^ 9 := Nat.pow_le_pow_right (by omega) h9
        clear hok
        go_wp2
        go_loop [7, 66] (fun d i => ∃ (q m : Nat), q ≤ L.length ∧ i = .int .i64 q ∧ d = .int .i64 m ∧ Found L q 0 m) (fun _ i => L.length - (intOf i).toNat)
        case atStart => exact ⟨0, 0, Nat.zero_le _, rfl, rfl, Found.zero L⟩
        case round =>
          obtain ⟨q, m, hq, rfl, rfl, hf⟩ := hrel
          have hml := hf.lt
          have Hf := Lib.hid hf
          clear hf
          by_cases hql : q < L.length
          · go_wp2
            go_loop [7, 70] (fun d i => ∃ (p m : Nat), p ≤ L.length ∧ i = .int .i64 p ∧ d = .int .i64 m ∧ Found L q p m) (fun _ i => L.length - (intOf i).toNat)
            case atStart => exact ⟨0, m, Nat.zero_le _, rfl, rfl, Hf.out⟩
            case round =>
              clear Hf hml
              obtain ⟨p, m, hp, rfl, rfl, hf⟩ := hrel
              have hml := hf.lt
              have Hf := Lib.hid hf
              clear hf
              by_cases hpl : p < L.length
              · have HL := Lib.hid (Hf.out.look Hok.out hpl)
                cases hbit : m.testBit p
                · have t1 := mask_no0 (m := m) (b := p) (by omega) (by omega) hbit
                  have o1 := mask_or (m := m) (b := p) (by omega) (by omega)
                  have Ho := Lib.hid o1
                  clear o1
                  go_wp2_with fail
                  refine (implReady_any _ L _ m p Hvr.out hpl (fun j hj => by have := steps_after Hok.out hpl hj; omega) (by omega)).mono ?_
                  rintro e w2 ⟨rfl, rfl⟩
                  cases hrdy : readyM (stepAt L p) m
                  · go_wp2
                    go_round
                    case rel => exact ⟨p + 1, m, by omega, by go_num, rfl, by have := HL.out; rw [show lookM L m p = m by simp [lookM, hrdy]] at this; exact this⟩
                    case measure => simp [intOf]; omega
                  · go_wp2
                    go_round
                    case rel => exact ⟨p + 1, m ||| 2 ^ p, by omega, by go_num, valI Ho.out, by have := HL.out; rw [show lookM L m p = m ||| 2 ^ p by simp [lookM, hrdy, hbit]] at this; exact this⟩
                    case measure => simp [intOf]; omega
                · have t1 := mask_yes0 (m := m) (b := p) (by omega) (by omega) hbit
                  go_wp2
                  go_round
                  case rel => exact ⟨p + 1, m, by omega, by go_num, rfl, by have := HL.out; rw [show lookM L m p = m by simp [lookM, hbit]] at this; exact this⟩
                  case measure => simp [intOf]; omega
              · have hpe : p = L.length := by omega
                subst hpe
                go_wp2
                go_round
                case rel => exact ⟨q + 1, m, by omega, by go_num, rfl, Hf.out.next⟩
                case measure => simp [intOf]; omega
          · have hqe : q = L.length := by omega
            have hfull := Hf.out
            rw [hqe] at hfull
            have Hfull := Lib.hid hfull.full
            have p3 : isRecipe L = ((m : Int) == wrap64 (wrap64 ((2 : Int) ^ L.length) - 1)) := by
              have p1 : ((2 : Int) ^ L.length) = ((2 ^ L.length : Nat) : Int) := by simp
              have p2 : 0 < 2 ^ L.length := Nat.two_pow_pos _
              have p4 := Hfull.out
              rw [p1]
              generalize (2 : Nat) ^ L.length = x at p2 p4 hp9
              rw [IntWalk.wrap64_in (x : Int) ⟨by omega, by omega⟩, IntWalk.wrap64_in _ ⟨by omega, by omega⟩]
              by_cases he : m = x - 1
              · rw [isRecipe_iff.2 ⟨h9, Hok.out, p4.1 he⟩]
                symm
                simp; omega
              · have hno : ¬ (firstOrd L).length = L.length := fun h => he (p4.2 h)
                rw [show isRecipe L = false by simp [isRecipe, hno]]
                symm
                simp; omega
            have P3 := Lib.hid p3
            clear hfull p3
            go_wp2
            go_ret
            exact RetB.ok P3.out hb
  · have H := Lib.hid (isRecipe_long h9)
    go_enter Try.func19, Try.ntmps19
    go_wp2
    go_ret
    exact RetB.ok H.out (Below.refl _ _)

end Go.Proofs.Ytecfkomijaakhaa
