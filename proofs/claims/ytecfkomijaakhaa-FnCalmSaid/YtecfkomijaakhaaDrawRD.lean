/- The walk of l21Draw: a recipe is drawn, rarely another list. Printed by gen_drawrd.py. -/
import Derived.Test.YtecfkomijaakhaaDrawR
namespace Go.Proofs.Ytecfkomijaakhaa
open Go.RowKit

/-- A step without After: the nil slice owns nothing. -/
theorem own_nil_ints (w : World) (base : Nat) : w.ownsRow base 2 1 (.slice none 0 0) (0 : Nat) (intsRow []) := World.ownsRow_nil _ _ _ _
set_option maxHeartbeats 16000000 in
theorem drawS_any (w : World) (base g : Nat) (A : Option Addr) (n c : Nat) (hs : Src w base g A n c) :
    Calls Try.prog 77 #[.pointer (some ⟨g, 0, none⟩)] w fun e w' => ∃ (L : List Step) (V : Value), e = .returned V ∧ OwnS w' w.heap.size V L ∧ L.length ≤ 10 ∧ Src w' base g A n c ∧ w.grownBy w' (some g) := by
  have Hs := Lib.hid hs
  have hgl := hs.lt
  obtain ⟨i0, hi, hz0, hz1, hz2⟩ := info_parts Try.infoStep
  clear hs
  go_enter Try.func77, Try.ntmps77
  go_wp2_with fail
  refine (goodS_any w base g A n c Hs.out).mono ?_
  rintro e w2 ⟨L, V, rfl, ⟨xs, ho, he⟩, hL, hs, hg⟩
  obtain ⟨Ao, co, rfl, hoc, hoc2⟩ := own_slice ho
  have Hs2 := Lib.hid hs
  have Hg2 := Lib.hid hg
  have Ho2 := Lib.hid ho
  have He2 := Lib.hid he
  clear hs hg ho he
  go_wp2_with fail
  refine (next_any _ base g A n c 40 Hs2.out).mono ?_
  rintro e w3 ⟨z, rfl, hx, hs, hg⟩
  have NG := Lib.hid (show (Value.slice Ao L.length co).ownBlock ≠ some g from fun h => by have := (World.ownsRow.lt Ho2.out _ h).1; omega)
  have Hs3 := Lib.hid hs
  have Hg3 := Lib.hid (gb_trans Hg2.out hg)
  have Ho3 := Lib.hid (Ho2.out.kept hg (.inr NG.out))
  have He3 := Lib.hid (He2.out.src hg hgl)
  have hsz3 := Hg3.out.size
  have hgl3 := hs.lt
  clear hs hg hx
  unfold maxLen at hoc2
  by_cases hq0 : z = 0
  · subst hq0
    go_wp2_with fail
    refine (pick_any _ base g A n c [0, 1, 240, 241] _ (Hs3.out.below ((Below.refl _ _).alloc (Nat.le_refl _) (.cells #[.int .i64 0, .int .i64 1, .int .i64 240, .int .i64 241] 2))) (by have := sl_laid w3 [0, 1, 240, 241] (by simp [maxLen]); simpa [intsRow] using this) (by simp) (by simp) (fun h => by have : w3.heap.size = g := (by simpa [Value.ownBlock] using h); omega)).mono ?_
    rintro e w4 ⟨p1, hmp, rfl, hs, hg⟩
    have Hs4 := Lib.hid hs
    have Hg4 := Lib.hid (gb_trans (gb_below Hg3.out ((Below.refl _ _).alloc (Nat.le_refl _) (.cells #[.int .i64 0, .int .i64 1, .int .i64 240, .int .i64 241] 2))) hg)
    have Ho4 := Lib.hid ((Ho3.out.alloc _).kept hg (.inr NG.out))
    have He4 := Lib.hid ((He3.out.below ((Below.refl _ _).alloc (Nat.le_refl _) (.cells #[.int .i64 0, .int .i64 1, .int .i64 240, .int .i64 241] 2))).src hg hgl)
    have hsz4 := Hg4.out.size
    have hgl4 := hs.lt
    clear hs hg hmp
    go_wp2_with fail
    refine (pick_any _ base g A n c [9, 10] _ (Hs4.out.below ((Below.refl _ _).alloc (Nat.le_refl _) (.cells #[.int .i64 9, .int .i64 10] 2))) (by have := sl_laid w4 [9, 10] (by simp [maxLen]); simpa [intsRow] using this) (by simp) (by simp) (fun h => by have : w4.heap.size = g := (by simpa [Value.ownBlock] using h); omega)).mono ?_
    rintro e w5 ⟨p2, hmp, rfl, hs, hg⟩
    have Hs5 := Lib.hid hs
    have Hg5 := Lib.hid (gb_trans (gb_below Hg4.out ((Below.refl _ _).alloc (Nat.le_refl _) (.cells #[.int .i64 9, .int .i64 10] 2))) hg)
    have Ho5 := Lib.hid ((Ho4.out.alloc _).kept hg (.inr NG.out))
    have He5 := Lib.hid ((He4.out.below ((Below.refl _ _).alloc (Nat.le_refl _) (.cells #[.int .i64 9, .int .i64 10] 2))).src hg hgl)
    have hsz5 := Hg5.out.size
    have hgl5 := hs.lt
    clear hs hg hmp
    go_wp2_with (at_builtin; refine wpList_append_sl _ rfl (.tmp 10) (.tmp 18) _ rfl w.heap.size 51 i0 _ 3 40 Try.underlying25 hi hz0 hz1 hz2 rfl (by omega) _ L.length xs rfl (Ho5.out.alloc _) (some ⟨w5.heap.size, 0, none⟩) 1 1 [.int .i64 p1, .int .i64 p2, .slice none 0 0] rfl (Rd.of_block (cs := #[.int .i64 p1, .int .i64 p2, .slice none 0 0]) (heap_alloc_new _ _) rfl) (stepCells_one _ _ (own_nil_ints w5 0)) (by unfold maxLen; omega) (by omega) (by simp; omega) ?_; intro A9 c9 w9 ho9 hg9 hor9)
    have hg9s : (w5.alloc (.cells #[.int .i64 p1, .int .i64 p2, .slice none 0 0] 51)).grownBy w9 (Value.slice Ao L.length co).ownBlock := hg9
    have hrow : (∀ r, (Value.slice Ao L.length co).ownBlock = some r → w.heap.size ≤ r ∧ r < w5.heap.size) := (fun r hr => World.ownsRow.lt Ho5.out r hr)
    have hbA : Below w5.heap.size w5 (w5.alloc (.cells #[.int .i64 p1, .int .i64 p2, .slice none 0 0] 51)) := (Below.refl _ _).alloc (Nat.le_refl _) _
    have Hs9 := Lib.hid ((Hs5.out.below hbA).other hg9s (fun r hr => by have := (hrow r hr).1; omega))
    have Hg9 := Lib.hid (gb_other (gb_below Hg5.out hbA) hg9s (fun r hr => (hrow r hr).1))
    have He9 := Lib.hid (((He5.out.below hbA).row (own_below Ho5.out hbA) hg9s).snoc (s := ⟨p1, p2, []⟩) Ho5.out.1 (v := .slice none 0 0) (own_nil_ints _ _))
    have Ho9 := Lib.hid ho9
    clear ho9 hg9 hor9 hrow hg9s hbA
    go_wp2
    go_ret
    exact ⟨L ++ [⟨p1, p2, []⟩], _, rfl, ⟨_, by rw [List.length_append]; exact Ho9.out, He9.out⟩, by simp; omega, Hs9.out, Hg9.out⟩
  · by_cases hq1 : z = 1
    · subst hq1
      clear hq0
      by_cases hl1 : 1 < L.length
      · have hli : (1 : Int) < (L.length : Int) := by omega
        obtain ⟨go, cg, hv, hgo1, hgo2⟩ := own_form Ho3.out (by omega)
        injection hv with hv1 hv2 hv3
        subst hv1
        subst hv3
        obtain ⟨hx1, hx2⟩ := own_cell Ho3.out (j := 2) (by omega)
        obtain ⟨hx3, hx4⟩ := own_cell Ho3.out (j := 5) (by omega)
        have fr2 := Ho3.out.frozenAt 2
        have fr5 := Ho3.out.frozenAt 5
        obtain ⟨wB, hwB⟩ : ∃ wB, wB = (w3.setCell ⟨go, 2, none⟩ (.slice (some ⟨w3.heap.size, 0, none⟩) 1 1)).setCell ⟨go, 5, none⟩ (.slice (some ⟨w3.heap.size + 1, 0, none⟩) 1 1) := ⟨_, rfl⟩
        have hzB : wB.heap.size = w3.heap.size := by rw [hwB]; simp [World.setCell]
        have HoB : Hid (wB.ownsRow w.heap.size 51 3 (.slice (some ⟨go, 0, none⟩) L.length co) L.length ((xs.set 2 (.slice (some ⟨w3.heap.size, 0, none⟩) 1 1)).set 5 (.slice (some ⟨w3.heap.size + 1, 0, none⟩) 1 1))) := by rw [hwB]; exact Lib.hid ((Ho3.out.stored 2 _).1.stored 5 _).1
        have kB : w3.grownBy wB (some go) := by rw [hwB]; exact gb_trans (gb_set _ ⟨go, 2, none⟩ _) (gb_set _ ⟨go, 5, none⟩ _)
        have kBr : w3.grownBy wB (Value.slice (some ⟨go, 0, none⟩) L.length co).ownBlock := kB
        have HeB := Lib.hid (He3.out.row Ho3.out kBr)
        have HsB := Lib.hid (Hs3.out.other kB (fun r hr => by injection hr; omega))
        have HgB := Lib.hid (gb_other Hg3.out kB (fun r hr => by injection hr; omega))
        have bD := ((Below.refl wB.heap.size wB).alloc (Nat.le_refl _) (.cells #[.int .i64 1] 2)).alloc (by simp) (.cells #[.int .i64 0] 2)
        have HA : Hid (((wB.alloc (.cells #[.int .i64 1] 2)).alloc (.cells #[.int .i64 0] 2)).ownsRow w.heap.size 2 1 (.slice (some ⟨w3.heap.size, 0, none⟩) 1 1) ([1] : List Int).length (intsRow [1])) := by
          have := own_whole wB #[.int .i64 1] 2 1 1 (base := w.heap.size) (by omega) rfl (by simp [maxLen])
          rw [hzB] at this; exact Lib.hid (this.alloc _)
        have HB : Hid (((wB.alloc (.cells #[.int .i64 1] 2)).alloc (.cells #[.int .i64 0] 2)).ownsRow w.heap.size 2 1 (.slice (some ⟨w3.heap.size + 1, 0, none⟩) 1 1) ([0] : List Int).length (intsRow [0])) := by
          have := own_whole (wB.alloc (.cells #[.int .i64 1] 2)) #[.int .i64 0] 2 1 1 (base := w.heap.size) (by simp; omega) rfl (by simp [maxLen])
          rw [World.size_alloc, hzB] at this; exact Lib.hid this
        have hxl := Ho3.out.1
        have HeD := Lib.hid (((HeB.out.below bD).setAfter (i := 0) hxl (by omega) (a := [1]) HA.out).setAfter (i := 1) (by rw [List.length_set, List.length_set]; exact hxl) (by rw [List.length_set]; omega) (a := [0]) HB.out)
        have HoD := Lib.hid (own_below HoB.out bD)
        have HsD := Lib.hid (HsB.out.below bD)
        have HgD := Lib.hid (gb_below HgB.out bD)
        have j0 : (0 : Int) < (L.length : Int) := by omega
        clear kB kBr bD hxl hzB
        go_wp2
        rw [← hwB]
        go_ret
        exact ⟨_, _, rfl, ⟨_, by rw [List.length_set, List.length_set]; exact HoD.out, HeD.out⟩, by rw [List.length_set, List.length_set]; omega, HsD.out, HgD.out⟩
      · have hli : ¬ (1 : Int) < (L.length : Int) := by omega
        go_wp2
        go_ret
        exact ⟨L, _, rfl, ⟨xs, Ho3.out, He3.out⟩, by omega, Hs3.out, Hg3.out⟩
    · by_cases hq2 : z = 2
      · subst hq2
        clear hq0 hq1
        go_wp2
        go_loopw [3] (fun o wr => ∃ (L : List Step) (xs : List Value) (Ao : Option Addr) (co : Nat), o = .slice Ao L.length co ∧ L.length ≤ 10 ∧ wr.ownsRow w.heap.size 51 3 (.slice Ao L.length co) L.length xs ∧ ElS wr w.heap.size xs L ∧ Src wr base g A n c ∧ w.grownBy wr (some g)) (fun o _ => 10 - vLenD o)
        case atStart => exact ⟨L, xs, Ao, co, rfl, by omega, Ho3.out, He3.out, Hs3.out, Hg3.out⟩
        case round =>
          clear Ho2 He2 Hs2 Hg2 Ho3 He3 Hs3 Hg3 NG hoc hoc2 hL
          obtain ⟨L, xs, Ao, co, rfl, hL, ho, he, hsr, hg⟩ := hrel
          have Hs1 := Lib.hid hsr
          have Hg1 := Lib.hid hg
          have Ho1 := Lib.hid ho
          have He1 := Lib.hid he
          have hsz1 := hg.size
          have NG := Lib.hid (show (Value.slice Ao L.length co).ownBlock ≠ some g from fun h => by have := (World.ownsRow.lt ho _ h).1; omega)
          obtain ⟨_, hoc, hoc2⟩ := own_caps ho
          unfold maxLen at hoc2
          clear hsr hg ho he
          go_wp2_with fail
          refine (next_any _ base g A n c 2 Hs1.out).mono ?_
          rintro e w4 ⟨y, rfl, hx, hs, hg⟩
          have hy : y < 2 := by omega
          have Hs4 := Lib.hid hs
          have Hg4 := Lib.hid (gb_trans Hg1.out hg)
          have Ho4 := Lib.hid (Ho1.out.kept hg (.inr NG.out))
          have He4 := Lib.hid (He1.out.src hg hgl)
          have hsz4 := Hg4.out.size
          clear hs hg hx
          have xx := IntWalk.i64_in (9 + (y : Int)) (by omega)
          by_cases hlt : (L.length : Int) < 9 + (y : Int)
          · skip
            go_wp2_with (at_builtin; refine wpList_append_sl _ rfl (.tmp 41) (.tmp 43) _ rfl w.heap.size 51 i0 _ 3 40 Try.underlying25 hi hz0 hz1 hz2 rfl (by omega) _ L.length xs rfl (Ho4.out.alloc _) (some ⟨w4.heap.size, 0, none⟩) 1 1 [.int .i64 10, .int .i64 1, .slice none 0 0] rfl (Rd.of_block (cs := #[.int .i64 10, .int .i64 1, .slice none 0 0]) (heap_alloc_new _ _) rfl) (stepCells_one _ _ (own_nil_ints w4 0)) (by unfold maxLen; omega) (by omega) (by simp; omega) ?_; intro A9 c9 w9 ho9 hg9 hor9)
            have hg9s : (w4.alloc (.cells #[.int .i64 10, .int .i64 1, .slice none 0 0] 51)).grownBy w9 (Value.slice Ao L.length co).ownBlock := hg9
            have hrow : (∀ r, (Value.slice Ao L.length co).ownBlock = some r → w.heap.size ≤ r ∧ r < w4.heap.size) := (fun r hr => World.ownsRow.lt Ho4.out r hr)
            have hbA : Below w4.heap.size w4 (w4.alloc (.cells #[.int .i64 10, .int .i64 1, .slice none 0 0] 51)) := (Below.refl _ _).alloc (Nat.le_refl _) _
            have Hs9 := Lib.hid ((Hs4.out.below hbA).other hg9s (fun r hr => by have := (hrow r hr).1; omega))
            have Hg9 := Lib.hid (gb_other (gb_below Hg4.out hbA) hg9s (fun r hr => (hrow r hr).1))
            have He9 := Lib.hid (((He4.out.below hbA).row (own_below Ho4.out hbA) hg9s).snoc (s := ⟨10, 1, []⟩) Ho4.out.1 (v := .slice none 0 0) (own_nil_ints _ _))
            have Ho9 := Lib.hid ho9
            clear ho9 hg9 hor9 hrow hg9s hbA
            go_roundw
            case rel => exact ⟨L ++ [⟨10, 1, []⟩], _, A9, c9, by rw [List.length_append]; rfl, by simp; omega, by rw [List.length_append]; exact Ho9.out, He9.out, Hs9.out, Hg9.out⟩
            case measure => simp [vLenD]; omega
          · go_wp2
            go_ret
            exact ⟨L, _, rfl, ⟨xs, Ho4.out, He4.out⟩, hL, Hs4.out, Hg4.out⟩
      · have u0 : ((z : Int) == 0) = false := by simp; omega
        have u1 : ((z : Int) == 1) = false := by simp; omega
        have u2 : ((z : Int) == 2) = false := by simp; omega
        clear hq0 hq1 hq2
        go_wp2
        go_ret
        exact ⟨L, _, rfl, ⟨xs, Ho3.out, He3.out⟩, by omega, Hs3.out, Hg3.out⟩

end Go.Proofs.Ytecfkomijaakhaa
