/- Recipes: the walks of firstOrder, IsOrder, FirstOrder in the program; of IsOrder, FirstOrder in the reference. -/
import Derived.Test.YtecfkomijaakhaaRecD
namespace Go.Proofs.Ytecfkomijaakhaa
open Go.RowKit Go.Sort

theorem canGo_of {L : List Step} {out : List Int} {m k : Nat} (hM : MaskIs m out) (hs : ∀ j ∈ (stepAt L k).after, 0 ≤ j) : canGo L out k = (!m.testBit k && readyM (stepAt L k) m) := by
  rw [canGo, hM.ready hs, hM k]

set_option maxHeartbeats 4000000 in
theorem implFirst_any (w : World) (L : List Step) (V : Value) (hv : Steps w V L) (hrec : isRecipe L = true) :
    Calls Try.prog 67 #[V] w (Gives w.heap.size 2 1 (firstOrd L).length (intsRow (firstOrd L)) w) := by
  have Hv := Lib.hid hv
  obtain ⟨h9, hok, hfull⟩ := isRecipe_iff.1 hrec
  have Hok := Lib.hid hok
  have Hfull := Lib.hid hfull
  obtain ⟨A, c, rfl, hl, hc, hr⟩ := hv
  clear hr hl hc hok hfull hrec
  obtain ⟨i0, hi, hz0, hz1, hz2⟩ := info_parts Try.info_ints
  go_enter Try.func67, Try.ntmps67
  go_wp2
  go_loopw [3, 4] (fun o d wr => ∃ (f : Nat) (out : List Int) (A : Option Addr) (co m : Nat), d = .int .i64 m ∧ o = .slice A out.length co ∧ wr.ownsRow w.heap.size 2 1 (.slice A out.length co) out.length (intsRow out) ∧
      MaskIs m out ∧ m < 512 ∧ Grown L out ∧ greedyGo L f out = firstOrd L ∧ freeN L.length out ≤ f ∧ Below w.heap.size w wr) (fun o _ _ => L.length - vLen o)
  case atStart => exact ⟨L.length, [], none, 0, 0, rfl, rfl, World.ownsRow_nil _ _ _ _, MaskIs.zero, by omega, Grown.nil L, rfl, by rw [freeN_nil]; exact Nat.le_refl _, Below.refl _ _⟩
  case round =>
    obtain ⟨f, out, A1, co, m, rfl, rfl, ho, hM, hm, hgr, hgo, hfr, hb⟩ := hrel
    have Ho := Lib.hid ho
    have HM := Lib.hid hM
    have Hgr := Lib.hid hgr
    have Hgo := Lib.hid hgo
    have hle := hgr.le
    clear ho hM hgr hgo
    by_cases hlt0 : out.length < L.length
    · have hpick : pick L out ≠ none := fun h => by
        have h1 := Hgo.out
        rw [greedyGo_none h] at h1
        have h2 := Hfull.out
        rw [← h1] at h2; omega
      have Hpick := Lib.hid hpick
      clear hpick
      have hsz := hb.size
      have Hvr := Lib.hid (Hv.out.below hb)
      go_wp2
      go_loopw [3, 4, 13] (fun o d i wr' => ∃ (k : Nat), k ≤ L.length ∧ i = .int .i64 k ∧ o = .slice A1 out.length co ∧ d = .int .i64 m ∧ (∀ j, j < k → canGo L out j = false) ∧ wr' = wr) (fun _ _ i _ => L.length - (intOf i).toNat)
      case atStart => exact ⟨0, Nat.zero_le _, rfl, rfl, rfl, fun j h => absurd h (by omega), rfl⟩
      case round =>
        obtain ⟨k, hk, rfl, rfl, rfl, hall, rfl⟩ := hrel
        have Hall := Lib.hid hall
        clear hall
        by_cases hlt : k < L.length
        · have hcan := canGo_of (L := L) (k := k) HM.out (fun j hj => ((steps_bd Hok.out hlt).2.2.1 j hj).1)
          have Hcan := Lib.hid hcan
          clear hcan
          cases hbit : m.testBit k
          · have t1 := mask_no0 (m := m) (b := k) (by omega) (by omega) hbit
            have Hor := Lib.hid (mask_or (m := m) (b := k) (by omega) (by omega))
            go_wp2_with fail
            refine (implReady_any _ L _ m k Hvr.out hlt (fun j hj => by have := steps_after Hok.out hlt hj; omega) (by omega)).mono ?_
            rintro e w2 ⟨rfl, rfl⟩
            cases hrd : readyM (stepAt L k) m
            · have HC := Lib.hid (show canGo L out k = false by rw [Hcan.out, hrd]; simp)
              go_wp2
              go_roundw
              case rel => exact ⟨k + 1, by omega, by go_num, rfl, rfl, fun j hj => by
                by_cases e : j = k
                · subst e; exact HC.out
                · exact Hall.out j (by omega), trivial⟩
              case measure => simp [intOf]; omega
            · have hcan : canGo L out k = true := by rw [Hcan.out, hbit, hrd]; rfl
              have hp := pick_some hlt hcan Hall.out
              have hhas : hasI out k = false := by simp only [canGo, Bool.and_eq_true, Bool.not_eq_true'] at hcan; exact hcan.1
              have hg2 := Hgr.out.snoc hlt hcan
              have h1 := freeN_snoc out k hhas L.length
              rw [if_pos hlt] at h1
              obtain ⟨f', rfl⟩ : ∃ f', f = f' + 1 := ⟨f - 1, by omega⟩
              have hgo2 := Hgo.out
              rw [greedyGo_some hp] at hgo2
              have hmo : m ||| 2 ^ k < 512 := Nat.or_lt_two_pow (n := 9) (by omega) (Nat.pow_lt_pow_right (by omega) (by omega))
              have HMs := Lib.hid (HM.out.snoc k)
              have Hg2 := Lib.hid hg2
              have Hgo2 := Lib.hid hgo2
              clear hp hcan hg2 hgo2 hhas
              go_wp2_with (at_builtin; refine wpList_append_sl _ rfl (.tmp 27) (.tmp 29) _ rfl w.heap.size 2 i0 _ 1 8 Try.underlying29 hi hz0 hz1 hz2 rfl (by omega) _ out.length (intsRow out) rfl (Ho.out.alloc _) (some ⟨wr.heap.size, 0, none⟩) 1 1 [.int .i64 (k : Int)] rfl (Rd.of_block (cs := #[.int .i64 (k : Int)]) (heap_alloc_new _ _) rfl) (by intro x hx; simp at hx; subst hx; rfl) (by unfold maxLen; omega) (by omega) (by simp; omega) ?_; intro A9 c9 w9 ho9 hg9 hor9)
              have b9 : Below w.heap.size w w9 := (hb.alloc (by omega) _).grown hg9 (by simp; omega) (fun q hq => (World.ownsRow.lt Ho.out q hq).1)
              have Ho9 := Lib.hid ho9
              clear ho9 hg9 hor9
              go_roundw
              case rel =>
                refine ⟨f', out ++ [(k : Int)], A9, c9, m ||| 2 ^ k, valI Hor.out, ?_, ?_, HMs.out, hmo, Hg2.out, Hgo2.out, by omega, b9⟩
                · rw [List.length_append]; rfl
                · rw [List.length_append, intsRow_append]; exact Ho9.out
              case measure => simp [vLen]; omega
          · have t1 := mask_yes0 (m := m) (b := k) (by omega) (by omega) hbit
            have HC := Lib.hid (show canGo L out k = false by rw [Hcan.out, hbit]; rfl)
            go_wp2
            go_roundw
            case rel => exact ⟨k + 1, by omega, by go_num, rfl, rfl, fun j hj => by
              by_cases e : j = k
              · subst e; exact HC.out
              · exact Hall.out j (by omega), trivial⟩
            case measure => simp [intOf]; omega
        · exact absurd (pick_none (fun j hj => Hall.out j (by omega))) Hpick.out
    · have H := Lib.hid (show firstOrd L = out by
        obtain ⟨t, ht⟩ := greedyGo_pre L f out
        have h1 := Hgo.out
        rw [ht] at h1
        have h2 := Hfull.out
        rw [← h1, List.length_append] at h2
        rw [← h1, List.eq_nil_of_length_eq_zero (show t.length = 0 by omega)]; simp)
      go_wp2
      go_ret
      exact ⟨_, rfl, by rw [H.out]; exact Ho.out, hb⟩

set_option maxHeartbeats 1600000 in
theorem implIsOrder_any (w : World) (L : List Step) (V : Value) (P : List Int) (u : Value) (hv : Steps w V L) (hn : L.length ≤ 1048576) (hu : Sl w 1 u P.length (intsRow P)) (_ : P.length ≤ 4194304) :
    Calls Try.prog 23 #[V, u] w (RetBC (isOrderF L P) w) := by
  have Hv := Lib.hid hv
  have Hu := Lib.hid hu
  clear hv hu
  cases h1 : isRecipe L
  · have H := Lib.hid (show isOrderF L P = (false, 1) by simp [isOrderF, h1])
    go_enter Try.func23, Try.ntmps23
    go_wp2_with fail
    refine (implIsRecipe_any w L _ Hv.out hn).mono ?_
    rintro e w2 ⟨rfl, hb2⟩
    rw [h1]
    go_wp2
    go_ret2
    exact RetBC.ok H.out hb2
  · have H := Lib.hid (show isOrderF L P = (ordOk L P, 0) by simp [isOrderF, h1])
    obtain ⟨h9, hok, _⟩ := isRecipe_iff.1 h1
    have Hok := Lib.hid hok
    clear hok
    go_enter Try.func23, Try.ntmps23
    go_wp2_with fail
    refine (implIsRecipe_any w L _ Hv.out hn).mono ?_
    rintro e w2 ⟨rfl, hb2⟩
    rw [h1]
    go_wp2_with fail
    refine (implIsOrd_any w2 L _ P _ (Hv.out.below hb2) Hok.out h9 (Hu.out.below hb2)).mono ?_
    rintro e w3 ⟨rfl, hb3⟩
    have b3 := hb2.trans (hb3.mono hb2.size)
    go_wp2
    go_ret2
    exact RetBC.ok H.out b3

set_option maxHeartbeats 1600000 in
theorem specIsOrder_any (w : World) (L : List Step) (V : Value) (P : List Int) (u : Value) (hv : Steps w V L) (hn : L.length ≤ 1048576) (hu : Sl w 1 u P.length (intsRow P)) (_ : P.length ≤ 4194304) :
    Calls Try.prog 21 #[V, u] w (RetBC (isOrderF L P) w) := by
  have Hv := Lib.hid hv
  have Hu := Lib.hid hu
  clear hv hu
  cases h1 : isRecipe L
  · have H := Lib.hid (show isOrderF L P = (false, 1) by simp [isOrderF, h1])
    go_enter Try.func21, Try.ntmps21
    go_wp2_with fail
    refine (specIsRecipe_any w L _ Hv.out hn).mono ?_
    rintro e w2 ⟨rfl, hb2⟩
    rw [h1]
    go_wp2
    go_ret2
    exact RetBC.ok H.out hb2
  · have H := Lib.hid (show isOrderF L P = (ordOk L P, 0) by simp [isOrderF, h1])
    go_enter Try.func21, Try.ntmps21
    go_wp2_with fail
    refine (specIsRecipe_any w L _ Hv.out hn).mono ?_
    rintro e w2 ⟨rfl, hb2⟩
    rw [h1]
    go_wp2_with fail
    refine (specIsOrd_any w2 L _ P _ (Hv.out.below hb2) hn (Hu.out.below hb2)).mono ?_
    rintro e w3 ⟨rfl, hb3⟩
    have b3 := hb2.trans (hb3.mono hb2.size)
    go_wp2
    go_ret2
    exact RetBC.ok H.out b3

set_option maxHeartbeats 1600000 in
theorem implFirstOrder_any (w : World) (L : List Step) (V : Value) (hv : Steps w V L) (hn : L.length ≤ 1048576) :
    Calls Try.prog 30 #[V] w (RetSC w.heap.size 2 1 intsRow (firstOrderF L) w) := by
  have Hv := Lib.hid hv
  clear hv
  cases h1 : isRecipe L
  · have H := Lib.hid (show firstOrderF L = ([], 1) by simp [firstOrderF, h1])
    go_enter Try.func30, Try.ntmps30
    go_wp2_with fail
    refine (implIsRecipe_any w L _ Hv.out hn).mono ?_
    rintro e w2 ⟨rfl, hb2⟩
    rw [h1]
    go_wp2
    go_ret2
    exact RetSC.err H.out rfl hb2
  · have H := Lib.hid (show firstOrderF L = (firstOrd L, 0) by simp [firstOrderF, h1])
    go_enter Try.func30, Try.ntmps30
    go_wp2_with fail
    refine (implIsRecipe_any w L _ Hv.out hn).mono ?_
    rintro e w2 ⟨rfl, hb2⟩
    rw [h1]
    go_wp2_with fail
    refine (implFirst_any w2 L _ (Hv.out.below hb2) h1).mono ?_
    rintro e w3 ⟨y, rfl, ho, hb3⟩
    have b3 := hb2.trans (hb3.mono hb2.size)
    have Ho := Lib.hid ho
    clear ho
    go_wp2
    go_ret2
    exact RetSC.ok H.out Ho.out rfl rfl hb2.size b3

set_option maxHeartbeats 1600000 in
theorem specFirstOrder_any (w : World) (L : List Step) (V : Value) (hv : Steps w V L) (hn : L.length ≤ 1048576) :
    Calls Try.prog 29 #[V] w (RetSC w.heap.size 2 1 intsRow (firstOrderF L) w) := by
  have Hv := Lib.hid hv
  clear hv
  cases h1 : isRecipe L
  · have H := Lib.hid (show firstOrderF L = ([], 1) by simp [firstOrderF, h1])
    go_enter Try.func29, Try.ntmps29
    go_wp2_with fail
    refine (specIsRecipe_any w L _ Hv.out hn).mono ?_
    rintro e w2 ⟨rfl, hb2⟩
    rw [h1]
    go_wp2
    go_ret2
    exact RetSC.err H.out rfl hb2
  · have H := Lib.hid (show firstOrderF L = (firstOrd L, 0) by simp [firstOrderF, h1])
    have h9 := (isRecipe_iff.1 h1).1
    go_enter Try.func29, Try.ntmps29
    go_wp2_with fail
    refine (specIsRecipe_any w L _ Hv.out hn).mono ?_
    rintro e w2 ⟨rfl, hb2⟩
    rw [h1]
    go_wp2_with fail
    refine (specFirst_any w2 L _ (Hv.out.below hb2) (Nat.le_trans h9 (by decide))).mono ?_
    rintro e w3 ⟨y, rfl, ho, hb3⟩
    have b3 := hb2.trans (hb3.mono hb2.size)
    have Ho := Lib.hid ho
    clear ho
    go_wp2
    go_ret2
    exact RetSC.ok H.out Ho.out rfl rfl hb2.size b3

end Go.Proofs.Ytecfkomijaakhaa
