/- The walk of l21Good: a recipe is drawn. Printed by gen_drawr.py. -/
import Derived.Test.YtecfkomijaakhaaOwnS
import Derived.Test.YtecfkomijaakhaaSrcF
import Derived.Test.YtecfkomijaakhaaApp
namespace Go.Proofs.Ytecfkomijaakhaa
open Go.RowKit

set_option maxHeartbeats 16000000 in
theorem goodS_any (w : World) (base g : Nat) (A : Option Addr) (n c : Nat) (hs : Src w base g A n c) :
    Calls Try.prog 82 #[.pointer (some ⟨g, 0, none⟩)] w fun e w' => ∃ (L : List Step) (V : Value), e = .returned V ∧ OwnS w' w.heap.size V L ∧ L.length ≤ 7 ∧ Src w' base g A n c ∧ w.grownBy w' (some g) := by
  have Hs := Lib.hid hs
  have hgl := hs.lt
  obtain ⟨i0, hi, hz0, hz1, hz2⟩ := info_parts Try.infoStep
  obtain ⟨j0, hj, hy0, hy1, hy2⟩ := info_parts Try.info_ints
  clear hs
  go_enter Try.func82, Try.ntmps82
  go_wp2_with fail
  refine (next_any _ base g A n c 7 (Hs.out.below ((Below.refl _ _).alloc (Nat.le_refl _) (.cells #[] 51)))).mono ?_
  rintro e w2 ⟨m, rfl, hx, hs, hg⟩
  have hm : m < 7 := by omega
  have Hs2 := Lib.hid hs
  have Hg2 := Lib.hid (gb_trans (gb_below (gb_refl w (some g)) ((Below.refl _ _).alloc (Nat.le_refl _) (.cells #[] 51))) hg)
  have Ho2 := Lib.hid ((own_empty w 51 3 (Nat.le_refl _)).kept hg (.inr (by simp [Value.ownBlock]; omega)))
  clear hs hg hx
  go_wp2_with fail
  refine (next_any _ base g A n c 2 Hs2.out).mono ?_
  rintro e w3 ⟨y, rfl, hx, hs, hg⟩
  have Hs3 := Lib.hid hs
  have Hg3 := Lib.hid (gb_trans Hg2.out hg)
  have Ho3 := Lib.hid (Ho2.out.kept hg (.inr (by simp [Value.ownBlock]; omega)))
  clear hs hg hx
  obtain ⟨tn, htn⟩ : ∃ tn : Bool, ((y : Int) == 0) = tn := ⟨_, rfl⟩
  go_wp2
  clear htn
  go_loopw [3, 6] (fun o i wr => ∃ (L : List Step) (xs : List Value) (Ao : Option Addr) (co k : Nat), o = .slice Ao L.length co ∧ i = .int .i64 k ∧ k ≤ m ∧ L.length ≤ k ∧ wr.ownsRow w.heap.size 51 3 (.slice Ao L.length co) L.length xs ∧ ElS wr w.heap.size xs L ∧ Src wr base g A n c ∧ w.grownBy wr (some g)) (fun _ i _ => m - (intOf i).toNat)
  case atStart => exact ⟨[], [], _, _, 0, rfl, rfl, Nat.zero_le _, by simp, Ho3.out, ElS.nil _ _, Hs3.out, Hg3.out⟩
  case round =>
    clear Ho3 Hs3 Hg3 Ho2 Hs2 Hg2
    obtain ⟨L, xs, Ao, co, k, rfl, rfl, hk, hLk, ho, he, hsr, hg⟩ := hrel
    have Hs1 := Lib.hid hsr
    have Hg1 := Lib.hid hg
    have Ho1 := Lib.hid ho
    have He1 := Lib.hid he
    have hsz1 := hg.size
    clear hsr hg ho he
    by_cases hkm : k < m
    · have hki : (k : Int) < (m : Int) := by omega
      go_wp2_with fail
      refine (next_any _ base g A n c 12 Hs1.out).mono ?_
      rintro e w4 ⟨x, rfl, hx, hs, hg⟩
      have hx12 : x < 12 := by omega
      have Hs4 := Lib.hid hs
      have Hg4 := Lib.hid (gb_trans Hg1.out hg)
      have Ho4 := Lib.hid (Ho1.out.kept hg (.inr (fun h => by have := (World.ownsRow.lt Ho1.out _ h).1; omega)))
      have He4 := Lib.hid (He1.out.src hg hgl)
      have x1 := IntWalk.i64_in (1 + (x : Int)) (by omega)
      have x2 := IntWalk.i64_in (5 * (1 + (x : Int))) (by omega)
      clear hs hg hx
      go_wp2_with fail
      refine (next_any _ base g A n c 3 Hs4.out).mono ?_
      rintro e w5 ⟨tl, rfl, hx, hs, hg⟩
      have Hs5 := Lib.hid hs
      have Hg5 := Lib.hid (gb_trans Hg4.out hg)
      have Ho5 := Lib.hid (Ho4.out.kept hg (.inr (fun h => by have := (World.ownsRow.lt Ho4.out _ h).1; omega)))
      have He5 := Lib.hid (He4.out.src hg hgl)
      have hgl5 := hs.lt
      have hsz5 := Hg5.out.size
      obtain ⟨mi, hmi⟩ : ∃ mi, mi = 5 * (1 + (x : Int)) := ⟨_, rfl⟩
      rw [← hmi] at x2
      clear hs hg hx
      have b6 := ((Below.refl w5.heap.size w5).alloc (Nat.le_refl _) (.cells #[] 2)).alloc (by simp) (.cells #[.int .i64 mi, .int .i64 (tl : Int), .slice (some ⟨w5.heap.size, 0, none⟩) 0 0] 51)
      have HB6 := Lib.hid (show Blk ((w5.alloc (.cells #[] 2)).alloc (.cells #[.int .i64 mi, .int .i64 (tl : Int), .slice (some ⟨w5.heap.size, 0, none⟩) 0 0] 51)) (w5.heap.size + 1) 51 #[.int .i64 mi, .int .i64 (tl : Int), .slice (some ⟨w5.heap.size, 0, none⟩) 0 0] by have := Blk.new (w5.alloc (.cells #[] 2)) 51 #[.int .i64 mi, .int .i64 (tl : Int), .slice (some ⟨w5.heap.size, 0, none⟩) 0 0]; rw [World.size_alloc] at this; exact this)
      have HO6 := Lib.hid ((own_empty w5 2 1 (Nat.le_refl _)).alloc (.cells #[.int .i64 mi, .int .i64 (tl : Int), .slice (some ⟨w5.heap.size, 0, none⟩) 0 0] 51))
      have HB6b := Lib.hid b6
      clear b6
      go_wp2
      rw [← hmi]
      clear hmi x1 x2
      go_loopw [8] (fun kk wr => ∃ (q : Nat) (F : List Int) (Ax : Option Addr) (cx : Nat), kk = .int .i64 q ∧ q ≤ m ∧ F.length ≤ q ∧ Blk wr (w5.heap.size + 1) 51 #[.int .i64 mi, .int .i64 (tl : Int), .slice Ax F.length cx] ∧ wr.ownsRow w5.heap.size 2 1 (.slice Ax F.length cx) F.length (intsRow F) ∧ Src wr base g A n c ∧ w5.grownBy wr (some g)) (fun kk _ => m - (intOf kk).toNat)
      case atStart => exact ⟨0, [], some ⟨w5.heap.size, 0, none⟩, 0, rfl, Nat.zero_le _, by simp, HB6.out, HO6.out, Hs5.out.below HB6b.out, gb_below (gb_refl _ _) HB6b.out⟩
      case round =>
        clear HB6 HO6 HB6b
        obtain ⟨q, F, Ax, cx, rfl, hq, hFq, hB, hoF, hsr, hgr⟩ := hrel
        have HB := Lib.hid hB
        have HF := Lib.hid hoF
        have HN := Lib.hid (blk_type_apart hoF hB (by decide))
        have HFG := Lib.hid (show (Value.slice Ax F.length cx).ownBlock ≠ some g from fun h => by have := (World.ownsRow.lt hoF _ h).1; omega)
        have Hs6 := Lib.hid hsr
        have Hg6 := Lib.hid hgr
        have hsz6 := hgr.size
        have hBl := hB.lt
        have q0 := hB.cell 0
        have q1 := hB.cell 1
        have q2 := hB.cell 2
        have f2 := hB.frozen 2
        simp only [List.getElem?_toArray, List.getElem?_cons_zero, List.getElem?_cons_succ] at q0 q1 q2
        clear hB hoF hsr hgr
        by_cases hqm : q < m
        · have hqi : (q : Int) < (m : Int) := by omega
          cases tn
          · by_cases hqk : (k : Int) < (q : Int)
            · skip
              clear q0 q1 q2 f2
              go_wp2_with fail
              refine (next_any _ base g A n c 4 Hs6.out).mono ?_
              rintro e w7 ⟨z, rfl, hx, hs, hg⟩
              have Hs7 := Lib.hid hs
              have Hg7 := Lib.hid (gb_trans Hg6.out hg)
              have HB7 := Lib.hid (HB.out.grown hg (fun e => by injection e; omega))
              have HF7 := Lib.hid (HF.out.kept hg (.inr HFG.out))
              have hsz7 := hg.size
              have hgl7 := hs.lt
              have q2 := HB7.out.cell 2
              have f2 := HB7.out.frozen 2
              simp only [List.getElem?_toArray, List.getElem?_cons_zero, List.getElem?_cons_succ] at q2
              clear hs hg hx
              by_cases hz : z = 0
              · subst hz
                go_wp2_with (at_builtin; refine wpList_append_sl _ rfl (.tmp 54) (.tmp 56) _ rfl w5.heap.size 2 j0 _ 1 8 Try.underlying29 hj hy0 hy1 hy2 rfl (by omega) _ F.length (intsRow F) rfl (HF7.out.alloc _) (some ⟨w7.heap.size, 0, none⟩) 1 1 [.int .i64 (q : Int)] rfl (Rd.of_block (cs := #[.int .i64 (q : Int)]) (heap_alloc_new _ _) rfl) (by intro x hx; simp at hx; subst hx; rfl) (by unfold maxLen; omega) (by omega) (by simp; omega) ?_; intro A9 c9 w9 ho9 hg9 hor9; have hg9s : (w7.alloc (.cells #[.int .i64 (q : Int)] 2)).grownBy w9 (Value.slice Ax F.length cx).ownBlock := hg9; have HB9 := Lib.hid ((HB7.out.alloc (.cells #[.int .i64 (q : Int)] 2)).grown hg9s (fun e => HN.out e.symm)); have q3 := HB9.out.frozen 2; have q4 := HB9.out.cell 2; simp only [List.getElem?_toArray, List.getElem?_cons_zero, List.getElem?_cons_succ] at q4)
                have hrow : (∀ r, (Value.slice Ax F.length cx).ownBlock = some r → w5.heap.size ≤ r ∧ r < w7.heap.size) := (fun r hr => World.ownsRow.lt HF7.out r hr)
                have Hs9 := Lib.hid ((Hs7.out.below ((Below.refl _ _).alloc (Nat.le_refl _) (.cells #[.int .i64 (q : Int)] 2))).other hg9s (fun r hr => by have := (hrow r hr).1; omega))
                have Hg9 := Lib.hid (gb_other (gb_below Hg7.out ((Below.refl _ _).alloc (Nat.le_refl _) (.cells #[.int .i64 (q : Int)] 2))) hg9s (fun r hr => (hrow r hr).1))
                have HBs := Lib.hid (HB9.out.set 2 (.slice A9 (F.length + 1) c9))
                have hN9 : (Value.slice A9 (F.length + 1) c9).ownBlock ≠ some (w5.heap.size + 1) := blk_type_apart ho9 HB9.out (by decide)
                have HFs := Lib.hid (own_far ho9 (p := ⟨w5.heap.size + 1, 2, none⟩) hN9 (.slice A9 (F.length + 1) c9))
                have k9 : w9.grownBy (w9.setCell ⟨w5.heap.size + 1, 2, none⟩ (.slice A9 (F.length + 1) c9)) (some (w5.heap.size + 1)) := gb_set _ ⟨w5.heap.size + 1, 2, none⟩ _
                have Hss := Lib.hid (Hs9.out.other k9 (fun r hr => by injection hr; omega))
                have Hgs := Lib.hid (gb_other Hg9.out k9 (fun r hr => by injection hr; omega))
                clear ho9 hg9 hor9 hrow hg9s hN9 k9 q2 f2 q3 q4
                try go_wp2
                go_roundw
                case rel => exact ⟨q + 1, F ++ [(q : Int)], A9, c9, by go_num, by omega, by rw [List.length_append]; simp; omega, by rw [List.length_append]; exact HBs.out, by rw [List.length_append, intsRow_append]; exact HFs.out, Hss.out, Hgs.out⟩
                case measure => simp [intOf]; omega
              · have uz : ((z : Int) == 0) = false := by simp; omega
                clear q2 f2
                go_wp2
                go_roundw
                case rel => exact ⟨q + 1, F, Ax, cx, by go_num, by omega, by omega, HB7.out, HF7.out, Hs7.out, Hg7.out⟩
                case measure => simp [intOf]; omega
            · skip
              clear q0 q1 q2 f2
              go_wp2
              go_roundw
              case rel => exact ⟨q + 1, F, Ax, cx, by go_num, by omega, by omega, HB.out, HF.out, Hs6.out, Hg6.out⟩
              case measure => simp [intOf]; omega
          · by_cases hqk : (q : Int) < (k : Int)
            · skip
              clear q0 q1 q2 f2
              go_wp2_with fail
              refine (next_any _ base g A n c 4 Hs6.out).mono ?_
              rintro e w7 ⟨z, rfl, hx, hs, hg⟩
              have Hs7 := Lib.hid hs
              have Hg7 := Lib.hid (gb_trans Hg6.out hg)
              have HB7 := Lib.hid (HB.out.grown hg (fun e => by injection e; omega))
              have HF7 := Lib.hid (HF.out.kept hg (.inr HFG.out))
              have hsz7 := hg.size
              have hgl7 := hs.lt
              have q2 := HB7.out.cell 2
              have f2 := HB7.out.frozen 2
              simp only [List.getElem?_toArray, List.getElem?_cons_zero, List.getElem?_cons_succ] at q2
              clear hs hg hx
              by_cases hz : z = 0
              · subst hz
                go_wp2_with (at_builtin; refine wpList_append_sl _ rfl (.tmp 54) (.tmp 56) _ rfl w5.heap.size 2 j0 _ 1 8 Try.underlying29 hj hy0 hy1 hy2 rfl (by omega) _ F.length (intsRow F) rfl (HF7.out.alloc _) (some ⟨w7.heap.size, 0, none⟩) 1 1 [.int .i64 (q : Int)] rfl (Rd.of_block (cs := #[.int .i64 (q : Int)]) (heap_alloc_new _ _) rfl) (by intro x hx; simp at hx; subst hx; rfl) (by unfold maxLen; omega) (by omega) (by simp; omega) ?_; intro A9 c9 w9 ho9 hg9 hor9; have hg9s : (w7.alloc (.cells #[.int .i64 (q : Int)] 2)).grownBy w9 (Value.slice Ax F.length cx).ownBlock := hg9; have HB9 := Lib.hid ((HB7.out.alloc (.cells #[.int .i64 (q : Int)] 2)).grown hg9s (fun e => HN.out e.symm)); have q3 := HB9.out.frozen 2; have q4 := HB9.out.cell 2; simp only [List.getElem?_toArray, List.getElem?_cons_zero, List.getElem?_cons_succ] at q4)
                have hrow : (∀ r, (Value.slice Ax F.length cx).ownBlock = some r → w5.heap.size ≤ r ∧ r < w7.heap.size) := (fun r hr => World.ownsRow.lt HF7.out r hr)
                have Hs9 := Lib.hid ((Hs7.out.below ((Below.refl _ _).alloc (Nat.le_refl _) (.cells #[.int .i64 (q : Int)] 2))).other hg9s (fun r hr => by have := (hrow r hr).1; omega))
                have Hg9 := Lib.hid (gb_other (gb_below Hg7.out ((Below.refl _ _).alloc (Nat.le_refl _) (.cells #[.int .i64 (q : Int)] 2))) hg9s (fun r hr => (hrow r hr).1))
                have HBs := Lib.hid (HB9.out.set 2 (.slice A9 (F.length + 1) c9))
                have hN9 : (Value.slice A9 (F.length + 1) c9).ownBlock ≠ some (w5.heap.size + 1) := blk_type_apart ho9 HB9.out (by decide)
                have HFs := Lib.hid (own_far ho9 (p := ⟨w5.heap.size + 1, 2, none⟩) hN9 (.slice A9 (F.length + 1) c9))
                have k9 : w9.grownBy (w9.setCell ⟨w5.heap.size + 1, 2, none⟩ (.slice A9 (F.length + 1) c9)) (some (w5.heap.size + 1)) := gb_set _ ⟨w5.heap.size + 1, 2, none⟩ _
                have Hss := Lib.hid (Hs9.out.other k9 (fun r hr => by injection hr; omega))
                have Hgs := Lib.hid (gb_other Hg9.out k9 (fun r hr => by injection hr; omega))
                clear ho9 hg9 hor9 hrow hg9s hN9 k9 q2 f2 q3 q4
                try go_wp2
                go_roundw
                case rel => exact ⟨q + 1, F ++ [(q : Int)], A9, c9, by go_num, by omega, by rw [List.length_append]; simp; omega, by rw [List.length_append]; exact HBs.out, by rw [List.length_append, intsRow_append]; exact HFs.out, Hss.out, Hgs.out⟩
                case measure => simp [intOf]; omega
              · have uz : ((z : Int) == 0) = false := by simp; omega
                clear q2 f2
                go_wp2
                go_roundw
                case rel => exact ⟨q + 1, F, Ax, cx, by go_num, by omega, by omega, HB7.out, HF7.out, Hs7.out, Hg7.out⟩
                case measure => simp [intOf]; omega
            · skip
              clear q0 q1 q2 f2
              go_wp2
              go_roundw
              case rel => exact ⟨q + 1, F, Ax, cx, by go_num, by omega, by omega, HB.out, HF.out, Hs6.out, Hg6.out⟩
              case measure => simp [intOf]; omega
        · have hFm : F.length ≤ 7 := by omega
          have Hs8 := Hs6
          have Ho6 := Lib.hid (Ho5.out.kept Hg6.out (.inr (fun h => by have := (World.ownsRow.lt Ho5.out _ h).1; omega)))
          have He6 := Lib.hid (He5.out.src Hg6.out hgl)
          have HS1 := Lib.hid (stepCells_one mi (tl : Int) HF.out)
          go_wp2_with (at_builtin; refine wpList_append_sl _ rfl (.tmp 59) (.tmp 61) _ rfl w.heap.size 51 i0 _ 3 40 Try.underlying25 hi hz0 hz1 hz2 rfl (by omega) _ L.length xs rfl (Ho6.out.alloc _) (some ⟨wr.heap.size, 0, none⟩) 1 1 [.int .i64 mi, .int .i64 (tl : Int), .slice Ax F.length cx] rfl (Rd.of_block (cs := #[.int .i64 mi, .int .i64 (tl : Int), .slice Ax F.length cx]) (heap_alloc_new _ _) rfl) HS1.out (by unfold maxLen; omega) (by omega) (by simp; omega) ?_; intro A9 c9 w9 ho9 hg9 hor9)
          have hg9s : (wr.alloc (.cells #[.int .i64 mi, .int .i64 (tl : Int), .slice Ax F.length cx] 51)).grownBy w9 (Value.slice Ao L.length co).ownBlock := hg9
          have hrow : (∀ r, (Value.slice Ao L.length co).ownBlock = some r → w.heap.size ≤ r ∧ r < wr.heap.size) := (fun r hr => World.ownsRow.lt Ho6.out r hr)
          have hbA : Below wr.heap.size wr (wr.alloc (.cells #[.int .i64 mi, .int .i64 (tl : Int), .slice Ax F.length cx] 51)) := (Below.refl _ _).alloc (Nat.le_refl _) _
          have Hs9 := Lib.hid ((Hs6.out.below hbA).other hg9s (fun r hr => by have := (hrow r hr).1; omega))
          have Hg9 := Lib.hid (gb_other (gb_below (gb_trans Hg5.out Hg6.out) hbA) hg9s (fun r hr => (hrow r hr).1))
          have HE9 := Lib.hid (((He6.out.below hbA).row (own_below Ho6.out hbA) hg9s).snoc (s := ⟨mi, (tl : Int), F⟩) Ho6.out.1 (v := .slice Ax F.length cx) (own_base ((own_below HF.out hbA).kept hg9s (own_type_apart (own_below HF.out hbA) (own_below Ho6.out hbA) (by decide))) hsz5))
          have HO9 := Lib.hid ho9
          clear ho9 hg9 hor9 hrow hg9s hbA q0 q1 q2 f2
          go_roundw
          case rel => exact ⟨L ++ [⟨mi, (tl : Int), F⟩], xs ++ [.int .i64 mi, .int .i64 (tl : Int), .slice Ax F.length cx], A9, c9, k + 1, by rw [List.length_append]; rfl, by go_num, by omega, by simp; omega, by rw [List.length_append]; exact HO9.out, HE9.out, Hs9.out, Hg9.out⟩
          case measure => simp [intOf]; omega
    · go_wp2
      go_ret
      exact ⟨L, _, rfl, ⟨xs, Ho1.out, He1.out⟩, by omega, Hs1.out, Hg1.out⟩

end Go.Proofs.Ytecfkomijaakhaa
