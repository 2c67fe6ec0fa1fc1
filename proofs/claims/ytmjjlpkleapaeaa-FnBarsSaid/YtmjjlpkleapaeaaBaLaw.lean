/- FnBars, for every input: no cutting takes fewer bars than the fewest, and no bar is cut beyond its end. Its conditions: none. -/
import Derived.Test.YtmjjlpkleapaeaaBarM
import Derived.Test.YtmjjlpkleapaeaaLike
import Derived.Test.YtmjjlpkleapaeaaCode
namespace Go.Proofs.Ytmjjlpkleapaeaa
open Go.ChangeShapes Go.WideShapes Go.ChangeAt Go.RowKit Go.Deep

theorem below_gb {a b : World} {g B : Nat} (h : a.grownBy b (some g)) (hB : B ≤ g) (hs : B ≤ a.heap.size) : Below B a b :=
  ⟨h.os, h.tape, h.output, h.size, fun k hk => h.block k (by omega) (fun e => by injection e; omega)⟩
set_option maxHeartbeats 4000000 in
theorem drawCut_any (w : World) (A : Option Addr) (n c : Nat) (hcode : Code w A n) (hn : n ≤ 4096) (hc : n ≤ c ∧ c ≤ maxLen) :
    Calls Try.prog 41 #[.slice A n c] w fun e w' => ∃ (L : List Tube) (v : Value) (m : Int), e = .returned (.tuple #[v, .int .i64 m]) ∧ w'.ownsRow w.heap.size 54 2 v L.length (tubeRow L) ∧ tubeFit L ∧ L.length ≤ 9 ∧ Below w.heap.size w w' := by
  go_enter Try.func41, Try.ntmps41
  go_wp2_with fail
  refine (from_any w A n c hcode hn hc).mono ?_
  rintro e w2 ⟨rfl, hs2, hb2⟩
  have Hs2 := Lib.hid hs2
  have hsz2 := hb2.size
  have hgl2 := hs2.lt
  clear hs2
  go_wp2_with fail
  refine (draw_any w2 w.heap.size w.heap.size A n c Hs2.out).mono ?_
  rintro e w3 ⟨L, v, rfl, ho3, hf, hL, hs3, hg3⟩
  obtain ⟨Ao, co, rfl, hoc, hoc2⟩ := own_slice ho3
  have Hs3 := Lib.hid hs3
  have hone : (Value.slice Ao L.length co).ownBlock ≠ some w.heap.size := fun h => by have := (World.ownsRow.lt ho3 _ h).1; omega
  have Hone := Lib.hid hone
  have Ho3 := Lib.hid ho3
  have Hf := Lib.hid hf
  have hgl3 : w.heap.size < w3.heap.size := hs3.lt
  have b3 : Below w.heap.size w w3 := hb2.trans (below_gb hg3 (Nat.le_refl _) (by omega))
  clear hs3 hg3 ho3 hone hf
  go_wp2_with fail
  refine (next_any _ w.heap.size w.heap.size A n c 800 Hs3.out).mono ?_
  rintro e w4 ⟨x, rfl, hx, hs, hg⟩
  have hx : x < 800 := by omega
  clear hx
  have Ho4 := Lib.hid (Ho3.out.kept hg (.inr Hone.out))
  have Hs4 := Lib.hid hs
  have b4 : Below w.heap.size w w4 := b3.trans (below_gb hg (Nat.le_refl _) (by first | omega | (simp; omega)))
  have hgl4 : w.heap.size < w4.heap.size := hs.lt
  clear hg hs
  have x1 := IntWalk.i64_in (1000 + (x : Int)) (by omega)
  go_wp2_with fail
  refine (pick_any _ w.heap.size w.heap.size A n c [1000 + (x : Int), 1200, 6000, 6001, 1000, 999, 2000] _ (Hs4.out.below ((Below.refl _ _).alloc (Nat.le_refl _) (.cells #[.int .i64 (1000 + (x : Int)), .int .i64 1200, .int .i64 6000, .int .i64 6001, .int .i64 1000, .int .i64 999, .int .i64 2000] 2))) (by exact sl_laid w4 [1000 + (x : Int), 1200, 6000, 6001, 1000, 999, 2000] (by simp [maxLen])) (by simp) (by simp) (fun h => by have : w4.heap.size = w.heap.size := (by simpa [Value.ownBlock] using h); omega)).mono ?_
  rintro e w5 ⟨m, hmm, rfl, hs, hg⟩
  clear hmm
  have Ho5 := Lib.hid ((Ho4.out.alloc _).kept hg (.inr Hone.out))
  have Hs5 := Lib.hid hs
  have b5 : Below w.heap.size w w5 := (b4.alloc (by have := b4.size; first | omega | (simp; omega)) (.cells #[.int .i64 (1000 + (x : Int)), .int .i64 1200, .int .i64 6000, .int .i64 6001, .int .i64 1000, .int .i64 999, .int .i64 2000] 2)).trans (below_gb hg (Nat.le_refl _) (by first | omega | (simp; omega)))
  have hgl5 : w.heap.size < w5.heap.size := hs.lt
  clear hg hs
  go_wp2
  go_ret2
  exact ⟨L, _, m, rfl, own_base Ho5.out hsz2, Hf.out, hL, b5⟩

set_option maxHeartbeats 4000000 in
theorem drawConvex_any (w : World) (A : Option Addr) (n c : Nat) (hcode : Code w A n) (hn : n ≤ 4096) (hc : n ≤ c ∧ c ≤ maxLen) :
    Calls Try.prog 42 #[.slice A n c] w fun e w' => ∃ (L : List Tube) (v : Value) , e = .returned (v) ∧ w'.ownsRow w.heap.size 54 2 v L.length (tubeRow L) ∧ tubeFit L ∧ L.length ≤ 9 ∧ Below w.heap.size w w' := by
  go_enter Try.func42, Try.ntmps42
  go_wp2_with fail
  refine (from_any w A n c hcode hn hc).mono ?_
  rintro e w2 ⟨rfl, hs2, hb2⟩
  have Hs2 := Lib.hid hs2
  have hsz2 := hb2.size
  have hgl2 := hs2.lt
  clear hs2
  go_wp2_with fail
  refine (draw_any w2 w.heap.size w.heap.size A n c Hs2.out).mono ?_
  rintro e w3 ⟨L, v, rfl, ho3, hf, hL, hs3, hg3⟩
  obtain ⟨Ao, co, rfl, hoc, hoc2⟩ := own_slice ho3
  have Hs3 := Lib.hid hs3
  have hone : (Value.slice Ao L.length co).ownBlock ≠ some w.heap.size := fun h => by have := (World.ownsRow.lt ho3 _ h).1; omega
  have Hone := Lib.hid hone
  have Ho3 := Lib.hid ho3
  have Hf := Lib.hid hf
  have hgl3 : w.heap.size < w3.heap.size := hs3.lt
  have b3 : Below w.heap.size w w3 := hb2.trans (below_gb hg3 (Nat.le_refl _) (by omega))
  clear hs3 hg3 ho3 hone hf
  go_wp2
  go_ret
  exact ⟨L, _, rfl, own_base Ho3.out hsz2, Hf.out, hL, b3⟩

theorem sumI_take (l : List Int) {k : Nat} (h : k < l.length) : sumI (l.take (k + 1)) = sumI (l.take k) + intsAt l k := by
  rw [take_snoc l 0 h, sumI_append, sumI_cons]
  have : sumI [] = 0 := rfl
  rw [this]; simp [intsAt]
set_option maxHeartbeats 1600000 in
theorem sum_any (w : World) (l : List Int) (u : Value) (hu : Sl w 1 u l.length (intsRow l)) (hl : ∀ i, i < l.length → 0 ≤ intsAt l i ∧ intsAt l i ≤ 1000000) (hn : l.length ≤ 1000000) :
    Calls Try.prog 43 #[u] w (RetI (sumI l) w) := by
  obtain ⟨A, c, rfl, _, hc, hr⟩ := hu
  have Hr := Lib.hid hr
  unfold maxLen at hc
  clear hr
  go_enter Try.func43, Try.ntmps43
  go_wp2
  go_loopw [3, 4] (fun s i wr => ∃ (k : Nat) (z : Int), k ≤ l.length ∧ i = .int .i64 k ∧ s = .int .i64 z ∧ z = sumI (l.take k) ∧ 0 ≤ z ∧ z ≤ 1000000 * k ∧ Below w.heap.size w wr) (fun _ i _ => l.length - (intOf i).toNat)
  case atStart => exact ⟨0, 0, Nat.zero_le _, rfl, rfl, rfl, by omega, by omega, Below.refl _ _⟩
  case round =>
    obtain ⟨k, z, hk, rfl, rfl, hz, hz0, hz1, hb⟩ := hrel
    have Hz := Lib.hid hz
    clear hz
    by_cases hlt : k < l.length
    · obtain ⟨g, o, rfl, hg, c0⟩ := (Hr.out.below hb (Nat.le_refl _)).ints hlt
      have hx := hl k hlt
      have i0 : (0 : Int) ≤ (k : Int) := Int.natCast_nonneg _
      have i1 : (k : Int) < (l.length : Int) := by omega
      have x1 := IntWalk.i64_in (z + intsAt l k) (by omega)
      go_wp2
      go_roundw
      case rel => exact ⟨k + 1, z + intsAt l k, by omega, by go_num, rfl, by rw [sumI_take l hlt, ← Hz.out], by omega, by omega, hb⟩
      case measure => simp [intOf]; omega
    · go_wp2
      go_ret
      exact ⟨retI (by rw [Hz.out, List.take_of_length_le (by omega)]), hb⟩

set_option maxHeartbeats 16000000 in
set_option maxRecDepth 100000 in
theorem lawBars_walk (w : World) (A : Option Addr) (n c : Nat) (hcode : Code w A n) (hc : n ≤ c ∧ c ≤ maxLen) :
    Calls Try.prog 10 #[.slice A n c] w fun e w' => e = .returned (.bool true) ∧ Below w.heap.size w w' := by
  by_cases hbig : 4096 < (n : Int)
  · have t0 : decide (4096 < (n : Int)) = true := by simpa using hbig
    go_enter Try.func10, Try.ntmps10
    go_wp2_with fail
    refine (big_any w A n c hc.1 hc.2).mono ?_
    rintro e w1 ⟨rfl, rfl⟩
    rw [t0]
    go_wp2
    go_ret
    exact ⟨rfl, Below.refl _ _⟩
  · have t0 : decide (4096 < (n : Int)) = false := by simpa using hbig
    have hn : n ≤ 4096 := by omega
    have Hcode := Lib.hid hcode
    have Hc := Lib.hid hc
    clear hcode hc hbig
    go_enter Try.func10, Try.ntmps10
    go_wp2_with fail
    refine (big_any w A n c Hc.out.1 Hc.out.2).mono ?_
    rintro e w1 ⟨rfl, rfl⟩
    rw [t0]
    clear t0
    go_wp2_with fail
    refine (drawCut_any w A n c Hcode.out hn Hc.out).mono ?_
    rintro e w1 ⟨L, v, m, rfl, ho, hf, hl, hb1⟩
    have b1 := hb1
    obtain ⟨Av, cv, rfl, ha, hcv⟩ := own_slice ho
    have V := Lib.hid (Sl.of_own ho)
    have N : L.length ≤ 4194304 := by omega
    unfold maxLen at hcv
    clear ho hf
    go_wp2_with fail
    refine (implCutBars_any w1 L _ m V.out (fun _ _ => trivial) N).mono ?_
    rintro e w2 ⟨yci, rfl, ho, hb2⟩
    have b2 := b1.trans (hb2.mono b1.size)
    obtain ⟨Aci, cci, rfl, haci, hcci⟩ := own_slice ho
    have Yci := Lib.hid (Sl.of_own ho)
    clear ho
    go_wp2_with fail
    refine (specCutBars_any w2 L _ m (V.out.below hb2) (fun _ _ => trivial) N).mono ?_
    rintro e w3 ⟨ycs, rfl, ho, hb3⟩
    have b3 := b2.trans (hb3.mono b2.size)
    obtain ⟨Acs, ccs, rfl, hacs, hccs⟩ := own_slice ho
    have Ycs := Lib.hid (Sl.of_own ho)
    clear ho
    go_wp2_with fail
    refine (implFewestBars_any w3 L _ m ((V.out.below hb2).below hb3) (fun _ _ => trivial) N).mono ?_
    rintro e w4 ⟨rfl, hb4⟩
    have b4 := b3.trans (hb4.mono b3.size)
    go_wp2_with fail
    refine (specFewestBars_any w4 L _ m (((V.out.below hb2).below hb3).below hb4) (fun _ _ => trivial) N).mono ?_
    rintro e w5 ⟨rfl, hb5⟩
    have b5 := b4.trans (hb5.mono b4.size)
    go_wp2_with fail
    refine (drawConvex_any w5 A n c (code_below (code_below (code_below (code_below (code_below Hcode.out hb1) hb2) hb3) hb4) hb5) hn Hc.out).mono ?_
    rintro e w6 ⟨X, x, rfl, ho, hf, hlx, hb6⟩
    have b6 := b5.trans (hb6.mono b5.size)
    obtain ⟨Ax, cx, rfl, hax, hcx⟩ := own_slice ho
    have XV := Lib.hid (Sl.of_own ho)
    have NX : X.length ≤ 4194304 := by omega
    clear ho hf
    go_wp2_with fail
    refine (implIsConvex_any w6 X _ XV.out (fun _ _ => trivial) NX).mono ?_
    rintro e w7 ⟨rfl, hb7⟩
    have b7 := b6.trans (hb7.mono b6.size)
    go_wp2_with fail
    refine (specIsConvex_any w7 X _ (XV.out.below hb7) (fun _ _ => trivial) NX).mono ?_
    rintro e w8 ⟨rfl, hb8⟩
    have b8 := b7.trans (hb8.mono b7.size)
    go_wp2_with fail
    refine (likeInts_same _ _ _ w8 ((((((Yci.out.below hb3).below hb4).below hb5).below hb6).below hb7).below hb8) (((((Ycs.out.below hb4).below hb5).below hb6).below hb7).below hb8) (cutF_len L m)).mono ?_
    rintro e w9 ⟨rfl, hb9⟩
    have b9 := b8.trans (hb9.mono b8.size)
    have K9V := Lib.hid ((((((((V.out.below hb2).below hb3).below hb4).below hb5).below hb6).below hb7).below hb8).below hb9)
    have K9XV := Lib.hid (((XV.out.below hb7).below hb8).below hb9)
    have K9Yci := Lib.hid (((((((Yci.out.below hb3).below hb4).below hb5).below hb6).below hb7).below hb8).below hb9)
    have K9Ycs := Lib.hid ((((((Ycs.out.below hb4).below hb5).below hb6).below hb7).below hb8).below hb9)
    clear hn Hcode Hc
    have hcode : (fewF L m).2 = (cutF L m).2 := by unfold fewF cutF; split <;> rfl
    rw [hcode]
    clear hcode
    by_cases hc : tubeCode X = 0
    · skip
      obtain ⟨x1, x2⟩ := tubeCode_zero hc
      have c1 : convexF X = (allUp X X.length || allDown X X.length, 0) := by simp [convexF, hc]
      have c2 : twiceAreaF X = (areaT X X.length, 0) := by simp [twiceAreaF, hc]
      have HT := Lib.hid (fun h3 hv => tri_law (L := X) h3 x2 hv)
      rw [c1]
      clear c1 hc x1 x2
      go_wp2_with fail
      refine (implTwiceArea_any w9 X _ K9XV.out (fun _ _ => trivial) NX).mono ?_
      rintro e w10 ⟨rfl, hb10⟩
      have b10 := b9.trans (hb10.mono b9.size)
      rw [c2]
      clear c2
      cases hv : (allUp X X.length || allDown X X.length)
      · skip
        by_cases hb : barsCode L m = 0
        · skip
          obtain ⟨h1, h2, h3⟩ := barsCode_zero hb
          obtain ⟨t3, t8, _⟩ := areTubes_iff h1
          have hm : 1000 ≤ m ∧ m ≤ 6000 := by simpa [inR] using h2
          have l1 : (cutF L m) = ((cutSt m (lensN L L.length) L.length).1, 0) := by simp [cutF, hb]
          have l2 : fewF L m = (((fewest ((lensN L L.length).map (· + 3)) m : Nat) : Int), (0 : Int)) := by simp only [fewF, if_pos hb, lens3]
          have l3 : lengthsF L = (lensN L L.length, 0) := by simp [lengthsF, h1]
          obtain ⟨D, hDe⟩ : ∃ D, D = lensN L L.length := ⟨_, rfl⟩
          have hDl : D.length = L.length := by rw [hDe, lensN_len]
          have hD1 : ∀ i, i < D.length → 1 ≤ intsAt D i := fun i hi => by rw [hDe, lensN_at _ (by omega)]; exact (lenT_bd h1 (by omega)).1
          have hD2 : ∀ i, i < D.length → intsAt D i ≤ m := fun i hi => by rw [hDe]; exact h3 i (by omega)
          have FL := few_law hm ⟨by omega, by omega⟩ hD1 hD2
          have HST := Lib.hid (fun k hk => bar_step (k := k) hm hD1 hD2 hk)
          rw [← hDe, ← hDl] at l1
          rw [← hDe] at l2 l3
          have ZYci := Lib.hid ((K9Yci.out.below hb10))
          rw [l1] at ZYci
          have ZYcs := Lib.hid ((K9Ycs.out.below hb10))
          rw [l1] at ZYcs
          rw [l1, l2]
          have hcl : (cutSt m D D.length).1.length = D.length := cut_first m D D.length (Nat.le_refl _)
          obtain ⟨C, hCe⟩ : ∃ C, C = (cutSt m D D.length).1 := ⟨_, rfl⟩
          rw [← hCe] at hcl ZYci ZYcs ⊢
          obtain ⟨F, hFe⟩ : ∃ F, F = fewest (D.map (· + 3)) m := ⟨_, rfl⟩
          rw [← hFe] at FL ⊢
          have Hhc := Lib.hid hcl
          have HCe := Lib.hid hCe
          have HFL := Lib.hid FL
          have HDl := Lib.hid hDl
          have HD1 := Lib.hid hD1
          have HD2 := Lib.hid hD2
          clear hcl hCe FL hDl hD1 hD2 hFe hDe l1 l2 hb h3 h2
          go_wp2_with fail
          refine (implLengthsOf_any w10 L _ (K9V.out.below hb10) (fun _ _ => trivial) N).mono ?_
          rintro e w11 ⟨yl, rfl, ho, hb11⟩
          have b11 := b10.trans (hb11.mono b10.size)
          have YL0 := Lib.hid (Sl.of_own ho)
          clear ho
          rw [l3] at YL0
          go_wp2_with fail
          refine (specLengthsOf_any w11 L _ ((K9V.out.below hb10).below hb11) (fun _ _ => trivial) N).mono ?_
          rintro e w12 ⟨yk, rfl, ho, hb12⟩
          have b12 := b11.trans (hb12.mono b11.size)
          have YK := Lib.hid (Sl.of_own ho)
          clear ho
          rw [l3] at YK
          rw [l3]
          go_wp2_with fail
          refine (likeInts_same D yl yk w12 (YL0.out.below hb12) YK.out (by have := HDl.out; omega)).mono ?_
          rintro e w13 ⟨rfl, hb13⟩
          have b13 := b12.trans (hb13.mono b12.size)
          obtain ⟨Al, cl, eyl, hal, hcl2, _⟩ := YL0.out
          have eyl2 : yl = .slice Al L.length cl := by rw [← HDl.out]; exact eyl
          clear eyl
          subst eyl2
          clear hal hcl2 l3
          have hcl := Hhc.out
          rw [hcl]
          have hDl := HDl.out
          rw [hDl]
          clear hcl
          obtain ⟨i0, hi, hz0, hz1, hz2⟩ := info_parts Try.info_ints
          go_wp2_with (at_make; refine wpList_make_full _ rfl _ _ 35 rfl w13.heap.size 2 i0 _ 1 Try.underlying35 hi hz0 hz1 _ _ _ _ L.length rfl rfl rfl rfl (by rw [hz2]; omega) (by unfold maxLen; omega) (Nat.le_refl _) ?_; intro wm hown hgr)
          have hbm := (Below.refl w13.heap.size w13).grown hgr (Nat.le_refl _) (fun _ h => by cases h)
          have HBM := Lib.hid hbm
          clear hgr hbm
          have hB0 : (madeCells (Value.int .i64 0).cells (L.length * 1)).toList = intsRow (barLeft D.length m (cutSt m D 0).2) := by
            rw [show (cutSt m D 0).2 = [] by simp [cutSt], barLeft_nil, hDl, Nat.mul_one]
            show (madeCells #[Value.int .i64 0] L.length).toList = _
            rw [toList_madeCells_one]; simp [intsRow]
          have Hown : Hid (wm.ownsRow w13.heap.size 2 1 (.slice (some ⟨w13.heap.size, 0, none⟩) D.length D.length) D.length (intsRow (barLeft D.length m (cutSt m D 0).2))) := by
            rw [← hB0, hDl]; exact Lib.hid hown
          clear hown hB0
          have t8h := Lib.hid t8
          clear hDl
          go_wp2
          go_loopw [25, 26] (fun u i wr => ∃ k : Nat, i = .int .i64 k ∧ k ≤ L.length ∧ u = .int .i64 ((cutSt m D k).2.length : Nat) ∧ wr.ownsRow w13.heap.size 2 1 (.slice (some ⟨w13.heap.size, 0, none⟩) D.length D.length) D.length (intsRow (barLeft D.length m (cutSt m D k).2)) ∧ Below w13.heap.size w13 wr) (fun _ i _ => L.length - (intOf i).toNat)
          case atStart => exact ⟨0, rfl, Nat.zero_le _, by simp [cutSt], Hown.out, HBM.out⟩
          case round =>
            obtain ⟨k, rfl, hk, rfl, ho, hbw⟩ := hrel
            have Ho := Lib.hid ho
            have Hbw := Lib.hid hbw
            clear ho hbw Hown HBM
            by_cases hlt : k < L.length
            · skip
              obtain ⟨fb, hf1, hf2, hf3, hf4, hf5, hf6, hf7⟩ := HST.out k (by have := HDl.out; omega)
              have hd1 := HD1.out k (by have := HDl.out; omega)
              have hd2 := HD2.out k (by have := HDl.out; omega)
              obtain ⟨y0, hy0⟩ : ∃ y0, y0 = intsAt (barLeft D.length m (cutSt m D k).2) fb := ⟨_, rfl⟩
              have hleft : wr.cell? ⟨w13.heap.size, fb, none⟩ = some (.int .i64 y0) := by
                rw [Ho.out.cellAt fb (by have := HDl.out; omega), hy0]; exact intsRow_at _ fb (by rw [barLeft_len]; exact hf2)
              rw [← hy0] at hf3 hf4 hf5 hf6
              have f0 := Ho.out.frozenAt fb
              obtain ⟨gc, oc, rfl, hgc, c0⟩ := (Sl.rd (((((ZYcs.out.below hb11).below hb12).below hb13)).below Hbw.out)).ints (l := C) (k := k) (by rw [Hhc.out, HDl.out]; exact hlt)
              obtain ⟨gd, od, rfl, hgd, d0⟩ := (Sl.rd (((((ZYci.out.below hb11).below hb12).below hb13)).below Hbw.out)).ints (l := C) (k := k) (by rw [Hhc.out, HDl.out]; exact hlt)
              obtain ⟨gl, ol, rfl, hgl, l0⟩ := (Sl.rd ((((YL0.out.below hb12).below hb13)).below Hbw.out)).ints (l := D) (k := k) (by rw [HDl.out]; exact hlt)
              have hcv2 : intsAt C k = (fb : Int) := by rw [HCe.out]; exact hf1
              rw [hcv2] at c0 d0
              clear hcv2 hf1
              have ngc : Hid (gc ≠ w13.heap.size) := by
                obtain ⟨_, _, e, _, _, hr⟩ := (((ZYcs.out.below hb11).below hb12).below hb13)
                obtain ⟨g2, o2, e2, hg2, _⟩ := hr.2 (by have := Hhc.out; have := HDl.out; omega)
                injection e with e
                rw [← e] at e2
                injection e2 with e2
                injection e2 with e2
                exact Lib.hid (by omega)
              have ngd : Hid (gd ≠ w13.heap.size) := by
                obtain ⟨_, _, e, _, _, hr⟩ := (((ZYci.out.below hb11).below hb12).below hb13)
                obtain ⟨g2, o2, e2, hg2, _⟩ := hr.2 (by have := Hhc.out; have := HDl.out; omega)
                injection e with e
                rw [← e] at e2
                injection e2 with e2
                injection e2 with e2
                exact Lib.hid (by omega)
              have ngl : Hid (gl ≠ w13.heap.size) := by
                obtain ⟨_, _, e, _, _, hr⟩ := ((YL0.out.below hb12).below hb13)
                obtain ⟨g2, o2, e2, hg2, _⟩ := hr.2 (by have := Hhc.out; have := HDl.out; omega)
                injection e with e
                rw [← e] at e2
                injection e2 with e2
                injection e2 with e2
                exact Lib.hid (by omega)
              obtain ⟨dk, hdk⟩ : ∃ dk, dk = intsAt D k := ⟨_, rfl⟩
              rw [← hdk] at l0 hd1 hd2 hf5 hf6
              have x1 := IntWalk.i64_in (y0 + dk) (by omega)
              have x2 := IntWalk.i64_in (y0 + dk + 3) (by omega)
              have x3 := IntWalk.i64_in ((fb : Int) + 1) (by have := HDl.out; omega)
              have x4 := IntWalk.i64_in (m + 3) (by omega)
              have j0 : (0 : Int) ≤ (k : Int) := Int.natCast_nonneg _
              have j2 : (0 : Int) ≤ (fb : Int) := Int.natCast_nonneg _
              have j4 : (k : Int) < (L.length : Int) := by omega
              have j5 : (fb : Int) < (L.length : Int) := by have := HDl.out; omega
              have j6 : fb < L.length := by have := HDl.out; omega
              have j7 : k < L.length := by omega
              have v1 : decide (m + 3 < y0 + dk + 3) = false := by simp; omega
              have v2 : y0 + dk ≤ m := by omega
              have v3 : ¬ m < y0 + dk := by omega
              have HS2 := Lib.hid (show (wr.setCell ⟨w13.heap.size, fb, none⟩ (.int .i64 (y0 + dk + 3))).ownsRow w13.heap.size 2 1 (.slice (some ⟨w13.heap.size, 0, none⟩) D.length D.length) D.length (intsRow (barLeft D.length m (cutSt m D (k + 1)).2)) by
                have := (Ho.out.stored fb (.int .i64 (y0 + dk + 3))).1
                rw [intsRow_set, ← hf6] at this; exact this)
              have HB2 := Lib.hid (Hbw.out.setCell (p := ⟨w13.heap.size, fb, none⟩) (Nat.le_refl _) (.int .i64 (y0 + dk + 3)))
              have HL2 : Hid ((wr.setCell ⟨w13.heap.size, fb, none⟩ (.int .i64 (y0 + dk + 3))).cell? ⟨w13.heap.size, fb, none⟩ = some (.int .i64 (y0 + dk + 3))) := by
                rw [HS2.out.cellAt fb (by have := HDl.out; omega), intsRow_at _ fb (by rw [barLeft_len]; exact hf2), hf6, intsAt_set (by rw [barLeft_len]; exact hf2), if_pos rfl]; exact Lib.hid rfl
              have Hf7 := Lib.hid hf7
              clear hf3 hf4 hf5 hf6 hf7 hy0 hdk hd1 hd2
              go_wp2_with fail
              refine wp_region_held_drew (S := (fun w' => w'.cell? ⟨gc, oc + k, none⟩ = some (.int .i64 (fb : Int)) ∧ w'.cell? ⟨gl, ol + k, none⟩ = some (.int .i64 dk))) (by kernel_rfl) ?_ (fun hHeld => ?_)
              · (try dsimp only); first | (go_split_ands; exact ⟨by assumption, by assumption⟩) | (go_split_ands; exact ⟨(World.cell?_setCell_other _ _ _ _ (fun e => ngc.out (congrArg Addr.block e).symm)).trans (by assumption), (World.cell?_setCell_other _ _ _ _ (fun e => ngl.out (congrArg Addr.block e).symm)).trans (by assumption)⟩) | go_keep
              refine wpAnyH_take (i := 0) (v := ?_) rfl (by kernel_rfl) (by kernel_rfl) (by kernel_rfl) (fun _ _ _ h => h) (Or.inl ⟨by rfl, ?_⟩) (by assumption) ?_
              rotate_left
              · (intro w hSw; (try dsimp only at hSw); go_simp) <;> with_reducible rfl
              try simp only [Act.put, List.setIfInBounds_toArray, List.set_cons_zero, List.set_cons_succ, List.getElem_toArray, List.getElem_cons_succ, List.getElem_cons_zero]
              refine wpAnyH_take (i := 1) (v := ?_) rfl (by kernel_rfl) (by kernel_rfl) (by kernel_rfl) (fun _ _ _ h => h) (Or.inl ⟨by rfl, ?_⟩) (by assumption) ?_
              rotate_left
              · (intro w hSw; (try dsimp only at hSw); go_simp) <;> with_reducible rfl
              try simp only [Act.put, List.setIfInBounds_toArray, List.set_cons_zero, List.set_cons_succ, List.getElem_toArray, List.getElem_cons_succ, List.getElem_cons_zero]
              refine wpAnyH_take (i := 2) (v := ?_) rfl (by kernel_rfl) (by kernel_rfl) (by kernel_rfl) (fun _ _ _ h => h) (Or.inl ⟨by rfl, ?_⟩) (by assumption) ?_
              rotate_left
              · (intro w hSw; (try dsimp only at hSw); go_simp) <;> with_reducible rfl
              try simp only [Act.put, List.setIfInBounds_toArray, List.set_cons_zero, List.set_cons_succ, List.getElem_toArray, List.getElem_cons_succ, List.getElem_cons_zero]
              refine wpAnyH_take (i := 3) (v := ?_) rfl (by kernel_rfl) (by kernel_rfl) (by kernel_rfl) (fun _ _ _ h => h) (Or.inl ⟨by rfl, ?_⟩) (by assumption) ?_
              rotate_left
              · (intro w hSw; (try dsimp only at hSw); go_simp) <;> with_reducible rfl
              try simp only [Act.put, List.setIfInBounds_toArray, List.set_cons_zero, List.set_cons_succ, List.getElem_toArray, List.getElem_cons_succ, List.getElem_cons_zero]
              refine wpAnyH_take (i := 4) (v := ?_) rfl (by kernel_rfl) (by kernel_rfl) (by kernel_rfl) (fun _ _ _ h => h) (Or.inl ⟨by rfl, ?_⟩) (by assumption) ?_
              rotate_left
              · (intro w hSw; (try dsimp only at hSw); go_simp) <;> with_reducible rfl
              try simp only [Act.put, List.setIfInBounds_toArray, List.set_cons_zero, List.set_cons_succ, List.getElem_toArray, List.getElem_cons_succ, List.getElem_cons_zero]
              refine wpAnyH_take (i := 5) (v := ?_) rfl (by kernel_rfl) (by kernel_rfl) (by kernel_rfl) (fun _ _ _ h => h) (Or.inl ⟨by rfl, ?_⟩) (by assumption) ?_
              rotate_left
              · (intro w hSw; (try dsimp only at hSw); go_simp) <;> with_reducible rfl
              try simp only [Act.put, List.setIfInBounds_toArray, List.set_cons_zero, List.set_cons_succ, List.getElem_toArray, List.getElem_cons_succ, List.getElem_cons_zero]
              refine wpAnyH_take (i := 6) (v := ?_) rfl (by kernel_rfl) (by kernel_rfl) (by kernel_rfl) (fun _ _ _ h => h) (Or.inl ⟨by rfl, ?_⟩) (by assumption) ?_
              rotate_left
              · (intro w hSw; (try dsimp only at hSw); go_simp) <;> with_reducible rfl
              try simp only [Act.put, List.setIfInBounds_toArray, List.set_cons_zero, List.set_cons_succ, List.getElem_toArray, List.getElem_cons_succ, List.getElem_cons_zero]
              refine wpAnyH_take (i := 7) (v := ?_) rfl (by kernel_rfl) (by kernel_rfl) (by kernel_rfl) (fun _ _ _ h => h) (Or.inl ⟨by rfl, ?_⟩) (by assumption) ?_
              rotate_left
              · (intro w hSw; (try dsimp only at hSw); go_simp) <;> with_reducible rfl
              try simp only [Act.put, List.setIfInBounds_toArray, List.set_cons_zero, List.set_cons_succ, List.getElem_toArray, List.getElem_cons_succ, List.getElem_cons_zero]
              refine wpAnyH_take (i := 8) (v := ?_) rfl (by kernel_rfl) (by kernel_rfl) (by kernel_rfl) (fun _ _ _ h => h) (Or.inl ⟨by rfl, ?_⟩) (by assumption) ?_
              rotate_left
              · (intro w hSw; (try dsimp only at hSw); go_simp) <;> with_reducible rfl
              try simp only [Act.put, List.setIfInBounds_toArray, List.set_cons_zero, List.set_cons_succ, List.getElem_toArray, List.getElem_cons_succ, List.getElem_cons_zero]
              refine wpAnyH_take (i := 9) (v := ?_) rfl (by kernel_rfl) (by kernel_rfl) (by kernel_rfl) (fun _ _ _ h => h) (Or.inl ⟨by rfl, ?_⟩) (by assumption) ?_
              rotate_left
              · (intro w hSw; (try dsimp only at hSw); go_simp) <;> with_reducible rfl
              try simp only [Act.put, List.setIfInBounds_toArray, List.set_cons_zero, List.set_cons_succ, List.getElem_toArray, List.getElem_cons_succ, List.getElem_cons_zero]
              refine wpAnyH_take (i := 10) (v := ?_) rfl (by kernel_rfl) (by kernel_rfl) (by kernel_rfl) (fun _ _ _ h => h) (Or.inl ⟨by rfl, ?_⟩) (by assumption) ?_
              rotate_left
              · (intro w hSw; (try dsimp only at hSw); go_simp) <;> with_reducible rfl
              try simp only [Act.put, List.setIfInBounds_toArray, List.set_cons_zero, List.set_cons_succ, List.getElem_toArray, List.getElem_cons_succ, List.getElem_cons_zero]
              refine wpAnyH_take (i := 12) (v := ?_) rfl (by kernel_rfl) (by kernel_rfl) (by kernel_rfl) (fun _ _ _ h => h) (Or.inl ⟨by rfl, ?_⟩) (by assumption) ?_
              rotate_left
              · (intro w hSw; (try dsimp only at hSw); go_simp) <;> with_reducible rfl
              try simp only [Act.put, List.setIfInBounds_toArray, List.set_cons_zero, List.set_cons_succ, List.getElem_toArray, List.getElem_cons_succ, List.getElem_cons_zero]
              refine wpAnyH_take (i := 13) (v := ?_) rfl (by kernel_rfl) (by kernel_rfl) (by kernel_rfl) (fun _ _ _ h => h) (Or.inl ⟨by rfl, ?_⟩) (by assumption) ?_
              rotate_left
              · (intro w hSw; (try dsimp only at hSw); go_simp) <;> with_reducible rfl
              try simp only [Act.put, List.setIfInBounds_toArray, List.set_cons_zero, List.set_cons_succ, List.getElem_toArray, List.getElem_cons_succ, List.getElem_cons_zero]
              refine wpAnyH_take (i := 14) (v := ?_) rfl (by kernel_rfl) (by kernel_rfl) (by kernel_rfl) (fun _ _ _ h => h) (Or.inl ⟨by rfl, ?_⟩) (by assumption) ?_
              rotate_left
              · (intro w hSw; (try dsimp only at hSw); go_simp) <;> with_reducible rfl
              try simp only [Act.put, List.setIfInBounds_toArray, List.set_cons_zero, List.set_cons_succ, List.getElem_toArray, List.getElem_cons_succ, List.getElem_cons_zero]
              refine wpAnyH_take (i := 15) (v := ?_) rfl (by kernel_rfl) (by kernel_rfl) (by kernel_rfl) (fun _ _ _ h => h) (Or.inl ⟨by rfl, ?_⟩) (by assumption) ?_
              rotate_left
              · (intro w hSw; (try dsimp only at hSw); go_simp) <;> with_reducible rfl
              try simp only [Act.put, List.setIfInBounds_toArray, List.set_cons_zero, List.set_cons_succ, List.getElem_toArray, List.getElem_cons_succ, List.getElem_cons_zero]
              refine wpAnyH_ready (rs := [11]) (by kernel_rfl) (by simp) ?_
              refine AllReadyH.cons rfl (fun K hK => ?_) AllReadyH.nil
              try dsimp only [List.getElem_toArray, List.getElem_cons_succ, List.getElem_cons_zero]
              go_simp
              refine hK.out _ _ ?_ (fun hHeld => ?_)
              · (try dsimp only); first | (go_split_ands; exact ⟨by assumption, by assumption⟩) | (go_split_ands; exact ⟨(World.cell?_setCell_other _ _ _ _ (fun e => ngc.out (congrArg Addr.block e).symm)).trans (by assumption), (World.cell?_setCell_other _ _ _ _ (fun e => ngl.out (congrArg Addr.block e).symm)).trans (by assumption)⟩) | go_keep
              clear hK K
              try simp only [Act.put, List.setIfInBounds_toArray, List.set_cons_zero, List.set_cons_succ, List.getElem_toArray, List.getElem_cons_succ, List.getElem_cons_zero]
              refine wpAnyH_take (i := 16) (v := ?_) rfl (by kernel_rfl) (by kernel_rfl) (by kernel_rfl) (fun _ _ _ h => h) (Or.inl ⟨by rfl, ?_⟩) (by assumption) ?_
              rotate_left
              · (intro w hSw; (try dsimp only at hSw); go_simp) <;> with_reducible rfl
              try simp only [Act.put, List.setIfInBounds_toArray, List.set_cons_zero, List.set_cons_succ, List.getElem_toArray, List.getElem_cons_succ, List.getElem_cons_zero]
              refine wpAnyH_take (i := 17) (v := ?_) rfl (by kernel_rfl) (by kernel_rfl) (by kernel_rfl) (fun _ _ _ h => h) (Or.inl ⟨by rfl, ?_⟩) (by assumption) ?_
              rotate_left
              · (intro w hSw; (try dsimp only at hSw); go_simp) <;> with_reducible rfl
              try simp only [Act.put, List.setIfInBounds_toArray, List.set_cons_zero, List.set_cons_succ, List.getElem_toArray, List.getElem_cons_succ, List.getElem_cons_zero]
              refine wpAnyH_take (i := 18) (v := ?_) rfl (by kernel_rfl) (by kernel_rfl) (by kernel_rfl) (fun _ _ _ h => h) (Or.inl ⟨by rfl, ?_⟩) (by assumption) ?_
              rotate_left
              · (intro w hSw; (try dsimp only at hSw); go_simp) <;> with_reducible rfl
              try simp only [Act.put, List.setIfInBounds_toArray, List.set_cons_zero, List.set_cons_succ, List.getElem_toArray, List.getElem_cons_succ, List.getElem_cons_zero]
              refine wpAnyH_ready (rs := [19]) (by kernel_rfl) (by simp) ?_
              refine AllReadyH.cons rfl (fun K hK => ?_) AllReadyH.nil
              try dsimp only [List.getElem_toArray, List.getElem_cons_succ, List.getElem_cons_zero]
              go_simp
              refine hK.out _ _ ?_ (fun hHeld => ?_)
              · (try dsimp only); first | (go_split_ands; exact ⟨by assumption, by assumption⟩) | (go_split_ands; exact ⟨(World.cell?_setCell_other _ _ _ _ (fun e => ngc.out (congrArg Addr.block e).symm)).trans (by assumption), (World.cell?_setCell_other _ _ _ _ (fun e => ngl.out (congrArg Addr.block e).symm)).trans (by assumption)⟩) | go_keep
              clear hK K
              try simp only [Act.put, List.setIfInBounds_toArray, List.set_cons_zero, List.set_cons_succ, List.getElem_toArray, List.getElem_cons_succ, List.getElem_cons_zero]
              refine wpAnyH_done (by kernel_rfl) ?_ _
              have q0 : ((wr.setCell ⟨w13.heap.size, fb, none⟩ (.int .i64 (y0 + dk + 3))).drew).cell? ⟨gd, od + k, none⟩ = some (.int .i64 (fb : Int)) := (World.cell?_setCell_other _ _ _ _ (fun e => ngd.out (congrArg Addr.block e).symm)).trans d0
              have q1 : ((wr.setCell ⟨w13.heap.size, fb, none⟩ (.int .i64 (y0 + dk + 3))).drew).cell? ⟨gc, oc + k, none⟩ = some (.int .i64 (fb : Int)) := (World.cell?_setCell_other _ _ _ _ (fun e => ngc.out (congrArg Addr.block e).symm)).trans c0
              have q2 : ((wr.setCell ⟨w13.heap.size, fb, none⟩ (.int .i64 (y0 + dk + 3))).drew).cell? ⟨w13.heap.size, fb, none⟩ = some (.int .i64 (y0 + dk + 3)) := HL2.out
              have HS3 := Lib.hid (show ((wr.setCell ⟨w13.heap.size, fb, none⟩ (.int .i64 (y0 + dk + 3))).drew).ownsRow w13.heap.size 2 1 (.slice (some ⟨w13.heap.size, 0, none⟩) D.length D.length) D.length (intsRow (barLeft D.length m (cutSt m D (k + 1)).2)) from HS2.out)
              have HB3 := Lib.hid (show Below w13.heap.size w13 ((wr.setCell ⟨w13.heap.size, fb, none⟩ (.int .i64 (y0 + dk + 3))).drew) from HB2.out.drew)
              obtain ⟨wn, hwn⟩ : ∃ wn, wn = ((wr.setCell ⟨w13.heap.size, fb, none⟩ (.int .i64 (y0 + dk + 3))).drew) := ⟨_, rfl⟩
              try rw [← hwn]
              rw [← hwn] at q0 q1 q2 HS3 HB3
              clear hHeld hwn HS2 HB2 HL2 c0 d0 hleft f0
              obtain ⟨U, hU⟩ : ∃ U : Int, U = ((cutSt m D k).2.length : Int) := ⟨_, rfl⟩
              rw [← hU]
              have Hu := Lib.hid hU
              clear hU
              by_cases hu : U < (fb : Int) + 1
              · skip
                go_wp2
                go_roundw
                case rel =>
                  clear x1 x2 x3 x4 v1 v2 v3
                  exact ⟨k + 1, by go_num, by omega, by have h1 := Hu.out; have h2 := Hf7.out; congr 1; omega, HS3.out, HB3.out⟩
                case measure => clear x1 x2 x3 x4 v1 v2 v3; simp [intOf]; omega
              · skip
                go_wp2
                go_roundw
                case rel =>
                  clear x1 x2 x3 x4 v1 v2 v3
                  exact ⟨k + 1, by go_num, by omega, by have h1 := Hu.out; have h2 := Hf7.out; congr 1; omega, HS3.out, HB3.out⟩
                case measure => clear x1 x2 x3 x4 v1 v2 v3; simp [intOf]; omega
            · skip
              have hk2 : k = D.length := by have := HDl.out; omega
              subst hk2
              have hDl := HDl.out
              obtain ⟨g1, g2, g3, g4⟩ := HFL.out
              have bw : Below w.heap.size w wr := b13.trans (Hbw.out.mono b13.size)
              obtain ⟨U, hU⟩ : ∃ U : Nat, U = (cutSt m D D.length).2.length := ⟨_, rfl⟩
              rw [← hU]
              rw [← hU] at g2 g3
              clear hU
              have p1 : (F : Int) * (m + 3) ≤ 8 * 6003 := Int.mul_le_mul (by omega) (by omega) (by omega) (by omega)
              have p0 : 0 ≤ (F : Int) * (m + 3) := Int.mul_nonneg (by omega) (by omega)
              have HZ := Lib.hid (sumI_nonneg D (fun k hk => by have := HD1.out k hk; omega))
              obtain ⟨Z, hZ⟩ : ∃ Z, Z = sumI D := ⟨_, rfl⟩
              have hz0 := HZ.out
              rw [← hZ] at g4 hz0
              have a1 : -9223372036854775808 ≤ 3 * (L.length : Int) ∧ 3 * (L.length : Int) ≤ 9223372036854775807 := by omega
              have a2 : -9223372036854775808 ≤ Z + 3 * (L.length : Int) ∧ Z + 3 * (L.length : Int) ≤ 9223372036854775807 := by omega
              have a3 : -9223372036854775808 ≤ m + 3 ∧ m + 3 ≤ 9223372036854775807 := by omega
              have a4 : -9223372036854775808 ≤ (F : Int) * (m + 3) ∧ (F : Int) * (m + 3) ≤ 9223372036854775807 := by omega
              have HQ := Lib.hid (fun (i : Nat) (hi : i < D.length) => (show 0 ≤ intsAt D i ∧ intsAt D i ≤ 1000000 from ⟨by have := HD1.out i hi; omega, by have := HD2.out i hi; omega⟩))
              have HN6 := Lib.hid (show D.length ≤ 1000000 by omega)
              have v1 : decide (1 ≤ (F : Int)) = true := by simp; omega
              have v2 : F ≤ U := g2
              have v3 : decide (Z + 3 * (L.length : Int) ≤ (F : Int) * (m + 3)) = true := by simp; omega
              have x1 := IntWalk.i64_in _ a1
              have x2 := IntWalk.i64_in _ a2
              have x3 := IntWalk.i64_in _ a3
              have x4 := IntWalk.i64_in _ a4
              clear a1 a2 a3 a4
              have HP := Lib.hid hZ
              clear hZ g1 g2 g3 g4 p1 p0 hz0 hDl
              go_wp2_with fail
              refine (sum_any wr D (.slice Al L.length cl) ((((YL0.out.below hb12).below hb13)).below Hbw.out) HQ.out HN6.out).mono ?_
              rintro e wz ⟨rfl, hbz⟩
              rw [← HP.out]
              go_wp2
              go_ret
              exact ⟨rfl, bw.trans (hbz.mono bw.size)⟩
        · skip
          have eb : (cutF L m).2 = barsCode L m := by
            unfold cutF; split
            · rename_i h; exact h.symm
            · rfl
          have ub : ((cutF L m).2 == 0) = false := by rw [eb]; simpa using hb
          clear eb hb
          go_wp2
          go_ret
          exact ⟨rfl, b10⟩
      · skip
        by_cases h3 : X.length = 3
        · skip
          have ua : (areaT X X.length == 0) = false := by simpa using HT.out h3 hv
          have u3 : ((X.length : Int) == 3) = true := by simp; omega
          have Hh3 := Lib.hid h3
          clear h3
          by_cases hb : barsCode L m = 0
          · skip
            obtain ⟨h1, h2, h3⟩ := barsCode_zero hb
            obtain ⟨t3, t8, _⟩ := areTubes_iff h1
            have hm : 1000 ≤ m ∧ m ≤ 6000 := by simpa [inR] using h2
            have l1 : (cutF L m) = ((cutSt m (lensN L L.length) L.length).1, 0) := by simp [cutF, hb]
            have l2 : fewF L m = (((fewest ((lensN L L.length).map (· + 3)) m : Nat) : Int), (0 : Int)) := by simp only [fewF, if_pos hb, lens3]
            have l3 : lengthsF L = (lensN L L.length, 0) := by simp [lengthsF, h1]
            obtain ⟨D, hDe⟩ : ∃ D, D = lensN L L.length := ⟨_, rfl⟩
            have hDl : D.length = L.length := by rw [hDe, lensN_len]
            have hD1 : ∀ i, i < D.length → 1 ≤ intsAt D i := fun i hi => by rw [hDe, lensN_at _ (by omega)]; exact (lenT_bd h1 (by omega)).1
            have hD2 : ∀ i, i < D.length → intsAt D i ≤ m := fun i hi => by rw [hDe]; exact h3 i (by omega)
            have FL := few_law hm ⟨by omega, by omega⟩ hD1 hD2
            have HST := Lib.hid (fun k hk => bar_step (k := k) hm hD1 hD2 hk)
            rw [← hDe, ← hDl] at l1
            rw [← hDe] at l2 l3
            have ZYci := Lib.hid ((K9Yci.out.below hb10))
            rw [l1] at ZYci
            have ZYcs := Lib.hid ((K9Ycs.out.below hb10))
            rw [l1] at ZYcs
            rw [l1, l2]
            have hcl : (cutSt m D D.length).1.length = D.length := cut_first m D D.length (Nat.le_refl _)
            obtain ⟨C, hCe⟩ : ∃ C, C = (cutSt m D D.length).1 := ⟨_, rfl⟩
            rw [← hCe] at hcl ZYci ZYcs ⊢
            obtain ⟨F, hFe⟩ : ∃ F, F = fewest (D.map (· + 3)) m := ⟨_, rfl⟩
            rw [← hFe] at FL ⊢
            have Hhc := Lib.hid hcl
            have HCe := Lib.hid hCe
            have HFL := Lib.hid FL
            have HDl := Lib.hid hDl
            have HD1 := Lib.hid hD1
            have HD2 := Lib.hid hD2
            clear hcl hCe FL hDl hD1 hD2 hFe hDe l1 l2 hb h3 h2
            go_wp2_with fail
            refine (implLengthsOf_any w10 L _ (K9V.out.below hb10) (fun _ _ => trivial) N).mono ?_
            rintro e w11 ⟨yl, rfl, ho, hb11⟩
            have b11 := b10.trans (hb11.mono b10.size)
            have YL0 := Lib.hid (Sl.of_own ho)
            clear ho
            rw [l3] at YL0
            go_wp2_with fail
            refine (specLengthsOf_any w11 L _ ((K9V.out.below hb10).below hb11) (fun _ _ => trivial) N).mono ?_
            rintro e w12 ⟨yk, rfl, ho, hb12⟩
            have b12 := b11.trans (hb12.mono b11.size)
            have YK := Lib.hid (Sl.of_own ho)
            clear ho
            rw [l3] at YK
            rw [l3]
            go_wp2_with fail
            refine (likeInts_same D yl yk w12 (YL0.out.below hb12) YK.out (by have := HDl.out; omega)).mono ?_
            rintro e w13 ⟨rfl, hb13⟩
            have b13 := b12.trans (hb13.mono b12.size)
            obtain ⟨Al, cl, eyl, hal, hcl2, _⟩ := YL0.out
            have eyl2 : yl = .slice Al L.length cl := by rw [← HDl.out]; exact eyl
            clear eyl
            subst eyl2
            clear hal hcl2 l3
            have hcl := Hhc.out
            rw [hcl]
            have hDl := HDl.out
            rw [hDl]
            clear hcl
            obtain ⟨i0, hi, hz0, hz1, hz2⟩ := info_parts Try.info_ints
            go_wp2_with (at_make; refine wpList_make_full _ rfl _ _ 35 rfl w13.heap.size 2 i0 _ 1 Try.underlying35 hi hz0 hz1 _ _ _ _ L.length rfl rfl rfl rfl (by rw [hz2]; omega) (by unfold maxLen; omega) (Nat.le_refl _) ?_; intro wm hown hgr)
            have hbm := (Below.refl w13.heap.size w13).grown hgr (Nat.le_refl _) (fun _ h => by cases h)
            have HBM := Lib.hid hbm
            clear hgr hbm
            have hB0 : (madeCells (Value.int .i64 0).cells (L.length * 1)).toList = intsRow (barLeft D.length m (cutSt m D 0).2) := by
              rw [show (cutSt m D 0).2 = [] by simp [cutSt], barLeft_nil, hDl, Nat.mul_one]
              show (madeCells #[Value.int .i64 0] L.length).toList = _
              rw [toList_madeCells_one]; simp [intsRow]
            have Hown : Hid (wm.ownsRow w13.heap.size 2 1 (.slice (some ⟨w13.heap.size, 0, none⟩) D.length D.length) D.length (intsRow (barLeft D.length m (cutSt m D 0).2))) := by
              rw [← hB0, hDl]; exact Lib.hid hown
            clear hown hB0
            have t8h := Lib.hid t8
            clear hDl
            go_wp2
            go_loopw [25, 26] (fun u i wr => ∃ k : Nat, i = .int .i64 k ∧ k ≤ L.length ∧ u = .int .i64 ((cutSt m D k).2.length : Nat) ∧ wr.ownsRow w13.heap.size 2 1 (.slice (some ⟨w13.heap.size, 0, none⟩) D.length D.length) D.length (intsRow (barLeft D.length m (cutSt m D k).2)) ∧ Below w13.heap.size w13 wr) (fun _ i _ => L.length - (intOf i).toNat)
            case atStart => exact ⟨0, rfl, Nat.zero_le _, by simp [cutSt], Hown.out, HBM.out⟩
            case round =>
              obtain ⟨k, rfl, hk, rfl, ho, hbw⟩ := hrel
              have Ho := Lib.hid ho
              have Hbw := Lib.hid hbw
              clear ho hbw Hown HBM
              by_cases hlt : k < L.length
              · skip
                obtain ⟨fb, hf1, hf2, hf3, hf4, hf5, hf6, hf7⟩ := HST.out k (by have := HDl.out; omega)
                have hd1 := HD1.out k (by have := HDl.out; omega)
                have hd2 := HD2.out k (by have := HDl.out; omega)
                obtain ⟨y0, hy0⟩ : ∃ y0, y0 = intsAt (barLeft D.length m (cutSt m D k).2) fb := ⟨_, rfl⟩
                have hleft : wr.cell? ⟨w13.heap.size, fb, none⟩ = some (.int .i64 y0) := by
                  rw [Ho.out.cellAt fb (by have := HDl.out; omega), hy0]; exact intsRow_at _ fb (by rw [barLeft_len]; exact hf2)
                rw [← hy0] at hf3 hf4 hf5 hf6
                have f0 := Ho.out.frozenAt fb
                obtain ⟨gc, oc, rfl, hgc, c0⟩ := (Sl.rd (((((ZYcs.out.below hb11).below hb12).below hb13)).below Hbw.out)).ints (l := C) (k := k) (by rw [Hhc.out, HDl.out]; exact hlt)
                obtain ⟨gd, od, rfl, hgd, d0⟩ := (Sl.rd (((((ZYci.out.below hb11).below hb12).below hb13)).below Hbw.out)).ints (l := C) (k := k) (by rw [Hhc.out, HDl.out]; exact hlt)
                obtain ⟨gl, ol, rfl, hgl, l0⟩ := (Sl.rd ((((YL0.out.below hb12).below hb13)).below Hbw.out)).ints (l := D) (k := k) (by rw [HDl.out]; exact hlt)
                have hcv2 : intsAt C k = (fb : Int) := by rw [HCe.out]; exact hf1
                rw [hcv2] at c0 d0
                clear hcv2 hf1
                have ngc : Hid (gc ≠ w13.heap.size) := by
                  obtain ⟨_, _, e, _, _, hr⟩ := (((ZYcs.out.below hb11).below hb12).below hb13)
                  obtain ⟨g2, o2, e2, hg2, _⟩ := hr.2 (by have := Hhc.out; have := HDl.out; omega)
                  injection e with e
                  rw [← e] at e2
                  injection e2 with e2
                  injection e2 with e2
                  exact Lib.hid (by omega)
                have ngd : Hid (gd ≠ w13.heap.size) := by
                  obtain ⟨_, _, e, _, _, hr⟩ := (((ZYci.out.below hb11).below hb12).below hb13)
                  obtain ⟨g2, o2, e2, hg2, _⟩ := hr.2 (by have := Hhc.out; have := HDl.out; omega)
                  injection e with e
                  rw [← e] at e2
                  injection e2 with e2
                  injection e2 with e2
                  exact Lib.hid (by omega)
                have ngl : Hid (gl ≠ w13.heap.size) := by
                  obtain ⟨_, _, e, _, _, hr⟩ := ((YL0.out.below hb12).below hb13)
                  obtain ⟨g2, o2, e2, hg2, _⟩ := hr.2 (by have := Hhc.out; have := HDl.out; omega)
                  injection e with e
                  rw [← e] at e2
                  injection e2 with e2
                  injection e2 with e2
                  exact Lib.hid (by omega)
                obtain ⟨dk, hdk⟩ : ∃ dk, dk = intsAt D k := ⟨_, rfl⟩
                rw [← hdk] at l0 hd1 hd2 hf5 hf6
                have x1 := IntWalk.i64_in (y0 + dk) (by omega)
                have x2 := IntWalk.i64_in (y0 + dk + 3) (by omega)
                have x3 := IntWalk.i64_in ((fb : Int) + 1) (by have := HDl.out; omega)
                have x4 := IntWalk.i64_in (m + 3) (by omega)
                have j0 : (0 : Int) ≤ (k : Int) := Int.natCast_nonneg _
                have j2 : (0 : Int) ≤ (fb : Int) := Int.natCast_nonneg _
                have j4 : (k : Int) < (L.length : Int) := by omega
                have j5 : (fb : Int) < (L.length : Int) := by have := HDl.out; omega
                have j6 : fb < L.length := by have := HDl.out; omega
                have j7 : k < L.length := by omega
                have v1 : decide (m + 3 < y0 + dk + 3) = false := by simp; omega
                have v2 : y0 + dk ≤ m := by omega
                have v3 : ¬ m < y0 + dk := by omega
                have HS2 := Lib.hid (show (wr.setCell ⟨w13.heap.size, fb, none⟩ (.int .i64 (y0 + dk + 3))).ownsRow w13.heap.size 2 1 (.slice (some ⟨w13.heap.size, 0, none⟩) D.length D.length) D.length (intsRow (barLeft D.length m (cutSt m D (k + 1)).2)) by
                  have := (Ho.out.stored fb (.int .i64 (y0 + dk + 3))).1
                  rw [intsRow_set, ← hf6] at this; exact this)
                have HB2 := Lib.hid (Hbw.out.setCell (p := ⟨w13.heap.size, fb, none⟩) (Nat.le_refl _) (.int .i64 (y0 + dk + 3)))
                have HL2 : Hid ((wr.setCell ⟨w13.heap.size, fb, none⟩ (.int .i64 (y0 + dk + 3))).cell? ⟨w13.heap.size, fb, none⟩ = some (.int .i64 (y0 + dk + 3))) := by
                  rw [HS2.out.cellAt fb (by have := HDl.out; omega), intsRow_at _ fb (by rw [barLeft_len]; exact hf2), hf6, intsAt_set (by rw [barLeft_len]; exact hf2), if_pos rfl]; exact Lib.hid rfl
                have Hf7 := Lib.hid hf7
                clear hf3 hf4 hf5 hf6 hf7 hy0 hdk hd1 hd2
                go_wp2_with fail
                refine wp_region_held_drew (S := (fun w' => w'.cell? ⟨gc, oc + k, none⟩ = some (.int .i64 (fb : Int)) ∧ w'.cell? ⟨gl, ol + k, none⟩ = some (.int .i64 dk))) (by kernel_rfl) ?_ (fun hHeld => ?_)
                · (try dsimp only); first | (go_split_ands; exact ⟨by assumption, by assumption⟩) | (go_split_ands; exact ⟨(World.cell?_setCell_other _ _ _ _ (fun e => ngc.out (congrArg Addr.block e).symm)).trans (by assumption), (World.cell?_setCell_other _ _ _ _ (fun e => ngl.out (congrArg Addr.block e).symm)).trans (by assumption)⟩) | go_keep
                refine wpAnyH_take (i := 0) (v := ?_) rfl (by kernel_rfl) (by kernel_rfl) (by kernel_rfl) (fun _ _ _ h => h) (Or.inl ⟨by rfl, ?_⟩) (by assumption) ?_
                rotate_left
                · (intro w hSw; (try dsimp only at hSw); go_simp) <;> with_reducible rfl
                try simp only [Act.put, List.setIfInBounds_toArray, List.set_cons_zero, List.set_cons_succ, List.getElem_toArray, List.getElem_cons_succ, List.getElem_cons_zero]
                refine wpAnyH_take (i := 1) (v := ?_) rfl (by kernel_rfl) (by kernel_rfl) (by kernel_rfl) (fun _ _ _ h => h) (Or.inl ⟨by rfl, ?_⟩) (by assumption) ?_
                rotate_left
                · (intro w hSw; (try dsimp only at hSw); go_simp) <;> with_reducible rfl
                try simp only [Act.put, List.setIfInBounds_toArray, List.set_cons_zero, List.set_cons_succ, List.getElem_toArray, List.getElem_cons_succ, List.getElem_cons_zero]
                refine wpAnyH_take (i := 2) (v := ?_) rfl (by kernel_rfl) (by kernel_rfl) (by kernel_rfl) (fun _ _ _ h => h) (Or.inl ⟨by rfl, ?_⟩) (by assumption) ?_
                rotate_left
                · (intro w hSw; (try dsimp only at hSw); go_simp) <;> with_reducible rfl
                try simp only [Act.put, List.setIfInBounds_toArray, List.set_cons_zero, List.set_cons_succ, List.getElem_toArray, List.getElem_cons_succ, List.getElem_cons_zero]
                refine wpAnyH_take (i := 3) (v := ?_) rfl (by kernel_rfl) (by kernel_rfl) (by kernel_rfl) (fun _ _ _ h => h) (Or.inl ⟨by rfl, ?_⟩) (by assumption) ?_
                rotate_left
                · (intro w hSw; (try dsimp only at hSw); go_simp) <;> with_reducible rfl
                try simp only [Act.put, List.setIfInBounds_toArray, List.set_cons_zero, List.set_cons_succ, List.getElem_toArray, List.getElem_cons_succ, List.getElem_cons_zero]
                refine wpAnyH_take (i := 4) (v := ?_) rfl (by kernel_rfl) (by kernel_rfl) (by kernel_rfl) (fun _ _ _ h => h) (Or.inl ⟨by rfl, ?_⟩) (by assumption) ?_
                rotate_left
                · (intro w hSw; (try dsimp only at hSw); go_simp) <;> with_reducible rfl
                try simp only [Act.put, List.setIfInBounds_toArray, List.set_cons_zero, List.set_cons_succ, List.getElem_toArray, List.getElem_cons_succ, List.getElem_cons_zero]
                refine wpAnyH_take (i := 5) (v := ?_) rfl (by kernel_rfl) (by kernel_rfl) (by kernel_rfl) (fun _ _ _ h => h) (Or.inl ⟨by rfl, ?_⟩) (by assumption) ?_
                rotate_left
                · (intro w hSw; (try dsimp only at hSw); go_simp) <;> with_reducible rfl
                try simp only [Act.put, List.setIfInBounds_toArray, List.set_cons_zero, List.set_cons_succ, List.getElem_toArray, List.getElem_cons_succ, List.getElem_cons_zero]
                refine wpAnyH_take (i := 6) (v := ?_) rfl (by kernel_rfl) (by kernel_rfl) (by kernel_rfl) (fun _ _ _ h => h) (Or.inl ⟨by rfl, ?_⟩) (by assumption) ?_
                rotate_left
                · (intro w hSw; (try dsimp only at hSw); go_simp) <;> with_reducible rfl
                try simp only [Act.put, List.setIfInBounds_toArray, List.set_cons_zero, List.set_cons_succ, List.getElem_toArray, List.getElem_cons_succ, List.getElem_cons_zero]
                refine wpAnyH_take (i := 7) (v := ?_) rfl (by kernel_rfl) (by kernel_rfl) (by kernel_rfl) (fun _ _ _ h => h) (Or.inl ⟨by rfl, ?_⟩) (by assumption) ?_
                rotate_left
                · (intro w hSw; (try dsimp only at hSw); go_simp) <;> with_reducible rfl
                try simp only [Act.put, List.setIfInBounds_toArray, List.set_cons_zero, List.set_cons_succ, List.getElem_toArray, List.getElem_cons_succ, List.getElem_cons_zero]
                refine wpAnyH_take (i := 8) (v := ?_) rfl (by kernel_rfl) (by kernel_rfl) (by kernel_rfl) (fun _ _ _ h => h) (Or.inl ⟨by rfl, ?_⟩) (by assumption) ?_
                rotate_left
                · (intro w hSw; (try dsimp only at hSw); go_simp) <;> with_reducible rfl
                try simp only [Act.put, List.setIfInBounds_toArray, List.set_cons_zero, List.set_cons_succ, List.getElem_toArray, List.getElem_cons_succ, List.getElem_cons_zero]
                refine wpAnyH_take (i := 9) (v := ?_) rfl (by kernel_rfl) (by kernel_rfl) (by kernel_rfl) (fun _ _ _ h => h) (Or.inl ⟨by rfl, ?_⟩) (by assumption) ?_
                rotate_left
                · (intro w hSw; (try dsimp only at hSw); go_simp) <;> with_reducible rfl
                try simp only [Act.put, List.setIfInBounds_toArray, List.set_cons_zero, List.set_cons_succ, List.getElem_toArray, List.getElem_cons_succ, List.getElem_cons_zero]
                refine wpAnyH_take (i := 10) (v := ?_) rfl (by kernel_rfl) (by kernel_rfl) (by kernel_rfl) (fun _ _ _ h => h) (Or.inl ⟨by rfl, ?_⟩) (by assumption) ?_
                rotate_left
                · (intro w hSw; (try dsimp only at hSw); go_simp) <;> with_reducible rfl
                try simp only [Act.put, List.setIfInBounds_toArray, List.set_cons_zero, List.set_cons_succ, List.getElem_toArray, List.getElem_cons_succ, List.getElem_cons_zero]
                refine wpAnyH_take (i := 12) (v := ?_) rfl (by kernel_rfl) (by kernel_rfl) (by kernel_rfl) (fun _ _ _ h => h) (Or.inl ⟨by rfl, ?_⟩) (by assumption) ?_
                rotate_left
                · (intro w hSw; (try dsimp only at hSw); go_simp) <;> with_reducible rfl
                try simp only [Act.put, List.setIfInBounds_toArray, List.set_cons_zero, List.set_cons_succ, List.getElem_toArray, List.getElem_cons_succ, List.getElem_cons_zero]
                refine wpAnyH_take (i := 13) (v := ?_) rfl (by kernel_rfl) (by kernel_rfl) (by kernel_rfl) (fun _ _ _ h => h) (Or.inl ⟨by rfl, ?_⟩) (by assumption) ?_
                rotate_left
                · (intro w hSw; (try dsimp only at hSw); go_simp) <;> with_reducible rfl
                try simp only [Act.put, List.setIfInBounds_toArray, List.set_cons_zero, List.set_cons_succ, List.getElem_toArray, List.getElem_cons_succ, List.getElem_cons_zero]
                refine wpAnyH_take (i := 14) (v := ?_) rfl (by kernel_rfl) (by kernel_rfl) (by kernel_rfl) (fun _ _ _ h => h) (Or.inl ⟨by rfl, ?_⟩) (by assumption) ?_
                rotate_left
                · (intro w hSw; (try dsimp only at hSw); go_simp) <;> with_reducible rfl
                try simp only [Act.put, List.setIfInBounds_toArray, List.set_cons_zero, List.set_cons_succ, List.getElem_toArray, List.getElem_cons_succ, List.getElem_cons_zero]
                refine wpAnyH_take (i := 15) (v := ?_) rfl (by kernel_rfl) (by kernel_rfl) (by kernel_rfl) (fun _ _ _ h => h) (Or.inl ⟨by rfl, ?_⟩) (by assumption) ?_
                rotate_left
                · (intro w hSw; (try dsimp only at hSw); go_simp) <;> with_reducible rfl
                try simp only [Act.put, List.setIfInBounds_toArray, List.set_cons_zero, List.set_cons_succ, List.getElem_toArray, List.getElem_cons_succ, List.getElem_cons_zero]
                refine wpAnyH_ready (rs := [11]) (by kernel_rfl) (by simp) ?_
                refine AllReadyH.cons rfl (fun K hK => ?_) AllReadyH.nil
                try dsimp only [List.getElem_toArray, List.getElem_cons_succ, List.getElem_cons_zero]
                go_simp
                refine hK.out _ _ ?_ (fun hHeld => ?_)
                · (try dsimp only); first | (go_split_ands; exact ⟨by assumption, by assumption⟩) | (go_split_ands; exact ⟨(World.cell?_setCell_other _ _ _ _ (fun e => ngc.out (congrArg Addr.block e).symm)).trans (by assumption), (World.cell?_setCell_other _ _ _ _ (fun e => ngl.out (congrArg Addr.block e).symm)).trans (by assumption)⟩) | go_keep
                clear hK K
                try simp only [Act.put, List.setIfInBounds_toArray, List.set_cons_zero, List.set_cons_succ, List.getElem_toArray, List.getElem_cons_succ, List.getElem_cons_zero]
                refine wpAnyH_take (i := 16) (v := ?_) rfl (by kernel_rfl) (by kernel_rfl) (by kernel_rfl) (fun _ _ _ h => h) (Or.inl ⟨by rfl, ?_⟩) (by assumption) ?_
                rotate_left
                · (intro w hSw; (try dsimp only at hSw); go_simp) <;> with_reducible rfl
                try simp only [Act.put, List.setIfInBounds_toArray, List.set_cons_zero, List.set_cons_succ, List.getElem_toArray, List.getElem_cons_succ, List.getElem_cons_zero]
                refine wpAnyH_take (i := 17) (v := ?_) rfl (by kernel_rfl) (by kernel_rfl) (by kernel_rfl) (fun _ _ _ h => h) (Or.inl ⟨by rfl, ?_⟩) (by assumption) ?_
                rotate_left
                · (intro w hSw; (try dsimp only at hSw); go_simp) <;> with_reducible rfl
                try simp only [Act.put, List.setIfInBounds_toArray, List.set_cons_zero, List.set_cons_succ, List.getElem_toArray, List.getElem_cons_succ, List.getElem_cons_zero]
                refine wpAnyH_take (i := 18) (v := ?_) rfl (by kernel_rfl) (by kernel_rfl) (by kernel_rfl) (fun _ _ _ h => h) (Or.inl ⟨by rfl, ?_⟩) (by assumption) ?_
                rotate_left
                · (intro w hSw; (try dsimp only at hSw); go_simp) <;> with_reducible rfl
                try simp only [Act.put, List.setIfInBounds_toArray, List.set_cons_zero, List.set_cons_succ, List.getElem_toArray, List.getElem_cons_succ, List.getElem_cons_zero]
                refine wpAnyH_ready (rs := [19]) (by kernel_rfl) (by simp) ?_
                refine AllReadyH.cons rfl (fun K hK => ?_) AllReadyH.nil
                try dsimp only [List.getElem_toArray, List.getElem_cons_succ, List.getElem_cons_zero]
                go_simp
                refine hK.out _ _ ?_ (fun hHeld => ?_)
                · (try dsimp only); first | (go_split_ands; exact ⟨by assumption, by assumption⟩) | (go_split_ands; exact ⟨(World.cell?_setCell_other _ _ _ _ (fun e => ngc.out (congrArg Addr.block e).symm)).trans (by assumption), (World.cell?_setCell_other _ _ _ _ (fun e => ngl.out (congrArg Addr.block e).symm)).trans (by assumption)⟩) | go_keep
                clear hK K
                try simp only [Act.put, List.setIfInBounds_toArray, List.set_cons_zero, List.set_cons_succ, List.getElem_toArray, List.getElem_cons_succ, List.getElem_cons_zero]
                refine wpAnyH_done (by kernel_rfl) ?_ _
                have q0 : ((wr.setCell ⟨w13.heap.size, fb, none⟩ (.int .i64 (y0 + dk + 3))).drew).cell? ⟨gd, od + k, none⟩ = some (.int .i64 (fb : Int)) := (World.cell?_setCell_other _ _ _ _ (fun e => ngd.out (congrArg Addr.block e).symm)).trans d0
                have q1 : ((wr.setCell ⟨w13.heap.size, fb, none⟩ (.int .i64 (y0 + dk + 3))).drew).cell? ⟨gc, oc + k, none⟩ = some (.int .i64 (fb : Int)) := (World.cell?_setCell_other _ _ _ _ (fun e => ngc.out (congrArg Addr.block e).symm)).trans c0
                have q2 : ((wr.setCell ⟨w13.heap.size, fb, none⟩ (.int .i64 (y0 + dk + 3))).drew).cell? ⟨w13.heap.size, fb, none⟩ = some (.int .i64 (y0 + dk + 3)) := HL2.out
                have HS3 := Lib.hid (show ((wr.setCell ⟨w13.heap.size, fb, none⟩ (.int .i64 (y0 + dk + 3))).drew).ownsRow w13.heap.size 2 1 (.slice (some ⟨w13.heap.size, 0, none⟩) D.length D.length) D.length (intsRow (barLeft D.length m (cutSt m D (k + 1)).2)) from HS2.out)
                have HB3 := Lib.hid (show Below w13.heap.size w13 ((wr.setCell ⟨w13.heap.size, fb, none⟩ (.int .i64 (y0 + dk + 3))).drew) from HB2.out.drew)
                obtain ⟨wn, hwn⟩ : ∃ wn, wn = ((wr.setCell ⟨w13.heap.size, fb, none⟩ (.int .i64 (y0 + dk + 3))).drew) := ⟨_, rfl⟩
                try rw [← hwn]
                rw [← hwn] at q0 q1 q2 HS3 HB3
                clear hHeld hwn HS2 HB2 HL2 c0 d0 hleft f0
                obtain ⟨U, hU⟩ : ∃ U : Int, U = ((cutSt m D k).2.length : Int) := ⟨_, rfl⟩
                rw [← hU]
                have Hu := Lib.hid hU
                clear hU
                by_cases hu : U < (fb : Int) + 1
                · skip
                  go_wp2
                  go_roundw
                  case rel =>
                    clear x1 x2 x3 x4 v1 v2 v3
                    exact ⟨k + 1, by go_num, by omega, by have h1 := Hu.out; have h2 := Hf7.out; congr 1; omega, HS3.out, HB3.out⟩
                  case measure => clear x1 x2 x3 x4 v1 v2 v3; simp [intOf]; omega
                · skip
                  go_wp2
                  go_roundw
                  case rel =>
                    clear x1 x2 x3 x4 v1 v2 v3
                    exact ⟨k + 1, by go_num, by omega, by have h1 := Hu.out; have h2 := Hf7.out; congr 1; omega, HS3.out, HB3.out⟩
                  case measure => clear x1 x2 x3 x4 v1 v2 v3; simp [intOf]; omega
              · skip
                have hk2 : k = D.length := by have := HDl.out; omega
                subst hk2
                have hDl := HDl.out
                obtain ⟨g1, g2, g3, g4⟩ := HFL.out
                have bw : Below w.heap.size w wr := b13.trans (Hbw.out.mono b13.size)
                obtain ⟨U, hU⟩ : ∃ U : Nat, U = (cutSt m D D.length).2.length := ⟨_, rfl⟩
                rw [← hU]
                rw [← hU] at g2 g3
                clear hU
                have p1 : (F : Int) * (m + 3) ≤ 8 * 6003 := Int.mul_le_mul (by omega) (by omega) (by omega) (by omega)
                have p0 : 0 ≤ (F : Int) * (m + 3) := Int.mul_nonneg (by omega) (by omega)
                have HZ := Lib.hid (sumI_nonneg D (fun k hk => by have := HD1.out k hk; omega))
                obtain ⟨Z, hZ⟩ : ∃ Z, Z = sumI D := ⟨_, rfl⟩
                have hz0 := HZ.out
                rw [← hZ] at g4 hz0
                have a1 : -9223372036854775808 ≤ 3 * (L.length : Int) ∧ 3 * (L.length : Int) ≤ 9223372036854775807 := by omega
                have a2 : -9223372036854775808 ≤ Z + 3 * (L.length : Int) ∧ Z + 3 * (L.length : Int) ≤ 9223372036854775807 := by omega
                have a3 : -9223372036854775808 ≤ m + 3 ∧ m + 3 ≤ 9223372036854775807 := by omega
                have a4 : -9223372036854775808 ≤ (F : Int) * (m + 3) ∧ (F : Int) * (m + 3) ≤ 9223372036854775807 := by omega
                have HQ := Lib.hid (fun (i : Nat) (hi : i < D.length) => (show 0 ≤ intsAt D i ∧ intsAt D i ≤ 1000000 from ⟨by have := HD1.out i hi; omega, by have := HD2.out i hi; omega⟩))
                have HN6 := Lib.hid (show D.length ≤ 1000000 by omega)
                have v1 : decide (1 ≤ (F : Int)) = true := by simp; omega
                have v2 : F ≤ U := g2
                have v3 : decide (Z + 3 * (L.length : Int) ≤ (F : Int) * (m + 3)) = true := by simp; omega
                have x1 := IntWalk.i64_in _ a1
                have x2 := IntWalk.i64_in _ a2
                have x3 := IntWalk.i64_in _ a3
                have x4 := IntWalk.i64_in _ a4
                clear a1 a2 a3 a4
                have HP := Lib.hid hZ
                clear hZ g1 g2 g3 g4 p1 p0 hz0 hDl
                go_wp2_with fail
                refine (sum_any wr D (.slice Al L.length cl) ((((YL0.out.below hb12).below hb13)).below Hbw.out) HQ.out HN6.out).mono ?_
                rintro e wz ⟨rfl, hbz⟩
                rw [← HP.out]
                go_wp2
                go_ret
                exact ⟨rfl, bw.trans (hbz.mono bw.size)⟩
          · skip
            have eb : (cutF L m).2 = barsCode L m := by
              unfold cutF; split
              · rename_i h; exact h.symm
              · rfl
            have ub : ((cutF L m).2 == 0) = false := by rw [eb]; simpa using hb
            clear eb hb
            go_wp2
            go_ret
            exact ⟨rfl, b10⟩
        · skip
          have u3 : ((X.length : Int) == 3) = false := by simp; omega
          clear h3
          by_cases hb : barsCode L m = 0
          · skip
            obtain ⟨h1, h2, h3⟩ := barsCode_zero hb
            obtain ⟨t3, t8, _⟩ := areTubes_iff h1
            have hm : 1000 ≤ m ∧ m ≤ 6000 := by simpa [inR] using h2
            have l1 : (cutF L m) = ((cutSt m (lensN L L.length) L.length).1, 0) := by simp [cutF, hb]
            have l2 : fewF L m = (((fewest ((lensN L L.length).map (· + 3)) m : Nat) : Int), (0 : Int)) := by simp only [fewF, if_pos hb, lens3]
            have l3 : lengthsF L = (lensN L L.length, 0) := by simp [lengthsF, h1]
            obtain ⟨D, hDe⟩ : ∃ D, D = lensN L L.length := ⟨_, rfl⟩
            have hDl : D.length = L.length := by rw [hDe, lensN_len]
            have hD1 : ∀ i, i < D.length → 1 ≤ intsAt D i := fun i hi => by rw [hDe, lensN_at _ (by omega)]; exact (lenT_bd h1 (by omega)).1
            have hD2 : ∀ i, i < D.length → intsAt D i ≤ m := fun i hi => by rw [hDe]; exact h3 i (by omega)
            have FL := few_law hm ⟨by omega, by omega⟩ hD1 hD2
            have HST := Lib.hid (fun k hk => bar_step (k := k) hm hD1 hD2 hk)
            rw [← hDe, ← hDl] at l1
            rw [← hDe] at l2 l3
            have ZYci := Lib.hid ((K9Yci.out.below hb10))
            rw [l1] at ZYci
            have ZYcs := Lib.hid ((K9Ycs.out.below hb10))
            rw [l1] at ZYcs
            rw [l1, l2]
            have hcl : (cutSt m D D.length).1.length = D.length := cut_first m D D.length (Nat.le_refl _)
            obtain ⟨C, hCe⟩ : ∃ C, C = (cutSt m D D.length).1 := ⟨_, rfl⟩
            rw [← hCe] at hcl ZYci ZYcs ⊢
            obtain ⟨F, hFe⟩ : ∃ F, F = fewest (D.map (· + 3)) m := ⟨_, rfl⟩
            rw [← hFe] at FL ⊢
            have Hhc := Lib.hid hcl
            have HCe := Lib.hid hCe
            have HFL := Lib.hid FL
            have HDl := Lib.hid hDl
            have HD1 := Lib.hid hD1
            have HD2 := Lib.hid hD2
            clear hcl hCe FL hDl hD1 hD2 hFe hDe l1 l2 hb h3 h2
            go_wp2_with fail
            refine (implLengthsOf_any w10 L _ (K9V.out.below hb10) (fun _ _ => trivial) N).mono ?_
            rintro e w11 ⟨yl, rfl, ho, hb11⟩
            have b11 := b10.trans (hb11.mono b10.size)
            have YL0 := Lib.hid (Sl.of_own ho)
            clear ho
            rw [l3] at YL0
            go_wp2_with fail
            refine (specLengthsOf_any w11 L _ ((K9V.out.below hb10).below hb11) (fun _ _ => trivial) N).mono ?_
            rintro e w12 ⟨yk, rfl, ho, hb12⟩
            have b12 := b11.trans (hb12.mono b11.size)
            have YK := Lib.hid (Sl.of_own ho)
            clear ho
            rw [l3] at YK
            rw [l3]
            go_wp2_with fail
            refine (likeInts_same D yl yk w12 (YL0.out.below hb12) YK.out (by have := HDl.out; omega)).mono ?_
            rintro e w13 ⟨rfl, hb13⟩
            have b13 := b12.trans (hb13.mono b12.size)
            obtain ⟨Al, cl, eyl, hal, hcl2, _⟩ := YL0.out
            have eyl2 : yl = .slice Al L.length cl := by rw [← HDl.out]; exact eyl
            clear eyl
            subst eyl2
            clear hal hcl2 l3
            have hcl := Hhc.out
            rw [hcl]
            have hDl := HDl.out
            rw [hDl]
            clear hcl
            obtain ⟨i0, hi, hz0, hz1, hz2⟩ := info_parts Try.info_ints
            go_wp2_with (at_make; refine wpList_make_full _ rfl _ _ 35 rfl w13.heap.size 2 i0 _ 1 Try.underlying35 hi hz0 hz1 _ _ _ _ L.length rfl rfl rfl rfl (by rw [hz2]; omega) (by unfold maxLen; omega) (Nat.le_refl _) ?_; intro wm hown hgr)
            have hbm := (Below.refl w13.heap.size w13).grown hgr (Nat.le_refl _) (fun _ h => by cases h)
            have HBM := Lib.hid hbm
            clear hgr hbm
            have hB0 : (madeCells (Value.int .i64 0).cells (L.length * 1)).toList = intsRow (barLeft D.length m (cutSt m D 0).2) := by
              rw [show (cutSt m D 0).2 = [] by simp [cutSt], barLeft_nil, hDl, Nat.mul_one]
              show (madeCells #[Value.int .i64 0] L.length).toList = _
              rw [toList_madeCells_one]; simp [intsRow]
            have Hown : Hid (wm.ownsRow w13.heap.size 2 1 (.slice (some ⟨w13.heap.size, 0, none⟩) D.length D.length) D.length (intsRow (barLeft D.length m (cutSt m D 0).2))) := by
              rw [← hB0, hDl]; exact Lib.hid hown
            clear hown hB0
            have t8h := Lib.hid t8
            clear hDl
            go_wp2
            go_loopw [25, 26] (fun u i wr => ∃ k : Nat, i = .int .i64 k ∧ k ≤ L.length ∧ u = .int .i64 ((cutSt m D k).2.length : Nat) ∧ wr.ownsRow w13.heap.size 2 1 (.slice (some ⟨w13.heap.size, 0, none⟩) D.length D.length) D.length (intsRow (barLeft D.length m (cutSt m D k).2)) ∧ Below w13.heap.size w13 wr) (fun _ i _ => L.length - (intOf i).toNat)
            case atStart => exact ⟨0, rfl, Nat.zero_le _, by simp [cutSt], Hown.out, HBM.out⟩
            case round =>
              obtain ⟨k, rfl, hk, rfl, ho, hbw⟩ := hrel
              have Ho := Lib.hid ho
              have Hbw := Lib.hid hbw
              clear ho hbw Hown HBM
              by_cases hlt : k < L.length
              · skip
                obtain ⟨fb, hf1, hf2, hf3, hf4, hf5, hf6, hf7⟩ := HST.out k (by have := HDl.out; omega)
                have hd1 := HD1.out k (by have := HDl.out; omega)
                have hd2 := HD2.out k (by have := HDl.out; omega)
                obtain ⟨y0, hy0⟩ : ∃ y0, y0 = intsAt (barLeft D.length m (cutSt m D k).2) fb := ⟨_, rfl⟩
                have hleft : wr.cell? ⟨w13.heap.size, fb, none⟩ = some (.int .i64 y0) := by
                  rw [Ho.out.cellAt fb (by have := HDl.out; omega), hy0]; exact intsRow_at _ fb (by rw [barLeft_len]; exact hf2)
                rw [← hy0] at hf3 hf4 hf5 hf6
                have f0 := Ho.out.frozenAt fb
                obtain ⟨gc, oc, rfl, hgc, c0⟩ := (Sl.rd (((((ZYcs.out.below hb11).below hb12).below hb13)).below Hbw.out)).ints (l := C) (k := k) (by rw [Hhc.out, HDl.out]; exact hlt)
                obtain ⟨gd, od, rfl, hgd, d0⟩ := (Sl.rd (((((ZYci.out.below hb11).below hb12).below hb13)).below Hbw.out)).ints (l := C) (k := k) (by rw [Hhc.out, HDl.out]; exact hlt)
                obtain ⟨gl, ol, rfl, hgl, l0⟩ := (Sl.rd ((((YL0.out.below hb12).below hb13)).below Hbw.out)).ints (l := D) (k := k) (by rw [HDl.out]; exact hlt)
                have hcv2 : intsAt C k = (fb : Int) := by rw [HCe.out]; exact hf1
                rw [hcv2] at c0 d0
                clear hcv2 hf1
                have ngc : Hid (gc ≠ w13.heap.size) := by
                  obtain ⟨_, _, e, _, _, hr⟩ := (((ZYcs.out.below hb11).below hb12).below hb13)
                  obtain ⟨g2, o2, e2, hg2, _⟩ := hr.2 (by have := Hhc.out; have := HDl.out; omega)
                  injection e with e
                  rw [← e] at e2
                  injection e2 with e2
                  injection e2 with e2
                  exact Lib.hid (by omega)
                have ngd : Hid (gd ≠ w13.heap.size) := by
                  obtain ⟨_, _, e, _, _, hr⟩ := (((ZYci.out.below hb11).below hb12).below hb13)
                  obtain ⟨g2, o2, e2, hg2, _⟩ := hr.2 (by have := Hhc.out; have := HDl.out; omega)
                  injection e with e
                  rw [← e] at e2
                  injection e2 with e2
                  injection e2 with e2
                  exact Lib.hid (by omega)
                have ngl : Hid (gl ≠ w13.heap.size) := by
                  obtain ⟨_, _, e, _, _, hr⟩ := ((YL0.out.below hb12).below hb13)
                  obtain ⟨g2, o2, e2, hg2, _⟩ := hr.2 (by have := Hhc.out; have := HDl.out; omega)
                  injection e with e
                  rw [← e] at e2
                  injection e2 with e2
                  injection e2 with e2
                  exact Lib.hid (by omega)
                obtain ⟨dk, hdk⟩ : ∃ dk, dk = intsAt D k := ⟨_, rfl⟩
                rw [← hdk] at l0 hd1 hd2 hf5 hf6
                have x1 := IntWalk.i64_in (y0 + dk) (by omega)
                have x2 := IntWalk.i64_in (y0 + dk + 3) (by omega)
                have x3 := IntWalk.i64_in ((fb : Int) + 1) (by have := HDl.out; omega)
                have x4 := IntWalk.i64_in (m + 3) (by omega)
                have j0 : (0 : Int) ≤ (k : Int) := Int.natCast_nonneg _
                have j2 : (0 : Int) ≤ (fb : Int) := Int.natCast_nonneg _
                have j4 : (k : Int) < (L.length : Int) := by omega
                have j5 : (fb : Int) < (L.length : Int) := by have := HDl.out; omega
                have j6 : fb < L.length := by have := HDl.out; omega
                have j7 : k < L.length := by omega
                have v1 : decide (m + 3 < y0 + dk + 3) = false := by simp; omega
                have v2 : y0 + dk ≤ m := by omega
                have v3 : ¬ m < y0 + dk := by omega
                have HS2 := Lib.hid (show (wr.setCell ⟨w13.heap.size, fb, none⟩ (.int .i64 (y0 + dk + 3))).ownsRow w13.heap.size 2 1 (.slice (some ⟨w13.heap.size, 0, none⟩) D.length D.length) D.length (intsRow (barLeft D.length m (cutSt m D (k + 1)).2)) by
                  have := (Ho.out.stored fb (.int .i64 (y0 + dk + 3))).1
                  rw [intsRow_set, ← hf6] at this; exact this)
                have HB2 := Lib.hid (Hbw.out.setCell (p := ⟨w13.heap.size, fb, none⟩) (Nat.le_refl _) (.int .i64 (y0 + dk + 3)))
                have HL2 : Hid ((wr.setCell ⟨w13.heap.size, fb, none⟩ (.int .i64 (y0 + dk + 3))).cell? ⟨w13.heap.size, fb, none⟩ = some (.int .i64 (y0 + dk + 3))) := by
                  rw [HS2.out.cellAt fb (by have := HDl.out; omega), intsRow_at _ fb (by rw [barLeft_len]; exact hf2), hf6, intsAt_set (by rw [barLeft_len]; exact hf2), if_pos rfl]; exact Lib.hid rfl
                have Hf7 := Lib.hid hf7
                clear hf3 hf4 hf5 hf6 hf7 hy0 hdk hd1 hd2
                go_wp2_with fail
                refine wp_region_held_drew (S := (fun w' => w'.cell? ⟨gc, oc + k, none⟩ = some (.int .i64 (fb : Int)) ∧ w'.cell? ⟨gl, ol + k, none⟩ = some (.int .i64 dk))) (by kernel_rfl) ?_ (fun hHeld => ?_)
                · (try dsimp only); first | (go_split_ands; exact ⟨by assumption, by assumption⟩) | (go_split_ands; exact ⟨(World.cell?_setCell_other _ _ _ _ (fun e => ngc.out (congrArg Addr.block e).symm)).trans (by assumption), (World.cell?_setCell_other _ _ _ _ (fun e => ngl.out (congrArg Addr.block e).symm)).trans (by assumption)⟩) | go_keep
                refine wpAnyH_take (i := 0) (v := ?_) rfl (by kernel_rfl) (by kernel_rfl) (by kernel_rfl) (fun _ _ _ h => h) (Or.inl ⟨by rfl, ?_⟩) (by assumption) ?_
                rotate_left
                · (intro w hSw; (try dsimp only at hSw); go_simp) <;> with_reducible rfl
                try simp only [Act.put, List.setIfInBounds_toArray, List.set_cons_zero, List.set_cons_succ, List.getElem_toArray, List.getElem_cons_succ, List.getElem_cons_zero]
                refine wpAnyH_take (i := 1) (v := ?_) rfl (by kernel_rfl) (by kernel_rfl) (by kernel_rfl) (fun _ _ _ h => h) (Or.inl ⟨by rfl, ?_⟩) (by assumption) ?_
                rotate_left
                · (intro w hSw; (try dsimp only at hSw); go_simp) <;> with_reducible rfl
                try simp only [Act.put, List.setIfInBounds_toArray, List.set_cons_zero, List.set_cons_succ, List.getElem_toArray, List.getElem_cons_succ, List.getElem_cons_zero]
                refine wpAnyH_take (i := 2) (v := ?_) rfl (by kernel_rfl) (by kernel_rfl) (by kernel_rfl) (fun _ _ _ h => h) (Or.inl ⟨by rfl, ?_⟩) (by assumption) ?_
                rotate_left
                · (intro w hSw; (try dsimp only at hSw); go_simp) <;> with_reducible rfl
                try simp only [Act.put, List.setIfInBounds_toArray, List.set_cons_zero, List.set_cons_succ, List.getElem_toArray, List.getElem_cons_succ, List.getElem_cons_zero]
                refine wpAnyH_take (i := 3) (v := ?_) rfl (by kernel_rfl) (by kernel_rfl) (by kernel_rfl) (fun _ _ _ h => h) (Or.inl ⟨by rfl, ?_⟩) (by assumption) ?_
                rotate_left
                · (intro w hSw; (try dsimp only at hSw); go_simp) <;> with_reducible rfl
                try simp only [Act.put, List.setIfInBounds_toArray, List.set_cons_zero, List.set_cons_succ, List.getElem_toArray, List.getElem_cons_succ, List.getElem_cons_zero]
                refine wpAnyH_take (i := 4) (v := ?_) rfl (by kernel_rfl) (by kernel_rfl) (by kernel_rfl) (fun _ _ _ h => h) (Or.inl ⟨by rfl, ?_⟩) (by assumption) ?_
                rotate_left
                · (intro w hSw; (try dsimp only at hSw); go_simp) <;> with_reducible rfl
                try simp only [Act.put, List.setIfInBounds_toArray, List.set_cons_zero, List.set_cons_succ, List.getElem_toArray, List.getElem_cons_succ, List.getElem_cons_zero]
                refine wpAnyH_take (i := 5) (v := ?_) rfl (by kernel_rfl) (by kernel_rfl) (by kernel_rfl) (fun _ _ _ h => h) (Or.inl ⟨by rfl, ?_⟩) (by assumption) ?_
                rotate_left
                · (intro w hSw; (try dsimp only at hSw); go_simp) <;> with_reducible rfl
                try simp only [Act.put, List.setIfInBounds_toArray, List.set_cons_zero, List.set_cons_succ, List.getElem_toArray, List.getElem_cons_succ, List.getElem_cons_zero]
                refine wpAnyH_take (i := 6) (v := ?_) rfl (by kernel_rfl) (by kernel_rfl) (by kernel_rfl) (fun _ _ _ h => h) (Or.inl ⟨by rfl, ?_⟩) (by assumption) ?_
                rotate_left
                · (intro w hSw; (try dsimp only at hSw); go_simp) <;> with_reducible rfl
                try simp only [Act.put, List.setIfInBounds_toArray, List.set_cons_zero, List.set_cons_succ, List.getElem_toArray, List.getElem_cons_succ, List.getElem_cons_zero]
                refine wpAnyH_take (i := 7) (v := ?_) rfl (by kernel_rfl) (by kernel_rfl) (by kernel_rfl) (fun _ _ _ h => h) (Or.inl ⟨by rfl, ?_⟩) (by assumption) ?_
                rotate_left
                · (intro w hSw; (try dsimp only at hSw); go_simp) <;> with_reducible rfl
                try simp only [Act.put, List.setIfInBounds_toArray, List.set_cons_zero, List.set_cons_succ, List.getElem_toArray, List.getElem_cons_succ, List.getElem_cons_zero]
                refine wpAnyH_take (i := 8) (v := ?_) rfl (by kernel_rfl) (by kernel_rfl) (by kernel_rfl) (fun _ _ _ h => h) (Or.inl ⟨by rfl, ?_⟩) (by assumption) ?_
                rotate_left
                · (intro w hSw; (try dsimp only at hSw); go_simp) <;> with_reducible rfl
                try simp only [Act.put, List.setIfInBounds_toArray, List.set_cons_zero, List.set_cons_succ, List.getElem_toArray, List.getElem_cons_succ, List.getElem_cons_zero]
                refine wpAnyH_take (i := 9) (v := ?_) rfl (by kernel_rfl) (by kernel_rfl) (by kernel_rfl) (fun _ _ _ h => h) (Or.inl ⟨by rfl, ?_⟩) (by assumption) ?_
                rotate_left
                · (intro w hSw; (try dsimp only at hSw); go_simp) <;> with_reducible rfl
                try simp only [Act.put, List.setIfInBounds_toArray, List.set_cons_zero, List.set_cons_succ, List.getElem_toArray, List.getElem_cons_succ, List.getElem_cons_zero]
                refine wpAnyH_take (i := 10) (v := ?_) rfl (by kernel_rfl) (by kernel_rfl) (by kernel_rfl) (fun _ _ _ h => h) (Or.inl ⟨by rfl, ?_⟩) (by assumption) ?_
                rotate_left
                · (intro w hSw; (try dsimp only at hSw); go_simp) <;> with_reducible rfl
                try simp only [Act.put, List.setIfInBounds_toArray, List.set_cons_zero, List.set_cons_succ, List.getElem_toArray, List.getElem_cons_succ, List.getElem_cons_zero]
                refine wpAnyH_take (i := 12) (v := ?_) rfl (by kernel_rfl) (by kernel_rfl) (by kernel_rfl) (fun _ _ _ h => h) (Or.inl ⟨by rfl, ?_⟩) (by assumption) ?_
                rotate_left
                · (intro w hSw; (try dsimp only at hSw); go_simp) <;> with_reducible rfl
                try simp only [Act.put, List.setIfInBounds_toArray, List.set_cons_zero, List.set_cons_succ, List.getElem_toArray, List.getElem_cons_succ, List.getElem_cons_zero]
                refine wpAnyH_take (i := 13) (v := ?_) rfl (by kernel_rfl) (by kernel_rfl) (by kernel_rfl) (fun _ _ _ h => h) (Or.inl ⟨by rfl, ?_⟩) (by assumption) ?_
                rotate_left
                · (intro w hSw; (try dsimp only at hSw); go_simp) <;> with_reducible rfl
                try simp only [Act.put, List.setIfInBounds_toArray, List.set_cons_zero, List.set_cons_succ, List.getElem_toArray, List.getElem_cons_succ, List.getElem_cons_zero]
                refine wpAnyH_take (i := 14) (v := ?_) rfl (by kernel_rfl) (by kernel_rfl) (by kernel_rfl) (fun _ _ _ h => h) (Or.inl ⟨by rfl, ?_⟩) (by assumption) ?_
                rotate_left
                · (intro w hSw; (try dsimp only at hSw); go_simp) <;> with_reducible rfl
                try simp only [Act.put, List.setIfInBounds_toArray, List.set_cons_zero, List.set_cons_succ, List.getElem_toArray, List.getElem_cons_succ, List.getElem_cons_zero]
                refine wpAnyH_take (i := 15) (v := ?_) rfl (by kernel_rfl) (by kernel_rfl) (by kernel_rfl) (fun _ _ _ h => h) (Or.inl ⟨by rfl, ?_⟩) (by assumption) ?_
                rotate_left
                · (intro w hSw; (try dsimp only at hSw); go_simp) <;> with_reducible rfl
                try simp only [Act.put, List.setIfInBounds_toArray, List.set_cons_zero, List.set_cons_succ, List.getElem_toArray, List.getElem_cons_succ, List.getElem_cons_zero]
                refine wpAnyH_ready (rs := [11]) (by kernel_rfl) (by simp) ?_
                refine AllReadyH.cons rfl (fun K hK => ?_) AllReadyH.nil
                try dsimp only [List.getElem_toArray, List.getElem_cons_succ, List.getElem_cons_zero]
                go_simp
                refine hK.out _ _ ?_ (fun hHeld => ?_)
                · (try dsimp only); first | (go_split_ands; exact ⟨by assumption, by assumption⟩) | (go_split_ands; exact ⟨(World.cell?_setCell_other _ _ _ _ (fun e => ngc.out (congrArg Addr.block e).symm)).trans (by assumption), (World.cell?_setCell_other _ _ _ _ (fun e => ngl.out (congrArg Addr.block e).symm)).trans (by assumption)⟩) | go_keep
                clear hK K
                try simp only [Act.put, List.setIfInBounds_toArray, List.set_cons_zero, List.set_cons_succ, List.getElem_toArray, List.getElem_cons_succ, List.getElem_cons_zero]
                refine wpAnyH_take (i := 16) (v := ?_) rfl (by kernel_rfl) (by kernel_rfl) (by kernel_rfl) (fun _ _ _ h => h) (Or.inl ⟨by rfl, ?_⟩) (by assumption) ?_
                rotate_left
                · (intro w hSw; (try dsimp only at hSw); go_simp) <;> with_reducible rfl
                try simp only [Act.put, List.setIfInBounds_toArray, List.set_cons_zero, List.set_cons_succ, List.getElem_toArray, List.getElem_cons_succ, List.getElem_cons_zero]
                refine wpAnyH_take (i := 17) (v := ?_) rfl (by kernel_rfl) (by kernel_rfl) (by kernel_rfl) (fun _ _ _ h => h) (Or.inl ⟨by rfl, ?_⟩) (by assumption) ?_
                rotate_left
                · (intro w hSw; (try dsimp only at hSw); go_simp) <;> with_reducible rfl
                try simp only [Act.put, List.setIfInBounds_toArray, List.set_cons_zero, List.set_cons_succ, List.getElem_toArray, List.getElem_cons_succ, List.getElem_cons_zero]
                refine wpAnyH_take (i := 18) (v := ?_) rfl (by kernel_rfl) (by kernel_rfl) (by kernel_rfl) (fun _ _ _ h => h) (Or.inl ⟨by rfl, ?_⟩) (by assumption) ?_
                rotate_left
                · (intro w hSw; (try dsimp only at hSw); go_simp) <;> with_reducible rfl
                try simp only [Act.put, List.setIfInBounds_toArray, List.set_cons_zero, List.set_cons_succ, List.getElem_toArray, List.getElem_cons_succ, List.getElem_cons_zero]
                refine wpAnyH_ready (rs := [19]) (by kernel_rfl) (by simp) ?_
                refine AllReadyH.cons rfl (fun K hK => ?_) AllReadyH.nil
                try dsimp only [List.getElem_toArray, List.getElem_cons_succ, List.getElem_cons_zero]
                go_simp
                refine hK.out _ _ ?_ (fun hHeld => ?_)
                · (try dsimp only); first | (go_split_ands; exact ⟨by assumption, by assumption⟩) | (go_split_ands; exact ⟨(World.cell?_setCell_other _ _ _ _ (fun e => ngc.out (congrArg Addr.block e).symm)).trans (by assumption), (World.cell?_setCell_other _ _ _ _ (fun e => ngl.out (congrArg Addr.block e).symm)).trans (by assumption)⟩) | go_keep
                clear hK K
                try simp only [Act.put, List.setIfInBounds_toArray, List.set_cons_zero, List.set_cons_succ, List.getElem_toArray, List.getElem_cons_succ, List.getElem_cons_zero]
                refine wpAnyH_done (by kernel_rfl) ?_ _
                have q0 : ((wr.setCell ⟨w13.heap.size, fb, none⟩ (.int .i64 (y0 + dk + 3))).drew).cell? ⟨gd, od + k, none⟩ = some (.int .i64 (fb : Int)) := (World.cell?_setCell_other _ _ _ _ (fun e => ngd.out (congrArg Addr.block e).symm)).trans d0
                have q1 : ((wr.setCell ⟨w13.heap.size, fb, none⟩ (.int .i64 (y0 + dk + 3))).drew).cell? ⟨gc, oc + k, none⟩ = some (.int .i64 (fb : Int)) := (World.cell?_setCell_other _ _ _ _ (fun e => ngc.out (congrArg Addr.block e).symm)).trans c0
                have q2 : ((wr.setCell ⟨w13.heap.size, fb, none⟩ (.int .i64 (y0 + dk + 3))).drew).cell? ⟨w13.heap.size, fb, none⟩ = some (.int .i64 (y0 + dk + 3)) := HL2.out
                have HS3 := Lib.hid (show ((wr.setCell ⟨w13.heap.size, fb, none⟩ (.int .i64 (y0 + dk + 3))).drew).ownsRow w13.heap.size 2 1 (.slice (some ⟨w13.heap.size, 0, none⟩) D.length D.length) D.length (intsRow (barLeft D.length m (cutSt m D (k + 1)).2)) from HS2.out)
                have HB3 := Lib.hid (show Below w13.heap.size w13 ((wr.setCell ⟨w13.heap.size, fb, none⟩ (.int .i64 (y0 + dk + 3))).drew) from HB2.out.drew)
                obtain ⟨wn, hwn⟩ : ∃ wn, wn = ((wr.setCell ⟨w13.heap.size, fb, none⟩ (.int .i64 (y0 + dk + 3))).drew) := ⟨_, rfl⟩
                try rw [← hwn]
                rw [← hwn] at q0 q1 q2 HS3 HB3
                clear hHeld hwn HS2 HB2 HL2 c0 d0 hleft f0
                obtain ⟨U, hU⟩ : ∃ U : Int, U = ((cutSt m D k).2.length : Int) := ⟨_, rfl⟩
                rw [← hU]
                have Hu := Lib.hid hU
                clear hU
                by_cases hu : U < (fb : Int) + 1
                · skip
                  go_wp2
                  go_roundw
                  case rel =>
                    clear x1 x2 x3 x4 v1 v2 v3
                    exact ⟨k + 1, by go_num, by omega, by have h1 := Hu.out; have h2 := Hf7.out; congr 1; omega, HS3.out, HB3.out⟩
                  case measure => clear x1 x2 x3 x4 v1 v2 v3; simp [intOf]; omega
                · skip
                  go_wp2
                  go_roundw
                  case rel =>
                    clear x1 x2 x3 x4 v1 v2 v3
                    exact ⟨k + 1, by go_num, by omega, by have h1 := Hu.out; have h2 := Hf7.out; congr 1; omega, HS3.out, HB3.out⟩
                  case measure => clear x1 x2 x3 x4 v1 v2 v3; simp [intOf]; omega
              · skip
                have hk2 : k = D.length := by have := HDl.out; omega
                subst hk2
                have hDl := HDl.out
                obtain ⟨g1, g2, g3, g4⟩ := HFL.out
                have bw : Below w.heap.size w wr := b13.trans (Hbw.out.mono b13.size)
                obtain ⟨U, hU⟩ : ∃ U : Nat, U = (cutSt m D D.length).2.length := ⟨_, rfl⟩
                rw [← hU]
                rw [← hU] at g2 g3
                clear hU
                have p1 : (F : Int) * (m + 3) ≤ 8 * 6003 := Int.mul_le_mul (by omega) (by omega) (by omega) (by omega)
                have p0 : 0 ≤ (F : Int) * (m + 3) := Int.mul_nonneg (by omega) (by omega)
                have HZ := Lib.hid (sumI_nonneg D (fun k hk => by have := HD1.out k hk; omega))
                obtain ⟨Z, hZ⟩ : ∃ Z, Z = sumI D := ⟨_, rfl⟩
                have hz0 := HZ.out
                rw [← hZ] at g4 hz0
                have a1 : -9223372036854775808 ≤ 3 * (L.length : Int) ∧ 3 * (L.length : Int) ≤ 9223372036854775807 := by omega
                have a2 : -9223372036854775808 ≤ Z + 3 * (L.length : Int) ∧ Z + 3 * (L.length : Int) ≤ 9223372036854775807 := by omega
                have a3 : -9223372036854775808 ≤ m + 3 ∧ m + 3 ≤ 9223372036854775807 := by omega
                have a4 : -9223372036854775808 ≤ (F : Int) * (m + 3) ∧ (F : Int) * (m + 3) ≤ 9223372036854775807 := by omega
                have HQ := Lib.hid (fun (i : Nat) (hi : i < D.length) => (show 0 ≤ intsAt D i ∧ intsAt D i ≤ 1000000 from ⟨by have := HD1.out i hi; omega, by have := HD2.out i hi; omega⟩))
                have HN6 := Lib.hid (show D.length ≤ 1000000 by omega)
                have v1 : decide (1 ≤ (F : Int)) = true := by simp; omega
                have v2 : F ≤ U := g2
                have v3 : decide (Z + 3 * (L.length : Int) ≤ (F : Int) * (m + 3)) = true := by simp; omega
                have x1 := IntWalk.i64_in _ a1
                have x2 := IntWalk.i64_in _ a2
                have x3 := IntWalk.i64_in _ a3
                have x4 := IntWalk.i64_in _ a4
                clear a1 a2 a3 a4
                have HP := Lib.hid hZ
                clear hZ g1 g2 g3 g4 p1 p0 hz0 hDl
                go_wp2_with fail
                refine (sum_any wr D (.slice Al L.length cl) ((((YL0.out.below hb12).below hb13)).below Hbw.out) HQ.out HN6.out).mono ?_
                rintro e wz ⟨rfl, hbz⟩
                rw [← HP.out]
                go_wp2
                go_ret
                exact ⟨rfl, bw.trans (hbz.mono bw.size)⟩
          · skip
            have eb : (cutF L m).2 = barsCode L m := by
              unfold cutF; split
              · rename_i h; exact h.symm
              · rfl
            have ub : ((cutF L m).2 == 0) = false := by rw [eb]; simpa using hb
            clear eb hb
            go_wp2
            go_ret
            exact ⟨rfl, b10⟩
    · skip
      have c1 : (convexF X).2 = tubeCode X := by simp [convexF, hc]
      have uc : ((convexF X).2 == 0) = false := by rw [c1]; simpa using hc
      clear c1 hc
      by_cases hb : barsCode L m = 0
      · skip
        obtain ⟨h1, h2, h3⟩ := barsCode_zero hb
        obtain ⟨t3, t8, _⟩ := areTubes_iff h1
        have hm : 1000 ≤ m ∧ m ≤ 6000 := by simpa [inR] using h2
        have l1 : (cutF L m) = ((cutSt m (lensN L L.length) L.length).1, 0) := by simp [cutF, hb]
        have l2 : fewF L m = (((fewest ((lensN L L.length).map (· + 3)) m : Nat) : Int), (0 : Int)) := by simp only [fewF, if_pos hb, lens3]
        have l3 : lengthsF L = (lensN L L.length, 0) := by simp [lengthsF, h1]
        obtain ⟨D, hDe⟩ : ∃ D, D = lensN L L.length := ⟨_, rfl⟩
        have hDl : D.length = L.length := by rw [hDe, lensN_len]
        have hD1 : ∀ i, i < D.length → 1 ≤ intsAt D i := fun i hi => by rw [hDe, lensN_at _ (by omega)]; exact (lenT_bd h1 (by omega)).1
        have hD2 : ∀ i, i < D.length → intsAt D i ≤ m := fun i hi => by rw [hDe]; exact h3 i (by omega)
        have FL := few_law hm ⟨by omega, by omega⟩ hD1 hD2
        have HST := Lib.hid (fun k hk => bar_step (k := k) hm hD1 hD2 hk)
        rw [← hDe, ← hDl] at l1
        rw [← hDe] at l2 l3
        have ZYci := Lib.hid (K9Yci.out)
        rw [l1] at ZYci
        have ZYcs := Lib.hid (K9Ycs.out)
        rw [l1] at ZYcs
        rw [l1, l2]
        have hcl : (cutSt m D D.length).1.length = D.length := cut_first m D D.length (Nat.le_refl _)
        obtain ⟨C, hCe⟩ : ∃ C, C = (cutSt m D D.length).1 := ⟨_, rfl⟩
        rw [← hCe] at hcl ZYci ZYcs ⊢
        obtain ⟨F, hFe⟩ : ∃ F, F = fewest (D.map (· + 3)) m := ⟨_, rfl⟩
        rw [← hFe] at FL ⊢
        have Hhc := Lib.hid hcl
        have HCe := Lib.hid hCe
        have HFL := Lib.hid FL
        have HDl := Lib.hid hDl
        have HD1 := Lib.hid hD1
        have HD2 := Lib.hid hD2
        clear hcl hCe FL hDl hD1 hD2 hFe hDe l1 l2 hb h3 h2
        go_wp2_with fail
        refine (implLengthsOf_any w9 L _ K9V.out (fun _ _ => trivial) N).mono ?_
        rintro e w10 ⟨yl, rfl, ho, hb10⟩
        have b10 := b9.trans (hb10.mono b9.size)
        have YL0 := Lib.hid (Sl.of_own ho)
        clear ho
        rw [l3] at YL0
        go_wp2_with fail
        refine (specLengthsOf_any w10 L _ (K9V.out.below hb10) (fun _ _ => trivial) N).mono ?_
        rintro e w11 ⟨yk, rfl, ho, hb11⟩
        have b11 := b10.trans (hb11.mono b10.size)
        have YK := Lib.hid (Sl.of_own ho)
        clear ho
        rw [l3] at YK
        rw [l3]
        go_wp2_with fail
        refine (likeInts_same D yl yk w11 (YL0.out.below hb11) YK.out (by have := HDl.out; omega)).mono ?_
        rintro e w12 ⟨rfl, hb12⟩
        have b12 := b11.trans (hb12.mono b11.size)
        obtain ⟨Al, cl, eyl, hal, hcl2, _⟩ := YL0.out
        have eyl2 : yl = .slice Al L.length cl := by rw [← HDl.out]; exact eyl
        clear eyl
        subst eyl2
        clear hal hcl2 l3
        have hcl := Hhc.out
        rw [hcl]
        have hDl := HDl.out
        rw [hDl]
        clear hcl
        obtain ⟨i0, hi, hz0, hz1, hz2⟩ := info_parts Try.info_ints
        go_wp2_with (at_make; refine wpList_make_full _ rfl _ _ 35 rfl w12.heap.size 2 i0 _ 1 Try.underlying35 hi hz0 hz1 _ _ _ _ L.length rfl rfl rfl rfl (by rw [hz2]; omega) (by unfold maxLen; omega) (Nat.le_refl _) ?_; intro wm hown hgr)
        have hbm := (Below.refl w12.heap.size w12).grown hgr (Nat.le_refl _) (fun _ h => by cases h)
        have HBM := Lib.hid hbm
        clear hgr hbm
        have hB0 : (madeCells (Value.int .i64 0).cells (L.length * 1)).toList = intsRow (barLeft D.length m (cutSt m D 0).2) := by
          rw [show (cutSt m D 0).2 = [] by simp [cutSt], barLeft_nil, hDl, Nat.mul_one]
          show (madeCells #[Value.int .i64 0] L.length).toList = _
          rw [toList_madeCells_one]; simp [intsRow]
        have Hown : Hid (wm.ownsRow w12.heap.size 2 1 (.slice (some ⟨w12.heap.size, 0, none⟩) D.length D.length) D.length (intsRow (barLeft D.length m (cutSt m D 0).2))) := by
          rw [← hB0, hDl]; exact Lib.hid hown
        clear hown hB0
        have t8h := Lib.hid t8
        clear hDl
        go_wp2
        go_loopw [25, 26] (fun u i wr => ∃ k : Nat, i = .int .i64 k ∧ k ≤ L.length ∧ u = .int .i64 ((cutSt m D k).2.length : Nat) ∧ wr.ownsRow w12.heap.size 2 1 (.slice (some ⟨w12.heap.size, 0, none⟩) D.length D.length) D.length (intsRow (barLeft D.length m (cutSt m D k).2)) ∧ Below w12.heap.size w12 wr) (fun _ i _ => L.length - (intOf i).toNat)
        case atStart => exact ⟨0, rfl, Nat.zero_le _, by simp [cutSt], Hown.out, HBM.out⟩
        case round =>
          obtain ⟨k, rfl, hk, rfl, ho, hbw⟩ := hrel
          have Ho := Lib.hid ho
          have Hbw := Lib.hid hbw
          clear ho hbw Hown HBM
          by_cases hlt : k < L.length
          · skip
            obtain ⟨fb, hf1, hf2, hf3, hf4, hf5, hf6, hf7⟩ := HST.out k (by have := HDl.out; omega)
            have hd1 := HD1.out k (by have := HDl.out; omega)
            have hd2 := HD2.out k (by have := HDl.out; omega)
            obtain ⟨y0, hy0⟩ : ∃ y0, y0 = intsAt (barLeft D.length m (cutSt m D k).2) fb := ⟨_, rfl⟩
            have hleft : wr.cell? ⟨w12.heap.size, fb, none⟩ = some (.int .i64 y0) := by
              rw [Ho.out.cellAt fb (by have := HDl.out; omega), hy0]; exact intsRow_at _ fb (by rw [barLeft_len]; exact hf2)
            rw [← hy0] at hf3 hf4 hf5 hf6
            have f0 := Ho.out.frozenAt fb
            obtain ⟨gc, oc, rfl, hgc, c0⟩ := (Sl.rd (((((ZYcs.out.below hb10).below hb11).below hb12)).below Hbw.out)).ints (l := C) (k := k) (by rw [Hhc.out, HDl.out]; exact hlt)
            obtain ⟨gd, od, rfl, hgd, d0⟩ := (Sl.rd (((((ZYci.out.below hb10).below hb11).below hb12)).below Hbw.out)).ints (l := C) (k := k) (by rw [Hhc.out, HDl.out]; exact hlt)
            obtain ⟨gl, ol, rfl, hgl, l0⟩ := (Sl.rd ((((YL0.out.below hb11).below hb12)).below Hbw.out)).ints (l := D) (k := k) (by rw [HDl.out]; exact hlt)
            have hcv2 : intsAt C k = (fb : Int) := by rw [HCe.out]; exact hf1
            rw [hcv2] at c0 d0
            clear hcv2 hf1
            have ngc : Hid (gc ≠ w12.heap.size) := by
              obtain ⟨_, _, e, _, _, hr⟩ := (((ZYcs.out.below hb10).below hb11).below hb12)
              obtain ⟨g2, o2, e2, hg2, _⟩ := hr.2 (by have := Hhc.out; have := HDl.out; omega)
              injection e with e
              rw [← e] at e2
              injection e2 with e2
              injection e2 with e2
              exact Lib.hid (by omega)
            have ngd : Hid (gd ≠ w12.heap.size) := by
              obtain ⟨_, _, e, _, _, hr⟩ := (((ZYci.out.below hb10).below hb11).below hb12)
              obtain ⟨g2, o2, e2, hg2, _⟩ := hr.2 (by have := Hhc.out; have := HDl.out; omega)
              injection e with e
              rw [← e] at e2
              injection e2 with e2
              injection e2 with e2
              exact Lib.hid (by omega)
            have ngl : Hid (gl ≠ w12.heap.size) := by
              obtain ⟨_, _, e, _, _, hr⟩ := ((YL0.out.below hb11).below hb12)
              obtain ⟨g2, o2, e2, hg2, _⟩ := hr.2 (by have := Hhc.out; have := HDl.out; omega)
              injection e with e
              rw [← e] at e2
              injection e2 with e2
              injection e2 with e2
              exact Lib.hid (by omega)
            obtain ⟨dk, hdk⟩ : ∃ dk, dk = intsAt D k := ⟨_, rfl⟩
            rw [← hdk] at l0 hd1 hd2 hf5 hf6
            have x1 := IntWalk.i64_in (y0 + dk) (by omega)
            have x2 := IntWalk.i64_in (y0 + dk + 3) (by omega)
            have x3 := IntWalk.i64_in ((fb : Int) + 1) (by have := HDl.out; omega)
            have x4 := IntWalk.i64_in (m + 3) (by omega)
            have j0 : (0 : Int) ≤ (k : Int) := Int.natCast_nonneg _
            have j2 : (0 : Int) ≤ (fb : Int) := Int.natCast_nonneg _
            have j4 : (k : Int) < (L.length : Int) := by omega
            have j5 : (fb : Int) < (L.length : Int) := by have := HDl.out; omega
            have j6 : fb < L.length := by have := HDl.out; omega
            have j7 : k < L.length := by omega
            have v1 : decide (m + 3 < y0 + dk + 3) = false := by simp; omega
            have v2 : y0 + dk ≤ m := by omega
            have v3 : ¬ m < y0 + dk := by omega
            have HS2 := Lib.hid (show (wr.setCell ⟨w12.heap.size, fb, none⟩ (.int .i64 (y0 + dk + 3))).ownsRow w12.heap.size 2 1 (.slice (some ⟨w12.heap.size, 0, none⟩) D.length D.length) D.length (intsRow (barLeft D.length m (cutSt m D (k + 1)).2)) by
              have := (Ho.out.stored fb (.int .i64 (y0 + dk + 3))).1
              rw [intsRow_set, ← hf6] at this; exact this)
            have HB2 := Lib.hid (Hbw.out.setCell (p := ⟨w12.heap.size, fb, none⟩) (Nat.le_refl _) (.int .i64 (y0 + dk + 3)))
            have HL2 : Hid ((wr.setCell ⟨w12.heap.size, fb, none⟩ (.int .i64 (y0 + dk + 3))).cell? ⟨w12.heap.size, fb, none⟩ = some (.int .i64 (y0 + dk + 3))) := by
              rw [HS2.out.cellAt fb (by have := HDl.out; omega), intsRow_at _ fb (by rw [barLeft_len]; exact hf2), hf6, intsAt_set (by rw [barLeft_len]; exact hf2), if_pos rfl]; exact Lib.hid rfl
            have Hf7 := Lib.hid hf7
            clear hf3 hf4 hf5 hf6 hf7 hy0 hdk hd1 hd2
            go_wp2_with fail
            refine wp_region_held_drew (S := (fun w' => w'.cell? ⟨gc, oc + k, none⟩ = some (.int .i64 (fb : Int)) ∧ w'.cell? ⟨gl, ol + k, none⟩ = some (.int .i64 dk))) (by kernel_rfl) ?_ (fun hHeld => ?_)
            · (try dsimp only); first | (go_split_ands; exact ⟨by assumption, by assumption⟩) | (go_split_ands; exact ⟨(World.cell?_setCell_other _ _ _ _ (fun e => ngc.out (congrArg Addr.block e).symm)).trans (by assumption), (World.cell?_setCell_other _ _ _ _ (fun e => ngl.out (congrArg Addr.block e).symm)).trans (by assumption)⟩) | go_keep
            refine wpAnyH_take (i := 0) (v := ?_) rfl (by kernel_rfl) (by kernel_rfl) (by kernel_rfl) (fun _ _ _ h => h) (Or.inl ⟨by rfl, ?_⟩) (by assumption) ?_
            rotate_left
            · (intro w hSw; (try dsimp only at hSw); go_simp) <;> with_reducible rfl
            try simp only [Act.put, List.setIfInBounds_toArray, List.set_cons_zero, List.set_cons_succ, List.getElem_toArray, List.getElem_cons_succ, List.getElem_cons_zero]
            refine wpAnyH_take (i := 1) (v := ?_) rfl (by kernel_rfl) (by kernel_rfl) (by kernel_rfl) (fun _ _ _ h => h) (Or.inl ⟨by rfl, ?_⟩) (by assumption) ?_
            rotate_left
            · (intro w hSw; (try dsimp only at hSw); go_simp) <;> with_reducible rfl
            try simp only [Act.put, List.setIfInBounds_toArray, List.set_cons_zero, List.set_cons_succ, List.getElem_toArray, List.getElem_cons_succ, List.getElem_cons_zero]
            refine wpAnyH_take (i := 2) (v := ?_) rfl (by kernel_rfl) (by kernel_rfl) (by kernel_rfl) (fun _ _ _ h => h) (Or.inl ⟨by rfl, ?_⟩) (by assumption) ?_
            rotate_left
            · (intro w hSw; (try dsimp only at hSw); go_simp) <;> with_reducible rfl
            try simp only [Act.put, List.setIfInBounds_toArray, List.set_cons_zero, List.set_cons_succ, List.getElem_toArray, List.getElem_cons_succ, List.getElem_cons_zero]
            refine wpAnyH_take (i := 3) (v := ?_) rfl (by kernel_rfl) (by kernel_rfl) (by kernel_rfl) (fun _ _ _ h => h) (Or.inl ⟨by rfl, ?_⟩) (by assumption) ?_
            rotate_left
            · (intro w hSw; (try dsimp only at hSw); go_simp) <;> with_reducible rfl
            try simp only [Act.put, List.setIfInBounds_toArray, List.set_cons_zero, List.set_cons_succ, List.getElem_toArray, List.getElem_cons_succ, List.getElem_cons_zero]
            refine wpAnyH_take (i := 4) (v := ?_) rfl (by kernel_rfl) (by kernel_rfl) (by kernel_rfl) (fun _ _ _ h => h) (Or.inl ⟨by rfl, ?_⟩) (by assumption) ?_
            rotate_left
            · (intro w hSw; (try dsimp only at hSw); go_simp) <;> with_reducible rfl
            try simp only [Act.put, List.setIfInBounds_toArray, List.set_cons_zero, List.set_cons_succ, List.getElem_toArray, List.getElem_cons_succ, List.getElem_cons_zero]
            refine wpAnyH_take (i := 5) (v := ?_) rfl (by kernel_rfl) (by kernel_rfl) (by kernel_rfl) (fun _ _ _ h => h) (Or.inl ⟨by rfl, ?_⟩) (by assumption) ?_
            rotate_left
            · (intro w hSw; (try dsimp only at hSw); go_simp) <;> with_reducible rfl
            try simp only [Act.put, List.setIfInBounds_toArray, List.set_cons_zero, List.set_cons_succ, List.getElem_toArray, List.getElem_cons_succ, List.getElem_cons_zero]
            refine wpAnyH_take (i := 6) (v := ?_) rfl (by kernel_rfl) (by kernel_rfl) (by kernel_rfl) (fun _ _ _ h => h) (Or.inl ⟨by rfl, ?_⟩) (by assumption) ?_
            rotate_left
            · (intro w hSw; (try dsimp only at hSw); go_simp) <;> with_reducible rfl
            try simp only [Act.put, List.setIfInBounds_toArray, List.set_cons_zero, List.set_cons_succ, List.getElem_toArray, List.getElem_cons_succ, List.getElem_cons_zero]
            refine wpAnyH_take (i := 7) (v := ?_) rfl (by kernel_rfl) (by kernel_rfl) (by kernel_rfl) (fun _ _ _ h => h) (Or.inl ⟨by rfl, ?_⟩) (by assumption) ?_
            rotate_left
            · (intro w hSw; (try dsimp only at hSw); go_simp) <;> with_reducible rfl
            try simp only [Act.put, List.setIfInBounds_toArray, List.set_cons_zero, List.set_cons_succ, List.getElem_toArray, List.getElem_cons_succ, List.getElem_cons_zero]
            refine wpAnyH_take (i := 8) (v := ?_) rfl (by kernel_rfl) (by kernel_rfl) (by kernel_rfl) (fun _ _ _ h => h) (Or.inl ⟨by rfl, ?_⟩) (by assumption) ?_
            rotate_left
            · (intro w hSw; (try dsimp only at hSw); go_simp) <;> with_reducible rfl
            try simp only [Act.put, List.setIfInBounds_toArray, List.set_cons_zero, List.set_cons_succ, List.getElem_toArray, List.getElem_cons_succ, List.getElem_cons_zero]
            refine wpAnyH_take (i := 9) (v := ?_) rfl (by kernel_rfl) (by kernel_rfl) (by kernel_rfl) (fun _ _ _ h => h) (Or.inl ⟨by rfl, ?_⟩) (by assumption) ?_
            rotate_left
            · (intro w hSw; (try dsimp only at hSw); go_simp) <;> with_reducible rfl
            try simp only [Act.put, List.setIfInBounds_toArray, List.set_cons_zero, List.set_cons_succ, List.getElem_toArray, List.getElem_cons_succ, List.getElem_cons_zero]
            refine wpAnyH_take (i := 10) (v := ?_) rfl (by kernel_rfl) (by kernel_rfl) (by kernel_rfl) (fun _ _ _ h => h) (Or.inl ⟨by rfl, ?_⟩) (by assumption) ?_
            rotate_left
            · (intro w hSw; (try dsimp only at hSw); go_simp) <;> with_reducible rfl
            try simp only [Act.put, List.setIfInBounds_toArray, List.set_cons_zero, List.set_cons_succ, List.getElem_toArray, List.getElem_cons_succ, List.getElem_cons_zero]
            refine wpAnyH_take (i := 12) (v := ?_) rfl (by kernel_rfl) (by kernel_rfl) (by kernel_rfl) (fun _ _ _ h => h) (Or.inl ⟨by rfl, ?_⟩) (by assumption) ?_
            rotate_left
            · (intro w hSw; (try dsimp only at hSw); go_simp) <;> with_reducible rfl
            try simp only [Act.put, List.setIfInBounds_toArray, List.set_cons_zero, List.set_cons_succ, List.getElem_toArray, List.getElem_cons_succ, List.getElem_cons_zero]
            refine wpAnyH_take (i := 13) (v := ?_) rfl (by kernel_rfl) (by kernel_rfl) (by kernel_rfl) (fun _ _ _ h => h) (Or.inl ⟨by rfl, ?_⟩) (by assumption) ?_
            rotate_left
            · (intro w hSw; (try dsimp only at hSw); go_simp) <;> with_reducible rfl
            try simp only [Act.put, List.setIfInBounds_toArray, List.set_cons_zero, List.set_cons_succ, List.getElem_toArray, List.getElem_cons_succ, List.getElem_cons_zero]
            refine wpAnyH_take (i := 14) (v := ?_) rfl (by kernel_rfl) (by kernel_rfl) (by kernel_rfl) (fun _ _ _ h => h) (Or.inl ⟨by rfl, ?_⟩) (by assumption) ?_
            rotate_left
            · (intro w hSw; (try dsimp only at hSw); go_simp) <;> with_reducible rfl
            try simp only [Act.put, List.setIfInBounds_toArray, List.set_cons_zero, List.set_cons_succ, List.getElem_toArray, List.getElem_cons_succ, List.getElem_cons_zero]
            refine wpAnyH_take (i := 15) (v := ?_) rfl (by kernel_rfl) (by kernel_rfl) (by kernel_rfl) (fun _ _ _ h => h) (Or.inl ⟨by rfl, ?_⟩) (by assumption) ?_
            rotate_left
            · (intro w hSw; (try dsimp only at hSw); go_simp) <;> with_reducible rfl
            try simp only [Act.put, List.setIfInBounds_toArray, List.set_cons_zero, List.set_cons_succ, List.getElem_toArray, List.getElem_cons_succ, List.getElem_cons_zero]
            refine wpAnyH_ready (rs := [11]) (by kernel_rfl) (by simp) ?_
            refine AllReadyH.cons rfl (fun K hK => ?_) AllReadyH.nil
            try dsimp only [List.getElem_toArray, List.getElem_cons_succ, List.getElem_cons_zero]
            go_simp
            refine hK.out _ _ ?_ (fun hHeld => ?_)
            · (try dsimp only); first | (go_split_ands; exact ⟨by assumption, by assumption⟩) | (go_split_ands; exact ⟨(World.cell?_setCell_other _ _ _ _ (fun e => ngc.out (congrArg Addr.block e).symm)).trans (by assumption), (World.cell?_setCell_other _ _ _ _ (fun e => ngl.out (congrArg Addr.block e).symm)).trans (by assumption)⟩) | go_keep
            clear hK K
            try simp only [Act.put, List.setIfInBounds_toArray, List.set_cons_zero, List.set_cons_succ, List.getElem_toArray, List.getElem_cons_succ, List.getElem_cons_zero]
            refine wpAnyH_take (i := 16) (v := ?_) rfl (by kernel_rfl) (by kernel_rfl) (by kernel_rfl) (fun _ _ _ h => h) (Or.inl ⟨by rfl, ?_⟩) (by assumption) ?_
            rotate_left
            · (intro w hSw; (try dsimp only at hSw); go_simp) <;> with_reducible rfl
            try simp only [Act.put, List.setIfInBounds_toArray, List.set_cons_zero, List.set_cons_succ, List.getElem_toArray, List.getElem_cons_succ, List.getElem_cons_zero]
            refine wpAnyH_take (i := 17) (v := ?_) rfl (by kernel_rfl) (by kernel_rfl) (by kernel_rfl) (fun _ _ _ h => h) (Or.inl ⟨by rfl, ?_⟩) (by assumption) ?_
            rotate_left
            · (intro w hSw; (try dsimp only at hSw); go_simp) <;> with_reducible rfl
            try simp only [Act.put, List.setIfInBounds_toArray, List.set_cons_zero, List.set_cons_succ, List.getElem_toArray, List.getElem_cons_succ, List.getElem_cons_zero]
            refine wpAnyH_take (i := 18) (v := ?_) rfl (by kernel_rfl) (by kernel_rfl) (by kernel_rfl) (fun _ _ _ h => h) (Or.inl ⟨by rfl, ?_⟩) (by assumption) ?_
            rotate_left
            · (intro w hSw; (try dsimp only at hSw); go_simp) <;> with_reducible rfl
            try simp only [Act.put, List.setIfInBounds_toArray, List.set_cons_zero, List.set_cons_succ, List.getElem_toArray, List.getElem_cons_succ, List.getElem_cons_zero]
            refine wpAnyH_ready (rs := [19]) (by kernel_rfl) (by simp) ?_
            refine AllReadyH.cons rfl (fun K hK => ?_) AllReadyH.nil
            try dsimp only [List.getElem_toArray, List.getElem_cons_succ, List.getElem_cons_zero]
            go_simp
            refine hK.out _ _ ?_ (fun hHeld => ?_)
            · (try dsimp only); first | (go_split_ands; exact ⟨by assumption, by assumption⟩) | (go_split_ands; exact ⟨(World.cell?_setCell_other _ _ _ _ (fun e => ngc.out (congrArg Addr.block e).symm)).trans (by assumption), (World.cell?_setCell_other _ _ _ _ (fun e => ngl.out (congrArg Addr.block e).symm)).trans (by assumption)⟩) | go_keep
            clear hK K
            try simp only [Act.put, List.setIfInBounds_toArray, List.set_cons_zero, List.set_cons_succ, List.getElem_toArray, List.getElem_cons_succ, List.getElem_cons_zero]
            refine wpAnyH_done (by kernel_rfl) ?_ _
            have q0 : ((wr.setCell ⟨w12.heap.size, fb, none⟩ (.int .i64 (y0 + dk + 3))).drew).cell? ⟨gd, od + k, none⟩ = some (.int .i64 (fb : Int)) := (World.cell?_setCell_other _ _ _ _ (fun e => ngd.out (congrArg Addr.block e).symm)).trans d0
            have q1 : ((wr.setCell ⟨w12.heap.size, fb, none⟩ (.int .i64 (y0 + dk + 3))).drew).cell? ⟨gc, oc + k, none⟩ = some (.int .i64 (fb : Int)) := (World.cell?_setCell_other _ _ _ _ (fun e => ngc.out (congrArg Addr.block e).symm)).trans c0
            have q2 : ((wr.setCell ⟨w12.heap.size, fb, none⟩ (.int .i64 (y0 + dk + 3))).drew).cell? ⟨w12.heap.size, fb, none⟩ = some (.int .i64 (y0 + dk + 3)) := HL2.out
            have HS3 := Lib.hid (show ((wr.setCell ⟨w12.heap.size, fb, none⟩ (.int .i64 (y0 + dk + 3))).drew).ownsRow w12.heap.size 2 1 (.slice (some ⟨w12.heap.size, 0, none⟩) D.length D.length) D.length (intsRow (barLeft D.length m (cutSt m D (k + 1)).2)) from HS2.out)
            have HB3 := Lib.hid (show Below w12.heap.size w12 ((wr.setCell ⟨w12.heap.size, fb, none⟩ (.int .i64 (y0 + dk + 3))).drew) from HB2.out.drew)
            obtain ⟨wn, hwn⟩ : ∃ wn, wn = ((wr.setCell ⟨w12.heap.size, fb, none⟩ (.int .i64 (y0 + dk + 3))).drew) := ⟨_, rfl⟩
            try rw [← hwn]
            rw [← hwn] at q0 q1 q2 HS3 HB3
            clear hHeld hwn HS2 HB2 HL2 c0 d0 hleft f0
            obtain ⟨U, hU⟩ : ∃ U : Int, U = ((cutSt m D k).2.length : Int) := ⟨_, rfl⟩
            rw [← hU]
            have Hu := Lib.hid hU
            clear hU
            by_cases hu : U < (fb : Int) + 1
            · skip
              go_wp2
              go_roundw
              case rel =>
                clear x1 x2 x3 x4 v1 v2 v3
                exact ⟨k + 1, by go_num, by omega, by have h1 := Hu.out; have h2 := Hf7.out; congr 1; omega, HS3.out, HB3.out⟩
              case measure => clear x1 x2 x3 x4 v1 v2 v3; simp [intOf]; omega
            · skip
              go_wp2
              go_roundw
              case rel =>
                clear x1 x2 x3 x4 v1 v2 v3
                exact ⟨k + 1, by go_num, by omega, by have h1 := Hu.out; have h2 := Hf7.out; congr 1; omega, HS3.out, HB3.out⟩
              case measure => clear x1 x2 x3 x4 v1 v2 v3; simp [intOf]; omega
          · skip
            have hk2 : k = D.length := by have := HDl.out; omega
            subst hk2
            have hDl := HDl.out
            obtain ⟨g1, g2, g3, g4⟩ := HFL.out
            have bw : Below w.heap.size w wr := b12.trans (Hbw.out.mono b12.size)
            obtain ⟨U, hU⟩ : ∃ U : Nat, U = (cutSt m D D.length).2.length := ⟨_, rfl⟩
            rw [← hU]
            rw [← hU] at g2 g3
            clear hU
            have p1 : (F : Int) * (m + 3) ≤ 8 * 6003 := Int.mul_le_mul (by omega) (by omega) (by omega) (by omega)
            have p0 : 0 ≤ (F : Int) * (m + 3) := Int.mul_nonneg (by omega) (by omega)
            have HZ := Lib.hid (sumI_nonneg D (fun k hk => by have := HD1.out k hk; omega))
            obtain ⟨Z, hZ⟩ : ∃ Z, Z = sumI D := ⟨_, rfl⟩
            have hz0 := HZ.out
            rw [← hZ] at g4 hz0
            have a1 : -9223372036854775808 ≤ 3 * (L.length : Int) ∧ 3 * (L.length : Int) ≤ 9223372036854775807 := by omega
            have a2 : -9223372036854775808 ≤ Z + 3 * (L.length : Int) ∧ Z + 3 * (L.length : Int) ≤ 9223372036854775807 := by omega
            have a3 : -9223372036854775808 ≤ m + 3 ∧ m + 3 ≤ 9223372036854775807 := by omega
            have a4 : -9223372036854775808 ≤ (F : Int) * (m + 3) ∧ (F : Int) * (m + 3) ≤ 9223372036854775807 := by omega
            have HQ := Lib.hid (fun (i : Nat) (hi : i < D.length) => (show 0 ≤ intsAt D i ∧ intsAt D i ≤ 1000000 from ⟨by have := HD1.out i hi; omega, by have := HD2.out i hi; omega⟩))
            have HN6 := Lib.hid (show D.length ≤ 1000000 by omega)
            have v1 : decide (1 ≤ (F : Int)) = true := by simp; omega
            have v2 : F ≤ U := g2
            have v3 : decide (Z + 3 * (L.length : Int) ≤ (F : Int) * (m + 3)) = true := by simp; omega
            have x1 := IntWalk.i64_in _ a1
            have x2 := IntWalk.i64_in _ a2
            have x3 := IntWalk.i64_in _ a3
            have x4 := IntWalk.i64_in _ a4
            clear a1 a2 a3 a4
            have HP := Lib.hid hZ
            clear hZ g1 g2 g3 g4 p1 p0 hz0 hDl
            go_wp2_with fail
            refine (sum_any wr D (.slice Al L.length cl) ((((YL0.out.below hb11).below hb12)).below Hbw.out) HQ.out HN6.out).mono ?_
            rintro e wz ⟨rfl, hbz⟩
            rw [← HP.out]
            go_wp2
            go_ret
            exact ⟨rfl, bw.trans (hbz.mono bw.size)⟩
      · skip
        have eb : (cutF L m).2 = barsCode L m := by
          unfold cutF; split
          · rename_i h; exact h.symm
          · rfl
        have ub : ((cutF L m).2 == 0) = false := by rw [eb]; simpa using hb
        clear eb hb
        go_wp2
        go_ret
        exact ⟨rfl, b9⟩

namespace GreatBars
set_option maxRecDepth 100000 in
theorem lifted (os : Os) (started : os.Started) (H : Type) (enc : TypeId × Value → H) :
    ReturnsInHanded {} Try.checked os 10 .any (Rows.fnBarsSpec.pre6 enc Try.prog Try.f10 Rows.fnBarsRow.domain false) (Rows.fnBarsSpec.post enc Try.prog Try.f10 false true false false) := by
  refine returnsInHanded_of_change (C := Try.checked) Try.own started (by kernel_rfl) Try.func10
    (ChangeSpec.witness6 (enc := enc) (C := Try.checked) false ⟨#[], #[.slice none 0 0], []⟩ 8 (by kernel_rfl) (by kernel_rfl) (by kernel_rfl) (by kernel_rfl)) ?_
  intro W base args ds gs before hval0 hW hcnd _
  have hval : ∀ (j : Nat) t v, Try.f10.params[j]? = some t → args[j]? = some v → Value.okWide Try.prog W .any base t v := hval0
  have hW' := hW
  obtain ⟨p, q, hA0, hV, rfl, hfz, hnd⟩ := hW
  have hA : DataW.TrodAll enc Try.prog W 0 (fun _ => true) true Try.f10.params.toList args.toList ds p := hA0
  rw [Try.params10] at hA hval
  obtain ⟨v0, vs0, d0, ds0, p0, q0, hargs, rfl, rfl, h0, r0⟩ := trodAll_cons hA
  obtain ⟨rfl, rfl, rfl⟩ := trodAll_nil r0
  obtain rfl : args = #[v0] := by cases args; simp_all
  obtain ⟨rfl, rfl⟩ := trodVars_none hV
  have lt0 : ∀ x ∈ p0, x.block < W.heap.size := by obtain ⟨m, hm⟩ := h0; exact DataW.trod_lt m _ _ _ hm
  obtain ⟨A0, n0, c0, ev0, hcode0, hc0⟩ := open_code (hval 0 _ v0 rfl rfl) h0
  subst ev0
  clear hA0 hval0
  refine (lawBars_walk W A0 n0 c0 hcode0 hc0).mono fun e W' ⟨he, bel⟩ => ?_
  subst he
  exact ⟨_, rfl, _, _, _, [], _, [], hW', trodAll_mk1 (shut_bool Try.underlying4 _), (trodAll_cons_mk (Below.trod Try.laidOut (by kernel_rfl) (of_decide_eq_true (by kernel_rfl)) h0 bel lt0) trodAll_mk0), rfl, bel.frame _, fun h => by cases h⟩

theorem proved : Rows.FnBarsSaid :=
  OpenClaim.holds_of_wide 10 Try.f10 rfl rfl rfl rfl rfl rfl rfl ⟨rfl, rfl, rfl, rfl, rfl⟩ rfl rfl rfl rfl rfl (by kernel_rfl) Try.func10 (by kernel_rfl)
    (of_decide_eq_true (by kernel_rfl)) (by unfold Func.isWrapper; first | (rw [if_pos (by decide +kernel)]; kernel_rfl) | (rw [if_neg (by decide +kernel)]; exact ⟨rfl, rfl⟩))
    (fun os started H enc _ => lifted os started H enc)
#print axioms proved
end GreatBars

end Go.Proofs.Ytmjjlpkleapaeaa
