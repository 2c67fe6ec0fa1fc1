/- FnPromises, for every input: a promise that is made keeps all others, and on the earliest day there is room. Its conditions: none. -/
import Derived.Test.YtgafjchbfbpmmaaPrmM
import Derived.Test.YtgafjchbfbpmmaaMake
import Derived.Test.YtgafjchbfbpmmaaMove
import Derived.Test.YtgafjchbfbpmmaaLikeP
import Derived.Test.YtgafjchbfbpmmaaDrawQ
namespace Go.Proofs.Ytgafjchbfbpmmaa
open Go.ChangeShapes Go.WideShapes Go.ChangeAt Go.RowKit Go.Deep

set_option maxHeartbeats 16000000 in
set_option maxRecDepth 100000 in
theorem lawPromises_walk (w : World) (A : Option Addr) (n c : Nat) (hcode : Code w A n) (hc : n ≤ c ∧ c ≤ maxLen) :
    Calls Try.prog 12 #[.slice A n c] w fun e w' => e = .returned (.bool true) ∧ Below w.heap.size w w' := by
  by_cases hbig : 4096 < (n : Int)
  · have t0 : decide (4096 < (n : Int)) = true := by simpa using hbig
    go_enter Try.func12, Try.ntmps12
    go_wp2_with fail
    refine (big_any w A n c hc.1 hc.2).mono ?_
    rintro e w1 ⟨rfl, rfl⟩
    rw [t0]
    go_wp2
    go_ret
    exact ⟨rfl, Below.refl _ _⟩
  · have t0 : decide (4096 < (n : Int)) = false := by simpa using hbig
    have hn : n ≤ 4096 := by omega
    have Hcode := Lib.hid hcode
    have Hc := Lib.hid hc
    clear hcode hc hbig
    go_enter Try.func12, Try.ntmps12
    go_wp2_with fail
    refine (big_any w A n c Hc.out.1 Hc.out.2).mono ?_
    rintro e w1 ⟨rfl, rfl⟩
    rw [t0]
    clear t0
    go_wp2_with fail
    refine (drawDay_any w A n c Hcode.out hn Hc.out).mono ?_
    rintro e w1 ⟨La, va, ma, rfl, ho, hf, hl, hb1⟩
    have b1 := hb1
    obtain ⟨Aa, ca, rfl, ha, hcv⟩ := own_slice ho
    have Va := Lib.hid (Sl.of_own ho)
    have Fa := Lib.hid hf
    have Na : La.length ≤ 4194304 := by omega
    have hCa : La.length ≤ 41 := hl
    clear ho hf hl ha hcv
    go_wp2_with fail
    refine (implEarliestDay_any w1 La _ ma Va.out Fa.out Na).mono ?_
    rintro e w2 ⟨rfl, hb2⟩
    have b2 := b1.trans (hb2.mono b1.size)
    go_wp2_with fail
    refine (specEarliestDay_any w2 La _ ma (Va.out.below hb2) Fa.out Na).mono ?_
    rintro e w3 ⟨rfl, hb3⟩
    have b3 := b2.trans (hb3.mono b2.size)
    go_wp2_with fail
    refine (drawFree_any w3 A n c (code_below (code_below (code_below Hcode.out hb1) hb2) hb3) hn Hc.out).mono ?_
    rintro e w4 ⟨Lb, vb, mb, rfl, ho, hf, hl, hb4⟩
    have b4 := b3.trans (hb4.mono b3.size)
    obtain ⟨Ab, cb, rfl, ha, hcv⟩ := own_slice ho
    have Vb := Lib.hid (Sl.of_own ho)
    have Fb := Lib.hid hf
    have Nb : Lb.length ≤ 4194304 := by omega
    have hCb : Lb.length ≤ 41 := hl
    clear ho hf hl ha hcv
    go_wp2_with fail
    refine (implFreeUntil_any w4 Lb _ mb Vb.out Fb.out Nb).mono ?_
    rintro e w5 ⟨rfl, hb5⟩
    have b5 := b4.trans (hb5.mono b4.size)
    go_wp2_with fail
    refine (specFreeUntil_any w5 Lb _ mb (Vb.out.below hb5) Fb.out Nb).mono ?_
    rintro e w6 ⟨rfl, hb6⟩
    have b6 := b5.trans (hb6.mono b5.size)
    go_wp2_with fail
    refine (drawMake_any w6 A n c (code_below (code_below (code_below (code_below (code_below (code_below Hcode.out hb1) hb2) hb3) hb4) hb5) hb6) hn Hc.out).mono ?_
    rintro e w7 ⟨Ld, vd, p, rfl, ho, hf, hl, hpn, hb7⟩
    have b7 := b6.trans (hb7.mono b6.size)
    obtain ⟨Ad, cd, rfl, ha, hcv⟩ := own_slice ho
    have Vd := Lib.hid (Sl.of_own ho)
    have Fd := Lib.hid hf
    have Nd : Ld.length ≤ 4194304 := by omega
    have hCd : Ld.length ≤ 41 := hl
    clear ho hf hl ha hcv
    have HP := Lib.hid hpn
    clear hpn
    go_wp2_with fail
    obtain ⟨w8, hw8⟩ : ∃ w8, w8 = w7.alloc (.cells #[.string p.name, .int .i64 p.day, .int .i64 p.min] 43) := ⟨_, rfl⟩
    rw [← hw8]
    have hb8 : Below w7.heap.size w7 w8 := by rw [hw8]; exact (Below.refl _ _).alloc (Nat.le_refl _) _
    have KP := Lib.hid (show Blk w8 w7.heap.size 43 #[.string p.name, .int .i64 p.day, .int .i64 p.min] by rw [hw8]; exact Blk.new _ _ _)
    have b8 := b7.trans (hb8.mono b7.size)
    clear hw8
    refine (implMakePromise_any w8 Ld _ p (Vd.out.below hb8) Fd.out Nd HP.out).mono ?_
    rintro e w9 ⟨ydi, rfl, ho, hb9⟩
    have b9 := b8.trans (hb9.mono b8.size)
    have Ydi := Lib.hid (Sl.of_own ho)
    clear ho
    have k0 := ((Blk.step KP.out hb9)).cell 0
    have k1 := ((Blk.step KP.out hb9)).cell 1
    have k2 := ((Blk.step KP.out hb9)).cell 2
    simp only [List.getElem?_toArray, List.getElem?_cons_zero, List.getElem?_cons_succ] at k0 k1 k2
    go_wp2_with fail
    refine (specMakePromise_any w9 Ld _ p ((Vd.out.below hb8).below hb9) Fd.out Nd HP.out).mono ?_
    rintro e w10 ⟨yds, rfl, ho, hb10⟩
    have b10 := b9.trans (hb10.mono b9.size)
    have Yds := Lib.hid (Sl.of_own ho)
    clear ho
    clear k0 k1 k2
    go_wp2_with fail
    refine (drawMove_any w10 A n c (code_below (code_below (code_below (code_below (code_below (code_below (code_below (code_below (code_below (code_below Hcode.out hb1) hb2) hb3) hb4) hb5) hb6) hb7) hb8) hb9) hb10) hn Hc.out).mono ?_
    rintro e w11 ⟨Lk, vk, sk, mk, rfl, ho, hf, hl, hsk, hb11⟩
    have b11 := b10.trans (hb11.mono b10.size)
    obtain ⟨Ak, ck, rfl, ha, hcv⟩ := own_slice ho
    have Vk := Lib.hid (Sl.of_own ho)
    have Fk := Lib.hid hf
    have Nk : Lk.length ≤ 4194304 := by omega
    have hCk : Lk.length ≤ 41 := hl
    clear ho hf hl ha hcv
    have HS := Lib.hid hsk
    clear hsk
    go_wp2_with fail
    refine (implMovePromise_any w11 Lk _ sk mk Vk.out Fk.out Nk HS.out).mono ?_
    rintro e w12 ⟨yki, rfl, ho, hb12⟩
    have b12 := b11.trans (hb12.mono b11.size)
    have Yki := Lib.hid (Sl.of_own ho)
    clear ho
    go_wp2_with fail
    refine (specMovePromise_any w12 Lk _ sk mk (Vk.out.below hb12) Fk.out Nk HS.out).mono ?_
    rintro e w13 ⟨yks, rfl, ho, hb13⟩
    have b13 := b12.trans (hb13.mono b12.size)
    have Yks := Lib.hid (Sl.of_own ho)
    clear ho
    go_wp2_with fail
    refine (likePromises_same _ ydi yds w13 ((((Ydi.out.below hb10).below hb11).below hb12).below hb13) (((Yds.out.below hb11).below hb12).below hb13) (makePromise_len Ld p)).mono ?_
    rintro e w14 ⟨rfl, hb14⟩
    have b14 := b13.trans (hb14.mono b13.size)
    go_wp2_with fail
    refine (likePromises_same _ yki yks w14 ((Yki.out.below hb13).below hb14) (Yks.out.below hb14) (movePromise_len Lk sk mk)).mono ?_
    rintro e w15 ⟨rfl, hb15⟩
    have b15 := b14.trans (hb15.mono b14.size)
    go_wp2_with fail
    refine (implArePromises_any w15 Ld _ ((((((((Vd.out.below hb8).below hb9).below hb10).below hb11).below hb12).below hb13).below hb14).below hb15) Fd.out Nd).mono ?_
    rintro e w16 ⟨rfl, hb16⟩
    have b16 := b15.trans (hb16.mono b15.size)
    go_wp2_with fail
    refine (specArePromises_any w16 Ld _ (((((((((Vd.out.below hb8).below hb9).below hb10).below hb11).below hb12).below hb13).below hb14).below hb15).below hb16) Fd.out Nd).mono ?_
    rintro e w17 ⟨rfl, hb17⟩
    have b17 := b16.trans (hb17.mono b16.size)
    have K17Va := Lib.hid ((((((((((((((((Va.out.below hb2).below hb3).below hb4).below hb5).below hb6).below hb7).below hb8).below hb9).below hb10).below hb11).below hb12).below hb13).below hb14).below hb15).below hb16).below hb17)
    have K17Vd := Lib.hid ((((((((((Vd.out.below hb8).below hb9).below hb10).below hb11).below hb12).below hb13).below hb14).below hb15).below hb16).below hb17)
    have K17Ydi := Lib.hid ((((((((Ydi.out.below hb10).below hb11).below hb12).below hb13).below hb14).below hb15).below hb16).below hb17)
    have K17Yki := Lib.hid (((((Yki.out.below hb13).below hb14).below hb15).below hb16).below hb17)
    have K17KP := Lib.hid (Blk.step (Blk.step (Blk.step (Blk.step (Blk.step (Blk.step (Blk.step (Blk.step (Blk.step KP.out hb9) hb10) hb11) hb12) hb13) hb14) hb15) hb16) hb17)
    by_cases h3 : (makePromise Ld p).2 = 0
    · skip
      obtain ⟨m1, m2, m3⟩ := made_law h3
      have M1 := Lib.hid m1
      have M2 := Lib.hid m2
      clear m1 m2
      rw [h3]
      clear h3
      go_wp2_with fail
      refine (implCanKeep_any w17 _ ydi K17Ydi.out (makePromise_fit Fd.out HP.out) (makePromise_len Ld p)).mono ?_
      rintro e w18 ⟨rfl, hb18⟩
      have b18 := b17.trans (hb18.mono b17.size)
      rw [M1.out]
      have k1 := ((Blk.step K17KP.out hb18)).cell 1
      simp only [List.getElem?_toArray, List.getElem?_cons_zero, List.getElem?_cons_succ] at k1
      go_wp2_with fail
      refine (implFreeUntil_any w18 Ld _ _ (K17Vd.out.below hb18) Fd.out Nd).mono ?_
      rintro e w19 ⟨rfl, hb19⟩
      have b19 := b18.trans (hb19.mono b18.size)
      rw [M2.out]
      clear k1
      have k2 := ((Blk.step (Blk.step K17KP.out hb18) hb19)).cell 2
      simp only [List.getElem?_toArray, List.getElem?_cons_zero, List.getElem?_cons_succ] at k2
      have v3 : decide (freeUntil Ld p.day < p.min) = false := by simpa using m3
      by_cases h1 : (free Lb mb).2 = 0
      · skip
        have f1 := free_law h1
        have v2 : decide ((free Lb mb).1 < 0) = false := by simpa using f1
        rw [h1]
        clear h1
        by_cases h5 : (movePromise Lk sk mk).2 = 0
        · skip
          have M8 := Lib.hid (move_law h5)
          rw [h5]
          clear h5
          go_wp2_with fail
          refine (implArePromises_any w19 _ yki ((K17Yki.out.below hb18).below hb19) (movePromise_fit Fk.out) (movePromise_len Lk sk mk)).mono ?_
          rintro e w20 ⟨rfl, hb20⟩
          have b20 := b19.trans (hb20.mono b19.size)
          rw [M8.out]
          by_cases hb : (theDay La ma).2 = 0
          · skip
            obtain ⟨m1, m2, m3, m4, m5⟩ := day_law hb
            have w1 := IntWalk.i64_in ((theDay La ma).1 - 1) (by omega)
            rw [hb]
            clear hb
            have M1 := Lib.hid m1
            have M5 := Lib.hid m5
            clear m1 m5
            go_wp2_with fail
            refine (implFreeUntil_any w20 La _ _ (((K17Va.out.below hb18).below hb19).below hb20) Fa.out Na).mono ?_
            rintro e w21 ⟨rfl, hb21⟩
            have b21 := b20.trans (hb21.mono b20.size)
            rw [M1.out]
            have v1 : decide (freeUntil La (theDay La ma).1 < ma) = false := by simpa using m2
            by_cases hd : (theDay La ma).1 = 1
            · skip
              have ud : ((theDay La ma).1 == 1) = true := by simpa using hd
              clear hd
              go_wp2
              go_ret
              exact ⟨rfl, b21⟩
            · skip
              obtain ⟨m6, m7⟩ := M5.out hd
              have M6 := Lib.hid m6
              clear m6
              have ud : ((theDay La ma).1 == 1) = false := by simpa using hd
              clear hd
              go_wp2_with fail
              refine (implFreeUntil_any w21 La _ _ ((((K17Va.out.below hb18).below hb19).below hb20).below hb21) Fa.out Na).mono ?_
              rintro e w22 ⟨rfl, hb22⟩
              have b22 := b21.trans (hb22.mono b21.size)
              rw [M6.out]
              go_wp2
              go_ret
              exact ⟨rfl, b22⟩
          · skip
            have ub : ((theDay La ma).2 == 0) = false := by simpa using hb
            clear hb
            go_wp2
            go_ret
            exact ⟨rfl, b20⟩
        · skip
          have u5 : ((movePromise Lk sk mk).2 == 0) = false := by simpa using h5
          clear h5
          by_cases hb : (theDay La ma).2 = 0
          · skip
            obtain ⟨m1, m2, m3, m4, m5⟩ := day_law hb
            have w1 := IntWalk.i64_in ((theDay La ma).1 - 1) (by omega)
            rw [hb]
            clear hb
            have M1 := Lib.hid m1
            have M5 := Lib.hid m5
            clear m1 m5
            go_wp2_with fail
            refine (implFreeUntil_any w19 La _ _ ((K17Va.out.below hb18).below hb19) Fa.out Na).mono ?_
            rintro e w20 ⟨rfl, hb20⟩
            have b20 := b19.trans (hb20.mono b19.size)
            rw [M1.out]
            have v1 : decide (freeUntil La (theDay La ma).1 < ma) = false := by simpa using m2
            by_cases hd : (theDay La ma).1 = 1
            · skip
              have ud : ((theDay La ma).1 == 1) = true := by simpa using hd
              clear hd
              go_wp2
              go_ret
              exact ⟨rfl, b20⟩
            · skip
              obtain ⟨m6, m7⟩ := M5.out hd
              have M6 := Lib.hid m6
              clear m6
              have ud : ((theDay La ma).1 == 1) = false := by simpa using hd
              clear hd
              go_wp2_with fail
              refine (implFreeUntil_any w20 La _ _ (((K17Va.out.below hb18).below hb19).below hb20) Fa.out Na).mono ?_
              rintro e w21 ⟨rfl, hb21⟩
              have b21 := b20.trans (hb21.mono b20.size)
              rw [M6.out]
              go_wp2
              go_ret
              exact ⟨rfl, b21⟩
          · skip
            have ub : ((theDay La ma).2 == 0) = false := by simpa using hb
            clear hb
            go_wp2
            go_ret
            exact ⟨rfl, b19⟩
      · skip
        have u1 : ((free Lb mb).2 == 0) = false := by simpa using h1
        clear h1
        by_cases h5 : (movePromise Lk sk mk).2 = 0
        · skip
          have M8 := Lib.hid (move_law h5)
          rw [h5]
          clear h5
          go_wp2_with fail
          refine (implArePromises_any w19 _ yki ((K17Yki.out.below hb18).below hb19) (movePromise_fit Fk.out) (movePromise_len Lk sk mk)).mono ?_
          rintro e w20 ⟨rfl, hb20⟩
          have b20 := b19.trans (hb20.mono b19.size)
          rw [M8.out]
          by_cases hb : (theDay La ma).2 = 0
          · skip
            obtain ⟨m1, m2, m3, m4, m5⟩ := day_law hb
            have w1 := IntWalk.i64_in ((theDay La ma).1 - 1) (by omega)
            rw [hb]
            clear hb
            have M1 := Lib.hid m1
            have M5 := Lib.hid m5
            clear m1 m5
            go_wp2_with fail
            refine (implFreeUntil_any w20 La _ _ (((K17Va.out.below hb18).below hb19).below hb20) Fa.out Na).mono ?_
            rintro e w21 ⟨rfl, hb21⟩
            have b21 := b20.trans (hb21.mono b20.size)
            rw [M1.out]
            have v1 : decide (freeUntil La (theDay La ma).1 < ma) = false := by simpa using m2
            by_cases hd : (theDay La ma).1 = 1
            · skip
              have ud : ((theDay La ma).1 == 1) = true := by simpa using hd
              clear hd
              go_wp2
              go_ret
              exact ⟨rfl, b21⟩
            · skip
              obtain ⟨m6, m7⟩ := M5.out hd
              have M6 := Lib.hid m6
              clear m6
              have ud : ((theDay La ma).1 == 1) = false := by simpa using hd
              clear hd
              go_wp2_with fail
              refine (implFreeUntil_any w21 La _ _ ((((K17Va.out.below hb18).below hb19).below hb20).below hb21) Fa.out Na).mono ?_
              rintro e w22 ⟨rfl, hb22⟩
              have b22 := b21.trans (hb22.mono b21.size)
              rw [M6.out]
              go_wp2
              go_ret
              exact ⟨rfl, b22⟩
          · skip
            have ub : ((theDay La ma).2 == 0) = false := by simpa using hb
            clear hb
            go_wp2
            go_ret
            exact ⟨rfl, b20⟩
        · skip
          have u5 : ((movePromise Lk sk mk).2 == 0) = false := by simpa using h5
          clear h5
          by_cases hb : (theDay La ma).2 = 0
          · skip
            obtain ⟨m1, m2, m3, m4, m5⟩ := day_law hb
            have w1 := IntWalk.i64_in ((theDay La ma).1 - 1) (by omega)
            rw [hb]
            clear hb
            have M1 := Lib.hid m1
            have M5 := Lib.hid m5
            clear m1 m5
            go_wp2_with fail
            refine (implFreeUntil_any w19 La _ _ ((K17Va.out.below hb18).below hb19) Fa.out Na).mono ?_
            rintro e w20 ⟨rfl, hb20⟩
            have b20 := b19.trans (hb20.mono b19.size)
            rw [M1.out]
            have v1 : decide (freeUntil La (theDay La ma).1 < ma) = false := by simpa using m2
            by_cases hd : (theDay La ma).1 = 1
            · skip
              have ud : ((theDay La ma).1 == 1) = true := by simpa using hd
              clear hd
              go_wp2
              go_ret
              exact ⟨rfl, b20⟩
            · skip
              obtain ⟨m6, m7⟩ := M5.out hd
              have M6 := Lib.hid m6
              clear m6
              have ud : ((theDay La ma).1 == 1) = false := by simpa using hd
              clear hd
              go_wp2_with fail
              refine (implFreeUntil_any w20 La _ _ (((K17Va.out.below hb18).below hb19).below hb20) Fa.out Na).mono ?_
              rintro e w21 ⟨rfl, hb21⟩
              have b21 := b20.trans (hb21.mono b20.size)
              rw [M6.out]
              go_wp2
              go_ret
              exact ⟨rfl, b21⟩
          · skip
            have ub : ((theDay La ma).2 == 0) = false := by simpa using hb
            clear hb
            go_wp2
            go_ret
            exact ⟨rfl, b19⟩
    · skip
      have u3 : ((makePromise Ld p).2 == 0) = false := by simpa using h3
      clear h3
      by_cases h1 : (free Lb mb).2 = 0
      · skip
        have f1 := free_law h1
        have v2 : decide ((free Lb mb).1 < 0) = false := by simpa using f1
        rw [h1]
        clear h1
        by_cases h5 : (movePromise Lk sk mk).2 = 0
        · skip
          have M8 := Lib.hid (move_law h5)
          rw [h5]
          clear h5
          go_wp2_with fail
          refine (implArePromises_any w17 _ yki K17Yki.out (movePromise_fit Fk.out) (movePromise_len Lk sk mk)).mono ?_
          rintro e w18 ⟨rfl, hb18⟩
          have b18 := b17.trans (hb18.mono b17.size)
          rw [M8.out]
          by_cases hb : (theDay La ma).2 = 0
          · skip
            obtain ⟨m1, m2, m3, m4, m5⟩ := day_law hb
            have w1 := IntWalk.i64_in ((theDay La ma).1 - 1) (by omega)
            rw [hb]
            clear hb
            have M1 := Lib.hid m1
            have M5 := Lib.hid m5
            clear m1 m5
            go_wp2_with fail
            refine (implFreeUntil_any w18 La _ _ (K17Va.out.below hb18) Fa.out Na).mono ?_
            rintro e w19 ⟨rfl, hb19⟩
            have b19 := b18.trans (hb19.mono b18.size)
            rw [M1.out]
            have v1 : decide (freeUntil La (theDay La ma).1 < ma) = false := by simpa using m2
            by_cases hd : (theDay La ma).1 = 1
            · skip
              have ud : ((theDay La ma).1 == 1) = true := by simpa using hd
              clear hd
              go_wp2
              go_ret
              exact ⟨rfl, b19⟩
            · skip
              obtain ⟨m6, m7⟩ := M5.out hd
              have M6 := Lib.hid m6
              clear m6
              have ud : ((theDay La ma).1 == 1) = false := by simpa using hd
              clear hd
              go_wp2_with fail
              refine (implFreeUntil_any w19 La _ _ ((K17Va.out.below hb18).below hb19) Fa.out Na).mono ?_
              rintro e w20 ⟨rfl, hb20⟩
              have b20 := b19.trans (hb20.mono b19.size)
              rw [M6.out]
              go_wp2
              go_ret
              exact ⟨rfl, b20⟩
          · skip
            have ub : ((theDay La ma).2 == 0) = false := by simpa using hb
            clear hb
            go_wp2
            go_ret
            exact ⟨rfl, b18⟩
        · skip
          have u5 : ((movePromise Lk sk mk).2 == 0) = false := by simpa using h5
          clear h5
          by_cases hb : (theDay La ma).2 = 0
          · skip
            obtain ⟨m1, m2, m3, m4, m5⟩ := day_law hb
            have w1 := IntWalk.i64_in ((theDay La ma).1 - 1) (by omega)
            rw [hb]
            clear hb
            have M1 := Lib.hid m1
            have M5 := Lib.hid m5
            clear m1 m5
            go_wp2_with fail
            refine (implFreeUntil_any w17 La _ _ K17Va.out Fa.out Na).mono ?_
            rintro e w18 ⟨rfl, hb18⟩
            have b18 := b17.trans (hb18.mono b17.size)
            rw [M1.out]
            have v1 : decide (freeUntil La (theDay La ma).1 < ma) = false := by simpa using m2
            by_cases hd : (theDay La ma).1 = 1
            · skip
              have ud : ((theDay La ma).1 == 1) = true := by simpa using hd
              clear hd
              go_wp2
              go_ret
              exact ⟨rfl, b18⟩
            · skip
              obtain ⟨m6, m7⟩ := M5.out hd
              have M6 := Lib.hid m6
              clear m6
              have ud : ((theDay La ma).1 == 1) = false := by simpa using hd
              clear hd
              go_wp2_with fail
              refine (implFreeUntil_any w18 La _ _ (K17Va.out.below hb18) Fa.out Na).mono ?_
              rintro e w19 ⟨rfl, hb19⟩
              have b19 := b18.trans (hb19.mono b18.size)
              rw [M6.out]
              go_wp2
              go_ret
              exact ⟨rfl, b19⟩
          · skip
            have ub : ((theDay La ma).2 == 0) = false := by simpa using hb
            clear hb
            go_wp2
            go_ret
            exact ⟨rfl, b17⟩
      · skip
        have u1 : ((free Lb mb).2 == 0) = false := by simpa using h1
        clear h1
        by_cases h5 : (movePromise Lk sk mk).2 = 0
        · skip
          have M8 := Lib.hid (move_law h5)
          rw [h5]
          clear h5
          go_wp2_with fail
          refine (implArePromises_any w17 _ yki K17Yki.out (movePromise_fit Fk.out) (movePromise_len Lk sk mk)).mono ?_
          rintro e w18 ⟨rfl, hb18⟩
          have b18 := b17.trans (hb18.mono b17.size)
          rw [M8.out]
          by_cases hb : (theDay La ma).2 = 0
          · skip
            obtain ⟨m1, m2, m3, m4, m5⟩ := day_law hb
            have w1 := IntWalk.i64_in ((theDay La ma).1 - 1) (by omega)
            rw [hb]
            clear hb
            have M1 := Lib.hid m1
            have M5 := Lib.hid m5
            clear m1 m5
            go_wp2_with fail
            refine (implFreeUntil_any w18 La _ _ (K17Va.out.below hb18) Fa.out Na).mono ?_
            rintro e w19 ⟨rfl, hb19⟩
            have b19 := b18.trans (hb19.mono b18.size)
            rw [M1.out]
            have v1 : decide (freeUntil La (theDay La ma).1 < ma) = false := by simpa using m2
            by_cases hd : (theDay La ma).1 = 1
            · skip
              have ud : ((theDay La ma).1 == 1) = true := by simpa using hd
              clear hd
              go_wp2
              go_ret
              exact ⟨rfl, b19⟩
            · skip
              obtain ⟨m6, m7⟩ := M5.out hd
              have M6 := Lib.hid m6
              clear m6
              have ud : ((theDay La ma).1 == 1) = false := by simpa using hd
              clear hd
              go_wp2_with fail
              refine (implFreeUntil_any w19 La _ _ ((K17Va.out.below hb18).below hb19) Fa.out Na).mono ?_
              rintro e w20 ⟨rfl, hb20⟩
              have b20 := b19.trans (hb20.mono b19.size)
              rw [M6.out]
              go_wp2
              go_ret
              exact ⟨rfl, b20⟩
          · skip
            have ub : ((theDay La ma).2 == 0) = false := by simpa using hb
            clear hb
            go_wp2
            go_ret
            exact ⟨rfl, b18⟩
        · skip
          have u5 : ((movePromise Lk sk mk).2 == 0) = false := by simpa using h5
          clear h5
          by_cases hb : (theDay La ma).2 = 0
          · skip
            obtain ⟨m1, m2, m3, m4, m5⟩ := day_law hb
            have w1 := IntWalk.i64_in ((theDay La ma).1 - 1) (by omega)
            rw [hb]
            clear hb
            have M1 := Lib.hid m1
            have M5 := Lib.hid m5
            clear m1 m5
            go_wp2_with fail
            refine (implFreeUntil_any w17 La _ _ K17Va.out Fa.out Na).mono ?_
            rintro e w18 ⟨rfl, hb18⟩
            have b18 := b17.trans (hb18.mono b17.size)
            rw [M1.out]
            have v1 : decide (freeUntil La (theDay La ma).1 < ma) = false := by simpa using m2
            by_cases hd : (theDay La ma).1 = 1
            · skip
              have ud : ((theDay La ma).1 == 1) = true := by simpa using hd
              clear hd
              go_wp2
              go_ret
              exact ⟨rfl, b18⟩
            · skip
              obtain ⟨m6, m7⟩ := M5.out hd
              have M6 := Lib.hid m6
              clear m6
              have ud : ((theDay La ma).1 == 1) = false := by simpa using hd
              clear hd
              go_wp2_with fail
              refine (implFreeUntil_any w18 La _ _ (K17Va.out.below hb18) Fa.out Na).mono ?_
              rintro e w19 ⟨rfl, hb19⟩
              have b19 := b18.trans (hb19.mono b18.size)
              rw [M6.out]
              go_wp2
              go_ret
              exact ⟨rfl, b19⟩
          · skip
            have ub : ((theDay La ma).2 == 0) = false := by simpa using hb
            clear hb
            go_wp2
            go_ret
            exact ⟨rfl, b17⟩

namespace GreatPromises
set_option maxRecDepth 100000 in
theorem lifted (os : Os) (started : os.Started) (H : Type) (enc : TypeId × Value → H) :
    ReturnsInHanded {} Try.checked os 12 .any (Rows.fnPromisesSpec.pre6 enc Try.prog Try.f12 Rows.fnPromisesRow.domain false) (Rows.fnPromisesSpec.post enc Try.prog Try.f12 false true false false) := by
  refine returnsInHanded_of_change (C := Try.checked) Try.own started (by kernel_rfl) Try.func12
    (ChangeSpec.witness6 (enc := enc) (C := Try.checked) false ⟨#[], #[.slice none 0 0], []⟩ 8 (by kernel_rfl) (by kernel_rfl) (by kernel_rfl) (by kernel_rfl)) ?_
  intro W base args ds gs before hval0 hW hcnd _
  have hval : ∀ (j : Nat) t v, Try.f12.params[j]? = some t → args[j]? = some v → Value.okWide Try.prog W .any base t v := hval0
  have hW' := hW
  obtain ⟨p, q, hA0, hV, rfl, hfz, hnd⟩ := hW
  have hA : DataW.TrodAll enc Try.prog W 0 (fun _ => true) true Try.f12.params.toList args.toList ds p := hA0
  rw [Try.params12] at hA hval
  obtain ⟨v0, vs0, d0, ds0, p0, q0, hargs, rfl, rfl, h0, r0⟩ := trodAll_cons hA
  obtain ⟨rfl, rfl, rfl⟩ := trodAll_nil r0
  obtain rfl : args = #[v0] := by cases args; simp_all
  obtain ⟨rfl, rfl⟩ := trodVars_none hV
  have lt0 : ∀ x ∈ p0, x.block < W.heap.size := by obtain ⟨m, hm⟩ := h0; exact DataW.trod_lt m _ _ _ hm
  obtain ⟨A0, n0, c0, ev0, hcode0, hc0⟩ := open_code (hval 0 _ v0 rfl rfl) h0
  subst ev0
  clear hA0 hval0
  refine (lawPromises_walk W A0 n0 c0 hcode0 hc0).mono fun e W' ⟨he, bel⟩ => ?_
  subst he
  exact ⟨_, rfl, _, _, _, [], _, [], hW', trodAll_mk1 (shut_bool Try.underlying4 _), (trodAll_cons_mk (Below.trod Try.laidOut (by kernel_rfl) (of_decide_eq_true (by kernel_rfl)) h0 bel lt0) trodAll_mk0), rfl, bel.frame _, fun h => by cases h⟩

theorem proved : Rows.FnPromisesSaid :=
  OpenClaim.holds_of_wide 12 Try.f12 rfl rfl rfl rfl rfl rfl rfl ⟨rfl, rfl, rfl, rfl, rfl⟩ rfl rfl rfl rfl rfl (by kernel_rfl) Try.func12 (by kernel_rfl)
    (of_decide_eq_true (by kernel_rfl)) (by unfold Func.isWrapper; first | (rw [if_pos (by decide +kernel)]; kernel_rfl) | (rw [if_neg (by decide +kernel)]; exact ⟨rfl, rfl⟩))
    (fun os started H enc _ => lifted os started H enc)
#print axioms proved
end GreatPromises

end Go.Proofs.Ytgafjchbfbpmmaa
