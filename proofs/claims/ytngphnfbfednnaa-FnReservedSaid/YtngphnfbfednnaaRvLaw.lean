/- FnReserved, for every input: pieces that are reserved can be released again, and those that are used are gone. Its conditions: none. -/
import Derived.Test.YtngphnfbfednnaaRvM
import Derived.Test.YtngphnfbfednnaaLikeB
import Derived.Test.YtngphnfbfednnaaDrawB
namespace Go.Proofs.Ytngphnfbfednnaa
open Go.ChangeShapes Go.WideShapes Go.ChangeAt Go.RowKit Go.Deep

set_option maxHeartbeats 16000000 in
set_option maxRecDepth 100000 in
theorem lawReserved_walk (w : World) (A : Option Addr) (n c : Nat) (hcode : Code w A n) (hc : n ≤ c ∧ c ≤ maxLen) :
    Calls Try.prog 13 #[.slice A n c] w fun e w' => e = .returned (.bool true) ∧ Below w.heap.size w w' := by
  by_cases hbig : 4096 < (n : Int)
  · have t0 : decide (4096 < (n : Int)) = true := by simpa using hbig
    go_enter Try.func13, Try.ntmps13
    go_wp2_with fail
    refine (big_any w A n c hc.1 hc.2).mono ?_
    rintro e w1 ⟨rfl, rfl⟩
    rw [t0]
    go_wp2
    go_ret
    exact ⟨rfl, Below.refl _ _⟩
  · have t0 : decide (4096 < (n : Int)) = false := by simpa using hbig
    have hn : n ≤ 4096 := by omega
    have Hcode := Lib.hid hcode
    have Hc := Lib.hid hc
    clear hcode hc hbig
    go_enter Try.func13, Try.ntmps13
    go_wp2_with fail
    refine (big_any w A n c Hc.out.1 Hc.out.2).mono ?_
    rintro e w1 ⟨rfl, rfl⟩
    rw [t0]
    clear t0
    go_wp2_with fail
    refine (drawReserve_any w A n c Hcode.out hn Hc.out).mono ?_
    rintro e w1 ⟨La, va, sa, qa, rfl, ho, hf, hl, hs, hb1⟩
    have b1 := hb1
    obtain ⟨Aa, ca, rfl, ha, hcv⟩ := own_slice ho
    have Va := Lib.hid (Sl.of_own ho)
    have Fa := Lib.hid hf
    have Na : La.length ≤ 4194304 := by omega
    have Sa := Lib.hid hs
    clear ho hf hl hs ha hcv
    go_wp2_with fail
    refine (implReservePieces_any w1 La _ sa qa Va.out Fa.out Na Sa.out).mono ?_
    rintro e w2 ⟨yai, rfl, ho, hb2⟩
    have b2 := b1.trans (hb2.mono b1.size)
    have Yai := Lib.hid (Sl.of_own ho)
    clear ho
    go_wp2_with fail
    refine (specReservePieces_any w2 La _ sa qa (Va.out.below hb2) Fa.out Na Sa.out).mono ?_
    rintro e w3 ⟨yas, rfl, ho, hb3⟩
    have b3 := b2.trans (hb3.mono b2.size)
    have Yas := Lib.hid (Sl.of_own ho)
    clear ho
    go_wp2_with fail
    refine (drawRelease_any w3 A n c (code_below (code_below (code_below Hcode.out hb1) hb2) hb3) hn Hc.out).mono ?_
    rintro e w4 ⟨Lb, vb, sb, qb, rfl, ho, hf, hl, hs, hb4⟩
    have b4 := b3.trans (hb4.mono b3.size)
    obtain ⟨Ab, cb, rfl, ha, hcv⟩ := own_slice ho
    have Vb := Lib.hid (Sl.of_own ho)
    have Fb := Lib.hid hf
    have Nb : Lb.length ≤ 4194304 := by omega
    have Sb := Lib.hid hs
    clear ho hf hl hs ha hcv
    go_wp2_with fail
    refine (implReleasePieces_any w4 Lb _ sb qb Vb.out Fb.out Nb Sb.out).mono ?_
    rintro e w5 ⟨ybi, rfl, ho, hb5⟩
    have b5 := b4.trans (hb5.mono b4.size)
    have Ybi := Lib.hid (Sl.of_own ho)
    clear ho
    go_wp2_with fail
    refine (specReleasePieces_any w5 Lb _ sb qb (Vb.out.below hb5) Fb.out Nb Sb.out).mono ?_
    rintro e w6 ⟨ybs, rfl, ho, hb6⟩
    have b6 := b5.trans (hb6.mono b5.size)
    have Ybs := Lib.hid (Sl.of_own ho)
    clear ho
    go_wp2_with fail
    refine (drawFill_any w6 A n c (code_below (code_below (code_below (code_below (code_below (code_below Hcode.out hb1) hb2) hb3) hb4) hb5) hb6) hn Hc.out).mono ?_
    rintro e w7 ⟨Ld, vd, sd, qd, rfl, ho, hf, hl, hs, hb7⟩
    have b7 := b6.trans (hb7.mono b6.size)
    obtain ⟨Ad, cd, rfl, ha, hcv⟩ := own_slice ho
    have Vd := Lib.hid (Sl.of_own ho)
    have Fd := Lib.hid hf
    have Nd : Ld.length ≤ 4194304 := by omega
    have Sd := Lib.hid hs
    clear ho hf hl hs ha hcv
    go_wp2_with fail
    refine (implFillBin_any w7 Ld _ sd qd Vd.out Fd.out Nd Sd.out).mono ?_
    rintro e w8 ⟨ydi, rfl, ho, hb8⟩
    have b8 := b7.trans (hb8.mono b7.size)
    have Ydi := Lib.hid (Sl.of_own ho)
    clear ho
    go_wp2_with fail
    refine (specFillBin_any w8 Ld _ sd qd (Vd.out.below hb8) Fd.out Nd Sd.out).mono ?_
    rintro e w9 ⟨yds, rfl, ho, hb9⟩
    have b9 := b8.trans (hb9.mono b8.size)
    have Yds := Lib.hid (Sl.of_own ho)
    clear ho
    go_wp2_with fail
    refine (implFreePieces_any w9 La _ sa ((((((((Va.out.below hb2).below hb3).below hb4).below hb5).below hb6).below hb7).below hb8).below hb9) Fa.out Na Sa.out).mono ?_
    rintro e w10 ⟨rfl, hb10⟩
    have b10 := b9.trans (hb10.mono b9.size)
    go_wp2_with fail
    refine (specFreePieces_any w10 La _ sa (((((((((Va.out.below hb2).below hb3).below hb4).below hb5).below hb6).below hb7).below hb8).below hb9).below hb10) Fa.out Na Sa.out).mono ?_
    rintro e w11 ⟨rfl, hb11⟩
    have b11 := b10.trans (hb11.mono b10.size)
    go_wp2_with fail
    refine (likeBins_same _ yai yas w11 (((((((((Yai.out.below hb3).below hb4).below hb5).below hb6).below hb7).below hb8).below hb9).below hb10).below hb11) ((((((((Yas.out.below hb4).below hb5).below hb6).below hb7).below hb8).below hb9).below hb10).below hb11) (reserve_len La sa qa)).mono ?_
    rintro e w12 ⟨rfl, hb12⟩
    have b12 := b11.trans (hb12.mono b11.size)
    go_wp2_with fail
    refine (likeBins_same _ ybi ybs w12 (((((((Ybi.out.below hb6).below hb7).below hb8).below hb9).below hb10).below hb11).below hb12) ((((((Ybs.out.below hb7).below hb8).below hb9).below hb10).below hb11).below hb12) (release_len Lb sb qb)).mono ?_
    rintro e w13 ⟨rfl, hb13⟩
    have b13 := b12.trans (hb13.mono b12.size)
    go_wp2_with fail
    refine (likeBins_same _ ydi yds w13 (((((Ydi.out.below hb9).below hb10).below hb11).below hb12).below hb13) ((((Yds.out.below hb10).below hb11).below hb12).below hb13) (fillBin_len Ld sd qd)).mono ?_
    rintro e w14 ⟨rfl, hb14⟩
    have b14 := b13.trans (hb14.mono b13.size)
    go_wp2_with fail
    refine (implIsStock_any w14 La _ (((((((((((((Va.out.below hb2).below hb3).below hb4).below hb5).below hb6).below hb7).below hb8).below hb9).below hb10).below hb11).below hb12).below hb13).below hb14) Fa.out Na).mono ?_
    rintro e w15 ⟨rfl, hb15⟩
    have b15 := b14.trans (hb15.mono b14.size)
    go_wp2_with fail
    refine (specIsStock_any w15 La _ ((((((((((((((Va.out.below hb2).below hb3).below hb4).below hb5).below hb6).below hb7).below hb8).below hb9).below hb10).below hb11).below hb12).below hb13).below hb14).below hb15) Fa.out Na).mono ?_
    rintro e w16 ⟨rfl, hb16⟩
    have b16 := b15.trans (hb16.mono b15.size)
    have K16Va := Lib.hid (((((((((((((((Va.out.below hb2).below hb3).below hb4).below hb5).below hb6).below hb7).below hb8).below hb9).below hb10).below hb11).below hb12).below hb13).below hb14).below hb15).below hb16)
    have K16Vb := Lib.hid ((((((((((((Vb.out.below hb5).below hb6).below hb7).below hb8).below hb9).below hb10).below hb11).below hb12).below hb13).below hb14).below hb15).below hb16)
    have K16Vd := Lib.hid (((((((((Vd.out.below hb8).below hb9).below hb10).below hb11).below hb12).below hb13).below hb14).below hb15).below hb16)
    have K16Yai := Lib.hid ((((((((((((((Yai.out.below hb3).below hb4).below hb5).below hb6).below hb7).below hb8).below hb9).below hb10).below hb11).below hb12).below hb13).below hb14).below hb15).below hb16)
    have K16Ybi := Lib.hid (((((((((((Ybi.out.below hb6).below hb7).below hb8).below hb9).below hb10).below hb11).below hb12).below hb13).below hb14).below hb15).below hb16)
    have K16Ydi := Lib.hid ((((((((Ydi.out.below hb9).below hb10).below hb11).below hb12).below hb13).below hb14).below hb15).below hb16)
    clear hn Hcode Hc
    by_cases h1 : (release Lb sb qb).2 = 0
    · skip
      have M1 := Lib.hid (release_back h1)
      rw [h1]
      clear h1
      go_wp2_with fail
      refine (implReservePieces_any w16 _ ybi sb qb K16Ybi.out (release_fit Fb.out) (release_len Lb sb qb) Sb.out).mono ?_
      rintro e w17 ⟨yk, rfl, hok, hb17⟩
      have b17 := b16.trans (hb17.mono b16.size)
      have YK := Lib.hid (Sl.of_own hok)
      clear hok
      rw [M1.out] at YK
      rw [M1.out]
      go_wp2_with fail
      refine (likeBins_same Lb yk _ w17 YK.out (K16Vb.out.below hb17) Nb).mono ?_
      rintro e w18 ⟨rfl, hb18⟩
      have b18 := b17.trans (hb18.mono b17.size)
      by_cases h2 : (fillBin Ld sd qd).2 = 0
      · skip
        obtain ⟨m1, m2, m3, m4, m5, m6⟩ := fill_more h2
        have W2 := IntWalk.i64_in ((freePieces Ld sd).1 + qd) (by omega)
        have M1 := Lib.hid m1
        have M2 := Lib.hid m2
        clear m1 m2 m3 m4 m5 m6
        rw [h2]
        clear h2
        go_wp2_with fail
        refine (implFreePieces_any w18 _ ydi sd ((K16Ydi.out.below hb17).below hb18) (fill_fit Fd.out) (fillBin_len Ld sd qd) Sd.out).mono ?_
        rintro e w19 ⟨rfl, hb19⟩
        have b19 := b18.trans (hb19.mono b18.size)
        go_wp2_with fail
        refine (implFreePieces_any w19 Ld _ sd (((K16Vd.out.below hb17).below hb18).below hb19) Fd.out Nd Sd.out).mono ?_
        rintro e w20 ⟨rfl, hb20⟩
        have b20 := b19.trans (hb20.mono b19.size)
        rw [M1.out, M2.out]
        by_cases h3 : (reserve La sa qa).2 = 0
        · skip
          obtain ⟨m1, m2, m3, m4, m5, m6, m7, m8⟩ := reserve_back h3
          have W3 := IntWalk.i64_in ((freePieces La sa).1 - qa) (by omega)
          have M1 := Lib.hid m1
          have M2 := Lib.hid m2
          have M3 := Lib.hid m3
          have M4 := Lib.hid m4
          clear m1 m2 m3 m4 m5 m6 m7 m8
          rw [h3]
          clear h3
          go_wp2_with fail
          refine (implReleasePieces_any w20 _ yai sa qa ((((K16Yai.out.below hb17).below hb18).below hb19).below hb20) (reserve_fit Fa.out) (reserve_len La sa qa) Sa.out).mono ?_
          rintro e w21 ⟨yr, rfl, hor, hb21⟩
          have b21 := b20.trans (hb21.mono b20.size)
          have YR := Lib.hid (Sl.of_own hor)
          clear hor
          go_wp2_with fail
          refine (implUsePieces_any w21 _ yai sa qa (((((K16Yai.out.below hb17).below hb18).below hb19).below hb20).below hb21) (reserve_fit Fa.out) (reserve_len La sa qa) Sa.out).mono ?_
          rintro e w22 ⟨yu, rfl, hou, hb22⟩
          have b22 := b21.trans (hb22.mono b21.size)
          have YU := Lib.hid (Sl.of_own hou)
          clear hou
          go_wp2_with fail
          refine (implFreePieces_any w22 _ yu sa YU.out (use_fit (reserve_fit Fa.out)) (usePieces_len _ sa qa) Sa.out).mono ?_
          rintro e w23 ⟨rfl, hb23⟩
          have b23 := b22.trans (hb23.mono b22.size)
          have KR := Lib.hid ((YR.out.below hb22).below hb23)
          rw [M1.out] at KR
          rw [M1.out, M2.out, M3.out]
          go_wp2_with fail
          refine (likeBins_same La yr _ w23 KR.out (((((((K16Va.out.below hb17).below hb18).below hb19).below hb20).below hb21).below hb22).below hb23) Na).mono ?_
          rintro e w24 ⟨rfl, hb24⟩
          have b24 := b23.trans (hb24.mono b23.size)
          go_wp2_with fail
          refine (implIsStock_any w24 _ yai ((((((((K16Yai.out.below hb17).below hb18).below hb19).below hb20).below hb21).below hb22).below hb23).below hb24) (reserve_fit Fa.out) (reserve_len La sa qa)).mono ?_
          rintro e w25 ⟨rfl, hb25⟩
          have b25 := b24.trans (hb25.mono b24.size)
          rw [M4.out]
          go_wp2
          go_ret
          exact ⟨rfl, b25⟩
        · skip
          have u3 : ((reserve La sa qa).2 == 0) = false := by simpa using h3
          clear h3
          go_wp2
          go_ret
          exact ⟨rfl, b20⟩
      · skip
        have u2 : ((fillBin Ld sd qd).2 == 0) = false := by simpa using h2
        clear h2
        by_cases h3 : (reserve La sa qa).2 = 0
        · skip
          obtain ⟨m1, m2, m3, m4, m5, m6, m7, m8⟩ := reserve_back h3
          have W3 := IntWalk.i64_in ((freePieces La sa).1 - qa) (by omega)
          have M1 := Lib.hid m1
          have M2 := Lib.hid m2
          have M3 := Lib.hid m3
          have M4 := Lib.hid m4
          clear m1 m2 m3 m4 m5 m6 m7 m8
          rw [h3]
          clear h3
          go_wp2_with fail
          refine (implReleasePieces_any w18 _ yai sa qa ((K16Yai.out.below hb17).below hb18) (reserve_fit Fa.out) (reserve_len La sa qa) Sa.out).mono ?_
          rintro e w19 ⟨yr, rfl, hor, hb19⟩
          have b19 := b18.trans (hb19.mono b18.size)
          have YR := Lib.hid (Sl.of_own hor)
          clear hor
          go_wp2_with fail
          refine (implUsePieces_any w19 _ yai sa qa (((K16Yai.out.below hb17).below hb18).below hb19) (reserve_fit Fa.out) (reserve_len La sa qa) Sa.out).mono ?_
          rintro e w20 ⟨yu, rfl, hou, hb20⟩
          have b20 := b19.trans (hb20.mono b19.size)
          have YU := Lib.hid (Sl.of_own hou)
          clear hou
          go_wp2_with fail
          refine (implFreePieces_any w20 _ yu sa YU.out (use_fit (reserve_fit Fa.out)) (usePieces_len _ sa qa) Sa.out).mono ?_
          rintro e w21 ⟨rfl, hb21⟩
          have b21 := b20.trans (hb21.mono b20.size)
          have KR := Lib.hid ((YR.out.below hb20).below hb21)
          rw [M1.out] at KR
          rw [M1.out, M2.out, M3.out]
          go_wp2_with fail
          refine (likeBins_same La yr _ w21 KR.out (((((K16Va.out.below hb17).below hb18).below hb19).below hb20).below hb21) Na).mono ?_
          rintro e w22 ⟨rfl, hb22⟩
          have b22 := b21.trans (hb22.mono b21.size)
          go_wp2_with fail
          refine (implIsStock_any w22 _ yai ((((((K16Yai.out.below hb17).below hb18).below hb19).below hb20).below hb21).below hb22) (reserve_fit Fa.out) (reserve_len La sa qa)).mono ?_
          rintro e w23 ⟨rfl, hb23⟩
          have b23 := b22.trans (hb23.mono b22.size)
          rw [M4.out]
          go_wp2
          go_ret
          exact ⟨rfl, b23⟩
        · skip
          have u3 : ((reserve La sa qa).2 == 0) = false := by simpa using h3
          clear h3
          go_wp2
          go_ret
          exact ⟨rfl, b18⟩
    · skip
      have u1 : ((release Lb sb qb).2 == 0) = false := by simpa using h1
      clear h1
      by_cases h2 : (fillBin Ld sd qd).2 = 0
      · skip
        obtain ⟨m1, m2, m3, m4, m5, m6⟩ := fill_more h2
        have W2 := IntWalk.i64_in ((freePieces Ld sd).1 + qd) (by omega)
        have M1 := Lib.hid m1
        have M2 := Lib.hid m2
        clear m1 m2 m3 m4 m5 m6
        rw [h2]
        clear h2
        go_wp2_with fail
        refine (implFreePieces_any w16 _ ydi sd K16Ydi.out (fill_fit Fd.out) (fillBin_len Ld sd qd) Sd.out).mono ?_
        rintro e w17 ⟨rfl, hb17⟩
        have b17 := b16.trans (hb17.mono b16.size)
        go_wp2_with fail
        refine (implFreePieces_any w17 Ld _ sd (K16Vd.out.below hb17) Fd.out Nd Sd.out).mono ?_
        rintro e w18 ⟨rfl, hb18⟩
        have b18 := b17.trans (hb18.mono b17.size)
        rw [M1.out, M2.out]
        by_cases h3 : (reserve La sa qa).2 = 0
        · skip
          obtain ⟨m1, m2, m3, m4, m5, m6, m7, m8⟩ := reserve_back h3
          have W3 := IntWalk.i64_in ((freePieces La sa).1 - qa) (by omega)
          have M1 := Lib.hid m1
          have M2 := Lib.hid m2
          have M3 := Lib.hid m3
          have M4 := Lib.hid m4
          clear m1 m2 m3 m4 m5 m6 m7 m8
          rw [h3]
          clear h3
          go_wp2_with fail
          refine (implReleasePieces_any w18 _ yai sa qa ((K16Yai.out.below hb17).below hb18) (reserve_fit Fa.out) (reserve_len La sa qa) Sa.out).mono ?_
          rintro e w19 ⟨yr, rfl, hor, hb19⟩
          have b19 := b18.trans (hb19.mono b18.size)
          have YR := Lib.hid (Sl.of_own hor)
          clear hor
          go_wp2_with fail
          refine (implUsePieces_any w19 _ yai sa qa (((K16Yai.out.below hb17).below hb18).below hb19) (reserve_fit Fa.out) (reserve_len La sa qa) Sa.out).mono ?_
          rintro e w20 ⟨yu, rfl, hou, hb20⟩
          have b20 := b19.trans (hb20.mono b19.size)
          have YU := Lib.hid (Sl.of_own hou)
          clear hou
          go_wp2_with fail
          refine (implFreePieces_any w20 _ yu sa YU.out (use_fit (reserve_fit Fa.out)) (usePieces_len _ sa qa) Sa.out).mono ?_
          rintro e w21 ⟨rfl, hb21⟩
          have b21 := b20.trans (hb21.mono b20.size)
          have KR := Lib.hid ((YR.out.below hb20).below hb21)
          rw [M1.out] at KR
          rw [M1.out, M2.out, M3.out]
          go_wp2_with fail
          refine (likeBins_same La yr _ w21 KR.out (((((K16Va.out.below hb17).below hb18).below hb19).below hb20).below hb21) Na).mono ?_
          rintro e w22 ⟨rfl, hb22⟩
          have b22 := b21.trans (hb22.mono b21.size)
          go_wp2_with fail
          refine (implIsStock_any w22 _ yai ((((((K16Yai.out.below hb17).below hb18).below hb19).below hb20).below hb21).below hb22) (reserve_fit Fa.out) (reserve_len La sa qa)).mono ?_
          rintro e w23 ⟨rfl, hb23⟩
          have b23 := b22.trans (hb23.mono b22.size)
          rw [M4.out]
          go_wp2
          go_ret
          exact ⟨rfl, b23⟩
        · skip
          have u3 : ((reserve La sa qa).2 == 0) = false := by simpa using h3
          clear h3
          go_wp2
          go_ret
          exact ⟨rfl, b18⟩
      · skip
        have u2 : ((fillBin Ld sd qd).2 == 0) = false := by simpa using h2
        clear h2
        by_cases h3 : (reserve La sa qa).2 = 0
        · skip
          obtain ⟨m1, m2, m3, m4, m5, m6, m7, m8⟩ := reserve_back h3
          have W3 := IntWalk.i64_in ((freePieces La sa).1 - qa) (by omega)
          have M1 := Lib.hid m1
          have M2 := Lib.hid m2
          have M3 := Lib.hid m3
          have M4 := Lib.hid m4
          clear m1 m2 m3 m4 m5 m6 m7 m8
          rw [h3]
          clear h3
          go_wp2_with fail
          refine (implReleasePieces_any w16 _ yai sa qa K16Yai.out (reserve_fit Fa.out) (reserve_len La sa qa) Sa.out).mono ?_
          rintro e w17 ⟨yr, rfl, hor, hb17⟩
          have b17 := b16.trans (hb17.mono b16.size)
          have YR := Lib.hid (Sl.of_own hor)
          clear hor
          go_wp2_with fail
          refine (implUsePieces_any w17 _ yai sa qa (K16Yai.out.below hb17) (reserve_fit Fa.out) (reserve_len La sa qa) Sa.out).mono ?_
          rintro e w18 ⟨yu, rfl, hou, hb18⟩
          have b18 := b17.trans (hb18.mono b17.size)
          have YU := Lib.hid (Sl.of_own hou)
          clear hou
          go_wp2_with fail
          refine (implFreePieces_any w18 _ yu sa YU.out (use_fit (reserve_fit Fa.out)) (usePieces_len _ sa qa) Sa.out).mono ?_
          rintro e w19 ⟨rfl, hb19⟩
          have b19 := b18.trans (hb19.mono b18.size)
          have KR := Lib.hid ((YR.out.below hb18).below hb19)
          rw [M1.out] at KR
          rw [M1.out, M2.out, M3.out]
          go_wp2_with fail
          refine (likeBins_same La yr _ w19 KR.out (((K16Va.out.below hb17).below hb18).below hb19) Na).mono ?_
          rintro e w20 ⟨rfl, hb20⟩
          have b20 := b19.trans (hb20.mono b19.size)
          go_wp2_with fail
          refine (implIsStock_any w20 _ yai ((((K16Yai.out.below hb17).below hb18).below hb19).below hb20) (reserve_fit Fa.out) (reserve_len La sa qa)).mono ?_
          rintro e w21 ⟨rfl, hb21⟩
          have b21 := b20.trans (hb21.mono b20.size)
          rw [M4.out]
          go_wp2
          go_ret
          exact ⟨rfl, b21⟩
        · skip
          have u3 : ((reserve La sa qa).2 == 0) = false := by simpa using h3
          clear h3
          go_wp2
          go_ret
          exact ⟨rfl, b16⟩

namespace GreatReserved
set_option maxRecDepth 100000 in
theorem lifted (os : Os) (started : os.Started) (H : Type) (enc : TypeId × Value → H) :
    ReturnsInHanded {} Try.checked os 13 .any (Rows.fnReservedSpec.pre6 enc Try.prog Try.f13 Rows.fnReservedRow.domain false) (Rows.fnReservedSpec.post enc Try.prog Try.f13 false true false false) := by
  refine returnsInHanded_of_change (C := Try.checked) Try.own started (by kernel_rfl) Try.func13
    (ChangeSpec.witness6 (enc := enc) (C := Try.checked) false ⟨#[], #[.slice none 0 0], []⟩ 8 (by kernel_rfl) (by kernel_rfl) (by kernel_rfl) (by kernel_rfl)) ?_
  intro W base args ds gs before hval0 hW hcnd _
  have hval : ∀ (j : Nat) t v, Try.f13.params[j]? = some t → args[j]? = some v → Value.okWide Try.prog W .any base t v := hval0
  have hW' := hW
  obtain ⟨p, q, hA0, hV, rfl, hfz, hnd⟩ := hW
  have hA : DataW.TrodAll enc Try.prog W 0 (fun _ => true) true Try.f13.params.toList args.toList ds p := hA0
  rw [Try.params13] at hA hval
  obtain ⟨v0, vs0, d0, ds0, p0, q0, hargs, rfl, rfl, h0, r0⟩ := trodAll_cons hA
  obtain ⟨rfl, rfl, rfl⟩ := trodAll_nil r0
  obtain rfl : args = #[v0] := by cases args; simp_all
  obtain ⟨rfl, rfl⟩ := trodVars_none hV
  have lt0 : ∀ x ∈ p0, x.block < W.heap.size := by obtain ⟨m, hm⟩ := h0; exact DataW.trod_lt m _ _ _ hm
  obtain ⟨A0, n0, c0, ev0, hcode0, hc0⟩ := open_code (hval 0 _ v0 rfl rfl) h0
  subst ev0
  clear hA0 hval0
  refine (lawReserved_walk W A0 n0 c0 hcode0 hc0).mono fun e W' ⟨he, bel⟩ => ?_
  subst he
  exact ⟨_, rfl, _, _, _, [], _, [], hW', trodAll_mk1 (shut_bool Try.underlying4 _), (trodAll_cons_mk (Below.trod Try.laidOut (by kernel_rfl) (of_decide_eq_true (by kernel_rfl)) h0 bel lt0) trodAll_mk0), rfl, bel.frame _, fun h => by cases h⟩

theorem proved : Rows.FnReservedSaid :=
  OpenClaim.holds_of_wide 13 Try.f13 rfl rfl rfl rfl rfl rfl rfl ⟨rfl, rfl, rfl, rfl, rfl⟩ rfl rfl rfl rfl rfl (by kernel_rfl) Try.func13 (by kernel_rfl)
    (of_decide_eq_true (by kernel_rfl)) (by unfold Func.isWrapper; first | (rw [if_pos (by decide +kernel)]; kernel_rfl) | (rw [if_neg (by decide +kernel)]; exact ⟨rfl, rfl⟩))
    (fun os started H enc _ => lifted os started H enc)
#print axioms proved
end GreatReserved

end Go.Proofs.Ytngphnfbfednnaa
