/- FnOrders, for every input: an order keeps what comes after what, and the smallest one is one. Its conditions: none. -/
import Derived.Test.YtecfkomijaakhaaOrN
import Derived.Test.YtecfkomijaakhaaDrawRS
import Derived.Test.YtecfkomijaakhaaGreat
import Derived.Test.YtecfkomijaakhaaRecG
import Derived.Test.YtecfkomijaakhaaRecL
import Derived.Test.YtecfkomijaakhaaRecN
import Derived.Test.YtecfkomijaakhaaRecI
import Derived.Deep.DeepCutAuto
import Derived.Deep.CutBlock
namespace Go.Proofs.Ytecfkomijaakhaa
open Go.ChangeShapes Go.WideShapes Go.ChangeAt Go.RowKit Go.Deep

set_option maxHeartbeats 16000000 in
set_option maxRecDepth 100000 in
theorem lawOrders_walk (w : World) (A : Option Addr) (n c : Nat) (hcode : Code w A n) (hc : n ≤ c ∧ c ≤ maxLen) :
    Calls Try.prog 13 #[.slice A n c] w fun e w' => e = .returned (.bool true) ∧ Below w.heap.size w w' := by
  by_cases hbig : 4096 < (n : Int)
  · have t0 : decide (4096 < (n : Int)) = true := by simpa using hbig
    go_enter Try.func13, Try.ntmps13
    go_wp2_with fail
    refine (big_any w A n c hc.1 hc.2).mono ?_
    rintro e w1 ⟨rfl, rfl⟩
    rw [t0]
    go_wp2
    go_ret
    exact ⟨rfl, Below.refl _ _⟩
  · have t0 : decide (4096 < (n : Int)) = false := by simpa using hbig
    have hn : n ≤ 4096 := by omega
    have Hcode := Lib.hid hcode
    have Hc := Lib.hid hc
    clear hcode hc hbig
    go_enter Try.func13, Try.ntmps13
    go_wp2_with fail
    refine (big_any w A n c Hc.out.1 Hc.out.2).mono ?_
    rintro e w1 ⟨rfl, rfl⟩
    rw [t0]
    clear t0
    go_wp2_with fail
    refine (drawOrder_any w A n c Hcode.out hn Hc.out).mono ?_
    rintro e w1 ⟨L, V, P, u, rfl, hO, hL, ho, hP, hb1⟩
    have b1 := hb1
    have SL := Lib.hid hO
    obtain ⟨ASL, cSL, rfl, _, hcSL, _⟩ := hO
    unfold maxLen at hcSL
    have hLn : L.length ≤ 1048576 := by omega
    have U := Lib.hid (Sl.of_own ho)
    have NP : P.length ≤ 4194304 := by omega
    clear ho
    go_wp2_with fail
    refine (implIsOrder_any w1 L _ P _ SL.out hLn U.out NP).mono ?_
    rintro e w2 ⟨rfl, hb2⟩
    have b2 := b1.trans (hb2.mono b1.size)
    go_wp2_with fail
    refine (specIsOrder_any w2 L _ P _ (SL.out.below hb2) hLn (U.out.below hb2) NP).mono ?_
    rintro e w3 ⟨rfl, hb3⟩
    have b3 := b2.trans (hb3.mono b2.size)
    go_wp2_with fail
    refine (implFirstOrder_any w3 L _ ((SL.out.below hb2).below hb3) hLn).mono ?_
    rintro e w4 ⟨yfi, rfl, ho, hb4⟩
    have b4 := b3.trans (hb4.mono b3.size)
    obtain ⟨Afi, cfi, rfl, _, _⟩ := own_slice ho
    have Yfi := Lib.hid (Sl.of_own ho)
    clear ho
    go_wp2_with fail
    refine (specFirstOrder_any w4 L _ (((SL.out.below hb2).below hb3).below hb4) hLn).mono ?_
    rintro e w5 ⟨yfs, rfl, ho, hb5⟩
    have b5 := b4.trans (hb5.mono b4.size)
    obtain ⟨Afs, cfs, rfl, _, _⟩ := own_slice ho
    have Yfs := Lib.hid (Sl.of_own ho)
    clear ho
    go_wp2_with fail
    refine (implCountOrders_any w5 L _ ((((SL.out.below hb2).below hb3).below hb4).below hb5) hLn).mono ?_
    rintro e w6 ⟨rfl, hb6⟩
    have b6 := b5.trans (hb6.mono b5.size)
    go_wp2_with fail
    refine (specCountOrders_any w6 L _ (((((SL.out.below hb2).below hb3).below hb4).below hb5).below hb6) hLn).mono ?_
    rintro e w7 ⟨rfl, hb7⟩
    have b7 := b6.trans (hb7.mono b6.size)
    go_wp2_with fail
    refine (drawRemain_any w7 A n c (code_below (code_below (code_below (code_below (code_below (code_below (code_below Hcode.out hb1) hb2) hb3) hb4) hb5) hb6) hb7) hn Hc.out).mono ?_
    rintro e w8 ⟨X, XV, D, d, rfl, hO, hXL, ho, hD, hb8⟩
    have b8 := b7.trans (hb8.mono b7.size)
    have SX := Lib.hid hO
    obtain ⟨ASX, cSX, rfl, _, hcSX, _⟩ := hO
    unfold maxLen at hcSX
    have hXn : X.length ≤ 1048576 := by omega
    obtain ⟨Ad, cd, rfl, _, _⟩ := own_slice ho
    have UD := Lib.hid (Sl.of_own ho)
    have ND : D.length ≤ 4194304 := by omega
    clear ho
    go_wp2_with fail
    refine (implRemainingMinutes_any w8 X _ D _ SX.out hXn UD.out ND).mono ?_
    rintro e w9 ⟨rfl, hb9⟩
    have b9 := b8.trans (hb9.mono b8.size)
    go_wp2_with fail
    refine (specRemainingMinutes_any w9 X _ D _ (SX.out.below hb9) hXn (UD.out.below hb9) ND).mono ?_
    rintro e w10 ⟨rfl, hb10⟩
    have b10 := b9.trans (hb10.mono b9.size)
    go_wp2_with fail
    refine (likeInts_same _ _ _ w10 ((((((Yfi.out.below hb5).below hb6).below hb7).below hb8).below hb9).below hb10) (((((Yfs.out.below hb6).below hb7).below hb8).below hb9).below hb10) (firstOrderF_len L)).mono ?_
    rintro e w11 ⟨rfl, hb11⟩
    have b11 := b10.trans (hb11.mono b10.size)
    have e1 : (firstOrderF L).2 = (isOrderF L P).2 := by unfold firstOrderF isOrderF; split <;> rfl
    have e2 : (countF L).2 = (isOrderF L P).2 := by unfold countF isOrderF; split <;> rfl
    rw [e1, e2]
    have e3 : isRecipe L = ((isOrderF L P).2 == 0) := by unfold isOrderF; cases isRecipe L <;> simp
    obtain ⟨bc, hbc⟩ : ∃ bc, bc = (isOrderF L P).2 := ⟨_, rfl⟩
    rw [← hbc] at e3 ⊢
    have E3 := Lib.hid e3
    clear e1 e2 e3 hbc
    go_wp2_with fail
    refine (implIsRecipe_any w11 L _ ((((((((((SL.out.below hb2).below hb3).below hb4).below hb5).below hb6).below hb7).below hb8).below hb9).below hb10).below hb11) hLn).mono ?_
    rintro e w12 ⟨rfl, hb12⟩
    have b12 := b11.trans (hb12.mono b11.size)
    rw [E3.out]
    have K12SL := Lib.hid (((((((((((SL.out.below hb2).below hb3).below hb4).below hb5).below hb6).below hb7).below hb8).below hb9).below hb10).below hb11).below hb12)
    have K12SX := Lib.hid ((((SX.out.below hb9).below hb10).below hb11).below hb12)
    have K12UD := Lib.hid ((((UD.out.below hb9).below hb10).below hb11).below hb12)
    have K12Yfi := Lib.hid ((((((((Yfi.out.below hb5).below hb6).below hb7).below hb8).below hb9).below hb10).below hb11).below hb12)
    have K12Yfs := Lib.hid (((((((Yfs.out.below hb6).below hb7).below hb8).below hb9).below hb10).below hb11).below hb12)
    clear hn Hcode Hc
    go_upto_if 145 with (fail)
    go_cut [] from 23 (fun wx => Below w12.heap.size w12 wx)
    case first =>
      as_aux_lemma =>
        by_cases h5 : (remF X D).2 = 0
        · skip
          obtain ⟨hr, hp, ha, hrb⟩ := rem_law h5
          have H5 := Lib.hid h5
          have HR := Lib.hid hr
          have HPP := Lib.hid hp
          have HA := Lib.hid ha
          have HTB := Lib.hid (totK_bd hr hp hrb)
          clear hr hp ha
          rw [h5]
          clear h5
          go_wp2_with fail
          refine (implRemainingMinutes_any w12 X _ [] (.slice none 0 0) K12SX.out hXn Sl.nil (by simp)).mono ?_
          rintro e w13 ⟨rfl, hb13⟩
          have b13 := b12.trans (hb13.mono b12.size)
          rw [HA.out]
          obtain ⟨r0, hr0⟩ : ∃ r0, r0 = (remF X D).1 := ⟨_, rfl⟩
          rw [← hr0] at HTB hrb ⊢
          have HR0 := Lib.hid hr0
          clear hr0
          go_wp2
          go_loopw [25, 26] (fun s i wr => ∃ k : Nat, i = .int .i64 k ∧ k ≤ D.length ∧ s = .int .i64 (totK X D r0 k) ∧ Below w13.heap.size w13 wr) (fun _ i _ => D.length - (intOf i).toNat)
          case atStart => exact ⟨0, rfl, Nat.zero_le _, rfl, Below.refl _ _⟩
          case round =>
            obtain ⟨k, rfl, hk, rfl, hb⟩ := hrel
            have Hb := Lib.hid hb
            clear hb
            by_cases hlt : k < D.length
            · skip
              obtain ⟨b, hbe, hbn, _⟩ := HPP.out.at_ hlt
              have ht0 := HTB.out k hk
              have ht1 := HTB.out (k + 1) (by omega)
              have HT := Lib.hid (show totK X D r0 (k + 1) = totK X D r0 k + (stepAt X b).minutes by rw [totK, hbe]; rfl)
              rw [HT.out] at ht1
              obtain ⟨gd, od, rfl, hgd, d0⟩ := (Sl.rd (((K12UD.out.below hb13)).below Hb.out)).ints hlt
              rw [hbe] at d0
              obtain ⟨_, _, eA, _, _, hst⟩ := ((K12SX.out.below hb13)).below Hb.out
              injection eA with eA1 eA2 eA3
              subst eA1
              subst eA3
              obtain ⟨gx, ox, rfl, hgx, s0, s1, _⟩ := hst.at hbn
              clear s1 hst
              have i0 : (0 : Int) ≤ (k : Int) := Int.natCast_nonneg _
              have i1 : (k : Int) < (D.length : Int) := by omega
              have i2 : (0 : Int) ≤ (b : Int) := Int.natCast_nonneg _
              have i3 : (b : Int) < (X.length : Int) := by omega
              obtain ⟨tk, htk⟩ : ∃ tk, tk = totK X D r0 k := ⟨_, rfl⟩
              rw [← htk] at ht0 ht1 HT ⊢
              clear htk hbe
              have x1 := IntWalk.i64_in (tk + (stepAt X b).minutes) (by omega)
              go_wp2
              go_roundw
              case rel => exact ⟨k + 1, by go_num, by omega, by rw [HT.out], Hb.out⟩
              case measure => simp [intOf]; omega
            · skip
              have hke : k = D.length := by omega
              subst hke
              have HB9 := Lib.hid (hb13.trans (Hb.out.mono hb13.size))
              go_wp2
              refine Met.intro ?_
              go_step
              (repeat apply Exists.intro)
              refine ⟨?rel, by rw [H5.out, HR0.out]⟩
              case rel => exact HB9.out
        · skip
          have u5 : ((remF X D).2 == 0) = false := by simpa using h5
          clear h5
          go_wp2
          go_meet
          exact Below.refl _ _
    case rest =>
      as_aux_lemma =>
        have hb13 : Below w12.heap.size w12 wc := hcut
        have b13 := b12.trans (hb13.mono b12.size)
        clear hcut
        by_cases h0 : bc = 0
        · skip
          subst h0
          have hr : isRecipe L = true := by rw [E3.out]; rfl
          have HRL := Lib.hid hr
          obtain ⟨h9, hok, hfl⟩ := isRecipe_iff.1 hr
          have ef : (firstOrderF L).1 = firstOrd L := by simp [firstOrderF, hr]
          have HIO := Lib.hid (show isOrderF L (firstOrd L) = (true, 0) by simp [isOrderF, hr, first_ok hr])
          have hcp := count_pos hr
          have ZF := Lib.hid ((K12Yfi.out.below hb13))
          have ZG := Lib.hid ((K12Yfs.out.below hb13))
          rw [ef] at ZF ZG
          rw [ef]
          have HFL := Lib.hid hfl
          clear ef hr hok hfl
          go_wp2_with fail
          refine (implIsOrder_any wc L _ (firstOrd L) _ (K12SL.out.below hb13) hLn ZF.out (by have := HFL.out; omega)).mono ?_
          rintro e w14 ⟨rfl, hb14⟩
          have b14 := b13.trans (hb14.mono b13.size)
          rw [HIO.out]
          obtain ⟨cn, hcn⟩ : ∃ cn, cn = (countF L).1 := ⟨_, rfl⟩
          rw [← hcn] at hcp ⊢
          clear hcn
          have u1 : decide (cn < 1) = false := by simp; omega
          obtain ⟨F, hF⟩ : ∃ F, F = firstOrd L := ⟨_, rfl⟩
          rw [← hF] at ZF ZG HFL ⊢
          have HFE := Lib.hid hF
          rw [HFL.out]
          rw [HFL.out] at ZF ZG
          clear hF
          obtain ⟨i0, hi, hz0, hz1, hz2⟩ := info_parts Try.info_ints
          go_wp2_with (at_make; refine wpList_make_full _ rfl _ _ 29 rfl w14.heap.size 2 i0 _ 1 Try.underlying29 hi hz0 hz1 _ _ _ _ L.length rfl rfl rfl rfl (by rw [hz2]; omega) (by unfold maxLen; omega) (Nat.le_refl _) ?_; intro wm hown hgr)
          have hbm := (Below.refl w14.heap.size w14).grown hgr (Nat.le_refl _) (fun _ h => by cases h)
          have HBM := Lib.hid hbm
          have hB0 : (madeCells (Value.int .i64 0).cells (L.length * 1)).toList = intsRow (placeK L 0) := by
            rw [Nat.mul_one]
            show (madeCells #[Value.int .i64 0] L.length).toList = _
            rw [toList_madeCells_one]; simp [intsRow, placeK]
          have Hown : Hid (wm.ownsRow w14.heap.size 2 1 (.slice (some ⟨w14.heap.size, 0, none⟩) L.length L.length) L.length (intsRow (placeK L 0))) := by rw [← hB0]; exact Lib.hid hown
          clear hown hB0 hgr hbm u1
          go_wp2
          go_loopw [30] (fun i wr => ∃ k : Nat, i = .int .i64 k ∧ k ≤ L.length ∧ wr.ownsRow w14.heap.size 2 1 (.slice (some ⟨w14.heap.size, 0, none⟩) L.length L.length) L.length (intsRow (placeK L k)) ∧ Below w14.heap.size w14 wr) (fun i _ => L.length - (intOf i).toNat)
          case atStart => exact ⟨0, rfl, Nat.zero_le _, Hown.out, HBM.out⟩
          case round =>
            clear Hown HBM
            obtain ⟨k, rfl, hk, ho, hb⟩ := hrel
            have Ho := Lib.hid ho
            have Hb := Lib.hid hb
            clear ho hb
            by_cases hlt : k < L.length
            · skip
              have hkF : k < F.length := by rw [HFL.out]; exact hlt
              obtain ⟨b, hbe, hbn⟩ : ∃ b : Nat, intsAt F k = b ∧ b < L.length := by rw [HFE.out]; exact (firstOrd_grown L).1.mem k (by rw [← HFE.out]; exact hkF)
              obtain ⟨gf, of, rfl, hgf, f0⟩ := (Sl.rd ((show Sl w14 1 _ F.length (intsRow F) by rw [HFL.out]; exact (ZG.out.below hb14)).below Hb.out)).ints (l := F) hkF
              rw [hbe] at f0
              have HPK := Lib.hid (show placeK L (k + 1) = (placeK L k).set b k by rw [placeK, ← HFE.out, hbe]; rfl)
              have fr := Ho.out.frozenAt b
              obtain ⟨cb, hcb⟩ := own_cell Ho.out (j := b) (by omega)
              have HS := Lib.hid (show (wr.setCell ⟨w14.heap.size, b, none⟩ (.int .i64 (k : Int))).ownsRow w14.heap.size 2 1 (.slice (some ⟨w14.heap.size, 0, none⟩) L.length L.length) L.length (intsRow (placeK L (k + 1))) by rw [HPK.out, ← intsRow_set]; exact (Ho.out.stored b _).1)
              have HB2 := Lib.hid (Hb.out.setCell (p := ⟨w14.heap.size, b, none⟩) (Nat.le_refl _) (.int .i64 (k : Int)))
              have i0 : (0 : Int) ≤ (k : Int) := Int.natCast_nonneg _
              have i1 : (k : Int) < (L.length : Int) := by omega
              have i2 : (0 : Int) ≤ (b : Int) := Int.natCast_nonneg _
              have i3 : (b : Int) < (L.length : Int) := by omega
              clear hbe
              go_wp2
              go_roundw
              case rel => exact ⟨k + 1, by go_num, by omega, HS.out, HB2.out⟩
              case measure => simp [intOf]; omega
            · skip
              have hke : k = L.length := by omega
              have hke : k = L.length := by omega
              subst hke
              obtain ⟨wp, rfl⟩ : ∃ wp : World, wp = wr := ⟨_, rfl⟩
              have HLAW := Lib.hid (fun i (hi : i < L.length) q hq => anc_law (L := L) HRL.out (i := i) (k := q) hi hq)
              have HANC := Lib.hid (fun i (hi : i < L.length) => show ancF L (i : Int) = (selBy (ancB L i) L.length, 0) from ancF_ok HRL.out (by simp [inR]; omega))
              go_wp2
              go_loopw [31] (fun i wr => ∃ k : Nat, i = .int .i64 k ∧ k ≤ L.length ∧ Below wp.heap.size wp wr) (fun i _ => L.length - (intOf i).toNat)
              case atStart => exact ⟨0, rfl, Nat.zero_le _, Below.refl _ _⟩
              case round =>
                obtain ⟨i, rfl, hik, hb⟩ := hrel
                have Hb2 := Lib.hid hb
                clear hb
                have hbp : Below w14.heap.size w14 wr := Hb.out.trans (Hb2.out.mono Hb.out.size)
                have HBP := Lib.hid hbp
                clear hbp
                obtain ⟨wi, rfl⟩ : ∃ wi : World, wi = wr := ⟨_, rfl⟩
                by_cases hil : i < L.length
                · skip
                  have hsp := HBP.out.size
                  have ea := HANC.out i hil
                  go_wp2_with fail
                  refine (implAllAfter_any wi L _ (i : Int) ((((K12SL.out.below hb13).below hb14)).below HBP.out) hLn).mono ?_
                  rintro e wa ⟨ya, rfl, hoa, hba⟩
                  rw [ea] at hoa
                  rw [ea]
                  obtain ⟨Aa, ca, rfl, _, _⟩ := own_slice hoa
                  have HOA := Lib.hid (Sl.of_own hoa)
                  have hsa := hba.size
                  have HBA := Lib.hid (HBP.out.trans (hba.mono hsp))
                  have HBa := Lib.hid hba
                  clear hoa hba
                  go_wp2_with fail
                  refine (specAllAfter_any wa L _ (i : Int) ((((K12SL.out.below hb13).below hb14)).below HBA.out) hLn).mono ?_
                  rintro e wd ⟨yd, rfl, hod, hbd⟩
                  rw [ea] at hod
                  rw [ea]
                  obtain ⟨Ae, ce, rfl, _, _⟩ := own_slice hod
                  have HOD := Lib.hid (Sl.of_own hod)
                  have HOA2 := Lib.hid (HOA.out.below hbd)
                  have hsd := hbd.size
                  have HBD := Lib.hid (HBA.out.trans (hbd.mono HBA.out.size))
                  have HBd := Lib.hid (HBa.out.trans (hbd.mono hsa))
                  clear hod hbd ea
                  obtain ⟨B, hB⟩ : ∃ B, B = selBy (ancB L i) L.length := ⟨_, rfl⟩
                  have hBl : B.length ≤ 4194304 := by rw [hB]; have := selBy_len (ancB L i) L.length; omega
                  have HLW := Lib.hid (fun q (hq : q < B.length) => show ∃ j : Nat, intsAt B q = j ∧ j < L.length ∧ intsAt (placeK L L.length) j < intsAt (placeK L L.length) i by rw [hB] at hq ⊢; exact HLAW.out i hil q hq)
                  rw [← hB] at HOA2 HOD ⊢
                  clear hB
                  go_wp2_with fail
                  refine (likeInts_same B _ _ wd HOA2.out HOD.out hBl).mono ?_
                  rintro e wq ⟨rfl, hbq⟩
                  have HOQ := Lib.hid (HOA2.out.below hbq)
                  have HBQ := Lib.hid (HBD.out.trans (hbq.mono HBD.out.size))
                  have HBq := Lib.hid (Hb2.out.trans ((HBd.out.trans (hbq.mono (Nat.le_trans hsa hsd))).mono Hb2.out.size))
                  clear hbq
                  go_wp2
                  go_loopw [36] (fun i wr => ∃ k : Nat, i = .int .i64 k ∧ k ≤ B.length ∧ Below wq.heap.size wq wr) (fun i _ => B.length - (intOf i).toNat)
                  case atStart => exact ⟨0, rfl, Nat.zero_le _, Below.refl _ _⟩
                  case round =>
                    obtain ⟨q, rfl, hqk, hb⟩ := hrel
                    have Hb3 := Lib.hid hb
                    clear hb
                    have HBW := Lib.hid (HBq.out.trans (Hb3.out.mono HBq.out.size))
                    by_cases hql : q < B.length
                    · skip
                      obtain ⟨j, hje, hjn, hjp⟩ := HLW.out q hql
                      obtain ⟨gb, ob, rfl, hgb, b0⟩ := (Sl.rd (HOQ.out.below Hb3.out)).ints (l := B) hql
                      rw [hje] at b0
                      have hor := own_below Ho.out HBW.out
                      have p0 := (hor.cellAt j (by omega)).trans (intsRow_at _ j (by rw [placeK_len]; exact hjn))
                      have p1 := (hor.cellAt i (by omega)).trans (intsRow_at _ i (by rw [placeK_len]; exact hil))
                      obtain ⟨pj, hpj⟩ : ∃ pj, pj = intsAt (placeK L L.length) j := ⟨_, rfl⟩
                      obtain ⟨pi, hpi⟩ : ∃ pi, pi = intsAt (placeK L L.length) i := ⟨_, rfl⟩
                      rw [← hpj] at p0 hjp
                      rw [← hpi] at p1 hjp
                      clear hpj hpi hje hor
                      have s1 : decide (pi ≤ pj) = false := by simp; omega
                      have i0 : (0 : Int) ≤ (q : Int) := Int.natCast_nonneg _
                      have i1 : (q : Int) < (B.length : Int) := by omega
                      have i2 : (0 : Int) ≤ (j : Int) := Int.natCast_nonneg _
                      have i3 : (j : Int) < (L.length : Int) := by omega
                      have i4 : (0 : Int) ≤ (i : Int) := Int.natCast_nonneg _
                      have i5 : (i : Int) < (L.length : Int) := by omega
                      go_wp2
                      refine wp_region_held_drew (S := (fun w' => w'.cell? ⟨gb, ob + q, none⟩ = some (.int .i64 (j : Int)) ∧ w'.cell? ⟨w14.heap.size, j, none⟩ = some (.int .i64 pj) ∧ w'.cell? ⟨w14.heap.size, i, none⟩ = some (.int .i64 pi))) (by kernel_rfl) ?_ (fun hHeld => ?_)
                      · (try dsimp only); first | (go_split_ands; exact ⟨by assumption, by assumption, by assumption⟩) | go_keep
                      refine wpAnyH_take (i := 0) (v := ?_) rfl (by kernel_rfl) (by kernel_rfl) (by kernel_rfl) (fun _ _ _ h => h) (Or.inl ⟨by rfl, ?_⟩) (by assumption) ?_
                      rotate_left
                      · (intro w hSw; (try dsimp only at hSw); go_simp) <;> with_reducible rfl
                      try simp only [Act.put, List.setIfInBounds_toArray, List.set_cons_zero, List.set_cons_succ, List.getElem_toArray, List.getElem_cons_succ, List.getElem_cons_zero]
                      refine wpAnyH_take (i := 1) (v := ?_) rfl (by kernel_rfl) (by kernel_rfl) (by kernel_rfl) (fun _ _ _ h => h) (Or.inl ⟨by rfl, ?_⟩) (by assumption) ?_
                      rotate_left
                      · (intro w hSw; (try dsimp only at hSw); go_simp) <;> with_reducible rfl
                      try simp only [Act.put, List.setIfInBounds_toArray, List.set_cons_zero, List.set_cons_succ, List.getElem_toArray, List.getElem_cons_succ, List.getElem_cons_zero]
                      refine wpAnyH_take (i := 2) (v := ?_) rfl (by kernel_rfl) (by kernel_rfl) (by kernel_rfl) (fun _ _ _ h => h) (Or.inl ⟨by rfl, ?_⟩) (by assumption) ?_
                      rotate_left
                      · (intro w hSw; (try dsimp only at hSw); go_simp) <;> with_reducible rfl
                      try simp only [Act.put, List.setIfInBounds_toArray, List.set_cons_zero, List.set_cons_succ, List.getElem_toArray, List.getElem_cons_succ, List.getElem_cons_zero]
                      refine wpAnyH_take (i := 3) (v := ?_) rfl (by kernel_rfl) (by kernel_rfl) (by kernel_rfl) (fun _ _ _ h => h) (Or.inl ⟨by rfl, ?_⟩) (by assumption) ?_
                      rotate_left
                      · (intro w hSw; (try dsimp only at hSw); go_simp) <;> with_reducible rfl
                      try simp only [Act.put, List.setIfInBounds_toArray, List.set_cons_zero, List.set_cons_succ, List.getElem_toArray, List.getElem_cons_succ, List.getElem_cons_zero]
                      refine wpAnyH_take (i := 4) (v := ?_) rfl (by kernel_rfl) (by kernel_rfl) (by kernel_rfl) (fun _ _ _ h => h) (Or.inl ⟨by rfl, ?_⟩) (by assumption) ?_
                      rotate_left
                      · (intro w hSw; (try dsimp only at hSw); go_simp) <;> with_reducible rfl
                      try simp only [Act.put, List.setIfInBounds_toArray, List.set_cons_zero, List.set_cons_succ, List.getElem_toArray, List.getElem_cons_succ, List.getElem_cons_zero]
                      refine wpAnyH_take (i := 5) (v := ?_) rfl (by kernel_rfl) (by kernel_rfl) (by kernel_rfl) (fun _ _ _ h => h) (Or.inl ⟨by rfl, ?_⟩) (by assumption) ?_
                      rotate_left
                      · (intro w hSw; (try dsimp only at hSw); go_simp) <;> with_reducible rfl
                      try simp only [Act.put, List.setIfInBounds_toArray, List.set_cons_zero, List.set_cons_succ, List.getElem_toArray, List.getElem_cons_succ, List.getElem_cons_zero]
                      refine wpAnyH_take (i := 6) (v := ?_) rfl (by kernel_rfl) (by kernel_rfl) (by kernel_rfl) (fun _ _ _ h => h) (Or.inl ⟨by rfl, ?_⟩) (by assumption) ?_
                      rotate_left
                      · (intro w hSw; (try dsimp only at hSw); go_simp) <;> with_reducible rfl
                      try simp only [Act.put, List.setIfInBounds_toArray, List.set_cons_zero, List.set_cons_succ, List.getElem_toArray, List.getElem_cons_succ, List.getElem_cons_zero]
                      refine wpAnyH_take (i := 7) (v := ?_) rfl (by kernel_rfl) (by kernel_rfl) (by kernel_rfl) (fun _ _ _ h => h) (Or.inl ⟨by rfl, ?_⟩) (by assumption) ?_
                      rotate_left
                      · (intro w hSw; (try dsimp only at hSw); go_simp) <;> with_reducible rfl
                      try simp only [Act.put, List.setIfInBounds_toArray, List.set_cons_zero, List.set_cons_succ, List.getElem_toArray, List.getElem_cons_succ, List.getElem_cons_zero]
                      refine wpAnyH_take (i := 8) (v := ?_) rfl (by kernel_rfl) (by kernel_rfl) (by kernel_rfl) (fun _ _ _ h => h) (Or.inl ⟨by rfl, ?_⟩) (by assumption) ?_
                      rotate_left
                      · (intro w hSw; (try dsimp only at hSw); go_simp) <;> with_reducible rfl
                      try simp only [Act.put, List.setIfInBounds_toArray, List.set_cons_zero, List.set_cons_succ, List.getElem_toArray, List.getElem_cons_succ, List.getElem_cons_zero]
                      refine wpAnyH_take (i := 9) (v := ?_) rfl (by kernel_rfl) (by kernel_rfl) (by kernel_rfl) (fun _ _ _ h => h) (Or.inl ⟨by rfl, ?_⟩) (by assumption) ?_
                      rotate_left
                      · (intro w hSw; (try dsimp only at hSw); go_simp) <;> with_reducible rfl
                      try simp only [Act.put, List.setIfInBounds_toArray, List.set_cons_zero, List.set_cons_succ, List.getElem_toArray, List.getElem_cons_succ, List.getElem_cons_zero]
                      refine wpAnyH_take (i := 10) (v := ?_) rfl (by kernel_rfl) (by kernel_rfl) (by kernel_rfl) (fun _ _ _ h => h) (Or.inl ⟨by rfl, ?_⟩) (by assumption) ?_
                      rotate_left
                      · (intro w hSw; (try dsimp only at hSw); go_simp) <;> with_reducible rfl
                      try simp only [Act.put, List.setIfInBounds_toArray, List.set_cons_zero, List.set_cons_succ, List.getElem_toArray, List.getElem_cons_succ, List.getElem_cons_zero]
                      refine wpAnyH_take (i := 11) (v := ?_) rfl (by kernel_rfl) (by kernel_rfl) (by kernel_rfl) (fun _ _ _ h => h) (Or.inl ⟨by rfl, ?_⟩) (by assumption) ?_
                      rotate_left
                      · (intro w hSw; (try dsimp only at hSw); go_simp) <;> with_reducible rfl
                      try simp only [Act.put, List.setIfInBounds_toArray, List.set_cons_zero, List.set_cons_succ, List.getElem_toArray, List.getElem_cons_succ, List.getElem_cons_zero]
                      refine wpAnyH_done (by kernel_rfl) ?_ _
                      have Hb4 := Lib.hid (Hb3.out.drew)
                      go_wp2
                      go_roundw
                      case rel => exact ⟨q + 1, by go_num, by omega, Hb4.out⟩
                      case measure => simp [intOf]; omega
                    · skip
                      go_wp2
                      go_roundw
                      case rel => exact ⟨i + 1, by go_num, by omega, HBW.out⟩
                      case measure => simp [intOf]; omega
                · skip
                  have b9 := b14.trans (HBP.out.mono b14.size)
                  go_wp2
                  go_ret
                  exact ⟨rfl, b9⟩
        · skip
          have u0 : (bc != 0) = true := by simpa using h0
          clear h0
          go_wp2
          go_ret
          exact ⟨rfl, b13⟩

namespace GreatOrders
set_option maxRecDepth 100000 in
theorem lifted (os : Os) (started : os.Started) (H : Type) (enc : TypeId × Value → H) :
    ReturnsInHanded {} Try.checked os 13 .any (Rows.fnOrdersSpec.pre6 enc Try.prog Try.f13 Rows.fnOrdersRow.domain false) (Rows.fnOrdersSpec.post enc Try.prog Try.f13 false true false false) := by
  refine returnsInHanded_of_change (C := Try.checked) Try.own started (by kernel_rfl) Try.func13
    (ChangeSpec.witness6 (enc := enc) (C := Try.checked) false ⟨#[], #[.slice none 0 0], []⟩ 8 (by kernel_rfl) (by kernel_rfl) (by kernel_rfl) (by kernel_rfl)) ?_
  intro W base args ds gs before hval0 hW hcnd _
  have hval : ∀ (j : Nat) t v, Try.f13.params[j]? = some t → args[j]? = some v → Value.okWide Try.prog W .any base t v := hval0
  have hW' := hW
  obtain ⟨p, q, hA0, hV, rfl, hfz, hnd⟩ := hW
  have hA : DataW.TrodAll enc Try.prog W 0 (fun _ => true) true Try.f13.params.toList args.toList ds p := hA0
  rw [Try.params13] at hA hval
  obtain ⟨v0, vs0, d0, ds0, p0, q0, hargs, rfl, rfl, h0, r0⟩ := trodAll_cons hA
  obtain ⟨rfl, rfl, rfl⟩ := trodAll_nil r0
  obtain rfl : args = #[v0] := by cases args; simp_all
  obtain ⟨rfl, rfl⟩ := trodVars_none hV
  have lt0 : ∀ x ∈ p0, x.block < W.heap.size := by obtain ⟨m, hm⟩ := h0; exact DataW.trod_lt m _ _ _ hm
  obtain ⟨A0, n0, c0, ev0, hcode0, hc0⟩ := open_code (hval 0 _ v0 rfl rfl) h0
  subst ev0
  clear hA0 hval0
  refine (lawOrders_walk W A0 n0 c0 hcode0 hc0).mono fun e W' ⟨he, bel⟩ => ?_
  subst he
  exact ⟨_, rfl, _, _, _, [], _, [], hW', trodAll_mk1 (shut_bool Try.underlying4 _), (trodAll_cons_mk (Below.trod Try.laidOut (by kernel_rfl) (of_decide_eq_true (by kernel_rfl)) h0 bel lt0) trodAll_mk0), rfl, bel.frame _, fun h => by cases h⟩

theorem proved : Rows.FnOrdersSaid :=
  OpenClaim.holds_of_wide 13 Try.f13 rfl rfl rfl rfl rfl rfl rfl ⟨rfl, rfl, rfl, rfl, rfl⟩ rfl rfl rfl rfl rfl (by kernel_rfl) Try.func13 (by kernel_rfl)
    (of_decide_eq_true (by kernel_rfl)) (by unfold Func.isWrapper; first | (rw [if_pos (by decide +kernel)]; kernel_rfl) | (rw [if_neg (by decide +kernel)]; exact ⟨rfl, rfl⟩))
    (fun os started H enc _ => lifted os started H enc)
#print axioms proved
end GreatOrders

end Go.Proofs.Ytecfkomijaakhaa
