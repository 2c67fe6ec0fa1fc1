/- FnFrames, for every input: turning a frame keeps its lengths and its area, and a frame that is closed has no error. Its conditions: none. -/
import Derived.Test.YtmjjlpkleapaeaaLike
import Derived.Test.YtmjjlpkleapaeaaTurnM
import Derived.Test.YtmjjlpkleapaeaaCode
namespace Go.Proofs.Ytmjjlpkleapaeaa
open Go.ChangeShapes Go.WideShapes Go.ChangeAt Go.RowKit Go.Deep

theorem turned_lengths {L : List Tube} {q : Int} (h1 : areTubes L = true) (hi : inR q 0 3 = true) : lengthsF (turnF L q).1 = lengthsF L := by
  obtain ⟨a, b, c, d⟩ := turnK_same q.toNat L h1
  simp only [turnF, h1, hi, if_true, lengthsF, a, turnK_len, d]
theorem turned_area {L : List Tube} {q : Int} (h1 : areTubes L = true) (hi : inR q 0 3 = true) : twiceAreaF (turnF L q).1 = twiceAreaF L := by
  obtain ⟨a, b, c, d⟩ := turnK_same q.toNat L h1
  simp only [turnF, h1, hi, if_true, twiceAreaF, b, turnK_len, c]
theorem turned_back {L : List Tube} {q : Int} (h1 : areTubes L = true) (hi : inR q 0 3 = true) : turnF (turnF L q).1 (Int.tmod (4 - q) 4) = (L, 0) := by
  obtain ⟨a, b, c, d⟩ := turnK_same q.toNat L h1
  have hq : 0 ≤ q ∧ q ≤ 3 := by simpa [inR] using hi
  have hm : Int.tmod (4 - q) 4 = ((4 - q.toNat) % 4 : Nat) := by
    rw [Int.tmod_eq_emod_of_nonneg (by omega)]; omega
  have hr : inR (((4 - q.toNat) % 4 : Nat) : Int) 0 3 = true := by simp [inR]; omega
  have e : (turnF L q).1 = turnK q.toNat L := by simp [turnF, h1, hi]
  rw [e, hm, turn_ok a hr, turn_back (by omega) L]

set_option maxHeartbeats 8000000 in
set_option maxRecDepth 100000 in
theorem lawFrames_walk (w : World) (A : Option Addr) (n c : Nat) (hcode : Code w A n) (hc : n ≤ c ∧ c ≤ maxLen) :
    Calls Try.prog 9 #[.slice A n c] w fun e w' => e = .returned (.bool true) ∧ Below w.heap.size w w' := by
  by_cases hbig : 4096 < (n : Int)
  · have t0 : decide (4096 < (n : Int)) = true := by simpa using hbig
    go_enter Try.func9, Try.ntmps9
    go_wp2_with fail
    refine (big_any w A n c hc.1 hc.2).mono ?_
    rintro e w1 ⟨rfl, rfl⟩
    rw [t0]
    go_wp2
    go_ret
    exact ⟨rfl, Below.refl _ _⟩
  · have t0 : decide (4096 < (n : Int)) = false := by simpa using hbig
    have hn : n ≤ 4096 := by omega
    have Hcode := Lib.hid hcode
    have Hc := Lib.hid hc
    clear hcode hc hbig
    go_enter Try.func9, Try.ntmps9
    go_wp2_with fail
    refine (big_any w A n c Hc.out.1 Hc.out.2).mono ?_
    rintro e w1 ⟨rfl, rfl⟩
    rw [t0]
    go_wp2_with fail
    refine (drawTurn_any w A n c Hcode.out hn Hc.out).mono ?_
    rintro e w2 ⟨L, v, q, rfl, ho2, hL, hb2⟩
    obtain ⟨Av, cv, rfl, hav, hcv⟩ := own_slice ho2
    unfold maxLen at hcv
    have Hv := Lib.hid (Sl.of_own ho2)
    have hLn : L.length ≤ 4194304 := by omega
    have s2 := hb2.size
    clear ho2 t0
    go_wp2_with fail
    refine (implTurnTubes_any w2 L _ q Hv.out (fun _ _ => trivial) hLn).mono ?_
    rintro e w3 ⟨yt, rfl, ho3, hb3⟩
    have b3 := hb2.trans (hb3.mono s2)
    have O3 := Lib.hid ho3
    clear ho3
    go_wp2_with fail
    refine (specTurnTubes_any w3 L _ q (Hv.out.below hb3) (fun _ _ => trivial) hLn).mono ?_
    rintro e w4 ⟨ym, rfl, ho4, hb4⟩
    have b4 := b3.trans (hb4.mono b3.size)
    have O4 := Lib.hid ho4
    have V4 := Lib.hid ((Hv.out.below hb3).below hb4)
    clear ho4
    go_wp2_with fail
    refine (implLengthsOf_any w4 L _ V4.out (fun _ _ => trivial) hLn).mono ?_
    rintro e w5 ⟨yl, rfl, ho5, hb5⟩
    have b5 := b4.trans (hb5.mono b4.size)
    have O5 := Lib.hid ho5
    have V5 := Lib.hid (V4.out.below hb5)
    clear ho5
    go_wp2_with fail
    refine (specLengthsOf_any w5 L _ V5.out (fun _ _ => trivial) hLn).mono ?_
    rintro e w6 ⟨ym2, rfl, ho6, hb6⟩
    have b6 := b5.trans (hb6.mono b5.size)
    have O6 := Lib.hid ho6
    have V6 := Lib.hid (V5.out.below hb6)
    clear ho6
    go_wp2_with fail
    refine (implTwiceArea_any w6 L _ V6.out (fun _ _ => trivial) hLn).mono ?_
    rintro e w7 ⟨rfl, hb7⟩
    have b7 := b6.trans (hb7.mono b6.size)
    have V7 := Lib.hid (V6.out.below hb7)
    go_wp2_with fail
    refine (specTwiceArea_any w7 L _ V7.out (fun _ _ => trivial) hLn).mono ?_
    rintro e w8 ⟨rfl, hb8⟩
    have b8 := b7.trans (hb8.mono b7.size)
    have V8 := Lib.hid (V7.out.below hb8)
    go_wp2_with fail
    refine (implErrorOf_any w8 L _ V8.out hLn).mono ?_
    rintro e w9 ⟨rfl, hb9⟩
    have b9 := b8.trans (hb9.mono b8.size)
    have V9 := Lib.hid (V8.out.below hb9)
    go_wp2_with fail
    refine (specErrorOf_any w9 L _ V9.out hLn).mono ?_
    rintro e w10 ⟨rfl, hb10⟩
    have b10 := b9.trans (hb10.mono b9.size)
    have V10 := Lib.hid (V9.out.below hb10)
    go_wp2_with fail
    refine (implCloseTubes_any w10 L _ V10.out (fun _ _ => trivial) hLn).mono ?_
    rintro e w11 ⟨yc, rfl, ho11, hb11⟩
    have b11 := b10.trans (hb11.mono b10.size)
    have O11 := Lib.hid ho11
    have V11 := Lib.hid (V10.out.below hb11)
    clear ho11
    go_wp2_with fail
    refine (specCloseTubes_any w11 L _ V11.out (fun _ _ => trivial) hLn).mono ?_
    rintro e w12 ⟨yk, rfl, ho12, hb12⟩
    have b12 := b11.trans (hb12.mono b11.size)
    have O12 := Lib.hid ho12
    have V12 := Lib.hid (V11.out.below hb12)
    clear ho12
    go_wp2_with fail
    have T3 := Lib.hid (((((((((( Sl.of_own O3.out).below hb4).below hb5).below hb6).below hb7).below hb8).below hb9).below hb10).below hb11).below hb12)
    have T4 := Lib.hid ((((((((( Sl.of_own O4.out).below hb5).below hb6).below hb7).below hb8).below hb9).below hb10).below hb11).below hb12)
    have T11 := Lib.hid (( Sl.of_own O11.out).below hb12)
    have T12 := Lib.hid ( Sl.of_own O12.out)
    have T5 := Lib.hid (((((((( Sl.of_own O5.out).below hb6).below hb7).below hb8).below hb9).below hb10).below hb11).below hb12)
    have T6 := Lib.hid ((((((( Sl.of_own O6.out).below hb7).below hb8).below hb9).below hb10).below hb11).below hb12)
    refine (likeTubes_same _ yt ym w12 T3.out T4.out (turnF_len L q)).mono ?_
    rintro e w13 ⟨rfl, hb13⟩
    have b13 := b12.trans (hb13.mono b12.size)
    go_wp2_with fail
    refine (likeTubes_same _ yc yk w13 (T11.out.below hb13) (T12.out.below hb13) (closeF_len L)).mono ?_
    rintro e w14 ⟨rfl, hb14⟩
    have b14 := b13.trans (hb14.mono b13.size)
    go_wp2_with fail
    refine (likeInts_same _ yl ym2 w14 ((T5.out.below hb13).below hb14) ((T6.out.below hb13).below hb14) (lengthsF_len L)).mono ?_
    rintro e w15 ⟨rfl, hb15⟩
    have b15 := b14.trans (hb15.mono b14.size)
    have V15 := Lib.hid (((V12.out.below hb13).below hb14).below hb15)
    go_wp2_with fail
    refine (implAreTubes_any w15 L _ V15.out hLn).mono ?_
    rintro e w16 ⟨rfl, hb16⟩
    have b16 := b15.trans (hb16.mono b15.size)
    have V16 := Lib.hid (V15.out.below hb16)
    cases h1 : areTubes L
    · have l1 : (lengthsF L).2 = 1 := by simp [lengthsF, h1]
      have l2 : (errOfF L).2.2 = 1 := by simp [errOfF, h1]
      have l3 : (closeF L).2 = 1 := by simp [closeF, h1]
      have l4 : (turnF L q).2 = 1 := by simp [turnF, h1]
      rw [l1, l2, l3, l4]
      go_wp2
      go_ret
      exact ⟨rfl, b16⟩
    · have l1 : (lengthsF L).2 = 0 := by simp [lengthsF, h1]
      have l2 : (errOfF L) = (sumX L, sumY L, 0) := by simp [errOfF, h1]
      have l5 : isClosedF L = (closedT L, 0) := by simp [isClosedF, h1]
      rw [l1, l2]
      go_wp2_with fail
      refine (implIsClosed_any w16 L _ V16.out hLn).mono ?_
      rintro e w17 ⟨rfl, hb17⟩
      have b17 := b16.trans (hb17.mono b16.size)
      have V17 := Lib.hid (V16.out.below hb17)
      rw [l5]
      cases h2 : closedT L
      · have l9 : twiceAreaF L = (0, 5) := by simp [twiceAreaF, tubeCode_open h1 h2]
        have hne : ¬ (sumX L = 0 ∧ sumY L = 0) := by simpa [closedT] using h2
        by_cases hx : sumX L = 0
        · have hy : ¬ sumY L = 0 := fun h => hne ⟨hx, h⟩
          rw [hx]
          cases h3 : areTubes (L ++ [lastT L])
          · have l6 : (closeF L).2 = 3 := by simp [closeF, h1, h2, h3]
            cases hi : inR q 0 3
            · have l7 : (turnF L q).2 = 2 := by simp [turnF, h1, hi]
              rw [l6, l7]
              go_wp2
              go_ret
              exact ⟨rfl, b17⟩
            · have l7 : (turnF L q).2 = 0 := by simp [turnF, h1, hi]
              rw [l6, l7]
              go_wp2_with fail
              have T117 := Lib.hid (((((T3.out.below hb13).below hb14).below hb15).below hb16).below hb17)
              refine (implLengthsOf_any w17 _ yt T117.out (fun _ _ => trivial) (turnF_len L q)).mono ?_
              rintro e w18 ⟨ys, rfl, ho18, hb18⟩
              have b18 := b17.trans (hb18.mono b17.size)
              go_wp2_with fail
              have T118 := Lib.hid (T117.out.below hb18)
              refine (implTwiceArea_any w18 _ yt T118.out (fun _ _ => trivial) (turnF_len L q)).mono ?_
              rintro e w19 ⟨rfl, hb19⟩
              have b19 := b18.trans (hb19.mono b18.size)
              go_wp2_with fail
              have T119 := Lib.hid (T118.out.below hb19)
              have hq : 0 ≤ q ∧ q ≤ 3 := by simpa [inR] using hi
              have hw : wrap64 (4 - q) = 4 - q := by first | (apply wrap64_of <;> omega) | (unfold wrap64; omega) | (simp [wrap64]; omega)
              rw [hw]
              refine (implTurnTubes_any w19 _ yt _ T119.out (fun _ _ => trivial) (turnF_len L q)).mono ?_
              rintro e w20 ⟨yb, rfl, ho20, hb20⟩
              have b20 := b19.trans (hb20.mono b19.size)
              have Yc : Sl w20 2 yb L.length (tubeRow L) := by
                have := Sl.of_own ho20; rwa [turned_back h1 hi] at this
              have Sc : Sl w20 1 ys (lengthsF L).1.length (intsRow (lengthsF L).1) := by
                have := ((Sl.of_own ho18).below hb19).below hb20; rwa [turned_lengths h1 hi] at this
              have Lc := Lib.hid ((((((((T5.out.below hb13).below hb14).below hb15).below hb16).below hb17).below hb18).below hb19).below hb20)
              have Vc := Lib.hid (((V17.out.below hb18).below hb19).below hb20)
              have HS := Lib.hid Sc
              have HY := Lib.hid Yc
              clear Sc Yc ho20 ho18
              rw [turned_back h1 hi, turned_lengths h1 hi, turned_area h1 hi, l1]
              go_wp2_with fail
              refine (likeInts_same _ ys yl w20 HS.out Lc.out (lengthsF_len L)).mono ?_
              rintro e w21 ⟨rfl, hb21⟩
              have b21 := b20.trans (hb21.mono b20.size)
              go_wp2_with fail
              refine (likeTubes_same _ yb _ w21 (HY.out.below hb21) (Vc.out.below hb21) hLn).mono ?_
              rintro e w22 ⟨rfl, hb22⟩
              have b22 := b21.trans (hb22.mono b21.size)
              go_wp2
              go_ret
              exact ⟨rfl, b22⟩
          · have l6 : closeF L = (L ++ [lastT L], 0) := by simp [closeF, h1, h2, h3]
            have l8 : errOfF (L ++ [lastT L]) = (0, 0, 0) := by simp [errOfF, h3, close_sums]
            have C17 : Sl w17 2 yc (L ++ [lastT L]).length (tubeRow (L ++ [lastT L])) := by
              have := (((((T11.out.below hb13).below hb14).below hb15).below hb16).below hb17); rwa [l6] at this
            have HCL : (L ++ [lastT L]).length ≤ 4194304 := by rw [List.length_append, List.length_singleton]; have := (areTubes_iff h1).2.1; omega
            have hsz : (L ++ [lastT L]).length = L.length + 1 := by simp
            have C17b := C17
            obtain ⟨Ac, cc, eyc, _, _, _⟩ := C17b
            rw [hsz] at eyc
            clear hsz
            subst eyc
            have HC := Lib.hid C17
            clear C17
            have w1 : wrap64 ((L.length : Int) + 1) = (L.length : Int) + 1 := by have := (areTubes_iff h1).2.1; unfold wrap64; omega
            have W1 := Lib.hid w1
            clear w1
            rw [l6]
            go_wp2_with fail
            refine (implErrorOf_any w17 (L ++ [lastT L]) _ HC.out HCL).mono ?_
            rintro e w18 ⟨rfl, hb18⟩
            have b18 := b17.trans (hb18.mono b17.size)
            rw [l8]
            cases hi : inR q 0 3
            · have l7 : (turnF L q).2 = 2 := by simp [turnF, h1, hi]
              rw [l7]
              go_wp2
              go_ret
              exact ⟨rfl, b18⟩
            · have l7 : (turnF L q).2 = 0 := by simp [turnF, h1, hi]
              rw [l7]
              go_wp2_with fail
              have T118 := Lib.hid ((((((T3.out.below hb13).below hb14).below hb15).below hb16).below hb17).below hb18)
              refine (implLengthsOf_any w18 _ yt T118.out (fun _ _ => trivial) (turnF_len L q)).mono ?_
              rintro e w19 ⟨ys, rfl, ho19, hb19⟩
              have b19 := b18.trans (hb19.mono b18.size)
              go_wp2_with fail
              have T119 := Lib.hid (T118.out.below hb19)
              refine (implTwiceArea_any w19 _ yt T119.out (fun _ _ => trivial) (turnF_len L q)).mono ?_
              rintro e w20 ⟨rfl, hb20⟩
              have b20 := b19.trans (hb20.mono b19.size)
              go_wp2_with fail
              have T120 := Lib.hid (T119.out.below hb20)
              have hq : 0 ≤ q ∧ q ≤ 3 := by simpa [inR] using hi
              have hw : wrap64 (4 - q) = 4 - q := by first | (apply wrap64_of <;> omega) | (unfold wrap64; omega) | (simp [wrap64]; omega)
              rw [hw]
              refine (implTurnTubes_any w20 _ yt _ T120.out (fun _ _ => trivial) (turnF_len L q)).mono ?_
              rintro e w21 ⟨yb, rfl, ho21, hb21⟩
              have b21 := b20.trans (hb21.mono b20.size)
              have Yc : Sl w21 2 yb L.length (tubeRow L) := by
                have := Sl.of_own ho21; rwa [turned_back h1 hi] at this
              have Sc : Sl w21 1 ys (lengthsF L).1.length (intsRow (lengthsF L).1) := by
                have := ((Sl.of_own ho19).below hb20).below hb21; rwa [turned_lengths h1 hi] at this
              have Lc := Lib.hid (((((((((T5.out.below hb13).below hb14).below hb15).below hb16).below hb17).below hb18).below hb19).below hb20).below hb21)
              have Vc := Lib.hid ((((V17.out.below hb18).below hb19).below hb20).below hb21)
              have HS := Lib.hid Sc
              have HY := Lib.hid Yc
              clear Sc Yc ho21 ho19
              rw [turned_back h1 hi, turned_lengths h1 hi, turned_area h1 hi, l1]
              go_wp2_with fail
              refine (likeInts_same _ ys yl w21 HS.out Lc.out (lengthsF_len L)).mono ?_
              rintro e w22 ⟨rfl, hb22⟩
              have b22 := b21.trans (hb22.mono b21.size)
              go_wp2_with fail
              refine (likeTubes_same _ yb _ w22 (HY.out.below hb22) (Vc.out.below hb22) hLn).mono ?_
              rintro e w23 ⟨rfl, hb23⟩
              have b23 := b22.trans (hb23.mono b22.size)
              go_wp2
              go_ret
              exact ⟨rfl, b23⟩
        · skip
          cases h3 : areTubes (L ++ [lastT L])
          · have l6 : (closeF L).2 = 3 := by simp [closeF, h1, h2, h3]
            cases hi : inR q 0 3
            · have l7 : (turnF L q).2 = 2 := by simp [turnF, h1, hi]
              rw [l6, l7]
              go_wp2
              go_ret
              exact ⟨rfl, b17⟩
            · have l7 : (turnF L q).2 = 0 := by simp [turnF, h1, hi]
              rw [l6, l7]
              go_wp2_with fail
              have T117 := Lib.hid (((((T3.out.below hb13).below hb14).below hb15).below hb16).below hb17)
              refine (implLengthsOf_any w17 _ yt T117.out (fun _ _ => trivial) (turnF_len L q)).mono ?_
              rintro e w18 ⟨ys, rfl, ho18, hb18⟩
              have b18 := b17.trans (hb18.mono b17.size)
              go_wp2_with fail
              have T118 := Lib.hid (T117.out.below hb18)
              refine (implTwiceArea_any w18 _ yt T118.out (fun _ _ => trivial) (turnF_len L q)).mono ?_
              rintro e w19 ⟨rfl, hb19⟩
              have b19 := b18.trans (hb19.mono b18.size)
              go_wp2_with fail
              have T119 := Lib.hid (T118.out.below hb19)
              have hq : 0 ≤ q ∧ q ≤ 3 := by simpa [inR] using hi
              have hw : wrap64 (4 - q) = 4 - q := by first | (apply wrap64_of <;> omega) | (unfold wrap64; omega) | (simp [wrap64]; omega)
              rw [hw]
              refine (implTurnTubes_any w19 _ yt _ T119.out (fun _ _ => trivial) (turnF_len L q)).mono ?_
              rintro e w20 ⟨yb, rfl, ho20, hb20⟩
              have b20 := b19.trans (hb20.mono b19.size)
              have Yc : Sl w20 2 yb L.length (tubeRow L) := by
                have := Sl.of_own ho20; rwa [turned_back h1 hi] at this
              have Sc : Sl w20 1 ys (lengthsF L).1.length (intsRow (lengthsF L).1) := by
                have := ((Sl.of_own ho18).below hb19).below hb20; rwa [turned_lengths h1 hi] at this
              have Lc := Lib.hid ((((((((T5.out.below hb13).below hb14).below hb15).below hb16).below hb17).below hb18).below hb19).below hb20)
              have Vc := Lib.hid (((V17.out.below hb18).below hb19).below hb20)
              have HS := Lib.hid Sc
              have HY := Lib.hid Yc
              clear Sc Yc ho20 ho18
              rw [turned_back h1 hi, turned_lengths h1 hi, turned_area h1 hi, l1]
              go_wp2_with fail
              refine (likeInts_same _ ys yl w20 HS.out Lc.out (lengthsF_len L)).mono ?_
              rintro e w21 ⟨rfl, hb21⟩
              have b21 := b20.trans (hb21.mono b20.size)
              go_wp2_with fail
              refine (likeTubes_same _ yb _ w21 (HY.out.below hb21) (Vc.out.below hb21) hLn).mono ?_
              rintro e w22 ⟨rfl, hb22⟩
              have b22 := b21.trans (hb22.mono b21.size)
              go_wp2
              go_ret
              exact ⟨rfl, b22⟩
          · have l6 : closeF L = (L ++ [lastT L], 0) := by simp [closeF, h1, h2, h3]
            have l8 : errOfF (L ++ [lastT L]) = (0, 0, 0) := by simp [errOfF, h3, close_sums]
            have C17 : Sl w17 2 yc (L ++ [lastT L]).length (tubeRow (L ++ [lastT L])) := by
              have := (((((T11.out.below hb13).below hb14).below hb15).below hb16).below hb17); rwa [l6] at this
            have HCL : (L ++ [lastT L]).length ≤ 4194304 := by rw [List.length_append, List.length_singleton]; have := (areTubes_iff h1).2.1; omega
            have hsz : (L ++ [lastT L]).length = L.length + 1 := by simp
            have C17b := C17
            obtain ⟨Ac, cc, eyc, _, _, _⟩ := C17b
            rw [hsz] at eyc
            clear hsz
            subst eyc
            have HC := Lib.hid C17
            clear C17
            have w1 : wrap64 ((L.length : Int) + 1) = (L.length : Int) + 1 := by have := (areTubes_iff h1).2.1; unfold wrap64; omega
            have W1 := Lib.hid w1
            clear w1
            rw [l6]
            go_wp2_with fail
            refine (implErrorOf_any w17 (L ++ [lastT L]) _ HC.out HCL).mono ?_
            rintro e w18 ⟨rfl, hb18⟩
            have b18 := b17.trans (hb18.mono b17.size)
            rw [l8]
            cases hi : inR q 0 3
            · have l7 : (turnF L q).2 = 2 := by simp [turnF, h1, hi]
              rw [l7]
              go_wp2
              go_ret
              exact ⟨rfl, b18⟩
            · have l7 : (turnF L q).2 = 0 := by simp [turnF, h1, hi]
              rw [l7]
              go_wp2_with fail
              have T118 := Lib.hid ((((((T3.out.below hb13).below hb14).below hb15).below hb16).below hb17).below hb18)
              refine (implLengthsOf_any w18 _ yt T118.out (fun _ _ => trivial) (turnF_len L q)).mono ?_
              rintro e w19 ⟨ys, rfl, ho19, hb19⟩
              have b19 := b18.trans (hb19.mono b18.size)
              go_wp2_with fail
              have T119 := Lib.hid (T118.out.below hb19)
              refine (implTwiceArea_any w19 _ yt T119.out (fun _ _ => trivial) (turnF_len L q)).mono ?_
              rintro e w20 ⟨rfl, hb20⟩
              have b20 := b19.trans (hb20.mono b19.size)
              go_wp2_with fail
              have T120 := Lib.hid (T119.out.below hb20)
              have hq : 0 ≤ q ∧ q ≤ 3 := by simpa [inR] using hi
              have hw : wrap64 (4 - q) = 4 - q := by first | (apply wrap64_of <;> omega) | (unfold wrap64; omega) | (simp [wrap64]; omega)
              rw [hw]
              refine (implTurnTubes_any w20 _ yt _ T120.out (fun _ _ => trivial) (turnF_len L q)).mono ?_
              rintro e w21 ⟨yb, rfl, ho21, hb21⟩
              have b21 := b20.trans (hb21.mono b20.size)
              have Yc : Sl w21 2 yb L.length (tubeRow L) := by
                have := Sl.of_own ho21; rwa [turned_back h1 hi] at this
              have Sc : Sl w21 1 ys (lengthsF L).1.length (intsRow (lengthsF L).1) := by
                have := ((Sl.of_own ho19).below hb20).below hb21; rwa [turned_lengths h1 hi] at this
              have Lc := Lib.hid (((((((((T5.out.below hb13).below hb14).below hb15).below hb16).below hb17).below hb18).below hb19).below hb20).below hb21)
              have Vc := Lib.hid ((((V17.out.below hb18).below hb19).below hb20).below hb21)
              have HS := Lib.hid Sc
              have HY := Lib.hid Yc
              clear Sc Yc ho21 ho19
              rw [turned_back h1 hi, turned_lengths h1 hi, turned_area h1 hi, l1]
              go_wp2_with fail
              refine (likeInts_same _ ys yl w21 HS.out Lc.out (lengthsF_len L)).mono ?_
              rintro e w22 ⟨rfl, hb22⟩
              have b22 := b21.trans (hb22.mono b21.size)
              go_wp2_with fail
              refine (likeTubes_same _ yb _ w22 (HY.out.below hb22) (Vc.out.below hb22) hLn).mono ?_
              rintro e w23 ⟨rfl, hb23⟩
              have b23 := b22.trans (hb23.mono b22.size)
              go_wp2
              go_ret
              exact ⟨rfl, b23⟩
      · have hx : sumX L = 0 ∧ sumY L = 0 := by simpa [closedT] using h2
        have l6 : (closeF L).2 = 5 := by simp [closeF, h1, h2]
        cases hi : inR q 0 3
        · have l7 : (turnF L q).2 = 2 := by simp [turnF, h1, hi]
          rw [hx.1, hx.2, l6, l7]
          go_wp2
          go_ret
          exact ⟨rfl, b17⟩
        · have l7 : (turnF L q).2 = 0 := by simp [turnF, h1, hi]
          rw [hx.1, hx.2, l6, l7]
          go_wp2_with fail
          have T117 := Lib.hid (((((T3.out.below hb13).below hb14).below hb15).below hb16).below hb17)
          refine (implLengthsOf_any w17 _ yt T117.out (fun _ _ => trivial) (turnF_len L q)).mono ?_
          rintro e w18 ⟨ys, rfl, ho18, hb18⟩
          have b18 := b17.trans (hb18.mono b17.size)
          go_wp2_with fail
          have T118 := Lib.hid (T117.out.below hb18)
          refine (implTwiceArea_any w18 _ yt T118.out (fun _ _ => trivial) (turnF_len L q)).mono ?_
          rintro e w19 ⟨rfl, hb19⟩
          have b19 := b18.trans (hb19.mono b18.size)
          go_wp2_with fail
          have T119 := Lib.hid (T118.out.below hb19)
          have hq : 0 ≤ q ∧ q ≤ 3 := by simpa [inR] using hi
          have hw : wrap64 (4 - q) = 4 - q := by first | (apply wrap64_of <;> omega) | (unfold wrap64; omega) | (simp [wrap64]; omega)
          rw [hw]
          refine (implTurnTubes_any w19 _ yt _ T119.out (fun _ _ => trivial) (turnF_len L q)).mono ?_
          rintro e w20 ⟨yb, rfl, ho20, hb20⟩
          have b20 := b19.trans (hb20.mono b19.size)
          have Yc : Sl w20 2 yb L.length (tubeRow L) := by
            have := Sl.of_own ho20; rwa [turned_back h1 hi] at this
          have Sc : Sl w20 1 ys (lengthsF L).1.length (intsRow (lengthsF L).1) := by
            have := ((Sl.of_own ho18).below hb19).below hb20; rwa [turned_lengths h1 hi] at this
          have Lc := Lib.hid ((((((((T5.out.below hb13).below hb14).below hb15).below hb16).below hb17).below hb18).below hb19).below hb20)
          have Vc := Lib.hid (((V17.out.below hb18).below hb19).below hb20)
          have HS := Lib.hid Sc
          have HY := Lib.hid Yc
          clear Sc Yc ho20 ho18
          rw [turned_back h1 hi, turned_lengths h1 hi, turned_area h1 hi, l1]
          go_wp2_with fail
          refine (likeInts_same _ ys yl w20 HS.out Lc.out (lengthsF_len L)).mono ?_
          rintro e w21 ⟨rfl, hb21⟩
          have b21 := b20.trans (hb21.mono b20.size)
          go_wp2_with fail
          refine (likeTubes_same _ yb _ w21 (HY.out.below hb21) (Vc.out.below hb21) hLn).mono ?_
          rintro e w22 ⟨rfl, hb22⟩
          have b22 := b21.trans (hb22.mono b21.size)
          go_wp2
          go_ret
          exact ⟨rfl, b22⟩

namespace GreatFrames
set_option maxRecDepth 100000 in
theorem lifted (os : Os) (started : os.Started) (H : Type) (enc : TypeId × Value → H) :
    ReturnsInHanded {} Try.checked os 9 .any (Rows.fnFramesSpec.pre6 enc Try.prog Try.f9 Rows.fnFramesRow.domain false) (Rows.fnFramesSpec.post enc Try.prog Try.f9 false true false false) := by
  refine returnsInHanded_of_change (C := Try.checked) Try.own started (by kernel_rfl) Try.func9
    (ChangeSpec.witness6 (enc := enc) (C := Try.checked) false ⟨#[], #[.slice none 0 0], []⟩ 8 (by kernel_rfl) (by kernel_rfl) (by kernel_rfl) (by kernel_rfl)) ?_
  intro W base args ds gs before hval0 hW hcnd _
  have hval : ∀ (j : Nat) t v, Try.f9.params[j]? = some t → args[j]? = some v → Value.okWide Try.prog W .any base t v := hval0
  have hW' := hW
  obtain ⟨p, q, hA0, hV, rfl, hfz, hnd⟩ := hW
  have hA : DataW.TrodAll enc Try.prog W 0 (fun _ => true) true Try.f9.params.toList args.toList ds p := hA0
  rw [Try.params9] at hA hval
  obtain ⟨v0, vs0, d0, ds0, p0, q0, hargs, rfl, rfl, h0, r0⟩ := trodAll_cons hA
  obtain ⟨rfl, rfl, rfl⟩ := trodAll_nil r0
  obtain rfl : args = #[v0] := by cases args; simp_all
  obtain ⟨rfl, rfl⟩ := trodVars_none hV
  have lt0 : ∀ x ∈ p0, x.block < W.heap.size := by obtain ⟨m, hm⟩ := h0; exact DataW.trod_lt m _ _ _ hm
  obtain ⟨A0, n0, c0, ev0, hcode0, hc0⟩ := open_code (hval 0 _ v0 rfl rfl) h0
  subst ev0
  clear hA0 hval0
  refine (lawFrames_walk W A0 n0 c0 hcode0 hc0).mono fun e W' ⟨he, bel⟩ => ?_
  subst he
  exact ⟨_, rfl, _, _, _, [], _, [], hW', trodAll_mk1 (shut_bool Try.underlying4 _), (trodAll_cons_mk (Below.trod Try.laidOut (by kernel_rfl) (of_decide_eq_true (by kernel_rfl)) h0 bel lt0) trodAll_mk0), rfl, bel.frame _, fun h => by cases h⟩

theorem proved : Rows.FnFramesSaid :=
  OpenClaim.holds_of_wide 9 Try.f9 rfl rfl rfl rfl rfl rfl rfl ⟨rfl, rfl, rfl, rfl, rfl⟩ rfl rfl rfl rfl rfl (by kernel_rfl) Try.func9 (by kernel_rfl)
    (of_decide_eq_true (by kernel_rfl)) (by unfold Func.isWrapper; first | (rw [if_pos (by decide +kernel)]; kernel_rfl) | (rw [if_neg (by decide +kernel)]; exact ⟨rfl, rfl⟩))
    (fun os started H enc _ => lifted os started H enc)
#print axioms proved
end GreatFrames

end Go.Proofs.Ytmjjlpkleapaeaa
