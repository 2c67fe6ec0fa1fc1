/- FnStocks, for every input: what is missing cannot be reserved, and orders bring free pieces to the point. Its conditions: none. -/
import Derived.Test.YtngphnfbfednnaaStM
import Derived.Test.YtngphnfbfednnaaDrawSt
import Derived.Test.YtngphnfbfednnaaLikeB
import Derived.Test.YtngphnfbfednnaaLikeT
import Derived.Test.YtngphnfbfednnaaResAll
import Derived.Test.YtngphnfbfednnaaMiss
import Derived.Test.YtngphnfbfednnaaOrd
import Derived.Test.YtngphnfbfednnaaMrgP
import Derived.Test.YtngphnfbfednnaaMrgS
import Derived.Deep.DeepCutAuto
import Derived.Deep.CutBlock
namespace Go.Proofs.Ytngphnfbfednnaa
open Go.ChangeShapes Go.WideShapes Go.ChangeAt Go.RowKit Go.Deep

theorem ord_fit {L : List Bin} (hf : binFit L) {i : Nat} (hi : i < (ordCodes L).length) : (strsAt (ordCodes L) i).size ≤ maxLen := by
  obtain ⟨j, hj, _, hc, _⟩ := ord_at hi
  rw [hc]; exact hf j hj
set_option maxHeartbeats 16000000 in
set_option maxRecDepth 100000 in
theorem lawStocks_walk (w : World) (A : Option Addr) (n c : Nat) (hcode : Code w A n) (hc : n ≤ c ∧ c ≤ maxLen) :
    Calls Try.prog 12 #[.slice A n c] w fun e w' => e = .returned (.bool true) ∧ Below w.heap.size w w' := by
  by_cases hbig : 4096 < (n : Int)
  · have t0 : decide (4096 < (n : Int)) = true := by simpa using hbig
    go_enter Try.func12, Try.ntmps12
    go_wp2_with fail
    refine (big_any w A n c hc.1 hc.2).mono ?_
    rintro e w1 ⟨rfl, rfl⟩
    rw [t0]
    go_wp2
    go_ret
    exact ⟨rfl, Below.refl _ _⟩
  · have t0 : decide (4096 < (n : Int)) = false := by simpa using hbig
    have hn : n ≤ 4096 := by omega
    have Hcode := Lib.hid hcode
    have Hc := Lib.hid hc
    clear hcode hc hbig
    go_enter Try.func12, Try.ntmps12
    go_wp2_with fail
    refine (big_any w A n c Hc.out.1 Hc.out.2).mono ?_
    rintro e w1 ⟨rfl, rfl⟩
    rw [t0]
    clear t0
    go_wp2_with fail
    refine (drawReserveAll_any w A n c Hcode.out hn Hc.out).mono ?_
    rintro e w1 ⟨L, v, cs, u, rfl, ho, hf, hl, hou, hfu, hcl, hb1⟩
    have b1 := hb1
    have V := Lib.hid (Sl.of_own ho)
    have F := Lib.hid hf
    have N : L.length ≤ 4194304 := by omega
    have U := Lib.hid (Sl.of_own hou)
    have FU := Lib.hid hfu
    have NU : cs.length ≤ 4194304 := by omega
    clear ho hf hl hou hfu hcl
    go_wp2_with fail
    refine (implReserveAll_any w1 L _ cs _ V.out F.out N U.out FU.out NU).mono ?_
    rintro e w2 ⟨yri, rfl, ho, hb2⟩
    have b2 := b1.trans (hb2.mono b1.size)
    have Yri := Lib.hid (Sl.of_own ho)
    clear ho
    go_wp2_with fail
    refine (specReserveAll_any w2 L _ cs _ (V.out.below hb2) F.out N (U.out.below hb2) FU.out NU).mono ?_
    rintro e w3 ⟨yrs, rfl, ho, hb3⟩
    have b3 := b2.trans (hb3.mono b2.size)
    have Yrs := Lib.hid (Sl.of_own ho)
    clear ho
    go_wp2_with fail
    refine (implMissingPieces_any w3 L _ cs _ ((V.out.below hb2).below hb3) F.out N ((U.out.below hb2).below hb3) FU.out NU).mono ?_
    rintro e w4 ⟨ymi, rfl, ho, hb4⟩
    have b4 := b3.trans (hb4.mono b3.size)
    obtain ⟨Ami, cmi, rfl, _, _⟩ := own_slice ho
    have Ymi := Lib.hid (Sl.of_own ho)
    clear ho
    go_wp2_with fail
    refine (specMissingPieces_any w4 L _ cs _ (((V.out.below hb2).below hb3).below hb4) F.out N (((U.out.below hb2).below hb3).below hb4) FU.out NU).mono ?_
    rintro e w5 ⟨yms, rfl, ho, hb5⟩
    have b5 := b4.trans (hb5.mono b4.size)
    obtain ⟨Ams, cms, rfl, _, _⟩ := own_slice ho
    have Yms := Lib.hid (Sl.of_own ho)
    clear ho
    go_wp2_with fail
    refine (drawOrders_any w5 A n c (code_below (code_below (code_below (code_below (code_below Hcode.out hb1) hb2) hb3) hb4) hb5) hn Hc.out).mono ?_
    rintro e w6 ⟨X, x, rfl, ho, hf, hlx, hb6⟩
    have b6 := b5.trans (hb6.mono b5.size)
    obtain ⟨Ax, cx, rfl, _, _⟩ := own_slice ho
    have XV := Lib.hid (Sl.of_own ho)
    have FX := Lib.hid hf
    have NX : X.length ≤ 4194304 := by omega
    clear ho hf hlx
    go_wp2_with fail
    refine (implOrderList_any w6 X _ XV.out FX.out NX).mono ?_
    rintro e w7 ⟨yoi, yni, rfl, ho, hn2, _, hb7⟩
    have b7 := b6.trans (hb7.mono b6.size)
    obtain ⟨Aoi, coi, rfl, _, _⟩ := own_slice ho
    obtain ⟨Ani, cni, rfl, _, _⟩ := own_slice hn2
    have Yoi := Lib.hid (Sl.of_own ho)
    have Yni := Lib.hid (Sl.of_own hn2)
    clear ho hn2
    go_wp2_with fail
    refine (specOrderList_any w7 X _ (XV.out.below hb7) FX.out NX).mono ?_
    rintro e w8 ⟨yos, yns, rfl, ho, hn2, _, hb8⟩
    have b8 := b7.trans (hb8.mono b7.size)
    obtain ⟨Aos, cos, rfl, _, _⟩ := own_slice ho
    obtain ⟨Ans, cns, rfl, _, _⟩ := own_slice hn2
    have Yos := Lib.hid (Sl.of_own ho)
    have Yns := Lib.hid (Sl.of_own hn2)
    clear ho hn2
    go_wp2_with fail
    refine (drawMerge_any w8 A n c (code_below (code_below (code_below (code_below (code_below (code_below (code_below (code_below Hcode.out hb1) hb2) hb3) hb4) hb5) hb6) hb7) hb8) hn Hc.out).mono ?_
    rintro e w9 ⟨LA, LB, va, vb, rfl, hoa, hfa, hla, hob, hfb, hlb, hb9⟩
    have b9 := b8.trans (hb9.mono b8.size)
    obtain ⟨Aa, ca, rfl, _, _⟩ := own_slice hoa
    obtain ⟨Ab, cb, rfl, _, _⟩ := own_slice hob
    have VA := Lib.hid (Sl.of_own hoa)
    have VB := Lib.hid (Sl.of_own hob)
    have FA := Lib.hid hfa
    have FB := Lib.hid hfb
    have NA : LA.length ≤ 4194304 := by omega
    have NB : LB.length ≤ 4194304 := by omega
    clear hoa hob hfa hfb hla hlb
    go_wp2_with fail
    refine (implMergeStocks_any w9 LA _ LB _ VA.out FA.out NA VB.out FB.out NB).mono ?_
    rintro e w10 ⟨ysi, rfl, ho, hb10⟩
    have b10 := b9.trans (hb10.mono b9.size)
    obtain ⟨Asi, csi, rfl, _, _⟩ := own_slice ho
    have Ysi := Lib.hid (Sl.of_own ho)
    clear ho
    go_wp2_with fail
    refine (specMergeStocks_any w10 LA _ LB _ (VA.out.below hb10) FA.out NA (VB.out.below hb10) FB.out NB).mono ?_
    rintro e w11 ⟨yss, rfl, ho, hb11⟩
    have b11 := b10.trans (hb11.mono b10.size)
    obtain ⟨Ass, css, rfl, _, _⟩ := own_slice ho
    have Yss := Lib.hid (Sl.of_own ho)
    clear ho
    go_wp2_with fail
    refine (likeBins_same _ yri yrs w11 (((((((((Yri.out.below hb3).below hb4).below hb5).below hb6).below hb7).below hb8).below hb9).below hb10).below hb11) ((((((((Yrs.out.below hb4).below hb5).below hb6).below hb7).below hb8).below hb9).below hb10).below hb11) (reserveAll_len L cs)).mono ?_
    rintro e w12 ⟨rfl, hb12⟩
    have b12 := b11.trans (hb12.mono b11.size)
    go_wp2_with fail
    refine (likeTexts_same _ _ _ w12 ((((((((Ymi.out.below hb5).below hb6).below hb7).below hb8).below hb9).below hb10).below hb11).below hb12) (((((((Yms.out.below hb6).below hb7).below hb8).below hb9).below hb10).below hb11).below hb12) (missing_len L cs)).mono ?_
    rintro e w13 ⟨rfl, hb13⟩
    have b13 := b12.trans (hb13.mono b12.size)
    go_wp2_with fail
    refine (likeTexts_same _ _ _ w13 ((((((Yoi.out.below hb8).below hb9).below hb10).below hb11).below hb12).below hb13) (((((Yos.out.below hb9).below hb10).below hb11).below hb12).below hb13) (orderList_len X).1).mono ?_
    rintro e w14 ⟨rfl, hb14⟩
    have b14 := b13.trans (hb14.mono b13.size)
    go_wp2_with fail
    refine (likeInts_same _ _ _ w14 (((((((Yni.out.below hb8).below hb9).below hb10).below hb11).below hb12).below hb13).below hb14) ((((((Yns.out.below hb9).below hb10).below hb11).below hb12).below hb13).below hb14) (orderList_len X).2).mono ?_
    rintro e w15 ⟨rfl, hb15⟩
    have b15 := b14.trans (hb15.mono b14.size)
    go_wp2_with fail
    refine (likeBins_same _ _ _ w15 (((((Ysi.out.below hb11).below hb12).below hb13).below hb14).below hb15) ((((Yss.out.below hb12).below hb13).below hb14).below hb15) (mergeF_len LA LB)).mono ?_
    rintro e w16 ⟨rfl, hb16⟩
    have b16 := b15.trans (hb16.mono b15.size)
    have K16XV := Lib.hid ((((((((((XV.out.below hb7).below hb8).below hb9).below hb10).below hb11).below hb12).below hb13).below hb14).below hb15).below hb16)
    have K16Yoi := Lib.hid (((((((((Yoi.out.below hb8).below hb9).below hb10).below hb11).below hb12).below hb13).below hb14).below hb15).below hb16)
    have K16Yni := Lib.hid (((((((((Yni.out.below hb8).below hb9).below hb10).below hb11).below hb12).below hb13).below hb14).below hb15).below hb16)
    have K16VA := Lib.hid (((((((VA.out.below hb10).below hb11).below hb12).below hb13).below hb14).below hb15).below hb16)
    have K16VB := Lib.hid (((((((VB.out.below hb10).below hb11).below hb12).below hb13).below hb14).below hb15).below hb16)
    have K16Ysi := Lib.hid ((((((Ysi.out.below hb11).below hb12).below hb13).below hb14).below hb15).below hb16)
    clear hn Hcode Hc
    go_upto_region 16 with (fail)
    go_cut [154] (fun c wx => c = .bool false ∧ w16 = wx)
    case first =>
      as_aux_lemma =>
        by_cases h1 : (missing L cs).2 = 0
        · skip
          obtain ⟨B, hB⟩ : ∃ B, ((reserveAll L cs).2 == 0) = B := ⟨_, rfl⟩
          have e2 : (((missing L cs).1.length : Int) == 0) = B := by
            have := miss_law h1
            rw [← hB, Bool.eq_iff_iff, beq_iff_eq, beq_iff_eq]; omega
          have e3 : (B != B) = false := by simp
          have H1 := Lib.hid h1
          rw [h1]
          clear h1
          go_wp2
          refine Met.intro ?_
          go_step
          (repeat apply Exists.intro)
          refine ⟨?rel, by rw [H1.out]⟩
          case rel => exact ⟨rfl, rfl⟩
        · skip
          have u1 : ((missing L cs).2 == 0) = false := by simpa using h1
          clear h1
          go_wp2
          go_meet
          exact ⟨rfl, rfl⟩
    case rest =>
      obtain ⟨rfl, rfl⟩ := hcut
      go_upto_block 0 with (fail)
      go_cut [] from 26 (fun wx => Below w16.heap.size w16 wx)
      case first =>
        as_aux_lemma =>
          by_cases hX : isStock X = true
          · skip
            have ex : orderList X = (ordCodes X, ordPieces X, 0) := by simp [orderList, hX]
            have ZO := Lib.hid (K16Yoi.out)
            rw [ex] at ZO
            have ZN := Lib.hid (K16Yni.out)
            rw [ex] at ZN
            have EX := Lib.hid ex
            rw [ex]
            clear ex
            have HL := Lib.hid (fun i hi => ord_law (L := X) hX (i := i) hi)
            have HPL := Lib.hid (show (ordPieces X).length = (ordCodes X).length by simp [ordPieces, ordCodes])
            have HX := Lib.hid hX
            clear hX
            go_wp2
            go_loopw [26] (fun i wr => ∃ k : Nat, i = .int .i64 k ∧ k ≤ (ordCodes X).length ∧ Below w16.heap.size w16 wr) (fun i _ => (ordCodes X).length - (intOf i).toNat)
            case atStart => exact ⟨0, rfl, Nat.zero_le _, Below.refl _ _⟩
            case round =>
              obtain ⟨k, rfl, hk, hb⟩ := hrel
              have Hb := Lib.hid hb
              clear hb
              have hoX := ordCodes_le X
              obtain ⟨w50, rfl⟩ : ∃ w50 : World, w50 = wr := ⟨_, rfl⟩
              by_cases hlt : k < (ordCodes X).length
              · skip
                obtain ⟨hz0, hfr, hpc, hall⟩ := HL.out k hlt
                have Hall := Lib.hid hall
                clear hall
                obtain ⟨go, oo, rfl, hgo, c0⟩ := (Sl.rd ((ZO.out).below Hb.out)).strs hlt
                have C0 := Lib.hid c0
                have i0 : (0 : Int) ≤ (k : Int) := Int.natCast_nonneg _
                have i1 : (k : Int) < ((ordCodes X).length : Int) := by omega
                have hFit := Lib.hid (ord_fit FX.out hlt)
                go_wp2_with fail
                refine (implFreePieces_any _ X _ (strsAt (ordCodes X) k) ((K16XV.out).below Hb.out) FX.out NX hFit.out).mono ?_
                rintro e w51 ⟨rfl, hb51⟩
                rw [hz0]
                have hs51 := hb51.size
                have Hb51 := Lib.hid (Hb.out.trans (hb51.mono Hb.out.size))
                have C1 := Lib.hid ((hb51.cell (p := ⟨go, oo + k, none⟩) hgo).trans C0.out)
                clear hb51 hz0 c0 C0
                obtain ⟨fr, hfre⟩ : ∃ fr, fr = (freePieces X (strsAt (ordCodes X) k)).1 := ⟨_, rfl⟩
                obtain ⟨pc, hpce⟩ : ∃ pc, pc = intsAt (ordPieces X) k := ⟨_, rfl⟩
                obtain ⟨cd, hcde⟩ : ∃ cd, cd = strsAt (ordCodes X) k := ⟨_, rfl⟩
                rw [← hfre]
                rw [← hcde] at C1 Hall hFit
                rw [← hpce] at hpc Hall
                rw [hcde, ← hfre] at Hall
                rw [← hcde] at Hall
                rw [← hfre] at hfr
                obtain ⟨gn, on, rfl, hgn, n0⟩ := (Sl.rd ((ZN.out).below Hb51.out)).ints (l := ordPieces X) (k := k) (by rw [HPL.out]; exact hlt)
                rw [← hpce] at n0
                have N0 := Lib.hid n0
                have i2 : (k : Int) < ((ordPieces X).length : Int) := by rw [HPL.out]; exact i1
                clear n0 hfre hpce hcde
                have x1 := IntWalk.i64_in (fr + pc) (by omega)
                go_wp2
                go_loopw [29] (fun i wr => ∃ q : Nat, i = .int .i64 q ∧ q ≤ X.length ∧ Below w51.heap.size w51 wr) (fun i _ => X.length - (intOf i).toNat)
                case atStart => exact ⟨0, rfl, Nat.zero_le _, Below.refl _ _⟩
                case round =>
                  obtain ⟨q, rfl, hq, hb⟩ := hrel
                  have Hq := Lib.hid hb
                  clear hb
                  by_cases hlt2 : q < X.length
                  · skip
                    obtain ⟨gx, ox, rfl, hgx, d0, d1, d2, d3, d4⟩ := (Sl.rd (((K16XV.out).below Hb51.out).below Hq.out)).bin hlt2
                    clear d1 d2
                    have c1 := (Hq.out.cell (p := ⟨go, oo + k, none⟩) (by show go < w51.heap.size; omega)).trans C1.out
                    have n1 := (Hq.out.cell (p := ⟨gn, on + k, none⟩) hgn).trans N0.out
                    have j0 : (0 : Int) ≤ (q : Int) := Int.natCast_nonneg _
                    have j1 : (q : Int) < (X.length : Int) := by omega
                    obtain ⟨ck, hck⟩ : ∃ ck, ck = (binAt X q).code := ⟨_, rfl⟩
                    obtain ⟨pt, hpt⟩ : ∃ pt, pt = (binAt X q).point := ⟨_, rfl⟩
                    obtain ⟨lt, hltt⟩ : ∃ lt, lt = (binAt X q).lot := ⟨_, rfl⟩
                    have hbx := stock_bin HX.out hlt2
                    have hl := Hall.out q hlt2
                    rw [← hck] at d0 hl
                    rw [← hpt] at d3 hl hbx
                    rw [← hltt] at d4 hl hbx
                    obtain ⟨_, _, _, hpb, hlb⟩ := hbx
                    clear hck hpt hltt
                    by_cases hc : ck = cd
                    · skip
                      obtain ⟨l1, l2, l3⟩ := hl hc
                      have s1 := beq_str_of hc
                      have t1 : decide (fr + pc < pt) = false := by simpa using l1
                      have t2 : decide (pt ≤ fr + pc - lt) = false := by simpa using l3
                      have x2 := IntWalk.i64_in (fr + pc - lt) (by omega)
                      have z1 : ¬ lt = 0 := by omega
                      have z2 : (lt = 0) = False := by simp only [eq_iff_iff, iff_false]; omega
                      have z3 : (lt == 0) = false := by simp; omega
                      clear hl l1 l3
                      go_wp2
                      refine wp_region_held_drew (S := (fun w' => w'.cell? ⟨gx, ox + q * 5, none⟩ = some (.string ck) ∧ w'.cell? ⟨go, oo + k, none⟩ = some (.string cd) ∧ w'.cell? ⟨gx, ox + q * 5 + 3, none⟩ = some (.int .i64 pt) ∧ w'.cell? ⟨gx, ox + q * 5 + 4, none⟩ = some (.int .i64 lt) ∧ w'.cell? ⟨gn, on + k, none⟩ = some (.int .i64 pc))) (by kernel_rfl) ?_ (fun hHeld => ?_)
                      · (try dsimp only); first | (go_split_ands; exact ⟨by assumption, by assumption, by assumption, by assumption, by assumption⟩) | go_keep
                      refine wpAnyH_take (i := 0) (v := ?_) rfl (by kernel_rfl) (by kernel_rfl) (by kernel_rfl) (fun _ _ _ h => h) (Or.inl ⟨by rfl, ?_⟩) (by assumption) ?_
                      rotate_left
                      · (intro w hSw; (try dsimp only at hSw); go_simp) <;> with_reducible rfl
                      try simp only [Act.put, List.setIfInBounds_toArray, List.set_cons_zero, List.set_cons_succ, List.getElem_toArray, List.getElem_cons_succ, List.getElem_cons_zero]
                      refine wpAnyH_take (i := 1) (v := ?_) rfl (by kernel_rfl) (by kernel_rfl) (by kernel_rfl) (fun _ _ _ h => h) (Or.inl ⟨by rfl, ?_⟩) (by assumption) ?_
                      rotate_left
                      · (intro w hSw; (try dsimp only at hSw); go_simp) <;> with_reducible rfl
                      try simp only [Act.put, List.setIfInBounds_toArray, List.set_cons_zero, List.set_cons_succ, List.getElem_toArray, List.getElem_cons_succ, List.getElem_cons_zero]
                      refine wpAnyH_take (i := 2) (v := ?_) rfl (by kernel_rfl) (by kernel_rfl) (by kernel_rfl) (fun _ _ _ h => h) (Or.inl ⟨by rfl, ?_⟩) (by assumption) ?_
                      rotate_left
                      · (intro w hSw; (try dsimp only at hSw); go_simp) <;> with_reducible rfl
                      try simp only [Act.put, List.setIfInBounds_toArray, List.set_cons_zero, List.set_cons_succ, List.getElem_toArray, List.getElem_cons_succ, List.getElem_cons_zero]
                      refine wpAnyH_take (i := 3) (v := ?_) rfl (by kernel_rfl) (by kernel_rfl) (by kernel_rfl) (fun _ _ _ h => h) (Or.inl ⟨by rfl, ?_⟩) (by assumption) ?_
                      rotate_left
                      · (intro w hSw; (try dsimp only at hSw); go_simp) <;> with_reducible rfl
                      try simp only [Act.put, List.setIfInBounds_toArray, List.set_cons_zero, List.set_cons_succ, List.getElem_toArray, List.getElem_cons_succ, List.getElem_cons_zero]
                      refine wpAnyH_take (i := 4) (v := ?_) rfl (by kernel_rfl) (by kernel_rfl) (by kernel_rfl) (fun _ _ _ h => h) (Or.inl ⟨by rfl, ?_⟩) (by assumption) ?_
                      rotate_left
                      · (intro w hSw; (try dsimp only at hSw); go_simp) <;> with_reducible rfl
                      try simp only [Act.put, List.setIfInBounds_toArray, List.set_cons_zero, List.set_cons_succ, List.getElem_toArray, List.getElem_cons_succ, List.getElem_cons_zero]
                      refine wpAnyH_take (i := 5) (v := ?_) rfl (by kernel_rfl) (by kernel_rfl) (by kernel_rfl) (fun _ _ _ h => h) (Or.inl ⟨by rfl, ?_⟩) (by assumption) ?_
                      rotate_left
                      · (intro w hSw; (try dsimp only at hSw); go_simp) <;> with_reducible rfl
                      try simp only [Act.put, List.setIfInBounds_toArray, List.set_cons_zero, List.set_cons_succ, List.getElem_toArray, List.getElem_cons_succ, List.getElem_cons_zero]
                      refine wpAnyH_take (i := 6) (v := ?_) rfl (by kernel_rfl) (by kernel_rfl) (by kernel_rfl) (fun _ _ _ h => h) (Or.inl ⟨by rfl, ?_⟩) (by assumption) ?_
                      rotate_left
                      · (intro w hSw; (try dsimp only at hSw); go_simp) <;> with_reducible rfl
                      try simp only [Act.put, List.setIfInBounds_toArray, List.set_cons_zero, List.set_cons_succ, List.getElem_toArray, List.getElem_cons_succ, List.getElem_cons_zero]
                      refine wpAnyH_take (i := 7) (v := ?_) rfl (by kernel_rfl) (by kernel_rfl) (by kernel_rfl) (fun _ _ _ h => h) (Or.inl ⟨by rfl, ?_⟩) (by assumption) ?_
                      rotate_left
                      · (intro w hSw; (try dsimp only at hSw); go_simp) <;> with_reducible rfl
                      try simp only [Act.put, List.setIfInBounds_toArray, List.set_cons_zero, List.set_cons_succ, List.getElem_toArray, List.getElem_cons_succ, List.getElem_cons_zero]
                      refine wpAnyH_take (i := 8) (v := ?_) rfl (by kernel_rfl) (by kernel_rfl) (by kernel_rfl) (fun _ _ _ h => h) (Or.inl ⟨by rfl, ?_⟩) (by assumption) ?_
                      rotate_left
                      · (intro w hSw; (try dsimp only at hSw); go_simp) <;> with_reducible rfl
                      try simp only [Act.put, List.setIfInBounds_toArray, List.set_cons_zero, List.set_cons_succ, List.getElem_toArray, List.getElem_cons_succ, List.getElem_cons_zero]
                      refine wpAnyH_take (i := 9) (v := ?_) rfl (by kernel_rfl) (by kernel_rfl) (by kernel_rfl) (fun _ _ _ h => h) (Or.inl ⟨by rfl, ?_⟩) (by assumption) ?_
                      rotate_left
                      · (intro w hSw; (try dsimp only at hSw); go_simp) <;> with_reducible rfl
                      try simp only [Act.put, List.setIfInBounds_toArray, List.set_cons_zero, List.set_cons_succ, List.getElem_toArray, List.getElem_cons_succ, List.getElem_cons_zero]
                      refine wpAnyH_take (i := 10) (v := ?_) rfl (by kernel_rfl) (by kernel_rfl) (by kernel_rfl) (fun _ _ _ h => h) (Or.inl ⟨by rfl, ?_⟩) (by assumption) ?_
                      rotate_left
                      · (intro w hSw; (try dsimp only at hSw); go_simp) <;> with_reducible rfl
                      try simp only [Act.put, List.setIfInBounds_toArray, List.set_cons_zero, List.set_cons_succ, List.getElem_toArray, List.getElem_cons_succ, List.getElem_cons_zero]
                      refine wpAnyH_take (i := 11) (v := ?_) rfl (by kernel_rfl) (by kernel_rfl) (by kernel_rfl) (fun _ _ _ h => h) (Or.inl ⟨by rfl, ?_⟩) (by assumption) ?_
                      rotate_left
                      · (intro w hSw; (try dsimp only at hSw); go_simp) <;> with_reducible rfl
                      try simp only [Act.put, List.setIfInBounds_toArray, List.set_cons_zero, List.set_cons_succ, List.getElem_toArray, List.getElem_cons_succ, List.getElem_cons_zero]
                      refine wpAnyH_take (i := 12) (v := ?_) rfl (by kernel_rfl) (by kernel_rfl) (by kernel_rfl) (fun _ _ _ h => h) (Or.inl ⟨by rfl, ?_⟩) (by assumption) ?_
                      rotate_left
                      · (intro w hSw; (try dsimp only at hSw); go_simp) <;> with_reducible rfl
                      try simp only [Act.put, List.setIfInBounds_toArray, List.set_cons_zero, List.set_cons_succ, List.getElem_toArray, List.getElem_cons_succ, List.getElem_cons_zero]
                      refine wpAnyH_take (i := 13) (v := ?_) rfl (by kernel_rfl) (by kernel_rfl) (by kernel_rfl) (fun _ _ _ h => h) (Or.inl ⟨by rfl, ?_⟩) (by assumption) ?_
                      rotate_left
                      · (intro w hSw; (try dsimp only at hSw); go_simp) <;> with_reducible rfl
                      try simp only [Act.put, List.setIfInBounds_toArray, List.set_cons_zero, List.set_cons_succ, List.getElem_toArray, List.getElem_cons_succ, List.getElem_cons_zero]
                      refine wpAnyH_take (i := 14) (v := ?_) rfl (by kernel_rfl) (by kernel_rfl) (by kernel_rfl) (fun _ _ _ h => h) (Or.inl ⟨by rfl, ?_⟩) (by assumption) ?_
                      rotate_left
                      · (intro w hSw; (try dsimp only at hSw); go_simp) <;> with_reducible rfl
                      try simp only [Act.put, List.setIfInBounds_toArray, List.set_cons_zero, List.set_cons_succ, List.getElem_toArray, List.getElem_cons_succ, List.getElem_cons_zero]
                      refine wpAnyH_take (i := 15) (v := ?_) rfl (by kernel_rfl) (by kernel_rfl) (by kernel_rfl) (fun _ _ _ h => h) (Or.inl ⟨by rfl, ?_⟩) (by assumption) ?_
                      rotate_left
                      · (intro w hSw; (try dsimp only at hSw); go_simp) <;> with_reducible rfl
                      try simp only [Act.put, List.setIfInBounds_toArray, List.set_cons_zero, List.set_cons_succ, List.getElem_toArray, List.getElem_cons_succ, List.getElem_cons_zero]
                      refine wpAnyH_take (i := 16) (v := ?_) rfl (by kernel_rfl) (by kernel_rfl) (by kernel_rfl) (fun _ _ _ h => h) (Or.inl ⟨by rfl, ?_⟩) (by assumption) ?_
                      rotate_left
                      · (intro w hSw; (try dsimp only at hSw); go_simp) <;> with_reducible rfl
                      try simp only [Act.put, List.setIfInBounds_toArray, List.set_cons_zero, List.set_cons_succ, List.getElem_toArray, List.getElem_cons_succ, List.getElem_cons_zero]
                      refine wpAnyH_take (i := 17) (v := ?_) rfl (by kernel_rfl) (by kernel_rfl) (by kernel_rfl) (fun _ _ _ h => h) (Or.inl ⟨by rfl, ?_⟩) (by assumption) ?_
                      rotate_left
                      · (intro w hSw; (try dsimp only at hSw); go_simp) <;> with_reducible rfl
                      try simp only [Act.put, List.setIfInBounds_toArray, List.set_cons_zero, List.set_cons_succ, List.getElem_toArray, List.getElem_cons_succ, List.getElem_cons_zero]
                      refine wpAnyH_take (i := 18) (v := ?_) rfl (by kernel_rfl) (by kernel_rfl) (by kernel_rfl) (fun _ _ _ h => h) (Or.inl ⟨by rfl, ?_⟩) (by assumption) ?_
                      rotate_left
                      · (intro w hSw; (try dsimp only at hSw); go_simp) <;> with_reducible rfl
                      try simp only [Act.put, List.setIfInBounds_toArray, List.set_cons_zero, List.set_cons_succ, List.getElem_toArray, List.getElem_cons_succ, List.getElem_cons_zero]
                      refine wpAnyH_take (i := 19) (v := ?_) rfl (by kernel_rfl) (by kernel_rfl) (by kernel_rfl) (fun _ _ _ h => h) (Or.inl ⟨by rfl, ?_⟩) (by assumption) ?_
                      rotate_left
                      · (intro w hSw; (try dsimp only at hSw); go_simp) <;> with_reducible rfl
                      try simp only [Act.put, List.setIfInBounds_toArray, List.set_cons_zero, List.set_cons_succ, List.getElem_toArray, List.getElem_cons_succ, List.getElem_cons_zero]
                      refine wpAnyH_take (i := 20) (v := ?_) rfl (by kernel_rfl) (by kernel_rfl) (by kernel_rfl) (fun _ _ _ h => h) (Or.inl ⟨by rfl, ?_⟩) (by assumption) ?_
                      rotate_left
                      · (intro w hSw; (try dsimp only at hSw); go_simp) <;> with_reducible rfl
                      try simp only [Act.put, List.setIfInBounds_toArray, List.set_cons_zero, List.set_cons_succ, List.getElem_toArray, List.getElem_cons_succ, List.getElem_cons_zero]
                      refine wpAnyH_take (i := 21) (v := ?_) rfl (by kernel_rfl) (by kernel_rfl) (by kernel_rfl) (fun _ _ _ h => h) (Or.inl ⟨by rfl, ?_⟩) (by assumption) ?_
                      rotate_left
                      · (intro w hSw; (try dsimp only at hSw); go_simp) <;> with_reducible rfl
                      try simp only [Act.put, List.setIfInBounds_toArray, List.set_cons_zero, List.set_cons_succ, List.getElem_toArray, List.getElem_cons_succ, List.getElem_cons_zero]
                      refine wpAnyH_take (i := 22) (v := ?_) rfl (by kernel_rfl) (by kernel_rfl) (by kernel_rfl) (fun _ _ _ h => h) (Or.inl ⟨by rfl, ?_⟩) (by assumption) ?_
                      rotate_left
                      · (intro w hSw; (try dsimp only at hSw); go_simp) <;> with_reducible rfl
                      try simp only [Act.put, List.setIfInBounds_toArray, List.set_cons_zero, List.set_cons_succ, List.getElem_toArray, List.getElem_cons_succ, List.getElem_cons_zero]
                      refine wpAnyH_take (i := 23) (v := ?_) rfl (by kernel_rfl) (by kernel_rfl) (by kernel_rfl) (fun _ _ _ h => h) (Or.inl ⟨by rfl, ?_⟩) (by assumption) ?_
                      rotate_left
                      · (intro w hSw; (try dsimp only at hSw); go_simp) <;> with_reducible rfl
                      try simp only [Act.put, List.setIfInBounds_toArray, List.set_cons_zero, List.set_cons_succ, List.getElem_toArray, List.getElem_cons_succ, List.getElem_cons_zero]
                      refine wpAnyH_take (i := 24) (v := ?_) rfl (by kernel_rfl) (by kernel_rfl) (by kernel_rfl) (fun _ _ _ h => h) (Or.inl ⟨by rfl, ?_⟩) (by assumption) ?_
                      rotate_left
                      · (intro w hSw; (try dsimp only at hSw); go_simp) <;> with_reducible rfl
                      try simp only [Act.put, List.setIfInBounds_toArray, List.set_cons_zero, List.set_cons_succ, List.getElem_toArray, List.getElem_cons_succ, List.getElem_cons_zero]
                      refine wpAnyH_take (i := 25) (v := ?_) rfl (by kernel_rfl) (by kernel_rfl) (by kernel_rfl) (fun _ _ _ h => h) (Or.inl ⟨by rfl, ?_⟩) (by assumption) ?_
                      rotate_left
                      · (intro w hSw; (try dsimp only at hSw); go_simp) <;> with_reducible rfl
                      try simp only [Act.put, List.setIfInBounds_toArray, List.set_cons_zero, List.set_cons_succ, List.getElem_toArray, List.getElem_cons_succ, List.getElem_cons_zero]
                      refine wpAnyH_take (i := 26) (v := ?_) rfl (by kernel_rfl) (by kernel_rfl) (by kernel_rfl) (fun _ _ _ h => h) (Or.inl ⟨by rfl, ?_⟩) (by assumption) ?_
                      rotate_left
                      · (intro w hSw; (try dsimp only at hSw); go_simp) <;> with_reducible rfl
                      try simp only [Act.put, List.setIfInBounds_toArray, List.set_cons_zero, List.set_cons_succ, List.getElem_toArray, List.getElem_cons_succ, List.getElem_cons_zero]
                      refine wpAnyH_take (i := 27) (v := ?_) rfl (by kernel_rfl) (by kernel_rfl) (by kernel_rfl) (fun _ _ _ h => h) (Or.inl ⟨by rfl, ?_⟩) (by assumption) ?_
                      rotate_left
                      · (intro w hSw; (try dsimp only at hSw); go_simp) <;> with_reducible rfl
                      try simp only [Act.put, List.setIfInBounds_toArray, List.set_cons_zero, List.set_cons_succ, List.getElem_toArray, List.getElem_cons_succ, List.getElem_cons_zero]
                      refine wpAnyH_take (i := 28) (v := ?_) rfl (by kernel_rfl) (by kernel_rfl) (by kernel_rfl) (fun _ _ _ h => h) (Or.inl ⟨by rfl, ?_⟩) (by assumption) ?_
                      rotate_left
                      · (intro w hSw; (try dsimp only at hSw); go_simp) <;> with_reducible rfl
                      try simp only [Act.put, List.setIfInBounds_toArray, List.set_cons_zero, List.set_cons_succ, List.getElem_toArray, List.getElem_cons_succ, List.getElem_cons_zero]
                      refine wpAnyH_take (i := 29) (v := ?_) rfl (by kernel_rfl) (by kernel_rfl) (by kernel_rfl) (fun _ _ _ h => h) (Or.inl ⟨by rfl, ?_⟩) (by assumption) ?_
                      rotate_left
                      · (intro w hSw; (try dsimp only at hSw); go_simp) <;> with_reducible rfl
                      try simp only [Act.put, List.setIfInBounds_toArray, List.set_cons_zero, List.set_cons_succ, List.getElem_toArray, List.getElem_cons_succ, List.getElem_cons_zero]
                      refine wpAnyH_take (i := 30) (v := ?_) rfl (by kernel_rfl) (by kernel_rfl) (by kernel_rfl) (fun _ _ _ h => h) (Or.inl ⟨by rfl, ?_⟩) (by assumption) ?_
                      rotate_left
                      · (intro w hSw; (try dsimp only at hSw); go_simp) <;> with_reducible rfl
                      try simp only [Act.put, List.setIfInBounds_toArray, List.set_cons_zero, List.set_cons_succ, List.getElem_toArray, List.getElem_cons_succ, List.getElem_cons_zero]
                      refine wpAnyH_take (i := 31) (v := ?_) rfl (by kernel_rfl) (by kernel_rfl) (by kernel_rfl) (fun _ _ _ h => h) (Or.inl ⟨by rfl, ?_⟩) (by assumption) ?_
                      rotate_left
                      · (intro w hSw; (try dsimp only at hSw); go_simp) <;> with_reducible rfl
                      try simp only [Act.put, List.setIfInBounds_toArray, List.set_cons_zero, List.set_cons_succ, List.getElem_toArray, List.getElem_cons_succ, List.getElem_cons_zero]
                      refine wpAnyH_take (i := 32) (v := ?_) rfl (by kernel_rfl) (by kernel_rfl) (by kernel_rfl) (fun _ _ _ h => h) (Or.inl ⟨by rfl, ?_⟩) (by assumption) ?_
                      rotate_left
                      · (intro w hSw; (try dsimp only at hSw); go_simp) <;> with_reducible rfl
                      try simp only [Act.put, List.setIfInBounds_toArray, List.set_cons_zero, List.set_cons_succ, List.getElem_toArray, List.getElem_cons_succ, List.getElem_cons_zero]
                      refine wpAnyH_take (i := 33) (v := ?_) rfl (by kernel_rfl) (by kernel_rfl) (by kernel_rfl) (fun _ _ _ h => h) (Or.inl ⟨by rfl, ?_⟩) (by assumption) ?_
                      rotate_left
                      · (intro w hSw; (try dsimp only at hSw); go_simp) <;> with_reducible rfl
                      try simp only [Act.put, List.setIfInBounds_toArray, List.set_cons_zero, List.set_cons_succ, List.getElem_toArray, List.getElem_cons_succ, List.getElem_cons_zero]
                      refine wpAnyH_take (i := 34) (v := ?_) rfl (by kernel_rfl) (by kernel_rfl) (by kernel_rfl) (fun _ _ _ h => h) (Or.inl ⟨by rfl, ?_⟩) (by assumption) ?_
                      rotate_left
                      · (intro w hSw; (try dsimp only at hSw); go_simp) <;> with_reducible rfl
                      try simp only [Act.put, List.setIfInBounds_toArray, List.set_cons_zero, List.set_cons_succ, List.getElem_toArray, List.getElem_cons_succ, List.getElem_cons_zero]
                      refine wpAnyH_take (i := 35) (v := ?_) rfl (by kernel_rfl) (by kernel_rfl) (by kernel_rfl) (fun _ _ _ h => h) (Or.inl ⟨by rfl, ?_⟩) (by assumption) ?_
                      rotate_left
                      · (intro w hSw; (try dsimp only at hSw); go_simp) <;> with_reducible rfl
                      try simp only [Act.put, List.setIfInBounds_toArray, List.set_cons_zero, List.set_cons_succ, List.getElem_toArray, List.getElem_cons_succ, List.getElem_cons_zero]
                      refine wpAnyH_take (i := 36) (v := ?_) rfl (by kernel_rfl) (by kernel_rfl) (by kernel_rfl) (fun _ _ _ h => h) (Or.inl ⟨by rfl, ?_⟩) (by assumption) ?_
                      rotate_left
                      · (intro w hSw; (try dsimp only at hSw); go_simp) <;> with_reducible rfl
                      try simp only [Act.put, List.setIfInBounds_toArray, List.set_cons_zero, List.set_cons_succ, List.getElem_toArray, List.getElem_cons_succ, List.getElem_cons_zero]
                      refine wpAnyH_take (i := 37) (v := ?_) rfl (by kernel_rfl) (by kernel_rfl) (by kernel_rfl) (fun _ _ _ h => h) (Or.inl ⟨by rfl, ?_⟩) (by assumption) ?_
                      rotate_left
                      · (intro w hSw; (try dsimp only at hSw); go_simp) <;> with_reducible rfl
                      try simp only [Act.put, List.setIfInBounds_toArray, List.set_cons_zero, List.set_cons_succ, List.getElem_toArray, List.getElem_cons_succ, List.getElem_cons_zero]
                      refine wpAnyH_take (i := 38) (v := ?_) rfl (by kernel_rfl) (by kernel_rfl) (by kernel_rfl) (fun _ _ _ h => h) (Or.inl ⟨by rfl, ?_⟩) (by assumption) ?_
                      rotate_left
                      · (intro w hSw; (try dsimp only at hSw); go_simp) <;> with_reducible rfl
                      try simp only [Act.put, List.setIfInBounds_toArray, List.set_cons_zero, List.set_cons_succ, List.getElem_toArray, List.getElem_cons_succ, List.getElem_cons_zero]
                      refine wpAnyH_take (i := 39) (v := ?_) rfl (by kernel_rfl) (by kernel_rfl) (by kernel_rfl) (fun _ _ _ h => h) (Or.inl ⟨by rfl, ?_⟩) (by assumption) ?_
                      rotate_left
                      · (intro w hSw; (try dsimp only at hSw); go_simp) <;> with_reducible rfl
                      try simp only [Act.put, List.setIfInBounds_toArray, List.set_cons_zero, List.set_cons_succ, List.getElem_toArray, List.getElem_cons_succ, List.getElem_cons_zero]
                      refine wpAnyH_take (i := 40) (v := ?_) rfl (by kernel_rfl) (by kernel_rfl) (by kernel_rfl) (fun _ _ _ h => h) (Or.inl ⟨by rfl, ?_⟩) (by assumption) ?_
                      rotate_left
                      · (intro w hSw; (try dsimp only at hSw); go_simp) <;> with_reducible rfl
                      try simp only [Act.put, List.setIfInBounds_toArray, List.set_cons_zero, List.set_cons_succ, List.getElem_toArray, List.getElem_cons_succ, List.getElem_cons_zero]
                      refine wpAnyH_take (i := 41) (v := ?_) rfl (by kernel_rfl) (by kernel_rfl) (by kernel_rfl) (fun _ _ _ h => h) (Or.inl ⟨by rfl, ?_⟩) (by assumption) ?_
                      rotate_left
                      · (intro w hSw; (try dsimp only at hSw); go_simp) <;> with_reducible rfl
                      try simp only [Act.put, List.setIfInBounds_toArray, List.set_cons_zero, List.set_cons_succ, List.getElem_toArray, List.getElem_cons_succ, List.getElem_cons_zero]
                      refine wpAnyH_take (i := 42) (v := ?_) rfl (by kernel_rfl) (by kernel_rfl) (by kernel_rfl) (fun _ _ _ h => h) (Or.inl ⟨by rfl, ?_⟩) (by assumption) ?_
                      rotate_left
                      · (intro w hSw; (try dsimp only at hSw); go_simp) <;> with_reducible rfl
                      try simp only [Act.put, List.setIfInBounds_toArray, List.set_cons_zero, List.set_cons_succ, List.getElem_toArray, List.getElem_cons_succ, List.getElem_cons_zero]
                      refine wpAnyH_take (i := 43) (v := ?_) rfl (by kernel_rfl) (by kernel_rfl) (by kernel_rfl) (fun _ _ _ h => h) (Or.inl ⟨by rfl, ?_⟩) (by assumption) ?_
                      rotate_left
                      · (intro w hSw; (try dsimp only at hSw); go_simp) <;> with_reducible rfl
                      try simp only [Act.put, List.setIfInBounds_toArray, List.set_cons_zero, List.set_cons_succ, List.getElem_toArray, List.getElem_cons_succ, List.getElem_cons_zero]
                      refine wpAnyH_take (i := 44) (v := ?_) rfl (by kernel_rfl) (by kernel_rfl) (by kernel_rfl) (fun _ _ _ h => h) (Or.inl ⟨by rfl, ?_⟩) (by assumption) ?_
                      rotate_left
                      · (intro w hSw; (try dsimp only at hSw); go_simp) <;> with_reducible rfl
                      try simp only [Act.put, List.setIfInBounds_toArray, List.set_cons_zero, List.set_cons_succ, List.getElem_toArray, List.getElem_cons_succ, List.getElem_cons_zero]
                      refine wpAnyH_take (i := 45) (v := ?_) rfl (by kernel_rfl) (by kernel_rfl) (by kernel_rfl) (fun _ _ _ h => h) (Or.inl ⟨by rfl, ?_⟩) (by assumption) ?_
                      rotate_left
                      · (intro w hSw; (try dsimp only at hSw); go_simp) <;> with_reducible rfl
                      try simp only [Act.put, List.setIfInBounds_toArray, List.set_cons_zero, List.set_cons_succ, List.getElem_toArray, List.getElem_cons_succ, List.getElem_cons_zero]
                      refine wpAnyH_take (i := 46) (v := ?_) rfl (by kernel_rfl) (by kernel_rfl) (by kernel_rfl) (fun _ _ _ h => h) (Or.inl ⟨by rfl, ?_⟩) (by assumption) ?_
                      rotate_left
                      · (intro w hSw; (try dsimp only at hSw); go_simp) <;> with_reducible rfl
                      try simp only [Act.put, List.setIfInBounds_toArray, List.set_cons_zero, List.set_cons_succ, List.getElem_toArray, List.getElem_cons_succ, List.getElem_cons_zero]
                      refine wpAnyH_take (i := 47) (v := ?_) rfl (by kernel_rfl) (by kernel_rfl) (by kernel_rfl) (fun _ _ _ h => h) (Or.inl ⟨by rfl, ?_⟩) (by assumption) ?_
                      rotate_left
                      · (intro w hSw; (try dsimp only at hSw); go_simp) <;> with_reducible rfl
                      try simp only [Act.put, List.setIfInBounds_toArray, List.set_cons_zero, List.set_cons_succ, List.getElem_toArray, List.getElem_cons_succ, List.getElem_cons_zero]
                      refine wpAnyH_take (i := 48) (v := ?_) rfl (by kernel_rfl) (by kernel_rfl) (by kernel_rfl) (fun _ _ _ h => h) (Or.inl ⟨by rfl, ?_⟩) (by assumption) ?_
                      rotate_left
                      · (intro w hSw; (try dsimp only at hSw); go_simp) <;> with_reducible rfl
                      try simp only [Act.put, List.setIfInBounds_toArray, List.set_cons_zero, List.set_cons_succ, List.getElem_toArray, List.getElem_cons_succ, List.getElem_cons_zero]
                      refine wpAnyH_take (i := 49) (v := ?_) rfl (by kernel_rfl) (by kernel_rfl) (by kernel_rfl) (fun _ _ _ h => h) (Or.inl ⟨by rfl, ?_⟩) (by assumption) ?_
                      rotate_left
                      · (intro w hSw; (try dsimp only at hSw); go_simp) <;> with_reducible rfl
                      try simp only [Act.put, List.setIfInBounds_toArray, List.set_cons_zero, List.set_cons_succ, List.getElem_toArray, List.getElem_cons_succ, List.getElem_cons_zero]
                      refine wpAnyH_take (i := 50) (v := ?_) rfl (by kernel_rfl) (by kernel_rfl) (by kernel_rfl) (fun _ _ _ h => h) (Or.inl ⟨by rfl, ?_⟩) (by assumption) ?_
                      rotate_left
                      · (intro w hSw; (try dsimp only at hSw); go_simp) <;> with_reducible rfl
                      try simp only [Act.put, List.setIfInBounds_toArray, List.set_cons_zero, List.set_cons_succ, List.getElem_toArray, List.getElem_cons_succ, List.getElem_cons_zero]
                      refine wpAnyH_take (i := 51) (v := ?_) rfl (by kernel_rfl) (by kernel_rfl) (by kernel_rfl) (fun _ _ _ h => h) (Or.inl ⟨by rfl, ?_⟩) (by assumption) ?_
                      rotate_left
                      · (intro w hSw; (try dsimp only at hSw); go_simp) <;> with_reducible rfl
                      try simp only [Act.put, List.setIfInBounds_toArray, List.set_cons_zero, List.set_cons_succ, List.getElem_toArray, List.getElem_cons_succ, List.getElem_cons_zero]
                      refine wpAnyH_take (i := 52) (v := ?_) rfl (by kernel_rfl) (by kernel_rfl) (by kernel_rfl) (fun _ _ _ h => h) (Or.inl ⟨by rfl, ?_⟩) (by assumption) ?_
                      rotate_left
                      · (intro w hSw; (try dsimp only at hSw); go_simp) <;> with_reducible rfl
                      try simp only [Act.put, List.setIfInBounds_toArray, List.set_cons_zero, List.set_cons_succ, List.getElem_toArray, List.getElem_cons_succ, List.getElem_cons_zero]
                      refine wpAnyH_take (i := 53) (v := ?_) rfl (by kernel_rfl) (by kernel_rfl) (by kernel_rfl) (fun _ _ _ h => h) (Or.inl ⟨by rfl, ?_⟩) (by assumption) ?_
                      rotate_left
                      · (intro w hSw; (try dsimp only at hSw); go_simp) <;> with_reducible rfl
                      try simp only [Act.put, List.setIfInBounds_toArray, List.set_cons_zero, List.set_cons_succ, List.getElem_toArray, List.getElem_cons_succ, List.getElem_cons_zero]
                      refine wpAnyH_take (i := 54) (v := ?_) rfl (by kernel_rfl) (by kernel_rfl) (by kernel_rfl) (fun _ _ _ h => h) (Or.inl ⟨by rfl, ?_⟩) (by assumption) ?_
                      rotate_left
                      · (intro w hSw; (try dsimp only at hSw); go_simp) <;> with_reducible rfl
                      try simp only [Act.put, List.setIfInBounds_toArray, List.set_cons_zero, List.set_cons_succ, List.getElem_toArray, List.getElem_cons_succ, List.getElem_cons_zero]
                      refine wpAnyH_take (i := 55) (v := ?_) rfl (by kernel_rfl) (by kernel_rfl) (by kernel_rfl) (fun _ _ _ h => h) (Or.inl ⟨by rfl, ?_⟩) (by assumption) ?_
                      rotate_left
                      · (intro w hSw; (try dsimp only at hSw); go_simp) <;> with_reducible rfl
                      try simp only [Act.put, List.setIfInBounds_toArray, List.set_cons_zero, List.set_cons_succ, List.getElem_toArray, List.getElem_cons_succ, List.getElem_cons_zero]
                      refine wpAnyH_take (i := 56) (v := ?_) rfl (by kernel_rfl) (by kernel_rfl) (by kernel_rfl) (fun _ _ _ h => h) (Or.inl ⟨by rfl, ?_⟩) (by assumption) ?_
                      rotate_left
                      · (intro w hSw; (try dsimp only at hSw); go_simp) <;> with_reducible rfl
                      try simp only [Act.put, List.setIfInBounds_toArray, List.set_cons_zero, List.set_cons_succ, List.getElem_toArray, List.getElem_cons_succ, List.getElem_cons_zero]
                      refine wpAnyH_done (by kernel_rfl) ?_ _
                      have HQ2 := Lib.hid (Hq.out.drew)
                      go_wp2
                      go_roundw
                      case rel => exact ⟨q + 1, by go_num, by omega, HQ2.out⟩
                      case measure => simp [intOf]; omega
                    · skip
                      have s1 := beq_str_ne hc
                      clear hl
                      go_wp2
                      refine wp_region_held_drew (S := (fun w' => w'.cell? ⟨gx, ox + q * 5, none⟩ = some (.string ck) ∧ w'.cell? ⟨go, oo + k, none⟩ = some (.string cd) ∧ w'.cell? ⟨gx, ox + q * 5 + 3, none⟩ = some (.int .i64 pt) ∧ w'.cell? ⟨gx, ox + q * 5 + 4, none⟩ = some (.int .i64 lt) ∧ w'.cell? ⟨gn, on + k, none⟩ = some (.int .i64 pc))) (by kernel_rfl) ?_ (fun hHeld => ?_)
                      · (try dsimp only); first | (go_split_ands; exact ⟨by assumption, by assumption, by assumption, by assumption, by assumption⟩) | go_keep
                      refine wpAnyH_take (i := 0) (v := ?_) rfl (by kernel_rfl) (by kernel_rfl) (by kernel_rfl) (fun _ _ _ h => h) (Or.inl ⟨by rfl, ?_⟩) (by assumption) ?_
                      rotate_left
                      · (intro w hSw; (try dsimp only at hSw); go_simp) <;> with_reducible rfl
                      try simp only [Act.put, List.setIfInBounds_toArray, List.set_cons_zero, List.set_cons_succ, List.getElem_toArray, List.getElem_cons_succ, List.getElem_cons_zero]
                      refine wpAnyH_take (i := 1) (v := ?_) rfl (by kernel_rfl) (by kernel_rfl) (by kernel_rfl) (fun _ _ _ h => h) (Or.inl ⟨by rfl, ?_⟩) (by assumption) ?_
                      rotate_left
                      · (intro w hSw; (try dsimp only at hSw); go_simp) <;> with_reducible rfl
                      try simp only [Act.put, List.setIfInBounds_toArray, List.set_cons_zero, List.set_cons_succ, List.getElem_toArray, List.getElem_cons_succ, List.getElem_cons_zero]
                      refine wpAnyH_take (i := 2) (v := ?_) rfl (by kernel_rfl) (by kernel_rfl) (by kernel_rfl) (fun _ _ _ h => h) (Or.inl ⟨by rfl, ?_⟩) (by assumption) ?_
                      rotate_left
                      · (intro w hSw; (try dsimp only at hSw); go_simp) <;> with_reducible rfl
                      try simp only [Act.put, List.setIfInBounds_toArray, List.set_cons_zero, List.set_cons_succ, List.getElem_toArray, List.getElem_cons_succ, List.getElem_cons_zero]
                      refine wpAnyH_take (i := 3) (v := ?_) rfl (by kernel_rfl) (by kernel_rfl) (by kernel_rfl) (fun _ _ _ h => h) (Or.inl ⟨by rfl, ?_⟩) (by assumption) ?_
                      rotate_left
                      · (intro w hSw; (try dsimp only at hSw); go_simp) <;> with_reducible rfl
                      try simp only [Act.put, List.setIfInBounds_toArray, List.set_cons_zero, List.set_cons_succ, List.getElem_toArray, List.getElem_cons_succ, List.getElem_cons_zero]
                      refine wpAnyH_take (i := 4) (v := ?_) rfl (by kernel_rfl) (by kernel_rfl) (by kernel_rfl) (fun _ _ _ h => h) (Or.inl ⟨by rfl, ?_⟩) (by assumption) ?_
                      rotate_left
                      · (intro w hSw; (try dsimp only at hSw); go_simp) <;> with_reducible rfl
                      try simp only [Act.put, List.setIfInBounds_toArray, List.set_cons_zero, List.set_cons_succ, List.getElem_toArray, List.getElem_cons_succ, List.getElem_cons_zero]
                      refine wpAnyH_take (i := 5) (v := ?_) rfl (by kernel_rfl) (by kernel_rfl) (by kernel_rfl) (fun _ _ _ h => h) (Or.inl ⟨by rfl, ?_⟩) (by assumption) ?_
                      rotate_left
                      · (intro w hSw; (try dsimp only at hSw); go_simp) <;> with_reducible rfl
                      try simp only [Act.put, List.setIfInBounds_toArray, List.set_cons_zero, List.set_cons_succ, List.getElem_toArray, List.getElem_cons_succ, List.getElem_cons_zero]
                      refine wpAnyH_take (i := 6) (v := ?_) rfl (by kernel_rfl) (by kernel_rfl) (by kernel_rfl) (fun _ _ _ h => h) (Or.inl ⟨by rfl, ?_⟩) (by assumption) ?_
                      rotate_left
                      · (intro w hSw; (try dsimp only at hSw); go_simp) <;> with_reducible rfl
                      try simp only [Act.put, List.setIfInBounds_toArray, List.set_cons_zero, List.set_cons_succ, List.getElem_toArray, List.getElem_cons_succ, List.getElem_cons_zero]
                      refine wpAnyH_take (i := 7) (v := ?_) rfl (by kernel_rfl) (by kernel_rfl) (by kernel_rfl) (fun _ _ _ h => h) (Or.inl ⟨by rfl, ?_⟩) (by assumption) ?_
                      rotate_left
                      · (intro w hSw; (try dsimp only at hSw); go_simp) <;> with_reducible rfl
                      try simp only [Act.put, List.setIfInBounds_toArray, List.set_cons_zero, List.set_cons_succ, List.getElem_toArray, List.getElem_cons_succ, List.getElem_cons_zero]
                      refine wpAnyH_take (i := 8) (v := ?_) rfl (by kernel_rfl) (by kernel_rfl) (by kernel_rfl) (fun _ _ _ h => h) (Or.inl ⟨by rfl, ?_⟩) (by assumption) ?_
                      rotate_left
                      · (intro w hSw; (try dsimp only at hSw); go_simp) <;> with_reducible rfl
                      try simp only [Act.put, List.setIfInBounds_toArray, List.set_cons_zero, List.set_cons_succ, List.getElem_toArray, List.getElem_cons_succ, List.getElem_cons_zero]
                      refine wpAnyH_take (i := 9) (v := ?_) rfl (by kernel_rfl) (by kernel_rfl) (by kernel_rfl) (fun _ _ _ h => h) (Or.inl ⟨by rfl, ?_⟩) (by assumption) ?_
                      rotate_left
                      · (intro w hSw; (try dsimp only at hSw); go_simp) <;> with_reducible rfl
                      try simp only [Act.put, List.setIfInBounds_toArray, List.set_cons_zero, List.set_cons_succ, List.getElem_toArray, List.getElem_cons_succ, List.getElem_cons_zero]
                      refine wpAnyH_take (i := 10) (v := ?_) rfl (by kernel_rfl) (by kernel_rfl) (by kernel_rfl) (fun _ _ _ h => h) (Or.inl ⟨by rfl, ?_⟩) (by assumption) ?_
                      rotate_left
                      · (intro w hSw; (try dsimp only at hSw); go_simp) <;> with_reducible rfl
                      try simp only [Act.put, List.setIfInBounds_toArray, List.set_cons_zero, List.set_cons_succ, List.getElem_toArray, List.getElem_cons_succ, List.getElem_cons_zero]
                      refine wpAnyH_take (i := 11) (v := undef) rfl (by kernel_rfl) (by kernel_rfl) (by kernel_rfl) (fun _ _ _ h => h) (Or.inr ⟨by rfl, rfl⟩) (by assumption) ?_
                      try simp only [Act.put, List.setIfInBounds_toArray, List.set_cons_zero, List.set_cons_succ, List.getElem_toArray, List.getElem_cons_succ, List.getElem_cons_zero]
                      refine wpAnyH_take (i := 12) (v := undef) rfl (by kernel_rfl) (by kernel_rfl) (by kernel_rfl) (fun _ _ _ h => h) (Or.inr ⟨by rfl, rfl⟩) (by assumption) ?_
                      try simp only [Act.put, List.setIfInBounds_toArray, List.set_cons_zero, List.set_cons_succ, List.getElem_toArray, List.getElem_cons_succ, List.getElem_cons_zero]
                      refine wpAnyH_take (i := 13) (v := undef) rfl (by kernel_rfl) (by kernel_rfl) (by kernel_rfl) (fun _ _ _ h => h) (Or.inr ⟨by rfl, rfl⟩) (by assumption) ?_
                      try simp only [Act.put, List.setIfInBounds_toArray, List.set_cons_zero, List.set_cons_succ, List.getElem_toArray, List.getElem_cons_succ, List.getElem_cons_zero]
                      refine wpAnyH_take (i := 14) (v := undef) rfl (by kernel_rfl) (by kernel_rfl) (by kernel_rfl) (fun _ _ _ h => h) (Or.inr ⟨by rfl, rfl⟩) (by assumption) ?_
                      try simp only [Act.put, List.setIfInBounds_toArray, List.set_cons_zero, List.set_cons_succ, List.getElem_toArray, List.getElem_cons_succ, List.getElem_cons_zero]
                      refine wpAnyH_take (i := 15) (v := undef) rfl (by kernel_rfl) (by kernel_rfl) (by kernel_rfl) (fun _ _ _ h => h) (Or.inr ⟨by rfl, rfl⟩) (by assumption) ?_
                      try simp only [Act.put, List.setIfInBounds_toArray, List.set_cons_zero, List.set_cons_succ, List.getElem_toArray, List.getElem_cons_succ, List.getElem_cons_zero]
                      refine wpAnyH_take (i := 16) (v := undef) rfl (by kernel_rfl) (by kernel_rfl) (by kernel_rfl) (fun _ _ _ h => h) (Or.inr ⟨by rfl, rfl⟩) (by assumption) ?_
                      try simp only [Act.put, List.setIfInBounds_toArray, List.set_cons_zero, List.set_cons_succ, List.getElem_toArray, List.getElem_cons_succ, List.getElem_cons_zero]
                      refine wpAnyH_take (i := 17) (v := undef) rfl (by kernel_rfl) (by kernel_rfl) (by kernel_rfl) (fun _ _ _ h => h) (Or.inr ⟨by rfl, rfl⟩) (by assumption) ?_
                      try simp only [Act.put, List.setIfInBounds_toArray, List.set_cons_zero, List.set_cons_succ, List.getElem_toArray, List.getElem_cons_succ, List.getElem_cons_zero]
                      refine wpAnyH_take (i := 18) (v := undef) rfl (by kernel_rfl) (by kernel_rfl) (by kernel_rfl) (fun _ _ _ h => h) (Or.inr ⟨by rfl, rfl⟩) (by assumption) ?_
                      try simp only [Act.put, List.setIfInBounds_toArray, List.set_cons_zero, List.set_cons_succ, List.getElem_toArray, List.getElem_cons_succ, List.getElem_cons_zero]
                      refine wpAnyH_take (i := 19) (v := undef) rfl (by kernel_rfl) (by kernel_rfl) (by kernel_rfl) (fun _ _ _ h => h) (Or.inr ⟨by rfl, rfl⟩) (by assumption) ?_
                      try simp only [Act.put, List.setIfInBounds_toArray, List.set_cons_zero, List.set_cons_succ, List.getElem_toArray, List.getElem_cons_succ, List.getElem_cons_zero]
                      refine wpAnyH_take (i := 20) (v := undef) rfl (by kernel_rfl) (by kernel_rfl) (by kernel_rfl) (fun _ _ _ h => h) (Or.inr ⟨by rfl, rfl⟩) (by assumption) ?_
                      try simp only [Act.put, List.setIfInBounds_toArray, List.set_cons_zero, List.set_cons_succ, List.getElem_toArray, List.getElem_cons_succ, List.getElem_cons_zero]
                      refine wpAnyH_take (i := 21) (v := undef) rfl (by kernel_rfl) (by kernel_rfl) (by kernel_rfl) (fun _ _ _ h => h) (Or.inr ⟨by rfl, rfl⟩) (by assumption) ?_
                      try simp only [Act.put, List.setIfInBounds_toArray, List.set_cons_zero, List.set_cons_succ, List.getElem_toArray, List.getElem_cons_succ, List.getElem_cons_zero]
                      refine wpAnyH_take (i := 22) (v := undef) rfl (by kernel_rfl) (by kernel_rfl) (by kernel_rfl) (fun _ _ _ h => h) (Or.inr ⟨by rfl, rfl⟩) (by assumption) ?_
                      try simp only [Act.put, List.setIfInBounds_toArray, List.set_cons_zero, List.set_cons_succ, List.getElem_toArray, List.getElem_cons_succ, List.getElem_cons_zero]
                      refine wpAnyH_take (i := 23) (v := undef) rfl (by kernel_rfl) (by kernel_rfl) (by kernel_rfl) (fun _ _ _ h => h) (Or.inr ⟨by rfl, rfl⟩) (by assumption) ?_
                      try simp only [Act.put, List.setIfInBounds_toArray, List.set_cons_zero, List.set_cons_succ, List.getElem_toArray, List.getElem_cons_succ, List.getElem_cons_zero]
                      refine wpAnyH_take (i := 24) (v := undef) rfl (by kernel_rfl) (by kernel_rfl) (by kernel_rfl) (fun _ _ _ h => h) (Or.inr ⟨by rfl, rfl⟩) (by assumption) ?_
                      try simp only [Act.put, List.setIfInBounds_toArray, List.set_cons_zero, List.set_cons_succ, List.getElem_toArray, List.getElem_cons_succ, List.getElem_cons_zero]
                      refine wpAnyH_take (i := 25) (v := undef) rfl (by kernel_rfl) (by kernel_rfl) (by kernel_rfl) (fun _ _ _ h => h) (Or.inr ⟨by rfl, rfl⟩) (by assumption) ?_
                      try simp only [Act.put, List.setIfInBounds_toArray, List.set_cons_zero, List.set_cons_succ, List.getElem_toArray, List.getElem_cons_succ, List.getElem_cons_zero]
                      refine wpAnyH_take (i := 26) (v := undef) rfl (by kernel_rfl) (by kernel_rfl) (by kernel_rfl) (fun _ _ _ h => h) (Or.inr ⟨by rfl, rfl⟩) (by assumption) ?_
                      try simp only [Act.put, List.setIfInBounds_toArray, List.set_cons_zero, List.set_cons_succ, List.getElem_toArray, List.getElem_cons_succ, List.getElem_cons_zero]
                      refine wpAnyH_take (i := 27) (v := undef) rfl (by kernel_rfl) (by kernel_rfl) (by kernel_rfl) (fun _ _ _ h => h) (Or.inr ⟨by rfl, rfl⟩) (by assumption) ?_
                      try simp only [Act.put, List.setIfInBounds_toArray, List.set_cons_zero, List.set_cons_succ, List.getElem_toArray, List.getElem_cons_succ, List.getElem_cons_zero]
                      refine wpAnyH_take (i := 28) (v := undef) rfl (by kernel_rfl) (by kernel_rfl) (by kernel_rfl) (fun _ _ _ h => h) (Or.inr ⟨by rfl, rfl⟩) (by assumption) ?_
                      try simp only [Act.put, List.setIfInBounds_toArray, List.set_cons_zero, List.set_cons_succ, List.getElem_toArray, List.getElem_cons_succ, List.getElem_cons_zero]
                      refine wpAnyH_take (i := 29) (v := undef) rfl (by kernel_rfl) (by kernel_rfl) (by kernel_rfl) (fun _ _ _ h => h) (Or.inr ⟨by rfl, rfl⟩) (by assumption) ?_
                      try simp only [Act.put, List.setIfInBounds_toArray, List.set_cons_zero, List.set_cons_succ, List.getElem_toArray, List.getElem_cons_succ, List.getElem_cons_zero]
                      refine wpAnyH_take (i := 30) (v := undef) rfl (by kernel_rfl) (by kernel_rfl) (by kernel_rfl) (fun _ _ _ h => h) (Or.inr ⟨by rfl, rfl⟩) (by assumption) ?_
                      try simp only [Act.put, List.setIfInBounds_toArray, List.set_cons_zero, List.set_cons_succ, List.getElem_toArray, List.getElem_cons_succ, List.getElem_cons_zero]
                      refine wpAnyH_take (i := 31) (v := undef) rfl (by kernel_rfl) (by kernel_rfl) (by kernel_rfl) (fun _ _ _ h => h) (Or.inr ⟨by rfl, rfl⟩) (by assumption) ?_
                      try simp only [Act.put, List.setIfInBounds_toArray, List.set_cons_zero, List.set_cons_succ, List.getElem_toArray, List.getElem_cons_succ, List.getElem_cons_zero]
                      refine wpAnyH_take (i := 32) (v := undef) rfl (by kernel_rfl) (by kernel_rfl) (by kernel_rfl) (fun _ _ _ h => h) (Or.inr ⟨by rfl, rfl⟩) (by assumption) ?_
                      try simp only [Act.put, List.setIfInBounds_toArray, List.set_cons_zero, List.set_cons_succ, List.getElem_toArray, List.getElem_cons_succ, List.getElem_cons_zero]
                      refine wpAnyH_take (i := 33) (v := undef) rfl (by kernel_rfl) (by kernel_rfl) (by kernel_rfl) (fun _ _ _ h => h) (Or.inr ⟨by rfl, rfl⟩) (by assumption) ?_
                      try simp only [Act.put, List.setIfInBounds_toArray, List.set_cons_zero, List.set_cons_succ, List.getElem_toArray, List.getElem_cons_succ, List.getElem_cons_zero]
                      refine wpAnyH_take (i := 34) (v := undef) rfl (by kernel_rfl) (by kernel_rfl) (by kernel_rfl) (fun _ _ _ h => h) (Or.inr ⟨by rfl, rfl⟩) (by assumption) ?_
                      try simp only [Act.put, List.setIfInBounds_toArray, List.set_cons_zero, List.set_cons_succ, List.getElem_toArray, List.getElem_cons_succ, List.getElem_cons_zero]
                      refine wpAnyH_take (i := 35) (v := undef) rfl (by kernel_rfl) (by kernel_rfl) (by kernel_rfl) (fun _ _ _ h => h) (Or.inr ⟨by rfl, rfl⟩) (by assumption) ?_
                      try simp only [Act.put, List.setIfInBounds_toArray, List.set_cons_zero, List.set_cons_succ, List.getElem_toArray, List.getElem_cons_succ, List.getElem_cons_zero]
                      refine wpAnyH_take (i := 36) (v := undef) rfl (by kernel_rfl) (by kernel_rfl) (by kernel_rfl) (fun _ _ _ h => h) (Or.inr ⟨by rfl, rfl⟩) (by assumption) ?_
                      try simp only [Act.put, List.setIfInBounds_toArray, List.set_cons_zero, List.set_cons_succ, List.getElem_toArray, List.getElem_cons_succ, List.getElem_cons_zero]
                      refine wpAnyH_take (i := 37) (v := undef) rfl (by kernel_rfl) (by kernel_rfl) (by kernel_rfl) (fun _ _ _ h => h) (Or.inr ⟨by rfl, rfl⟩) (by assumption) ?_
                      try simp only [Act.put, List.setIfInBounds_toArray, List.set_cons_zero, List.set_cons_succ, List.getElem_toArray, List.getElem_cons_succ, List.getElem_cons_zero]
                      refine wpAnyH_take (i := 38) (v := undef) rfl (by kernel_rfl) (by kernel_rfl) (by kernel_rfl) (fun _ _ _ h => h) (Or.inr ⟨by rfl, rfl⟩) (by assumption) ?_
                      try simp only [Act.put, List.setIfInBounds_toArray, List.set_cons_zero, List.set_cons_succ, List.getElem_toArray, List.getElem_cons_succ, List.getElem_cons_zero]
                      refine wpAnyH_take (i := 39) (v := undef) rfl (by kernel_rfl) (by kernel_rfl) (by kernel_rfl) (fun _ _ _ h => h) (Or.inr ⟨by rfl, rfl⟩) (by assumption) ?_
                      try simp only [Act.put, List.setIfInBounds_toArray, List.set_cons_zero, List.set_cons_succ, List.getElem_toArray, List.getElem_cons_succ, List.getElem_cons_zero]
                      refine wpAnyH_take (i := 40) (v := undef) rfl (by kernel_rfl) (by kernel_rfl) (by kernel_rfl) (fun _ _ _ h => h) (Or.inr ⟨by rfl, rfl⟩) (by assumption) ?_
                      try simp only [Act.put, List.setIfInBounds_toArray, List.set_cons_zero, List.set_cons_succ, List.getElem_toArray, List.getElem_cons_succ, List.getElem_cons_zero]
                      refine wpAnyH_take (i := 41) (v := undef) rfl (by kernel_rfl) (by kernel_rfl) (by kernel_rfl) (fun _ _ _ h => h) (Or.inr ⟨by rfl, rfl⟩) (by assumption) ?_
                      try simp only [Act.put, List.setIfInBounds_toArray, List.set_cons_zero, List.set_cons_succ, List.getElem_toArray, List.getElem_cons_succ, List.getElem_cons_zero]
                      refine wpAnyH_take (i := 42) (v := undef) rfl (by kernel_rfl) (by kernel_rfl) (by kernel_rfl) (fun _ _ _ h => h) (Or.inr ⟨by rfl, rfl⟩) (by assumption) ?_
                      try simp only [Act.put, List.setIfInBounds_toArray, List.set_cons_zero, List.set_cons_succ, List.getElem_toArray, List.getElem_cons_succ, List.getElem_cons_zero]
                      refine wpAnyH_take (i := 43) (v := undef) rfl (by kernel_rfl) (by kernel_rfl) (by kernel_rfl) (fun _ _ _ h => h) (Or.inr ⟨by rfl, rfl⟩) (by assumption) ?_
                      try simp only [Act.put, List.setIfInBounds_toArray, List.set_cons_zero, List.set_cons_succ, List.getElem_toArray, List.getElem_cons_succ, List.getElem_cons_zero]
                      refine wpAnyH_take (i := 44) (v := undef) rfl (by kernel_rfl) (by kernel_rfl) (by kernel_rfl) (fun _ _ _ h => h) (Or.inr ⟨by rfl, rfl⟩) (by assumption) ?_
                      try simp only [Act.put, List.setIfInBounds_toArray, List.set_cons_zero, List.set_cons_succ, List.getElem_toArray, List.getElem_cons_succ, List.getElem_cons_zero]
                      refine wpAnyH_take (i := 45) (v := undef) rfl (by kernel_rfl) (by kernel_rfl) (by kernel_rfl) (fun _ _ _ h => h) (Or.inr ⟨by rfl, rfl⟩) (by assumption) ?_
                      try simp only [Act.put, List.setIfInBounds_toArray, List.set_cons_zero, List.set_cons_succ, List.getElem_toArray, List.getElem_cons_succ, List.getElem_cons_zero]
                      refine wpAnyH_take (i := 46) (v := undef) rfl (by kernel_rfl) (by kernel_rfl) (by kernel_rfl) (fun _ _ _ h => h) (Or.inr ⟨by rfl, rfl⟩) (by assumption) ?_
                      try simp only [Act.put, List.setIfInBounds_toArray, List.set_cons_zero, List.set_cons_succ, List.getElem_toArray, List.getElem_cons_succ, List.getElem_cons_zero]
                      refine wpAnyH_take (i := 47) (v := undef) rfl (by kernel_rfl) (by kernel_rfl) (by kernel_rfl) (fun _ _ _ h => h) (Or.inr ⟨by rfl, rfl⟩) (by assumption) ?_
                      try simp only [Act.put, List.setIfInBounds_toArray, List.set_cons_zero, List.set_cons_succ, List.getElem_toArray, List.getElem_cons_succ, List.getElem_cons_zero]
                      refine wpAnyH_take (i := 48) (v := undef) rfl (by kernel_rfl) (by kernel_rfl) (by kernel_rfl) (fun _ _ _ h => h) (Or.inr ⟨by rfl, rfl⟩) (by assumption) ?_
                      try simp only [Act.put, List.setIfInBounds_toArray, List.set_cons_zero, List.set_cons_succ, List.getElem_toArray, List.getElem_cons_succ, List.getElem_cons_zero]
                      refine wpAnyH_take (i := 49) (v := undef) rfl (by kernel_rfl) (by kernel_rfl) (by kernel_rfl) (fun _ _ _ h => h) (Or.inr ⟨by rfl, rfl⟩) (by assumption) ?_
                      try simp only [Act.put, List.setIfInBounds_toArray, List.set_cons_zero, List.set_cons_succ, List.getElem_toArray, List.getElem_cons_succ, List.getElem_cons_zero]
                      refine wpAnyH_take (i := 50) (v := undef) rfl (by kernel_rfl) (by kernel_rfl) (by kernel_rfl) (fun _ _ _ h => h) (Or.inr ⟨by rfl, rfl⟩) (by assumption) ?_
                      try simp only [Act.put, List.setIfInBounds_toArray, List.set_cons_zero, List.set_cons_succ, List.getElem_toArray, List.getElem_cons_succ, List.getElem_cons_zero]
                      refine wpAnyH_take (i := 51) (v := undef) rfl (by kernel_rfl) (by kernel_rfl) (by kernel_rfl) (fun _ _ _ h => h) (Or.inr ⟨by rfl, rfl⟩) (by assumption) ?_
                      try simp only [Act.put, List.setIfInBounds_toArray, List.set_cons_zero, List.set_cons_succ, List.getElem_toArray, List.getElem_cons_succ, List.getElem_cons_zero]
                      refine wpAnyH_take (i := 52) (v := undef) rfl (by kernel_rfl) (by kernel_rfl) (by kernel_rfl) (fun _ _ _ h => h) (Or.inr ⟨by rfl, rfl⟩) (by assumption) ?_
                      try simp only [Act.put, List.setIfInBounds_toArray, List.set_cons_zero, List.set_cons_succ, List.getElem_toArray, List.getElem_cons_succ, List.getElem_cons_zero]
                      refine wpAnyH_take (i := 53) (v := undef) rfl (by kernel_rfl) (by kernel_rfl) (by kernel_rfl) (fun _ _ _ h => h) (Or.inr ⟨by rfl, rfl⟩) (by assumption) ?_
                      try simp only [Act.put, List.setIfInBounds_toArray, List.set_cons_zero, List.set_cons_succ, List.getElem_toArray, List.getElem_cons_succ, List.getElem_cons_zero]
                      refine wpAnyH_take (i := 54) (v := undef) rfl (by kernel_rfl) (by kernel_rfl) (by kernel_rfl) (fun _ _ _ h => h) (Or.inr ⟨by rfl, rfl⟩) (by assumption) ?_
                      try simp only [Act.put, List.setIfInBounds_toArray, List.set_cons_zero, List.set_cons_succ, List.getElem_toArray, List.getElem_cons_succ, List.getElem_cons_zero]
                      refine wpAnyH_take (i := 55) (v := undef) rfl (by kernel_rfl) (by kernel_rfl) (by kernel_rfl) (fun _ _ _ h => h) (Or.inr ⟨by rfl, rfl⟩) (by assumption) ?_
                      try simp only [Act.put, List.setIfInBounds_toArray, List.set_cons_zero, List.set_cons_succ, List.getElem_toArray, List.getElem_cons_succ, List.getElem_cons_zero]
                      refine wpAnyH_take (i := 56) (v := ?_) rfl (by kernel_rfl) (by kernel_rfl) (by kernel_rfl) (fun _ _ _ h => h) (Or.inl ⟨by rfl, ?_⟩) (by assumption) ?_
                      rotate_left
                      · (intro w hSw; (try dsimp only at hSw); go_simp) <;> with_reducible rfl
                      try simp only [Act.put, List.setIfInBounds_toArray, List.set_cons_zero, List.set_cons_succ, List.getElem_toArray, List.getElem_cons_succ, List.getElem_cons_zero]
                      refine wpAnyH_done (by kernel_rfl) ?_ _
                      have HQ2 := Lib.hid (Hq.out.drew)
                      go_wp2
                      go_roundw
                      case rel => exact ⟨q + 1, by go_num, by omega, HQ2.out⟩
                      case measure => simp [intOf]; omega
                  · skip
                    have Hb9 := Lib.hid (Hb51.out.trans (Hq.out.mono Hb51.out.size))
                    go_wp2
                    go_roundw
                    case rel => exact ⟨k + 1, by go_num, by omega, Hb9.out⟩
                    case measure => simp [intOf]; omega
              · skip
                have HB9 := Lib.hid Hb.out
                go_wp2
                refine Met.intro ?_
                go_step
                (repeat apply Exists.intro)
                refine ⟨?rel, by rw [EX.out]⟩
                case rel => exact HB9.out
          · skip
            have hX : isStock X = false := by simpa using hX
            have ex : (orderList X).2.2 = 1 := by simp [orderList, hX]
            have EX := Lib.hid ex
            rw [ex]
            clear ex hX
            go_wp2
            go_loopw [26] (fun i wr => i = .int .i64 0 ∧ w16 = wr) (fun i _ => 0)
            case atStart => exact ⟨rfl, rfl⟩
            case round =>
              obtain ⟨rfl, rfl⟩ := hrel
              go_wp2
              refine Met.intro ?_
              go_step
              (repeat apply Exists.intro)
              refine ⟨?rel, by rw [EX.out]⟩
              case rel => exact Below.refl _ _
      case rest =>
        as_aux_lemma =>
          have hb17 : Below w16.heap.size w16 wc := hcut
          have b17 := b16.trans (hb17.mono b16.size)
          by_cases h5 : (mergeF LA LB).2 = 0
          · skip
            obtain ⟨m1, m2, m3, m4⟩ := merge_law h5
            rw [h5]
            clear h5
            have M1 := Lib.hid m1
            have M2 := Lib.hid m2
            have M3 := Lib.hid m3
            have M4 := Lib.hid m4
            clear m1 m2 m3 m4
            have NS := mergeF_len LA LB
            have FS := Lib.hid (mergeF_fit FA.out FB.out)
            obtain ⟨SA, hSA⟩ : ∃ SA, SA = amounts LA := ⟨_, rfl⟩
            obtain ⟨SB, hSB⟩ : ∃ SB, SB = amounts LB := ⟨_, rfl⟩
            have qa := amounts_bd M1.out LA.length (Nat.le_refl _)
            have qb := amounts_bd M2.out LB.length (Nat.le_refl _)
            rw [List.take_length, ← hSA] at qa
            rw [List.take_length, ← hSB] at qb
            have la := isStock_le M1.out
            have lb := isStock_le M2.out
            have ls := isStock_le M3.out
            rw [← hSA, ← hSB] at M4
            have HSA := Lib.hid hSA
            have HSB := Lib.hid hSB
            clear hSA hSB
            obtain ⟨S, hS⟩ : ∃ S, S = (mergeF LA LB).1 := ⟨_, rfl⟩
            rw [← hS]
            rw [← hS] at NS FS M3 M4 ls
            have ZS := Lib.hid ((K16Ysi.out.below hb17))
            rw [← hS] at ZS
            clear hS
            go_wp2
            go_loopw [30, 32] (fun s i wr => ∃ (k : Nat) (Y : Int), i = .int .i64 k ∧ k ≤ LA.length ∧ s = .int .i64 Y ∧ Y = 0 + amounts (LA.take k) ∧ Below wc.heap.size wc wr) (fun _ i _ => LA.length - (intOf i).toNat)
            case atStart => exact ⟨0, _, rfl, Nat.zero_le _, rfl, by simp [amounts], Below.refl _ _⟩
            case round =>
              obtain ⟨ka, Ya, rfl, hk, rfl, hY, hb⟩ := hrel
              have Hba := Lib.hid hb
              have hzb := amounts_bd M1.out ka hk
              have HYa := Lib.hid hY
              clear hb
              obtain ⟨va, rfl⟩ : ∃ va : World, va = wr := ⟨_, rfl⟩
              by_cases hlt : ka < LA.length
              · skip
                obtain ⟨ga, oa, rfl, hga, d0, d1, d2, d3, d4⟩ := (Sl.rd (((K16VA.out.below hb17)).below Hba.out)).bin hlt
                clear d0 d2 d3 d4
                have i0 : (0 : Int) ≤ (ka : Int) := Int.natCast_nonneg _
                have i1 : (ka : Int) < (LA.length : Int) := by omega
                have hbx := (stock_bin M1.out hlt).2.1
                have HT := Lib.hid (amounts_take LA hlt)
                have hy1 : -9223372036854775808 ≤ Ya + (binAt LA ka).amount ∧ Ya + (binAt LA ka).amount ≤ 9223372036854775807 := by omega
                clear hY hbx hzb
                have x1 := IntWalk.i64_in _ hy1
                clear hy1
                go_wp2
                go_roundw
                case rel => exact ⟨ka + 1, _, by go_num, by omega, rfl, by rw [HT.out, HYa.out, Int.add_assoc], Hba.out⟩
                case measure => simp [intOf]; omega
              · skip
                have hk9 : ka = LA.length := by omega
                rw [hk9, List.take_length] at hY
                have hb18 : Below wc.heap.size wc va := Hba.out
                have b18 := b17.trans (hb18.mono b17.size)
                have hya : 0 ≤ Ya ∧ Ya ≤ 2000000 := by have := HSA.out; omega
                have eYa : Ya = 0 + SA := by rw [hY, HSA.out]
                have EYa := Lib.hid eYa
                clear HYa hzb hY hk9 hk eYa
                go_wp2
                clear hlt
                go_loopw [30, 33] (fun s i wr => ∃ (k : Nat) (Y : Int), i = .int .i64 k ∧ k ≤ LB.length ∧ s = .int .i64 Y ∧ Y = Ya + amounts (LB.take k) ∧ Below va.heap.size va wr) (fun _ i _ => LB.length - (intOf i).toNat)
                case atStart => exact ⟨0, _, rfl, Nat.zero_le _, rfl, by simp [amounts], Below.refl _ _⟩
                case round =>
                  obtain ⟨kb, Yb, rfl, hk, rfl, hY, hb⟩ := hrel
                  have Hbb := Lib.hid hb
                  have hzb := amounts_bd M2.out kb hk
                  have HYb := Lib.hid hY
                  clear hb
                  obtain ⟨vb, rfl⟩ : ∃ vb : World, vb = wr := ⟨_, rfl⟩
                  by_cases hlt : kb < LB.length
                  · skip
                    obtain ⟨ga, oa, rfl, hga, d0, d1, d2, d3, d4⟩ := (Sl.rd ((((K16VB.out.below hb17).below hb18)).below Hbb.out)).bin hlt
                    clear d0 d2 d3 d4
                    have i0 : (0 : Int) ≤ (kb : Int) := Int.natCast_nonneg _
                    have i1 : (kb : Int) < (LB.length : Int) := by omega
                    have hbx := (stock_bin M2.out hlt).2.1
                    have HT := Lib.hid (amounts_take LB hlt)
                    have hy1 : -9223372036854775808 ≤ Yb + (binAt LB kb).amount ∧ Yb + (binAt LB kb).amount ≤ 9223372036854775807 := by omega
                    clear hY hbx hzb
                    have x1 := IntWalk.i64_in _ hy1
                    clear hy1
                    go_wp2
                    go_roundw
                    case rel => exact ⟨kb + 1, _, by go_num, by omega, rfl, by rw [HT.out, HYb.out, Int.add_assoc], Hbb.out⟩
                    case measure => simp [intOf]; omega
                  · skip
                    have hk9 : kb = LB.length := by omega
                    rw [hk9, List.take_length] at hY
                    have hb19 : Below va.heap.size va vb := Hbb.out
                    have b19 := b18.trans (hb19.mono b18.size)
                    have eYb : Yb = Ya + SB := by rw [hY, HSB.out]
                    have hyb : 0 ≤ Yb ∧ Yb ≤ 4000000 := by have := HSB.out; omega
                    have EYb := Lib.hid eYb
                    clear HYb hzb hY hk9 hk eYb
                    go_wp2
                    clear hlt
                    go_loopw [31, 34] (fun s i wr => ∃ (k : Nat) (Y : Int), i = .int .i64 k ∧ k ≤ S.length ∧ s = .int .i64 Y ∧ Y = 0 + amounts (S.take k) ∧ Below vb.heap.size vb wr) (fun _ i _ => S.length - (intOf i).toNat)
                    case atStart => exact ⟨0, _, rfl, Nat.zero_le _, rfl, by simp [amounts], Below.refl _ _⟩
                    case round =>
                      obtain ⟨kc, Yc, rfl, hk, rfl, hY, hb⟩ := hrel
                      have Hbc := Lib.hid hb
                      have hzb := amounts_bd M3.out kc hk
                      have HYc := Lib.hid hY
                      clear hb
                      obtain ⟨vc, rfl⟩ : ∃ vc : World, vc = wr := ⟨_, rfl⟩
                      by_cases hlt : kc < S.length
                      · skip
                        obtain ⟨ga, oa, rfl, hga, d0, d1, d2, d3, d4⟩ := (Sl.rd ((((ZS.out.below hb18).below hb19)).below Hbc.out)).bin hlt
                        clear d0 d2 d3 d4
                        have i0 : (0 : Int) ≤ (kc : Int) := Int.natCast_nonneg _
                        have i1 : (kc : Int) < (S.length : Int) := by omega
                        have hbx := (stock_bin M3.out hlt).2.1
                        have HT := Lib.hid (amounts_take S hlt)
                        have hy1 : -9223372036854775808 ≤ Yc + (binAt S kc).amount ∧ Yc + (binAt S kc).amount ≤ 9223372036854775807 := by omega
                        clear hY hbx hzb
                        have x1 := IntWalk.i64_in _ hy1
                        clear hy1
                        go_wp2
                        go_roundw
                        case rel => exact ⟨kc + 1, _, by go_num, by omega, rfl, by rw [HT.out, HYc.out, Int.add_assoc], Hbc.out⟩
                        case measure => simp [intOf]; omega
                      · skip
                        have hk9 : kc = S.length := by omega
                        rw [hk9, List.take_length] at hY
                        have hb20 : Below vb.heap.size vb vc := Hbc.out
                        have b20 := b19.trans (hb20.mono b19.size)
                        have eY : Yc = Yb := by rw [hY, M4.out, EYb.out, EYa.out]; omega
                        clear HYc hzb hY hk9 hk
                        cases eY
                        go_wp2_with fail
                        refine (implIsStock_any vc S _ (((ZS.out.below hb18).below hb19).below hb20) FS.out NS).mono ?_
                        rintro e w21 ⟨rfl, hb21⟩
                        have b21 := b20.trans (hb21.mono b20.size)
                        rw [M3.out]
                        go_wp2
                        go_ret
                        exact ⟨rfl, b21⟩
          · skip
            have u5 : ((mergeF LA LB).2 == 0) = false := by simpa using h5
            clear h5
            go_wp2
            go_ret
            exact ⟨rfl, b17⟩

namespace GreatStocks
set_option maxRecDepth 100000 in
theorem lifted (os : Os) (started : os.Started) (H : Type) (enc : TypeId × Value → H) :
    ReturnsInHanded {} Try.checked os 12 .any (Rows.fnStocksSpec.pre6 enc Try.prog Try.f12 Rows.fnStocksRow.domain false) (Rows.fnStocksSpec.post enc Try.prog Try.f12 false true false false) := by
  refine returnsInHanded_of_change (C := Try.checked) Try.own started (by kernel_rfl) Try.func12
    (ChangeSpec.witness6 (enc := enc) (C := Try.checked) false ⟨#[], #[.slice none 0 0], []⟩ 8 (by kernel_rfl) (by kernel_rfl) (by kernel_rfl) (by kernel_rfl)) ?_
  intro W base args ds gs before hval0 hW hcnd _
  have hval : ∀ (j : Nat) t v, Try.f12.params[j]? = some t → args[j]? = some v → Value.okWide Try.prog W .any base t v := hval0
  have hW' := hW
  obtain ⟨p, q, hA0, hV, rfl, hfz, hnd⟩ := hW
  have hA : DataW.TrodAll enc Try.prog W 0 (fun _ => true) true Try.f12.params.toList args.toList ds p := hA0
  rw [Try.params12] at hA hval
  obtain ⟨v0, vs0, d0, ds0, p0, q0, hargs, rfl, rfl, h0, r0⟩ := trodAll_cons hA
  obtain ⟨rfl, rfl, rfl⟩ := trodAll_nil r0
  obtain rfl : args = #[v0] := by cases args; simp_all
  obtain ⟨rfl, rfl⟩ := trodVars_none hV
  have lt0 : ∀ x ∈ p0, x.block < W.heap.size := by obtain ⟨m, hm⟩ := h0; exact DataW.trod_lt m _ _ _ hm
  obtain ⟨A0, n0, c0, ev0, hcode0, hc0⟩ := open_code (hval 0 _ v0 rfl rfl) h0
  subst ev0
  clear hA0 hval0
  refine (lawStocks_walk W A0 n0 c0 hcode0 hc0).mono fun e W' ⟨he, bel⟩ => ?_
  subst he
  exact ⟨_, rfl, _, _, _, [], _, [], hW', trodAll_mk1 (shut_bool Try.underlying4 _), (trodAll_cons_mk (Below.trod Try.laidOut (by kernel_rfl) (of_decide_eq_true (by kernel_rfl)) h0 bel lt0) trodAll_mk0), rfl, bel.frame _, fun h => by cases h⟩

theorem proved : Rows.FnStocksSaid :=
  OpenClaim.holds_of_wide 12 Try.f12 rfl rfl rfl rfl rfl rfl rfl ⟨rfl, rfl, rfl, rfl, rfl⟩ rfl rfl rfl rfl rfl (by kernel_rfl) Try.func12 (by kernel_rfl)
    (of_decide_eq_true (by kernel_rfl)) (by unfold Func.isWrapper; first | (rw [if_pos (by decide +kernel)]; kernel_rfl) | (rw [if_neg (by decide +kernel)]; exact ⟨rfl, rfl⟩))
    (fun os started H enc _ => lifted os started H enc)
#print axioms proved
end GreatStocks

end Go.Proofs.Ytngphnfbfednnaa
