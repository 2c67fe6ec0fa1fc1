/- CalmOrder: its walk in the reference. Printed by gen_cls.py. -/
import Derived.Test.YtecfkomijaakhaaClT
import Derived.Test.YtecfkomijaakhaaChX
namespace Go.Proofs.Ytecfkomijaakhaa
open Go.RowKit

set_option maxHeartbeats 32000000 in
set_option maxRecDepth 100000 in
theorem specCalmOrder_any (w : World) (L : List Step) (V : Value) (hv : Steps w V L) (hn : L.length ≤ 1048576) :
    Calls Try.prog 42 #[V] w (RetSIC w.heap.size 2 1 intsRow (calmF L) w) := by
  have Hv := Lib.hid hv
  clear hv
  cases h1 : isRecipe L
  · have H := Lib.hid (calmF_bad h1)
    go_enter Try.func42, Try.ntmps42
    go_wp2_with fail
    refine (specIsRecipe_any w L _ Hv.out hn).mono ?_
    rintro e w2 ⟨rfl, hb2⟩
    rw [h1]
    go_wp2
    go_ret3
    exact RetSIC.err H.out rfl hb2
  · by_cases hn0 : L.length = 0
    · have H := Lib.hid (calmF_nil h1 hn0)
      obtain ⟨A, c, rfl, hl, hc, _⟩ := Hv.out
      have t0 : ((L.length : Int) == 0) = true := by simp [hn0]
      clear hn0
      go_enter Try.func42, Try.ntmps42
      go_wp2_with fail
      refine (specIsRecipe_any w L _ Hv.out hn).mono ?_
      rintro e w2 ⟨rfl, hb2⟩
      rw [h1]
      go_wp2
      go_ret3
      exact RetSIC.ok (l := []) H.out (own_empty _ _ _ (Nat.le_refl _)) rfl rfl hb2.size (hb2.alloc hb2.size _)
    · have hn1 : 0 < L.length := by omega
      have H := Lib.hid (calmF_ok h1 hn1)
      have HCR := Lib.hid (calm_ref hn1 h1)
      obtain ⟨h9, hok, _⟩ := isRecipe_iff.1 h1
      have Hok := Lib.hid hok
      obtain ⟨AL, hAL⟩ : ∃ AL, AL = 2 ^ L.length - 1 := ⟨_, rfl⟩
      obtain ⟨N, hN⟩ : ∃ N, N = 2 ^ L.length := ⟨_, rfl⟩
      have hN1 : 2 ≤ N := by rw [hN]; exact Nat.pow_le_pow_right (n := 2) (by omega) hn1
      have hN2 : N = AL + 1 := by omega
      have hN9 : N ≤ 512 := by rw [hN]; exact Nat.pow_le_pow_right (by omega) h9
      obtain ⟨M, hM⟩ : ∃ M, M = N * L.length := ⟨_, rfl⟩
      have hM9 : M ≤ 512 * 9 := by rw [hM]; exact Nat.mul_le_mul hN9 h9
      have p1 : wrap64 ((2 : Int) ^ L.length) = (N : Int) := by rw [wrap_pow (by omega), hN]
      have p1w : IntKind.i64.wrap ((2 : Int) ^ L.length) = (N : Int) := by rw [wrapW_pow (by omega), hN]
      have p2 : IntKind.i64.wrap ((N : Int) - 1) = (AL : Int) := by rw [IntWalk.i64_in ((N : Int) - 1) (by omega)]; omega
      have p3 : IntKind.i64.wrap ((AL : Int) + 1) = (N : Int) := by rw [IntWalk.i64_in ((AL : Int) + 1) (by omega)]; omega
      have p5 : IntKind.i64.wrap ((N : Int) * (L.length : Int)) = (M : Int) := by
        have e : (N : Int) * (L.length : Int) = (M : Int) := by rw [hM]; simp
        rw [e]; exact IntWalk.i64_in _ (by omega)
      have t0 : ((L.length : Int) == 0) = false := by rw [beq_eq_false_iff_ne]; omega
      have HALe := Lib.hid hAL
      have HNe := Lib.hid hN
      have HMe := Lib.hid hM
      have hNa : AL < N := by omega
      have hNb : N ≤ AL + 1 := by omega
      obtain ⟨i0, hi, hz0, hz1, hz2⟩ := info_parts Try.info_ints
      obtain ⟨j0, hj, hy0, hy1, hy2⟩ := info_parts Try.info_ii
      obtain ⟨A, c, rfl, hl, hc, _⟩ := Hv.out
      unfold maxLen at hc
      clear hok hAL hN hn0 hN2 hM
      go_enter Try.func42, Try.ntmps42
      go_wp2_with fail
      refine (specIsRecipe_any w L _ Hv.out hn).mono ?_
      rintro e w2 ⟨rfl, hb2⟩
      rw [h1]
      have hsz2 := hb2.size
      have Hb2 := Lib.hid hb2
      have Hv2 := Lib.hid (Hv.out.below hb2)
      have p0 := wrapU (k := L.length) (by omega)
      have p0b : min L.length 64 = L.length := Nat.min_eq_left (Nat.le_trans h9 (by decide))
      go_wp2_with (at_make; (try rw [p1]); (refine wpList_make_full _ rfl _ _ 29 rfl w2.heap.size 2 i0 _ 1 Try.underlying29 hi hz0 hz1 _ _ _ _ M rfl rfl rfl rfl ?b1 ?b2 ?b3 ?_))
      case b1 => clear p0; rw [hz2]; omega
      case b2 => clear p0; unfold maxLen; omega
      case b3 => exact Nat.le_refl _
      clear p0 p0b
      intro w3 hown hgr
      have hb3 := (Below.refl w2.heap.size w2).grown hgr (Nat.le_refl _) (fun _ h => by cases h)
      have hsz3 := hb3.size
      have hlt3 : w2.heap.size < w3.heap.size := (World.ownsRow.lt hown _ rfl).2
      have Ho3 := Lib.hid (show w3.ownsRow w2.heap.size 2 1 (.slice (some ⟨w2.heap.size, 0, none⟩) M M) M (intsRow (List.replicate M 0)) by
        have hz : (madeCells #[Value.int .i64 0] M).toList = intsRow (List.replicate M 0) := by
          rw [toList_madeCells_one]; simp [intsRow]
        rw [← hz]
        exact hown)
      clear hown hgr
      go_wp2_with (at_make; (refine wpList_make_full _ rfl _ _ 70 rfl w2.heap.size 29 j0 _ 1 Try.underlying70 hj hy0 hy1 _ _ _ _ M rfl rfl rfl rfl ?b1 ?b2 ?b3 ?_))
      case b1 => rw [hy2]; omega
      case b2 => unfold maxLen; omega
      case b3 => omega
      intro w4 hown hgr
      have hb4 := (Below.refl w3.heap.size w3).grown hgr (Nat.le_refl _) (fun _ h => by cases h)
      have hlt4 : w3.heap.size < w4.heap.size := (World.ownsRow.lt hown _ rfl).2
      have HS4 := Lib.hid (show CalS w2.heap.size w3.heap.size w4.heap.size M w2 (w4.alloc (.cells #[] 2)) (List.replicate M 0) (List.replicate M (.slice none 0 0)) (List.replicate M []) (.slice (some ⟨w4.heap.size, 0, none⟩) 0 0) [] from by
        have hba : Below w4.heap.size w4 (w4.alloc (.cells #[] 2)) := (Below.refl _ _).alloc (Nat.le_refl _) _
        refine ⟨own_below (own_below Ho3.out hb4) hba, own_below ?_ hba, ElemsII.nils _ _ _, own_empty _ _ _ (Nat.le_refl _), (hb3.trans (hb4.mono hsz3)).trans (hba.mono (by omega)), rfl, hlt3, hlt4, by simp⟩
        have hz : (madeCells #[Value.slice none 0 0] M).toList = List.replicate M (.slice none 0 0) := toList_madeCells_one _ _
        rw [← hz]
        exact hown)
      have HG4 := Lib.hid (goodC_start L)
      rw [← HNe.out, ← HMe.out] at HG4
      obtain ⟨A9, c9, hVe, _, _, hr2⟩ := Hv2.out
      injection hVe with hVe _ hVc
      subst hVe
      subst hVc
      have Hr2 := Lib.hid hr2
      clear hown hgr hr2 Ho3 hb3 hb4 h1
      go_wp2
      go_loopw [11] (fun i wr => ∃ (e : Nat) (F : List Int) (vs : List Value) (RR : List (List Int)), e ≤ N ∧ i = .int .i64 e ∧ Hid (CalS w2.heap.size w3.heap.size w4.heap.size M w2 wr F vs RR (.slice (some ⟨w4.heap.size, 0, none⟩) 0 0) []) ∧ Hid (GoodC L F RR e 0)) (fun i _ => N - (intOf i).toNat)
      case atStart => exact ⟨0, _, _, _, Nat.zero_le _, rfl, HS4, HG4⟩
      case round =>
        clear HS4 HG4
        obtain ⟨e, F, vs, RR, he, rfl, HS, HG⟩ := hrel
        by_cases heA : e ≤ AL
        · skip
          have ie0 : (e : Int) ≤ (AL : Int) := by omega
          have HG0 := Lib.hid HG.out
          go_wp2
          go_loopw [12] (fun i wy => ∃ (s : Nat) (F : List Int) (vs : List Value) (RR : List (List Int)), s ≤ L.length ∧ i = .int .i64 s ∧ Hid (CalS w2.heap.size w3.heap.size w4.heap.size M w2 wy F vs RR (.slice (some ⟨w4.heap.size, 0, none⟩) 0 0) []) ∧ Hid (GoodC L F RR e s)) (fun i _ => L.length - (intOf i).toNat)
          case atStart => exact ⟨0, F, vs, RR, Nat.zero_le _, rfl, HS, HG0⟩
          case round =>
            clear HS HG HG0 F vs RR
            rename World => wy
            obtain ⟨s, F, vs, RR, hs, rfl, HS, HG⟩ := hrel
            by_cases hsl : s < L.length
            · skip
              go_wp2_with fail
              refine (specBit_any _ e s (by omega) (by omega)).mono ?_
              rintro _ w5 ⟨rfl, rfl⟩
              rename World => wy
              cases hbs : e.testBit s
              · skip
                have HL := Lib.hid (at_lt (n := L.length) (e := e) (s := s) (by rw [← HALe.out]; exact heA) hsl)
                have hQ9 : e * L.length ≤ 512 * 9 := Nat.mul_le_mul (by omega) h9
                obtain ⟨Q, hQ⟩ : ∃ Q, Q = e * L.length := ⟨_, rfl⟩
                have m1 : IntKind.i64.wrap ((e : Int) * (L.length : Int)) = (Q : Int) := by
                  have h : (e : Int) * (L.length : Int) = (Q : Int) := by rw [hQ]; simp
                  rw [h]; exact IntWalk.i64_in _ (by omega)
                rw [← hQ] at HL hQ9
                obtain ⟨p, hp⟩ : ∃ p, p = Q + s := ⟨_, rfl⟩
                have m2 : IntKind.i64.wrap ((Q : Int) + (s : Int)) = (p : Int) := by rw [IntWalk.i64_in ((Q : Int) + (s : Int)) (by omega)]; omega
                rw [← hp, ← HNe.out, ← HMe.out] at HL
                have hpM := HL.out
                have HP := Lib.hid (show p = e * L.length + s by rw [hp, hQ])
                obtain ⟨hop, hfr⟩ := HG.out.open_
                rw [← HP.out] at hfr
                have HO := Lib.hid hop
                have HFR := Lib.hid hfr
                clear hp hQ HG hop hfr
                have k0 : (0 : Int) ≤ (p : Int) := Int.natCast_nonneg _
                have k1 : (p : Int) < (M : Int) := by omega
                have f1 := HS.out.own.frozenAt p
                obtain ⟨cx, e1⟩ := own_cell HS.out.own (j := p) (by omega)
                have HS1 := Lib.hid (HS.out.setF p (-1))
                have HO1 := Lib.hid (HO.out.setF (by rw [← HALe.out]; exact heA) hsl (-1))
                rw [← HP.out] at HO1
                have HF1 := Lib.hid (show intsAt (F.set p (-1)) p = -1 by rw [intsAt_set (by have h := HO.out.lenF; rw [← HNe.out, ← HMe.out] at h; omega), if_pos rfl])
                clear HS HO
                by_cases he0 : e = 0
                · have t1 : ((e : Int) == 0) = true := by simp [he0]
                  obtain ⟨d, hd⟩ : ∃ d, d = AL - e := ⟨_, rfl⟩
                  have m3 : IntKind.i64.wrap ((AL : Int) - (e : Int)) = (d : Int) := by rw [IntWalk.i64_in ((AL : Int) - (e : Int)) (by omega)]; omega
                  have hdA : d ≤ AL := by omega
                  have HD := Lib.hid (show d = 2 ^ L.length - 1 by rw [hd, HALe.out, he0]; omega)
                  have HE0 := Lib.hid he0
                  have HBT := Lib.hid (fun k => show e.testBit k = false by rw [he0, Nat.zero_testBit])
                  have f2 := HS1.out.own.frozenAt p
                  obtain ⟨cy, e2⟩ := own_cell HS1.out.own (j := p) (by omega)
                  have HS2 := Lib.hid (HS1.out.setF p 0)
                  have HO2 := Lib.hid (HO1.out.setF (by rw [← HALe.out]; exact heA) hsl 0)
                  rw [← HP.out] at HO2
                  have HF2 := Lib.hid (show intsAt ((F.set p (-1)).set p 0) p = 0 by rw [intsAt_set (by have h := HO1.out.lenF; rw [← HNe.out, ← HMe.out] at h; omega), if_pos rfl])
                  clear hd he0 HS1
                  go_wp2_with fail
                  refine (specMembers_any _ d L.length (by omega) (by omega)).mono ?_
                  rintro _ w6 ⟨y, rfl, hoD, hb6⟩
                  obtain ⟨AD, cD, rfl, _, _⟩ := own_slice hoD
                  have HS3 := Lib.hid (HS2.out.step hb6)
                  obtain ⟨DD, hDD⟩ : ∃ DD, DD = membs d L.length := ⟨_, rfl⟩
                  rw [← hDD]
                  clear hb6 hoD hDD HS2 e1 f1 e2 f2 m1 m2 m3 t1
                  go_wp2
                  go_loopw [15] (fun i wk => ∃ (k : Nat), k ≤ L.length ∧ i = .int .i64 k ∧ Hid (CalS w2.heap.size w3.heap.size w4.heap.size M w2 wk ((F.set p (-1)).set p 0) vs RR (.slice (some ⟨w4.heap.size, 0, none⟩) 0 0) [])) (fun i _ => L.length - (intOf i).toNat)
                  case atStart => exact ⟨0, Nat.zero_le _, rfl, HS3⟩
                  case round =>
                    clear HS3
                    rename World => wk
                    obtain ⟨k, hk, rfl, HS⟩ := hrel
                    by_cases hkl : k < L.length
                    · go_wp2_with fail
                      refine (specBit_any _ e k (by omega) (by omega)).mono ?_
                      rintro _ w5 ⟨rfl, rfl⟩
                      rw [HBT.out k]
                      go_wp2
                      go_roundw
                      case rel => exact ⟨k + 1, by omega, by go_num, HS⟩
                      case measure => simp [intOf]; omega
                    · skip
                      have HGS := Lib.hid (HO2.out.shut hsl (by rw [← HP.out, HF2.out, HE0.out, Nat.sub_zero, refV, show valC L (2 ^ L.length - 1) (toolC L s) = 0 by rw [valC, if_pos rfl]]; rfl) (by rw [← HP.out, HFR.out, HE0.out, Nat.sub_zero, refR, restC_all, ite_self]; rfl))
                      go_wp2
                      go_roundw
                      case rel => exact ⟨s + 1, _, vs, RR, by omega, by go_num, HS, HGS⟩
                      case measure => simp [intOf]; omega
                · have t1 : ((e : Int) == 0) = false := by rw [beq_eq_false_iff_ne]; omega
                  obtain ⟨d, hd⟩ : ∃ d, d = AL - e := ⟨_, rfl⟩
                  have m3 : IntKind.i64.wrap ((AL : Int) - (e : Int)) = (d : Int) := by rw [IntWalk.i64_in ((AL : Int) - (e : Int)) (by omega)]; omega
                  have hdA : d < AL := by omega
                  have HD := Lib.hid (show d = 2 ^ L.length - 1 - e by rw [hd, HALe.out])
                  obtain ⟨ts, hts, _⟩ : ∃ t : Nat, toolC L s = t ∧ t ≤ 9 := by
                    have h := (steps_bd Hok.out hsl).2.1
                    obtain ⟨t, ht⟩ := Int.eq_ofNat_of_zero_le h.1
                    exact ⟨t, ht, by omega⟩
                  have HTS := Lib.hid hts
                  clear hd hts t1
                  have HT1 := Lib.hid (show ((e : Int) == 0) = false by rw [beq_eq_false_iff_ne]; omega)
                  have t1 := HT1.out
                  go_wp2_with fail
                  refine (specMembers_any _ d L.length (by omega) (by omega)).mono ?_
                  rintro _ w6 ⟨y, rfl, hoD, hb6⟩
                  obtain ⟨AD, cD, rfl, _, _⟩ := own_slice hoD
                  have HS2 := Lib.hid (HS1.out.step hb6)
                  have HD6 := Lib.hid (own_base hoD HS1.out.ord.2.2.2)
                  obtain ⟨DD, hDD⟩ : ∃ DD, DD = membs d L.length := ⟨_, rfl⟩
                  have HDD := Lib.hid hDD
                  rw [← hDD] at HD6 ⊢
                  have HR0 := Lib.hid (show refS L d (ts : Int) 0 = (-1, []) by rw [refS, if_neg (by rw [← HALe.out]; omega)])
                  have HFR2 := Lib.hid (show RR.getD p [] = intN [] from HFR.out)
                  clear hb6 hoD hDD HS1 e1 f1 m1 m2 m3 t1
                  go_wp2
                  go_loopw [15] (fun i wk => ∃ (k : Nat) (F : List Int) (vs : List Value) (RR : List (List Int)) (x : Int) (r : List Nat), k ≤ L.length ∧ i = .int .i64 k ∧ Hid (CalS w2.heap.size w3.heap.size w4.heap.size M w2 wk F vs RR (.slice (some ⟨w4.heap.size, 0, none⟩) 0 0) []) ∧ Hid (OpenC L F RR e s) ∧ Hid (intsAt F p = x) ∧ Hid (RR.getD p [] = intN r) ∧ Hid (refS L d (ts : Int) k = (x, r)) ∧ Hid (wk.ownsRow w4.heap.size 2 1 (.slice AD DD.length cD) DD.length (intsRow DD))) (fun i _ => L.length - (intOf i).toNat)
                  case atStart => exact ⟨0, _, vs, RR, -1, [], Nat.zero_le _, rfl, HS2, HO1, HF1, HFR2, HR0, HD6⟩
                  case round =>
                    clear HS2 HO1 HF1 HFR2 HR0 HD6 HFR F vs RR
                    rename World => wk
                    obtain ⟨k, F, vs, RR, x, r, hk, rfl, HS, HO, HF, HRR, HRS, HDk⟩ := hrel
                    have HFl := Lib.hid (show F.length = M by have h := HO.out.lenF; rw [← HNe.out, ← HMe.out] at h; exact h)
                    have HRl := Lib.hid (show RR.length = M by have h := HO.out.lenR; rw [← HNe.out, ← HMe.out] at h; exact h)
                    have hxb := refS_bd h9 (d := d) (ts : Int) (by rw [← HALe.out]; omega) k hk
                    rw [HRS.out] at hxb
                    simp only at hxb
                    by_cases hkl : k < L.length
                    · skip
                      have HDB := Lib.hid (show d.testBit k = !e.testBit k by rw [HD.out]; exact left_bit (by rw [← HALe.out]; exact heA) hkl)
                      go_wp2_with fail
                      refine (specBit_any _ e k (by omega) (by omega)).mono ?_
                      rintro _ w5 ⟨rfl, rfl⟩
                      rename World => wk
                      cases hbk : e.testBit k
                      · have HC := Lib.hid (show canM L d k = false by rw [canM, HDB.out, hbk]; rfl)
                        clear hbk
                        have HN := Lib.hid (show refS L d (ts : Int) (k + 1) = (x, r) by rw [refS_no HC.out]; exact HRS.out)
                        go_wp2
                        go_roundw
                        case rel => exact ⟨k + 1, F, vs, RR, x, r, by omega, by go_num, HS, HO, HF, HRR, HN, HDk⟩
                        case measure => simp [intOf]; omega
                      · have HBK := Lib.hid hbk
                        have HRD := Lib.hid (show doneIn (stepAt L k) DD = readyM (stepAt L k) d by rw [HDD.out]; exact membs_ready Hok.out hkl d)
                        have HrK := Lib.hid (Hr2.out.below HS.out.below)
                        obtain ⟨gs, os, rfl, hgs, c0, c1, B, cc, c2, hcc, hcm, hrd⟩ := HrK.out.at hkl
                        have Hrd := Lib.hid hrd
                        have i2 : (0 : Int) ≤ (k : Int) := Int.natCast_nonneg _
                        have i3 : (k : Int) < (L.length : Int) := by omega
                        clear hrd hbk
                        go_wp2_with fail
                        refine (specDone_any _ (stepAt L k) B cc DD _ Hrd.out hcc hcm (Sl.of_own HDk.out)).mono ?_
                        rintro _ w7 ⟨rfl, hb7⟩
                        rw [HRD.out]
                        have HS7 := Lib.hid (HS.out.step hb7)
                        have HD7 := Lib.hid (own_below HDk.out hb7)
                        have C1 := Lib.hid ((hb7.cell (p := ⟨gs, os + k * 3 + 1, none⟩) hgs).trans c1)
                        clear hb7 c0 c1 c2 Hrd hcc hcm
                        cases hrr : readyM (stepAt L k) d
                        · have HC := Lib.hid (show canM L d k = false by rw [canM, hrr, Bool.and_false])
                          clear hrr
                          have HN := Lib.hid (show refS L d (ts : Int) (k + 1) = (x, r) by rw [refS_no HC.out]; exact HRS.out)
                          go_wp2
                          go_roundw
                          case rel => exact ⟨k + 1, F, vs, RR, x, r, by omega, by go_num, HS7, HO, HF, HRR, HN, HD7⟩
                          case measure => simp [intOf]; omega
                        · have HC := Lib.hid (show canM L d k = true by rw [canM, HDB.out, HBK.out, hrr]; rfl)
                          clear hrr
                          obtain ⟨hnx, hJe, hJb⟩ := left_next (n := L.length) (e := e) (k := k) (by rw [← HALe.out]; exact heA) hkl HBK.out
                          rw [← HD.out] at hnx
                          obtain ⟨P2, hP2⟩ : ∃ P2 : Nat, P2 = 2 ^ k := ⟨_, rfl⟩
                          have hP0 : 0 < P2 := by rw [hP2]; exact Nat.two_pow_pos k
                          have HW1 := Lib.hid (show wrap64 ((2 : Int) ^ k) = (P2 : Int) by rw [wrap_pow (by omega), hP2])
                          have HW2 := Lib.hid (show IntKind.i64.wrap ((2 : Int) ^ k) = (P2 : Int) by rw [wrapW_pow (by omega), hP2])
                          obtain ⟨J, hJ⟩ : ∃ J, J = e - 2 ^ k := ⟨_, rfl⟩
                          rw [← hJ] at hnx hJb
                          rw [← hP2] at hJe hJ
                          have hJlt : J < e := by omega
                          have m4 : IntKind.i64.wrap ((e : Int) - (P2 : Int)) = (J : Int) := by rw [IntWalk.i64_in ((e : Int) - (P2 : Int)) (by omega)]; omega
                          have HM4 := Lib.hid m4
                          obtain ⟨QJ, hQJ⟩ : ∃ QJ, QJ = J * L.length := ⟨_, rfl⟩
                          have hQJ9 : QJ ≤ 512 * 9 := by rw [hQJ]; exact Nat.mul_le_mul (by omega) h9
                          have HM5 := Lib.hid (show IntKind.i64.wrap ((J : Int) * (L.length : Int)) = (QJ : Int) by
                            have h : (J : Int) * (L.length : Int) = (QJ : Int) := by rw [hQJ]; simp
                            rw [h]; exact IntWalk.i64_in _ (by omega))
                          obtain ⟨q, hq⟩ : ∃ q, q = QJ + k := ⟨_, rfl⟩
                          have HM6 := Lib.hid (show IntKind.i64.wrap ((QJ : Int) + (k : Int)) = (q : Int) by rw [IntWalk.i64_in ((QJ : Int) + (k : Int)) (by omega)]; omega)
                          have hqM : q < M := by
                            have h := at_lt (n := L.length) (e := J) (s := k) (by rw [← HALe.out]; omega) hkl
                            rw [← hQJ, ← hq, ← HNe.out, ← HMe.out] at h; exact h
                          have hent := HO.out.ent J k hkl hJb (by rw [← HALe.out]; omega) (Or.inl hJlt)
                          unfold EntC at hent
                          rw [← hQJ, ← hq, ← hnx] at hent
                          have HEV := Lib.hid hent.1
                          have HER := Lib.hid hent.2
                          clear hent hnx hJb hJ hQJ hP2 m4
                          have hvb := refV_bd h9 (d := d ||| 2 ^ k) (toolC L k) (or_lt_all (by rw [← HALe.out]; omega) hkl)
                          have HRN := Lib.hid (fun h => refS_neg (L := L) (d := d) (k := k) (t := (ts : Int)) h)
                          have HRY := Lib.hid (fun h0 h2 => refS_yes (L := L) (d := d) (k := k) (t := (ts : Int)) HC.out h0 h2)
                          have HRL := Lib.hid (fun h2 => refS_less (L := L) (d := d) (k := k) (t := (ts : Int)) h2)
                          have HRLN := Lib.hid (refR_len L (d ||| 2 ^ k) (toolC L k))
                          obtain ⟨v, hvv⟩ : ∃ v, v = refV L (d ||| 2 ^ k) (toolC L k) := ⟨_, rfl⟩
                          rw [← hvv] at HEV hvb HRN HRY HRL
                          obtain ⟨R, hR⟩ : ∃ R, R = refR L (d ||| 2 ^ k) (toolC L k) := ⟨_, rfl⟩
                          rw [← hR] at HER HRY HRLN
                          have e2 := (HS7.out.own.cellAt q (by omega)).trans (intsRow_at F q (by rw [HFl.out]; exact hqM))
                          rw [HEV.out] at e2
                          have HKC := Lib.hid (show costC L (ts : Int) k = if toolC L k = (ts : Int) then 0 else 1 by
                            have h : ¬ (ts : Int) < 0 := by omega
                            unfold costC
                            by_cases h2 : toolC L k = (ts : Int)
                            · rw [if_pos h2, if_pos (Or.inr h2.symm)]
                            · rw [if_neg h2, if_neg]
                              rintro (z | z)
                              · exact h z
                              · exact h2 z.symm)
                          obtain ⟨tk, htk⟩ : ∃ t : Nat, toolC L k = t := by
                            have h := (steps_bd Hok.out hkl).2.1
                            obtain ⟨t, ht⟩ := Int.eq_ofNat_of_zero_le h.1
                            exact ⟨t, ht⟩
                          have c1 := C1.out
                          rw [show (stepAt L k).tool = (tk : Int) from htk] at c1
                          rw [htk] at HKC
                          obtain ⟨gs2, os2, hA2, _, _, d1, _⟩ := (Hr2.out.below HS7.out.below).at hsl
                          injection hA2 with hA2
                          injection hA2 with hA21 hA22
                          subst hA21
                          subst hA22
                          rw [show (stepAt L s).tool = (ts : Int) from HTS.out] at d1
                          have hk0 : (0 : Int) ≤ (q : Int) := Int.natCast_nonneg _
                          have hk1 : (q : Int) < (M : Int) := by omega
                          have hs0 : (0 : Int) ≤ (s : Int) := Int.natCast_nonneg _
                          have hs1 : (s : Int) < (L.length : Int) := by omega
                          have h47 : w4.heap.size ≤ w7.heap.size := HS7.out.ord.2.2.2
                          clear hvv hR hq htk
                          by_cases hv0 : v < 0
                          · have s1 : decide (v < 0) = true := by simpa using hv0
                            have HRV := Lib.hid (HRN.out hv0)
                            clear hv0 c1 d1
                            have p0 := wrapU (k := k) (by omega)
                            have p0b : min k 64 = k := Nat.min_eq_left (by omega)
                            have o1 := HW1.out
                            have o2 := HW2.out
                            have o4 := HM4.out
                            have o5 := HM5.out
                            have o6 := HM6.out
                            go_wp2
                            clear p0 p0b o1 o2 o4 o5 o6
                            have HN := Lib.hid (show refS L d (ts : Int) (k + 1) = (x, r) by rw [HRV.out]; exact HRS.out)
                            go_roundw
                            case rel => exact ⟨k + 1, F, vs, RR, x, r, by omega, by go_num, HS7, HO, HF, HRR, HN, HD7⟩
                            case measure => simp [intOf]; omega
                          · have s1 : decide (v < 0) = false := by simpa using hv0
                            by_cases hte : tk = ts
                            · have s2 : ((tk : Int) != (ts : Int)) = false := by simp [hte]
                              have HCV := Lib.hid (show costC L (ts : Int) k + v = v by rw [HKC.out, if_pos (by rw [hte])]; omega)
                              rw [HCV.out] at HRY HRL
                              clear hte
                              have p0 := wrapU (k := k) (by omega)
                              have p0b : min k 64 = k := Nat.min_eq_left (by omega)
                              have o1 := HW1.out
                              have o2 := HW2.out
                              have o4 := HM4.out
                              have o5 := HM5.out
                              have o6 := HM6.out
                              go_wp2
                              refine wp_region_held_drew (S := (fun w' => w'.cell? ⟨gs, os + k * 3 + 1, none⟩ = some (.int .i64 (tk : Int)) ∧ w'.cell? ⟨gs, os + s * 3 + 1, none⟩ = some (.int .i64 (ts : Int)))) (by kernel_rfl) ?_ (fun hHeld => ?_)
                              · (try dsimp only); first | (go_split_ands; exact ⟨by assumption, by assumption⟩) | go_keep
                              refine wpAnyH_take (i := 0) (v := ?_) rfl (by kernel_rfl) (by kernel_rfl) (by kernel_rfl) (fun _ _ _ h => h) (Or.inl ⟨by rfl, ?_⟩) (by assumption) ?_
                              rotate_left
                              · (intro w hSw; (try dsimp only at hSw); go_simp) <;> with_reducible rfl
                              try simp only [Act.put, List.setIfInBounds_toArray, List.set_cons_zero, List.set_cons_succ, List.getElem_toArray, List.getElem_cons_succ, List.getElem_cons_zero]
                              refine wpAnyH_take (i := 1) (v := ?_) rfl (by kernel_rfl) (by kernel_rfl) (by kernel_rfl) (fun _ _ _ h => h) (Or.inl ⟨by rfl, ?_⟩) (by assumption) ?_
                              rotate_left
                              · (intro w hSw; (try dsimp only at hSw); go_simp) <;> with_reducible rfl
                              try simp only [Act.put, List.setIfInBounds_toArray, List.set_cons_zero, List.set_cons_succ, List.getElem_toArray, List.getElem_cons_succ, List.getElem_cons_zero]
                              refine wpAnyH_take (i := 2) (v := ?_) rfl (by kernel_rfl) (by kernel_rfl) (by kernel_rfl) (fun _ _ _ h => h) (Or.inl ⟨by rfl, ?_⟩) (by assumption) ?_
                              rotate_left
                              · (intro w hSw; (try dsimp only at hSw); go_simp) <;> with_reducible rfl
                              try simp only [Act.put, List.setIfInBounds_toArray, List.set_cons_zero, List.set_cons_succ, List.getElem_toArray, List.getElem_cons_succ, List.getElem_cons_zero]
                              refine wpAnyH_take (i := 3) (v := ?_) rfl (by kernel_rfl) (by kernel_rfl) (by kernel_rfl) (fun _ _ _ h => h) (Or.inl ⟨by rfl, ?_⟩) (by assumption) ?_
                              rotate_left
                              · (intro w hSw; (try dsimp only at hSw); go_simp) <;> with_reducible rfl
                              try simp only [Act.put, List.setIfInBounds_toArray, List.set_cons_zero, List.set_cons_succ, List.getElem_toArray, List.getElem_cons_succ, List.getElem_cons_zero]
                              refine wpAnyH_take (i := 4) (v := ?_) rfl (by kernel_rfl) (by kernel_rfl) (by kernel_rfl) (fun _ _ _ h => h) (Or.inl ⟨by rfl, ?_⟩) (by assumption) ?_
                              rotate_left
                              · (intro w hSw; (try dsimp only at hSw); go_simp) <;> with_reducible rfl
                              try simp only [Act.put, List.setIfInBounds_toArray, List.set_cons_zero, List.set_cons_succ, List.getElem_toArray, List.getElem_cons_succ, List.getElem_cons_zero]
                              refine wpAnyH_take (i := 5) (v := ?_) rfl (by kernel_rfl) (by kernel_rfl) (by kernel_rfl) (fun _ _ _ h => h) (Or.inl ⟨by rfl, ?_⟩) (by assumption) ?_
                              rotate_left
                              · (intro w hSw; (try dsimp only at hSw); go_simp) <;> with_reducible rfl
                              try simp only [Act.put, List.setIfInBounds_toArray, List.set_cons_zero, List.set_cons_succ, List.getElem_toArray, List.getElem_cons_succ, List.getElem_cons_zero]
                              refine wpAnyH_take (i := 6) (v := ?_) rfl (by kernel_rfl) (by kernel_rfl) (by kernel_rfl) (fun _ _ _ h => h) (Or.inl ⟨by rfl, ?_⟩) (by assumption) ?_
                              rotate_left
                              · (intro w hSw; (try dsimp only at hSw); go_simp) <;> with_reducible rfl
                              try simp only [Act.put, List.setIfInBounds_toArray, List.set_cons_zero, List.set_cons_succ, List.getElem_toArray, List.getElem_cons_succ, List.getElem_cons_zero]
                              refine wpAnyH_take (i := 7) (v := ?_) rfl (by kernel_rfl) (by kernel_rfl) (by kernel_rfl) (fun _ _ _ h => h) (Or.inl ⟨by rfl, ?_⟩) (by assumption) ?_
                              rotate_left
                              · (intro w hSw; (try dsimp only at hSw); go_simp) <;> with_reducible rfl
                              try simp only [Act.put, List.setIfInBounds_toArray, List.set_cons_zero, List.set_cons_succ, List.getElem_toArray, List.getElem_cons_succ, List.getElem_cons_zero]
                              refine wpAnyH_take (i := 8) (v := ?_) rfl (by kernel_rfl) (by kernel_rfl) (by kernel_rfl) (fun _ _ _ h => h) (Or.inl ⟨by rfl, ?_⟩) (by assumption) ?_
                              rotate_left
                              · (intro w hSw; (try dsimp only at hSw); go_simp) <;> with_reducible rfl
                              try simp only [Act.put, List.setIfInBounds_toArray, List.set_cons_zero, List.set_cons_succ, List.getElem_toArray, List.getElem_cons_succ, List.getElem_cons_zero]
                              refine wpAnyH_take (i := 9) (v := ?_) rfl (by kernel_rfl) (by kernel_rfl) (by kernel_rfl) (fun _ _ _ h => h) (Or.inl ⟨by rfl, ?_⟩) (by assumption) ?_
                              rotate_left
                              · (intro w hSw; (try dsimp only at hSw); go_simp) <;> with_reducible rfl
                              try simp only [Act.put, List.setIfInBounds_toArray, List.set_cons_zero, List.set_cons_succ, List.getElem_toArray, List.getElem_cons_succ, List.getElem_cons_zero]
                              refine wpAnyH_take (i := 10) (v := ?_) rfl (by kernel_rfl) (by kernel_rfl) (by kernel_rfl) (fun _ _ _ h => h) (Or.inl ⟨by rfl, ?_⟩) (by assumption) ?_
                              rotate_left
                              · (intro w hSw; (try dsimp only at hSw); go_simp) <;> with_reducible rfl
                              try simp only [Act.put, List.setIfInBounds_toArray, List.set_cons_zero, List.set_cons_succ, List.getElem_toArray, List.getElem_cons_succ, List.getElem_cons_zero]
                              refine wpAnyH_done (by kernel_rfl) ?_ _
                              clear p0 p0b o1 o2 o4 o5 o6
                              have HS8 := Lib.hid HS7.out.drew
                              have HD8 := Lib.hid (own_below HD7.out (Below.refl _ _).drew)
                              have e3 := (HS8.out.own.cellAt p (by omega)).trans (intsRow_at F p (by rw [HFl.out]; exact hpM))
                              rw [HF.out] at e3
                              clear c1 d1 e2
                              by_cases hx0 : x < 0
                              · have s3 : decide (x < 0) = true := by simpa using hx0
                                have HRV := Lib.hid (HRY.out (by omega) (by rw [HRS.out]; exact Or.inl hx0))
                                clear hx0
                                have f3 := HS8.out.own.frozenAt p
                                have HO9 := Lib.hid (HO.out.setF (by rw [← HALe.out]; exact heA) hsl v)
                                rw [← HP.out] at HO9
                                have HF9 := Lib.hid (show intsAt (F.set p v) p = v by rw [intsAt_set (by rw [HFl.out]; exact hpM), if_pos rfl])
                                obtain ⟨wS, hwS⟩ : ∃ wS, wS = w7.setCell ⟨w2.heap.size, p, none⟩ (.int .i64 v) := ⟨_, rfl⟩
                                have HS9 := Lib.hid (HS7.out.setF p v)
                                have HD9 := Lib.hid (own_farB HD7.out (p := ⟨w2.heap.size, p, none⟩) (by show w2.heap.size < w4.heap.size; have := HS7.out.ord; omega) (.int .i64 v))
                                have hsS : wS.heap.size = w7.heap.size := by rw [hwS]; simp
                                rw [← hwS] at HS9 HD9
                                obtain ⟨wA, hwA⟩ : ∃ wA, wA = (wS.alloc (.cells #[.int .i64 (k : Int)] 2)).drew := ⟨_, rfl⟩
                                have hbA : Below wS.heap.size wS wA := by rw [hwA]; exact ((Below.refl _ _).alloc (Nat.le_refl _) _).drew
                                have HB := Lib.hid (show wA.ownsRow w7.heap.size 2 1 (.slice (some ⟨w7.heap.size, 0, none⟩) 1 1) 1 [.int .i64 (k : Int)] by rw [hwA]; exact (own_whole' wS #[.int .i64 (k : Int)] _ 1 1 w7.heap.size hsS (Nat.le_refl _) rfl (by simp [maxLen])).drew)
                                have HSA := Lib.hid (HS9.out.step hbA)
                                have HDA := Lib.hid (own_below HD9.out hbA)
                                obtain ⟨Au, cu, g1, hoE⟩ := HSA.out.rest (i := q) hqM HRl.out
                                rw [HER.out] at g1 hoE
                                obtain ⟨E, hE⟩ : ∃ E, E = intN R := ⟨_, rfl⟩
                                have HE := Lib.hid hE
                                have hE9 : E.length ≤ 9 := by rw [hE, intN_len]; have := HRLN.out; omega
                                rw [← hE] at g1 hoE
                                have HoE := Lib.hid hoE
                                have hsA : wA.heap.size = w7.heap.size + 1 := by rw [hwA]; simp [hsS]
                                have HRRN := Lib.hid (show (RR.set p ((k : Int) :: E)).getD p [] = intN (k :: R) by rw [getD_set (by rw [HRl.out]; exact hpM), if_pos rfl, HE.out]; rfl)
                                have HO10 := Lib.hid (HO9.out.setR (by rw [← HALe.out]; exact heA) hsl ((k : Int) :: E))
                                rw [← HP.out] at HO10
                                have g2 : ((w7.setCell ⟨w2.heap.size, p, none⟩ (.int .i64 v)).alloc (.cells #[.int .i64 (k : Int)] 2)).cell? ⟨w3.heap.size, q, none⟩ = some (.slice Au E.length cu) := by rw [← hwS]; rw [hwA] at g1; exact g1
                                have HwA := Lib.hid hwA
                                have HwS := Lib.hid hwS
                                have HbA := Lib.hid hbA
                                clear hE hoE hwS hwA hbA g1
                                go_wp2_with (at_builtin; rw [← HwS.out, ← HwA.out]; refine wpList_append_sl _ rfl (.tmp 144) (.tmp 148) _ rfl w4.heap.size 2 i0 _ 1 8 Try.underlying29 hi hz0 hz1 hz2 rfl (by omega) _ 1 [.int .i64 (k : Int)] rfl (own_base HB.out h47) Au E.length cu (intsRow E) rfl (Rd.of_own HoE.out) (intsRow_one E) (by unfold maxLen; omega) (by omega) (by omega) ?_; intro A9 c9 w9 ho9 hg9 hor9; have b9 : Below wS.heap.size wS w9 := HbA.out.grown hg9 HbA.out.size (fun kk hk => (by rw [hsS]; exact (World.ownsRow.lt HB.out kk hk).1)); have S10 := Lib.hid (HS9.out.step b9); have D10 := Lib.hid (own_below HD9.out b9); have O10 := Lib.hid (show w9.ownsRow w4.heap.size 2 1 (.slice A9 (1 + E.length) c9) ((k : Int) :: E).length (intsRow ((k : Int) :: E)) from (by rw [show ((k : Int) :: E).length = 1 + E.length by simp; omega]; exact ho9)); have f9 := S10.out.rows.frozenAt p; obtain ⟨cx9, e9⟩ := own_cell S10.out.rows (j := p) (by omega))
                                have HS11 := Lib.hid (S10.out.setR p O10.out)
                                have HD11 := Lib.hid (own_farB D10.out (p := ⟨w3.heap.size, p, none⟩) (by show w3.heap.size < w4.heap.size; have := HS7.out.ord; omega) (.slice A9 (1 + E.length) c9))
                                clear ho9 hg9 hor9 b9 S10 D10 O10 f9 e9
                                go_roundw
                                case rel => exact ⟨k + 1, F.set p v, _, RR.set p ((k : Int) :: E), v, k :: R, by omega, by go_num, HS11, HO10, HF9, HRRN, HRV, HD11⟩
                                case measure => simp [intOf]; omega
                              · have s3 : decide (x < 0) = false := by simpa using hx0
                                by_cases hx1 : v < x
                                · have s4 : decide (v < x) = true := by simpa using hx1
                                  have HRV := Lib.hid (HRY.out (by omega) (by rw [HRS.out]; exact Or.inr hx1))
                                  clear hx0 hx1
                                  have f3 := HS8.out.own.frozenAt p
                                  have HO9 := Lib.hid (HO.out.setF (by rw [← HALe.out]; exact heA) hsl v)
                                  rw [← HP.out] at HO9
                                  have HF9 := Lib.hid (show intsAt (F.set p v) p = v by rw [intsAt_set (by rw [HFl.out]; exact hpM), if_pos rfl])
                                  obtain ⟨wS, hwS⟩ : ∃ wS, wS = w7.setCell ⟨w2.heap.size, p, none⟩ (.int .i64 v) := ⟨_, rfl⟩
                                  have HS9 := Lib.hid (HS7.out.setF p v)
                                  have HD9 := Lib.hid (own_farB HD7.out (p := ⟨w2.heap.size, p, none⟩) (by show w2.heap.size < w4.heap.size; have := HS7.out.ord; omega) (.int .i64 v))
                                  have hsS : wS.heap.size = w7.heap.size := by rw [hwS]; simp
                                  rw [← hwS] at HS9 HD9
                                  obtain ⟨wA, hwA⟩ : ∃ wA, wA = (wS.alloc (.cells #[.int .i64 (k : Int)] 2)).drew := ⟨_, rfl⟩
                                  have hbA : Below wS.heap.size wS wA := by rw [hwA]; exact ((Below.refl _ _).alloc (Nat.le_refl _) _).drew
                                  have HB := Lib.hid (show wA.ownsRow w7.heap.size 2 1 (.slice (some ⟨w7.heap.size, 0, none⟩) 1 1) 1 [.int .i64 (k : Int)] by rw [hwA]; exact (own_whole' wS #[.int .i64 (k : Int)] _ 1 1 w7.heap.size hsS (Nat.le_refl _) rfl (by simp [maxLen])).drew)
                                  have HSA := Lib.hid (HS9.out.step hbA)
                                  have HDA := Lib.hid (own_below HD9.out hbA)
                                  obtain ⟨Au, cu, g1, hoE⟩ := HSA.out.rest (i := q) hqM HRl.out
                                  rw [HER.out] at g1 hoE
                                  obtain ⟨E, hE⟩ : ∃ E, E = intN R := ⟨_, rfl⟩
                                  have HE := Lib.hid hE
                                  have hE9 : E.length ≤ 9 := by rw [hE, intN_len]; have := HRLN.out; omega
                                  rw [← hE] at g1 hoE
                                  have HoE := Lib.hid hoE
                                  have hsA : wA.heap.size = w7.heap.size + 1 := by rw [hwA]; simp [hsS]
                                  have HRRN := Lib.hid (show (RR.set p ((k : Int) :: E)).getD p [] = intN (k :: R) by rw [getD_set (by rw [HRl.out]; exact hpM), if_pos rfl, HE.out]; rfl)
                                  have HO10 := Lib.hid (HO9.out.setR (by rw [← HALe.out]; exact heA) hsl ((k : Int) :: E))
                                  rw [← HP.out] at HO10
                                  have g2 : ((w7.setCell ⟨w2.heap.size, p, none⟩ (.int .i64 v)).alloc (.cells #[.int .i64 (k : Int)] 2)).cell? ⟨w3.heap.size, q, none⟩ = some (.slice Au E.length cu) := by rw [← hwS]; rw [hwA] at g1; exact g1
                                  have HwA := Lib.hid hwA
                                  have HwS := Lib.hid hwS
                                  have HbA := Lib.hid hbA
                                  clear hE hoE hwS hwA hbA g1
                                  go_wp2_with (at_builtin; rw [← HwS.out, ← HwA.out]; refine wpList_append_sl _ rfl (.tmp 144) (.tmp 148) _ rfl w4.heap.size 2 i0 _ 1 8 Try.underlying29 hi hz0 hz1 hz2 rfl (by omega) _ 1 [.int .i64 (k : Int)] rfl (own_base HB.out h47) Au E.length cu (intsRow E) rfl (Rd.of_own HoE.out) (intsRow_one E) (by unfold maxLen; omega) (by omega) (by omega) ?_; intro A9 c9 w9 ho9 hg9 hor9; have b9 : Below wS.heap.size wS w9 := HbA.out.grown hg9 HbA.out.size (fun kk hk => (by rw [hsS]; exact (World.ownsRow.lt HB.out kk hk).1)); have S10 := Lib.hid (HS9.out.step b9); have D10 := Lib.hid (own_below HD9.out b9); have O10 := Lib.hid (show w9.ownsRow w4.heap.size 2 1 (.slice A9 (1 + E.length) c9) ((k : Int) :: E).length (intsRow ((k : Int) :: E)) from (by rw [show ((k : Int) :: E).length = 1 + E.length by simp; omega]; exact ho9)); have f9 := S10.out.rows.frozenAt p; obtain ⟨cx9, e9⟩ := own_cell S10.out.rows (j := p) (by omega))
                                  have HS11 := Lib.hid (S10.out.setR p O10.out)
                                  have HD11 := Lib.hid (own_farB D10.out (p := ⟨w3.heap.size, p, none⟩) (by show w3.heap.size < w4.heap.size; have := HS7.out.ord; omega) (.slice A9 (1 + E.length) c9))
                                  clear ho9 hg9 hor9 b9 S10 D10 O10 f9 e9
                                  go_roundw
                                  case rel => exact ⟨k + 1, F.set p v, _, RR.set p ((k : Int) :: E), v, k :: R, by omega, by go_num, HS11, HO10, HF9, HRRN, HRV, HD11⟩
                                  case measure => simp [intOf]; omega
                                · have s4 : decide (v < x) = false := by simpa using hx1
                                  have HRV := Lib.hid (HRL.out (by rw [HRS.out]; rintro (z | z); exact hx0 z; exact hx1 z))
                                  have HN := Lib.hid (show refS L d (ts : Int) (k + 1) = (x, r) by rw [HRV.out]; exact HRS.out)
                                  clear hx0 hx1
                                  go_wp2
                                  go_roundw
                                  case rel => exact ⟨k + 1, F, vs, RR, x, r, by omega, by go_num, HS8, HO, HF, HRR, HN, HD8⟩
                                  case measure => simp [intOf]; omega
                            · have s2 : ((tk : Int) != (ts : Int)) = true := by simp; omega
                              have HCV := Lib.hid (show costC L (ts : Int) k + v = (v + 1) by rw [HKC.out, if_neg (by omega)]; omega)
                              rw [HCV.out] at HRY HRL
                              clear hte
                              have x9 := IntWalk.i64_in (v + 1) (by omega)
                              have p0 := wrapU (k := k) (by omega)
                              have p0b : min k 64 = k := Nat.min_eq_left (by omega)
                              have o1 := HW1.out
                              have o2 := HW2.out
                              have o4 := HM4.out
                              have o5 := HM5.out
                              have o6 := HM6.out
                              go_wp2
                              refine wp_region_held_drew (S := (fun w' => w'.cell? ⟨gs, os + k * 3 + 1, none⟩ = some (.int .i64 (tk : Int)) ∧ w'.cell? ⟨gs, os + s * 3 + 1, none⟩ = some (.int .i64 (ts : Int)))) (by kernel_rfl) ?_ (fun hHeld => ?_)
                              · (try dsimp only); first | (go_split_ands; exact ⟨by assumption, by assumption⟩) | go_keep
                              refine wpAnyH_take (i := 0) (v := ?_) rfl (by kernel_rfl) (by kernel_rfl) (by kernel_rfl) (fun _ _ _ h => h) (Or.inl ⟨by rfl, ?_⟩) (by assumption) ?_
                              rotate_left
                              · (intro w hSw; (try dsimp only at hSw); go_simp) <;> with_reducible rfl
                              try simp only [Act.put, List.setIfInBounds_toArray, List.set_cons_zero, List.set_cons_succ, List.getElem_toArray, List.getElem_cons_succ, List.getElem_cons_zero]
                              refine wpAnyH_take (i := 1) (v := ?_) rfl (by kernel_rfl) (by kernel_rfl) (by kernel_rfl) (fun _ _ _ h => h) (Or.inl ⟨by rfl, ?_⟩) (by assumption) ?_
                              rotate_left
                              · (intro w hSw; (try dsimp only at hSw); go_simp) <;> with_reducible rfl
                              try simp only [Act.put, List.setIfInBounds_toArray, List.set_cons_zero, List.set_cons_succ, List.getElem_toArray, List.getElem_cons_succ, List.getElem_cons_zero]
                              refine wpAnyH_take (i := 2) (v := ?_) rfl (by kernel_rfl) (by kernel_rfl) (by kernel_rfl) (fun _ _ _ h => h) (Or.inl ⟨by rfl, ?_⟩) (by assumption) ?_
                              rotate_left
                              · (intro w hSw; (try dsimp only at hSw); go_simp) <;> with_reducible rfl
                              try simp only [Act.put, List.setIfInBounds_toArray, List.set_cons_zero, List.set_cons_succ, List.getElem_toArray, List.getElem_cons_succ, List.getElem_cons_zero]
                              refine wpAnyH_take (i := 3) (v := ?_) rfl (by kernel_rfl) (by kernel_rfl) (by kernel_rfl) (fun _ _ _ h => h) (Or.inl ⟨by rfl, ?_⟩) (by assumption) ?_
                              rotate_left
                              · (intro w hSw; (try dsimp only at hSw); go_simp) <;> with_reducible rfl
                              try simp only [Act.put, List.setIfInBounds_toArray, List.set_cons_zero, List.set_cons_succ, List.getElem_toArray, List.getElem_cons_succ, List.getElem_cons_zero]
                              refine wpAnyH_take (i := 4) (v := ?_) rfl (by kernel_rfl) (by kernel_rfl) (by kernel_rfl) (fun _ _ _ h => h) (Or.inl ⟨by rfl, ?_⟩) (by assumption) ?_
                              rotate_left
                              · (intro w hSw; (try dsimp only at hSw); go_simp) <;> with_reducible rfl
                              try simp only [Act.put, List.setIfInBounds_toArray, List.set_cons_zero, List.set_cons_succ, List.getElem_toArray, List.getElem_cons_succ, List.getElem_cons_zero]
                              refine wpAnyH_take (i := 5) (v := ?_) rfl (by kernel_rfl) (by kernel_rfl) (by kernel_rfl) (fun _ _ _ h => h) (Or.inl ⟨by rfl, ?_⟩) (by assumption) ?_
                              rotate_left
                              · (intro w hSw; (try dsimp only at hSw); go_simp) <;> with_reducible rfl
                              try simp only [Act.put, List.setIfInBounds_toArray, List.set_cons_zero, List.set_cons_succ, List.getElem_toArray, List.getElem_cons_succ, List.getElem_cons_zero]
                              refine wpAnyH_take (i := 6) (v := ?_) rfl (by kernel_rfl) (by kernel_rfl) (by kernel_rfl) (fun _ _ _ h => h) (Or.inl ⟨by rfl, ?_⟩) (by assumption) ?_
                              rotate_left
                              · (intro w hSw; (try dsimp only at hSw); go_simp) <;> with_reducible rfl
                              try simp only [Act.put, List.setIfInBounds_toArray, List.set_cons_zero, List.set_cons_succ, List.getElem_toArray, List.getElem_cons_succ, List.getElem_cons_zero]
                              refine wpAnyH_take (i := 7) (v := ?_) rfl (by kernel_rfl) (by kernel_rfl) (by kernel_rfl) (fun _ _ _ h => h) (Or.inl ⟨by rfl, ?_⟩) (by assumption) ?_
                              rotate_left
                              · (intro w hSw; (try dsimp only at hSw); go_simp) <;> with_reducible rfl
                              try simp only [Act.put, List.setIfInBounds_toArray, List.set_cons_zero, List.set_cons_succ, List.getElem_toArray, List.getElem_cons_succ, List.getElem_cons_zero]
                              refine wpAnyH_take (i := 8) (v := ?_) rfl (by kernel_rfl) (by kernel_rfl) (by kernel_rfl) (fun _ _ _ h => h) (Or.inl ⟨by rfl, ?_⟩) (by assumption) ?_
                              rotate_left
                              · (intro w hSw; (try dsimp only at hSw); go_simp) <;> with_reducible rfl
                              try simp only [Act.put, List.setIfInBounds_toArray, List.set_cons_zero, List.set_cons_succ, List.getElem_toArray, List.getElem_cons_succ, List.getElem_cons_zero]
                              refine wpAnyH_take (i := 9) (v := ?_) rfl (by kernel_rfl) (by kernel_rfl) (by kernel_rfl) (fun _ _ _ h => h) (Or.inl ⟨by rfl, ?_⟩) (by assumption) ?_
                              rotate_left
                              · (intro w hSw; (try dsimp only at hSw); go_simp) <;> with_reducible rfl
                              try simp only [Act.put, List.setIfInBounds_toArray, List.set_cons_zero, List.set_cons_succ, List.getElem_toArray, List.getElem_cons_succ, List.getElem_cons_zero]
                              refine wpAnyH_take (i := 10) (v := ?_) rfl (by kernel_rfl) (by kernel_rfl) (by kernel_rfl) (fun _ _ _ h => h) (Or.inl ⟨by rfl, ?_⟩) (by assumption) ?_
                              rotate_left
                              · (intro w hSw; (try dsimp only at hSw); go_simp) <;> with_reducible rfl
                              try simp only [Act.put, List.setIfInBounds_toArray, List.set_cons_zero, List.set_cons_succ, List.getElem_toArray, List.getElem_cons_succ, List.getElem_cons_zero]
                              refine wpAnyH_done (by kernel_rfl) ?_ _
                              clear p0 p0b o1 o2 o4 o5 o6
                              have HS8 := Lib.hid HS7.out.drew
                              have HD8 := Lib.hid (own_below HD7.out (Below.refl _ _).drew)
                              have e3 := (HS8.out.own.cellAt p (by omega)).trans (intsRow_at F p (by rw [HFl.out]; exact hpM))
                              rw [HF.out] at e3
                              clear c1 d1 e2
                              by_cases hx0 : x < 0
                              · have s3 : decide (x < 0) = true := by simpa using hx0
                                have HRV := Lib.hid (HRY.out (by omega) (by rw [HRS.out]; exact Or.inl hx0))
                                clear hx0
                                have f3 := HS8.out.own.frozenAt p
                                have HO9 := Lib.hid (HO.out.setF (by rw [← HALe.out]; exact heA) hsl (v + 1))
                                rw [← HP.out] at HO9
                                have HF9 := Lib.hid (show intsAt (F.set p (v + 1)) p = (v + 1) by rw [intsAt_set (by rw [HFl.out]; exact hpM), if_pos rfl])
                                obtain ⟨wS, hwS⟩ : ∃ wS, wS = w7.setCell ⟨w2.heap.size, p, none⟩ (.int .i64 (v + 1)) := ⟨_, rfl⟩
                                have HS9 := Lib.hid (HS7.out.setF p (v + 1))
                                have HD9 := Lib.hid (own_farB HD7.out (p := ⟨w2.heap.size, p, none⟩) (by show w2.heap.size < w4.heap.size; have := HS7.out.ord; omega) (.int .i64 (v + 1)))
                                have hsS : wS.heap.size = w7.heap.size := by rw [hwS]; simp
                                rw [← hwS] at HS9 HD9
                                obtain ⟨wA, hwA⟩ : ∃ wA, wA = (wS.alloc (.cells #[.int .i64 (k : Int)] 2)).drew := ⟨_, rfl⟩
                                have hbA : Below wS.heap.size wS wA := by rw [hwA]; exact ((Below.refl _ _).alloc (Nat.le_refl _) _).drew
                                have HB := Lib.hid (show wA.ownsRow w7.heap.size 2 1 (.slice (some ⟨w7.heap.size, 0, none⟩) 1 1) 1 [.int .i64 (k : Int)] by rw [hwA]; exact (own_whole' wS #[.int .i64 (k : Int)] _ 1 1 w7.heap.size hsS (Nat.le_refl _) rfl (by simp [maxLen])).drew)
                                have HSA := Lib.hid (HS9.out.step hbA)
                                have HDA := Lib.hid (own_below HD9.out hbA)
                                obtain ⟨Au, cu, g1, hoE⟩ := HSA.out.rest (i := q) hqM HRl.out
                                rw [HER.out] at g1 hoE
                                obtain ⟨E, hE⟩ : ∃ E, E = intN R := ⟨_, rfl⟩
                                have HE := Lib.hid hE
                                have hE9 : E.length ≤ 9 := by rw [hE, intN_len]; have := HRLN.out; omega
                                rw [← hE] at g1 hoE
                                have HoE := Lib.hid hoE
                                have hsA : wA.heap.size = w7.heap.size + 1 := by rw [hwA]; simp [hsS]
                                have HRRN := Lib.hid (show (RR.set p ((k : Int) :: E)).getD p [] = intN (k :: R) by rw [getD_set (by rw [HRl.out]; exact hpM), if_pos rfl, HE.out]; rfl)
                                have HO10 := Lib.hid (HO9.out.setR (by rw [← HALe.out]; exact heA) hsl ((k : Int) :: E))
                                rw [← HP.out] at HO10
                                have g2 : ((w7.setCell ⟨w2.heap.size, p, none⟩ (.int .i64 (v + 1))).alloc (.cells #[.int .i64 (k : Int)] 2)).cell? ⟨w3.heap.size, q, none⟩ = some (.slice Au E.length cu) := by rw [← hwS]; rw [hwA] at g1; exact g1
                                have HwA := Lib.hid hwA
                                have HwS := Lib.hid hwS
                                have HbA := Lib.hid hbA
                                clear hE hoE hwS hwA hbA g1
                                go_wp2_with (at_builtin; rw [← HwS.out, ← HwA.out]; refine wpList_append_sl _ rfl (.tmp 144) (.tmp 148) _ rfl w4.heap.size 2 i0 _ 1 8 Try.underlying29 hi hz0 hz1 hz2 rfl (by omega) _ 1 [.int .i64 (k : Int)] rfl (own_base HB.out h47) Au E.length cu (intsRow E) rfl (Rd.of_own HoE.out) (intsRow_one E) (by unfold maxLen; omega) (by omega) (by omega) ?_; intro A9 c9 w9 ho9 hg9 hor9; have b9 : Below wS.heap.size wS w9 := HbA.out.grown hg9 HbA.out.size (fun kk hk => (by rw [hsS]; exact (World.ownsRow.lt HB.out kk hk).1)); have S10 := Lib.hid (HS9.out.step b9); have D10 := Lib.hid (own_below HD9.out b9); have O10 := Lib.hid (show w9.ownsRow w4.heap.size 2 1 (.slice A9 (1 + E.length) c9) ((k : Int) :: E).length (intsRow ((k : Int) :: E)) from (by rw [show ((k : Int) :: E).length = 1 + E.length by simp; omega]; exact ho9)); have f9 := S10.out.rows.frozenAt p; obtain ⟨cx9, e9⟩ := own_cell S10.out.rows (j := p) (by omega))
                                have HS11 := Lib.hid (S10.out.setR p O10.out)
                                have HD11 := Lib.hid (own_farB D10.out (p := ⟨w3.heap.size, p, none⟩) (by show w3.heap.size < w4.heap.size; have := HS7.out.ord; omega) (.slice A9 (1 + E.length) c9))
                                clear ho9 hg9 hor9 b9 S10 D10 O10 f9 e9
                                go_roundw
                                case rel => exact ⟨k + 1, F.set p (v + 1), _, RR.set p ((k : Int) :: E), (v + 1), k :: R, by omega, by go_num, HS11, HO10, HF9, HRRN, HRV, HD11⟩
                                case measure => simp [intOf]; omega
                              · have s3 : decide (x < 0) = false := by simpa using hx0
                                by_cases hx1 : (v + 1) < x
                                · have s4 : decide ((v + 1) < x) = true := by simpa using hx1
                                  have HRV := Lib.hid (HRY.out (by omega) (by rw [HRS.out]; exact Or.inr hx1))
                                  clear hx0 hx1
                                  have f3 := HS8.out.own.frozenAt p
                                  have HO9 := Lib.hid (HO.out.setF (by rw [← HALe.out]; exact heA) hsl (v + 1))
                                  rw [← HP.out] at HO9
                                  have HF9 := Lib.hid (show intsAt (F.set p (v + 1)) p = (v + 1) by rw [intsAt_set (by rw [HFl.out]; exact hpM), if_pos rfl])
                                  obtain ⟨wS, hwS⟩ : ∃ wS, wS = w7.setCell ⟨w2.heap.size, p, none⟩ (.int .i64 (v + 1)) := ⟨_, rfl⟩
                                  have HS9 := Lib.hid (HS7.out.setF p (v + 1))
                                  have HD9 := Lib.hid (own_farB HD7.out (p := ⟨w2.heap.size, p, none⟩) (by show w2.heap.size < w4.heap.size; have := HS7.out.ord; omega) (.int .i64 (v + 1)))
                                  have hsS : wS.heap.size = w7.heap.size := by rw [hwS]; simp
                                  rw [← hwS] at HS9 HD9
                                  obtain ⟨wA, hwA⟩ : ∃ wA, wA = (wS.alloc (.cells #[.int .i64 (k : Int)] 2)).drew := ⟨_, rfl⟩
                                  have hbA : Below wS.heap.size wS wA := by rw [hwA]; exact ((Below.refl _ _).alloc (Nat.le_refl _) _).drew
                                  have HB := Lib.hid (show wA.ownsRow w7.heap.size 2 1 (.slice (some ⟨w7.heap.size, 0, none⟩) 1 1) 1 [.int .i64 (k : Int)] by rw [hwA]; exact (own_whole' wS #[.int .i64 (k : Int)] _ 1 1 w7.heap.size hsS (Nat.le_refl _) rfl (by simp [maxLen])).drew)
                                  have HSA := Lib.hid (HS9.out.step hbA)
                                  have HDA := Lib.hid (own_below HD9.out hbA)
                                  obtain ⟨Au, cu, g1, hoE⟩ := HSA.out.rest (i := q) hqM HRl.out
                                  rw [HER.out] at g1 hoE
                                  obtain ⟨E, hE⟩ : ∃ E, E = intN R := ⟨_, rfl⟩
                                  have HE := Lib.hid hE
                                  have hE9 : E.length ≤ 9 := by rw [hE, intN_len]; have := HRLN.out; omega
                                  rw [← hE] at g1 hoE
                                  have HoE := Lib.hid hoE
                                  have hsA : wA.heap.size = w7.heap.size + 1 := by rw [hwA]; simp [hsS]
                                  have HRRN := Lib.hid (show (RR.set p ((k : Int) :: E)).getD p [] = intN (k :: R) by rw [getD_set (by rw [HRl.out]; exact hpM), if_pos rfl, HE.out]; rfl)
                                  have HO10 := Lib.hid (HO9.out.setR (by rw [← HALe.out]; exact heA) hsl ((k : Int) :: E))
                                  rw [← HP.out] at HO10
                                  have g2 : ((w7.setCell ⟨w2.heap.size, p, none⟩ (.int .i64 (v + 1))).alloc (.cells #[.int .i64 (k : Int)] 2)).cell? ⟨w3.heap.size, q, none⟩ = some (.slice Au E.length cu) := by rw [← hwS]; rw [hwA] at g1; exact g1
                                  have HwA := Lib.hid hwA
                                  have HwS := Lib.hid hwS
                                  have HbA := Lib.hid hbA
                                  clear hE hoE hwS hwA hbA g1
                                  go_wp2_with (at_builtin; rw [← HwS.out, ← HwA.out]; refine wpList_append_sl _ rfl (.tmp 144) (.tmp 148) _ rfl w4.heap.size 2 i0 _ 1 8 Try.underlying29 hi hz0 hz1 hz2 rfl (by omega) _ 1 [.int .i64 (k : Int)] rfl (own_base HB.out h47) Au E.length cu (intsRow E) rfl (Rd.of_own HoE.out) (intsRow_one E) (by unfold maxLen; omega) (by omega) (by omega) ?_; intro A9 c9 w9 ho9 hg9 hor9; have b9 : Below wS.heap.size wS w9 := HbA.out.grown hg9 HbA.out.size (fun kk hk => (by rw [hsS]; exact (World.ownsRow.lt HB.out kk hk).1)); have S10 := Lib.hid (HS9.out.step b9); have D10 := Lib.hid (own_below HD9.out b9); have O10 := Lib.hid (show w9.ownsRow w4.heap.size 2 1 (.slice A9 (1 + E.length) c9) ((k : Int) :: E).length (intsRow ((k : Int) :: E)) from (by rw [show ((k : Int) :: E).length = 1 + E.length by simp; omega]; exact ho9)); have f9 := S10.out.rows.frozenAt p; obtain ⟨cx9, e9⟩ := own_cell S10.out.rows (j := p) (by omega))
                                  have HS11 := Lib.hid (S10.out.setR p O10.out)
                                  have HD11 := Lib.hid (own_farB D10.out (p := ⟨w3.heap.size, p, none⟩) (by show w3.heap.size < w4.heap.size; have := HS7.out.ord; omega) (.slice A9 (1 + E.length) c9))
                                  clear ho9 hg9 hor9 b9 S10 D10 O10 f9 e9
                                  go_roundw
                                  case rel => exact ⟨k + 1, F.set p (v + 1), _, RR.set p ((k : Int) :: E), (v + 1), k :: R, by omega, by go_num, HS11, HO10, HF9, HRRN, HRV, HD11⟩
                                  case measure => simp [intOf]; omega
                                · have s4 : decide ((v + 1) < x) = false := by simpa using hx1
                                  have HRV := Lib.hid (HRL.out (by rw [HRS.out]; rintro (z | z); exact hx0 z; exact hx1 z))
                                  have HN := Lib.hid (show refS L d (ts : Int) (k + 1) = (x, r) by rw [HRV.out]; exact HRS.out)
                                  clear hx0 hx1
                                  go_wp2
                                  go_roundw
                                  case rel => exact ⟨k + 1, F, vs, RR, x, r, by omega, by go_num, HS8, HO, HF, HRR, HN, HD8⟩
                                  case measure => simp [intOf]; omega
                    · skip
                      have HEN := Lib.hid (refS_end h9 (d := d) (ts : Int) (by rw [← HALe.out]; omega))
                      have HRN := Lib.hid (show refS L d (ts : Int) L.length = (x, r) by have h := HRS.out; rw [show k = L.length by omega] at h; exact h)
                      have HXR := Lib.hid (show x = refV L d (ts : Int) ∧ r = refR L d (ts : Int) by have h := HEN.out; rw [HRN.out] at h; exact ⟨congrArg Prod.fst h, congrArg Prod.snd h⟩)
                      have HGS := Lib.hid (HO.out.shut hsl (by rw [← HP.out, HF.out, HXR.out.1, ← HD.out, HTS.out]) (by rw [← HP.out, HRR.out, HXR.out.2, ← HD.out, HTS.out]))
                      go_wp2
                      go_roundw
                      case rel => exact ⟨s + 1, F, vs, RR, by omega, by go_num, HS, HGS⟩
                      case measure => simp [intOf]; omega
              · skip
                have HGS := Lib.hid (HG.out.skip hbs)
                go_wp2
                go_roundw
                case rel => exact ⟨s + 1, F, vs, RR, by omega, by go_num, HS, HGS⟩
                case measure => simp [intOf]; omega
            · skip
              have HGS := Lib.hid (GoodC.row (show GoodC L F RR e L.length by have h := HG.out; rw [show s = L.length by omega] at h; exact h))
              have q1 := IntWalk.i64_in ((e : Int) + 1) (by omega)
              go_wp2
              go_roundw
              case rel => exact ⟨e + 1, F, vs, RR, by omega, by go_num, HS, HGS⟩
              case measure => simp [intOf]; omega
        · skip
          have HENT := Lib.hid (fun k (hk : k < L.length) => show 2 ^ k ≤ AL ∧ intsAt F ((AL - 2 ^ k) * L.length + k) = refV L (0 ||| 2 ^ k) (toolC L k) ∧ RR.getD ((AL - 2 ^ k) * L.length + k) [] = intN (refR L (0 ||| 2 ^ k) (toolC L k)) from by
            have hb : (2 ^ L.length - 1).testBit k = true := by rw [Nat.testBit_two_pow_sub_one]; simpa using hk
            obtain ⟨n1, n2, n3⟩ := left_next (n := L.length) (e := 2 ^ L.length - 1) (k := k) (Nat.le_refl _) hk hb
            rw [Nat.sub_self] at n1
            have h := HG.out.ent (2 ^ L.length - 1 - 2 ^ k) k hk n3 (Nat.sub_le _ _) (Or.inl (Nat.lt_of_le_of_lt (Nat.sub_le _ _) (by rw [← HALe.out]; omega)))
            unfold EntC at h
            rw [← n1] at h
            rw [HALe.out]
            exact ⟨n2, h.1, h.2⟩)
          have HFl := Lib.hid (show F.length = M by have h := HG.out.lenF; rw [← HNe.out, ← HMe.out] at h; exact h)
          have HRl := Lib.hid (show RR.length = M by have h := HG.out.lenR; rw [← HNe.out, ← HMe.out] at h; exact h)
          have HR0 := Lib.hid (show refS L 0 (-1) 0 = (-1, []) by rw [refS, if_neg (by rw [← HALe.out]; omega)])
          clear HG
          go_wp2
          go_loopw [9, 10, 18] (fun b le i wk => ∃ (k : Nat) (x : Int) (r : List Nat) (P : List Int) (Ab : Option Addr) (cb : Nat), k ≤ L.length ∧ i = .int .i64 k ∧ b = .slice Ab P.length cb ∧ le = .int .i64 x ∧ Hid (P = intN r) ∧ Hid (refS L 0 (-1) k = (x, r)) ∧ Hid (CalS w2.heap.size w3.heap.size w4.heap.size M w2 wk F vs RR (.slice Ab P.length cb) P)) (fun _ _ i _ => L.length - (intOf i).toNat)
          case atStart => exact ⟨0, -1, [], [], _, _, Nat.zero_le _, rfl, rfl, rfl, Lib.hid rfl, HR0, HS⟩
          case round =>
            clear HS HR0
            rename World => wk
            obtain ⟨k, x, r, P, Ab, cb, hk, rfl, rfl, rfl, HPr, HRS, HS⟩ := hrel
            have hxb := refS_bd h9 (d := 0) (-1) (Nat.zero_le _) k hk
            rw [HRS.out] at hxb
            simp only at hxb
            by_cases hkl : k < L.length
            · skip
              obtain ⟨hPA, hen1, hen2⟩ := HENT.out k hkl
              have hRD := ready_zero (s := stepAt L k)
              obtain ⟨P2, hP2⟩ : ∃ P2 : Nat, P2 = 2 ^ k := ⟨_, rfl⟩
              have HW1 := Lib.hid (show wrap64 ((2 : Int) ^ k) = (P2 : Int) by rw [wrap_pow (by omega), hP2])
              have HW2 := Lib.hid (show IntKind.i64.wrap ((2 : Int) ^ k) = (P2 : Int) by rw [wrapW_pow (by omega), hP2])
              have HRN := Lib.hid (fun h => refS_neg (L := L) (d := 0) (k := k) (t := -1) h)
              have HRY := Lib.hid (fun hc h0 h2 => refS_yes (L := L) (d := 0) (k := k) (t := -1) hc h0 h2)
              have HRL := Lib.hid (fun h2 => refS_less (L := L) (d := 0) (k := k) (t := -1) h2)
              have HRLN := Lib.hid (refR_len L (0 ||| 2 ^ k) (toolC L k))
              have hvb := refV_bd h9 (d := 0 ||| 2 ^ k) (toolC L k) (or_lt_all (Nat.zero_le _) hkl)
              have hcost : costC L (-1) k = 0 := by simp [costC]
              rw [hcost, Int.zero_add] at HRY HRL
              rw [← hP2] at hPA
              obtain ⟨J, hJ⟩ : ∃ J, J = AL - 2 ^ k := ⟨_, rfl⟩
              rw [← hJ] at hen1 hen2
              rw [← hP2] at hJ
              have hJlt : J ≤ AL := by omega
              have HM4 := Lib.hid (show IntKind.i64.wrap ((AL : Int) - (P2 : Int)) = (J : Int) by rw [IntWalk.i64_in ((AL : Int) - (P2 : Int)) (by omega)]; omega)
              obtain ⟨QJ, hQJ⟩ : ∃ QJ, QJ = J * L.length := ⟨_, rfl⟩
              have hQJ9 : QJ ≤ 512 * 9 := by rw [hQJ]; exact Nat.mul_le_mul (by omega) h9
              have HM5 := Lib.hid (show IntKind.i64.wrap ((J : Int) * (L.length : Int)) = (QJ : Int) by
                have h : (J : Int) * (L.length : Int) = (QJ : Int) := by rw [hQJ]; simp
                rw [h]; exact IntWalk.i64_in _ (by omega))
              obtain ⟨q, hq⟩ : ∃ q, q = QJ + k := ⟨_, rfl⟩
              have HM6 := Lib.hid (show IntKind.i64.wrap ((QJ : Int) + (k : Int)) = (q : Int) by rw [IntWalk.i64_in ((QJ : Int) + (k : Int)) (by omega)]; omega)
              have hqM : q < M := by
                have h := at_lt (n := L.length) (e := J) (s := k) (by rw [← HALe.out]; exact hJlt) hkl
                rw [← hQJ, ← hq, ← HNe.out, ← HMe.out] at h; exact h
              rw [← hQJ, ← hq] at hen1 hen2
              have HEV := Lib.hid hen1
              have HER := Lib.hid hen2
              clear hen1 hen2 hJ hQJ hP2
              obtain ⟨v, hvv⟩ : ∃ v, v = refV L (0 ||| 2 ^ k) (toolC L k) := ⟨_, rfl⟩
              rw [← hvv] at HEV hvb HRN HRY HRL
              obtain ⟨R, hR⟩ : ∃ R, R = refR L (0 ||| 2 ^ k) (toolC L k) := ⟨_, rfl⟩
              rw [← hR] at HER HRY HRLN
              have e2 := (HS.out.own.cellAt q (by omega)).trans (intsRow_at F q (by rw [HFl.out]; exact hqM))
              rw [HEV.out] at e2
              obtain ⟨gs, os, rfl, hgs, _, _, B, cc, c2, hcc, hcm, _⟩ := (Hr2.out.below HS.out.below).at hkl
              obtain ⟨la, hla⟩ : ∃ la, la = (stepAt L k).after.length := ⟨_, rfl⟩
              rw [← hla] at c2 hRD
              have hk0 : (0 : Int) ≤ (q : Int) := Int.natCast_nonneg _
              have hk1 : (q : Int) < (M : Int) := by omega
              have i2 : (0 : Int) ≤ (k : Int) := Int.natCast_nonneg _
              have i3 : (k : Int) < (L.length : Int) := by omega
              have h47 : w4.heap.size ≤ wk.heap.size := HS.out.ord.2.2.2
              clear hvv hR hq hla hcost hPA
              by_cases hl0 : la = 0
              · have s0 : ((la : Int) == 0) = true := by simp [hl0]
                have HC := Lib.hid (show canM L 0 k = true by rw [canM, hRD, Nat.zero_testBit]; simp [hl0])
                clear hRD hl0
                by_cases hv0 : v < 0
                · have s1 : decide (0 ≤ v) = false := by simp; omega
                  have HRV := Lib.hid (HRN.out hv0)
                  clear hv0
                  have p0 := wrapU (k := k) (by omega)
                  have p0b : min k 64 = k := Nat.min_eq_left (by omega)
                  have o1 := HW1.out
                  have o2 := HW2.out
                  have o4 := HM4.out
                  have o5 := HM5.out
                  have o6 := HM6.out
                  go_wp2
                  clear p0 p0b o1 o2 o4 o5 o6
                  have HN := Lib.hid (show refS L 0 (-1) (k + 1) = (x, r) by rw [HRV.out]; exact HRS.out)
                  go_roundw
                  case rel => exact ⟨k + 1, x, r, P, Ab, cb, by omega, by go_num, rfl, rfl, HPr, HN, HS⟩
                  case measure => simp [intOf]; omega
                · have s1 : decide (0 ≤ v) = true := by simp; omega
                  by_cases hx0 : x < 0
                  · have s3 : decide (x < 0) = true := by simpa using hx0
                    have HRV := Lib.hid (HRY.out HC.out (by omega) (by rw [HRS.out]; exact Or.inl hx0))
                    clear hx0
                    obtain ⟨wA, hwA⟩ : ∃ wA, wA = wk.alloc (.cells #[.int .i64 (k : Int)] 2) := ⟨_, rfl⟩
                    have hbA : Below wk.heap.size wk wA := by rw [hwA]; exact (Below.refl _ _).alloc (Nat.le_refl _) _
                    have HB := Lib.hid (show wA.ownsRow wk.heap.size 2 1 (.slice (some ⟨wk.heap.size, 0, none⟩) 1 1) 1 [.int .i64 (k : Int)] by rw [hwA]; exact own_whole' wk #[.int .i64 (k : Int)] _ 1 1 wk.heap.size rfl (Nat.le_refl _) rfl (by simp [maxLen]))
                    have HSA := Lib.hid (HS.out.step hbA)
                    obtain ⟨Au, cu, g1, hoE⟩ := HSA.out.rest (i := q) hqM HRl.out
                    rw [HER.out] at g1 hoE
                    obtain ⟨E, hE⟩ : ∃ E, E = intN R := ⟨_, rfl⟩
                    have HE := Lib.hid hE
                    have hE9 : E.length ≤ 9 := by rw [hE, intN_len]; have := HRLN.out; omega
                    rw [← hE] at g1 hoE
                    have HoE := Lib.hid hoE
                    have hsA : wA.heap.size = wk.heap.size + 1 := by rw [hwA]; simp
                    have HPN := Lib.hid (show (k : Int) :: E = intN (k :: R) by rw [HE.out]; rfl)
                    rw [hwA] at g1
                    have HwA := Lib.hid hwA
                    have HbA := Lib.hid hbA
                    clear hE hoE hwA hbA
                    have p0 := wrapU (k := k) (by omega)
                    have p0b : min k 64 = k := Nat.min_eq_left (by omega)
                    have o1 := HW1.out
                    have o2 := HW2.out
                    have o4 := HM4.out
                    have o5 := HM5.out
                    have o6 := HM6.out
                    go_wp2_with (at_builtin; rw [← HwA.out]; refine wpList_append_sl _ rfl (.tmp 192) (.tmp 196) _ rfl w4.heap.size 2 i0 _ 1 8 Try.underlying29 hi hz0 hz1 hz2 rfl (by omega) _ 1 [.int .i64 (k : Int)] rfl (own_base HB.out h47) Au E.length cu (intsRow E) rfl (Rd.of_own HoE.out) (intsRow_one E) (by unfold maxLen; omega) (by omega) (by omega) ?_; intro A9 c9 w9 ho9 hg9 hor9; have b9 : Below wk.heap.size wk w9 := HbA.out.grown hg9 HbA.out.size (fun kk hk => (World.ownsRow.lt HB.out kk hk).1); have S10 := Lib.hid (HS.out.step b9); have O10 := Lib.hid (show w9.ownsRow w4.heap.size 2 1 (.slice A9 ((k : Int) :: E).length c9) ((k : Int) :: E).length (intsRow ((k : Int) :: E)) from (by rw [show ((k : Int) :: E).length = 1 + E.length by simp; omega]; exact ho9)); have e9 := (S10.out.own.cellAt q (by omega)).trans ((intsRow_at F q (by rw [HFl.out]; exact hqM)).trans (by rw [HEV.out])))
                    clear p0 p0b o1 o2 o4 o5 o6
                    have HS11 := Lib.hid (show CalS w2.heap.size w3.heap.size w4.heap.size M w2 w9 F vs RR (.slice A9 ((k : Int) :: E).length c9) ((k : Int) :: E) from ⟨S10.out.own, S10.out.rows, S10.out.els, O10.out, S10.out.below, S10.out.ord⟩)
                    clear ho9 hg9 hor9 b9 S10 O10 e9
                    go_roundw
                    case rel => exact ⟨k + 1, v, k :: R, (k : Int) :: E, A9, c9, by omega, by go_num, by rw [List.length_cons, Nat.add_comm], rfl, HPN, HRV, HS11⟩
                    case measure => simp [intOf]; omega
                  · have s3 : decide (x < 0) = false := by simpa using hx0
                    by_cases hx1 : v < x
                    · have s4 : decide (v < x) = true := by simpa using hx1
                      have HRV := Lib.hid (HRY.out HC.out (by omega) (by rw [HRS.out]; exact Or.inr hx1))
                      clear hx0 hx1
                      obtain ⟨wA, hwA⟩ : ∃ wA, wA = wk.alloc (.cells #[.int .i64 (k : Int)] 2) := ⟨_, rfl⟩
                      have hbA : Below wk.heap.size wk wA := by rw [hwA]; exact (Below.refl _ _).alloc (Nat.le_refl _) _
                      have HB := Lib.hid (show wA.ownsRow wk.heap.size 2 1 (.slice (some ⟨wk.heap.size, 0, none⟩) 1 1) 1 [.int .i64 (k : Int)] by rw [hwA]; exact own_whole' wk #[.int .i64 (k : Int)] _ 1 1 wk.heap.size rfl (Nat.le_refl _) rfl (by simp [maxLen]))
                      have HSA := Lib.hid (HS.out.step hbA)
                      obtain ⟨Au, cu, g1, hoE⟩ := HSA.out.rest (i := q) hqM HRl.out
                      rw [HER.out] at g1 hoE
                      obtain ⟨E, hE⟩ : ∃ E, E = intN R := ⟨_, rfl⟩
                      have HE := Lib.hid hE
                      have hE9 : E.length ≤ 9 := by rw [hE, intN_len]; have := HRLN.out; omega
                      rw [← hE] at g1 hoE
                      have HoE := Lib.hid hoE
                      have hsA : wA.heap.size = wk.heap.size + 1 := by rw [hwA]; simp
                      have HPN := Lib.hid (show (k : Int) :: E = intN (k :: R) by rw [HE.out]; rfl)
                      rw [hwA] at g1
                      have HwA := Lib.hid hwA
                      have HbA := Lib.hid hbA
                      clear hE hoE hwA hbA
                      have p0 := wrapU (k := k) (by omega)
                      have p0b : min k 64 = k := Nat.min_eq_left (by omega)
                      have o1 := HW1.out
                      have o2 := HW2.out
                      have o4 := HM4.out
                      have o5 := HM5.out
                      have o6 := HM6.out
                      go_wp2_with (at_builtin; rw [← HwA.out]; refine wpList_append_sl _ rfl (.tmp 192) (.tmp 196) _ rfl w4.heap.size 2 i0 _ 1 8 Try.underlying29 hi hz0 hz1 hz2 rfl (by omega) _ 1 [.int .i64 (k : Int)] rfl (own_base HB.out h47) Au E.length cu (intsRow E) rfl (Rd.of_own HoE.out) (intsRow_one E) (by unfold maxLen; omega) (by omega) (by omega) ?_; intro A9 c9 w9 ho9 hg9 hor9; have b9 : Below wk.heap.size wk w9 := HbA.out.grown hg9 HbA.out.size (fun kk hk => (World.ownsRow.lt HB.out kk hk).1); have S10 := Lib.hid (HS.out.step b9); have O10 := Lib.hid (show w9.ownsRow w4.heap.size 2 1 (.slice A9 ((k : Int) :: E).length c9) ((k : Int) :: E).length (intsRow ((k : Int) :: E)) from (by rw [show ((k : Int) :: E).length = 1 + E.length by simp; omega]; exact ho9)); have e9 := (S10.out.own.cellAt q (by omega)).trans ((intsRow_at F q (by rw [HFl.out]; exact hqM)).trans (by rw [HEV.out])))
                      clear p0 p0b o1 o2 o4 o5 o6
                      have HS11 := Lib.hid (show CalS w2.heap.size w3.heap.size w4.heap.size M w2 w9 F vs RR (.slice A9 ((k : Int) :: E).length c9) ((k : Int) :: E) from ⟨S10.out.own, S10.out.rows, S10.out.els, O10.out, S10.out.below, S10.out.ord⟩)
                      clear ho9 hg9 hor9 b9 S10 O10 e9
                      go_roundw
                      case rel => exact ⟨k + 1, v, k :: R, (k : Int) :: E, A9, c9, by omega, by go_num, by rw [List.length_cons, Nat.add_comm], rfl, HPN, HRV, HS11⟩
                      case measure => simp [intOf]; omega
                    · have s4 : decide (v < x) = false := by simpa using hx1
                      have HRV := Lib.hid (HRL.out (by rw [HRS.out]; rintro (z | z); exact hx0 z; exact hx1 z))
                      have HN := Lib.hid (show refS L 0 (-1) (k + 1) = (x, r) by rw [HRV.out]; exact HRS.out)
                      clear hx0 hx1
                      have p0 := wrapU (k := k) (by omega)
                      have p0b : min k 64 = k := Nat.min_eq_left (by omega)
                      have o1 := HW1.out
                      have o2 := HW2.out
                      have o4 := HM4.out
                      have o5 := HM5.out
                      have o6 := HM6.out
                      go_wp2
                      clear p0 p0b o1 o2 o4 o5 o6
                      go_roundw
                      case rel => exact ⟨k + 1, x, r, P, Ab, cb, by omega, by go_num, rfl, rfl, HPr, HN, HS⟩
                      case measure => simp [intOf]; omega
              · have s0 : ((la : Int) == 0) = false := by rw [beq_eq_false_iff_ne]; omega
                have HC := Lib.hid (show canM L 0 k = false by rw [canM, hRD, Nat.zero_testBit]; simp [hl0])
                have HN := Lib.hid (show refS L 0 (-1) (k + 1) = (x, r) by rw [refS_no HC.out]; exact HRS.out)
                clear hRD hl0
                have p0 := wrapU (k := k) (by omega)
                have p0b : min k 64 = k := Nat.min_eq_left (by omega)
                have o1 := HW1.out
                have o2 := HW2.out
                have o4 := HM4.out
                have o5 := HM5.out
                have o6 := HM6.out
                go_wp2
                clear p0 p0b o1 o2 o4 o5 o6
                go_roundw
                case rel => exact ⟨k + 1, x, r, P, Ab, cb, by omega, by go_num, rfl, rfl, HPr, HN, HS⟩
                case measure => simp [intOf]; omega
            · skip
              have HXR := Lib.hid (show x = leastC L ∧ P = intN (calmC L) by
                have h := HRS.out
                rw [show k = L.length by omega, HCR.out] at h
                exact ⟨(congrArg Prod.fst h).symm, by rw [HPr.out]; exact congrArg intN (congrArg Prod.snd h).symm⟩)
              have HH := Lib.hid (show calmF L = (P, x, 0) by rw [H.out, HXR.out.1, HXR.out.2])
              go_wp2
              go_ret3
              exact RetSIC.ok HH.out HS.out.best rfl rfl (by omega) (Hb2.out.trans (HS.out.below.mono hsz2))
end Go.Proofs.Ytecfkomijaakhaa
