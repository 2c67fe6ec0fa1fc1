/- Chains: the walk of LongestChain in the reference. -/
import Derived.Test.YtecfkomijaakhaaChY
namespace Go.Proofs.Ytecfkomijaakhaa
open Go.RowKit

set_option maxHeartbeats 8000000 in
theorem specLongestChain_any (w : World) (L : List Step) (V : Value) (hv : Steps w V L) (hn : L.length ≤ 1048576) :
    Calls Try.prog 40 #[V] w (RetSIC w.heap.size 2 1 intsRow (longF L) w) := by
  have Hv := Lib.hid hv
  cases h1 : isRecipe L
  · have H := Lib.hid (longF_bad h1)
    clear hv
    go_enter Try.func40, Try.ntmps40
    go_wp2_with fail
    refine (specIsRecipe_any w L _ Hv.out hn).mono ?_
    rintro e w2 ⟨rfl, hb2⟩
    rw [h1]
    go_wp2
    go_ret3
    exact RetSIC.err H.out rfl hb2
  · have H := Lib.hid (longF_ok h1)
    have HR := Lib.hid h1
    have HLW := Lib.hid (long_law h1)
    obtain ⟨h9, hok, _⟩ := isRecipe_iff.1 h1
    have Hok := Lib.hid hok
    obtain ⟨A, c, rfl, hl, hc, hr⟩ := hv
    have Hr := Lib.hid hr
    unfold maxLen at hc
    clear hr hok
    go_enter Try.func40, Try.ntmps40
    go_wp2_with fail
    refine (specIsRecipe_any w L _ Hv.out hn).mono ?_
    rintro e w2 ⟨rfl, hb2⟩
    rw [h1]
    have Hb2 := Lib.hid hb2
    have hsz2 := hb2.size
    clear hb2 h1
    go_wp2
    go_loopw [5, 6, 7] (fun b m i wr => ∃ (q : Nat) (BB : List Nat) (mo : Int) (Ab : Option Addr) (nb cb : Nat), q ≤ L.length ∧ i = .int .i64 q ∧ b = .slice Ab nb cb ∧ Hid (nb = (intN BB).length) ∧ m = .int .i64 mo ∧ Hid (refF L (allCh L q) = (BB, mo)) ∧ Hid (wr.ownsRow w.heap.size 2 1 (.slice Ab nb cb) (intN BB).length (intsRow (intN BB))) ∧ Below w.heap.size w wr) (fun _ _ i _ => L.length - (intOf i).toNat)
    case atStart => exact ⟨0, [], 0, _, _, _, Nat.zero_le _, rfl, rfl, Lib.hid rfl, rfl, Lib.hid rfl, Lib.hid (own_empty _ _ _ hsz2), Hb2.out.alloc hsz2 _⟩
    case round =>
      obtain ⟨q, BB, mo, Ab, nb, cb, hq, rfl, rfl, HNB, rfl, HF, HO, hb⟩ := hrel
      have Hb := Lib.hid hb
      have hsz := hb.size
      clear hb
      by_cases hlt : q < L.length
      · obtain ⟨pq, _, _, hpq⟩ := place_is HR.out hlt
        go_wp2_with fail
        refine (specChains_any L HR.out L.length wr _ q (Hv.out.below Hb.out) hlt (by omega) (by omega)).mono ?_
        rintro e w3 ⟨u3, rfl, hou, hb3⟩
        obtain ⟨CI, hCI⟩ : ∃ CI, CI = chI L L.length q := ⟨_, rfl⟩
        have HCI := Lib.hid hCI
        rw [← hCI] at hou
        obtain ⟨A3, c3, rfl⟩ : ∃ A3 c3, u3 = .slice A3 CI.length c3 := by
          obtain ⟨vs3, ho3, _⟩ := hou
          obtain ⟨A3, c3, e3, _⟩ := own_slice ho3
          exact ⟨A3, c3, e3⟩
        have HOU := Lib.hid hou
        have Hb3 := Lib.hid (Hb.out.trans (hb3.mono hsz))
        have HO3 := Lib.hid (own_below HO.out hb3)
        have hsz3 := Hb3.out.size
        have HCIl := Lib.hid (show CI.length = (chainsN L L.length q).length by rw [HCI.out, chI, List.length_map])
        have hcnt : CI.length ≤ 1000000000 := by
          have u := chI_count HR.out L.length q hlt
          rw [← hCI] at u
          exact Nat.le_trans u (Nat.pow_le_pow_right (show 10 > 0 by omega) h9)
        have HF0 := Lib.hid (show refF L (preCh L q 0) = (BB, mo) by rw [preCh_zero]; exact HF.out)
        clear hou hb3 hCI hpq HO HF
        go_wp2
        go_loopw [5, 6, 9] (fun b m i wk => ∃ (k : Nat) (BB : List Nat) (mo : Int) (Ab : Option Addr) (nb cb : Nat), k ≤ CI.length ∧ i = .int .i64 k ∧ b = .slice Ab nb cb ∧ Hid (nb = (intN BB).length) ∧ m = .int .i64 mo ∧ Hid (refF L (preCh L q k) = (BB, mo)) ∧ Hid (wk.ownsRow w.heap.size 2 1 (.slice Ab nb cb) (intN BB).length (intsRow (intN BB))) ∧ Below w3.heap.size w3 wk) (fun _ _ i _ => CI.length - (intOf i).toNat)
        case atStart => exact ⟨0, BB, mo, Ab, nb, cb, Nat.zero_le _, rfl, rfl, HNB, rfl, HF0, HO3, Below.refl _ _⟩
        case round =>
          clear HF0 HO3 HNB
          rename World => wk
          obtain ⟨k, BB, mo, Ab, nb, cb, hk, rfl, rfl, HNB, rfl, HF, HO, hb⟩ := hrel
          have Hbk := Lib.hid hb
          have Hbw := Lib.hid (Hb3.out.trans (hb.mono hsz3))
          have hszk := hb.size
          clear hb
          by_cases hlk : k < CI.length
          · obtain ⟨gC, Au, cu, rfl, hgC, _, c0, hoE⟩ := (HOU.out.below Hbk.out).at_ hlk
            have hmo := refF_bd HR.out (preCh L q k) (preCh_sound HR.out hlt)
            rw [HF.out] at hmo
            have HSND := Lib.hid (preCh_sound HR.out hlt (k := k + 1) ((chainsN L L.length q).getD k []) (by rw [preCh_succ L (by rw [← HCIl.out]; exact hlk)]; simp))
            have HFS := Lib.hid (show refF L (preCh L q (k + 1)) = refSt L (BB, mo) ((chainsN L L.length q).getD k []) by rw [preCh_succ L (by rw [← HCIl.out]; exact hlk), refF_snoc, HF.out])
            rw [HCI.out, chI_getD] at c0 hoE
            obtain ⟨E, hE⟩ : ∃ E, E = (chainsN L L.length q).getD k [] := ⟨_, rfl⟩
            rw [← hE] at HSND HFS c0 hoE
            have HoE := Lib.hid hoE
            have HEl := Lib.hid (intN_len E)
            obtain ⟨ne, hne⟩ : ∃ ne, ne = (intN E).length := ⟨_, rfl⟩
            have HNE := Lib.hid hne
            rw [← hne] at c0
            have hne9 : ne ≤ 9 := by have := HSND.out.2; have := HEl.out; omega
            have m0 : (0 : Int) ≤ (k : Int) := Int.natCast_nonneg _
            have m1 : (k : Int) < (CI.length : Int) := by omega
            clear hE hoE hne
            go_wp2
            go_loopw [10, 11] (fun n j wj => ∃ (d : Nat) (sn : Int), d ≤ ne ∧ j = .int .i64 d ∧ n = .int .i64 sn ∧ Hid (sn = sumC L (E.take d)) ∧ Below wk.heap.size wk wj) (fun _ j _ => ne - (intOf j).toNat)
            case atStart => exact ⟨0, 0, Nat.zero_le _, rfl, rfl, Lib.hid (by simp [sumC]), Below.refl _ _⟩
            case round =>
              rename World => wj
              obtain ⟨d, sn, hd, rfl, rfl, hsn, hb⟩ := hrel
              have Hbj := Lib.hid hb
              have hszj := hb.size
              have HoJ := Lib.hid (own_below HoE.out hb)
              have c1 := (hb.cell (p := ⟨gC, k, none⟩) hgC).trans c0
              have hsb := sumC_bd Hok.out _ (ch_take E d HSND.out.1)
              rw [← hsn.out] at hsb
              have hsb2 : sn ≤ 2160 := by
                have := hsb.2
                rw [List.length_take] at this
                have := HSND.out.2
                omega
              have hsb1 := hsb.1
              clear hb hsb
              by_cases hlj : d < ne
              · have hdE : d < E.length := by have := HEl.out; have := HNE.out; omega
                obtain ⟨gu, ou, rfl, hgu, e0⟩ := (show Rd wj wj.heap.size 1 Au (intN E).length (intsRow (intN E)) from Rd.of_own HoJ.out).ints (by rw [← HNE.out]; exact hlj)
                rw [intN_at] at e0
                have hbl := ch_mem HSND.out.1 (natAt E d) (by rw [natAt_lt hdE]; exact List.getElem_mem hdE)
                have HT := Lib.hid (sumC_take L hdE)
                obtain ⟨b, hbe⟩ : ∃ b, b = natAt E d := ⟨_, rfl⟩
                rw [← hbe] at e0 hbl HT
                obtain ⟨gs, os, rfl, hgs, d0, _⟩ := (Hr.out.below (Hbw.out.trans (Hbj.out.mono Hbw.out.size))).at hbl
                have hm1 := (steps_bd Hok.out hbl).1
                obtain ⟨mb, hmb⟩ : ∃ mb, mb = mnt L b := ⟨_, rfl⟩
                rw [← hmb] at HT
                rw [show (stepAt L b).minutes = mb from hmb.symm] at d0 hm1
                have i0 : (0 : Int) ≤ (d : Int) := Int.natCast_nonneg _
                have i1 : (d : Int) < (ne : Int) := by omega
                have i2 : (0 : Int) ≤ (b : Int) := Int.natCast_nonneg _
                have i3 : (b : Int) < (L.length : Int) := by omega
                have x1 := IntWalk.i64_in (sn + mb) (by omega)
                have HT2 := Lib.hid (show sn + mb = sumC L (E.take (d + 1)) by rw [HT.out, hsn.out])
                clear hbe hmb hdE
                go_wp2
                go_roundw
                case rel => exact ⟨d + 1, sn + mb, by omega, by go_num, rfl, HT2, Hbj.out⟩
                case measure => simp [intOf]; omega
              · have hdn : d = E.length := by have := HEl.out; have := HNE.out; omega
                have HSN := Lib.hid (show sn = sumC L E by rw [hsn.out, hdn, List.take_length])
                clear hdn
                have HOj := Lib.hid (own_below HO.out (Hbj.out.mono (Nat.le_refl _)))
                have Hb9 := Lib.hid ((Hbk.out.trans (Hbj.out.mono hszk)))
                have hneE : ne = (intN E).length := HNE.out
                have HOE := Lib.hid (show wj.ownsRow w.heap.size 2 1 (.slice Au ne cu) (intN E).length (intsRow (intN E)) by rw [hneE]; exact own_base HoJ.out (by omega))
                have HBJ := Lib.hid (Hbw.out.trans (Hbj.out.mono Hbw.out.size))
                have hgC2 : gC < wj.heap.size := Nat.lt_of_lt_of_le hgC hszj
                clear hneE HoJ
                by_cases hgt : mo < sn
                · have t1 : decide (mo < sn) = true := by simpa using hgt
                  have HFA := Lib.hid (show refF L (preCh L q (k + 1)) = (E, sn) by rw [HFS.out, refSt, if_pos (Or.inl (by rw [← HSN.out]; exact hgt)), HSN.out])
                  clear hgt
                  go_wp2
                  go_roundw
                  case rel => exact ⟨k + 1, E, sn, Au, ne, cu, by omega, by go_num, rfl, HNE, rfl, HFA, HOE, Hb9.out⟩
                  case measure => simp [intOf]; omega
                · have t1 : decide (mo < sn) = false := by simpa using hgt
                  by_cases he : sn = mo
                  · have t2 : (sn == mo) = true := by simp [he]
                    have HEQ := Lib.hid he
                    clear he hgt
                    go_wp2_with fail
                    refine (specLess_any wj E BB _ _ (Sl.of_own HOE.out) (Sl.of_own HOj.out) (by have := HEl.out; have := HNE.out; omega) (by have := intN_len BB; have := hmo.1; omega)).mono ?_
                    rintro e w8 ⟨rfl, hb8⟩
                    have HOE8 := Lib.hid (own_below HOE.out hb8)
                    have HOj8 := Lib.hid (own_below HOj.out hb8)
                    have Hb8 := Lib.hid (Hb9.out.trans (hb8.mono Hb9.out.size))
                    have c2 := (hb8.cell (p := ⟨gC, k, none⟩) hgC2).trans c1
                    clear c1 hb8
                    cases hlx : lexL E BB
                    · have HFA := Lib.hid (show refF L (preCh L q (k + 1)) = (BB, mo) by
                        rw [HFS.out, refSt, if_neg]
                        rintro (z | z)
                        · have := HSN.out; have := HEQ.out; simp only at z; omega
                        · rw [hlx] at z; cases z.2)
                      clear hlx
                      go_wp2
                      go_roundw
                      case rel => exact ⟨k + 1, BB, mo, Ab, nb, cb, by omega, by go_num, rfl, HNB, rfl, HFA, HOj8, Hb8.out⟩
                      case measure => simp [intOf]; omega
                    · have HFA := Lib.hid (show refF L (preCh L q (k + 1)) = (E, sn) by rw [HFS.out, refSt, if_pos (Or.inr ⟨by rw [← HSN.out]; exact HEQ.out, hlx⟩), HSN.out])
                      clear hlx
                      go_wp2
                      go_roundw
                      case rel => exact ⟨k + 1, E, sn, Au, ne, cu, by omega, by go_num, rfl, HNE, rfl, HFA, HOE8, Hb8.out⟩
                      case measure => simp [intOf]; omega
                  · have t2 : (sn == mo) = false := by simpa using he
                    have HFA := Lib.hid (show refF L (preCh L q (k + 1)) = (BB, mo) by
                      rw [HFS.out, refSt, if_neg]
                      rintro (z | z)
                      · have := HSN.out; simp only at z; omega
                      · have := HSN.out; have := z.1; simp only at this; omega)
                    clear he hgt
                    go_wp2
                    go_roundw
                    case rel => exact ⟨k + 1, BB, mo, Ab, nb, cb, by omega, by go_num, rfl, HNB, rfl, HFA, HOj, Hb9.out⟩
                    case measure => simp [intOf]; omega
          · have hkn : k = CI.length := by omega
            have HFN := Lib.hid (show refF L (allCh L (q + 1)) = (BB, mo) by rw [← preCh_all, ← HCIl.out, ← hkn]; exact HF.out)
            clear hkn
            go_wp2
            go_roundw
            case rel => exact ⟨q + 1, BB, mo, Ab, nb, cb, by omega, by go_num, rfl, HNB, rfl, HFN, HO, Hbw.out⟩
            case measure => simp [intOf]; omega
      · have hqn : q = L.length := by omega
        have HFN := Lib.hid (show (longC L, longG L) = (BB, mo) by rw [← HLW.out, ← HF.out, refF, hqn])
        clear hqn
        obtain ⟨rfl, rfl⟩ : longC L = BB ∧ longG L = mo := by have := HFN.out; exact ⟨congrArg Prod.fst this, congrArg Prod.snd this⟩
        go_wp2
        go_ret3
        exact RetSIC.ok H.out HO.out rfl rfl (Nat.le_refl _) Hb.out
end Go.Proofs.Ytecfkomijaakhaa
