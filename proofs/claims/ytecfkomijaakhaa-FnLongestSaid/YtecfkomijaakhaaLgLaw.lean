/- FnLongest, for every input: the longest chain is a chain, and no step ends later than it is long. Its conditions: none. -/
import Derived.Test.YtecfkomijaakhaaLgM
import Derived.Test.YtecfkomijaakhaaChZ
import Derived.Test.YtecfkomijaakhaaChQ
import Derived.Test.YtecfkomijaakhaaHasInt
import Derived.Test.YtecfkomijaakhaaDrawRQ
import Derived.Test.YtecfkomijaakhaaGreat
import Derived.Test.YtecfkomijaakhaaRecL
import Derived.Test.YtecfkomijaakhaaRecN
namespace Go.Proofs.Ytecfkomijaakhaa
open Go.ChangeShapes Go.WideShapes Go.ChangeAt Go.RowKit Go.Deep

set_option maxHeartbeats 16000000 in
set_option maxRecDepth 100000 in
theorem lawLongest_walk (w : World) (A : Option Addr) (n c : Nat) (hcode : Code w A n) (hc : n ≤ c ∧ c ≤ maxLen) :
    Calls Try.prog 14 #[.slice A n c] w fun e w' => e = .returned (.bool true) ∧ Below w.heap.size w w' := by
  by_cases hbig : 4096 < (n : Int)
  · have t0 : decide (4096 < (n : Int)) = true := by simpa using hbig
    go_enter Try.func14, Try.ntmps14
    go_wp2_with fail
    refine (big_any w A n c hc.1 hc.2).mono ?_
    rintro e w1 ⟨rfl, rfl⟩
    rw [t0]
    go_wp2
    go_ret
    exact ⟨rfl, Below.refl _ _⟩
  · have t0 : decide (4096 < (n : Int)) = false := by simpa using hbig
    have hn : n ≤ 4096 := by omega
    have Hcode := Lib.hid hcode
    have Hc := Lib.hid hc
    clear hcode hc hbig
    go_enter Try.func14, Try.ntmps14
    go_wp2_with fail
    refine (big_any w A n c Hc.out.1 Hc.out.2).mono ?_
    rintro e w1 ⟨rfl, rfl⟩
    rw [t0]
    clear t0
    go_wp2_with fail
    refine (drawChain_any w A n c Hcode.out hn Hc.out).mono ?_
    rintro e w1 ⟨L, V, rfl, hO, hL, hb1⟩
    have b1 := hb1
    have SL := Lib.hid hO
    obtain ⟨ASL, cSL, rfl, _, hcSL, _⟩ := hO
    unfold maxLen at hcSL
    have hLn : L.length ≤ 1048576 := by omega
    go_wp2_with fail
    refine (implLongestChain_any w1 L _ SL.out hLn).mono ?_
    rintro e w2 ⟨yli, rfl, ho, hb2⟩
    have b2 := b1.trans (hb2.mono b1.size)
    obtain ⟨Ali, cli, rfl, _, _⟩ := own_slice ho
    have Yli := Lib.hid (Sl.of_own ho)
    clear ho
    go_wp2_with fail
    refine (specLongestChain_any w2 L _ (SL.out.below hb2) hLn).mono ?_
    rintro e w3 ⟨yls, rfl, ho, hb3⟩
    have b3 := b2.trans (hb3.mono b2.size)
    obtain ⟨Als, cls, rfl, _, _⟩ := own_slice ho
    have Yls := Lib.hid (Sl.of_own ho)
    clear ho
    go_wp2_with fail
    refine (implEarliestStarts_any w3 L _ ((SL.out.below hb2).below hb3) hLn).mono ?_
    rintro e w4 ⟨yei, rfl, ho, hb4⟩
    have b4 := b3.trans (hb4.mono b3.size)
    obtain ⟨Aei, cei, rfl, _, _⟩ := own_slice ho
    have Yei := Lib.hid (Sl.of_own ho)
    clear ho
    go_wp2_with fail
    refine (specEarliestStarts_any w4 L _ (((SL.out.below hb2).below hb3).below hb4) hLn).mono ?_
    rintro e w5 ⟨yes, rfl, ho, hb5⟩
    have b5 := b4.trans (hb5.mono b4.size)
    obtain ⟨Aes, ces, rfl, _, _⟩ := own_slice ho
    have Yes := Lib.hid (Sl.of_own ho)
    clear ho
    go_wp2_with fail
    refine (drawAfter_any w5 A n c (code_below (code_below (code_below (code_below (code_below Hcode.out hb1) hb2) hb3) hb4) hb5) hn Hc.out).mono ?_
    rintro e w6 ⟨X, XV, st, rfl, hO, hXL, hb6⟩
    have b6 := b5.trans (hb6.mono b5.size)
    have SX := Lib.hid hO
    obtain ⟨ASX, cSX, rfl, _, hcSX, _⟩ := hO
    unfold maxLen at hcSX
    have hXn : X.length ≤ 1048576 := by omega
    go_wp2_with fail
    refine (implAllAfter_any w6 X _ st SX.out hXn).mono ?_
    rintro e w7 ⟨yai, rfl, ho, hb7⟩
    have b7 := b6.trans (hb7.mono b6.size)
    obtain ⟨Aai, cai, rfl, _, _⟩ := own_slice ho
    have Yai := Lib.hid (Sl.of_own ho)
    clear ho
    go_wp2_with fail
    refine (specAllAfter_any w7 X _ st (SX.out.below hb7) hXn).mono ?_
    rintro e w8 ⟨yas, rfl, ho, hb8⟩
    have b8 := b7.trans (hb8.mono b7.size)
    obtain ⟨Aas, cas, rfl, _, _⟩ := own_slice ho
    have Yas := Lib.hid (Sl.of_own ho)
    clear ho
    go_wp2_with fail
    refine (likeInts_same _ _ _ w8 ((((((Yli.out.below hb3).below hb4).below hb5).below hb6).below hb7).below hb8) (((((Yls.out.below hb4).below hb5).below hb6).below hb7).below hb8) (longF_len L)).mono ?_
    rintro e w9 ⟨rfl, hb9⟩
    have b9 := b8.trans (hb9.mono b8.size)
    go_wp2_with fail
    refine (likeInts_same _ _ _ w9 (((((Yei.out.below hb5).below hb6).below hb7).below hb8).below hb9) ((((Yes.out.below hb6).below hb7).below hb8).below hb9) (startsF_len L)).mono ?_
    rintro e w10 ⟨rfl, hb10⟩
    have b10 := b9.trans (hb10.mono b9.size)
    go_wp2_with fail
    refine (likeInts_same _ _ _ w10 (((Yai.out.below hb8).below hb9).below hb10) ((Yas.out.below hb9).below hb10) (ancF_len X st)).mono ?_
    rintro e w11 ⟨rfl, hb11⟩
    have b11 := b10.trans (hb11.mono b10.size)
    have e1 : (startsF L).2 = (longF L).2.2 := by unfold startsF longF; split <;> rfl
    rw [e1]
    have e3 : isRecipe L = ((longF L).2.2 == 0) := by unfold longF; cases isRecipe L <;> simp
    obtain ⟨bc, hbc⟩ : ∃ bc, bc = (longF L).2.2 := ⟨_, rfl⟩
    rw [← hbc] at e3 ⊢
    have E3 := Lib.hid e3
    clear e1 e3 hbc
    have K11SL := Lib.hid ((((((((((SL.out.below hb2).below hb3).below hb4).below hb5).below hb6).below hb7).below hb8).below hb9).below hb10).below hb11)
    have K11Yli := Lib.hid (((((((((Yli.out.below hb3).below hb4).below hb5).below hb6).below hb7).below hb8).below hb9).below hb10).below hb11)
    have K11Yls := Lib.hid ((((((((Yls.out.below hb4).below hb5).below hb6).below hb7).below hb8).below hb9).below hb10).below hb11)
    have K11Yei := Lib.hid (((((((Yei.out.below hb5).below hb6).below hb7).below hb8).below hb9).below hb10).below hb11)
    clear hn Hcode Hc
    by_cases h0 : bc = 0
    · skip
      subst h0
      have hr : isRecipe L = true := by rw [E3.out]; rfl
      have HRL := Lib.hid hr
      obtain ⟨h9, hok, hfl⟩ := isRecipe_iff.1 hr
      have Hok := Lib.hid hok
      have ef : (longF L).1 = intN (longC L) := by rw [longF_ok hr]
      have eg : (longF L).2.1 = longG L := by rw [longF_ok hr]
      have es : (startsF L).1 = stOut L L.length := by rw [starts_ok hr]
      have ZC := Lib.hid (K11Yli.out)
      have ZD := Lib.hid (K11Yls.out)
      have ZS := Lib.hid (K11Yei.out)
      rw [ef] at ZC ZD
      rw [es] at ZS
      rw [ef, eg, es]
      have HLI := Lib.hid (long_is hr)
      have HBD := Lib.hid (long_bd hr)
      have HLA := Lib.hid (last_law hr)
      have HSL := Lib.hid (stOut_len L L.length)
      have HEB := Lib.hid (fun i (hi : i < L.length) => end_bd hr hi)
      clear ef eg es hr hok hfl
      obtain ⟨G, hG⟩ : ∃ G, G = longG L := ⟨_, rfl⟩
      rw [← hG] at HLI HBD HLA ⊢
      clear hG
      obtain ⟨c0, hc0⟩ : ∃ c0, c0 = longC L := ⟨_, rfl⟩
      rw [← hc0] at HLI HBD ZC ZD ⊢
      clear hc0
      obtain ⟨C, hC⟩ : ∃ C, C = intN c0 := ⟨_, rfl⟩
      have HC := Lib.hid hC
      rw [← hC] at ZC ZD ⊢
      have hCl : C.length = c0.length := by rw [hC, intN_len]
      have HCl := Lib.hid hCl
      have hC9 : C.length ≤ 9 := by have := HBD.out.1; omega
      clear hC hCl
      obtain ⟨T, hT⟩ : ∃ T, T = stOut L L.length := ⟨_, rfl⟩
      have HT := Lib.hid hT
      rw [← hT] at ZS HSL HEB ⊢
      clear hT
      obtain ⟨wb, rfl⟩ : ∃ wb : World, wb = w11 := ⟨_, rfl⟩
      go_wp2
      go_loopw [20, 22] (fun s i wr => ∃ (k : Nat) (x : Int), i = .int .i64 k ∧ k ≤ C.length ∧ s = .int .i64 x ∧ Hid (x = sumC L (c0.take k)) ∧ Below wb.heap.size wb wr) (fun _ i _ => C.length - (intOf i).toNat)
      case atStart => exact ⟨0, 0, rfl, Nat.zero_le _, rfl, Lib.hid (by simp [sumC]), Below.refl _ _⟩
      case round =>
        obtain ⟨k, x, rfl, hk, rfl, HX, hb⟩ := hrel
        have Hb := Lib.hid hb
        clear hb
        obtain ⟨wv, rfl⟩ : ∃ wv : World, wv = wr := ⟨_, rfl⟩
        by_cases hlt : k < C.length
        · skip
          have hk2 : k < c0.length := by have := HCl.out; omega
          have hbn := ch_mem HLI.out.1 (natAt c0 k) (by rw [natAt_lt hk2]; exact List.getElem_mem hk2)
          have HTK := Lib.hid (sumC_take L hk2)
          have hsb := sumC_bd Hok.out _ (ch_take c0 k HLI.out.1)
          rw [← HX.out] at hsb
          have hsb2 : x ≤ 2160 := by
            have := hsb.2
            rw [List.length_take] at this
            have := HCl.out
            omega
          have hsb1 := hsb.1
          clear hsb
          obtain ⟨gc, oc, rfl, hgc, q0⟩ := (Sl.rd ((ZC.out).below Hb.out)).ints (l := C) hlt
          obtain ⟨gd, od, rfl, hgd, q1⟩ := (Sl.rd ((ZD.out).below Hb.out)).ints (l := C) hlt
          have HCA := Lib.hid (fun j => show intsAt C j = natAt c0 j by rw [HC.out, intN_at])
          rw [HCA.out] at q0 q1
          obtain ⟨_, _, eA, _, _, hst⟩ := (K11SL.out).below Hb.out
          injection eA with eA1 eA2 eA3
          subst eA1
          subst eA3
          obtain ⟨gx, ox, rfl, hgx, s0, s1, B, cc, s2, hcc, hcm, hrd⟩ := hst.at hbn
          have Hrd := Lib.hid hrd
          clear s1 hst hrd
          have hmn := (steps_bd Hok.out hbn).1
          have HNX := Lib.hid (fun (h : 0 < k) => ch_next (c := c0) (k := k - 1) HLI.out.1 (by omega))
          obtain ⟨b, hbe⟩ : ∃ b, b = natAt c0 k := ⟨_, rfl⟩
          have HBE := Lib.hid hbe
          rw [← hbe] at q0 q1 s0 s2 hmn hbn HTK Hrd hcc
          clear hbe
          obtain ⟨mn, hmn0⟩ : ∃ mn, mn = (stepAt L b).minutes := ⟨_, rfl⟩
          rw [← hmn0] at s0 hmn
          have HT2 := Lib.hid (show x + mn = sumC L (c0.take (k + 1)) by rw [HTK.out, HX.out, hmn0]; rfl)
          have HL0 := Lib.hid (show befN L (natAt c0 (k - 1)) b = hasI (stepAt L b).after (natAt c0 (k - 1)) from rfl)
          obtain ⟨l, hl⟩ : ∃ l, l = (stepAt L b).after := ⟨_, rfl⟩
          rw [← hl] at s2 Hrd hcc HL0
          clear hmn0 hl
          have i0 : (0 : Int) ≤ (k : Int) := Int.natCast_nonneg _
          have i1 : (k : Int) < (C.length : Int) := by omega
          have i2 : (0 : Int) ≤ (b : Int) := Int.natCast_nonneg _
          have i3 : (b : Int) < (L.length : Int) := by omega
          have x1 := IntWalk.i64_in (x + mn) (by omega)
          by_cases hk0 : 0 < k
          · skip
            obtain ⟨p, hp⟩ : ∃ p, p = k - 1 := ⟨_, rfl⟩
            have HP := Lib.hid hp
            have t0 : decide ((0 : Int) < (k : Int)) = true := by simp; omega
            have hpC : p < C.length := by omega
            have x2 : IntKind.i64.wrap ((k : Int) - 1) = (p : Int) := by rw [IntWalk.i64_in ((k : Int) - 1) (by omega)]; omega
            clear hp
            obtain ⟨g2, o2, eC, _, q2⟩ := (Sl.rd ((ZC.out).below Hb.out)).ints (l := C) hpC
            injection eC with eC
            injection eC with eC1 eC2
            subst eC1
            subst eC2
            rw [HCA.out] at q2
            have hnx : hasI l (natAt c0 p : Int) = true := by
              have h1 := HNX.out hk0
              have h2 := HL0.out
              rw [show k - 1 + 1 = k by omega, ← HBE.out] at h1
              rw [HP.out, ← h2]; exact h1
            have HNXT := Lib.hid hnx
            clear hnx
            obtain ⟨a, hae⟩ : ∃ a, a = natAt c0 p := ⟨_, rfl⟩
            rw [← hae] at q2 HNXT
            clear hae
            have HSl := Lib.hid (show Sl wv 1 (.slice B l.length cc) l.length (intsRow l) from ⟨B, cc, rfl, hcc, hcm, Hrd.out⟩)
            have j0 : (0 : Int) ≤ (p : Int) := Int.natCast_nonneg _
            have j1 : (p : Int) < (C.length : Int) := by omega
            go_wp2
            refine wp_region_held_drew (S := (fun w' => w'.cell? ⟨gc, oc + k, none⟩ = some (.int .i64 (b : Int)) ∧ w'.cell? ⟨gc, oc + p, none⟩ = some (.int .i64 (a : Int)) ∧ w'.cell? ⟨gx, ox + b * 3, none⟩ = some (.int .i64 mn) ∧ w'.cell? ⟨gx, ox + b * 3 + 2, none⟩ = some (.slice B l.length cc))) (by kernel_rfl) ?_ (fun hHeld => ?_)
            · (try dsimp only); first | (go_split_ands; exact ⟨by assumption, by assumption, by assumption, by assumption⟩) | go_keep
            refine wpAnyH_take (i := 0) (v := ?_) rfl (by kernel_rfl) (by kernel_rfl) (by kernel_rfl) (fun _ _ _ h => h) (Or.inl ⟨by rfl, ?_⟩) (by assumption) ?_
            rotate_left
            · (intro w hSw; (try dsimp only at hSw); go_simp) <;> with_reducible rfl
            try simp only [Act.put, List.setIfInBounds_toArray, List.set_cons_zero, List.set_cons_succ, List.getElem_toArray, List.getElem_cons_succ, List.getElem_cons_zero]
            refine wpAnyH_take (i := 1) (v := ?_) rfl (by kernel_rfl) (by kernel_rfl) (by kernel_rfl) (fun _ _ _ h => h) (Or.inl ⟨by rfl, ?_⟩) (by assumption) ?_
            rotate_left
            · (intro w hSw; (try dsimp only at hSw); go_simp) <;> with_reducible rfl
            try simp only [Act.put, List.setIfInBounds_toArray, List.set_cons_zero, List.set_cons_succ, List.getElem_toArray, List.getElem_cons_succ, List.getElem_cons_zero]
            refine wpAnyH_take (i := 2) (v := ?_) rfl (by kernel_rfl) (by kernel_rfl) (by kernel_rfl) (fun _ _ _ h => h) (Or.inl ⟨by rfl, ?_⟩) (by assumption) ?_
            rotate_left
            · (intro w hSw; (try dsimp only at hSw); go_simp) <;> with_reducible rfl
            try simp only [Act.put, List.setIfInBounds_toArray, List.set_cons_zero, List.set_cons_succ, List.getElem_toArray, List.getElem_cons_succ, List.getElem_cons_zero]
            refine wpAnyH_take (i := 3) (v := ?_) rfl (by kernel_rfl) (by kernel_rfl) (by kernel_rfl) (fun _ _ _ h => h) (Or.inl ⟨by rfl, ?_⟩) (by assumption) ?_
            rotate_left
            · (intro w hSw; (try dsimp only at hSw); go_simp) <;> with_reducible rfl
            try simp only [Act.put, List.setIfInBounds_toArray, List.set_cons_zero, List.set_cons_succ, List.getElem_toArray, List.getElem_cons_succ, List.getElem_cons_zero]
            refine wpAnyH_take (i := 4) (v := ?_) rfl (by kernel_rfl) (by kernel_rfl) (by kernel_rfl) (fun _ _ _ h => h) (Or.inl ⟨by rfl, ?_⟩) (by assumption) ?_
            rotate_left
            · (intro w hSw; (try dsimp only at hSw); go_simp) <;> with_reducible rfl
            try simp only [Act.put, List.setIfInBounds_toArray, List.set_cons_zero, List.set_cons_succ, List.getElem_toArray, List.getElem_cons_succ, List.getElem_cons_zero]
            refine wpAnyH_take (i := 5) (v := ?_) rfl (by kernel_rfl) (by kernel_rfl) (by kernel_rfl) (fun _ _ _ h => h) (Or.inl ⟨by rfl, ?_⟩) (by assumption) ?_
            rotate_left
            · (intro w hSw; (try dsimp only at hSw); go_simp) <;> with_reducible rfl
            try simp only [Act.put, List.setIfInBounds_toArray, List.set_cons_zero, List.set_cons_succ, List.getElem_toArray, List.getElem_cons_succ, List.getElem_cons_zero]
            refine wpAnyH_take (i := 6) (v := ?_) rfl (by kernel_rfl) (by kernel_rfl) (by kernel_rfl) (fun _ _ _ h => h) (Or.inl ⟨by rfl, ?_⟩) (by assumption) ?_
            rotate_left
            · (intro w hSw; (try dsimp only at hSw); go_simp) <;> with_reducible rfl
            try simp only [Act.put, List.setIfInBounds_toArray, List.set_cons_zero, List.set_cons_succ, List.getElem_toArray, List.getElem_cons_succ, List.getElem_cons_zero]
            refine wpAnyH_take (i := 7) (v := ?_) rfl (by kernel_rfl) (by kernel_rfl) (by kernel_rfl) (fun _ _ _ h => h) (Or.inl ⟨by rfl, ?_⟩) (by assumption) ?_
            rotate_left
            · (intro w hSw; (try dsimp only at hSw); go_simp) <;> with_reducible rfl
            try simp only [Act.put, List.setIfInBounds_toArray, List.set_cons_zero, List.set_cons_succ, List.getElem_toArray, List.getElem_cons_succ, List.getElem_cons_zero]
            refine wpAnyH_take (i := 8) (v := ?_) rfl (by kernel_rfl) (by kernel_rfl) (by kernel_rfl) (fun _ _ _ h => h) (Or.inl ⟨by rfl, ?_⟩) (by assumption) ?_
            rotate_left
            · (intro w hSw; (try dsimp only at hSw); go_simp) <;> with_reducible rfl
            try simp only [Act.put, List.setIfInBounds_toArray, List.set_cons_zero, List.set_cons_succ, List.getElem_toArray, List.getElem_cons_succ, List.getElem_cons_zero]
            refine wpAnyH_take (i := 9) (v := ?_) rfl (by kernel_rfl) (by kernel_rfl) (by kernel_rfl) (fun _ _ _ h => h) (Or.inl ⟨by rfl, ?_⟩) (by assumption) ?_
            rotate_left
            · (intro w hSw; (try dsimp only at hSw); go_simp) <;> with_reducible rfl
            try simp only [Act.put, List.setIfInBounds_toArray, List.set_cons_zero, List.set_cons_succ, List.getElem_toArray, List.getElem_cons_succ, List.getElem_cons_zero]
            refine wpAnyH_take (i := 10) (v := ?_) rfl (by kernel_rfl) (by kernel_rfl) (by kernel_rfl) (fun _ _ _ h => h) (Or.inl ⟨by rfl, ?_⟩) (by assumption) ?_
            rotate_left
            · (intro w hSw; (try dsimp only at hSw); go_simp) <;> with_reducible rfl
            try simp only [Act.put, List.setIfInBounds_toArray, List.set_cons_zero, List.set_cons_succ, List.getElem_toArray, List.getElem_cons_succ, List.getElem_cons_zero]
            refine wpAnyH_take (i := 11) (v := ?_) rfl (by kernel_rfl) (by kernel_rfl) (by kernel_rfl) (fun _ _ _ h => h) (Or.inl ⟨by rfl, ?_⟩) (by assumption) ?_
            rotate_left
            · (intro w hSw; (try dsimp only at hSw); go_simp) <;> with_reducible rfl
            try simp only [Act.put, List.setIfInBounds_toArray, List.set_cons_zero, List.set_cons_succ, List.getElem_toArray, List.getElem_cons_succ, List.getElem_cons_zero]
            refine wpAnyH_take (i := 12) (v := ?_) rfl (by kernel_rfl) (by kernel_rfl) (by kernel_rfl) (fun _ _ _ h => h) (Or.inl ⟨by rfl, ?_⟩) (by assumption) ?_
            rotate_left
            · (intro w hSw; (try dsimp only at hSw); go_simp) <;> with_reducible rfl
            try simp only [Act.put, List.setIfInBounds_toArray, List.set_cons_zero, List.set_cons_succ, List.getElem_toArray, List.getElem_cons_succ, List.getElem_cons_zero]
            refine wpAnyH_take (i := 13) (v := ?_) rfl (by kernel_rfl) (by kernel_rfl) (by kernel_rfl) (fun _ _ _ h => h) (Or.inl ⟨by rfl, ?_⟩) (by assumption) ?_
            rotate_left
            · (intro w hSw; (try dsimp only at hSw); go_simp) <;> with_reducible rfl
            try simp only [Act.put, List.setIfInBounds_toArray, List.set_cons_zero, List.set_cons_succ, List.getElem_toArray, List.getElem_cons_succ, List.getElem_cons_zero]
            refine wpAnyH_take (i := 14) (v := ?_) rfl (by kernel_rfl) (by kernel_rfl) (by kernel_rfl) (fun _ _ _ h => h) (Or.inl ⟨by rfl, ?_⟩) (by assumption) ?_
            rotate_left
            · (intro w hSw; (try dsimp only at hSw); go_simp) <;> with_reducible rfl
            try simp only [Act.put, List.setIfInBounds_toArray, List.set_cons_zero, List.set_cons_succ, List.getElem_toArray, List.getElem_cons_succ, List.getElem_cons_zero]
            refine wpAnyH_take (i := 15) (v := ?_) rfl (by kernel_rfl) (by kernel_rfl) (by kernel_rfl) (fun _ _ _ h => h) (Or.inl ⟨by rfl, ?_⟩) (by assumption) ?_
            rotate_left
            · (intro w hSw; (try dsimp only at hSw); go_simp) <;> with_reducible rfl
            try simp only [Act.put, List.setIfInBounds_toArray, List.set_cons_zero, List.set_cons_succ, List.getElem_toArray, List.getElem_cons_succ, List.getElem_cons_zero]
            refine wpAnyH_ready (rs := [16]) (by kernel_rfl) (by simp) ?_
            refine AllReadyH.cons rfl (fun K hK => ?_) AllReadyH.nil
            try dsimp only [List.getElem_toArray, List.getElem_cons_succ, List.getElem_cons_zero]
            go_simp
            refine (hasInt_any _ l _ (a : Int) (HSl.out.below (Below.refl _ _).drew)).mono ?_
            rintro e w5 ⟨rfl, rfl⟩
            rw [HNXT.out]
            go_wp2_with fail
            refine hK.out _ _ ?_ (fun hHeld => ?_)
            · (try dsimp only); first | (go_split_ands; exact ⟨by assumption, by assumption, by assumption, by assumption⟩) | go_keep
            clear hK K
            try simp only [Act.put, List.setIfInBounds_toArray, List.set_cons_zero, List.set_cons_succ, List.getElem_toArray, List.getElem_cons_succ, List.getElem_cons_zero]
            refine wpAnyH_take (i := 17) (v := ?_) rfl (by kernel_rfl) (by kernel_rfl) (by kernel_rfl) (fun _ _ _ h => h) (Or.inl ⟨by rfl, ?_⟩) (by assumption) ?_
            rotate_left
            · (intro w hSw; (try dsimp only at hSw); go_simp) <;> with_reducible rfl
            try simp only [Act.put, List.setIfInBounds_toArray, List.set_cons_zero, List.set_cons_succ, List.getElem_toArray, List.getElem_cons_succ, List.getElem_cons_zero]
            refine wpAnyH_take (i := 18) (v := ?_) rfl (by kernel_rfl) (by kernel_rfl) (by kernel_rfl) (fun _ _ _ h => h) (Or.inl ⟨by rfl, ?_⟩) (by assumption) ?_
            rotate_left
            · (intro w hSw; (try dsimp only at hSw); go_simp) <;> with_reducible rfl
            try simp only [Act.put, List.setIfInBounds_toArray, List.set_cons_zero, List.set_cons_succ, List.getElem_toArray, List.getElem_cons_succ, List.getElem_cons_zero]
            refine wpAnyH_done (by kernel_rfl) ?_ _
            have Hb4 := Lib.hid (Hb.out.drew)
            go_wp2
            go_roundw
            case rel => exact ⟨k + 1, x + mn, by go_num, by omega, rfl, HT2, Hb4.out⟩
            case measure => simp [intOf]; omega
          · skip
            have t0 : decide ((0 : Int) < (k : Int)) = false := by simp; omega
            go_wp2
            refine wp_region_held_drew (S := (fun _ => True)) (by kernel_rfl) ?_ (fun hHeld => ?_)
            · (try dsimp only); first | done | trivial
            refine wpAnyH_take (i := 0) (v := ?_) rfl (by kernel_rfl) (by kernel_rfl) (by kernel_rfl) (fun _ _ _ h => h) (Or.inl ⟨by rfl, ?_⟩) (by assumption) ?_
            rotate_left
            · (intro w hSw; (try dsimp only at hSw); go_simp) <;> with_reducible rfl
            try simp only [Act.put, List.setIfInBounds_toArray, List.set_cons_zero, List.set_cons_succ, List.getElem_toArray, List.getElem_cons_succ, List.getElem_cons_zero]
            refine wpAnyH_take (i := 1) (v := ?_) rfl (by kernel_rfl) (by kernel_rfl) (by kernel_rfl) (fun _ _ _ h => h) (Or.inl ⟨by rfl, ?_⟩) (by assumption) ?_
            rotate_left
            · (intro w hSw; (try dsimp only at hSw); go_simp) <;> with_reducible rfl
            try simp only [Act.put, List.setIfInBounds_toArray, List.set_cons_zero, List.set_cons_succ, List.getElem_toArray, List.getElem_cons_succ, List.getElem_cons_zero]
            refine wpAnyH_take (i := 2) (v := ?_) rfl (by kernel_rfl) (by kernel_rfl) (by kernel_rfl) (fun _ _ _ h => h) (Or.inl ⟨by rfl, ?_⟩) (by assumption) ?_
            rotate_left
            · (intro w hSw; (try dsimp only at hSw); go_simp) <;> with_reducible rfl
            try simp only [Act.put, List.setIfInBounds_toArray, List.set_cons_zero, List.set_cons_succ, List.getElem_toArray, List.getElem_cons_succ, List.getElem_cons_zero]
            refine wpAnyH_take (i := 3) (v := undef) rfl (by kernel_rfl) (by kernel_rfl) (by kernel_rfl) (fun _ _ _ h => h) (Or.inr ⟨by rfl, rfl⟩) (by assumption) ?_
            try simp only [Act.put, List.setIfInBounds_toArray, List.set_cons_zero, List.set_cons_succ, List.getElem_toArray, List.getElem_cons_succ, List.getElem_cons_zero]
            refine wpAnyH_take (i := 4) (v := undef) rfl (by kernel_rfl) (by kernel_rfl) (by kernel_rfl) (fun _ _ _ h => h) (Or.inr ⟨by rfl, rfl⟩) (by assumption) ?_
            try simp only [Act.put, List.setIfInBounds_toArray, List.set_cons_zero, List.set_cons_succ, List.getElem_toArray, List.getElem_cons_succ, List.getElem_cons_zero]
            refine wpAnyH_take (i := 5) (v := undef) rfl (by kernel_rfl) (by kernel_rfl) (by kernel_rfl) (fun _ _ _ h => h) (Or.inr ⟨by rfl, rfl⟩) (by assumption) ?_
            try simp only [Act.put, List.setIfInBounds_toArray, List.set_cons_zero, List.set_cons_succ, List.getElem_toArray, List.getElem_cons_succ, List.getElem_cons_zero]
            refine wpAnyH_take (i := 6) (v := undef) rfl (by kernel_rfl) (by kernel_rfl) (by kernel_rfl) (fun _ _ _ h => h) (Or.inr ⟨by rfl, rfl⟩) (by assumption) ?_
            try simp only [Act.put, List.setIfInBounds_toArray, List.set_cons_zero, List.set_cons_succ, List.getElem_toArray, List.getElem_cons_succ, List.getElem_cons_zero]
            refine wpAnyH_take (i := 7) (v := undef) rfl (by kernel_rfl) (by kernel_rfl) (by kernel_rfl) (fun _ _ _ h => h) (Or.inr ⟨by rfl, rfl⟩) (by assumption) ?_
            try simp only [Act.put, List.setIfInBounds_toArray, List.set_cons_zero, List.set_cons_succ, List.getElem_toArray, List.getElem_cons_succ, List.getElem_cons_zero]
            refine wpAnyH_take (i := 8) (v := undef) rfl (by kernel_rfl) (by kernel_rfl) (by kernel_rfl) (fun _ _ _ h => h) (Or.inr ⟨by rfl, rfl⟩) (by assumption) ?_
            try simp only [Act.put, List.setIfInBounds_toArray, List.set_cons_zero, List.set_cons_succ, List.getElem_toArray, List.getElem_cons_succ, List.getElem_cons_zero]
            refine wpAnyH_take (i := 9) (v := undef) rfl (by kernel_rfl) (by kernel_rfl) (by kernel_rfl) (fun _ _ _ h => h) (Or.inr ⟨by rfl, rfl⟩) (by assumption) ?_
            try simp only [Act.put, List.setIfInBounds_toArray, List.set_cons_zero, List.set_cons_succ, List.getElem_toArray, List.getElem_cons_succ, List.getElem_cons_zero]
            refine wpAnyH_take (i := 10) (v := undef) rfl (by kernel_rfl) (by kernel_rfl) (by kernel_rfl) (fun _ _ _ h => h) (Or.inr ⟨by rfl, rfl⟩) (by assumption) ?_
            try simp only [Act.put, List.setIfInBounds_toArray, List.set_cons_zero, List.set_cons_succ, List.getElem_toArray, List.getElem_cons_succ, List.getElem_cons_zero]
            refine wpAnyH_take (i := 11) (v := undef) rfl (by kernel_rfl) (by kernel_rfl) (by kernel_rfl) (fun _ _ _ h => h) (Or.inr ⟨by rfl, rfl⟩) (by assumption) ?_
            try simp only [Act.put, List.setIfInBounds_toArray, List.set_cons_zero, List.set_cons_succ, List.getElem_toArray, List.getElem_cons_succ, List.getElem_cons_zero]
            refine wpAnyH_take (i := 12) (v := undef) rfl (by kernel_rfl) (by kernel_rfl) (by kernel_rfl) (fun _ _ _ h => h) (Or.inr ⟨by rfl, rfl⟩) (by assumption) ?_
            try simp only [Act.put, List.setIfInBounds_toArray, List.set_cons_zero, List.set_cons_succ, List.getElem_toArray, List.getElem_cons_succ, List.getElem_cons_zero]
            refine wpAnyH_take (i := 13) (v := undef) rfl (by kernel_rfl) (by kernel_rfl) (by kernel_rfl) (fun _ _ _ h => h) (Or.inr ⟨by rfl, rfl⟩) (by assumption) ?_
            try simp only [Act.put, List.setIfInBounds_toArray, List.set_cons_zero, List.set_cons_succ, List.getElem_toArray, List.getElem_cons_succ, List.getElem_cons_zero]
            refine wpAnyH_take (i := 14) (v := undef) rfl (by kernel_rfl) (by kernel_rfl) (by kernel_rfl) (fun _ _ _ h => h) (Or.inr ⟨by rfl, rfl⟩) (by assumption) ?_
            try simp only [Act.put, List.setIfInBounds_toArray, List.set_cons_zero, List.set_cons_succ, List.getElem_toArray, List.getElem_cons_succ, List.getElem_cons_zero]
            refine wpAnyH_take (i := 15) (v := undef) rfl (by kernel_rfl) (by kernel_rfl) (by kernel_rfl) (fun _ _ _ h => h) (Or.inr ⟨by rfl, rfl⟩) (by assumption) ?_
            try simp only [Act.put, List.setIfInBounds_toArray, List.set_cons_zero, List.set_cons_succ, List.getElem_toArray, List.getElem_cons_succ, List.getElem_cons_zero]
            refine wpAnyH_take (i := 16) (v := undef) rfl (by kernel_rfl) (by kernel_rfl) (by kernel_rfl) (fun _ _ _ h => h) (Or.inr ⟨by rfl, rfl⟩) (by assumption) ?_
            try simp only [Act.put, List.setIfInBounds_toArray, List.set_cons_zero, List.set_cons_succ, List.getElem_toArray, List.getElem_cons_succ, List.getElem_cons_zero]
            refine wpAnyH_take (i := 17) (v := undef) rfl (by kernel_rfl) (by kernel_rfl) (by kernel_rfl) (fun _ _ _ h => h) (Or.inr ⟨by rfl, rfl⟩) (by assumption) ?_
            try simp only [Act.put, List.setIfInBounds_toArray, List.set_cons_zero, List.set_cons_succ, List.getElem_toArray, List.getElem_cons_succ, List.getElem_cons_zero]
            refine wpAnyH_take (i := 18) (v := ?_) rfl (by kernel_rfl) (by kernel_rfl) (by kernel_rfl) (fun _ _ _ h => h) (Or.inl ⟨by rfl, ?_⟩) (by assumption) ?_
            rotate_left
            · (intro w hSw; (try dsimp only at hSw); go_simp) <;> with_reducible rfl
            try simp only [Act.put, List.setIfInBounds_toArray, List.set_cons_zero, List.set_cons_succ, List.getElem_toArray, List.getElem_cons_succ, List.getElem_cons_zero]
            refine wpAnyH_done (by kernel_rfl) ?_ _
            have Hb4 := Lib.hid (Hb.out.drew)
            go_wp2
            go_roundw
            case rel => exact ⟨k + 1, x + mn, by go_num, by omega, rfl, HT2, Hb4.out⟩
            case measure => simp [intOf]; omega
        · skip
          have hke : k = C.length := by omega
          have HTX := Lib.hid (show x = G by rw [HX.out, hke, HCl.out, List.take_length]; exact HLI.out.2)
          rw [HTX.out]
          clear hke
          go_wp2
          go_loopw [21, 23] (fun s i wr => ∃ (q : Nat) (u : Int), i = .int .i64 q ∧ q ≤ L.length ∧ s = .int .i64 u ∧ Hid (u = lastE L q) ∧ Below wb.heap.size wb wr) (fun _ i _ => L.length - (intOf i).toNat)
          case atStart => exact ⟨0, 0, rfl, Nat.zero_le _, rfl, Lib.hid rfl, Hb.out⟩
          case round =>
            obtain ⟨q, u, rfl, hq, rfl, HU, hb⟩ := hrel
            have Hb2 := Lib.hid hb
            clear hb
            skip
            by_cases hql : q < L.length
            · skip
              have hqT : q < T.length := by rw [HSL.out]; exact hql
              obtain ⟨gt, ot, rfl, hgt, q0⟩ := (Sl.rd ((ZS.out).below Hb2.out)).ints (l := T) hqT
              obtain ⟨_, _, eA, _, _, hst⟩ := (K11SL.out).below Hb2.out
              injection eA with eA1 eA2 eA3
              subst eA1
              subst eA3
              obtain ⟨gx, ox, rfl, hgx, s0, s1, _⟩ := hst.at hql
              clear s1 hst
              have hmn := (steps_bd Hok.out hql).1
              have hsv := HEB.out q hql
              have HUS := Lib.hid (show lastE L (q + 1) = max u (intsAt T q + (stepAt L q).minutes) by rw [lastE, ← HU.out, endK, ← HT.out]; rfl)
              obtain ⟨mn, hmn0⟩ : ∃ mn, mn = (stepAt L q).minutes := ⟨_, rfl⟩
              obtain ⟨sv, hsv0⟩ : ∃ sv, sv = intsAt T q := ⟨_, rfl⟩
              rw [← hmn0] at s0 hmn HUS
              rw [← hsv0] at q0 hsv HUS
              clear hmn0 hsv0
              have i0 : (0 : Int) ≤ (q : Int) := Int.natCast_nonneg _
              have i1 : (q : Int) < (L.length : Int) := by omega
              have i2 : (q : Int) < (T.length : Int) := by omega
              have x1 := IntWalk.i64_in (sv + mn) (by omega)
              go_wp2
              refine wp_region_held_drew (S := (fun w' => w'.cell? ⟨gt, ot + q, none⟩ = some (.int .i64 sv) ∧ w'.cell? ⟨gx, ox + q * 3, none⟩ = some (.int .i64 mn))) (by kernel_rfl) ?_ (fun hHeld => ?_)
              · (try dsimp only); first | (go_split_ands; exact ⟨by assumption, by assumption⟩) | go_keep
              refine wpAnyH_take (i := 0) (v := ?_) rfl (by kernel_rfl) (by kernel_rfl) (by kernel_rfl) (fun _ _ _ h => h) (Or.inl ⟨by rfl, ?_⟩) (by assumption) ?_
              rotate_left
              · (intro w hSw; (try dsimp only at hSw); go_simp) <;> with_reducible rfl
              try simp only [Act.put, List.setIfInBounds_toArray, List.set_cons_zero, List.set_cons_succ, List.getElem_toArray, List.getElem_cons_succ, List.getElem_cons_zero]
              refine wpAnyH_take (i := 1) (v := ?_) rfl (by kernel_rfl) (by kernel_rfl) (by kernel_rfl) (fun _ _ _ h => h) (Or.inl ⟨by rfl, ?_⟩) (by assumption) ?_
              rotate_left
              · (intro w hSw; (try dsimp only at hSw); go_simp) <;> with_reducible rfl
              try simp only [Act.put, List.setIfInBounds_toArray, List.set_cons_zero, List.set_cons_succ, List.getElem_toArray, List.getElem_cons_succ, List.getElem_cons_zero]
              refine wpAnyH_take (i := 2) (v := ?_) rfl (by kernel_rfl) (by kernel_rfl) (by kernel_rfl) (fun _ _ _ h => h) (Or.inl ⟨by rfl, ?_⟩) (by assumption) ?_
              rotate_left
              · (intro w hSw; (try dsimp only at hSw); go_simp) <;> with_reducible rfl
              try simp only [Act.put, List.setIfInBounds_toArray, List.set_cons_zero, List.set_cons_succ, List.getElem_toArray, List.getElem_cons_succ, List.getElem_cons_zero]
              refine wpAnyH_take (i := 3) (v := ?_) rfl (by kernel_rfl) (by kernel_rfl) (by kernel_rfl) (fun _ _ _ h => h) (Or.inl ⟨by rfl, ?_⟩) (by assumption) ?_
              rotate_left
              · (intro w hSw; (try dsimp only at hSw); go_simp) <;> with_reducible rfl
              try simp only [Act.put, List.setIfInBounds_toArray, List.set_cons_zero, List.set_cons_succ, List.getElem_toArray, List.getElem_cons_succ, List.getElem_cons_zero]
              refine wpAnyH_take (i := 4) (v := ?_) rfl (by kernel_rfl) (by kernel_rfl) (by kernel_rfl) (fun _ _ _ h => h) (Or.inl ⟨by rfl, ?_⟩) (by assumption) ?_
              rotate_left
              · (intro w hSw; (try dsimp only at hSw); go_simp) <;> with_reducible rfl
              try simp only [Act.put, List.setIfInBounds_toArray, List.set_cons_zero, List.set_cons_succ, List.getElem_toArray, List.getElem_cons_succ, List.getElem_cons_zero]
              refine wpAnyH_take (i := 5) (v := ?_) rfl (by kernel_rfl) (by kernel_rfl) (by kernel_rfl) (fun _ _ _ h => h) (Or.inl ⟨by rfl, ?_⟩) (by assumption) ?_
              rotate_left
              · (intro w hSw; (try dsimp only at hSw); go_simp) <;> with_reducible rfl
              try simp only [Act.put, List.setIfInBounds_toArray, List.set_cons_zero, List.set_cons_succ, List.getElem_toArray, List.getElem_cons_succ, List.getElem_cons_zero]
              refine wpAnyH_take (i := 6) (v := ?_) rfl (by kernel_rfl) (by kernel_rfl) (by kernel_rfl) (fun _ _ _ h => h) (Or.inl ⟨by rfl, ?_⟩) (by assumption) ?_
              rotate_left
              · (intro w hSw; (try dsimp only at hSw); go_simp) <;> with_reducible rfl
              try simp only [Act.put, List.setIfInBounds_toArray, List.set_cons_zero, List.set_cons_succ, List.getElem_toArray, List.getElem_cons_succ, List.getElem_cons_zero]
              refine wpAnyH_take (i := 7) (v := ?_) rfl (by kernel_rfl) (by kernel_rfl) (by kernel_rfl) (fun _ _ _ h => h) (Or.inl ⟨by rfl, ?_⟩) (by assumption) ?_
              rotate_left
              · (intro w hSw; (try dsimp only at hSw); go_simp) <;> with_reducible rfl
              try simp only [Act.put, List.setIfInBounds_toArray, List.set_cons_zero, List.set_cons_succ, List.getElem_toArray, List.getElem_cons_succ, List.getElem_cons_zero]
              refine wpAnyH_take (i := 8) (v := ?_) rfl (by kernel_rfl) (by kernel_rfl) (by kernel_rfl) (fun _ _ _ h => h) (Or.inl ⟨by rfl, ?_⟩) (by assumption) ?_
              rotate_left
              · (intro w hSw; (try dsimp only at hSw); go_simp) <;> with_reducible rfl
              try simp only [Act.put, List.setIfInBounds_toArray, List.set_cons_zero, List.set_cons_succ, List.getElem_toArray, List.getElem_cons_succ, List.getElem_cons_zero]
              refine wpAnyH_take (i := 9) (v := ?_) rfl (by kernel_rfl) (by kernel_rfl) (by kernel_rfl) (fun _ _ _ h => h) (Or.inl ⟨by rfl, ?_⟩) (by assumption) ?_
              rotate_left
              · (intro w hSw; (try dsimp only at hSw); go_simp) <;> with_reducible rfl
              try simp only [Act.put, List.setIfInBounds_toArray, List.set_cons_zero, List.set_cons_succ, List.getElem_toArray, List.getElem_cons_succ, List.getElem_cons_zero]
              refine wpAnyH_take (i := 10) (v := ?_) rfl (by kernel_rfl) (by kernel_rfl) (by kernel_rfl) (fun _ _ _ h => h) (Or.inl ⟨by rfl, ?_⟩) (by assumption) ?_
              rotate_left
              · (intro w hSw; (try dsimp only at hSw); go_simp) <;> with_reducible rfl
              try simp only [Act.put, List.setIfInBounds_toArray, List.set_cons_zero, List.set_cons_succ, List.getElem_toArray, List.getElem_cons_succ, List.getElem_cons_zero]
              refine wpAnyH_take (i := 11) (v := ?_) rfl (by kernel_rfl) (by kernel_rfl) (by kernel_rfl) (fun _ _ _ h => h) (Or.inl ⟨by rfl, ?_⟩) (by assumption) ?_
              rotate_left
              · (intro w hSw; (try dsimp only at hSw); go_simp) <;> with_reducible rfl
              try simp only [Act.put, List.setIfInBounds_toArray, List.set_cons_zero, List.set_cons_succ, List.getElem_toArray, List.getElem_cons_succ, List.getElem_cons_zero]
              refine wpAnyH_take (i := 12) (v := ?_) rfl (by kernel_rfl) (by kernel_rfl) (by kernel_rfl) (fun _ _ _ h => h) (Or.inl ⟨by rfl, ?_⟩) (by assumption) ?_
              rotate_left
              · (intro w hSw; (try dsimp only at hSw); go_simp) <;> with_reducible rfl
              try simp only [Act.put, List.setIfInBounds_toArray, List.set_cons_zero, List.set_cons_succ, List.getElem_toArray, List.getElem_cons_succ, List.getElem_cons_zero]
              refine wpAnyH_done (by kernel_rfl) ?_ _
              have Hb4 := Lib.hid (Hb2.out.drew)
              go_wp2
              go_roundw
              case rel => exact ⟨q + 1, _, by go_num, by omega, rfl, Lib.hid (by rw [HUS.out, ← mx_max]), Hb4.out⟩
              case measure => simp [intOf]; omega
            · skip
              have HUX := Lib.hid (show u = G by rw [HU.out, show q = L.length by omega]; exact HLA.out)
              rw [HUX.out]
              have b9 := b11.trans (Hb2.out.mono b11.size)
              go_wp2
              go_ret
              exact ⟨rfl, b9⟩
    · skip
      have u0 : (bc != 0) = true := by simpa using h0
      clear h0
      go_wp2
      go_ret
      exact ⟨rfl, b11⟩

namespace GreatLongest
set_option maxRecDepth 100000 in
theorem lifted (os : Os) (started : os.Started) (H : Type) (enc : TypeId × Value → H) :
    ReturnsInHanded {} Try.checked os 14 .any (Rows.fnLongestSpec.pre6 enc Try.prog Try.f14 Rows.fnLongestRow.domain false) (Rows.fnLongestSpec.post enc Try.prog Try.f14 false true false false) := by
  refine returnsInHanded_of_change (C := Try.checked) Try.own started (by kernel_rfl) Try.func14
    (ChangeSpec.witness6 (enc := enc) (C := Try.checked) false ⟨#[], #[.slice none 0 0], []⟩ 8 (by kernel_rfl) (by kernel_rfl) (by kernel_rfl) (by kernel_rfl)) ?_
  intro W base args ds gs before hval0 hW hcnd _
  have hval : ∀ (j : Nat) t v, Try.f14.params[j]? = some t → args[j]? = some v → Value.okWide Try.prog W .any base t v := hval0
  have hW' := hW
  obtain ⟨p, q, hA0, hV, rfl, hfz, hnd⟩ := hW
  have hA : DataW.TrodAll enc Try.prog W 0 (fun _ => true) true Try.f14.params.toList args.toList ds p := hA0
  rw [Try.params14] at hA hval
  obtain ⟨v0, vs0, d0, ds0, p0, q0, hargs, rfl, rfl, h0, r0⟩ := trodAll_cons hA
  obtain ⟨rfl, rfl, rfl⟩ := trodAll_nil r0
  obtain rfl : args = #[v0] := by cases args; simp_all
  obtain ⟨rfl, rfl⟩ := trodVars_none hV
  have lt0 : ∀ x ∈ p0, x.block < W.heap.size := by obtain ⟨m, hm⟩ := h0; exact DataW.trod_lt m _ _ _ hm
  obtain ⟨A0, n0, c0, ev0, hcode0, hc0⟩ := open_code (hval 0 _ v0 rfl rfl) h0
  subst ev0
  clear hA0 hval0
  refine (lawLongest_walk W A0 n0 c0 hcode0 hc0).mono fun e W' ⟨he, bel⟩ => ?_
  subst he
  exact ⟨_, rfl, _, _, _, [], _, [], hW', trodAll_mk1 (shut_bool Try.underlying4 _), (trodAll_cons_mk (Below.trod Try.laidOut (by kernel_rfl) (of_decide_eq_true (by kernel_rfl)) h0 bel lt0) trodAll_mk0), rfl, bel.frame _, fun h => by cases h⟩

theorem proved : Rows.FnLongestSaid :=
  OpenClaim.holds_of_wide 14 Try.f14 rfl rfl rfl rfl rfl rfl rfl ⟨rfl, rfl, rfl, rfl, rfl⟩ rfl rfl rfl rfl rfl (by kernel_rfl) Try.func14 (by kernel_rfl)
    (of_decide_eq_true (by kernel_rfl)) (by unfold Func.isWrapper; first | (rw [if_pos (by decide +kernel)]; kernel_rfl) | (rw [if_neg (by decide +kernel)]; exact ⟨rfl, rfl⟩))
    (fun os started H enc _ => lifted os started H enc)
#print axioms proved
end GreatLongest

end Go.Proofs.Ytecfkomijaakhaa
