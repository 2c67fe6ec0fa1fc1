/- FnCalm, for every input: the calm order is an order, and no order has fewer changes. Its conditions: none. -/
import Derived.Test.YtecfkomijaakhaaClK
import Derived.Test.YtecfkomijaakhaaClS
import Derived.Test.YtecfkomijaakhaaClP
import Derived.Test.YtecfkomijaakhaaDrawRQ
import Derived.Test.YtecfkomijaakhaaDrawRS
import Derived.Test.YtecfkomijaakhaaGreat
import Derived.Test.YtecfkomijaakhaaRecG
namespace Go.Proofs.Ytecfkomijaakhaa
open Go.ChangeShapes Go.WideShapes Go.ChangeAt Go.RowKit Go.Deep

set_option maxHeartbeats 16000000 in
set_option maxRecDepth 100000 in
theorem lawCalm_walk (w : World) (A : Option Addr) (n c : Nat) (hcode : Code w A n) (hc : n ≤ c ∧ c ≤ maxLen) :
    Calls Try.prog 15 #[.slice A n c] w fun e w' => e = .returned (.bool true) ∧ Below w.heap.size w w' := by
  by_cases hbig : 4096 < (n : Int)
  · have t0 : decide (4096 < (n : Int)) = true := by simpa using hbig
    go_enter Try.func15, Try.ntmps15
    go_wp2_with fail
    refine (big_any w A n c hc.1 hc.2).mono ?_
    rintro e w1 ⟨rfl, rfl⟩
    rw [t0]
    go_wp2
    go_ret
    exact ⟨rfl, Below.refl _ _⟩
  · have t0 : decide (4096 < (n : Int)) = false := by simpa using hbig
    have hn : n ≤ 4096 := by omega
    have Hcode := Lib.hid hcode
    have Hc := Lib.hid hc
    clear hcode hc hbig
    go_enter Try.func15, Try.ntmps15
    go_wp2_with fail
    refine (big_any w A n c Hc.out.1 Hc.out.2).mono ?_
    rintro e w1 ⟨rfl, rfl⟩
    rw [t0]
    clear t0
    go_wp2_with fail
    refine (drawCalm_any w A n c Hcode.out hn Hc.out).mono ?_
    rintro e w1 ⟨L, V, rfl, hO, hL, hb1⟩
    have b1 := hb1
    have SL := Lib.hid hO
    obtain ⟨ASL, cSL, rfl, _, hcSL, _⟩ := hO
    unfold maxLen at hcSL
    have hLn : L.length ≤ 1048576 := by omega
    go_wp2_with fail
    refine (implCalmOrder_any w1 L _ SL.out hLn).mono ?_
    rintro e w2 ⟨yci, rfl, ho, hb2⟩
    have b2 := b1.trans (hb2.mono b1.size)
    obtain ⟨Aci, cci, rfl, _, _⟩ := own_slice ho
    have Yci := Lib.hid (Sl.of_own ho)
    clear ho
    go_wp2_with fail
    refine (specCalmOrder_any w2 L _ (SL.out.below hb2) hLn).mono ?_
    rintro e w3 ⟨ycs, rfl, ho, hb3⟩
    have b3 := b2.trans (hb3.mono b2.size)
    obtain ⟨Acs, ccs, rfl, _, _⟩ := own_slice ho
    have Ycs := Lib.hid (Sl.of_own ho)
    clear ho
    go_wp2_with fail
    refine (drawChanges_any w3 A n c (code_below (code_below (code_below Hcode.out hb1) hb2) hb3) hn Hc.out).mono ?_
    rintro e w4 ⟨X, XV, P, u, rfl, hO, hXL, ho, hP, hb4⟩
    have b4 := b3.trans (hb4.mono b3.size)
    have SX := Lib.hid hO
    obtain ⟨ASX, cSX, rfl, _, hcSX, _⟩ := hO
    unfold maxLen at hcSX
    have hXn : X.length ≤ 1048576 := by omega
    have NP : P.length ≤ 4194304 := by omega
    obtain ⟨Ap, cp, rfl, _, _⟩ := own_slice ho
    have U := Lib.hid (Sl.of_own ho)
    clear ho
    go_wp2_with fail
    refine (implChangesOf_any w4 X _ P _ SX.out hXn U.out NP).mono ?_
    rintro e w5 ⟨rfl, hb5⟩
    have b5 := b4.trans (hb5.mono b4.size)
    go_wp2_with fail
    refine (specChangesOf_any w5 X _ P _ (SX.out.below hb5) hXn (U.out.below hb5) NP).mono ?_
    rintro e w6 ⟨rfl, hb6⟩
    have b6 := b5.trans (hb6.mono b5.size)
    go_wp2_with fail
    refine (likeInts_same _ _ _ w6 ((((Yci.out.below hb3).below hb4).below hb5).below hb6) (((Ycs.out.below hb4).below hb5).below hb6) (calmF_len L)).mono ?_
    rintro e w7 ⟨rfl, hb7⟩
    have b7 := b6.trans (hb7.mono b6.size)
    have HOT := Lib.hid (fun h => calm_other (X := X) (P := P) h)
    have HLW := Lib.hid (fun h => calm_law (L := L) h)
    have HCL := Lib.hid (calmF_len L)
    obtain ⟨kc, hkc⟩ : ∃ kc, kc = (changesF X P).2 := ⟨_, rfl⟩
    rw [← hkc] at HOT ⊢
    obtain ⟨kn, hkn⟩ : ∃ kn, kn = (changesF X P).1 := ⟨_, rfl⟩
    rw [← hkn] at HOT ⊢
    clear hkc hkn
    obtain ⟨bc, hbc⟩ : ∃ bc, bc = (calmF L).2.2 := ⟨_, rfl⟩
    rw [← hbc] at HLW ⊢
    clear hbc
    obtain ⟨G, hG⟩ : ∃ G, G = (calmF L).2.1 := ⟨_, rfl⟩
    rw [← hG] at HLW ⊢
    clear hG
    have ZC := Lib.hid ((((((Yci.out.below hb3).below hb4).below hb5).below hb6).below hb7))
    obtain ⟨C, hC⟩ : ∃ C, C = (calmF L).1 := ⟨_, rfl⟩
    rw [← hC] at HLW HCL ZC ⊢
    have NC := HCL.out
    clear hC
    have K7SL := Lib.hid ((((((SL.out.below hb2).below hb3).below hb4).below hb5).below hb6).below hb7)
    have K7SX := Lib.hid (((SX.out.below hb5).below hb6).below hb7)
    clear hn Hcode Hc
    by_cases h5 : kc = 0
    · skip
      obtain ⟨o1, o2⟩ := HOT.out h5
      have O1 := Lib.hid o1
      have O2 := Lib.hid o2
      clear o1 o2
      subst h5
      go_wp2_with fail
      refine (implCalmOrder_any w7 X _ K7SX.out hXn).mono ?_
      rintro e w8 ⟨ycx, rfl, ho, hb8⟩
      have b8 := b7.trans (hb8.mono b7.size)
      obtain ⟨Acx, ccx, rfl, _, _⟩ := own_slice ho
      have Ycx := Lib.hid (Sl.of_own ho)
      clear ho
      rw [O1.out]
      obtain ⟨lx, hlx⟩ : ∃ lx, lx = (calmF X).2.1 := ⟨_, rfl⟩
      rw [← hlx] at O2 ⊢
      have u7 : decide (kn < lx) = false := by have := O2.out; simp; omega
      clear hlx
      have K8SL := Lib.hid (K7SL.out.below hb8)
      have K8ZC := Lib.hid (ZC.out.below hb8)
      by_cases h0 : bc = 0
      · skip
        obtain ⟨l1, l2, l3, l4, l5⟩ := HLW.out h0
        have L1 := Lib.hid l1
        have L2 := Lib.hid l2
        have L3 := Lib.hid l3
        have L4 := Lib.hid l4
        have L5 := Lib.hid l5
        clear l1 l2 l3 l4 l5
        subst h0
        go_wp2_with fail
        refine (implIsOrder_any w8 L _ C _ K8SL.out hLn K8ZC.out NC).mono ?_
        rintro e w9 ⟨rfl, hb9⟩
        have b9 := b8.trans (hb9.mono b8.size)
        rw [L1.out]
        go_wp2_with fail
        refine (implChangesOf_any w9 L _ C _ (K8SL.out.below hb9) hLn (K8ZC.out.below hb9) NC).mono ?_
        rintro e w10 ⟨rfl, hb10⟩
        have b10 := b9.trans (hb10.mono b9.size)
        rw [L2.out]
        go_wp2_with fail
        refine (implFirstOrder_any w10 L _ ((K8SL.out.below hb9).below hb10) hLn).mono ?_
        rintro e w11 ⟨yfo, rfl, ho, hb11⟩
        have b11 := b10.trans (hb11.mono b10.size)
        obtain ⟨Afo, cfo, rfl, _, _⟩ := own_slice ho
        have Yfo := Lib.hid (Sl.of_own ho)
        clear ho
        have NF := firstOrderF_len L
        rw [L3.out] at Yfo NF
        rw [L3.out]
        obtain ⟨FO, hFO⟩ : ∃ FO, FO = firstOrd L := ⟨_, rfl⟩
        rw [← hFO] at L4 L5 Yfo NF ⊢
        clear hFO
        go_wp2_with fail
        refine (implChangesOf_any w11 L _ FO _ (((K8SL.out.below hb9).below hb10).below hb11) hLn Yfo.out NF).mono ?_
        rintro e w12 ⟨rfl, hb12⟩
        have b12 := b11.trans (hb12.mono b11.size)
        rw [L4.out]
        obtain ⟨oc, hoc⟩ : ∃ oc, oc = (changesF L FO).1 := ⟨_, rfl⟩
        rw [← hoc] at L5 ⊢
        have u9 : decide (G ≤ oc) = true := by simpa using L5.out
        clear hoc
        go_wp2
        go_ret
        exact ⟨rfl, b12⟩
      · skip
        have u0 : (bc != 0) = true := by simpa using h0
        clear h0
        go_wp2
        go_ret
        exact ⟨rfl, b8⟩
    · skip
      have u5 : (kc == 0) = false := by simpa using h5
      clear h5
      by_cases h0 : bc = 0
      · skip
        obtain ⟨l1, l2, l3, l4, l5⟩ := HLW.out h0
        have L1 := Lib.hid l1
        have L2 := Lib.hid l2
        have L3 := Lib.hid l3
        have L4 := Lib.hid l4
        have L5 := Lib.hid l5
        clear l1 l2 l3 l4 l5
        subst h0
        go_wp2_with fail
        refine (implIsOrder_any w7 L _ C _ K7SL.out hLn ZC.out NC).mono ?_
        rintro e w8 ⟨rfl, hb8⟩
        have b8 := b7.trans (hb8.mono b7.size)
        rw [L1.out]
        go_wp2_with fail
        refine (implChangesOf_any w8 L _ C _ (K7SL.out.below hb8) hLn (ZC.out.below hb8) NC).mono ?_
        rintro e w9 ⟨rfl, hb9⟩
        have b9 := b8.trans (hb9.mono b8.size)
        rw [L2.out]
        go_wp2_with fail
        refine (implFirstOrder_any w9 L _ ((K7SL.out.below hb8).below hb9) hLn).mono ?_
        rintro e w10 ⟨yfo, rfl, ho, hb10⟩
        have b10 := b9.trans (hb10.mono b9.size)
        obtain ⟨Afo, cfo, rfl, _, _⟩ := own_slice ho
        have Yfo := Lib.hid (Sl.of_own ho)
        clear ho
        have NF := firstOrderF_len L
        rw [L3.out] at Yfo NF
        rw [L3.out]
        obtain ⟨FO, hFO⟩ : ∃ FO, FO = firstOrd L := ⟨_, rfl⟩
        rw [← hFO] at L4 L5 Yfo NF ⊢
        clear hFO
        go_wp2_with fail
        refine (implChangesOf_any w10 L _ FO _ (((K7SL.out.below hb8).below hb9).below hb10) hLn Yfo.out NF).mono ?_
        rintro e w11 ⟨rfl, hb11⟩
        have b11 := b10.trans (hb11.mono b10.size)
        rw [L4.out]
        obtain ⟨oc, hoc⟩ : ∃ oc, oc = (changesF L FO).1 := ⟨_, rfl⟩
        rw [← hoc] at L5 ⊢
        have u9 : decide (G ≤ oc) = true := by simpa using L5.out
        clear hoc
        go_wp2
        go_ret
        exact ⟨rfl, b11⟩
      · skip
        have u0 : (bc != 0) = true := by simpa using h0
        clear h0
        go_wp2
        go_ret
        exact ⟨rfl, b7⟩

namespace GreatCalm
set_option maxRecDepth 100000 in
theorem lifted (os : Os) (started : os.Started) (H : Type) (enc : TypeId × Value → H) :
    ReturnsInHanded {} Try.checked os 15 .any (Rows.fnCalmSpec.pre6 enc Try.prog Try.f15 Rows.fnCalmRow.domain false) (Rows.fnCalmSpec.post enc Try.prog Try.f15 false true false false) := by
  refine returnsInHanded_of_change (C := Try.checked) Try.own started (by kernel_rfl) Try.func15
    (ChangeSpec.witness6 (enc := enc) (C := Try.checked) false ⟨#[], #[.slice none 0 0], []⟩ 8 (by kernel_rfl) (by kernel_rfl) (by kernel_rfl) (by kernel_rfl)) ?_
  intro W base args ds gs before hval0 hW hcnd _
  have hval : ∀ (j : Nat) t v, Try.f15.params[j]? = some t → args[j]? = some v → Value.okWide Try.prog W .any base t v := hval0
  have hW' := hW
  obtain ⟨p, q, hA0, hV, rfl, hfz, hnd⟩ := hW
  have hA : DataW.TrodAll enc Try.prog W 0 (fun _ => true) true Try.f15.params.toList args.toList ds p := hA0
  rw [Try.params15] at hA hval
  obtain ⟨v0, vs0, d0, ds0, p0, q0, hargs, rfl, rfl, h0, r0⟩ := trodAll_cons hA
  obtain ⟨rfl, rfl, rfl⟩ := trodAll_nil r0
  obtain rfl : args = #[v0] := by cases args; simp_all
  obtain ⟨rfl, rfl⟩ := trodVars_none hV
  have lt0 : ∀ x ∈ p0, x.block < W.heap.size := by obtain ⟨m, hm⟩ := h0; exact DataW.trod_lt m _ _ _ hm
  obtain ⟨A0, n0, c0, ev0, hcode0, hc0⟩ := open_code (hval 0 _ v0 rfl rfl) h0
  subst ev0
  clear hA0 hval0
  refine (lawCalm_walk W A0 n0 c0 hcode0 hc0).mono fun e W' ⟨he, bel⟩ => ?_
  subst he
  exact ⟨_, rfl, _, _, _, [], _, [], hW', trodAll_mk1 (shut_bool Try.underlying4 _), (trodAll_cons_mk (Below.trod Try.laidOut (by kernel_rfl) (of_decide_eq_true (by kernel_rfl)) h0 bel lt0) trodAll_mk0), rfl, bel.frame _, fun h => by cases h⟩

theorem proved : Rows.FnCalmSaid :=
  OpenClaim.holds_of_wide 15 Try.f15 rfl rfl rfl rfl rfl rfl rfl ⟨rfl, rfl, rfl, rfl, rfl⟩ rfl rfl rfl rfl rfl (by kernel_rfl) Try.func15 (by kernel_rfl)
    (of_decide_eq_true (by kernel_rfl)) (by unfold Func.isWrapper; first | (rw [if_pos (by decide +kernel)]; kernel_rfl) | (rw [if_neg (by decide +kernel)]; exact ⟨rfl, rfl⟩))
    (fun os started H enc _ => lifted os started H enc)
#print axioms proved
end GreatCalm

end Go.Proofs.Ytecfkomijaakhaa
