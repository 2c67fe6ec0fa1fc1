/- The walk of FewestLate in the reference. Printed by gen_bests.py. -/
import Derived.Test.YtfkindkekjafnaaPlans
namespace Go.Proofs.Ytfkindkekjafnaa
open Go.RowKit

set_option maxHeartbeats 8000000 in
theorem specFewestLate_any (w : World) (L : List Job) (v : Value) (hv : Sl w 3 v L.length (jobRow L)) (hf : jobFit L) (hn : L.length ≤ 4194304) :
    Calls Try.prog 42 #[v] w (RetIC (fewestLate L) w) := by
  have Hv := Lib.hid hv
  have Hf := Lib.hid hf
  clear hf
  cases h1 : areJobs L
  · have H := Lib.hid (show fewestLate L = (0, 1) by simp [fewestLate, h1])
    clear hv
    go_enter Try.func42, Try.ntmps42
    go_wp2_with fail
    refine (specAreJobs_any w L v Hv.out Hf.out hn).mono ?_
    rintro e w2 ⟨rfl, hb2⟩
    rw [h1]
    go_wp2
    go_ret2
    exact RetIC.ok H.out hb2
  · have h7 := areJobs_le h1
    have H := Lib.hid (show fewestLate L = ((plansR L.length L.length []).foldl (fun x p => min x (cntPos (lateOf L p) L.length)) (L.length : Int), 0) by rw [fewest_plans]; simp [fewestLate, h1])
    obtain ⟨A, c, rfl, _, hc, _⟩ := Hv.out
    unfold maxLen at hc
    go_enter Try.func42, Try.ntmps42
    go_wp2_with fail
    refine (specAreJobs_any w L _ Hv.out Hf.out hn).mono ?_
    rintro e w2 ⟨rfl, hb2⟩
    rw [h1]
    have hsz2 := hb2.size
    go_wp2_with fail
    refine (specPlans_any L.length h7 L.length (w2.alloc (.cells #[] 2)) [] (.slice (some ⟨w2.heap.size, 0, none⟩) 0 0) w.heap.size (own_empty _ _ _ (hsz2)) (by simp only [World.size_alloc]; have := hsz2; omega) (by simp) h7).mono ?_
    rintro e w4 ⟨u4, rfl, hpp, hb4⟩
    obtain ⟨Ap, cp, rfl⟩ : ∃ Ap cp, u4 = .slice Ap (plansR L.length L.length []).length cp := by
      obtain ⟨vs, hov, _⟩ := hpp
      obtain ⟨Ap, cp, e, _⟩ := own_slice hov
      exact ⟨Ap, cp, e⟩
    have HP := Lib.hid hpp
    have HAll := Lib.hid (show ∀ i, i < (plansR L.length L.length []).length → PartP L.length ((plansR L.length L.length []).getD i []) ∧ ((plansR L.length L.length []).getD i []).length = L.length from fun i hi => by
      have hm : (plansR L.length L.length []).getD i [] ∈ plansR L.length L.length [] := by
        have : (plansR L.length L.length []).getD i [] = (plansR L.length L.length [])[i] := by simp [List.getD, List.getElem?_eq_getElem hi]
        rw [this]; exact List.getElem_mem hi
      simpa using plans_all L.length [] (PartP.nil _) _ hm)
    have hcnt := plans_count h7 L.length []
    have hpow : 7 ^ L.length ≤ 823543 := Nat.pow_le_pow_right (show 7 > 0 by omega) h7
    have Hb4 := Lib.hid ((hb2.alloc hsz2 _).trans (hb4.mono (by simp; omega)))
    obtain ⟨PP, hPP⟩ : ∃ PP, PP = plansR L.length L.length [] := ⟨_, rfl⟩
    rw [← hPP] at HP HAll hcnt H ⊢
    have hcn : PP.length ≤ 823543 := by omega
    clear hpp hPP hcnt hpow
    have Hv4 := Lib.hid (Hv.out.below Hb4.out)
    have hsz4 := Hb4.out.size
    clear hb4
    go_wp2
    go_loopw [4, 6] (fun fv i wr => ∃ (k : Nat) (z : Int), k ≤ PP.length ∧ i = .int .i64 k ∧ fv = .int .i64 z ∧ z = (PP.take k).foldl (fun x p => min x (cntPos (lateOf L p) L.length)) (L.length : Int) ∧ Below w4.heap.size w4 wr) (fun _ i _ => PP.length - (intOf i).toNat)
    case atStart => exact ⟨0, _, Nat.zero_le _, rfl, rfl, rfl, Below.refl _ _⟩
    case round =>
      obtain ⟨k, z, hk, rfl, rfl, hz, hb⟩ := hrel
      have HZ := Lib.hid hz
      have Hb := Lib.hid hb
      have hszr := hb.size
      clear hz hb
      obtain ⟨wo, rfl⟩ : ∃ wo : World, wo = wr := ⟨_, rfl⟩
      by_cases hlt : k < PP.length
      · skip
        obtain ⟨gp, Au, cu, eA, hgp, _, cP, hrow⟩ := (HP.out.below Hb.out).at_ hlt
        subst eA
        obtain ⟨hpart, hpl⟩ := HAll.out k hlt
        obtain ⟨p, hp⟩ : ∃ p, p = PP.getD k [] := ⟨_, rfl⟩
        rw [← hp] at cP hrow hpart hpl
        have HT : Hid (PP.take (k + 1) = PP.take k ++ [p]) := Lib.hid (by rw [take_snoc PP [] hlt, hp])
        clear hp
        have hplan := hpart.planOk hpl
        have HPl := Lib.hid hpl
        have Hrow := Lib.hid hrow
        have i0 : (0 : Int) ≤ (k : Int) := Int.natCast_nonneg _
        have i1 : (k : Int) < (PP.length : Int) := by omega
        rw [hpl] at cP
        clear hrow hpl
        have hsu : Sl wo 1 (.slice Au L.length cu) p.length (intsRow p) := by
          have := Sl.of_own Hrow.out
          rw [HPl.out] at this ⊢; exact this
        have hsv := Hv4.out.below Hb.out
        go_wp2_with fail
        refine (specLate_any wo L _ p _ hsv hsu h1 hplan).mono ?_
        rintro e w5 ⟨D5, rfl, ho5, hb5⟩
        obtain ⟨A5, c5, rfl, _, _⟩ := own_slice ho5
        have Ho5 := Lib.hid ho5
        have Hb5 := Lib.hid (Hb.out.trans (hb5.mono hszr))
        obtain ⟨D, hD⟩ : ∃ D, D = lateOf L p := ⟨_, rfl⟩
        have hDl : D.length = L.length := by rw [hD, lateOf_len]
        have HD := Lib.hid hD
        have HDl := Lib.hid hDl
        rw [← hD] at Ho5
        clear ho5 hb5 hD hDl cP hsu hsv hplan hpart
        go_wp2
        go_loopw [8, 9] (fun s i wr => ∃ (q : Nat) (x : Int), q ≤ L.length ∧ i = .int .i64 q ∧ s = .int .i64 x ∧ x = cntPos D q ∧ Below w5.heap.size w5 wr) (fun _ i _ => L.length - (intOf i).toNat)
        case atStart => exact ⟨0, 0, Nat.zero_le _, rfl, rfl, rfl, Below.refl _ _⟩
        case round =>
          obtain ⟨q, x, hq, rfl, rfl, hx, hb⟩ := hrel
          have hxb := cntPos_bd D q
          rw [← hx] at hxb
          have HX := Lib.hid hx
          have Hbq := Lib.hid hb
          clear hx hb
          by_cases hlt2 : q < L.length
          · have own := own_below Ho5.out Hbq.out
            obtain ⟨gd, cd, eA, hgd1, hgd2⟩ := own_form own (by omega)
            injection eA with eA1 eA2 eA3
            subst eA1
            subst eA3
            have d0 := (own.cellAt q (by omega)).trans (intsRow_at D q (by rw [HDl.out]; exact hlt2))
            have j0 : (0 : Int) ≤ (q : Int) := Int.natCast_nonneg _
            have j1 : (q : Int) < (L.length : Int) := by omega
            clear own
            by_cases hp : 0 < intsAt D q
            · have s0 : decide (0 < intsAt D q) = true := by simpa using hp
              have x1 := IntWalk.i64_in (x + 1) (by omega)
              have HS := Lib.hid (show cntPos D (q + 1) = x + 1 by rw [cntPos, if_pos hp, HX.out])
              go_wp2
              go_roundw
              case rel => exact ⟨q + 1, x + 1, by omega, by go_num, rfl, HS.out.symm, Hbq.out⟩
              case measure => simp [intOf]; omega
            · have s0 : decide (0 < intsAt D q) = false := by simpa using hp
              have HS := Lib.hid (show cntPos D (q + 1) = x by rw [cntPos, if_neg hp, HX.out]; omega)
              go_wp2
              go_roundw
              case rel => exact ⟨q + 1, x, by omega, by go_num, rfl, HS.out.symm, Hbq.out⟩
              case measure => simp [intOf]; omega
          · have hqe : q = L.length := by omega
            have HS : Hid ((PP.take (k + 1)).foldl (fun x p => min x (cntPos (lateOf L p) L.length)) (L.length : Int) = min z x) := Lib.hid (by rw [HT.out, List.foldl_append, ← HZ.out, HX.out, HD.out, hqe]; rfl)
            have Hbn := Lib.hid (Hb5.out.trans (Hbq.out.mono Hb5.out.size))
            clear hqe
            rcases Int.lt_trichotomy x z with hc | hc | hc
            · skip
              have s1 : ¬ z < x := by omega
              go_wp2
              go_roundw
              case rel => exact ⟨k + 1, _, by omega, by go_num, rfl, by rw [HS.out]; omega, Hbn.out⟩
              case measure => simp [intOf]; omega
            · skip
              subst hc
              have s1 : ¬ x < x := by omega
              go_wp2
              go_roundw
              case rel => exact ⟨k + 1, _, by omega, by go_num, rfl, by rw [HS.out]; omega, Hbn.out⟩
              case measure => simp [intOf]; omega
            · skip
              have s1 : ¬ x < z := by omega
              go_wp2
              go_roundw
              case rel => exact ⟨k + 1, _, by omega, by go_num, rfl, by rw [HS.out]; omega, Hbn.out⟩
              case measure => simp [intOf]; omega
      · have hke : k = PP.length := by omega
        have HS : Hid (fewestLate L = (z, 0)) := Lib.hid (by rw [H.out, HZ.out, hke, List.take_length])
        have b5 := Hb4.out.trans (Hb.out.mono hsz4)
        clear hke
        go_wp2
        go_ret2
        exact RetIC.ok HS.out b5

end Go.Proofs.Ytfkindkekjafnaa
