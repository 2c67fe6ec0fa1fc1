/- The walk of BestPlan in the reference. Printed by gen_bests.py. -/
import Derived.Test.YtfkindkekjafnaaPlans
namespace Go.Proofs.Ytfkindkekjafnaa
open Go.RowKit

theorem late_sum_bd {L : List Job} {P : List Int} (h : areJobs L = true) (h2 : planOk L.length P = true) : 0 ≤ (lateOf L P).sum ∧ (lateOf L P).sum ≤ 1000000000000 := by
  have h3 := sum_bd (l := lateOf L P) (M := 1000000000) (lateOf_bd h h2) (lateOf L P).length
  rw [List.take_length, lateOf_len] at h3
  have h4 := areJobs_le h
  omega
set_option maxHeartbeats 8000000 in
theorem specBestPlan_any (w : World) (L : List Job) (v : Value) (hv : Sl w 3 v L.length (jobRow L)) (hf : jobFit L) (hn : L.length ≤ 4194304) :
    Calls Try.prog 38 #[v] w (RetSIC w.heap.size 2 1 intsRow (bestPlan L) w) := by
  have Hv := Lib.hid hv
  have Hf := Lib.hid hf
  clear hf
  cases h1 : areJobs L
  · have H := Lib.hid (show bestPlan L = ([], 0, 1) by simp [bestPlan, h1])
    clear hv
    go_enter Try.func38, Try.ntmps38
    go_wp2_with fail
    refine (specAreJobs_any w L v Hv.out Hf.out hn).mono ?_
    rintro e w2 ⟨rfl, hb2⟩
    rw [h1]
    go_wp2
    go_ret3
    exact RetSIC.err H.out rfl hb2
  · have h7 := areJobs_le h1
    have H := Lib.hid (show bestPlan L = (((plansR L.length L.length []).foldl (pickP fun p => (lateOf L p).sum) ([], -1)).1, ((plansR L.length L.length []).foldl (pickP fun p => (lateOf L p).sum) ([], -1)).2, 0) by rw [best_plans]; simp [bestPlan, h1])
    obtain ⟨A, c, rfl, _, hc, _⟩ := Hv.out
    unfold maxLen at hc
    go_enter Try.func38, Try.ntmps38
    go_wp2_with fail
    refine (specAreJobs_any w L _ Hv.out Hf.out hn).mono ?_
    rintro e w2 ⟨rfl, hb2⟩
    rw [h1]
    have hsz2 := hb2.size
    have Ho2 := Lib.hid (own_empty w2 2 1 hsz2)
    have hszA : w.heap.size ≤ (w2.alloc (.cells #[] 2)).heap.size := by simp; omega
    go_wp2_with fail
    refine (specPlans_any L.length h7 L.length ((w2.alloc (.cells #[] 2)).alloc (.cells #[] 2)) [] (.slice (some ⟨w2.heap.size + 1, 0, none⟩) 0 0) w.heap.size (own_empty' _ _ _ (hszA) (by simp)) (by simp only [World.size_alloc]; have := hsz2; omega) (by simp) h7).mono ?_
    rintro e w4 ⟨u4, rfl, hpp, hb4⟩
    obtain ⟨Ap, cp, rfl⟩ : ∃ Ap cp, u4 = .slice Ap (plansR L.length L.length []).length cp := by
      obtain ⟨vs, hov, _⟩ := hpp
      obtain ⟨Ap, cp, e, _⟩ := own_slice hov
      exact ⟨Ap, cp, e⟩
    have HP := Lib.hid hpp
    have HAll := Lib.hid (show ∀ i, i < (plansR L.length L.length []).length → PartP L.length ((plansR L.length L.length []).getD i []) ∧ ((plansR L.length L.length []).getD i []).length = L.length from fun i hi => by
      have hm : (plansR L.length L.length []).getD i [] ∈ plansR L.length L.length [] := by
        have : (plansR L.length L.length []).getD i [] = (plansR L.length L.length [])[i] := by simp [List.getD, List.getElem?_eq_getElem hi]
        rw [this]; exact List.getElem_mem hi
      simpa using plans_all L.length [] (PartP.nil _) _ hm)
    have hcnt := plans_count h7 L.length []
    have hpow : 7 ^ L.length ≤ 823543 := Nat.pow_le_pow_right (show 7 > 0 by omega) h7
    have Hb4 := Lib.hid (((hb2.alloc hsz2 _).alloc hszA _).trans (hb4.mono (by simp; omega)))
    have Ho4 := Lib.hid (own_below (Ho2.out.alloc _) hb4)
    obtain ⟨PP, hPP⟩ : ∃ PP, PP = plansR L.length L.length [] := ⟨_, rfl⟩
    rw [← hPP] at HP HAll hcnt H ⊢
    have hcn : PP.length ≤ 823543 := by omega
    clear hpp hPP hcnt hpow
    have Hv4 := Lib.hid (Hv.out.below Hb4.out)
    have hsz4 := Hb4.out.size
    clear hb4
    go_wp2
    go_loopw [5, 6, 8] (fun b l i wr => ∃ (k : Nat) (z : Int) (bl : List Int) (Ab : Option Addr) (cb : Nat), k ≤ PP.length ∧ i = .int .i64 k ∧ l = .int .i64 z ∧ b = .slice Ab bl.length cb ∧ (bl, z) = (PP.take k).foldl (pickP fun p => (lateOf L p).sum) ([], -1) ∧ wr.ownsRow w.heap.size 2 1 (.slice Ab bl.length cb) bl.length (intsRow bl) ∧ Below w4.heap.size w4 wr) (fun _ _ i _ => PP.length - (intOf i).toNat)
    case atStart => exact ⟨0, -1, [], _, _, Nat.zero_le _, rfl, rfl, rfl, rfl, Ho4.out, Below.refl _ _⟩
    case round =>
      clear Ho4 Ho2
      obtain ⟨k, z, bl, Ab, cb, hk, rfl, rfl, rfl, hz, ho, hb⟩ := hrel
      have HZ := Lib.hid hz
      have Ho := Lib.hid ho
      have Hb := Lib.hid hb
      have hszr := hb.size
      clear hz ho hb
      obtain ⟨wo, rfl⟩ : ∃ wo : World, wo = wr := ⟨_, rfl⟩
      by_cases hlt : k < PP.length
      · skip
        obtain ⟨gp, Au, cu, eA, hgp, _, cP, hrow⟩ := (HP.out.below Hb.out).at_ hlt
        subst eA
        obtain ⟨hpart, hpl⟩ := HAll.out k hlt
        obtain ⟨p, hp⟩ : ∃ p, p = PP.getD k [] := ⟨_, rfl⟩
        rw [← hp] at cP hrow hpart hpl
        have HT : Hid (PP.take (k + 1) = PP.take k ++ [p]) := Lib.hid (by rw [take_snoc PP [] hlt, hp])
        clear hp
        have hplan := hpart.planOk hpl
        have HPl := Lib.hid hpl
        have Hrow := Lib.hid hrow
        have i0 : (0 : Int) ≤ (k : Int) := Int.natCast_nonneg _
        have i1 : (k : Int) < (PP.length : Int) := by omega
        rw [hpl] at cP
        clear hrow hpl
        have hsu : Sl wo 1 (.slice Au L.length cu) p.length (intsRow p) := by
          have := Sl.of_own Hrow.out
          rw [HPl.out] at this ⊢; exact this
        have hsv := Hv4.out.below Hb.out
        have HBD := Lib.hid (lateOf_bd h1 hplan)
        have hsum : 0 ≤ (lateOf L p).sum ∧ (lateOf L p).sum ≤ 1000000000000 := late_sum_bd h1 hplan
        go_wp2_with fail
        refine (specLate_any wo L _ p _ hsv hsu h1 hplan).mono ?_
        rintro e w5 ⟨D5, rfl, ho5, hb5⟩
        have Hs5 := Lib.hid (Sl.of_own ho5)
        have Ho5 := Lib.hid (own_below Ho.out hb5)
        have Hr5 := Lib.hid (own_below Hrow.out hb5)
        have Hb5 := Lib.hid (Hb.out.trans (hb5.mono hszr))
        have cP5 := (hb5.cell (p := ⟨gp, k, none⟩) hgp).trans cP
        have Hll := Lib.hid (lateOf_len L p)
        clear ho5 hb5 cP hsu hsv hplan hpart
        go_wp2_with fail
        refine (specSum_any w5 (lateOf L p) _ (by rw [Hll.out]; exact Hs5.out) HBD.out (by rw [Hll.out]; omega)).mono ?_
        rintro e w6 ⟨rfl, rfl⟩
        obtain ⟨s, hs⟩ : ∃ s, s = (lateOf L p).sum := ⟨_, rfl⟩
        rw [← hs] at hsum ⊢
        have HS : Hid ((PP.take (k + 1)).foldl (pickP fun p => (lateOf L p).sum) ([], -1) = if z < 0 ∨ s < z then (p, s) else (bl, z)) := Lib.hid (by rw [HT.out, List.foldl_append, ← HZ.out, hs]; rfl)
        clear hs
        have Hr5b := Lib.hid (show w5.ownsRow w.heap.size 2 1 (.slice Au p.length cu) p.length (intsRow p) from Hr5.out)
        by_cases hz0 : z < 0
        · have s1 : decide (z < 0) = true := by simpa using hz0
          have hcond : z < 0 ∨ s < z := .inl hz0
          go_wp2
          go_roundw
          case rel => exact ⟨k + 1, s, p, Au, cu, by omega, by go_num, rfl, by rw [HPl.out], by rw [HS.out, if_pos hcond], Hr5b.out, Hb5.out⟩
          case measure => simp [intOf]; omega
        · have s1 : decide (z < 0) = false := by simpa using hz0
          by_cases hs0 : s < z
          · have s2 : decide (s < z) = true := by simpa using hs0
            have hcond : z < 0 ∨ s < z := .inr hs0
            go_wp2
            go_roundw
            case rel => exact ⟨k + 1, s, p, Au, cu, by omega, by go_num, rfl, by rw [HPl.out], by rw [HS.out, if_pos hcond], Hr5b.out, Hb5.out⟩
            case measure => simp [intOf]; omega
          · have s2 : decide (s < z) = false := by simpa using hs0
            have hcond : ¬ (z < 0 ∨ s < z) := by omega
            go_wp2
            go_roundw
            case rel => exact ⟨k + 1, z, bl, Ab, cb, by omega, by go_num, rfl, rfl, by rw [HS.out, if_neg hcond], Ho5.out, Hb5.out⟩
            case measure => simp [intOf]; omega
      · have hke : k = PP.length := by omega
        have HS : Hid (bestPlan L = (bl, z, 0)) := Lib.hid (by rw [H.out]; rw [hke, List.take_length] at HZ; rw [← HZ.out])
        have b5 := Hb4.out.trans (Hb.out.mono hsz4)
        clear hke
        go_wp2
        go_ret3
        exact RetSIC.ok HS.out Ho.out rfl rfl (Nat.le_refl _) b5

end Go.Proofs.Ytfkindkekjafnaa
