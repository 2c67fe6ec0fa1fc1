/- The walks of EndsOf, LatenessOf, LateJobs, in the program and in the reference. -/
import Derived.Test.YtfkindkekjafnaaEnds
import Derived.Test.YtfkindkekjafnaaSum
import Derived.Test.YtfkindkekjafnaaStrs
namespace Go.Proofs.Ytfkindkekjafnaa
open Go.RowKit

def endsF (L : List Job) (P : List Int) : List Int × Int := if planCode L P = 0 then (endsOf L P, 0) else ([], planCode L P)
theorem planCode_zero {L : List Job} {P : List Int} (h : planCode L P = 0) : areJobs L = true ∧ planOk L.length P = true := by
  unfold planCode at h
  cases h1 : areJobs L <;> cases h2 : planOk L.length P <;> simp_all
theorem endsF_len (L : List Job) (P : List Int) : (endsF L P).1.length ≤ 4194304 := by
  unfold endsF
  split
  · rename_i h; have := areJobs_le (planCode_zero h).1; simp [endsOf_length]; omega
  · simp

set_option maxHeartbeats 1000000 in
theorem implEndsOf_any (w : World) (L : List Job) (v : Value) (P : List Int) (u : Value) (hv : Sl w 3 v L.length (jobRow L)) (hf : jobFit L) (hn : L.length ≤ 4194304) (hu : Sl w 1 u P.length (intsRow P)) (hP : P.length ≤ 4194304) :
    Calls Try.prog 27 #[v, u] w (RetSC w.heap.size 2 1 intsRow (endsF L P) w) := by
  have Hv := Lib.hid hv
  have Hf := Lib.hid hf
  have Hu := Lib.hid hu
  clear hv hf hu
  cases h1 : areJobs L
  · have H := Lib.hid (show endsF L P = ([], 1) by simp [endsF, planCode_bad h1])
    go_enter Try.func27, Try.ntmps27
    go_wp2_with fail
    refine (implAreJobs_any w L v Hv.out Hf.out hn).mono ?_
    rintro e w2 ⟨rfl, hb2⟩
    rw [h1]
    go_wp2
    go_ret2
    exact RetSC.err H.out rfl hb2
  · have h7 := areJobs_le h1
    cases h2 : planOk L.length P
    · have H := Lib.hid (show endsF L P = ([], 2) by simp [endsF, planCode_no h1 h2])
      go_enter Try.func27, Try.ntmps27
      go_wp2_with fail
      refine (implAreJobs_any w L v Hv.out Hf.out hn).mono ?_
      rintro e w2 ⟨rfl, hb2⟩
      rw [h1]
      go_wp2_with fail
      refine (implIsPlan_any w2 L v P u (Hv.out.below hb2) h7 (Hu.out.below hb2) hP).mono ?_
      rintro e w3 ⟨rfl, hb3⟩
      rw [h2]
      go_wp2
      go_ret2
      exact RetSC.err H.out rfl (hb2.trans (hb3.mono hb2.size))
    · have H := Lib.hid (show endsF L P = (endsOf L P, 0) by simp [endsF, planCode_ok h1 h2])
      go_enter Try.func27, Try.ntmps27
      go_wp2_with fail
      refine (implAreJobs_any w L v Hv.out Hf.out hn).mono ?_
      rintro e w2 ⟨rfl, hb2⟩
      rw [h1]
      go_wp2_with fail
      refine (implIsPlan_any w2 L v P u (Hv.out.below hb2) h7 (Hu.out.below hb2) hP).mono ?_
      rintro e w3 ⟨rfl, hb3⟩
      rw [h2]
      have b3 := hb2.trans (hb3.mono hb2.size)
      go_wp2_with fail
      refine (implEnds_any w3 L v P u (Hv.out.below b3) (Hu.out.below b3) h1 h2).mono ?_
      rintro e w4 ⟨y, rfl, ho, hb4⟩
      go_wp2
      go_ret2
      exact RetSC.ok H.out ho (endsOf_length L P).symm rfl b3.size (b3.trans (hb4.mono b3.size))

set_option maxHeartbeats 1000000 in
theorem specEndsOf_any (w : World) (L : List Job) (v : Value) (P : List Int) (u : Value) (hv : Sl w 3 v L.length (jobRow L)) (hf : jobFit L) (hn : L.length ≤ 4194304) (hu : Sl w 1 u P.length (intsRow P)) (hP : P.length ≤ 4194304) :
    Calls Try.prog 25 #[v, u] w (RetSC w.heap.size 2 1 intsRow (endsF L P) w) := by
  have Hv := Lib.hid hv
  have Hf := Lib.hid hf
  have Hu := Lib.hid hu
  clear hv hf hu
  by_cases h0 : planCode L P = 0
  · have H := Lib.hid (show endsF L P = (endsOf L P, 0) by simp [endsF, h0])
    obtain ⟨h1, h2⟩ := planCode_zero h0
    go_enter Try.func25, Try.ntmps25
    go_wp2_with fail
    refine (specPlan_any w L v P u Hv.out Hf.out hn Hu.out hP).mono ?_
    rintro e w2 ⟨rfl, hb2⟩
    rw [h0]
    clear h0
    go_wp2_with fail
    refine (specEnds_any w2 L v P u (Hv.out.below hb2) (Hu.out.below hb2) h1 h2).mono ?_
    rintro e w4 ⟨y, rfl, ho, hb4⟩
    go_wp2
    go_ret2
    exact RetSC.ok H.out ho (endsOf_length L P).symm rfl hb2.size (hb2.trans (hb4.mono hb2.size))
  · have H := Lib.hid (show endsF L P = ([], planCode L P) by simp [endsF, h0])
    have t0 : (planCode L P != 0) = true := by simpa using h0
    clear h0
    go_enter Try.func25, Try.ntmps25
    go_wp2_with fail
    refine (specPlan_any w L v P u Hv.out Hf.out hn Hu.out hP).mono ?_
    rintro e w2 ⟨rfl, hb2⟩
    go_wp2
    go_ret2
    exact RetSC.err H.out rfl hb2

def latenessF (L : List Job) (P : List Int) : Int × Int := if planCode L P = 0 then ((lateOf L P).sum, 0) else (0, planCode L P)
theorem lateOf_bd {L : List Job} {P : List Int} (h : areJobs L = true) (h2 : planOk L.length P = true) : ∀ i, i < (lateOf L P).length → 0 ≤ intsAt (lateOf L P) i ∧ intsAt (lateOf L P) i ≤ 1000000000 := by
  intro i hi
  rw [lateOf_len] at hi
  rw [lateOf_at L P hi]
  have h3 := endsOf_bd h h2 hi
  have h4 := areJobs_at h hi
  omega

set_option maxHeartbeats 1000000 in
theorem implLatenessOf_any (w : World) (L : List Job) (v : Value) (P : List Int) (u : Value) (hv : Sl w 3 v L.length (jobRow L)) (hf : jobFit L) (hn : L.length ≤ 4194304) (hu : Sl w 1 u P.length (intsRow P)) (hP : P.length ≤ 4194304) :
    Calls Try.prog 32 #[v, u] w (RetIC (latenessF L P) w) := by
  have Hv := Lib.hid hv
  have Hf := Lib.hid hf
  have Hu := Lib.hid hu
  clear hv hf hu
  cases h1 : areJobs L
  · have H := Lib.hid (show latenessF L P = (0, 1) by simp [latenessF, planCode_bad h1])
    go_enter Try.func32, Try.ntmps32
    go_wp2_with fail
    refine (implAreJobs_any w L v Hv.out Hf.out hn).mono ?_
    rintro e w2 ⟨rfl, hb2⟩
    rw [h1]
    go_wp2
    go_ret2
    exact RetIC.ok H.out hb2
  · have h7 := areJobs_le h1
    cases h2 : planOk L.length P
    · have H := Lib.hid (show latenessF L P = (0, 2) by simp [latenessF, planCode_no h1 h2])
      go_enter Try.func32, Try.ntmps32
      go_wp2_with fail
      refine (implAreJobs_any w L v Hv.out Hf.out hn).mono ?_
      rintro e w2 ⟨rfl, hb2⟩
      rw [h1]
      go_wp2_with fail
      refine (implIsPlan_any w2 L v P u (Hv.out.below hb2) h7 (Hu.out.below hb2) hP).mono ?_
      rintro e w3 ⟨rfl, hb3⟩
      rw [h2]
      go_wp2
      go_ret2
      exact RetIC.ok H.out (hb2.trans (hb3.mono hb2.size))
    · have H := Lib.hid (show latenessF L P = ((lateOf L P).sum, 0) by simp [latenessF, planCode_ok h1 h2])
      go_enter Try.func32, Try.ntmps32
      go_wp2_with fail
      refine (implAreJobs_any w L v Hv.out Hf.out hn).mono ?_
      rintro e w2 ⟨rfl, hb2⟩
      rw [h1]
      go_wp2_with fail
      refine (implIsPlan_any w2 L v P u (Hv.out.below hb2) h7 (Hu.out.below hb2) hP).mono ?_
      rintro e w3 ⟨rfl, hb3⟩
      rw [h2]
      have b3 := hb2.trans (hb3.mono hb2.size)
      go_wp2_with fail
      refine (implLate_any w3 L v P u (Hv.out.below b3) (Hu.out.below b3) h1 h2).mono ?_
      rintro e w4 ⟨y, rfl, ho, hb4⟩
      have Ho := Lib.hid ho
      clear ho
      go_wp2_with fail
      refine (implTotal_any w4 (lateOf L P) y (Sl.of_own (by rw [lateOf_len]; exact Ho.out)) (lateOf_bd h1 h2) (by rw [lateOf_len]; omega)).mono ?_
      rintro e w5 ⟨rfl, rfl⟩
      go_wp2
      go_ret2
      exact RetIC.ok H.out (b3.trans (hb4.mono b3.size))

set_option maxHeartbeats 1000000 in
theorem specLatenessOf_any (w : World) (L : List Job) (v : Value) (P : List Int) (u : Value) (hv : Sl w 3 v L.length (jobRow L)) (hf : jobFit L) (hn : L.length ≤ 4194304) (hu : Sl w 1 u P.length (intsRow P)) (hP : P.length ≤ 4194304) :
    Calls Try.prog 31 #[v, u] w (RetIC (latenessF L P) w) := by
  have Hv := Lib.hid hv
  have Hf := Lib.hid hf
  have Hu := Lib.hid hu
  clear hv hf hu
  by_cases h0 : planCode L P = 0
  · have H := Lib.hid (show latenessF L P = ((lateOf L P).sum, 0) by simp [latenessF, h0])
    obtain ⟨h1, h2⟩ := planCode_zero h0
    have h7 := areJobs_le h1
    go_enter Try.func31, Try.ntmps31
    go_wp2_with fail
    refine (specPlan_any w L v P u Hv.out Hf.out hn Hu.out hP).mono ?_
    rintro e w2 ⟨rfl, hb2⟩
    rw [h0]
    clear h0
    go_wp2_with fail
    refine (specLate_any w2 L v P u (Hv.out.below hb2) (Hu.out.below hb2) h1 h2).mono ?_
    rintro e w4 ⟨y, rfl, ho, hb4⟩
    have Ho := Lib.hid ho
    clear ho
    go_wp2_with fail
    refine (specSum_any w4 (lateOf L P) y (Sl.of_own (by rw [lateOf_len]; exact Ho.out)) (lateOf_bd h1 h2) (by rw [lateOf_len]; omega)).mono ?_
    rintro e w5 ⟨rfl, rfl⟩
    go_wp2
    go_ret2
    exact RetIC.ok H.out (hb2.trans (hb4.mono hb2.size))
  · have H := Lib.hid (show latenessF L P = (0, planCode L P) by simp [latenessF, h0])
    have t0 : (planCode L P != 0) = true := by simpa using h0
    clear h0
    go_enter Try.func31, Try.ntmps31
    go_wp2_with fail
    refine (specPlan_any w L v P u Hv.out Hf.out hn Hu.out hP).mono ?_
    rintro e w2 ⟨rfl, hb2⟩
    go_wp2
    go_ret2
    exact RetIC.ok H.out hb2

end Go.Proofs.Ytfkindkekjafnaa
