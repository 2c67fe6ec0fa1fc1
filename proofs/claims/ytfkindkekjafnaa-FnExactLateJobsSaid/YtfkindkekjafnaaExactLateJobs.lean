/- FnExactLateJobs, for every input: the program's LateJobs returns what the reference's returns. Its conditions: none. -/
import Derived.Test.YtfkindkekjafnaaLateJobs
namespace Go.Proofs.Ytfkindkekjafnaa
open Go.ChangeShapes Go.WideShapes Go.ChangeAt Go.RowKit Go.Deep
open Go.ChangeMaps (open_string)

set_option maxHeartbeats 4000000 in
theorem lawLateJobs_walk (w : World) (L0 : List Job) (V0 : Value) (L1 : List Int) (V1 : Value) (hv0 : Sl w 3 V0 L0.length (jobRow L0)) (hf0 : jobFit L0) (hv1 : Sl w 1 V1 L1.length (intsRow L1)) :
    Calls Try.prog 7 #[V0, V1] w fun e w' => e = .returned (.bool true) ∧ Below w.heap.size w w' := by
  have Hv0 := Lib.hid hv0
  clear hv0
  have Hf0 := Lib.hid hf0
  clear hf0
  have Hv1 := Lib.hid hv1
  clear hv1
  by_cases hz1 : 1048576 < L1.length
  · obtain ⟨A, c, rfl, h1, h2, _⟩ := Hv1.out
    unfold maxLen at h2
    go_enter Try.func7, Try.ntmps7
    go_wp2
    go_ret
    exact ⟨rfl, Below.refl _ _⟩
  obtain ⟨A1, c1, hV1, h11, h21, hR1⟩ := Hv1.out
  subst hV1
  clear h11 h21 hR1
  go_enter Try.func7, Try.ntmps7
  have HR := Lib.hid (lateNames_len L0 L1)
  go_wp2_with fail
  refine (szJobS_any L0 V0 1048576 w (Sl.below Hv0.out (Below.refl w.heap.size w)) Hf0.out (by omega) (by omega)).mono ?_
  rintro e w1 ⟨r1, rfl, hr1, hn1, hb1⟩
  have b1 := (Below.refl w.heap.size w).trans (hb1.mono (Below.refl w.heap.size w).size)
  have s1 : w.heap.size ≤ w1.heap.size := hb1.size
  by_cases hneg1 : r1 < 0
  · go_wp2
    go_ret
    exact ⟨rfl, b1⟩
  have hn1 := hn1 (by omega)
  go_wp2_with fail
  refine (toJobS_any L0 V0 w1 (Sl.below Hv0.out b1) (by omega)).mono ?_
  rintro e w2 ⟨y2, rfl, ho2, hb2⟩
  have b2 := b1.trans (hb2.mono b1.size)
  have s2 : w1.heap.size ≤ w2.heap.size := hb2.size
  have O_y2 := Lib.hid ho2
  clear ho2
  have T_y2 := Lib.hid (World.ownsRow.lt O_y2.out)
  go_wp2_with fail
  refine (toInts_any L1 (.slice A1 L1.length c1) w2 (Sl.below Hv1.out b2) (by omega)).mono ?_
  rintro e w3 ⟨y3, rfl, ho3, hb3⟩
  have b3 := b2.trans (hb3.mono b2.size)
  have s3 : w2.heap.size ≤ w3.heap.size := hb3.size
  have O_y3 := Lib.hid ho3
  clear ho3
  have T_y3 := Lib.hid (World.ownsRow.lt O_y3.out)
  go_wp2_with fail
  refine (specLateJobs_any w3 L0 y2 L1 y3 (Sl.of_own (own_below O_y2.out hb3)) Hf0.out (by omega) (Sl.of_own O_y3.out) (by omega)).mono ?_
  rintro e w4 ⟨y4, rfl, ho4, hb4⟩
  have b4 := b3.trans (hb4.mono b3.size)
  have s4 : w3.heap.size ≤ w4.heap.size := hb4.size
  have O_y4 := Lib.hid ho4
  clear ho4
  have T_y4 := Lib.hid (World.ownsRow.lt O_y4.out)
  go_wp2_with fail
  refine (toJobS_any L0 V0 w4 (Sl.below Hv0.out b4) (by omega)).mono ?_
  rintro e w5 ⟨y5, rfl, ho5, hb5⟩
  have b5 := b4.trans (hb5.mono b4.size)
  have s5 : w4.heap.size ≤ w5.heap.size := hb5.size
  have O_y5 := Lib.hid ho5
  clear ho5
  have T_y5 := Lib.hid (World.ownsRow.lt O_y5.out)
  go_wp2_with fail
  refine (toInts_any L1 (.slice A1 L1.length c1) w5 (Sl.below Hv1.out b5) (by omega)).mono ?_
  rintro e w6 ⟨y6, rfl, ho6, hb6⟩
  have b6 := b5.trans (hb6.mono b5.size)
  have s6 : w5.heap.size ≤ w6.heap.size := hb6.size
  have O_y6 := Lib.hid ho6
  clear ho6
  have T_y6 := Lib.hid (World.ownsRow.lt O_y6.out)
  go_wp2_with fail
  refine (implLateJobs_any w6 L0 y5 L1 y6 (Sl.of_own (own_below O_y5.out hb6)) Hf0.out (by omega) (Sl.of_own O_y6.out) (by omega)).mono ?_
  rintro e w7 ⟨y7, rfl, ho7, hb7⟩
  have b7 := b6.trans (hb7.mono b6.size)
  have s7 : w6.heap.size ≤ w7.heap.size := hb7.size
  have O_y7 := Lib.hid ho7
  clear ho7
  have T_y7 := Lib.hid (World.ownsRow.lt O_y7.out)
  go_wp2_with fail
  refine (eqStrs_same (lateNames L0 L1).1 y7 y4 w7 (Sl.of_own O_y7.out) (Sl.of_own (own_below (own_below (own_below O_y4.out hb5) hb6) hb7)) (by have := HR.out; omega)).mono ?_
  rintro e w8 ⟨rfl, hb8⟩
  have b8 := b7.trans (hb8.mono b7.size)
  have s8 : w7.heap.size ≤ w8.heap.size := hb8.size
  go_wp2_with fail
  refine (toJobS_any L0 V0 w8 (Sl.below Hv0.out b8) (by omega)).mono ?_
  rintro e w9 ⟨y9, rfl, ho9, hb9⟩
  have b9 := b8.trans (hb9.mono b8.size)
  have s9 : w8.heap.size ≤ w9.heap.size := hb9.size
  have O_y9 := Lib.hid ho9
  clear ho9
  have T_y9 := Lib.hid (World.ownsRow.lt O_y9.out)
  go_wp2_with fail
  refine (eqJobS_same L0 y5 y9 w9 (Sl.of_own (own_below (own_below (own_below (own_below O_y5.out hb6) hb7) hb8) hb9)) (Sl.of_own O_y9.out) (by omega)).mono ?_
  rintro e w10 ⟨rfl, hb10⟩
  have b10 := b9.trans (hb10.mono b9.size)
  have s10 : w9.heap.size ≤ w10.heap.size := hb10.size
  go_wp2_with fail
  refine (toInts_any L1 (.slice A1 L1.length c1) w10 (Sl.below Hv1.out b10) (by omega)).mono ?_
  rintro e w11 ⟨y11, rfl, ho11, hb11⟩
  have b11 := b10.trans (hb11.mono b10.size)
  have s11 : w10.heap.size ≤ w11.heap.size := hb11.size
  have O_y11 := Lib.hid ho11
  clear ho11
  have T_y11 := Lib.hid (World.ownsRow.lt O_y11.out)
  go_wp2_with fail
  refine (eqInts_same L1 y6 y11 w11 (Sl.of_own (own_below (own_below (own_below (own_below (own_below O_y6.out hb7) hb8) hb9) hb10) hb11)) (Sl.of_own O_y11.out) (by omega)).mono ?_
  rintro e w12 ⟨rfl, hb12⟩
  have b12 := b11.trans (hb12.mono b11.size)
  have s12 : w11.heap.size ≤ w12.heap.size := hb12.size
  go_wp2_with fail
  refine (markJobS_any _ L0.length 1 y5 _ w12 (own_below (own_below (own_below (own_below (own_below (own_below (own_below O_y5.out hb6) hb7) hb8) hb9) hb10) hb11) hb12) (by omega) (by omega) (by omega)).mono ?_
  rintro e w13 ⟨r13, rfl, er13, ho13, hg13⟩
  have E13 := Lib.hid er13
  clear er13
  have b13 := b12.grown hg13 b12.size (fun k hk => by have := (T_y5.out k hk).1; omega)
  have s13 := hg13.size
  have P13 := Lib.hid ho13
  clear ho13
  go_wp2_with fail
  refine (markInts_any _ L1.length r13 y6 _ w13 (World.ownsRow.kept (own_below (own_below (own_below (own_below (own_below (own_below O_y6.out hb7) hb8) hb9) hb10) hb11) hb12) hg13 (ne_of_gt T_y6.out T_y5.out (by omega))) (by have := E13.out; omega) (by have := E13.out; omega) (by omega)).mono ?_
  rintro e w14 ⟨r14, rfl, er14, ho14, hg14⟩
  have E14 := Lib.hid er14
  clear er14
  have b14 := b13.grown hg14 b13.size (fun k hk => by have := (T_y6.out k hk).1; omega)
  have s14 := hg14.size
  have P14 := Lib.hid ho14
  clear ho14
  go_wp2_with fail
  refine (eqStrs_same (lateNames L0 L1).1 y7 y4 w14 (Sl.of_own (World.ownsRow.kept (World.ownsRow.kept (own_below (own_below (own_below (own_below (own_below O_y7.out hb8) hb9) hb10) hb11) hb12) hg13 (ne_of_gt T_y7.out T_y5.out (by omega))) hg14 (ne_of_gt T_y7.out T_y6.out (by omega)))) (Sl.of_own (World.ownsRow.kept (World.ownsRow.kept (own_below (own_below (own_below (own_below (own_below (own_below (own_below (own_below O_y4.out hb5) hb6) hb7) hb8) hb9) hb10) hb11) hb12) hg13 (ne_of_lt T_y4.out T_y5.out (by omega))) hg14 (ne_of_lt T_y4.out T_y6.out (by omega)))) (by have := HR.out; omega)).mono ?_
  rintro e w15 ⟨rfl, hb15⟩
  have b15 := b14.trans (hb15.mono b14.size)
  have s15 : w14.heap.size ≤ w15.heap.size := hb15.size
  go_wp2_with fail
  refine (markStrs_any _ (lateNames L0 L1).1.length 1 y7 _ w15 (own_below (World.ownsRow.kept (World.ownsRow.kept (own_below (own_below (own_below (own_below (own_below O_y7.out hb8) hb9) hb10) hb11) hb12) hg13 (ne_of_gt T_y7.out T_y5.out (by omega))) hg14 (ne_of_gt T_y7.out T_y6.out (by omega))) hb15) (by omega) (by omega) (by have := HR.out; omega)).mono ?_
  rintro e w16 ⟨r16, rfl, er16, ho16, hg16⟩
  have E16 := Lib.hid er16
  clear er16
  have b16 := b15.grown hg16 b15.size (fun k hk => by have := (T_y7.out k hk).1; omega)
  have s16 := hg16.size
  have P16 := Lib.hid ho16
  clear ho16
  go_wp2_with fail
  refine (heldStrs_any (lateNames L0 L1).1.length 1 y7 w16 (Sl.of_own P16.out) (by omega) (by omega) (by have := HR.out; omega)).mono ?_
  rintro e w17 ⟨r17, rfl, er17, hb17⟩
  have b17 := b16.trans (hb17.mono b16.size)
  have s17 : w16.heap.size ≤ w17.heap.size := hb17.size
  have em17 : r16 = r17 := by have := E16.out; omega
  clear er17
  subst em17
  go_wp2_with fail
  refine (toJobS_any L0 V0 w17 (Sl.below Hv0.out b17) (by omega)).mono ?_
  rintro e w18 ⟨y18, rfl, ho18, hb18⟩
  have b18 := b17.trans (hb18.mono b17.size)
  have s18 : w17.heap.size ≤ w18.heap.size := hb18.size
  have O_y18 := Lib.hid ho18
  clear ho18
  have T_y18 := Lib.hid (World.ownsRow.lt O_y18.out)
  go_wp2_with fail
  refine (toInts_any L1 (.slice A1 L1.length c1) w18 (Sl.below Hv1.out b18) (by omega)).mono ?_
  rintro e w19 ⟨y19, rfl, ho19, hb19⟩
  have b19 := b18.trans (hb19.mono b18.size)
  have s19 : w18.heap.size ≤ w19.heap.size := hb19.size
  have O_y19 := Lib.hid ho19
  clear ho19
  have T_y19 := Lib.hid (World.ownsRow.lt O_y19.out)
  go_wp2_with fail
  refine (implLateJobs_any w19 L0 y18 L1 y19 (Sl.of_own (own_below O_y18.out hb19)) Hf0.out (by omega) (Sl.of_own O_y19.out) (by omega)).mono ?_
  rintro e w20 ⟨y20, rfl, ho20, hb20⟩
  have b20 := b19.trans (hb20.mono b19.size)
  have s20 : w19.heap.size ≤ w20.heap.size := hb20.size
  have O_y20 := Lib.hid ho20
  clear ho20
  have T_y20 := Lib.hid (World.ownsRow.lt O_y20.out)
  go_wp2_with fail
  refine (eqStrs_same (lateNames L0 L1).1 y20 y4 w20 (Sl.of_own O_y20.out) (Sl.of_own (own_below (own_below (own_below (own_below (World.ownsRow.kept (own_below (World.ownsRow.kept (World.ownsRow.kept (own_below (own_below (own_below (own_below (own_below (own_below (own_below (own_below O_y4.out hb5) hb6) hb7) hb8) hb9) hb10) hb11) hb12) hg13 (ne_of_lt T_y4.out T_y5.out (by omega))) hg14 (ne_of_lt T_y4.out T_y6.out (by omega))) hb15) hg16 (ne_of_lt T_y4.out T_y7.out (by omega))) hb17) hb18) hb19) hb20)) (by have := HR.out; omega)).mono ?_
  rintro e w21 ⟨rfl, hb21⟩
  have b21 := b20.trans (hb21.mono b20.size)
  have s21 : w20.heap.size ≤ w21.heap.size := hb21.size
  go_wp2_with fail
  refine (heldStrs_any (lateNames L0 L1).1.length 1 y7 w21 (Sl.of_own (own_below (own_below (own_below (own_below (own_below P16.out hb17) hb18) hb19) hb20) hb21)) (by omega) (by omega) (by have := HR.out; omega)).mono ?_
  rintro e w22 ⟨r22, rfl, er22, hb22⟩
  have b22 := b21.trans (hb22.mono b21.size)
  have s22 : w21.heap.size ≤ w22.heap.size := hb22.size
  have em22 : r16 = r22 := by have := E16.out; omega
  clear er22
  subst em22
  go_wp2
  go_ret
  exact ⟨rfl, b22⟩

namespace ExactLateJobs
set_option maxRecDepth 100000 in
theorem lifted (os : Os) (started : os.Started) (H : Type) (enc : TypeId × Value → H) :
    ReturnsInHanded {} Try.checked os 7 .any (Rows.fnExactLateJobsSpec.pre6 enc Try.prog Try.f7 Rows.fnExactLateJobsRow.domain false) (Rows.fnExactLateJobsSpec.post enc Try.prog Try.f7 false true false false) := by
  refine returnsInHanded_of_change (C := Try.checked) Try.own started (by kernel_rfl) Try.func7
    (ChangeSpec.witness6 (enc := enc) (C := Try.checked) false ⟨#[], #[.slice none 0 0, .slice none 0 0], []⟩ 8 (by kernel_rfl) (by kernel_rfl) (by kernel_rfl) (by kernel_rfl)) ?_
  intro W base args ds gs before hval0 hW hcnd _
  have hval : ∀ (j : Nat) t v, Try.f7.params[j]? = some t → args[j]? = some v → Value.okWide Try.prog W .any base t v := hval0
  have hW' := hW
  obtain ⟨p, q, hA0, hV, rfl, hfz, hnd⟩ := hW
  have hA : DataW.TrodAll enc Try.prog W 0 (fun _ => true) true Try.f7.params.toList args.toList ds p := hA0
  rw [Try.params7] at hA hval
  obtain ⟨v0, vs0, d0, ds0, p0, q0, hargs, rfl, rfl, h0, r0⟩ := trodAll_cons hA
  obtain ⟨v1, vs1, d1, ds1, p1, q1, rfl, rfl, rfl, h1, r1⟩ := trodAll_cons r0
  obtain ⟨rfl, rfl, rfl⟩ := trodAll_nil r1
  obtain rfl : args = #[v0, v1] := by cases args; simp_all
  obtain ⟨rfl, rfl⟩ := trodVars_none hV
  have lt0 : ∀ x ∈ p0, x.block < W.heap.size := by obtain ⟨m, hm⟩ := h0; exact DataW.trod_lt m _ _ _ hm
  obtain ⟨L0, hv0, hf0⟩ := open_jobs (hval 0 _ v0 rfl rfl) h0
  have lt1 : ∀ x ∈ p1, x.block < W.heap.size := by obtain ⟨m, hm⟩ := h1; exact DataW.trod_lt m _ _ _ hm
  obtain ⟨L1, hv1⟩ := open_intl (hval 1 _ v1 rfl rfl) h1
  clear hA0 hval0
  refine (lawLateJobs_walk W L0 v0 L1 v1 hv0 hf0 hv1).mono fun e W' ⟨he, bel⟩ => ?_
  subst he
  exact ⟨_, rfl, _, _, _, [], _, [], hW', trodAll_mk1 (shut_bool Try.underlying4 _), (trodAll_cons_mk (Below.trod Try.laidOut (by kernel_rfl) (of_decide_eq_true (by kernel_rfl)) h0 bel lt0) (trodAll_cons_mk (Below.trod Try.laidOut (by kernel_rfl) (of_decide_eq_true (by kernel_rfl)) h1 bel lt1) trodAll_mk0)), rfl, bel.frame _, fun h => by cases h⟩

theorem proved : Rows.FnExactLateJobsSaid :=
  OpenClaim.holds_of_wide 7 Try.f7 rfl rfl rfl rfl rfl rfl rfl ⟨rfl, rfl, rfl, rfl, rfl⟩ rfl rfl rfl rfl rfl (by kernel_rfl) Try.func7 (by kernel_rfl)
    (of_decide_eq_true (by kernel_rfl)) (by unfold Func.isWrapper; first | (rw [if_pos (by decide +kernel)]; kernel_rfl) | (rw [if_neg (by decide +kernel)]; exact ⟨rfl, rfl⟩))
    (fun os started H enc _ => lifted os started H enc)
#print axioms proved
end ExactLateJobs

end Go.Proofs.Ytfkindkekjafnaa
