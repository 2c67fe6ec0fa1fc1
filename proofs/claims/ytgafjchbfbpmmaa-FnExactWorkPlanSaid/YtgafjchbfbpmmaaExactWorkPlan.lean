/- FnExactWorkPlan, for every input: the program's WorkPlan returns what the reference's returns. Its conditions: none. -/
import Derived.Test.YtgafjchbfbpmmaaPlanW
namespace Go.Proofs.Ytgafjchbfbpmmaa
open Go.ChangeShapes Go.WideShapes Go.ChangeAt Go.RowKit Go.Deep
open Go.ChangeMaps (open_string)

set_option maxHeartbeats 4000000 in
theorem lawWorkPlan_walk (w : World) (L0 : List Promise) (V0 : Value) (hv0 : Sl w 3 V0 L0.length (promiseRow L0)) (hf0 : promiseFit L0) :
    Calls Try.prog 14 #[V0] w fun e w' => e = .returned (.bool true) ∧ Below w.heap.size w w' := by
  have Hv0 := Lib.hid hv0
  clear hv0
  have Hf0 := Lib.hid hf0
  clear hf0
  go_enter Try.func14, Try.ntmps14
  have HR := Lib.hid (workPlan_len L0)
  go_wp2_with fail
  refine (szPromiseS_any L0 V0 1048576 w (Sl.below Hv0.out (Below.refl w.heap.size w)) Hf0.out (by omega) (by omega)).mono ?_
  rintro e w1 ⟨r1, rfl, hr1, hn1, hb1⟩
  have b1 := (Below.refl w.heap.size w).trans (hb1.mono (Below.refl w.heap.size w).size)
  have s1 : w.heap.size ≤ w1.heap.size := hb1.size
  by_cases hneg1 : r1 < 0
  · go_wp2
    go_ret
    exact ⟨rfl, b1⟩
  have hn1 := hn1 (by omega)
  go_wp2_with fail
  refine (toPromiseS_any L0 V0 w1 (Sl.below Hv0.out b1) (by omega)).mono ?_
  rintro e w2 ⟨y2, rfl, ho2, hb2⟩
  have b2 := b1.trans (hb2.mono b1.size)
  have s2 : w1.heap.size ≤ w2.heap.size := hb2.size
  have O_y2 := Lib.hid ho2
  clear ho2
  have T_y2 := Lib.hid (World.ownsRow.lt O_y2.out)
  go_wp2_with fail
  refine (specWorkPlan_any w2 L0 y2 (Sl.of_own O_y2.out) Hf0.out (by omega)).mono ?_
  rintro e w3 ⟨y3, z3, rfl, ho3, hp3, ne3, hb3⟩
  have b3 := b2.trans (hb3.mono b2.size)
  have s3 : w2.heap.size ≤ w3.heap.size := hb3.size
  have NE3 := Lib.hid ne3
  clear ne3
  have O_y3 := Lib.hid ho3
  clear ho3
  have T_y3 := Lib.hid (World.ownsRow.lt O_y3.out)
  have O_z3 := Lib.hid hp3
  clear hp3
  have T_z3 := Lib.hid (World.ownsRow.lt O_z3.out)
  go_wp2_with fail
  refine (toPromiseS_any L0 V0 w3 (Sl.below Hv0.out b3) (by omega)).mono ?_
  rintro e w4 ⟨y4, rfl, ho4, hb4⟩
  have b4 := b3.trans (hb4.mono b3.size)
  have s4 : w3.heap.size ≤ w4.heap.size := hb4.size
  have O_y4 := Lib.hid ho4
  clear ho4
  have T_y4 := Lib.hid (World.ownsRow.lt O_y4.out)
  go_wp2_with fail
  refine (implWorkPlan_any w4 L0 y4 (Sl.of_own O_y4.out) Hf0.out (by omega)).mono ?_
  rintro e w5 ⟨y5, z5, rfl, ho5, hp5, ne5, hb5⟩
  have b5 := b4.trans (hb5.mono b4.size)
  have s5 : w4.heap.size ≤ w5.heap.size := hb5.size
  have NE5 := Lib.hid ne5
  clear ne5
  have O_y5 := Lib.hid ho5
  clear ho5
  have T_y5 := Lib.hid (World.ownsRow.lt O_y5.out)
  have O_z5 := Lib.hid hp5
  clear hp5
  have T_z5 := Lib.hid (World.ownsRow.lt O_z5.out)
  go_wp2_with fail
  refine (eqStrs_same (workPlan L0).1 y5 y3 w5 (Sl.of_own O_y5.out) (Sl.of_own (own_below (own_below O_y3.out hb4) hb5)) (by have := HR.out.1; omega)).mono ?_
  rintro e w6 ⟨rfl, hb6⟩
  have b6 := b5.trans (hb6.mono b5.size)
  have s6 : w5.heap.size ≤ w6.heap.size := hb6.size
  go_wp2_with fail
  refine (eqInts_same (workPlan L0).2.1 z5 z3 w6 (Sl.of_own (own_below O_z5.out hb6)) (Sl.of_own (own_below (own_below (own_below O_z3.out hb4) hb5) hb6)) (by have := HR.out.2; omega)).mono ?_
  rintro e w7 ⟨rfl, hb7⟩
  have b7 := b6.trans (hb7.mono b6.size)
  have s7 : w6.heap.size ≤ w7.heap.size := hb7.size
  go_wp2_with fail
  refine (toPromiseS_any L0 V0 w7 (Sl.below Hv0.out b7) (by omega)).mono ?_
  rintro e w8 ⟨y8, rfl, ho8, hb8⟩
  have b8 := b7.trans (hb8.mono b7.size)
  have s8 : w7.heap.size ≤ w8.heap.size := hb8.size
  have O_y8 := Lib.hid ho8
  clear ho8
  have T_y8 := Lib.hid (World.ownsRow.lt O_y8.out)
  go_wp2_with fail
  refine (eqPromiseS_same L0 y4 y8 w8 (Sl.of_own (own_below (own_below (own_below (own_below O_y4.out hb5) hb6) hb7) hb8)) (Sl.of_own O_y8.out) (by omega)).mono ?_
  rintro e w9 ⟨rfl, hb9⟩
  have b9 := b8.trans (hb9.mono b8.size)
  have s9 : w8.heap.size ≤ w9.heap.size := hb9.size
  go_wp2_with fail
  refine (markPromiseS_any _ L0.length 1 y4 _ w9 (own_below (own_below (own_below (own_below (own_below O_y4.out hb5) hb6) hb7) hb8) hb9) (by omega) (by omega) (by omega)).mono ?_
  rintro e w10 ⟨r10, rfl, er10, ho10, hg10⟩
  have E10 := Lib.hid er10
  clear er10
  have b10 := b9.grown hg10 b9.size (fun k hk => by have := (T_y4.out k hk).1; omega)
  have s10 := hg10.size
  have P10 := Lib.hid ho10
  clear ho10
  go_wp2_with fail
  refine (eqStrs_same (workPlan L0).1 y5 y3 w10 (Sl.of_own (World.ownsRow.kept (own_below (own_below (own_below (own_below O_y5.out hb6) hb7) hb8) hb9) hg10 (ne_of_gt T_y5.out T_y4.out (by omega)))) (Sl.of_own (World.ownsRow.kept (own_below (own_below (own_below (own_below (own_below (own_below O_y3.out hb4) hb5) hb6) hb7) hb8) hb9) hg10 (ne_of_lt T_y3.out T_y4.out (by omega)))) (by have := HR.out.1; omega)).mono ?_
  rintro e w11 ⟨rfl, hb11⟩
  have b11 := b10.trans (hb11.mono b10.size)
  have s11 : w10.heap.size ≤ w11.heap.size := hb11.size
  go_wp2_with fail
  refine (eqInts_same (workPlan L0).2.1 z5 z3 w11 (Sl.of_own (own_below (World.ownsRow.kept (own_below (own_below (own_below (own_below O_z5.out hb6) hb7) hb8) hb9) hg10 (ne_of_gt T_z5.out T_y4.out (by omega))) hb11)) (Sl.of_own (own_below (World.ownsRow.kept (own_below (own_below (own_below (own_below (own_below (own_below O_z3.out hb4) hb5) hb6) hb7) hb8) hb9) hg10 (ne_of_lt T_z3.out T_y4.out (by omega))) hb11)) (by have := HR.out.2; omega)).mono ?_
  rintro e w12 ⟨rfl, hb12⟩
  have b12 := b11.trans (hb12.mono b11.size)
  have s12 : w11.heap.size ≤ w12.heap.size := hb12.size
  go_wp2_with fail
  refine (markStrs_any _ (workPlan L0).1.length 1 y5 _ w12 (own_below (own_below (World.ownsRow.kept (own_below (own_below (own_below (own_below O_y5.out hb6) hb7) hb8) hb9) hg10 (ne_of_gt T_y5.out T_y4.out (by omega))) hb11) hb12) (by omega) (by omega) (by have := HR.out.1; omega)).mono ?_
  rintro e w13 ⟨r13, rfl, er13, ho13, hg13⟩
  have E13 := Lib.hid er13
  clear er13
  have b13 := b12.grown hg13 b12.size (fun k hk => by have := (T_y5.out k hk).1; omega)
  have s13 := hg13.size
  have P13 := Lib.hid ho13
  clear ho13
  go_wp2_with fail
  refine (markInts_any _ (workPlan L0).2.1.length r13 z5 _ w13 (World.ownsRow.kept (own_below (own_below (World.ownsRow.kept (own_below (own_below (own_below (own_below O_z5.out hb6) hb7) hb8) hb9) hg10 (ne_of_gt T_z5.out T_y4.out (by omega))) hb11) hb12) hg13 (ne_symm NE5.out)) (by have := HR.out; have := E13.out; omega) (by have := HR.out; have := E13.out; omega) (by have := HR.out.2; omega)).mono ?_
  rintro e w14 ⟨r14, rfl, er14, ho14, hg14⟩
  have E14 := Lib.hid er14
  clear er14
  have b14 := b13.grown hg14 b13.size (fun k hk => by have := (T_z5.out k hk).1; omega)
  have s14 := hg14.size
  have P14 := Lib.hid ho14
  clear ho14
  go_wp2_with fail
  refine (heldStrs_any (workPlan L0).1.length 1 y5 w14 (Sl.of_own (World.ownsRow.kept P13.out hg14 NE5.out)) (by omega) (by omega) (by have := HR.out.1; omega)).mono ?_
  rintro e w15 ⟨r15, rfl, er15, hb15⟩
  have b15 := b14.trans (hb15.mono b14.size)
  have s15 : w14.heap.size ≤ w15.heap.size := hb15.size
  have em15 : r13 = r15 := by have := E13.out; omega
  clear er15
  subst em15
  go_wp2_with fail
  refine (heldInts_any (workPlan L0).2.1.length r13 z5 w15 (Sl.of_own (own_below P14.out hb15)) (by have := HR.out; have := E13.out; omega) (by have := HR.out; have := E13.out; omega) (by have := HR.out.2; omega)).mono ?_
  rintro e w16 ⟨r16, rfl, er16, hb16⟩
  have b16 := b15.trans (hb16.mono b15.size)
  have s16 : w15.heap.size ≤ w16.heap.size := hb16.size
  have em16 : r14 = r16 := by have := E14.out; omega
  clear er16
  subst em16
  go_wp2_with fail
  refine (toPromiseS_any L0 V0 w16 (Sl.below Hv0.out b16) (by omega)).mono ?_
  rintro e w17 ⟨y17, rfl, ho17, hb17⟩
  have b17 := b16.trans (hb17.mono b16.size)
  have s17 : w16.heap.size ≤ w17.heap.size := hb17.size
  have O_y17 := Lib.hid ho17
  clear ho17
  have T_y17 := Lib.hid (World.ownsRow.lt O_y17.out)
  go_wp2_with fail
  refine (implWorkPlan_any w17 L0 y17 (Sl.of_own O_y17.out) Hf0.out (by omega)).mono ?_
  rintro e w18 ⟨y18, z18, rfl, ho18, hp18, ne18, hb18⟩
  have b18 := b17.trans (hb18.mono b17.size)
  have s18 : w17.heap.size ≤ w18.heap.size := hb18.size
  have NE18 := Lib.hid ne18
  clear ne18
  have O_y18 := Lib.hid ho18
  clear ho18
  have T_y18 := Lib.hid (World.ownsRow.lt O_y18.out)
  have O_z18 := Lib.hid hp18
  clear hp18
  have T_z18 := Lib.hid (World.ownsRow.lt O_z18.out)
  go_wp2_with fail
  refine (eqStrs_same (workPlan L0).1 y18 y3 w18 (Sl.of_own O_y18.out) (Sl.of_own (own_below (own_below (own_below (own_below (World.ownsRow.kept (World.ownsRow.kept (own_below (own_below (World.ownsRow.kept (own_below (own_below (own_below (own_below (own_below (own_below O_y3.out hb4) hb5) hb6) hb7) hb8) hb9) hg10 (ne_of_lt T_y3.out T_y4.out (by omega))) hb11) hb12) hg13 (ne_of_lt T_y3.out T_y5.out (by omega))) hg14 (ne_of_lt T_y3.out T_z5.out (by omega))) hb15) hb16) hb17) hb18)) (by have := HR.out.1; omega)).mono ?_
  rintro e w19 ⟨rfl, hb19⟩
  have b19 := b18.trans (hb19.mono b18.size)
  have s19 : w18.heap.size ≤ w19.heap.size := hb19.size
  go_wp2_with fail
  refine (eqInts_same (workPlan L0).2.1 z18 z3 w19 (Sl.of_own (own_below O_z18.out hb19)) (Sl.of_own (own_below (own_below (own_below (own_below (own_below (World.ownsRow.kept (World.ownsRow.kept (own_below (own_below (World.ownsRow.kept (own_below (own_below (own_below (own_below (own_below (own_below O_z3.out hb4) hb5) hb6) hb7) hb8) hb9) hg10 (ne_of_lt T_z3.out T_y4.out (by omega))) hb11) hb12) hg13 (ne_of_lt T_z3.out T_y5.out (by omega))) hg14 (ne_of_lt T_z3.out T_z5.out (by omega))) hb15) hb16) hb17) hb18) hb19)) (by have := HR.out.2; omega)).mono ?_
  rintro e w20 ⟨rfl, hb20⟩
  have b20 := b19.trans (hb20.mono b19.size)
  have s20 : w19.heap.size ≤ w20.heap.size := hb20.size
  go_wp2_with fail
  refine (heldStrs_any (workPlan L0).1.length 1 y5 w20 (Sl.of_own (own_below (own_below (own_below (own_below (own_below (own_below (World.ownsRow.kept P13.out hg14 NE5.out) hb15) hb16) hb17) hb18) hb19) hb20)) (by omega) (by omega) (by have := HR.out.1; omega)).mono ?_
  rintro e w21 ⟨r21, rfl, er21, hb21⟩
  have b21 := b20.trans (hb21.mono b20.size)
  have s21 : w20.heap.size ≤ w21.heap.size := hb21.size
  have em21 : r13 = r21 := by have := E13.out; omega
  clear er21
  subst em21
  go_wp2_with fail
  refine (heldInts_any (workPlan L0).2.1.length r13 z5 w21 (Sl.of_own (own_below (own_below (own_below (own_below (own_below (own_below (own_below P14.out hb15) hb16) hb17) hb18) hb19) hb20) hb21)) (by have := HR.out; have := E13.out; omega) (by have := HR.out; have := E13.out; omega) (by have := HR.out.2; omega)).mono ?_
  rintro e w22 ⟨r22, rfl, er22, hb22⟩
  have b22 := b21.trans (hb22.mono b21.size)
  have s22 : w21.heap.size ≤ w22.heap.size := hb22.size
  have em22 : r14 = r22 := by have := E14.out; omega
  clear er22
  subst em22
  go_wp2
  go_ret
  exact ⟨rfl, b22⟩

namespace ExactWorkPlan
set_option maxRecDepth 100000 in
theorem lifted (os : Os) (started : os.Started) (H : Type) (enc : TypeId × Value → H) :
    ReturnsInHanded {} Try.checked os 14 .any (Rows.fnExactWorkPlanSpec.pre6 enc Try.prog Try.f14 Rows.fnExactWorkPlanRow.domain false) (Rows.fnExactWorkPlanSpec.post enc Try.prog Try.f14 false true false false) := by
  refine returnsInHanded_of_change (C := Try.checked) Try.own started (by kernel_rfl) Try.func14
    (ChangeSpec.witness6 (enc := enc) (C := Try.checked) false ⟨#[], #[.slice none 0 0], []⟩ 8 (by kernel_rfl) (by kernel_rfl) (by kernel_rfl) (by kernel_rfl)) ?_
  intro W base args ds gs before hval0 hW hcnd _
  have hval : ∀ (j : Nat) t v, Try.f14.params[j]? = some t → args[j]? = some v → Value.okWide Try.prog W .any base t v := hval0
  have hW' := hW
  obtain ⟨p, q, hA0, hV, rfl, hfz, hnd⟩ := hW
  have hA : DataW.TrodAll enc Try.prog W 0 (fun _ => true) true Try.f14.params.toList args.toList ds p := hA0
  rw [Try.params14] at hA hval
  obtain ⟨v0, vs0, d0, ds0, p0, q0, hargs, rfl, rfl, h0, r0⟩ := trodAll_cons hA
  obtain ⟨rfl, rfl, rfl⟩ := trodAll_nil r0
  obtain rfl : args = #[v0] := by cases args; simp_all
  obtain ⟨rfl, rfl⟩ := trodVars_none hV
  have lt0 : ∀ x ∈ p0, x.block < W.heap.size := by obtain ⟨m, hm⟩ := h0; exact DataW.trod_lt m _ _ _ hm
  obtain ⟨L0, hv0, hf0⟩ := open_promises (hval 0 _ v0 rfl rfl) h0
  clear hA0 hval0
  refine (lawWorkPlan_walk W L0 v0 hv0 hf0).mono fun e W' ⟨he, bel⟩ => ?_
  subst he
  exact ⟨_, rfl, _, _, _, [], _, [], hW', trodAll_mk1 (shut_bool Try.underlying4 _), (trodAll_cons_mk (Below.trod Try.laidOut (by kernel_rfl) (of_decide_eq_true (by kernel_rfl)) h0 bel lt0) trodAll_mk0), rfl, bel.frame _, fun h => by cases h⟩

theorem proved : Rows.FnExactWorkPlanSaid :=
  OpenClaim.holds_of_wide 14 Try.f14 rfl rfl rfl rfl rfl rfl rfl ⟨rfl, rfl, rfl, rfl, rfl⟩ rfl rfl rfl rfl rfl (by kernel_rfl) Try.func14 (by kernel_rfl)
    (of_decide_eq_true (by kernel_rfl)) (by unfold Func.isWrapper; first | (rw [if_pos (by decide +kernel)]; kernel_rfl) | (rw [if_neg (by decide +kernel)]; exact ⟨rfl, rfl⟩))
    (fun os started H enc _ => lifted os started H enc)
#print axioms proved
end ExactWorkPlan

end Go.Proofs.Ytgafjchbfbpmmaa
