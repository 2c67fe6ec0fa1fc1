/- FnExactCalmOrder, for every input: the program's CalmOrder returns what the reference's returns. Its conditions: none. -/
import Derived.Test.YtecfkomijaakhaaClS
import Derived.Test.YtecfkomijaakhaaClP
namespace Go.Proofs.Ytecfkomijaakhaa
open Go.ChangeShapes Go.WideShapes Go.ChangeAt Go.RowKit Go.Deep
open Go.ChangeMaps (open_string)

set_option maxHeartbeats 4000000 in
theorem lawCalmOrder_walk (w : World) (L0 : List Step) (V0 : Value) (hv0 : Steps w V0 L0) :
    Calls Try.prog 12 #[V0] w fun e w' => e = .returned (.bool true) ∧ Below w.heap.size w w' := by
  have Hv0 := Lib.hid hv0
  clear hv0
  go_enter Try.func12, Try.ntmps12
  have HR := Lib.hid (calmF_len L0)
  go_wp2_with fail
  refine (szStepS_any L0 V0 1048576 w (Steps.below Hv0.out (Below.refl w.heap.size w)) (by omega) (by omega)).mono ?_
  rintro e w1 ⟨r1, rfl, hr1, hn1, hb1⟩
  have b1 := (Below.refl w.heap.size w).trans (hb1.mono (Below.refl w.heap.size w).size)
  have s1 : w.heap.size ≤ w1.heap.size := hb1.size
  by_cases hneg1 : r1 < 0
  · go_wp2
    go_ret
    exact ⟨rfl, b1⟩
  have hn1 := hn1 (by omega)
  go_wp2_with fail
  refine (toStepS_any L0 V0 w1 (Steps.below Hv0.out b1) (by omega)).mono ?_
  rintro e w2 ⟨y2, rfl, ho2, hb2⟩
  have b2 := b1.trans (hb2.mono b1.size)
  have s2 : w1.heap.size ≤ w2.heap.size := hb2.size
  have O_y2 := Lib.hid ho2
  clear ho2
  go_wp2_with fail
  refine (specCalmOrder_any w2 L0 y2 (OSteps.steps O_y2.out) (by omega)).mono ?_
  rintro e w3 ⟨y3, rfl, ho3, hb3⟩
  have b3 := b2.trans (hb3.mono b2.size)
  have s3 : w2.heap.size ≤ w3.heap.size := hb3.size
  have O_y3 := Lib.hid ho3
  clear ho3
  have T_y3 := Lib.hid (World.ownsRow.lt O_y3.out)
  go_wp2_with fail
  refine (toStepS_any L0 V0 w3 (Steps.below Hv0.out b3) (by omega)).mono ?_
  rintro e w4 ⟨y4, rfl, ho4, hb4⟩
  have b4 := b3.trans (hb4.mono b3.size)
  have s4 : w3.heap.size ≤ w4.heap.size := hb4.size
  have O_y4 := Lib.hid ho4
  clear ho4
  go_wp2_with fail
  refine (implCalmOrder_any w4 L0 y4 (OSteps.steps O_y4.out) (by omega)).mono ?_
  rintro e w5 ⟨y5, rfl, ho5, hb5⟩
  have b5 := b4.trans (hb5.mono b4.size)
  have s5 : w4.heap.size ≤ w5.heap.size := hb5.size
  have O_y5 := Lib.hid ho5
  clear ho5
  have T_y5 := Lib.hid (World.ownsRow.lt O_y5.out)
  go_wp2_with fail
  refine (eqInts_same (calmF L0).1 y5 y3 w5 (Sl.of_own O_y5.out) (Sl.of_own (own_below (own_below O_y3.out hb4) hb5)) (by have := HR.out; omega)).mono ?_
  rintro e w6 ⟨rfl, hb6⟩
  have b6 := b5.trans (hb6.mono b5.size)
  have s6 : w5.heap.size ≤ w6.heap.size := hb6.size
  go_wp2_with fail
  refine (toStepS_any L0 V0 w6 (Steps.below Hv0.out b6) (by omega)).mono ?_
  rintro e w7 ⟨y7, rfl, ho7, hb7⟩
  have b7 := b6.trans (hb7.mono b6.size)
  have s7 : w6.heap.size ≤ w7.heap.size := hb7.size
  have O_y7 := Lib.hid ho7
  clear ho7
  go_wp2_with fail
  refine (eqStepS_same L0 y4 y7 w7 (OSteps.steps (OSteps.below (OSteps.below (OSteps.below O_y4.out hb5) hb6) hb7)) (OSteps.steps O_y7.out) (by omega)).mono ?_
  rintro e w8 ⟨rfl, hb8⟩
  have b8 := b7.trans (hb8.mono b7.size)
  have s8 : w7.heap.size ≤ w8.heap.size := hb8.size
  go_wp2_with fail
  refine (markStepS_any L0 _ _ y4 w8 (OSteps.below (OSteps.below (OSteps.below (OSteps.below O_y4.out hb5) hb6) hb7) hb8) (by omega)).mono ?_
  rintro e w9 ⟨r9, rfl, hO9⟩
  have b9 := b8.trans (Only.below hO9 (by omega) (by omega))
  have s9 := hO9.size
  go_wp2_with fail
  refine (eqInts_same (calmF L0).1 y5 y3 w9 (Sl.of_own (own_only (own_below (own_below (own_below O_y5.out hb6) hb7) hb8) hO9 (fun g hg => by have := T_y5.out g hg; omega))) (Sl.of_own (own_only (own_below (own_below (own_below (own_below (own_below O_y3.out hb4) hb5) hb6) hb7) hb8) hO9 (fun g hg => by have := T_y3.out g hg; omega))) (by have := HR.out; omega)).mono ?_
  rintro e w10 ⟨rfl, hb10⟩
  have b10 := b9.trans (hb10.mono b9.size)
  have s10 : w9.heap.size ≤ w10.heap.size := hb10.size
  go_wp2_with fail
  refine (markInts_any _ (calmF L0).1.length 1 y5 _ w10 (own_below (own_only (own_below (own_below (own_below O_y5.out hb6) hb7) hb8) hO9 (fun g hg => by have := T_y5.out g hg; omega)) hb10) (by omega) (by omega) (by have := HR.out; omega)).mono ?_
  rintro e w11 ⟨r11, rfl, er11, ho11, hg11⟩
  have E11 := Lib.hid er11
  clear er11
  have b11 := b10.grown hg11 b10.size (fun k hk => by have := (T_y5.out k hk).1; omega)
  have s11 := hg11.size
  have P11 := Lib.hid ho11
  clear ho11
  go_wp2_with fail
  refine (heldInts_any (calmF L0).1.length 1 y5 w11 (Sl.of_own P11.out) (by omega) (by omega) (by have := HR.out; omega)).mono ?_
  rintro e w12 ⟨r12, rfl, er12, hb12⟩
  have b12 := b11.trans (hb12.mono b11.size)
  have s12 : w11.heap.size ≤ w12.heap.size := hb12.size
  have em12 : r11 = r12 := by have := E11.out; omega
  clear er12
  subst em12
  go_wp2_with fail
  refine (toStepS_any L0 V0 w12 (Steps.below Hv0.out b12) (by omega)).mono ?_
  rintro e w13 ⟨y13, rfl, ho13, hb13⟩
  have b13 := b12.trans (hb13.mono b12.size)
  have s13 : w12.heap.size ≤ w13.heap.size := hb13.size
  have O_y13 := Lib.hid ho13
  clear ho13
  go_wp2_with fail
  refine (implCalmOrder_any w13 L0 y13 (OSteps.steps O_y13.out) (by omega)).mono ?_
  rintro e w14 ⟨y14, rfl, ho14, hb14⟩
  have b14 := b13.trans (hb14.mono b13.size)
  have s14 : w13.heap.size ≤ w14.heap.size := hb14.size
  have O_y14 := Lib.hid ho14
  clear ho14
  have T_y14 := Lib.hid (World.ownsRow.lt O_y14.out)
  go_wp2_with fail
  refine (eqInts_same (calmF L0).1 y14 y3 w14 (Sl.of_own O_y14.out) (Sl.of_own (own_below (own_below (own_below (World.ownsRow.kept (own_below (own_only (own_below (own_below (own_below (own_below (own_below O_y3.out hb4) hb5) hb6) hb7) hb8) hO9 (fun g hg => by have := T_y3.out g hg; omega)) hb10) hg11 (ne_of_lt T_y3.out T_y5.out (by omega))) hb12) hb13) hb14)) (by have := HR.out; omega)).mono ?_
  rintro e w15 ⟨rfl, hb15⟩
  have b15 := b14.trans (hb15.mono b14.size)
  have s15 : w14.heap.size ≤ w15.heap.size := hb15.size
  go_wp2_with fail
  refine (heldInts_any (calmF L0).1.length 1 y5 w15 (Sl.of_own (own_below (own_below (own_below (own_below P11.out hb12) hb13) hb14) hb15)) (by omega) (by omega) (by have := HR.out; omega)).mono ?_
  rintro e w16 ⟨r16, rfl, er16, hb16⟩
  have b16 := b15.trans (hb16.mono b15.size)
  have s16 : w15.heap.size ≤ w16.heap.size := hb16.size
  have em16 : r11 = r16 := by have := E11.out; omega
  clear er16
  subst em16
  go_wp2
  go_ret
  exact ⟨rfl, b16⟩

namespace ExactCalmOrder
set_option maxRecDepth 100000 in
theorem lifted (os : Os) (started : os.Started) (H : Type) (enc : TypeId × Value → H) :
    ReturnsInHanded {} Try.checked os 12 .any (Rows.fnExactCalmOrderSpec.pre6 enc Try.prog Try.f12 Rows.fnExactCalmOrderRow.domain false) (Rows.fnExactCalmOrderSpec.post enc Try.prog Try.f12 false true false false) := by
  refine returnsInHanded_of_change (C := Try.checked) Try.own started (by kernel_rfl) Try.func12
    (ChangeSpec.witness6 (enc := enc) (C := Try.checked) false ⟨#[], #[.slice none 0 0], []⟩ 8 (by kernel_rfl) (by kernel_rfl) (by kernel_rfl) (by kernel_rfl)) ?_
  intro W base args ds gs before hval0 hW hcnd _
  have hval : ∀ (j : Nat) t v, Try.f12.params[j]? = some t → args[j]? = some v → Value.okWide Try.prog W .any base t v := hval0
  have hW' := hW
  obtain ⟨p, q, hA0, hV, rfl, hfz, hnd⟩ := hW
  have hA : DataW.TrodAll enc Try.prog W 0 (fun _ => true) true Try.f12.params.toList args.toList ds p := hA0
  rw [Try.params12] at hA hval
  obtain ⟨v0, vs0, d0, ds0, p0, q0, hargs, rfl, rfl, h0, r0⟩ := trodAll_cons hA
  obtain ⟨rfl, rfl, rfl⟩ := trodAll_nil r0
  obtain rfl : args = #[v0] := by cases args; simp_all
  obtain ⟨rfl, rfl⟩ := trodVars_none hV
  have lt0 : ∀ x ∈ p0, x.block < W.heap.size := by obtain ⟨m, hm⟩ := h0; exact DataW.trod_lt m _ _ _ hm
  obtain ⟨L0, hv0⟩ := open_steps (hval 0 _ v0 rfl rfl) h0
  clear hA0 hval0
  refine (lawCalmOrder_walk W L0 v0 hv0).mono fun e W' ⟨he, bel⟩ => ?_
  subst he
  exact ⟨_, rfl, _, _, _, [], _, [], hW', trodAll_mk1 (shut_bool Try.underlying4 _), (trodAll_cons_mk (Below.trod Try.laidOut (by kernel_rfl) (of_decide_eq_true (by kernel_rfl)) h0 bel lt0) trodAll_mk0), rfl, bel.frame _, fun h => by cases h⟩

theorem proved : Rows.FnExactCalmOrderSaid :=
  OpenClaim.holds_of_wide 12 Try.f12 rfl rfl rfl rfl rfl rfl rfl ⟨rfl, rfl, rfl, rfl, rfl⟩ rfl rfl rfl rfl rfl (by kernel_rfl) Try.func12 (by kernel_rfl)
    (of_decide_eq_true (by kernel_rfl)) (by unfold Func.isWrapper; first | (rw [if_pos (by decide +kernel)]; kernel_rfl) | (rw [if_neg (by decide +kernel)]; exact ⟨rfl, rfl⟩))
    (fun os started H enc _ => lifted os started H enc)
#print axioms proved
end ExactCalmOrder

end Go.Proofs.Ytecfkomijaakhaa
