/- FnExactChangesOf, for every input: the program's ChangesOf returns what the reference's returns. Its conditions: none. -/
import Derived.Test.YtecfkomijaakhaaRecF
namespace Go.Proofs.Ytecfkomijaakhaa
open Go.ChangeShapes Go.WideShapes Go.ChangeAt Go.RowKit Go.Deep
open Go.ChangeMaps (open_string)

set_option maxHeartbeats 4000000 in
theorem lawChangesOf_walk (w : World) (L0 : List Step) (V0 : Value) (L1 : List Int) (V1 : Value) (hv0 : Steps w V0 L0) (hv1 : Sl w 1 V1 L1.length (intsRow L1)) :
    Calls Try.prog 8 #[V0, V1] w fun e w' => e = .returned (.bool true) ∧ Below w.heap.size w w' := by
  have Hv0 := Lib.hid hv0
  clear hv0
  have Hv1 := Lib.hid hv1
  clear hv1
  by_cases hz1 : 1048576 < L1.length
  · obtain ⟨A, c, rfl, h1, h2, _⟩ := Hv1.out
    unfold maxLen at h2
    go_enter Try.func8, Try.ntmps8
    go_wp2
    go_ret
    exact ⟨rfl, Below.refl _ _⟩
  obtain ⟨A1, c1, hV1, h11, h21, hR1⟩ := Hv1.out
  subst hV1
  clear h11 h21 hR1
  go_enter Try.func8, Try.ntmps8
  go_wp2_with fail
  refine (szStepS_any L0 V0 1048576 w (Steps.below Hv0.out (Below.refl w.heap.size w)) (by omega) (by omega)).mono ?_
  rintro e w1 ⟨r1, rfl, hr1, hn1, hb1⟩
  have b1 := (Below.refl w.heap.size w).trans (hb1.mono (Below.refl w.heap.size w).size)
  have s1 : w.heap.size ≤ w1.heap.size := hb1.size
  by_cases hneg1 : r1 < 0
  · go_wp2
    go_ret
    exact ⟨rfl, b1⟩
  have hn1 := hn1 (by omega)
  go_wp2_with fail
  refine (toStepS_any L0 V0 w1 (Steps.below Hv0.out b1) (by omega)).mono ?_
  rintro e w2 ⟨y2, rfl, ho2, hb2⟩
  have b2 := b1.trans (hb2.mono b1.size)
  have s2 : w1.heap.size ≤ w2.heap.size := hb2.size
  have O_y2 := Lib.hid ho2
  clear ho2
  go_wp2_with fail
  refine (toInts_any L1 (.slice A1 L1.length c1) w2 (Sl.below Hv1.out b2) (by omega)).mono ?_
  rintro e w3 ⟨y3, rfl, ho3, hb3⟩
  have b3 := b2.trans (hb3.mono b2.size)
  have s3 : w2.heap.size ≤ w3.heap.size := hb3.size
  have O_y3 := Lib.hid ho3
  clear ho3
  have T_y3 := Lib.hid (World.ownsRow.lt O_y3.out)
  go_wp2_with fail
  refine (specChangesOf_any w3 L0 y2 L1 y3 (OSteps.steps (OSteps.below O_y2.out hb3)) (by omega) (Sl.of_own O_y3.out) (by omega)).mono ?_
  rintro e w4 ⟨rfl, hb4⟩
  have b4 := b3.trans (hb4.mono b3.size)
  have s4 : w3.heap.size ≤ w4.heap.size := hb4.size
  go_wp2_with fail
  refine (toStepS_any L0 V0 w4 (Steps.below Hv0.out b4) (by omega)).mono ?_
  rintro e w5 ⟨y5, rfl, ho5, hb5⟩
  have b5 := b4.trans (hb5.mono b4.size)
  have s5 : w4.heap.size ≤ w5.heap.size := hb5.size
  have O_y5 := Lib.hid ho5
  clear ho5
  go_wp2_with fail
  refine (toInts_any L1 (.slice A1 L1.length c1) w5 (Sl.below Hv1.out b5) (by omega)).mono ?_
  rintro e w6 ⟨y6, rfl, ho6, hb6⟩
  have b6 := b5.trans (hb6.mono b5.size)
  have s6 : w5.heap.size ≤ w6.heap.size := hb6.size
  have O_y6 := Lib.hid ho6
  clear ho6
  have T_y6 := Lib.hid (World.ownsRow.lt O_y6.out)
  go_wp2_with fail
  refine (implChangesOf_any w6 L0 y5 L1 y6 (OSteps.steps (OSteps.below O_y5.out hb6)) (by omega) (Sl.of_own O_y6.out) (by omega)).mono ?_
  rintro e w7 ⟨rfl, hb7⟩
  have b7 := b6.trans (hb7.mono b6.size)
  have s7 : w6.heap.size ≤ w7.heap.size := hb7.size
  go_wp2_with fail
  refine (toStepS_any L0 V0 w7 (Steps.below Hv0.out b7) (by omega)).mono ?_
  rintro e w8 ⟨y8, rfl, ho8, hb8⟩
  have b8 := b7.trans (hb8.mono b7.size)
  have s8 : w7.heap.size ≤ w8.heap.size := hb8.size
  have O_y8 := Lib.hid ho8
  clear ho8
  go_wp2_with fail
  refine (eqStepS_same L0 y5 y8 w8 (OSteps.steps (OSteps.below (OSteps.below (OSteps.below O_y5.out hb6) hb7) hb8)) (OSteps.steps O_y8.out) (by omega)).mono ?_
  rintro e w9 ⟨rfl, hb9⟩
  have b9 := b8.trans (hb9.mono b8.size)
  have s9 : w8.heap.size ≤ w9.heap.size := hb9.size
  go_wp2_with fail
  refine (toInts_any L1 (.slice A1 L1.length c1) w9 (Sl.below Hv1.out b9) (by omega)).mono ?_
  rintro e w10 ⟨y10, rfl, ho10, hb10⟩
  have b10 := b9.trans (hb10.mono b9.size)
  have s10 : w9.heap.size ≤ w10.heap.size := hb10.size
  have O_y10 := Lib.hid ho10
  clear ho10
  have T_y10 := Lib.hid (World.ownsRow.lt O_y10.out)
  go_wp2_with fail
  refine (eqInts_same L1 y6 y10 w10 (Sl.of_own (own_below (own_below (own_below (own_below O_y6.out hb7) hb8) hb9) hb10)) (Sl.of_own O_y10.out) (by omega)).mono ?_
  rintro e w11 ⟨rfl, hb11⟩
  have b11 := b10.trans (hb11.mono b10.size)
  have s11 : w10.heap.size ≤ w11.heap.size := hb11.size
  go_wp2
  go_ret
  exact ⟨rfl, b11⟩

namespace ExactChangesOf
set_option maxRecDepth 100000 in
theorem lifted (os : Os) (started : os.Started) (H : Type) (enc : TypeId × Value → H) :
    ReturnsInHanded {} Try.checked os 8 .any (Rows.fnExactChangesOfSpec.pre6 enc Try.prog Try.f8 Rows.fnExactChangesOfRow.domain false) (Rows.fnExactChangesOfSpec.post enc Try.prog Try.f8 false true false false) := by
  refine returnsInHanded_of_change (C := Try.checked) Try.own started (by kernel_rfl) Try.func8
    (ChangeSpec.witness6 (enc := enc) (C := Try.checked) false ⟨#[], #[.slice none 0 0, .slice none 0 0], []⟩ 8 (by kernel_rfl) (by kernel_rfl) (by kernel_rfl) (by kernel_rfl)) ?_
  intro W base args ds gs before hval0 hW hcnd _
  have hval : ∀ (j : Nat) t v, Try.f8.params[j]? = some t → args[j]? = some v → Value.okWide Try.prog W .any base t v := hval0
  have hW' := hW
  obtain ⟨p, q, hA0, hV, rfl, hfz, hnd⟩ := hW
  have hA : DataW.TrodAll enc Try.prog W 0 (fun _ => true) true Try.f8.params.toList args.toList ds p := hA0
  rw [Try.params8] at hA hval
  obtain ⟨v0, vs0, d0, ds0, p0, q0, hargs, rfl, rfl, h0, r0⟩ := trodAll_cons hA
  obtain ⟨v1, vs1, d1, ds1, p1, q1, rfl, rfl, rfl, h1, r1⟩ := trodAll_cons r0
  obtain ⟨rfl, rfl, rfl⟩ := trodAll_nil r1
  obtain rfl : args = #[v0, v1] := by cases args; simp_all
  obtain ⟨rfl, rfl⟩ := trodVars_none hV
  have lt0 : ∀ x ∈ p0, x.block < W.heap.size := by obtain ⟨m, hm⟩ := h0; exact DataW.trod_lt m _ _ _ hm
  obtain ⟨L0, hv0⟩ := open_steps (hval 0 _ v0 rfl rfl) h0
  have lt1 : ∀ x ∈ p1, x.block < W.heap.size := by obtain ⟨m, hm⟩ := h1; exact DataW.trod_lt m _ _ _ hm
  obtain ⟨L1, hv1⟩ := open_intl (hval 1 _ v1 rfl rfl) h1
  clear hA0 hval0
  refine (lawChangesOf_walk W L0 v0 L1 v1 hv0 hv1).mono fun e W' ⟨he, bel⟩ => ?_
  subst he
  exact ⟨_, rfl, _, _, _, [], _, [], hW', trodAll_mk1 (shut_bool Try.underlying4 _), (trodAll_cons_mk (Below.trod Try.laidOut (by kernel_rfl) (of_decide_eq_true (by kernel_rfl)) h0 bel lt0) (trodAll_cons_mk (Below.trod Try.laidOut (by kernel_rfl) (of_decide_eq_true (by kernel_rfl)) h1 bel lt1) trodAll_mk0)), rfl, bel.frame _, fun h => by cases h⟩

theorem proved : Rows.FnExactChangesOfSaid :=
  OpenClaim.holds_of_wide 8 Try.f8 rfl rfl rfl rfl rfl rfl rfl ⟨rfl, rfl, rfl, rfl, rfl⟩ rfl rfl rfl rfl rfl (by kernel_rfl) Try.func8 (by kernel_rfl)
    (of_decide_eq_true (by kernel_rfl)) (by unfold Func.isWrapper; first | (rw [if_pos (by decide +kernel)]; kernel_rfl) | (rw [if_neg (by decide +kernel)]; exact ⟨rfl, rfl⟩))
    (fun os started H enc _ => lifted os started H enc)
#print axioms proved
end ExactChangesOf

end Go.Proofs.Ytecfkomijaakhaa
