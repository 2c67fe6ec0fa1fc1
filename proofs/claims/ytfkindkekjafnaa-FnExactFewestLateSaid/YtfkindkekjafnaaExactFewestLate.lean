/- FnExactFewestLate, for every input: the program's FewestLate returns what the reference's returns. Its conditions: none. -/
import Derived.Test.YtfkindkekjafnaaFewP
import Derived.Test.YtfkindkekjafnaaFewS
namespace Go.Proofs.Ytfkindkekjafnaa
open Go.ChangeShapes Go.WideShapes Go.ChangeAt Go.RowKit Go.Deep
open Go.ChangeMaps (open_string)

set_option maxHeartbeats 4000000 in
theorem lawFewestLate_walk (w : World) (L0 : List Job) (V0 : Value) (hv0 : Sl w 3 V0 L0.length (jobRow L0)) (hf0 : jobFit L0) :
    Calls Try.prog 10 #[V0] w fun e w' => e = .returned (.bool true) ∧ Below w.heap.size w w' := by
  have Hv0 := Lib.hid hv0
  clear hv0
  have Hf0 := Lib.hid hf0
  clear hf0
  go_enter Try.func10, Try.ntmps10
  go_wp2_with fail
  refine (szJobS_any L0 V0 1048576 w (Sl.below Hv0.out (Below.refl w.heap.size w)) Hf0.out (by omega) (by omega)).mono ?_
  rintro e w1 ⟨r1, rfl, hr1, hn1, hb1⟩
  have b1 := (Below.refl w.heap.size w).trans (hb1.mono (Below.refl w.heap.size w).size)
  have s1 : w.heap.size ≤ w1.heap.size := hb1.size
  by_cases hneg1 : r1 < 0
  · go_wp2
    go_ret
    exact ⟨rfl, b1⟩
  have hn1 := hn1 (by omega)
  go_wp2_with fail
  refine (toJobS_any L0 V0 w1 (Sl.below Hv0.out b1) (by omega)).mono ?_
  rintro e w2 ⟨y2, rfl, ho2, hb2⟩
  have b2 := b1.trans (hb2.mono b1.size)
  have s2 : w1.heap.size ≤ w2.heap.size := hb2.size
  have O_y2 := Lib.hid ho2
  clear ho2
  have T_y2 := Lib.hid (World.ownsRow.lt O_y2.out)
  go_wp2_with fail
  refine (specFewestLate_any w2 L0 y2 (Sl.of_own O_y2.out) Hf0.out (by omega)).mono ?_
  rintro e w3 ⟨rfl, hb3⟩
  have b3 := b2.trans (hb3.mono b2.size)
  have s3 : w2.heap.size ≤ w3.heap.size := hb3.size
  go_wp2_with fail
  refine (toJobS_any L0 V0 w3 (Sl.below Hv0.out b3) (by omega)).mono ?_
  rintro e w4 ⟨y4, rfl, ho4, hb4⟩
  have b4 := b3.trans (hb4.mono b3.size)
  have s4 : w3.heap.size ≤ w4.heap.size := hb4.size
  have O_y4 := Lib.hid ho4
  clear ho4
  have T_y4 := Lib.hid (World.ownsRow.lt O_y4.out)
  go_wp2_with fail
  refine (implFewestLate_any w4 L0 y4 (Sl.of_own O_y4.out) Hf0.out (by omega)).mono ?_
  rintro e w5 ⟨rfl, hb5⟩
  have b5 := b4.trans (hb5.mono b4.size)
  have s5 : w4.heap.size ≤ w5.heap.size := hb5.size
  go_wp2_with fail
  refine (toJobS_any L0 V0 w5 (Sl.below Hv0.out b5) (by omega)).mono ?_
  rintro e w6 ⟨y6, rfl, ho6, hb6⟩
  have b6 := b5.trans (hb6.mono b5.size)
  have s6 : w5.heap.size ≤ w6.heap.size := hb6.size
  have O_y6 := Lib.hid ho6
  clear ho6
  have T_y6 := Lib.hid (World.ownsRow.lt O_y6.out)
  go_wp2_with fail
  refine (eqJobS_same L0 y4 y6 w6 (Sl.of_own (own_below (own_below O_y4.out hb5) hb6)) (Sl.of_own O_y6.out) (by omega)).mono ?_
  rintro e w7 ⟨rfl, hb7⟩
  have b7 := b6.trans (hb7.mono b6.size)
  have s7 : w6.heap.size ≤ w7.heap.size := hb7.size
  go_wp2
  go_ret
  exact ⟨rfl, b7⟩

namespace ExactFewestLate
set_option maxRecDepth 100000 in
theorem lifted (os : Os) (started : os.Started) (H : Type) (enc : TypeId × Value → H) :
    ReturnsInHanded {} Try.checked os 10 .any (Rows.fnExactFewestLateSpec.pre6 enc Try.prog Try.f10 Rows.fnExactFewestLateRow.domain false) (Rows.fnExactFewestLateSpec.post enc Try.prog Try.f10 false true false false) := by
  refine returnsInHanded_of_change (C := Try.checked) Try.own started (by kernel_rfl) Try.func10
    (ChangeSpec.witness6 (enc := enc) (C := Try.checked) false ⟨#[], #[.slice none 0 0], []⟩ 8 (by kernel_rfl) (by kernel_rfl) (by kernel_rfl) (by kernel_rfl)) ?_
  intro W base args ds gs before hval0 hW hcnd _
  have hval : ∀ (j : Nat) t v, Try.f10.params[j]? = some t → args[j]? = some v → Value.okWide Try.prog W .any base t v := hval0
  have hW' := hW
  obtain ⟨p, q, hA0, hV, rfl, hfz, hnd⟩ := hW
  have hA : DataW.TrodAll enc Try.prog W 0 (fun _ => true) true Try.f10.params.toList args.toList ds p := hA0
  rw [Try.params10] at hA hval
  obtain ⟨v0, vs0, d0, ds0, p0, q0, hargs, rfl, rfl, h0, r0⟩ := trodAll_cons hA
  obtain ⟨rfl, rfl, rfl⟩ := trodAll_nil r0
  obtain rfl : args = #[v0] := by cases args; simp_all
  obtain ⟨rfl, rfl⟩ := trodVars_none hV
  have lt0 : ∀ x ∈ p0, x.block < W.heap.size := by obtain ⟨m, hm⟩ := h0; exact DataW.trod_lt m _ _ _ hm
  obtain ⟨L0, hv0, hf0⟩ := open_jobs (hval 0 _ v0 rfl rfl) h0
  clear hA0 hval0
  refine (lawFewestLate_walk W L0 v0 hv0 hf0).mono fun e W' ⟨he, bel⟩ => ?_
  subst he
  exact ⟨_, rfl, _, _, _, [], _, [], hW', trodAll_mk1 (shut_bool Try.underlying4 _), (trodAll_cons_mk (Below.trod Try.laidOut (by kernel_rfl) (of_decide_eq_true (by kernel_rfl)) h0 bel lt0) trodAll_mk0), rfl, bel.frame _, fun h => by cases h⟩

theorem proved : Rows.FnExactFewestLateSaid :=
  OpenClaim.holds_of_wide 10 Try.f10 rfl rfl rfl rfl rfl rfl rfl ⟨rfl, rfl, rfl, rfl, rfl⟩ rfl rfl rfl rfl rfl (by kernel_rfl) Try.func10 (by kernel_rfl)
    (of_decide_eq_true (by kernel_rfl)) (by unfold Func.isWrapper; first | (rw [if_pos (by decide +kernel)]; kernel_rfl) | (rw [if_neg (by decide +kernel)]; exact ⟨rfl, rfl⟩))
    (fun os started H enc _ => lifted os started H enc)
#print axioms proved
end ExactFewestLate

end Go.Proofs.Ytfkindkekjafnaa
