/- FnExactMergeStocks, for every input: the program's MergeStocks returns what the reference's returns. Its conditions: none. -/
import Derived.Test.YtngphnfbfednnaaMrgP
import Derived.Test.YtngphnfbfednnaaMrgS
namespace Go.Proofs.Ytngphnfbfednnaa
open Go.ChangeShapes Go.WideShapes Go.ChangeAt Go.RowKit Go.Deep
open Go.ChangeMaps (open_string)

set_option maxHeartbeats 4000000 in
theorem lawMergeStocks_walk (w : World) (L0 : List Bin) (V0 : Value) (L1 : List Bin) (V1 : Value) (hv0 : Sl w 5 V0 L0.length (binRow L0)) (hf0 : binFit L0) (hv1 : Sl w 5 V1 L1.length (binRow L1)) (hf1 : binFit L1) :
    Calls Try.prog 5 #[V0, V1] w fun e w' => e = .returned (.bool true) ∧ Below w.heap.size w w' := by
  have Hv0 := Lib.hid hv0
  clear hv0
  have Hf0 := Lib.hid hf0
  clear hf0
  have Hv1 := Lib.hid hv1
  clear hv1
  have Hf1 := Lib.hid hf1
  clear hf1
  go_enter Try.func5, Try.ntmps5
  have HR := Lib.hid (mergeF_len L0 L1)
  go_wp2_with fail
  refine (szBinS_any L0 V0 1048576 w (Sl.below Hv0.out (Below.refl w.heap.size w)) Hf0.out (by omega) (by omega)).mono ?_
  rintro e w1 ⟨r1, rfl, hr1, hn1, hb1⟩
  have b1 := (Below.refl w.heap.size w).trans (hb1.mono (Below.refl w.heap.size w).size)
  have s1 : w.heap.size ≤ w1.heap.size := hb1.size
  by_cases hneg1 : r1 < 0
  · go_wp2
    go_ret
    exact ⟨rfl, b1⟩
  have hn1 := hn1 (by omega)
  go_wp2_with fail
  refine (szBinS_any L1 V1 r1 w1 (Sl.below Hv1.out b1) Hf1.out (by omega) (by omega)).mono ?_
  rintro e w2 ⟨r2, rfl, hr2, hn2, hb2⟩
  have b2 := b1.trans (hb2.mono b1.size)
  have s2 : w1.heap.size ≤ w2.heap.size := hb2.size
  by_cases hneg2 : r2 < 0
  · go_wp2
    go_ret
    exact ⟨rfl, b2⟩
  have hn2 := hn2 (by omega)
  go_wp2_with fail
  refine (toBinS_any L0 V0 w2 (Sl.below Hv0.out b2) (by omega)).mono ?_
  rintro e w3 ⟨y3, rfl, ho3, hb3⟩
  have b3 := b2.trans (hb3.mono b2.size)
  have s3 : w2.heap.size ≤ w3.heap.size := hb3.size
  have O_y3 := Lib.hid ho3
  clear ho3
  have T_y3 := Lib.hid (World.ownsRow.lt O_y3.out)
  go_wp2_with fail
  refine (toBinS_any L1 V1 w3 (Sl.below Hv1.out b3) (by omega)).mono ?_
  rintro e w4 ⟨y4, rfl, ho4, hb4⟩
  have b4 := b3.trans (hb4.mono b3.size)
  have s4 : w3.heap.size ≤ w4.heap.size := hb4.size
  have O_y4 := Lib.hid ho4
  clear ho4
  have T_y4 := Lib.hid (World.ownsRow.lt O_y4.out)
  go_wp2_with fail
  refine (specMergeStocks_any w4 L0 y3 L1 y4 (Sl.of_own (own_below O_y3.out hb4)) Hf0.out (by omega) (Sl.of_own O_y4.out) Hf1.out (by omega)).mono ?_
  rintro e w5 ⟨y5, rfl, ho5, hb5⟩
  have b5 := b4.trans (hb5.mono b4.size)
  have s5 : w4.heap.size ≤ w5.heap.size := hb5.size
  have O_y5 := Lib.hid ho5
  clear ho5
  have T_y5 := Lib.hid (World.ownsRow.lt O_y5.out)
  go_wp2_with fail
  refine (toBinS_any L0 V0 w5 (Sl.below Hv0.out b5) (by omega)).mono ?_
  rintro e w6 ⟨y6, rfl, ho6, hb6⟩
  have b6 := b5.trans (hb6.mono b5.size)
  have s6 : w5.heap.size ≤ w6.heap.size := hb6.size
  have O_y6 := Lib.hid ho6
  clear ho6
  have T_y6 := Lib.hid (World.ownsRow.lt O_y6.out)
  go_wp2_with fail
  refine (toBinS_any L1 V1 w6 (Sl.below Hv1.out b6) (by omega)).mono ?_
  rintro e w7 ⟨y7, rfl, ho7, hb7⟩
  have b7 := b6.trans (hb7.mono b6.size)
  have s7 : w6.heap.size ≤ w7.heap.size := hb7.size
  have O_y7 := Lib.hid ho7
  clear ho7
  have T_y7 := Lib.hid (World.ownsRow.lt O_y7.out)
  go_wp2_with fail
  refine (implMergeStocks_any w7 L0 y6 L1 y7 (Sl.of_own (own_below O_y6.out hb7)) Hf0.out (by omega) (Sl.of_own O_y7.out) Hf1.out (by omega)).mono ?_
  rintro e w8 ⟨y8, rfl, ho8, hb8⟩
  have b8 := b7.trans (hb8.mono b7.size)
  have s8 : w7.heap.size ≤ w8.heap.size := hb8.size
  have O_y8 := Lib.hid ho8
  clear ho8
  have T_y8 := Lib.hid (World.ownsRow.lt O_y8.out)
  go_wp2_with fail
  refine (eqBinS_same (mergeF L0 L1).1 y8 y5 w8 (Sl.of_own O_y8.out) (Sl.of_own (own_below (own_below (own_below O_y5.out hb6) hb7) hb8)) (by have := HR.out; omega)).mono ?_
  rintro e w9 ⟨rfl, hb9⟩
  have b9 := b8.trans (hb9.mono b8.size)
  have s9 : w8.heap.size ≤ w9.heap.size := hb9.size
  go_wp2_with fail
  refine (toBinS_any L0 V0 w9 (Sl.below Hv0.out b9) (by omega)).mono ?_
  rintro e w10 ⟨y10, rfl, ho10, hb10⟩
  have b10 := b9.trans (hb10.mono b9.size)
  have s10 : w9.heap.size ≤ w10.heap.size := hb10.size
  have O_y10 := Lib.hid ho10
  clear ho10
  have T_y10 := Lib.hid (World.ownsRow.lt O_y10.out)
  go_wp2_with fail
  refine (eqBinS_same L0 y6 y10 w10 (Sl.of_own (own_below (own_below (own_below (own_below O_y6.out hb7) hb8) hb9) hb10)) (Sl.of_own O_y10.out) (by omega)).mono ?_
  rintro e w11 ⟨rfl, hb11⟩
  have b11 := b10.trans (hb11.mono b10.size)
  have s11 : w10.heap.size ≤ w11.heap.size := hb11.size
  go_wp2_with fail
  refine (toBinS_any L1 V1 w11 (Sl.below Hv1.out b11) (by omega)).mono ?_
  rintro e w12 ⟨y12, rfl, ho12, hb12⟩
  have b12 := b11.trans (hb12.mono b11.size)
  have s12 : w11.heap.size ≤ w12.heap.size := hb12.size
  have O_y12 := Lib.hid ho12
  clear ho12
  have T_y12 := Lib.hid (World.ownsRow.lt O_y12.out)
  go_wp2_with fail
  refine (eqBinS_same L1 y7 y12 w12 (Sl.of_own (own_below (own_below (own_below (own_below (own_below O_y7.out hb8) hb9) hb10) hb11) hb12)) (Sl.of_own O_y12.out) (by omega)).mono ?_
  rintro e w13 ⟨rfl, hb13⟩
  have b13 := b12.trans (hb13.mono b12.size)
  have s13 : w12.heap.size ≤ w13.heap.size := hb13.size
  go_wp2_with fail
  refine (markBinS_any _ L0.length 1 y6 _ w13 (own_below (own_below (own_below (own_below (own_below (own_below (own_below O_y6.out hb7) hb8) hb9) hb10) hb11) hb12) hb13) (by omega) (by omega) (by omega)).mono ?_
  rintro e w14 ⟨r14, rfl, er14, ho14, hg14⟩
  have E14 := Lib.hid er14
  clear er14
  have b14 := b13.grown hg14 b13.size (fun k hk => by have := (T_y6.out k hk).1; omega)
  have s14 := hg14.size
  have P14 := Lib.hid ho14
  clear ho14
  go_wp2_with fail
  refine (markBinS_any _ L1.length r14 y7 _ w14 (World.ownsRow.kept (own_below (own_below (own_below (own_below (own_below (own_below O_y7.out hb8) hb9) hb10) hb11) hb12) hb13) hg14 (ne_of_gt T_y7.out T_y6.out (by omega))) (by have := E14.out; omega) (by have := E14.out; omega) (by omega)).mono ?_
  rintro e w15 ⟨r15, rfl, er15, ho15, hg15⟩
  have E15 := Lib.hid er15
  clear er15
  have b15 := b14.grown hg15 b14.size (fun k hk => by have := (T_y7.out k hk).1; omega)
  have s15 := hg15.size
  have P15 := Lib.hid ho15
  clear ho15
  go_wp2_with fail
  refine (eqBinS_same (mergeF L0 L1).1 y8 y5 w15 (Sl.of_own (World.ownsRow.kept (World.ownsRow.kept (own_below (own_below (own_below (own_below (own_below O_y8.out hb9) hb10) hb11) hb12) hb13) hg14 (ne_of_gt T_y8.out T_y6.out (by omega))) hg15 (ne_of_gt T_y8.out T_y7.out (by omega)))) (Sl.of_own (World.ownsRow.kept (World.ownsRow.kept (own_below (own_below (own_below (own_below (own_below (own_below (own_below (own_below O_y5.out hb6) hb7) hb8) hb9) hb10) hb11) hb12) hb13) hg14 (ne_of_lt T_y5.out T_y6.out (by omega))) hg15 (ne_of_lt T_y5.out T_y7.out (by omega)))) (by have := HR.out; omega)).mono ?_
  rintro e w16 ⟨rfl, hb16⟩
  have b16 := b15.trans (hb16.mono b15.size)
  have s16 : w15.heap.size ≤ w16.heap.size := hb16.size
  go_wp2_with fail
  refine (markBinS_any _ (mergeF L0 L1).1.length 1 y8 _ w16 (own_below (World.ownsRow.kept (World.ownsRow.kept (own_below (own_below (own_below (own_below (own_below O_y8.out hb9) hb10) hb11) hb12) hb13) hg14 (ne_of_gt T_y8.out T_y6.out (by omega))) hg15 (ne_of_gt T_y8.out T_y7.out (by omega))) hb16) (by omega) (by omega) (by have := HR.out; omega)).mono ?_
  rintro e w17 ⟨r17, rfl, er17, ho17, hg17⟩
  have E17 := Lib.hid er17
  clear er17
  have b17 := b16.grown hg17 b16.size (fun k hk => by have := (T_y8.out k hk).1; omega)
  have s17 := hg17.size
  have P17 := Lib.hid ho17
  clear ho17
  go_wp2_with fail
  refine (heldBinS_any (mergeF L0 L1).1.length 1 y8 w17 (Sl.of_own P17.out) (by omega) (by omega) (by have := HR.out; omega)).mono ?_
  rintro e w18 ⟨r18, rfl, er18, hb18⟩
  have b18 := b17.trans (hb18.mono b17.size)
  have s18 : w17.heap.size ≤ w18.heap.size := hb18.size
  have em18 : r17 = r18 := by have := E17.out; omega
  clear er18
  subst em18
  go_wp2_with fail
  refine (toBinS_any L0 V0 w18 (Sl.below Hv0.out b18) (by omega)).mono ?_
  rintro e w19 ⟨y19, rfl, ho19, hb19⟩
  have b19 := b18.trans (hb19.mono b18.size)
  have s19 : w18.heap.size ≤ w19.heap.size := hb19.size
  have O_y19 := Lib.hid ho19
  clear ho19
  have T_y19 := Lib.hid (World.ownsRow.lt O_y19.out)
  go_wp2_with fail
  refine (toBinS_any L1 V1 w19 (Sl.below Hv1.out b19) (by omega)).mono ?_
  rintro e w20 ⟨y20, rfl, ho20, hb20⟩
  have b20 := b19.trans (hb20.mono b19.size)
  have s20 : w19.heap.size ≤ w20.heap.size := hb20.size
  have O_y20 := Lib.hid ho20
  clear ho20
  have T_y20 := Lib.hid (World.ownsRow.lt O_y20.out)
  go_wp2_with fail
  refine (implMergeStocks_any w20 L0 y19 L1 y20 (Sl.of_own (own_below O_y19.out hb20)) Hf0.out (by omega) (Sl.of_own O_y20.out) Hf1.out (by omega)).mono ?_
  rintro e w21 ⟨y21, rfl, ho21, hb21⟩
  have b21 := b20.trans (hb21.mono b20.size)
  have s21 : w20.heap.size ≤ w21.heap.size := hb21.size
  have O_y21 := Lib.hid ho21
  clear ho21
  have T_y21 := Lib.hid (World.ownsRow.lt O_y21.out)
  go_wp2_with fail
  refine (eqBinS_same (mergeF L0 L1).1 y21 y5 w21 (Sl.of_own O_y21.out) (Sl.of_own (own_below (own_below (own_below (own_below (World.ownsRow.kept (own_below (World.ownsRow.kept (World.ownsRow.kept (own_below (own_below (own_below (own_below (own_below (own_below (own_below (own_below O_y5.out hb6) hb7) hb8) hb9) hb10) hb11) hb12) hb13) hg14 (ne_of_lt T_y5.out T_y6.out (by omega))) hg15 (ne_of_lt T_y5.out T_y7.out (by omega))) hb16) hg17 (ne_of_lt T_y5.out T_y8.out (by omega))) hb18) hb19) hb20) hb21)) (by have := HR.out; omega)).mono ?_
  rintro e w22 ⟨rfl, hb22⟩
  have b22 := b21.trans (hb22.mono b21.size)
  have s22 : w21.heap.size ≤ w22.heap.size := hb22.size
  go_wp2_with fail
  refine (heldBinS_any (mergeF L0 L1).1.length 1 y8 w22 (Sl.of_own (own_below (own_below (own_below (own_below (own_below P17.out hb18) hb19) hb20) hb21) hb22)) (by omega) (by omega) (by have := HR.out; omega)).mono ?_
  rintro e w23 ⟨r23, rfl, er23, hb23⟩
  have b23 := b22.trans (hb23.mono b22.size)
  have s23 : w22.heap.size ≤ w23.heap.size := hb23.size
  have em23 : r17 = r23 := by have := E17.out; omega
  clear er23
  subst em23
  go_wp2
  go_ret
  exact ⟨rfl, b23⟩

namespace ExactMergeStocks
set_option maxRecDepth 100000 in
theorem lifted (os : Os) (started : os.Started) (H : Type) (enc : TypeId × Value → H) :
    ReturnsInHanded {} Try.checked os 5 .any (Rows.fnExactMergeStocksSpec.pre6 enc Try.prog Try.f5 Rows.fnExactMergeStocksRow.domain false) (Rows.fnExactMergeStocksSpec.post enc Try.prog Try.f5 false true false false) := by
  refine returnsInHanded_of_change (C := Try.checked) Try.own started (by kernel_rfl) Try.func5
    (ChangeSpec.witness6 (enc := enc) (C := Try.checked) false ⟨#[], #[.slice none 0 0, .slice none 0 0], []⟩ 8 (by kernel_rfl) (by kernel_rfl) (by kernel_rfl) (by kernel_rfl)) ?_
  intro W base args ds gs before hval0 hW hcnd _
  have hval : ∀ (j : Nat) t v, Try.f5.params[j]? = some t → args[j]? = some v → Value.okWide Try.prog W .any base t v := hval0
  have hW' := hW
  obtain ⟨p, q, hA0, hV, rfl, hfz, hnd⟩ := hW
  have hA : DataW.TrodAll enc Try.prog W 0 (fun _ => true) true Try.f5.params.toList args.toList ds p := hA0
  rw [Try.params5] at hA hval
  obtain ⟨v0, vs0, d0, ds0, p0, q0, hargs, rfl, rfl, h0, r0⟩ := trodAll_cons hA
  obtain ⟨v1, vs1, d1, ds1, p1, q1, rfl, rfl, rfl, h1, r1⟩ := trodAll_cons r0
  obtain ⟨rfl, rfl, rfl⟩ := trodAll_nil r1
  obtain rfl : args = #[v0, v1] := by cases args; simp_all
  obtain ⟨rfl, rfl⟩ := trodVars_none hV
  have lt0 : ∀ x ∈ p0, x.block < W.heap.size := by obtain ⟨m, hm⟩ := h0; exact DataW.trod_lt m _ _ _ hm
  obtain ⟨L0, hv0, hf0⟩ := open_bins (hval 0 _ v0 rfl rfl) h0
  have lt1 : ∀ x ∈ p1, x.block < W.heap.size := by obtain ⟨m, hm⟩ := h1; exact DataW.trod_lt m _ _ _ hm
  obtain ⟨L1, hv1, hf1⟩ := open_bins (hval 1 _ v1 rfl rfl) h1
  clear hA0 hval0
  refine (lawMergeStocks_walk W L0 v0 L1 v1 hv0 hf0 hv1 hf1).mono fun e W' ⟨he, bel⟩ => ?_
  subst he
  exact ⟨_, rfl, _, _, _, [], _, [], hW', trodAll_mk1 (shut_bool Try.underlying4 _), (trodAll_cons_mk (Below.trod Try.laidOut (by kernel_rfl) (of_decide_eq_true (by kernel_rfl)) h0 bel lt0) (trodAll_cons_mk (Below.trod Try.laidOut (by kernel_rfl) (of_decide_eq_true (by kernel_rfl)) h1 bel lt1) trodAll_mk0)), rfl, bel.frame _, fun h => by cases h⟩

theorem proved : Rows.FnExactMergeStocksSaid :=
  OpenClaim.holds_of_wide 5 Try.f5 rfl rfl rfl rfl rfl rfl rfl ⟨rfl, rfl, rfl, rfl, rfl⟩ rfl rfl rfl rfl rfl (by kernel_rfl) Try.func5 (by kernel_rfl)
    (of_decide_eq_true (by kernel_rfl)) (by unfold Func.isWrapper; first | (rw [if_pos (by decide +kernel)]; kernel_rfl) | (rw [if_neg (by decide +kernel)]; exact ⟨rfl, rfl⟩))
    (fun os started H enc _ => lifted os started H enc)
#print axioms proved
end ExactMergeStocks

end Go.Proofs.Ytngphnfbfednnaa
