/- FnExactMakePromise, for every input: the program's MakePromise returns what the reference's returns. Its conditions: none. -/
import Derived.Test.YtgafjchbfbpmmaaMake
namespace Go.Proofs.Ytgafjchbfbpmmaa
open Go.ChangeShapes Go.WideShapes Go.ChangeAt Go.RowKit Go.Deep
open Go.ChangeMaps (open_string)

set_option maxHeartbeats 4000000 in
theorem lawMakePromise_walk (w : World) (L0 : List Promise) (V0 : Value) (j1 : Promise) (hv0 : Sl w 3 V0 L0.length (promiseRow L0)) (hf0 : promiseFit L0) (hf1 : j1.name.size ≤ maxLen) :
    Calls Try.prog 9 #[V0, .agg #[.string j1.name, .int .i64 j1.day, .int .i64 j1.min]] w fun e w' => e = .returned (.bool true) ∧ Below w.heap.size w w' := by
  have Hv0 := Lib.hid hv0
  clear hv0
  have Hf0 := Lib.hid hf0
  clear hf0
  have Hf1 := Lib.hid hf1
  clear hf1
  have hb0 : Below w.heap.size w (w.alloc (.cells #[.string j1.name, .int .i64 j1.day, .int .i64 j1.min] 40)) := (Below.refl _ _).alloc (Nat.le_refl _) _
  have s0 : w.heap.size ≤ (w.alloc (.cells #[.string j1.name, .int .i64 j1.day, .int .i64 j1.min] 40)).heap.size := hb0.size
  go_enter Try.func9, Try.ntmps9
  have HR := Lib.hid (makePromise_len L0 j1)
  go_wp2_with fail
  refine (szPromiseS_any L0 V0 1048576 (w.alloc (.cells #[.string j1.name, .int .i64 j1.day, .int .i64 j1.min] 40)) (Sl.below Hv0.out hb0) Hf0.out (by omega) (by omega)).mono ?_
  rintro e w1 ⟨r1, rfl, hr1, hn1, hb1⟩
  have d1 := (Below.refl (w.heap.size + 1) (w.alloc (.cells #[.string j1.name, .int .i64 j1.day, .int .i64 j1.min] 40))).trans (hb1.mono (by have := (Below.refl (w.heap.size + 1) (w.alloc (.cells #[.string j1.name, .int .i64 j1.day, .int .i64 j1.min] 40))).size; simp at this ⊢; try omega))
  have b1 := hb0.trans (hb1.mono hb0.size)
  have s1 : (w.alloc (.cells #[.string j1.name, .int .i64 j1.day, .int .i64 j1.min] 40)).heap.size ≤ w1.heap.size := hb1.size
  by_cases hneg1 : r1 < 0
  · go_wp2
    go_ret
    exact ⟨rfl, b1⟩
  have hn1 := hn1 (by omega)
  have k0 : w1.cell? ⟨w.heap.size, 0, none⟩ = some (.string j1.name) := (d1.cell (p := ⟨w.heap.size, 0, none⟩) (by simp)).trans (by go_simp)
  have k1 : w1.cell? ⟨w.heap.size, 1, none⟩ = some (.int .i64 j1.day) := (d1.cell (p := ⟨w.heap.size, 1, none⟩) (by simp)).trans (by go_simp)
  have k2 : w1.cell? ⟨w.heap.size, 2, none⟩ = some (.int .i64 j1.min) := (d1.cell (p := ⟨w.heap.size, 2, none⟩) (by simp)).trans (by go_simp)
  go_wp2_with fail
  refine (szPromise_any j1 r1 w1 Hf1.out (by omega) (by omega)).mono ?_
  obtain ⟨r2, hr2, er2⟩ : ∃ r : Int, r ≤ 1048576 ∧ r = szI r1 j1.name.size := ⟨_, szI_le _ _ (by omega), rfl⟩
  rw [← er2]
  clear er2
  rintro e w2 ⟨rfl, hb2⟩
  have d2 := d1.trans (hb2.mono (by have := d1.size; simp at this ⊢; try omega))
  have b2 := b1.trans (hb2.mono b1.size)
  have s2 : w1.heap.size ≤ w2.heap.size := hb2.size
  clear k0 k1 k2
  by_cases hneg2 : r2 < 0
  · go_wp2
    go_ret
    exact ⟨rfl, b2⟩
  have k0 : w2.cell? ⟨w.heap.size, 0, none⟩ = some (.string j1.name) := (d2.cell (p := ⟨w.heap.size, 0, none⟩) (by simp)).trans (by go_simp)
  have k1 : w2.cell? ⟨w.heap.size, 1, none⟩ = some (.int .i64 j1.day) := (d2.cell (p := ⟨w.heap.size, 1, none⟩) (by simp)).trans (by go_simp)
  have k2 : w2.cell? ⟨w.heap.size, 2, none⟩ = some (.int .i64 j1.min) := (d2.cell (p := ⟨w.heap.size, 2, none⟩) (by simp)).trans (by go_simp)
  go_wp2_with fail
  go_region_held3 (fun w' => w'.cell? ⟨w.heap.size, 0, none⟩ = some (.string j1.name) ∧ w'.cell? ⟨w.heap.size, 1, none⟩ = some (.int .i64 j1.day) ∧ w'.cell? ⟨w.heap.size, 2, none⟩ = some (.int .i64 j1.min))
    (first | (go_keep; done) | (go_split_ands; refine ⟨?_, ?_, ?_⟩ <;> (rw [hb3.cell (by have := d2.size; simp at this ⊢; omega)]; assumption)) | (go_split_ands; refine ⟨?_, ?_, ?_⟩ <;> (rw [hb4.cell (by have := d3.size; simp at this ⊢; omega)]; assumption)) | (go_split_ands; refine ⟨?_, ?_, ?_⟩ <;> (rw [hb5.cell (by have := d4.size; simp at this ⊢; omega)]; assumption)))
    (first | (go_at_call 17; refine (toPromiseS_any L0 V0 _ (Sl.below Hv0.out (Below.drew b2)) (by omega)).mono ?_; rintro e w3 ⟨y3, rfl, ho3, hb3⟩; have d3 := d2.drew.trans (hb3.mono (by have := d2.size; simp at this ⊢; try omega)); have b3 := b2.drew.trans (hb3.mono b2.size); have s3 : w2.heap.size ≤ w3.heap.size := hb3.size; have O_y3 := Lib.hid ho3; clear ho3; have T_y3 := Lib.hid (World.ownsRow.lt O_y3.out)) | (go_at_call 34; refine (toPromise_any j1 w3).mono ?_; rintro e w4 ⟨rfl, hb4⟩; have d4 := d3.trans (hb4.mono (by have := d3.size; simp at this ⊢; try omega)); have b4 := b3.trans (hb4.mono b3.size); have s4 : w3.heap.size ≤ w4.heap.size := hb4.size) | (go_at_call 33; refine (specMakePromise_any w4 L0 y3 j1 (Sl.of_own (own_below O_y3.out hb4)) Hf0.out (by omega) Hf1.out).mono ?_; rintro e w5 ⟨y5, rfl, ho5, hb5⟩; have d5 := d4.trans (hb5.mono (by have := d4.size; simp at this ⊢; try omega)); have b5 := b4.trans (hb5.mono b4.size); have s5 : w4.heap.size ≤ w5.heap.size := hb5.size; have O_y5 := Lib.hid ho5; clear ho5; have T_y5 := Lib.hid (World.ownsRow.lt O_y5.out)))
  go_split_ands
  clear k0 k1 k2
  go_wp2_with fail
  refine (toPromiseS_any L0 V0 w5 (Sl.below Hv0.out b5) (by omega)).mono ?_
  rintro e w6 ⟨y6, rfl, ho6, hb6⟩
  have d6 := d5.trans (hb6.mono (by have := d5.size; simp at this ⊢; try omega))
  have b6 := b5.trans (hb6.mono b5.size)
  have s6 : w5.heap.size ≤ w6.heap.size := hb6.size
  have O_y6 := Lib.hid ho6
  clear ho6
  have T_y6 := Lib.hid (World.ownsRow.lt O_y6.out)
  have k0 : w6.cell? ⟨w.heap.size, 0, none⟩ = some (.string j1.name) := (d6.cell (p := ⟨w.heap.size, 0, none⟩) (by simp)).trans (by go_simp)
  have k1 : w6.cell? ⟨w.heap.size, 1, none⟩ = some (.int .i64 j1.day) := (d6.cell (p := ⟨w.heap.size, 1, none⟩) (by simp)).trans (by go_simp)
  have k2 : w6.cell? ⟨w.heap.size, 2, none⟩ = some (.int .i64 j1.min) := (d6.cell (p := ⟨w.heap.size, 2, none⟩) (by simp)).trans (by go_simp)
  go_wp2_with fail
  refine (toPromise_any j1 w6).mono ?_
  rintro e w7 ⟨rfl, hb7⟩
  have d7 := d6.trans (hb7.mono (by have := d6.size; simp at this ⊢; try omega))
  have b7 := b6.trans (hb7.mono b6.size)
  have s7 : w6.heap.size ≤ w7.heap.size := hb7.size
  clear k0 k1 k2
  go_wp2_with fail
  refine (implMakePromise_any w7 L0 y6 j1 (Sl.of_own (own_below O_y6.out hb7)) Hf0.out (by omega) Hf1.out).mono ?_
  rintro e w8 ⟨y8, rfl, ho8, hb8⟩
  have d8 := d7.trans (hb8.mono (by have := d7.size; simp at this ⊢; try omega))
  have b8 := b7.trans (hb8.mono b7.size)
  have s8 : w7.heap.size ≤ w8.heap.size := hb8.size
  have O_y8 := Lib.hid ho8
  clear ho8
  have T_y8 := Lib.hid (World.ownsRow.lt O_y8.out)
  go_wp2_with fail
  refine (eqPromiseS_same (makePromise L0 j1).1 y8 y5 w8 (Sl.of_own O_y8.out) (Sl.of_own (own_below (own_below (own_below O_y5.out hb6) hb7) hb8)) (by have := HR.out; omega)).mono ?_
  rintro e w9 ⟨rfl, hb9⟩
  have d9 := d8.trans (hb9.mono (by have := d8.size; simp at this ⊢; try omega))
  have b9 := b8.trans (hb9.mono b8.size)
  have s9 : w8.heap.size ≤ w9.heap.size := hb9.size
  go_wp2_with fail
  refine (toPromiseS_any L0 V0 w9 (Sl.below Hv0.out b9) (by omega)).mono ?_
  rintro e w10 ⟨y10, rfl, ho10, hb10⟩
  have d10 := d9.trans (hb10.mono (by have := d9.size; simp at this ⊢; try omega))
  have b10 := b9.trans (hb10.mono b9.size)
  have s10 : w9.heap.size ≤ w10.heap.size := hb10.size
  have O_y10 := Lib.hid ho10
  clear ho10
  have T_y10 := Lib.hid (World.ownsRow.lt O_y10.out)
  go_wp2_with fail
  refine (eqPromiseS_same L0 y6 y10 w10 (Sl.of_own (own_below (own_below (own_below (own_below O_y6.out hb7) hb8) hb9) hb10)) (Sl.of_own O_y10.out) (by omega)).mono ?_
  rintro e w11 ⟨rfl, hb11⟩
  have d11 := d10.trans (hb11.mono (by have := d10.size; simp at this ⊢; try omega))
  have b11 := b10.trans (hb11.mono b10.size)
  have s11 : w10.heap.size ≤ w11.heap.size := hb11.size
  go_wp2_with fail
  refine (markPromiseS_any _ L0.length 1 y6 _ w11 (own_below (own_below (own_below (own_below (own_below O_y6.out hb7) hb8) hb9) hb10) hb11) (by omega) (by omega) (by omega)).mono ?_
  rintro e w12 ⟨r12, rfl, er12, ho12, hg12⟩
  have E12 := Lib.hid er12
  clear er12
  have b12 := b11.grown hg12 b11.size (fun k hk => by have := (T_y6.out k hk).1; omega)
  have s12 := hg12.size
  have d12 := d11.grown hg12 (by have := d11.size; simp at this ⊢; try omega) (fun k hk => by have := (T_y6.out k hk).1; have hz := d1.size; simp at hz; omega)
  have P12 := Lib.hid ho12
  clear ho12
  go_wp2_with fail
  refine (eqPromiseS_same (makePromise L0 j1).1 y8 y5 w12 (Sl.of_own (World.ownsRow.kept (own_below (own_below (own_below O_y8.out hb9) hb10) hb11) hg12 (ne_of_gt T_y8.out T_y6.out (by omega)))) (Sl.of_own (World.ownsRow.kept (own_below (own_below (own_below (own_below (own_below (own_below O_y5.out hb6) hb7) hb8) hb9) hb10) hb11) hg12 (ne_of_lt T_y5.out T_y6.out (by omega)))) (by have := HR.out; omega)).mono ?_
  rintro e w13 ⟨rfl, hb13⟩
  have d13 := d12.trans (hb13.mono (by have := d12.size; simp at this ⊢; try omega))
  have b13 := b12.trans (hb13.mono b12.size)
  have s13 : w12.heap.size ≤ w13.heap.size := hb13.size
  go_wp2_with fail
  refine (markPromiseS_any _ (makePromise L0 j1).1.length 1 y8 _ w13 (own_below (World.ownsRow.kept (own_below (own_below (own_below O_y8.out hb9) hb10) hb11) hg12 (ne_of_gt T_y8.out T_y6.out (by omega))) hb13) (by omega) (by omega) (by have := HR.out; omega)).mono ?_
  rintro e w14 ⟨r14, rfl, er14, ho14, hg14⟩
  have E14 := Lib.hid er14
  clear er14
  have b14 := b13.grown hg14 b13.size (fun k hk => by have := (T_y8.out k hk).1; omega)
  have s14 := hg14.size
  have d14 := d13.grown hg14 (by have := d13.size; simp at this ⊢; try omega) (fun k hk => by have := (T_y8.out k hk).1; have hz := d1.size; simp at hz; omega)
  have P14 := Lib.hid ho14
  clear ho14
  go_wp2_with fail
  refine (heldPromiseS_any (makePromise L0 j1).1.length 1 y8 w14 (Sl.of_own P14.out) (by omega) (by omega) (by have := HR.out; omega)).mono ?_
  rintro e w15 ⟨r15, rfl, er15, hb15⟩
  have d15 := d14.trans (hb15.mono (by have := d14.size; simp at this ⊢; try omega))
  have b15 := b14.trans (hb15.mono b14.size)
  have s15 : w14.heap.size ≤ w15.heap.size := hb15.size
  have em15 : r14 = r15 := by have := E14.out; omega
  clear er15
  subst em15
  have k0 : w15.cell? ⟨w.heap.size, 0, none⟩ = some (.string j1.name) := (d15.cell (p := ⟨w.heap.size, 0, none⟩) (by simp)).trans (by go_simp)
  have k1 : w15.cell? ⟨w.heap.size, 1, none⟩ = some (.int .i64 j1.day) := (d15.cell (p := ⟨w.heap.size, 1, none⟩) (by simp)).trans (by go_simp)
  have k2 : w15.cell? ⟨w.heap.size, 2, none⟩ = some (.int .i64 j1.min) := (d15.cell (p := ⟨w.heap.size, 2, none⟩) (by simp)).trans (by go_simp)
  go_wp2_with fail
  go_region_held3 (fun w' => w'.cell? ⟨w.heap.size, 0, none⟩ = some (.string j1.name) ∧ w'.cell? ⟨w.heap.size, 1, none⟩ = some (.int .i64 j1.day) ∧ w'.cell? ⟨w.heap.size, 2, none⟩ = some (.int .i64 j1.min))
    (first | (go_keep; done) | (go_split_ands; refine ⟨?_, ?_, ?_⟩ <;> (rw [hb16.cell (by have := d15.size; simp at this ⊢; omega)]; assumption)) | (go_split_ands; refine ⟨?_, ?_, ?_⟩ <;> (rw [hb17.cell (by have := d16.size; simp at this ⊢; omega)]; assumption)) | (go_split_ands; refine ⟨?_, ?_, ?_⟩ <;> (rw [hb18.cell (by have := d17.size; simp at this ⊢; omega)]; assumption)))
    (first | (go_at_call 17; refine (toPromiseS_any L0 V0 _ (Sl.below Hv0.out (Below.drew b15)) (by omega)).mono ?_; rintro e w16 ⟨y16, rfl, ho16, hb16⟩; have d16 := d15.drew.trans (hb16.mono (by have := d15.size; simp at this ⊢; try omega)); have b16 := b15.drew.trans (hb16.mono b15.size); have s16 : w15.heap.size ≤ w16.heap.size := hb16.size; have O_y16 := Lib.hid ho16; clear ho16; have T_y16 := Lib.hid (World.ownsRow.lt O_y16.out)) | (go_at_call 34; refine (toPromise_any j1 w16).mono ?_; rintro e w17 ⟨rfl, hb17⟩; have d17 := d16.trans (hb17.mono (by have := d16.size; simp at this ⊢; try omega)); have b17 := b16.trans (hb17.mono b16.size); have s17 : w16.heap.size ≤ w17.heap.size := hb17.size) | (go_at_call 35; refine (implMakePromise_any w17 L0 y16 j1 (Sl.of_own (own_below O_y16.out hb17)) Hf0.out (by omega) Hf1.out).mono ?_; rintro e w18 ⟨y18, rfl, ho18, hb18⟩; have d18 := d17.trans (hb18.mono (by have := d17.size; simp at this ⊢; try omega)); have b18 := b17.trans (hb18.mono b17.size); have s18 : w17.heap.size ≤ w18.heap.size := hb18.size; have O_y18 := Lib.hid ho18; clear ho18; have T_y18 := Lib.hid (World.ownsRow.lt O_y18.out)))
  go_split_ands
  clear k0 k1 k2
  go_wp2_with fail
  refine (eqPromiseS_same (makePromise L0 j1).1 y18 y5 w18 (Sl.of_own O_y18.out) (Sl.of_own (own_below (own_below (own_below (World.ownsRow.drew (own_below (World.ownsRow.kept (own_below (World.ownsRow.kept (own_below (own_below (own_below (own_below (own_below (own_below O_y5.out hb6) hb7) hb8) hb9) hb10) hb11) hg12 (ne_of_lt T_y5.out T_y6.out (by omega))) hb13) hg14 (ne_of_lt T_y5.out T_y8.out (by omega))) hb15)) hb16) hb17) hb18)) (by have := HR.out; omega)).mono ?_
  rintro e w19 ⟨rfl, hb19⟩
  have d19 := d18.trans (hb19.mono (by have := d18.size; simp at this ⊢; try omega))
  have b19 := b18.trans (hb19.mono b18.size)
  have s19 : w18.heap.size ≤ w19.heap.size := hb19.size
  go_wp2_with fail
  refine (heldPromiseS_any (makePromise L0 j1).1.length 1 y8 w19 (Sl.of_own (own_below (own_below (own_below (own_below (World.ownsRow.drew (own_below P14.out hb15)) hb16) hb17) hb18) hb19)) (by omega) (by omega) (by have := HR.out; omega)).mono ?_
  rintro e w20 ⟨r20, rfl, er20, hb20⟩
  have d20 := d19.trans (hb20.mono (by have := d19.size; simp at this ⊢; try omega))
  have b20 := b19.trans (hb20.mono b19.size)
  have s20 : w19.heap.size ≤ w20.heap.size := hb20.size
  have em20 : r14 = r20 := by have := E14.out; omega
  clear er20
  subst em20
  go_wp2
  go_ret
  exact ⟨rfl, b20⟩

namespace ExactMakePromise
set_option maxRecDepth 100000 in
theorem lifted (os : Os) (started : os.Started) (H : Type) (enc : TypeId × Value → H) :
    ReturnsInHanded {} Try.checked os 9 .any (Rows.fnExactMakePromiseSpec.pre6 enc Try.prog Try.f9 Rows.fnExactMakePromiseRow.domain false) (Rows.fnExactMakePromiseSpec.post enc Try.prog Try.f9 false true false false) := by
  refine returnsInHanded_of_change (C := Try.checked) Try.own started (by kernel_rfl) Try.func9
    (ChangeSpec.witness6 (enc := enc) (C := Try.checked) false ⟨#[], #[.slice none 0 0, .agg #[.string ⟨#[]⟩, .int .i64 0, .int .i64 0]], []⟩ 8 (by kernel_rfl) (by kernel_rfl) (by kernel_rfl) (by kernel_rfl)) ?_
  intro W base args ds gs before hval0 hW hcnd _
  have hval : ∀ (j : Nat) t v, Try.f9.params[j]? = some t → args[j]? = some v → Value.okWide Try.prog W .any base t v := hval0
  have hW' := hW
  obtain ⟨p, q, hA0, hV, rfl, hfz, hnd⟩ := hW
  have hA : DataW.TrodAll enc Try.prog W 0 (fun _ => true) true Try.f9.params.toList args.toList ds p := hA0
  rw [Try.params9] at hA hval
  obtain ⟨v0, vs0, d0, ds0, p0, q0, hargs, rfl, rfl, h0, r0⟩ := trodAll_cons hA
  obtain ⟨v1, vs1, d1, ds1, p1, q1, rfl, rfl, rfl, h1, r1⟩ := trodAll_cons r0
  obtain ⟨rfl, rfl, rfl⟩ := trodAll_nil r1
  obtain rfl : args = #[v0, v1] := by cases args; simp_all
  obtain ⟨rfl, rfl⟩ := trodVars_none hV
  have lt0 : ∀ x ∈ p0, x.block < W.heap.size := by obtain ⟨m, hm⟩ := h0; exact DataW.trod_lt m _ _ _ hm
  obtain ⟨L0, hv0, hf0⟩ := open_promises (hval 0 _ v0 rfl rfl) h0
  have lt1 : ∀ x ∈ p1, x.block < W.heap.size := by obtain ⟨m, hm⟩ := h1; exact DataW.trod_lt m _ _ _ hm
  obtain ⟨j1, rfl, hf1⟩ := open_promiseV (hval 1 _ v1 rfl rfl) h1
  clear hA0 hval0
  refine (lawMakePromise_walk W L0 v0 j1 hv0 hf0 hf1).mono fun e W' ⟨he, bel⟩ => ?_
  subst he
  exact ⟨_, rfl, _, _, _, [], _, [], hW', trodAll_mk1 (shut_bool Try.underlying4 _), (trodAll_cons_mk (Below.trod Try.laidOut (by kernel_rfl) (of_decide_eq_true (by kernel_rfl)) h0 bel lt0) (trodAll_cons_mk (Below.trod Try.laidOut (by kernel_rfl) (of_decide_eq_true (by kernel_rfl)) h1 bel lt1) trodAll_mk0)), rfl, bel.frame _, fun h => by cases h⟩

theorem proved : Rows.FnExactMakePromiseSaid :=
  OpenClaim.holds_of_wide 9 Try.f9 rfl rfl rfl rfl rfl rfl rfl ⟨rfl, rfl, rfl, rfl, rfl⟩ rfl rfl rfl rfl rfl (by kernel_rfl) Try.func9 (by kernel_rfl)
    (of_decide_eq_true (by kernel_rfl)) (by unfold Func.isWrapper; first | (rw [if_pos (by decide +kernel)]; kernel_rfl) | (rw [if_neg (by decide +kernel)]; exact ⟨rfl, rfl⟩))
    (fun os started H enc _ => lifted os started H enc)
#print axioms proved
end ExactMakePromise

end Go.Proofs.Ytgafjchbfbpmmaa
