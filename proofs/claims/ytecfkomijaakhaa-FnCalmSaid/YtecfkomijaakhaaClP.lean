/- CalmOrder: costOfTool and the walk of CalmOrder in the program. Printed by gen_clp.py. -/
import Derived.Test.YtecfkomijaakhaaClM
import Derived.Test.YtecfkomijaakhaaRecJ
import Derived.Test.YtecfkomijaakhaaRecI
namespace Go.Proofs.Ytecfkomijaakhaa
open Go.RowKit

theorem Try.info_ten : (Try.prog.info? 74).map (fun i => (i.zero, i.size, i.bytes)) = some (some (.agg #[.int .i64 0, .int .i64 0, .int .i64 0, .int .i64 0, .int .i64 0, .int .i64 0, .int .i64 0, .int .i64 0, .int .i64 0, .int .i64 0]), 10, 80) := by kernel_rfl
theorem made10 (n : Nat) : (madeCells #[.int .i64 0, .int .i64 0, .int .i64 0, .int .i64 0, .int .i64 0, .int .i64 0, .int .i64 0, .int .i64 0, .int .i64 0, .int .i64 0] n).toList = intsRow (List.replicate n 0) := by
  apply List.ext_getElem
  · simp [madeCells, intsRow]
  · intro i h1 h2
    simp only [madeCells, intsRow, Array.toList_map, List.getElem_map, Array.toList_range, List.getElem_range, List.getElem_replicate]
    have h := Nat.mod_lt i (show 10 > 0 by omega)
    show (#[Value.int .i64 0, .int .i64 0, .int .i64 0, .int .i64 0, .int .i64 0, .int .i64 0, .int .i64 0, .int .i64 0, .int .i64 0, .int .i64 0] : Array Value)[i % 10]! = _
    generalize i % 10 = j at h
    match j, h with
    | 0, _ => rfl
    | 1, _ => rfl
    | 2, _ => rfl
    | 3, _ => rfl
    | 4, _ => rfl
    | 5, _ => rfl
    | 6, _ => rfl
    | 7, _ => rfl
    | 8, _ => rfl
    | 9, _ => rfl
theorem mn_min (u v : Int) : (if v < u then v else u) = min u v := by
  rw [Int.min_def]; split <;> split <;> omega
/-- The table is laid from mask E on. -/
def TabE (L : List Step) (T : List Int) (E : Nat) : Prop := T.length = 2 ^ L.length * 10 ∧ ∀ e s : Nat, E ≤ e → e ≤ 2 ^ L.length - 1 → s ≤ 9 → intsAt T (e * 10 + s) = MC L e s
def TabR (L : List Step) (T : List Int) (d t : Nat) : Prop := TabE L T (d + 1) ∧ ∀ s : Nat, s < t → intsAt T (d * 10 + s) = MC L d s
theorem tabE_start (L : List Step) : TabE L (List.replicate (2 ^ L.length * 10) 0) (2 ^ L.length - 1) := by
  refine ⟨by simp, fun e s h1 h2 h3 => ?_⟩
  have hp := Nat.two_pow_pos L.length
  obtain rfl : e = 2 ^ L.length - 1 := by omega
  rw [MC_all, intsAt_lt (by rw [List.length_replicate]; omega)]; simp
theorem tabR_zero {L : List Step} {T : List Int} {d : Nat} (h : TabE L T (d + 1)) : TabR L T d 0 := ⟨h, fun s hs => absurd hs (by omega)⟩
theorem tabR_step {L : List Step} {T : List Int} {d t : Nat} (h : TabR L T d t) (ht : t < 10) (hd : d < 2 ^ L.length) : TabR L (T.set (d * 10 + t) (MC L d t)) d (t + 1) := by
  obtain ⟨⟨h1, h2⟩, h3⟩ := h
  have hl : d * 10 + t < T.length := by omega
  refine ⟨⟨by rw [List.length_set]; exact h1, fun e s he he2 hs => ?_⟩, fun s hs => ?_⟩
  · rw [intsAt_set hl, if_neg (by omega)]; exact h2 e s he he2 hs
  · rw [intsAt_set hl]
    by_cases q : s = t
    · subst q; rw [if_pos rfl]
    · rw [if_neg (by omega)]; exact h3 s (by omega)
theorem tabR_all {L : List Step} {T : List Int} {d : Nat} (h : TabR L T d 10) : TabE L T d := by
  refine ⟨h.1.1, fun e s he he2 hs => ?_⟩
  by_cases q : e = d
  · subst q; exact h.2 s (by omega)
  · exact h.1.2 e s (by omega) he2 hs
theorem toolC_nat {L : List Step} (hok : stepsOk L = true) {i : Nat} (hi : i < L.length) : ∃ t : Nat, toolC L i = t ∧ t ≤ 9 := by
  obtain ⟨h1, h2⟩ := (steps_bd hok hi).2.1
  obtain ⟨t, ht⟩ := Int.eq_ofNat_of_zero_le h1
  exact ⟨t, ht, by omega⟩
theorem bestC_no {L : List Step} {M : Nat → Int → Int} {d k : Nat} {t : Int} (h : canM L d k = false) : bestC L M d t (k + 1) = bestC L M d t k := by rw [bestC, if_neg (by rw [h]; simp)]
theorem bestC_yes {L : List Step} {M : Nat → Int → Int} {d k : Nat} {t : Int} (h : canM L d k = true) : bestC L M d t (k + 1) = min (bestC L M d t k) (costC L t k + M (d ||| 2 ^ k) (toolC L k)) := by rw [bestC, if_pos h]

set_option maxHeartbeats 800000 in
theorem implCost_any (w : World) (L : List Step) (V : Value) (t : Int) (i : Nat) (hv : Steps w V L) (hi : i < L.length) :
    Calls Try.prog 75 #[V, .int .i64 t, .int .i64 i] w fun e w' => e = .returned (.int .i64 (costC L t i)) ∧ w = w' := by
  obtain ⟨A, c, rfl, hl, hc, hr⟩ := hv
  unfold maxLen at hc
  obtain ⟨gs, os, rfl, hgs, c0, c1, _⟩ := hr.at hi
  have HT := Lib.hid (show toolC L i = (stepAt L i).tool from rfl)
  obtain ⟨x, hx⟩ : ∃ x, x = (stepAt L i).tool := ⟨_, rfl⟩
  rw [← hx] at c1 HT
  have k0 : (0 : Int) ≤ (i : Int) := Int.natCast_nonneg _
  have k1 : (i : Int) < (L.length : Int) := by omega
  clear hr hx c0
  by_cases h1 : t < 0
  · have t1 : decide (t < 0) = true := by simpa using h1
    have H := Lib.hid (show costC L t i = 0 by rw [costC, if_pos (Or.inl h1)])
    clear h1
    go_enter Try.func75, Try.ntmps75
    go_wp2
    go_ret
    exact ⟨by rw [H.out]; rfl, rfl⟩
  · have t1 : decide (t < 0) = false := by simpa using h1
    by_cases h2 : t = x
    · have t2 : (t == x) = true := by simpa using h2
      have H := Lib.hid (show costC L t i = 0 by rw [costC, if_pos (Or.inr (by rw [HT.out]; exact h2))])
      clear h1 h2
      go_enter Try.func75, Try.ntmps75
      go_wp2
      go_ret
      exact ⟨by rw [H.out]; rfl, rfl⟩
    · have t2 : (t == x) = false := by simpa using h2
      have H := Lib.hid (show costC L t i = 1 by rw [costC, if_neg (by rw [HT.out]; rintro (z | z); exact h1 z; exact h2 z)])
      clear h1 h2
      go_enter Try.func75, Try.ntmps75
      go_wp2
      go_ret
      exact ⟨by rw [H.out]; rfl, rfl⟩

set_option maxHeartbeats 16000000 in
set_option maxRecDepth 100000 in
theorem implCalmOrder_any (w : World) (L : List Step) (V : Value) (hv : Steps w V L) (hn : L.length ≤ 1048576) :
    Calls Try.prog 43 #[V] w (RetSIC w.heap.size 2 1 intsRow (calmF L) w) := by
  have Hv := Lib.hid hv
  clear hv
  cases h1 : isRecipe L
  · have H := Lib.hid (calmF_bad h1)
    go_enter Try.func43, Try.ntmps43
    go_wp2_with fail
    refine (implIsRecipe_any w L _ Hv.out hn).mono ?_
    rintro e w2 ⟨rfl, hb2⟩
    rw [h1]
    go_wp2
    go_ret3
    exact RetSIC.err H.out rfl hb2
  · by_cases hn0 : L.length = 0
    · have H := Lib.hid (calmF_nil h1 hn0)
      obtain ⟨A, c, rfl, hl, hc, _⟩ := Hv.out
      have t0 : ((L.length : Int) == 0) = true := by simp [hn0]
      clear hn0
      go_enter Try.func43, Try.ntmps43
      go_wp2_with fail
      refine (implIsRecipe_any w L _ Hv.out hn).mono ?_
      rintro e w2 ⟨rfl, hb2⟩
      rw [h1]
      go_wp2
      go_ret3
      exact RetSIC.err H.out rfl hb2
    · have hn1 : 0 < L.length := by omega
      have H := Lib.hid (calmF_ok h1 hn1)
      have HR := Lib.hid h1
      have HLT := Lib.hid (least_lt hn1 h1)
      have HST := Lib.hid (least_st hn1 h1)
      obtain ⟨h9, hok, _⟩ := isRecipe_iff.1 h1
      have Hok := Lib.hid hok
      obtain ⟨AL, hAL⟩ : ∃ AL, AL = 2 ^ L.length - 1 := ⟨_, rfl⟩
      obtain ⟨N, hN⟩ : ∃ N, N = 2 ^ L.length := ⟨_, rfl⟩
      have hN1 : 1 ≤ N := by rw [hN]; exact Nat.two_pow_pos _
      have hN2 : N = AL + 1 := by omega
      have hN9 : N ≤ 512 := by rw [hN]; exact Nat.pow_le_pow_right (by omega) h9
      have p1 : wrap64 ((2 : Int) ^ L.length) = (N : Int) := by rw [wrap_pow (by omega), hN]
      have p1w : IntKind.i64.wrap ((2 : Int) ^ L.length) = (N : Int) := by rw [wrapW_pow (by omega), hN]
      have p2 : IntKind.i64.wrap ((N : Int) - 1) = (AL : Int) := by rw [IntWalk.i64_in ((N : Int) - 1) (by omega)]; omega
      have p3 : IntKind.i64.wrap ((AL : Int) + 1) = (N : Int) := by rw [IntWalk.i64_in ((AL : Int) + 1) (by omega)]; omega
      have p4 := IntWalk.i64_in ((AL : Int) - 1) (by omega)
      have t0 : ((L.length : Int) == 0) = false := by rw [beq_eq_false_iff_ne]; omega
      have HALe := Lib.hid hAL
      have HNe := Lib.hid hN
      obtain ⟨i0, hi, hz0, hz1, hz2⟩ := info_parts Try.info_ten
      obtain ⟨ii0, ji, jz0, jz1, jz2⟩ := info_parts Try.info_ints
      obtain ⟨A, c, rfl, hl, hc, _⟩ := Hv.out
      unfold maxLen at hc
      have hNa : AL < N := by omega
      have hNb : N ≤ AL + 1 := by omega
      clear hok hAL hN hn0 hN2
      go_enter Try.func43, Try.ntmps43
      go_wp2_with fail
      refine (implIsRecipe_any w L _ Hv.out hn).mono ?_
      rintro e w2 ⟨rfl, hb2⟩
      rw [h1]
      have hsz2 := hb2.size
      have Hb2 := Lib.hid hb2
      have Hv2 := Lib.hid (Hv.out.below hb2)
      go_wp2_with (at_make; (try rw [p1]); (refine wpList_make_full _ rfl _ _ 73 rfl w2.heap.size 74 i0 _ 10 Try.underlying73 hi hz0 hz1 _ _ _ _ N rfl rfl rfl rfl ?b1 ?b2 ?b3 ?_))
      case b1 => rw [hz2]; omega
      case b2 => unfold maxLen; omega
      case b3 => exact Nat.le_refl _
      intro w3 hown hgr
      have hb3 := (Below.refl w2.heap.size w2).grown hgr (Nat.le_refl _) (fun _ h => by cases h)
      have Hb3 := Lib.hid hb3
      have Ho3 := Lib.hid (show w3.ownsRow w2.heap.size 74 10 (.slice (some ⟨w2.heap.size, 0, none⟩) N N) N (intsRow (List.replicate (2 ^ L.length * 10) 0)) by rw [← made10, ← HNe.out]; exact hown)
      have HT3 := Lib.hid (tabE_start L)
      rw [← HALe.out] at HT3
      obtain ⟨T0, hT0⟩ : ∃ T0 : List Int, T0 = List.replicate (2 ^ L.length * 10) 0 := ⟨_, rfl⟩
      rw [← hT0] at Ho3 HT3
      have hglt : w2.heap.size < w3.heap.size := (World.ownsRow.lt Ho3.out _ rfl).2
      obtain ⟨A9, c9, hVe, _, _, hr2⟩ := Hv2.out
      injection hVe with hVe _ hVc
      subst hVe
      subst hVc
      have Hr2 := Lib.hid hr2
      clear hown hgr hb3 hT0 hr2 h1
      go_wp2
      go_loopw [7] (fun i wr => ∃ (e : Nat) (z : Int) (T : List Int), e ≤ AL ∧ i = .int .i64 z ∧ Hid (z = (e : Int) - 1) ∧ Hid (TabE L T e) ∧ wr.ownsRow w2.heap.size 74 10 (.slice (some ⟨w2.heap.size, 0, none⟩) N N) N (intsRow T) ∧ Below w2.heap.size w2 wr) (fun i _ => (intOf i + 1).toNat)
      case atStart => exact ⟨AL, _, T0, Nat.le_refl _, rfl, Lib.hid rfl, HT3, Ho3.out, Hb3.out⟩
      case round =>
        clear HT3 Ho3 Hb3 p4
        obtain ⟨e, z, T, he, rfl, HZ, HT, ho, hb⟩ := hrel
        have Ho := Lib.hid ho
        have Hb := Lib.hid hb
        have hsz := hb.size
        clear ho hb
        by_cases he0 : 0 < e
        · obtain ⟨d, rfl⟩ : ∃ d, e = d + 1 := ⟨e - 1, by omega⟩
          have ez : z = (d : Int) := by have := HZ.out; omega
          subst ez
          have hdA : d < AL := by omega
          have HMA := Lib.hid (fun t => MC_at (L := L) (d := d) t (by rw [← HALe.out]; exact hdA))
          have HTR := Lib.hid (tabR_zero HT.out)
          clear HT HZ
          go_wp2
          go_loopw [38] (fun i wy => ∃ (t : Nat) (T : List Int), t ≤ 10 ∧ i = .int .i64 t ∧ Hid (TabR L T d t) ∧ wy.ownsRow w2.heap.size 74 10 (.slice (some ⟨w2.heap.size, 0, none⟩) N N) N (intsRow T) ∧ Below w2.heap.size w2 wy) (fun i _ => 10 - (intOf i).toNat)
          case atStart => exact ⟨0, T, Nat.zero_le _, rfl, HTR, Ho.out, Hb.out⟩
          case round =>
            clear HTR Ho Hb
            rename World => wy
            rename List Int => Told
            obtain ⟨t, T, ht, rfl, HTR, ho, hb⟩ := hrel
            have Ho := Lib.hid ho
            have Hb := Lib.hid hb
            have hszy := hb.size
            have HTl := Lib.hid (show T.length = N * 10 by rw [HTR.out.1.1, HNe.out])
            clear ho hb
            by_cases ht10 : t < 10
            · have i0 : (0 : Int) ≤ (t : Int) := Int.natCast_nonneg _
              have i1 : (t : Int) < 10 := by omega
              go_wp2
              go_loopw [9, 43] (fun b i wz => ∃ k : Nat, k ≤ L.length ∧ i = .int .i64 k ∧ b = .int .i64 (bestC L (MC L) d t k) ∧ wz.ownsRow w2.heap.size 74 10 (.slice (some ⟨w2.heap.size, 0, none⟩) N N) N (intsRow T) ∧ Below w2.heap.size w2 wz) (fun _ i _ => L.length - (intOf i).toNat)
              case atStart => exact ⟨0, Nat.zero_le _, rfl, rfl, Ho.out, Hb.out⟩
              case round =>
                clear Ho Hb
                rename World => wz
                obtain ⟨k, hk, rfl, rfl, ho, hb⟩ := hrel
                have Ho := Lib.hid ho
                have Hb := Lib.hid hb
                have hszz := hb.size
                have Hvz := Lib.hid (Hv2.out.below hb)
                clear ho hb
                by_cases hkl : k < L.length
                · have HAF := Lib.hid (fun j (hj : j < (stepAt L k).after.length) => steps_after Hok.out hkl (k := j) hj)
                  cases hbit : d.testBit k
                  · have s1 := mask_no0 (m := d) (b := k) (by omega) (by omega) hbit
                    go_wp2_with fail
                    refine (implReady_any _ L _ d k Hvz.out hkl (fun j hj => by have := HAF.out j hj; omega) (by omega)).mono ?_
                    rintro e w5 ⟨rfl, rfl⟩
                    cases hrd : readyM (stepAt L k) d
                    · have HC := Lib.hid (bestC_no (M := MC L) (t := (t : Int)) (show canM L d k = false by simp [canM, hrd]))
                      clear hbit hrd
                      go_wp2
                      go_roundw
                      case rel => exact ⟨k + 1, by omega, by go_num, by rw [HC.out], Ho.out, Hb.out⟩
                      case measure => simp [intOf]; omega
                    · have HC := Lib.hid (bestC_yes (M := MC L) (t := (t : Int)) (show canM L d k = true by simp [canM, hbit, hrd]))
                      obtain ⟨tk, htk, htk9⟩ := toolC_nat Hok.out hkl
                      have hG := or_lt_all (n := L.length) (d := d) (k := k) (by rw [← HALe.out]; omega) hkl
                      rw [← HALe.out] at hG
                      have hGd : d < d ||| 2 ^ k := by rw [or_add hbit]; have := Nat.two_pow_pos k; omega
                      have o1 := mask_or (m := d) (b := k) (by omega) (by omega)
                      have o2 := mask_orW (m := d) (b := k) (by omega) (by omega)
                      have e2 := (Ho.out.cellAt ((d ||| 2 ^ k) * 10 + tk) (by omega)).trans (intsRow_at T ((d ||| 2 ^ k) * 10 + tk) (by rw [HTl.out]; omega))
                      rw [HTR.out.1.2 (d ||| 2 ^ k) tk (by omega) (by rw [← HALe.out]; exact hG) htk9] at e2
                      rw [htk] at HC
                      have hyb := MC_bd L (d ||| 2 ^ k) (tk : Int)
                      obtain ⟨y, hy⟩ : ∃ y, y = MC L (d ||| 2 ^ k) (tk : Int) := ⟨_, rfl⟩
                      rw [← hy] at e2 HC hyb
                      obtain ⟨G, hGe⟩ : ∃ G, G = d ||| 2 ^ k := ⟨_, rfl⟩
                      rw [← hGe] at o1 o2 hG hGd e2
                      obtain ⟨gs, os, hA2, hgs, _, m0, _⟩ := Hr2.out.at hkl
                      subst hA2
                      have m1 := (Hb.out.cell (p := ⟨gs, os + k * 3 + 1, none⟩) hgs).trans m0
                      rw [show (stepAt L k).tool = (tk : Int) from htk] at m1
                      have hcb := costC_bd L (t : Int) k
                      have HCO := Lib.hid (show costC L (t : Int) k = costC L (t : Int) k from rfl)
                      obtain ⟨bk, hbk⟩ : ∃ bk, bk = bestC L (MC L) d (t : Int) k := ⟨_, rfl⟩
                      rw [← hbk] at HC ⊢
                      have x1 := IntWalk.i64_in (costC L (t : Int) k + y) (by omega)
                      have j0 : (0 : Int) ≤ (k : Int) := Int.natCast_nonneg _
                      have j1 : (k : Int) < (L.length : Int) := by omega
                      have j2 : (0 : Int) ≤ (G : Int) := Int.natCast_nonneg _
                      have j3 : (G : Int) < (N : Int) := by omega
                      have j4 : (0 : Int) ≤ (tk : Int) := Int.natCast_nonneg _
                      have j5 : (tk : Int) < 10 := by omega
                      have j6 : (k : Int) < 64 := by omega
                      clear hbit hrd hy hGe hbk m0 htk
                      go_wp2
                      refine wp_region_held_drew (S := (fun w' => w'.cell? ⟨w2.heap.size, G * 10 + tk, none⟩ = some (.int .i64 y) ∧ w'.cell? ⟨gs, os + k * 3 + 1, none⟩ = some (.int .i64 tk))) (by kernel_rfl) ?_ (fun hHeld => ?_)
                      · (try dsimp only); first | (go_split_ands; exact ⟨by assumption, by assumption⟩) | go_keep
                      refine wpAnyH_take (i := 0) (v := ?_) rfl (by kernel_rfl) (by kernel_rfl) (by kernel_rfl) (fun _ _ _ h => h) (Or.inl ⟨by rfl, ?_⟩) (by assumption) ?_
                      rotate_left
                      · (intro w hSw; (try dsimp only at hSw); go_simp) <;> with_reducible rfl
                      try simp only [Act.put, List.setIfInBounds_toArray, List.set_cons_zero, List.set_cons_succ, List.getElem_toArray, List.getElem_cons_succ, List.getElem_cons_zero]
                      refine wpAnyH_take (i := 1) (v := ?_) rfl (by kernel_rfl) (by kernel_rfl) (by kernel_rfl) (fun _ _ _ h => h) (Or.inl ⟨by rfl, ?_⟩) (by assumption) ?_
                      rotate_left
                      · (intro w hSw; (try dsimp only at hSw); go_simp) <;> with_reducible rfl
                      try simp only [Act.put, List.setIfInBounds_toArray, List.set_cons_zero, List.set_cons_succ, List.getElem_toArray, List.getElem_cons_succ, List.getElem_cons_zero]
                      refine wpAnyH_take (i := 2) (v := ?_) rfl (by kernel_rfl) (by kernel_rfl) (by kernel_rfl) (fun _ _ _ h => h) (Or.inl ⟨by rfl, ?_⟩) (by assumption) ?_
                      rotate_left
                      · (intro w hSw; (try dsimp only at hSw); go_simp) <;> with_reducible rfl
                      try simp only [Act.put, List.setIfInBounds_toArray, List.set_cons_zero, List.set_cons_succ, List.getElem_toArray, List.getElem_cons_succ, List.getElem_cons_zero]
                      refine wpAnyH_take (i := 3) (v := ?_) rfl (by kernel_rfl) (by kernel_rfl) (by kernel_rfl) (fun _ _ _ h => h) (Or.inl ⟨by rfl, ?_⟩) (by assumption) ?_
                      rotate_left
                      · (intro w hSw; (try dsimp only at hSw); go_simp) <;> with_reducible rfl
                      try simp only [Act.put, List.setIfInBounds_toArray, List.set_cons_zero, List.set_cons_succ, List.getElem_toArray, List.getElem_cons_succ, List.getElem_cons_zero]
                      refine wpAnyH_take (i := 5) (v := ?_) rfl (by kernel_rfl) (by kernel_rfl) (by kernel_rfl) (fun _ _ _ h => h) (Or.inl ⟨by rfl, ?_⟩) (by assumption) ?_
                      rotate_left
                      · (intro w hSw; (try dsimp only at hSw); go_simp) <;> with_reducible rfl
                      try simp only [Act.put, List.setIfInBounds_toArray, List.set_cons_zero, List.set_cons_succ, List.getElem_toArray, List.getElem_cons_succ, List.getElem_cons_zero]
                      refine wpAnyH_take (i := 6) (v := ?_) rfl (by kernel_rfl) (by kernel_rfl) (by kernel_rfl) (fun _ _ _ h => h) (Or.inl ⟨by rfl, ?_⟩) (by assumption) ?_
                      rotate_left
                      · (intro w hSw; (try dsimp only at hSw); go_simp) <;> with_reducible rfl
                      try simp only [Act.put, List.setIfInBounds_toArray, List.set_cons_zero, List.set_cons_succ, List.getElem_toArray, List.getElem_cons_succ, List.getElem_cons_zero]
                      refine wpAnyH_take (i := 7) (v := ?_) rfl (by kernel_rfl) (by kernel_rfl) (by kernel_rfl) (fun _ _ _ h => h) (Or.inl ⟨by rfl, ?_⟩) (by assumption) ?_
                      rotate_left
                      · (intro w hSw; (try dsimp only at hSw); go_simp) <;> with_reducible rfl
                      try simp only [Act.put, List.setIfInBounds_toArray, List.set_cons_zero, List.set_cons_succ, List.getElem_toArray, List.getElem_cons_succ, List.getElem_cons_zero]
                      refine wpAnyH_take (i := 8) (v := ?_) rfl (by kernel_rfl) (by kernel_rfl) (by kernel_rfl) (fun _ _ _ h => h) (Or.inl ⟨by rfl, ?_⟩) (by assumption) ?_
                      rotate_left
                      · (intro w hSw; (try dsimp only at hSw); go_simp) <;> with_reducible rfl
                      try simp only [Act.put, List.setIfInBounds_toArray, List.set_cons_zero, List.set_cons_succ, List.getElem_toArray, List.getElem_cons_succ, List.getElem_cons_zero]
                      refine wpAnyH_take (i := 9) (v := ?_) rfl (by kernel_rfl) (by kernel_rfl) (by kernel_rfl) (fun _ _ _ h => h) (Or.inl ⟨by rfl, ?_⟩) (by assumption) ?_
                      rotate_left
                      · (intro w hSw; (try dsimp only at hSw); go_simp) <;> with_reducible rfl
                      try simp only [Act.put, List.setIfInBounds_toArray, List.set_cons_zero, List.set_cons_succ, List.getElem_toArray, List.getElem_cons_succ, List.getElem_cons_zero]
                      refine wpAnyH_take (i := 10) (v := ?_) rfl (by kernel_rfl) (by kernel_rfl) (by kernel_rfl) (fun _ _ _ h => h) (Or.inl ⟨by rfl, ?_⟩) (by assumption) ?_
                      rotate_left
                      · (intro w hSw; (try dsimp only at hSw); go_simp) <;> with_reducible rfl
                      try simp only [Act.put, List.setIfInBounds_toArray, List.set_cons_zero, List.set_cons_succ, List.getElem_toArray, List.getElem_cons_succ, List.getElem_cons_zero]
                      refine wpAnyH_take (i := 11) (v := ?_) rfl (by kernel_rfl) (by kernel_rfl) (by kernel_rfl) (fun _ _ _ h => h) (Or.inl ⟨by rfl, ?_⟩) (by assumption) ?_
                      rotate_left
                      · (intro w hSw; (try dsimp only at hSw); go_simp) <;> with_reducible rfl
                      try simp only [Act.put, List.setIfInBounds_toArray, List.set_cons_zero, List.set_cons_succ, List.getElem_toArray, List.getElem_cons_succ, List.getElem_cons_zero]
                      refine wpAnyH_take (i := 12) (v := ?_) rfl (by kernel_rfl) (by kernel_rfl) (by kernel_rfl) (fun _ _ _ h => h) (Or.inl ⟨by rfl, ?_⟩) (by assumption) ?_
                      rotate_left
                      · (intro w hSw; (try dsimp only at hSw); go_simp) <;> with_reducible rfl
                      try simp only [Act.put, List.setIfInBounds_toArray, List.set_cons_zero, List.set_cons_succ, List.getElem_toArray, List.getElem_cons_succ, List.getElem_cons_zero]
                      refine wpAnyH_take (i := 13) (v := ?_) rfl (by kernel_rfl) (by kernel_rfl) (by kernel_rfl) (fun _ _ _ h => h) (Or.inl ⟨by rfl, ?_⟩) (by assumption) ?_
                      rotate_left
                      · (intro w hSw; (try dsimp only at hSw); go_simp) <;> with_reducible rfl
                      try simp only [Act.put, List.setIfInBounds_toArray, List.set_cons_zero, List.set_cons_succ, List.getElem_toArray, List.getElem_cons_succ, List.getElem_cons_zero]
                      refine wpAnyH_take (i := 14) (v := ?_) rfl (by kernel_rfl) (by kernel_rfl) (by kernel_rfl) (fun _ _ _ h => h) (Or.inl ⟨by rfl, ?_⟩) (by assumption) ?_
                      rotate_left
                      · (intro w hSw; (try dsimp only at hSw); go_simp) <;> with_reducible rfl
                      try simp only [Act.put, List.setIfInBounds_toArray, List.set_cons_zero, List.set_cons_succ, List.getElem_toArray, List.getElem_cons_succ, List.getElem_cons_zero]
                      refine wpAnyH_take (i := 15) (v := ?_) rfl (by kernel_rfl) (by kernel_rfl) (by kernel_rfl) (fun _ _ _ h => h) (Or.inl ⟨by rfl, ?_⟩) (by assumption) ?_
                      rotate_left
                      · (intro w hSw; (try dsimp only at hSw); go_simp) <;> with_reducible rfl
                      try simp only [Act.put, List.setIfInBounds_toArray, List.set_cons_zero, List.set_cons_succ, List.getElem_toArray, List.getElem_cons_succ, List.getElem_cons_zero]
                      refine wpAnyH_take (i := 16) (v := ?_) rfl (by kernel_rfl) (by kernel_rfl) (by kernel_rfl) (fun _ _ _ h => h) (Or.inl ⟨by rfl, ?_⟩) (by assumption) ?_
                      rotate_left
                      · (intro w hSw; (try dsimp only at hSw); go_simp) <;> with_reducible rfl
                      try simp only [Act.put, List.setIfInBounds_toArray, List.set_cons_zero, List.set_cons_succ, List.getElem_toArray, List.getElem_cons_succ, List.getElem_cons_zero]
                      refine wpAnyH_take (i := 17) (v := ?_) rfl (by kernel_rfl) (by kernel_rfl) (by kernel_rfl) (fun _ _ _ h => h) (Or.inl ⟨by rfl, ?_⟩) (by assumption) ?_
                      rotate_left
                      · (intro w hSw; (try dsimp only at hSw); go_simp) <;> with_reducible rfl
                      try simp only [Act.put, List.setIfInBounds_toArray, List.set_cons_zero, List.set_cons_succ, List.getElem_toArray, List.getElem_cons_succ, List.getElem_cons_zero]
                      refine wpAnyH_ready (rs := [4]) (by kernel_rfl) (by simp) ?_
                      refine AllReadyH.cons rfl (fun K hK => ?_) AllReadyH.nil
                      try dsimp only [List.getElem_toArray, List.getElem_cons_succ, List.getElem_cons_zero]
                      go_simp
                      refine (implCost_any _ L _ t k (Hv2.out.below Hb.out.drew) hkl).mono ?_
                      rintro e w5 ⟨rfl, rfl⟩
                      go_wp2_with fail
                      refine hK.out _ _ ?_ (fun hHeld => ?_)
                      · (try dsimp only); first | (go_split_ands; exact ⟨by assumption, by assumption⟩) | go_keep
                      clear hK K
                      try simp only [Act.put, List.setIfInBounds_toArray, List.set_cons_zero, List.set_cons_succ, List.getElem_toArray, List.getElem_cons_succ, List.getElem_cons_zero]
                      refine wpAnyH_take (i := 18) (v := ?_) rfl (by kernel_rfl) (by kernel_rfl) (by kernel_rfl) (fun _ _ _ h => h) (Or.inl ⟨by rfl, ?_⟩) (by assumption) ?_
                      rotate_left
                      · (intro w hSw; (try dsimp only at hSw); go_simp) <;> with_reducible rfl
                      try simp only [Act.put, List.setIfInBounds_toArray, List.set_cons_zero, List.set_cons_succ, List.getElem_toArray, List.getElem_cons_succ, List.getElem_cons_zero]
                      refine wpAnyH_take (i := 19) (v := ?_) rfl (by kernel_rfl) (by kernel_rfl) (by kernel_rfl) (fun _ _ _ h => h) (Or.inl ⟨by rfl, ?_⟩) (by assumption) ?_
                      rotate_left
                      · (intro w hSw; (try dsimp only at hSw); go_simp) <;> with_reducible rfl
                      try simp only [Act.put, List.setIfInBounds_toArray, List.set_cons_zero, List.set_cons_succ, List.getElem_toArray, List.getElem_cons_succ, List.getElem_cons_zero]
                      refine wpAnyH_take (i := 20) (v := ?_) rfl (by kernel_rfl) (by kernel_rfl) (by kernel_rfl) (fun _ _ _ h => h) (Or.inl ⟨by rfl, ?_⟩) (by assumption) ?_
                      rotate_left
                      · (intro w hSw; (try dsimp only at hSw); go_simp) <;> with_reducible rfl
                      try simp only [Act.put, List.setIfInBounds_toArray, List.set_cons_zero, List.set_cons_succ, List.getElem_toArray, List.getElem_cons_succ, List.getElem_cons_zero]
                      refine wpAnyH_done (by kernel_rfl) ?_ _
                      have Ho4 := Lib.hid Ho.out.drew
                      have Hb4 := Lib.hid Hb.out.drew
                      clear e2 m1
                      go_wp2
                      go_roundw
                      case rel => exact ⟨k + 1, by omega, by go_num, by rw [HC.out, ← mn_min], Ho4.out, Hb4.out⟩
                      case measure => simp [intOf]; omega
                  · have s1 := mask_yes0 (m := d) (b := k) (by omega) (by omega) hbit
                    have HC := Lib.hid (bestC_no (M := MC L) (t := (t : Int)) (show canM L d k = false by simp [canM, hbit]))
                    clear hbit
                    go_wp2
                    go_roundw
                    case rel => exact ⟨k + 1, by omega, by go_num, by rw [HC.out], Ho.out, Hb.out⟩
                    case measure => simp [intOf]; omega
                · have HVE := Lib.hid (show bestC L (MC L) d (t : Int) k = MC L d t by rw [HMA.out, show k = L.length by omega])
                  rw [HVE.out]
                  have HTS := Lib.hid (tabR_step HTR.out ht10 (by rw [← HNe.out]; omega))
                  obtain ⟨v, hv⟩ : ∃ v, v = MC L d (t : Int) := ⟨_, rfl⟩
                  rw [← hv] at HTS ⊢
                  have f1 := Ho.out.frozenAt (d * 10 + t)
                  obtain ⟨cx, e1⟩ := own_cell Ho.out (j := d * 10 + t) (by omega)
                  have HST2 := Lib.hid (show (wz.setCell ⟨w2.heap.size, d * 10 + t, none⟩ (.int .i64 v)).ownsRow w2.heap.size 74 10 (.slice (some ⟨w2.heap.size, 0, none⟩) N N) N (intsRow (T.set (d * 10 + t) v)) by rw [← intsRow_set]; exact (Ho.out.stored (d * 10 + t) (.int .i64 v)).1)
                  have Hb4 := Lib.hid (Hb.out.setCell (p := ⟨w2.heap.size, d * 10 + t, none⟩) (Nat.le_refl _) (.int .i64 v))
                  have j0 : (0 : Int) ≤ (d : Int) := Int.natCast_nonneg _
                  have j1 : (d : Int) < (N : Int) := by omega
                  clear hv
                  go_wp2
                  go_roundw
                  case rel => exact ⟨t + 1, T.set (d * 10 + t) v, by omega, by go_num, HTS, HST2.out, Hb4.out⟩
                  case measure => simp [intOf]; omega
            · have HTA := Lib.hid (tabR_all (show TabR L T d 10 by have h := HTR.out; rw [show t = 10 by omega] at h; exact h))
              have q1 := IntWalk.i64_in ((d : Int) - 1) (by omega)
              go_wp2
              go_roundw
              case rel => exact ⟨d, (d : Int) - 1, T, by omega, by go_num, Lib.hid rfl, HTA, Ho.out, Hb.out⟩
              case measure => simp [intOf]
        · have ez : z = -1 := by have := HZ.out; omega
          subst ez
          have HTl := Lib.hid (show T.length = N * 10 by rw [HT.out.1, HNe.out])
          have HT0 := Lib.hid (show TabE L T 0 by have h := HT.out; rw [show e = 0 by omega] at h; exact h)
          clear HT HZ he0 he
          go_wp2
          go_loopw [11, 87] (fun b i wz => ∃ k : Nat, k ≤ L.length ∧ i = .int .i64 k ∧ b = .int .i64 (bestC L (MC L) 0 (-1) k) ∧ wz.ownsRow w2.heap.size 74 10 (.slice (some ⟨w2.heap.size, 0, none⟩) N N) N (intsRow T) ∧ Below w2.heap.size w2 wz) (fun _ i _ => L.length - (intOf i).toNat)
          case atStart => exact ⟨0, Nat.zero_le _, rfl, rfl, Ho.out, Hb.out⟩
          case round =>
            clear Ho Hb
            rename World => wz
            obtain ⟨k, hk, rfl, rfl, ho, hb⟩ := hrel
            have Ho := Lib.hid ho
            have Hb := Lib.hid hb
            have HBZ := Lib.hid hb
            have hszz := hb.size
            have Hvz := Lib.hid (Hv2.out.below hb)
            clear ho hb
            by_cases hkl : k < L.length
            · have HAF := Lib.hid (fun j (hj : j < (stepAt L k).after.length) => steps_after Hok.out hkl (k := j) hj)
              go_wp2_with fail
              refine (implReady_any _ L _ 0 k Hvz.out hkl (fun j hj => by have := HAF.out j hj; omega) (by omega)).mono ?_
              rintro e w5 ⟨rfl, rfl⟩
              cases hrd : readyM (stepAt L k) 0
              · have HC := Lib.hid (bestC_no (M := MC L) (t := (-1 : Int)) (show canM L 0 k = false by simp [canM, hrd]))
                clear hrd
                go_wp2
                go_roundw
                case rel => exact ⟨k + 1, by omega, by go_num, by rw [HC.out], Ho.out, Hb.out⟩
                case measure => simp [intOf]; omega
              · have HC := Lib.hid (bestC_yes (M := MC L) (t := (-1 : Int)) (show canM L 0 k = true by simp [canM, hrd]))
                obtain ⟨tk, htk, htk9⟩ := toolC_nat Hok.out hkl
                obtain ⟨gs, os, hA2, hgs, _, m0, _⟩ := Hr2.out.at hkl
                subst hA2
                have m1 := (HBZ.out.cell (p := ⟨gs, os + k * 3 + 1, none⟩) hgs).trans m0
                rw [show (stepAt L k).tool = (tk : Int) from htk] at m1
                have j0 : (0 : Int) ≤ (k : Int) := Int.natCast_nonneg _
                have j1 : (k : Int) < (L.length : Int) := by omega
                have j4 : (0 : Int) ≤ (tk : Int) := Int.natCast_nonneg _
                have j5 : (tk : Int) < 10 := by omega
                have j6 : (k : Int) < 64 := by omega
                have hG := or_lt_all (n := L.length) (d := 0) (k := k) (Nat.zero_le _) hkl
                rw [Nat.zero_or] at hG HC
                rw [htk, show costC L (-1) k = 0 by simp [costC], Int.zero_add] at HC
                have o1 := wrap_pow (b := k) (by omega)
                have o2 := wrapW_pow (b := k) (by omega)
                obtain ⟨G, hGe⟩ : ∃ G, G = 2 ^ k := ⟨_, rfl⟩
                rw [← hGe] at o1 o2 hG HC
                have O1 := Lib.hid o1
                have O2 := Lib.hid o2
                clear o1 o2 hGe
                have HTT := Lib.hid (HT0.out.2 G tk (Nat.zero_le _) hG htk9)
                rw [← HALe.out] at hG
                have e2 := (Ho.out.cellAt (G * 10 + tk) (by omega)).trans (intsRow_at T (G * 10 + tk) (by rw [HTl.out]; omega))
                rw [HTT.out] at e2
                have hyb := MC_bd L G (tk : Int)
                obtain ⟨y, hy⟩ : ∃ y, y = MC L G (tk : Int) := ⟨_, rfl⟩
                rw [← hy] at e2 HC hyb
                obtain ⟨bk, hbk⟩ : ∃ bk, bk = bestC L (MC L) 0 (-1) k := ⟨_, rfl⟩
                rw [← hbk] at HC ⊢
                have j2 : (0 : Int) ≤ (G : Int) := Int.natCast_nonneg _
                have j3 : (G : Int) < (N : Int) := by omega
                have o1 := O1.out
                have o2 := O2.out
                clear hrd hy hbk m0 htk
                go_wp2
                refine wp_region_held_drew (S := (fun w' => w'.cell? ⟨w2.heap.size, G * 10 + tk, none⟩ = some (.int .i64 y) ∧ w'.cell? ⟨gs, os + k * 3 + 1, none⟩ = some (.int .i64 tk))) (by kernel_rfl) ?_ (fun hHeld => ?_)
                · (try dsimp only); first | (go_split_ands; exact ⟨by assumption, by assumption⟩) | go_keep
                refine wpAnyH_take (i := 0) (v := ?_) rfl (by kernel_rfl) (by kernel_rfl) (by kernel_rfl) (fun _ _ _ h => h) (Or.inl ⟨by rfl, ?_⟩) (by assumption) ?_
                rotate_left
                · (intro w hSw; (try dsimp only at hSw); go_simp) <;> with_reducible rfl
                try simp only [Act.put, List.setIfInBounds_toArray, List.set_cons_zero, List.set_cons_succ, List.getElem_toArray, List.getElem_cons_succ, List.getElem_cons_zero]
                refine wpAnyH_take (i := 1) (v := ?_) rfl (by kernel_rfl) (by kernel_rfl) (by kernel_rfl) (fun _ _ _ h => h) (Or.inl ⟨by rfl, ?_⟩) (by assumption) ?_
                rotate_left
                · (intro w hSw; (try dsimp only at hSw); go_simp) <;> with_reducible rfl
                try simp only [Act.put, List.setIfInBounds_toArray, List.set_cons_zero, List.set_cons_succ, List.getElem_toArray, List.getElem_cons_succ, List.getElem_cons_zero]
                refine wpAnyH_take (i := 2) (v := ?_) rfl (by kernel_rfl) (by kernel_rfl) (by kernel_rfl) (fun _ _ _ h => h) (Or.inl ⟨by rfl, ?_⟩) (by assumption) ?_
                rotate_left
                · (intro w hSw; (try dsimp only at hSw); go_simp) <;> with_reducible rfl
                try simp only [Act.put, List.setIfInBounds_toArray, List.set_cons_zero, List.set_cons_succ, List.getElem_toArray, List.getElem_cons_succ, List.getElem_cons_zero]
                refine wpAnyH_take (i := 3) (v := ?_) rfl (by kernel_rfl) (by kernel_rfl) (by kernel_rfl) (fun _ _ _ h => h) (Or.inl ⟨by rfl, ?_⟩) (by assumption) ?_
                rotate_left
                · (intro w hSw; (try dsimp only at hSw); go_simp) <;> with_reducible rfl
                try simp only [Act.put, List.setIfInBounds_toArray, List.set_cons_zero, List.set_cons_succ, List.getElem_toArray, List.getElem_cons_succ, List.getElem_cons_zero]
                refine wpAnyH_take (i := 4) (v := ?_) rfl (by kernel_rfl) (by kernel_rfl) (by kernel_rfl) (fun _ _ _ h => h) (Or.inl ⟨by rfl, ?_⟩) (by assumption) ?_
                rotate_left
                · (intro w hSw; (try dsimp only at hSw); go_simp) <;> with_reducible rfl
                try simp only [Act.put, List.setIfInBounds_toArray, List.set_cons_zero, List.set_cons_succ, List.getElem_toArray, List.getElem_cons_succ, List.getElem_cons_zero]
                refine wpAnyH_take (i := 5) (v := ?_) rfl (by kernel_rfl) (by kernel_rfl) (by kernel_rfl) (fun _ _ _ h => h) (Or.inl ⟨by rfl, ?_⟩) (by assumption) ?_
                rotate_left
                · (intro w hSw; (try dsimp only at hSw); go_simp) <;> with_reducible rfl
                try simp only [Act.put, List.setIfInBounds_toArray, List.set_cons_zero, List.set_cons_succ, List.getElem_toArray, List.getElem_cons_succ, List.getElem_cons_zero]
                refine wpAnyH_take (i := 6) (v := ?_) rfl (by kernel_rfl) (by kernel_rfl) (by kernel_rfl) (fun _ _ _ h => h) (Or.inl ⟨by rfl, ?_⟩) (by assumption) ?_
                rotate_left
                · (intro w hSw; (try dsimp only at hSw); go_simp) <;> with_reducible rfl
                try simp only [Act.put, List.setIfInBounds_toArray, List.set_cons_zero, List.set_cons_succ, List.getElem_toArray, List.getElem_cons_succ, List.getElem_cons_zero]
                refine wpAnyH_take (i := 7) (v := ?_) rfl (by kernel_rfl) (by kernel_rfl) (by kernel_rfl) (fun _ _ _ h => h) (Or.inl ⟨by rfl, ?_⟩) (by assumption) ?_
                rotate_left
                · (intro w hSw; (try dsimp only at hSw); go_simp) <;> with_reducible rfl
                try simp only [Act.put, List.setIfInBounds_toArray, List.set_cons_zero, List.set_cons_succ, List.getElem_toArray, List.getElem_cons_succ, List.getElem_cons_zero]
                refine wpAnyH_take (i := 8) (v := ?_) rfl (by kernel_rfl) (by kernel_rfl) (by kernel_rfl) (fun _ _ _ h => h) (Or.inl ⟨by rfl, ?_⟩) (by assumption) ?_
                rotate_left
                · (intro w hSw; (try dsimp only at hSw); go_simp) <;> with_reducible rfl
                try simp only [Act.put, List.setIfInBounds_toArray, List.set_cons_zero, List.set_cons_succ, List.getElem_toArray, List.getElem_cons_succ, List.getElem_cons_zero]
                refine wpAnyH_take (i := 9) (v := ?_) rfl (by kernel_rfl) (by kernel_rfl) (by kernel_rfl) (fun _ _ _ h => h) (Or.inl ⟨by rfl, ?_⟩) (by assumption) ?_
                rotate_left
                · (intro w hSw; (try dsimp only at hSw); go_simp) <;> with_reducible rfl
                try simp only [Act.put, List.setIfInBounds_toArray, List.set_cons_zero, List.set_cons_succ, List.getElem_toArray, List.getElem_cons_succ, List.getElem_cons_zero]
                refine wpAnyH_take (i := 10) (v := ?_) rfl (by kernel_rfl) (by kernel_rfl) (by kernel_rfl) (fun _ _ _ h => h) (Or.inl ⟨by rfl, ?_⟩) (by assumption) ?_
                rotate_left
                · (intro w hSw; (try dsimp only at hSw); go_simp) <;> with_reducible rfl
                try simp only [Act.put, List.setIfInBounds_toArray, List.set_cons_zero, List.set_cons_succ, List.getElem_toArray, List.getElem_cons_succ, List.getElem_cons_zero]
                refine wpAnyH_take (i := 11) (v := ?_) rfl (by kernel_rfl) (by kernel_rfl) (by kernel_rfl) (fun _ _ _ h => h) (Or.inl ⟨by rfl, ?_⟩) (by assumption) ?_
                rotate_left
                · (intro w hSw; (try dsimp only at hSw); go_simp) <;> with_reducible rfl
                try simp only [Act.put, List.setIfInBounds_toArray, List.set_cons_zero, List.set_cons_succ, List.getElem_toArray, List.getElem_cons_succ, List.getElem_cons_zero]
                refine wpAnyH_take (i := 12) (v := ?_) rfl (by kernel_rfl) (by kernel_rfl) (by kernel_rfl) (fun _ _ _ h => h) (Or.inl ⟨by rfl, ?_⟩) (by assumption) ?_
                rotate_left
                · (intro w hSw; (try dsimp only at hSw); go_simp) <;> with_reducible rfl
                try simp only [Act.put, List.setIfInBounds_toArray, List.set_cons_zero, List.set_cons_succ, List.getElem_toArray, List.getElem_cons_succ, List.getElem_cons_zero]
                refine wpAnyH_take (i := 13) (v := ?_) rfl (by kernel_rfl) (by kernel_rfl) (by kernel_rfl) (fun _ _ _ h => h) (Or.inl ⟨by rfl, ?_⟩) (by assumption) ?_
                rotate_left
                · (intro w hSw; (try dsimp only at hSw); go_simp) <;> with_reducible rfl
                try simp only [Act.put, List.setIfInBounds_toArray, List.set_cons_zero, List.set_cons_succ, List.getElem_toArray, List.getElem_cons_succ, List.getElem_cons_zero]
                refine wpAnyH_done (by kernel_rfl) ?_ _
                have Ho4 := Lib.hid Ho.out.drew
                have Hb4 := Lib.hid Hb.out.drew
                clear e2 m1
                go_wp2
                go_roundw
                case rel => exact ⟨k + 1, by omega, by go_num, by rw [HC.out, ← mn_min], Ho4.out, Hb4.out⟩
                case measure => simp [intOf]; omega
            · have HLE := Lib.hid (show bestC L (MC L) 0 (-1) k = leastC L by rw [leastC, show k = L.length by omega])
              rw [HLE.out]
              obtain ⟨LC, hLC⟩ : ∃ LC, LC = leastC L := ⟨_, rfl⟩
              have HLC := Lib.hid hLC
              rw [← hLC] at HLT HST H ⊢
              have HCA := Lib.hid (show calmC L = goC L L.length 0 (-1) LC by rw [calmC, hLC])
              obtain ⟨wr, rfl⟩ : ∃ wr : World, wr = wz := ⟨_, rfl⟩
              clear hLC
              go_wp2
              go_loopw [13, 14, 15, 16] (fun o dn tl le wx => ∃ (f d : Nat) (t left : Int) (P : List Int) (Ao : Option Addr) (co : Nat), o = .slice Ao P.length co ∧ dn = .int .i64 d ∧ tl = .int .i64 t ∧ le = .int .i64 left ∧ Hid (StC L d t left) ∧ Hid (intN (calmC L) = P ++ intN (goC L f d t left)) ∧ Hid (zeros L.length d = f) ∧ Hid (P.length + f = L.length) ∧ Hid (wx.ownsRow wr.heap.size 2 1 (.slice Ao P.length co) P.length (intsRow P)) ∧ Below wr.heap.size wr wx) (fun _ dn _ _ _ => N - (intOf dn).toNat)
              case atStart => exact ⟨L.length, 0, -1, LC, [], none, 0, rfl, rfl, rfl, rfl, HST, Lib.hid (by rw [HCA.out]; rfl), Lib.hid (zeros_zero _), Lib.hid (by simp), Lib.hid (World.ownsRow_nil _ _ _ _), Below.refl _ _⟩
              case round =>
                rename World => wx
                obtain ⟨f, d, t, left, P, Ao, co, rfl, rfl, rfl, rfl, HSt, HGo, HZf, HPf, HOo, hb⟩ := hrel
                have Hbx := Lib.hid hb
                have hszx := hb.size
                have hdA : d ≤ AL := by rw [HALe.out]; exact HSt.out.1
                have hP9 : P.length ≤ 9 := by have := HPf.out; omega
                have hlf := HSt.out.2.2
                have hlz : 0 ≤ left := by rw [HSt.out.2.1]; exact valC_nn _ _ _
                clear hb
                by_cases hda : d = AL
                · have t1 : ((d : Int) != (AL : Int)) = false := by simp [hda]
                  have HE := Lib.hid (show intN (calmC L) = P by rw [HGo.out, hda, HALe.out, goC_all]; simp [intN])
                  have HO2 := Lib.hid (show wx.ownsRow wr.heap.size 2 1 (.slice Ao P.length co) (intN (calmC L)).length (intsRow (intN (calmC L))) by rw [HE.out]; exact HOo.out)
                  clear hda
                  go_wp2
                  go_ret3
                  exact RetSIC.ok H.out HO2.out rfl rfl (by omega) (Hb2.out.trans ((Hb.out.trans (Hbx.out.mono Hb.out.size)).mono Hb2.out.size))
                · have t1 : ((d : Int) != (AL : Int)) = true := by simp; omega
                  have hdl : d < AL := by omega
                  have HPK := Lib.hid (stC_pick HSt.out (by rw [← HALe.out]; exact hda))
                  obtain ⟨f', rfl⟩ : ∃ f', f = f' + 1 := ⟨f - 1, by have := HZf.out; have := zeros_pos (n := L.length) (m := d) (by rw [← HALe.out]; exact hdl); omega⟩
                  clear hda
                  go_wp2
                  go_loopw [13, 14, 15, 16, 113] (fun o dn tl le i wy => ∃ k : Nat, k ≤ L.length ∧ i = .int .i64 k ∧ o = .slice Ao P.length co ∧ dn = .int .i64 d ∧ tl = .int .i64 t ∧ le = .int .i64 left ∧ (∀ j, j < k → okC L d t left j = false) ∧ Hid (wy.ownsRow wr.heap.size 2 1 (.slice Ao P.length co) P.length (intsRow P)) ∧ Below wr.heap.size wr wy) (fun _ _ _ _ i _ => L.length - (intOf i).toNat)
                  case atStart => exact ⟨0, Nat.zero_le _, rfl, rfl, rfl, rfl, rfl, fun j h => absurd h (by omega), HOo, Hbx.out⟩
                  case round =>
                    clear HOo Hbx hszx
                    rename World => wy
                    obtain ⟨k, hk, rfl, rfl, rfl, rfl, rfl, hall, HOo, hb⟩ := hrel
                    have Hbx := Lib.hid hb
                    have hszx := hb.size
                    have HBZ := Lib.hid (Hb.out.trans (hb.mono Hb.out.size))
                    have Hvz := Lib.hid (Hv2.out.below HBZ.out)
                    have HoT := Lib.hid (own_below Ho.out hb)
                    have Hall := Lib.hid hall
                    clear hall hb
                    by_cases hkl : k < L.length
                    · have HAF := Lib.hid (fun j (hj : j < (stepAt L k).after.length) => steps_after Hok.out hkl (k := j) hj)
                      have HNX := Lib.hid (fun (h : okC L d t left k = false) => (show ∀ j, j < k + 1 → okC L d t left j = false from fun j hj => by
                        by_cases e : j = k
                        · subst e; exact h
                        · exact Hall.out j (by omega)))
                      cases hbit : d.testBit k
                      · have s1 := mask_no (m := d) (b := k) (by omega) (by omega) hbit
                        go_wp2_with fail
                        refine (implReady_any _ L _ d k Hvz.out hkl (fun j hj => by have := HAF.out j hj; omega) (by omega)).mono ?_
                        rintro e w5 ⟨rfl, rfl⟩
                        cases hrd : readyM (stepAt L k) d
                        · have HN := Lib.hid (HNX.out (by simp [okC, canM, hrd]))
                          clear hbit hrd
                          go_wp2
                          go_roundw
                          case rel => exact ⟨k + 1, by omega, by go_num, rfl, rfl, rfl, rfl, HN.out, HOo, Hbx.out⟩
                          case measure => simp [intOf]; omega
                        · have HCM := Lib.hid (show canM L d k = true by simp [canM, hbit, hrd])
                          obtain ⟨tk, htk, htk9⟩ := toolC_nat Hok.out hkl
                          obtain ⟨gs, os, hA2, hgs, _, m0, _⟩ := Hr2.out.at hkl
                          subst hA2
                          have m1 := (HBZ.out.cell (p := ⟨gs, os + k * 3 + 1, none⟩) hgs).trans m0
                          rw [show (stepAt L k).tool = (tk : Int) from htk] at m1
                          have j0 : (0 : Int) ≤ (k : Int) := Int.natCast_nonneg _
                          have j1 : (k : Int) < (L.length : Int) := by omega
                          have j4 : (0 : Int) ≤ (tk : Int) := Int.natCast_nonneg _
                          have j5 : (tk : Int) < 10 := by omega
                          have j6 : (k : Int) < 64 := by omega
                          have hG := or_lt_all (n := L.length) (d := d) (k := k) (by rw [← HALe.out]; omega) hkl
                          rw [← HALe.out] at hG
                          have hGd : d < d ||| 2 ^ k := by rw [or_add hbit]; have := Nat.two_pow_pos k; omega
                          have o1 := mask_or (m := d) (b := k) (by omega) (by omega)
                          have o2 := mask_orW (m := d) (b := k) (by omega) (by omega)
                          have e2 := (HoT.out.cellAt ((d ||| 2 ^ k) * 10 + tk) (by omega)).trans (intsRow_at T ((d ||| 2 ^ k) * 10 + tk) (by rw [HTl.out]; omega))
                          rw [HT0.out.2 (d ||| 2 ^ k) tk (Nat.zero_le _) (by rw [← HALe.out]; exact hG) htk9] at e2
                          have HOK := Lib.hid (show okC L d t left k = decide (costC L t k + MC L (d ||| 2 ^ k) (tk : Int) = left) by rw [okC, HCM.out, htk, Bool.true_and])
                          have hyb := MC_bd L (d ||| 2 ^ k) (tk : Int)
                          have HNG := Lib.hid (fun hp => (show intN (calmC L) = (P ++ [(k : Int)]) ++ intN (goC L f' (d ||| 2 ^ k) (tk : Int) (left - costC L t k)) by rw [HGo.out, goC_some hp, htk]; simp [intN]))
                          have HNS := Lib.hid (fun hp => (show StC L (d ||| 2 ^ k) (tk : Int) (left - costC L t k) by rw [← htk]; exact (stC_next HSt.out hp).1))
                          have HNZ := Lib.hid (show zeros L.length (d ||| 2 ^ k) = f' by have h := zeros_or d k hbit L.length; rw [if_pos hkl] at h; have := HZf.out; omega)
                          obtain ⟨y, hy⟩ : ∃ y, y = MC L (d ||| 2 ^ k) (tk : Int) := ⟨_, rfl⟩
                          rw [← hy] at e2 HOK hyb
                          obtain ⟨G, hGe⟩ : ∃ G, G = d ||| 2 ^ k := ⟨_, rfl⟩
                          rw [← hGe] at o1 o2 hG hGd e2 HNG HNS HNZ
                          have hcb := costC_bd L t k
                          have j2 : (0 : Int) ≤ (G : Int) := Int.natCast_nonneg _
                          have j3 : (G : Int) < (N : Int) := by omega
                          have M0 := Lib.hid (show w2.cell? ⟨gs, os + k * 3 + 1, none⟩ = some (.int .i64 (tk : Int)) by rw [← htk]; exact m0)
                          clear hbit hrd hy hGe m0 htk
                          go_wp2_with fail
                          refine (implCost_any _ L _ t k Hvz.out hkl).mono ?_
                          rintro e w5 ⟨rfl, rfl⟩
                          obtain ⟨cs, hcs⟩ : ∃ cs, cs = costC L t k := ⟨_, rfl⟩
                          rw [← hcs] at HOK HNG HNS hcb ⊢
                          have x1 := IntWalk.i64_in (cs + y) (by omega)
                          have x2 := IntWalk.i64_in (left - cs) (by omega)
                          clear hcs
                          by_cases hq : cs + y = left
                          · have s3 : (cs + y == left) = true := by simpa using hq
                            have HP := Lib.hid (pickC_some hkl (by rw [HOK.out]; simpa using hq) Hall.out)
                            clear hq
                            go_wp2
                            refine wp_region_held_drew (S := (fun w' => w'.cell? ⟨w2.heap.size, G * 10 + tk, none⟩ = some (.int .i64 y) ∧ w'.cell? ⟨gs, os + k * 3 + 1, none⟩ = some (.int .i64 tk))) (by kernel_rfl) ?_ (fun hHeld => ?_)
                            · (try dsimp only); first | (go_split_ands; exact ⟨by assumption, by assumption⟩) | go_keep
                            refine wpAnyH_take (i := 0) (v := ?_) rfl (by kernel_rfl) (by kernel_rfl) (by kernel_rfl) (fun _ _ _ h => h) (Or.inl ⟨by rfl, ?_⟩) (by assumption) ?_
                            rotate_left
                            · (intro w hSw; (try dsimp only at hSw); go_simp) <;> with_reducible rfl
                            try simp only [Act.put, List.setIfInBounds_toArray, List.set_cons_zero, List.set_cons_succ, List.getElem_toArray, List.getElem_cons_succ, List.getElem_cons_zero]
                            refine wpAnyH_take (i := 1) (v := ?_) rfl (by kernel_rfl) (by kernel_rfl) (by kernel_rfl) (fun _ _ _ h => h) (Or.inl ⟨by rfl, ?_⟩) (by assumption) ?_
                            rotate_left
                            · (intro w hSw; (try dsimp only at hSw); go_simp) <;> with_reducible rfl
                            try simp only [Act.put, List.setIfInBounds_toArray, List.set_cons_zero, List.set_cons_succ, List.getElem_toArray, List.getElem_cons_succ, List.getElem_cons_zero]
                            refine wpAnyH_take (i := 2) (v := ?_) rfl (by kernel_rfl) (by kernel_rfl) (by kernel_rfl) (fun _ _ _ h => h) (Or.inl ⟨by rfl, ?_⟩) (by assumption) ?_
                            rotate_left
                            · (intro w hSw; (try dsimp only at hSw); go_simp) <;> with_reducible rfl
                            try simp only [Act.put, List.setIfInBounds_toArray, List.set_cons_zero, List.set_cons_succ, List.getElem_toArray, List.getElem_cons_succ, List.getElem_cons_zero]
                            refine wpAnyH_take (i := 3) (v := ?_) rfl (by kernel_rfl) (by kernel_rfl) (by kernel_rfl) (fun _ _ _ h => h) (Or.inl ⟨by rfl, ?_⟩) (by assumption) ?_
                            rotate_left
                            · (intro w hSw; (try dsimp only at hSw); go_simp) <;> with_reducible rfl
                            try simp only [Act.put, List.setIfInBounds_toArray, List.set_cons_zero, List.set_cons_succ, List.getElem_toArray, List.getElem_cons_succ, List.getElem_cons_zero]
                            refine wpAnyH_take (i := 4) (v := ?_) rfl (by kernel_rfl) (by kernel_rfl) (by kernel_rfl) (fun _ _ _ h => h) (Or.inl ⟨by rfl, ?_⟩) (by assumption) ?_
                            rotate_left
                            · (intro w hSw; (try dsimp only at hSw); go_simp) <;> with_reducible rfl
                            try simp only [Act.put, List.setIfInBounds_toArray, List.set_cons_zero, List.set_cons_succ, List.getElem_toArray, List.getElem_cons_succ, List.getElem_cons_zero]
                            refine wpAnyH_take (i := 5) (v := ?_) rfl (by kernel_rfl) (by kernel_rfl) (by kernel_rfl) (fun _ _ _ h => h) (Or.inl ⟨by rfl, ?_⟩) (by assumption) ?_
                            rotate_left
                            · (intro w hSw; (try dsimp only at hSw); go_simp) <;> with_reducible rfl
                            try simp only [Act.put, List.setIfInBounds_toArray, List.set_cons_zero, List.set_cons_succ, List.getElem_toArray, List.getElem_cons_succ, List.getElem_cons_zero]
                            refine wpAnyH_take (i := 6) (v := ?_) rfl (by kernel_rfl) (by kernel_rfl) (by kernel_rfl) (fun _ _ _ h => h) (Or.inl ⟨by rfl, ?_⟩) (by assumption) ?_
                            rotate_left
                            · (intro w hSw; (try dsimp only at hSw); go_simp) <;> with_reducible rfl
                            try simp only [Act.put, List.setIfInBounds_toArray, List.set_cons_zero, List.set_cons_succ, List.getElem_toArray, List.getElem_cons_succ, List.getElem_cons_zero]
                            refine wpAnyH_take (i := 7) (v := ?_) rfl (by kernel_rfl) (by kernel_rfl) (by kernel_rfl) (fun _ _ _ h => h) (Or.inl ⟨by rfl, ?_⟩) (by assumption) ?_
                            rotate_left
                            · (intro w hSw; (try dsimp only at hSw); go_simp) <;> with_reducible rfl
                            try simp only [Act.put, List.setIfInBounds_toArray, List.set_cons_zero, List.set_cons_succ, List.getElem_toArray, List.getElem_cons_succ, List.getElem_cons_zero]
                            refine wpAnyH_take (i := 8) (v := ?_) rfl (by kernel_rfl) (by kernel_rfl) (by kernel_rfl) (fun _ _ _ h => h) (Or.inl ⟨by rfl, ?_⟩) (by assumption) ?_
                            rotate_left
                            · (intro w hSw; (try dsimp only at hSw); go_simp) <;> with_reducible rfl
                            try simp only [Act.put, List.setIfInBounds_toArray, List.set_cons_zero, List.set_cons_succ, List.getElem_toArray, List.getElem_cons_succ, List.getElem_cons_zero]
                            refine wpAnyH_take (i := 9) (v := ?_) rfl (by kernel_rfl) (by kernel_rfl) (by kernel_rfl) (fun _ _ _ h => h) (Or.inl ⟨by rfl, ?_⟩) (by assumption) ?_
                            rotate_left
                            · (intro w hSw; (try dsimp only at hSw); go_simp) <;> with_reducible rfl
                            try simp only [Act.put, List.setIfInBounds_toArray, List.set_cons_zero, List.set_cons_succ, List.getElem_toArray, List.getElem_cons_succ, List.getElem_cons_zero]
                            refine wpAnyH_take (i := 10) (v := ?_) rfl (by kernel_rfl) (by kernel_rfl) (by kernel_rfl) (fun _ _ _ h => h) (Or.inl ⟨by rfl, ?_⟩) (by assumption) ?_
                            rotate_left
                            · (intro w hSw; (try dsimp only at hSw); go_simp) <;> with_reducible rfl
                            try simp only [Act.put, List.setIfInBounds_toArray, List.set_cons_zero, List.set_cons_succ, List.getElem_toArray, List.getElem_cons_succ, List.getElem_cons_zero]
                            refine wpAnyH_take (i := 11) (v := ?_) rfl (by kernel_rfl) (by kernel_rfl) (by kernel_rfl) (fun _ _ _ h => h) (Or.inl ⟨by rfl, ?_⟩) (by assumption) ?_
                            rotate_left
                            · (intro w hSw; (try dsimp only at hSw); go_simp) <;> with_reducible rfl
                            try simp only [Act.put, List.setIfInBounds_toArray, List.set_cons_zero, List.set_cons_succ, List.getElem_toArray, List.getElem_cons_succ, List.getElem_cons_zero]
                            refine wpAnyH_take (i := 12) (v := ?_) rfl (by kernel_rfl) (by kernel_rfl) (by kernel_rfl) (fun _ _ _ h => h) (Or.inl ⟨by rfl, ?_⟩) (by assumption) ?_
                            rotate_left
                            · (intro w hSw; (try dsimp only at hSw); go_simp) <;> with_reducible rfl
                            try simp only [Act.put, List.setIfInBounds_toArray, List.set_cons_zero, List.set_cons_succ, List.getElem_toArray, List.getElem_cons_succ, List.getElem_cons_zero]
                            refine wpAnyH_take (i := 13) (v := ?_) rfl (by kernel_rfl) (by kernel_rfl) (by kernel_rfl) (fun _ _ _ h => h) (Or.inl ⟨by rfl, ?_⟩) (by assumption) ?_
                            rotate_left
                            · (intro w hSw; (try dsimp only at hSw); go_simp) <;> with_reducible rfl
                            try simp only [Act.put, List.setIfInBounds_toArray, List.set_cons_zero, List.set_cons_succ, List.getElem_toArray, List.getElem_cons_succ, List.getElem_cons_zero]
                            refine wpAnyH_take (i := 14) (v := ?_) rfl (by kernel_rfl) (by kernel_rfl) (by kernel_rfl) (fun _ _ _ h => h) (Or.inl ⟨by rfl, ?_⟩) (by assumption) ?_
                            rotate_left
                            · (intro w hSw; (try dsimp only at hSw); go_simp) <;> with_reducible rfl
                            try simp only [Act.put, List.setIfInBounds_toArray, List.set_cons_zero, List.set_cons_succ, List.getElem_toArray, List.getElem_cons_succ, List.getElem_cons_zero]
                            refine wpAnyH_take (i := 15) (v := ?_) rfl (by kernel_rfl) (by kernel_rfl) (by kernel_rfl) (fun _ _ _ h => h) (Or.inl ⟨by rfl, ?_⟩) (by assumption) ?_
                            rotate_left
                            · (intro w hSw; (try dsimp only at hSw); go_simp) <;> with_reducible rfl
                            try simp only [Act.put, List.setIfInBounds_toArray, List.set_cons_zero, List.set_cons_succ, List.getElem_toArray, List.getElem_cons_succ, List.getElem_cons_zero]
                            refine wpAnyH_take (i := 16) (v := ?_) rfl (by kernel_rfl) (by kernel_rfl) (by kernel_rfl) (fun _ _ _ h => h) (Or.inl ⟨by rfl, ?_⟩) (by assumption) ?_
                            rotate_left
                            · (intro w hSw; (try dsimp only at hSw); go_simp) <;> with_reducible rfl
                            try simp only [Act.put, List.setIfInBounds_toArray, List.set_cons_zero, List.set_cons_succ, List.getElem_toArray, List.getElem_cons_succ, List.getElem_cons_zero]
                            refine wpAnyH_done (by kernel_rfl) ?_ _
                            have HO4 := Lib.hid HOo.out.drew
                            have Hb4 := Lib.hid Hbx.out.drew
                            clear e2 m1
                            go_wp2_with (at_builtin; refine wpList_append_sl _ rfl (.tmp 149) (.tmp 151) _ rfl wr.heap.size 2 ii0 _ 1 8 Try.underlying29 ji jz0 jz1 jz2 rfl (by omega) _ P.length (intsRow P) rfl (HO4.out.alloc _) (some ⟨wy.heap.size, 0, none⟩) 1 1 [.int .i64 (k : Int)] rfl (Rd.of_block (cs := #[.int .i64 (k : Int)]) (heap_alloc_new _ _) rfl) (by intro x hx; simp at hx; subst hx; rfl) (by unfold maxLen; omega) (by omega) (by simp; omega) ?_; intro A9 c9 w9 ho9 hg9 hor9; have b9 : Below wr.heap.size wr w9 := ((Hb4.out.alloc hszx _).grown hg9 (by simp; omega) (fun k hk => (World.ownsRow.lt HOo.out k hk).1)); have m9 := ((Hb.out.trans (b9.mono Hb.out.size)).cell (p := ⟨gs, os + k * 3 + 1, none⟩) hgs).trans M0.out)
                            have B9 := Lib.hid b9
                            have Ho9 := Lib.hid ho9
                            clear ho9 hg9 hor9 b9 m9
                            go_roundw
                            case rel => exact ⟨f', G, tk, left - cs, P ++ [(k : Int)], A9, c9, by rw [List.length_append]; rfl, rfl, rfl, rfl, HNS.out HP.out, Lib.hid (HNG.out HP.out), HNZ, Lib.hid (by have := HPf.out; simp; omega), Lib.hid (by rw [List.length_append, intsRow_append]; exact Ho9.out), B9.out⟩
                            case measure => simp [intOf]; omega
                          · have s3 : (cs + y == left) = false := by simpa using hq
                            have HN := Lib.hid (HNX.out (by rw [HOK.out]; simpa using hq))
                            clear hq
                            go_wp2
                            refine wp_region_held_drew (S := (fun w' => w'.cell? ⟨w2.heap.size, G * 10 + tk, none⟩ = some (.int .i64 y) ∧ w'.cell? ⟨gs, os + k * 3 + 1, none⟩ = some (.int .i64 tk))) (by kernel_rfl) ?_ (fun hHeld => ?_)
                            · (try dsimp only); first | (go_split_ands; exact ⟨by assumption, by assumption⟩) | go_keep
                            refine wpAnyH_take (i := 0) (v := ?_) rfl (by kernel_rfl) (by kernel_rfl) (by kernel_rfl) (fun _ _ _ h => h) (Or.inl ⟨by rfl, ?_⟩) (by assumption) ?_
                            rotate_left
                            · (intro w hSw; (try dsimp only at hSw); go_simp) <;> with_reducible rfl
                            try simp only [Act.put, List.setIfInBounds_toArray, List.set_cons_zero, List.set_cons_succ, List.getElem_toArray, List.getElem_cons_succ, List.getElem_cons_zero]
                            refine wpAnyH_take (i := 1) (v := ?_) rfl (by kernel_rfl) (by kernel_rfl) (by kernel_rfl) (fun _ _ _ h => h) (Or.inl ⟨by rfl, ?_⟩) (by assumption) ?_
                            rotate_left
                            · (intro w hSw; (try dsimp only at hSw); go_simp) <;> with_reducible rfl
                            try simp only [Act.put, List.setIfInBounds_toArray, List.set_cons_zero, List.set_cons_succ, List.getElem_toArray, List.getElem_cons_succ, List.getElem_cons_zero]
                            refine wpAnyH_take (i := 2) (v := ?_) rfl (by kernel_rfl) (by kernel_rfl) (by kernel_rfl) (fun _ _ _ h => h) (Or.inl ⟨by rfl, ?_⟩) (by assumption) ?_
                            rotate_left
                            · (intro w hSw; (try dsimp only at hSw); go_simp) <;> with_reducible rfl
                            try simp only [Act.put, List.setIfInBounds_toArray, List.set_cons_zero, List.set_cons_succ, List.getElem_toArray, List.getElem_cons_succ, List.getElem_cons_zero]
                            refine wpAnyH_take (i := 3) (v := ?_) rfl (by kernel_rfl) (by kernel_rfl) (by kernel_rfl) (fun _ _ _ h => h) (Or.inl ⟨by rfl, ?_⟩) (by assumption) ?_
                            rotate_left
                            · (intro w hSw; (try dsimp only at hSw); go_simp) <;> with_reducible rfl
                            try simp only [Act.put, List.setIfInBounds_toArray, List.set_cons_zero, List.set_cons_succ, List.getElem_toArray, List.getElem_cons_succ, List.getElem_cons_zero]
                            refine wpAnyH_take (i := 4) (v := ?_) rfl (by kernel_rfl) (by kernel_rfl) (by kernel_rfl) (fun _ _ _ h => h) (Or.inl ⟨by rfl, ?_⟩) (by assumption) ?_
                            rotate_left
                            · (intro w hSw; (try dsimp only at hSw); go_simp) <;> with_reducible rfl
                            try simp only [Act.put, List.setIfInBounds_toArray, List.set_cons_zero, List.set_cons_succ, List.getElem_toArray, List.getElem_cons_succ, List.getElem_cons_zero]
                            refine wpAnyH_take (i := 5) (v := ?_) rfl (by kernel_rfl) (by kernel_rfl) (by kernel_rfl) (fun _ _ _ h => h) (Or.inl ⟨by rfl, ?_⟩) (by assumption) ?_
                            rotate_left
                            · (intro w hSw; (try dsimp only at hSw); go_simp) <;> with_reducible rfl
                            try simp only [Act.put, List.setIfInBounds_toArray, List.set_cons_zero, List.set_cons_succ, List.getElem_toArray, List.getElem_cons_succ, List.getElem_cons_zero]
                            refine wpAnyH_take (i := 6) (v := ?_) rfl (by kernel_rfl) (by kernel_rfl) (by kernel_rfl) (fun _ _ _ h => h) (Or.inl ⟨by rfl, ?_⟩) (by assumption) ?_
                            rotate_left
                            · (intro w hSw; (try dsimp only at hSw); go_simp) <;> with_reducible rfl
                            try simp only [Act.put, List.setIfInBounds_toArray, List.set_cons_zero, List.set_cons_succ, List.getElem_toArray, List.getElem_cons_succ, List.getElem_cons_zero]
                            refine wpAnyH_take (i := 7) (v := ?_) rfl (by kernel_rfl) (by kernel_rfl) (by kernel_rfl) (fun _ _ _ h => h) (Or.inl ⟨by rfl, ?_⟩) (by assumption) ?_
                            rotate_left
                            · (intro w hSw; (try dsimp only at hSw); go_simp) <;> with_reducible rfl
                            try simp only [Act.put, List.setIfInBounds_toArray, List.set_cons_zero, List.set_cons_succ, List.getElem_toArray, List.getElem_cons_succ, List.getElem_cons_zero]
                            refine wpAnyH_take (i := 8) (v := ?_) rfl (by kernel_rfl) (by kernel_rfl) (by kernel_rfl) (fun _ _ _ h => h) (Or.inl ⟨by rfl, ?_⟩) (by assumption) ?_
                            rotate_left
                            · (intro w hSw; (try dsimp only at hSw); go_simp) <;> with_reducible rfl
                            try simp only [Act.put, List.setIfInBounds_toArray, List.set_cons_zero, List.set_cons_succ, List.getElem_toArray, List.getElem_cons_succ, List.getElem_cons_zero]
                            refine wpAnyH_take (i := 9) (v := ?_) rfl (by kernel_rfl) (by kernel_rfl) (by kernel_rfl) (fun _ _ _ h => h) (Or.inl ⟨by rfl, ?_⟩) (by assumption) ?_
                            rotate_left
                            · (intro w hSw; (try dsimp only at hSw); go_simp) <;> with_reducible rfl
                            try simp only [Act.put, List.setIfInBounds_toArray, List.set_cons_zero, List.set_cons_succ, List.getElem_toArray, List.getElem_cons_succ, List.getElem_cons_zero]
                            refine wpAnyH_take (i := 10) (v := ?_) rfl (by kernel_rfl) (by kernel_rfl) (by kernel_rfl) (fun _ _ _ h => h) (Or.inl ⟨by rfl, ?_⟩) (by assumption) ?_
                            rotate_left
                            · (intro w hSw; (try dsimp only at hSw); go_simp) <;> with_reducible rfl
                            try simp only [Act.put, List.setIfInBounds_toArray, List.set_cons_zero, List.set_cons_succ, List.getElem_toArray, List.getElem_cons_succ, List.getElem_cons_zero]
                            refine wpAnyH_take (i := 11) (v := ?_) rfl (by kernel_rfl) (by kernel_rfl) (by kernel_rfl) (fun _ _ _ h => h) (Or.inl ⟨by rfl, ?_⟩) (by assumption) ?_
                            rotate_left
                            · (intro w hSw; (try dsimp only at hSw); go_simp) <;> with_reducible rfl
                            try simp only [Act.put, List.setIfInBounds_toArray, List.set_cons_zero, List.set_cons_succ, List.getElem_toArray, List.getElem_cons_succ, List.getElem_cons_zero]
                            refine wpAnyH_take (i := 12) (v := ?_) rfl (by kernel_rfl) (by kernel_rfl) (by kernel_rfl) (fun _ _ _ h => h) (Or.inl ⟨by rfl, ?_⟩) (by assumption) ?_
                            rotate_left
                            · (intro w hSw; (try dsimp only at hSw); go_simp) <;> with_reducible rfl
                            try simp only [Act.put, List.setIfInBounds_toArray, List.set_cons_zero, List.set_cons_succ, List.getElem_toArray, List.getElem_cons_succ, List.getElem_cons_zero]
                            refine wpAnyH_take (i := 13) (v := ?_) rfl (by kernel_rfl) (by kernel_rfl) (by kernel_rfl) (fun _ _ _ h => h) (Or.inl ⟨by rfl, ?_⟩) (by assumption) ?_
                            rotate_left
                            · (intro w hSw; (try dsimp only at hSw); go_simp) <;> with_reducible rfl
                            try simp only [Act.put, List.setIfInBounds_toArray, List.set_cons_zero, List.set_cons_succ, List.getElem_toArray, List.getElem_cons_succ, List.getElem_cons_zero]
                            refine wpAnyH_take (i := 14) (v := ?_) rfl (by kernel_rfl) (by kernel_rfl) (by kernel_rfl) (fun _ _ _ h => h) (Or.inl ⟨by rfl, ?_⟩) (by assumption) ?_
                            rotate_left
                            · (intro w hSw; (try dsimp only at hSw); go_simp) <;> with_reducible rfl
                            try simp only [Act.put, List.setIfInBounds_toArray, List.set_cons_zero, List.set_cons_succ, List.getElem_toArray, List.getElem_cons_succ, List.getElem_cons_zero]
                            refine wpAnyH_take (i := 15) (v := ?_) rfl (by kernel_rfl) (by kernel_rfl) (by kernel_rfl) (fun _ _ _ h => h) (Or.inl ⟨by rfl, ?_⟩) (by assumption) ?_
                            rotate_left
                            · (intro w hSw; (try dsimp only at hSw); go_simp) <;> with_reducible rfl
                            try simp only [Act.put, List.setIfInBounds_toArray, List.set_cons_zero, List.set_cons_succ, List.getElem_toArray, List.getElem_cons_succ, List.getElem_cons_zero]
                            refine wpAnyH_take (i := 16) (v := ?_) rfl (by kernel_rfl) (by kernel_rfl) (by kernel_rfl) (fun _ _ _ h => h) (Or.inl ⟨by rfl, ?_⟩) (by assumption) ?_
                            rotate_left
                            · (intro w hSw; (try dsimp only at hSw); go_simp) <;> with_reducible rfl
                            try simp only [Act.put, List.setIfInBounds_toArray, List.set_cons_zero, List.set_cons_succ, List.getElem_toArray, List.getElem_cons_succ, List.getElem_cons_zero]
                            refine wpAnyH_done (by kernel_rfl) ?_ _
                            have HO4 := Lib.hid HOo.out.drew
                            have Hb4 := Lib.hid Hbx.out.drew
                            clear e2 m1
                            go_wp2
                            go_roundw
                            case rel => exact ⟨k + 1, by omega, by go_num, rfl, rfl, rfl, rfl, HN.out, HO4, Hb4.out⟩
                            case measure => simp [intOf]; omega
                      · have s1 := mask_yes (m := d) (b := k) (by omega) (by omega) hbit
                        have HN := Lib.hid (HNX.out (by simp [okC, canM, hbit]))
                        clear hbit
                        go_wp2
                        go_roundw
                        case rel => exact ⟨k + 1, by omega, by go_num, rfl, rfl, rfl, rfl, HN.out, HOo, Hbx.out⟩
                        case measure => simp [intOf]; omega
                    · exfalso
                      obtain ⟨q, hq⟩ := HPK.out
                      have hok2 : okC L d t left q = true := by
                        have := pickC_is hq
                        rw [okC, this.2.1, this.2.2]; simp
                      rw [Hall.out q (by have := (pickC_is hq).1; omega)] at hok2
                      cases hok2
end Go.Proofs.Ytecfkomijaakhaa
