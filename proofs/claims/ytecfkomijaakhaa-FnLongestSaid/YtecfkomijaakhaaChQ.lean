/- Chains: the walk of LongestChain in the program. Printed by gen_chq.py. -/
import Derived.Test.YtecfkomijaakhaaChP
import Derived.Test.YtecfkomijaakhaaRecJ
namespace Go.Proofs.Ytecfkomijaakhaa
open Go.RowKit

theorem mx_max (u v : Int) : (if u < v then v else u) = max u v := by
  rw [Int.max_def]; split <;> split <;> omega
def AllIn (T : List Int) (B : Int) : Prop := ∀ i, 0 ≤ intsAt T i ∧ intsAt T i ≤ B
theorem AllIn.set {T : List Int} {B B2 x : Int} (h : AllIn T B) (hB : B ≤ B2) (h0 : 0 ≤ x) (h1 : x ≤ B2) (k : Nat) : AllIn (T.set k x) B2 := by
  intro i
  by_cases hk : k < T.length
  · rw [intsAt_set hk]
    split
    · omega
    · have := h i; omega
  · rw [List.set_eq_of_length_le (by omega)]
    have := h i; omega
theorem mostI_in {L : List Step} {T : List Int} {B : Int} (h : AllIn T B) (i : Nat) : ∀ q, AllIn (mostI L T i q) B
  | 0 => h
  | q + 1 => by
    have ih := mostI_in (L := L) h i q
    rw [mostI]
    split
    · have h1 := ih i
      have h2 := ih q
      exact ih.set (Int.le_refl _) (by omega) (by omega) i
    · exact ih
theorem mostT_in {L : List Step} (h : isRecipe L = true) : ∀ m, m ≤ L.length → AllIn (mostT L m) (240 * m)
  | 0, _ => fun i => by
    have e : intsAt (List.replicate L.length (0 : Int)) i = 0 := by
      by_cases hi : i < L.length
      · rw [intsAt_lt (by simpa using hi)]; simp
      · simp [intsAt, List.getD, hi]
    rw [mostT, e]; omega
  | m + 1, hm => by
    obtain ⟨b, hb, hbn, _⟩ := ordPl_at h (q := L.length - 1 - m) (by omega)
    have ih := mostI_in (L := L) (mostT_in h m (by omega)) b L.length
    have hmn := (steps_bd (isRecipe_iff.1 h).2.1 hbn).1
    have h1 := ih b
    have e : mnt L b = (stepAt L b).minutes := rfl
    rw [mostT, hb, Int.toNat_natCast, mostS]
    exact ih.set (by omega) (by omega) (by omega) b
theorem goG_len {L : List Step} {M : Nat → Int} : ∀ f last left, (goG L M f last left).length ≤ f
  | 0, _, _ => Nat.le_refl _
  | f + 1, last, left => by
    rw [goG]
    split
    · simp
    · split
      · simp
      · rename_i k _
        have := goG_len (L := L) (M := M) f (some k) (left - mnt L k)
        rw [List.length_cons]; omega
def lastI : Option Nat → Int
  | none => -1
  | some i => i

set_option maxHeartbeats 16000000 in
theorem implLongestChain_any (w : World) (L : List Step) (V : Value) (hv : Steps w V L) (hn : L.length ≤ 1048576) :
    Calls Try.prog 41 #[V] w (RetSIC w.heap.size 2 1 intsRow (longF L) w) := by
  have Hv := Lib.hid hv
  clear hv
  cases h1 : isRecipe L
  · have H := Lib.hid (longF_bad h1)
    go_enter Try.func41, Try.ntmps41
    go_wp2_with fail
    refine (implIsRecipe_any w L _ Hv.out hn).mono ?_
    rintro e w2 ⟨rfl, hb2⟩
    rw [h1]
    go_wp2
    go_ret3
    exact RetSIC.err H.out rfl hb2
  · have H := Lib.hid (longF_ok h1)
    have HR := Lib.hid h1
    obtain ⟨h9, hok, hfull⟩ := isRecipe_iff.1 h1
    have Hok := Lib.hid hok
    have Hfull := Lib.hid hfull
    obtain ⟨i0, hi, hz0, hz1, hz2⟩ := info_parts Try.info_ints
    obtain ⟨A, c, rfl, hl, hc, _⟩ := Hv.out
    unfold maxLen at hc
    clear hok hfull
    go_enter Try.func41, Try.ntmps41
    go_wp2_with fail
    refine (implIsRecipe_any w L _ Hv.out hn).mono ?_
    rintro e w2 ⟨rfl, hb2⟩
    rw [h1]
    have hsz2 := hb2.size
    have Hb2 := Lib.hid hb2
    have Hv2 := Lib.hid (Hv.out.below hb2)
    go_wp2_with (at_make; (refine wpList_make_full _ rfl _ _ 29 rfl w2.heap.size 2 i0 _ 1 Try.underlying29 hi hz0 hz1 _ _ _ _ L.length rfl rfl rfl rfl ?b1 ?b2 ?b3 ?_))
    case b1 => rw [hz2]; omega
    case b2 => unfold maxLen; omega
    case b3 => exact Nat.le_refl _
    intro w3 hown hgr
    have hb3 := (Below.refl w2.heap.size w2).grown hgr (Nat.le_refl _) (fun _ h => by cases h)
    have hsz3 := hb3.size
    have hz : (madeCells #[Value.int .i64 0] L.length).toList = intsRow (List.replicate L.length 0) := by
      rw [toList_madeCells_one]; simp [intsRow]
    have Ho3 := Lib.hid (show w3.ownsRow w2.heap.size 2 1 (.slice (some ⟨w2.heap.size, 0, none⟩) L.length L.length) L.length (intsRow (mostT L 0)) by rw [mostT, ← hz]; exact hown)
    have Hv3 := Lib.hid (Hv2.out.below hb3)
    have hglt : w2.heap.size < w3.heap.size := (World.ownsRow.lt hown _ rfl).2
    clear hown hgr hz
    go_wp2_with fail
    refine (implFirst_any w3 L _ Hv3.out h1).mono ?_
    rintro e w4 ⟨y, rfl, ho4, hb4⟩
    obtain ⟨Ay, cy, rfl, _, _⟩ := own_slice ho4
    have hyl := World.ownsRow.lt ho4
    have Hy4 := Lib.hid ho4
    have Hyl := Lib.hid hyl
    have Ho4 := Lib.hid (own_below Ho3.out hb4)
    have b4 : Below w2.heap.size w2 w4 := hb3.trans (hb4.mono hsz3)
    have hsz4 := b4.size
    have hgl4 : w2.heap.size < w4.heap.size := Nat.lt_of_lt_of_le hglt hb4.size
    obtain ⟨A9, c9, hVe, _, _, hr2⟩ := Hv2.out
    injection hVe with hVe _ hVc
    subst hVe
    subst hVc
    have Hr2 := Lib.hid hr2
    clear hr2 ho4 hyl
    have HY := Lib.hid (show Sl w4 1 (.slice Ay (firstOrd L).length cy) (firstOrd L).length (intsRow (firstOrd L)) from Sl.of_own Hy4.out)
    have B4 := Lib.hid b4
    have x0 := IntWalk.wrap64_in ((L.length : Int) - 1) ⟨by omega, by omega⟩
    clear hb3 hb4 hsz3 hb2 h1 b4
    go_wp2
    rw [Hfull.out]
    go_loopw [7] (fun i wr => ∃ (m : Nat) (z : Int), m ≤ L.length ∧ i = .int .i64 z ∧ Hid (z = (L.length : Int) - 1 - m) ∧ wr.ownsRow w2.heap.size 2 1 (.slice (some ⟨w2.heap.size, 0, none⟩) L.length L.length) L.length (intsRow (mostT L m)) ∧ w4.grownBy wr (some w2.heap.size) ∧ Below w2.heap.size w2 wr) (fun i _ => (intOf i + 1).toNat)
    case atStart => exact ⟨0, _, Nat.zero_le _, rfl, Lib.hid (by rw [Int.natCast_zero, Int.sub_zero]; exact x0), Ho4.out, gb_refl _ _, B4.out⟩
    case round =>
      obtain ⟨m, z, hm, rfl, hz, ho, hg, hb⟩ := hrel
      have Ho := Lib.hid ho
      have Hg := Lib.hid hg
      have hsz := hb.size
      have Hb := Lib.hid hb
      clear ho hg hb x0
      have HZ := Lib.hid hz.out
      by_cases hml : m < L.length
      · have hz0' : 0 ≤ z := by have := HZ.out; omega
        obtain ⟨p, rfl⟩ := Int.eq_ofNat_of_zero_le hz0'
        have hpl : p < L.length := by have := HZ.out; omega
        have HPM := Lib.hid (show p = L.length - 1 - m by have := HZ.out; omega)
        obtain ⟨b, hbe, hbl, _⟩ := ordPl_at HR.out hpl
        obtain ⟨_, _, hYe, _, _, hYr⟩ := HY.out.grown Hg.out (fun g' hg' h => by injection hg' with hg'; have := (Hyl.out g' h).1; omega)
        injection hYe with e1 _ e3
        subst e1
        subst e3
        obtain ⟨gy, oy, rfl, hgy, c0⟩ := hYr.ints (k := p) (by rw [Hfull.out]; exact hpl)
        rw [hbe] at c0
        have HST := Lib.hid (show mostT L (m + 1) = mostS L (mostT L m) b by rw [mostT, ← HPM.out, hbe, Int.toNat_natCast])
        have i0' : (0 : Int) ≤ (p : Int) := Int.natCast_nonneg _
        have i1 : (p : Int) < (L.length : Int) := by omega
        clear hbe hYr hz
        go_wp2
        go_loopw [38] (fun i wy => ∃ q : Nat, q ≤ L.length ∧ i = .int .i64 q ∧ wy.ownsRow w2.heap.size 2 1 (.slice (some ⟨w2.heap.size, 0, none⟩) L.length L.length) L.length (intsRow (mostI L (mostT L m) b q)) ∧ w4.grownBy wy (some w2.heap.size) ∧ Below w2.heap.size w2 wy) (fun i _ => L.length - (intOf i).toNat)
        case atStart => exact ⟨0, Nat.zero_le _, rfl, Ho.out, Hg.out, Hb.out⟩
        case round =>
          clear Ho Hg Hb c0
          rename World => wy
          obtain ⟨q, hq, rfl, ho, hg, hb⟩ := hrel
          have Ho := Lib.hid ho
          have Hg := Lib.hid hg
          have Hb := Lib.hid hb
          have hszy := hb.size
          clear ho hg hb
          by_cases hql : q < L.length
          · go_wp2_with fail
            refine (implComes_any wy L _ b q (Hv2.out.below Hb.out) hql).mono ?_
            rintro e w5 ⟨rfl, rfl⟩
            cases hbf : befN L b q
            · have HS := Lib.hid (show mostI L (mostT L m) b (q + 1) = mostI L (mostT L m) b q by rw [mostI, if_neg (by rw [hbf]; simp)])
              clear hbf
              go_wp2
              go_roundw
              case rel => exact ⟨q + 1, by omega, by go_num, by rw [HS.out]; exact Ho.out, Hg.out, Hb.out⟩
              case measure => simp [intOf]; omega
            · have hil : (mostI L (mostT L m) b q).length = L.length := by rw [mostI_len, mostT_len]
              have e1 := (Ho.out.cellAt b (by omega)).trans (intsRow_at (mostI L (mostT L m) b q) b (by omega))
              have e2 := (Ho.out.cellAt q (by omega)).trans (intsRow_at (mostI L (mostT L m) b q) q (by omega))
              have HS := Lib.hid (show mostI L (mostT L m) b (q + 1) = (mostI L (mostT L m) b q).set b (max (intsAt (mostI L (mostT L m) b q) b) (intsAt (mostI L (mostT L m) b q) q)) by rw [mostI, if_pos hbf])
              have hqb : q ≠ b := fun e => by subst e; rw [befN_self HR.out hbl] at hbf; cases hbf
              obtain ⟨u, hu⟩ : ∃ u, u = intsAt (mostI L (mostT L m) b q) b := ⟨_, rfl⟩
              obtain ⟨v, hv⟩ : ∃ v, v = intsAt (mostI L (mostT L m) b q) q := ⟨_, rfl⟩
              rw [← hu] at e1 HS
              rw [← hv] at e2 HS
              have n1 : (⟨w2.heap.size, b, none⟩ : Addr) ≠ ⟨w2.heap.size, q, none⟩ := fun e => hqb (congrArg Addr.off e).symm
              have j0 : (0 : Int) ≤ (b : Int) := Int.natCast_nonneg _
              have j1 : (b : Int) < (L.length : Int) := by omega
              have j2 : (0 : Int) ≤ (q : Int) := Int.natCast_nonneg _
              have j3 : (q : Int) < (L.length : Int) := by omega
              have f1 := Ho.out.frozenAt b
              clear hu hv hbf hil
              go_wp2
              refine wp_region_held_drew (S := (fun w' => w'.cell? ⟨w2.heap.size, q, none⟩ = some (.int .i64 v))) (by kernel_rfl) ?_ (fun hHeld => ?_)
              · (try dsimp only); first | exact e2 | exact hHeld | exact keep_cell hHeld n1
              refine wpAnyH_take (i := 0) (v := ?_) rfl (by kernel_rfl) (by kernel_rfl) (by kernel_rfl) (fun _ _ _ h => h) (Or.inl ⟨by rfl, ?_⟩) (by assumption) ?_
              rotate_left
              · (intro w hSw; (try dsimp only at hSw); go_simp) <;> with_reducible rfl
              try simp only [Act.put, List.setIfInBounds_toArray, List.set_cons_zero, List.set_cons_succ, List.getElem_toArray, List.getElem_cons_succ, List.getElem_cons_zero]
              refine wpAnyH_take (i := 1) (v := ?_) rfl (by kernel_rfl) (by kernel_rfl) (by kernel_rfl) (fun _ _ _ h => h) (Or.inl ⟨by rfl, ?_⟩) (by assumption) ?_
              rotate_left
              · (intro w hSw; (try dsimp only at hSw); go_simp) <;> with_reducible rfl
              try simp only [Act.put, List.setIfInBounds_toArray, List.set_cons_zero, List.set_cons_succ, List.getElem_toArray, List.getElem_cons_succ, List.getElem_cons_zero]
              refine wpAnyH_take (i := 2) (v := ?_) rfl (by kernel_rfl) (by kernel_rfl) (by kernel_rfl) (fun _ _ _ h => h) (Or.inl ⟨by rfl, ?_⟩) (by assumption) ?_
              rotate_left
              · (intro w hSw; (try dsimp only at hSw); go_simp) <;> with_reducible rfl
              try simp only [Act.put, List.setIfInBounds_toArray, List.set_cons_zero, List.set_cons_succ, List.getElem_toArray, List.getElem_cons_succ, List.getElem_cons_zero]
              refine wpAnyH_take (i := 3) (v := ?_) rfl (by kernel_rfl) (by kernel_rfl) (by kernel_rfl) (fun _ _ _ h => h) (Or.inl ⟨by rfl, ?_⟩) (by assumption) ?_
              rotate_left
              · (intro w hSw; (try dsimp only at hSw); go_simp) <;> with_reducible rfl
              try simp only [Act.put, List.setIfInBounds_toArray, List.set_cons_zero, List.set_cons_succ, List.getElem_toArray, List.getElem_cons_succ, List.getElem_cons_zero]
              refine wpAnyH_take (i := 4) (v := ?_) rfl (by kernel_rfl) (by kernel_rfl) (by kernel_rfl) (fun _ _ _ h => h) (Or.inl ⟨by rfl, ?_⟩) (by assumption) ?_
              rotate_left
              · (intro w hSw; (try dsimp only at hSw); go_simp) <;> with_reducible rfl
              try simp only [Act.put, List.setIfInBounds_toArray, List.set_cons_zero, List.set_cons_succ, List.getElem_toArray, List.getElem_cons_succ, List.getElem_cons_zero]
              refine wpAnyH_take (i := 6) (v := ?_) rfl (by kernel_rfl) (by kernel_rfl) (by kernel_rfl) (fun _ _ _ h => h) (Or.inl ⟨by rfl, ?_⟩) (by assumption) ?_
              rotate_left
              · (intro w hSw; (try dsimp only at hSw); go_simp) <;> with_reducible rfl
              try simp only [Act.put, List.setIfInBounds_toArray, List.set_cons_zero, List.set_cons_succ, List.getElem_toArray, List.getElem_cons_succ, List.getElem_cons_zero]
              refine wpAnyH_take (i := 7) (v := ?_) rfl (by kernel_rfl) (by kernel_rfl) (by kernel_rfl) (fun _ _ _ h => h) (Or.inl ⟨by rfl, ?_⟩) (by assumption) ?_
              rotate_left
              · (intro w hSw; (try dsimp only at hSw); go_simp) <;> with_reducible rfl
              try simp only [Act.put, List.setIfInBounds_toArray, List.set_cons_zero, List.set_cons_succ, List.getElem_toArray, List.getElem_cons_succ, List.getElem_cons_zero]
              refine wpAnyH_take (i := 8) (v := ?_) rfl (by kernel_rfl) (by kernel_rfl) (by kernel_rfl) (fun _ _ _ h => h) (Or.inl ⟨by rfl, ?_⟩) (by assumption) ?_
              rotate_left
              · (intro w hSw; (try dsimp only at hSw); go_simp) <;> with_reducible rfl
              try simp only [Act.put, List.setIfInBounds_toArray, List.set_cons_zero, List.set_cons_succ, List.getElem_toArray, List.getElem_cons_succ, List.getElem_cons_zero]
              refine wpAnyH_take (i := 9) (v := ?_) rfl (by kernel_rfl) (by kernel_rfl) (by kernel_rfl) (fun _ _ _ h => h) (Or.inl ⟨by rfl, ?_⟩) (by assumption) ?_
              rotate_left
              · (intro w hSw; (try dsimp only at hSw); go_simp) <;> with_reducible rfl
              try simp only [Act.put, List.setIfInBounds_toArray, List.set_cons_zero, List.set_cons_succ, List.getElem_toArray, List.getElem_cons_succ, List.getElem_cons_zero]
              refine wpAnyH_ready (rs := [5]) (by kernel_rfl) (by simp) ?_
              refine AllReadyH.cons rfl (fun K hK => ?_) AllReadyH.nil
              try dsimp only [List.getElem_toArray, List.getElem_cons_succ, List.getElem_cons_zero]
              go_simp
              refine hK.out _ _ ?_ (fun hHeld => ?_)
              · (try dsimp only); first | exact e2 | exact hHeld | exact keep_cell hHeld n1
              clear hK K
              try simp only [Act.put, List.setIfInBounds_toArray, List.set_cons_zero, List.set_cons_succ, List.getElem_toArray, List.getElem_cons_succ, List.getElem_cons_zero]
              refine wpAnyH_take (i := 10) (v := ?_) rfl (by kernel_rfl) (by kernel_rfl) (by kernel_rfl) (fun _ _ _ h => h) (Or.inl ⟨by rfl, ?_⟩) (by assumption) ?_
              rotate_left
              · (intro w hSw; (try dsimp only at hSw); go_simp) <;> with_reducible rfl
              try simp only [Act.put, List.setIfInBounds_toArray, List.set_cons_zero, List.set_cons_succ, List.getElem_toArray, List.getElem_cons_succ, List.getElem_cons_zero]
              refine wpAnyH_take (i := 11) (v := ?_) rfl (by kernel_rfl) (by kernel_rfl) (by kernel_rfl) (fun _ _ _ h => h) (Or.inl ⟨by rfl, ?_⟩) (by assumption) ?_
              rotate_left
              · (intro w hSw; (try dsimp only at hSw); go_simp) <;> with_reducible rfl
              try simp only [Act.put, List.setIfInBounds_toArray, List.set_cons_zero, List.set_cons_succ, List.getElem_toArray, List.getElem_cons_succ, List.getElem_cons_zero]
              refine wpAnyH_ready (rs := [12]) (by kernel_rfl) (by simp) ?_
              refine AllReadyH.cons rfl (fun K hK => ?_) AllReadyH.nil
              try dsimp only [List.getElem_toArray, List.getElem_cons_succ, List.getElem_cons_zero]
              go_simp
              refine hK.out _ _ ?_ (fun hHeld => ?_)
              · (try dsimp only); first | exact e2 | exact hHeld | exact keep_cell hHeld n1
              clear hK K
              try simp only [Act.put, List.setIfInBounds_toArray, List.set_cons_zero, List.set_cons_succ, List.getElem_toArray, List.getElem_cons_succ, List.getElem_cons_zero]
              refine wpAnyH_done (by kernel_rfl) ?_ _
              have HC := Lib.hid (show ((wy.setCell ⟨w2.heap.size, b, none⟩ (.int .i64 (if u < v then v else u))).drew).ownsRow w2.heap.size 2 1 (.slice (some ⟨w2.heap.size, 0, none⟩) L.length L.length) L.length (intsRow (mostI L (mostT L m) b (q + 1))) by
                rw [HS.out, ← mx_max, ← intsRow_set]
                exact (Ho.out.stored b _).1.drew)
              have HG := Lib.hid (show w4.grownBy ((wy.setCell ⟨w2.heap.size, b, none⟩ (.int .i64 (if u < v then v else u))).drew) (some w2.heap.size) from gb_drew (gb_trans Hg.out (Ho.out.stored b _).2))
              have HBq := Lib.hid (show Below w2.heap.size w2 ((wy.setCell ⟨w2.heap.size, b, none⟩ (.int .i64 (if u < v then v else u))).drew) from (Hb.out.setCell (Nat.le_refl _) _).drew)
              clear e1 e2 f1
              go_wp2
              go_roundw
              case rel => exact ⟨q + 1, by omega, by go_num, HC.out, HG.out, HBq.out⟩
              case measure => simp [intOf]; omega
          · have hqn : q = L.length := by omega
            have HoQ := Lib.hid (show wy.ownsRow w2.heap.size 2 1 (.slice (some ⟨w2.heap.size, 0, none⟩) L.length L.length) L.length (intsRow (mostI L (mostT L m) b L.length)) by have h := Ho.out; rw [hqn] at h; exact h)
            obtain ⟨gs, os, hA2, hgs, m0, _⟩ := Hr2.out.at hbl
            subst hA2
            have m1 := (Hb.out.cell (p := ⟨gs, os + b * 3, none⟩) hgs).trans m0
            have hbd := (mostI_in (L := L) (mostT_in HR.out m (by omega)) b L.length) b
            have hmn := (steps_bd Hok.out hbl).1
            have e1 := (HoQ.out.cellAt b (by omega)).trans (intsRow_at (mostI L (mostT L m) b L.length) b (by rw [mostI_len, mostT_len]; exact hbl))
            have HS2 := Lib.hid (show mostT L (m + 1) = (mostI L (mostT L m) b L.length).set b (intsAt (mostI L (mostT L m) b L.length) b + (stepAt L b).minutes) by rw [HST.out, mostS]; rfl)
            obtain ⟨u, hu⟩ : ∃ u, u = intsAt (mostI L (mostT L m) b L.length) b := ⟨_, rfl⟩
            obtain ⟨mn, hmn0⟩ : ∃ mn, mn = (stepAt L b).minutes := ⟨_, rfl⟩
            rw [← hu] at e1 HS2 hbd
            rw [← hmn0] at m1 HS2 hmn
            have x1 := IntWalk.i64_in (u + mn) (by omega)
            have n2 : (⟨w2.heap.size, b, none⟩ : Addr) ≠ ⟨gs, os + b * 3, none⟩ := fun e => by have := congrArg Addr.block e; simp only at this; omega
            have j0 : (0 : Int) ≤ (b : Int) := Int.natCast_nonneg _
            have j1 : (b : Int) < (L.length : Int) := by omega
            have f1 := HoQ.out.frozenAt b
            have HNL := Lib.hid (show ((p : Int) - 1) = (L.length : Int) - 1 - ((m + 1 : Nat) : Int) by have := HPM.out; omega)
            have x2 := IntWalk.i64_in ((p : Int) - 1) (by omega)
            have HML := Lib.hid hml
            clear hu hmn0 hqn m0 hbd hmn Ho
            go_wp2
            refine wp_region_held_drew (S := (fun w' => w'.cell? ⟨gs, os + b * 3, none⟩ = some (.int .i64 mn))) (by kernel_rfl) ?_ (fun hHeld => ?_)
            · (try dsimp only); first | exact m1 | exact hHeld | exact keep_cell hHeld n2
            refine wpAnyH_take (i := 0) (v := ?_) rfl (by kernel_rfl) (by kernel_rfl) (by kernel_rfl) (fun _ _ _ h => h) (Or.inl ⟨by rfl, ?_⟩) (by assumption) ?_
            rotate_left
            · (intro w hSw; (try dsimp only at hSw); go_simp) <;> with_reducible rfl
            try simp only [Act.put, List.setIfInBounds_toArray, List.set_cons_zero, List.set_cons_succ, List.getElem_toArray, List.getElem_cons_succ, List.getElem_cons_zero]
            refine wpAnyH_take (i := 1) (v := ?_) rfl (by kernel_rfl) (by kernel_rfl) (by kernel_rfl) (fun _ _ _ h => h) (Or.inl ⟨by rfl, ?_⟩) (by assumption) ?_
            rotate_left
            · (intro w hSw; (try dsimp only at hSw); go_simp) <;> with_reducible rfl
            try simp only [Act.put, List.setIfInBounds_toArray, List.set_cons_zero, List.set_cons_succ, List.getElem_toArray, List.getElem_cons_succ, List.getElem_cons_zero]
            refine wpAnyH_take (i := 2) (v := ?_) rfl (by kernel_rfl) (by kernel_rfl) (by kernel_rfl) (fun _ _ _ h => h) (Or.inl ⟨by rfl, ?_⟩) (by assumption) ?_
            rotate_left
            · (intro w hSw; (try dsimp only at hSw); go_simp) <;> with_reducible rfl
            try simp only [Act.put, List.setIfInBounds_toArray, List.set_cons_zero, List.set_cons_succ, List.getElem_toArray, List.getElem_cons_succ, List.getElem_cons_zero]
            refine wpAnyH_take (i := 4) (v := ?_) rfl (by kernel_rfl) (by kernel_rfl) (by kernel_rfl) (fun _ _ _ h => h) (Or.inl ⟨by rfl, ?_⟩) (by assumption) ?_
            rotate_left
            · (intro w hSw; (try dsimp only at hSw); go_simp) <;> with_reducible rfl
            try simp only [Act.put, List.setIfInBounds_toArray, List.set_cons_zero, List.set_cons_succ, List.getElem_toArray, List.getElem_cons_succ, List.getElem_cons_zero]
            refine wpAnyH_take (i := 5) (v := ?_) rfl (by kernel_rfl) (by kernel_rfl) (by kernel_rfl) (fun _ _ _ h => h) (Or.inl ⟨by rfl, ?_⟩) (by assumption) ?_
            rotate_left
            · (intro w hSw; (try dsimp only at hSw); go_simp) <;> with_reducible rfl
            try simp only [Act.put, List.setIfInBounds_toArray, List.set_cons_zero, List.set_cons_succ, List.getElem_toArray, List.getElem_cons_succ, List.getElem_cons_zero]
            refine wpAnyH_take (i := 6) (v := ?_) rfl (by kernel_rfl) (by kernel_rfl) (by kernel_rfl) (fun _ _ _ h => h) (Or.inl ⟨by rfl, ?_⟩) (by assumption) ?_
            rotate_left
            · (intro w hSw; (try dsimp only at hSw); go_simp) <;> with_reducible rfl
            try simp only [Act.put, List.setIfInBounds_toArray, List.set_cons_zero, List.set_cons_succ, List.getElem_toArray, List.getElem_cons_succ, List.getElem_cons_zero]
            refine wpAnyH_take (i := 7) (v := ?_) rfl (by kernel_rfl) (by kernel_rfl) (by kernel_rfl) (fun _ _ _ h => h) (Or.inl ⟨by rfl, ?_⟩) (by assumption) ?_
            rotate_left
            · (intro w hSw; (try dsimp only at hSw); go_simp) <;> with_reducible rfl
            try simp only [Act.put, List.setIfInBounds_toArray, List.set_cons_zero, List.set_cons_succ, List.getElem_toArray, List.getElem_cons_succ, List.getElem_cons_zero]
            refine wpAnyH_take (i := 8) (v := ?_) rfl (by kernel_rfl) (by kernel_rfl) (by kernel_rfl) (fun _ _ _ h => h) (Or.inl ⟨by rfl, ?_⟩) (by assumption) ?_
            rotate_left
            · (intro w hSw; (try dsimp only at hSw); go_simp) <;> with_reducible rfl
            try simp only [Act.put, List.setIfInBounds_toArray, List.set_cons_zero, List.set_cons_succ, List.getElem_toArray, List.getElem_cons_succ, List.getElem_cons_zero]
            refine wpAnyH_ready (rs := [3]) (by kernel_rfl) (by simp) ?_
            refine AllReadyH.cons rfl (fun K hK => ?_) AllReadyH.nil
            try dsimp only [List.getElem_toArray, List.getElem_cons_succ, List.getElem_cons_zero]
            go_simp
            refine hK.out _ _ ?_ (fun hHeld => ?_)
            · (try dsimp only); first | exact m1 | exact hHeld | exact keep_cell hHeld n2
            clear hK K
            try simp only [Act.put, List.setIfInBounds_toArray, List.set_cons_zero, List.set_cons_succ, List.getElem_toArray, List.getElem_cons_succ, List.getElem_cons_zero]
            refine wpAnyH_take (i := 9) (v := ?_) rfl (by kernel_rfl) (by kernel_rfl) (by kernel_rfl) (fun _ _ _ h => h) (Or.inl ⟨by rfl, ?_⟩) (by assumption) ?_
            rotate_left
            · (intro w hSw; (try dsimp only at hSw); go_simp) <;> with_reducible rfl
            try simp only [Act.put, List.setIfInBounds_toArray, List.set_cons_zero, List.set_cons_succ, List.getElem_toArray, List.getElem_cons_succ, List.getElem_cons_zero]
            refine wpAnyH_take (i := 10) (v := ?_) rfl (by kernel_rfl) (by kernel_rfl) (by kernel_rfl) (fun _ _ _ h => h) (Or.inl ⟨by rfl, ?_⟩) (by assumption) ?_
            rotate_left
            · (intro w hSw; (try dsimp only at hSw); go_simp) <;> with_reducible rfl
            try simp only [Act.put, List.setIfInBounds_toArray, List.set_cons_zero, List.set_cons_succ, List.getElem_toArray, List.getElem_cons_succ, List.getElem_cons_zero]
            refine wpAnyH_ready (rs := [11]) (by kernel_rfl) (by simp) ?_
            refine AllReadyH.cons rfl (fun K hK => ?_) AllReadyH.nil
            try dsimp only [List.getElem_toArray, List.getElem_cons_succ, List.getElem_cons_zero]
            go_simp
            refine hK.out _ _ ?_ (fun hHeld => ?_)
            · (try dsimp only); first | exact m1 | exact hHeld | exact keep_cell hHeld n2
            clear hK K
            try simp only [Act.put, List.setIfInBounds_toArray, List.set_cons_zero, List.set_cons_succ, List.getElem_toArray, List.getElem_cons_succ, List.getElem_cons_zero]
            refine wpAnyH_done (by kernel_rfl) ?_ _
            have HC := Lib.hid (show ((wy.setCell ⟨w2.heap.size, b, none⟩ (.int .i64 (u + mn))).drew).ownsRow w2.heap.size 2 1 (.slice (some ⟨w2.heap.size, 0, none⟩) L.length L.length) L.length (intsRow (mostT L (m + 1))) by
              rw [HS2.out, ← intsRow_set]
              exact (HoQ.out.stored b _).1.drew)
            have HG := Lib.hid (show w4.grownBy ((wy.setCell ⟨w2.heap.size, b, none⟩ (.int .i64 (u + mn))).drew) (some w2.heap.size) from gb_drew (gb_trans Hg.out (HoQ.out.stored b _).2))
            have HBq := Lib.hid (show Below w2.heap.size w2 ((wy.setCell ⟨w2.heap.size, b, none⟩ (.int .i64 (u + mn))).drew) from (Hb.out.setCell (Nat.le_refl _) _).drew)
            clear e1 f1 m1
            go_wp2
            go_roundw
            case rel => exact ⟨m + 1, (p : Int) - 1, by have := HML.out; omega, by go_num, HNL, HC.out, HG.out, HBq.out⟩
            case measure => simp [intOf]
      · have hme : m = L.length := by omega
        have hz1' : z = -1 := by have := HZ.out; omega
        subst hz1'
        have HoF := Lib.hid (show wr.ownsRow w2.heap.size 2 1 (.slice (some ⟨w2.heap.size, 0, none⟩) L.length L.length) L.length (intsRow (mostT L L.length)) by rw [hme] at Ho; exact Ho.out)
        clear Ho
        have Hbr := Lib.hid Hb.out
        clear hme hz Hb Hg hsz
        have HT := Lib.hid (mostT_in HR.out L.length (Nat.le_refl _))
        have HTl := Lib.hid (mostT_len L L.length)
        obtain ⟨T, hT⟩ : ∃ T, T = mostT L L.length := ⟨_, rfl⟩
        have HTE := Lib.hid hT
        rw [← hT] at HoF HT HTl
        clear hT
        go_wp2
        go_loopw [10, 71] (fun g i wx => ∃ q : Nat, q ≤ L.length ∧ i = .int .i64 q ∧ g = .int .i64 (gOver (intsAt T) q) ∧ wx = wr) (fun _ i _ => L.length - (intOf i).toNat)
        case atStart => exact ⟨0, Nat.zero_le _, rfl, rfl, rfl⟩
        case round =>
          obtain ⟨q, hq, rfl, rfl, rfl⟩ := hrel
          by_cases hql : q < L.length
          · have e1 := (HoF.out.cellAt q (by omega)).trans (intsRow_at T q (by rw [HTl.out]; exact hql))
            have HS := Lib.hid (show gOver (intsAt T) (q + 1) = max (gOver (intsAt T) q) (intsAt T q) from rfl)
            obtain ⟨u, hu⟩ : ∃ u, u = intsAt T q := ⟨_, rfl⟩
            obtain ⟨g, hg⟩ : ∃ g, g = gOver (intsAt T) q := ⟨_, rfl⟩
            rw [← hu] at e1 HS
            rw [← hg] at HS ⊢
            have j2 : (0 : Int) ≤ (q : Int) := Int.natCast_nonneg _
            have j3 : (q : Int) < (L.length : Int) := by omega
            clear hu hg
            go_wp2
            go_roundw
            case rel => exact ⟨q + 1, by omega, by go_num, by rw [HS.out, ← mx_max], trivial⟩
            case measure => simp [intOf]; omega
          · have HQE := Lib.hid (show gOver (intsAt T) q = longG L by rw [longG, ← HTE.out, show q = L.length by omega])
            rw [HQE.out]
            have hszr := Hbr.out.size
            have HoL := Lib.hid HoF.out
            have HTab := Lib.hid (most_tab HR.out)
            rw [← HTE.out] at HTab
            have HLC := Lib.hid (show longC L = goG L (intsAt T) (longG L).toNat none (longG L) by rw [longC, ← HTE.out])
            have HG0 := Lib.hid (show longG L = gOver (intsAt T) L.length by rw [longG, ← HTE.out])
            have hbd := long_bd HR.out
            have HBD := Lib.hid hbd
            obtain ⟨G, hG⟩ : ∃ G, G = longG L := ⟨_, rfl⟩
            have HGE := Lib.hid hG
            rw [← hG] at HLC HG0 hbd ⊢
            have hg0 := hbd.2.1
            have hg1 := hbd.2.2
            clear hG hbd
            go_wp2
            go_loopw [13, 14, 15] (fun o la le wx => ∃ (f : Nat) (last : Option Nat) (left : Int) (P : List Int) (Ao : Option Addr) (co : Nat), o = .slice Ao P.length co ∧ la = .int .i64 (lastI last) ∧ le = .int .i64 left ∧ Hid (StP L (intsAt T) last left) ∧ Hid (intN (longC L) = P ++ intN (goG L (intsAt T) f last left)) ∧ left ≤ f ∧ left ≤ 2160 ∧ Hid (wx.ownsRow wr.heap.size 2 1 (.slice Ao P.length co) P.length (intsRow P)) ∧ Below wr.heap.size wr wx) (fun _ _ le _ => (intOf le).toNat)
            case atStart => exact ⟨G.toNat, none, G, [], none, 0, rfl, rfl, rfl, Lib.hid HG0.out, Lib.hid (by rw [HLC.out]; rfl), by omega, hg1, Lib.hid (World.ownsRow_nil _ _ _ _), Below.refl _ _⟩
            case round =>
              rename World => wx
              obtain ⟨f, last, left, P, Ao, co, rfl, rfl, rfl, HSt, HLc, hf, hl2, HOo, hb⟩ := hrel
              have hP9 : P.length ≤ 9 := by
                have h1 := congrArg List.length HLc.out
                have h2 := HBD.out.1
                rw [intN_len, List.length_append] at h1
                omega
              have Hbx := Lib.hid hb
              have hszx := hb.size
              have hl0 := stP_nn HSt.out
              have HVx := Lib.hid (Hv2.out.below (Hbr.out.trans (hb.mono Hbr.out.size)))
              have HoX := Lib.hid (own_below HoL.out hb)
              clear hb
              by_cases hlp : 0 < left
              · obtain ⟨f', rfl⟩ : ∃ f', f = f' + 1 := ⟨f - 1, by omega⟩
                go_wp2
                go_loopw [13, 14, 15, 16] (fun o la le k wy => ∃ q : Nat, q ≤ L.length ∧ k = .int .i64 q ∧ o = .slice Ao P.length co ∧ la = .int .i64 (lastI last) ∧ le = .int .i64 left ∧ (∀ j, j < q → okG L (intsAt T) left last j = false) ∧ wy = wx) (fun _ _ _ k _ => L.length - (intOf k).toNat)
                case atStart => exact ⟨0, Nat.zero_le _, rfl, rfl, rfl, rfl, fun j h => absurd h (by omega), rfl⟩
                case round =>
                  obtain ⟨q, hq, rfl, rfl, rfl, rfl, hall, rfl⟩ := hrel
                  rename World => wx
                  have Hall := Lib.hid hall
                  clear hall
                  by_cases hql : q < L.length
                  · have e1 := (HoX.out.cellAt q (by omega)).trans (intsRow_at T q (by rw [HTl.out]; exact hql))
                    have hTb := HT.out q
                    obtain ⟨u, hu⟩ : ∃ u, u = intsAt T q := ⟨_, rfl⟩
                    have HU := Lib.hid hu
                    rw [← hu] at e1 hTb
                    have j2 : (0 : Int) ≤ (q : Int) := Int.natCast_nonneg _
                    have j3 : (q : Int) < (L.length : Int) := by omega
                    clear hu
                    have HNX := Lib.hid (fun (h : okG L (intsAt T) left last q = false) => (show ∀ j, j < q + 1 → okG L (intsAt T) left last j = false from fun j hj => by
                      by_cases e : j = q
                      · subst e; exact h
                      · exact Hall.out j (by omega)))
                    by_cases heq : u = left
                    · have t1 : (u == left) = true := by simp [heq]
                      have HEQ := Lib.hid heq
                      clear heq
                      cases last with
                      | none =>
                        have HOK := Lib.hid (show okG L (intsAt T) left none q = true by rw [okG, ← HU.out]; simp [HEQ.out, folP])
                        have t2 : decide ((-1 : Int) < 0) = true := rfl
                        have hp := pickG_some hql HOK.out Hall.out
                        have HGO := Lib.hid (show intN (longC L) = (P ++ [(q : Int)]) ++ intN (goG L (intsAt T) f' (some q) (left - mnt L q)) by rw [HLc.out, goG, if_neg (by omega), hp]; simp [intN])
                        have htab := HTab.out q hql
                        have hbn := bestOver_nn L (intsAt T) q L.length
                        rw [← HU.out, HEQ.out] at htab
                        have HSt2 := Lib.hid (show StP L (intsAt T) (some q) (left - mnt L q) from ⟨hql, by omega⟩)
                        obtain ⟨gs, os, hA2, hgs, m0, _⟩ := Hr2.out.at hql
                        subst hA2
                        have hmn := (steps_bd Hok.out hql).1
                        have hmle : (stepAt L q).minutes ≤ left := by have : mnt L q = (stepAt L q).minutes := rfl; omega
                        rw [show mnt L q = (stepAt L q).minutes from rfl] at HGO HSt2
                        obtain ⟨mn, hmn0⟩ : ∃ mn, mn = (stepAt L q).minutes := ⟨_, rfl⟩
                        rw [← hmn0] at m0 hmn hmle HGO HSt2
                        have M0 := Lib.hid m0
                        have HB2x := Lib.hid (Hbr.out.trans (Hbx.out.mono Hbr.out.size))
                        have hgs2 : gs < wr.heap.size := by have := Hbr.out.size; omega
                        have m1 := (HB2x.out.cell (p := ⟨gs, os + q * 3, none⟩) hgs).trans m0
                        have x1 := IntWalk.i64_in (left - mn) (by omega)
                        clear hp htab hbn hmn0 m0
                        go_wp2_with (at_builtin; refine wpList_append_sl _ rfl (.tmp 104) (.tmp 106) _ rfl wr.heap.size 2 i0 _ 1 8 Try.underlying29 hi hz0 hz1 hz2 rfl (by omega) _ P.length (intsRow P) rfl (HOo.out.alloc _) (some ⟨wx.heap.size, 0, none⟩) 1 1 [.int .i64 (q : Int)] rfl (Rd.of_block (cs := #[.int .i64 (q : Int)]) (heap_alloc_new _ _) rfl) (by intro x hx; simp at hx; subst hx; rfl) (by unfold maxLen; omega) (by omega) (by simp; omega) ?_; intro A9 c9 w9 ho9 hg9 hor9; have b9 : Below wr.heap.size wr w9 := ((Hbx.out.alloc hszx _).grown hg9 (by simp; omega) (fun k hk => (World.ownsRow.lt HOo.out k hk).1)); have m9 := ((Hbr.out.trans (b9.mono Hbr.out.size)).cell (p := ⟨gs, os + q * 3, none⟩) hgs).trans M0.out)
                        have B9 := Lib.hid b9
                        have Ho9 := Lib.hid ho9
                        clear ho9 hg9 hor9 b9 m9
                        go_roundw
                        case rel => exact ⟨f', some q, left - mn, P ++ [(q : Int)], A9, c9, by rw [List.length_append]; rfl, rfl, rfl, HSt2, HGO, by omega, by omega, Lib.hid (by rw [List.length_append, intsRow_append]; exact Ho9.out), B9.out⟩
                        case measure => simp [intOf]; omega
                      | some i =>
                        have hi0 : i < L.length := HSt.out.1
                        have t2 : decide ((i : Int) < 0) = false := by simp
                        go_wp2_with fail
                        refine (implComes_any wx L _ i q HVx.out hql).mono ?_
                        rintro e w5 ⟨rfl, rfl⟩
                        cases hbf : befN L i q
                        · have HN := Lib.hid (HNX.out (by rw [okG, ← HU.out]; simp [folP, hbf]))
                          clear hbf
                          go_wp2
                          go_roundw
                          case rel => exact ⟨q + 1, by omega, by go_num, rfl, rfl, rfl, HN.out, trivial⟩
                          case measure => simp [intOf]; omega
                        · have HOK := Lib.hid (show okG L (intsAt T) left (some i) q = true by rw [okG, ← HU.out]; simp [HEQ.out, folP, hbf])
                          clear hbf
                          have hp := pickG_some hql HOK.out Hall.out
                          have HGO := Lib.hid (show intN (longC L) = (P ++ [(q : Int)]) ++ intN (goG L (intsAt T) f' (some q) (left - mnt L q)) by rw [HLc.out, goG, if_neg (by omega), hp]; simp [intN])
                          have htab := HTab.out q hql
                          have hbn := bestOver_nn L (intsAt T) q L.length
                          rw [← HU.out, HEQ.out] at htab
                          have HSt2 := Lib.hid (show StP L (intsAt T) (some q) (left - mnt L q) from ⟨hql, by omega⟩)
                          obtain ⟨gs, os, hA2, hgs, m0, _⟩ := Hr2.out.at hql
                          subst hA2
                          have hmn := (steps_bd Hok.out hql).1
                          have hmle : (stepAt L q).minutes ≤ left := by have : mnt L q = (stepAt L q).minutes := rfl; omega
                          rw [show mnt L q = (stepAt L q).minutes from rfl] at HGO HSt2
                          obtain ⟨mn, hmn0⟩ : ∃ mn, mn = (stepAt L q).minutes := ⟨_, rfl⟩
                          rw [← hmn0] at m0 hmn hmle HGO HSt2
                          have M0 := Lib.hid m0
                          have HB2x := Lib.hid (Hbr.out.trans (Hbx.out.mono Hbr.out.size))
                          have hgs2 : gs < wr.heap.size := by have := Hbr.out.size; omega
                          have m1 := (HB2x.out.cell (p := ⟨gs, os + q * 3, none⟩) hgs).trans m0
                          have x1 := IntWalk.i64_in (left - mn) (by omega)
                          clear hp htab hbn hmn0 m0
                          go_wp2_with (at_builtin; refine wpList_append_sl _ rfl (.tmp 104) (.tmp 106) _ rfl wr.heap.size 2 i0 _ 1 8 Try.underlying29 hi hz0 hz1 hz2 rfl (by omega) _ P.length (intsRow P) rfl (HOo.out.alloc _) (some ⟨wx.heap.size, 0, none⟩) 1 1 [.int .i64 (q : Int)] rfl (Rd.of_block (cs := #[.int .i64 (q : Int)]) (heap_alloc_new _ _) rfl) (by intro x hx; simp at hx; subst hx; rfl) (by unfold maxLen; omega) (by omega) (by simp; omega) ?_; intro A9 c9 w9 ho9 hg9 hor9; have b9 : Below wr.heap.size wr w9 := ((Hbx.out.alloc hszx _).grown hg9 (by simp; omega) (fun k hk => (World.ownsRow.lt HOo.out k hk).1)); have m9 := ((Hbr.out.trans (b9.mono Hbr.out.size)).cell (p := ⟨gs, os + q * 3, none⟩) hgs).trans M0.out)
                          have B9 := Lib.hid b9
                          have Ho9 := Lib.hid ho9
                          clear ho9 hg9 hor9 b9 m9
                          go_roundw
                          case rel => exact ⟨f', some q, left - mn, P ++ [(q : Int)], A9, c9, by rw [List.length_append]; rfl, rfl, rfl, HSt2, HGO, by omega, by omega, Lib.hid (by rw [List.length_append, intsRow_append]; exact Ho9.out), B9.out⟩
                          case measure => simp [intOf]; omega
                    · have t1 : (u == left) = false := by simpa using heq
                      have HN := Lib.hid (HNX.out (by rw [okG, ← HU.out]; simp [heq]))
                      clear heq
                      go_wp2
                      go_roundw
                      case rel => exact ⟨q + 1, by omega, by go_num, rfl, rfl, rfl, HN.out, trivial⟩
                      case measure => simp [intOf]; omega
                  · exfalso
                    obtain ⟨k, hk⟩ := stP_pick HSt.out hlp
                    obtain ⟨k1, k2, k3, _⟩ := pickG_is hk
                    have := Hall.out k (by omega)
                    rw [okG, k2, k3] at this
                    simp at this
              · have H0 := Lib.hid (show intN (longC L) = P by
                  have e : goG L (intsAt T) f last left = [] := by cases f <;> simp [goG]; omega
                  rw [HLc.out, e]; simp [intN])
                have HO2 := Lib.hid (show wx.ownsRow wr.heap.size 2 1 (.slice Ao P.length co) (intN (longC L)).length (intsRow (intN (longC L))) by rw [H0.out]; exact HOo.out)
                have HH := Lib.hid (show longF L = (intN (longC L), G, 0) by rw [HGE.out]; exact H.out)
                go_wp2
                go_ret3
                exact RetSIC.ok HH.out HO2.out rfl rfl (by omega) (Hb2.out.trans ((Hbr.out.trans (Hbx.out.mono Hbr.out.size)).mono Hb2.out.size))
end Go.Proofs.Ytecfkomijaakhaa
