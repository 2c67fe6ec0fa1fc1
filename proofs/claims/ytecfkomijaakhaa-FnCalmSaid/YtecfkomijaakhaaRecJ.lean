/- Recipes: EarliestStarts: the rule; its walk in the program and in the reference. Printed by gen_recj.py. -/
import Derived.Test.YtecfkomijaakhaaRecE
namespace Go.Proofs.Ytecfkomijaakhaa
open Go.RowKit Go.Sort

theorem keep_cell {w : World} {a p : Addr} {u v : Value} (h : w.cell? p = some v) (hne : a ≠ p) : (w.setCell a u).cell? p = some v := (World.cell?_setCell_other _ _ _ _ hne).trans h
/-- Go's max. -/
def mx (a b : Int) : Int := if a < b then b else a
/-- Step i begins behind its k first. -/
def stIn (L : List Step) (i : Nat) (out : List Int) : Nat → List Int
  | 0 => out
  | k + 1 => (stIn L i out k).set i (mx (intsAt (stIn L i out k) i) (wrap64 (intsAt (stIn L i out k) (intsAt (stepAt L i).after k).toNat + (stepAt L (intsAt (stepAt L i).after k).toNat).minutes)))
def stOut (L : List Step) : Nat → List Int
  | 0 => List.replicate L.length 0
  | q + 1 => stIn L (intsAt (firstOrd L) q).toNat (stOut L q) (stepAt L (intsAt (firstOrd L) q).toNat).after.length
theorem stIn_len (L : List Step) (i : Nat) (out : List Int) : ∀ k, (stIn L i out k).length = out.length
  | 0 => rfl
  | k + 1 => by rw [stIn, List.length_set, stIn_len L i out k]
theorem stOut_len (L : List Step) : ∀ q, (stOut L q).length = L.length
  | 0 => by simp [stOut]
  | q + 1 => by rw [stOut, stIn_len, stOut_len L q]
theorem stIn_succ {L : List Step} {i k j : Nat} {out : List Int} (h : intsAt (stepAt L i).after k = j) : stIn L i out (k + 1) = (stIn L i out k).set i (mx (intsAt (stIn L i out k) i) (wrap64 (intsAt (stIn L i out k) j + (stepAt L j).minutes))) := by
  rw [stIn, h]; rfl
theorem stOut_succ {L : List Step} {q b : Nat} (h : intsAt (firstOrd L) q = b) : stOut L (q + 1) = stIn L b (stOut L q) (stepAt L b).after.length := by
  rw [stOut, h]; rfl
def startsF (L : List Step) : List Int × Int := if isRecipe L = true then (stOut L L.length, 0) else ([], 1)
theorem startsF_len (L : List Step) : (startsF L).1.length ≤ 4194304 := by
  unfold startsF
  split
  · rename_i h
    have := (isRecipe_iff.1 h).1
    show (stOut L L.length).length ≤ _
    rw [stOut_len]; omega
  · simp
theorem starts_bad {L : List Step} (h : isRecipe L = false) : startsF L = ([], 1) := by simp [startsF, h]
theorem starts_ok {L : List Step} (h : isRecipe L = true) : startsF L = (stOut L L.length, 0) := by simp [startsF, h]
/-- What a step of the order says. -/
theorem ord_at {L : List Step} {q : Nat} (hq : q < (firstOrd L).length) : ∃ b : Nat, intsAt (firstOrd L) q = b ∧ b < L.length := (firstOrd_grown L).1.mem q hq

set_option maxHeartbeats 8000000 in
theorem implStarts_any (w : World) (L : List Step) (V : Value) (hv : Steps w V L) (hn : L.length ≤ 1048576) :
    Calls Try.prog 37 #[V] w (RetSC w.heap.size 2 1 intsRow (startsF L) w) := by
  have Hv := Lib.hid hv
  clear hv
  cases h1 : isRecipe L
  · have H := Lib.hid (starts_bad h1)
    go_enter Try.func37, Try.ntmps37
    go_wp2_with fail
    refine (implIsRecipe_any w L _ Hv.out hn).mono ?_
    rintro e w2 ⟨rfl, hb2⟩
    rw [h1]
    go_wp2
    go_ret2
    exact RetSC.err H.out rfl hb2
  · skip
    obtain ⟨h9, hok, hfull⟩ := isRecipe_iff.1 h1
    have Hok := Lib.hid hok
    have Hfull := Lib.hid hfull
    have H := Lib.hid (starts_ok h1)
    obtain ⟨i0, hi, hz0, hz1, hz2⟩ := info_parts Try.info_ints
    obtain ⟨A, c, rfl, hl, hc, _⟩ := Hv.out
    unfold maxLen at hc
    clear hok hfull
    go_enter Try.func37, Try.ntmps37
    go_wp2_with fail
    refine (implIsRecipe_any w L _ Hv.out hn).mono ?_
    rintro e w2 ⟨rfl, hb2⟩
    rw [h1]
    have hsz2 := hb2.size
    have Hv2 := Lib.hid (Hv.out.below hb2)
    go_wp2_with (at_make; (refine wpList_make_full _ rfl _ _ 29 rfl w2.heap.size 2 i0 _ 1 Try.underlying29 hi hz0 hz1 _ _ _ _ L.length rfl rfl rfl rfl ?b1 ?b2 ?b3 ?_))
    case b1 => rw [hz2]; omega
    case b2 => unfold maxLen; omega
    case b3 => exact Nat.le_refl _
    intro w3 hown hgr
    have hb3 := (Below.refl w2.heap.size w2).grown hgr (Nat.le_refl _) (fun _ h => by cases h)
    have hsz3 := hb3.size
    have hz : (madeCells #[Value.int .i64 0] L.length).toList = intsRow (List.replicate L.length 0) := by
      rw [toList_madeCells_one]; simp [intsRow]
    have Ho3 := Lib.hid (show w3.ownsRow w2.heap.size 2 1 (.slice (some ⟨w2.heap.size, 0, none⟩) L.length L.length) L.length (intsRow (stOut L 0)) by rw [stOut, ← hz]; exact hown)
    have Hv3 := Lib.hid (Hv2.out.below hb3)
    have hglt : w2.heap.size < w3.heap.size := (World.ownsRow.lt hown _ rfl).2
    clear hown hgr hz
    go_wp2_with fail
    refine (implFirst_any w3 L _ Hv3.out h1).mono ?_
    rintro e w4 ⟨y, rfl, ho4, hb4⟩
    obtain ⟨Ay, cy, rfl, _, _⟩ := own_slice ho4
    have hyl := World.ownsRow.lt ho4
    have Hy4 := Lib.hid ho4
    have Hyl := Lib.hid hyl
    have Ho4 := Lib.hid (own_below Ho3.out hb4)
    have b4 : Below w2.heap.size w2 w4 := hb3.trans (hb4.mono hsz3)
    have hsz4 := b4.size
    have hgl4 : w2.heap.size < w4.heap.size := Nat.lt_of_lt_of_le hglt hb4.size
    obtain ⟨_, _, hVe, _, _, hr2⟩ := Hv2.out
    injection hVe with hVe _ _
    subst hVe
    have Hr2 := Lib.hid hr2
    clear hr2 ho4 hyl
    have HY := Lib.hid (show Sl w4 1 (.slice Ay (firstOrd L).length cy) (firstOrd L).length (intsRow (firstOrd L)) from Sl.of_own Hy4.out)
    clear hb3 hb4 hsz3
    go_wp2
    rw [Hfull.out]
    go_loopw [18] (fun i wr => ∃ q : Nat, q ≤ L.length ∧ i = .int .i64 q ∧ wr.ownsRow w2.heap.size 2 1 (.slice (some ⟨w2.heap.size, 0, none⟩) L.length L.length) L.length (intsRow (stOut L q)) ∧ w4.grownBy wr (some w2.heap.size) ∧ Below w2.heap.size w2 wr) (fun i _ => L.length - (intOf i).toNat)
    case atStart => exact ⟨0, Nat.zero_le _, rfl, Ho4.out, gb_refl _ _, b4⟩
    case round =>
      obtain ⟨q, hq, rfl, ho, hg, hb⟩ := hrel
      have Ho := Lib.hid ho
      have Hg := Lib.hid hg
      have hsz := hb.size
      clear ho hg
      by_cases hql : q < L.length
      · obtain ⟨b, hbe, hbl⟩ := ord_at (L := L) (q := q) (by rw [Hfull.out]; exact hql)
        obtain ⟨_, _, hYe, _, _, hYr⟩ := HY.out.grown Hg.out (fun g' hg' h => by injection hg' with hg'; have := (Hyl.out g' h).1; omega)
        injection hYe with e1 _ e3
        subst e1
        subst e3
        obtain ⟨gy, oy, rfl, hgy, c0⟩ := hYr.ints (k := q) (by rw [Hfull.out]; exact hql)
        rw [hbe] at c0
        have hgyne : gy ≠ w2.heap.size := by have := (Hyl.out gy rfl).1; omega
        obtain ⟨gs, os, rfl, hgs, d0, d1, B, cc, d2, hcc, hcm, hrd⟩ := Hr2.out.at hbl
        have D0 := (hb.cell (p := ⟨gs, os + b * 3, none⟩) hgs).trans d0
        have D1 := (hb.cell (p := ⟨gs, os + b * 3 + 1, none⟩) hgs).trans d1
        have D2 := (hb.cell (p := ⟨gs, os + b * 3 + 2, none⟩) hgs).trans d2
        have Hrd := Lib.hid hrd
        have Hbe := Lib.hid hbe
        have Hsu := Lib.hid (stOut_succ hbe)
        unfold maxLen at hcm
        obtain ⟨l, hl0⟩ : ∃ l, l = (stepAt L b).after := ⟨_, rfl⟩
        have Hlb := Lib.hid (fun k (hk : k < l.length) => steps_after Hok.out hbl (k := k) (by rw [← hl0]; exact hk))
        have Hself := Lib.hid ((steps_bd Hok.out hbl).2.2.2)
        rw [← hl0] at Hsu Hrd Hself D2 hcc Hlb
        have Hl0 := Lib.hid hl0
        clear d0 d1 d2 hrd hbe hYr hl0
        go_wp2
        go_loopw [28] (fun i wr => ∃ k : Nat, k ≤ l.length ∧ i = .int .i64 k ∧ wr.ownsRow w2.heap.size 2 1 (.slice (some ⟨w2.heap.size, 0, none⟩) L.length L.length) L.length (intsRow (stIn L b (stOut L q) k)) ∧ w4.grownBy wr (some w2.heap.size) ∧ Below w2.heap.size w2 wr) (fun i _ => l.length - (intOf i).toNat)
        case atStart => exact ⟨0, Nat.zero_le _, rfl, Ho.out, Hg.out, hb⟩
        case round =>
          clear c0 D0 D1 D2
          clear Ho Hg
          
          obtain ⟨k, hk, rfl, ho, hg, hb⟩ := hrel
          have Ho := Lib.hid ho
          have Hg := Lib.hid hg
          have hsz := hb.size
          clear ho hg
          by_cases hkl : k < l.length
          · obtain ⟨ga, oa, rfl, hga, a0⟩ := (show Rd w2 w2.heap.size 1 B l.length (intsRow l) from Hrd.out).ints hkl
            obtain ⟨j0, j1⟩ := Hlb.out k hkl
            obtain ⟨j, hje⟩ := Int.eq_ofNat_of_zero_le j0
            have hjl : j < L.length := by omega
            have hjb : j ≠ b := fun e => Hself.out (by rw [← e, ← hje, intsAt_lt hkl]; exact List.getElem_mem hkl)
            rw [hje] at a0
            have HS := Lib.hid (stIn_succ (L := L) (i := b) (k := k) (j := j) (out := stOut L q) (by rw [← Hl0.out]; exact hje))
            obtain ⟨gs2, os2, hA2, _, m0, _⟩ := Hr2.out.at hjl
            injection hA2 with hA2
            injection hA2 with hA21 hA22
            subst hA21
            subst hA22
            have a1 := (hb.cell (p := ⟨ga, oa + k, none⟩) hga).trans a0
            have m1 := (hb.cell (p := ⟨gs, os + j * 3, none⟩) hgs).trans m0
            have hil : (stIn L b (stOut L q) k).length = L.length := by rw [stIn_len, stOut_len]
            have e1 := (Ho.out.cellAt b (by omega)).trans (intsRow_at (stIn L b (stOut L q) k) b (by omega))
            have e2 := (Ho.out.cellAt j (by omega)).trans (intsRow_at (stIn L b (stOut L q) k) j (by omega))
            obtain ⟨u, hu⟩ : ∃ u, u = intsAt (stIn L b (stOut L q) k) b := ⟨_, rfl⟩
            obtain ⟨x2, hx2⟩ : ∃ x2, x2 = intsAt (stIn L b (stOut L q) k) j := ⟨_, rfl⟩
            obtain ⟨mn, hmn⟩ : ∃ mn, mn = (stepAt L j).minutes := ⟨_, rfl⟩
            rw [← hu] at e1 HS
            rw [← hx2] at e2 HS
            rw [← hmn] at m1 HS
            have f1 := Ho.out.frozenAt b
            have n1 : (⟨w2.heap.size, b, none⟩ : Addr) ≠ ⟨w2.heap.size, j, none⟩ := fun e => hjb (congrArg Addr.off e).symm
            have n2 : (⟨w2.heap.size, b, none⟩ : Addr) ≠ ⟨gs, os + j * 3, none⟩ := fun e => by have := congrArg Addr.block e; simp only at this; omega
            have n3 : (⟨w2.heap.size, b, none⟩ : Addr) ≠ ⟨ga, oa + k, none⟩ := fun e => by have := congrArg Addr.block e; simp only at this; omega
            have n4 : (⟨w2.heap.size, b, none⟩ : Addr) ≠ ⟨gy, oy + q, none⟩ := fun e => hgyne (congrArg Addr.block e).symm
            have i0' : (0 : Int) ≤ (b : Int) := Int.natCast_nonneg _
            have i1 : (b : Int) < (L.length : Int) := by omega
            have i2 : (0 : Int) ≤ (j : Int) := Int.natCast_nonneg _
            have i3 : (j : Int) < (L.length : Int) := by omega
            have i4 : (0 : Int) ≤ (k : Int) := Int.natCast_nonneg _
            have i5 : (k : Int) < (l.length : Int) := by omega
            have i6 : (0 : Int) ≤ (q : Int) := Int.natCast_nonneg _
            have i7 : (q : Int) < (L.length : Int) := by omega
            clear hu hx2 hmn a0 m0 hje j0 j1 hil
            go_wp2
            refine wp_region_held_drew (S := (fun w' => w'.cell? ⟨w2.heap.size, j, none⟩ = some (.int .i64 x2) ∧ w'.cell? ⟨gs, os + j * 3, none⟩ = some (.int .i64 mn))) (by kernel_rfl) ?_ (fun hHeld => ?_)
            · (try dsimp only); first | exact ⟨e2, m1⟩ | exact hHeld | exact ⟨keep_cell hHeld.1 n1, keep_cell hHeld.2 n2⟩
            refine wpAnyH_take (i := 0) (v := ?_) rfl (by kernel_rfl) (by kernel_rfl) (by kernel_rfl) (fun _ _ _ h => h) (Or.inl ⟨by rfl, ?_⟩) (by assumption) ?_
            rotate_left
            · (intro w hSw; (try dsimp only at hSw); go_simp) <;> with_reducible rfl
            try simp only [Act.put, List.setIfInBounds_toArray, List.set_cons_zero, List.set_cons_succ, List.getElem_toArray, List.getElem_cons_succ, List.getElem_cons_zero]
            refine wpAnyH_take (i := 1) (v := ?_) rfl (by kernel_rfl) (by kernel_rfl) (by kernel_rfl) (fun _ _ _ h => h) (Or.inl ⟨by rfl, ?_⟩) (by assumption) ?_
            rotate_left
            · (intro w hSw; (try dsimp only at hSw); go_simp) <;> with_reducible rfl
            try simp only [Act.put, List.setIfInBounds_toArray, List.set_cons_zero, List.set_cons_succ, List.getElem_toArray, List.getElem_cons_succ, List.getElem_cons_zero]
            refine wpAnyH_take (i := 2) (v := ?_) rfl (by kernel_rfl) (by kernel_rfl) (by kernel_rfl) (fun _ _ _ h => h) (Or.inl ⟨by rfl, ?_⟩) (by assumption) ?_
            rotate_left
            · (intro w hSw; (try dsimp only at hSw); go_simp) <;> with_reducible rfl
            try simp only [Act.put, List.setIfInBounds_toArray, List.set_cons_zero, List.set_cons_succ, List.getElem_toArray, List.getElem_cons_succ, List.getElem_cons_zero]
            refine wpAnyH_take (i := 3) (v := ?_) rfl (by kernel_rfl) (by kernel_rfl) (by kernel_rfl) (fun _ _ _ h => h) (Or.inl ⟨by rfl, ?_⟩) (by assumption) ?_
            rotate_left
            · (intro w hSw; (try dsimp only at hSw); go_simp) <;> with_reducible rfl
            try simp only [Act.put, List.setIfInBounds_toArray, List.set_cons_zero, List.set_cons_succ, List.getElem_toArray, List.getElem_cons_succ, List.getElem_cons_zero]
            refine wpAnyH_take (i := 4) (v := ?_) rfl (by kernel_rfl) (by kernel_rfl) (by kernel_rfl) (fun _ _ _ h => h) (Or.inl ⟨by rfl, ?_⟩) (by assumption) ?_
            rotate_left
            · (intro w hSw; (try dsimp only at hSw); go_simp) <;> with_reducible rfl
            try simp only [Act.put, List.setIfInBounds_toArray, List.set_cons_zero, List.set_cons_succ, List.getElem_toArray, List.getElem_cons_succ, List.getElem_cons_zero]
            refine wpAnyH_take (i := 6) (v := ?_) rfl (by kernel_rfl) (by kernel_rfl) (by kernel_rfl) (fun _ _ _ h => h) (Or.inl ⟨by rfl, ?_⟩) (by assumption) ?_
            rotate_left
            · (intro w hSw; (try dsimp only at hSw); go_simp) <;> with_reducible rfl
            try simp only [Act.put, List.setIfInBounds_toArray, List.set_cons_zero, List.set_cons_succ, List.getElem_toArray, List.getElem_cons_succ, List.getElem_cons_zero]
            refine wpAnyH_take (i := 7) (v := ?_) rfl (by kernel_rfl) (by kernel_rfl) (by kernel_rfl) (fun _ _ _ h => h) (Or.inl ⟨by rfl, ?_⟩) (by assumption) ?_
            rotate_left
            · (intro w hSw; (try dsimp only at hSw); go_simp) <;> with_reducible rfl
            try simp only [Act.put, List.setIfInBounds_toArray, List.set_cons_zero, List.set_cons_succ, List.getElem_toArray, List.getElem_cons_succ, List.getElem_cons_zero]
            refine wpAnyH_take (i := 8) (v := ?_) rfl (by kernel_rfl) (by kernel_rfl) (by kernel_rfl) (fun _ _ _ h => h) (Or.inl ⟨by rfl, ?_⟩) (by assumption) ?_
            rotate_left
            · (intro w hSw; (try dsimp only at hSw); go_simp) <;> with_reducible rfl
            try simp only [Act.put, List.setIfInBounds_toArray, List.set_cons_zero, List.set_cons_succ, List.getElem_toArray, List.getElem_cons_succ, List.getElem_cons_zero]
            refine wpAnyH_take (i := 9) (v := ?_) rfl (by kernel_rfl) (by kernel_rfl) (by kernel_rfl) (fun _ _ _ h => h) (Or.inl ⟨by rfl, ?_⟩) (by assumption) ?_
            rotate_left
            · (intro w hSw; (try dsimp only at hSw); go_simp) <;> with_reducible rfl
            try simp only [Act.put, List.setIfInBounds_toArray, List.set_cons_zero, List.set_cons_succ, List.getElem_toArray, List.getElem_cons_succ, List.getElem_cons_zero]
            refine wpAnyH_take (i := 10) (v := ?_) rfl (by kernel_rfl) (by kernel_rfl) (by kernel_rfl) (fun _ _ _ h => h) (Or.inl ⟨by rfl, ?_⟩) (by assumption) ?_
            rotate_left
            · (intro w hSw; (try dsimp only at hSw); go_simp) <;> with_reducible rfl
            try simp only [Act.put, List.setIfInBounds_toArray, List.set_cons_zero, List.set_cons_succ, List.getElem_toArray, List.getElem_cons_succ, List.getElem_cons_zero]
            refine wpAnyH_take (i := 11) (v := ?_) rfl (by kernel_rfl) (by kernel_rfl) (by kernel_rfl) (fun _ _ _ h => h) (Or.inl ⟨by rfl, ?_⟩) (by assumption) ?_
            rotate_left
            · (intro w hSw; (try dsimp only at hSw); go_simp) <;> with_reducible rfl
            try simp only [Act.put, List.setIfInBounds_toArray, List.set_cons_zero, List.set_cons_succ, List.getElem_toArray, List.getElem_cons_succ, List.getElem_cons_zero]
            refine wpAnyH_take (i := 12) (v := ?_) rfl (by kernel_rfl) (by kernel_rfl) (by kernel_rfl) (fun _ _ _ h => h) (Or.inl ⟨by rfl, ?_⟩) (by assumption) ?_
            rotate_left
            · (intro w hSw; (try dsimp only at hSw); go_simp) <;> with_reducible rfl
            try simp only [Act.put, List.setIfInBounds_toArray, List.set_cons_zero, List.set_cons_succ, List.getElem_toArray, List.getElem_cons_succ, List.getElem_cons_zero]
            refine wpAnyH_take (i := 13) (v := ?_) rfl (by kernel_rfl) (by kernel_rfl) (by kernel_rfl) (fun _ _ _ h => h) (Or.inl ⟨by rfl, ?_⟩) (by assumption) ?_
            rotate_left
            · (intro w hSw; (try dsimp only at hSw); go_simp) <;> with_reducible rfl
            try simp only [Act.put, List.setIfInBounds_toArray, List.set_cons_zero, List.set_cons_succ, List.getElem_toArray, List.getElem_cons_succ, List.getElem_cons_zero]
            refine wpAnyH_take (i := 14) (v := ?_) rfl (by kernel_rfl) (by kernel_rfl) (by kernel_rfl) (fun _ _ _ h => h) (Or.inl ⟨by rfl, ?_⟩) (by assumption) ?_
            rotate_left
            · (intro w hSw; (try dsimp only at hSw); go_simp) <;> with_reducible rfl
            try simp only [Act.put, List.setIfInBounds_toArray, List.set_cons_zero, List.set_cons_succ, List.getElem_toArray, List.getElem_cons_succ, List.getElem_cons_zero]
            refine wpAnyH_take (i := 15) (v := ?_) rfl (by kernel_rfl) (by kernel_rfl) (by kernel_rfl) (fun _ _ _ h => h) (Or.inl ⟨by rfl, ?_⟩) (by assumption) ?_
            rotate_left
            · (intro w hSw; (try dsimp only at hSw); go_simp) <;> with_reducible rfl
            try simp only [Act.put, List.setIfInBounds_toArray, List.set_cons_zero, List.set_cons_succ, List.getElem_toArray, List.getElem_cons_succ, List.getElem_cons_zero]
            refine wpAnyH_ready (rs := [5]) (by kernel_rfl) (by simp) ?_
            refine AllReadyH.cons rfl (fun K hK => ?_) AllReadyH.nil
            try dsimp only [List.getElem_toArray, List.getElem_cons_succ, List.getElem_cons_zero]
            go_simp
            refine hK.out _ _ ?_ (fun hHeld => ?_)
            · (try dsimp only); first | exact ⟨e2, m1⟩ | exact hHeld | exact ⟨keep_cell hHeld.1 n1, keep_cell hHeld.2 n2⟩
            clear hK K
            try simp only [Act.put, List.setIfInBounds_toArray, List.set_cons_zero, List.set_cons_succ, List.getElem_toArray, List.getElem_cons_succ, List.getElem_cons_zero]
            refine wpAnyH_take (i := 16) (v := ?_) rfl (by kernel_rfl) (by kernel_rfl) (by kernel_rfl) (fun _ _ _ h => h) (Or.inl ⟨by rfl, ?_⟩) (by assumption) ?_
            rotate_left
            · (intro w hSw; (try dsimp only at hSw); go_simp) <;> with_reducible rfl
            try simp only [Act.put, List.setIfInBounds_toArray, List.set_cons_zero, List.set_cons_succ, List.getElem_toArray, List.getElem_cons_succ, List.getElem_cons_zero]
            refine wpAnyH_take (i := 17) (v := ?_) rfl (by kernel_rfl) (by kernel_rfl) (by kernel_rfl) (fun _ _ _ h => h) (Or.inl ⟨by rfl, ?_⟩) (by assumption) ?_
            rotate_left
            · (intro w hSw; (try dsimp only at hSw); go_simp) <;> with_reducible rfl
            try simp only [Act.put, List.setIfInBounds_toArray, List.set_cons_zero, List.set_cons_succ, List.getElem_toArray, List.getElem_cons_succ, List.getElem_cons_zero]
            refine wpAnyH_ready (rs := [18]) (by kernel_rfl) (by simp) ?_
            refine AllReadyH.cons rfl (fun K hK => ?_) AllReadyH.nil
            try dsimp only [List.getElem_toArray, List.getElem_cons_succ, List.getElem_cons_zero]
            go_simp
            refine hK.out _ _ ?_ (fun hHeld => ?_)
            · (try dsimp only); first | exact ⟨e2, m1⟩ | exact hHeld | exact ⟨keep_cell hHeld.1 n1, keep_cell hHeld.2 n2⟩
            clear hK K
            try simp only [Act.put, List.setIfInBounds_toArray, List.set_cons_zero, List.set_cons_succ, List.getElem_toArray, List.getElem_cons_succ, List.getElem_cons_zero]
            refine wpAnyH_done (by kernel_rfl) ?_ _
            have HC := Lib.hid (show ((wr.setCell ⟨w2.heap.size, b, none⟩ (.int .i64 (if u < wrap64 (x2 + mn) then wrap64 (x2 + mn) else u))).drew).ownsRow w2.heap.size 2 1 (.slice (some ⟨w2.heap.size, 0, none⟩) L.length L.length) L.length (intsRow (stIn L b (stOut L q) (k + 1))) by
              rw [HS.out, mx, ← intsRow_set]
              exact (Ho.out.stored b _).1.drew)
            have HG := Lib.hid (show w4.grownBy ((wr.setCell ⟨w2.heap.size, b, none⟩ (.int .i64 (if u < wrap64 (x2 + mn) then wrap64 (x2 + mn) else u))).drew) (some w2.heap.size) from gb_drew (gb_trans Hg.out (Ho.out.stored b _).2))
            have hbq : Below w2.heap.size w2 ((wr.setCell ⟨w2.heap.size, b, none⟩ (.int .i64 (if u < wrap64 (x2 + mn) then wrap64 (x2 + mn) else u))).drew) := (hb.setCell (Nat.le_refl _) _).drew
            clear e1 e2 f1 m1 a1
            go_wp2
            go_roundw
            case rel => exact ⟨k + 1, by omega, by go_num, HC.out, HG.out, hbq⟩
            case measure => simp [intOf]; omega
          · have hke : k = l.length := by omega
            have HK := Lib.hid hke
            go_wp2
            go_roundw
            case rel => exact ⟨q + 1, by omega, by go_num, by rw [Hsu.out, ← HK.out]; exact Ho.out, Hg.out, hb⟩
            case measure => simp [intOf]; omega
      · have hqe : q = L.length := by omega
        have HQ := Lib.hid hqe
        go_wp2
        go_ret2
        exact RetSC.ok H.out Ho.out (by rw [stOut_len]) (by rw [HQ.out]) hsz2 (hb2.trans (hb.mono hsz2))

set_option maxHeartbeats 8000000 in
theorem specStarts_any (w : World) (L : List Step) (V : Value) (hv : Steps w V L) (hn : L.length ≤ 1048576) (h1 : isRecipe L = true) :
    Calls Try.prog 70 #[V] w (Gives w.heap.size 2 1 L.length (intsRow (stOut L L.length)) w) := by
  have Hv := Lib.hid hv
  clear hv
  obtain ⟨h9, hok, hfull⟩ := isRecipe_iff.1 h1
  have Hok := Lib.hid hok
  have Hfull := Lib.hid hfull
  have H := Lib.hid (starts_ok h1)
  obtain ⟨i0, hi, hz0, hz1, hz2⟩ := info_parts Try.info_ints
  obtain ⟨A, c, rfl, hl, hc, _⟩ := Hv.out
  unfold maxLen at hc
  clear hok hfull
  go_enter Try.func70, Try.ntmps70
  have hb2 : Below w.heap.size w w := Below.refl _ _
  have hsz2 := hb2.size
  have Hv2 := Lib.hid (Hv.out.below hb2)
  go_wp2_with (at_make; (refine wpList_make_full _ rfl _ _ 29 rfl w.heap.size 2 i0 _ 1 Try.underlying29 hi hz0 hz1 _ _ _ _ L.length rfl rfl rfl rfl ?b1 ?b2 ?b3 ?_))
  case b1 => rw [hz2]; omega
  case b2 => unfold maxLen; omega
  case b3 => exact Nat.le_refl _
  intro w3 hown hgr
  have hb3 := (Below.refl w.heap.size w).grown hgr (Nat.le_refl _) (fun _ h => by cases h)
  have hsz3 := hb3.size
  have hz : (madeCells #[Value.int .i64 0] L.length).toList = intsRow (List.replicate L.length 0) := by
    rw [toList_madeCells_one]; simp [intsRow]
  have Ho3 := Lib.hid (show w3.ownsRow w.heap.size 2 1 (.slice (some ⟨w.heap.size, 0, none⟩) L.length L.length) L.length (intsRow (stOut L 0)) by rw [stOut, ← hz]; exact hown)
  have Hv3 := Lib.hid (Hv2.out.below hb3)
  have hglt : w.heap.size < w3.heap.size := (World.ownsRow.lt hown _ rfl).2
  clear hown hgr hz
  go_wp2_with fail
  refine (specFirst_any w3 L _ Hv3.out (Nat.le_trans h9 (by decide))).mono ?_
  rintro e w4 ⟨y, rfl, ho4, hb4⟩
  obtain ⟨Ay, cy, rfl, _, _⟩ := own_slice ho4
  have hyl := World.ownsRow.lt ho4
  have Hy4 := Lib.hid ho4
  have Hyl := Lib.hid hyl
  have Ho4 := Lib.hid (own_below Ho3.out hb4)
  have b4 : Below w.heap.size w w4 := hb3.trans (hb4.mono hsz3)
  have hsz4 := b4.size
  have hgl4 : w.heap.size < w4.heap.size := Nat.lt_of_lt_of_le hglt hb4.size
  obtain ⟨_, _, hVe, _, _, hr2⟩ := Hv2.out
  injection hVe with hVe _ _
  subst hVe
  have Hr2 := Lib.hid hr2
  clear hr2 ho4 hyl
  have HY := Lib.hid (show Sl w4 1 (.slice Ay (firstOrd L).length cy) (firstOrd L).length (intsRow (firstOrd L)) from Sl.of_own Hy4.out)
  clear hb3 hb4 hsz3
  go_wp2
  rw [Hfull.out]
  go_loopw [5] (fun i wr => ∃ q : Nat, q ≤ L.length ∧ i = .int .i64 q ∧ wr.ownsRow w.heap.size 2 1 (.slice (some ⟨w.heap.size, 0, none⟩) L.length L.length) L.length (intsRow (stOut L q)) ∧ w4.grownBy wr (some w.heap.size) ∧ Below w.heap.size w wr) (fun i _ => L.length - (intOf i).toNat)
  case atStart => exact ⟨0, Nat.zero_le _, rfl, Ho4.out, gb_refl _ _, b4⟩
  case round =>
    obtain ⟨q, hq, rfl, ho, hg, hb⟩ := hrel
    have Ho := Lib.hid ho
    have Hg := Lib.hid hg
    have hsz := hb.size
    clear ho hg
    by_cases hql : q < L.length
    · obtain ⟨b, hbe, hbl⟩ := ord_at (L := L) (q := q) (by rw [Hfull.out]; exact hql)
      obtain ⟨_, _, hYe, _, _, hYr⟩ := HY.out.grown Hg.out (fun g' hg' h => by injection hg' with hg'; have := (Hyl.out g' h).1; omega)
      injection hYe with e1 _ e3
      subst e1
      subst e3
      obtain ⟨gy, oy, rfl, hgy, c0⟩ := hYr.ints (k := q) (by rw [Hfull.out]; exact hql)
      rw [hbe] at c0
      have hgyne : gy ≠ w.heap.size := by have := (Hyl.out gy rfl).1; omega
      obtain ⟨gs, os, rfl, hgs, d0, d1, B, cc, d2, hcc, hcm, hrd⟩ := Hr2.out.at hbl
      have D0 := (hb.cell (p := ⟨gs, os + b * 3, none⟩) hgs).trans d0
      have D1 := (hb.cell (p := ⟨gs, os + b * 3 + 1, none⟩) hgs).trans d1
      have D2 := (hb.cell (p := ⟨gs, os + b * 3 + 2, none⟩) hgs).trans d2
      have Hrd := Lib.hid hrd
      have Hbe := Lib.hid hbe
      have Hsu := Lib.hid (stOut_succ hbe)
      unfold maxLen at hcm
      obtain ⟨l, hl0⟩ : ∃ l, l = (stepAt L b).after := ⟨_, rfl⟩
      have Hlb := Lib.hid (fun k (hk : k < l.length) => steps_after Hok.out hbl (k := k) (by rw [← hl0]; exact hk))
      have Hself := Lib.hid ((steps_bd Hok.out hbl).2.2.2)
      rw [← hl0] at Hsu Hrd Hself D2 hcc Hlb
      have Hl0 := Lib.hid hl0
      clear d0 d1 d2 hrd hbe hYr hl0
      obtain ⟨x, hx⟩ : ∃ x, x = wr.alloc (.cells #[.int .i64 (stepAt L b).minutes, .int .i64 (stepAt L b).tool, .slice B l.length cc] 51) := ⟨_, rfl⟩
      have hbx : Below wr.heap.size wr x := by rw [hx]; exact (Below.refl _ _).alloc (Nat.le_refl _) _
      have hxs : wr.heap.size < x.heap.size := by rw [hx]; simp
      have hB := Blk.new wr 51 #[.int .i64 (stepAt L b).minutes, .int .i64 (stepAt L b).tool, .slice B l.length cc]
      rw [← hx] at hB
      have Ox := Lib.hid (own_below Ho.out hbx)
      have Gx := Lib.hid (gb_below Hg.out hbx)
      have bx := hb.trans (hbx.mono hsz)
      have HBx := Lib.hid hB
      have hgw : w.heap.size < wr.heap.size := (World.ownsRow.lt Ho.out _ rfl).2
      have hy0 := (hbx.cell (p := ⟨gy, oy + q, none⟩) hgy).trans c0
      have Hy0 := Lib.hid hy0
      have Bx := Lib.hid bx
      clear hbx hB hy0 bx
      go_wp2
      rw [← hx]
      clear hx c0 D0 D1 D2
      go_loopw [7] (fun i wy => ∃ k : Nat, k ≤ l.length ∧ i = .int .i64 k ∧ wy.ownsRow w.heap.size 2 1 (.slice (some ⟨w.heap.size, 0, none⟩) L.length L.length) L.length (intsRow (stIn L b (stOut L q) k)) ∧ w4.grownBy wy (some w.heap.size) ∧ Below w.heap.size w wy ∧ Blk wy wr.heap.size 51 #[.int .i64 (stepAt L b).minutes, .int .i64 (stepAt L b).tool, .slice B l.length cc] ∧ wy.cell? ⟨gy, oy + q, none⟩ = some (.int .i64 b)) (fun i _ => l.length - (intOf i).toNat)
      case atStart => exact ⟨0, Nat.zero_le _, rfl, Ox.out, Gx.out, Bx.out, HBx.out, Hy0.out⟩
      case round =>
        clear Ho Hg
        rename World => wy
        obtain ⟨k, hk, rfl, ho, hg, hb, hbk, hcy⟩ := hrel
        have Ho := Lib.hid ho
        have Hg := Lib.hid hg
        have hsz := hb.size
        have k2 : wy.cell? ⟨wr.heap.size, 2, none⟩ = some (.slice B l.length cc) := hbk.cell 2
        have Hbk := Lib.hid hbk
        have Hcy := Lib.hid hcy
        clear hbk
        have hxne : wr.heap.size ≠ w.heap.size := by omega
        clear ho hg
        by_cases hkl : k < l.length
        · obtain ⟨ga, oa, rfl, hga, a0⟩ := (show Rd w w.heap.size 1 B l.length (intsRow l) from Hrd.out).ints hkl
          obtain ⟨j0, j1⟩ := Hlb.out k hkl
          obtain ⟨j, hje⟩ := Int.eq_ofNat_of_zero_le j0
          have hjl : j < L.length := by omega
          have hjb : j ≠ b := fun e => Hself.out (by rw [← e, ← hje, intsAt_lt hkl]; exact List.getElem_mem hkl)
          rw [hje] at a0
          have HS := Lib.hid (stIn_succ (L := L) (i := b) (k := k) (j := j) (out := stOut L q) (by rw [← Hl0.out]; exact hje))
          obtain ⟨gs2, os2, hA2, _, m0, _⟩ := Hr2.out.at hjl
          injection hA2 with hA2
          injection hA2 with hA21 hA22
          subst hA21
          subst hA22
          have a1 := (hb.cell (p := ⟨ga, oa + k, none⟩) hga).trans a0
          have m1 := (hb.cell (p := ⟨gs, os + j * 3, none⟩) hgs).trans m0
          have hil : (stIn L b (stOut L q) k).length = L.length := by rw [stIn_len, stOut_len]
          have e1 := (Ho.out.cellAt b (by omega)).trans (intsRow_at (stIn L b (stOut L q) k) b (by omega))
          have e2 := (Ho.out.cellAt j (by omega)).trans (intsRow_at (stIn L b (stOut L q) k) j (by omega))
          obtain ⟨u, hu⟩ : ∃ u, u = intsAt (stIn L b (stOut L q) k) b := ⟨_, rfl⟩
          obtain ⟨x2, hx2⟩ : ∃ x2, x2 = intsAt (stIn L b (stOut L q) k) j := ⟨_, rfl⟩
          obtain ⟨mn, hmn⟩ : ∃ mn, mn = (stepAt L j).minutes := ⟨_, rfl⟩
          rw [← hu] at e1 HS
          rw [← hx2] at e2 HS
          rw [← hmn] at m1 HS
          have f1 := Ho.out.frozenAt b
          have n1 : (⟨w.heap.size, b, none⟩ : Addr) ≠ ⟨w.heap.size, j, none⟩ := fun e => hjb (congrArg Addr.off e).symm
          have n2 : (⟨w.heap.size, b, none⟩ : Addr) ≠ ⟨gs, os + j * 3, none⟩ := fun e => by have := congrArg Addr.block e; simp only at this; omega
          have n3 : (⟨w.heap.size, b, none⟩ : Addr) ≠ ⟨ga, oa + k, none⟩ := fun e => by have := congrArg Addr.block e; simp only at this; omega
          have n4 : (⟨w.heap.size, b, none⟩ : Addr) ≠ ⟨gy, oy + q, none⟩ := fun e => hgyne (congrArg Addr.block e).symm
          have n5 : (⟨w.heap.size, b, none⟩ : Addr) ≠ ⟨wr.heap.size, 2, none⟩ := fun e => hxne (congrArg Addr.block e).symm
          have i0' : (0 : Int) ≤ (b : Int) := Int.natCast_nonneg _
          have i1 : (b : Int) < (L.length : Int) := by omega
          have i2 : (0 : Int) ≤ (j : Int) := Int.natCast_nonneg _
          have i3 : (j : Int) < (L.length : Int) := by omega
          have i4 : (0 : Int) ≤ (k : Int) := Int.natCast_nonneg _
          have i5 : (k : Int) < (l.length : Int) := by omega
          have i6 : (0 : Int) ≤ (q : Int) := Int.natCast_nonneg _
          have i7 : (q : Int) < (L.length : Int) := by omega
          clear hu hx2 hmn a0 m0 hje j0 j1 hil
          go_wp2
          refine wp_region_held_drew (S := (fun w' => w'.cell? ⟨w.heap.size, j, none⟩ = some (.int .i64 x2) ∧ w'.cell? ⟨gs, os + j * 3, none⟩ = some (.int .i64 mn) ∧ w'.cell? ⟨ga, oa + k, none⟩ = some (.int .i64 j) ∧ w'.cell? ⟨gy, oy + q, none⟩ = some (.int .i64 b) ∧ w'.cell? ⟨wr.heap.size, 2, none⟩ = some (.slice (some ⟨ga, oa, none⟩) l.length cc))) (by kernel_rfl) ?_ (fun hHeld => ?_)
          · (try dsimp only); first | exact ⟨e2, m1, a1, hcy, k2⟩ | exact hHeld | exact ⟨keep_cell hHeld.1 n1, keep_cell hHeld.2.1 n2, keep_cell hHeld.2.2.1 n3, keep_cell hHeld.2.2.2.1 n4, keep_cell hHeld.2.2.2.2 n5⟩
          refine wpAnyH_take (i := 0) (v := ?_) rfl (by kernel_rfl) (by kernel_rfl) (by kernel_rfl) (fun _ _ _ h => h) (Or.inl ⟨by rfl, ?_⟩) (by assumption) ?_
          rotate_left
          · (intro w hSw; (try dsimp only at hSw); go_simp) <;> with_reducible rfl
          try simp only [Act.put, List.setIfInBounds_toArray, List.set_cons_zero, List.set_cons_succ, List.getElem_toArray, List.getElem_cons_succ, List.getElem_cons_zero]
          refine wpAnyH_take (i := 1) (v := ?_) rfl (by kernel_rfl) (by kernel_rfl) (by kernel_rfl) (fun _ _ _ h => h) (Or.inl ⟨by rfl, ?_⟩) (by assumption) ?_
          rotate_left
          · (intro w hSw; (try dsimp only at hSw); go_simp) <;> with_reducible rfl
          try simp only [Act.put, List.setIfInBounds_toArray, List.set_cons_zero, List.set_cons_succ, List.getElem_toArray, List.getElem_cons_succ, List.getElem_cons_zero]
          refine wpAnyH_take (i := 2) (v := ?_) rfl (by kernel_rfl) (by kernel_rfl) (by kernel_rfl) (fun _ _ _ h => h) (Or.inl ⟨by rfl, ?_⟩) (by assumption) ?_
          rotate_left
          · (intro w hSw; (try dsimp only at hSw); go_simp) <;> with_reducible rfl
          try simp only [Act.put, List.setIfInBounds_toArray, List.set_cons_zero, List.set_cons_succ, List.getElem_toArray, List.getElem_cons_succ, List.getElem_cons_zero]
          refine wpAnyH_take (i := 3) (v := ?_) rfl (by kernel_rfl) (by kernel_rfl) (by kernel_rfl) (fun _ _ _ h => h) (Or.inl ⟨by rfl, ?_⟩) (by assumption) ?_
          rotate_left
          · (intro w hSw; (try dsimp only at hSw); go_simp) <;> with_reducible rfl
          try simp only [Act.put, List.setIfInBounds_toArray, List.set_cons_zero, List.set_cons_succ, List.getElem_toArray, List.getElem_cons_succ, List.getElem_cons_zero]
          refine wpAnyH_take (i := 4) (v := ?_) rfl (by kernel_rfl) (by kernel_rfl) (by kernel_rfl) (fun _ _ _ h => h) (Or.inl ⟨by rfl, ?_⟩) (by assumption) ?_
          rotate_left
          · (intro w hSw; (try dsimp only at hSw); go_simp) <;> with_reducible rfl
          try simp only [Act.put, List.setIfInBounds_toArray, List.set_cons_zero, List.set_cons_succ, List.getElem_toArray, List.getElem_cons_succ, List.getElem_cons_zero]
          refine wpAnyH_take (i := 5) (v := ?_) rfl (by kernel_rfl) (by kernel_rfl) (by kernel_rfl) (fun _ _ _ h => h) (Or.inl ⟨by rfl, ?_⟩) (by assumption) ?_
          rotate_left
          · (intro w hSw; (try dsimp only at hSw); go_simp) <;> with_reducible rfl
          try simp only [Act.put, List.setIfInBounds_toArray, List.set_cons_zero, List.set_cons_succ, List.getElem_toArray, List.getElem_cons_succ, List.getElem_cons_zero]
          refine wpAnyH_take (i := 6) (v := ?_) rfl (by kernel_rfl) (by kernel_rfl) (by kernel_rfl) (fun _ _ _ h => h) (Or.inl ⟨by rfl, ?_⟩) (by assumption) ?_
          rotate_left
          · (intro w hSw; (try dsimp only at hSw); go_simp) <;> with_reducible rfl
          try simp only [Act.put, List.setIfInBounds_toArray, List.set_cons_zero, List.set_cons_succ, List.getElem_toArray, List.getElem_cons_succ, List.getElem_cons_zero]
          refine wpAnyH_take (i := 7) (v := ?_) rfl (by kernel_rfl) (by kernel_rfl) (by kernel_rfl) (fun _ _ _ h => h) (Or.inl ⟨by rfl, ?_⟩) (by assumption) ?_
          rotate_left
          · (intro w hSw; (try dsimp only at hSw); go_simp) <;> with_reducible rfl
          try simp only [Act.put, List.setIfInBounds_toArray, List.set_cons_zero, List.set_cons_succ, List.getElem_toArray, List.getElem_cons_succ, List.getElem_cons_zero]
          refine wpAnyH_take (i := 8) (v := ?_) rfl (by kernel_rfl) (by kernel_rfl) (by kernel_rfl) (fun _ _ _ h => h) (Or.inl ⟨by rfl, ?_⟩) (by assumption) ?_
          rotate_left
          · (intro w hSw; (try dsimp only at hSw); go_simp) <;> with_reducible rfl
          try simp only [Act.put, List.setIfInBounds_toArray, List.set_cons_zero, List.set_cons_succ, List.getElem_toArray, List.getElem_cons_succ, List.getElem_cons_zero]
          refine wpAnyH_take (i := 9) (v := ?_) rfl (by kernel_rfl) (by kernel_rfl) (by kernel_rfl) (fun _ _ _ h => h) (Or.inl ⟨by rfl, ?_⟩) (by assumption) ?_
          rotate_left
          · (intro w hSw; (try dsimp only at hSw); go_simp) <;> with_reducible rfl
          try simp only [Act.put, List.setIfInBounds_toArray, List.set_cons_zero, List.set_cons_succ, List.getElem_toArray, List.getElem_cons_succ, List.getElem_cons_zero]
          refine wpAnyH_take (i := 10) (v := ?_) rfl (by kernel_rfl) (by kernel_rfl) (by kernel_rfl) (fun _ _ _ h => h) (Or.inl ⟨by rfl, ?_⟩) (by assumption) ?_
          rotate_left
          · (intro w hSw; (try dsimp only at hSw); go_simp) <;> with_reducible rfl
          try simp only [Act.put, List.setIfInBounds_toArray, List.set_cons_zero, List.set_cons_succ, List.getElem_toArray, List.getElem_cons_succ, List.getElem_cons_zero]
          refine wpAnyH_take (i := 12) (v := ?_) rfl (by kernel_rfl) (by kernel_rfl) (by kernel_rfl) (fun _ _ _ h => h) (Or.inl ⟨by rfl, ?_⟩) (by assumption) ?_
          rotate_left
          · (intro w hSw; (try dsimp only at hSw); go_simp) <;> with_reducible rfl
          try simp only [Act.put, List.setIfInBounds_toArray, List.set_cons_zero, List.set_cons_succ, List.getElem_toArray, List.getElem_cons_succ, List.getElem_cons_zero]
          refine wpAnyH_take (i := 13) (v := ?_) rfl (by kernel_rfl) (by kernel_rfl) (by kernel_rfl) (fun _ _ _ h => h) (Or.inl ⟨by rfl, ?_⟩) (by assumption) ?_
          rotate_left
          · (intro w hSw; (try dsimp only at hSw); go_simp) <;> with_reducible rfl
          try simp only [Act.put, List.setIfInBounds_toArray, List.set_cons_zero, List.set_cons_succ, List.getElem_toArray, List.getElem_cons_succ, List.getElem_cons_zero]
          refine wpAnyH_take (i := 14) (v := ?_) rfl (by kernel_rfl) (by kernel_rfl) (by kernel_rfl) (fun _ _ _ h => h) (Or.inl ⟨by rfl, ?_⟩) (by assumption) ?_
          rotate_left
          · (intro w hSw; (try dsimp only at hSw); go_simp) <;> with_reducible rfl
          try simp only [Act.put, List.setIfInBounds_toArray, List.set_cons_zero, List.set_cons_succ, List.getElem_toArray, List.getElem_cons_succ, List.getElem_cons_zero]
          refine wpAnyH_take (i := 15) (v := ?_) rfl (by kernel_rfl) (by kernel_rfl) (by kernel_rfl) (fun _ _ _ h => h) (Or.inl ⟨by rfl, ?_⟩) (by assumption) ?_
          rotate_left
          · (intro w hSw; (try dsimp only at hSw); go_simp) <;> with_reducible rfl
          try simp only [Act.put, List.setIfInBounds_toArray, List.set_cons_zero, List.set_cons_succ, List.getElem_toArray, List.getElem_cons_succ, List.getElem_cons_zero]
          refine wpAnyH_take (i := 16) (v := ?_) rfl (by kernel_rfl) (by kernel_rfl) (by kernel_rfl) (fun _ _ _ h => h) (Or.inl ⟨by rfl, ?_⟩) (by assumption) ?_
          rotate_left
          · (intro w hSw; (try dsimp only at hSw); go_simp) <;> with_reducible rfl
          try simp only [Act.put, List.setIfInBounds_toArray, List.set_cons_zero, List.set_cons_succ, List.getElem_toArray, List.getElem_cons_succ, List.getElem_cons_zero]
          refine wpAnyH_take (i := 17) (v := ?_) rfl (by kernel_rfl) (by kernel_rfl) (by kernel_rfl) (fun _ _ _ h => h) (Or.inl ⟨by rfl, ?_⟩) (by assumption) ?_
          rotate_left
          · (intro w hSw; (try dsimp only at hSw); go_simp) <;> with_reducible rfl
          try simp only [Act.put, List.setIfInBounds_toArray, List.set_cons_zero, List.set_cons_succ, List.getElem_toArray, List.getElem_cons_succ, List.getElem_cons_zero]
          refine wpAnyH_take (i := 18) (v := ?_) rfl (by kernel_rfl) (by kernel_rfl) (by kernel_rfl) (fun _ _ _ h => h) (Or.inl ⟨by rfl, ?_⟩) (by assumption) ?_
          rotate_left
          · (intro w hSw; (try dsimp only at hSw); go_simp) <;> with_reducible rfl
          try simp only [Act.put, List.setIfInBounds_toArray, List.set_cons_zero, List.set_cons_succ, List.getElem_toArray, List.getElem_cons_succ, List.getElem_cons_zero]
          refine wpAnyH_take (i := 19) (v := ?_) rfl (by kernel_rfl) (by kernel_rfl) (by kernel_rfl) (fun _ _ _ h => h) (Or.inl ⟨by rfl, ?_⟩) (by assumption) ?_
          rotate_left
          · (intro w hSw; (try dsimp only at hSw); go_simp) <;> with_reducible rfl
          try simp only [Act.put, List.setIfInBounds_toArray, List.set_cons_zero, List.set_cons_succ, List.getElem_toArray, List.getElem_cons_succ, List.getElem_cons_zero]
          refine wpAnyH_take (i := 20) (v := ?_) rfl (by kernel_rfl) (by kernel_rfl) (by kernel_rfl) (fun _ _ _ h => h) (Or.inl ⟨by rfl, ?_⟩) (by assumption) ?_
          rotate_left
          · (intro w hSw; (try dsimp only at hSw); go_simp) <;> with_reducible rfl
          try simp only [Act.put, List.setIfInBounds_toArray, List.set_cons_zero, List.set_cons_succ, List.getElem_toArray, List.getElem_cons_succ, List.getElem_cons_zero]
          refine wpAnyH_take (i := 21) (v := ?_) rfl (by kernel_rfl) (by kernel_rfl) (by kernel_rfl) (fun _ _ _ h => h) (Or.inl ⟨by rfl, ?_⟩) (by assumption) ?_
          rotate_left
          · (intro w hSw; (try dsimp only at hSw); go_simp) <;> with_reducible rfl
          try simp only [Act.put, List.setIfInBounds_toArray, List.set_cons_zero, List.set_cons_succ, List.getElem_toArray, List.getElem_cons_succ, List.getElem_cons_zero]
          refine wpAnyH_take (i := 22) (v := ?_) rfl (by kernel_rfl) (by kernel_rfl) (by kernel_rfl) (fun _ _ _ h => h) (Or.inl ⟨by rfl, ?_⟩) (by assumption) ?_
          rotate_left
          · (intro w hSw; (try dsimp only at hSw); go_simp) <;> with_reducible rfl
          try simp only [Act.put, List.setIfInBounds_toArray, List.set_cons_zero, List.set_cons_succ, List.getElem_toArray, List.getElem_cons_succ, List.getElem_cons_zero]
          refine wpAnyH_take (i := 23) (v := ?_) rfl (by kernel_rfl) (by kernel_rfl) (by kernel_rfl) (fun _ _ _ h => h) (Or.inl ⟨by rfl, ?_⟩) (by assumption) ?_
          rotate_left
          · (intro w hSw; (try dsimp only at hSw); go_simp) <;> with_reducible rfl
          try simp only [Act.put, List.setIfInBounds_toArray, List.set_cons_zero, List.set_cons_succ, List.getElem_toArray, List.getElem_cons_succ, List.getElem_cons_zero]
          refine wpAnyH_take (i := 24) (v := ?_) rfl (by kernel_rfl) (by kernel_rfl) (by kernel_rfl) (fun _ _ _ h => h) (Or.inl ⟨by rfl, ?_⟩) (by assumption) ?_
          rotate_left
          · (intro w hSw; (try dsimp only at hSw); go_simp) <;> with_reducible rfl
          try simp only [Act.put, List.setIfInBounds_toArray, List.set_cons_zero, List.set_cons_succ, List.getElem_toArray, List.getElem_cons_succ, List.getElem_cons_zero]
          refine wpAnyH_take (i := 25) (v := ?_) rfl (by kernel_rfl) (by kernel_rfl) (by kernel_rfl) (fun _ _ _ h => h) (Or.inl ⟨by rfl, ?_⟩) (by assumption) ?_
          rotate_left
          · (intro w hSw; (try dsimp only at hSw); go_simp) <;> with_reducible rfl
          try simp only [Act.put, List.setIfInBounds_toArray, List.set_cons_zero, List.set_cons_succ, List.getElem_toArray, List.getElem_cons_succ, List.getElem_cons_zero]
          refine wpAnyH_take (i := 26) (v := ?_) rfl (by kernel_rfl) (by kernel_rfl) (by kernel_rfl) (fun _ _ _ h => h) (Or.inl ⟨by rfl, ?_⟩) (by assumption) ?_
          rotate_left
          · (intro w hSw; (try dsimp only at hSw); go_simp) <;> with_reducible rfl
          try simp only [Act.put, List.setIfInBounds_toArray, List.set_cons_zero, List.set_cons_succ, List.getElem_toArray, List.getElem_cons_succ, List.getElem_cons_zero]
          refine wpAnyH_take (i := 27) (v := ?_) rfl (by kernel_rfl) (by kernel_rfl) (by kernel_rfl) (fun _ _ _ h => h) (Or.inl ⟨by rfl, ?_⟩) (by assumption) ?_
          rotate_left
          · (intro w hSw; (try dsimp only at hSw); go_simp) <;> with_reducible rfl
          try simp only [Act.put, List.setIfInBounds_toArray, List.set_cons_zero, List.set_cons_succ, List.getElem_toArray, List.getElem_cons_succ, List.getElem_cons_zero]
          refine wpAnyH_take (i := 28) (v := ?_) rfl (by kernel_rfl) (by kernel_rfl) (by kernel_rfl) (fun _ _ _ h => h) (Or.inl ⟨by rfl, ?_⟩) (by assumption) ?_
          rotate_left
          · (intro w hSw; (try dsimp only at hSw); go_simp) <;> with_reducible rfl
          try simp only [Act.put, List.setIfInBounds_toArray, List.set_cons_zero, List.set_cons_succ, List.getElem_toArray, List.getElem_cons_succ, List.getElem_cons_zero]
          refine wpAnyH_take (i := 29) (v := ?_) rfl (by kernel_rfl) (by kernel_rfl) (by kernel_rfl) (fun _ _ _ h => h) (Or.inl ⟨by rfl, ?_⟩) (by assumption) ?_
          rotate_left
          · (intro w hSw; (try dsimp only at hSw); go_simp) <;> with_reducible rfl
          try simp only [Act.put, List.setIfInBounds_toArray, List.set_cons_zero, List.set_cons_succ, List.getElem_toArray, List.getElem_cons_succ, List.getElem_cons_zero]
          refine wpAnyH_ready (rs := [11]) (by kernel_rfl) (by simp) ?_
          refine AllReadyH.cons rfl (fun K hK => ?_) AllReadyH.nil
          try dsimp only [List.getElem_toArray, List.getElem_cons_succ, List.getElem_cons_zero]
          go_simp
          refine hK.out _ _ ?_ (fun hHeld => ?_)
          · (try dsimp only); first | exact ⟨e2, m1, a1, hcy, k2⟩ | exact hHeld | exact ⟨keep_cell hHeld.1 n1, keep_cell hHeld.2.1 n2, keep_cell hHeld.2.2.1 n3, keep_cell hHeld.2.2.2.1 n4, keep_cell hHeld.2.2.2.2 n5⟩
          clear hK K
          try simp only [Act.put, List.setIfInBounds_toArray, List.set_cons_zero, List.set_cons_succ, List.getElem_toArray, List.getElem_cons_succ, List.getElem_cons_zero]
          refine wpAnyH_take (i := 30) (v := ?_) rfl (by kernel_rfl) (by kernel_rfl) (by kernel_rfl) (fun _ _ _ h => h) (Or.inl ⟨by rfl, ?_⟩) (by assumption) ?_
          rotate_left
          · (intro w hSw; (try dsimp only at hSw); go_simp) <;> with_reducible rfl
          try simp only [Act.put, List.setIfInBounds_toArray, List.set_cons_zero, List.set_cons_succ, List.getElem_toArray, List.getElem_cons_succ, List.getElem_cons_zero]
          refine wpAnyH_take (i := 31) (v := ?_) rfl (by kernel_rfl) (by kernel_rfl) (by kernel_rfl) (fun _ _ _ h => h) (Or.inl ⟨by rfl, ?_⟩) (by assumption) ?_
          rotate_left
          · (intro w hSw; (try dsimp only at hSw); go_simp) <;> with_reducible rfl
          try simp only [Act.put, List.setIfInBounds_toArray, List.set_cons_zero, List.set_cons_succ, List.getElem_toArray, List.getElem_cons_succ, List.getElem_cons_zero]
          refine wpAnyH_ready (rs := [32]) (by kernel_rfl) (by simp) ?_
          refine AllReadyH.cons rfl (fun K hK => ?_) AllReadyH.nil
          try dsimp only [List.getElem_toArray, List.getElem_cons_succ, List.getElem_cons_zero]
          go_simp
          refine hK.out _ _ ?_ (fun hHeld => ?_)
          · (try dsimp only); first | exact ⟨e2, m1, a1, hcy, k2⟩ | exact hHeld | exact ⟨keep_cell hHeld.1 n1, keep_cell hHeld.2.1 n2, keep_cell hHeld.2.2.1 n3, keep_cell hHeld.2.2.2.1 n4, keep_cell hHeld.2.2.2.2 n5⟩
          clear hK K
          try simp only [Act.put, List.setIfInBounds_toArray, List.set_cons_zero, List.set_cons_succ, List.getElem_toArray, List.getElem_cons_succ, List.getElem_cons_zero]
          refine wpAnyH_done (by kernel_rfl) ?_ _
          have HC := Lib.hid (show ((wy.setCell ⟨w.heap.size, b, none⟩ (.int .i64 (if u < wrap64 (x2 + mn) then wrap64 (x2 + mn) else u))).drew).ownsRow w.heap.size 2 1 (.slice (some ⟨w.heap.size, 0, none⟩) L.length L.length) L.length (intsRow (stIn L b (stOut L q) (k + 1))) by
            rw [HS.out, mx, ← intsRow_set]
            exact (Ho.out.stored b _).1.drew)
          have HG := Lib.hid (show w4.grownBy ((wy.setCell ⟨w.heap.size, b, none⟩ (.int .i64 (if u < wrap64 (x2 + mn) then wrap64 (x2 + mn) else u))).drew) (some w.heap.size) from gb_drew (gb_trans Hg.out (Ho.out.stored b _).2))
          have hbq : Below w.heap.size w ((wy.setCell ⟨w.heap.size, b, none⟩ (.int .i64 (if u < wrap64 (x2 + mn) then wrap64 (x2 + mn) else u))).drew) := (hb.setCell (Nat.le_refl _) _).drew
          have hbk2 := (Hbk.out.far (p := ⟨w.heap.size, b, none⟩) (fun e => hxne e) (.int .i64 (if u < wrap64 (x2 + mn) then wrap64 (x2 + mn) else u))).drew
          have hcy2 : ((wy.setCell ⟨w.heap.size, b, none⟩ (.int .i64 (if u < wrap64 (x2 + mn) then wrap64 (x2 + mn) else u))).drew).cell? ⟨gy, oy + q, none⟩ = some (.int .i64 b) := keep_cell Hcy.out n4
          clear e1 e2 f1 m1 a1
          go_wp2
          go_roundw
          case rel => exact ⟨k + 1, by omega, by go_num, HC.out, HG.out, hbq, hbk2, hcy2⟩
          case measure => simp [intOf]; omega
        · have hke : k = l.length := by omega
          have HK := Lib.hid hke
          go_wp2
          go_roundw
          case rel => exact ⟨q + 1, by omega, by go_num, by rw [Hsu.out, ← HK.out]; exact Ho.out, Hg.out, hb⟩
          case measure => simp [intOf]; omega
    · have hqe : q = L.length := by omega
      have HQ := Lib.hid hqe
      go_wp2
      go_ret
      exact ⟨_, rfl, by rw [HQ.out] at Ho; exact Ho.out, hb⟩

theorem implEarliestStarts_any (w : World) (L : List Step) (V : Value) (hv : Steps w V L) (hn : L.length ≤ 1048576) :
    Calls Try.prog 37 #[V] w (RetSC w.heap.size 2 1 intsRow (startsF L) w) := implStarts_any w L V hv hn

set_option maxHeartbeats 1600000 in
theorem specEarliestStarts_any (w : World) (L : List Step) (V : Value) (hv : Steps w V L) (hn : L.length ≤ 1048576) :
    Calls Try.prog 36 #[V] w (RetSC w.heap.size 2 1 intsRow (startsF L) w) := by
  have Hv := Lib.hid hv
  clear hv
  cases h1 : isRecipe L
  · have H := Lib.hid (starts_bad h1)
    go_enter Try.func36, Try.ntmps36
    go_wp2_with fail
    refine (specIsRecipe_any w L _ Hv.out hn).mono ?_
    rintro e w2 ⟨rfl, hb2⟩
    rw [h1]
    go_wp2
    go_ret2
    exact RetSC.err H.out rfl hb2
  · have H := Lib.hid (starts_ok h1)
    go_enter Try.func36, Try.ntmps36
    go_wp2_with fail
    refine (specIsRecipe_any w L _ Hv.out hn).mono ?_
    rintro e w2 ⟨rfl, hb2⟩
    rw [h1]
    go_wp2_with fail
    refine (specStarts_any w2 L _ (Hv.out.below hb2) hn h1).mono ?_
    rintro e w3 ⟨y, rfl, ho, hb3⟩
    have b3 := hb2.trans (hb3.mono hb2.size)
    have Ho := Lib.hid ho
    clear ho
    go_wp2
    go_ret2
    exact RetSC.ok H.out Ho.out (by rw [stOut_len]) rfl hb2.size b3

end Go.Proofs.Ytecfkomijaakhaa
